/- LockTurns, the plain law: who waits, in which order, and whose ticket is served. -/
import Derived.Test.YtablmoegmmeglaaLock
namespace Go.Proofs.Ytablmoegmmeglaa

theorem nodup_le : ∀ (N : Nat) (L : List Nat), L.Nodup → (∀ c ∈ L, c < N) → L.length ≤ N
  | 0, L, _, h => by
    cases L with
    | nil => exact Nat.le_refl _
    | cons a l => exact absurd (h a (by simp)) (by omega)
  | N + 1, L, hn, h => by
    by_cases hN : N ∈ L
    · have h1 := nodup_le N (L.erase N) (hn.erase N) (fun c hc => by
        have h2 := h c (List.mem_of_mem_erase hc)
        have h3 : c ≠ N := fun e => hn.not_mem_erase (e ▸ hc)
        omega)
      have h4 := List.length_erase_of_mem hN
      omega
    · have := nodup_le N L hn (fun c hc => by
        have h2 := h c hc
        have h3 : c ≠ N := fun e => hN (e ▸ hc)
        omega)
      omega

/-- V: the memory; d: what each core does (0: nothing, 1: waits, 2: is served); tk: its ticket; L: those that have one, in the order in which they took it. -/
structure Inv (V d tk : Nat → Int) (L : List Nat) : Prop where
  n : L.Nodup
  r : ∀ c ∈ L, 1 ≤ c ∧ c ≤ 8
  z : ∀ c, 1 ≤ c → c ≤ 8 → c ∉ L → d c = 0
  q : ∀ (i c : Nat), L[i]? = some c → tk c = wrapU (V 1 + i) ∧ (d c = 1 ∨ (d c = 2 ∧ i = 0))
  v : V 0 = wrapU (V 1 + L.length)
  f : 0 ≤ V 1 ∧ V 1 ≤ 18446744073709551615

theorem wrapU_eq (x : Int) : wrapU x = x % 18446744073709551616 := by unfold wrapU; rw [IntKind.wrap_u64]
section
variable {V d tk : Nat → Int} {L : List Nat}
theorem Inv.len (h : Inv V d tk L) : L.length ≤ 8 := by
  have := nodup_le 9 L h.n (fun c hc => by have := h.r c hc; omega)
  by_cases h9 : L.length = 9
  · -- 0 is not among them
    have := nodup_le 8 (L.map (· - 1)) (by
      have hn := h.n
      have hr := h.r
      clear h9 this h
      induction L with
      | nil => simp
      | cons a l ih =>
        simp only [List.map_cons, List.nodup_cons] at hn ⊢
        refine ⟨fun hm => ?_, ih hn.2 (fun c hc => hr c (by simp [hc]))⟩
        obtain ⟨b, hb, e⟩ := List.mem_map.1 hm
        have h1 := hr a (by simp)
        have h2 := hr b (by simp [hb])
        have : b = a := by omega
        subst this
        exact hn.1 hb) (fun c hc => by
      obtain ⟨b, hb, rfl⟩ := List.mem_map.1 hc
      have := h.r b hb
      omega)
    rw [List.length_map] at this
    omega
  · omega
theorem Inv.mem (h : Inv V d tk L) {c : Nat} (h1 : 1 ≤ c) (h8 : c ≤ 8) (hd : d c ≠ 0) : ∃ i, L[i]? = some c ∧ i < L.length := by
  have hm : c ∈ L := Classical.byContradiction fun hn => hd (h.z c h1 h8 hn)
  obtain ⟨i, hi, e⟩ := List.getElem_of_mem hm
  exact ⟨i, by rw [List.getElem?_eq_getElem hi, e], hi⟩
theorem Inv.tri (h : Inv V d tk L) {c : Nat} (h1 : 1 ≤ c) (h8 : c ≤ 8) : d c = 0 ∨ d c = 1 ∨ d c = 2 := by
  by_cases hc : c ∈ L
  · obtain ⟨i, hi, e⟩ := List.getElem_of_mem hc
    have := (h.q i c (by rw [List.getElem?_eq_getElem hi, e])).2
    omega
  · exact .inl (h.z c h1 h8 hc)

theorem Inv.take (h : Inv V d tk L) {c : Nat} (h1 : 1 ≤ c) (h8 : c ≤ 8) (hd : d c = 0) : Inv (vAdd 1 V 0 1) (updV d c 1) (updV tk c (V 0)) (L ++ [c]) := by
  have hV : vAdd 1 V 0 1 = updV V 0 (wrapU (V 0 + 1)) := by unfold vAdd vWrite; rw [if_pos (by omega)]
  have hc : c ∉ L := fun hc => by
    obtain ⟨i, hi, e⟩ := List.getElem_of_mem hc
    have := (h.q i c (by rw [List.getElem?_eq_getElem hi, e])).2
    omega
  have e1 : vAdd 1 V 0 1 1 = V 1 := by rw [hV]; exact if_neg (by omega)
  have e0 : vAdd 1 V 0 1 0 = wrapU (V 0 + 1) := by rw [hV]; exact if_pos rfl
  refine ⟨?_, fun k hk => ?_, fun k k1 k8 hk => ?_, fun i k hi => ?_, ?_, by rw [e1]; exact h.f⟩
  · refine List.nodup_append.2 ⟨h.n, by simp, fun a ha b hb e => ?_⟩
    rw [List.mem_singleton] at hb
    subst hb
    subst e
    exact hc ha
  · rcases List.mem_append.1 hk with hk | hk
    · exact h.r k hk
    · rw [List.mem_singleton] at hk; subst hk; exact ⟨h1, h8⟩
  · have k2 : k ≠ c := fun e => hk (List.mem_append.2 (.inr (by simp [e])))
    show updV d c 1 k = 0
    unfold updV
    rw [if_neg k2]
    exact h.z k k1 k8 (fun hm => hk (List.mem_append.2 (.inl hm)))
  · rw [e1]
    rcases Nat.lt_or_ge i L.length with hl | hl
    · rw [List.getElem?_append_left hl] at hi
      have hk : k ≠ c := fun e => hc (e ▸ List.mem_of_getElem? hi)
      unfold updV
      rw [if_neg hk, if_neg hk]
      exact h.q i k hi
    · rw [List.getElem?_append_right hl] at hi
      have hi0 : i - L.length = 0 := by
        by_cases e : i - L.length = 0
        · exact e
        · rw [List.getElem?_eq_none (by simp; omega)] at hi; cases hi
      rw [hi0] at hi
      simp at hi
      subst hi
      have hiL : i = L.length := by omega
      subst hiL
      unfold updV
      rw [if_pos rfl, if_pos rfl]
      exact ⟨h.v, .inl rfl⟩
  · rw [e0, e1, h.v, List.length_append, List.length_singleton, wrapU_eq, wrapU_eq, wrapU_eq]
    omega
theorem Inv.serve (h : Inv V d tk L) {c : Nat} (hc : L[0]? = some c) : Inv V (updV d c 2) tk L := by
  refine ⟨h.n, h.r, fun k k1 k8 hk => ?_, fun i k hi => ?_, h.v, h.f⟩
  · unfold updV
    rw [if_neg (fun (e : k = c) => hk (e ▸ List.mem_of_getElem? hc))]
    exact h.z k k1 k8 hk
  · refine ⟨(h.q i k hi).1, ?_⟩
    unfold updV
    by_cases e : k = c
    · subst e
      rw [if_pos rfl]
      have h0 : 0 < L.length := by
        rcases Nat.eq_zero_or_pos L.length with e | e
        · rw [List.getElem?_eq_none (by omega)] at hc; cases hc
        · exact e
      have hiL : i < L.length := by
        rcases Nat.lt_or_ge i L.length with e | e
        · exact e
        · rw [List.getElem?_eq_none e] at hi; cases hi
      rw [List.getElem?_eq_getElem h0] at hc
      rw [List.getElem?_eq_getElem hiL] at hi
      have := (List.getElem_inj h.n).1 ((Option.some.inj hi).trans (Option.some.inj hc).symm)
      exact .inr ⟨rfl, this⟩
    · rw [if_neg e]
      exact (h.q i k hi).2
theorem Inv.served (h : Inv V d tk L) {c : Nat} {i : Nat} (hi : L[i]? = some c) (hl : i < L.length) : (V 1 == tk c) = decide (i = 0) := by
  have h8 := h.len
  have hf := h.f
  rw [(h.q i c hi).1, wrapU_eq]
  by_cases e : i = 0
  · subst e
    rw [decide_eq_true rfl, beq_iff_eq]
    omega
  · rw [decide_eq_false e]
    refine beq_eq_false_iff_ne.2 ?_
    omega
theorem Inv.pass (h : Inv V d tk L) {c : Nat} (h1 : 1 ≤ c) (h8 : c ≤ 8) (hd : d c = 2) : ∃ tl, L = c :: tl ∧ Inv (vReach 1 V 0 1 (wrapU (V 1 + 1)) 0 0) (updV d c 0) tk tl := by
  obtain ⟨i, hi, _⟩ := h.mem h1 h8 (by omega)
  have hi0 : i = 0 := by
    rcases (h.q i c hi).2 with e | e
    · omega
    · exact e.2
  subst hi0
  cases L with
  | nil => cases hi
  | cons a tl =>
    simp at hi
    subst hi
    have hV : vReach 1 V 0 1 (wrapU (V 1 + 1)) 0 0 = updV V 1 (wrapU (V 1 + 1)) := by unfold vReach vWrite; rw [if_pos rfl, if_pos (by omega)]
    have e1 : updV V 1 (wrapU (V 1 + 1)) 1 = wrapU (V 1 + 1) := if_pos rfl
    have e0 : updV V 1 (wrapU (V 1 + 1)) 0 = V 0 := if_neg (by omega)
    have hn := h.n
    rw [List.nodup_cons] at hn
    refine ⟨tl, rfl, ?_⟩
    rw [hV]
    refine ⟨hn.2, fun k hk => h.r k (by simp [hk]), fun k k1 k8 hk => ?_, fun i k hi => ?_, ?_, by rw [e1]; exact wrapU_fit _⟩
    · unfold updV
      by_cases e : k = a
      · rw [if_pos e]
      · rw [if_neg e]
        exact h.z k k1 k8 (by simp [e, hk])
    · rw [e1]
      have hk := List.mem_of_getElem? hi
      have hne : k ≠ a := fun e => hn.1 (e ▸ hk)
      obtain ⟨q1, q2⟩ := h.q (i + 1) k (by simpa using hi)
      unfold updV
      rw [if_neg hne]
      refine ⟨?_, ?_⟩
      · rw [q1, wrapU_eq, wrapU_eq, wrapU_eq]
        omega
      · rcases q2 with e | e
        · exact .inl e
        · omega
    · rw [e0, e1, h.v, wrapU_eq, wrapU_eq, wrapU_eq, List.length_cons]
      omega
theorem Inv.waits (h : Inv V d tk L) : wrapU (V 0 - V 1) = L.length := by
  have := h.len
  rw [h.v, wrapU_eq, wrapU_eq]
  have := h.f
  omega
/-- How many of the first j cores are served. -/
def held (d : Nat → Int) : Nat → Nat
  | 0 => 0
  | j + 1 => held d j + (if d (j + 1) = 2 then 1 else 0)
theorem Inv.one (h : Inv V d tk L) : ∀ j, j ≤ 8 → held d j ≤ 1 ∧ (held d j = 1 → ∃ k, 1 ≤ k ∧ k ≤ j ∧ d k = 2)
  | 0, _ => ⟨by unfold held; omega, fun e => by unfold held at e; omega⟩
  | j + 1, hj => by
    obtain ⟨i1, i2⟩ := h.one j (by omega)
    unfold held
    by_cases e : d (j + 1) = 2
    · rw [if_pos e]
      have h0 : held d j = 0 := by
        rcases Nat.lt_or_ge (held d j) 1 with h0 | h0
        · omega
        · obtain ⟨k, k1, k2, hk⟩ := i2 (by omega)
          obtain ⟨a, ha, _⟩ := h.mem (c := k) k1 (by omega) (by omega)
          obtain ⟨b, hb, _⟩ := h.mem (c := j + 1) (by omega) hj (by omega)
          have qa := (h.q a k ha).2
          have qb := (h.q b (j + 1) hb).2
          have : a = 0 := by omega
          have : b = 0 := by omega
          subst a b
          rw [ha] at hb
          injection hb with hb
          omega
      exact ⟨by omega, fun _ => ⟨j + 1, by omega, by omega, e⟩⟩
    · rw [if_neg e]
      refine ⟨by omega, fun h1 => ?_⟩
      obtain ⟨k, k1, k2, hk⟩ := i2 (by omega)
      exact ⟨k, k1, by omega, hk⟩
end
theorem Inv.start (v : Int) (hv : 0 ≤ v ∧ v ≤ 18446744073709551615) {V : Nat → Int} (h0 : V 0 = v) (h1 : V 1 = v) : Inv V (fun _ => 0) (fun _ => 0) [] :=
  ⟨by simp, fun _ h => (by cases h), fun _ _ _ _ => rfl, fun _ _ h => (by simp at h), (by rw [h0, h1, wrapU_eq]; show v = (v + (0 : Int)) % _; omega), by rw [h1]; exact hv⟩
end Go.Proofs.Ytablmoegmmeglaa
