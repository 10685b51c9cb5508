/- A queue: a slice of the call's own, appended to at its end and cut at its head. -/
import Derived.Test.YtablmoegmmeglaaTurn
import Derived.ArgAppend
namespace Go.Proofs.Ytablmoegmmeglaa
open Go.RowKit

/-- v is a queue that holds L, behind block base. -/
def Q (w : World) (base : Nat) (v : Value) (L : List Nat) : Prop :=
  ∃ ao cap, v = .slice ao L.length cap ∧ L.length ≤ cap ∧ cap ≤ maxLen ∧
    ((ao = none ∧ cap = 0) ∨ ∃ g off n F, ao = some ⟨g, off, none⟩ ∧ base ≤ g ∧ w.rowIs g 3 n F ∧ off + cap ≤ n ∧ ∀ (i c : Nat), L[i]? = some c → F (off + i) = .int .i64 c)
section
variable {w w' : World} {base : Nat} {v : Value} {L : List Nat}
theorem Q.nil : Q w base (.slice none 0 0) [] := ⟨none, 0, rfl, Nat.le_refl _, Nat.zero_le _, .inl ⟨rfl, rfl⟩⟩
theorem Q.lt (h : Q w base v L) : ∀ g, v.ownBlock = some g → base ≤ g ∧ g < w.heap.size := by
  obtain ⟨ao, cap, rfl, _, _, h | ⟨g, off, n, F, rfl, hb, hr, _⟩⟩ := h
  · obtain ⟨rfl, _⟩ := h
    intro g e
    cases e
  · intro g' e
    cases e
    exact ⟨hb, hr.lt⟩
theorem Q.of_block (h : Q w base v L) (hk : ∀ g, v.ownBlock = some g → w'.heap[g]? = w.heap[g]?) : Q w' base v L := by
  obtain ⟨ao, cap, rfl, h1, h2, h | ⟨g, off, n, F, rfl, hb, hr, h3⟩⟩ := h
  · exact ⟨ao, cap, rfl, h1, h2, .inl h⟩
  · exact ⟨_, cap, rfl, h1, h2, .inr ⟨g, off, n, F, rfl, hb, hr.of_block (hk g rfl), h3⟩⟩
theorem Q.of_owns {c : Nat} (h : w'.ownsRow base 3 1 v (L.length + 1) ((L ++ [c]).map (fun c : Nat => Value.int .i64 c))) : Q w' base v (L ++ [c]) := by
  obtain ⟨_, h | ⟨g, cap, cur, rfl, hb, hh, hn, hm, hsz, hxs⟩⟩ := h
  · omega
  · refine ⟨_, cap, by rw [List.length_append, List.length_singleton], by rw [List.length_append, List.length_singleton]; exact hn, hm, .inr ⟨g, 0, cap, fun j => cur.getD j undef, rfl, hb, ⟨cur, hh, by omega, fun i hi => ?_⟩, by omega, fun i c' hi => ?_⟩⟩
    · have : i < cur.size := by omega
      simp [Array.getD, this]
    · have hi' : ((L ++ [c]).map (fun c : Nat => Value.int .i64 c))[i]? = some (.int .i64 c') := by rw [List.getElem?_map, hi]; rfl
      rw [← hxs, List.getElem?_take] at hi'
      split at hi'
      · rw [Array.getElem?_toList] at hi'
        have hlt : i < cur.size := by
          rcases Nat.lt_or_ge i cur.size with e | e
          · exact e
          · rw [Array.getElem?_eq_none e] at hi'; cases hi'
        rw [Array.getElem?_eq_getElem hlt] at hi'
        show cur.getD (0 + i) undef = _
        rw [Nat.zero_add]
        simp only [Array.getD, hlt, dif_pos]
        exact Option.some.inj hi'
      · cases hi'

theorem info3' : (Try.prog.info? 3).map (fun i => (i.zero, i.size, i.bytes)) = some (some (.int .i64 0), 1, 8) := by kernel_rfl

theorem wpList_queue {ops : Array Oper} {rest : List Oper} {o : Oper} {a : Act} {K : Exit → Act → World → Prop} (hg : o.guard = none) (s x : Operand)
    (hop : o.op = Op.call { callee := Callee.builtin Builtin.append, args := #[s, x], argTypes := #[53, 53] }) (hs : a.eval s = v) (hQ : Q w base v L) (hlen : L.length ≤ 8) (hbase : base ≤ w.heap.size)
    (ad : Addr) (m : Nat) (c : Nat) (hx : a.eval x = .slice (some ad) 1 m) (hc : w.cell? (ad.add 0) = some (.int .i64 c))
    (hK : ∀ v' w', Q w' base v' (L ++ [c]) → w.grownBy w' v.ownBlock → (∀ g, v'.ownBlock = some g → v.ownBlock = some g ∨ w.heap.size ≤ g) → wpList Try.prog ops K rest (a.put o.dst v') w') :
    wpList Try.prog ops K (o :: rest) a w := by
  obtain ⟨i0, hi, hz0, hz1, hz2⟩ := info_parts info3'
  have hnews : ∀ j u, [Value.int .i64 c][j]? = some u → w.cell? (ad.add j) = some u := fun j u hu => by
    cases j with
    | zero => simp at hu; rw [hc, hu]
    | succ j => simp at hu
  have hone : ∀ u ∈ [Value.int .i64 (c : Int)], u.oneCell' = true := fun u hu => by simp at hu; subst hu; rfl
  obtain ⟨ao, cap, rfl, h1, h2, h | ⟨g, off, n, F, rfl, hb, hr, h3, h4⟩⟩ := hQ
  · obtain ⟨rfl, rfl⟩ := h
    have hL : L = [] := List.eq_nil_of_length_eq_zero (by omega)
    subst hL
    refine wpList_append_grows w hg s x 53 hop 3 i0 (.int .i64 0) 1 8 Try.underlying53 hi hz0 hz1 hz2 rfl (by decide) none 0 0 [] hs (fun _ => ⟨rfl, rfl⟩) rfl (fun b e => by cases e) ad 1 m [.int .i64 c] hx rfl hnews hone (by omega) (by unfold maxLen; omega) (by omega) ?_
    intro v' w' hown hgrow
    have hown' : w'.ownsRow base 3 1 v' (([] : List Nat).length + 1) ((([] : List Nat) ++ [c]).map (fun c : Nat => Value.int .i64 c)) := by
      obtain ⟨q1, q2 | ⟨g, cap, cur, q2, q3, q4⟩⟩ := hown
      · exact absurd q2.2 (by omega)
      · exact ⟨q1, .inr ⟨g, cap, cur, q2, Nat.le_trans hbase q3, q4⟩⟩
    exact hK v' w' (Q.of_owns hown') ⟨hgrow.os, hgrow.tape, hgrow.output, hgrow.size, fun k hk _ => hgrow.block k hk (by simp)⟩ (fun g e => .inr (hown.lt g e).1)
  · have hcell : ∀ (i c : Nat), L[i]? = some c → w.cell? ⟨g, off + i, none⟩ = some (.int .i64 c) := fun i c hi => by
      have hlt : i < L.length := by
        rcases Nat.lt_or_ge i L.length with e | e
        · exact e
        · rw [List.getElem?_eq_none e] at hi; cases hi
      rw [hr.cell (i := off + i) (by omega), h4 i c hi]
    refine wpList_append_arg w hg s x 53 hop 3 i0 (.int .i64 0) 1 8 Try.underlying53 hi hz0 hz1 hz2 rfl (by decide) g off L.length cap (L.map (fun c : Nat => Value.int .i64 c)) hs (by simp) (fun j u hu => ?_) ad 1 m [.int .i64 c] hx rfl hnews hone (fun hroom j hj => ?_) (by unfold maxLen; omega) (by omega) (fun hroom => ?_) (fun hfull v' w' hown hgrow => ?_)
    · rw [List.getElem?_map] at hu
      cases hL : L[j]? with
      | none => rw [hL] at hu; cases hu
      | some c' =>
        rw [hL] at hu
        cases hu
        exact hcell j c' hL
    · have hj0 : j = 0 := by simp at hj; exact hj
      subst hj0
      rw [hr.cell (i := off + L.length * 1 + 0) (by omega)]
      exact ⟨rfl, hr.frozen _⟩
    · have e : w.setCells g (off + L.length * 1) [Value.int .i64 c] = w.setCell ⟨g, off + L.length, none⟩ (.int .i64 c) := by
        rw [Nat.mul_one]; rfl
      rw [e]
      refine hK _ _ ⟨_, cap, by rw [List.length_append, List.length_singleton], by rw [List.length_append, List.length_singleton]; exact hroom, h2, .inr ⟨g, off, n, _, rfl, hb, hr.set (off + L.length) (.int .i64 c), h3, fun i c' hi' => ?_⟩⟩ ⟨rfl, rfl, rfl, by simp, fun k _ hk => heap_setCell_other w ⟨g, off + L.length, none⟩ k _ (fun e => hk (by rw [e]; rfl))⟩ (fun g' e => .inl e)
      rcases Nat.lt_or_ge i L.length with hl | hl
      · rw [List.getElem?_append_left hl] at hi'
        show (if off + i = off + L.length then _ else F (off + i)) = _
        rw [if_neg (by omega)]
        exact h4 i c' hi'
      · rw [List.getElem?_append_right hl] at hi'
        have hi0 : i - L.length = 0 := by
          by_cases e : i - L.length = 0
          · exact e
          · rw [List.getElem?_eq_none (by simp; omega)] at hi'; cases hi'
        rw [hi0] at hi'
        simp at hi'
        subst hi'
        show (if off + i = off + L.length then _ else F (off + i)) = _
        rw [if_pos (by omega)]
    · have hown' : w'.ownsRow base 3 1 v' (L.length + 1) ((L ++ [c]).map (fun c : Nat => Value.int .i64 c)) := by
        obtain ⟨q1, q2 | ⟨g, cap, cur, q2, q3, q4⟩⟩ := hown
        · exact absurd q2.2 (by omega)
        · refine ⟨by simp, .inr ⟨g, cap, cur, q2, Nat.le_trans hbase q3, q4.1, q4.2.1, q4.2.2.1, q4.2.2.2.1, ?_⟩⟩
          rw [q4.2.2.2.2]
          simp
      exact hK v' w' (Q.of_owns hown') ⟨hgrow.os, hgrow.tape, hgrow.output, hgrow.size, fun k hk _ => hgrow.block k hk (by simp)⟩ (fun g e => .inr (hown.lt g e).1)
end
end Go.Proofs.Ytablmoegmmeglaa
