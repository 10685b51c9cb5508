/- The reference's memory: a slice of rows of 512 words, each nil or made; what is said of it, and how stores turn it. -/
import Derived.Test.YtablmoegmmeglaaWalkD
import Derived.OwnWalk
import Derived.Deep.OwnRows
namespace Go.Proofs.Ytablmoegmmeglaa
open Go.RowKit

/-- A row's value: nil, or the block g with room for c. -/
def rv : Option (Nat × Nat) → Value
  | none => .slice none 0 0
  | some (g, c) => .slice (some ⟨g, 0, none⟩) 512 c
def updP (pr : Nat → Option (Nat × Nat)) (k : Nat) (x : Option (Nat × Nat)) : Nat → Option (Nat × Nat) := fun i => if i = k then x else pr i

structure RefI (w : World) (O : Nat → Prop) (R n : Nat) (V : Nat → Int) (S : Nat) (pr : Nat → Option (Nat × Nat)) : Prop where
  n1 : 1 ≤ n
  n64 : n ≤ 64
  fit : ∀ i, 0 ≤ V i ∧ V i ≤ 18446744073709551615
  lt : ∀ k, O k → k < w.heap.size
  oR : O R
  oS : O S
  hR : w.heap[R]? = some (.cells #[.slice (some ⟨S, 0, none⟩) n n] 73 (0, 0))
  hS : w.rowIs S 51 n (fun k => rv (pr k))
  row : ∀ k, k < n → ∀ g c, pr k = some (g, c) → O g ∧ 512 ≤ c ∧ c ≤ maxLen ∧ ∃ F, w.rowIs g 32 c F ∧ ∀ j, j < 512 → F j = .int .u64 (V (512 * k + j))
  zero : ∀ k, k < n → pr k = none → ∀ j, j < 512 → V (512 * k + j) = 0
  inj : ∀ k k', k < n → k' < n → ∀ g c c', pr k = some (g, c) → pr k' = some (g, c') → k = k'
def Ref (w : World) (O : Nat → Prop) (R n : Nat) (V : Nat → Int) : Prop := ∃ S pr, RefI w O R n V S pr
/-- What a call on a reference's memory leaves. -/
def DidR (w : World) (O : Nat → Prop) (R n : Nat) (V : Nat → Int) (r : Value) (e : Ending) (w' : World) : Prop := e = .returned r ∧ ∃ O', Fp O w w' O' ∧ Ref w' O' R n V

theorem row_ty {w : World} {A C T T' k k' : Nat} {f f' : Nat → Value} (h : w.rowIs A T k f) (h' : w.rowIs C T' k' f') (ht : T ≠ T') : A ≠ C := by
  rintro rfl
  obtain ⟨_, a, _⟩ := h
  obtain ⟨_, b, _⟩ := h'
  rw [a] at b
  simp at b
  exact ht b.2

section
variable {w w' : World} {O O' P P' : Nat → Prop} {R n S : Nat} {V : Nat → Int} {pr : Nat → Option (Nat × Nat)}
theorem RefI.kept (h : RefI w O R n V S pr) (hk : ∀ k, O k → w'.heap[k]? = w.heap[k]?) (hO : ∀ k, O k → O' k) (hlt : ∀ k, O' k → k < w'.heap.size) : RefI w' O' R n V S pr :=
  ⟨h.n1, h.n64, h.fit, hlt, hO _ h.oR, hO _ h.oS, (hk _ h.oR).trans h.hR, h.hS.of_block (hk _ h.oS), fun k kn g c e => by
    obtain ⟨a, b, d, F, r1, r2⟩ := h.row k kn g c e
    exact ⟨hO _ a, b, d, F, r1.of_block (hk _ a), r2⟩, h.zero, h.inj⟩
theorem Ref.kept (h : Ref w O R n V) (hk : ∀ k, O k → w'.heap[k]? = w.heap[k]?) (hO : ∀ k, O k → O' k) (hlt : ∀ k, O' k → k < w'.heap.size) : Ref w' O' R n V := by
  obtain ⟨S, pr, h⟩ := h
  exact ⟨S, pr, h.kept hk hO hlt⟩
theorem Ref.lt (h : Ref w O R n V) : ∀ k, O k → k < w.heap.size := by obtain ⟨S, pr, h⟩ := h; exact h.lt
theorem Ref.fit (h : Ref w O R n V) : ∀ i, 0 ≤ V i ∧ V i ≤ 18446744073709551615 := by obtain ⟨S, pr, h⟩ := h; exact h.fit
theorem Ref.n64 (h : Ref w O R n V) : n ≤ 64 := by obtain ⟨S, pr, h⟩ := h; exact h.n64
theorem Ref.n1 (h : Ref w O R n V) : 1 ≤ n := by obtain ⟨S, pr, h⟩ := h; exact h.n1
theorem Ref.apart (h : Ref w O R n V) (hf : Fp P w w' P') (hd : ∀ k, O k → ¬ P k) : Ref w' O R n V :=
  h.kept (fun k hk => hf.keep k (h.lt k hk) (hd k hk)) (fun _ hk => hk) (fun k hk => Nat.lt_of_lt_of_le (h.lt k hk) hf.size)
theorem RefI.grown (h : RefI w O R n V S pr) (hg : w.grownBy w' none) : RefI w' O R n V S pr :=
  h.kept (fun k hk => hg.block k (h.lt k hk) (by simp)) (fun _ hk => hk) (fun k hk => Nat.lt_of_lt_of_le (h.lt k hk) hg.size)
theorem Ref.grown (h : Ref w O R n V) (hg : w.grownBy w' none) : Ref w' O R n V := by obtain ⟨S, pr, h⟩ := h; exact ⟨S, pr, h.grown hg⟩
theorem RefI.cellR (h : RefI w O R n V S pr) : w.cell? ⟨R, 0, none⟩ = some (.slice (some ⟨S, 0, none⟩) n n) := by simp [World.cell?, h.hR]
theorem RefI.Rlt (h : RefI w O R n V S pr) : R < w.heap.size := lt_of_block h.hR
theorem RefI.R_ne {A T k : Nat} {f : Nat → Value} (h : RefI w O R n V S pr) (hr : w.rowIs A T k f) (ht : T ≠ 73) : R ≠ A := by
  rintro rfl
  obtain ⟨_, a, _⟩ := hr
  rw [h.hR] at a
  simp at a
  exact ht a.2.symm

/-- A store into a row that is there. -/
theorem RefI.store (h : RefI w O R n V S pr) (x : Nat) (hx : x / 512 < n) {g c : Nat} (e : pr (x / 512) = some (g, c)) (v : Int) (hv : 0 ≤ v ∧ v ≤ 18446744073709551615) :
    RefI (w.setCell ⟨g, x % 512, none⟩ (.int .u64 v)) O R n (updV V x v) S pr := by
  obtain ⟨og, h512, _, F, hr, hF⟩ := h.row _ hx g c e
  refine ⟨h.n1, h.n64, fun i => ?_, fun k hk => by simpa using h.lt k hk, h.oR, h.oS, (heap_setCell_other w ⟨g, x % 512, none⟩ R _ (h.R_ne hr (by omega))).trans h.hR, h.hS.of_block (heap_setCell_other w ⟨g, x % 512, none⟩ S _ (row_ty h.hS hr (by omega))), fun k kn g' c' e' => ?_, fun k kn e' j hj => ?_, h.inj⟩
  · unfold updV
    split
    · exact hv
    · exact h.fit i
  · obtain ⟨og', b', d', F', hr', hF'⟩ := h.row k kn g' c' e'
    by_cases hg : g' = g
    · subst hg
      have hk := h.inj _ _ kn hx g' c' c e' e
      subst hk
      refine ⟨og', b', d', _, hr'.set (x % 512) _, fun j hj => ?_⟩
      show (if j = x % 512 then _ else F' j) = _
      unfold updV
      by_cases hjx : j = x % 512
      · rw [if_pos hjx, if_pos (by omega)]
      · rw [if_neg hjx, if_neg (by omega)]
        exact hF' j hj
    · refine ⟨og', b', d', F', hr'.setOther (a := ⟨g, x % 512, none⟩) hg _, fun j hj => ?_⟩
      unfold updV
      rw [if_neg]
      · exact hF' j hj
      · rintro rfl
        have : (512 * k + j) / 512 = k := by omega
        rw [this, e'] at e
        cases e
        exact hg rfl
  · unfold updV
    rw [if_neg]
    · exact h.zero k kn e' j hj
    · rintro rfl
      have : (512 * k + j) / 512 = k := by omega
      rw [this, e'] at e
      cases e

/-- A new row laid in. -/
theorem RefI.put (h : RefI w O R n V S pr) (k : Nat) (hk : k < n) {g c : Nat} {F : Nat → Value} (hr : w.rowIs g 32 c F) (hg : ¬ O g) (h512 : 512 ≤ c) (hm : c ≤ maxLen) (f : Nat → Int) (hF : ∀ j, j < 512 → F j = .int .u64 (f j)) (hf : ∀ j, 0 ≤ f j ∧ f j ≤ 18446744073709551615) :
    RefI (w.setCell ⟨S, k, none⟩ (.slice (some ⟨g, 0, none⟩) 512 c)) (fun i => O i ∨ i = g) R n (putF V k f) S (updP pr k (some (g, c))) := by
  have keep : ∀ i, i ≠ S → (w.setCell ⟨S, k, none⟩ (.slice (some ⟨g, 0, none⟩) 512 c)).heap[i]? = w.heap[i]? := fun i hi => heap_setCell_other w ⟨S, k, none⟩ i _ hi
  refine ⟨h.n1, h.n64, fun i => ?_, fun i hi => ?_, .inl h.oR, .inl h.oS, (keep R (h.R_ne h.hS (by omega))).trans h.hR, (h.hS.set k _).congr fun j hj => ?_, fun i hi g' c' e' => ?_, fun i hi e' j hj => ?_, fun i i' hi hi' g' c' c'' e' e'' => ?_⟩
  · unfold putF
    split
    · exact hf _
    · exact h.fit i
  · have hs : (w.setCell ⟨S, k, none⟩ (.slice (some ⟨g, 0, none⟩) 512 c)).heap.size = w.heap.size := by simp
    rw [hs]
    rcases hi with hi | rfl
    · exact h.lt i hi
    · exact hr.lt
  · unfold updP
    split <;> rfl
  · unfold updP at e'
    by_cases hik : i = k
    · subst hik
      rw [if_pos rfl] at e'
      cases e'
      refine ⟨.inr rfl, h512, hm, F, hr.of_block (keep g (row_ty hr h.hS (by omega))), fun j hj => ?_⟩
      unfold putF
      rw [if_pos (by omega), show (512 * i + j) % 512 = j from by omega]
      exact hF j hj
    · rw [if_neg hik] at e'
      obtain ⟨og', b', d', F', hr', hF'⟩ := h.row i hi g' c' e'
      refine ⟨.inl og', b', d', F', hr'.of_block (keep g' (row_ty hr' h.hS (by omega))), fun j hj => ?_⟩
      unfold putF
      rw [if_neg (by omega)]
      exact hF' j hj
  · unfold updP at e'
    by_cases hik : i = k
    · rw [if_pos hik] at e'; cases e'
    · rw [if_neg hik] at e'
      unfold putF
      rw [if_neg (by omega)]
      exact h.zero i hi e' j hj
  · unfold updP at e' e''
    by_cases hik : i = k
    · rw [if_pos hik] at e'
      cases e'
      by_cases hik' : i' = k
      · rw [hik, hik']
      · rw [if_neg hik'] at e''
        exact absurd (h.row i' hi' _ _ e'').1 hg
    · rw [if_neg hik] at e'
      by_cases hik' : i' = k
      · rw [if_pos hik'] at e''
        cases e''
        exact absurd (h.row i hi _ _ e').1 hg
      · rw [if_neg hik'] at e''
        exact h.inj i i' hi hi' g' c' c'' e' e''

/-- A row struck. -/
theorem RefI.drop (h : RefI w O R n V S pr) (k : Nat) :
    RefI (w.setCell ⟨S, k, none⟩ (.slice none 0 0)) O R n (putF V k (fun _ => 0)) S (updP pr k none) := by
  have keep : ∀ i, i ≠ S → (w.setCell ⟨S, k, none⟩ (.slice none 0 0)).heap[i]? = w.heap[i]? := fun i hi => heap_setCell_other w ⟨S, k, none⟩ i _ hi
  refine ⟨h.n1, h.n64, fun i => ?_, fun i hi => by simpa using h.lt i hi, h.oR, h.oS, (keep R (h.R_ne h.hS (by omega))).trans h.hR, (h.hS.set k _).congr fun j hj => ?_, fun i hi g' c' e' => ?_, fun i hi e' j hj => ?_, fun i i' hi hi' g' c' c'' e' e'' => ?_⟩
  · unfold putF
    split
    · exact ⟨by show (0 : Int) ≤ 0; omega, by show (0 : Int) ≤ 18446744073709551615; omega⟩
    · exact h.fit i
  · unfold updP
    split <;> rfl
  · unfold updP at e'
    by_cases hik : i = k
    · rw [if_pos hik] at e'; cases e'
    · rw [if_neg hik] at e'
      obtain ⟨og', b', d', F', hr', hF'⟩ := h.row i hi g' c' e'
      refine ⟨og', b', d', F', hr'.of_block (keep g' (row_ty hr' h.hS (by omega))), fun j hj => ?_⟩
      unfold putF
      rw [if_neg (by omega)]
      exact hF' j hj
  · unfold updP at e'
    unfold putF
    by_cases hik : i = k
    · rw [if_pos (by omega)]
    · rw [if_neg hik] at e'
      rw [if_neg (by omega)]
      exact h.zero i hi e' j hj
  · unfold updP at e' e''
    split at e'
    · cases e'
    · split at e''
      · cases e''
      · exact h.inj i i' hi hi' g' c' c'' e' e''
end
end Go.Proofs.Ytablmoegmmeglaa
