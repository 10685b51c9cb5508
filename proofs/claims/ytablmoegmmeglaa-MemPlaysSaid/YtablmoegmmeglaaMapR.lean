/- A range over the map from ints to pointers. -/
import Derived.Test.YtablmoegmmeglaaMap
namespace Go.Proofs.Ytablmoegmmeglaa
open Go.RowKit Go.Maps

/-- Block r is a range over the map in block b; left says which keys are still to come. -/
def PRange (w : World) (b r : Nat) (pt : Int → Option Nat) (left : Int → Bool) : Prop :=
  ∃ D lf cnt, w.ranges Try.prog 3 R0 b r 64 D lf cnt ∧ PD D pt ∧ ∀ k : Int, lf (.int .i64 k) = left k
section
variable {w w' : World} {b r : Nat} {pt : Int → Option Nat} {left : Int → Bool}
theorem PRange.kept {row : Option Nat} (h : PRange w b r pt left) (hg : w.grownBy w' row) (hb : some b ≠ row) (hr : some r ≠ row) : PRange w' b r pt left := by
  obtain ⟨D, lf, cnt, h1, h2, h3⟩ := h
  exact ⟨D, lf, cnt, h1.kept hg hb hr, h2, h3⟩
theorem PRange.left_kept {row : Option Nat} (h : PRange w b r pt left) (hg : w.grownBy w' row) (hb : some b ≠ row) (hr : some r ≠ row) : w'.rangeLeft b r = w.rangeLeft b r := by
  obtain ⟨D, lf, cnt, h1, h2, h3⟩ := h
  rw [(h1.kept hg hb hr).left_eq, h1.left_eq]
theorem PRange.ne (h : PRange w b r pt left) : r ≠ b := by obtain ⟨D, lf, cnt, h1, _⟩ := h; exact h1.ne
theorem PRange.lt (h : PRange w b r pt left) : r < w.heap.size := by obtain ⟨D, lf, cnt, h1, _⟩ := h; exact h1.lt

variable {ops : Array Oper} {rest : List Oper} {o : Oper} {a : Act} {Q : Exit → Act → World → Prop}
theorem wpList_pmap_range (hg : o.guard = none) (m : Operand) (hop : o.op = Op.range 68 m) (hm : a.eval m = .map (some b)) (h : PMap w b pt)
    (hK : ∀ w', PRange w' b w.heap.size pt (fun k => (pt k).isSome) → w.grownBy w' none → w'.heap.size = w.heap.size + 1 → wpList Try.prog ops Q rest (a.put o.dst (.pointer (some ⟨w.heap.size, 0, none⟩))) w') :
    wpList Try.prog ops Q (o :: rest) a w := by
  obtain ⟨D, h1, h2⟩ := h
  refine wpList_range_own w hg m 68 hop 3 74 law3 Try.underlying68 R0 b 64 D hm h1 fun w' r1 r2 r3 => hK w' ⟨D, _, _, r1, h2, fun k => ?_⟩ r2 r3
  cases e : pt k with
  | none => show _ = (pt k).isSome; rw [e]; exact h2.off e
  | some g => show _ = (pt k).isSome; rw [e]; exact h2.there e
theorem wpList_pmap_next (hg : o.guard = none) (it : Operand) (hop : o.op = Op.next it false) (hit : a.eval it = .pointer (some ⟨r, 0, none⟩)) (h : PRange w b r pt left)
    (hDone : (∀ k : Int, left k = false) → wpList Try.prog ops Q rest (a.put o.dst (.tuple #[.bool false])) w)
    (hMore : ∀ (k g : Nat) (w' : World), pt k = some g → left k = true → PRange w' b r pt (fun j => left j && !(j == (k : Int))) → w'.rangeLeft b r < w.rangeLeft b r → w.grownBy w' (some r) → w'.heap.size = w.heap.size →
      (Instr.entry (.pointer (some ⟨r, 0, none⟩))).run Try.prog w' = .ok (.tuple #[.int .i64 k, .pointer (some ⟨g, 0, none⟩)]) w' → wpList Try.prog ops Q rest (a.put o.dst (.tuple #[.bool true, .int .i64 k, .pointer (some ⟨g, 0, none⟩)])) w') :
    wpList Try.prog ops Q (o :: rest) a w := by
  obtain ⟨D, lf, cnt, h1, h2, h3⟩ := h
  refine wpList_next_ranges w hg it hop 3 law3 R0 (fun x : Int => .int .i64 x) (fun v : Value => v) (fun key kl hk => ?_) (fun v y _ => ⟨v, rfl⟩) b r 64 D lf cnt hit h1 (fun _ hl => hDone fun k => by rw [← h3]; exact hl _) fun x c kl y w' cnt' hkey hlk hv hat hrg hlt hgr hsz hen => ?_
  · obtain ⟨x, e, _⟩ := keyOf_int_inv Try.underlying3 hk
    exact ⟨x, e⟩
  · obtain ⟨x', e1, e2, _⟩ := keyOf_int_inv Try.underlying3 hkey
    injection e1 with _ e1
    subst e1
    subst e2
    have hy : y = (.held c, []) := (Option.some.inj hv).symm
    subst hy
    have hhas : Maps.has D (.int .i64 x) = true := by
      cases hh : Maps.has D (.int .i64 x)
      · have q1 := (atKey_of_not_has hh (.held (.bool true))).symm.trans (hat _)
        have q2 := (atKey_of_not_has hh (.held (.bool false))).symm.trans (hat _)
        have q3 := q1.trans q2.symm
        injection q3 with q3
        injection q3 with q3
        cases q3
      · rfl
    obtain ⟨k, g, hk, _, hpt⟩ := h2.keys _ hhas
    injection hk with _ hk
    subst hk
    have hc : c = .pointer (some ⟨g, 0, none⟩) := by
      have q := (hat (.held (.pointer none))).symm.trans (h2.at_ k)
      rw [hpt] at q
      injection q
    subst hc
    refine hMore k g w' hpt (by rw [← h3]; exact hlk) ⟨D, _, cnt', hrg, h2, fun j => ?_⟩ (by rw [hrg.left_eq, h1.left_eq]; exact hlt) hgr hsz hen
    rw [h3]
    simp [Lit.sameKey]
    rfl
end
end Go.Proofs.Ytablmoegmmeglaa
