/- Small words on memory: a slice's elements that came in; a row of the call's own beside the monitors; what turned on worlds. -/
import Derived.Test.YtpcihiggmbidmaaNew
import Derived.Deep.OwnRows
namespace Go.Proofs.Ytpcihiggmbidmaa
open Go.RowKit

/-- A slice of n elements that came in, one cell each. -/
def Elems (w : World) (B : Nat) (A : Option Addr) (n : Nat) (C : Nat → Value) : Prop :=
  0 < n → ∃ b off, A = some ⟨b, off, none⟩ ∧ b < B ∧ ∀ i, i < n → w.cell? ⟨b, off + i, none⟩ = some (C i)

theorem Mon.type_ne {w : World} {B H T k : Nat} {n : Int} {f : Nat → Option Int} {g : Nat → Value} (h : Mon w B n f) (hr : w.rowIs H T k g) (h55 : T ≠ 55) : B ≠ H := by
  rintro rfl
  obtain ⟨cs, hb, _⟩ := h.row
  obtain ⟨c, hb', _⟩ := hr
  rw [hb] at hb'
  simp at hb'
  exact h55 hb'.2.symm

/-- A store into a row of another type leaves the monitors. -/
theorem Mon.far {w : World} {B H T k : Nat} {n : Int} {f : Nat → Option Int} {g : Nat → Value} (h : Mon w B n f) (hr : w.rowIs H T k g) (h55 : T ≠ 55) (h22 : T ≠ 22) (i : Nat) (v : Value) : Mon (w.setCell ⟨H, i, none⟩ v) B n f := by
  refine h.kept (heap_setCell_other w ⟨H, i, none⟩ B v (h.type_ne hr h55)) fun b _ x hb => (heap_setCell_other w ⟨H, i, none⟩ b v ?_).trans hb
  rintro rfl
  obtain ⟨c, hb', _⟩ := hr
  rw [hb] at hb'
  simp at hb'
  exact h22 hb'.2.symm

theorem below_of_grown {w w' : World} (h : w.grownBy w' none) : Below w.heap.size w w' := ⟨h.os, h.tape, h.output, h.size, fun k hk => h.block k hk (by simp)⟩
theorem grown_of_below {w w' : World} (h : Below w.heap.size w w') : w.grownBy w' none := ⟨h.os, h.tape, h.output, h.size, fun k hk _ => h.block k hk⟩
theorem row_kept {w w' : World} {H T k X : Nat} {g : Nat → Value} (h : w.rowIs H T k g) (hg : w.grownBy w' (some X)) (hne : H ≠ X) : w'.rowIs H T k g :=
  h.of_block (hg.block H h.lt (by simpa using hne))
end Go.Proofs.Ytpcihiggmbidmaa
