/- What is said of the monitors in memory (the program's and the reference's), and how it is kept; no walk stands here. -/
import Derived.Test.YtpcihiggmbidmaaRows
import Derived.WalkKit
namespace Go.Proofs.Ytpcihiggmbidmaa
open Go.RowKit

def upd (f : Nat → Option Int) (c : Nat) (x : Option Int) : Nat → Option Int := fun k => if k = c then x else f k

def PtrAt (w : World) (B : Nat) (v : Value) : Option Int → Prop
  | none => v = .pointer none
  | some x => ∃ b, b ≠ B ∧ v = .pointer (some ⟨b, 0, none⟩) ∧ w.heap[b]? = some (.cells #[.int .u64 x] 22 (0, 0)) ∧ 0 ≤ x ∧ x ≤ 18446744073709551615

/-- Block B is the program's monitors: n cores, the monitor of core c is f c. -/
structure Mon (w : World) (B : Nat) (n : Int) (f : Nat → Option Int) : Prop where
  n1 : 1 ≤ n
  n8 : n ≤ 8
  dom : ∀ c : Nat, ¬ (1 ≤ c ∧ (c : Int) ≤ n) → f c = none
  row : ∃ cs : Array Value, w.heap[B]? = some (.cells cs 55 (0, 0)) ∧ cs.size = 10 ∧ cs[0]? = some (.int .i64 n) ∧ ∀ c, c < 9 → ∃ v, cs[c + 1]? = some v ∧ PtrAt w B v (f c)

/-- What a call on the monitors leaves. -/
def Did (w : World) (B : Nat) (n : Int) (f : Nat → Option Int) (r : Value) (e : Ending) (w' : World) : Prop :=
  e = .returned r ∧ Mon w' B n f ∧ w.grownBy w' (some B)

section
variable {w : World} {B : Nat} {n : Int} {f : Nat → Option Int}

theorem Mon.lt (h : Mon w B n f) : B < w.heap.size := by
  obtain ⟨cs, hb, _⟩ := h.row
  exact lt_of_block hb

theorem Mon.cell0 (h : Mon w B n f) : w.cell? ⟨B, 0, none⟩ = some (.int .i64 n) := by
  obtain ⟨cs, hb, _, h0, _⟩ := h.row
  simp [World.cell?, hb, h0]

theorem Mon.free (h : Mon w B n f) (i : Nat) : w.frozen? ⟨B, i, none⟩ = false := by
  obtain ⟨cs, hb, _⟩ := h.row
  simp [World.frozen?, hb]

theorem Mon.at_ (h : Mon w B n f) (c : Nat) (hc : c < 9) : ∃ v, w.cell? ⟨B, 1 + c, none⟩ = some v ∧ PtrAt w B v (f c) := by
  obtain ⟨cs, hb, _, _, hv⟩ := h.row
  obtain ⟨v, h1, h2⟩ := hv c hc
  exact ⟨v, by simp [World.cell?, hb, Nat.add_comm 1 c, h1], h2⟩

theorem PtrAt.kept {w w' : World} {B : Nat} {v : Value} {o : Option Int} (h : PtrAt w B v o) (hk : ∀ b, b ≠ B → ∀ x, w.heap[b]? = some (.cells #[.int .u64 x] 22 (0, 0)) → w'.heap[b]? = some (.cells #[.int .u64 x] 22 (0, 0))) : PtrAt w' B v o := by
  cases o with
  | none => exact h
  | some x =>
    obtain ⟨b, h1, h2, h3, h4⟩ := h
    exact ⟨b, h1, h2, hk b h1 x h3, h4⟩

theorem Mon.kept {w' : World} (h : Mon w B n f) (hB : w'.heap[B]? = w.heap[B]?) (hk : ∀ b, b ≠ B → ∀ x, w.heap[b]? = some (.cells #[.int .u64 x] 22 (0, 0)) → w'.heap[b]? = some (.cells #[.int .u64 x] 22 (0, 0))) : Mon w' B n f := by
  obtain ⟨cs, hb, hs, h0, hv⟩ := h.row
  exact ⟨h.n1, h.n8, h.dom, cs, hB.trans hb, hs, h0, fun c hc => by
    obtain ⟨v, h1, h2⟩ := hv c hc
    exact ⟨v, h1, h2.kept hk⟩⟩

theorem Mon.alloc (h : Mon w B n f) (o : Obj) : Mon (w.alloc o) B n f :=
  h.kept (Below.heap_alloc w o B h.lt) fun b _ _ hb => (Below.heap_alloc w o b (lt_of_block hb)).trans hb

theorem Mon.drew (h : Mon w B n f) : Mon w.drew B n f := h.kept rfl fun _ _ _ hb => hb

/-- A store into core c's place. -/
theorem Mon.store (h : Mon w B n f) (c : Nat) (h1 : 1 ≤ c) (hn : (c : Int) ≤ n) {v : Value} {o : Option Int} (hv : PtrAt w B v o) : Mon (w.setCell ⟨B, 1 + c, none⟩ v) B n (upd f c o) := by
  obtain ⟨cs, hb, hs, h0, hall⟩ := h.row
  have hn8 := h.n8
  have hk : ∀ b, b ≠ B → ∀ x, w.heap[b]? = some (.cells #[.int .u64 x] 22 (0, 0)) → (w.setCell ⟨B, 1 + c, none⟩ v).heap[b]? = some (.cells #[.int .u64 x] 22 (0, 0)) :=
    fun b hne x hx => (heap_setCell_other w ⟨B, 1 + c, none⟩ b v hne).trans hx
  refine ⟨h.n1, h.n8, fun d hd => ?_, cs.setIfInBounds (1 + c) v, heap_setCell_same w B (1 + c) cs 55 v hb, by simpa using hs, ?_, fun d hd => ?_⟩
  · unfold upd
    rw [if_neg (by rintro rfl; exact hd ⟨h1, hn⟩)]
    exact h.dom d hd
  · rw [Array.getElem?_setIfInBounds_ne (by omega)]
    exact h0
  · unfold upd
    by_cases e : d = c
    · subst e
      rw [if_pos rfl]
      refine ⟨v, ?_, hv.kept hk⟩
      rw [Nat.add_comm 1 d, Array.getElem?_setIfInBounds_self_of_lt (by omega)]
    · rw [if_neg e]
      obtain ⟨u, hu, hp⟩ := hall d hd
      exact ⟨u, by rw [Array.getElem?_setIfInBounds_ne (by omega)]; exact hu, hp.kept hk⟩

theorem Mon.congr {g : Nat → Option Int} (h : Mon w B n f) (e : ∀ c, f c = g c) : Mon w B n g := (funext e : f = g) ▸ h
end

theorem grown_refl (w : World) (r : Option Nat) : w.grownBy w r := ⟨rfl, rfl, rfl, Nat.le_refl _, fun _ _ _ => rfl⟩
theorem grown_trans {a b c : World} {r : Option Nat} (h : a.grownBy b r) (k : b.grownBy c r) : a.grownBy c r :=
  ⟨k.os.trans h.os, k.tape.trans h.tape, k.output.trans h.output, Nat.le_trans h.size k.size, fun i hi hr => (k.block i (Nat.lt_of_lt_of_le hi h.size) hr).trans (h.block i hi hr)⟩
theorem grown_setCell (w : World) (a : Addr) (v : Value) : w.grownBy (w.setCell a v) (some a.block) :=
  ⟨rfl, rfl, rfl, by simp, fun k _ hr => heap_setCell_other w a k v (fun e => hr (by rw [e]))⟩
theorem grown_drew (w : World) (r : Option Nat) : w.grownBy w.drew r := ⟨rfl, rfl, rfl, Nat.le_refl _, fun _ _ _ => rfl⟩
theorem grown_none {a b : World} (h : a.grownBy b none) (r : Option Nat) : a.grownBy b r := ⟨h.os, h.tape, h.output, h.size, fun i hi _ => h.block i hi (by simp)⟩
theorem grown_new {a b c : World} {B : Nat} {r : Option Nat} (h : a.grownBy b r) (k : b.grownBy c (some B)) (hB : a.heap.size ≤ B) : a.grownBy c r :=
  ⟨k.os.trans h.os, k.tape.trans h.tape, k.output.trans h.output, Nat.le_trans h.size k.size, fun i hi hr => (k.block i (Nat.lt_of_lt_of_le hi h.size) (fun e => by cases e; omega)).trans (h.block i hi hr)⟩

end Go.Proofs.Ytpcihiggmbidmaa
