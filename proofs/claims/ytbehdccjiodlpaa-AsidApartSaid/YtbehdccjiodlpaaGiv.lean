/- A giver in memory; the atomic counter's calls; find. -/
import Derived.Test.YtbehdccjiodlpaaRows
import Derived.WalkKit
import Derived.WalkSpells
import Derived.WalkLawsBesides
import Derived.Handy
import Derived.Deep.OwnRows
import Derived.Deep.Draws
import Derived.Lib.Hide
import Derived.Laws.LoneSync
import Derived.LoopTactic
import Derived.WalkMore
namespace Go.Proofs.Ytbehdccjiodlpaa
open Go.RowKit

theorem store_any (g : Nat) (v : Value) (y : Int) (w : World) (hc : w.cell? ⟨g, 18, none⟩ = some v) (hz : w.frozen? ⟨g, 18, none⟩ = false) :
    Calls Try.prog 20 #[.pointer (some ⟨g, 18, none⟩), .int .i64 y] w fun e w' => e = .returned (.tuple #[]) ∧ w' = w.setCell ⟨g, 18, none⟩ (.int .i64 y) := by
  have hst := run_call_store (P := Try.prog) Try.func26 (by kernel_rfl) (by kernel_rfl) (by kernel_rfl) (by kernel_rfl) (k := .i64) (y := y) hc hz
  go_enter Try.func20, Try.ntmps20
  go_wp2
  go_end0
  exact ⟨rfl, rfl⟩
theorem load_any (g : Nat) (x : Int) (w : World) (hc : w.cell? ⟨g, 18, none⟩ = some (.int .i64 x)) :
    Calls Try.prog 23 #[.pointer (some ⟨g, 18, none⟩)] w fun e w' => e = .returned (.int .i64 x) ∧ w' = w := by
  have hst := run_call_load (P := Try.prog) Try.func27 (by kernel_rfl) (by kernel_rfl) (by kernel_rfl) .i64 (by kernel_rfl) hc
  go_enter Try.func23, Try.ntmps23
  go_wp2
  go_ret
  exact ⟨rfl, rfl⟩
theorem add1_any (g : Nat) (x : Int) (w : World) (hx : -9223372036854775808 ≤ x ∧ x < 9223372036854775807) (hc : w.cell? ⟨g, 18, none⟩ = some (.int .i64 x)) (hz : w.frozen? ⟨g, 18, none⟩ = false) :
    Calls Try.prog 24 #[.pointer (some ⟨g, 18, none⟩), .int .i64 1] w fun e w' => e = .returned (.int .i64 (x + 1)) ∧ w' = w.setCell ⟨g, 18, none⟩ (.int .i64 (x + 1)) := by
  have hadd := run_call_add (P := Try.prog) Try.func28 (by kernel_rfl) (by kernel_rfl) (by kernel_rfl) .i64 (by kernel_rfl) (y := 1) (s := x + 1) hc hz (by simp [go_sem]; rw [IntKind.wrap_i64]; omega)
  go_enter Try.func24, Try.ntmps24
  go_wp2
  go_ret
  exact ⟨rfl, rfl⟩

/-- A giver's cells: how many there are; who has each; the age. -/
def gcell (n : Nat) (a : Int) (h : Nat → Int) (j : Nat) : Value := if j = 0 then .int .i64 n else if j = 18 then .int .i64 a else .int .i64 (h (j - 1))
structure Gv (w : World) (G n : Nat) (a : Int) (h : Nat → Int) : Prop where
  n2 : 2 ≤ n
  n16 : n ≤ 16
  row : w.rowIs G 55 19 (gcell n a h)
def updH (h : Nat → Int) (i : Nat) (x : Int) : Nat → Int := fun j => if j = i then x else h j
section
variable {w w' : World} {G n : Nat} {a : Int} {h : Nat → Int}
theorem Gv.cellN (H : Gv w G n a h) : w.cell? ⟨G, 0, none⟩ = some (.int .i64 n) := H.row.cell (i := 0) (by omega)
theorem Gv.cellA (H : Gv w G n a h) : w.cell? ⟨G, 18, none⟩ = some (.int .i64 a) := H.row.cell (i := 18) (by omega)
theorem Gv.cellH (H : Gv w G n a h) (j : Nat) (hj : j ≤ 16) : w.cell? ⟨G, 1 + j, none⟩ = some (.int .i64 (h j)) := by
  have := H.row.cell (i := 1 + j) (by omega)
  rw [show gcell n a h (1 + j) = .int .i64 (h j) from by unfold gcell; rw [if_neg (by omega), if_neg (by omega), show 1 + j - 1 = j from by omega]] at this
  exact this
theorem Gv.frozen (H : Gv w G n a h) (j : Nat) : w.frozen? ⟨G, j, none⟩ = false := H.row.frozen j
theorem Gv.lt (H : Gv w G n a h) : G < w.heap.size := H.row.lt
theorem Gv.setH (H : Gv w G n a h) (j : Nat) (hj : j ≤ 16) (x : Int) : Gv (w.setCell ⟨G, 1 + j, none⟩ (.int .i64 x)) G n a (updH h j x) := by
  refine ⟨H.n2, H.n16, (H.row.set (1 + j) _).congr fun i hi => ?_⟩
  unfold gcell updH
  by_cases e : i = 1 + j
  · subst e
    rw [if_pos rfl, if_neg (by omega), if_neg (by omega), if_pos (by omega)]
  · rw [if_neg e]
    by_cases e0 : i = 0
    · rw [if_pos e0, if_pos e0]
    · rw [if_neg e0, if_neg e0]
      by_cases e18 : i = 18
      · rw [if_pos e18, if_pos e18]
      · rw [if_neg e18, if_neg e18, if_neg (by omega)]
theorem Gv.setA (H : Gv w G n a h) (b : Int) : Gv (w.setCell ⟨G, 18, none⟩ (.int .i64 b)) G n b h := by
  refine ⟨H.n2, H.n16, (H.row.set 18 _).congr fun i hi => ?_⟩
  unfold gcell
  by_cases e : i = 18
  · subst e
    rw [if_pos rfl, if_neg (by omega), if_pos rfl]
  · rw [if_neg e, if_neg e, if_neg e]
theorem Gv.of_block (H : Gv w G n a h) (hk : w'.heap[G]? = w.heap[G]?) : Gv w' G n a h := ⟨H.n2, H.n16, H.row.of_block hk⟩
theorem Gv.grown (H : Gv w G n a h) {row : Option Nat} (hg : w.grownBy w' row) (hr : some G ≠ row) : Gv w' G n a h := H.of_block (hg.block G H.lt hr)
theorem Gv.congr {h' : Nat → Int} (H : Gv w G n a h) (e : ∀ j, h j = h' j) : Gv w G n a h' := (funext e : h = h') ▸ H

/-- The first of m that s has, from i on; 0 if none. -/
def from_ (h : Nat → Int) (s : Int) (i : Nat) : Nat → Nat
  | 0 => 0
  | m + 1 => if h i = s then i else from_ h s (i + 1) m
def find (h : Nat → Int) (n : Nat) (s : Int) : Nat := from_ h s 1 n
theorem from_le (s : Int) : ∀ m i, from_ h s i m ≤ i + m
  | 0, i => by unfold from_; omega
  | m + 1, i => by
    unfold from_
    split
    · omega
    · have := from_le s m (i + 1); omega
theorem from_spec (s : Int) : ∀ m i, (from_ h s i m = 0 ∧ (1 ≤ i → ∀ j, i ≤ j → j < i + m → h j ≠ s)) ∨ (i ≤ from_ h s i m ∧ from_ h s i m < i + m ∧ h (from_ h s i m) = s ∧ ∀ j, i ≤ j → j < from_ h s i m → h j ≠ s)
  | 0, i => .inl ⟨rfl, fun _ j h1 h2 => by omega⟩
  | m + 1, i => by
    unfold from_
    by_cases e : h i = s
    · rw [if_pos e]
      exact .inr ⟨Nat.le_refl _, by omega, e, fun j h1 h2 => by omega⟩
    · rw [if_neg e]
      rcases from_spec s m (i + 1) with ⟨h0, h1⟩ | ⟨h1, h2, h3, h4⟩
      · refine .inl ⟨h0, fun hi j hj hjm => ?_⟩
        by_cases ej : j = i
        · subst ej; exact e
        · exact h1 (by omega) j (by omega) (by omega)
      · refine .inr ⟨by omega, by omega, h3, fun j hj hjm => ?_⟩
        by_cases ej : j = i
        · subst ej; exact e
        · exact h4 j (by omega) hjm
theorem find_spec (s : Int) : (find h n s = 0 ∧ ∀ j, 1 ≤ j → j ≤ n → h j ≠ s) ∨ (1 ≤ find h n s ∧ find h n s ≤ n ∧ h (find h n s) = s ∧ ∀ j, 1 ≤ j → j < find h n s → h j ≠ s) := by
  unfold find
  rcases from_spec (h := h) s n 1 with ⟨h0, h1⟩ | ⟨h1, h2, h3, h4⟩
  · exact .inl ⟨h0, fun j hj hn => h1 (Nat.le_refl _) j hj (by omega)⟩
  · exact .inr ⟨h1, by omega, h3, h4⟩

set_option maxHeartbeats 400000 in
theorem find_any (H : Gv w G n a h) (s : Int) : Calls Try.prog 22 #[.pointer (some ⟨G, 0, none⟩), .int .i64 s] w fun e w' => e = .returned (.int .i64 (find h n s)) ∧ w' = w := by
  have c0 := H.cellN
  have hn := H.n16
  have HH := Lib.hid H
  clear H
  go_enter Try.func22, Try.ntmps22
  go_wp2_with fail
  go_step3
  go_wp2_with fail
  go_step3
  go_wp2_with fail
  go_loopw [5] (fun i wr => ∃ q : Nat, 1 ≤ q ∧ q ≤ n + 1 ∧ i = .int .i64 q ∧ wr = w ∧ find h n s = from_ h s q (n + 1 - q)) (fun i _ => n + 2 - (intOf i).toNat)
  case atStart => exact ⟨1, by omega, by omega, rfl, rfl, rfl⟩
  case round =>
    obtain ⟨q, hq1, hq2, rfl, rfl, hf⟩ := hrel
    by_cases hqn : (q : Int) ≤ n
    · have cH := HH.out.cellH q (by omega)
      rw [show n + 1 - q = (n - q) + 1 from by omega] at hf
      by_cases he : h q = s
      · have hf' : find h n s = q := by rw [hf]; unfold from_; rw [if_pos he]
        have HF := Lib.hid hf'
        rw [he] at cH
        clear hf hf' he
        go_wp2_with fail
        try simp only [Exit.noGoto]
        go_ret
        exact ⟨by rw [HF.out]; rfl, rfl⟩
      · have hf' : find h n s = from_ h s (q + 1) (n + 1 - (q + 1)) := by rw [hf, show n + 1 - (q + 1) = n - q from by omega]; exact if_neg he
        have HF := Lib.hid hf'
        have hne : (h q != s) = true := by simpa using he
        clear hf hf' he
        go_wp2_with fail
        go_roundw
        case rel => exact ⟨q + 1, by omega, by omega, by go_num, trivial, HF.out⟩
        case measure => simp [intOf]; omega
    · have hq : q = n + 1 := by omega
      subst hq
      have hf' : find h n s = 0 := by rw [hf, Nat.sub_self]; rfl
      have HF := Lib.hid hf'
      clear hf hf'
      go_wp2_with fail
      try simp only [Exit.noGoto]
      go_ret
      exact ⟨by rw [HF.out]; rfl, rfl⟩
end
end Go.Proofs.Ytbehdccjiodlpaa
