/- The reference's giver; its walks: New, Of. -/
import Derived.Test.YtbehdccjiodlpaaAskA
import Derived.OwnWalk
namespace Go.Proofs.Ytbehdccjiodlpaa
open Go.RowKit
variable {w w' : World} {R S n : Nat} {a : Int} {h : Nat → Int}

/-- Block R is a reference's giver of n, whose row lies in block S. -/
structure RGv (w : World) (R S n : Nat) (a : Int) (h : Nat → Int) : Prop where
  n2 : 2 ≤ n
  n16 : n ≤ 16
  hR : w.heap[R]? = some (.cells #[.slice (some ⟨S, 0, none⟩) (n + 1) (n + 1), .int .i64 a] 47 (0, 0))
  row : w.rowIs S 3 (n + 1) (fun j => .int .i64 (h j))
theorem RGv.cellR (H : RGv w R S n a h) : w.cell? ⟨R, 0, none⟩ = some (.slice (some ⟨S, 0, none⟩) (n + 1) (n + 1)) := by simp [World.cell?, H.hR]
theorem RGv.cellA (H : RGv w R S n a h) : w.cell? ⟨R, 1, none⟩ = some (.int .i64 a) := by simp [World.cell?, H.hR]
theorem RGv.cellH (H : RGv w R S n a h) (j : Nat) (hj : j ≤ n) : w.cell? ⟨S, j, none⟩ = some (.int .i64 (h j)) := H.row.cell (i := j) (by omega)
theorem RGv.frozen (H : RGv w R S n a h) (j : Nat) : w.frozen? ⟨S, j, none⟩ = false := H.row.frozen j
theorem RGv.ltR (H : RGv w R S n a h) : R < w.heap.size := lt_of_block H.hR
theorem RGv.ltS (H : RGv w R S n a h) : S < w.heap.size := H.row.lt
theorem RGv.ne (H : RGv w R S n a h) : R ≠ S := by
  rintro rfl
  obtain ⟨_, b, _⟩ := H.row
  rw [H.hR] at b
  simp at b
theorem RGv.of_block (H : RGv w R S n a h) (hr : w'.heap[R]? = w.heap[R]?) (hs : w'.heap[S]? = w.heap[S]?) : RGv w' R S n a h := ⟨H.n2, H.n16, hr.trans H.hR, H.row.of_block hs⟩
theorem RGv.set (H : RGv w R S n a h) (j : Nat) (x : Int) : RGv (w.setCell ⟨S, j, none⟩ (.int .i64 x)) R S n a (updH h j x) :=
  ⟨H.n2, H.n16, (heap_setCell_other w ⟨S, j, none⟩ R _ H.ne).trans H.hR, (H.row.set j _).congr fun i _ => by
    unfold updH
    split <;> rfl⟩
/-- Nothing old but R and S has turned. -/
structure Keep (w : World) (R S : Nat) (w' : World) : Prop where
  os : w'.os = w.os
  tape : w'.tape = w.tape
  output : w'.output = w.output
  size : w.heap.size ≤ w'.heap.size
  block : ∀ k, k < w.heap.size → k ≠ R → k ≠ S → w'.heap[k]? = w.heap[k]?
theorem Keep.refl (w : World) (R S : Nat) : Keep w R S w := ⟨rfl, rfl, rfl, Nat.le_refl _, fun _ _ _ _ => rfl⟩
theorem Keep.setS (w : World) (R S j : Nat) (v : Value) : Keep w R S (w.setCell ⟨S, j, none⟩ v) := ⟨rfl, rfl, rfl, by simp, fun k _ _ hs => heap_setCell_other w ⟨S, j, none⟩ k v hs⟩
def DidR (w : World) (R S n : Nat) (a : Int) (h : Nat → Int) (r : Value) (e : Ending) (w' : World) : Prop :=
  e = .returned r ∧ ∃ S', Keep w R S w' ∧ (S' = S ∨ w.heap.size ≤ S') ∧ RGv w' R S' n a h

def MadeR (w : World) (n : Nat) (e : Ending) (w' : World) : Prop :=
  ∃ R S, e = .returned (.tuple #[.pointer (some ⟨R, 0, none⟩), .int .i64 0]) ∧ w.heap.size ≤ R ∧ w.heap.size ≤ S ∧ w.grownBy w' none ∧ RGv w' R S n 1 (fun _ => 0)
theorem rnew_in (n : Nat) (w : World) (h2 : 2 ≤ n) (h16 : n ≤ 16) : Calls Try.prog 14 #[.int .i64 n] w (MadeR w n) := by
  have hmk : (Instr.makeSlice 30 (.int .i64 ((n : Int) + 1)) (.int .i64 ((n : Int) + 1))).run Try.prog w = .ok (.slice (some ⟨w.heap.size, 0, none⟩) (n + 1) (n + 1)) (w.alloc (.cells (madeCells #[.int .i64 0] (n + 1)) 3)) :=
    run_make_row' (P := Try.prog) 30 3 (.int .i64 0) 8 Try.underlying30 (by kernel_rfl) rfl .i64 .i64 (n + 1) (by omega) (by omega) w
  go_enter Try.func14, Try.ntmps14
  go_wp2_with fail
  go_ret2
  have hs : (w.alloc (.cells (madeCells #[.int .i64 0] (n + 1)) 3)).heap.size = w.heap.size + 1 := World.size_alloc _ _
  refine ⟨_, w.heap.size, rfl, by omega, Nat.le_refl _, grown_both (World.grownBy_alloc w _ none) (World.grownBy_alloc _ _ none), h2, h16, ?_, (World.rowIs_made w (.int .i64 0) (n + 1) 3).of_block (Below.heap_alloc _ _ _ (by rw [hs]; omega))⟩
  have := Go.heap_alloc_new (w.alloc (.cells (madeCells #[.int .i64 0] (n + 1)) 3)) (.cells #[.slice (some ⟨w.heap.size, 0, none⟩) (n + 1) (n + 1), .int .i64 1] 47)
  rw [hs] at this
  exact this
theorem rnew_out (n : Int) (w : World) (hn : ¬ (2 ≤ n ∧ n ≤ 16)) : Calls Try.prog 14 #[.int .i64 n] w (Same w (.tuple #[.pointer none, .int .i64 2])) := by
  by_cases h1 : n < 2
  · clear hn
    go_enter Try.func14, Try.ntmps14
    go_wp2_with fail
    go_ret2
    exact ⟨rfl, rfl⟩
  · have h8 : 16 < n := by omega
    clear hn
    go_enter Try.func14, Try.ntmps14
    go_wp2_with fail
    go_ret2
    exact ⟨rfl, rfl⟩

set_option maxHeartbeats 400000 in
theorem rof_any (H : RGv w R S n a h) (s : Int) : Calls Try.prog 17 #[.pointer (some ⟨R, 0, none⟩), .int .i64 s] w (Same w (.tuple #[.int .i64 (ofF h n s), .bool (decide (0 < ofF h n s))])) := by
  have c0 := H.cellR
  have hn := H.n16
  have HH := Lib.hid H
  unfold ofF
  clear H
  by_cases h1 : s < 1
  · rw [if_neg (by omega)]
    go_enter Try.func17, Try.ntmps17
    go_wp2_with fail
    go_ret2
    exact ⟨by simp, rfl⟩
  · by_cases h6 : 6 < s
    · rw [if_neg (by omega)]
      go_enter Try.func17, Try.ntmps17
      go_wp2_with fail
      go_ret2
      exact ⟨by simp, rfl⟩
    · rw [if_pos (by omega)]
      go_enter Try.func17, Try.ntmps17
      go_wp2_with fail
      go_loopw [6] (fun i wr => ∃ q : Nat, 1 ≤ q ∧ q ≤ n + 1 ∧ i = .int .i64 q ∧ wr = w ∧ find h n s = from_ h s q (n + 1 - q)) (fun i _ => n + 2 - (intOf i).toNat)
      case atStart => exact ⟨1, by omega, by omega, rfl, rfl, rfl⟩
      case round =>
        obtain ⟨q, hq1, hq2, rfl, rfl, hf⟩ := hrel
        by_cases hqn : (q : Int) ≤ n
        · have cH := HH.out.cellH q (by omega)
          rw [show n + 1 - q = (n - q) + 1 from by omega] at hf
          by_cases he : h q = s
          · have hf' : find h n s = q := by rw [hf]; unfold from_; rw [if_pos he]
            have HF := Lib.hid hf'
            rw [he] at cH
            clear hf hf' he
            go_wp2_with fail
            go_ret2
            exact ⟨by rw [HF.out]; simp; omega, rfl⟩
          · have hf' : find h n s = from_ h s (q + 1) (n + 1 - (q + 1)) := by rw [hf, show n + 1 - (q + 1) = n - q from by omega]; exact if_neg he
            have HF := Lib.hid hf'
            have hne : (h q == s) = false := by simpa using he
            clear hf hf' he
            go_wp2_with fail
            go_roundw
            case rel => exact ⟨q + 1, by omega, by omega, by go_num, trivial, HF.out⟩
            case measure => simp [intOf]; omega
        · have hq : q = n + 1 := by omega
          subst hq
          have hf' : find h n s = 0 := by rw [hf, Nat.sub_self]; rfl
          have HF := Lib.hid hf'
          clear hf hf'
          go_wp2_with fail
          go_ret2
          exact ⟨by rw [HF.out]; simp, rfl⟩
end Go.Proofs.Ytbehdccjiodlpaa
