/- The walks of Words and SameWords. -/
import Derived.Test.YtablmoegmmeglaaWalkD
import Derived.OwnWalk
import Derived.BigQuiet
import Derived.LoopTactic
namespace Go.Proofs.Ytablmoegmmeglaa
open Go.RowKit
variable {w : World} {O : Nat → Prop} {B n bm : Nat} {V : Nat → Int} {pt : Int → Option Nat}

/-- The words other than 0 among the first k, as the cells of a row of pairs. -/
def cellsW (f : Nat → Int) : Nat → List Value
  | 0 => []
  | k + 1 => cellsW f k ++ (if f k = 0 then [] else [.int .i64 k, .int .u64 (f k)])
def cntW (f : Nat → Int) : Nat → Nat
  | 0 => 0
  | k + 1 => cntW f k + (if f k = 0 then 0 else 1)
theorem cntW_le (f : Nat → Int) (k : Nat) : cntW f k ≤ k := by
  induction k with
  | zero => exact Nat.le_refl _
  | succ k ih => unfold cntW; split <;> omega
theorem cellsW_zero (f : Nat → Int) (k : Nat) (h : ∀ j, j < k → f j = 0) : cellsW f k = [] ∧ cntW f k = 0 := by
  induction k with
  | zero => exact ⟨rfl, rfl⟩
  | succ k ih =>
    unfold cellsW cntW
    obtain ⟨h1, h2⟩ := ih (fun j hj => h j (by omega))
    rw [if_pos (h k (by omega)), if_pos (h k (by omega)), h1, h2]
    exact ⟨rfl, rfl⟩
theorem cntW_pos (f : Nat → Int) (k j : Nat) (hj : j < k) (h : f j ≠ 0) : 0 < cntW f k := by
  induction k with
  | zero => omega
  | succ k ih =>
    unfold cntW
    by_cases e : j = k
    · subst e; rw [if_neg h]; omega
    · have := ih (by omega); omega

/-- What Words leaves: a row of its own that holds f's words other than 0. -/
def Row (w : World) (f : Nat → Int) (e : Ending) (w' : World) : Prop :=
  ∃ v, e = .returned v ∧ w'.ownsRow w.heap.size 80 2 v (cntW f 512) (cellsW f 512) ∧ w.grownBy w' none

theorem two_new (w : World) (x y : Value) (t : TypeId) : ∀ j u, [x, y][j]? = some u → (w.alloc (.cells #[x, y] t)).cell? ((⟨w.heap.size, 0, none⟩ : Addr).add j) = some u := by
  intro j u hu
  have hadd : (⟨w.heap.size, 0, none⟩ : Addr).add j = ⟨w.heap.size, j, none⟩ := by unfold Addr.add; split <;> simp_all
  rw [hadd, cell_of_row _ _ j _ t (0, 0) (Go.heap_alloc_new w _)]
  simpa using hu
theorem info80' : (Try.prog.info? 80).map (fun i => (i.zero, i.size, i.bytes)) = some (some (.agg #[.int .i64 0, .int .u64 0]), 2, 16) := by kernel_rfl

theorem grown_drewN (w : World) (k : Nat) : w.grownBy (w.drewN k) none := ⟨rfl, rfl, rfl, Nat.le_refl _, fun _ _ _ => rfl⟩
theorem grown_refl (w : World) : w.grownBy w none := ⟨rfl, rfl, rfl, Nat.le_refl _, fun _ _ _ => rfl⟩
theorem grown_trans {a b c : World} (h : a.grownBy b none) (k : b.grownBy c none) : a.grownBy c none :=
  ⟨k.os.trans h.os, k.tape.trans h.tape, k.output.trans h.output, Nat.le_trans h.size k.size, fun i hi _ => (k.block i (Nat.lt_of_lt_of_le hi h.size) (by simp)).trans (h.block i hi (by simp))⟩

theorem grown_row {a b c : World} {row : Option Nat} (h : a.grownBy b none) (k : b.grownBy c row) (hr : ∀ i, row = some i → a.heap.size ≤ i) : a.grownBy c none :=
  ⟨k.os.trans h.os, k.tape.trans h.tape, k.output.trans h.output, Nat.le_trans h.size k.size, fun i hi _ => (k.block i (Nat.lt_of_lt_of_le hi h.size) (fun e => by have := hr i e.symm; omega)).trans (h.block i hi (by simp))⟩

set_option maxRecDepth 8000 in
set_option maxHeartbeats 1000000 in
theorem words_some (h : MemI w O B n V bm pt) (k : Nat) (hk : k < n) {g : Nat} (hp : pt (k : Int) = some g) :
    Calls Try.prog 17 #[.pointer (some ⟨B, 0, none⟩), .int .i64 k] w (Row w (fun j => V (512 * k + j))) := by
  have c1 := h.cellM
  have hn := h.n64
  have hlk := h.pm.look (k : Int) (WalkArith.wf_i64 (by omega))
  rw [hp] at hlk
  have hlk' : (Instr.lookup 68 (.map (some bm)) (.int .i64 (k : Int)) false).run Try.prog w = .ok (.pointer (some ⟨g, 0, none⟩)) w := hlk
  have hr := (h.fr.row k g hp).2
  have hgs : g < w.heap.size := by obtain ⟨_, c, _⟩ := hr; exact lt_of_block c
  have HR := Lib.hid hr
  have HF := Lib.hid h.fit
  clear hlk hr h hp
  obtain ⟨i0, hi, hz0, hz1, hz2⟩ := info_parts info80'
  go_enter Try.func17, Try.ntmps17
  go_wp2_with fail
  go_loopw [4, 24] (fun v i wr => ∃ j : Nat, j ≤ 512 ∧ i = .int .i64 j ∧ wr.ownsRow w.heap.size 80 2 v (cntW (fun j => V (512 * k + j)) j) (cellsW (fun j => V (512 * k + j)) j) ∧ w.grownBy wr none) (fun _ i _ => 513 - (intOf i).toNat)
  case atStart => exact ⟨0, by omega, rfl, World.ownsRow_nil _ _ _ _, grown_refl _⟩
  case round =>
    obtain ⟨j, hj, rfl, hrow, hg⟩ := hrel
    have HG := Lib.hid hg
    have HROW := Lib.hid hrow
    have HJ := Lib.hid hj
    clear hg hrow c1 hlk' hj
    by_cases hj5 : (j : Int) < 512
    · have cj : wr.cell? ⟨g, j, none⟩ = some (.int .u64 (V (512 * k + j))) := (HG.out.cell (HR.out.cell (i := j) (by omega)) (by simp))
      by_cases hv : V (512 * k + j) = 0
      · have hcell : cellsW (fun j => V (512 * k + j)) (j + 1) = cellsW (fun j => V (512 * k + j)) j := by
          show _ ++ _ = _
          rw [if_pos hv, List.append_nil]
        have hcnt : cntW (fun j => V (512 * k + j)) (j + 1) = cntW (fun j => V (512 * k + j)) j := by
          show _ + _ = _
          rw [if_pos hv]
          rfl
        rw [hv] at cj
        have HC := Lib.hid hcell
        have HN := Lib.hid hcnt
        clear hcell hcnt hv
        go_wp2_with fail
        go_quiet (fail)
        go_wp2_with fail
        go_roundw
        case rel => exact ⟨j + 1, by omega, by go_num, by rw [HC.out, HN.out]; exact HROW.out, grown_trans HG.out (⟨rfl, rfl, rfl, Nat.le_refl _, fun _ _ _ => rfl⟩)⟩
        case measure => simp [intOf]; omega
      · have hcell : cellsW (fun j => V (512 * k + j)) (j + 1) = cellsW (fun j => V (512 * k + j)) j ++ [.int .i64 j, .int .u64 (V (512 * k + j))] := by
          show _ ++ _ = _
          rw [if_neg hv]
        have hcnt : cntW (fun j => V (512 * k + j)) (j + 1) = cntW (fun j => V (512 * k + j)) j + 1 := by
          show _ + _ = _
          rw [if_neg hv]
        have hle := cntW_le (fun j => V (512 * k + j)) j
        have HC := Lib.hid hcell
        have HN := Lib.hid hcnt
        have hne : (V (512 * k + j) != 0) = true := by simpa using hv
        clear hcell hcnt hv
        go_wp2_with fail
        go_quiet (fail)
        go_wp2_with (at_builtin; refine wpList_append_own _ rfl (.tmp 32) (.tmp 36) 41 rfl w.heap.size 80 i0 (.agg #[.int .i64 0, .int .u64 0]) 2 16 Try.underlying41 hi hz0 hz1 hz2 rfl (by decide) _ _ _ rfl (HROW.out.alloc _) ⟨wr.heap.size, 0, none⟩ 1 1 [.int .i64 j, .int .u64 (V (512 * k + j))] rfl rfl (two_new wr _ _ _) (by intro u hu; simp at hu; rcases hu with rfl | rfl <;> rfl) (by unfold maxLen; omega) (by omega) (by have := HG.out.size; simp; omega) ?_; intro v' w2 hown' hgrow2 hnil2)
        go_roundw
        case rel => exact ⟨j + 1, by omega, by go_num, by rw [HC.out, HN.out]; exact hown', grown_row (grown_trans HG.out (World.grownBy_alloc wr _ none)) (show (wr.alloc (.cells #[.int .i64 j, .int .u64 (V (512 * k + j))] 80)).grownBy w2 _ from ⟨hgrow2.os, hgrow2.tape, hgrow2.output, hgrow2.size, hgrow2.block⟩) (fun i hi => (HROW.out.lt i hi).1)⟩
        case measure => simp [intOf]; omega
    · have h512 : j = 512 := by have := HJ.out; omega
      subst h512
      go_wp2_with fail
      go_ret
      exact ⟨_, rfl, HROW.out, HG.out⟩
end Go.Proofs.Ytablmoegmmeglaa
