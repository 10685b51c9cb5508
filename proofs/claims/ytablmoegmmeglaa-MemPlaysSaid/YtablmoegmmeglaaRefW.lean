/- The walk of the reference's Words. -/
import Derived.Test.YtablmoegmmeglaaRefB
import Derived.Test.YtablmoegmmeglaaSameW
namespace Go.Proofs.Ytablmoegmmeglaa
open Go.RowKit
variable {w : World} {O : Nat → Prop} {R n S : Nat} {V : Nat → Int} {pr : Nat → Option (Nat × Nat)}

theorem rwords_out (h : RefI w O R n V S pr) (k : Int) (hk : ¬ (0 ≤ k ∧ k < n)) :
    Calls Try.prog 18 #[.pointer (some ⟨R, 0, none⟩), .int .i64 k] w (Same w (.slice none 0 0)) := by
  have HT := rframe_any (n := n) (S := S) k w h.cellR
  rw [decide_eq_false hk] at HT
  have HT' := Lib.hid HT
  clear h hk HT
  go_enter Try.func18, Try.ntmps18
  go_wp2_with (go_at_call 37; refine HT'.out.mono ?_; rintro e w' ⟨rfl, rfl⟩)
  go_ret
  exact ⟨rfl, rfl⟩
theorem rwords_none (h : RefI w O R n V S pr) (k : Nat) (hk : k < n) (hp : pr k = none) :
    Calls Try.prog 18 #[.pointer (some ⟨R, 0, none⟩), .int .i64 k] w (Same w (.slice none 0 0)) := by
  have HT := rframe_any (n := n) (S := S) (k : Int) w h.cellR
  rw [decide_eq_true (by omega)] at HT
  have HT' := Lib.hid HT
  have c0 := h.cellR
  have hn := h.n64
  have cF := h.hS.cell (i := k) hk
  rw [hp] at cF
  have cF' : w.cell? ⟨S, k, none⟩ = some (.slice none 0 0) := cF
  clear h hp cF HT
  go_enter Try.func18, Try.ntmps18
  go_wp2_with (go_at_call 37; refine HT'.out.mono ?_; rintro e w' ⟨rfl, rfl⟩)
  refine wp_loop_rounds 1 ?_
  rw [rounds_succ]
  go_wp2_with fail
  go_ret
  exact ⟨rfl, rfl⟩

set_option maxRecDepth 8000 in
set_option maxHeartbeats 1000000 in
theorem rwords_some (h : RefI w O R n V S pr) (k : Nat) (hk : k < n) {g c : Nat} (hp : pr k = some (g, c)) :
    Calls Try.prog 18 #[.pointer (some ⟨R, 0, none⟩), .int .i64 k] w (Row w (fun j => V (512 * k + j))) := by
  have HT := rframe_any (n := n) (S := S) (k : Int) w h.cellR
  rw [decide_eq_true (by omega)] at HT
  have HT' := Lib.hid HT
  have c0 := h.cellR
  have hn := h.n64
  have cF := h.hS.cell (i := k) hk
  rw [hp] at cF
  have cF' : w.cell? ⟨S, k, none⟩ = some (.slice (some ⟨g, 0, none⟩) 512 c) := cF
  obtain ⟨_, h512, hmx, F, hr, hF⟩ := h.row k hk g c hp
  have HR := Lib.hid hr
  have HF := Lib.hid hF
  clear hr hF h hp cF HT
  obtain ⟨i0, hi, hz0, hz1, hz2⟩ := info_parts info80'
  go_enter Try.func18, Try.ntmps18
  go_wp2_with (go_at_call 37; refine HT'.out.mono ?_; rintro e w' ⟨rfl, rfl⟩)
  go_loopw [5, 7] (fun v i wr => ∃ j : Nat, j ≤ 512 ∧ i = .int .i64 j ∧ wr.ownsRow w.heap.size 80 2 v (cntW (fun j => V (512 * k + j)) j) (cellsW (fun j => V (512 * k + j)) j) ∧ w.grownBy wr none) (fun _ i _ => 513 - (intOf i).toNat)
  case atStart => exact ⟨0, by omega, rfl, World.ownsRow_nil _ _ _ _, grown_refl _⟩
  case round =>
    obtain ⟨j, hj, rfl, hrow, hg⟩ := hrel
    have HG := Lib.hid hg
    have HROW := Lib.hid hrow
    have HJ := Lib.hid hj
    clear hg hrow c0 cF' hj
    by_cases hj5 : (j : Int) < 512
    · have cj : wr.cell? ⟨g, j, none⟩ = some (F j) := (HG.out.cell (HR.out.cell (i := j) (by omega)) (by simp))
      rw [HF.out j (by omega)] at cj
      by_cases hv : V (512 * k + j) = 0
      · have hcell : cellsW (fun j => V (512 * k + j)) (j + 1) = cellsW (fun j => V (512 * k + j)) j := by
          show _ ++ _ = _
          rw [if_pos hv, List.append_nil]
        have hcnt : cntW (fun j => V (512 * k + j)) (j + 1) = cntW (fun j => V (512 * k + j)) j := by
          show _ + _ = _
          rw [if_pos hv]
          rfl
        rw [hv] at cj
        have HC := Lib.hid hcell
        have HN := Lib.hid hcnt
        clear hcell hcnt hv
        go_wp2_with fail
        go_roundw
        case rel => exact ⟨j + 1, by omega, by go_num, by rw [HC.out, HN.out]; exact HROW.out, HG.out⟩
        case measure => simp [intOf]; omega
      · have hcell : cellsW (fun j => V (512 * k + j)) (j + 1) = cellsW (fun j => V (512 * k + j)) j ++ [.int .i64 j, .int .u64 (V (512 * k + j))] := by
          show _ ++ _ = _
          rw [if_neg hv]
        have hcnt : cntW (fun j => V (512 * k + j)) (j + 1) = cntW (fun j => V (512 * k + j)) j + 1 := by
          show _ + _ = _
          rw [if_neg hv]
        have hle := cntW_le (fun j => V (512 * k + j)) j
        have HC := Lib.hid hcell
        have HN := Lib.hid hcnt
        have hne : (V (512 * k + j) != 0) = true := by simpa using hv
        clear hcell hcnt hv
        go_wp2_with (at_builtin; refine wpList_append_own _ rfl (.tmp 30) (.tmp 37) 41 rfl w.heap.size 80 i0 (.agg #[.int .i64 0, .int .u64 0]) 2 16 Try.underlying41 hi hz0 hz1 hz2 rfl (by decide) _ _ _ rfl (HROW.out.alloc _) ⟨wr.heap.size, 0, none⟩ 1 1 [.int .i64 j, .int .u64 (V (512 * k + j))] rfl rfl (two_new wr _ _ _) (by intro u hu; simp at hu; rcases hu with rfl | rfl <;> rfl) (by unfold maxLen; omega) (by omega) (by have := HG.out.size; simp; omega) ?_; intro v' w2 hown' hgrow2 hnil2)
        go_roundw
        case rel => exact ⟨j + 1, by omega, by go_num, by rw [HC.out, HN.out]; exact hown', grown_row (grown_trans HG.out (World.grownBy_alloc wr _ none)) (show (wr.alloc (.cells #[.int .i64 j, .int .u64 (V (512 * k + j))] 80)).grownBy w2 _ from ⟨hgrow2.os, hgrow2.tape, hgrow2.output, hgrow2.size, hgrow2.block⟩) (fun i hi => (HROW.out.lt i hi).1)⟩
        case measure => simp [intOf]; omega
    · have h512 : j = 512 := by have := HJ.out; omega
      subst h512
      go_wp2_with fail
      go_ret
      exact ⟨_, rfl, HROW.out, HG.out⟩

theorem rwords_any (h : Ref w O R n V) (k : Int) : Calls Try.prog 18 #[.pointer (some ⟨R, 0, none⟩), .int .i64 k] w (Row w (fW n V k)) := by
  obtain ⟨S, pr, h⟩ := h
  unfold fW
  by_cases hk : 0 ≤ k ∧ k < n
  · rw [if_pos hk]
    obtain ⟨i, rfl⟩ := Int.eq_ofNat_of_zero_le hk.1
    cases hp : pr i with
    | none =>
      refine (rwords_none h i (by omega) hp).mono ?_
      rintro e w' ⟨rfl, rfl⟩
      exact row_nil _ _ (fun j hj => h.zero i (by omega) hp j hj)
    | some gc => exact rwords_some h i (by omega) (g := gc.1) (c := gc.2) hp
  · rw [if_neg hk]
    refine (rwords_out h k hk).mono ?_
    rintro e w' ⟨rfl, rfl⟩
    exact row_nil _ _ (fun _ _ => rfl)
end Go.Proofs.Ytablmoegmmeglaa
