/- The walk of the law ExclAlone: it returns true and turns nothing that was there. -/
import Derived.Test.YtpcihiggmbidmaaNew
namespace Go.Proofs.Ytpcihiggmbidmaa
open Go.RowKit
theorem tmod_bd (x m : Int) (h : 0 < m) : -m < x.tmod m ∧ x.tmod m < m := ⟨Int.lt_tmod_of_pos x h, Int.tmod_lt_of_pos x h⟩

theorem is_after (n : Int) (f : Nat → Option Int) (c b x : Int) (p : Int → Bool) (hc : 1 ≤ c ∧ c ≤ n) (hb : 1 ≤ b ∧ b ≤ n) :
    isAt (fLose n (fSet n f c x) b p c.toNat) x = (b == c || !p x) := by
  unfold fLose fSet
  rw [if_pos hb, if_pos hc]
  unfold pLose upd
  simp only [if_pos]
  by_cases e : b = c
  · subst e
    rw [if_pos rfl, isAt_some]
    simp
  · have e1 : ¬ c.toNat = b.toNat := by omega
    rw [if_neg e1]
    have e2 : (b == c) = false := by simpa using e
    rw [e2]
    cases hp : p x
    · simp [hp, Option.filter, isAt_some]
    · simp [hp, Option.filter, isAt_none]
theorem is_wrote (n : Int) (f : Nat → Option Int) (c b x y : Int) (hc : 1 ≤ c ∧ c ≤ n) (hb : 1 ≤ b ∧ b ≤ n) :
    isAt (fLose n (fSet n f c x) b (wordIs y) c.toNat) x = (b == c || y != x) := by
  rw [is_after n f c b x _ hc hb]
  unfold wordIs
  rw [show (x == y) = (y == x) from by rw [Bool.eq_iff_iff, beq_iff_eq, beq_iff_eq]; exact eq_comm]
  rfl
theorem is_block (n : Int) (f : Nat → Option Int) (c b x fr : Int) (hc : 1 ≤ c ∧ c ≤ n) (hb : 1 ≤ b ∧ b ≤ n) (hf : 0 ≤ fr ∧ fr ≤ 1048576) :
    isAt (fBlock n (fSet n f c x) b fr c.toNat) x = (b == c || x / 512 != fr) := by
  unfold fBlock
  rw [if_pos hf, is_after n f c b x _ hc hb]
  rfl

theorem errB_in {n c fr : Int} (h : 1 ≤ c ∧ c ≤ n) (hf : 0 ≤ fr ∧ fr ≤ 1048576) : errB n c fr = 0 := by unfold errB; rw [if_pos hf, err_in h]
set_option maxHeartbeats 400000 in
theorem alone_walk (word other core by_ frame : Int) (w0 : (Lit.int .u64 word).wf = true) (w1 : (Lit.int .u64 other).wf = true) (w2 : (Lit.int .i64 core).wf = true) (w3 : (Lit.int .i64 by_).wf = true) (w4 : (Lit.int .i64 frame).wf = true) (w : World) :
    Calls Try.prog 3 #[.int .u64 word, .int .u64 other, .int .i64 core, .int .i64 by_, .int .i64 frame] w (Nil w (.bool true)) := by
  have hw := bounds_u64 w0
  have ho := bounds_u64 w1
  have hc := bounds_i64 w2
  have hb := bounds_i64 w3
  have hf := bounds_i64 w4
  clear w0 w1 w2 w3 w4
  have t1 := tmod_bd core 8 (by omega)
  have t2 := tmod_bd by_ 8 (by omega)
  have t3 := tmod_bd frame 1048576 (by omega)
  go_enter Try.func3, Try.ntmps3
  go_wp2_with fail
  refine (new_in 8 w (by omega) (by omega)).mono ?_
  rintro e w1 ⟨rfl, hm1, hg1⟩
  have H1 := Lib.hid hm1
  clear hm1
  go_wp2_with fail
  generalize hcc : 1 + core.tmod 8 % 8 = c
  generalize hbb : 1 + by_.tmod 8 % 8 = b
  generalize hff : frame.tmod 1048576 % 1048576 = fr
  have c1 : 1 ≤ c := by omega
  have c2 : c ≤ 8 := by omega
  have b1 : 1 ≤ b := by omega
  have b2 : b ≤ 8 := by omega
  have f1 : 0 ≤ fr := by omega
  have f2 : fr ≤ 1048575 := by omega
  clear hcc hbb hff t1 t2 t3 hc hb hf
  refine (set_any H1.out c word hw).mono ?_
  rintro e w2 ⟨rfl, hm2, hg2⟩
  rw [err_in ⟨c1, c2⟩]
  have H2 := Lib.hid hm2
  clear hm2
  go_wp2_with fail
  refine (wrote_any H2.out b other).mono ?_
  rintro e w3 ⟨rfl, hm3, hg3⟩
  rw [err_in ⟨b1, b2⟩]
  have H3 := Lib.hid hm3
  clear hm3
  go_wp2_with fail
  refine (is_any H3.out c word).mono ?_
  rintro e w' ⟨rfl, rfl⟩
  rw [is_wrote 8 _ c b word other ⟨c1, c2⟩ ⟨b1, b2⟩]
  go_wp2_with fail
  all_goals
    refine (set_any H3.out c word hw).mono ?_
    rintro e w4 ⟨rfl, hm4, hg4⟩
    rw [err_in ⟨c1, c2⟩]
    have H4 := Lib.hid hm4
    clear hm4
    go_wp2_with fail
    refine (block_any H4.out _ fr).mono ?_
    rintro e w5 ⟨rfl, hm5, hg5⟩
    rw [errB_in (by omega) (by omega)]
    have H5 := Lib.hid hm5
    clear hm5
    go_wp2_with fail
    refine (is_any H5.out c word).mono ?_
    rintro e w' ⟨rfl, rfl⟩
    rw [is_block 8 _ c _ word fr ⟨c1, c2⟩ (by omega) (by omega)]
    go_wp2_with fail
  all_goals
    refine (wakes_true w5).mono ?_
    rintro e w6 ⟨rfl, hg6⟩
    go_wp2_with fail
    go_ret
    exact ⟨rfl, grown_trans (grown_new (grown_new (grown_new (grown_new hg1 hg2 (Nat.le_refl _)) hg3 (Nat.le_refl _)) hg4 (Nat.le_refl _)) hg5 (Nat.le_refl _)) hg6⟩
end Go.Proofs.Ytpcihiggmbidmaa
