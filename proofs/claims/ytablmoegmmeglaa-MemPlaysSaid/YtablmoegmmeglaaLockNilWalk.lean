/- The walks of the lock's own example (wakes) and of LockNil. -/
import Derived.Test.YtablmoegmmeglaaLock
namespace Go.Proofs.Ytablmoegmmeglaa
open Go.RowKit
variable {w : World} {O : Nat → Prop} {B n bm : Nat} {V : Nat → Int} {pt : Int → Option Nat}

theorem mem_grown {w' : World} (h : Mem w O B n V) (hg : w.grownBy w' none) : Mem w' O B n V := h.apart (Fp.grown0 (O := none_) hg) (fun _ _ c => c)

def vA : Nat → Int := vAdd 1 (fun _ => 0) 0 1
def vB : Nat → Int := vAdd 1 vA 0 1
def vC : Nat → Int := vReach 1 vB 0 1 1 0 0

set_option maxHeartbeats 1000000 in
theorem wakes18_true (w : World) : Calls Try.prog 23 #[] w (Law w (.bool true)) := by
  go_enter Try.func23, Try.ntmps23
  go_wp2_with fail
  refine (new_in 1 _ (by omega) (by omega)).mono ?_
  rintro e w' ⟨B, O, rfl, hf, hm⟩
  have HF := Lib.hid hf
  have HM := Lib.hid hm
  clear hf hm
  go_wp2_with fail
  refine (take_any HM.out).mono ?_
  rintro e w1 ⟨rfl, O1, hf1, hm1⟩
  have HF := Lib.hid (HF.out.trans hf1)
  have HM : Hid (Mem w1 O1 B 1 vA) := Lib.hid hm1
  clear hf1 hm1
  go_wp2_with fail
  refine (take_any HM.out).mono ?_
  rintro e w2 ⟨rfl, O2, hf2, hm2⟩
  have HF := Lib.hid (HF.out.trans hf2)
  have HM : Hid (Mem w2 O2 B 1 vB) := Lib.hid hm2
  clear hf2 hm2
  rw [show vA 0 = 1 from rfl]
  go_wp2_with fail
  refine (served_any HM.out 0).mono ?_
  rintro e w3 ⟨rfl, hg⟩
  have HF := Lib.hid (HF.out.trans (Fp.grown0 hg))
  have HM := Lib.hid (mem_grown HM.out hg)
  clear hg
  rw [show (vB 1 == 0) = true from rfl]
  go_wp2_with fail
  refine (served_any HM.out 1).mono ?_
  rintro e w4 ⟨rfl, hg⟩
  have HF := Lib.hid (HF.out.trans (Fp.grown0 hg))
  have HM := Lib.hid (mem_grown HM.out hg)
  clear hg
  rw [show (vB 1 == 1) = false from rfl]
  go_wp2_with fail
  refine (pass_any HM.out).mono ?_
  rintro e w5 ⟨rfl, hg⟩
  have HF := Lib.hid (HF.out.trans (Fp.grown0 hg))
  have HM := Lib.hid (mem_grown HM.out hg)
  clear hg
  rw [show wrapU (vB 1 + 1) = 1 from rfl]
  go_wp2_with fail
  have HF := Lib.hid (HF.out.trans (Fp.alloc _ _ (.cells #[.int .i8 0, .int .u64 1, .int .u64 1, .int .i64 0, .int .i64 0] 35)))
  have HM := Lib.hid (HM.out.alloc (.cells #[.int .i8 0, .int .u64 1, .int .u64 1, .int .i64 0, .int .i64 0] 35))
  refine (reach_any HM.out 0 1 1 0 0 (by omega) (by omega) (by omega)).mono ?_
  rintro e w6 ⟨rfl, O6, hf6, hm6⟩
  have HF := Lib.hid (HF.out.trans hf6)
  have HM : Hid (Mem w6 O6 B 1 vC) := Lib.hid hm6
  clear hf6 hm6
  rw [show errReach 1 0 1 0 0 = 0 from rfl]
  go_wp2_with fail
  refine (served_any HM.out 1).mono ?_
  rintro e w7 ⟨rfl, hg⟩
  have HF := Lib.hid (HF.out.trans (Fp.grown0 hg))
  have HM := Lib.hid (mem_grown HM.out hg)
  clear hg
  rw [show (vC 1 == 1) = true from rfl]
  go_wp2_with fail
  refine (waiting_any HM.out).mono ?_
  rintro e w8 ⟨rfl, hg⟩
  have HF := Lib.hid (HF.out.trans (Fp.grown0 hg))
  clear hg
  rw [show wrapU (vC 0 - vC 1) = 1 from rfl]
  go_wp2_with fail
  go_ret
  exact ⟨rfl, _, HF.out⟩

set_option maxHeartbeats 1000000 in
theorem locknil_walk (t : Int) (w : World) : Calls Try.prog 8 #[.int .u64 t] w (Law w (.bool true)) := by
  go_enter Try.func8, Try.ntmps8
  go_wp2_with (first | (go_at_call 25; refine (take_nil _).mono ?_; rintro e w' ⟨rfl, rfl⟩) | (go_at_call 27; refine (pass_nil _).mono ?_; rintro e w1 ⟨rfl, h1⟩))
  refine (served_nil _ _).mono ?_
  rintro e w2 ⟨rfl, h2⟩
  go_wp2_with fail
  refine (waiting_nil _).mono ?_
  rintro e w3 ⟨rfl, h3⟩
  go_wp2_with fail
  refine (wakes18_true _).mono ?_
  rintro e w4 ⟨rfl, O, h4⟩
  go_wp2_with fail
  go_ret
  exact ⟨rfl, _, (Fp.grown0 (O := none_) (grown0_trans (grown0_trans (grown0_trans h1 (World.grownBy_alloc _ _ _)) h2) h3)).trans h4⟩
end Go.Proofs.Ytablmoegmmeglaa
