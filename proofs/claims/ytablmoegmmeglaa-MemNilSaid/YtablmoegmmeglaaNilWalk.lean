/- The walk of MemNil. -/
import Derived.Test.YtablmoegmmeglaaWalkD
namespace Go.Proofs.Ytablmoegmmeglaa
open Go.RowKit
set_option maxHeartbeats 1000000 in
theorem nil_walk (x v kd ew ev ef er : Int) (w : World) :
    Calls Try.prog 4 #[.int .u64 x, .int .u64 v, .agg #[.int .i8 kd, .int .u64 ew, .int .u64 ev, .int .i64 ef, .int .i64 er]] w (Law w (.bool true)) := by
  go_enter Try.func4, Try.ntmps4
  go_wp2_with (first | (go_at_call 20; refine (read_nil _ _).mono ?_; rintro e w' ⟨rfl, rfl⟩) | (go_at_call 21; refine (add_nil _ _ _).mono ?_; rintro e w' ⟨rfl, rfl⟩) | (go_at_call 15; refine (write_nil _ _ _).mono ?_; rintro e w' ⟨rfl, rfl⟩) | (go_at_call 22; refine (reach_nil _ _ _ _ _ _).mono ?_; rintro e w' ⟨rfl, o, rfl⟩) | (go_at_call 19; refine (frames_nil _).mono ?_; rintro e w' ⟨rfl, rfl⟩) | (go_at_call 17; refine (words_nil _ _).mono ?_; rintro e w' ⟨rfl, rfl⟩) | (go_at_call 14; refine (copy_nil _).mono ?_; rintro e w' ⟨rfl, rfl⟩) | (go_at_call 10; refine (wakes_true _).mono ?_; rintro e w' ⟨rfl, O, hf⟩))
  go_ret
  exact ⟨rfl, _, ((Fp.alloc none_ w _).trans (Fp.alloc _ _ _)).trans hf⟩
end Go.Proofs.Ytablmoegmmeglaa
