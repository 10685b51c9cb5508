/- The walk of the law ExclNil: no monitors answer no monitors' answers. -/
import Derived.Test.YtpcihiggmbidmaaNew
namespace Go.Proofs.Ytpcihiggmbidmaa
open Go.RowKit

set_option maxHeartbeats 400000 in
theorem nil_walk (core word kd ew ev ef er : Int) (w : World) :
    Calls Try.prog 6 #[.int .i64 core, .int .u64 word, .agg #[.int .i8 kd, .int .u64 ew, .int .u64 ev, .int .i64 ef, .int .i64 er]] w (Nil w (.bool true)) := by
  go_enter Try.func6, Try.ntmps6
  go_wp2_with fail
  refine (of_nil _ _).mono ?_
  rintro e w' ⟨rfl, rfl⟩
  go_wp2_with fail
  refine (set_nil _ _ _).mono ?_
  rintro e w1 ⟨rfl, h1⟩
  go_wp2_with fail
  refine (clear_nil _ _).mono ?_
  rintro e w2 ⟨rfl, h2⟩
  go_wp2_with fail
  refine (wrote_nil _ _ _).mono ?_
  rintro e w3 ⟨rfl, h3⟩
  go_wp2_with fail
  refine (block_nil _ _ _).mono ?_
  rintro e w4 ⟨rfl, h4⟩
  have hall := grown_trans (grown_trans (grown_trans h1 h2) h3) h4
  have hb := (hall.block w.heap.size (by simp) (by simp)).trans (Go.heap_alloc_new w _)
  have q : ∀ j, w4.cell? ⟨w.heap.size, j, none⟩ = (#[Value.int .i8 kd, .int .u64 ew, .int .u64 ev, .int .i64 ef, .int .i64 er] : Array Value)[j]? := fun j => cell_of_row w4 _ j _ _ _ hb
  have q0 := q 0
  have q1 := q 1
  have q2 := q 2
  have q3 := q 3
  have q4 := q 4
  clear q hb
  have HA := Lib.hid hall
  clear hall
  go_wp2_with fail
  refine (reach_nil _ _ _ _ _ _ _).mono ?_
  rintro e w5 ⟨rfl, h5⟩
  go_wp2_with fail
  refine (is_nil _ _ _).mono ?_
  rintro e w6 ⟨rfl, h6⟩
  go_wp2_with fail
  refine (wakes_true _).mono ?_
  rintro e w7 ⟨rfl, h7⟩
  go_wp2_with fail
  go_ret
  exact ⟨rfl, grown_trans (grown_trans (grown_trans (grown_trans (World.grownBy_alloc w _ _) HA.out) h5) h6) h7⟩
end Go.Proofs.Ytpcihiggmbidmaa
