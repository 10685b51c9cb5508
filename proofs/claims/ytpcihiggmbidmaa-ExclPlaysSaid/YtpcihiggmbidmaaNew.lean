/- New monitors; what no monitors answer; what the law's own example of a few writes answers. -/
import Derived.Test.YtpcihiggmbidmaaAll
namespace Go.Proofs.Ytpcihiggmbidmaa
open Go.RowKit
variable {w : World} {B : Nat} {n : Int} {f : Nat → Option Int}

def Made (w : World) (n : Int) (e : Ending) (w' : World) : Prop :=
  e = .returned (.tuple #[.pointer (some ⟨w.heap.size, 0, none⟩), .int .i64 0]) ∧ Mon w' w.heap.size n (fun _ => none) ∧ w.grownBy w' none

theorem mon_new (w : World) (n : Int) (h1 : 1 ≤ n) (h8 : n ≤ 8) :
    Mon (w.alloc (.cells #[.int .i64 n, .pointer none, .pointer none, .pointer none, .pointer none, .pointer none, .pointer none, .pointer none, .pointer none, .pointer none] 55)) w.heap.size n (fun _ => none) := by
  refine ⟨h1, h8, fun _ _ => rfl, _, Go.heap_alloc_new w _, rfl, rfl, fun c hc => ?_⟩
  refine ⟨.pointer none, ?_, rfl⟩
  match c, hc with
  | 0, _ => rfl
  | 1, _ => rfl
  | 2, _ => rfl
  | 3, _ => rfl
  | 4, _ => rfl
  | 5, _ => rfl
  | 6, _ => rfl
  | 7, _ => rfl
  | 8, _ => rfl

theorem new_in (n : Int) (w : World) (h1 : 1 ≤ n) (h8 : n ≤ 8) : Calls Try.prog 7 #[.int .i64 n] w (Made w n) := by
  have hm := Lib.hid (mon_new w n h1 h8)
  go_enter Try.func7, Try.ntmps7
  go_wp2
  go_ret2
  exact ⟨rfl, hm.out, World.grownBy_alloc w _ _⟩
theorem new_out (n : Int) (w : World) (h : ¬ (1 ≤ n ∧ n ≤ 8)) : Calls Try.prog 7 #[.int .i64 n] w (Same w (.tuple #[.pointer none, .int .i64 2])) := by
  by_cases h1 : n < 1
  · clear h
    go_enter Try.func7, Try.ntmps7
    go_wp2
    go_ret2
    exact ⟨rfl, rfl⟩
  · have h8 : 8 < n := by omega
    clear h
    go_enter Try.func7, Try.ntmps7
    go_wp2
    go_ret2
    exact ⟨rfl, rfl⟩

def Nil (w : World) (r : Value) (e : Ending) (w' : World) : Prop := e = .returned r ∧ w.grownBy w' none
theorem set_nil (c x : Int) (w : World) : Calls Try.prog 8 #[.pointer none, .int .i64 c, .int .u64 x] w (Nil w (.int .i64 1)) := by
  go_enter Try.func8, Try.ntmps8
  go_wp2_with (go_at_call 19; refine (core_nil _ _).mono ?_; rintro e w' ⟨rfl, rfl⟩)
  go_ret
  exact ⟨rfl, World.grownBy_alloc w _ _⟩
theorem clear_nil (c : Int) (w : World) : Calls Try.prog 13 #[.pointer none, .int .i64 c] w (Nil w (.int .i64 1)) := by
  go_enter Try.func13, Try.ntmps13
  go_wp2_with (go_at_call 19; refine (core_nil _ _).mono ?_; rintro e w' ⟨rfl, rfl⟩)
  go_ret
  exact ⟨rfl, grown_refl _ _⟩
theorem is_nil (c x : Int) (w : World) : Calls Try.prog 10 #[.pointer none, .int .i64 c, .int .u64 x] w (Nil w (.bool false)) := by
  go_enter Try.func10, Try.ntmps10
  go_wp2_with (go_at_call 16; refine (of_nil _ _).mono ?_; rintro e w' ⟨rfl, rfl⟩)
  go_ret
  exact ⟨rfl, grown_refl _ _⟩
theorem wrote_nil (c x : Int) (w : World) : Calls Try.prog 9 #[.pointer none, .int .i64 c, .int .u64 x] w (Nil w (.int .i64 1)) := by
  have hmf : ∀ (fn : Fn) (first cap : Array Value) (w : World), (Instr.makeFunc fn first cap).run Try.prog w = .ok (.func fn first cap) w := fun _ _ _ _ => rfl
  go_enter Try.func9, Try.ntmps9
  go_wp2_with (go_at_call 20; refine (lose_nil _ _).mono ?_; rintro e w' ⟨rfl, rfl⟩)
  go_ret
  exact ⟨rfl, World.grownBy_alloc w _ _⟩
theorem block_nil (c x : Int) (w : World) : Calls Try.prog 11 #[.pointer none, .int .i64 c, .int .i64 x] w (Nil w (.int .i64 1)) := by
  have hmf : ∀ (fn : Fn) (first cap : Array Value) (w : World), (Instr.makeFunc fn first cap).run Try.prog w = .ok (.func fn first cap) w := fun _ _ _ _ => rfl
  go_enter Try.func11, Try.ntmps11
  go_wp2_with (go_at_call 20; refine (lose_nil _ _).mono ?_; rintro e w' ⟨rfl, rfl⟩)
  go_ret
  exact ⟨rfl, World.grownBy_alloc w _ _⟩
theorem reach_nil (c kd word val from_ fr : Int) (w : World) :
    Calls Try.prog 18 #[.pointer none, .int .i64 c, .agg #[.int .i8 kd, .int .u64 word, .int .u64 val, .int .i64 from_, .int .i64 fr]] w (Nil w (.int .i64 1)) := by
  by_cases k0 : kd = 0
  · subst k0
    go_enter Try.func18, Try.ntmps18
    go_wp2_with (go_at_call 9; refine (wrote_nil _ _ _).mono ?_; rintro e w' ⟨rfl, hg⟩)
    go_ret
    exact ⟨rfl, grown_trans (World.grownBy_alloc w _ _) hg⟩
  · by_cases k2 : kd = 2
    · subst k2
      clear k0
      go_enter Try.func18, Try.ntmps18
      go_wp2_with (go_at_call 11; refine (block_nil _ _ _).mono ?_; rintro e w' ⟨rfl, hg⟩)
      go_ret
      exact ⟨rfl, grown_trans (World.grownBy_alloc w _ _) hg⟩
    · by_cases k3 : kd = 3
      · subst k3
        clear k0 k2
        go_enter Try.func18, Try.ntmps18
        go_wp2_with (go_at_call 11; refine (block_nil _ _ _).mono ?_; rintro e w' ⟨rfl, hg⟩)
        go_ret
        exact ⟨rfl, grown_trans (World.grownBy_alloc w _ _) hg⟩
      · by_cases k1 : kd = 1
        · subst k1
          clear k0 k2 k3
          go_enter Try.func18, Try.ntmps18
          go_wp2_with (go_at_call 19; refine (core_nil _ _).mono ?_; rintro e w' ⟨rfl, rfl⟩)
          go_ret
          exact ⟨rfl, World.grownBy_alloc w _ _⟩
        · have e0 : (kd == 0) = false := by simpa using k0
          have e1 : (kd == 1) = false := by simpa using k1
          have e2 : (kd == 2) = false := by simpa using k2
          have e3 : (kd == 3) = false := by simpa using k3
          clear k0 k1 k2 k3
          go_enter Try.func18, Try.ntmps18
          go_wp2_with fail
          go_ret
          exact ⟨rfl, World.grownBy_alloc w _ _⟩

theorem e21 : err 2 1 = 0 := by decide
theorem e22 : err 2 2 = 0 := by decide
theorem eb2 : errB 2 2 1 = 0 := by decide
theorem own_is : isAt (fLose 2 (fSet 2 (fun _ => none) 1 5) 1 (wordIs 5) (Int.toNat 1)) 5 = true := by decide
theorem end_not : isAt (fBlock 2 (fSet 2 (fLose 2 (fLose 2 (fSet 2 (fun _ => none) 1 5) 1 (wordIs 5)) 2 (wordIs 5)) 1 513) 2 1 (Int.toNat 1)) 513 = false := by decide

theorem wakes_true (w : World) : Calls Try.prog 12 #[] w (Nil w (.bool true)) := by
  go_enter Try.func12, Try.ntmps12
  go_wp2_with fail
  refine (new_in 2 w (by omega) (by omega)).mono ?_
  rintro e w1 ⟨rfl, hm1, hg1⟩
  have H1 := Lib.hid hm1
  clear hm1
  go_wp2_with fail
  refine (set_any H1.out 1 5 (by omega)).mono ?_
  rintro e w2 ⟨rfl, hm2, hg2⟩
  rw [e21]
  have H2 := Lib.hid hm2
  clear hm2
  go_wp2_with fail
  refine (wrote_any H2.out 1 5).mono ?_
  rintro e w3 ⟨rfl, hm3, hg3⟩
  rw [e21]
  have H3 := Lib.hid hm3
  clear hm3
  go_wp2_with fail
  refine (is_any H3.out 1 5).mono ?_
  rintro e w' ⟨rfl, rfl⟩
  rw [own_is]
  go_wp2_with fail
  refine (wrote_any H3.out 2 5).mono ?_
  rintro e w4 ⟨rfl, hm4, hg4⟩
  rw [e22]
  have H4 := Lib.hid hm4
  clear hm4
  go_wp2_with fail
  refine (set_any H4.out 1 513 (by omega)).mono ?_
  rintro e w5 ⟨rfl, hm5, hg5⟩
  rw [e21]
  have H5 := Lib.hid hm5
  clear hm5
  go_wp2_with fail
  refine (block_any H5.out 2 1).mono ?_
  rintro e w6 ⟨rfl, hm6, hg6⟩
  rw [eb2]
  have H6 := Lib.hid hm6
  clear hm6
  go_wp2_with fail
  refine (is_any H6.out 1 513).mono ?_
  rintro e w' ⟨rfl, rfl⟩
  rw [end_not]
  go_wp2_with fail
  go_ret
  exact ⟨rfl, grown_new (grown_new (grown_new (grown_new (grown_new hg1 hg2 (Nat.le_refl _)) hg3 (Nat.le_refl _)) hg4 (Nat.le_refl _)) hg5 (Nat.le_refl _)) hg6 (Nat.le_refl _)⟩
end Go.Proofs.Ytpcihiggmbidmaa
