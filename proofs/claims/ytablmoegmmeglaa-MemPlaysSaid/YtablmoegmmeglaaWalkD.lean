/- The walks of New; of what no memory answers; of the law's own example (wakes). -/
import Derived.Test.YtablmoegmmeglaaWalkC
import Derived.Carry
namespace Go.Proofs.Ytablmoegmmeglaa
open Go.RowKit
variable {w : World} {O : Nat → Prop} {B n bm : Nat} {V : Nat → Int} {pt : Int → Option Nat}

def none_ : Nat → Prop := fun _ => False
/-- A new memory of n frames at B, all of whose blocks are new. -/
def Made (w : World) (n : Nat) (e : Ending) (w' : World) : Prop :=
  ∃ B O', e = .returned (.tuple #[.pointer (some ⟨B, 0, none⟩), .int .i64 0]) ∧ Fp none_ w w' O' ∧ Mem w' O' B n (fun _ => 0)

theorem mem_new (w : World) (n : Nat) (h1 : 1 ≤ n) (h64 : n ≤ 64) :
    MemI ((w.alloc (.map #[] 0)).alloc (.cells #[.int .i64 n, .map (some w.heap.size)] 70)) (fun k => k = w.heap.size ∨ k = w.heap.size + 1) (w.heap.size + 1) n (fun _ => 0) w.heap.size (fun _ => none) := by
  have hs : (w.alloc (.map #[] 0)).heap.size = w.heap.size + 1 := World.size_alloc _ _
  refine ⟨h1, h64, fun _ => ⟨by show (0 : Int) ≤ 0; omega, by show (0 : Int) ≤ 18446744073709551615; omega⟩, fun _ _ => rfl, fun k hk => ?_, .inr rfl, .inl rfl, ?_, ?_, ⟨fun _ _ h => (by cases h), fun _ _ h => (by cases h), fun _ _ _ _ _ => rfl, fun _ _ _ h => (by cases h)⟩⟩
  · have : ((w.alloc (.map #[] 0)).alloc (.cells #[.int .i64 n, .map (some w.heap.size)] 70)).heap.size = w.heap.size + 2 := by rw [World.size_alloc, hs]
    omega
  · have := Go.heap_alloc_new (w.alloc (.map #[] 0)) (.cells #[.int .i64 n, .map (some w.heap.size)] 70)
    rw [hs] at this
    exact this
  · exact (pmap_made w).of_block (Below.heap_alloc _ _ _ (by rw [hs]; omega))

theorem new_in (n : Nat) (w : World) (h1 : 1 ≤ n) (h64 : n ≤ 64) : Calls Try.prog 11 #[.int .i64 n] w (Made w n) := by
  have hm := Lib.hid (mem_new w n h1 h64)
  have hmm := @run_makeMap Try.prog
  go_enter Try.func11, Try.ntmps11
  go_wp2_with fail
  go_ret2
  refine ⟨_, _, rfl, ((Fp.take none_ w (.map #[] 0)).trans (Fp.take _ _ _)), _, _, hm.out.kept (fun _ _ => rfl) (fun k hk => ?_) (fun k hk => ?_)⟩
  · have hs : (w.alloc (.map #[] 0)).heap.size = w.heap.size + 1 := World.size_alloc _ _
    rcases hk with hk | hk
    · exact .inl (.inr hk)
    · exact .inr (by rw [hs]; exact hk)
  · have hs : (w.alloc (.map #[] 0)).heap.size = w.heap.size + 1 := World.size_alloc _ _
    have : ((w.alloc (.map #[] 0)).alloc (.cells #[.int .i64 n, .map (some w.heap.size)] 70)).heap.size = w.heap.size + 2 := by rw [World.size_alloc, hs]
    rcases hk with (hk | hk) | hk
    · exact hk.elim
    · omega
    · omega
theorem new_out (n : Int) (w : World) (h : ¬ (1 ≤ n ∧ n ≤ 64)) : Calls Try.prog 11 #[.int .i64 n] w (Same w (.tuple #[.pointer none, .int .i64 2])) := by
  by_cases h1 : n < 1
  · clear h
    go_enter Try.func11, Try.ntmps11
    go_wp2
    go_ret2
    exact ⟨rfl, rfl⟩
  · have h8 : 64 < n := by omega
    clear h
    go_enter Try.func11, Try.ntmps11
    go_wp2
    go_ret2
    exact ⟨rfl, rfl⟩

theorem words_nil (k : Int) (w : World) : Calls Try.prog 17 #[.pointer none, .int .i64 k] w (Same w (.slice none 0 0)) := by
  go_enter Try.func17, Try.ntmps17
  go_wp2_with fail
  go_ret
  exact ⟨rfl, rfl⟩
theorem copy_nil (w : World) : Calls Try.prog 14 #[.pointer none] w (Same w (.pointer none)) := by
  go_enter Try.func14, Try.ntmps14
  go_wp2_with fail
  go_ret
  exact ⟨rfl, rfl⟩

/-- What a call that writes on no old block leaves. -/
def Law (w : World) (r : Value) (e : Ending) (w' : World) : Prop := e = .returned r ∧ ∃ O', Fp none_ w w' O'
theorem Fp.ofNone {w w' : World} {O' : Nat → Prop} (h : Fp none_ w w' O') (P : Nat → Prop) : Fp P w w' P := ⟨h.os, h.tape, h.output, h.size, fun k hk _ => h.keep k hk (fun c => c), fun _ h => .inl h⟩

set_option maxHeartbeats 1000000 in
theorem wakes_true (w : World) : Calls Try.prog 10 #[] w (Law w (.bool true)) := by
  go_enter Try.func10, Try.ntmps10
  go_wp2_with (go_at_call 11; refine (new_in 4 _ (by omega) (by omega)).mono ?_; rintro e w' ⟨B, O, rfl, hf, hm⟩)
  have HF := Lib.hid hf
  have HM := Lib.hid hm
  clear hf hm
  go_wp2_with (go_at_call 15; refine (write_any HM.out 513 7 (by omega) (by omega)).mono ?_; rintro e w1 ⟨rfl, O1, hf1, hm1⟩)
  have HF1 := Lib.hid (HF.out.trans hf1)
  have HM1 := Lib.hid hm1
  clear hf1 hm1 HF HM
  rw [show errW 4 513 = 0 from rfl]
  go_wp2_with (go_at_call 22; refine (reach_any HM1.out 3 0 0 1 2 (by omega) (by omega) (by omega)).mono ?_; rintro e w2 ⟨rfl, O2, hf2, hm2⟩)
  have HF2 := Lib.hid (HF1.out.trans hf2)
  have HM2 := Lib.hid hm2
  clear hf2 hm2 HF1 HM1
  rw [show errReach 4 3 0 1 2 = 0 from rfl]
  go_wp2_with (go_at_call 20; refine (read_any HM2.out 1025 (by omega)).mono ?_; rintro e w3 ⟨rfl, rfl⟩)
  rw [show errW 4 1025 = 0 from rfl, show vReach 4 (vWrite 4 (fun _ => 0) 513 7) 3 0 0 1 2 1025 = 7 from rfl]
  go_wp2_with (go_at_call 21; refine (add_any HM2.out 0 1 (by omega) (by omega)).mono ?_; rintro e w4 ⟨rfl, O4, hf4, hm4⟩)
  have HF4 := Lib.hid (HF2.out.trans hf4)
  have HM4 := Lib.hid hm4
  clear hf4 hm4 HF2 HM2
  rw [show errW 4 0 = 0 from rfl, show vReach 4 (vWrite 4 (fun _ => 0) 513 7) 3 0 0 1 2 0 = 0 from rfl]
  go_wp2_with (go_at_call 21; refine (add_any HM4.out 0 1 (by omega) (by omega)).mono ?_; rintro e w5 ⟨rfl, O5, hf5, hm5⟩)
  have HF5 := Lib.hid (HF4.out.trans hf5)
  have HM5 := Lib.hid hm5
  clear hf5 hm5 HF4 HM4
  rw [show errW 4 0 = 0 from rfl, show vAdd 4 (vReach 4 (vWrite 4 (fun _ => 0) 513 7) 3 0 0 1 2) 0 1 0 = 1 from rfl]
  go_wp2_with (go_at_call 20; refine (read_any HM5.out 0 (by omega)).mono ?_; rintro e w6 ⟨rfl, rfl⟩)
  rw [show errW 4 0 = 0 from rfl]
  go_ret
  exact ⟨rfl, _, HF5.out⟩
end Go.Proofs.Ytablmoegmmeglaa
