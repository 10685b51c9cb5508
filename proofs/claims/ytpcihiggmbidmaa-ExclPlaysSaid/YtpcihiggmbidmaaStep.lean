/- The walks of the law's step, one for each kind of act. -/
import Derived.Test.YtpcihiggmbidmaaRefB
import Derived.Deep.RegionHeld3
namespace Go.Proofs.Ytpcihiggmbidmaa
open Go.RowKit
variable {w : World} {B R : Nat} {n : Int} {f : Nat → Option Int}

/-- The monitors of the program and of the reference, side by side. -/
def Both (w : World) (B R : Nat) (n : Int) (f : Nat → Option Int) : Prop := Mon w B n f ∧ RMon w R n f
/-- What a step leaves: true, and both as they should be; nothing else that was there has turned. -/
def Stepped (w : World) (B R : Nat) (n : Int) (e : Ending) (w' : World) : Prop :=
  e = .returned (.bool true) ∧ (∃ f', Both w' B R n f') ∧ ∀ base, base ≤ B → base ≤ R → base ≤ w.heap.size → Below base w w'

theorem Mon.kept_r {w' : World} {g : Nat → Option Int} (h : Mon w B n f) (hr : RMon w R n g) (hg : w.grownBy w' (some R)) : Mon w' B n f := by
  refine h.kept (hg.block B h.lt (by have := h.type_ne hr.row (by omega); simpa using this)) fun b _ x hb => (hg.block b (lt_of_block hb) ?_).trans hb
  intro e
  cases e
  obtain ⟨c, hb', _⟩ := hr.row
  rw [hb] at hb'
  simp at hb'
theorem RMon.kept_m {w' : World} {g : Nat → Option Int} (hr : RMon w R n g) (h : Mon w B n f) (hg : w.grownBy w' (some B)) : RMon w' R n g :=
  hr.kept (hg.block R hr.lt (by have := h.type_ne hr.row (by omega); simpa using fun e => this e.symm))

theorem below_new {w w1 w2 w3 : World} {B R : Nat} {r : Option Nat} (h1 : w.grownBy w1 r) (hr : r = none) (h2 : w1.grownBy w2 (some B)) (h3 : w2.grownBy w3 (some R)) : ∀ base, base ≤ B → base ≤ R → base ≤ w.heap.size → Below base w w3 := by
  subst hr
  intro base hB hR hs
  exact (((Below.refl base w).grown h1 hs (fun k hk => by cases hk)).grown h2 (Nat.le_trans hs h1.size) (fun k hk => by cases hk; exact hB)).grown h3 (Nat.le_trans hs (Nat.le_trans h1.size h2.size)) (fun k hk => by cases hk; exact hR)

set_option maxHeartbeats 400000 in
theorem step_set (h : Both w B R n f) (core word frame kd ew ev ef er : Int) (hw : 0 ≤ word ∧ word ≤ 18446744073709551615) :
    Calls Try.prog 15 #[.pointer (some ⟨B, 0, none⟩), .pointer (some ⟨R, 0, none⟩), .agg #[.int .i64 0, .int .i64 core, .int .u64 word, .int .i64 frame, .int .i8 kd, .int .u64 ew, .int .u64 ev, .int .i64 ef, .int .i64 er]] w (Stepped w B R n) := by
  have H1 := Lib.hid h.1
  have H2 := Lib.hid h.2
  have hBs := H1.out.lt
  have hRs := H2.out.lt
  clear h
  go_enter Try.func15, Try.ntmps15
  go_wp2_with fail
  go_region_held3 (fun w' => w'.cell? ⟨w.heap.size, 1, none⟩ = some (.int .i64 core) ∧ w'.cell? ⟨w.heap.size, 2, none⟩ = some (.int .u64 word)) (go_keep)
    (first
      | (go_at_call 8
         refine (set_any ((H1.out.alloc _).drew) core word hw).mono ?_
         rintro e w1 ⟨rfl, hm1, hg1⟩
         have q1 : w1.cell? ⟨w.heap.size, 1, none⟩ = some (.int .i64 core) := hg1.cell (a := ⟨w.heap.size, 1, none⟩) (by simp [go_sem]) (by simp; omega)
         have q2 : w1.cell? ⟨w.heap.size, 2, none⟩ = some (.int .u64 word) := hg1.cell (a := ⟨w.heap.size, 2, none⟩) (by simp [go_sem]) (by simp; omega)
         have hr1 := Lib.hid (((H2.out.alloc _).drew).kept_m ((H1.out.alloc _).drew) hg1)
         have HM1 := Lib.hid hm1
         have HG1 := Lib.hid hg1
         clear hm1 hg1)
      | (go_at_call 23
         refine (rset_any hr1.out core word hw).mono ?_
         rintro e w2 ⟨rfl, hm2, hg2⟩
         have r1 : w2.cell? ⟨w.heap.size, 1, none⟩ = some (.int .i64 core) := hg2.cell q1 (by simp; omega)
         have r2 : w2.cell? ⟨w.heap.size, 2, none⟩ = some (.int .u64 word) := hg2.cell q2 (by simp; omega)
         have HM2 := Lib.hid hm2
         have HG2 := Lib.hid hg2
         clear hm2 hg2))
  go_wp2
  go_ret
  exact ⟨by simp, ⟨_, HM1.out.kept_r hr1.out HG2.out, HM2.out⟩, below_new (grown_trans (World.grownBy_alloc w _ none) (grown_drew _ none)) rfl HG1.out HG2.out⟩

set_option maxHeartbeats 400000 in
theorem step_clear (h : Both w B R n f) (core word frame kd ew ev ef er : Int) (_hw : 0 ≤ word ∧ word ≤ 18446744073709551615) :
    Calls Try.prog 15 #[.pointer (some ⟨B, 0, none⟩), .pointer (some ⟨R, 0, none⟩), .agg #[.int .i64 1, .int .i64 core, .int .u64 word, .int .i64 frame, .int .i8 kd, .int .u64 ew, .int .u64 ev, .int .i64 ef, .int .i64 er]] w (Stepped w B R n) := by
  have H1 := Lib.hid h.1
  have H2 := Lib.hid h.2
  have hBs := H1.out.lt
  have hRs := H2.out.lt
  clear h
  go_enter Try.func15, Try.ntmps15
  go_wp2_with fail
  go_region_held3 (fun w' => w'.cell? ⟨w.heap.size, 1, none⟩ = some (.int .i64 core)) (go_keep)
    (first
      | (go_at_call 13
         refine (clear_any ((H1.out.alloc _).drew) core).mono ?_
         rintro e w1 ⟨rfl, hm1, hg1⟩
         have q1 : w1.cell? ⟨w.heap.size, 1, none⟩ = some (.int .i64 core) := hg1.cell (a := ⟨w.heap.size, 1, none⟩) (by simp [go_sem]) (by simp; omega)
         have hr1 := Lib.hid (((H2.out.alloc _).drew).kept_m ((H1.out.alloc _).drew) hg1)
         have HM1 := Lib.hid hm1
         have HG1 := Lib.hid hg1
         clear hm1 hg1)
      | (go_at_call 24
         refine (rclear_any hr1.out core).mono ?_
         rintro e w2 ⟨rfl, hm2, hg2⟩
         have r1 : w2.cell? ⟨w.heap.size, 1, none⟩ = some (.int .i64 core) := hg2.cell q1 (by simp; omega)
         have HM2 := Lib.hid hm2
         have HG2 := Lib.hid hg2
         clear hm2 hg2))
  go_wp2
  go_ret
  exact ⟨by simp, ⟨_, HM1.out.kept_r hr1.out HG2.out, HM2.out⟩, below_new (grown_trans (World.grownBy_alloc w _ none) (grown_drew _ none)) rfl HG1.out HG2.out⟩

set_option maxHeartbeats 400000 in
theorem step_wrote (h : Both w B R n f) (core word frame kd ew ev ef er : Int) (_hw : 0 ≤ word ∧ word ≤ 18446744073709551615) :
    Calls Try.prog 15 #[.pointer (some ⟨B, 0, none⟩), .pointer (some ⟨R, 0, none⟩), .agg #[.int .i64 2, .int .i64 core, .int .u64 word, .int .i64 frame, .int .i8 kd, .int .u64 ew, .int .u64 ev, .int .i64 ef, .int .i64 er]] w (Stepped w B R n) := by
  have H1 := Lib.hid h.1
  have H2 := Lib.hid h.2
  have hBs := H1.out.lt
  have hRs := H2.out.lt
  clear h
  go_enter Try.func15, Try.ntmps15
  go_wp2_with fail
  go_region_held3 (fun w' => w'.cell? ⟨w.heap.size, 1, none⟩ = some (.int .i64 core) ∧ w'.cell? ⟨w.heap.size, 2, none⟩ = some (.int .u64 word)) (go_keep)
    (first
      | (go_at_call 9
         refine (wrote_any ((H1.out.alloc _).drew) core word).mono ?_
         rintro e w1 ⟨rfl, hm1, hg1⟩
         have q1 : w1.cell? ⟨w.heap.size, 1, none⟩ = some (.int .i64 core) := hg1.cell (a := ⟨w.heap.size, 1, none⟩) (by simp [go_sem]) (by simp; omega)
         have q2 : w1.cell? ⟨w.heap.size, 2, none⟩ = some (.int .u64 word) := hg1.cell (a := ⟨w.heap.size, 2, none⟩) (by simp [go_sem]) (by simp; omega)
         have hr1 := Lib.hid (((H2.out.alloc _).drew).kept_m ((H1.out.alloc _).drew) hg1)
         have HM1 := Lib.hid hm1
         have HG1 := Lib.hid hg1
         clear hm1 hg1)
      | (go_at_call 25
         refine (rwrote_any hr1.out core word).mono ?_
         rintro e w2 ⟨rfl, hm2, hg2⟩
         have r1 : w2.cell? ⟨w.heap.size, 1, none⟩ = some (.int .i64 core) := hg2.cell q1 (by simp; omega)
         have r2 : w2.cell? ⟨w.heap.size, 2, none⟩ = some (.int .u64 word) := hg2.cell q2 (by simp; omega)
         have HM2 := Lib.hid hm2
         have HG2 := Lib.hid hg2
         clear hm2 hg2))
  go_wp2
  go_ret
  exact ⟨by simp, ⟨_, HM1.out.kept_r hr1.out HG2.out, HM2.out⟩, below_new (grown_trans (World.grownBy_alloc w _ none) (grown_drew _ none)) rfl HG1.out HG2.out⟩

set_option maxHeartbeats 400000 in
theorem step_block (h : Both w B R n f) (core word frame kd ew ev ef er : Int) (_hw : 0 ≤ word ∧ word ≤ 18446744073709551615) :
    Calls Try.prog 15 #[.pointer (some ⟨B, 0, none⟩), .pointer (some ⟨R, 0, none⟩), .agg #[.int .i64 3, .int .i64 core, .int .u64 word, .int .i64 frame, .int .i8 kd, .int .u64 ew, .int .u64 ev, .int .i64 ef, .int .i64 er]] w (Stepped w B R n) := by
  have H1 := Lib.hid h.1
  have H2 := Lib.hid h.2
  have hBs := H1.out.lt
  have hRs := H2.out.lt
  clear h
  go_enter Try.func15, Try.ntmps15
  go_wp2_with fail
  go_region_held3 (fun w' => w'.cell? ⟨w.heap.size, 1, none⟩ = some (.int .i64 core) ∧ w'.cell? ⟨w.heap.size, 3, none⟩ = some (.int .i64 frame)) (go_keep)
    (first
      | (go_at_call 11
         refine (block_any ((H1.out.alloc _).drew) core frame).mono ?_
         rintro e w1 ⟨rfl, hm1, hg1⟩
         have q1 : w1.cell? ⟨w.heap.size, 1, none⟩ = some (.int .i64 core) := hg1.cell (a := ⟨w.heap.size, 1, none⟩) (by simp [go_sem]) (by simp; omega)
         have q3 : w1.cell? ⟨w.heap.size, 3, none⟩ = some (.int .i64 frame) := hg1.cell (a := ⟨w.heap.size, 3, none⟩) (by simp [go_sem]) (by simp; omega)
         have hr1 := Lib.hid (((H2.out.alloc _).drew).kept_m ((H1.out.alloc _).drew) hg1)
         have HM1 := Lib.hid hm1
         have HG1 := Lib.hid hg1
         clear hm1 hg1)
      | (go_at_call 26
         refine (rblock_any hr1.out core frame).mono ?_
         rintro e w2 ⟨rfl, hm2, hg2⟩
         have r1 : w2.cell? ⟨w.heap.size, 1, none⟩ = some (.int .i64 core) := hg2.cell q1 (by simp; omega)
         have r3 : w2.cell? ⟨w.heap.size, 3, none⟩ = some (.int .i64 frame) := hg2.cell q3 (by simp; omega)
         have HM2 := Lib.hid hm2
         have HG2 := Lib.hid hg2
         clear hm2 hg2))
  go_wp2
  go_ret
  exact ⟨by simp, ⟨_, HM1.out.kept_r hr1.out HG2.out, HM2.out⟩, below_new (grown_trans (World.grownBy_alloc w _ none) (grown_drew _ none)) rfl HG1.out HG2.out⟩

set_option maxHeartbeats 400000 in
theorem step_reach (h : Both w B R n f) (core word frame kd ew ev ef er : Int) (_hw : 0 ≤ word ∧ word ≤ 18446744073709551615) :
    Calls Try.prog 15 #[.pointer (some ⟨B, 0, none⟩), .pointer (some ⟨R, 0, none⟩), .agg #[.int .i64 4, .int .i64 core, .int .u64 word, .int .i64 frame, .int .i8 kd, .int .u64 ew, .int .u64 ev, .int .i64 ef, .int .i64 er]] w (Stepped w B R n) := by
  have H1 := Lib.hid h.1
  have H2 := Lib.hid h.2
  have hBs := H1.out.lt
  have hRs := H2.out.lt
  clear h
  go_enter Try.func15, Try.ntmps15
  go_wp2_with fail
  go_region_held3 (fun w' => w'.cell? ⟨w.heap.size, 1, none⟩ = some (.int .i64 core) ∧ w'.cell? ⟨w.heap.size, 4, none⟩ = some (.int .i8 kd) ∧ w'.cell? ⟨w.heap.size, 5, none⟩ = some (.int .u64 ew) ∧ w'.cell? ⟨w.heap.size, 6, none⟩ = some (.int .u64 ev) ∧ w'.cell? ⟨w.heap.size, 7, none⟩ = some (.int .i64 ef) ∧ w'.cell? ⟨w.heap.size, 8, none⟩ = some (.int .i64 er)) (go_keep)
    (first
      | (go_at_call 18
         refine (reach_any ((H1.out.alloc _).drew) core kd ew ev ef er).mono ?_
         rintro e w1 ⟨rfl, hm1, hg1⟩
         have q1 : w1.cell? ⟨w.heap.size, 1, none⟩ = some (.int .i64 core) := hg1.cell (a := ⟨w.heap.size, 1, none⟩) (by simp [go_sem]) (by simp; omega)
         have q4 : w1.cell? ⟨w.heap.size, 4, none⟩ = some (.int .i8 kd) := hg1.cell (a := ⟨w.heap.size, 4, none⟩) (by simp [go_sem]) (by simp; omega)
         have q5 : w1.cell? ⟨w.heap.size, 5, none⟩ = some (.int .u64 ew) := hg1.cell (a := ⟨w.heap.size, 5, none⟩) (by simp [go_sem]) (by simp; omega)
         have q6 : w1.cell? ⟨w.heap.size, 6, none⟩ = some (.int .u64 ev) := hg1.cell (a := ⟨w.heap.size, 6, none⟩) (by simp [go_sem]) (by simp; omega)
         have q7 : w1.cell? ⟨w.heap.size, 7, none⟩ = some (.int .i64 ef) := hg1.cell (a := ⟨w.heap.size, 7, none⟩) (by simp [go_sem]) (by simp; omega)
         have q8 : w1.cell? ⟨w.heap.size, 8, none⟩ = some (.int .i64 er) := hg1.cell (a := ⟨w.heap.size, 8, none⟩) (by simp [go_sem]) (by simp; omega)
         have hr1 := Lib.hid (((H2.out.alloc _).drew).kept_m ((H1.out.alloc _).drew) hg1)
         have HM1 := Lib.hid hm1
         have HG1 := Lib.hid hg1
         clear hm1 hg1)
      | (go_at_call 27
         refine (rreach_any hr1.out core kd ew ev ef er).mono ?_
         rintro e w2 ⟨rfl, hm2, hg2⟩
         have r1 : w2.cell? ⟨w.heap.size, 1, none⟩ = some (.int .i64 core) := hg2.cell q1 (by simp; omega)
         have r4 : w2.cell? ⟨w.heap.size, 4, none⟩ = some (.int .i8 kd) := hg2.cell q4 (by simp; omega)
         have r5 : w2.cell? ⟨w.heap.size, 5, none⟩ = some (.int .u64 ew) := hg2.cell q5 (by simp; omega)
         have r6 : w2.cell? ⟨w.heap.size, 6, none⟩ = some (.int .u64 ev) := hg2.cell q6 (by simp; omega)
         have r7 : w2.cell? ⟨w.heap.size, 7, none⟩ = some (.int .i64 ef) := hg2.cell q7 (by simp; omega)
         have r8 : w2.cell? ⟨w.heap.size, 8, none⟩ = some (.int .i64 er) := hg2.cell q8 (by simp; omega)
         have HM2 := Lib.hid hm2
         have HG2 := Lib.hid hg2
         clear hm2 hg2))
  go_wp2
  go_ret
  exact ⟨by simp, ⟨_, HM1.out.kept_r hr1.out HG2.out, HM2.out⟩, below_new (grown_trans (World.grownBy_alloc w _ none) (grown_drew _ none)) rfl HG1.out HG2.out⟩

set_option maxHeartbeats 400000 in
theorem step_is (h : Both w B R n f) (d core word frame kd ew ev ef er : Int) (k0 : d ≠ 0) (k1 : d ≠ 1) (k2 : d ≠ 2) (k3 : d ≠ 3) (k4 : d ≠ 4) :
    Calls Try.prog 15 #[.pointer (some ⟨B, 0, none⟩), .pointer (some ⟨R, 0, none⟩), .agg #[.int .i64 d, .int .i64 core, .int .u64 word, .int .i64 frame, .int .i8 kd, .int .u64 ew, .int .u64 ev, .int .i64 ef, .int .i64 er]] w (Stepped w B R n) := by
  have H1 := Lib.hid h.1
  have H2 := Lib.hid h.2
  have hBs := H1.out.lt
  have hRs := H2.out.lt
  clear h
  have e0 : (d == 0) = false := by simpa using k0
  have e1 : (d == 1) = false := by simpa using k1
  have e2 : (d == 2) = false := by simpa using k2
  have e3 : (d == 3) = false := by simpa using k3
  have e4 : (d == 4) = false := by simpa using k4
  clear k0 k1 k2 k3 k4
  go_enter Try.func15, Try.ntmps15
  go_wp2_with fail
  go_region_held3 (fun w' => w'.cell? ⟨w.heap.size, 1, none⟩ = some (.int .i64 core) ∧ w'.cell? ⟨w.heap.size, 2, none⟩ = some (.int .u64 word)) (go_keep)
    (first
      | (go_at_call 10
         refine (is_any ((H1.out.alloc _).drew) core word).mono ?_
         rintro e w1 ⟨rfl, rfl⟩)
      | (go_at_call 28
         refine (ris_any ((H2.out.alloc _).drew) core word).mono ?_
         rintro e w2 ⟨rfl, k, rfl⟩))
  go_wp2
  go_ret
  refine ⟨by simp, ⟨f, ?_, ?_⟩, fun base hB hR hs => ?_⟩
  · exact (H1.out.alloc _).kept rfl (fun _ _ _ hb => hb)
  · exact (H2.out.alloc _).kept rfl
  · exact ((Below.refl base w).alloc hs _).grown (row := none) ⟨rfl, rfl, rfl, Nat.le_refl _, fun _ _ _ => rfl⟩ (by simp; omega) (fun k hk => by cases hk)

theorem step_any (h : Both w B R n f) (d core word frame kd ew ev ef er : Int) (hw : 0 ≤ word ∧ word ≤ 18446744073709551615) :
    Calls Try.prog 15 #[.pointer (some ⟨B, 0, none⟩), .pointer (some ⟨R, 0, none⟩), .agg #[.int .i64 d, .int .i64 core, .int .u64 word, .int .i64 frame, .int .i8 kd, .int .u64 ew, .int .u64 ev, .int .i64 ef, .int .i64 er]] w (Stepped w B R n) := by
  by_cases k0 : d = 0
  · subst k0; exact step_set h core word frame kd ew ev ef er hw
  · by_cases k1 : d = 1
    · subst k1; exact step_clear h core word frame kd ew ev ef er hw
    · by_cases k2 : d = 2
      · subst k2; exact step_wrote h core word frame kd ew ev ef er hw
      · by_cases k3 : d = 3
        · subst k3; exact step_block h core word frame kd ew ev ef er hw
        · by_cases k4 : d = 4
          · subst k4; exact step_reach h core word frame kd ew ev ef er hw
          · exact step_is h d core word frame kd ew ev ef er k0 k1 k2 k3 k4
end Go.Proofs.Ytpcihiggmbidmaa
