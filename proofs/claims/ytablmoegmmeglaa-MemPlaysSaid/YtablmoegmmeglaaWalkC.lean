/- The walks of Reach (an entry played on a memory) and Frames. -/
import Derived.Test.YtablmoegmmeglaaWalkB
import Derived.Laws.EntriesVeiled
namespace Go.Proofs.Ytablmoegmmeglaa
open Go.RowKit
variable {w : World} {O : Nat → Prop} {B n bm : Nat} {V : Nat → Int} {pt : Int → Option Nat}

def vReach (n : Nat) (V : Nat → Int) (kd : Int) (x : Nat) (v f k : Int) : Nat → Int :=
  if kd = 0 then vWrite n V x v else if kd = 1 then V else if kd = 2 then vZero n V k else if kd = 3 then vCopy n V k f else V
def errReach (n : Nat) (kd : Int) (x : Nat) (f k : Int) : Int :=
  if kd = 0 then errW n x else if kd = 1 then 0 else if kd = 2 then errF n k else if kd = 3 then errC n k f else 2

set_option maxHeartbeats 400000 in
theorem reach_0 (h : Mem w O B n V) (x v f k : Int) (U : Nat → Int) (r : Int)
    (hF : ∀ w, Mem w O B n V → Calls Try.prog 38 #[.pointer (some ⟨B, 0, none⟩), .agg #[.int .i8 0, .int .u64 x, .int .u64 v, .int .i64 f, .int .i64 k]] w (Did w O B n U (.int .i64 r))) :
    Calls Try.prog 22 #[.pointer (some ⟨B, 0, none⟩), .agg #[.int .i8 0, .int .u64 x, .int .u64 v, .int .i64 f, .int .i64 k]] w (Did w O B n U (.int .i64 r)) := by
  have H := Lib.hid h
  have HF := Lib.hid (fun X Y => hF _ (((h.alloc X).alloc Y).drew))
  clear h hF
  go_enter Try.func22, Try.ntmps22
  go_wp2_with fail
  refine wp_region_still_tail 5 (by kernel_rfl) (by kernel_rfl) ?_
  simp only [List.take_succ_cons, List.take_zero, List.drop_succ_cons, List.drop_zero, World.drew_eq]
  repeat still_step
  refine wpStill_nil ?_
  go_wp2_with (go_at_call 38; refine (HF.out _ _).mono ?_; rintro e w2 ⟨rfl, O2, hfp, hm⟩; have HFP := Lib.hid hfp; have HM := Lib.hid hm; clear hfp hm)
  go_ret
  exact ⟨rfl, O2, (((Fp.alloc O w _).trans (Fp.alloc O _ _)).trans (Fp.drew O _)).trans HFP.out, HM.out⟩

set_option maxHeartbeats 400000 in
theorem reach_1 (h : Mem w O B n V) (x v f k : Int) (U : Nat → Int) (r : Int)
    (hF : ∀ w, Mem w O B n V → Calls Try.prog 39 #[.pointer (some ⟨B, 0, none⟩), .agg #[.int .i8 1, .int .u64 x, .int .u64 v, .int .i64 f, .int .i64 k]] w (Did w O B n U (.int .i64 r))) :
    Calls Try.prog 22 #[.pointer (some ⟨B, 0, none⟩), .agg #[.int .i8 1, .int .u64 x, .int .u64 v, .int .i64 f, .int .i64 k]] w (Did w O B n U (.int .i64 r)) := by
  have H := Lib.hid h
  have HF := Lib.hid (fun X Y => hF _ (((h.alloc X).alloc Y).drew))
  clear h hF
  go_enter Try.func22, Try.ntmps22
  go_wp2_with fail
  refine wp_region_still_tail 5 (by kernel_rfl) (by kernel_rfl) ?_
  simp only [List.take_succ_cons, List.take_zero, List.drop_succ_cons, List.drop_zero, World.drew_eq]
  repeat still_step
  refine wpStill_nil ?_
  go_wp2_with (go_at_call 39; refine (HF.out _ _).mono ?_; rintro e w2 ⟨rfl, O2, hfp, hm⟩; have HFP := Lib.hid hfp; have HM := Lib.hid hm; clear hfp hm)
  go_ret
  exact ⟨rfl, O2, (((Fp.alloc O w _).trans (Fp.alloc O _ _)).trans (Fp.drew O _)).trans HFP.out, HM.out⟩

set_option maxHeartbeats 400000 in
theorem reach_2 (h : Mem w O B n V) (x v f k : Int) (U : Nat → Int) (r : Int)
    (hF : ∀ w, Mem w O B n V → Calls Try.prog 40 #[.pointer (some ⟨B, 0, none⟩), .agg #[.int .i8 2, .int .u64 x, .int .u64 v, .int .i64 f, .int .i64 k]] w (Did w O B n U (.int .i64 r))) :
    Calls Try.prog 22 #[.pointer (some ⟨B, 0, none⟩), .agg #[.int .i8 2, .int .u64 x, .int .u64 v, .int .i64 f, .int .i64 k]] w (Did w O B n U (.int .i64 r)) := by
  have H := Lib.hid h
  have HF := Lib.hid (fun X Y => hF _ (((h.alloc X).alloc Y).drew))
  clear h hF
  go_enter Try.func22, Try.ntmps22
  go_wp2_with fail
  refine wp_region_still_tail 5 (by kernel_rfl) (by kernel_rfl) ?_
  simp only [List.take_succ_cons, List.take_zero, List.drop_succ_cons, List.drop_zero, World.drew_eq]
  repeat still_step
  refine wpStill_nil ?_
  go_wp2_with (go_at_call 40; refine (HF.out _ _).mono ?_; rintro e w2 ⟨rfl, O2, hfp, hm⟩; have HFP := Lib.hid hfp; have HM := Lib.hid hm; clear hfp hm)
  go_ret
  exact ⟨rfl, O2, (((Fp.alloc O w _).trans (Fp.alloc O _ _)).trans (Fp.drew O _)).trans HFP.out, HM.out⟩

set_option maxHeartbeats 400000 in
theorem reach_3 (h : Mem w O B n V) (x v f k : Int) (U : Nat → Int) (r : Int)
    (hF : ∀ w, Mem w O B n V → Calls Try.prog 41 #[.pointer (some ⟨B, 0, none⟩), .agg #[.int .i8 3, .int .u64 x, .int .u64 v, .int .i64 f, .int .i64 k]] w (Did w O B n U (.int .i64 r))) :
    Calls Try.prog 22 #[.pointer (some ⟨B, 0, none⟩), .agg #[.int .i8 3, .int .u64 x, .int .u64 v, .int .i64 f, .int .i64 k]] w (Did w O B n U (.int .i64 r)) := by
  have H := Lib.hid h
  have HF := Lib.hid (fun X Y => hF _ (((h.alloc X).alloc Y).drew))
  clear h hF
  go_enter Try.func22, Try.ntmps22
  go_wp2_with fail
  refine wp_region_still_tail 5 (by kernel_rfl) (by kernel_rfl) ?_
  simp only [List.take_succ_cons, List.take_zero, List.drop_succ_cons, List.drop_zero, World.drew_eq]
  repeat still_step
  refine wpStill_nil ?_
  go_wp2_with (go_at_call 41; refine (HF.out _ _).mono ?_; rintro e w2 ⟨rfl, O2, hfp, hm⟩; have HFP := Lib.hid hfp; have HM := Lib.hid hm; clear hfp hm)
  go_ret
  exact ⟨rfl, O2, (((Fp.alloc O w _).trans (Fp.alloc O _ _)).trans (Fp.drew O _)).trans HFP.out, HM.out⟩

set_option maxHeartbeats 400000 in
theorem reach_out (h : Mem w O B n V) (kd x v f k : Int) (hkd : -128 ≤ kd ∧ kd ≤ 127) (ho : kd < 0 ∨ 4 ≤ kd) :
    Calls Try.prog 22 #[.pointer (some ⟨B, 0, none⟩), .agg #[.int .i8 kd, .int .u64 x, .int .u64 v, .int .i64 f, .int .i64 k]] w (Did w O B n V (.int .i64 2)) := by
  have H := Lib.hid h
  clear h
  by_cases hn : kd < 0
  · clear ho
    go_enter Try.func22, Try.ntmps22
    go_wp2_with fail
    go_ret
    exact ⟨rfl, O, ((Fp.alloc O w _).trans (Fp.alloc O _ _)), (H.out.alloc _).alloc _⟩
  · have h4 : 4 ≤ kd := by omega
    clear ho
    go_enter Try.func22, Try.ntmps22
    go_wp2_with fail
    go_ret
    exact ⟨rfl, O, ((Fp.alloc O w _).trans (Fp.alloc O _ _)), (H.out.alloc _).alloc _⟩

theorem reach_any (h : Mem w O B n V) (kd : Int) (x : Nat) (v f k : Int) (hkd : -128 ≤ kd ∧ kd ≤ 127) (hx : x ≤ 18446744073709551615) (hv : 0 ≤ v ∧ v ≤ 18446744073709551615) :
    Calls Try.prog 22 #[.pointer (some ⟨B, 0, none⟩), .agg #[.int .i8 kd, .int .u64 x, .int .u64 v, .int .i64 f, .int .i64 k]] w (Did w O B n (vReach n V kd x v f k) (.int .i64 (errReach n kd x f k))) := by
  unfold vReach errReach
  by_cases h0 : kd = 0
  · subst h0; exact reach_0 h x v f k _ _ (fun w h => word_any h 0 x v f k hx hv)
  by_cases h1 : kd = 1
  · subst h1; exact reach_1 h x v f k _ _ (fun w h => barrier_any h 1 x v f k)
  by_cases h2 : kd = 2
  · subst h2; exact reach_2 h x v f k _ _ (fun w h => zero_any h 2 x v f k)
  by_cases h3 : kd = 3
  · subst h3; exact reach_3 h x v f k _ _ (fun w h => copies_any h 3 x v f k)
  rw [if_neg h0, if_neg h1, if_neg h2, if_neg h3, if_neg h0, if_neg h1, if_neg h2, if_neg h3]
  exact reach_out h kd x v f k hkd (by omega)

theorem reach_nil (kd x v f k : Int) (w : World) :
    Calls Try.prog 22 #[.pointer none, .agg #[.int .i8 kd, .int .u64 x, .int .u64 v, .int .i64 f, .int .i64 k]] w (fun e w' => e = .returned (.int .i64 1) ∧ ∃ o, w' = w.alloc o) := by
  go_enter Try.func22, Try.ntmps22
  go_wp2_with fail
  go_ret
  exact ⟨rfl, _, rfl⟩

theorem frames_any (h : Mem w O B n V) : Calls Try.prog 19 #[.pointer (some ⟨B, 0, none⟩)] w (Same w (.int .i64 n)) := by
  obtain ⟨bm, pt, h⟩ := h
  have c0 := h.cellN
  have hn := h.n64
  clear h
  go_enter Try.func19, Try.ntmps19
  go_wp2_with fail
  go_ret
  exact ⟨rfl, rfl⟩
theorem frames_nil (w : World) : Calls Try.prog 19 #[.pointer none] w (Same w (.int .i64 0)) := by
  go_enter Try.func19, Try.ntmps19
  go_wp2_with fail
  go_ret
  exact ⟨rfl, rfl⟩
end Go.Proofs.Ytablmoegmmeglaa
