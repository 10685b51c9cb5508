/- The walk of MemPlays's step: an act played on a memory and on the reference's. -/
import Derived.Test.YtablmoegmmeglaaRefW
import Derived.Test.YtablmoegmmeglaaRefL
import Derived.Test.YtablmoegmmeglaaBlocksWalk
import Derived.Deep.RegionHeld3
namespace Go.Proofs.Ytablmoegmmeglaa
open Go.RowKit
variable {w0 w : World} {O P : Nat → Prop} {B R n : Nat} {V : Nat → Int}

/-- What a step leaves: true, and the two memories alike. -/
def Step (w0 : World) (B R n : Nat) (e : Ending) (w' : World) : Prop := e = .returned (.bool true) ∧ ∃ O P V, Both w0 w' O P B R n V V

/-- The act that lies in block b. -/
def Ent9 (w : World) (b : Nat) (d x v kd ex ev ef er fr : Int) : Prop := w.heap[b]? = some (.cells #[.int .i64 d, .int .u64 x, .int .u64 v, .int .i8 kd, .int .u64 ex, .int .u64 ev, .int .i64 ef, .int .i64 er, .int .i64 fr] 37 (0, 0))
theorem Ent9.kept {w w' : World} {O O' : Nat → Prop} {b : Nat} {d x v kd ex ev ef er fr : Int} (h : Ent9 w b d x v kd ex ev ef er fr) (hf : Fp O w w' O') (hb : ¬ O b) : Ent9 w' b d x v kd ex ev ef er fr := (hf.keep b (lt_of_block h) hb).trans h
theorem Ent9.cell {w : World} {b : Nat} {d x v kd ex ev ef er fr : Int} (h : Ent9 w b d x v kd ex ev ef er fr) (j : Nat) : w.cell? ⟨b, j, none⟩ = (#[Value.int .i64 d, .int .u64 x, .int .u64 v, .int .i8 kd, .int .u64 ex, .int .u64 ev, .int .i64 ef, .int .i64 er, .int .i64 fr] : Array Value)[j]? := cell_of_row w b j _ _ _ h

set_option maxRecDepth 10000 in
set_option maxHeartbeats 2000000 in
theorem step_0 (h : Both w0 w O P B R n V V) (x : Nat) (v kd : Int) (ex : Nat) (ev ef er fr : Int) (hx : x ≤ 18446744073709551615) (hv : 0 ≤ v ∧ v ≤ 18446744073709551615) :
    Calls Try.prog 13 #[.pointer (some ⟨B, 0, none⟩), .pointer (some ⟨R, 0, none⟩), .agg #[.int .i64 0, .int .u64 x, .int .u64 v, .int .i8 kd, .int .u64 ex, .int .u64 ev, .int .i64 ef, .int .i64 er, .int .i64 fr]] w (Step w0 B R n) := by
  have hn : ¬ O w.heap.size ∧ ¬ P w.heap.size := ⟨fun c => by have := h.m.lt _ c; omega, fun c => by have := h.r.lt _ c; omega⟩
  have HH := Lib.hid (h.grown (World.grownBy_alloc w (.cells #[.int .i64 0, .int .u64 x, .int .u64 v, .int .i8 kd, .int .u64 ex, .int .u64 ev, .int .i64 ef, .int .i64 er, .int .i64 fr] 37) none))
  have HHD := Lib.hid (HH.out.grown (grown_drew' _))
  have HE := Lib.hid (show Ent9 ((w.alloc (.cells #[.int .i64 0, .int .u64 x, .int .u64 v, .int .i8 kd, .int .u64 ex, .int .u64 ev, .int .i64 ef, .int .i64 er, .int .i64 fr] 37)).drew) w.heap.size 0 x v kd ex ev ef er fr from Go.heap_alloc_new w _)
  have HO := Lib.hid h.m.out
  clear h
  go_enter Try.func13, Try.ntmps13
  go_wp2_with fail
  go_region_held3 (fun w' => w'.cell? ⟨w.heap.size, 1, none⟩ = some (.int .u64 x) ∧ w'.cell? ⟨w.heap.size, 2, none⟩ = some (.int .u64 v)) (go_keep)
    (first
      | (go_at_call 15
         refine (write_any HHD.out.m x v hx hv).mono ?_
         rintro e w1 ⟨rfl, O1, hf, hm⟩
         have HX := Lib.hid (HHD.out.mem hf hm)
         have HX1 := Lib.hid (HE.out.kept hf hn.1)
         clear hf hm
         have q1 := HX1.out.cell 1
         have q2 := HX1.out.cell 2)
      | (go_at_call 24
         refine (rwrite_any HX.out.r x v hx hv).mono ?_
         rintro e w2 ⟨rfl, P2, hf, hm⟩
         have HY := Lib.hid (HX.out.ref hf hm)
         have HY1 := Lib.hid (HX1.out.kept hf hn.2)
         clear hf hm
         have p1 := HY1.out.cell 1
         have p2 := HY1.out.cell 2))
  go_wp2_with fail
  go_ret
  exact ⟨by simp, _, _, _, HY.out⟩

set_option maxRecDepth 10000 in
set_option maxHeartbeats 2000000 in
theorem step_1 (h : Both w0 w O P B R n V V) (x : Nat) (v kd : Int) (ex : Nat) (ev ef er fr : Int) (hx : x ≤ 18446744073709551615) (hv : 0 ≤ v ∧ v ≤ 18446744073709551615) :
    Calls Try.prog 13 #[.pointer (some ⟨B, 0, none⟩), .pointer (some ⟨R, 0, none⟩), .agg #[.int .i64 1, .int .u64 x, .int .u64 v, .int .i8 kd, .int .u64 ex, .int .u64 ev, .int .i64 ef, .int .i64 er, .int .i64 fr]] w (Step w0 B R n) := by
  have hn : ¬ O w.heap.size ∧ ¬ P w.heap.size := ⟨fun c => by have := h.m.lt _ c; omega, fun c => by have := h.r.lt _ c; omega⟩
  have HH := Lib.hid (h.grown (World.grownBy_alloc w (.cells #[.int .i64 1, .int .u64 x, .int .u64 v, .int .i8 kd, .int .u64 ex, .int .u64 ev, .int .i64 ef, .int .i64 er, .int .i64 fr] 37) none))
  have HHD := Lib.hid (HH.out.grown (grown_drew' _))
  have HE := Lib.hid (show Ent9 ((w.alloc (.cells #[.int .i64 1, .int .u64 x, .int .u64 v, .int .i8 kd, .int .u64 ex, .int .u64 ev, .int .i64 ef, .int .i64 er, .int .i64 fr] 37)).drew) w.heap.size 1 x v kd ex ev ef er fr from Go.heap_alloc_new w _)
  have HO := Lib.hid h.m.out
  clear h
  go_enter Try.func13, Try.ntmps13
  go_wp2_with fail
  refine (add_any HH.out.m x v hx hv).mono ?_
  rintro e w1 ⟨rfl, O1, hf, hm⟩
  have HX := Lib.hid (HH.out.mem hf hm)
  have HX1 := Lib.hid (Ent9.kept (w := w.alloc _) HE.out hf hn.1)
  clear hf hm
  have q1 := HX1.out.cell 1
  have q2 := HX1.out.cell 2
  go_wp2_with fail
  refine (radd_any HX.out.r HO.out x v hx).mono ?_
  rintro e w2 ⟨rfl, P2, hf, hm⟩
  have HY := Lib.hid (HX.out.ref hf hm)
  clear hf hm q1 q2
  generalize errW n x = ee
  generalize V x = vv
  go_wp2_with fail
  go_ret
  exact ⟨by simp, _, _, _, HY.out⟩

set_option maxRecDepth 10000 in
set_option maxHeartbeats 2000000 in
theorem step_2 (h : Both w0 w O P B R n V V) (x : Nat) (v kd : Int) (ex : Nat) (ev ef er fr : Int) (hkd : -128 ≤ kd ∧ kd ≤ 127) (hex : ex ≤ 18446744073709551615) (hev : 0 ≤ ev ∧ ev ≤ 18446744073709551615) :
    Calls Try.prog 13 #[.pointer (some ⟨B, 0, none⟩), .pointer (some ⟨R, 0, none⟩), .agg #[.int .i64 2, .int .u64 x, .int .u64 v, .int .i8 kd, .int .u64 ex, .int .u64 ev, .int .i64 ef, .int .i64 er, .int .i64 fr]] w (Step w0 B R n) := by
  have hn : ¬ O w.heap.size ∧ ¬ P w.heap.size := ⟨fun c => by have := h.m.lt _ c; omega, fun c => by have := h.r.lt _ c; omega⟩
  have HH := Lib.hid (h.grown (World.grownBy_alloc w (.cells #[.int .i64 2, .int .u64 x, .int .u64 v, .int .i8 kd, .int .u64 ex, .int .u64 ev, .int .i64 ef, .int .i64 er, .int .i64 fr] 37) none))
  have HHD := Lib.hid (HH.out.grown (grown_drew' _))
  have HE := Lib.hid (show Ent9 ((w.alloc (.cells #[.int .i64 2, .int .u64 x, .int .u64 v, .int .i8 kd, .int .u64 ex, .int .u64 ev, .int .i64 ef, .int .i64 er, .int .i64 fr] 37)).drew) w.heap.size 2 x v kd ex ev ef er fr from Go.heap_alloc_new w _)
  have HO := Lib.hid h.m.out
  clear h
  go_enter Try.func13, Try.ntmps13
  go_wp2_with fail
  go_region_held3 (fun w' => w'.cell? ⟨w.heap.size, 3, none⟩ = some (.int .i8 kd) ∧ w'.cell? ⟨w.heap.size, 4, none⟩ = some (.int .u64 ex) ∧ w'.cell? ⟨w.heap.size, 5, none⟩ = some (.int .u64 ev) ∧ w'.cell? ⟨w.heap.size, 6, none⟩ = some (.int .i64 ef) ∧ w'.cell? ⟨w.heap.size, 7, none⟩ = some (.int .i64 er)) (go_keep)
    (first
      | (go_at_call 22
         refine (reach_any HHD.out.m kd ex ev ef er hkd hex hev).mono ?_
         rintro e w1 ⟨rfl, O1, hf, hm⟩
         have HX := Lib.hid (HHD.out.mem hf hm)
         have HX1 := Lib.hid (HE.out.kept hf hn.1)
         clear hf hm
         have q3 := HX1.out.cell 3
         have q4 := HX1.out.cell 4
         have q5 := HX1.out.cell 5
         have q6 := HX1.out.cell 6
         have q7 := HX1.out.cell 7)
      | (go_at_call 29
         refine (rreach_any HX.out.r kd ex ev ef er hex hev).mono ?_
         rintro e w2 ⟨rfl, P2, hf, hm⟩
         have HY := Lib.hid (HX.out.ref hf hm)
         have HY1 := Lib.hid (HX1.out.kept hf hn.2)
         clear hf hm
         have p3 := HY1.out.cell 3
         have p4 := HY1.out.cell 4
         have p5 := HY1.out.cell 5
         have p6 := HY1.out.cell 6
         have p7 := HY1.out.cell 7))
  go_wp2_with fail
  go_ret
  exact ⟨by simp, _, _, _, HY.out⟩

set_option maxRecDepth 10000 in
set_option maxHeartbeats 2000000 in
theorem step_3 (h : Both w0 w O P B R n V V) (x : Nat) (v kd : Int) (ex : Nat) (ev ef er fr : Int) (hx : x ≤ 18446744073709551615) :
    Calls Try.prog 13 #[.pointer (some ⟨B, 0, none⟩), .pointer (some ⟨R, 0, none⟩), .agg #[.int .i64 3, .int .u64 x, .int .u64 v, .int .i8 kd, .int .u64 ex, .int .u64 ev, .int .i64 ef, .int .i64 er, .int .i64 fr]] w (Step w0 B R n) := by
  have hn : ¬ O w.heap.size ∧ ¬ P w.heap.size := ⟨fun c => by have := h.m.lt _ c; omega, fun c => by have := h.r.lt _ c; omega⟩
  have HH := Lib.hid (h.grown (World.grownBy_alloc w (.cells #[.int .i64 3, .int .u64 x, .int .u64 v, .int .i8 kd, .int .u64 ex, .int .u64 ev, .int .i64 ef, .int .i64 er, .int .i64 fr] 37) none))
  have HHD := Lib.hid (HH.out.grown (grown_drew' _))
  have HE := Lib.hid (show Ent9 ((w.alloc (.cells #[.int .i64 3, .int .u64 x, .int .u64 v, .int .i8 kd, .int .u64 ex, .int .u64 ev, .int .i64 ef, .int .i64 er, .int .i64 fr] 37)).drew) w.heap.size 3 x v kd ex ev ef er fr from Go.heap_alloc_new w _)
  have HO := Lib.hid h.m.out
  clear h
  go_enter Try.func13, Try.ntmps13
  go_wp2_with fail
  refine (read_any HH.out.m x hx).mono ?_
  rintro e w1 ⟨rfl, rfl⟩
  go_wp2_with fail
  refine (rread_any HH.out.r HO.out x hx).mono ?_
  rintro e w1 ⟨rfl, rfl⟩
  generalize errW n x = ee
  generalize V x = vv
  go_wp2_with fail
  go_ret
  exact ⟨by simp, _, _, _, HH.out⟩

set_option maxRecDepth 10000 in
set_option maxHeartbeats 2000000 in
theorem step_e (h : Both w0 w O P B R n V V) (d : Int) (hd : d ≠ 0 ∧ d ≠ 1 ∧ d ≠ 2 ∧ d ≠ 3) (x : Nat) (v kd : Int) (ex : Nat) (ev ef er fr : Int) (hfr : -9223372036854775808 ≤ fr ∧ fr ≤ 9223372036854775807) :
    Calls Try.prog 13 #[.pointer (some ⟨B, 0, none⟩), .pointer (some ⟨R, 0, none⟩), .agg #[.int .i64 d, .int .u64 x, .int .u64 v, .int .i8 kd, .int .u64 ex, .int .u64 ev, .int .i64 ef, .int .i64 er, .int .i64 fr]] w (Step w0 B R n) := by
  have hn : ¬ O w.heap.size ∧ ¬ P w.heap.size := ⟨fun c => by have := h.m.lt _ c; omega, fun c => by have := h.r.lt _ c; omega⟩
  have HH := Lib.hid (h.grown (World.grownBy_alloc w (.cells #[.int .i64 d, .int .u64 x, .int .u64 v, .int .i8 kd, .int .u64 ex, .int .u64 ev, .int .i64 ef, .int .i64 er, .int .i64 fr] 37) none))
  have HHD := Lib.hid (HH.out.grown (grown_drew' _))
  have HE := Lib.hid (show Ent9 ((w.alloc (.cells #[.int .i64 d, .int .u64 x, .int .u64 v, .int .i8 kd, .int .u64 ex, .int .u64 ev, .int .i64 ef, .int .i64 er, .int .i64 fr] 37)).drew) w.heap.size d x v kd ex ev ef er fr from Go.heap_alloc_new w _)
  have HO := Lib.hid h.m.out
  clear h
  obtain ⟨k0, k1, k2, k3⟩ := hd
  have b0 : (d == 0) = false := beq_eq_false_iff_ne.2 k0
  have b1 : (d == 1) = false := beq_eq_false_iff_ne.2 k1
  have b2 : (d == 2) = false := beq_eq_false_iff_ne.2 k2
  have b3 : (d == 3) = false := beq_eq_false_iff_ne.2 k3
  clear k0 k1 k2 k3
  go_enter Try.func13, Try.ntmps13
  go_wp2_with fail
  go_region_held3 (fun w' => w'.cell? ⟨w.heap.size, 8, none⟩ = some (.int .i64 fr)) (go_keep)
    (first
      | (go_at_call 17
         refine (words_any HHD.out.m fr (WalkArith.wf_i64 hfr)).mono ?_
         rintro e w1 ⟨r1, rfl, hr, hg⟩
         have HX := Lib.hid (HHD.out.grown hg)
         have HX1 := Lib.hid (Ent9.kept HE.out (Fp.grown0 (O := none_) hg) (fun c => c))
         have HR := Lib.hid hr
         clear hr hg
         have q8 := HX1.out.cell 8)
      | (go_at_call 18
         refine (rwords_any HX.out.r fr).mono ?_
         rintro e w2 ⟨r2, rfl, hr, hg⟩
         have HY := Lib.hid (HX.out.grown hg)
         have HY1 := Lib.hid (Ent9.kept HX1.out (Fp.grown0 (O := none_) hg) (fun c => c))
         have HS := Lib.hid (same_words _ (ownsRow_of_block HR.out (fun k hk => hg.block k (HR.out.lt k hk).2 (by simp))) hr)
         clear hr hg
         have p8 := HY1.out.cell 8)
      | (go_at_call 16
         refine HS.out.mono ?_
         rintro e w3 ⟨rfl, k, rfl⟩
         have HZ := Lib.hid (HY.out.grown (grown_drewN _ k))
         have HZ1 := Lib.hid (show Ent9 (w2.drewN k) w.heap.size d x v kd ex ev ef er fr from HY1.out)
         clear HS
         have r8 := HZ1.out.cell 8))
  go_wp2_with fail
  go_ret
  exact ⟨rfl, _, _, _, HZ.out⟩

theorem step_any (h : Both w0 w O P B R n V V) (d : Int) (x : Nat) (v kd : Int) (ex : Nat) (ev ef er fr : Int) (hx : x ≤ 18446744073709551615) (hv : 0 ≤ v ∧ v ≤ 18446744073709551615) (hkd : -128 ≤ kd ∧ kd ≤ 127) (hex : ex ≤ 18446744073709551615) (hev : 0 ≤ ev ∧ ev ≤ 18446744073709551615) (hfr : -9223372036854775808 ≤ fr ∧ fr ≤ 9223372036854775807) :
    Calls Try.prog 13 #[.pointer (some ⟨B, 0, none⟩), .pointer (some ⟨R, 0, none⟩), .agg #[.int .i64 d, .int .u64 x, .int .u64 v, .int .i8 kd, .int .u64 ex, .int .u64 ev, .int .i64 ef, .int .i64 er, .int .i64 fr]] w (Step w0 B R n) := by
  by_cases h0 : d = 0
  · subst h0; exact step_0 h x v kd ex ev ef er fr hx hv
  by_cases h1 : d = 1
  · subst h1; exact step_1 h x v kd ex ev ef er fr hx hv
  by_cases h2 : d = 2
  · subst h2; exact step_2 h x v kd ex ev ef er fr hkd hex hev
  by_cases h3 : d = 3
  · subst h3; exact step_3 h x v kd ex ev ef er fr hx
  exact step_e h d ⟨h0, h1, h2, h3⟩ x v kd ex ev ef er fr hfr
end Go.Proofs.Ytablmoegmmeglaa
