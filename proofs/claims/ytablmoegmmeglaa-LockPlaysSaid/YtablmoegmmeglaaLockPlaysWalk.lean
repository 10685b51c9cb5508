/- The walk of LockPlays. -/
import Derived.Test.YtablmoegmmeglaaRefL
import Derived.Test.YtablmoegmmeglaaOrderWalk
import Derived.Test.YtablmoegmmeglaaTurnsWalk
import Derived.Deep.RegionHeld3
namespace Go.Proofs.Ytablmoegmmeglaa
open Go.RowKit

set_option maxRecDepth 10000 in
set_option maxHeartbeats 4000000 in
theorem lockplays_walk (A : Option Addr) (len cap : Nat) (z : Nat → Int) (a b t : Int) (w : World) (hl : Elems' w w.heap.size A len (fun i => .int .i64 (z i))) (ha : 0 ≤ a ∧ a ≤ 18446744073709551615) (hb : 0 ≤ b ∧ b ≤ 18446744073709551615) :
    Calls Try.prog 7 #[.int .u64 a, .int .u64 b, .int .u64 t, .slice A len cap] w (Law w (.bool true)) := by
  by_cases hlen : 100 < len
  · clear hl ha hb
    go_enter Try.func7, Try.ntmps7
    go_wp2_with (go_at_call 23; refine (wakes18_true _).mono ?_; rintro e w8 ⟨rfl, O, hf⟩)
    go_ret
    exact ⟨rfl, _, hf⟩
  · have HL := Lib.hid hl
    have HA := Lib.hid ha
    have HB := Lib.hid hb
    clear hl ha hb
    go_enter Try.func7, Try.ntmps7
    go_wp2_with fail
    refine (new_in 1 w (by omega) (by omega)).mono ?_
    rintro e w1 ⟨B, O, rfl, hf1, hm1⟩
    have HF1 := Lib.hid hf1
    have HM1 := Lib.hid hm1
    clear hf1 hm1
    go_wp2_with fail
    refine (refnew_in 1 w1 (by omega) (by omega)).mono ?_
    rintro e w2 ⟨R, P, rfl, hf2, hm2⟩
    have H := Lib.hid (Both.start HF1.out HM1.out hf2 hm2)
    clear hf2 hm2 HF1 HM1
    go_wp2_with fail
    refine (write_any H.out.m 0 a (by omega) HA.out).mono ?_
    rintro e w3 ⟨rfl, O3, hf, hm⟩
    have H := Lib.hid (H.out.mem hf hm)
    clear hf hm
    rw [err0 (n := 1) (by omega)]
    go_wp2_with fail
    refine (write_any H.out.m 1 b (by omega) HB.out).mono ?_
    rintro e w4 ⟨rfl, O4, hf, hm⟩
    have H := Lib.hid (H.out.mem hf hm)
    clear hf hm
    rw [err1 (n := 1) (by omega)]
    go_wp2_with fail
    refine (rwrite_any H.out.r 0 a (by omega) HA.out).mono ?_
    rintro e w5 ⟨rfl, P5, hf, hm⟩
    have H := Lib.hid (H.out.ref hf hm)
    clear hf hm
    rw [err0 (n := 1) (by omega)]
    go_wp2_with fail
    refine (rwrite_any H.out.r 1 b (by omega) HB.out).mono ?_
    rintro e w6 ⟨rfl, P6, hf, hm⟩
    have H := Lib.hid (H.out.ref hf hm)
    clear hf hm
    rw [err1 (n := 1) (by omega)]
    go_wp2_with fail
    go_loopw [13] (fun i wr => ∃ j : Nat, j ≤ len ∧ i = .int .i64 j ∧ ∃ O P V, Both w wr O P B R 1 V V) (fun i _ => 101 - (intOf i).toNat)
    case atStart => exact ⟨0, by omega, rfl, _, _, _, H.out⟩
    case round =>
      obtain ⟨j, hj, rfl, O, P, V, hB⟩ := hrel
      clear H
      have HJ := Lib.hid hj
      have H := Lib.hid hB
      have HO := Lib.hid hB.m.out
      clear hj hB
      by_cases hjl : (j : Int) < len
      · obtain ⟨bb, off, rfl, hbw, hcell⟩ := HL.out (by omega)
        have hcx : wr.cell? ⟨bb, off + j, none⟩ = some (.int .i64 (z j)) := (World.cell?_of_block (H.out.g.block bb hbw (by simp))).trans (hcell j (by omega))
        clear hcell
        go_upto_block 2 with fail
        go_cut [14, 15, 16, 17, 18, 19, 20, 21] from 68 to 140 (fun s14 s15 s16 s17 s18 s19 s20 s21 wx => ∃ O P V, Both w wx O P B R 1 V V)
        case first =>
          by_cases h0 : z j = 0
          · rw [h0]
            go_wp2_with fail
            refine (take_any H.out.m).mono ?_
            rintro e w7 ⟨rfl, O7, hf, hm⟩
            have H := Lib.hid (H.out.mem hf hm)
            clear hf hm
            go_wp2_with fail
            refine (rtake_any H.out.r HO.out).mono ?_
            rintro e w8 ⟨rfl, P8, hf, hm⟩
            have H := Lib.hid (H.out.ref hf hm)
            clear hf hm
            go_wp2_with fail
            go_meet
            case rel => exact ⟨_, _, _, H.out⟩
          · by_cases h1 : z j = 1
            · rw [h1]
              go_wp2_with fail
              refine (pass_any H.out.m).mono ?_
              rintro e w7 ⟨rfl, hg⟩
              have ho := wrapU_fit (V 1 + 1)
              generalize hE : wrapU (V 1 + 1) = E at ho
              have HE := Lib.hid hE
              have HEF := Lib.hid ho
              clear hE ho
              have n1 : ¬ O w7.heap.size ∧ ¬ P w7.heap.size := ⟨fun c => by have := (H.out.grown hg).m.lt _ c; omega, fun c => by have := (H.out.grown hg).r.lt _ c; omega⟩
              have H := Lib.hid ((H.out.grown hg).grown (World.grownBy_alloc w7 (.cells #[.int .i8 0, .int .u64 1, .int .u64 E, .int .i64 0, .int .i64 0] 35) none))
              clear hg
              go_wp2_with fail
              refine (rpass_any H.out.r HO.out).mono ?_
              rintro e w8 ⟨rfl, hg⟩
              rw [HE.out]
              have hE1 : Ent w8 w7.heap.size 0 1 E 0 0 := (hg.block w7.heap.size (by rw [World.size_alloc]; omega) (by simp)).trans (Go.heap_alloc_new w7 _)
              have H := Lib.hid (H.out.grown hg)
              have n2 : ¬ O w8.heap.size ∧ ¬ P w8.heap.size := ⟨fun c => by have := H.out.m.lt _ c; omega, fun c => by have := H.out.r.lt _ c; omega⟩
              clear hg
              generalize w7.heap.size = b1 at hE1 n1 ⊢
              have hlt1 := lt_of_block hE1
              have H := Lib.hid (H.out.grown (World.grownBy_alloc w8 (.cells #[.int .i8 0, .int .u64 1, .int .u64 E, .int .i64 0, .int .i64 0] 35) none))
              have hE2 : Ent (w8.alloc (.cells #[.int .i8 0, .int .u64 1, .int .u64 E, .int .i64 0, .int .i64 0] 35)) w8.heap.size 0 1 E 0 0 := Go.heap_alloc_new w8 _
              have hE1 : Ent (w8.alloc (.cells #[.int .i8 0, .int .u64 1, .int .u64 E, .int .i64 0, .int .i64 0] 35)) b1 0 1 E 0 0 := (Below.heap_alloc w8 _ b1 hlt1).trans hE1
              have HE1 := Lib.hid hE1
              have HE2 := Lib.hid hE2
              clear hE1 hE2 hlt1
              go_wp2_with fail
              generalize hw9 : w8.alloc (.cells #[.int .i8 0, .int .u64 1, .int .u64 E, .int .i64 0, .int .i64 0] 35) = w9 at H HE1 HE2 ⊢
              generalize w8.heap.size = b2 at HE2 n2 ⊢
              clear hw9
              have H := Lib.hid (H.out.grown (grown_drew' w9))
              have p0 := HE1.out.cell 0
              have p1 := HE1.out.cell 1
              have p2 := HE1.out.cell 2
              have p3 := HE1.out.cell 3
              have p4 := HE1.out.cell 4
              have q0 := HE2.out.cell 0
              have q1 := HE2.out.cell 1
              have q2 := HE2.out.cell 2
              have q3 := HE2.out.cell 3
              have q4 := HE2.out.cell 4
              go_region_held3 (fun w' => w'.cell? ⟨b1, 0, none⟩ = some (.int .i8 0) ∧ w'.cell? ⟨b1, 1, none⟩ = some (.int .u64 1) ∧ w'.cell? ⟨b1, 2, none⟩ = some (.int .u64 E) ∧ w'.cell? ⟨b1, 3, none⟩ = some (.int .i64 0) ∧ w'.cell? ⟨b1, 4, none⟩ = some (.int .i64 0) ∧ w'.cell? ⟨b2, 0, none⟩ = some (.int .i8 0) ∧ w'.cell? ⟨b2, 1, none⟩ = some (.int .u64 1) ∧ w'.cell? ⟨b2, 2, none⟩ = some (.int .u64 E) ∧ w'.cell? ⟨b2, 3, none⟩ = some (.int .i64 0) ∧ w'.cell? ⟨b2, 4, none⟩ = some (.int .i64 0)) (go_keep)
                (first
                  | (go_at_call 22
                     refine (reach_any H.out.m 0 1 E 0 0 (by omega) (by omega) HEF.out).mono ?_
                     rintro e w10 ⟨rfl, O10, hf, hm⟩
                     rw [show errReach 1 0 1 0 0 = 0 from rfl]
                     have HX := Lib.hid (H.out.mem hf hm)
                     have HX1 := Lib.hid (Ent.kept (w := w9.drew) HE1.out hf n1.1)
                     have HX2 := Lib.hid (Ent.kept (w := w9.drew) HE2.out hf n2.1)
                     clear hf hm
                     have r0 := HX1.out.cell 0
                     have r1 := HX1.out.cell 1
                     have r2 := HX1.out.cell 2
                     have r3 := HX1.out.cell 3
                     have r4 := HX1.out.cell 4
                     have s0 := HX2.out.cell 0
                     have s1 := HX2.out.cell 1
                     have s2 := HX2.out.cell 2
                     have s3 := HX2.out.cell 3
                     have s4 := HX2.out.cell 4)
                  | (go_at_call 29
                     refine (rreach_any HX.out.r 0 1 E 0 0 (by omega) HEF.out).mono ?_
                     rintro e w11 ⟨rfl, P11, hf, hm⟩
                     rw [show errReach 1 0 1 0 0 = 0 from rfl]
                     have HY := Lib.hid (HX.out.ref hf hm)
                     have HY1 := Lib.hid (Ent.kept HX1.out hf n1.2)
                     have HY2 := Lib.hid (Ent.kept HX2.out hf n2.2)
                     clear hf hm
                     have x0 := HY1.out.cell 0
                     have x1 := HY1.out.cell 1
                     have x2 := HY1.out.cell 2
                     have x3 := HY1.out.cell 3
                     have x4 := HY1.out.cell 4
                     have y0 := HY2.out.cell 0
                     have y1 := HY2.out.cell 1
                     have y2 := HY2.out.cell 2
                     have y3 := HY2.out.cell 3
                     have y4 := HY2.out.cell 4))
              go_wp2_with fail
              go_meet
              case rel => exact ⟨_, _, _, HY.out⟩
            · have b0 : (z j == 0) = false := beq_eq_false_iff_ne.2 h0
              have b1 : (z j == 1) = false := beq_eq_false_iff_ne.2 h1
              go_wp2_with fail
              go_meet
              case rel => exact ⟨_, _, _, H.out⟩
        case rest =>
          obtain ⟨O, P, V, hB⟩ := hcut
          have H := Lib.hid hB
          have HO := Lib.hid hB.m.out
          clear hB
          go_wp2_with fail
          refine (served_any H.out.m t).mono ?_
          rintro e w7 ⟨rfl, hg⟩
          have H := Lib.hid (H.out.grown hg)
          clear hg
          go_wp2_with fail
          refine (rserved_any H.out.r HO.out t).mono ?_
          rintro e w8 ⟨rfl, rfl⟩
          generalize (V 1 == t) = bt
          go_wp2_with fail
          refine (waiting_any H.out.m).mono ?_
          rintro e w9 ⟨rfl, hg⟩
          have H := Lib.hid (H.out.grown hg)
          clear hg
          go_wp2_with fail
          refine (rwaiting_any H.out.r HO.out).mono ?_
          rintro e w10 ⟨rfl, rfl⟩
          generalize wrapU (V 0 - V 1) = E
          go_wp2_with fail
          go_roundw
          case rel => exact ⟨j + 1, by omega, by go_num, _, _, _, H.out⟩
          case measure => simp [intOf]; omega
      · go_wp2_with (go_at_call 23; refine (wakes18_true _).mono ?_; rintro e w8 ⟨rfl, O8, hf8⟩)
        go_ret
        exact ⟨rfl, _, (Fp.grown0 H.out.g).trans hf8⟩
end Go.Proofs.Ytablmoegmmeglaa
