/- The walk of AsidPlays. -/
import Derived.Test.YtbehdccjiodlpaaTwo
import Derived.Test.YtbehdccjiodlpaaSameWalk
import Derived.BigQuiet
import Derived.Deep.RegionHeld3
namespace Go.Proofs.Ytbehdccjiodlpaa
open Go.RowKit

theorem grown_drewN (w : World) (k : Nat) : w.grownBy (w.drewN k) none := ⟨rfl, rfl, rfl, Nat.le_refl _, fun _ _ _ => rfl⟩
theorem fine_gone {h : Nat → Int} {n : Nat} (hF : Fine h n) (s : Int) : Fine (hGone h n s) n := by
  unfold hGone
  split
  · refine ⟨updH_zero (by omega) hF.z, hF.u.sub fun j => ?_⟩
    unfold updH
    split
    · exact .inr rfl
    · exact .inl rfl
  · exact hF
theorem rgone_both {w : World} {R S n : Nat} {a : Int} {h : Nat → Int} (H : RGv w R S n a h) (hF : Fine h n) (s : Int) :
    Calls Try.prog 15 #[.pointer (some ⟨R, 0, none⟩), .int .i64 s] w (DidR w R S n a (hGone h n s) (.int .i64 (errG s))) := by
  unfold errG
  by_cases hs : 1 ≤ s ∧ s ≤ 6
  · rw [if_pos hs, ← gone_eq hF.u s hs]
    exact rgone_any H s hs
  · rw [if_neg hs]
    have e : hGone h n s = h := by
      unfold hGone ofF
      rw [if_neg hs, if_neg (by omega)]
    rw [e]
    refine (rgone_bad s hs w).mono ?_
    rintro e w' ⟨rfl, rfl⟩
    exact ⟨rfl, S, Keep.refl _ _ _, .inl rfl, H⟩

set_option maxRecDepth 10000 in
set_option maxHeartbeats 4000000 in
theorem plays_in (n : Nat) (A : Option Addr) (len cap : Nat) (X : Nat → One) (w : World) (hl : Asks w w.heap.size A len X) (h2 : 2 ≤ n) (h16 : n ≤ 16) :
    Calls Try.prog 5 #[.int .i64 n, .slice A len cap] w (Law w (.bool true)) := by
  have HL := Lib.hid hl
  clear hl
  go_enter Try.func5, Try.ntmps5
  go_wp2_with fail
  refine (great_any A len cap X HL.out).mono ?_
  rintro e w0 ⟨rfl, bb, rfl, hgr⟩
  cases bb with
  | true =>
    go_wp2_with (go_at_call 9; refine (wakes_true _).mono ?_; rintro e w8 ⟨rfl, hf⟩)
    go_ret
    exact ⟨rfl, hf⟩
  | false =>
    obtain ⟨hlen, hrl⟩ := hgr rfl
    have HRL := Lib.hid hrl
    clear hgr hrl
    go_wp2_with fail
    refine (new_in n w0 h2 h16).mono ?_
    rintro e w1 ⟨G, rfl, hlG, hg1, hm1⟩
    have HG1 := Lib.hid hg1
    have HM1 := Lib.hid hm1
    clear hg1 hm1
    go_wp2_with fail
    refine (rnew_in n w1 h2 h16).mono ?_
    rintro e w2 ⟨R, S, rfl, hlR, hlS, hg2, hm2⟩
    have hGl := HM1.out.lt
    have HT := Lib.hid (Two.mk (grown_both HG1.out hg2) hlG (Nat.le_trans HG1.out.size hlR) (Nat.le_trans HG1.out.size hlS) (HM1.out.grown hg2 (by simp)) hm2 (by omega) (by omega))
    clear hg2 hm2 hGl HG1 HM1 hlR hlS
    go_wp2_with fail
    go_loopw [49] (fun i wr => ∃ q : Nat, q ≤ len ∧ i = .int .i64 q ∧ ∃ S a h, Two w0 wr G R S n a h a h ∧ Fine h n ∧ 1 ≤ a ∧ a ≤ 1 + q) (fun i _ => len - (intOf i).toNat)
    case atStart => exact ⟨0, by omega, rfl, S, 1, _, HT.out, ⟨rfl, Uniq.start n⟩, by omega, by omega⟩
    case round =>
      obtain ⟨q, hq, rfl, S, a, h, hT, hF, ha1, ha2⟩ := hrel
      clear HT
      have HT := Lib.hid hT
      have HF := Lib.hid hF
      have HG0 := Lib.hid hT.v.lt
      have HR0 := Lib.hid hT.r.ltR
      have HS0 := Lib.hid hT.r.ltS
      clear hT hF
      by_cases hql : (q : Int) < len
      · obtain ⟨b, off, rfl, hbw, hcell⟩ := HL.out (by omega)
        have hok := (hcell q (by omega)).2
        have hc : ∀ j, j < 3 → wr.cell? ⟨b, off + q * 3 + j, none⟩ = some ((X q).cell j) := fun j hj => (World.cell?_of_block (HT.out.g.block b hbw (by simp))).trans ((hcell q (by omega)).1 j hj)
        have hcs : ∀ j v, ([(X q).cell 0, (X q).cell 1, (X q).cell 2] : List Value)[j]? = some v → wr.cell? ((⟨b, off + q * 3, none⟩ : Addr).add j) = some v := by
          intro j v hv
          have hj : j < 3 := by simpa using (List.getElem?_eq_some_iff.1 hv).1
          have hadd : (⟨b, off + q * 3, none⟩ : Addr).add j = ⟨b, off + q * 3 + j, none⟩ := by unfold Addr.add; split <;> simp_all
          rw [hadd, hc j hj, ← hv]
          match j, hj with
          | 0, _ => rfl
          | 1, _ => rfl
          | 2, _ => rfl
        have HC := Lib.hid hcs
        have HOK := Lib.hid hok
        have HR20 := Lib.hid (HRL.out q (by omega))
        clear hc hcs hok hcell
        have HT := Lib.hid (HT.out.grown (World.grownBy_alloc wr (.cells #[.int .i64 (X q).kd, .int .i64 (X q).sp, .slice (X q).A (X q).l (X q).c] 32) none))
        have hbb : wr.heap.size ≠ G ∧ wr.heap.size ≠ R ∧ wr.heap.size ≠ S := ⟨fun e => by have := HG0.out; omega, fun e => by have := HR0.out; omega, fun e => by have := HS0.out; omega⟩
        have HE := Lib.hid (Go.heap_alloc_new wr (.cells #[.int .i64 (X q).kd, .int .i64 (X q).sp, .slice (X q).A (X q).l (X q).c] 32))
        by_cases hk : (X q).kd = 1
        · have hkb : ((X q).kd == 1) = true := beq_iff_eq.2 hk
          have HTD := Lib.hid (HT.out.grown (⟨rfl, rfl, rfl, Nat.le_refl _, fun _ _ _ => rfl⟩ : (wr.alloc (.cells #[.int .i64 (X q).kd, .int .i64 (X q).sp, .slice (X q).A (X q).l (X q).c] 32)).grownBy (wr.alloc (.cells #[.int .i64 (X q).kd, .int .i64 (X q).sp, .slice (X q).A (X q).l (X q).c] 32)).drew none))
          clear hk
          go_wp2_with (with_reducible refine wpList_load_cells (o := ⟨some 52, _, _, _, _, _⟩) rfl 32 _ rfl ⟨b, off + q * 3, none⟩ rfl _ _ HC.out Try.underlying32 rfl (by kernel_rfl) ?_; simp only [One.cell])
          go_region_held3 (fun w' => w'.cell? ⟨wr.heap.size, 1, none⟩ = some (.int .i64 (X q).sp)) (go_keep)
            (first
              | (go_at_call 10
                 refine (gone_any HTD.out.v (X q).sp).mono ?_
                 rintro e w3 ⟨rfl, hg3, hm3⟩
                 have HT3 := Lib.hid (HTD.out.giver hg3 hm3)
                 have hent := (hg3.block wr.heap.size (by simp) (by simp; exact hbb.1)).trans HE.out
                 have q1 : w3.cell? ⟨wr.heap.size, 1, none⟩ = some (.int .i64 (X q).sp) := cell_of_row w3 _ 1 _ _ _ hent
                 have HENT := Lib.hid hent
                 clear hg3 hm3 hent)
              | (go_at_call 15
                 refine (rgone_both HT3.out.r HF.out (X q).sp).mono ?_
                 rintro e w4 ⟨rfl, S1, hkp, hS1, hm4⟩
                 have HT4 := Lib.hid (HT3.out.refd hkp hS1 hm4)
                 have hent := (hkp.block wr.heap.size (lt_of_block HENT.out) hbb.2.1 hbb.2.2).trans HENT.out
                 have q0 : w4.cell? ⟨wr.heap.size, 0, none⟩ = some (.int .i64 (X q).kd) := cell_of_row w4 _ 0 _ _ _ hent
                 have q1 : w4.cell? ⟨wr.heap.size, 1, none⟩ = some (.int .i64 (X q).sp) := cell_of_row w4 _ 1 _ _ _ hent
                 clear hkp hS1 hm4 hent))
          clear HT HTD HT3
          have HF1 := Lib.hid (fine_gone HF.out (X q).sp)
          clear HF
          generalize hGone h n (X q).sp = h1 at HT4 HF1
          have HT := HT4
          have HF := HF1
          clear HT4 HF1
          obtain ⟨a1, ea1⟩ : ∃ a1, a1 = a := ⟨_, rfl⟩
          rw [← ea1] at HT
          have HA1 : 1 ≤ a1 := by omega
          have HA2 : a1 ≤ 1 + (q + 1) := by omega
          clear ea1 ha1 ha2
          go_wp2_with fail
          refine (of_any HT.out.v (X q).sp).mono ?_
          rintro e w5 ⟨rfl, rfl⟩
          go_wp2_with fail
          refine (rof_any HT.out.r (X q).sp).mono ?_
          rintro e w6 ⟨rfl, rfl⟩
          have cA := HT.out.r.cellA
          generalize ofF h1 n (X q).sp = of1
          generalize decide (0 < of1) = ob
          have hb1 : ((of1 : Int) != (of1 : Int)) = false := by simp
          have hb2 : (ob != ob) = false := by simp
          have hb3 : (a1 != a1) = false := by simp
          have hb4 : ((cz h1 n : Int) != (cz h1 n : Int)) = false := by simp
          go_wp2_with fail
          have HTQ := Lib.hid (fun k => HT.out.grown (grown_drewN _ k))
          go_quiet (first
            | (go_at_call 12; exact Calls.quiet_of_same (age_any (HTQ.out _).v))
            | (go_at_call 18; exact Calls.quiet_of_same (free_any (HTQ.out _).v))
            | (go_at_call 19; exact Calls.quiet_of_same (rfree_any (HTQ.out _).r)))
          have HTZ := Lib.hid (HTQ.out nq)
          clear HTQ
          go_wp2_with fail
          go_roundw
          case rel => exact ⟨q + 1, by omega, by go_num, S1, a1, h1, HTZ.out, HF.out, by omega, by omega⟩
          case measure => simp [intOf]; omega
        · have hkb : ((X q).kd == 1) = false := beq_eq_false_iff_ne.2 hk
          clear hk
          go_wp2_with (with_reducible refine wpList_load_cells (o := ⟨some 52, _, _, _, _, _⟩) rfl 32 _ rfl ⟨b, off + q * 3, none⟩ rfl _ _ HC.out Try.underlying32 rfl (by kernel_rfl) ?_; simp only [One.cell])
          refine (ask_any HT.out.v (X q).sp (X q).A (X q).l (X q).c (X q).z HOK.out.2.1 ((HOK.out.2.2.kept (fun k hk => HT.out.g.block k hk (by simp))).more HT.out.g.size) HR20.out (by omega)).mono ?_
          intro e w3 hp
          obtain ⟨ri, rf, rerr, a1, h1, rfl, hg3, hm3, hF1, ha3, ha4, hboth⟩ := ask_both HT.out.v HF.out hp
          have HT3 := Lib.hid (HT.out.giver hg3 hm3)
          have hent := (hg3.block wr.heap.size (by simp) (by simp; exact hbb.1)).trans HE.out
          have q0 : w3.cell? ⟨wr.heap.size, 0, none⟩ = some (.int .i64 (X q).kd) := cell_of_row w3 _ 0 _ _ _ hent
          have q1 : w3.cell? ⟨wr.heap.size, 1, none⟩ = some (.int .i64 (X q).sp) := cell_of_row w3 _ 1 _ _ _ hent
          have q2 : w3.cell? ⟨wr.heap.size, 2, none⟩ = some (.slice (X q).A (X q).l (X q).c) := cell_of_row w3 _ 2 _ _ _ hent
          have HENT := Lib.hid hent
          have HBO := Lib.hid hboth
          have HF1 := Lib.hid hF1
          clear hg3 hm3 hp hboth hF1 hent
          go_wp2_with fail
          refine (rask_any HT3.out.r (X q).sp (X q).A (X q).l (X q).c (X q).z ((HOK.out.2.2.kept (fun k hk => HT3.out.g.block k hk (by simp))).more HT3.out.g.size) HR20.out (by omega) HF.out.z).mono ?_
          intro e w4 hp
          obtain ⟨rfl, S1, hkp, hS1, hm4⟩ := HBO.out _ _ R S e HT3.out.r hp
          have HT := Lib.hid (HT3.out.refd hkp hS1 hm4)
          have hlt3 := lt_of_block HENT.out
          have hent := (hkp.block wr.heap.size hlt3 hbb.2.1 hbb.2.2).trans HENT.out
          have HF := HF1
          clear q0 q1 q2 hp hkp hS1 hm4
          have q0 : w4.cell? ⟨wr.heap.size, 0, none⟩ = some (.int .i64 (X q).kd) := cell_of_row w4 _ 0 _ _ _ hent
          have q1 : w4.cell? ⟨wr.heap.size, 1, none⟩ = some (.int .i64 (X q).sp) := cell_of_row w4 _ 1 _ _ _ hent
          have q2 : w4.cell? ⟨wr.heap.size, 2, none⟩ = some (.slice (X q).A (X q).l (X q).c) := cell_of_row w4 _ 2 _ _ _ hent
          clear hent
          go_wp2_with fail
          refine (of_any HT.out.v (X q).sp).mono ?_
          rintro e w5 ⟨rfl, rfl⟩
          go_wp2_with fail
          refine (rof_any HT.out.r (X q).sp).mono ?_
          rintro e w6 ⟨rfl, rfl⟩
          have cA := HT.out.r.cellA
          generalize ofF h1 n (X q).sp = of1
          generalize decide (0 < of1) = ob
          have hb1 : ((of1 : Int) != (of1 : Int)) = false := by simp
          have hb2 : (ob != ob) = false := by simp
          have hb3 : (a1 != a1) = false := by simp
          have hb4 : ((cz h1 n : Int) != (cz h1 n : Int)) = false := by simp
          go_wp2_with fail
          have HTQ := Lib.hid (fun k => HT.out.grown (grown_drewN _ k))
          go_quiet (first
            | (go_at_call 12; exact Calls.quiet_of_same (age_any (HTQ.out _).v))
            | (go_at_call 18; exact Calls.quiet_of_same (free_any (HTQ.out _).v))
            | (go_at_call 19; exact Calls.quiet_of_same (rfree_any (HTQ.out _).r)))
          have HTZ := Lib.hid (HTQ.out nq)
          clear HTQ
          go_wp2_with fail
          go_roundw
          case rel => exact ⟨q + 1, by omega, by go_num, S1, a1, h1, HTZ.out, HF.out, by omega, by omega⟩
          case measure => simp [intOf]; omega
      · go_wp2_with (go_at_call 9; refine (wakes_true _).mono ?_; rintro e w8 ⟨rfl, hf⟩)
        go_ret
        exact ⟨rfl, grown_both HT.out.g hf⟩

set_option maxRecDepth 10000 in
set_option maxHeartbeats 400000 in
theorem plays_walk (n : Int) (A : Option Addr) (len cap : Nat) (X : Nat → One) (w : World) (hl : Asks w w.heap.size A len X) :
    Calls Try.prog 5 #[.int .i64 n, .slice A len cap] w (Law w (.bool true)) := by
  by_cases hn : 2 ≤ n ∧ n ≤ 16
  · obtain ⟨k, rfl⟩ := Int.eq_ofNat_of_zero_le (show 0 ≤ n by omega)
    exact plays_in k A len cap X w hl (by omega) (by omega)
  · have HN := Lib.hid hn
    have HL := Lib.hid hl
    clear hn hl
    go_enter Try.func5, Try.ntmps5
    go_wp2_with fail
    refine (great_any A len cap X HL.out).mono ?_
    rintro e w0 ⟨rfl, bb, rfl, hgr⟩
    clear hgr
    cases bb with
    | true =>
      go_wp2_with (go_at_call 9; refine (wakes_true _).mono ?_; rintro e w8 ⟨rfl, hf⟩)
      go_ret
      exact ⟨rfl, hf⟩
    | false =>
      go_wp2_with fail
      refine (new_out n w0 HN.out).mono ?_
      rintro e w1 ⟨rfl, rfl⟩
      go_wp2_with fail
      refine (rnew_out n w1 HN.out).mono ?_
      rintro e w2 ⟨rfl, rfl⟩
      go_wp2_with (go_at_call 9; refine (wakes_true _).mono ?_; rintro e w8 ⟨rfl, hf⟩)
      go_ret
      exact ⟨rfl, hf⟩
end Go.Proofs.Ytbehdccjiodlpaa
