/- The walk of AsidApart. -/
import Derived.Test.YtbehdccjiodlpaaApartRow
import Derived.Test.YtbehdccjiodlpaaSameWalk
import Derived.BigQuiet
namespace Go.Proofs.Ytbehdccjiodlpaa
open Go.RowKit

theorem grown_drewN (w : World) (k : Nat) : w.grownBy (w.drewN k) none := ⟨rfl, rfl, rfl, Nat.le_refl _, fun _ _ _ => rfl⟩
theorem fine_gone {h : Nat → Int} {n : Nat} (hF : Fine h n) (s : Int) : Fine (hGone h n s) n := by
  unfold hGone
  split
  · refine ⟨updH_zero (by omega) hF.z, hF.u.sub fun j => ?_⟩
    unfold updH
    split
    · exact .inr rfl
    · exact .inl rfl
  · exact hF
def ints17 : Array Value := #[.int .i64 0, .int .i64 0, .int .i64 0, .int .i64 0, .int .i64 0, .int .i64 0, .int .i64 0, .int .i64 0, .int .i64 0, .int .i64 0, .int .i64 0, .int .i64 0, .int .i64 0, .int .i64 0, .int .i64 0, .int .i64 0, .int .i64 0]
theorem arr_zero : (arr fun _ => 0) = ints17 := by kernel_rfl

def bools17 : Array Value := #[.bool false, .bool false, .bool false, .bool false, .bool false, .bool false, .bool false, .bool false, .bool false, .bool false, .bool false, .bool false, .bool false, .bool false, .bool false, .bool false, .bool false]
theorem arrB_zero : (arrB fun _ => false) = bools17 := by kernel_rfl

set_option maxRecDepth 100000 in
set_option maxHeartbeats 400000 in
theorem apart_out (n : Int) (A : Option Addr) (len cap : Nat) (w : World) (hn : ¬ (2 ≤ n ∧ n ≤ 16)) :
    Calls Try.prog 3 #[.int .i64 n, .slice A len cap] w (Law w (.bool true)) := by
  have HN := Lib.hid hn
  clear hn
  go_enter Try.func3, Try.ntmps3
  go_wp2_with fail
  refine (new_out n w HN.out).mono ?_
  rintro e w' ⟨rfl, rfl⟩
  go_wp2_with (go_at_call 9; refine (wakes_true _).mono ?_; rintro e w8 ⟨rfl, hf⟩)
  go_ret
  exact ⟨rfl, hf⟩

set_option maxRecDepth 100000 in
set_option maxHeartbeats 4000000 in
theorem apart_in (n : Nat) (A : Option Addr) (len cap : Nat) (X : Nat → One) (w : World) (hl : Asks w w.heap.size A len X) (h2 : 2 ≤ n) (h16 : n ≤ 16) :
    Calls Try.prog 3 #[.int .i64 n, .slice A len cap] w (Law w (.bool true)) := by
  have HL := Lib.hid hl
  clear hl
  go_enter Try.func3, Try.ntmps3
  go_wp2_with fail
  refine (new_in n w h2 h16).mono ?_
  rintro e w1 ⟨G, rfl, hlG, hg1, hm1⟩
  have HG1 := Lib.hid hg1
  have HM1 := Lib.hid hm1
  have hlA : Asks w1 w1.heap.size A len X := fun h0 => by
    obtain ⟨b, off, hA, hb, hc⟩ := HL.out h0
    refine ⟨b, off, hA, Nat.lt_of_lt_of_le hb hg1.size, fun i hi => ⟨fun j hj => (World.cell?_of_block (hg1.block b hb (by simp))).trans ((hc i hi).1 j hj), (hc i hi).2.1, (hc i hi).2.2.1, ((hc i hi).2.2.2.kept (fun k hk => hg1.block k hk (by simp))).more hg1.size⟩⟩
  have HLA := Lib.hid hlA
  clear hg1 hm1 hlA
  go_wp2_with fail
  refine (great_any A len cap X HLA.out).mono ?_
  rintro e w2 ⟨rfl, bb, rfl, hgr⟩
  cases bb with
  | true =>
    clear hgr
    go_wp2_with (go_at_call 9; refine (wakes_true _).mono ?_; rintro e w8 ⟨rfl, hf⟩)
    go_ret
    exact ⟨rfl, grown_both HG1.out hf⟩
  | false =>
    obtain ⟨hlen, hrl⟩ := hgr rfl
    have HRL := Lib.hid hrl
    clear hgr hrl
    have HP : Hid (Ap w (w2.alloc (.cells ints17 29)) G w2.heap.size n 1 (fun _ => 0) fun _ => 0) := Lib.hid ⟨grown_both HG1.out (World.grownBy_alloc w2 _ none), hlG, HG1.out.size, HM1.out.grown (World.grownBy_alloc w2 _ none) (by simp), by rw [arr_zero]; exact Go.heap_alloc_new w2 _, fun e => by have := HM1.out.lt; omega⟩
    clear HG1 HM1 HLA
    unfold ints17 at HP
    go_wp2_with fail
    generalize w2.heap.size = D at HP ⊢
    go_loopw [43] (fun i wr => ∃ q : Nat, q ≤ len ∧ i = .int .i64 q ∧ ∃ a h ow, Ap w wr G D n a h ow ∧ Fine h n ∧ Owns h ow n ∧ 1 ≤ a ∧ a ≤ 1 + q) (fun i _ => len - (intOf i).toNat)
    case atStart => exact ⟨0, by omega, rfl, 1, _, _, HP.out, ⟨rfl, Uniq.start n⟩, Owns.start _ _, by omega, by omega⟩
    case round =>
      obtain ⟨q, hq, rfl, a, h, ow, hP, hF, hO, ha1, ha2⟩ := hrel
      clear HP
      have HP := Lib.hid hP
      have HF := Lib.hid hF
      have HO := Lib.hid hO
      clear hP hF hO
      by_cases hql : (q : Int) < len
      · obtain ⟨b, off, rfl, hbw, hcell⟩ := HL.out (by omega)
        have hok := (hcell q (by omega)).2
        have hc : ∀ j, j < 3 → wr.cell? ⟨b, off + q * 3 + j, none⟩ = some ((X q).cell j) := fun j hj => (World.cell?_of_block (HP.out.g.block b hbw (by simp))).trans ((hcell q (by omega)).1 j hj)
        have hcs : ∀ j v, ([(X q).cell 0, (X q).cell 1, (X q).cell 2] : List Value)[j]? = some v → wr.cell? ((⟨b, off + q * 3, none⟩ : Addr).add j) = some v := by
          intro j v hv
          have hj : j < 3 := by simpa using (List.getElem?_eq_some_iff.1 hv).1
          have hadd : (⟨b, off + q * 3, none⟩ : Addr).add j = ⟨b, off + q * 3 + j, none⟩ := by unfold Addr.add; split <;> simp_all
          rw [hadd, hc j hj, ← hv]
          match j, hj with
          | 0, _ => rfl
          | 1, _ => rfl
          | 2, _ => rfl
        have HC := Lib.hid hcs
        have HOK := Lib.hid hok
        have HR20 := Lib.hid (HRL.out q (by omega))
        clear hc hcs hok hcell
        have HR := Lib.hid (HP.out.ask (X q))
        by_cases hk : (X q).kd = 1
        · have hkb : ((X q).kd == 1) = true := beq_iff_eq.2 hk
          clear hk
          go_wp2_with (with_reducible refine wpList_load_cells (o := ⟨some 46, _, _, _, _, _⟩) rfl 32 _ rfl ⟨b, off + q * 3, none⟩ rfl _ _ HC.out Try.underlying32 rfl (by kernel_rfl) ?_; simp only [One.cell])
          by_cases hs : 1 ≤ (X q).sp ∧ (X q).sp ≤ 6
          · have HGN := Lib.hid (gone_any HR.out.p.v (X q).sp)
            rw [show errG (X q).sp = 0 from if_pos hs] at HGN
            have HS := Lib.hid hs
            clear hs
            refine HGN.out.mono ?_
            rintro e w3 ⟨rfl, hg3, hm3⟩
            have HR3 := Lib.hid (HR.out.giver hg3 hm3)
            clear hg3 hm3 HGN HR HP HC
            go_wp2_with fail
            generalize wr.heap.size = E at HR3 ⊢
            go_loopw [55] (fun i wx => ∃ k : Nat, k ≤ 17 ∧ i = .int .i64 k ∧ Ar w wx G D E n a (hGone h n (X q).sp) (strike ow (X q).sp k) (X q)) (fun i _ => 18 - (intOf i).toNat)
            case atStart => exact ⟨0, by omega, rfl, by rw [strike_zero]; exact HR3.out⟩
            case round =>
              obtain ⟨k, hk17, rfl, hRk⟩ := hrel
              clear HR3
              have HRK := Lib.hid hRk
              by_cases hk : (k : Int) < 17
              · have cD := hRk.p.cell (j := k) (by omega)
                rw [strike_at] at cD
                have cE := hRk.cell1
                have fD := hRk.p.frozen k
                have fE := hRk.p.ltD
                clear hRk
                by_cases he : ow k = (X q).sp
                · have hbe : (ow k == (X q).sp) = true := beq_iff_eq.2 he
                  have HE := Lib.hid he
                  clear he
                  go_wp2_with fail
                  go_quiet (fail)
                  go_wp2_with fail
                  go_roundw
                  case rel => exact ⟨k + 1, by omega, by go_num, by rw [← strike_hit HE.out]; exact (HRK.out.grown (grown_drewN _ _)).setD k 0⟩
                  case measure => simp [intOf]; omega
                · have hbe : (ow k == (X q).sp) = false := beq_eq_false_iff_ne.2 he
                  have HE := Lib.hid he
                  clear he
                  go_wp2_with fail
                  go_quiet (fail)
                  go_wp2_with fail
                  go_roundw
                  case rel => exact ⟨k + 1, by omega, by go_num, by rw [← strike_miss HE.out]; exact HRK.out.grown (grown_drewN _ _)⟩
                  case measure => simp [intOf]; omega
              · have hke : k = 17 := by omega
                subst hke
                clear hRk
                go_wp2_with fail
                go_roundw
                case rel => exact ⟨q + 1, by omega, by go_num, a, _, _, HRK.out.p, fine_gone HF.out _, HO.out.gone h16 HS.out, by omega, by omega⟩
                case measure => simp [intOf]; omega
          · have HGN := Lib.hid (gone_any HR.out.p.v (X q).sp)
            rw [show errG (X q).sp = 2 from if_neg hs, show hGone h n (X q).sp = h from by unfold hGone ofF; rw [if_neg hs, if_neg (by omega)]] at HGN
            clear hs
            refine HGN.out.mono ?_
            rintro e w3 ⟨rfl, hg3, hm3⟩
            have HR3 := Lib.hid (HR.out.giver hg3 hm3)
            clear hg3 hm3 HGN HR HP HC
            go_wp2_with fail
            go_roundw
            case rel => exact ⟨q + 1, by omega, by go_num, a, _, _, HR3.out.p, HF.out, HO.out, by omega, by omega⟩
            case measure => simp [intOf]; omega
        · have hkb : ((X q).kd == 1) = false := beq_eq_false_iff_ne.2 hk
          clear hk
          have HKP : Hid (Ak w ((wr.alloc (.cells #[.int .i64 (X q).kd, .int .i64 (X q).sp, .slice (X q).A (X q).l (X q).c] 32)).alloc (.cells ints17 29)) G D wr.heap.size (wr.heap.size + 1) n a h ow (X q) fun _ => 0) := Lib.hid (by
            have t := HR.out.keep
            rw [arr_zero, World.size_alloc] at t
            exact t)
          unfold ints17 at HKP
          go_wp2_with (with_reducible refine wpList_load_cells (o := ⟨some 46, _, _, _, _, _⟩) rfl 32 _ rfl ⟨b, off + q * 3, none⟩ rfl _ _ HC.out Try.underlying32 rfl (by kernel_rfl) ?_; simp only [One.cell])
          clear HR HC HP
          generalize wr.heap.size + 1 = C at HKP ⊢
          generalize wr.heap.size = E at HKP ⊢
          go_loopw [12] (fun i wx => ∃ s : Nat, 1 ≤ s ∧ s ≤ 7 ∧ i = .int .i64 s ∧ ∃ K, Ak w wx G D E C n a h ow (X q) K ∧ Kept h (X q).z n (X q).l K) (fun i _ => 8 - (intOf i).toNat)
          case atStart => exact ⟨1, by omega, by omega, rfl, _, HKP.out, Kept.start _ _ _ _⟩
          case round =>
            obtain ⟨s, hs1, hs7, rfl, K, hK, hKe⟩ := hrel
            clear HKP
            have HK := Lib.hid hK
            have HKE := Lib.hid hKe
            have c1 := hK.r.cell1
            have c2 := hK.r.cell2
            clear hK hKe
            by_cases hs6 : (s : Int) ≤ 6
            · have HEL : Hid (Elems w w.heap.size (X q).A (X q).l (fun i => .int .i64 ((X q).z i))) := Lib.hid HOK.out.2.2
              obtain ⟨xA, hxA⟩ : ∃ y, y = (X q).A := ⟨_, rfl⟩
              rw [← hxA] at c2 HEL
              clear hxA
              go_wp2_with fail
              refine (of_any HK.out.r.p.v s).mono ?_
              rintro e w3 ⟨rfl, rfl⟩
              have HOF := Lib.hid (of_pos (h := h) (n := n) (s := (s : Int)))
              generalize ofF h n s = x at HOF ⊢
              by_cases hx : 0 < x
              · rw [decide_eq_true hx]
                obtain ⟨x1, x2, x3, _⟩ := HOF.out hx
                have HX3 := Lib.hid x3
                clear x3
                go_wp2_with fail
                go_loopw [80] (fun i wy => ∃ t : Nat, t ≤ (X q).l ∧ i = .int .i64 t ∧ ∃ K, Ak w wy G D E C n a h ow (X q) K ∧ Kept h (X q).z n (X q).l K) (fun i _ => (X q).l - (intOf i).toNat)
                case atStart => exact ⟨0, by omega, rfl, K, HK.out, HKE.out⟩
                case round =>
                  obtain ⟨t, ht, rfl, K1, hK1, hKe1⟩ := hrel
                  clear HK HKE c1 c2 HOF
                  have hl20 := HR20.out
                  have HK := Lib.hid hK1
                  have HKE := Lib.hid hKe1
                  clear hK1 hKe1
                  by_cases htl : (t : Int) < (X q).l
                  · obtain ⟨b1, off1, rfl, hb1, hcell⟩ := HEL.out (by omega)
                    have hcx := (World.cell?_of_block (HK.out.r.p.g.block b1 hb1 (by simp))).trans (hcell t (by omega))
                    clear hcell
                    by_cases hz : (X q).z t = x
                    · have hzb : ((X q).z t == (x : Int)) = true := beq_iff_eq.2 hz
                      have cK := HK.out.cell (j := x) (by omega)
                      have fK := HK.out.frozen x
                      have HZ := Lib.hid hz
                      clear hz
                      go_wp2_with fail
                      go_roundw
                      case rel => exact ⟨t + 1, by omega, by go_num, _, HK.out.setK x s, HKE.out.put s (by omega) (by omega) (by omega) x2 HX3.out (by omega) HZ.out⟩
                      case measure => simp [intOf]; omega
                    · have hzb : ((X q).z t == (x : Int)) = false := beq_eq_false_iff_ne.2 hz
                      clear hz
                      go_wp2_with fail
                      go_roundw
                      case rel => exact ⟨t + 1, by omega, by go_num, K1, HK.out, HKE.out⟩
                      case measure => simp [intOf]; omega
                  · go_wp2_with fail
                    go_roundw
                    case rel => exact ⟨s + 1, by omega, by omega, by go_num, K1, HK.out, HKE.out⟩
                    case measure => simp [intOf]; omega
              · rw [decide_eq_false hx]
                go_wp2_with fail
                go_loopw [80] (fun i wy => ∃ t : Nat, t ≤ (X q).l ∧ i = .int .i64 t ∧ Ak w wy G D E C n a h ow (X q) K) (fun i _ => (X q).l - (intOf i).toNat)
                case atStart => exact ⟨0, by omega, rfl, HK.out⟩
                case round =>
                  obtain ⟨t, ht, rfl, hK1⟩ := hrel
                  clear HK c1 c2 HOF
                  have hl20 := HR20.out
                  have HK := Lib.hid hK1
                  clear hK1
                  by_cases htl : (t : Int) < (X q).l
                  · obtain ⟨b1, off1, rfl, hb1, hcell⟩ := HEL.out (by omega)
                    have hcx := (World.cell?_of_block (HK.out.r.p.g.block b1 hb1 (by simp))).trans (hcell t (by omega))
                    clear hcell
                    go_wp2_with fail
                    go_roundw
                    case rel => exact ⟨t + 1, by omega, by go_num, HK.out⟩
                    case measure => simp [intOf]; omega
                  · go_wp2_with fail
                    go_roundw
                    case rel => exact ⟨s + 1, by omega, by omega, by go_num, K, HK.out, HKE.out⟩
                    case measure => simp [intOf]; omega
            · go_wp2_with fail
              refine (age_any HK.out.r.p.v).mono ?_
              rintro e w3 ⟨rfl, rfl⟩
              go_wp2_with fail
              refine (ask_any HK.out.r.p.v (X q).sp (X q).A (X q).l (X q).c (X q).z HOK.out.2.1 ((HOK.out.2.2.kept (fun k hk => HK.out.r.p.g.block k hk (by simp))).more HK.out.r.p.g.size) HR20.out (by omega)).mono ?_
              intro e w4 hp
              have hp2 := asked_of HK.out.r.p.v HF.out hp
              clear hp
              obtain ⟨hg4, ⟨err, herr, rfl, hm4⟩ | ⟨i, f, a1, h1, rfl, hm4, hF1, hA, ha⟩⟩ := hp2
              · have herb : (err != 0) = true := bne_iff_ne.2 herr
                have herb2 : (err == 0) = false := beq_eq_false_iff_ne.2 herr
                have HK4 := Lib.hid (HK.out.giver hg4 hm4)
                clear hg4 hm4 herr c1 c2 HK
                go_wp2_with fail
                go_roundw
                case rel => exact ⟨q + 1, by omega, by go_num, a, h, ow, HK4.out.r.p, HF.out, HO.out, by omega, by omega⟩
                case measure => simp [intOf]; omega
              · have HK4 := Lib.hid (HK.out.giver hg4 hm4)
                have i1 : (1 : Int) ≤ i := by have := hA.i1; omega
                have i2 : (i : Int) ≤ n := by have := hA.i2; omega
                have HA := Lib.hid hA
                have HF1 := Lib.hid hF1
                have hsp1 := hA.s1
                clear hg4 hm4 hA hF1 c1 c2 HK HF
                have ha1' : 1 ≤ a1 := by split at ha <;> omega
                have ha2' : a1 ≤ 1 + (q + 1) := by split at ha <;> omega
                have hfb : (!(f == (a1 == a + 1))) = false := by
                  cases f
                  · rw [if_neg (by simp)] at ha
                    subst ha
                    simp
                    omega
                  · rw [if_pos rfl] at ha
                    subst ha
                    simp
                have i3 : i ≤ n := by omega
                clear ha
                go_upto_if 124 with (go_at_call 12; refine (age_any HK4.out.r.p.v).mono ?_; rintro e w5 ⟨rfl, rfl⟩)
                clear hfb
                go_cut [] from 44 to 193 (fun wx => ∃ ow1, Ak w wx G D E C n a1 h1 ow1 (X q) K ∧ Owns h1 (updH ow1 i (X q).sp) n ∧ (ow1 i = 0 ∨ ow1 i = (X q).sp))
                case first =>
                  cases f with
                  | false =>
                    go_wp2_with fail
                    go_meet
                    exact ⟨_, HK4.out, HA.out.owns HO.out, HA.out.free HO.out⟩
                  | true =>
                    have HKC := Lib.hid HK4.out.k
                    have HKD := Lib.hid HK4.out.r.p.o
                    go_wp2_with (first | (with_reducible refine wpList_load_row (o := ⟨some 125, _, _, _, _, _⟩) rfl 29 _ rfl C rfl 29 (arr K) (0, 0) _ HKC.out Try.underlying29 rfl (by rw [arr_size]; kernel_rfl) ?_) | (with_reducible refine wpList_store_row (o := ⟨none, .store 29 (.tmp 7) (.tmp 125), _, _, _, _⟩) rfl 29 _ _ rfl D (arr K) rfl rfl 29 (arr ow) HKD.out (by rw [arr_size]; kernel_rfl) (by rw [arr_size, arr_size]) (arr_one K) ?_))
                    go_meet
                    exact ⟨_, HK4.out.flush, HA.out.kept HKE.out, .inl (HA.out.clean HKE.out)⟩
                case rest =>
                  obtain ⟨ow1, hK5, hO5, hfr⟩ := hcut
                  clear HO HK4
                  have HK5 := Lib.hid hK5
                  have HO5 := Lib.hid hO5
                  have cD := hK5.r.p.cell (j := i) (by omega)
                  have c1 := hK5.r.cell1
                  clear hK5 hO5
                  go_upto_region 34 with fail
                  go_cut [137] from 44 to 193 (fun c wx => c = .bool false ∧ Ak w wx G D E C n a1 h1 ow1 (X q) K)
                  case first =>
                    rcases hfr with h0 | h0
                    · rw [h0] at cD
                      go_quiet (fail)
                      go_wp2_with fail
                      go_meet
                      exact ⟨rfl, HK5.out.grown (grown_drewN _ _)⟩
                    · rw [h0] at cD
                      have hb0 : ((X q).sp != 0) = true := bne_iff_ne.2 (by omega)
                      have hb1 : ((X q).sp != (X q).sp) = false := by simp
                      go_quiet (fail)
                      go_wp2_with fail
                      go_meet
                      exact ⟨rfl, HK5.out.grown (grown_drewN _ _)⟩
                  case rest =>
                    obtain ⟨rfl, hK6⟩ := hcut
                    clear cD c1 HK5 hfr
                    have HK6 := Lib.hid hK6
                    have cD := hK6.r.p.cell (j := i) (by omega)
                    have c1 := hK6.r.cell1
                    have fD := hK6.r.p.frozen i
                    have HK7 := Lib.hid (hK6.setD i (X q).sp)
                    have HKC := Lib.hid HK7.out.k
                    clear hK6 HK6
                    go_wp2_with (with_reducible refine wpList_load_row (o := ⟨some 142, _, _, _, _, _⟩) rfl 29 _ rfl C rfl 29 (arr K) (0, 0) _ HKC.out Try.underlying29 rfl (by rw [arr_size]; kernel_rfl) ?_)
                    generalize updH ow1 i (X q).sp = ow2 at HK7 HO5
                    clear cD c1 fD HKC
                    go_loopw [143] (fun v wx => ∃ k : Nat, k ≤ 17 ∧ v = .int .i64 k ∧ Ak w wx G D E C n a1 h1 ow2 (X q) K) (fun v _ => 18 - (intOf v).toNat)
                    case atStart => exact ⟨0, by omega, rfl, HK7.out⟩
                    case round =>
                      obtain ⟨k, hk17, rfl, hK8⟩ := hrel
                      clear HK7
                      have HK8 := Lib.hid hK8
                      clear hK8
                      by_cases hk : (k : Int) < 17
                      · have hix := fun w => index_arr K w (k := k) (by omega)
                        by_cases hKk : K k = 0
                        · have HOK0 := Lib.hid (of_any HK8.out.r.p.v 0)
                          rw [show ofF h1 n 0 = 0 from if_neg (by omega)] at HOK0
                          rw [hKk] at hix
                          clear hKk
                          go_wp2_with fail
                          refine HOK0.out.mono ?_
                          rintro e w9 ⟨rfl, rfl⟩
                          clear HOK0
                          go_wp2_with fail
                          go_roundw
                          case rel => exact ⟨k + 1, by omega, by go_num, HK8.out⟩
                          case measure => simp [intOf]; omega
                        · have HOK0 := Lib.hid (of_any HK8.out.r.p.v (K k))
                          have k1 : 0 < k := by
                            rcases HA.out.keeps HKE.out k with c | c
                            · exact absurd c hKk
                            · omega
                          rw [HA.out.still HF1.out HKE.out hKk, decide_eq_true k1] at HOK0
                          have hb0 : (K k != 0) = true := bne_iff_ne.2 hKk
                          have hb1 : (K k == 0) = false := beq_eq_false_iff_ne.2 hKk
                          clear hKk
                          go_wp2_with fail
                          refine HOK0.out.mono ?_
                          rintro e w9 ⟨rfl, rfl⟩
                          clear HOK0
                          go_wp2_with fail
                          go_roundw
                          case rel => exact ⟨k + 1, by omega, by go_num, HK8.out⟩
                          case measure => simp [intOf]; omega
                      · have HS : Hid (∀ wv : World, Ap w wv G D n a1 h1 ow2 → As w (wv.alloc (.cells bools17 39)) G D wv.heap.size n a1 h1 ow2 fun _ => false) := Lib.hid fun wv t => by
                          have := t.see
                          rwa [arrB_zero] at this
                        go_wp2_with fail
                        have HS := Lib.hid (HS.out _ HK8.out.r.p)
                        unfold bools17 at HS
                        clear HK8 HKE HA
                        generalize wr.heap.size = S at HS ⊢
                        go_loopw [26] (fun v wx => ∃ s : Nat, 1 ≤ s ∧ s ≤ 7 ∧ v = .int .i64 s ∧ ∃ B, As w wx G D S n a1 h1 ow2 B ∧ Seen h1 s B) (fun v _ => 8 - (intOf v).toNat)
                        case atStart => exact ⟨1, by omega, by omega, rfl, _, HS.out, Seen.start _ _⟩
                        case round =>
                          obtain ⟨t, ht1, ht7, rfl, B, hS, hB⟩ := hrel
                          clear HS
                          have HS := Lib.hid hS
                          have HB := Lib.hid hB
                          clear hS hB
                          by_cases ht6 : (t : Int) ≤ 6
                          · have HOT := Lib.hid (of_any HS.out.p.v t)
                            have HPO := Lib.hid (of_pos (h := h1) (n := n) (s := (t : Int)))
                            generalize ofF h1 n t = x at HOT HPO
                            by_cases hx : 0 < x
                            · rw [decide_eq_true hx] at HOT
                              obtain ⟨x1, x2, x3, _⟩ := HPO.out hx
                              have x4 : (x : Int) ≤ n := by omega
                              have x5 : (1 : Int) ≤ x := by omega
                              have cB := HS.out.cell (j := x) (by omega)
                              rw [HB.out.fresh x3] at cB
                              have fB := HS.out.frozen x
                              have HX3 := Lib.hid x3
                              clear x3 HPO
                              go_wp2_with fail
                              refine HOT.out.mono ?_
                              rintro e w9 ⟨rfl, rfl⟩
                              clear HOT
                              go_wp2_with fail
                              go_roundw
                              case rel => exact ⟨t + 1, by omega, by omega, by go_num, _, HS.out.set x, HB.out.put HX3.out⟩
                              case measure => simp [intOf]; omega
                            · rw [decide_eq_false hx] at HOT
                              clear HPO
                              go_wp2_with fail
                              refine HOT.out.mono ?_
                              rintro e w9 ⟨rfl, rfl⟩
                              clear HOT
                              go_wp2_with fail
                              go_roundw
                              case rel => exact ⟨t + 1, by omega, by omega, by go_num, B, HS.out, HB.out.more⟩
                              case measure => simp [intOf]; omega
                          · go_wp2_with fail
                            go_roundw
                            case rel => exact ⟨q + 1, by omega, by go_num, a1, h1, ow2, HS.out.p, HF1.out, HO5.out, by omega, by omega⟩
                            case measure => simp [intOf]; omega
      · go_wp2_with (go_at_call 9; refine (wakes_true _).mono ?_; rintro e w8 ⟨rfl, hf⟩)
        go_ret
        exact ⟨rfl, grown_both HP.out.g hf⟩

theorem apart_walk (n : Int) (A : Option Addr) (len cap : Nat) (X : Nat → One) (w : World) (hl : Asks w w.heap.size A len X) :
    Calls Try.prog 3 #[.int .i64 n, .slice A len cap] w (Law w (.bool true)) := by
  by_cases hn : 2 ≤ n ∧ n ≤ 16
  · obtain ⟨k, rfl⟩ := Int.eq_ofNat_of_zero_le (show 0 ≤ n by omega)
    exact apart_in k A len cap X w hl (by omega) (by omega)
  · exact apart_out n A len cap w hn
end Go.Proofs.Ytbehdccjiodlpaa
