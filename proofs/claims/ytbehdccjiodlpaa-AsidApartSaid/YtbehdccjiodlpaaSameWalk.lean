/- The walk of AsidSame. -/
import Derived.Test.YtbehdccjiodlpaaAsks
import Derived.Test.YtbehdccjiodlpaaLoad
namespace Go.Proofs.Ytbehdccjiodlpaa
open Go.RowKit
variable {w w' : World} {G n : Nat} {a : Int} {h : Nat → Int}

/-- Whatever Ask answers, a giver is left, at most one older. -/
theorem AskR.any {s : Int} {m : Nat} {e : Ending} (H : Gv w G n a h) (hp : AskR w G n a h s m e w') :
    ∃ i f err a' h', e = .returned (.tuple #[.int .i64 i, .bool f, .int .i64 err]) ∧ Gv w' G n a' h' ∧ a ≤ a' ∧ a' ≤ a + 1 ∧ w.grownBy w' (some G) := by
  unfold AskR AskP at hp
  split at hp
  · split at hp
    · obtain ⟨rfl, rfl⟩ := hp
      exact ⟨_, _, _, a, h, rfl, H, by omega, by omega, grown_self _ _⟩
    · split at hp
      · obtain ⟨rfl, hg, hm⟩ := hp
        exact ⟨_, _, _, a, _, rfl, hm, by omega, by omega, hg⟩
      · split at hp
        · obtain ⟨rfl, hg, hm⟩ := hp
          exact ⟨_, _, _, a, _, rfl, hm, by omega, by omega, hg⟩
        · obtain ⟨rfl, hg, hm⟩ := hp
          exact ⟨_, _, _, a + 1, _, rfl, hm, by omega, by omega, hg⟩
  · obtain ⟨rfl, rfl⟩ := hp
    exact ⟨_, _, _, a, h, rfl, H, by omega, by omega, grown_self _ _⟩

theorem Elems.kept {B : Nat} {A : Option Addr} {k : Nat} {C : Nat → Value} (he : Elems w B A k C) (hb : ∀ i, i < B → w'.heap[i]? = w.heap[i]?) : Elems w' B A k C := fun h0 => by
  obtain ⟨b, off, hA, hbB, hc⟩ := he h0
  exact ⟨b, off, hA, hbB, fun i hi => (World.cell?_of_block (hb b hbB)).trans (hc i hi)⟩
theorem Elems.more {B B' : Nat} {A : Option Addr} {k : Nat} {C : Nat → Value} (he : Elems w B A k C) (hB : B ≤ B') : Elems w B' A k C := fun h0 => by
  obtain ⟨b, off, hA, hbB, hc⟩ := he h0
  exact ⟨b, off, hA, Nat.lt_of_lt_of_le hbB hB, hc⟩

def ints7 : Array Value := #[.int .i64 0, .int .i64 0, .int .i64 0, .int .i64 0, .int .i64 0, .int .i64 0, .int .i64 0]
theorem ints7_at : ∀ i, i < ints7.size → ints7[i]? = some (.int .i64 ((fun _ => 0) i)) := by
  intro i hi
  match i, hi with
  | 0, _ => rfl
  | 1, _ => rfl
  | 2, _ => rfl
  | 3, _ => rfl
  | 4, _ => rfl
  | 5, _ => rfl
  | 6, _ => rfl

set_option maxRecDepth 10000 in
set_option maxHeartbeats 4000000 in
theorem same_in (n : Nat) (A : Option Addr) (len cap : Nat) (X : Nat → One) (s : Int) (w : World) (hl : Asks w w.heap.size A len X) (h2 : 2 ≤ n) (h16 : n ≤ 16) :
    Calls Try.prog 4 #[.int .i64 n, .slice A len cap, .int .i64 s] w (Law w (.bool true)) := by
  have HL := Lib.hid hl
  clear hl
  go_enter Try.func4, Try.ntmps4
  go_wp2_with fail
  refine (new_in n w h2 h16).mono ?_
  rintro e w1 ⟨G, rfl, hlo, hg1, hm1⟩
  have HG := Lib.hid hg1
  have HM := Lib.hid hm1
  have hlA : Asks w1 w1.heap.size A len X := fun h0 => by
    obtain ⟨b, off, hA, hb, hc⟩ := HL.out h0
    refine ⟨b, off, hA, Nat.lt_of_lt_of_le hb hg1.size, fun i hi => ⟨fun j hj => (World.cell?_of_block (hg1.block b hb (by simp))).trans ((hc i hi).1 j hj), (hc i hi).2.1, (hc i hi).2.2.1, ((hc i hi).2.2.2.kept (fun k hk => hg1.block k hk (by simp))).more hg1.size⟩⟩
  have HLA := Lib.hid hlA
  clear hg1 hm1 hlA
  go_wp2_with fail
  refine (great_any A len cap X HLA.out).mono ?_
  rintro e w2 ⟨rfl, bb, rfl, hgr⟩
  cases bb with
  | true =>
    go_wp2_with (go_at_call 9; refine (wakes_true _).mono ?_; rintro e w8 ⟨rfl, hf⟩)
    go_ret
    exact ⟨rfl, grown_both HG.out hf⟩
  | false =>
    obtain ⟨hlen, hrl⟩ := hgr rfl
    have HRL := Lib.hid hrl
    clear hgr hrl
    go_wp2_with fail
    go_loopw [35] (fun i wr => ∃ q : Nat, q ≤ len ∧ i = .int .i64 q ∧ ∃ a h, Gv wr G n a h ∧ 1 ≤ a ∧ a ≤ 1 + q ∧ w.grownBy wr none) (fun i _ => len - (intOf i).toNat)
    case atStart => exact ⟨0, by omega, rfl, 1, _, HM.out, by omega, by omega, HG.out⟩
    case round =>
      obtain ⟨q, hq, rfl, a, h, hG, ha1, ha2, hgr⟩ := hrel
      clear HM HG
      have HM := Lib.hid hG
      have HG := Lib.hid hgr
      clear hG hgr
      by_cases hql : (q : Int) < len
      · obtain ⟨b, off, rfl, hbw, hcell⟩ := HL.out (by omega)
        have hok := (hcell q (by omega)).2
        have hc : ∀ j, j < 3 → wr.cell? ⟨b, off + q * 3 + j, none⟩ = some ((X q).cell j) := fun j hj => (World.cell?_of_block (HG.out.block b hbw (by simp))).trans ((hcell q (by omega)).1 j hj)
        have hcs : ∀ j v, ([(X q).cell 0, (X q).cell 1, (X q).cell 2] : List Value)[j]? = some v → wr.cell? ((⟨b, off + q * 3, none⟩ : Addr).add j) = some v := by
          intro j v hv
          have hj : j < 3 := by simpa using (List.getElem?_eq_some_iff.1 hv).1
          have hadd : (⟨b, off + q * 3, none⟩ : Addr).add j = ⟨b, off + q * 3 + j, none⟩ := by unfold Addr.add; split <;> simp_all
          rw [hadd, hc j hj, ← hv]
          match j, hj with
          | 0, _ => rfl
          | 1, _ => rfl
          | 2, _ => rfl
        have HC := Lib.hid hcs
        have HOK := Lib.hid hok
        have HR20 := Lib.hid (HRL.out q (by omega))
        clear hc hcs hok hcell
        have HM2 := Lib.hid (HM.out.grown (World.grownBy_alloc wr (.cells #[.int .i64 (X q).kd, .int .i64 (X q).sp, .slice (X q).A (X q).l (X q).c] 32) none) (by simp))
        have HG2 := Lib.hid (grown_both HG.out (World.grownBy_alloc wr (.cells #[.int .i64 (X q).kd, .int .i64 (X q).sp, .slice (X q).A (X q).l (X q).c] 32) none))
        by_cases hk : (X q).kd = 1
        · have hkb : ((X q).kd == 1) = true := beq_iff_eq.2 hk
          clear hk
          go_wp2_with (with_reducible refine wpList_load_cells (o := ⟨some 38, _, _, _, _, _⟩) rfl 32 _ rfl ⟨b, off + q * 3, none⟩ rfl _ _ HC.out Try.underlying32 rfl (by kernel_rfl) ?_; simp only [One.cell])
          refine (gone_any HM2.out (X q).sp).mono ?_
          rintro e w3 ⟨rfl, hg3, hm3⟩
          have HG := Lib.hid (grown_new HG2.out hlo hg3)
          have HM := Lib.hid hm3
          clear hg3 hm3
          go_wp2_with fail
          go_roundw
          case rel => exact ⟨q + 1, by omega, by go_num, a, _, HM.out, by omega, by omega, HG.out⟩
          case measure => simp [intOf]; omega
        · have hkb : ((X q).kd == 1) = false := beq_eq_false_iff_ne.2 hk
          clear hk
          go_wp2_with (with_reducible refine wpList_load_cells (o := ⟨some 38, _, _, _, _, _⟩) rfl 32 _ rfl ⟨b, off + q * 3, none⟩ rfl _ _ HC.out Try.underlying32 rfl (by kernel_rfl) ?_; simp only [One.cell])
          refine (ask_any HM2.out (X q).sp (X q).A (X q).l (X q).c (X q).z HOK.out.2.1 ((HOK.out.2.2.kept (fun k hk => HG2.out.block k hk (by simp))).more HG2.out.size) HR20.out (by omega)).mono ?_
          intro e w3 hp
          obtain ⟨ri, rf, rerr, a', h', rfl, hm3, ha3, ha4, hg3⟩ := hp.any HM2.out
          have HG := Lib.hid (grown_new HG2.out hlo hg3)
          have HM := Lib.hid hm3
          clear hg3 hm3 hp
          go_wp2_with fail
          go_roundw
          case rel => exact ⟨q + 1, by omega, by go_num, a', _, HM.out, by omega, by omega, HG.out⟩
          case measure => simp [intOf]; omega
      · go_wp2_with fail
        refine (of_any HM.out s).mono ?_
        rintro e w3 ⟨rfl, rfl⟩
        by_cases hpos : 0 < ofF h n s
        · rw [decide_eq_true hpos]
          have hs6 : 1 ≤ s ∧ s ≤ 6 := Classical.byContradiction fun c => by unfold ofF at hpos; rw [if_neg c] at hpos; omega
          have ho : ofF h n s = find h n s := if_pos hs6
          rw [ho] at hpos ⊢
          have HA := Lib.hid (fun (w : World) (H : Gv w G n a h) => ask_has H s hs6 hpos none 0 0)
          clear hpos hs6 ho
          generalize find h n s = fs at HA ⊢
          have HMD := Lib.hid (HM.out.grown (World.grownBy_alloc w3 (.cells ints7 41) none) (by simp))
          have HGD := Lib.hid (grown_both HG.out (World.grownBy_alloc w3 (.cells ints7 41) none))
          have HD := Lib.hid (World.rowIs_alloc w3 ints7 41 (fun _ => .int .i64 0) ints7_at)
          have hDG : w3.heap.size ≠ G := fun e => by have := HM.out.lt; omega
          have hDlo := HG.out.size
          go_wp2_with fail
          generalize w3.heap.size = D at HD hDG hDlo ⊢
          go_loopw [14] (fun i wx => ∃ k : Nat, 1 ≤ k ∧ k ≤ 7 ∧ i = .int .i64 k ∧ ∃ bf : Nat → Int, wx.rowIs D 41 7 (fun j => .int .i64 (bf j)) ∧ (∀ j, 1 ≤ j → j < k → bf j = ofF h n j) ∧ Gv wx G n a h ∧ w.grownBy wx none) (fun i _ => 8 - (intOf i).toNat)
          case atStart => exact ⟨1, by omega, by omega, rfl, fun _ => 0, HD.out, fun j h1 h2 => by omega, HMD.out, HGD.out⟩
          case round =>
            obtain ⟨k, hk1, hk7, rfl, bf, hrow, hbf, hGx, hgx⟩ := hrel
            clear HD HMD HGD HM HG
            have HM := Lib.hid hGx
            have HG := Lib.hid hgx
            have HD := Lib.hid hrow
            have HBF := Lib.hid hbf
            clear hGx hgx hrow hbf
            by_cases hk6 : (k : Int) ≤ 6
            · have cD := HD.out.cell (i := k) (by omega)
              have fD := HD.out.frozen k
              go_wp2_with fail
              refine (of_any HM.out k).mono ?_
              rintro e w4 ⟨rfl, rfl⟩
              have HM' := Lib.hid (HM.out.of_block (heap_setCell_other w4 ⟨D, k, none⟩ G (.int .i64 (ofF h n k)) (fun e => hDG e.symm)))
              have HD' := Lib.hid (HD.out.set k (.int .i64 (ofF h n k)))
              have HG' := Lib.hid (show w.grownBy (w4.setCell ⟨D, k, none⟩ (.int .i64 (ofF h n k))) none from ⟨HG.out.os, HG.out.tape, HG.out.output, by simpa using HG.out.size, fun i hi _ => (heap_setCell_other w4 ⟨D, k, none⟩ i _ (by show i ≠ D; omega)).trans (HG.out.block i hi (by simp))⟩)
              go_wp2_with fail
              go_roundw
              case rel => exact ⟨k + 1, by omega, by omega, by go_num, fun j => if j = k then (ofF h n k : Int) else bf j, HD'.out.congr (fun j _ => by show (if j = k then Value.int .i64 (ofF h n k : Int) else Value.int .i64 (bf j)) = Value.int .i64 (if j = k then (ofF h n k : Int) else bf j); split <;> rfl), fun j h1 h2 => by
                by_cases e : j = k
                · subst e; exact if_pos rfl
                · exact (if_neg e).trans (HBF.out j h1 (by omega)), HM'.out, HG'.out⟩
              case measure => simp [intOf]; omega
            · have hk : k = 7 := by omega
              subst hk
              go_wp2_with fail
              rename_i wx _ _
              refine (HA.out _ HM.out).mono ?_
              rintro e w5 ⟨rfl, rfl⟩
              go_wp2_with fail
              go_loopw [18] (fun i wx => ∃ k : Nat, 1 ≤ k ∧ k ≤ 7 ∧ i = .int .i64 k ∧ wx = w5) (fun i _ => 8 - (intOf i).toNat)
              case atStart => exact ⟨1, by omega, by omega, rfl, rfl⟩
              case round =>
                obtain ⟨k, hk1, hk7, rfl, rfl⟩ := hrel
                by_cases hk6 : (k : Int) ≤ 6
                · have cD := HD.out.cell (i := k) (by omega)
                  rw [HBF.out k hk1 (by omega)] at cD
                  go_wp2_with fail
                  refine (of_any HM.out k).mono ?_
                  rintro e w6 ⟨rfl, rfl⟩
                  generalize ofF h n k = x at cD ⊢
                  go_wp2_with fail
                  go_roundw
                  case rel => exact ⟨k + 1, by omega, by omega, by go_num, trivial⟩
                  case measure => simp [intOf]; omega
                · go_wp2_with (go_at_call 9; refine (wakes_true _).mono ?_; rintro e w8 ⟨rfl, hf⟩)
                  go_ret
                  exact ⟨rfl, grown_both HG.out hf⟩
        · rw [decide_eq_false hpos]
          go_wp2_with (go_at_call 9; refine (wakes_true _).mono ?_; rintro e w8 ⟨rfl, hf⟩)
          go_ret
          exact ⟨rfl, grown_both HG.out hf⟩

theorem same_walk (n : Int) (A : Option Addr) (len cap : Nat) (X : Nat → One) (s : Int) (w : World) (hl : Asks w w.heap.size A len X) :
    Calls Try.prog 4 #[.int .i64 n, .slice A len cap, .int .i64 s] w (Law w (.bool true)) := by
  by_cases hn : 2 ≤ n ∧ n ≤ 16
  · obtain ⟨k, rfl⟩ := Int.eq_ofNat_of_zero_le (show 0 ≤ n by omega)
    exact same_in k A len cap X s w hl (by omega) (by omega)
  · have HN := Lib.hid hn
    clear hl hn
    go_enter Try.func4, Try.ntmps4
    go_wp2_with fail
    refine (new_out n w HN.out).mono ?_
    rintro e w' ⟨rfl, rfl⟩
    go_wp2_with (go_at_call 9; refine (wakes_true _).mono ?_; rintro e w8 ⟨rfl, hf⟩)
    go_ret
    exact ⟨rfl, hf⟩
end Go.Proofs.Ytbehdccjiodlpaa
