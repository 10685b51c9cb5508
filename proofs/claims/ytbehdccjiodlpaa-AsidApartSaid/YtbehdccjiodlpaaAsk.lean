/- The walk of Ask. -/
import Derived.Test.YtbehdccjiodlpaaMask
import Derived.Deep.CutRange
namespace Go.Proofs.Ytbehdccjiodlpaa
open Go.RowKit
variable {w : World} {G n : Nat} {a : Int} {h : Nat → Int}

/-- A slice of n elements, one cell each, in blocks below B. -/
def Elems (w : World) (B : Nat) (A : Option Addr) (n : Nat) (C : Nat → Value) : Prop :=
  0 < n → ∃ b off, A = some ⟨b, off, none⟩ ∧ b < B ∧ ∀ i, i < n → w.cell? ⟨b, off + i, none⟩ = some (C i)

theorem grown_setG {w0 w1 : World} {G : Nat} (hg : w0.grownBy w1 (some G)) (j : Nat) (v : Value) : w0.grownBy (w1.setCell ⟨G, j, none⟩ v) (some G) :=
  ⟨hg.os, hg.tape, hg.output, by simpa using hg.size, fun i hi hne => (heap_setCell_other _ ⟨G, j, none⟩ i _ (fun e => hne (by rw [e]))).trans (hg.block i hi hne)⟩
/-- What Ask leaves where nothing free is there. -/
def AskP (w : World) (G n : Nat) (a : Int) (h : Nat → Int) (s : Int) (m : Nat) (e : Ending) (w' : World) : Prop :=
  if m = 2 ^ (n + 1) - 2 then Did w G n a h (.tuple #[.int .i64 0, .bool false, .int .i64 20]) e w'
  else Did w G n (a + 1) (updH (clr h m (n + 1)) (find (clr h m (n + 1)) n 0) s) (.tuple #[.int .i64 (find (clr h m (n + 1)) n 0), .bool true, .int .i64 0]) e w'

set_option maxHeartbeats 2000000 in
theorem ask_full (H : Gv w G n a h) (s : Int) (hs : 1 ≤ s ∧ s ≤ 6) (h1 : find h n s = 0) (h0 : find h n 0 = 0) (A : Option Addr) (len cap : Nat) (z : Nat → Int) (hz : ∀ i, -9223372036854775808 ≤ z i ∧ z i ≤ 9223372036854775807) (hl : Elems w w.heap.size A len (fun i => .int .i64 (z i))) (hlen : len ≤ 20) (ha : 0 ≤ a ∧ a ≤ 1000000) :
    Calls Try.prog 13 #[.pointer (some ⟨G, 0, none⟩), .int .i64 s, .slice A len cap] w (AskP w G n a h s (mk z n len)) := by
  have HS := Lib.hid (space_any s w)
  rw [decide_eq_true hs] at HS
  have HF := Lib.hid (find_any H s)
  have HF0 := Lib.hid (find_any H 0)
  rw [h1] at HF
  rw [h0] at HF0
  have c0 := H.cellN
  have hn := H.n16
  have hn2 := H.n2
  have HH := Lib.hid H
  have HL := Lib.hid hl
  have HZ := Lib.hid hz
  clear H hl hz h1 h0
  go_enter Try.func13, Try.ntmps13
  go_wp2_with fail
  refine HS.out.mono ?_
  rintro e w' ⟨rfl, rfl⟩
  go_wp2_with fail
  refine HF.out.mono ?_
  rintro e w' ⟨rfl, rfl⟩
  go_wp2_with fail
  refine HF0.out.mono ?_
  rintro e w' ⟨rfl, rfl⟩
  go_wp2_with fail
  go_loopw [11, 42] (fun b i wr => ∃ q : Nat, q ≤ len ∧ i = .int .i64 q ∧ b = .int .u64 (mk z n q : Nat) ∧ wr = w') (fun _ i _ => len - (intOf i).toNat)
  case atStart => exact ⟨0, by omega, rfl, rfl, rfl⟩
  case round =>
    obtain ⟨q, hq, rfl, rfl, rfl⟩ := hrel
    have hml := mk_lt17 z n q hn
    by_cases hql : (q : Int) < len
    · obtain ⟨b, off, rfl, hbw, hcell⟩ := HL.out (by omega)
      have hcx : wr.cell? ⟨b, off + q, none⟩ = some (.int .i64 (z q)) := hcell q (by omega)
      by_cases hv : 1 ≤ z q ∧ z q ≤ n
      · obtain ⟨v, hvz⟩ := Int.eq_ofNat_of_zero_le (show 0 ≤ z q by omega)
        have hmk : mk z n (q + 1) = mk z n q ||| 2 ^ v := by
          show (if 1 ≤ z q ∧ z q ≤ n then mk z n q ||| 2 ^ (z q).toNat else mk z n q) = _
          rw [if_pos hv, hvz, Int.toNat_natCast]
        have HMK := Lib.hid hmk
        rw [hvz] at hcx
        have hv1 : (1 : Int) ≤ v := by omega
        have hv2 : (v : Int) ≤ n := by omega
        clear hv hvz hcell hmk
        generalize mk z n q = m at hml HMK ⊢
        go_wp2_with fail
        go_roundw
        case rel => exact ⟨q + 1, by omega, by go_num, by rw [or_step m v hml (by omega), HMK.out], trivial⟩
        case measure => simp [intOf]; omega
      · have hmk : mk z n (q + 1) = mk z n q := if_neg hv
        have HMK := Lib.hid hmk
        have hz1 := HZ.out q
        by_cases hv1 : 1 ≤ z q
        · have hv2 : ¬ z q ≤ n := fun c => hv ⟨hv1, c⟩
          clear hv hcell hmk
          generalize mk z n q = m at hml HMK ⊢
          go_wp2_with fail
          go_roundw
          case rel => exact ⟨q + 1, by omega, by go_num, by rw [HMK.out], trivial⟩
          case measure => simp [intOf]; omega
        · clear hv hcell hmk
          generalize mk z n q = m at hml HMK ⊢
          go_wp2_with fail
          go_roundw
          case rel => exact ⟨q + 1, by omega, by go_num, by rw [HMK.out], trivial⟩
          case measure => simp [intOf]; omega
    · have hqe : q = len := by omega
      subst hqe
      have hfe := full_eq (mk z n q) n hn
      have hsp := mk_full z n q
      generalize hmm : mk z n q = m at hml hfe hsp ⊢
      have HMM := Lib.hid hmm
      clear hmm
      by_cases hfull : m = 2 ^ (n + 1) - 2
      · rw [decide_eq_true hfull] at hfe
        have HFU := Lib.hid hfull
        clear hsp hfull
        go_wp2_with fail
        go_ret3
        exact (by unfold AskP; rw [HMM.out, if_pos HFU.out]; exact ⟨rfl, grown_self _ _, HH.out⟩)
      · rw [decide_eq_false hfull] at hfe
        have HSP := Lib.hid hsp
        have HFU := Lib.hid hfull
        clear hsp hfull
        go_wp2_with fail
        go_loopw [14] (fun i wx => ∃ k : Nat, 1 ≤ k ∧ k ≤ n + 1 ∧ i = .int .i64 k ∧ Gv wx G n a (clr h m k) ∧ wr.grownBy wx (some G)) (fun i _ => n + 2 - (intOf i).toNat)
        case atStart => exact ⟨1, by omega, by omega, rfl, by rw [clr_one]; exact HH.out, grown_self _ _⟩
        case round =>
          obtain ⟨k, hk1, hk2, rfl, hG, hgr⟩ := hrel
          have HG := Lib.hid hG
          have HGR := Lib.hid hgr
          have c0' := hG.cellN
          clear hG hgr c0 HF HF0 HS HL
          by_cases hkn : (k : Int) ≤ n
          · have cj := HG.out.cellH k (by omega)
            have fj := HG.out.frozen (1 + k)
            have hand := and_eq m k hml
            by_cases hb : m.testBit k = true
            · rw [hb] at hand
              have hand' : (bits BinOp.and .u64 ((m : Int) / 2 ^ k) 1 == 0) = false := hand
              have HB := Lib.hid hb
              clear hb hand
              go_wp2_with fail
              go_roundw
              case rel => exact ⟨k + 1, by omega, by omega, by go_num, by rw [← clr_miss h m k HB.out]; exact HG.out, HGR.out⟩
              case measure => simp [intOf]; omega
            · have hb' : m.testBit k = false := by simpa using hb
              rw [hb'] at hand
              have hand' : (bits BinOp.and .u64 ((m : Int) / 2 ^ k) 1 == 0) = true := hand
              have HB := Lib.hid hb'
              clear hb hb' hand
              go_wp2_with fail
              go_roundw
              case rel => exact ⟨k + 1, by omega, by omega, by go_num, by rw [← clr_hit h m k hk1 HB.out]; exact HG.out.setH k (by omega) 0, grown_setG HGR.out (1 + k) (.int .i64 0)⟩
              case measure => simp [intOf]; omega
          · have hke : k = n + 1 := by omega
            subst hke
            have hfree := clr_free h z n q (by rw [HMM.out]; exact HFU.out)
            rw [HMM.out] at hfree
            go_wp2_with fail
            refine (add1_any G a _ (by omega) HG.out.cellA (HG.out.frozen 18)).mono ?_
            rintro e w1 ⟨rfl, hw1⟩
            have hG1 := HG.out.setA (a + 1)
            rw [← hw1] at hG1
            have hg1 := grown_setG HGR.out 18 (.int .i64 (a + 1))
            rw [← hw1] at hg1
            have HGR := Lib.hid hg1
            have HG1 := Lib.hid hG1
            clear hw1 hG1 hg1 c0'
            go_wp2_with fail
            refine (find_any HG1.out 0).mono ?_
            rintro e w2 ⟨rfl, rfl⟩
            have cj := HG1.out.cellH (find (clr h m (n + 1)) n 0) (by omega)
            have fj := HG1.out.frozen (1 + find (clr h m (n + 1)) n 0)
            have HFIN := Lib.hid (HG1.out.setH (find (clr h m (n + 1)) n 0) (by omega) s)
            have HGF := Lib.hid (grown_setG HGR.out (1 + find (clr h m (n + 1)) n 0) (.int .i64 s))
            generalize hj : find (clr h m (n + 1)) n 0 = j at hfree cj fj HFIN HGF ⊢
            have HJ := Lib.hid hj
            clear hj
            go_wp2_with fail
            go_ret3
            exact (by unfold AskP; rw [HMM.out, if_neg HFU.out, HJ.out]; exact ⟨rfl, HGF.out, HFIN.out⟩)
end Go.Proofs.Ytbehdccjiodlpaa
