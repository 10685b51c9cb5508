/- The walk of the law ExclPlays: it returns true and turns nothing that was there. -/
import Derived.Test.YtpcihiggmbidmaaStep
import Derived.Test.YtpcihiggmbidmaaLoad
namespace Go.Proofs.Ytpcihiggmbidmaa
open Go.RowKit

/-- An act's nine cells. -/
structure Nine where
  d : Int
  core : Int
  word : Int
  frame : Int
  kd : Int
  ew : Int
  ev : Int
  ef : Int
  er : Int
def Nine.cell (x : Nine) : Nat → Value
  | 0 => .int .i64 x.d
  | 1 => .int .i64 x.core
  | 2 => .int .u64 x.word
  | 3 => .int .i64 x.frame
  | 4 => .int .i8 x.kd
  | 5 => .int .u64 x.ew
  | 6 => .int .u64 x.ev
  | 7 => .int .i64 x.ef
  | _ => .int .i64 x.er
def Acts (w : World) (B : Nat) (A : Option Addr) (n : Nat) (X : Nat → Nine) : Prop :=
  0 < n → ∃ b off, A = some ⟨b, off, none⟩ ∧ b < B ∧ ∀ i, i < n → ∀ j, j < 9 → w.cell? ⟨b, off + i * 9 + j, none⟩ = some ((X i).cell j)

set_option maxHeartbeats 400000 in
theorem plays_walk (n : Int) (A : Option Addr) (len cap : Nat) (X : Nat → Nine) (w : World) (hl : Acts w w.heap.size A len X) (hz : ∀ i, 0 ≤ (X i).word ∧ (X i).word ≤ 18446744073709551615) :
    Calls Try.prog 5 #[.int .i64 n, .slice A len cap] w (Nil w (.bool true)) := by
  by_cases hlen : 300 < len
  · clear hl hz
    go_enter Try.func5, Try.ntmps5
    go_wp2_with fail
    refine (wakes_true _).mono ?_
    rintro e w1 ⟨rfl, h1⟩
    go_wp2_with fail
    go_ret
    exact ⟨rfl, h1⟩
  · by_cases hn : 1 ≤ n ∧ n ≤ 8
    · have HL := Lib.hid hl
      have HZ := Lib.hid hz
      have HN := Lib.hid hn
      clear hl hz hn
      go_enter Try.func5, Try.ntmps5
      go_wp2_with fail
      refine (new_in n w HN.out.1 HN.out.2).mono ?_
      rintro e w1 ⟨rfl, hm1, hg1⟩
      have H1 := Lib.hid hm1
      have hs1 := hm1.lt
      clear hm1
      go_wp2_with fail
      refine (rnew_in n w1 HN.out.1 HN.out.2).mono ?_
      rintro e w2 ⟨rfl, hm2, hg2⟩
      have H2 := Lib.hid hm2
      have hs2 := hm2.lt
      clear hm2
      have HST : Hid (∃ f, Both w2 w.heap.size w1.heap.size n f ∧ Below w.heap.size w w2) := Lib.hid ⟨_, ⟨H1.out.kept (hg2.block _ hs1 (by simp)) (fun b _ x hb => (hg2.block b (lt_of_block hb) (by simp)).trans hb), H2.out⟩, below_of_grown (grown_trans hg1 hg2)⟩
      go_wp2_with fail
      go_loopw [9] (fun i wr => ∃ k : Nat, k ≤ len ∧ i = .int .i64 k ∧ ∃ f, Both wr w.heap.size w1.heap.size n f ∧ Below w.heap.size w wr) (fun i _ => len - (intOf i).toNat)
      case atStart => exact ⟨0, by omega, rfl, HST.out⟩
      case round =>
        obtain ⟨k, hk, rfl, f, hb, hbel⟩ := hrel
        have HB := Lib.hid hb
        have HBE := Lib.hid hbel
        clear HST
        by_cases hkl : k < len
        · obtain ⟨b, off, rfl, hbw, hcell⟩ := HL.out (by omega)
          have hc : ∀ j, j < 9 → wr.cell? ⟨b, off + k * 9 + j, none⟩ = some ((X k).cell j) := fun j hj => (hbel.cell (p := ⟨b, off + k * 9 + j, none⟩) hbw).trans (hcell k hkl j hj)
          have hcs : ∀ j v, ([(X k).cell 0, (X k).cell 1, (X k).cell 2, (X k).cell 3, (X k).cell 4, (X k).cell 5, (X k).cell 6, (X k).cell 7, (X k).cell 8] : List Value)[j]? = some v → wr.cell? ((⟨b, off + k * 9, none⟩ : Addr).add j) = some v := by
            intro j v hv
            have hj : j < 9 := by simpa using (List.getElem?_eq_some_iff.1 hv).1
            have hadd : (⟨b, off + k * 9, none⟩ : Addr).add j = ⟨b, off + k * 9 + j, none⟩ := by unfold Addr.add; split <;> simp_all
            rw [hadd, hc j hj, ← hv]
            match j, hj with
            | 0, _ => rfl
            | 1, _ => rfl
            | 2, _ => rfl
            | 3, _ => rfl
            | 4, _ => rfl
            | 5, _ => rfl
            | 6, _ => rfl
            | 7, _ => rfl
            | 8, _ => rfl
          have HC := Lib.hid hcs
          clear hb hbel hc hcell hcs
          go_wp2_with (with_reducible refine wpList_load_cells (o := ⟨some 54, _, _, _, _, _⟩) rfl 46 _ rfl ⟨b, off + k * 9, none⟩ rfl _ _ HC.out Try.underlying46 rfl (by kernel_rfl) ?_; simp only [Nine.cell])
          refine (step_any HB.out _ _ _ _ _ _ _ _ _ (HZ.out k)).mono ?_
          rintro e w3 ⟨rfl, ⟨f3, hb3⟩, hbl3⟩
          have hbe3 := HBE.out.trans (hbl3 w.heap.size (Nat.le_refl _) (by omega) HBE.out.size)
          have HB3 := Lib.hid hb3
          have HBE3 := Lib.hid hbe3
          clear hb3 hbl3 hbe3
          go_wp2_with fail
          go_loopw [10] (fun i wx => ∃ c : Nat, c ≤ 10 ∧ i = .int .i64 c ∧ Both wx w.heap.size w1.heap.size n f3 ∧ Below w.heap.size w wx) (fun i _ => 10 - (intOf i).toNat)
          case atStart => exact ⟨0, by omega, rfl, HB3.out, HBE3.out⟩
          case round =>
            obtain ⟨c, hc10, rfl, hbx, hbex⟩ := hrel
            have HBX := Lib.hid hbx
            have HBEX := Lib.hid hbex
            clear hbx hbex
            by_cases hcl : c ≤ 9
            · go_wp2_with fail
              refine (of_any HBX.out.1 c).mono ?_
              rintro e w' ⟨rfl, rfl⟩
              rw [Int.toNat_natCast]
              go_wp2_with fail
              refine (rof_any HBX.out.2 c).mono ?_
              rintro e w' ⟨rfl, q, rfl⟩
              rw [Int.toNat_natCast]
              go_wp2_with fail
              go_roundw
              case rel => exact ⟨c + 1, by omega, by go_num, ⟨HBX.out.1.kept rfl (fun _ _ _ hb => hb), HBX.out.2.kept rfl⟩, HBEX.out.trans ⟨rfl, rfl, rfl, Nat.le_refl _, fun _ _ => rfl⟩⟩
              case measure => simp [intOf]; omega
            · go_wp2_with fail
              go_roundw
              case rel => exact ⟨k + 1, by omega, by go_num, f3, HBX.out, HBEX.out⟩
              case measure => simp [intOf]; omega
        · clear hb hbel
          go_wp2_with fail
          refine (wakes_true _).mono ?_
          rintro e w3 ⟨rfl, h3⟩
          go_wp2_with fail
          go_ret
          exact ⟨rfl, grown_of_below (HBE.out.trans ((below_of_grown h3).mono HBE.out.size))⟩
    · have HN := Lib.hid hn
      clear hl hz hn
      go_enter Try.func5, Try.ntmps5
      go_wp2_with fail
      refine (new_out n w HN.out).mono ?_
      rintro e w' ⟨rfl, rfl⟩
      go_wp2_with fail
      refine (rnew_out n w HN.out).mono ?_
      rintro e w' ⟨rfl, rfl⟩
      go_wp2_with fail
      refine wp_loop_rounds 1 ?_
      rw [rounds_succ]
      go_wp2_with fail
      all_goals
        refine (wakes_true _).mono ?_
        rintro e w3 ⟨rfl, h3⟩
        go_wp2_with fail
        go_ret
        exact ⟨rfl, h3⟩
end Go.Proofs.Ytpcihiggmbidmaa
