/- The walk of MemPlays. -/
import Derived.Test.YtablmoegmmeglaaStep
import Derived.Test.YtablmoegmmeglaaLoad
import Derived.Test.YtablmoegmmeglaaCopyWalk
namespace Go.Proofs.Ytablmoegmmeglaa
open Go.RowKit

/-- An act's nine cells. -/
structure Nine where
  d : Int
  x : Int
  v : Int
  kd : Int
  ex : Int
  ev : Int
  ef : Int
  er : Int
  fr : Int
def Nine.cell (x : Nine) : Nat → Value
  | 0 => .int .i64 x.d
  | 1 => .int .u64 x.x
  | 2 => .int .u64 x.v
  | 3 => .int .i8 x.kd
  | 4 => .int .u64 x.ex
  | 5 => .int .u64 x.ev
  | 6 => .int .i64 x.ef
  | 7 => .int .i64 x.er
  | _ => .int .i64 x.fr
/-- The numbers are of their kinds. -/
def Nine.ok (x : Nine) : Prop := (0 ≤ x.x ∧ x.x ≤ 18446744073709551615) ∧ (0 ≤ x.v ∧ x.v ≤ 18446744073709551615) ∧ (-128 ≤ x.kd ∧ x.kd ≤ 127) ∧ (0 ≤ x.ex ∧ x.ex ≤ 18446744073709551615) ∧ (0 ≤ x.ev ∧ x.ev ≤ 18446744073709551615) ∧ (-9223372036854775808 ≤ x.fr ∧ x.fr ≤ 9223372036854775807)
def Acts (w : World) (B : Nat) (A : Option Addr) (n : Nat) (X : Nat → Nine) : Prop :=
  0 < n → ∃ b off, A = some ⟨b, off, none⟩ ∧ b < B ∧ ∀ i, i < n → ∀ j, j < 9 → w.cell? ⟨b, off + i * 9 + j, none⟩ = some ((X i).cell j)

theorem step_nine {w0 w : World} {O P : Nat → Prop} {B R n : Nat} {V : Nat → Int} (h : Both w0 w O P B R n V V) (X : Nine) (hX : X.ok) :
    Calls Try.prog 13 #[.pointer (some ⟨B, 0, none⟩), .pointer (some ⟨R, 0, none⟩), .agg #[.int .i64 X.d, .int .u64 X.x, .int .u64 X.v, .int .i8 X.kd, .int .u64 X.ex, .int .u64 X.ev, .int .i64 X.ef, .int .i64 X.er, .int .i64 X.fr]] w (Step w0 B R n) := by
  obtain ⟨h1, h2, h3, h4, h5, h6⟩ := hX
  obtain ⟨x, hx⟩ := Int.eq_ofNat_of_zero_le h1.1
  obtain ⟨ex, hex⟩ := Int.eq_ofNat_of_zero_le h4.1
  rw [hx, hex]
  exact step_any h X.d x X.v X.kd ex X.ev X.ef X.er X.fr (by omega) h2 h3 (by omega) h5 h6

/-- A copy in the old one's place; and what is written on the old one does not touch it. -/
theorem Both.swap {w0 w w1 w2 : World} {O P O' O2 : Nat → Prop} {B R n B' : Nat} {V : Nat → Int} (h : Both w0 w O P B R n V V) (hf : Fp none_ w w1 O') (hm : Mem w1 O' B' n V) (hf2 : Fp O w1 w2 O2) : Both w0 w2 O' P B' R n V V := by
  have hnew : ∀ k, O' k → w.heap.size ≤ k := fun k hk => by
    rcases hf.new k hk with h1 | h1
    · exact h1.elim
    · exact h1.1
  have hdis : ∀ k, O' k → ¬ O k := fun k hk ho => by have := hnew k hk; have := h.m.lt k ho; omega
  have hw1 : w0.grownBy w1 none := ⟨hf.os.trans h.g.os, hf.tape.trans h.g.tape, hf.output.trans h.g.output, Nat.le_trans h.g.size hf.size, fun k hk _ => (hf.keep k (Nat.lt_of_lt_of_le hk h.g.size) (fun c => c)).trans (h.g.block k hk (by simp))⟩
  refine ⟨⟨hf2.os.trans hw1.os, hf2.tape.trans hw1.tape, hf2.output.trans hw1.output, Nat.le_trans hw1.size hf2.size, fun k hk _ => (hf2.keep k (Nat.lt_of_lt_of_le hk hw1.size) (fun c => by have := h.lo k c; omega)).trans (hw1.block k hk (by simp))⟩, fun k hk => Nat.le_trans h.g.size (hnew k hk), h.lp, hm.apart hf2 hdis, (h.r.apart hf (fun _ _ c => c)).apart hf2 (fun k hp ho => h.d k ho hp), fun k hk hp => by have := hnew k hk; have := h.r.lt k hp; omega⟩

set_option maxRecDepth 10000 in
set_option maxHeartbeats 4000000 in
theorem plays_in (n : Nat) (A : Option Addr) (len cap : Nat) (X : Nat → Nine) (w : World) (hl : Acts w w.heap.size A len X) (hz : ∀ i, (X i).ok) (hlen : ¬ 300 < len) (h1 : 1 ≤ n) (h64 : n ≤ 64) :
    Calls Try.prog 3 #[.int .i64 n, .slice A len cap] w (Law w (.bool true)) := by
  have HL := Lib.hid hl
  have HZ := Lib.hid hz
  clear hl hz
  go_enter Try.func3, Try.ntmps3
  go_wp2_with fail
  refine (new_in n w h1 h64).mono ?_
  rintro e w1 ⟨B, O, rfl, hf1, hm1⟩
  have HF1 := Lib.hid hf1
  have HM1 := Lib.hid hm1
  clear hf1 hm1
  go_wp2_with fail
  refine (refnew_in n w1 h1 h64).mono ?_
  rintro e w2 ⟨R, P, rfl, hf2, hm2⟩
  have H := Lib.hid (Both.start HF1.out HM1.out hf2 hm2)
  clear hf2 hm2 HF1 HM1
  go_wp2_with fail
  go_loopw [5, 9] (fun m i wr => ∃ k : Nat, k ≤ len ∧ i = .int .i64 k ∧ ∃ B O P V, m = .pointer (some ⟨B, 0, none⟩) ∧ Both w wr O P B R n V V) (fun _ i _ => 301 - (intOf i).toNat)
  case atStart => exact ⟨0, by omega, rfl, _, _, _, _, rfl, H.out⟩
  case round =>
    obtain ⟨k, hk, rfl, B, O, P, V, rfl, hB⟩ := hrel
    clear H
    have HK := Lib.hid hk
    have H := Lib.hid hB
    clear hk hB
    by_cases hkl : (k : Int) < len
    · obtain ⟨b, off, rfl, hbw, hcell⟩ := HL.out (by omega)
      have hc : ∀ j, j < 9 → wr.cell? ⟨b, off + k * 9 + j, none⟩ = some ((X k).cell j) := fun j hj => (World.cell?_of_block (H.out.g.block b hbw (by simp))).trans (hcell k (by omega) j hj)
      have hcs : ∀ j v, ([(X k).cell 0, (X k).cell 1, (X k).cell 2, (X k).cell 3, (X k).cell 4, (X k).cell 5, (X k).cell 6, (X k).cell 7, (X k).cell 8] : List Value)[j]? = some v → wr.cell? ((⟨b, off + k * 9, none⟩ : Addr).add j) = some v := by
        intro j v hv
        have hj : j < 9 := by simpa using (List.getElem?_eq_some_iff.1 hv).1
        have hadd : (⟨b, off + k * 9, none⟩ : Addr).add j = ⟨b, off + k * 9 + j, none⟩ := by unfold Addr.add; split <;> simp_all
        rw [hadd, hc j hj, ← hv]
        match j, hj with
        | 0, _ => rfl
        | 1, _ => rfl
        | 2, _ => rfl
        | 3, _ => rfl
        | 4, _ => rfl
        | 5, _ => rfl
        | 6, _ => rfl
        | 7, _ => rfl
        | 8, _ => rfl
      have HC := Lib.hid hcs
      have HCE := Lib.hid (fun j (hj : j < 9) => hcell k (by omega) j hj)
      clear hc hcell hcs
      go_wp2_with (with_reducible refine wpList_load_cells (o := ⟨some 51, _, _, _, _, _⟩) rfl 37 _ rfl ⟨b, off + k * 9, none⟩ rfl _ _ HC.out Try.underlying37 rfl (by kernel_rfl) ?_; simp only [Nine.cell])
      refine (step_nine H.out (X k) (HZ.out k)).mono ?_
      rintro e w3 ⟨rfl, O3, P3, V3, hB3⟩
      have H := Lib.hid hB3
      have cd : w3.cell? ⟨b, off + k * 9, none⟩ = some (.int .i64 (X k).d) := (World.cell?_of_block (H.out.g.block b hbw (by simp))).trans (HCE.out 0 (by omega))
      clear hB3
      by_cases hd : (X k).d < 0 ∨ 4 < (X k).d
      · rcases hd with hd0 | hd4
        · -- below
          go_wp2_with fail
          obtain ⟨bm, pt, hmi⟩ := H.out.m
          refine (copy_some hmi).mono ?_
          rintro e w4 ⟨B', O', rfl, hf4, hm4⟩
          have hold := H.out.m.apart hf4 (fun _ _ c => c)
          have HF4 := Lib.hid hf4
          have HM4 := Lib.hid hm4
          have HOLD := Lib.hid hold
          clear hf4 hm4 hold hmi cd
          go_wp2_with fail
          refine (write_any HOLD.out 0 99 (by omega) (by omega)).mono ?_
          rintro e w5 ⟨rfl, O5, hf5, hm5⟩
          have H := Lib.hid (H.out.swap HF4.out HM4.out hf5)
          clear hf5 hm5
          go_wp2_with fail
          go_roundw
          case rel => exact ⟨k + 1, by omega, by go_num, _, _, _, _, rfl, H.out⟩
          case measure => simp [intOf]; omega
        · have hd0 : ¬ (X k).d < 0 := by omega
          go_wp2_with fail
          obtain ⟨bm, pt, hmi⟩ := H.out.m
          refine (copy_some hmi).mono ?_
          rintro e w4 ⟨B', O', rfl, hf4, hm4⟩
          have hold := H.out.m.apart hf4 (fun _ _ c => c)
          have HF4 := Lib.hid hf4
          have HM4 := Lib.hid hm4
          have HOLD := Lib.hid hold
          clear hf4 hm4 hold hmi cd
          go_wp2_with fail
          refine (write_any HOLD.out 0 99 (by omega) (by omega)).mono ?_
          rintro e w5 ⟨rfl, O5, hf5, hm5⟩
          have H := Lib.hid (H.out.swap HF4.out HM4.out hf5)
          clear hf5 hm5
          go_wp2_with fail
          go_roundw
          case rel => exact ⟨k + 1, by omega, by go_num, _, _, _, _, rfl, H.out⟩
          case measure => simp [intOf]; omega
      · have hd0 : ¬ (X k).d < 0 := by omega
        have hd4 : ¬ 4 < (X k).d := by omega
        clear hd
        go_wp2_with fail
        go_roundw
        case rel => exact ⟨k + 1, by omega, by go_num, _, _, _, _, rfl, H.out⟩
        case measure => simp [intOf]; omega
    · go_wp2_with fail
      go_loopw [11] (fun i wx => ∃ q : Nat, q ≤ 66 ∧ i = .int .i64 ((q : Int) - 1) ∧ Both w wx O P B R n V V) (fun i _ => 67 - (intOf i + 1).toNat)
      case atStart => exact ⟨0, by omega, rfl, H.out⟩
      case round =>
        obtain ⟨q, hq, rfl, hB⟩ := hrel
        clear H
        have H := Lib.hid hB
        have HQ := Lib.hid hq
        clear hB hq
        by_cases hqn : (q : Int) - 1 ≤ n
        · have hq64 : (q : Int) - 1 ≤ 64 := by omega
          go_wp2_with fail
          refine (words_any H.out.m ((q : Int) - 1) (WalkArith.wf_i64 (by omega))).mono ?_
          rintro e w3 ⟨r1, rfl, hr1, hg1⟩
          have H := Lib.hid (H.out.grown hg1)
          have HR1 := Lib.hid hr1
          clear hr1 hg1
          go_wp2_with fail
          refine (rwords_any H.out.r ((q : Int) - 1)).mono ?_
          rintro e w4 ⟨r2, rfl, hr2, hg2⟩
          have H := Lib.hid (H.out.grown hg2)
          have HS := Lib.hid (same_words _ (ownsRow_of_block HR1.out (fun k hk => hg2.block k (HR1.out.lt k hk).2 (by simp))) hr2)
          clear hr2 hg2
          go_wp2_with fail
          refine HS.out.mono ?_
          rintro e w5 ⟨rfl, m, rfl⟩
          have H := Lib.hid (H.out.grown (grown_drewN _ m))
          clear HS
          go_wp2_with fail
          go_roundw
          case rel => exact ⟨q + 1, by omega, by go_num, H.out⟩
          case measure => simp [intOf]; omega
        · go_wp2_with fail
          refine (frames_any H.out.m).mono ?_
          rintro e w3 ⟨rfl, rfl⟩
          go_wp2_with (go_at_call 10; refine (wakes_true _).mono ?_; rintro e w8 ⟨rfl, O8, hf8⟩)
          go_ret
          exact ⟨rfl, _, (Fp.grown0 H.out.g).trans hf8⟩

theorem plays_walk (n : Int) (A : Option Addr) (len cap : Nat) (X : Nat → Nine) (w : World) (hl : Acts w w.heap.size A len X) (hz : ∀ i, (X i).ok) :
    Calls Try.prog 3 #[.int .i64 n, .slice A len cap] w (Law w (.bool true)) := by
  by_cases hlen : 300 < len
  · clear hl hz
    go_enter Try.func3, Try.ntmps3
    go_wp2_with (go_at_call 10; refine (wakes_true _).mono ?_; rintro e w8 ⟨rfl, O, hf⟩)
    go_ret
    exact ⟨rfl, _, hf⟩
  · by_cases hn : 1 ≤ n ∧ n ≤ 64
    · obtain ⟨k, rfl⟩ := Int.eq_ofNat_of_zero_le (show 0 ≤ n by omega)
      exact plays_in k A len cap X w hl hz hlen (by omega) (by omega)
    · have HN := Lib.hid hn
      clear hl hz hn
      go_enter Try.func3, Try.ntmps3
      go_wp2_with fail
      refine (new_out n w HN.out).mono ?_
      rintro e w' ⟨rfl, rfl⟩
      go_wp2_with fail
      refine (refnew_out n w HN.out).mono ?_
      rintro e w' ⟨rfl, rfl⟩
      go_wp2_with fail
      refine wp_loop_rounds 1 ?_
      rw [rounds_succ]
      go_wp2_with fail
      all_goals
        refine wp_loop_rounds 1 ?_
        rw [rounds_succ]
        go_wp2_with (go_at_call 10; refine (wakes_true _).mono ?_; rintro e w8 ⟨rfl, O8, hf8⟩)
        all_goals
          go_ret
          exact ⟨rfl, _, hf8⟩
end Go.Proofs.Ytablmoegmmeglaa
