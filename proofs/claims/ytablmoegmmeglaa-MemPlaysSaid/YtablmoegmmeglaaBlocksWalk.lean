/- The walk of MemBlocks. -/
import Derived.Test.YtablmoegmmeglaaSameW
namespace Go.Proofs.Ytablmoegmmeglaa
open Go.RowKit
variable {w : World} {O : Nat → Prop} {B n bm : Nat} {V : Nat → Int} {pt : Int → Option Nat}

/-- A slice of n elements that came in, one cell each. -/
def Elems (w : World) (B : Nat) (A : Option Addr) (n : Nat) (C : Nat → Value) : Prop :=
  0 < n → ∃ b off, A = some ⟨b, off, none⟩ ∧ b < B ∧ ∀ i, i < n → w.cell? ⟨b, off + i, none⟩ = some (C i)

theorem cellsW_congr (f g : Nat → Int) (k : Nat) (h : ∀ j, j < k → f j = g j) : cellsW f k = cellsW g k ∧ cntW f k = cntW g k := by
  induction k with
  | zero => exact ⟨rfl, rfl⟩
  | succ k ih =>
    obtain ⟨h1, h2⟩ := ih (fun j hj => h j (by omega))
    unfold cellsW cntW
    rw [h1, h2, h k (by omega)]
    exact ⟨rfl, rfl⟩
theorem Row.congr {f g : Nat → Int} {e : Ending} {w' : World} (h : Row w f e w') (hfg : ∀ j, j < 512 → f j = g j) : Row w g e w' := by
  obtain ⟨v, he, hr, hg⟩ := h
  obtain ⟨h1, h2⟩ := cellsW_congr f g 512 hfg
  rw [h1, h2] at hr
  exact ⟨v, he, hr, hg⟩
theorem ownsRow_of_block {w w' : World} {base e size : Nat} {v : Value} {n : Nat} {xs : List Value} (h : w.ownsRow base e size v n xs) (hk : ∀ k, v.ownBlock = some k → w'.heap[k]? = w.heap[k]?) : w'.ownsRow base e size v n xs := by
  obtain ⟨hl, h | ⟨g, cap, cur, rfl, hb, hh, r⟩⟩ := h
  · exact ⟨hl, .inl h⟩
  · exact ⟨hl, .inr ⟨g, cap, cur, rfl, hb, (hk g rfl).trans hh, r⟩⟩

/-- A memory of 8 frames, and a row of words beside it. -/
structure Blk (w0 w : World) (O : Nat → Prop) (B : Nat) (V : Nat → Int) (v : Value) (f : Nat → Int) : Prop where
  fp : Fp none_ w0 w O
  m : Mem w O B 8 V
  r : ∃ b, w.ownsRow b 80 2 v (cntW f 512) (cellsW f 512)
  d : ∀ k, v.ownBlock = some k → ¬ O k ∧ k < w.heap.size
section
variable {w0 w' : World} {v : Value} {f : Nat → Int} {P : Nat → Prop} {U : Nat → Int}
theorem Blk.did (h : Blk w0 w O B V v f) (hf : Fp O w w' P) (hm : Mem w' P B 8 U) : Blk w0 w' P B U v f :=
  ⟨h.fp.trans hf, hm, by obtain ⟨b, r⟩ := h.r; exact ⟨b, ownsRow_of_block r (fun k hk => hf.keep k (h.d k hk).2 (h.d k hk).1)⟩, fun k hk => ⟨fun c => by
    rcases hf.new k c with h1 | h1
    · exact (h.d k hk).1 h1
    · have := (h.d k hk).2; omega, Nat.lt_of_lt_of_le (h.d k hk).2 hf.size⟩⟩
theorem Blk.grown (h : Blk w0 w O B V v f) (hg : w.grownBy w' none) : Blk w0 w' O B V v f :=
  h.did (Fp.grown0 hg) (h.m.apart (Fp.grown0 (O := none_) hg) (fun _ _ c => c))
end

/-- Words t of what copies left. -/
theorem copy_words (V : Nat → Int) (f t : Nat) (hf : f < 8) (ht : t < 8) (k : Nat) (hk : k = f ∨ k = t) : ∀ j, j < 512 → fW 8 (vReach 8 V 3 0 0 f t) k j = fW 8 V f j := by
  intro j hj
  unfold fW vReach vCopy
  rw [if_pos (by omega), if_neg (by omega), if_neg (by omega), if_neg (by omega), if_pos rfl, if_pos (by omega), if_pos (by omega), Int.toNat_natCast, Int.toNat_natCast, Int.toNat_natCast]
  unfold putF
  show (if (512 * k + j) / 512 = t then V (512 * f + (512 * k + j) % 512) else V (512 * k + j)) = V (512 * f + j)
  rcases hk with rfl | rfl
  · split
    · rw [show (512 * k + j) % 512 = j from by omega]
    · rfl
  · rw [if_pos (by omega), show (512 * k + j) % 512 = j from by omega]
theorem write_words (V : Nat → Int) (f t u : Nat) (v : Int) (hf : f < 8) (ht : t < 8) (hne : f ≠ t) (hu : u < 512) : ∀ j, j < 512 → fW 8 (vWrite 8 V (512 * f + u) v) t j = fW 8 V t j := by
  intro j hj
  unfold fW vWrite
  rw [if_pos (by omega), if_pos (by omega), if_pos (by omega), Int.toNat_natCast]
  show updV V (512 * f + u) v (512 * t + j) = V (512 * t + j)
  unfold updV
  rw [if_neg (by omega)]
theorem zero_words (V : Nat → Int) (t : Nat) (ht : t < 8) : ∀ j, j < 512 → fW 8 (vReach 8 V 2 0 0 0 t) t j = 0 := by
  intro j hj
  unfold fW vReach vZero
  rw [if_pos (by omega), if_neg (by omega), if_neg (by omega), if_pos rfl, if_pos (by omega), Int.toNat_natCast]
  show (putF V t (fun _ => 0)) (512 * t + j) = 0
  unfold putF
  rw [if_pos (by omega)]
theorem zero_other (V : Nat → Int) (f t u : Nat) (v : Int) (hf : f < 8) (ht : t < 8) (hne : f ≠ t) (hu : u < 512) : fW 8 (vReach 8 (vWrite 8 V (512 * f + u) v) 2 0 0 0 t) f u = v := by
  unfold fW vReach vZero vWrite
  rw [if_pos (by omega), if_neg (by omega), if_neg (by omega), if_pos rfl, if_pos (by omega), if_pos (by omega), Int.toNat_natCast, Int.toNat_natCast]
  show putF (updV V (512 * f + u) v) t (fun _ => 0) (512 * f + u) = v
  unfold putF
  rw [if_neg (by omega)]
  exact if_pos rfl

theorem err_copy (f t : Nat) (hf : f < 8) (ht : t < 8) : errReach 8 3 0 f t = 0 := by
  unfold errReach errC errF
  rw [if_neg (by omega), if_neg (by omega), if_neg (by omega), if_pos rfl, if_pos (by omega), if_pos (by omega)]
theorem err_zero (t : Nat) (ht : t < 8) : errReach 8 2 0 0 t = 0 := by
  unfold errReach errF
  rw [if_neg (by omega), if_neg (by omega), if_pos rfl, if_pos (by omega)]
theorem err_write (x : Nat) (hx : x < 4096) : errW 8 x = 0 := by
  unfold errW
  rw [if_pos (by omega)]
theorem tmod_bd (a d : Int) (hd : 0 < d) : -d < a.tmod d ∧ a.tmod d < d := by
  have h := Int.tmod_lt_of_pos a hd
  have h' := Int.lt_tmod_of_pos a hd
  omega

set_option maxHeartbeats 2000000 in
theorem blocks_walk (A : Option Addr) (len cap : Nat) (z : Nat → Int) (a1 a2 u v : Int) (w : World) (hl : Elems w w.heap.size A len (fun i => .int .u64 (z i))) (hz : ∀ i, 0 ≤ z i ∧ z i ≤ 18446744073709551615)
    (hu : 0 ≤ u ∧ u ≤ 18446744073709551615) (hv : 0 ≤ v ∧ v ≤ 18446744073709551615) :
    Calls Try.prog 6 #[.slice A len cap, .int .i64 a1, .int .i64 a2, .int .u64 u, .int .u64 v] w (Law w (.bool true)) := by
  by_cases hlen : 60 < len
  · clear hl hz hu hv
    go_enter Try.func6, Try.ntmps6
    go_wp2_with (go_at_call 10; refine (wakes_true _).mono ?_; rintro e w8 ⟨rfl, O, hf⟩)
    go_ret
    exact ⟨rfl, _, hf⟩
  · have HL := Lib.hid hl
    have HZ := Lib.hid hz
    have HV := Lib.hid hv
    have HU := Lib.hid hu
    have t1 := tmod_bd a1 8 (by omega)
    have t2 := tmod_bd a2 8 (by omega)
    obtain ⟨f, hf⟩ : ∃ f : Nat, (a1.tmod 8 + 8) % 8 = (f : Int) := ⟨((a1.tmod 8 + 8) % 8).toNat, by omega⟩
    obtain ⟨t, ht⟩ : ∃ t : Nat, (a2.tmod 8 + 8) % 8 = (t : Int) := ⟨((a2.tmod 8 + 8) % 8).toNat, by omega⟩
    have f8 : f < 8 := by omega
    have t8 : t < 8 := by omega
    clear hl hz hu hv
    go_enter Try.func6, Try.ntmps6
    go_wp2_with fail
    refine (new_in 8 w (by omega) (by omega)).mono ?_
    rintro e w1 ⟨B, O, rfl, hf1, hm1⟩
    have HF := Lib.hid hf1
    have HM := Lib.hid hm1
    clear hf1 hm1
    rw [hf, ht]
    clear hf ht t1 t2
    go_wp2_with fail
    go_loopw [13] (fun i wr => ∃ j : Nat, j ≤ len ∧ i = .int .i64 j ∧ ∃ O V, Fp none_ w wr O ∧ Mem wr O B 8 V) (fun i _ => 61 - (intOf i).toNat)
    case atStart => exact ⟨0, by omega, rfl, O, _, HF.out, HM.out⟩
    case round =>
      obtain ⟨j, hj, rfl, O, V, hfp, hm⟩ := hrel
      clear HF HM
      have HJ := Lib.hid hj
      have HF := Lib.hid hfp
      have HM := Lib.hid hm
      clear hj hfp hm
      by_cases hjl : (j : Int) < len
      · obtain ⟨b, off, rfl, hbw, hcell⟩ := HL.out (by omega)
        have hcx : wr.cell? ⟨b, off + j, none⟩ = some (.int .u64 (z j)) := (World.cell?_of_block (HF.out.keep b hbw (fun c => c))).trans (hcell j (by omega))
        have hz1 := HZ.out j
        obtain ⟨x, hx⟩ : ∃ x : Nat, z j % 4096 = (x : Int) := ⟨(z j % 4096).toNat, by omega⟩
        clear hcell
        go_wp2_with fail
        refine (write_any HM.out x j (by omega) (by omega)).mono ?_
        rintro e w2 ⟨rfl, O2, hf2, hm2⟩
        have HF := Lib.hid (HF.out.trans hf2)
        have HM := Lib.hid hm2
        clear hf2 hm2
        rw [err_write x (by omega)]
        clear hx hz1 hcx
        go_wp2_with fail
        go_roundw
        case rel => exact ⟨j + 1, by omega, by go_num, _, _, HF.out, HM.out⟩
        case measure => simp [intOf]; omega
      · go_wp2_with fail
        refine (words_any HM.out (f : Int) (WalkArith.wf_i64 (by omega))).mono ?_
        rintro e w2 ⟨r, rfl, hrow, hg⟩
        have HB := Lib.hid (Blk.mk (HF.out.trans (Fp.grown0 hg)) (HM.out.apart (Fp.grown0 (O := none_) hg) (fun _ _ c => c)) ⟨_, hrow⟩ (fun k hk => ⟨fun c => by have := hrow.lt k hk; have := HM.out.lt k c; omega, (hrow.lt k hk).2⟩))
        clear hrow hg HF HM HL HZ HJ hjl
        go_wp2_with fail
        refine (reach_any HB.out.m 3 0 0 f t (by omega) (by omega) (by omega)).mono ?_
        rintro e w3 ⟨rfl, O3, hf3, hm3⟩
        have HB := Lib.hid (HB.out.did hf3 hm3)
        clear hf3 hm3
        rw [err_copy f t f8 t8]
        go_wp2_with fail
        refine ((words_any HB.out.m (t : Int) (WalkArith.wf_i64 (by omega)))).mono ?_
        intro e w4 hr4
        obtain ⟨r2, rfl, hrow, hg⟩ := hr4.congr (copy_words V f t f8 t8 t (.inr rfl))
        have HB := Lib.hid (HB.out.grown hg)
        obtain ⟨b0, h0⟩ := HB.out.r
        have HS := Lib.hid (same_words _ hrow h0)
        clear hrow hg h0 hr4
        go_wp2_with fail
        refine HS.out.mono ?_
        rintro e w' ⟨rfl, k, rfl⟩
        have HB := Lib.hid (HB.out.grown (grown_drewN _ k))
        clear HS
        go_wp2_with fail
        refine ((words_any HB.out.m (f : Int) (WalkArith.wf_i64 (by omega)))).mono ?_
        intro e w5 hr5
        obtain ⟨r3, rfl, hrow, hg⟩ := hr5.congr (copy_words V f t f8 t8 f (.inl rfl))
        have HB := Lib.hid (HB.out.grown hg)
        obtain ⟨b0, h0⟩ := HB.out.r
        have HS := Lib.hid (same_words _ hrow h0)
        clear hrow hg h0 hr5
        go_wp2_with fail
        refine HS.out.mono ?_
        rintro e w' ⟨rfl, k, rfl⟩
        have HB := Lib.hid (HB.out.grown (grown_drewN _ k))
        clear HS
        have hu1 := HU.out
        obtain ⟨q, hq⟩ : ∃ q : Nat, u % 512 = (q : Int) := ⟨(u % 512).toNat, by omega⟩
        have q512 : q < 512 := by omega
        go_wp2_with fail
        rw [show (f : Int) * 512 + (q : Int) = ((512 * f + q : Nat) : Int) from by omega]
        by_cases hft : f = t
        · subst hft
          refine (write_any HB.out.m (512 * f + q) v (by omega) HV.out).mono ?_
          rintro e w6 ⟨rfl, O6, hf6, hm6⟩
          have HB := Lib.hid (HB.out.did hf6 hm6)
          clear hf6 hm6
          rw [err_write (512 * f + q) (by omega)]
          go_wp2_with fail
          refine (reach_any HB.out.m 2 0 0 0 f (by omega) (by omega) (by omega)).mono ?_
          rintro e w7 ⟨rfl, O7, hf7, hm7⟩
          have HB := Lib.hid (HB.out.did hf7 hm7)
          clear hf7 hm7
          rw [err_zero f f8]
          go_wp2_with fail
          refine ((words_any HB.out.m (f : Int) (WalkArith.wf_i64 (by omega)))).mono ?_
          intro e w8 hr8
          obtain ⟨r4, rfl, hrow, hg⟩ := hr8.congr (g := fun _ => 0) (zero_words _ f f8)
          have HB := Lib.hid (HB.out.grown hg)
          rw [(cellsW_zero (fun _ => 0) 512 (fun _ _ => rfl)).2] at hrow
          obtain ⟨ad4, cap4, rfl, _⟩ := own_form hrow
          clear hrow hg hr8
          go_wp2_with (go_at_call 10; refine (wakes_true _).mono ?_; rintro e w9 ⟨rfl, O9, hf9⟩)
          go_ret
          exact ⟨rfl, _, HB.out.fp.trans (hf9.ofNone _)⟩
        · refine (write_any HB.out.m (512 * f + q) v (by omega) HV.out).mono ?_
          rintro e w6 ⟨rfl, O6, hf6, hm6⟩
          have HB := Lib.hid (HB.out.did hf6 hm6)
          clear hf6 hm6
          rw [err_write (512 * f + q) (by omega)]
          have hne : ((f : Int) != (t : Int)) = true := by simpa using (by omega : ¬ (f : Int) = t)
          have HNE := Lib.hid hft
          clear hft
          go_wp2_with fail
          refine ((words_any HB.out.m (t : Int) (WalkArith.wf_i64 (by omega)))).mono ?_
          intro e w7 hr7
          obtain ⟨r3, rfl, hrow, hg⟩ := (hr7.congr (write_words _ f t q v f8 t8 HNE.out q512)).congr (copy_words V f t f8 t8 t (.inr rfl))
          have HB := Lib.hid (HB.out.grown hg)
          obtain ⟨b0, h0⟩ := HB.out.r
          have HS := Lib.hid (same_words _ hrow h0)
          clear hrow hg h0 hr7
          go_wp2_with fail
          refine HS.out.mono ?_
          rintro e w' ⟨rfl, k, rfl⟩
          have HB := Lib.hid (HB.out.grown (grown_drewN _ k))
          clear HS
          go_wp2_with fail
          refine (reach_any HB.out.m 2 0 0 0 t (by omega) (by omega) (by omega)).mono ?_
          rintro e w7 ⟨rfl, O7, hf7, hm7⟩
          have HB := Lib.hid (HB.out.did hf7 hm7)
          clear hf7 hm7
          rw [err_zero t t8]
          go_wp2_with fail
          refine ((words_any HB.out.m (t : Int) (WalkArith.wf_i64 (by omega)))).mono ?_
          intro e w8 hr8
          obtain ⟨r4, rfl, hrow, hg⟩ := hr8.congr (g := fun _ => 0) (zero_words _ t t8)
          have HB := Lib.hid (HB.out.grown hg)
          rw [(cellsW_zero (fun _ => 0) 512 (fun _ _ => rfl)).2] at hrow
          obtain ⟨ad4, cap4, rfl, _⟩ := own_form hrow
          clear hrow hg hr8
          by_cases hv0 : v = 0
          · subst hv0
            have hne' : ((f : Int) == (t : Int)) = false := by simpa using (by have := HNE.out; omega : ¬ (f : Int) = t)
            go_wp2_with (go_at_call 10; refine (wakes_true _).mono ?_; rintro e w9 ⟨rfl, O9, hf9⟩)
            go_ret
            exact ⟨rfl, _, HB.out.fp.trans (hf9.ofNone _)⟩
          · have hne' : ((f : Int) == (t : Int)) = false := by simpa using (by have := HNE.out; omega : ¬ (f : Int) = t)
            have hv' : (v == 0) = false := by simpa using hv0
            have HV0 := Lib.hid hv0
            clear hv0
            go_wp2_with fail
            refine ((words_any HB.out.m (f : Int) (WalkArith.wf_i64 (by omega)))).mono ?_
            rintro e w9 ⟨r5, rfl, hrow, hg⟩
            have HB := Lib.hid (HB.out.grown hg)
            have hc := cntW_pos (fW 8 (vReach 8 (vWrite 8 (vReach 8 V 3 0 0 f t) (512 * f + q) v) 2 0 0 0 t) f) 512 q q512 (by rw [zero_other _ f t q v f8 t8 HNE.out q512]; exact HV0.out)
            have hc2 := cntW_le (fW 8 (vReach 8 (vWrite 8 (vReach 8 V 3 0 0 f t) (512 * f + q) v) 2 0 0 0 t) f) 512
            obtain ⟨ad5, cap5, rfl, _⟩ := own_form hrow
            clear hrow hg
            generalize cntW (fW 8 (vReach 8 (vWrite 8 (vReach 8 V 3 0 0 f t) (512 * f + q) v) 2 0 0 0 t) f) 512 = c at hc hc2 ⊢
            go_wp2_with (go_at_call 10; refine (wakes_true _).mono ?_; rintro e w10 ⟨rfl, O9, hf9⟩)
            go_ret
            exact ⟨rfl, _, HB.out.fp.trans (hf9.ofNone _)⟩
end Go.Proofs.Ytablmoegmmeglaa
