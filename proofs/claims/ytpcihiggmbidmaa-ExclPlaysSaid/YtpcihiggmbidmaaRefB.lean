/- The reference's Block and Reach; new monitors of the reference. -/
import Derived.Test.YtpcihiggmbidmaaRef
namespace Go.Proofs.Ytpcihiggmbidmaa
open Go.RowKit
variable {w : World} {R : Nat} {n : Int} {f : Nat → Option Int}

theorem filter_frame {o : Option Int} {fr : Int} : o.isSome = false ∨ (o.getD 0 / 512 == fr) = false → o.filter (fun y => !frameIs fr y) = o := by
  intro h
  cases o with
  | none => rfl
  | some y =>
    rcases h with h | h
    · cases h
    · have h' : (y / 512 == fr) = false := h
      simp [Option.filter, frameIs, h']
theorem filter_frame_gone {o : Option Int} {fr : Int} : o.isSome = true → (o.getD 0 / 512 == fr) = true → o.filter (fun y => !frameIs fr y) = none := by
  intro h h2
  cases o with
  | none => rfl
  | some y =>
    have h' : (y / 512 == fr) = true := h2
    simp [Option.filter, frameIs, h']

set_option maxHeartbeats 400000 in
theorem rblock_in (h : RMon w R n f) (c fr : Int) (hfr : 0 ≤ fr ∧ fr ≤ 1048576) :
    Calls Try.prog 26 #[.pointer (some ⟨R, 0, none⟩), .int .i64 c, .int .i64 fr] w (RDid w R n (fLose n f c (frameIs fr)) (.int .i64 (err n c))) := by
  have c0 := h.cell0
  have hn8 := h.n8
  have hn1 := h.n1
  obtain ⟨f0, f1⟩ := hfr
  by_cases hc : 1 ≤ c ∧ c ≤ n
  · obtain ⟨k, rfl⟩ := Int.eq_ofNat_of_zero_le (show 0 ≤ c by omega)
    unfold fLose err; rw [if_pos hc, if_pos hc, Int.toNat_natCast]
    have HC := Lib.hid hc
    have H := Lib.hid h
    clear h hc
    go_enter Try.func26, Try.ntmps26
    go_wp2_with (go_at_call 29; refine (rcore_in _ _ c0 HC.out).mono ?_; rintro e w' ⟨rfl, rfl⟩)
    go_loopw [7] (fun i wr => ∃ j : Nat, 1 ≤ j ∧ (j : Int) ≤ n + 1 ∧ i = .int .i64 j ∧ RMon wr R n (pTo f k (frameIs fr) j) ∧ w.grownBy wr (some R)) (fun i _ => 10 - (intOf i).toNat)
    case atStart => exact ⟨1, by omega, by omega, rfl, H.out.congr (pTo_start (H.out.dom 0 (by omega))), grown_refl _ _⟩
    case round =>
      obtain ⟨j, hj1, hj2, rfl, hm, hg⟩ := hrel
      have cr := hm.cell0
      have HM := Lib.hid hm
      have HG := Lib.hid hg
      have hpj : pTo f k (frameIs fr) j j = f j := by simp [pTo]
      by_cases hjn : (j : Int) ≤ n
      · have cs := hm.cellS j (by omega)
        have cw := hm.cellW j (by omega)
        rw [hpj] at cs cw
        have hfit : 0 ≤ (f j).getD 0 ∧ (f j).getD 0 ≤ 18446744073709551615 := by
          cases hf : f j with
          | none => exact ⟨by show (0 : Int) ≤ 0; omega, by show (0 : Int) ≤ 18446744073709551615; omega⟩
          | some y => exact H.out.fit j y hf
        obtain ⟨g0, g1⟩ := hfit
        clear hm hg c0
        by_cases hjk : (j : Int) = k
        · have hne : ((j : Int) != (k : Int)) = false := by simp [hjk]
          have HF : Hid (pLose f k (frameIs fr) j = f j) := Lib.hid (by unfold pLose; rw [if_pos (by omega)])
          clear hjk hpj
          go_wp2_with fail
          go_roundw
          case rel => exact ⟨j + 1, by omega, by omega, by go_num, HM.out.congr (pTo_same HF.out), HG.out⟩
          case measure => simp [intOf]; omega
        · have hne : ((j : Int) != (k : Int)) = true := by simp [hjk]
          have hfj : pLose f k (frameIs fr) j = (f j).filter fun y => !frameIs fr y := by unfold pLose; rw [if_neg (by omega)]
          clear hjk hpj
          cases hs : (f j).isSome with
          | false =>
            have HF : Hid (pLose f k (frameIs fr) j = f j) := Lib.hid (hfj.trans (filter_frame (.inl hs)))
            rw [hs] at cs
            clear hfj hs
            go_wp2_with fail
            go_roundw
            case rel => exact ⟨j + 1, by omega, by omega, by go_num, HM.out.congr (pTo_same HF.out), HG.out⟩
            case measure => simp [intOf]; omega
          | true =>
            rw [hs] at cs
            generalize hx : (f j).getD 0 = x at cw g0 g1
            cases hq : (x / 512 == fr) with
            | false =>
              have HF : Hid (pLose f k (frameIs fr) j = f j) := Lib.hid (hfj.trans (filter_frame (.inr (by rw [hx]; exact hq))))
              clear hfj hs hx
              go_wp2_with fail
              go_roundw
              case rel => exact ⟨j + 1, by omega, by omega, by go_num, HM.out.congr (pTo_same HF.out), HG.out⟩
              case measure => simp [intOf]; omega
            | true =>
              have HF : Hid (pLose f k (frameIs fr) j = none) := Lib.hid (hfj.trans (filter_frame_gone hs (by rw [hx]; exact hq)))
              clear hfj hs hx
              go_wp2_with fail
              refine (rclear_any HM.out j).mono ?_
              rintro e w2 ⟨rfl, hm2, hg2⟩
              have HM2 : Hid (RMon w2 R n (pTo f k (frameIs fr) (j + 1))) := Lib.hid (by
                refine hm2.congr fun d => ?_
                unfold fClear
                rw [if_pos (by omega), Int.toNat_natCast]
                exact pTo_gone HF.out d)
              have HG2 := Lib.hid hg2
              clear hm2 hg2
              go_wp2_with fail
              go_roundw
              case rel => exact ⟨j + 1, by omega, by omega, by go_num, HM2.out, grown_trans HG.out HG2.out⟩
              case measure => simp [intOf]; omega
      · have HE : Hid (∀ d, pTo f k (frameIs fr) j d = pLose f k (frameIs fr) d) := Lib.hid (pTo_end fun d hd => H.out.dom d (by omega))
        clear hpj hm hg c0
        go_wp2_with fail
        go_ret
        exact ⟨rfl, HM.out.congr HE.out, HG.out⟩
  · unfold fLose err; rw [if_neg hc, if_neg hc]
    have HC := Lib.hid hc
    have H := Lib.hid h
    clear h hc
    go_enter Try.func26, Try.ntmps26
    go_wp2_with (go_at_call 29; refine (rcore_out _ _ c0 HC.out).mono ?_; rintro e w' ⟨rfl, rfl⟩)
    go_ret
    exact ⟨rfl, H.out, grown_refl _ _⟩
theorem rblock_out (h : RMon w R n f) (c fr : Int) (hfr : ¬ (0 ≤ fr ∧ fr ≤ 1048576)) :
    Calls Try.prog 26 #[.pointer (some ⟨R, 0, none⟩), .int .i64 c, .int .i64 fr] w (RDid w R n f (.int .i64 2)) := by
  have c0 := h.cell0
  have H := Lib.hid h
  clear h
  by_cases hc : 1 ≤ c ∧ c ≤ n
  · have HC := Lib.hid hc
    clear hc
    by_cases f0 : fr < 0
    · clear hfr
      go_enter Try.func26, Try.ntmps26
      go_wp2_with (go_at_call 29; refine (rcore_in _ _ c0 HC.out).mono ?_; rintro e w' ⟨rfl, rfl⟩)
      go_ret
      exact ⟨rfl, H.out, grown_refl _ _⟩
    · have f1 : 1048576 < fr := by omega
      clear hfr
      go_enter Try.func26, Try.ntmps26
      go_wp2_with (go_at_call 29; refine (rcore_in _ _ c0 HC.out).mono ?_; rintro e w' ⟨rfl, rfl⟩)
      go_ret
      exact ⟨rfl, H.out, grown_refl _ _⟩
  · have HC := Lib.hid hc
    clear hc hfr
    go_enter Try.func26, Try.ntmps26
    go_wp2_with (go_at_call 29; refine (rcore_out _ _ c0 HC.out).mono ?_; rintro e w' ⟨rfl, rfl⟩)
    go_ret
    exact ⟨rfl, H.out, grown_refl _ _⟩
theorem rblock_any (h : RMon w R n f) (c fr : Int) :
    Calls Try.prog 26 #[.pointer (some ⟨R, 0, none⟩), .int .i64 c, .int .i64 fr] w (RDid w R n (fBlock n f c fr) (.int .i64 (errB n c fr))) := by
  by_cases hfr : 0 ≤ fr ∧ fr ≤ 1048576
  · unfold fBlock errB; rw [if_pos hfr, if_pos hfr]
    exact rblock_in h c fr hfr
  · unfold fBlock errB; rw [if_neg hfr, if_neg hfr]
    exact rblock_out h c fr hfr

theorem rreach_any (h : RMon w R n f) (c kd word val from_ fr : Int) :
    Calls Try.prog 27 #[.pointer (some ⟨R, 0, none⟩), .int .i64 c, .agg #[.int .i8 kd, .int .u64 word, .int .u64 val, .int .i64 from_, .int .i64 fr]] w
      (RDid w R n (fReach n f c kd word fr) (.int .i64 (errR n c kd fr))) := by
  have hlt := h.lt
  have H := Lib.hid h
  clear h
  unfold fReach errR
  by_cases k0 : kd = 0
  · subst k0
    rw [if_pos rfl, if_pos rfl]
    go_enter Try.func27, Try.ntmps27
    go_wp2_with fail
    refine (rwrote_any (H.out.alloc _) c word).mono ?_
    rintro e w' ⟨rfl, hm, hgr⟩
    have HM := Lib.hid hm
    clear hm
    go_wp2
    go_ret
    exact ⟨rfl, HM.out, grown_trans (World.grownBy_alloc w _ _) hgr⟩
  · rw [if_neg k0, if_neg k0]
    by_cases k2 : kd = 2
    · subst k2
      rw [if_pos (.inl rfl), if_pos (.inl rfl)]
      clear k0
      go_enter Try.func27, Try.ntmps27
      go_wp2_with fail
      refine (rblock_any (H.out.alloc _) c fr).mono ?_
      rintro e w' ⟨rfl, hm, hgr⟩
      have HM := Lib.hid hm
      clear hm
      go_wp2
      go_ret
      exact ⟨rfl, HM.out, grown_trans (World.grownBy_alloc w _ _) hgr⟩
    · by_cases k3 : kd = 3
      · subst k3
        rw [if_pos (.inr rfl), if_pos (.inr rfl)]
        clear k0 k2
        go_enter Try.func27, Try.ntmps27
        go_wp2_with fail
        refine (rblock_any (H.out.alloc _) c fr).mono ?_
        rintro e w' ⟨rfl, hm, hgr⟩
        have HM := Lib.hid hm
        clear hm
        go_wp2
        go_ret
        exact ⟨rfl, HM.out, grown_trans (World.grownBy_alloc w _ _) hgr⟩
      · rw [if_neg (by omega), if_neg (by omega)]
        by_cases k1 : kd = 1
        · subst k1
          rw [if_pos rfl]
          clear k0 k2 k3
          have c1 : ∀ o, (w.alloc o).cell? ⟨R, 0, none⟩ = some (.int .i64 n) := fun o => (H.out.alloc o).cell0
          unfold err
          by_cases hc : 1 ≤ c ∧ c ≤ n
          · rw [if_pos hc]
            have HC := Lib.hid hc
            clear hc
            go_enter Try.func27, Try.ntmps27
            go_wp2_with (go_at_call 29; refine (rcore_in _ _ (c1 _) HC.out).mono ?_; rintro e w' ⟨rfl, rfl⟩)
            go_ret
            exact ⟨rfl, H.out.alloc _, World.grownBy_alloc w _ _⟩
          · rw [if_neg hc]
            have HC := Lib.hid hc
            clear hc
            go_enter Try.func27, Try.ntmps27
            go_wp2_with (go_at_call 29; refine (rcore_out _ _ (c1 _) HC.out).mono ?_; rintro e w' ⟨rfl, rfl⟩)
            go_ret
            exact ⟨rfl, H.out.alloc _, World.grownBy_alloc w _ _⟩
        · rw [if_neg k1]
          have e0 : (kd == 0) = false := by simpa using k0
          have e1 : (kd == 1) = false := by simpa using k1
          have e2 : (kd == 2) = false := by simpa using k2
          have e3 : (kd == 3) = false := by simpa using k3
          clear k0 k1 k2 k3
          go_enter Try.func27, Try.ntmps27
          go_wp2_with fail
          go_ret
          exact ⟨rfl, H.out.alloc _, World.grownBy_alloc w _ _⟩

def RMade (w : World) (n : Int) (e : Ending) (w' : World) : Prop :=
  e = .returned (.tuple #[.pointer (some ⟨w.heap.size, 0, none⟩), .int .i64 0]) ∧ RMon w' w.heap.size n (fun _ => none) ∧ w.grownBy w' none

theorem rmon_new (w : World) (n : Int) (h1 : 1 ≤ n) (h8 : n ≤ 8) :
    RMon (w.alloc (.cells #[.int .i64 n, .bool false, .bool false, .bool false, .bool false, .bool false, .bool false, .bool false, .bool false, .bool false, .int .u64 0, .int .u64 0, .int .u64 0, .int .u64 0, .int .u64 0, .int .u64 0, .int .u64 0, .int .u64 0, .int .u64 0] 61)) w.heap.size n (fun _ => none) := by
  refine ⟨h1, h8, fun _ _ => rfl, fun _ _ h => (by cases h), _, Go.heap_alloc_new w _, rfl, fun i hi => ?_⟩
  match i, hi with
  | 0, _ => rfl
  | 1, _ => rfl
  | 2, _ => rfl
  | 3, _ => rfl
  | 4, _ => rfl
  | 5, _ => rfl
  | 6, _ => rfl
  | 7, _ => rfl
  | 8, _ => rfl
  | 9, _ => rfl
  | 10, _ => rfl
  | 11, _ => rfl
  | 12, _ => rfl
  | 13, _ => rfl
  | 14, _ => rfl
  | 15, _ => rfl
  | 16, _ => rfl
  | 17, _ => rfl
  | 18, _ => rfl
  | j + 19, h => exact absurd h (by omega)

theorem rnew_in (n : Int) (w : World) (h1 : 1 ≤ n) (h8 : n ≤ 8) : Calls Try.prog 14 #[.int .i64 n] w (RMade w n) := by
  have hm := Lib.hid (rmon_new w n h1 h8)
  go_enter Try.func14, Try.ntmps14
  go_wp2
  go_ret2
  exact ⟨rfl, hm.out, World.grownBy_alloc w _ _⟩
theorem rnew_out (n : Int) (w : World) (h : ¬ (1 ≤ n ∧ n ≤ 8)) : Calls Try.prog 14 #[.int .i64 n] w (Same w (.tuple #[.pointer none, .int .i64 2])) := by
  by_cases h1 : n < 1
  · clear h
    go_enter Try.func14, Try.ntmps14
    go_wp2
    go_ret2
    exact ⟨rfl, rfl⟩
  · have h8 : 8 < n := by omega
    clear h
    go_enter Try.func14, Try.ntmps14
    go_wp2
    go_ret2
    exact ⟨rfl, rfl⟩
end Go.Proofs.Ytpcihiggmbidmaa
