/- The reference's monitors in memory, and the contracts of its functions. -/
import Derived.Test.YtpcihiggmbidmaaRowsOf
import Derived.Deep.QuietTactic
import Derived.BigQuiet
namespace Go.Proofs.Ytpcihiggmbidmaa
open Go.RowKit

def refCell (n : Int) (f : Nat → Option Int) (i : Nat) : Value := if i = 0 then .int .i64 n else if i < 10 then .bool (f (i - 1)).isSome else .int .u64 ((f (i - 10)).getD 0)

structure RMon (w : World) (R : Nat) (n : Int) (f : Nat → Option Int) : Prop where
  n1 : 1 ≤ n
  n8 : n ≤ 8
  dom : ∀ c : Nat, ¬ (1 ≤ c ∧ (c : Int) ≤ n) → f c = none
  fit : ∀ c x, f c = some x → 0 ≤ x ∧ x ≤ 18446744073709551615
  row : w.rowIs R 61 19 (refCell n f)

def RDid (w : World) (R : Nat) (n : Int) (f : Nat → Option Int) (r : Value) (e : Ending) (w' : World) : Prop :=
  e = .returned r ∧ RMon w' R n f ∧ w.grownBy w' (some R)

section
variable {w : World} {R : Nat} {n : Int} {f : Nat → Option Int}
theorem RMon.lt (h : RMon w R n f) : R < w.heap.size := h.row.lt
theorem RMon.cell0 (h : RMon w R n f) : w.cell? ⟨R, 0, none⟩ = some (.int .i64 n) := h.row.cell (i := 0) (by omega)
theorem RMon.cellS (h : RMon w R n f) (c : Nat) (hc : c < 9) : w.cell? ⟨R, 1 + c, none⟩ = some (.bool (f c).isSome) := by
  rw [h.row.cell (i := 1 + c) (by omega)]
  unfold refCell
  rw [if_neg (by omega), if_pos (by omega), show 1 + c - 1 = c from by omega]
theorem RMon.cellW (h : RMon w R n f) (c : Nat) (hc : c < 9) : w.cell? ⟨R, 10 + c, none⟩ = some (.int .u64 ((f c).getD 0)) := by
  rw [h.row.cell (i := 10 + c) (by omega)]
  unfold refCell
  rw [if_neg (by omega), if_neg (by omega), show 10 + c - 10 = c from by omega]
theorem RMon.free (h : RMon w R n f) (i : Nat) : w.frozen? ⟨R, i, none⟩ = false := h.row.frozen i
theorem RMon.kept {w' : World} (h : RMon w R n f) (hb : w'.heap[R]? = w.heap[R]?) : RMon w' R n f := ⟨h.n1, h.n8, h.dom, h.fit, h.row.of_block hb⟩
theorem RMon.alloc (h : RMon w R n f) (o : Obj) : RMon (w.alloc o) R n f := h.kept (Below.heap_alloc w o R h.lt)
theorem RMon.drew (h : RMon w R n f) : RMon w.drew R n f := h.kept rfl
theorem RMon.congr {g : Nat → Option Int} (h : RMon w R n f) (e : ∀ c, f c = g c) : RMon w R n g := (funext e : f = g) ▸ h
theorem RMon.dom' (h : RMon w R n f) {c : Int} (hc : ¬ (1 ≤ c ∧ c ≤ n)) : f c.toNat = none := h.dom _ (by omega)

theorem RMon.store (h : RMon w R n f) (c : Nat) (h1 : 1 ≤ c) (hn : (c : Int) ≤ n) (o : Option Int) (ho : ∀ x, o = some x → 0 ≤ x ∧ x ≤ 18446744073709551615) :
    RMon ((w.setCell ⟨R, 1 + c, none⟩ (.bool o.isSome)).setCell ⟨R, 10 + c, none⟩ (.int .u64 (o.getD 0))) R n (upd f c o) := by
  have hn8 := h.n8
  refine ⟨h.n1, h.n8, fun d hd => ?_, fun d x hx => ?_, ((h.row.set (1 + c) _).set (10 + c) _).congr fun i hi => ?_⟩
  · unfold upd
    rw [if_neg (by rintro rfl; exact hd ⟨h1, hn⟩)]
    exact h.dom d hd
  · unfold upd at hx
    by_cases e : d = c
    · rw [if_pos e] at hx; exact ho x hx
    · rw [if_neg e] at hx; exact h.fit d x hx
  · unfold refCell upd
    by_cases e1 : i = 10 + c
    · subst e1
      rw [if_pos rfl, if_neg (by omega), if_neg (by omega), show 10 + c - 10 = c from by omega, if_pos rfl]
    · rw [if_neg e1]
      by_cases e2 : i = 1 + c
      · subst e2
        rw [if_pos rfl, if_neg (by omega), if_pos (by omega), show 1 + c - 1 = c from by omega, if_pos rfl]
      · rw [if_neg e2]
        by_cases e3 : i = 0
        · rw [if_pos e3, if_pos e3]
        · rw [if_neg e3, if_neg e3]
          by_cases e4 : i < 10
          · rw [if_pos e4, if_pos e4, if_neg (by omega)]
          · rw [if_neg e4, if_neg e4, if_neg (by omega)]

theorem rcore_any (c : Int) (w : World) (h : w.cell? ⟨R, 0, none⟩ = some (.int .i64 n)) :
    Calls Try.prog 29 #[.pointer (some ⟨R, 0, none⟩), .int .i64 c] w (Same w (.bool (decide (1 ≤ c ∧ c ≤ n)))) := by
  by_cases h1 : 1 ≤ c
  · by_cases h2 : c ≤ n
    · rw [decide_eq_true ⟨h1, h2⟩]
      go_enter Try.func29, Try.ntmps29
      go_wp2
      go_ret
      exact ⟨rfl, rfl⟩
    · rw [decide_eq_false (fun k => h2 k.2)]
      go_enter Try.func29, Try.ntmps29
      go_wp2
      go_ret
      exact ⟨rfl, rfl⟩
  · rw [decide_eq_false (fun k => h1 k.1)]
    go_enter Try.func29, Try.ntmps29
    go_wp2
    go_ret
    exact ⟨rfl, rfl⟩
theorem rcore_in (c : Int) (w : World) (h : w.cell? ⟨R, 0, none⟩ = some (.int .i64 n)) (hc : 1 ≤ c ∧ c ≤ n) :
    Calls Try.prog 29 #[.pointer (some ⟨R, 0, none⟩), .int .i64 c] w (Same w (.bool true)) := by
  have := rcore_any c w h
  rwa [decide_eq_true hc] at this
theorem rcore_out (c : Int) (w : World) (h : w.cell? ⟨R, 0, none⟩ = some (.int .i64 n)) (hc : ¬ (1 ≤ c ∧ c ≤ n)) :
    Calls Try.prog 29 #[.pointer (some ⟨R, 0, none⟩), .int .i64 c] w (Same w (.bool false)) := by
  have := rcore_any c w h
  rwa [decide_eq_false hc] at this

theorem rset_any (h : RMon w R n f) (c x : Int) (hx : 0 ≤ x ∧ x ≤ 18446744073709551615) :
    Calls Try.prog 23 #[.pointer (some ⟨R, 0, none⟩), .int .i64 c, .int .u64 x] w (RDid w R n (fSet n f c x) (.int .i64 (err n c))) := by
  have c0 := h.cell0
  have hn8 := h.n8
  by_cases hc : 1 ≤ c ∧ c ≤ n
  · obtain ⟨k, rfl⟩ := Int.eq_ofNat_of_zero_le (show 0 ≤ c by omega)
    unfold fSet err; rw [if_pos hc, if_pos hc]
    have HC := Lib.hid hc
    have k8 : k < 9 := by omega
    have cs := h.cellS k k8
    have cw := h.cellW k k8
    have fs := h.free (1 + k)
    have fw := h.free (10 + k)
    have H := Lib.hid h
    clear h hc
    go_enter Try.func23, Try.ntmps23
    go_wp2_with (go_at_call 29; refine (rcore_in _ _ c0 HC.out).mono ?_; rintro e w' ⟨rfl, rfl⟩)
    go_ret
    refine ⟨rfl, ?_, grown_trans (grown_setCell _ _ _) (grown_setCell _ _ _)⟩
    exact H.out.store k (by have := HC.out; omega) HC.out.2 (some x) (fun y hy => by cases hy; exact hx)
  · unfold fSet err; rw [if_neg hc, if_neg hc]
    have HC := Lib.hid hc
    have H := Lib.hid h
    clear h hc
    go_enter Try.func23, Try.ntmps23
    go_wp2_with (go_at_call 29; refine (rcore_out _ _ c0 HC.out).mono ?_; rintro e w' ⟨rfl, rfl⟩)
    go_ret
    exact ⟨rfl, H.out, grown_refl _ _⟩
theorem rclear_any (h : RMon w R n f) (c : Int) :
    Calls Try.prog 24 #[.pointer (some ⟨R, 0, none⟩), .int .i64 c] w (RDid w R n (fClear n f c) (.int .i64 (err n c))) := by
  have c0 := h.cell0
  have hn8 := h.n8
  by_cases hc : 1 ≤ c ∧ c ≤ n
  · obtain ⟨k, rfl⟩ := Int.eq_ofNat_of_zero_le (show 0 ≤ c by omega)
    unfold fClear err; rw [if_pos hc, if_pos hc]
    have HC := Lib.hid hc
    have k8 : k < 9 := by omega
    have cs := h.cellS k k8
    have cw := h.cellW k k8
    have fs := h.free (1 + k)
    have fw := h.free (10 + k)
    have H := Lib.hid h
    clear h hc
    go_enter Try.func24, Try.ntmps24
    go_wp2_with (go_at_call 29; refine (rcore_in _ _ c0 HC.out).mono ?_; rintro e w' ⟨rfl, rfl⟩)
    go_ret
    refine ⟨rfl, ?_, grown_trans (grown_setCell _ _ _) (grown_setCell _ _ _)⟩
    exact H.out.store k (by have := HC.out; omega) HC.out.2 none (fun y hy => by cases hy)
  · unfold fClear err; rw [if_neg hc, if_neg hc]
    have HC := Lib.hid hc
    have H := Lib.hid h
    clear h hc
    go_enter Try.func24, Try.ntmps24
    go_wp2_with (go_at_call 29; refine (rcore_out _ _ c0 HC.out).mono ?_; rintro e w' ⟨rfl, rfl⟩)
    go_ret
    exact ⟨rfl, H.out, grown_refl _ _⟩

def Drew (w : World) (r : Value) (e : Ending) (w' : World) : Prop := e = .returned r ∧ ∃ k, w' = w.drewN k

theorem rof_any (h : RMon w R n f) (c : Int) :
    Calls Try.prog 17 #[.pointer (some ⟨R, 0, none⟩), .int .i64 c] w (Drew w (.tuple #[.int .u64 ((f c.toNat).getD 0), .bool (f c.toNat).isSome])) := by
  have c0 := h.cell0
  have hn8 := h.n8
  by_cases hc : 1 ≤ c ∧ c ≤ n
  · obtain ⟨k, rfl⟩ := Int.eq_ofNat_of_zero_le (show 0 ≤ c by omega)
    rw [Int.toNat_natCast]
    have HC := Lib.hid hc
    have k8 : k < 9 := by omega
    have cs := h.cellS k k8
    have cw := h.cellW k k8
    clear h hc
    go_enter Try.func17, Try.ntmps17
    go_wp2_with (go_at_call 29; refine (rcore_in _ _ c0 HC.out).mono ?_; rintro e w' ⟨rfl, rfl⟩)
    go_quiet (fail)
    go_wp2
    go_ret2
    exact ⟨rfl, _, rfl⟩
  · rw [h.dom' hc]
    have HC := Lib.hid hc
    clear h hc
    go_enter Try.func17, Try.ntmps17
    go_wp2_with (go_at_call 29; refine (rcore_out _ _ c0 HC.out).mono ?_; rintro e w' ⟨rfl, rfl⟩)
    go_ret2
    exact ⟨rfl, 0, rfl⟩

theorem ris_any (h : RMon w R n f) (c x : Int) :
    Calls Try.prog 28 #[.pointer (some ⟨R, 0, none⟩), .int .i64 c, .int .u64 x] w (Drew w (.bool (isAt (f c.toNat) x))) := by
  have h17 := rof_any h c
  cases hx : f c.toNat with
  | none =>
    rw [hx] at h17
    have H := Lib.hid h17
    clear h h17 hx
    rw [isAt_none]
    go_enter Try.func28, Try.ntmps28
    go_wp2_with (go_at_call 17; refine H.out.mono ?_; rintro e w' ⟨rfl, k, rfl⟩)
    go_ret
    exact ⟨rfl, _, rfl⟩
  | some y =>
    rw [hx] at h17
    have H := Lib.hid h17
    clear h h17 hx
    rw [isAt_some]
    go_enter Try.func28, Try.ntmps28
    go_wp2_with (go_at_call 17; refine H.out.mono ?_; rintro e w' ⟨rfl, k, rfl⟩)
    go_ret
    exact ⟨rfl, _, rfl⟩

theorem grown_drewN (w : World) (k : Nat) (r : Option Nat) : w.grownBy (w.drewN k) r := ⟨rfl, rfl, rfl, Nat.le_refl _, fun _ _ _ => rfl⟩

theorem pTo_start {f : Nat → Option Int} {c : Nat} {p : Int → Bool} (h0 : f 0 = none) : ∀ k, f k = pTo f c p 1 k := by
  intro k
  unfold pTo
  by_cases e : k < 1
  · rw [if_pos e]
    have : k = 0 := by omega
    subst this
    unfold pLose
    simp [h0]
  · rw [if_neg e]
theorem pTo_end {f : Nat → Option Int} {c i : Nat} {p : Int → Bool} (h0 : ∀ k, i ≤ k → f k = none) : ∀ k, pTo f c p i k = pLose f c p k := by
  intro k
  unfold pTo
  by_cases e : k < i
  · rw [if_pos e]
  · rw [if_neg e]
    have := h0 k (by omega)
    unfold pLose
    simp [this]

set_option maxHeartbeats 400000 in
theorem rwrote_any (h : RMon w R n f) (c x : Int) :
    Calls Try.prog 25 #[.pointer (some ⟨R, 0, none⟩), .int .i64 c, .int .u64 x] w (RDid w R n (fLose n f c (wordIs x)) (.int .i64 (err n c))) := by
  have c0 := h.cell0
  have hn8 := h.n8
  have hn1 := h.n1
  by_cases hc : 1 ≤ c ∧ c ≤ n
  · obtain ⟨k, rfl⟩ := Int.eq_ofNat_of_zero_le (show 0 ≤ c by omega)
    unfold fLose err; rw [if_pos hc, if_pos hc, Int.toNat_natCast]
    have HC := Lib.hid hc
    have H := Lib.hid h
    clear h hc
    go_enter Try.func25, Try.ntmps25
    go_wp2_with (go_at_call 29; refine (rcore_in _ _ c0 HC.out).mono ?_; rintro e w' ⟨rfl, rfl⟩)
    go_loopw [7] (fun i wr => ∃ j : Nat, 1 ≤ j ∧ (j : Int) ≤ n + 1 ∧ i = .int .i64 j ∧ RMon wr R n (pTo f k (wordIs x) j) ∧ w.grownBy wr (some R)) (fun i _ => 10 - (intOf i).toNat)
    case atStart => exact ⟨1, by omega, by omega, rfl, H.out.congr (pTo_start (H.out.dom 0 (by omega))), grown_refl _ _⟩
    case round =>
      obtain ⟨j, hj1, hj2, rfl, hm, hg⟩ := hrel
      have cr := hm.cell0
      have HM := Lib.hid hm
      have HG := Lib.hid hg
      have hpj : pTo f k (wordIs x) j j = f j := by simp [pTo]
      clear hm hg c0
      by_cases hjn : (j : Int) ≤ n
      · by_cases hjk : (j : Int) = k
        · have hne : ((j : Int) != (k : Int)) = false := by simp [hjk]
          have HF : Hid (pLose f k (wordIs x) j = f j) := Lib.hid (by unfold pLose; rw [if_pos (by omega)])
          clear hjk hpj
          go_wp2_with fail
          go_roundw
          case rel => exact ⟨j + 1, by omega, by omega, by go_num, HM.out.congr (pTo_same HF.out), HG.out⟩
          case measure => simp [intOf]; omega
        · have hne : ((j : Int) != (k : Int)) = true := by simp [hjk]
          have hfj : pLose f k (wordIs x) j = (f j).filter fun y => !wordIs x y := by unfold pLose; rw [if_neg (by omega)]
          clear hjk
          by_cases his : isAt (f j) x = true
          · have HF : Hid (pLose f k (wordIs x) j = none) := Lib.hid (by
              rw [hfj]
              cases hf : f j with
              | none => rfl
              | some y => rw [hf, isAt_some] at his; simp [Option.filter, wordIs, his])
            have HIS : Hid (isAt (pTo f k (wordIs x) j (j : Int).toNat) x = true) := Lib.hid (by rw [Int.toNat_natCast, hpj]; exact his)
            clear his hfj hpj
            go_wp2_with fail
            refine (ris_any HM.out j x).mono ?_
            rintro e w' ⟨rfl, q, rfl⟩
            rw [HIS.out]
            go_wp2_with fail
            refine (rclear_any (HM.out.kept (w' := wr.drewN q) rfl) j).mono ?_
            rintro e w2 ⟨rfl, hm2, hg2⟩
            have HM2 : Hid (RMon w2 R n (pTo f k (wordIs x) (j + 1))) := Lib.hid (by
              refine hm2.congr fun d => ?_
              unfold fClear
              rw [if_pos (by omega), Int.toNat_natCast]
              exact pTo_gone HF.out d)
            have HG2 := Lib.hid hg2
            clear hm2 hg2
            go_wp2_with fail
            go_roundw
            case rel => exact ⟨j + 1, by omega, by omega, by go_num, HM2.out, grown_trans HG.out (grown_trans (grown_drewN _ _ _) HG2.out)⟩
            case measure => simp [intOf]; omega
          · have hi0 : isAt (f j) x = false := by simpa using his
            have HF : Hid (pLose f k (wordIs x) j = f j) := Lib.hid (by
              rw [hfj]
              cases hf : f j with
              | none => rfl
              | some y => rw [hf, isAt_some] at hi0; simp [Option.filter, wordIs, hi0])
            have HIS : Hid (isAt (pTo f k (wordIs x) j (j : Int).toNat) x = false) := Lib.hid (by rw [Int.toNat_natCast, hpj]; exact hi0)
            clear his hi0 hfj hpj
            go_wp2_with fail
            refine (ris_any HM.out j x).mono ?_
            rintro e w' ⟨rfl, q, rfl⟩
            rw [HIS.out]
            go_wp2_with fail
            go_roundw
            case rel => exact ⟨j + 1, by omega, by omega, by go_num, (HM.out.kept (w' := wr.drewN q) rfl).congr (pTo_same HF.out), grown_trans HG.out (grown_drewN _ _ _)⟩
            case measure => simp [intOf]; omega
      · have HE : Hid (∀ d, pTo f k (wordIs x) j d = pLose f k (wordIs x) d) := Lib.hid (pTo_end fun d hd => H.out.dom d (by omega))
        clear hpj
        go_wp2_with fail
        go_ret
        exact ⟨rfl, HM.out.congr HE.out, HG.out⟩
  · unfold fLose err; rw [if_neg hc, if_neg hc]
    have HC := Lib.hid hc
    have H := Lib.hid h
    clear h hc
    go_enter Try.func25, Try.ntmps25
    go_wp2_with (go_at_call 29; refine (rcore_out _ _ c0 HC.out).mono ?_; rintro e w' ⟨rfl, rfl⟩)
    go_ret
    exact ⟨rfl, H.out, grown_refl _ _⟩
end
end Go.Proofs.Ytpcihiggmbidmaa
