/- The contracts of the program's functions on monitors, for every core and word. -/
import Derived.Test.YtpcihiggmbidmaaLose
namespace Go.Proofs.Ytpcihiggmbidmaa
open Go.RowKit
variable {w : World} {B : Nat} {n : Int} {f : Nat → Option Int}

def fSet (n : Int) (f : Nat → Option Int) (c x : Int) : Nat → Option Int := if 1 ≤ c ∧ c ≤ n then upd f c.toNat (some x) else f
def fClear (n : Int) (f : Nat → Option Int) (c : Int) : Nat → Option Int := if 1 ≤ c ∧ c ≤ n then upd f c.toNat none else f
def fLose (n : Int) (f : Nat → Option Int) (c : Int) (p : Int → Bool) : Nat → Option Int := if 1 ≤ c ∧ c ≤ n then pLose f c.toNat p else f
def wordIs (x : Int) (y : Int) : Bool := y == x
def frameIs (k : Int) (y : Int) : Bool := y / 512 == k
def isAt (o : Option Int) (x : Int) : Bool := match o with | some y => y == x | none => false
theorem isAt_some (y x : Int) : isAt (some y) x = (y == x) := rfl
theorem isAt_none (x : Int) : isAt none x = false := rfl

theorem Mon.dom' (h : Mon w B n f) {c : Int} (hc : ¬ (1 ≤ c ∧ c ≤ n)) : f c.toNat = none := h.dom _ (by omega)

theorem set_any (h : Mon w B n f) (c x : Int) (hx : 0 ≤ x ∧ x ≤ 18446744073709551615) :
    Calls Try.prog 8 #[.pointer (some ⟨B, 0, none⟩), .int .i64 c, .int .u64 x] w (Did w B n (fSet n f c x) (.int .i64 (err n c))) := by
  by_cases hc : 1 ≤ c ∧ c ≤ n
  · obtain ⟨k, rfl⟩ := Int.eq_ofNat_of_zero_le (show 0 ≤ c by omega)
    unfold fSet err; rw [if_pos hc, if_pos hc]
    exact set_in h k x (by omega) hc.2 hx
  · unfold fSet err; rw [if_neg hc, if_neg hc]
    exact set_out h c x hc
theorem clear_any (h : Mon w B n f) (c : Int) :
    Calls Try.prog 13 #[.pointer (some ⟨B, 0, none⟩), .int .i64 c] w (Did w B n (fClear n f c) (.int .i64 (err n c))) := by
  by_cases hc : 1 ≤ c ∧ c ≤ n
  · obtain ⟨k, rfl⟩ := Int.eq_ofNat_of_zero_le (show 0 ≤ c by omega)
    unfold fClear err; rw [if_pos hc, if_pos hc]
    exact clear_in h k (by omega) hc.2
  · unfold fClear err; rw [if_neg hc, if_neg hc]
    exact clear_out h c hc
theorem of_any (h : Mon w B n f) (c : Int) :
    Calls Try.prog 16 #[.pointer (some ⟨B, 0, none⟩), .int .i64 c] w (Same w (.tuple #[.int .u64 ((f c.toNat).getD 0), .bool (f c.toNat).isSome])) := by
  by_cases hc : 1 ≤ c ∧ c ≤ n
  · obtain ⟨k, rfl⟩ := Int.eq_ofNat_of_zero_le (show 0 ≤ c by omega)
    exact of_in h k (by omega) hc.2
  · rw [h.dom' hc]
    exact of_out h c hc
theorem is_any (h : Mon w B n f) (c x : Int) :
    Calls Try.prog 10 #[.pointer (some ⟨B, 0, none⟩), .int .i64 c, .int .u64 x] w (Same w (.bool (isAt (f c.toNat) x))) := by
  have h16 := of_any h c
  cases hx : f c.toNat with
  | none =>
    rw [hx] at h16
    have H := Lib.hid h16
    clear h h16 hx
    rw [isAt_none]
    go_enter Try.func10, Try.ntmps10
    go_wp2_with (go_at_call 16; refine H.out.mono ?_; rintro e w' ⟨rfl, rfl⟩)
    go_ret
    exact ⟨rfl, rfl⟩
  | some y =>
    rw [hx] at h16
    have H := Lib.hid h16
    clear h h16 hx
    rw [isAt_some]
    go_enter Try.func10, Try.ntmps10
    go_wp2_with (go_at_call 16; refine H.out.mono ?_; rintro e w' ⟨rfl, rfl⟩)
    go_ret
    exact ⟨rfl, rfl⟩
theorem lose_out {so : Value} (h : Mon w B n f) (c : Int) (hc : ¬ (1 ≤ c ∧ c ≤ n)) :
    Calls Try.prog 20 #[.pointer (some ⟨B, 0, none⟩), .int .i64 c, so] w (Did w B n f (.int .i64 2)) := by
  have c0 := h.cell0
  have H : Hid (Mon w B n f) := h
  have Hc : Hid (¬ (1 ≤ c ∧ c ≤ n)) := hc
  clear h hc
  go_enter Try.func20, Try.ntmps20
  go_wp2_with (go_at_call 19; refine (core_out _ _ c0 Hc.out).mono ?_; rintro e w' ⟨rfl, rfl⟩)
  go_ret
  exact ⟨rfl, H.out, grown_refl _ _⟩
theorem lose_nil {so : Value} (c : Int) (w : World) :
    Calls Try.prog 20 #[.pointer none, .int .i64 c, so] w (Same w (.int .i64 1)) := by
  go_enter Try.func20, Try.ntmps20
  go_wp2_with (go_at_call 19; refine (core_nil _ _).mono ?_; rintro e w' ⟨rfl, rfl⟩)
  go_ret
  exact ⟨rfl, rfl⟩
theorem lose_any {bw : Nat} {g : FuncId} (hg : g = 21 ∨ g = 22) (p : Int → Bool) (h : Mon w B n f) (c : Int) (hbw : bw ≠ B) (hlw : bw < w.heap.size)
    (hp : ∀ (W : World) (x : Int), W.heap[bw]? = w.heap[bw]? → 0 ≤ x ∧ x ≤ 18446744073709551615 → Calls Try.prog g #[.int .u64 x, .pointer (some ⟨bw, 0, none⟩)] W fun e w' => e = .returned (.bool (p x)) ∧ W = w') :
    Calls Try.prog 20 #[.pointer (some ⟨B, 0, none⟩), .int .i64 c, .func (.func g) #[] #[.pointer (some ⟨bw, 0, none⟩)]] w (Did w B n (fLose n f c p) (.int .i64 (err n c))) := by
  by_cases hc : 1 ≤ c ∧ c ≤ n
  · obtain ⟨k, rfl⟩ := Int.eq_ofNat_of_zero_le (show 0 ≤ c by omega)
    unfold fLose err; rw [if_pos hc, if_pos hc]
    exact lose_in hg p h k (by omega) hc.2 hbw hlw hp
  · unfold fLose err; rw [if_neg hc, if_neg hc]
    exact lose_out h c hc

theorem wrote_any (h : Mon w B n f) (c x : Int) :
    Calls Try.prog 9 #[.pointer (some ⟨B, 0, none⟩), .int .i64 c, .int .u64 x] w (Did w B n (fLose n f c (wordIs x)) (.int .i64 (err n c))) := by
  have hlt := h.lt
  have H := Lib.hid h
  clear h
  go_enter Try.func9, Try.ntmps9
  have hmf : ∀ (fn : Fn) (first cap : Array Value) (w : World), (Instr.makeFunc fn first cap).run Try.prog w = .ok (.func fn first cap) w := fun _ _ _ _ => rfl
  go_wp2_with fail
  refine (lose_any (bw := w.heap.size) (.inl rfl) (wordIs x) (H.out.alloc _) c (by omega) (by simp) ?_).mono ?_
  · intro W y hW _
    exact wrote1 y x _ W (cell_of_one (hW.trans (Go.heap_alloc_new w _)))
  · rintro e w' ⟨rfl, hm, hgr⟩
    go_wp2
    go_ret
    exact ⟨rfl, hm, grown_trans (World.grownBy_alloc w _ _) hgr⟩

def errB (n c fr : Int) : Int := if 0 ≤ fr ∧ fr ≤ 1048576 then err n c else 2
def fBlock (n : Int) (f : Nat → Option Int) (c fr : Int) : Nat → Option Int := if 0 ≤ fr ∧ fr ≤ 1048576 then fLose n f c (frameIs fr) else f

theorem block_in (h : Mon w B n f) (c fr : Int) (hfr : 0 ≤ fr ∧ fr ≤ 1048576) :
    Calls Try.prog 11 #[.pointer (some ⟨B, 0, none⟩), .int .i64 c, .int .i64 fr] w (Did w B n (fLose n f c (frameIs fr)) (.int .i64 (err n c))) := by
  have hlt := h.lt
  have H := Lib.hid h
  have HF := Lib.hid hfr
  obtain ⟨f0, f1⟩ := hfr
  clear h
  have hmf : ∀ (fn : Fn) (first cap : Array Value) (w : World), (Instr.makeFunc fn first cap).run Try.prog w = .ok (.func fn first cap) w := fun _ _ _ _ => rfl
  go_enter Try.func11, Try.ntmps11
  go_wp2_with fail
  refine (lose_any (bw := w.heap.size) (.inr rfl) (frameIs fr) (H.out.alloc _) c (by omega) (by simp) ?_).mono ?_
  · intro W y hW hy
    exact block1 y fr _ W hy HF.out (cell_of_one (hW.trans (Go.heap_alloc_new w _)))
  · rintro e w' ⟨rfl, hm, hgr⟩
    go_wp2
    go_ret
    exact ⟨rfl, hm, grown_trans (World.grownBy_alloc w _ _) hgr⟩
theorem block_out (h : Mon w B n f) (c fr : Int) (hfr : ¬ (0 ≤ fr ∧ fr ≤ 1048576)) :
    Calls Try.prog 11 #[.pointer (some ⟨B, 0, none⟩), .int .i64 c, .int .i64 fr] w (Did w B n f (.int .i64 2)) := by
  have H := Lib.hid h
  clear h
  by_cases f0 : fr < 0
  · go_enter Try.func11, Try.ntmps11
    go_wp2_with fail
    go_ret
    exact ⟨rfl, H.out.alloc _, World.grownBy_alloc w _ _⟩
  · have f1 : 1048576 < fr := by omega
    clear hfr
    go_enter Try.func11, Try.ntmps11
    go_wp2_with fail
    go_ret
    exact ⟨rfl, H.out.alloc _, World.grownBy_alloc w _ _⟩
theorem block_any (h : Mon w B n f) (c fr : Int) :
    Calls Try.prog 11 #[.pointer (some ⟨B, 0, none⟩), .int .i64 c, .int .i64 fr] w (Did w B n (fBlock n f c fr) (.int .i64 (errB n c fr))) := by
  by_cases hfr : 0 ≤ fr ∧ fr ≤ 1048576
  · unfold fBlock errB; rw [if_pos hfr, if_pos hfr]
    exact block_in h c fr hfr
  · unfold fBlock errB; rw [if_neg hfr, if_neg hfr]
    exact block_out h c fr hfr
theorem core_any (h : Mon w B n f) (c : Int) :
    Calls Try.prog 19 #[.pointer (some ⟨B, 0, none⟩), .int .i64 c] w (Same w (.int .i64 (err n c))) := by
  by_cases hc : 1 ≤ c ∧ c ≤ n
  · unfold err; rw [if_pos hc]
    exact core_in c w h.cell0 hc
  · unfold err; rw [if_neg hc]
    exact core_out c w h.cell0 hc

/-- What an entry does: its error; the monitors behind it. -/
def errR (n c kd fr : Int) : Int := if kd = 0 then err n c else if kd = 2 ∨ kd = 3 then errB n c fr else if kd = 1 then err n c else 2
def fReach (n : Int) (f : Nat → Option Int) (c kd word fr : Int) : Nat → Option Int := if kd = 0 then fLose n f c (wordIs word) else if kd = 2 ∨ kd = 3 then fBlock n f c fr else f

theorem reach_any (h : Mon w B n f) (c kd word val from_ fr : Int) :
    Calls Try.prog 18 #[.pointer (some ⟨B, 0, none⟩), .int .i64 c, .agg #[.int .i8 kd, .int .u64 word, .int .u64 val, .int .i64 from_, .int .i64 fr]] w
      (Did w B n (fReach n f c kd word fr) (.int .i64 (errR n c kd fr))) := by
  have hlt := h.lt
  have H := Lib.hid h
  clear h
  unfold fReach errR
  by_cases k0 : kd = 0
  · subst k0
    rw [if_pos rfl, if_pos rfl]
    go_enter Try.func18, Try.ntmps18
    go_wp2_with fail
    refine (wrote_any (H.out.alloc _) c word).mono ?_
    rintro e w' ⟨rfl, hm, hgr⟩
    have HM := Lib.hid hm
    clear hm
    go_wp2
    go_ret
    exact ⟨rfl, HM.out, grown_trans (World.grownBy_alloc w _ _) hgr⟩
  · rw [if_neg k0, if_neg k0]
    by_cases k2 : kd = 2
    · subst k2
      rw [if_pos (.inl rfl), if_pos (.inl rfl)]
      clear k0
      go_enter Try.func18, Try.ntmps18
      go_wp2_with fail
      refine (block_any (H.out.alloc _) c fr).mono ?_
      rintro e w' ⟨rfl, hm, hgr⟩
      have HM := Lib.hid hm
      clear hm
      go_wp2
      go_ret
      exact ⟨rfl, HM.out, grown_trans (World.grownBy_alloc w _ _) hgr⟩
    · by_cases k3 : kd = 3
      · subst k3
        rw [if_pos (.inr rfl), if_pos (.inr rfl)]
        clear k0 k2
        go_enter Try.func18, Try.ntmps18
        go_wp2_with fail
        refine (block_any (H.out.alloc _) c fr).mono ?_
        rintro e w' ⟨rfl, hm, hgr⟩
        have HM := Lib.hid hm
        clear hm
        go_wp2
        go_ret
        exact ⟨rfl, HM.out, grown_trans (World.grownBy_alloc w _ _) hgr⟩
      · rw [if_neg (by omega), if_neg (by omega)]
        by_cases k1 : kd = 1
        · subst k1
          rw [if_pos rfl]
          clear k0 k2 k3
          go_enter Try.func18, Try.ntmps18
          go_wp2_with fail
          refine (core_any (H.out.alloc _) c).mono ?_
          rintro e w' ⟨rfl, rfl⟩
          go_wp2
          go_ret
          exact ⟨rfl, H.out.alloc _, World.grownBy_alloc w _ _⟩
        · rw [if_neg k1]
          have e0 : (kd == 0) = false := by simpa using k0
          have e1 : (kd == 1) = false := by simpa using k1
          have e2 : (kd == 2) = false := by simpa using k2
          have e3 : (kd == 3) = false := by simpa using k3
          clear k0 k1 k2 k3
          go_enter Try.func18, Try.ntmps18
          go_wp2_with fail
          go_ret
          exact ⟨rfl, H.out.alloc _, World.grownBy_alloc w _ _⟩
end Go.Proofs.Ytpcihiggmbidmaa
