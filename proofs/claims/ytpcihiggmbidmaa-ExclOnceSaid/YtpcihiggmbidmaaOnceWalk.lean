/- The walk of the law ExclOnce: it returns true and turns nothing that was there. -/
import Derived.Test.YtpcihiggmbidmaaRowsOf
import Derived.Test.YtpcihiggmbidmaaAloneWalk
namespace Go.Proofs.Ytpcihiggmbidmaa
open Go.RowKit
/-- Whose monitor is still the word, counted last. -/
def Inv (f : Nat → Option Int) (rd : Nat → Int) (cnt : Int) : Prop := ∀ c, isAt (f c) 40 = true → rd c = cnt

theorem nine_false : ∀ i, i < (#[.bool false, .bool false, .bool false, .bool false, .bool false, .bool false, .bool false, .bool false, .bool false] : Array Value).size → (#[.bool false, .bool false, .bool false, .bool false, .bool false, .bool false, .bool false, .bool false, .bool false] : Array Value)[i]? = some (.bool ((fun _ => false) i)) := by
  intro i hi
  match i, hi with
  | 0, _ => rfl
  | 1, _ => rfl
  | 2, _ => rfl
  | 3, _ => rfl
  | 4, _ => rfl
  | 5, _ => rfl
  | 6, _ => rfl
  | 7, _ => rfl
  | 8, _ => rfl
theorem nine_zero : ∀ i, i < (#[.int .i64 0, .int .i64 0, .int .i64 0, .int .i64 0, .int .i64 0, .int .i64 0, .int .i64 0, .int .i64 0, .int .i64 0] : Array Value).size → (#[.int .i64 0, .int .i64 0, .int .i64 0, .int .i64 0, .int .i64 0, .int .i64 0, .int .i64 0, .int .i64 0, .int .i64 0] : Array Value)[i]? = some (.int .i64 ((fun _ => 0) i)) := by
  intro i hi
  match i, hi with
  | 0, _ => rfl
  | 1, _ => rfl
  | 2, _ => rfl
  | 3, _ => rfl
  | 4, _ => rfl
  | 5, _ => rfl
  | 6, _ => rfl
  | 7, _ => rfl
  | 8, _ => rfl

def OnceRel (w : World) (X H R : Nat) (q : Nat) (wr : World) : Prop :=
  ∃ (f : Nat → Option Int) (has : Nat → Bool) (rd : Nat → Int), Mon wr X 8 f ∧ wr.rowIs H 33 9 (fun j => .bool (has j)) ∧ wr.rowIs R 34 9 (fun j => .int .i64 (rd j)) ∧ Below w.heap.size w wr ∧ Inv f rd q

theorem once_off {w wr : World} {X H R c : Nat} {f : Nat → Option Int} {has : Nat → Bool} {rd : Nat → Int} (hm : Mon wr X 8 f) (hH : wr.rowIs H 33 9 (fun j => .bool (has j))) (hR : wr.rowIs R 34 9 (fun j => .int .i64 (rd j))) (hb : Below w.heap.size w wr) (hw : w.heap.size ≤ H) (b : Bool) :
    Mon (wr.setCell ⟨H, c, none⟩ (.bool b)) X 8 f ∧ (wr.setCell ⟨H, c, none⟩ (.bool b)).rowIs H 33 9 (fun j => .bool (if j = c then b else has j)) ∧ (wr.setCell ⟨H, c, none⟩ (.bool b)).rowIs R 34 9 (fun j => .int .i64 (rd j)) ∧ Below w.heap.size w (wr.setCell ⟨H, c, none⟩ (.bool b)) := by
  have hne : R ≠ H := by
    rintro rfl
    obtain ⟨c1, h1, _⟩ := hH
    obtain ⟨c2, h2, _⟩ := hR
    rw [h1] at h2
    simp at h2
  refine ⟨hm.far hH (by omega) (by omega) c _, (hH.set c _).congr fun i _ => ?_, hR.setOther hne _, hb.setCell hw _⟩
  show (if i = c then Value.bool b else .bool (has i)) = .bool (if i = c then b else has i)
  split <;> rfl

theorem once_read {w wr : World} {X H R c : Nat} {f : Nat → Option Int} {has : Nat → Bool} {rd : Nat → Int} (hm : Mon wr X 8 f) (hH : wr.rowIs H 33 9 (fun j => .bool (has j))) (hR : wr.rowIs R 34 9 (fun j => .int .i64 (rd j))) (hb : Below w.heap.size w wr) (hw : w.heap.size ≤ R) (x : Int) :
    Mon (wr.setCell ⟨R, c, none⟩ (.int .i64 x)) X 8 f ∧ (wr.setCell ⟨R, c, none⟩ (.int .i64 x)).rowIs H 33 9 (fun j => .bool (has j)) ∧ (wr.setCell ⟨R, c, none⟩ (.int .i64 x)).rowIs R 34 9 (fun j => .int .i64 (if j = c then x else rd j)) ∧ Below w.heap.size w (wr.setCell ⟨R, c, none⟩ (.int .i64 x)) := by
  have hne : H ≠ R := by
    rintro rfl
    obtain ⟨c1, h1, _⟩ := hH
    obtain ⟨c2, h2, _⟩ := hR
    rw [h1] at h2
    simp at h2
  refine ⟨hm.far hR (by omega) (by omega) c _, hH.setOther hne _, (hR.set c _).congr fun i _ => ?_, hb.setCell hw _⟩
  show (if i = c then Value.int .i64 x else .int .i64 (rd i)) = .int .i64 (if i = c then x else rd i)
  split <;> rfl

theorem inv_set {f : Nat → Option Int} {rd : Nat → Int} {q : Int} (h : Inv f rd q) (c : Nat) (h1 : 1 ≤ c) (h8 : c ≤ 8) : Inv (fSet 8 f c 40) (fun j => if j = c then q else rd j) q := by
  intro d hd
  show (if d = c then q else rd d) = q
  unfold fSet at hd
  rw [if_pos (by omega), Int.toNat_natCast] at hd
  by_cases e : d = c
  · rw [if_pos e]
  · rw [if_neg e]
    unfold upd at hd
    rw [if_neg e] at hd
    exact h d hd
theorem inv_wrote (f : Nat → Option Int) (c : Nat) (h1 : 1 ≤ c) (h8 : c ≤ 8) (rd : Nat → Int) (q : Int) : Inv (fClear 8 (fLose 8 f c (wordIs 40)) c) rd q := by
  intro d hd
  unfold fClear fLose at hd
  rw [if_pos (by omega), if_pos (by omega), Int.toNat_natCast] at hd
  unfold upd pLose at hd
  by_cases e : d = c
  · rw [if_pos e] at hd
    cases hd
  · rw [if_neg e, if_neg e] at hd
    cases hf : f d with
    | none => rw [hf] at hd; cases hd
    | some y =>
      rw [hf] at hd
      by_cases hy : 40 = y
      · subst hy; simp [wordIs, Option.filter, isAt] at hd
      · have h2 : y ≠ 40 := fun h => hy h.symm
        simp [wordIs, Option.filter, isAt, h2] at hd

set_option maxHeartbeats 400000 in
theorem once_walk (A : Option Addr) (len cap : Nat) (z : Nat → Int) (w : World) (hl : Elems w w.heap.size A len (fun i => .int .i64 (z i))) (hz : ∀ i, -9223372036854775808 ≤ z i ∧ z i ≤ 9223372036854775807) :
    Calls Try.prog 4 #[.slice A len cap] w (Nil w (.bool true)) := by
  by_cases hlen : 300 < len
  · clear hl hz
    go_enter Try.func4, Try.ntmps4
    go_wp2_with fail
    refine (wakes_true _).mono ?_
    rintro e w1 ⟨rfl, h1⟩
    go_wp2_with fail
    go_ret
    exact ⟨rfl, h1⟩
  · have HL := Lib.hid hl
    have HZ := Lib.hid hz
    clear hl hz
    go_enter Try.func4, Try.ntmps4
    go_wp2_with fail
    refine (new_in 8 w (by omega) (by omega)).mono ?_
    rintro e w1 ⟨rfl, hm1, hg1⟩
    have H1 := Lib.hid hm1
    have hs1 := hm1.lt
    clear hm1
    go_wp2_with fail
    have hH := World.rowIs_alloc w1 (#[.bool false, .bool false, .bool false, .bool false, .bool false, .bool false, .bool false, .bool false, .bool false] : Array Value) 33 (fun _ => .bool false) nine_false
    have hR := World.rowIs_alloc (w1.alloc (.cells (#[.bool false, .bool false, .bool false, .bool false, .bool false, .bool false, .bool false, .bool false, .bool false] : Array Value) 33)) (#[.int .i64 0, .int .i64 0, .int .i64 0, .int .i64 0, .int .i64 0, .int .i64 0, .int .i64 0, .int .i64 0, .int .i64 0] : Array Value) 34 (fun _ => .int .i64 0) nine_zero
    rw [World.size_alloc] at hR
    have HST : Hid (OnceRel w w.heap.size w1.heap.size (w1.heap.size + 1) 0 ((w1.alloc (.cells (#[.bool false, .bool false, .bool false, .bool false, .bool false, .bool false, .bool false, .bool false, .bool false] : Array Value) 33)).alloc (.cells (#[.int .i64 0, .int .i64 0, .int .i64 0, .int .i64 0, .int .i64 0, .int .i64 0, .int .i64 0, .int .i64 0, .int .i64 0] : Array Value) 34))) :=
      ⟨fun _ => none, fun _ => false, fun _ => 0, (H1.out.alloc _).alloc _, hH.alloc _, hR, below_of_grown (grown_trans hg1 (grown_trans (World.grownBy_alloc _ _ _) (World.grownBy_alloc _ _ _))), fun c hc => by simp [isAt] at hc⟩
    clear hH hR
    go_loopw [7, 8, 9] (fun cn wn i wr => ∃ k : Nat, k ≤ len ∧ i = .int .i64 k ∧ ∃ q : Nat, q ≤ k ∧ cn = .int .i64 q ∧ wn = .int .i64 q ∧ OnceRel w w.heap.size w1.heap.size (w1.heap.size + 1) q wr) (fun _ _ i _ => len - (intOf i).toNat)
    case atStart => exact ⟨0, by omega, rfl, 0, by omega, rfl, rfl, HST.out⟩
    case round =>
      obtain ⟨k, hk, rfl, q, hq, rfl, rfl, f, has, rd, hm, hH, hR, hb, hinv⟩ := hrel
      clear HST
      by_cases hkl : k < len
      · obtain ⟨b, off, rfl, hbw, hcell⟩ := HL.out (by omega)
        have hcx : wr.cell? ⟨b, off + k, none⟩ = some (.int .i64 (z k)) := (hb.cell (p := ⟨b, off + k, none⟩) hbw).trans (hcell k hkl)
        have hz1 := HZ.out k
        have t1 := tmod_bd (z k) 8 (by omega)
        obtain ⟨c, hc⟩ : ∃ c : Nat, 1 + (z k).tmod 8 % 8 = (c : Int) := ⟨(1 + (z k).tmod 8 % 8).toNat, by omega⟩
        have c1 : 1 ≤ c := by omega
        have c2 : c ≤ 8 := by omega
        have cH := hH.cell (i := c) (by omega)
        have fH := hH.frozen c
        have cR := hR.cell (i := c) (by omega)
        have fR := hR.frozen c
        have HM := Lib.hid hm
        have HH := Lib.hid hH
        have HR := Lib.hid hR
        have HB := Lib.hid hb
        have HI := Lib.hid hinv
        clear hm hH hR hb hinv hcell
        by_cases hhas : has c = true
        · rw [hhas] at cH
          clear hhas
          have hfar := Lib.hid (once_off (c := c) HM.out HH.out HR.out HB.out (by omega) false)
          by_cases his : isAt (f c) 40 = true
          · have hrd := HI.out c his
            rw [hrd] at cR
            have HIS := Lib.hid his
            have HRD := Lib.hid hrd
            have cR0 := hfar.out.2.2.1.cell (i := c) (by omega)
            rw [hrd] at cR0
            clear his hrd
            have hq300 : q ≤ 300 := by omega
            go_wp2_with (go_at_call 10; refine (is_any hfar.out.1 c 40).mono ?_; rintro e w' ⟨rfl, rfl⟩; rw [Int.toNat_natCast, HIS.out])
            refine (wrote_any hfar.out.1 c 40).mono ?_
            rintro e w2 ⟨rfl, hm2, hg2⟩
            rw [err_in ⟨by omega, by omega⟩]
            have HM2 := Lib.hid hm2
            have HG2 := Lib.hid hg2
            clear hm2 hg2
            go_wp2_with fail
            refine (clear_any HM2.out c).mono ?_
            rintro e w3 ⟨rfl, hm3, hg3⟩
            rw [err_in ⟨by omega, by omega⟩]
            have hg := grown_trans HG2.out hg3
            have hH3 := row_kept hfar.out.2.1 hg (by omega)
            have hR3 := row_kept hfar.out.2.2.1 hg (by omega)
            have hb3 := hfar.out.2.2.2.grown hg (by have := hfar.out.2.2.2.size; omega) (fun j hj => by cases hj; omega)
            have cR3 := hR3.cell (i := c) (by omega)
            rw [HRD.out] at cR3
            have HM3 := Lib.hid hm3
            have HH3 := Lib.hid hH3
            have HR3 := Lib.hid hR3
            have HB3 := Lib.hid hb3
            clear hm3 hg3 hg hH3 hR3 hb3 cR0
            go_wp2_with fail
            go_roundw
            case rel => exact ⟨k + 1, by omega, by go_num, q + 1, by omega, by go_num, by go_num, _, _, _, HM3.out, HH3.out, HR3.out, HB3.out, inv_wrote f c (by omega) (by omega) _ _⟩
            case measure => simp [intOf]; omega
          · have hi0 : isAt (f c) 40 = false := by simpa using his
            have HIS := Lib.hid hi0
            clear his hi0
            go_wp2_with (go_at_call 10; refine (is_any hfar.out.1 c 40).mono ?_; rintro e w' ⟨rfl, rfl⟩; rw [Int.toNat_natCast, HIS.out])
            go_roundw
            case rel => exact ⟨k + 1, by omega, by go_num, q, by omega, rfl, rfl, f, _, rd, hfar.out.1, hfar.out.2.1, hfar.out.2.2.1, hfar.out.2.2.2, HI.out⟩
            case measure => simp [intOf]; omega
        · have e0 : has c = false := by simpa using hhas
          rw [e0] at cH
          clear hhas
          go_wp2_with fail
          refine (set_any HM.out c 40 (by omega)).mono ?_
          rintro e w2 ⟨rfl, hm2, hg2⟩
          rw [err_in ⟨by omega, by omega⟩]
          have hH2 := row_kept HH.out hg2 (by omega)
          have hR2 := row_kept HR.out hg2 (by omega)
          have hb2 := HB.out.grown hg2 (by have := HB.out.size; omega) (fun j hj => by cases hj; omega)
          have cH2 := hH2.cell (i := c) (by omega)
          have fH2 := hH2.frozen c
          have cR2 := hR2.cell (i := c) (by omega)
          have fR2 := hR2.frozen c
          have HM2 := Lib.hid hm2
          have HH2 := Lib.hid hH2
          have HR2 := Lib.hid hR2
          have HB2 := Lib.hid hb2
          clear hm2 hH2 hR2 hg2 hb2
          go_wp2_with fail
          have hst := once_read (c := c) HM2.out HH2.out HR2.out HB2.out (by omega) q
          have hst2 := once_off (c := c) hst.1 hst.2.1 hst.2.2.1 hst.2.2.2 (by omega) true
          have HST := Lib.hid hst2
          clear hst hst2
          go_roundw
          case rel => exact ⟨k + 1, by omega, by go_num, q, by omega, rfl, rfl, _, _, _, HST.out.1, HST.out.2.1, HST.out.2.2.1, HST.out.2.2.2, inv_set HI.out c (by omega) (by omega)⟩
          case measure => simp [intOf]; omega
      · have hkl' : k = len := by omega
        have HK := Lib.hid hkl'
        have HB := Lib.hid hb
        clear hm hH hR hb hinv hkl'
        go_wp2_with fail
        refine (wakes_true _).mono ?_
        rintro e w2 ⟨rfl, h2⟩
        go_wp2_with fail
        go_ret
        exact ⟨rfl, grown_of_below (HB.out.trans ((below_of_grown h2).mono HB.out.size))⟩
end Go.Proofs.Ytpcihiggmbidmaa
