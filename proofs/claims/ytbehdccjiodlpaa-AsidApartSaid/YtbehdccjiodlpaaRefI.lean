/- The walk of the reference's Ask. -/
import Derived.Test.YtbehdccjiodlpaaRefH
namespace Go.Proofs.Ytbehdccjiodlpaa
open Go.RowKit
variable {w w' : World} {G R S n : Nat} {a : Int} {h : Nat → Int}

theorem rask_bad (s : Int) (hs : ¬ (1 ≤ s ∧ s ≤ 6)) (A : Option Addr) (len cap : Nat) (w : World) :
    Calls Try.prog 16 #[.pointer (some ⟨R, 0, none⟩), .int .i64 s, .slice A len cap] w (Same w (.tuple #[.int .i64 0, .bool false, .int .i64 2])) := by
  by_cases h1 : s < 1
  · clear hs
    go_enter Try.func16, Try.ntmps16
    go_wp2_with fail
    go_ret3
    exact ⟨rfl, rfl⟩
  · have h6 : 6 < s := by omega
    clear hs
    go_enter Try.func16, Try.ntmps16
    go_wp2_with fail
    go_ret3
    exact ⟨rfl, rfl⟩
theorem rask_has (H : RGv w R S n a h) (s : Int) (hs : 1 ≤ s ∧ s ≤ 6) (h1 : 0 < find h n s) (A : Option Addr) (len cap : Nat) :
    Calls Try.prog 16 #[.pointer (some ⟨R, 0, none⟩), .int .i64 s, .slice A len cap] w (Same w (.tuple #[.int .i64 (find h n s), .bool false, .int .i64 0])) := by
  have ho : ofF h n s = find h n s := if_pos hs
  have HF := rof_any H s
  rw [ho, decide_eq_true h1] at HF
  have HF := Lib.hid HF
  clear H ho h1
  generalize find h n s = j at HF ⊢
  go_enter Try.func16, Try.ntmps16
  go_wp2_with (go_at_call 17; refine HF.out.mono ?_; rintro e w' ⟨rfl, rfl⟩)
  go_ret3
  exact ⟨rfl, rfl⟩
theorem rask_free (H : RGv w R S n a h) (s : Int) (hs : 1 ≤ s ∧ s ≤ 6) (h1 : find h n s = 0) (h0 : 0 < find h n 0) (A : Option Addr) (len cap : Nat) :
    Calls Try.prog 16 #[.pointer (some ⟨R, 0, none⟩), .int .i64 s, .slice A len cap] w (DidR w R S n a (updH h (find h n 0) s) (.tuple #[.int .i64 (find h n 0), .bool false, .int .i64 0])) := by
  have ho : ofF h n s = 0 := (if_pos hs).trans h1
  have HF := rof_any H s
  rw [ho, decide_eq_false (by omega)] at HF
  have HF := Lib.hid HF
  have HC := Lib.hid (rfree_any H)
  have hcz := (cz_find h n).2 h0
  have hcl := cz_le h n
  have hn := H.n16
  have HL := Lib.hid (least_any H s h0)
  have HH := Lib.hid H
  clear H ho h1 h0
  generalize cz h n = c at HC hcz hcl
  generalize find h n 0 = j at HL ⊢
  go_enter Try.func16, Try.ntmps16
  go_wp2_with (first | (go_at_call 17; refine HF.out.mono ?_; rintro e w' ⟨rfl, rfl⟩) | (go_at_call 19; refine HC.out.mono ?_; rintro e w' ⟨rfl, rfl⟩) | (go_at_call 25; refine HL.out.mono ?_; rintro e w' ⟨rfl, rfl⟩))
  go_ret3
  exact ⟨rfl, S, Keep.setS _ _ _ _ _, .inl rfl, HH.out.set j s⟩

/-- Who keeps what. -/
def kf (h z : Nat → Int) (n len : Nat) : Nat → Int := fun j => if (mk z n len).testBit j = true then h j else 0
def ks (h z : Nat → Int) (n len q : Nat) : Nat → Int := fun j => if j ≤ q then kf h z n len j else 0
def kin (h z : Nat → Int) (n len q r : Nat) : Nat → Int := fun j => if j = q + 1 then (if (mk z n r).testBit (q + 1) = true then h (q + 1) else 0) else ks h z n len q j
def anyZ (f : Nat → Int) : Nat → Bool
  | 0 => false
  | q + 1 => anyZ f q || (f (q + 1) == 0)
theorem bit0 (z : Nat → Int) (n q : Nat) : (mk z n q).testBit 0 = false := by
  cases hc : (mk z n q).testBit 0
  · rfl
  · have := ((mk_bit z n q 0).1 hc).1
    omega
theorem ks_0 (h z : Nat → Int) (n len : Nat) (j : Nat) : ks h z n len 0 j = 0 := by
  unfold ks kf
  by_cases e : j ≤ 0
  · rw [if_pos e, show j = 0 from by omega, bit0]
    rfl
  · rw [if_neg e]
theorem kin_0 (h z : Nat → Int) (n len q : Nat) (j : Nat) : kin h z n len q 0 j = ks h z n len q j := by
  unfold kin
  by_cases e : j = q + 1
  · subst e
    rw [if_pos rfl]
    show (if (0 : Nat).testBit (q + 1) = true then h (q + 1) else 0) = _
    rw [Nat.zero_testBit]
    show _ = (if q + 1 ≤ q then kf h z n len (q + 1) else 0)
    rw [if_neg (show ¬ q + 1 ≤ q by omega)]
    rfl
  · rw [if_neg e]
theorem kin_len (h z : Nat → Int) (n len q : Nat) (j : Nat) : kin h z n len q len j = ks h z n len (q + 1) j := by
  unfold kin
  by_cases e : j = q + 1
  · subst e
    rw [if_pos rfl]
    unfold ks kf
    rw [if_pos (Nat.le_refl _)]
  · rw [if_neg e]
    unfold ks
    by_cases c : j ≤ q
    · rw [if_pos c, if_pos (by omega)]
    · rw [if_neg c, if_neg (by omega)]
theorem bit_hit (z : Nat → Int) (n r q : Nat) (hq : q + 1 ≤ n) (hz : z r = ((q + 1 : Nat) : Int)) : (mk z n (r + 1)).testBit (q + 1) = true :=
  (mk_bit z n (r + 1) (q + 1)).2 ⟨by omega, hq, r, by omega, hz⟩
theorem bit_miss (z : Nat → Int) (n r q : Nat) (hz : ¬ z r = ((q + 1 : Nat) : Int)) : (mk z n (r + 1)).testBit (q + 1) = (mk z n r).testBit (q + 1) := by
  have h1 := mk_bit z n (r + 1) (q + 1)
  have h2 := mk_bit z n r (q + 1)
  have : Runs z n (r + 1) (q + 1) ↔ Runs z n r (q + 1) := by
    constructor
    · rintro ⟨a1, a2, k, hk, e⟩
      refine ⟨a1, a2, k, ?_, e⟩
      by_cases ek : k = r
      · subst ek; exact absurd e hz
      · omega
    · rintro ⟨a1, a2, k, hk, e⟩
      exact ⟨a1, a2, k, by omega, e⟩
  rw [this, ← h2] at h1
  exact Bool.eq_iff_iff.2 h1
theorem anyZ_iff (f : Nat → Int) : ∀ n, (anyZ f n = true ↔ ∃ j, 1 ≤ j ∧ j ≤ n ∧ f j = 0)
  | 0 => by
    unfold anyZ
    constructor
    · intro h; cases h
    · rintro ⟨j, h1, h2, _⟩; omega
  | n + 1 => by
    unfold anyZ
    rw [Bool.or_eq_true, anyZ_iff f n, beq_iff_eq]
    constructor
    · rintro (⟨j, h1, h2, h3⟩ | h)
      · exact ⟨j, h1, by omega, h3⟩
      · exact ⟨n + 1, by omega, by omega, h⟩
    · rintro ⟨j, h1, h2, h3⟩
      by_cases e : j = n + 1
      · subst e; exact .inr h3
      · exact .inl ⟨j, h1, by omega, h3⟩
/-- One is free just if not all run. -/
theorem any_full (h z : Nat → Int) (n len : Nat) (hh : ∀ j, 1 ≤ j → j ≤ n → h j ≠ 0) : anyZ (kf h z n len) n = true ↔ mk z n len ≠ 2 ^ (n + 1) - 2 := by
  rw [anyZ_iff, ne_eq, mk_full]
  constructor
  · rintro ⟨j, h1, h2, h3⟩ hall
    unfold kf at h3
    rw [if_pos ((mk_bit z n len j).2 (hall j h1 h2))] at h3
    exact hh j h1 h2 h3
  · intro hn
    refine Classical.byContradiction fun hc => hn fun i h1 h2 => ?_
    refine (mk_bit z n len i).1 ?_
    cases hb : (mk z n len).testBit i
    · refine absurd ⟨i, h1, h2, ?_⟩ hc
      unfold kf
      rw [hb]
      rfl
    · rfl
theorem ks_clr (h z : Nat → Int) (n len : Nat) (h0 : h 0 = 0) (j : Nat) (hj : j ≤ n) : ks h z n len n j = clr h (mk z n len) (n + 1) j := by
  unfold ks kf clr
  rw [if_pos hj]
  by_cases hb : (mk z n len).testBit j = true
  · rw [if_pos hb, if_neg (fun c => by rw [hb] at c; exact absurd c.2.2 (by simp))]
  · rw [if_neg hb]
    by_cases j0 : j = 0
    · subst j0
      rw [if_neg (by omega), h0]
    · rw [if_pos ⟨by omega, by omega, by simpa using hb⟩]

/-- The row that was kept, in the old one's place, a year later. -/
theorem RGv.swap {K : Nat} {h' : Nat → Int} (H : RGv w R S n a h) (hK : w.rowIs K 3 (n + 1) (fun j => .int .i64 (h' j))) :
    RGv ((w.setCell ⟨R, 0, none⟩ (.slice (some ⟨K, 0, none⟩) (n + 1) (n + 1))).setCell ⟨R, 1, none⟩ (.int .i64 (a + 1))) R K n (a + 1) h' := by
  have hne : K ≠ R := by
    rintro rfl
    obtain ⟨_, b, _⟩ := hK
    rw [H.hR] at b
    simp at b
  refine ⟨H.n2, H.n16, ?_, hK.of_block ((heap_setCell_other _ ⟨R, 1, none⟩ K _ hne).trans (heap_setCell_other w ⟨R, 0, none⟩ K _ hne))⟩
  have hlt := H.ltR
  have h0 : w.heap[R] = .cells #[.slice (some ⟨S, 0, none⟩) (n + 1) (n + 1), .int .i64 a] 47 (0, 0) := by
    have := H.hR
    rw [Array.getElem?_eq_getElem hlt] at this
    exact Option.some.inj this
  simp [World.setCell, hlt, h0, Array.getElem_modify]
def RAskP (w : World) (R S n : Nat) (a : Int) (h : Nat → Int) (s : Int) (m : Nat) (e : Ending) (w' : World) : Prop :=
  if m = 2 ^ (n + 1) - 2 then DidR w R S n a h (.tuple #[.int .i64 0, .bool false, .int .i64 20]) e w'
  else DidR w R S n (a + 1) (updH (clr h m (n + 1)) (find (clr h m (n + 1)) n 0) s) (.tuple #[.int .i64 (find (clr h m (n + 1)) n 0), .bool true, .int .i64 0]) e w'

set_option maxRecDepth 10000 in
set_option maxHeartbeats 4000000 in
theorem rask_full (H : RGv w R S n a h) (s : Int) (hs : 1 ≤ s ∧ s ≤ 6) (h1 : find h n s = 0) (h0 : find h n 0 = 0) (A : Option Addr) (len cap : Nat) (z : Nat → Int) (hl : Elems w w.heap.size A len (fun i => .int .i64 (z i))) (hlen : len ≤ 20) (ha : 0 ≤ a ∧ a ≤ 1000000) (h00 : h 0 = 0) :
    Calls Try.prog 16 #[.pointer (some ⟨R, 0, none⟩), .int .i64 s, .slice A len cap] w (RAskP w R S n a h s (mk z n len)) := by
  have ho : ofF h n s = 0 := (if_pos hs).trans h1
  have HF := rof_any H s
  rw [ho, decide_eq_false (by omega)] at HF
  have HF := Lib.hid HF
  have hcz : cz h n = 0 := by
    have := cz_find h n
    omega
  have HC := rfree_any H
  rw [hcz] at HC
  have HC := Lib.hid HC
  have hn := H.n16
  have HH := Lib.hid H
  have HL := Lib.hid hl
  have hall : ∀ j, 1 ≤ j → j ≤ n → h j ≠ 0 := by
    rcases find_spec (h := h) (n := n) 0 with ⟨_, hno⟩ | ⟨b1, _⟩
    · exact hno
    · omega
  have HANY := Lib.hid (any_full h z n len hall)
  have HFREE := Lib.hid (clr_free h z n len)
  have HKC := Lib.hid (ks_clr h z n len h00)
  clear hall
  have c0 := H.cellR
  have hmk : (Instr.makeSlice 30 (.int .i64 ((n : Int) + 1)) (.int .i64 ((n : Int) + 1))).run Try.prog w = .ok (.slice (some ⟨w.heap.size, 0, none⟩) (n + 1) (n + 1)) (w.alloc (.cells (madeCells #[.int .i64 0] (n + 1)) 3)) :=
    run_make_row' (P := Try.prog) 30 3 (.int .i64 0) 8 Try.underlying30 (by kernel_rfl) rfl .i64 .i64 (n + 1) (by omega) (by omega) w
  clear H ho h1 h0 hl hcz
  go_enter Try.func16, Try.ntmps16
  go_wp2_with (first | (go_at_call 17; refine HF.out.mono ?_; rintro e w' ⟨rfl, rfl⟩) | (go_at_call 19; refine HC.out.mono ?_; rintro e w' ⟨rfl, rfl⟩))
  have hrow0 := World.rowIs_made w' (.int .i64 0) (n + 1) 3
  have hKR : RGv (w'.alloc (.cells (madeCells #[.int .i64 0] (n + 1)) 3)) R S n a h := HH.out.of_block (Below.heap_alloc _ _ _ HH.out.ltR) (Below.heap_alloc _ _ _ HH.out.ltS)
  have HROW := Lib.hid (hrow0.congr (fun j _ => by rw [ks_0 h z n len j]) : (w'.alloc (.cells (madeCells #[.int .i64 0] (n + 1)) 3)).rowIs w'.heap.size 3 (n + 1) (fun j => .int .i64 (ks h z n len 0 j)))
  have HG0 := Lib.hid hKR
  have hgr0 := Lib.hid (World.grownBy_alloc w' (.cells (madeCells #[.int .i64 0] (n + 1)) 3) none)
  have hKS := HH.out.ltS
  have hKRl := HH.out.ltR
  clear hrow0 hKR hmk HF HC
  go_loopw [12, 13] (fun f i wr => ∃ q : Nat, q ≤ n ∧ i = .int .i64 ((q : Int) + 1) ∧ f = .bool (anyZ (kf h z n len) q) ∧ wr.rowIs w'.heap.size 3 (n + 1) (fun j => .int .i64 (ks h z n len q j)) ∧ RGv wr R S n a h ∧ w'.grownBy wr none) (fun _ i _ => n + 2 - (intOf i).toNat)
  case atStart => exact ⟨0, by omega, rfl, rfl, HROW.out, HG0.out, hgr0.out⟩
  case round =>
    obtain ⟨q, hq, rfl, rfl, hrow, hG, hgr⟩ := hrel
    clear HROW HG0 hgr0 c0
    have HROW := Lib.hid hrow
    have HG := Lib.hid hG
    have HGR := Lib.hid hgr
    have c0 := hG.cellR
    clear hrow hG hgr
    by_cases hqn : (q : Int) + 1 ≤ n
    · go_wp2_with fail
      go_loopw [14] (fun i wx => ∃ r : Nat, r ≤ len ∧ i = .int .i64 r ∧ wx.rowIs w'.heap.size 3 (n + 1) (fun j => .int .i64 (kin h z n len q r j)) ∧ RGv wx R S n a h ∧ w'.grownBy wx none) (fun i _ => len - (intOf i).toNat)
      case atStart => exact ⟨0, by omega, rfl, HROW.out.congr (fun j _ => by rw [kin_0]), HG.out, HGR.out⟩
      case round =>
        obtain ⟨r, hr, rfl, hrow, hG, hgr⟩ := hrel
        clear HROW HG HGR c0
        have HROW := Lib.hid hrow
        have HG := Lib.hid hG
        have HGR := Lib.hid hgr
        have c0 := hG.cellR
        have hKlt := hrow.lt
        clear hrow hG hgr
        by_cases hrl : (r : Int) < len
        · obtain ⟨b, off, rfl, hbw, hcell⟩ := HL.out (by omega)
          have hcx := (World.cell?_of_block (HGR.out.block b hbw (by simp))).trans (hcell r (by omega))
          have hcx' : _ = some (Value.int .i64 (z r)) := hcx
          clear hcell hcx
          by_cases hz : z r = (q : Int) + 1
          · rw [hz] at hcx'
            have hz' : z r = ((q + 1 : Nat) : Int) := by omega
            have HB := Lib.hid (bit_hit z n r q (by omega) hz')
            have cS := HG.out.cellH (q + 1) (by omega)
            have cK := HROW.out.cell (i := q + 1) (by omega)
            have fK := HROW.out.frozen (q + 1)
            clear hz hz'
            go_wp2_with fail
            go_roundw
            case rel => exact ⟨r + 1, by omega, by go_num, (HROW.out.set (q + 1) (.int .i64 (h (q + 1)))).congr (fun j _ => by
              show (if j = q + 1 then Value.int .i64 (h (q + 1)) else Value.int .i64 (kin h z n len q r j)) = Value.int .i64 (kin h z n len q (r + 1) j)
              unfold kin
              by_cases e : j = q + 1
              · rw [if_pos e, if_pos e, if_pos HB.out]
              · rw [if_neg e, if_neg e, if_neg e]), HG.out.of_block (heap_setCell_other _ ⟨w'.heap.size, q + 1, none⟩ R _ (by show R ≠ w'.heap.size; omega)) (heap_setCell_other _ ⟨w'.heap.size, q + 1, none⟩ S _ (by show S ≠ w'.heap.size; omega)), ⟨HGR.out.os, HGR.out.tape, HGR.out.output, by simpa using HGR.out.size, fun i hi _ => (heap_setCell_other _ ⟨w'.heap.size, q + 1, none⟩ i _ (by show i ≠ w'.heap.size; omega)).trans (HGR.out.block i hi (by simp))⟩⟩
            case measure => simp [intOf]; omega
          · have HB := Lib.hid (bit_miss z n r q (by omega))
            have hne : (z r == (q : Int) + 1) = false := beq_eq_false_iff_ne.2 hz
            clear hz
            go_wp2_with fail
            go_roundw
            case rel => exact ⟨r + 1, by omega, by go_num, HROW.out.congr (fun j _ => by unfold kin; rw [HB.out]), HG.out, HGR.out⟩
            case measure => simp [intOf]; omega
        · have hre : r = len := by omega
          subst hre
          have HROW2 := Lib.hid (HROW.out.congr (g := fun j => .int .i64 (ks h z n r (q + 1) j)) (fun j _ => by rw [kin_len]))
          have hks : ks h z n r (q + 1) (q + 1) = kf h z n r (q + 1) := if_pos (Nat.le_refl _)
          have hany : anyZ (kf h z n r) (q + 1) = (anyZ (kf h z n r) q || (kf h z n r (q + 1) == 0)) := rfl
          have cK := HROW2.out.cell (i := q + 1) (by omega)
          rw [hks] at cK
          generalize kf h z n r (q + 1) = kq at hany cK
          by_cases hb : anyZ (kf h z n r) q = true
          · rw [hb] at hany ⊢
            have HAN := Lib.hid hany
            clear hany hb
            go_wp2_with fail
            go_roundw
            case rel => exact ⟨q + 1, by omega, by go_num, by rw [HAN.out]; rfl, HROW2.out, HG.out, HGR.out⟩
            case measure => simp [intOf]; omega
          · have hb' : anyZ (kf h z n r) q = false := by simpa using hb
            rw [hb'] at hany ⊢
            have HAN := Lib.hid hany
            clear hany hb hb'
            by_cases hk0 : kq = 0
            · subst hk0
              go_wp2_with fail
              go_roundw
              case rel => exact ⟨q + 1, by omega, by go_num, by rw [HAN.out]; rfl, HROW2.out, HG.out, HGR.out⟩
              case measure => simp [intOf]; omega
            · have hne : (kq == 0) = false := beq_eq_false_iff_ne.2 hk0
              rw [hne] at HAN
              clear hk0
              go_wp2_with fail
              go_roundw
              case rel => exact ⟨q + 1, by omega, by go_num, by rw [HAN.out]; rfl, HROW2.out, HG.out, HGR.out⟩
              case measure => simp [intOf]; omega
    · have hqe : q = n := by omega
      subst hqe
      have hkeep : Keep w' R S wr := ⟨HGR.out.os, HGR.out.tape, HGR.out.output, HGR.out.size, fun k hk _ _ => HGR.out.block k hk (by simp)⟩
      have HKEEP := Lib.hid hkeep
      have cA := HG.out.cellA
      clear hkeep
      by_cases hb : anyZ (kf h z q len) q = true
      · have hnf := HANY.out.1 hb
        rw [hb]
        have HNF := Lib.hid hnf
        have HSW := Lib.hid (HG.out.swap (HROW.out.congr (g := fun j => .int .i64 (clr h (mk z q len) (q + 1) j)) (fun j hj => by rw [HKC.out j (by omega)])))
        have hf := HFREE.out hnf
        have fR0 : wr.frozen? ⟨R, 0, none⟩ = false := by simp [World.frozen?, HG.out.hR]
        have fR1 : wr.frozen? ⟨R, 1, none⟩ = false := by simp [World.frozen?, HG.out.hR]
        clear hb hnf
        go_wp2_with fail
        refine (least_any (h := clr h (mk z q len) (q + 1)) HSW.out s hf.1).mono ?_
        rintro e w2 ⟨rfl, hw2⟩
        have hfin := HSW.out.set (find (clr h (mk z q len) (q + 1)) q 0) s
        rw [← hw2] at hfin
        have hkp : Keep w' R S w2 := by
          rw [hw2]
          exact ⟨HKEEP.out.os, HKEEP.out.tape, HKEEP.out.output, by simpa using HKEEP.out.size, fun k hk h1 h2 => (heap_setCell_other _ ⟨w'.heap.size, find (clr h (mk z q len) (q + 1)) q 0, none⟩ k _ (by show k ≠ w'.heap.size; omega)).trans ((heap_setCell_other _ ⟨R, 1, none⟩ k _ h1).trans ((heap_setCell_other _ ⟨R, 0, none⟩ k _ h1).trans (HKEEP.out.block k hk h1 h2)))⟩
        have HFIN := Lib.hid hfin
        have HKP := Lib.hid hkp
        clear hw2 hfin hkp
        generalize hj : find (clr h (mk z q len) (q + 1)) q 0 = j at hf HFIN ⊢
        have HJ := Lib.hid hj
        clear hj
        go_wp2_with fail
        go_ret3
        exact (by unfold RAskP; rw [if_neg HNF.out, HJ.out]; exact ⟨rfl, w'.heap.size, HKP.out, .inr (Nat.le_refl _), HFIN.out⟩)
      · have hb' : anyZ (kf h z q len) q = false := by simpa using hb
        have hfull : mk z q len = 2 ^ (q + 1) - 2 := Classical.byContradiction fun c => hb (HANY.out.2 c)
        rw [hb']
        have HFU := Lib.hid hfull
        clear hb hb' hfull
        go_wp2_with fail
        go_ret3
        exact (by unfold RAskP; rw [if_pos HFU.out]; exact ⟨rfl, S, HKEEP.out, .inl rfl, HG.out⟩)

/-- What the reference's Ask leaves. -/
def RAskR (w : World) (R S n : Nat) (a : Int) (h : Nat → Int) (s : Int) (m : Nat) (e : Ending) (w' : World) : Prop :=
  if 1 ≤ s ∧ s ≤ 6 then
    if 0 < find h n s then Same w (.tuple #[.int .i64 (find h n s), .bool false, .int .i64 0]) e w'
    else if 0 < find h n 0 then DidR w R S n a (updH h (find h n 0) s) (.tuple #[.int .i64 (find h n 0), .bool false, .int .i64 0]) e w'
    else RAskP w R S n a h s m e w'
  else Same w (.tuple #[.int .i64 0, .bool false, .int .i64 2]) e w'
theorem rask_any (H : RGv w R S n a h) (s : Int) (A : Option Addr) (len cap : Nat) (z : Nat → Int) (hl : Elems w w.heap.size A len (fun i => .int .i64 (z i))) (hlen : len ≤ 20) (ha : 0 ≤ a ∧ a ≤ 1000000) (h00 : h 0 = 0) :
    Calls Try.prog 16 #[.pointer (some ⟨R, 0, none⟩), .int .i64 s, .slice A len cap] w (RAskR w R S n a h s (mk z n len)) := by
  unfold RAskR
  by_cases hs : 1 ≤ s ∧ s ≤ 6
  · simp only [if_pos hs]
    by_cases h1 : 0 < find h n s
    · simp only [if_pos h1]
      exact rask_has H s hs h1 A len cap
    · simp only [if_neg h1]
      by_cases h0 : 0 < find h n 0
      · simp only [if_pos h0]
        exact rask_free H s hs (by omega) h0 A len cap
      · simp only [if_neg h0]
        exact rask_full H s hs (by omega) (by omega) A len cap z hl hlen ha h00
  · simp only [if_neg hs]
    exact rask_bad s hs A len cap w
end Go.Proofs.Ytbehdccjiodlpaa
