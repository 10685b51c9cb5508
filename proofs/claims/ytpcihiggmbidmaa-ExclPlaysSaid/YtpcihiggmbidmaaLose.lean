/- The walk of lose: the others' monitors that are so are cleared. -/
import Derived.Test.YtpcihiggmbidmaaOne
import Derived.Test.YtpcihiggmbidmaaSpan
import Derived.Lib.Hide
namespace Go.Proofs.Ytpcihiggmbidmaa
open Go.RowKit
variable {w : World} {B : Nat} {n : Int} {f : Nat → Option Int}

theorem wrote1 (x y : Int) (b : Nat) (w : World) (h : w.cell? ⟨b, 0, none⟩ = some (.int .u64 y)) :
    Calls Try.prog 21 #[.int .u64 x, .pointer (some ⟨b, 0, none⟩)] w fun e w' => e = .returned (.bool (x == y)) ∧ w = w' := by
  go_enter Try.func21, Try.ntmps21
  go_wp2
  go_ret
  exact ⟨rfl, rfl⟩
theorem block1 (x y : Int) (b : Nat) (w : World) (hx : 0 ≤ x ∧ x ≤ 18446744073709551615) (hy : 0 ≤ y ∧ y ≤ 1048576) (h : w.cell? ⟨b, 0, none⟩ = some (.int .i64 y)) :
    Calls Try.prog 22 #[.int .u64 x, .pointer (some ⟨b, 0, none⟩)] w fun e w' => e = .returned (.bool (x / 512 == y)) ∧ w = w' := by
  obtain ⟨x0, x1⟩ := hx
  obtain ⟨y0, y1⟩ := hy
  go_enter Try.func22, Try.ntmps22
  go_wp2
  go_ret
  exact ⟨rfl, rfl⟩

def pLose (f : Nat → Option Int) (c : Nat) (p : Int → Bool) : Nat → Option Int := fun k => if k = c then f k else (f k).filter fun x => !p x
def pTo (f : Nat → Option Int) (c : Nat) (p : Int → Bool) (i : Nat) : Nat → Option Int := fun k => if k < i then pLose f c p k else f k

theorem pTo_same {f : Nat → Option Int} {c : Nat} {p : Int → Bool} {i : Nat} (h : pLose f c p i = f i) : ∀ k, pTo f c p i k = pTo f c p (i + 1) k := by
  intro k
  unfold pTo
  by_cases h1 : k < i
  · rw [if_pos h1, if_pos (by omega)]
  · rw [if_neg h1]
    by_cases h2 : k = i
    · subst h2; rw [if_pos (by omega), h]
    · rw [if_neg (by omega)]
theorem pTo_gone {f : Nat → Option Int} {c : Nat} {p : Int → Bool} {i : Nat} (h : pLose f c p i = none) : ∀ k, upd (pTo f c p i) i none k = pTo f c p (i + 1) k := by
  intro k
  show (if k = i then none else if k < i then pLose f c p k else f k) = (if k < i + 1 then pLose f c p k else f k)
  by_cases h2 : k = i
  · subst h2; rw [if_pos rfl, if_pos (by omega), h]
  · rw [if_neg h2]
    by_cases h1 : k < i
    · rw [if_pos h1, if_pos (by omega)]
    · rw [if_neg h1, if_neg (by omega)]

set_option maxHeartbeats 400000 in
theorem lose_in {bw : Nat} {g : FuncId} (hg : g = 21 ∨ g = 22) (p : Int → Bool) (h : Mon w B n f) (c : Nat) (h1 : 1 ≤ c) (hn : (c : Int) ≤ n) (hbw : bw ≠ B) (hlw : bw < w.heap.size)
    (hp : ∀ (W : World) (x : Int), W.heap[bw]? = w.heap[bw]? → 0 ≤ x ∧ x ≤ 18446744073709551615 → Calls Try.prog g #[.int .u64 x, .pointer (some ⟨bw, 0, none⟩)] W fun e w' => e = .returned (.bool (p x)) ∧ W = w') :
    Calls Try.prog 20 #[.pointer (some ⟨B, 0, none⟩), .int .i64 c, .func (.func g) #[] #[.pointer (some ⟨bw, 0, none⟩)]] w (Did w B n (pLose f c p) (.int .i64 0)) := by
  have c0 := h.cell0
  have hlt := h.lt
  have hn8 := h.n8
  obtain ⟨cs, hb, hs, h0, hall⟩ := h.row
  have hsp : ∀ c, c < 9 → (cs.extract 1 (1 + 9))[c]? = cs[c + 1]? := fun c hc => by rw [Array.getElem?_extract, if_pos (by omega), Nat.add_comm]
  obtain ⟨ar, har⟩ : ∃ ar, cs.extract 1 (1 + 9) = ar := ⟨_, rfl⟩
  have hv : ∀ c, c < 9 → ∃ v, ar[c]? = some v ∧ PtrAt w B v (f c) := fun c hc => by rw [← har, hsp c hc]; exact hall c hc
  have H : Hid (Mon w B n f) := h
  have HP := Lib.hid hp
  have HB := Lib.hid hb
  have HS := Lib.hid hs
  have HAR := Lib.hid har
  have HV := Lib.hid hv
  clear h hp hall hb hs h0 har hsp hv
  rcases hg with rfl | rfl
  all_goals
    go_enter Try.func20, Try.ntmps20
    go_wp2_with (first | (go_at_call 19; refine (core_in _ _ c0 ⟨by omega, hn⟩).mono ?_; rintro e w' ⟨rfl, rfl⟩) | (with_reducible refine wpList_load_span (o := ⟨some 19, _, _, _, _, _⟩) rfl 53 _ rfl B 1 9 rfl 55 cs (0, 0) _ HB.out (by rw [HS.out]; omega) Try.underlying53 rfl (by kernel_rfl) ?_; rw [HAR.out]))
    go_loopw [20] (fun i wr => ∃ k : Nat, k ≤ 9 ∧ i = .int .i64 k ∧ Mon wr B n (pTo f c p k) ∧ w.grownBy wr (some B)) (fun i _ => 9 - (intOf i).toNat)
    case atStart => exact ⟨0, by omega, rfl, H.out.congr (fun k => by simp [pTo]), grown_refl _ _⟩
    case round =>
      obtain ⟨k, hk, rfl, hm, hgr⟩ := hrel
      have HM := Lib.hid hm
      have HG := Lib.hid hgr
      by_cases hlt9 : k < 9
      · obtain ⟨v, hv, hpv⟩ := HV.out k hlt9
        have hix : ∀ W, (Instr.index 53 (.agg ar) (.int .i64 k)).run Try.prog W = .ok v W := fun W => run_index_agg W 53 52 9 ar k v Try.underlying53 hlt9 hv _ Try.underlying52 rfl (by kernel_rfl)
        obtain ⟨u, hu, hpu⟩ := hm.at_ k hlt9
        have hf := hm.free (1 + k)
        have hm0 := hm.lt
        clear hm hgr hv
        by_cases hkc : (k : Int) = c
        · have hne : ((k : Int) != (c : Int)) = false := by simp [hkc]
          have HK := Lib.hid hkc
          clear hkc hpv
          go_wp2
          go_roundw
          case rel => exact ⟨k + 1, by omega, by go_num, HM.out.congr (pTo_same (by unfold pLose; rw [if_pos (by have := HK.out; omega)])), HG.out⟩
          case measure => simp [intOf]; omega
        · have hne : ((k : Int) != (c : Int)) = true := by simp [hkc]
          have HK := Lib.hid hkc
          clear hkc
          have hfk : pLose f c p k = (f k).filter fun x => !p x := by unfold pLose; rw [if_neg (by have := HK.out; omega)]
          have hpt : pTo f c p k k = f k := by simp [pTo]
          cases hx : f k with
          | none =>
            rw [hx] at hpv
            have hv0 : v = .pointer none := hpv
            subst hv0
            have HF : Hid (pLose f c p k = f k) := Lib.hid (by rw [hfk, hx]; rfl)
            clear hpv hfk hpt hx
            go_wp2
            go_roundw
            case rel => exact ⟨k + 1, by omega, by go_num, HM.out.congr (pTo_same HF.out), HG.out⟩
            case measure => simp [intOf]; omega
          | some x =>
            have hk1 : 1 ≤ k ∧ (k : Int) ≤ n := Classical.byContradiction fun hh => by have := H.out.dom k hh; rw [hx] at this; cases this
            rw [hx] at hpv
            obtain ⟨b, hbB, rfl, hbx, hx1⟩ := hpv
            have hbr : wr.heap[b]? = some (.cells #[.int .u64 x] 22 (0, 0)) := (HG.out.block b (lt_of_block hbx) (by simp [hbB])).trans hbx
            have hbc := cell_of_one hbr
            have hbw' : wr.heap[bw]? = w.heap[bw]? := HG.out.block bw hlw (by simp [hbw])
            have HC := Lib.hid (HP.out wr x hbw' hx1)
            by_cases hpx : p x = true
            · have HF : Hid (pLose f c p k = none) := Lib.hid (by rw [hfk, hx]; simp [hpx])
              have HX := Lib.hid hpx
              clear hfk hpt hx hbx hbr hbw' hpx
              go_wp2_with (first | (go_at_call 21; refine HC.out.mono ?_; rintro e w' ⟨rfl, rfl⟩; rw [HX.out]) | (go_at_call 22; refine HC.out.mono ?_; rintro e w' ⟨rfl, rfl⟩; rw [HX.out]))
              go_roundw
              case rel => exact ⟨k + 1, by omega, by go_num, (HM.out.store k hk1.1 hk1.2 (v := .pointer none) (o := none) rfl).congr (pTo_gone HF.out), grown_trans HG.out (grown_setCell _ _ _)⟩
              case measure => simp [intOf]; omega
            · have HF : Hid (pLose f c p k = f k) := Lib.hid (by rw [hfk, hx]; simp [hpx])
              have HX : Hid (p x = false) := Lib.hid (by simpa using hpx)
              clear hfk hpt hx hbx hbr hbw' hpx
              go_wp2_with (first | (go_at_call 21; refine HC.out.mono ?_; rintro e w' ⟨rfl, rfl⟩; rw [HX.out]) | (go_at_call 22; refine HC.out.mono ?_; rintro e w' ⟨rfl, rfl⟩; rw [HX.out]))
              go_roundw
              case rel => exact ⟨k + 1, by omega, by go_num, HM.out.congr (pTo_same HF.out), HG.out⟩
              case measure => simp [intOf]; omega
      · obtain rfl : k = 9 := by omega
        have hf9 : ∀ j, pTo f c p 9 j = pLose f c p j := fun j => by
          unfold pTo
          by_cases hj : j < 9
          · rw [if_pos hj]
          · rw [if_neg hj]
            have := HM.out.dom j (by omega)
            have hd := H.out.dom j (by omega)
            unfold pLose
            simp [hd]
        have HF := Lib.hid hf9
        clear hm hgr hf9
        go_wp2
        go_ret
        exact ⟨rfl, HM.out.congr HF.out, HG.out⟩
end Go.Proofs.Ytpcihiggmbidmaa
