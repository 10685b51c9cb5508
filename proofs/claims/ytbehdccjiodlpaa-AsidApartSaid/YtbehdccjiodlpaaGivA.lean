/- The walks of a giver's small functions: space, Of, Gone, Age, New. -/
import Derived.Test.YtbehdccjiodlpaaGiv
namespace Go.Proofs.Ytbehdccjiodlpaa
open Go.RowKit
variable {w : World} {G n : Nat} {a : Int} {h : Nat → Int}

def Same (w : World) (r : Value) (e : Ending) (w' : World) : Prop := e = .returned r ∧ w' = w
theorem space_any (s : Int) (w : World) : Calls Try.prog 21 #[.int .i64 s] w (Same w (.bool (decide (1 ≤ s ∧ s ≤ 6)))) := by
  by_cases h1 : 1 ≤ s
  · by_cases h6 : s ≤ 6
    · rw [decide_eq_true ⟨h1, h6⟩]
      go_enter Try.func21, Try.ntmps21
      go_wp2_with fail
      go_ret
      exact ⟨by simp, rfl⟩
    · rw [decide_eq_false (fun c => h6 c.2)]
      go_enter Try.func21, Try.ntmps21
      go_wp2_with fail
      go_ret
      exact ⟨by simp, rfl⟩
  · rw [decide_eq_false (fun c => h1 c.1)]
    go_enter Try.func21, Try.ntmps21
    go_wp2_with fail
    go_ret
    exact ⟨by simp, rfl⟩

/-- What Of answers. -/
def ofF (h : Nat → Int) (n : Nat) (s : Int) : Nat := if 1 ≤ s ∧ s ≤ 6 then find h n s else 0
theorem of_any (H : Gv w G n a h) (s : Int) : Calls Try.prog 11 #[.pointer (some ⟨G, 0, none⟩), .int .i64 s] w (Same w (.tuple #[.int .i64 (ofF h n s), .bool (decide (0 < ofF h n s))])) := by
  have HF := Lib.hid (find_any H s)
  have HS := Lib.hid (space_any s w)
  unfold ofF
  clear H
  by_cases hs : 1 ≤ s ∧ s ≤ 6
  · rw [if_pos hs]
    rw [decide_eq_true hs] at HS
    clear hs
    go_enter Try.func11, Try.ntmps11
    go_wp2_with (first | (go_at_call 21; refine HS.out.mono ?_; rintro e w' ⟨rfl, rfl⟩) | (go_at_call 22; refine HF.out.mono ?_; rintro e w' ⟨rfl, rfl⟩))
    go_ret2
    exact ⟨by simp, rfl⟩
  · rw [if_neg hs]
    rw [decide_eq_false hs] at HS
    clear hs
    go_enter Try.func11, Try.ntmps11
    go_wp2_with (first | (go_at_call 21; refine HS.out.mono ?_; rintro e w' ⟨rfl, rfl⟩) | (go_at_call 22; refine HF.out.mono ?_; rintro e w' ⟨rfl, rfl⟩))
    go_ret2
    exact ⟨by simp, rfl⟩
theorem of_nil (s : Int) (w : World) : Calls Try.prog 11 #[.pointer none, .int .i64 s] w (Same w (.tuple #[.int .i64 0, .bool false])) := by
  go_enter Try.func11, Try.ntmps11
  go_wp2_with fail
  go_ret2
  exact ⟨rfl, rfl⟩
theorem age_any (H : Gv w G n a h) : Calls Try.prog 12 #[.pointer (some ⟨G, 0, none⟩)] w (Same w (.int .i64 a)) := by
  have HA := Lib.hid (load_any G a w H.cellA)
  clear H
  go_enter Try.func12, Try.ntmps12
  go_wp2_with (go_at_call 23; refine HA.out.mono ?_; rintro e w' ⟨rfl, rfl⟩)
  go_ret
  exact ⟨rfl, rfl⟩
theorem age_nil (w : World) : Calls Try.prog 12 #[.pointer none] w (Same w (.int .i64 0)) := by
  go_enter Try.func12, Try.ntmps12
  go_wp2_with fail
  go_ret
  exact ⟨rfl, rfl⟩

/-- What a writing call leaves: nothing but block G has turned. -/
def Did (w : World) (G n : Nat) (a : Int) (h : Nat → Int) (r : Value) (e : Ending) (w' : World) : Prop := e = .returned r ∧ w.grownBy w' (some G) ∧ Gv w' G n a h
def hGone (h : Nat → Int) (n : Nat) (s : Int) : Nat → Int := if 0 < ofF h n s then updH h (ofF h n s) 0 else h
def errG (s : Int) : Int := if 1 ≤ s ∧ s ≤ 6 then 0 else 2
theorem grown_set (w : World) (G j : Nat) (v : Value) : w.grownBy (w.setCell ⟨G, j, none⟩ v) (some G) := ⟨rfl, rfl, rfl, by simp, fun k _ hk => heap_setCell_other w ⟨G, j, none⟩ k v (fun e => hk (by rw [e]))⟩
theorem grown_self (w : World) (row : Option Nat) : w.grownBy w row := ⟨rfl, rfl, rfl, Nat.le_refl _, fun _ _ _ => rfl⟩
theorem gone_any (H : Gv w G n a h) (s : Int) : Calls Try.prog 10 #[.pointer (some ⟨G, 0, none⟩), .int .i64 s] w (Did w G n a (hGone h n s) (.int .i64 (errG s))) := by
  have HF := Lib.hid (find_any H s)
  have HS := Lib.hid (space_any s w)
  have HH := Lib.hid H
  have hn := H.n16
  unfold hGone errG ofF
  by_cases hs : 1 ≤ s ∧ s ≤ 6
  · rw [if_pos hs, if_pos hs]
    rw [decide_eq_true hs] at HS
    have hle : find h n s ≤ n := by
      rcases find_spec (h := h) (n := n) s with ⟨h0, _⟩ | ⟨_, h2, _⟩
      · omega
      · exact h2
    generalize find h n s = j at HF hle ⊢
    clear hs
    by_cases hj : 0 < j
    · rw [if_pos hj]
      have cj := H.cellH j (by omega)
      have fj := H.frozen (1 + j)
      clear H
      go_enter Try.func10, Try.ntmps10
      go_wp2_with (first | (go_at_call 21; refine HS.out.mono ?_; rintro e w' ⟨rfl, rfl⟩) | (go_at_call 22; refine HF.out.mono ?_; rintro e w' ⟨rfl, rfl⟩))
      go_ret
      exact ⟨rfl, grown_set _ _ _ _, HH.out.setH j (by omega) 0⟩
    · rw [if_neg hj]
      clear H
      go_enter Try.func10, Try.ntmps10
      go_wp2_with (first | (go_at_call 21; refine HS.out.mono ?_; rintro e w' ⟨rfl, rfl⟩) | (go_at_call 22; refine HF.out.mono ?_; rintro e w' ⟨rfl, rfl⟩))
      go_ret
      exact ⟨rfl, grown_self _ _, HH.out⟩
  · rw [if_neg hs, if_neg hs, if_neg (by omega)]
    rw [decide_eq_false hs] at HS
    clear hs H
    go_enter Try.func10, Try.ntmps10
    go_wp2_with (go_at_call 21; refine HS.out.mono ?_; rintro e w' ⟨rfl, rfl⟩)
    go_ret
    exact ⟨rfl, grown_self _ _, HH.out⟩
theorem gone_nil (s : Int) (w : World) : Calls Try.prog 10 #[.pointer none, .int .i64 s] w (Same w (.int .i64 1)) := by
  go_enter Try.func10, Try.ntmps10
  go_wp2_with fail
  go_ret
  exact ⟨rfl, rfl⟩
theorem ask_nil (s : Int) (w : World) : Calls Try.prog 13 #[.pointer none, .int .i64 s, .slice none 0 0] w (Same w (.tuple #[.int .i64 0, .bool false, .int .i64 1])) := by
  go_enter Try.func13, Try.ntmps13
  go_wp2_with fail
  go_ret3
  exact ⟨rfl, rfl⟩
theorem free_nil (w : World) : Calls Try.prog 18 #[.pointer none] w (Same w (.int .i64 0)) := by
  go_enter Try.func18, Try.ntmps18
  go_wp2_with fail
  go_ret
  exact ⟨rfl, rfl⟩

def Made (w : World) (n : Nat) (e : Ending) (w' : World) : Prop := ∃ G, e = .returned (.tuple #[.pointer (some ⟨G, 0, none⟩), .int .i64 0]) ∧ w.heap.size ≤ G ∧ w.grownBy w' none ∧ Gv w' G n 1 (fun _ => 0)
theorem gv_new (w : World) (n : Nat) (h2 : 2 ≤ n) (h16 : n ≤ 16) :
    Gv (w.alloc (.cells #[.int .i64 n, .int .i64 0, .int .i64 0, .int .i64 0, .int .i64 0, .int .i64 0, .int .i64 0, .int .i64 0, .int .i64 0, .int .i64 0, .int .i64 0, .int .i64 0, .int .i64 0, .int .i64 0, .int .i64 0, .int .i64 0, .int .i64 0, .int .i64 0, .int .i64 0] 55)) w.heap.size n 0 (fun _ => 0) := by
  refine ⟨h2, h16, _, Go.heap_alloc_new w _, rfl, fun i hi => ?_⟩
  have hi' : i < 19 := hi
  rcases (by omega : i = 0 ∨ i = 1 ∨ i = 2 ∨ i = 3 ∨ i = 4 ∨ i = 5 ∨ i = 6 ∨ i = 7 ∨ i = 8 ∨ i = 9 ∨ i = 10 ∨ i = 11 ∨ i = 12 ∨ i = 13 ∨ i = 14 ∨ i = 15 ∨ i = 16 ∨ i = 17 ∨ i = 18) with rfl | rfl | rfl | rfl | rfl | rfl | rfl | rfl | rfl | rfl | rfl | rfl | rfl | rfl | rfl | rfl | rfl | rfl | rfl <;> rfl
theorem new_in (n : Nat) (w : World) (h2 : 2 ≤ n) (h16 : n ≤ 16) : Calls Try.prog 7 #[.int .i64 n] w (Made w n) := by
  have HG := Lib.hid (gv_new w n h2 h16)
  go_enter Try.func7, Try.ntmps7
  go_wp2_with fail
  refine (store_any w.heap.size _ 1 _ HG.out.cellA (HG.out.frozen 18)).mono ?_
  rintro e w1 ⟨rfl, hw1⟩
  have hm := HG.out.setA 1
  rw [← hw1] at hm
  have hg : w.grownBy w1 none := by
    rw [hw1]
    exact ⟨rfl, rfl, rfl, by simp, fun k hk _ => (heap_setCell_other _ ⟨w.heap.size, 18, none⟩ k _ (by show k ≠ w.heap.size; omega)).trans (Below.heap_alloc w _ k hk)⟩
  have HM := Lib.hid hm
  have HGR := Lib.hid hg
  clear hm hg hw1 HG
  go_wp2_with fail
  go_ret2
  exact ⟨_, rfl, Nat.le_refl _, HGR.out, HM.out⟩
theorem new_out (n : Int) (w : World) (hn : ¬ (2 ≤ n ∧ n ≤ 16)) : Calls Try.prog 7 #[.int .i64 n] w (Same w (.tuple #[.pointer none, .int .i64 2])) := by
  by_cases h1 : n < 2
  · clear hn
    go_enter Try.func7, Try.ntmps7
    go_wp2_with fail
    go_ret2
    exact ⟨rfl, rfl⟩
  · have h8 : 16 < n := by omega
    clear hn
    go_enter Try.func7, Try.ntmps7
    go_wp2_with fail
    go_ret2
    exact ⟨rfl, rfl⟩
end Go.Proofs.Ytbehdccjiodlpaa
