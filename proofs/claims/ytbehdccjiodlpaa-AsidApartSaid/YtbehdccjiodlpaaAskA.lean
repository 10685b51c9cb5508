/- Ask, whatever the space and whoever runs; the law's own example (wakes). -/
import Derived.Test.YtbehdccjiodlpaaAsk
namespace Go.Proofs.Ytbehdccjiodlpaa
open Go.RowKit
variable {w : World} {G n : Nat} {a : Int} {h : Nat → Int}

theorem ask_bad (s : Int) (hs : ¬ (1 ≤ s ∧ s ≤ 6)) (A : Option Addr) (len cap : Nat) (w : World) :
    Calls Try.prog 13 #[.pointer (some ⟨G, 0, none⟩), .int .i64 s, .slice A len cap] w (Same w (.tuple #[.int .i64 0, .bool false, .int .i64 2])) := by
  have HS := Lib.hid (space_any s w)
  rw [decide_eq_false hs] at HS
  clear hs
  go_enter Try.func13, Try.ntmps13
  go_wp2_with (go_at_call 21; refine HS.out.mono ?_; rintro e w' ⟨rfl, rfl⟩)
  go_ret3
  exact ⟨rfl, rfl⟩
theorem ask_has (H : Gv w G n a h) (s : Int) (hs : 1 ≤ s ∧ s ≤ 6) (h1 : 0 < find h n s) (A : Option Addr) (len cap : Nat) :
    Calls Try.prog 13 #[.pointer (some ⟨G, 0, none⟩), .int .i64 s, .slice A len cap] w (Same w (.tuple #[.int .i64 (find h n s), .bool false, .int .i64 0])) := by
  have HS := Lib.hid (space_any s w)
  rw [decide_eq_true hs] at HS
  have HF := Lib.hid (find_any H s)
  generalize find h n s = j at HF h1 ⊢
  clear hs H
  go_enter Try.func13, Try.ntmps13
  go_wp2_with (first | (go_at_call 21; refine HS.out.mono ?_; rintro e w' ⟨rfl, rfl⟩) | (go_at_call 22; refine HF.out.mono ?_; rintro e w' ⟨rfl, rfl⟩))
  go_ret3
  exact ⟨rfl, rfl⟩
theorem find_le (s : Int) : find h n s ≤ n := by
  rcases find_spec (h := h) (n := n) s with ⟨h0, _⟩ | ⟨_, h2, _⟩
  · omega
  · exact h2
theorem ask_free (H : Gv w G n a h) (s : Int) (hs : 1 ≤ s ∧ s ≤ 6) (h1 : find h n s = 0) (h0 : 0 < find h n 0) (A : Option Addr) (len cap : Nat) :
    Calls Try.prog 13 #[.pointer (some ⟨G, 0, none⟩), .int .i64 s, .slice A len cap] w (Did w G n a (updH h (find h n 0) s) (.tuple #[.int .i64 (find h n 0), .bool false, .int .i64 0])) := by
  have HS := Lib.hid (space_any s w)
  rw [decide_eq_true hs] at HS
  have HF := Lib.hid (find_any H s)
  rw [h1] at HF
  have HF0 := Lib.hid (find_any H 0)
  have hle := find_le (h := h) (n := n) 0
  have hn := H.n16
  have HH := Lib.hid H
  generalize find h n 0 = j at HF0 h0 hle ⊢
  have cj := H.cellH j (by omega)
  have fj := H.frozen (1 + j)
  clear hs H h1
  go_enter Try.func13, Try.ntmps13
  go_wp2_with fail
  refine HS.out.mono ?_
  rintro e w' ⟨rfl, rfl⟩
  go_wp2_with fail
  refine HF.out.mono ?_
  rintro e w' ⟨rfl, rfl⟩
  go_wp2_with fail
  refine HF0.out.mono ?_
  rintro e w' ⟨rfl, rfl⟩
  go_wp2_with fail
  go_ret3
  exact ⟨rfl, grown_set _ _ _ _, HH.out.setH j (by omega) s⟩

/-- What Ask leaves. m: the word of who runs. -/
def AskR (w : World) (G n : Nat) (a : Int) (h : Nat → Int) (s : Int) (m : Nat) (e : Ending) (w' : World) : Prop :=
  if 1 ≤ s ∧ s ≤ 6 then
    if 0 < find h n s then Same w (.tuple #[.int .i64 (find h n s), .bool false, .int .i64 0]) e w'
    else if 0 < find h n 0 then Did w G n a (updH h (find h n 0) s) (.tuple #[.int .i64 (find h n 0), .bool false, .int .i64 0]) e w'
    else AskP w G n a h s m e w'
  else Same w (.tuple #[.int .i64 0, .bool false, .int .i64 2]) e w'
theorem ask_any (H : Gv w G n a h) (s : Int) (A : Option Addr) (len cap : Nat) (z : Nat → Int) (hz : ∀ i, -9223372036854775808 ≤ z i ∧ z i ≤ 9223372036854775807) (hl : Elems w w.heap.size A len (fun i => .int .i64 (z i))) (hlen : len ≤ 20) (ha : 0 ≤ a ∧ a ≤ 1000000) :
    Calls Try.prog 13 #[.pointer (some ⟨G, 0, none⟩), .int .i64 s, .slice A len cap] w (AskR w G n a h s (mk z n len)) := by
  unfold AskR
  by_cases hs : 1 ≤ s ∧ s ≤ 6
  · simp only [if_pos hs]
    by_cases h1 : 0 < find h n s
    · simp only [if_pos h1]
      exact ask_has H s hs h1 A len cap
    · simp only [if_neg h1]
      by_cases h0 : 0 < find h n 0
      · simp only [if_pos h0]
        exact ask_free H s hs (by omega) h0 A len cap
      · simp only [if_neg h0]
        exact ask_full H s hs (by omega) (by omega) A len cap z hz hl hlen ha
  · simp only [if_neg hs]
    exact ask_bad s hs A len cap w
theorem elems_nil (w : World) (B : Nat) (C : Nat → Value) : Elems w B none 0 C := fun h => absurd h (by omega)

/-- What a call that turns no old block leaves. -/
def Law (w : World) (r : Value) (e : Ending) (w' : World) : Prop := e = .returned r ∧ w.grownBy w' none
theorem grown_new {w0 w1 w2 : World} {G : Nat} (h : w0.grownBy w1 none) (hG : w0.heap.size ≤ G) (k : w1.grownBy w2 (some G)) : w0.grownBy w2 none :=
  ⟨k.os.trans h.os, k.tape.trans h.tape, k.output.trans h.output, Nat.le_trans h.size k.size, fun i hi _ => (k.block i (Nat.lt_of_lt_of_le hi h.size) (fun e => by injection e with e; omega)).trans (h.block i hi (by simp))⟩
theorem grown_both {w0 w1 w2 : World} (h : w0.grownBy w1 none) (k : w1.grownBy w2 none) : w0.grownBy w2 none :=
  ⟨k.os.trans h.os, k.tape.trans h.tape, k.output.trans h.output, Nat.le_trans h.size k.size, fun i hi _ => (k.block i (Nat.lt_of_lt_of_le hi h.size) (by simp)).trans (h.block i hi (by simp))⟩

def h0_ : Nat → Int := fun _ => 0
def h1_ : Nat → Int := updH h0_ 1 1
def h2_ : Nat → Int := updH h1_ 2 2
def h3_ : Nat → Int := updH (clr h2_ 4 3) 1 3
set_option maxHeartbeats 1000000 in
theorem wakes_true (w : World) : Calls Try.prog 9 #[] w (Law w (.bool true)) := by
  go_enter Try.func9, Try.ntmps9
  go_wp2_with fail
  refine (new_in 2 w (by omega) (by omega)).mono ?_
  rintro e w1 ⟨G, rfl, hlo, hg1, hm1⟩
  have HG := Lib.hid hg1
  have HM : Hid (Gv w1 G 2 1 h0_) := Lib.hid hm1
  clear hg1 hm1
  go_wp2_with fail
  refine (ask_free HM.out 1 (by omega) (by rfl) (by decide) none 0 0).mono ?_
  rintro e w2 ⟨rfl, hg2, hm2⟩
  have HG := Lib.hid (grown_new HG.out hlo hg2)
  have HM : Hid (Gv w2 G 2 1 h1_) := Lib.hid hm2
  clear hg2 hm2
  rw [show find h0_ 2 0 = 1 from rfl]
  go_wp2_with fail
  refine (ask_free HM.out 2 (by omega) (by rfl) (by decide) none 0 0).mono ?_
  rintro e w3 ⟨rfl, hg2, hm2⟩
  have HG := Lib.hid (grown_new HG.out hlo hg2)
  have HM : Hid (Gv w3 G 2 1 h2_) := Lib.hid hm2
  clear hg2 hm2
  rw [show find h1_ 2 0 = 2 from rfl]
  go_wp2_with fail
  refine (ask_has HM.out 1 (by omega) (by decide) none 0 0).mono ?_
  rintro e w4 ⟨rfl, rfl⟩
  rw [show find h2_ 2 1 = 1 from rfl]
  go_wp2_with fail
  have HMA := Lib.hid (HM.out.grown (World.grownBy_alloc w4 (.cells #[.int .i64 2] 3) none) (by simp))
  have HGA := Lib.hid (grown_both HG.out (World.grownBy_alloc w4 (.cells #[.int .i64 2] 3) none))
  have hel : Elems (w4.alloc (.cells #[.int .i64 2] 3)) (w4.alloc (.cells #[.int .i64 2] 3)).heap.size (some ⟨w4.heap.size, 0, none⟩) 1 (fun i => .int .i64 ((fun _ => (2 : Int)) i)) := fun _ =>
    ⟨w4.heap.size, 0, rfl, by simp, fun i hi => by
      have h0 : i = 0 := by omega
      subst h0
      exact cell_of_row _ _ 0 _ _ _ (Go.heap_alloc_new w4 _)⟩
  refine (ask_full HMA.out 3 (by omega) (by rfl) (by rfl) _ 1 1 (fun _ => (2 : Int)) (fun _ => by show (-9223372036854775808 : Int) ≤ 2 ∧ (2 : Int) ≤ 9223372036854775807; omega) hel (by omega) (by omega)).mono ?_
  intro e w5 hp
  have hp' : Did (w4.alloc (.cells #[.int .i64 2] 3)) G 2 2 h3_ (.tuple #[.int .i64 1, .bool true, .int .i64 0]) e w5 := hp
  obtain ⟨rfl, hg5, hm5⟩ := hp'
  have HG := Lib.hid (grown_new HGA.out hlo hg5)
  have HM := Lib.hid hm5
  clear hg5 hm5 hel hp
  go_wp2_with fail
  refine (of_any HM.out 1).mono ?_
  rintro e w6 ⟨rfl, rfl⟩
  rw [show ofF h3_ 2 1 = 0 from rfl]
  go_wp2_with fail
  refine (of_any HM.out 2).mono ?_
  rintro e w7 ⟨rfl, rfl⟩
  rw [show ofF h3_ 2 2 = 2 from rfl]
  go_wp2_with fail
  refine (age_any HM.out).mono ?_
  rintro e w8 ⟨rfl, rfl⟩
  go_wp2_with fail
  go_ret
  exact ⟨rfl, HG.out⟩

set_option maxHeartbeats 400000 in
theorem nil_walk (s : Int) (w : World) : Calls Try.prog 6 #[.int .i64 s] w (Law w (.bool true)) := by
  go_enter Try.func6, Try.ntmps6
  go_wp2_with (first | (go_at_call 13; refine (ask_nil _ _).mono ?_; rintro e w' ⟨rfl, rfl⟩) | (go_at_call 11; refine (of_nil _ _).mono ?_; rintro e w' ⟨rfl, rfl⟩) | (go_at_call 10; refine (gone_nil _ _).mono ?_; rintro e w' ⟨rfl, rfl⟩) | (go_at_call 12; refine (age_nil _).mono ?_; rintro e w' ⟨rfl, rfl⟩) | (go_at_call 18; refine (free_nil _).mono ?_; rintro e w' ⟨rfl, rfl⟩) | (go_at_call 9; refine (wakes_true _).mono ?_; rintro e w' ⟨rfl, hf⟩))
  go_ret
  exact ⟨rfl, hf⟩
end Go.Proofs.Ytbehdccjiodlpaa
