/- A giver beside the reference's; what an ask leaves at both. -/
import Derived.Test.YtbehdccjiodlpaaUniq
namespace Go.Proofs.Ytbehdccjiodlpaa
open Go.RowKit

structure Fine (h : Nat → Int) (n : Nat) : Prop where
  z : h 0 = 0
  u : Uniq h n
structure Two (w0 w : World) (G R S n : Nat) (a : Int) (h : Nat → Int) (b : Int) (k : Nat → Int) : Prop where
  g : w0.grownBy w none
  lG : w0.heap.size ≤ G
  lR : w0.heap.size ≤ R
  lS : w0.heap.size ≤ S
  v : Gv w G n a h
  r : RGv w R S n b k
  gR : G ≠ R
  gS : G ≠ S
section
variable {w0 w w1 : World} {G R S n : Nat} {a b a1 b1 : Int} {h k h1 k1 : Nat → Int}
theorem Two.giver (t : Two w0 w G R S n a h b k) (hg : w.grownBy w1 (some G)) (hm : Gv w1 G n a1 h1) : Two w0 w1 G R S n a1 h1 b k :=
  ⟨grown_new t.g t.lG hg, t.lG, t.lR, t.lS, hm, t.r.of_block (hg.block R t.r.ltR (fun e => by injection e with e; exact t.gR e.symm)) (hg.block S t.r.ltS (fun e => by injection e with e; exact t.gS e.symm)), t.gR, t.gS⟩
theorem Two.refd {S' : Nat} (t : Two w0 w G R S n a h b k) (hk : Keep w R S w1) (hS : S' = S ∨ w.heap.size ≤ S') (hm : RGv w1 R S' n b1 k1) : Two w0 w1 G R S' n a h b1 k1 := by
  refine ⟨⟨hk.os.trans t.g.os, hk.tape.trans t.g.tape, hk.output.trans t.g.output, Nat.le_trans t.g.size hk.size, fun i hi _ => (hk.block i (Nat.lt_of_lt_of_le hi t.g.size) (by have := t.lR; omega) (by have := t.lS; omega)).trans (t.g.block i hi (by simp))⟩, t.lG, t.lR, ?_, t.v.of_block (hk.block G t.v.lt t.gR t.gS), hm, t.gR, ?_⟩
  · rcases hS with rfl | hS
    · exact t.lS
    · exact Nat.le_trans t.g.size hS
  · rcases hS with rfl | hS
    · exact t.gS
    · have := t.v.lt; omega
theorem Two.grown (t : Two w0 w G R S n a h b k) (hg : w.grownBy w1 none) : Two w0 w1 G R S n a h b k :=
  ⟨grown_both t.g hg, t.lG, t.lR, t.lS, t.v.grown hg (by simp), t.r.of_block (hg.block R t.r.ltR (by simp)) (hg.block S t.r.ltS (by simp)), t.gR, t.gS⟩

theorem updH_zero {j : Nat} {s : Int} (hj : 1 ≤ j) (h0 : h 0 = 0) : updH h j s 0 = 0 := by
  unfold updH
  rw [if_neg (by omega)]
  exact h0
theorem clr_zero (m q : Nat) (h0 : h 0 = 0) : clr h m q 0 = 0 := by
  unfold clr
  rw [if_neg (by omega)]
  exact h0

/-- What an ask leaves at the giver, and that it leaves the same at the reference's. -/
theorem ask_both {s : Int} {z : Nat → Int} {len : Nat} {e : Ending} (H : Gv w G n a h) (hF : Fine h n) (hp : AskR w G n a h s (mk z n len) e w1) :
    ∃ (i : Int) (f : Bool) (err : Int) (a1 : Int) (h1 : Nat → Int), e = .returned (.tuple #[.int .i64 i, .bool f, .int .i64 err]) ∧ w.grownBy w1 (some G) ∧ Gv w1 G n a1 h1 ∧ Fine h1 n ∧ a ≤ a1 ∧ a1 ≤ a + 1 ∧
      ∀ (x y : World) (R S : Nat) (e' : Ending), RGv x R S n a h → RAskR x R S n a h s (mk z n len) e' y → e' = .returned (.tuple #[.int .i64 i, .bool f, .int .i64 err]) ∧ ∃ S', Keep x R S y ∧ (S' = S ∨ x.heap.size ≤ S') ∧ RGv y R S' n a1 h1 := by
  unfold AskR AskP at hp
  by_cases hs : 1 ≤ s ∧ s ≤ 6
  · rw [if_pos hs] at hp
    by_cases c1 : 0 < find h n s
    · rw [if_pos c1] at hp
      obtain ⟨rfl, rfl⟩ := hp
      refine ⟨_, _, _, a, h, rfl, grown_self _ _, H, hF, by omega, by omega, fun x y R S e' hr hq => ?_⟩
      unfold RAskR at hq
      rw [if_pos hs, if_pos c1] at hq
      obtain ⟨rfl, rfl⟩ := hq
      exact ⟨rfl, S, Keep.refl _ _ _, .inl rfl, hr⟩
    · rw [if_neg c1] at hp
      have hno := find_none (h := h) (n := n) (s := s) (by omega)
      by_cases c0 : 0 < find h n 0
      · rw [if_pos c0] at hp
        obtain ⟨rfl, hg, hm⟩ := hp
        refine ⟨_, _, _, a, _, rfl, hg, hm, ⟨updH_zero (by omega) hF.z, hF.u.upd _ s hno⟩, by omega, by omega, fun x y R S e' hr hq => ?_⟩
        unfold RAskR at hq
        rw [if_pos hs, if_neg c1, if_pos c0] at hq
        exact hq
      · rw [if_neg c0] at hp
        by_cases cf : mk z n len = 2 ^ (n + 1) - 2
        · rw [if_pos cf] at hp
          obtain ⟨rfl, hg, hm⟩ := hp
          refine ⟨_, _, _, a, h, rfl, hg, hm, hF, by omega, by omega, fun x y R S e' hr hq => ?_⟩
          unfold RAskR RAskP at hq
          rw [if_pos hs, if_neg c1, if_neg c0, if_pos cf] at hq
          exact hq
        · rw [if_neg cf] at hp
          obtain ⟨rfl, hg, hm⟩ := hp
          have hfr := clr_free h z n len cf
          refine ⟨_, _, _, a + 1, _, rfl, hg, hm, ⟨updH_zero (by omega) (clr_zero _ _ hF.z), (hF.u.sub (clr_sub h _ _)).upd _ s (clr_none (by omega) hno)⟩, by omega, by omega, fun x y R S e' hr hq => ?_⟩
          unfold RAskR RAskP at hq
          rw [if_pos hs, if_neg c1, if_neg c0, if_neg cf] at hq
          exact hq
  · rw [if_neg hs] at hp
    obtain ⟨rfl, rfl⟩ := hp
    refine ⟨_, _, _, a, h, rfl, grown_self _ _, H, hF, by omega, by omega, fun x y R S e' hr hq => ?_⟩
    unfold RAskR at hq
    rw [if_neg hs] at hq
    obtain ⟨rfl, rfl⟩ := hq
    exact ⟨rfl, S, Keep.refl _ _ _, .inl rfl, hr⟩
end
end Go.Proofs.Ytbehdccjiodlpaa
