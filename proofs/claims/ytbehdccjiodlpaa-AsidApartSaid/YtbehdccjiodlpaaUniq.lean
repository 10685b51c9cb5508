/- Each space at most once: the plain law of the asids. -/
import Derived.Test.YtbehdccjiodlpaaRefI
namespace Go.Proofs.Ytbehdccjiodlpaa

def Uniq (h : Nat → Int) (n : Nat) : Prop := ∀ i j, 1 ≤ i → i ≤ n → 1 ≤ j → j ≤ n → h i = h j → h i ≠ 0 → i = j
theorem Uniq.start (n : Nat) : Uniq (fun _ => 0) n := fun _ _ _ _ _ _ _ h => absurd rfl h
theorem Uniq.upd {h : Nat → Int} {n : Nat} (hU : Uniq h n) (k : Nat) (s : Int) (hs : ∀ j, 1 ≤ j → j ≤ n → h j ≠ s) : Uniq (updH h k s) n := by
  intro i j i1 i2 j1 j2 e h0
  unfold updH at e h0
  by_cases ei : i = k
  · rw [if_pos ei] at e h0
    by_cases ej : j = k
    · omega
    · rw [if_neg ej] at e
      exact absurd e.symm (hs j j1 j2)
  · rw [if_neg ei] at e h0
    by_cases ej : j = k
    · rw [if_pos ej] at e
      exact absurd e (hs i i1 i2)
    · rw [if_neg ej] at e
      exact hU i j i1 i2 j1 j2 e h0
theorem Uniq.sub {h g : Nat → Int} {n : Nat} (hU : Uniq h n) (hg : ∀ j, g j = h j ∨ g j = 0) : Uniq g n := by
  intro i j i1 i2 j1 j2 e h0
  rcases hg i with ei | ei
  · rcases hg j with ej | ej
    · exact hU i j i1 i2 j1 j2 (by rw [← ei, ← ej]; exact e) (by rw [← ei]; exact h0)
    · exact absurd (e.trans ej) h0
  · exact absurd ei h0
theorem clr_sub (h : Nat → Int) (m q j : Nat) : clr h m q j = h j ∨ clr h m q j = 0 := by
  unfold clr
  split
  · exact .inr rfl
  · exact .inl rfl
theorem goneTo_sub (h : Nat → Int) (s : Int) (q j : Nat) : goneTo h s q j = h j ∨ goneTo h s q j = 0 := by
  unfold goneTo
  split
  · exact .inr rfl
  · exact .inl rfl
theorem gone_eq {h : Nat → Int} {n : Nat} (hU : Uniq h n) (s : Int) (hs : 1 ≤ s ∧ s ≤ 6) : goneTo h s (n + 1) = hGone h n s := by
  have ho : ofF h n s = find h n s := if_pos hs
  unfold hGone
  rw [ho]
  funext j
  unfold goneTo
  rcases find_spec (h := h) (n := n) s with ⟨h0, hno⟩ | ⟨h1, h2, h3, _⟩
  · rw [h0, if_neg (show ¬ 0 < 0 by omega), if_neg]
    rintro ⟨j1, j2, e⟩
    exact hno j j1 (by omega) e
  · rw [if_pos (show 0 < find h n s by omega)]
    unfold updH
    by_cases e : j = find h n s
    · rw [if_pos e, if_pos ⟨by omega, by omega, by rw [e]; exact h3⟩]
    · rw [if_neg e, if_neg]
      rintro ⟨j1, j2, e2⟩
      exact e (hU j (find h n s) j1 (by omega) h1 h2 (e2.trans h3.symm) (by omega))
/-- No space has two after an ask. -/
theorem find_none {h : Nat → Int} {n : Nat} {s : Int} (h0 : find h n s = 0) : ∀ j, 1 ≤ j → j ≤ n → h j ≠ s := by
  rcases find_spec (h := h) (n := n) s with ⟨_, hno⟩ | ⟨h1, _⟩
  · exact hno
  · omega
theorem clr_none {h : Nat → Int} {n m q : Nat} {s : Int} (hs : s ≠ 0) (hno : ∀ j, 1 ≤ j → j ≤ n → h j ≠ s) : ∀ j, 1 ≤ j → j ≤ n → clr h m q j ≠ s := fun j h1 h2 e => by
  rcases clr_sub h m q j with c | c
  · exact hno j h1 h2 (c.symm.trans e)
  · exact hs (e.symm.trans c)
end Go.Proofs.Ytbehdccjiodlpaa
