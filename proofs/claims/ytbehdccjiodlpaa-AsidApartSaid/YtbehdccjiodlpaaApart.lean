/- AsidApart's plain law: what an ask leaves, what the law's own rows hold. -/
import Derived.Test.YtbehdccjiodlpaaTwo
namespace Go.Proofs.Ytbehdccjiodlpaa
open Go.RowKit
variable {w w1 : World} {G n len : Nat} {a : Int} {h h1 ow K : Nat → Int} {z : Nat → Int} {s : Int}

/-- What an ask that answers i leaves of who has what. -/
structure After (h h1 z : Nat → Int) (n len : Nat) (s : Int) (i : Nat) (f : Bool) : Prop where
  s1 : 1 ≤ s
  s6 : s ≤ 6
  i1 : 1 ≤ i
  i2 : i ≤ n
  has : h1 i = s
  stay : ∀ j, 1 ≤ j → j ≤ n → Runs z n len j → h j ≠ 0 → h1 j = h j
  same : f = false → (h i = 0 ∨ h i = s) ∧ ∀ j, j ≠ i → h1 j = h j
  new : f = true → ¬ Runs z n len i

/-- What an ask leaves: nothing turned, and an error; or i is given. -/
def Asked (w : World) (G n : Nat) (a : Int) (h z : Nat → Int) (len : Nat) (s : Int) (e : Ending) (w1 : World) : Prop :=
  w.grownBy w1 (some G) ∧
    ((∃ err : Int, err ≠ 0 ∧ e = .returned (.tuple #[.int .i64 0, .bool false, .int .i64 err]) ∧ Gv w1 G n a h) ∨
      (∃ (i : Nat) (f : Bool) (a1 : Int) (h1 : Nat → Int), e = .returned (.tuple #[.int .i64 i, .bool f, .int .i64 0]) ∧ Gv w1 G n a1 h1 ∧ Fine h1 n ∧ After h h1 z n len s i f ∧ (a1 = if f = true then a + 1 else a)))

theorem find_pos {s : Int} (hp : 0 < find h n s) : 1 ≤ find h n s ∧ find h n s ≤ n ∧ h (find h n s) = s := by
  rcases find_spec (h := h) (n := n) s with ⟨h0, _⟩ | ⟨h1, h2, h3, _⟩
  · omega
  · exact ⟨h1, h2, h3⟩
theorem asked_of {e : Ending} (H : Gv w G n a h) (hF : Fine h n) (hp : AskR w G n a h s (mk z n len) e w1) : Asked w G n a h z len s e w1 := by
  unfold AskR AskP at hp
  by_cases hs : 1 ≤ s ∧ s ≤ 6
  · rw [if_pos hs] at hp
    by_cases c1 : 0 < find h n s
    · rw [if_pos c1] at hp
      obtain ⟨rfl, rfl⟩ := hp
      obtain ⟨f1, f2, f3⟩ := find_pos c1
      exact ⟨grown_self _ _, .inr ⟨_, _, a, h, rfl, H, hF, ⟨hs.1, hs.2, f1, f2, f3, fun _ _ _ _ _ => rfl, fun _ => ⟨.inr f3, fun _ _ => rfl⟩, fun c => by cases c⟩, rfl⟩⟩
    · rw [if_neg c1] at hp
      have hno := find_none (h := h) (n := n) (s := s) (by omega)
      by_cases c0 : 0 < find h n 0
      · rw [if_pos c0] at hp
        obtain ⟨rfl, hg, hm⟩ := hp
        obtain ⟨f1, f2, f3⟩ := find_pos c0
        refine ⟨hg, .inr ⟨_, _, a, _, rfl, hm, ⟨updH_zero (by omega) hF.z, hF.u.upd _ s hno⟩, ⟨hs.1, hs.2, f1, f2, if_pos rfl, fun j _ _ _ hj => ?_, fun _ => ⟨.inl f3, fun j hj => if_neg hj⟩, fun c => by cases c⟩, rfl⟩⟩
        exact if_neg fun e => hj (by rw [e]; exact f3)
      · rw [if_neg c0] at hp
        have hn0 := find_none (h := h) (n := n) (s := 0) (by omega)
        by_cases cf : mk z n len = 2 ^ (n + 1) - 2
        · rw [if_pos cf] at hp
          obtain ⟨rfl, hg, hm⟩ := hp
          exact ⟨hg, .inl ⟨20, by omega, rfl, hm⟩⟩
        · rw [if_neg cf] at hp
          obtain ⟨rfl, hg, hm⟩ := hp
          have hfr := clr_free h z n len cf
          obtain ⟨f1, f2, f3⟩ := find_pos (h := clr h (mk z n len) (n + 1)) (n := n) (s := 0) (by omega)
          have hrun : ∀ j, Runs z n len j → clr h (mk z n len) (n + 1) j = h j := fun j hj => if_neg fun c => by
            rw [(mk_bit z n len j).2 hj] at c
            cases c.2.2
          refine ⟨hg, .inr ⟨_, _, a + 1, _, rfl, hm, ⟨updH_zero (by omega) (clr_zero _ _ hF.z), (hF.u.sub (clr_sub h _ _)).upd _ s (clr_none (by omega) hno)⟩, ⟨hs.1, hs.2, f1, f2, if_pos rfl, fun j _ _ hr hj => ?_, (fun c => by cases c), fun _ hr => ?_⟩, rfl⟩⟩
          · exact (if_neg fun e => hj (by rw [← hrun j hr, e]; exact f3)).trans (hrun j hr)
          · exact hn0 _ f1 f2 ((hrun _ hr).symm.trans f3)
  · rw [if_neg hs] at hp
    obtain ⟨rfl, rfl⟩ := hp
    exact ⟨grown_self _ _, .inl ⟨2, by omega, rfl, H⟩⟩

/-- Who had it last, and was not flushed, nor gone: it is who has it. -/
def Owns (h ow : Nat → Int) (n : Nat) : Prop := ∀ j, ow j = 0 ∨ (1 ≤ j ∧ j ≤ n ∧ ow j = h j)
/-- Who has one, and runs. -/
def Kept (h z : Nat → Int) (n len : Nat) (K : Nat → Int) : Prop := ∀ j, K j = 0 ∨ (1 ≤ j ∧ j ≤ n ∧ h j = K j ∧ 1 ≤ K j ∧ K j ≤ 6 ∧ Runs z n len j)
theorem Kept.start (h z : Nat → Int) (n len : Nat) : Kept h z n len fun _ => 0 := fun _ => .inl rfl
theorem Owns.start (h : Nat → Int) (n : Nat) : Owns h (fun _ => 0) n := fun _ => .inl rfl
theorem Kept.put (hK : Kept h z n len K) {x t : Nat} (s : Int) (hs1 : 1 ≤ s) (hs6 : s ≤ 6) (hx1 : 1 ≤ x) (hx2 : x ≤ n) (hx : h x = s) (ht : t < len) (hz : z t = x) : Kept h z n len (updH K x s) := fun j => by
  unfold updH
  by_cases e : j = x
  · rw [if_pos e]
    subst e
    exact .inr ⟨hx1, hx2, hx, hs1, hs6, hx1, hx2, t, ht, hz⟩
  · rw [if_neg e]
    exact hK j
/-- The owner's row of 17, those of s struck below q. -/
def strike (ow : Nat → Int) (s : Int) (q : Nat) : Nat → Int := fun j => if j < q ∧ ow j = s then 0 else ow j
theorem strike_zero (ow : Nat → Int) (s : Int) : strike ow s 0 = ow := by
  funext j
  exact if_neg fun c => by omega
theorem strike_at (ow : Nat → Int) (s : Int) (q : Nat) : strike ow s q q = ow q := if_neg fun c => by omega
theorem strike_hit {q : Nat} (e : ow q = s) : updH (strike ow s q) q 0 = strike ow s (q + 1) := by
  funext j
  unfold updH strike
  by_cases c : j = q
  · subst c
    rw [if_pos rfl, if_pos ⟨by omega, e⟩]
  · rw [if_neg c]
    by_cases d : j < q ∧ ow j = s
    · rw [if_pos d, if_pos ⟨by omega, d.2⟩]
    · rw [if_neg d, if_neg fun d' => d ⟨by omega, d'.2⟩]
theorem strike_miss {q : Nat} (e : ow q ≠ s) : strike ow s q = strike ow s (q + 1) := by
  funext j
  unfold strike
  by_cases d : j < q ∧ ow j = s
  · rw [if_pos d, if_pos ⟨by omega, d.2⟩]
  · rw [if_neg d, if_neg]
    rintro ⟨d1, d2⟩
    by_cases c : j = q
    · subst c; exact e d2
    · exact d ⟨by omega, d2⟩
/-- A space is gone: its own is struck at both. -/
theorem Owns.gone (hO : Owns h ow n) (hn : n ≤ 16) (hs : 1 ≤ s ∧ s ≤ 6) : Owns (hGone h n s) (strike ow s 17) n := fun j => by
  unfold strike
  by_cases d : j < 17 ∧ ow j = s
  · rw [if_pos d]; exact .inl rfl
  · rw [if_neg d]
    rcases hO j with h0 | ⟨j1, j2, e⟩
    · exact .inl h0
    · refine .inr ⟨j1, j2, ?_⟩
      have hne : h j ≠ s := fun c => d ⟨by omega, e.trans c⟩
      unfold hGone
      by_cases c : 0 < ofF h n s
      · rw [if_pos c]
        unfold updH
        rw [if_neg]
        · exact e
        · intro ej
          have ho : ofF h n s = find h n s := if_pos hs
          rw [ho] at c ej
          exact hne (by rw [ej]; exact (find_pos c).2.2)
      · rw [if_neg c]; exact e

theorem After.free {i : Nat} (A : After h h1 z n len s i false) (hO : Owns h ow n) : ow i = 0 ∨ ow i = s := by
  rcases hO i with h0 | ⟨_, _, e⟩
  · exact .inl h0
  · rcases (A.same rfl).1 with c | c
    · exact .inl (e.trans c)
    · exact .inr (e.trans c)
theorem After.clean {i : Nat} (A : After h h1 z n len s i true) (hK : Kept h z n len K) : K i = 0 := by
  rcases hK i with h0 | ⟨_, _, _, _, _, hr⟩
  · exact h0
  · exact absurd hr (A.new rfl)
theorem After.owns {i : Nat} (A : After h h1 z n len s i false) (hO : Owns h ow n) : Owns h1 (updH ow i s) n := fun j => by
  unfold updH
  by_cases e : j = i
  · rw [if_pos e]
    subst e
    exact .inr ⟨A.i1, A.i2, A.has.symm⟩
  · rw [if_neg e]
    rcases hO j with h0 | ⟨j1, j2, c⟩
    · exact .inl h0
    · exact .inr ⟨j1, j2, c.trans ((A.same rfl).2 j e).symm⟩
theorem After.keeps {i : Nat} {f : Bool} (A : After h h1 z n len s i f) (hK : Kept h z n len K) (j : Nat) : K j = 0 ∨ (1 ≤ j ∧ j ≤ n ∧ h1 j = K j ∧ 1 ≤ K j ∧ K j ≤ 6) := by
  rcases hK j with h0 | ⟨j1, j2, e, k1, k6, hr⟩
  · exact .inl h0
  · exact .inr ⟨j1, j2, (A.stay j j1 j2 hr (by omega)).trans e, k1, k6⟩
theorem After.kept {i : Nat} {f : Bool} (A : After h h1 z n len s i f) (hK : Kept h z n len K) : Owns h1 (updH K i s) n := fun j => by
  unfold updH
  by_cases e : j = i
  · rw [if_pos e]
    subst e
    exact .inr ⟨A.i1, A.i2, A.has.symm⟩
  · rw [if_neg e]
    rcases A.keeps hK j with h0 | ⟨j1, j2, c, _⟩
    · exact .inl h0
    · exact .inr ⟨j1, j2, c.symm⟩
theorem of_uniq (hU : Uniq h n) {j : Nat} (j1 : 1 ≤ j) (j2 : j ≤ n) (hs : 1 ≤ s ∧ s ≤ 6) (e : h j = s) : ofF h n s = j := by
  have ho : ofF h n s = find h n s := if_pos hs
  rw [ho]
  rcases find_spec (h := h) (n := n) s with ⟨_, hno⟩ | ⟨f1, f2, f3, _⟩
  · exact absurd e (hno j j1 j2)
  · exact hU _ _ f1 f2 j1 j2 (f3.trans e.symm) (by omega)
/-- Who ran has the same still. -/
theorem After.still {i : Nat} {f : Bool} (A : After h h1 z n len s i f) (hF : Fine h1 n) (hK : Kept h z n len K) {j : Nat} (hj : K j ≠ 0) : ofF h1 n (K j) = j := by
  rcases A.keeps hK j with h0 | ⟨j1, j2, c, k1, k6⟩
  · exact absurd h0 hj
  · exact of_uniq hF.u j1 j2 ⟨k1, k6⟩ c
theorem of_pos (hp : 0 < ofF h n s) : 1 ≤ ofF h n s ∧ ofF h n s ≤ n ∧ h (ofF h n s) = s ∧ 1 ≤ s ∧ s ≤ 6 := by
  by_cases hs : 1 ≤ s ∧ s ≤ 6
  · have ho : ofF h n s = find h n s := if_pos hs
    rw [ho] at hp ⊢
    obtain ⟨f1, f2, f3⟩ := find_pos hp
    exact ⟨f1, f2, f3, hs.1, hs.2⟩
  · exact absurd hp (by unfold ofF; rw [if_neg hs]; omega)
/-- Those that were seen: of a space below t. -/
def Seen (h : Nat → Int) (t : Nat) (B : Nat → Bool) : Prop := ∀ j, B j = true → h j < t
theorem Seen.start (h : Nat → Int) (t : Nat) : Seen h t fun _ => false := fun _ c => by cases c
theorem Seen.fresh {t x : Nat} {B : Nat → Bool} (hS : Seen h t B) (e : h x = t) : B x = false := by
  cases c : B x
  · rfl
  · have := hS x c
    omega
theorem Seen.more {t : Nat} {B : Nat → Bool} (hS : Seen h t B) : Seen h (t + 1) B := fun j c => by
  have := hS j c
  omega
def updB (B : Nat → Bool) (x : Nat) : Nat → Bool := fun j => if j = x then true else B j
theorem Seen.put {t x : Nat} {B : Nat → Bool} (hS : Seen h t B) (e : h x = t) : Seen h (t + 1) (updB B x) := fun j c => by
  unfold updB at c
  by_cases d : j = x
  · subst d
    omega
  · rw [if_neg d] at c
    have := hS j c
    omega
end Go.Proofs.Ytbehdccjiodlpaa
