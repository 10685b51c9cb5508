/- The word of bits in which Ask keeps who runs: plain Lean. -/
import Derived.Test.YtbehdccjiodlpaaGivA
import Derived.Laws.Bits64b
namespace Go.Proofs.Ytbehdccjiodlpaa

/-- The bits of the first q of z that lie in 1 .. n. -/
def mk (z : Nat → Int) (n : Nat) : Nat → Nat
  | 0 => 0
  | q + 1 => if 1 ≤ z q ∧ z q ≤ n then mk z n q ||| 2 ^ (z q).toNat else mk z n q
/-- i is among the first q of z, and in 1 .. n. -/
def Runs (z : Nat → Int) (n q : Nat) (i : Nat) : Prop := 1 ≤ i ∧ i ≤ n ∧ ∃ k, k < q ∧ z k = (i : Int)
theorem mk_bit (z : Nat → Int) (n : Nat) : ∀ q i, (mk z n q).testBit i = true ↔ Runs z n q i
  | 0, i => by
    unfold mk Runs
    simp
  | q + 1, i => by
    have ih := mk_bit z n q i
    unfold mk
    have key : Runs z n (q + 1) i ↔ Runs z n q i ∨ (1 ≤ i ∧ i ≤ n ∧ z q = (i : Int)) := by
      unfold Runs
      constructor
      · rintro ⟨h1, h2, k, hk, e⟩
        by_cases ek : k = q
        · subst ek; exact .inr ⟨h1, h2, e⟩
        · exact .inl ⟨h1, h2, k, by omega, e⟩
      · rintro (⟨h1, h2, k, hk, e⟩ | ⟨h1, h2, e⟩)
        · exact ⟨h1, h2, k, by omega, e⟩
        · exact ⟨h1, h2, q, by omega, e⟩
    rw [key]
    by_cases hz : 1 ≤ z q ∧ z q ≤ n
    · rw [if_pos hz, Nat.testBit_or, Nat.testBit_two_pow, Bool.or_eq_true, ih, decide_eq_true_eq]
      constructor
      · rintro (h | h)
        · exact .inl h
        · exact .inr ⟨by omega, by omega, by omega⟩
      · rintro (h | ⟨h1, h2, h3⟩)
        · exact .inl h
        · exact .inr (by omega)
    · rw [if_neg hz, ih]
      constructor
      · exact .inl
      · rintro (h | ⟨h1, h2, h3⟩)
        · exact h
        · exact absurd (by omega) hz
theorem mk_lt (z : Nat → Int) (n q : Nat) : mk z n q < 2 ^ (n + 1) := by
  refine Nat.lt_pow_two_of_testBit _ fun i hi => ?_
  cases hb : (mk z n q).testBit i
  · rfl
  · have := ((mk_bit z n q i).1 hb).2.1
    omega
theorem mk_lt17 (z : Nat → Int) (n q : Nat) (hn : n ≤ 16) : mk z n q < 131072 := by
  have h1 := mk_lt z n q
  have h2 : 2 ^ (n + 1) ≤ 2 ^ 17 := Nat.pow_le_pow_right (by omega) (by omega)
  omega
/-- All of 1 .. n run: just then the word is full. -/
theorem mk_full (z : Nat → Int) (n q : Nat) : mk z n q = 2 ^ (n + 1) - 2 ↔ ∀ i, 1 ≤ i → i ≤ n → Runs z n q i := by
  have e : 2 ^ (n + 1) - 2 = (2 ^ n - 1) <<< 1 := by
    rw [Nat.shiftLeft_eq, Nat.pow_succ]
    omega
  have hb : ∀ i, ((2 ^ n - 1) <<< 1).testBit i = (decide (i ≥ 1) && decide (i - 1 < n)) := fun i => by
    rw [Nat.testBit_shiftLeft, Nat.testBit_two_pow_sub_one]
  constructor
  · intro h i h1 h2
    rw [← mk_bit, h, e, hb]
    simp
    omega
  · intro h
    rw [e]
    refine Nat.eq_of_testBit_eq fun i => ?_
    rw [hb]
    by_cases hi : 1 ≤ i ∧ i ≤ n
    · rw [(mk_bit z n q i).2 (h i hi.1 hi.2)]
      symm
      simp
      omega
    · cases hc : (mk z n q).testBit i
      · symm
        simp
        omega
      · have := (mk_bit z n q i).1 hc
        exact absurd ⟨this.1, this.2.1⟩ hi

theorem or_step (m v : Nat) (hm : m < 131072) (hv : v ≤ 16) : bits BinOp.or .u64 (m : Int) (IntKind.u64.wrap (2 ^ v)) = ((m ||| 2 ^ v : Nat) : Int) := by
  have h2 : 2 ^ v ≤ 2 ^ 16 := Nat.pow_le_pow_right (by omega) hv
  have e : IntKind.u64.wrap (2 ^ v) = ((2 ^ v : Nat) : Int) := by
    rw [IntKind.wrap_u64]
    have : ((2 : Int) ^ v) = ((2 ^ v : Nat) : Int) := by norm_cast
    rw [this]
    generalize (2 ^ v : Nat) = p at h2 ⊢
    omega
  rw [e]
  exact bits_or_u64_nat m (2 ^ v) (by omega) (by omega)
/-- 'bits >> i & 1'. -/
theorem and_step (m i : Nat) (hm : m < 131072) : bits BinOp.and .u64 ((m / 2 ^ i : Nat) : Int) 1 = if m.testBit i then 1 else 0 := by
  have h := bits_and_u64_nat (m / 2 ^ i) 1 (by have := Nat.div_le_self m (2 ^ i); omega) (by omega)
  have e : ((1 : Nat) : Int) = 1 := rfl
  rw [e] at h
  rw [h, Nat.and_one_is_mod]
  rw [Nat.testBit_eq_decide_div_mod_eq]
  have := Nat.mod_two_eq_zero_or_one (m / 2 ^ i)
  by_cases hc : m / 2 ^ i % 2 = 1
  · rw [hc]; rfl
  · rw [show m / 2 ^ i % 2 = 0 from by omega]; rfl

theorem full_eq (m n : Nat) (hn : n ≤ 16) : ((m : Int) == IntKind.u64.wrap (IntKind.u64.wrap (2 ^ (n + 1)) - 2)) = decide (m = 2 ^ (n + 1) - 2) := by
  have h1 : 2 ^ (n + 1) ≤ 2 ^ 17 := Nat.pow_le_pow_right (by omega) (by omega)
  have h2 : 2 ^ 1 ≤ 2 ^ (n + 1) := Nat.pow_le_pow_right (by omega) (by omega)
  have e : ((2 : Int) ^ (n + 1)) = ((2 ^ (n + 1) : Nat) : Int) := by norm_cast
  rw [IntKind.wrap_u64, IntKind.wrap_u64, e]
  generalize (2 ^ (n + 1) : Nat) = p at h1 h2 ⊢
  by_cases hm : m = p - 2
  · rw [decide_eq_true hm]
    subst hm
    simp
    omega
  · rw [decide_eq_false hm]
    simp
    omega

theorem and_eq (m i : Nat) (hm : m < 131072) : (bits BinOp.and .u64 ((m : Int) / 2 ^ i) 1 == 0) = !m.testBit i := by
  have h := and_step m i hm
  have e : ((m / 2 ^ i : Nat) : Int) = (m : Int) / 2 ^ i := by norm_cast
  rw [e] at h
  rw [h]
  cases m.testBit i <;> rfl

/-- What is left of who has what, when those below q that do not run are struck. -/
def clr (h : Nat → Int) (m q : Nat) : Nat → Int := fun j => if 1 ≤ j ∧ j < q ∧ m.testBit j = false then 0 else h j
theorem clr_one (h : Nat → Int) (m : Nat) : clr h m 1 = h := by
  funext j
  unfold clr
  rw [if_neg (by omega)]
theorem clr_hit (h : Nat → Int) (m q : Nat) (hq : 1 ≤ q) (hb : m.testBit q = false) : updH (clr h m q) q 0 = clr h m (q + 1) := by
  funext j
  unfold updH clr
  by_cases e : j = q
  · subst e
    rw [if_pos rfl, if_pos ⟨hq, by omega, hb⟩]
  · rw [if_neg e]
    by_cases c : 1 ≤ j ∧ j < q ∧ m.testBit j = false
    · rw [if_pos c, if_pos ⟨c.1, by omega, c.2.2⟩]
    · rw [if_neg c, if_neg (fun d => c ⟨d.1, by omega, d.2.2⟩)]
theorem clr_miss (h : Nat → Int) (m q : Nat) (hb : m.testBit q = true) : clr h m q = clr h m (q + 1) := by
  funext j
  unfold clr
  by_cases c : 1 ≤ j ∧ j < q ∧ m.testBit j = false
  · rw [if_pos c, if_pos ⟨c.1, by omega, c.2.2⟩]
  · rw [if_neg c, if_neg]
    rintro ⟨d1, d2, d3⟩
    by_cases e : j = q
    · subst e; rw [hb] at d3; cases d3
    · exact c ⟨d1, by omega, d3⟩

/-- Where not all run, one is struck, and so free. -/
theorem clr_free (h : Nat → Int) (z : Nat → Int) (n q : Nat) (hf : mk z n q ≠ 2 ^ (n + 1) - 2) : 1 ≤ find (clr h (mk z n q) (n + 1)) n 0 ∧ find (clr h (mk z n q) (n + 1)) n 0 ≤ n := by
  have hx : ∃ i, 1 ≤ i ∧ i ≤ n ∧ ¬ Runs z n q i := Classical.byContradiction fun hc => hf ((mk_full z n q).2 fun i h1 h2 => Classical.byContradiction fun hr => hc ⟨i, h1, h2, hr⟩)
  obtain ⟨i, h1, h2, hr⟩ := hx
  have hb : (mk z n q).testBit i = false := by
    cases hb : (mk z n q).testBit i
    · rfl
    · exact absurd ((mk_bit z n q i).1 hb) hr
  have h0 : clr h (mk z n q) (n + 1) i = 0 := by
    unfold clr
    rw [if_pos ⟨h1, by omega, hb⟩]
  rcases find_spec (h := clr h (mk z n q) (n + 1)) (n := n) 0 with ⟨_, hno⟩ | ⟨a1, a2, _, _⟩
  · exact absurd h0 (hno i h1 h2)
  · exact ⟨a1, a2⟩
end Go.Proofs.Ytbehdccjiodlpaa
