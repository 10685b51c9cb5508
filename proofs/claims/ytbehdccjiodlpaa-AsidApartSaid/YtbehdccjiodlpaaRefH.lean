/- How many are free, at the giver and at the reference's; the reference's least and Gone. -/
import Derived.Test.YtbehdccjiodlpaaRefG
namespace Go.Proofs.Ytbehdccjiodlpaa
open Go.RowKit
variable {w w' : World} {G R S n : Nat} {a : Int} {h : Nat → Int}

/-- How many of the first q are free. -/
def cz (h : Nat → Int) : Nat → Nat
  | 0 => 0
  | q + 1 => cz h q + (if h (q + 1) = 0 then 1 else 0)
theorem cz_le (h : Nat → Int) : ∀ q, cz h q ≤ q
  | 0 => Nat.le_refl _
  | q + 1 => by
    have := cz_le h q
    unfold cz
    split <;> omega
theorem cz_pos (h : Nat → Int) : ∀ q, (0 < cz h q ↔ ∃ j, 1 ≤ j ∧ j ≤ q ∧ h j = 0)
  | 0 => by
    unfold cz
    constructor
    · intro h0; omega
    · rintro ⟨j, h1, h2, _⟩; omega
  | q + 1 => by
    have ih := cz_pos h q
    unfold cz
    by_cases e : h (q + 1) = 0
    · rw [if_pos e]
      exact ⟨fun _ => ⟨q + 1, by omega, by omega, e⟩, fun _ => by omega⟩
    · rw [if_neg e, Nat.add_zero, ih]
      constructor
      · rintro ⟨j, h1, h2, h3⟩; exact ⟨j, h1, by omega, h3⟩
      · rintro ⟨j, h1, h2, h3⟩
        refine ⟨j, h1, ?_, h3⟩
        by_cases ej : j = q + 1
        · subst ej; exact absurd h3 e
        · omega
theorem cz_find (h : Nat → Int) (n : Nat) : 0 < cz h n ↔ 0 < find h n 0 := by
  rw [cz_pos]
  rcases find_spec (h := h) (n := n) 0 with ⟨h0, hno⟩ | ⟨h1, h2, h3, _⟩
  · rw [h0]
    constructor
    · rintro ⟨j, a1, a2, a3⟩; exact absurd a3 (hno j a1 a2)
    · intro c; omega
  · exact ⟨fun _ => by omega, fun _ => ⟨_, h1, h2, h3⟩⟩

set_option maxHeartbeats 400000 in
theorem free_any (H : Gv w G n a h) : Calls Try.prog 18 #[.pointer (some ⟨G, 0, none⟩)] w (Same w (.int .i64 (cz h n))) := by
  have c0 := H.cellN
  have hn := H.n16
  have HH := Lib.hid H
  clear H
  go_enter Try.func18, Try.ntmps18
  go_wp2_with fail
  go_loopw [3, 4] (fun c i wr => ∃ q : Nat, q ≤ n ∧ i = .int .i64 ((q : Int) + 1) ∧ c = .int .i64 (cz h q) ∧ wr = w) (fun _ i _ => n + 2 - (intOf i).toNat)
  case atStart => exact ⟨0, by omega, rfl, rfl, rfl⟩
  case round =>
    obtain ⟨q, hq, rfl, rfl, rfl⟩ := hrel
    have hcl := cz_le h q
    by_cases hqn : (q : Int) + 1 ≤ n
    · have cH := HH.out.cellH (q + 1) (by omega)
      have hcz : cz h (q + 1) = cz h q + (if h (q + 1) = 0 then 1 else 0) := rfl
      obtain ⟨m, hm⟩ : ∃ m, m = cz h q := ⟨_, rfl⟩
      rw [← hm] at hcz hcl ⊢
      by_cases he : h (q + 1) = 0
      · rw [if_pos he] at hcz
        have HC := Lib.hid hcz
        rw [he] at cH
        clear hcz he hm
        go_wp2_with fail
        go_roundw
        case rel => exact ⟨q + 1, by omega, by go_num, by rw [HC.out]; go_num, trivial⟩
        case measure => simp [intOf]; omega
      · rw [if_neg he] at hcz
        have HC := Lib.hid hcz
        have hne : (h (q + 1) == 0) = false := by simpa using he
        clear hcz he hm
        go_wp2_with fail
        go_roundw
        case rel => exact ⟨q + 1, by omega, by go_num, by rw [HC.out]; rfl, trivial⟩
        case measure => simp [intOf]; omega
    · have hqe : q = n := by omega
      subst hqe
      go_wp2_with fail
      go_ret
      exact ⟨rfl, rfl⟩

set_option maxHeartbeats 400000 in
theorem rfree_any (H : RGv w R S n a h) : Calls Try.prog 19 #[.pointer (some ⟨R, 0, none⟩)] w (Same w (.int .i64 (cz h n))) := by
  have c0 := H.cellR
  have hn := H.n16
  have HH := Lib.hid H
  clear H
  go_enter Try.func19, Try.ntmps19
  go_wp2_with fail
  go_loopw [3, 4] (fun c i wr => ∃ q : Nat, q ≤ n ∧ i = .int .i64 ((q : Int) + 1) ∧ c = .int .i64 (cz h q) ∧ wr = w) (fun _ i _ => n + 2 - (intOf i).toNat)
  case atStart => exact ⟨0, by omega, rfl, rfl, rfl⟩
  case round =>
    obtain ⟨q, hq, rfl, rfl, rfl⟩ := hrel
    have hcl := cz_le h q
    by_cases hqn : (q : Int) + 1 ≤ n
    · have cH := HH.out.cellH (q + 1) (by omega)
      have hcz : cz h (q + 1) = cz h q + (if h (q + 1) = 0 then 1 else 0) := rfl
      obtain ⟨m, hm⟩ : ∃ m, m = cz h q := ⟨_, rfl⟩
      rw [← hm] at hcz hcl ⊢
      by_cases he : h (q + 1) = 0
      · rw [if_pos he] at hcz
        have HC := Lib.hid hcz
        rw [he] at cH
        clear hcz he hm
        go_wp2_with fail
        go_roundw
        case rel => exact ⟨q + 1, by omega, by go_num, by rw [HC.out]; go_num, trivial⟩
        case measure => simp [intOf]; omega
      · rw [if_neg he] at hcz
        have HC := Lib.hid hcz
        have hne : (h (q + 1) == 0) = false := by simpa using he
        clear hcz he hm
        go_wp2_with fail
        go_roundw
        case rel => exact ⟨q + 1, by omega, by go_num, by rw [HC.out]; rfl, trivial⟩
        case measure => simp [intOf]; omega
    · have hqe : q = n := by omega
      subst hqe
      go_wp2_with fail
      go_ret
      exact ⟨rfl, rfl⟩

set_option maxHeartbeats 400000 in
theorem least_any (H : RGv w R S n a h) (s : Int) (hf0 : 0 < find h n 0) : Calls Try.prog 25 #[.pointer (some ⟨R, 0, none⟩), .int .i64 s] w
    (fun e w' => e = .returned (.int .i64 (find h n 0)) ∧ w' = w.setCell ⟨S, find h n 0, none⟩ (.int .i64 s)) := by
  have c0 := H.cellR
  have hn := H.n16
  have HH := Lib.hid H
  clear H
  go_enter Try.func25, Try.ntmps25
  go_wp2_with fail
  go_loopw [5] (fun i wr => ∃ q : Nat, 1 ≤ q ∧ q ≤ n + 1 ∧ i = .int .i64 q ∧ wr = w ∧ find h n 0 = from_ h 0 q (n + 1 - q)) (fun i _ => n + 2 - (intOf i).toNat)
  case atStart => exact ⟨1, by omega, by omega, rfl, rfl, rfl⟩
  case round =>
    obtain ⟨q, hq1, hq2, rfl, rfl, hf⟩ := hrel
    by_cases hqn : (q : Int) ≤ n
    · have cH := HH.out.cellH q (by omega)
      have fH := HH.out.frozen q
      rw [show n + 1 - q = (n - q) + 1 from by omega] at hf
      by_cases he : h q = 0
      · have hf' : find h n 0 = q := by rw [hf]; unfold from_; rw [if_pos he]
        have HF := Lib.hid hf'
        rw [he] at cH
        clear hf hf' he hf0
        go_wp2_with fail
        go_ret
        exact ⟨by rw [HF.out]; rfl, by rw [HF.out]⟩
      · have hf' : find h n 0 = from_ h 0 (q + 1) (n + 1 - (q + 1)) := by rw [hf, show n + 1 - (q + 1) = n - q from by omega]; exact if_neg he
        have HF := Lib.hid hf'
        have HF0 := Lib.hid hf0
        have hne : (h q == 0) = false := by simpa using he
        clear hf hf' he hf0
        go_wp2_with fail
        go_roundw
        case rel => exact ⟨q + 1, by omega, by omega, by go_num, trivial, HF.out⟩
        case measure => simp [intOf]; omega
    · have hq : q = n + 1 := by omega
      subst hq
      have hf' : find h n 0 = 0 := by rw [hf, Nat.sub_self]; rfl
      omega

/-- All that s has, up to q, struck. -/
def goneTo (h : Nat → Int) (s : Int) (q : Nat) : Nat → Int := fun j => if 1 ≤ j ∧ j < q ∧ h j = s then 0 else h j
set_option maxHeartbeats 400000 in
theorem rgone_any (H : RGv w R S n a h) (s : Int) (hs : 1 ≤ s ∧ s ≤ 6) : Calls Try.prog 15 #[.pointer (some ⟨R, 0, none⟩), .int .i64 s] w (DidR w R S n a (goneTo h s (n + 1)) (.int .i64 0)) := by
  have c0 := H.cellR
  have hn := H.n16
  have HH := Lib.hid H
  clear H
  go_enter Try.func15, Try.ntmps15
  go_wp2_with fail
  go_loopw [5] (fun i wr => ∃ q : Nat, 1 ≤ q ∧ q ≤ n + 1 ∧ i = .int .i64 q ∧ Keep w R S wr ∧ RGv wr R S n a (goneTo h s q)) (fun i _ => n + 2 - (intOf i).toNat)
  case atStart => exact ⟨1, by omega, by omega, rfl, Keep.refl _ _ _, by
    have e : goneTo h s 1 = h := by
      funext j
      unfold goneTo
      rw [if_neg (by omega)]
    rw [e]
    exact HH.out⟩
  case round =>
    obtain ⟨q, hq1, hq2, rfl, hk, hG⟩ := hrel
    have HK := Lib.hid hk
    have HG := Lib.hid hG
    clear c0
    have c0 := hG.cellR
    clear hk hG
    by_cases hqn : (q : Int) ≤ n
    · have cH := HG.out.cellH q (by omega)
      have fH := HG.out.frozen q
      rw [show goneTo h s q q = h q from if_neg (by omega)] at cH
      by_cases he : h q = s
      · have e : updH (goneTo h s q) q 0 = goneTo h s (q + 1) := by
          funext j
          unfold updH goneTo
          by_cases ej : j = q
          · subst ej; rw [if_pos rfl, if_pos ⟨hq1, by omega, he⟩]
          · rw [if_neg ej]
            by_cases c : 1 ≤ j ∧ j < q ∧ h j = s
            · rw [if_pos c, if_pos ⟨c.1, by omega, c.2.2⟩]
            · rw [if_neg c, if_neg (fun d => c ⟨d.1, by omega, d.2.2⟩)]
        have HE := Lib.hid e
        rw [he] at cH
        clear e he
        go_wp2_with fail
        go_roundw
        case rel => exact ⟨q + 1, by omega, by omega, by go_num, ⟨HK.out.os, HK.out.tape, HK.out.output, by simpa using HK.out.size, fun i hi h1 h2 => (heap_setCell_other _ ⟨S, q, none⟩ i _ h2).trans (HK.out.block i hi h1 h2)⟩, by rw [← HE.out]; exact HG.out.set q 0⟩
        case measure => simp [intOf]; omega
      · have e : goneTo h s q = goneTo h s (q + 1) := by
          funext j
          unfold goneTo
          by_cases c : 1 ≤ j ∧ j < q ∧ h j = s
          · rw [if_pos c, if_pos ⟨c.1, by omega, c.2.2⟩]
          · rw [if_neg c, if_neg]
            rintro ⟨d1, d2, d3⟩
            by_cases ej : j = q
            · subst ej; exact he d3
            · exact c ⟨d1, by omega, d3⟩
        have HE := Lib.hid e
        have hne : (h q == s) = false := by simpa using he
        clear e he
        go_wp2_with fail
        go_roundw
        case rel => exact ⟨q + 1, by omega, by omega, by go_num, HK.out, by rw [← HE.out]; exact HG.out⟩
        case measure => simp [intOf]; omega
    · have hq : q = n + 1 := by omega
      subst hq
      go_wp2_with fail
      go_ret
      exact ⟨rfl, S, HK.out, .inl rfl, HG.out⟩
theorem rgone_bad (s : Int) (hs : ¬ (1 ≤ s ∧ s ≤ 6)) (w : World) : Calls Try.prog 15 #[.pointer (some ⟨R, 0, none⟩), .int .i64 s] w (Same w (.int .i64 2)) := by
  by_cases h1 : s < 1
  · clear hs
    go_enter Try.func15, Try.ntmps15
    go_wp2_with fail
    go_ret
    exact ⟨rfl, rfl⟩
  · have h6 : 6 < s := by omega
    clear hs
    go_enter Try.func15, Try.ntmps15
    go_wp2_with fail
    go_ret
    exact ⟨rfl, rfl⟩
end Go.Proofs.Ytbehdccjiodlpaa
