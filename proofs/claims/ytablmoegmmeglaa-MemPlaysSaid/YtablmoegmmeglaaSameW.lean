/- Words wherever it is called; SameWords of two rows that are alike. -/
import Derived.Test.YtablmoegmmeglaaWords
namespace Go.Proofs.Ytablmoegmmeglaa
open Go.RowKit
variable {w : World} {O : Nat → Prop} {B n bm : Nat} {V : Nat → Int} {pt : Int → Option Nat}

/-- Frame k's words. -/
def fW (n : Nat) (V : Nat → Int) (k : Int) : Nat → Int := if 0 ≤ k ∧ k < n then fun j => V (512 * k.toNat + j) else fun _ => 0
theorem row_nil (w : World) (f : Nat → Int) (hf : ∀ j, j < 512 → f j = 0) : Row w f (.returned (.slice none 0 0)) w := by
  obtain ⟨h1, h2⟩ := cellsW_zero f 512 hf
  exact ⟨_, rfl, by rw [h1, h2]; exact World.ownsRow_nil _ _ _ _, grown_refl w⟩
theorem words_none (h : MemI w O B n V bm pt) (k : Int) (hk : (Lit.int .i64 k).wf = true) (hp : pt k = none) :
    Calls Try.prog 17 #[.pointer (some ⟨B, 0, none⟩), .int .i64 k] w (Same w (.slice none 0 0)) := by
  have c1 := h.cellM
  have hlk := h.pm.look k hk
  rw [hp] at hlk
  have hlk' : (Instr.lookup 68 (.map (some bm)) (.int .i64 k) false).run Try.prog w = .ok (.pointer none) w := hlk
  clear hlk h hp hk
  go_enter Try.func17, Try.ntmps17
  go_wp2_with fail
  go_ret
  exact ⟨rfl, rfl⟩
theorem words_any (h : Mem w O B n V) (k : Int) (hk : (Lit.int .i64 k).wf = true) :
    Calls Try.prog 17 #[.pointer (some ⟨B, 0, none⟩), .int .i64 k] w (Row w (fW n V k)) := by
  obtain ⟨bm, pt, h⟩ := h
  unfold fW
  cases hp : pt k with
  | none =>
    refine (words_none h k hk hp).mono ?_
    rintro e w' ⟨rfl, rfl⟩
    refine row_nil _ _ (fun j hj => ?_)
    split
    · rename_i hc
      obtain ⟨i, rfl⟩ := Int.eq_ofNat_of_zero_le hc.1
      exact h.fr.zero i (by omega) hp j hj
    · rfl
  | some g =>
    have hc := h.fr.inN k g hp
    obtain ⟨i, rfl⟩ := Int.eq_ofNat_of_zero_le hc.1
    rw [if_pos hc]
    exact words_some h i (by omega) hp

theorem cellsW_len (f : Nat → Int) (k : Nat) : (cellsW f k).length = 2 * cntW f k := by
  induction k with
  | zero => rfl
  | succ k ih =>
    unfold cellsW cntW
    rw [List.length_append, ih]
    split <;> simp <;> omega
theorem cellsW_at (f : Nat → Int) (k i : Nat) (hi : i < cntW f k) : ∃ a b, (cellsW f k)[2 * i]? = some (.int .i64 a) ∧ (cellsW f k)[2 * i + 1]? = some (.int .u64 b) := by
  induction k with
  | zero => unfold cntW at hi; omega
  | succ k ih =>
    unfold cntW at hi
    unfold cellsW
    have hl := cellsW_len f k
    by_cases hf : f k = 0
    · rw [if_pos hf] at hi ⊢
      rw [List.append_nil]
      exact ih (by omega)
    · rw [if_neg hf] at hi ⊢
      by_cases hlt : i < cntW f k
      · obtain ⟨a, b, h1, h2⟩ := ih hlt
        exact ⟨a, b, by rw [List.getElem?_append_left (by omega)]; exact h1, by rw [List.getElem?_append_left (by omega)]; exact h2⟩
      · have hik : i = cntW f k := by omega
        subst hik
        exact ⟨k, f k, by rw [List.getElem?_append_right (by omega), hl, Nat.sub_self]; rfl, by rw [List.getElem?_append_right (by omega), hl, show 2 * cntW f k + 1 - 2 * cntW f k = 1 from by omega]; rfl⟩

theorem own_form {base : Nat} {v : Value} {c : Nat} {xs : List Value} (h : w.ownsRow base 80 2 v c xs) :
    ∃ ad cap, v = .slice ad c cap ∧ (0 < c → ∃ g, ad = some ⟨g, 0, none⟩ ∧ ∀ j u, xs[j]? = some u → w.cell? ⟨g, j, none⟩ = some u) := by
  obtain ⟨hl, h | ⟨g, cap, cur, rfl, _, hb, hn, _, hsz, hxs⟩⟩ := h
  · obtain ⟨rfl, rfl⟩ := h
    exact ⟨none, 0, rfl, fun c => by omega⟩
  · refine ⟨_, _, rfl, fun _ => ⟨g, rfl, fun j u hu => ?_⟩⟩
    rw [cell_of_row w g j _ _ _ hb]
    rw [← hxs] at hu
    rw [List.getElem?_take] at hu
    split at hu
    · simpa using hu
    · cases hu

set_option maxRecDepth 8000 in
set_option maxHeartbeats 1000000 in
theorem same_words (f : Nat → Int) {b1 b2 : Nat} {v1 v2 : Value} (h1 : w.ownsRow b1 80 2 v1 (cntW f 512) (cellsW f 512)) (h2 : w.ownsRow b2 80 2 v2 (cntW f 512) (cellsW f 512)) :
    Calls Try.prog 16 #[v1, v2] w (fun e w' => e = .returned (.bool true) ∧ ∃ k, w' = w.drewN k) := by
  obtain ⟨ad1, cap1, rfl, q1⟩ := own_form h1
  obtain ⟨ad2, cap2, rfl, q2⟩ := own_form h2
  have hc := cntW_le f 512
  have hat := cellsW_at f 512
  clear h1 h2
  generalize cntW f 512 = c at hc hat q1 q2 ⊢
  generalize cellsW f 512 = xs at hat q1 q2
  by_cases h0 : c = 0
  · subst h0
    clear hat q1 q2
    go_enter Try.func16, Try.ntmps16
    go_wp2_with fail
    refine wp_loop_rounds 1 ?_
    rw [rounds_succ]
    go_wp2_with fail
    go_ret
    exact ⟨rfl, 0, rfl⟩
  · obtain ⟨g1, rfl, r1⟩ := q1 (by omega)
    obtain ⟨g2, rfl, r2⟩ := q2 (by omega)
    have R1 := Lib.hid r1
    have R2 := Lib.hid r2
    have HAT := Lib.hid hat
    have HC := Lib.hid hc
    clear q1 q2 r1 r2 hat hc h0
    go_enter Try.func16, Try.ntmps16
    go_wp2_with fail
    go_loopw [5] (fun i wr => ∃ j : Nat, j ≤ c ∧ i = .int .i64 j ∧ ∃ k, wr = w.drewN k) (fun i _ => c + 1 - (intOf i).toNat)
    case atStart => exact ⟨0, by omega, rfl, 0, rfl⟩
    case round =>
      obtain ⟨j, hj, rfl, k, rfl⟩ := hrel
      have HJ := Lib.hid hj
      clear hj
      by_cases hjc : (j : Int) < c
      · obtain ⟨a, b, e1, e2⟩ := HAT.out j (by omega)
        have d1 : w.cell? ⟨g1, j * 2, none⟩ = some (.int .i64 a) := by rw [Nat.mul_comm]; exact R1.out _ _ e1
        have d2 : w.cell? ⟨g1, j * 2 + 1, none⟩ = some (.int .u64 b) := by rw [Nat.mul_comm]; exact R1.out _ _ e2
        have d3 : w.cell? ⟨g2, j * 2, none⟩ = some (.int .i64 a) := by rw [Nat.mul_comm]; exact R2.out _ _ e1
        have d4 : w.cell? ⟨g2, j * 2 + 1, none⟩ = some (.int .u64 b) := by rw [Nat.mul_comm]; exact R2.out _ _ e2
        clear e1 e2
        go_wp2_with fail
        go_quiet (fail)
        go_wp2_with fail
        have hcc := HC.out
        have hwj := IntWalk.wrap64_in ((j : Int) + 1) (by omega)
        go_roundw
        case rel => exact ⟨j + 1, by omega, by rw [hwj]; rfl, _, rfl⟩
        case measure => rw [hwj]; simp [intOf]; omega
      · have hje : j = c := by have := HJ.out; omega
        subst hje
        go_wp2_with fail
        go_ret
        exact ⟨rfl, k, rfl⟩
end Go.Proofs.Ytablmoegmmeglaa
