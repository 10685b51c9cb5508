/- A row of asks, read off the arguments. -/
import Derived.Test.YtbehdccjiodlpaaAsks
import Derived.Deep.Slices
import Derived.ProofKit
import Derived.OpenShut
import Derived.ChangeOld
import Derived.Below
namespace Go.Proofs.Ytbehdccjiodlpaa
open Go.ChangeShapes Go.WideShapes Go.ChangeAt Go.RowKit Go.Deep

theorem cells3 : Try.prog.cellsOf 3 = 1 := by kernel_rfl
theorem cells30 : Try.prog.cellsOf 30 = 1 := by kernel_rfl
theorem cells32 : Try.prog.cellsOf 32 = 3 := by kernel_rfl
theorem at_one {l : List Value} {k : Nat} {v : Value} (h : (l.drop k).take 1 = [v]) : l[k]? = some v := by
  have h1 : ((l.drop k).take 1)[0]? = some v := by rw [h]; rfl
  simpa using h1
theorem getD_bd (zs : List Int) (h : ∀ n ∈ zs, (Lit.int .i64 n).wf = true) (i : Nat) : -9223372036854775808 ≤ zs.getD i 0 ∧ zs.getD i 0 ≤ 9223372036854775807 := by
  rcases Nat.lt_or_ge i zs.length with hi | hi
  · have e : zs.getD i 0 = zs[i] := by simp [hi]
    rw [e]
    exact bounds_i64 (h _ (List.getElem_mem hi))
  · have e : zs.getD i 0 = 0 := by simp [List.getElem?_eq_none hi]
    rw [e]
    omega
theorem elems_of {w : World} {x : Addr} {len : Nat} {zs : List Int} (hl : len ≤ zs.length) (hc : ∀ i, i < zs.length → w.cell? (x.add i) = some (.int .i64 (zs.getD i 0))) :
    Elems w w.heap.size (some x) len (fun i => .int .i64 (zs.getD i 0)) := by
  intro h0
  obtain ⟨b, off, spot⟩ := x
  have h1 := hc 0 (by omega)
  have hspot : spot = none := by simpa [Addr.add] using World.cell?_spot h1
  subst hspot
  have hlt : b < w.heap.size := by
    have := World.block_lt_of_cell? w _ h1
    simpa [Addr.add] using this
  refine ⟨b, off, rfl, hlt, fun i hi => ?_⟩
  have h2 := hc i (by omega)
  have hadd : (⟨b, off, none⟩ : Addr).add i = ⟨b, off + i, none⟩ := by unfold Addr.add; split <;> simp_all
  rw [hadd] at h2
  exact h2

section
variable {H : Type} {enc : TypeId × Value → H} {w : World} {base : Nat} {held : Bool}
theorem int_at {m t k : Nat} {q : IntKind} {l : List Value} {y : Option (DataW H × List MemPlace)} (ht : Try.prog.underlying t = some (.int q)) (hy : y ≠ none) (h : DataW.trod enc Try.prog w base (fun _ => true) held m t ((l.drop k).take 1) = y) :
    ∃ x, l[k]? = some (.int q x) ∧ (Lit.int q x).wf = true := by
  cases y with
  | none => exact absurd rfl hy
  | some y =>
    obtain ⟨x, e, _, hw⟩ := DataW.trod_int ht h
    exact ⟨x, at_one e, hw⟩
theorem zero_bd : ∀ _ : Nat, -9223372036854775808 ≤ (0 : Int) ∧ (0 : Int) ≤ 9223372036854775807 := fun _ => by omega
theorem one_of {fuel : Nat} {l : List Value} {x : DataW H × List MemPlace} (h : DataW.trod enc Try.prog w base (fun _ => true) held fuel 32 l = some x) :
    ∃ X : One, (∀ j, j < 3 → l[j]? = some (X.cell j)) ∧ X.ok w w.heap.size := by
  obtain ⟨ys, m, _, _, _, hlen, hf⟩ := DataW.trod_struct Try.underlying32 h
  have hne : ∀ i, i < 3 → ys[i]? ≠ none := fun i hi => by
    have hl5 : ys.length = 3 := hlen
    rw [List.getElem?_eq_getElem (by omega)]
    simp
  have f0 : DataW.trod enc Try.prog w base (fun _ => true) held m 3 ((l.drop 0).take (Try.prog.cellsOf 3)) = ys[0]? := hf 0 _ rfl
  have f1 : DataW.trod enc Try.prog w base (fun _ => true) held m 3 ((l.drop 1).take (Try.prog.cellsOf 3)) = ys[1]? := hf 1 _ rfl
  have f2 : DataW.trod enc Try.prog w base (fun _ => true) held m 30 ((l.drop 2).take (Try.prog.cellsOf 30)) = ys[2]? := hf 2 _ rfl
  rw [cells3] at f0 f1
  rw [cells30] at f2
  obtain ⟨kd, e0, _⟩ := int_at Try.underlying3 (hne 0 (by omega)) f0
  obtain ⟨sp, e1, hw1⟩ := int_at Try.underlying3 (hne 1 (by omega)) f1
  obtain ⟨y2, hy2⟩ := Option.ne_none_iff_exists'.1 (hne 2 (by omega))
  rw [hy2] at f2
  rcases open_ints Try.underlying30 Try.underlying3 cells3 f2 with ⟨hcs, _⟩ | ⟨a, len, cap, zs, hcs, _, hl, _, hz, _, hcell, hwz⟩
  · refine ⟨⟨kd, sp, none, 0, 0, fun _ => 0⟩, fun j hj => ?_, bounds_i64 hw1, zero_bd, fun h0 => absurd h0 (by show ¬ 0 < 0; omega)⟩
    match j, hj with
    | 0, _ => exact e0
    | 1, _ => exact e1
    | 2, _ => exact at_one hcs
  · have hz' : zs.length = cap := by simpa using hz
    refine ⟨⟨kd, sp, some a, len, cap, fun i => zs.getD i 0⟩, fun j hj => ?_, bounds_i64 hw1, getD_bd zs hwz, elems_of (len := len) (by omega) hcell⟩
    match j, hj with
    | 0, _ => exact e0
    | 1, _ => exact e1
    | 2, _ => exact at_one hcs

theorem asks_of {A : Option Addr} {len cap fuel : Nat} {x : DataW H × List MemPlace} (h : DataW.trod enc Try.prog w base (fun _ => true) held fuel 22 [.slice A len cap] = some x) :
    ∃ X : Nat → One, Asks w w.heap.size A len X := by
  rcases open_slice Try.underlying22 h with ⟨hcs, _⟩ | ⟨a, l, c, m, n, D, Pl, hcs, _, hl, _, hm, _, hi⟩
  · simp at hcs
    obtain ⟨rfl, rfl, rfl⟩ := hcs
    exact ⟨fun _ => ⟨0, 0, none, 0, 0, fun _ => 0⟩, fun h => absurd h (by omega)⟩
  · simp at hcs
    obtain ⟨rfl, rfl, rfl⟩ := hcs
    have hm' : len ≤ m := by rw [hm]; simpa using hl
    have key : ∀ i, ∃ X : One, i < m → (∀ j, j < 3 → w.cell? ((a.add (i * 3)).add j) = some (X.cell j)) ∧ X.ok w w.heap.size := by
      intro i
      by_cases him : i < m
      · obtain ⟨cs', hc, ht⟩ := hi i him
        rw [cells32] at hc
        obtain ⟨_, _, hat⟩ := World.cells?_some hc
        obtain ⟨X, hX, hok⟩ := one_of ht
        exact ⟨X, fun _ => ⟨fun j hj => (hat j hj).trans (hX j hj), hok⟩⟩
      · exact ⟨⟨0, 0, none, 0, 0, fun _ => 0⟩, fun h => absurd h him⟩
    refine ⟨fun i => Classical.choose (key i), fun h0 => ?_⟩
    obtain ⟨b, off, spot⟩ := a
    have h1 := (Classical.choose_spec (key 0) (by omega)).1 0 (by omega)
    have hspot : spot = none := by simpa [Addr.add] using World.cell?_spot h1
    subst hspot
    have hlt : b < w.heap.size := by
      have := World.block_lt_of_cell? w _ h1
      simpa [Addr.add] using this
    refine ⟨b, off, rfl, hlt, fun i hil => ⟨fun j hj => ?_, (Classical.choose_spec (key i) (by omega)).2⟩⟩
    have h2 := (Classical.choose_spec (key i) (by omega)).1 j hj
    have hadd : ((⟨b, off, none⟩ : Addr).add (i * 3)).add j = ⟨b, off + i * 3 + j, none⟩ := by
      unfold Addr.add
      split <;> split <;> simp_all <;> omega
    rw [hadd] at h2
    exact h2
end
end Go.Proofs.Ytbehdccjiodlpaa
