/- MemPlays: whatever the number of frames and the row of acts: the law returns true, and the arguments read as they did. No condition. -/
import Derived.Test.YtablmoegmmeglaaPlaysWalk
import Derived.Deep.Slices
import Derived.ProofKit
import Derived.OpenShut
import Derived.ChangeOld
import Derived.Below
namespace Go.Proofs.Ytablmoegmmeglaa.memPlays
open Go.ChangeShapes Go.WideShapes Go.ChangeAt Go.RowKit Go.Deep

theorem own : ownKnob Try.prog.godebug = none := by kernel_rfl
theorem laidOut : laidOutB Try.prog = true := by kernel_rfl
theorem cells3 : Try.prog.cellsOf 3 = 1 := by kernel_rfl
theorem cells32 : Try.prog.cellsOf 32 = 1 := by kernel_rfl
theorem cells33 : Try.prog.cellsOf 33 = 1 := by kernel_rfl
theorem cells35 : Try.prog.cellsOf 35 = 5 := by kernel_rfl
theorem cells37 : Try.prog.cellsOf 37 = 9 := by kernel_rfl

theorem walk (n : Int) (A : Option Addr) (len cap : Nat) (X : Nat → Nine) (w : World) (hl : Acts w w.heap.size A len X) (hz : ∀ i, (X i).ok) :
    Calls Try.prog 3 #[.int .i64 n, .slice A len cap] w fun e w' => e = .returned (.bool true) ∧ Below w.heap.size w w' :=
  (plays_walk n A len cap X w hl hz).mono fun _ _ ⟨he, _, hg⟩ => ⟨he, hg.os, hg.tape, hg.output, hg.size, fun k hk => hg.keep k hk (fun c => c)⟩

theorem at_one {l : List Value} {k : Nat} {v : Value} (h : (l.drop k).take 1 = [v]) : l[k]? = some v := by
  have h1 : ((l.drop k).take 1)[0]? = some v := by rw [h]; rfl
  simpa using h1
theorem at_five {l es : List Value} {k j : Nat} {v : Value} (h : (l.drop k).take 5 = es) (hj : j < 5) (hv : es[j]? = some v) : l[k + j]? = some v := by
  rw [← h] at hv
  rw [List.getElem?_take, if_pos hj, List.getElem?_drop] at hv
  exact hv

section
variable {H : Type} {enc : TypeId × Value → H} {w : World} {base : Nat} {spare : Nat → Bool} {held : Bool}
theorem int_at {m t k : Nat} {q : IntKind} {l : List Value} {y : Option (DataW H × List MemPlace)} (ht : Try.prog.underlying t = some (.int q)) (hy : y ≠ none) (h : DataW.trod enc Try.prog w base spare held m t ((l.drop k).take 1) = y) :
    ∃ x, l[k]? = some (.int q x) ∧ (Lit.int q x).wf = true := by
  cases y with
  | none => exact absurd rfl hy
  | some y =>
    obtain ⟨x, e, _, hw⟩ := DataW.trod_int ht h
    exact ⟨x, at_one e, hw⟩

theorem nine_of {fuel : Nat} {l : List Value} {x : DataW H × List MemPlace} (h : DataW.trod enc Try.prog w base spare held fuel 37 l = some x) :
    ∃ X : Nine, (∀ j, j < 9 → l[j]? = some (X.cell j)) ∧ X.ok := by
  obtain ⟨ys, m, _, _, _, hlen, hf⟩ := DataW.trod_struct Try.underlying37 h
  have hne : ∀ i, i < 5 → ys[i]? ≠ none := fun i hi => by
    have hl5 : ys.length = 5 := hlen
    rw [List.getElem?_eq_getElem (by omega)]
    simp
  have f0 : DataW.trod enc Try.prog w base spare held m 3 ((l.drop 0).take (Try.prog.cellsOf 3)) = ys[0]? := hf 0 _ rfl
  have f1 : DataW.trod enc Try.prog w base spare held m 32 ((l.drop 1).take (Try.prog.cellsOf 32)) = ys[1]? := hf 1 _ rfl
  have f2 : DataW.trod enc Try.prog w base spare held m 32 ((l.drop 2).take (Try.prog.cellsOf 32)) = ys[2]? := hf 2 _ rfl
  have f3 : DataW.trod enc Try.prog w base spare held m 35 ((l.drop 3).take (Try.prog.cellsOf 35)) = ys[3]? := hf 3 _ rfl
  have f4 : DataW.trod enc Try.prog w base spare held m 3 ((l.drop 8).take (Try.prog.cellsOf 3)) = ys[4]? := hf 4 _ rfl
  rw [cells3] at f0 f4
  rw [cells32] at f1 f2
  rw [cells35] at f3
  obtain ⟨d, e0, _⟩ := int_at Try.underlying3 (hne 0 (by omega)) f0
  obtain ⟨word, e1, hw1⟩ := int_at Try.underlying32 (hne 1 (by omega)) f1
  obtain ⟨val, e2, hw2⟩ := int_at Try.underlying32 (hne 2 (by omega)) f2
  obtain ⟨fr, e3, hw3⟩ := int_at Try.underlying3 (hne 4 (by omega)) f4
  obtain ⟨y4, hy4⟩ := Option.ne_none_iff_exists'.1 (hne 3 (by omega))
  rw [hy4] at f3
  obtain ⟨es, hes⟩ : ∃ es, (l.drop 3).take 5 = es := ⟨_, rfl⟩
  rw [hes] at f3
  obtain ⟨zs, m2, _, _, _, hlen2, hf2⟩ := DataW.trod_struct Try.underlying35 f3
  have hne2 : ∀ i, i < 5 → zs[i]? ≠ none := fun i hi => by
    have hl5 : zs.length = 5 := hlen2
    rw [List.getElem?_eq_getElem (by omega)]
    simp
  have g0 : DataW.trod enc Try.prog w base spare held m2 33 ((es.drop 0).take (Try.prog.cellsOf 33)) = zs[0]? := hf2 0 _ rfl
  have g1 : DataW.trod enc Try.prog w base spare held m2 32 ((es.drop 1).take (Try.prog.cellsOf 32)) = zs[1]? := hf2 1 _ rfl
  have g2 : DataW.trod enc Try.prog w base spare held m2 32 ((es.drop 2).take (Try.prog.cellsOf 32)) = zs[2]? := hf2 2 _ rfl
  have g3 : DataW.trod enc Try.prog w base spare held m2 3 ((es.drop 3).take (Try.prog.cellsOf 3)) = zs[3]? := hf2 3 _ rfl
  have g4 : DataW.trod enc Try.prog w base spare held m2 3 ((es.drop 4).take (Try.prog.cellsOf 3)) = zs[4]? := hf2 4 _ rfl
  rw [cells33] at g0
  rw [cells32] at g1 g2
  rw [cells3] at g3 g4
  obtain ⟨kd, u0, hk0⟩ := int_at Try.underlying33 (hne2 0 (by omega)) g0
  obtain ⟨ew, u1, hk1⟩ := int_at Try.underlying32 (hne2 1 (by omega)) g1
  obtain ⟨ev, u2, hk2⟩ := int_at Try.underlying32 (hne2 2 (by omega)) g2
  obtain ⟨ef, u3, _⟩ := int_at Try.underlying3 (hne2 3 (by omega)) g3
  obtain ⟨er, u4, _⟩ := int_at Try.underlying3 (hne2 4 (by omega)) g4
  refine ⟨⟨d, word, val, kd, ew, ev, ef, er, fr⟩, fun j hj => ?_, bounds_u64 hw1, bounds_u64 hw2, bounds_i8 hk0, bounds_u64 hk1, bounds_u64 hk2, bounds_i64 hw3⟩
  match j, hj with
  | 0, _ => exact e0
  | 1, _ => exact e1
  | 2, _ => exact e2
  | 3, _ => exact at_five hes (by omega) u0
  | 4, _ => exact at_five hes (by omega) u1
  | 5, _ => exact at_five hes (by omega) u2
  | 6, _ => exact at_five hes (by omega) u3
  | 7, _ => exact at_five hes (by omega) u4
  | 8, _ => exact e3

theorem ok0 : (⟨0, 0, 0, 0, 0, 0, 0, 0, 0⟩ : Nine).ok := ⟨⟨by show (0 : Int) ≤ 0; omega, by show (0 : Int) ≤ 18446744073709551615; omega⟩, ⟨by show (0 : Int) ≤ 0; omega, by show (0 : Int) ≤ 18446744073709551615; omega⟩, ⟨by show (-128 : Int) ≤ 0; omega, by show (0 : Int) ≤ 127; omega⟩, ⟨by show (0 : Int) ≤ 0; omega, by show (0 : Int) ≤ 18446744073709551615; omega⟩, ⟨by show (0 : Int) ≤ 0; omega, by show (0 : Int) ≤ 18446744073709551615; omega⟩, ⟨by show (-9223372036854775808 : Int) ≤ 0; omega, by show (0 : Int) ≤ 9223372036854775807; omega⟩⟩
theorem acts_of {A : Option Addr} {len cap fuel : Nat} {x : DataW H × List MemPlace} (h : DataW.trod enc Try.prog w base (fun _ => true) held fuel 22 [.slice A len cap] = some x) :
    ∃ X : Nat → Nine, Acts w w.heap.size A len X ∧ ∀ i, (X i).ok := by
  rcases open_slice Try.underlying22 h with ⟨hcs, _⟩ | ⟨a, l, c, m, n, D, Pl, hcs, _, hl, _, hm, _, hi⟩
  · simp at hcs
    obtain ⟨rfl, rfl, rfl⟩ := hcs
    exact ⟨fun _ => ⟨0, 0, 0, 0, 0, 0, 0, 0, 0⟩, fun h => absurd h (by omega), fun _ => ok0⟩
  · simp at hcs
    obtain ⟨rfl, rfl, rfl⟩ := hcs
    have hm' : len ≤ m := by rw [hm]; simpa using hl
    have key : ∀ i, ∃ X : Nine, X.ok ∧ (i < m → ∀ j, j < 9 → w.cell? ((a.add (i * 9)).add j) = some (X.cell j)) := by
      intro i
      by_cases him : i < m
      · obtain ⟨cs', hc, ht⟩ := hi i him
        rw [cells37] at hc
        obtain ⟨_, _, hat⟩ := World.cells?_some hc
        obtain ⟨X, hX, hw⟩ := nine_of ht
        exact ⟨X, hw, fun _ j hj => (hat j hj).trans (hX j hj)⟩
      · exact ⟨⟨0, 0, 0, 0, 0, 0, 0, 0, 0⟩, ok0, fun h => absurd h him⟩
    refine ⟨fun i => Classical.choose (key i), fun h0 => ?_, fun i => (Classical.choose_spec (key i)).1⟩
    obtain ⟨b, off, spot⟩ := a
    have h1 := (Classical.choose_spec (key 0)).2 (by omega) 0 (by omega)
    have hspot : spot = none := by simpa [Addr.add] using World.cell?_spot h1
    subst hspot
    have hlt : b < w.heap.size := by
      have := World.block_lt_of_cell? w _ h1
      simpa [Addr.add] using this
    refine ⟨b, off, rfl, hlt, fun i hil j hj => ?_⟩
    have h2 := (Classical.choose_spec (key i)).2 (by omega) j hj
    have hadd : ((⟨b, off, none⟩ : Addr).add (i * 9)).add j = ⟨b, off + i * 9 + j, none⟩ := by
      unfold Addr.add
      split <;> split <;> simp_all <;> omega
    rw [hadd] at h2
    exact h2
end

set_option maxRecDepth 100000 in
theorem lifted (os : Os) (started : os.Started) (H : Type) (enc : TypeId × Value → H) :
    ReturnsInHanded {} Try.checked os 3 .any (Rows.memPlaysSpec.pre6 enc Try.prog Try.f3 Rows.memPlaysRow.domain false) (Rows.memPlaysSpec.post enc Try.prog Try.f3 false true false false) := by
  refine returnsInHanded_of_change (C := Try.checked) own started (by kernel_rfl) Try.func3
    (ChangeSpec.witness6 (enc := enc) (C := Try.checked) false ⟨#[], #[.int .i64 0, .slice none 0 0], []⟩ 8 (by kernel_rfl) (by kernel_rfl) (by kernel_rfl) (by kernel_rfl)) ?_
  intro W base args ds gs before hval0 hW _ _
  have hval : ∀ (j : Nat) t v, Try.f3.params[j]? = some t → args[j]? = some v → Value.okWide Try.prog W .any base t v := hval0
  have hW' := hW
  obtain ⟨p, q, hA0, hV, rfl, _, _⟩ := hW
  have hA : DataW.TrodAll enc Try.prog W 0 (fun _ => true) true Try.f3.params.toList args.toList ds p := hA0
  rw [Try.params3] at hA hval
  obtain ⟨v0, vs0, d0, ds0, p0, q0, hargs, rfl, rfl, h0, r0⟩ := trodAll_cons hA
  obtain ⟨v1, vs1, d1, ds1, p1, q1, rfl, rfl, rfl, h1, r1⟩ := trodAll_cons r0
  obtain ⟨rfl, rfl, rfl⟩ := trodAll_nil r1
  obtain rfl : args = #[v0, v1] := by cases args; simp_all
  obtain ⟨rfl, rfl⟩ := trodVars_none hV
  obtain ⟨a0, rfl, rfl, rfl, w0⟩ := open_int Try.underlying3 (hval 0 3 v0 rfl rfl) h0
  obtain ⟨A, len, cap, rfl⟩ := okWide_slice Try.underlying22 (hval 1 22 v1 rfl rfl)
  have k1 := h1
  have lt1 : ∀ x ∈ p1, x.block < W.heap.size := by obtain ⟨m, hm⟩ := k1; exact DataW.trod_lt m _ _ _ hm
  obtain ⟨X, hX, hz⟩ : ∃ X : Nat → Nine, Acts W W.heap.size A len X ∧ ∀ i, (X i).ok := by
    obtain ⟨fuel, hf⟩ := h1
    exact acts_of hf
  clear hA0 hval0
  refine (walk a0 A len cap X W hX hz).mono fun e W' ⟨he, bel⟩ => ?_
  subst he
  exact ⟨_, rfl, _, _, _, [], _, [], hW', trodAll_mk1 (shut_bool Try.underlying4 _), (trodAll_cons_mk (shut_int Try.underlying3 w0) (trodAll_cons_mk (Below.trod laidOut (by kernel_rfl) (of_decide_eq_true (by kernel_rfl)) k1 bel lt1) trodAll_mk0)), rfl, bel.frame _, fun h => by cases h⟩

theorem over : Rows.memPlaysRow.holds Try.pinned (OpenSpec.ofChange Rows.memPlaysSpec) :=
  OpenClaim.holds_of_wide 3 Try.f3 rfl rfl rfl rfl rfl rfl rfl ⟨rfl, rfl, rfl, rfl, rfl⟩ rfl rfl rfl rfl rfl (by kernel_rfl) Try.func3 (by kernel_rfl)
    (of_decide_eq_true (by kernel_rfl)) (by unfold Func.isWrapper; first | (rw [if_pos (by decide +kernel)]; kernel_rfl) | (rw [if_neg (by decide +kernel)]; exact ⟨rfl, rfl⟩))
    (fun os started H enc _ => lifted os started H enc)

theorem proved : Rows.MemPlaysSaid := over
#print axioms proved
end Go.Proofs.Ytablmoegmmeglaa.memPlays
