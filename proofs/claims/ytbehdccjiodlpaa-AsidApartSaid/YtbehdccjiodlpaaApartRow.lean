/- The law's own rows beside the giver, in memory. -/
import Derived.Test.YtbehdccjiodlpaaApart
import Derived.Test.YtbehdccjiodlpaaAsks
import Derived.Laws.Rows
namespace Go.Proofs.Ytbehdccjiodlpaa
open Go.RowKit

/-- A row of m values. -/
def rowOf (m : Nat) (f : Nat → Value) : Array Value := Array.ofFn (n := m) fun i => f i
theorem rowOf_size (m : Nat) (f : Nat → Value) : (rowOf m f).size = m := by simp [rowOf]
theorem rowOf_at {m : Nat} (f : Nat → Value) {i : Nat} (hi : i < m) : (rowOf m f)[i]? = some (f i) := by simp [rowOf, hi]
theorem rowOf_ext {m : Nat} {f : Nat → Value} {c : Array Value} (hs : c.size = m) (hc : ∀ i, i < m → c[i]? = some (f i)) : c = rowOf m f := by
  refine Array.ext_getElem? fun i => ?_
  by_cases hi : i < m
  · rw [hc i hi, rowOf_at f hi]
  · rw [Array.getElem?_eq_none (by omega), Array.getElem?_eq_none (by rw [rowOf_size]; omega)]
theorem rowOf_set {m : Nat} (f : Nat → Value) (i : Nat) (v : Value) : (rowOf m f).setIfInBounds i v = rowOf m (fun j => if j = i then v else f j) := by
  refine rowOf_ext (by simp [rowOf]) fun j hj => ?_
  rw [Array.getElem?_setIfInBounds]
  by_cases c : i = j
  · subst c
    rw [if_pos rfl, if_pos rfl, if_pos (by rw [rowOf_size]; exact hj)]
  · rw [if_neg c, if_neg fun d => c d.symm]
    exact rowOf_at f hj
theorem rowOf_one {m : Nat} (f : Nat → Value) (h1 : ∀ i, (f i).oneCell' = true) : (rowOf m f).all (·.oneCell') = true := by
  rw [Array.all_eq_true_iff_forall_mem]
  intro v hv
  obtain ⟨i, hi⟩ : ∃ i : Fin m, f i = v := by simpa [rowOf] using hv
  rw [← hi]
  exact h1 i
/-- A row of 17 numbers. -/
def arr (f : Nat → Int) : Array Value := rowOf 17 fun i => .int .i64 (f i)
theorem arr_size (f : Nat → Int) : (arr f).size = 17 := rowOf_size _ _
theorem arr_at (f : Nat → Int) {i : Nat} (hi : i < 17) : (arr f)[i]? = some (.int .i64 (f i)) := rowOf_at _ hi
theorem arr_one (f : Nat → Int) : (arr f).all (·.oneCell') = true := rowOf_one _ fun _ => rfl
theorem arr_set (f : Nat → Int) (i : Nat) (x : Int) : (arr f).setIfInBounds i (.int .i64 x) = arr (updH f i x) := by
  have e : (fun j => if j = i then Value.int .i64 x else Value.int .i64 (f j)) = fun j => Value.int .i64 (updH f i x j) := by
    funext j
    unfold updH
    split <;> rfl
  exact (rowOf_set _ i _).trans (congrArg (rowOf 17) e)
/-- A row of 17 Booleans. -/
def arrB (f : Nat → Bool) : Array Value := rowOf 17 fun i => .bool (f i)
theorem arrB_at (f : Nat → Bool) {i : Nat} (hi : i < 17) : (arrB f)[i]? = some (.bool (f i)) := rowOf_at _ hi
theorem arrB_set (f : Nat → Bool) (i : Nat) : (arrB f).setIfInBounds i (.bool true) = arrB (updB f i) := by
  have e : (fun j => if j = i then Value.bool true else Value.bool (f j)) = fun j => Value.bool (updB f i j) := by
    funext j
    unfold updB
    split <;> rfl
  exact (rowOf_set _ i _).trans (congrArg (rowOf 17) e)

section
variable {w0 w w1 : World} {G D E C n : Nat} {a a1 : Int} {h h1 ow K : Nat → Int} {x : One}
theorem frozen_of {o : Array Value} {t : TypeId} (hb : w.heap[D]? = some (.cells o t)) (j : Nat) : w.frozen? ⟨D, j, none⟩ = false := by simp [World.frozen?, hb]
theorem heap_set {o : Array Value} {t : TypeId} (hb : w.heap[D]? = some (.cells o t)) (i : Nat) (v : Value) : (w.setCell ⟨D, i, none⟩ v).heap[D]? = some (.cells (o.setIfInBounds i v) t) := by
  rw [setCell_eq_setRow w D i o t (0, 0) v hb]
  exact setRow_heap w D o _ t _ hb
theorem grown_own (hg : w0.grownBy w none) (hD : w0.heap.size ≤ D) (j : Nat) (v : Value) : w0.grownBy (w.setCell ⟨D, j, none⟩ v) none :=
  ⟨hg.os, hg.tape, hg.output, by simpa using hg.size, fun i hi _ => (heap_setCell_other w ⟨D, j, none⟩ i v (by show i ≠ D; omega)).trans (hg.block i hi (by simp))⟩

/-- The giver, and the law's row of owners. -/
structure Ap (w0 w : World) (G D n : Nat) (a : Int) (h ow : Nat → Int) : Prop where
  g : w0.grownBy w none
  lG : w0.heap.size ≤ G
  lD : w0.heap.size ≤ D
  v : Gv w G n a h
  o : w.heap[D]? = some (.cells (arr ow) 29)
  ne : D ≠ G
theorem Ap.cell (t : Ap w0 w G D n a h ow) {j : Nat} (hj : j < 17) : w.cell? ⟨D, j, none⟩ = some (.int .i64 (ow j)) := (cell_of_row w D j _ _ _ t.o).trans (arr_at ow hj)
theorem Ap.frozen (t : Ap w0 w G D n a h ow) (j : Nat) : w.frozen? ⟨D, j, none⟩ = false := frozen_of t.o j
theorem Ap.ltD (t : Ap w0 w G D n a h ow) : D < w.heap.size := lt_of_block t.o
theorem Ap.grown (t : Ap w0 w G D n a h ow) (hg : w.grownBy w1 none) : Ap w0 w1 G D n a h ow :=
  ⟨grown_both t.g hg, t.lG, t.lD, t.v.grown hg (by simp), (hg.block D t.ltD (by simp)).trans t.o, t.ne⟩
theorem Ap.giver (t : Ap w0 w G D n a h ow) (hg : w.grownBy w1 (some G)) (hm : Gv w1 G n a1 h1) : Ap w0 w1 G D n a1 h1 ow :=
  ⟨grown_new t.g t.lG hg, t.lG, t.lD, hm, (hg.block D t.ltD (fun e => by injection e with e; exact t.ne e)).trans t.o, t.ne⟩
theorem Ap.setD (t : Ap w0 w G D n a h ow) (j : Nat) (y : Int) : Ap w0 (w.setCell ⟨D, j, none⟩ (.int .i64 y)) G D n a h (updH ow j y) :=
  ⟨grown_own t.g t.lD j _, t.lG, t.lD, t.v.of_block (heap_setCell_other w ⟨D, j, none⟩ G _ t.ne.symm), by rw [← arr_set]; exact heap_set t.o j _, t.ne⟩
theorem Ap.setC (t : Ap w0 w G D n a h ow) (lC : w0.heap.size ≤ C) (cG : C ≠ G) (cD : C ≠ D) (j : Nat) (v : Value) : Ap w0 (w.setCell ⟨C, j, none⟩ v) G D n a h ow :=
  ⟨grown_own t.g lC j _, t.lG, t.lD, t.v.of_block (heap_setCell_other w ⟨C, j, none⟩ G _ cG.symm), (heap_setCell_other w ⟨C, j, none⟩ D _ cD.symm).trans t.o, t.ne⟩

/-- .. and the ask of this round. -/
structure Ar (w0 w : World) (G D E n : Nat) (a : Int) (h ow : Nat → Int) (x : One) : Prop where
  p : Ap w0 w G D n a h ow
  e : w.heap[E]? = some (.cells #[.int .i64 x.kd, .int .i64 x.sp, .slice x.A x.l x.c] 32)
  lE : w0.heap.size ≤ E
  eG : E ≠ G
  eD : E ≠ D
theorem Ap.ask (t : Ap w0 w G D n a h ow) (x : One) : Ar w0 (w.alloc (.cells #[.int .i64 x.kd, .int .i64 x.sp, .slice x.A x.l x.c] 32)) G D w.heap.size n a h ow x :=
  ⟨t.grown (World.grownBy_alloc w _ none), Go.heap_alloc_new w _, t.g.size, fun e => by have := t.v.lt; omega, fun e => by have := t.ltD; omega⟩
theorem Ar.ltE (t : Ar w0 w G D E n a h ow x) : E < w.heap.size := lt_of_block t.e
theorem Ar.cell0 (t : Ar w0 w G D E n a h ow x) : w.cell? ⟨E, 0, none⟩ = some (.int .i64 x.kd) := cell_of_row w E 0 _ _ _ t.e
theorem Ar.cell1 (t : Ar w0 w G D E n a h ow x) : w.cell? ⟨E, 1, none⟩ = some (.int .i64 x.sp) := cell_of_row w E 1 _ _ _ t.e
theorem Ar.cell2 (t : Ar w0 w G D E n a h ow x) : w.cell? ⟨E, 2, none⟩ = some (.slice x.A x.l x.c) := cell_of_row w E 2 _ _ _ t.e
theorem Ar.grown (t : Ar w0 w G D E n a h ow x) (hg : w.grownBy w1 none) : Ar w0 w1 G D E n a h ow x :=
  ⟨t.p.grown hg, (hg.block E t.ltE (by simp)).trans t.e, t.lE, t.eG, t.eD⟩
theorem Ar.giver (t : Ar w0 w G D E n a h ow x) (hg : w.grownBy w1 (some G)) (hm : Gv w1 G n a1 h1) : Ar w0 w1 G D E n a1 h1 ow x :=
  ⟨t.p.giver hg hm, (hg.block E t.ltE (fun e => by injection e with e; exact t.eG e)).trans t.e, t.lE, t.eG, t.eD⟩
theorem Ar.setD (t : Ar w0 w G D E n a h ow x) (j : Nat) (y : Int) : Ar w0 (w.setCell ⟨D, j, none⟩ (.int .i64 y)) G D E n a h (updH ow j y) x :=
  ⟨t.p.setD j y, (heap_setCell_other w ⟨D, j, none⟩ E _ t.eD).trans t.e, t.lE, t.eG, t.eD⟩

/-- .. and the row of those that were kept. -/
structure Ak (w0 w : World) (G D E C n : Nat) (a : Int) (h ow : Nat → Int) (x : One) (K : Nat → Int) : Prop where
  r : Ar w0 w G D E n a h ow x
  k : w.heap[C]? = some (.cells (arr K) 29)
  lC : w0.heap.size ≤ C
  cG : C ≠ G
  cD : C ≠ D
  cE : C ≠ E
theorem Ar.keep (t : Ar w0 w G D E n a h ow x) : Ak w0 (w.alloc (.cells (arr fun _ => 0) 29)) G D E w.heap.size n a h ow x (fun _ => 0) :=
  ⟨t.grown (World.grownBy_alloc w _ none), Go.heap_alloc_new w _, t.p.g.size, fun e => by have := t.p.v.lt; omega, fun e => by have := t.p.ltD; omega, fun e => by have := t.ltE; omega⟩
theorem Ak.ltC (t : Ak w0 w G D E C n a h ow x K) : C < w.heap.size := lt_of_block t.k
theorem Ak.cell (t : Ak w0 w G D E C n a h ow x K) {j : Nat} (hj : j < 17) : w.cell? ⟨C, j, none⟩ = some (.int .i64 (K j)) := (cell_of_row w C j _ _ _ t.k).trans (arr_at K hj)
theorem Ak.frozen (t : Ak w0 w G D E C n a h ow x K) (j : Nat) : w.frozen? ⟨C, j, none⟩ = false := frozen_of t.k j
theorem Ak.grown (t : Ak w0 w G D E C n a h ow x K) (hg : w.grownBy w1 none) : Ak w0 w1 G D E C n a h ow x K :=
  ⟨t.r.grown hg, (hg.block C t.ltC (by simp)).trans t.k, t.lC, t.cG, t.cD, t.cE⟩
theorem Ak.giver (t : Ak w0 w G D E C n a h ow x K) (hg : w.grownBy w1 (some G)) (hm : Gv w1 G n a1 h1) : Ak w0 w1 G D E C n a1 h1 ow x K :=
  ⟨t.r.giver hg hm, (hg.block C t.ltC (fun e => by injection e with e; exact t.cG e)).trans t.k, t.lC, t.cG, t.cD, t.cE⟩
theorem Ak.setD (t : Ak w0 w G D E C n a h ow x K) (j : Nat) (y : Int) : Ak w0 (w.setCell ⟨D, j, none⟩ (.int .i64 y)) G D E C n a h (updH ow j y) x K :=
  ⟨t.r.setD j y, (heap_setCell_other w ⟨D, j, none⟩ C _ t.cD).trans t.k, t.lC, t.cG, t.cD, t.cE⟩
theorem Ak.setK (t : Ak w0 w G D E C n a h ow x K) (j : Nat) (y : Int) : Ak w0 (w.setCell ⟨C, j, none⟩ (.int .i64 y)) G D E C n a h ow x (updH K j y) :=
  ⟨⟨t.r.p.setC t.lC t.cG t.cD j _, (heap_setCell_other w ⟨C, j, none⟩ E _ t.cE.symm).trans t.r.e, t.r.lE, t.r.eG, t.r.eD⟩, by rw [← arr_set]; exact heap_set t.k j _, t.lC, t.cG, t.cD, t.cE⟩
/-- The row of owners is laid anew: those that were kept. -/
theorem Ak.flush (t : Ak w0 w G D E C n a h ow x K) : Ak w0 (w.setRow D (arr K)) G D E C n a h K x K :=
  ⟨⟨⟨⟨t.r.p.g.os, t.r.p.g.tape, t.r.p.g.output, by simpa using t.r.p.g.size, fun i hi _ => (setRow_other w D i _ (by have := t.r.p.lD; omega)).trans (t.r.p.g.block i hi (by simp))⟩, t.r.p.lG, t.r.p.lD, t.r.p.v.of_block (setRow_other w D G _ t.r.p.ne.symm), setRow_heap w D _ _ 29 _ t.r.p.o, t.r.p.ne⟩,
    (setRow_other w D E _ t.r.eD).trans t.r.e, t.r.lE, t.r.eG, t.r.eD⟩, (setRow_other w D C _ t.cD).trans t.k, t.lC, t.cG, t.cD, t.cE⟩

/-- The giver, the owners, and the row of those that were seen. -/
structure As (w0 w : World) (G D C n : Nat) (a : Int) (h ow : Nat → Int) (B : Nat → Bool) : Prop where
  p : Ap w0 w G D n a h ow
  b : w.heap[C]? = some (.cells (arrB B) 39)
  lC : w0.heap.size ≤ C
  cG : C ≠ G
  cD : C ≠ D
variable {B : Nat → Bool}
theorem Ap.see (t : Ap w0 w G D n a h ow) : As w0 (w.alloc (.cells (arrB fun _ => false) 39)) G D w.heap.size n a h ow (fun _ => false) :=
  ⟨t.grown (World.grownBy_alloc w _ none), Go.heap_alloc_new w _, t.g.size, fun e => by have := t.v.lt; omega, fun e => by have := t.ltD; omega⟩
theorem As.cell (t : As w0 w G D C n a h ow B) {j : Nat} (hj : j < 17) : w.cell? ⟨C, j, none⟩ = some (.bool (B j)) := (cell_of_row w C j _ _ _ t.b).trans (arrB_at B hj)
theorem As.frozen (t : As w0 w G D C n a h ow B) (j : Nat) : w.frozen? ⟨C, j, none⟩ = false := frozen_of t.b j
theorem As.set (t : As w0 w G D C n a h ow B) (j : Nat) : As w0 (w.setCell ⟨C, j, none⟩ (.bool true)) G D C n a h ow (updB B j) :=
  ⟨t.p.setC t.lC t.cG t.cD j _, by rw [← arrB_set]; exact heap_set t.b j _, t.lC, t.cG, t.cD⟩
end

/-- A[k] of a row of 17 that lies in a slot. -/
theorem index_arr (K : Nat → Int) (w : World) {k : Nat} (hk : k < 17) : (Instr.index 29 (.agg (arr K)) (.int .i64 k)).run Try.prog w = .ok (.int .i64 (K k)) w := by
  rcases (by omega : k = 0 ∨ k = 1 ∨ k = 2 ∨ k = 3 ∨ k = 4 ∨ k = 5 ∨ k = 6 ∨ k = 7 ∨ k = 8 ∨ k = 9 ∨ k = 10 ∨ k = 11 ∨ k = 12 ∨ k = 13 ∨ k = 14 ∨ k = 15 ∨ k = 16) with rfl | rfl | rfl | rfl | rfl | rfl | rfl | rfl | rfl | rfl | rfl | rfl | rfl | rfl | rfl | rfl | rfl <;> kernel_rfl
end Go.Proofs.Ytbehdccjiodlpaa
