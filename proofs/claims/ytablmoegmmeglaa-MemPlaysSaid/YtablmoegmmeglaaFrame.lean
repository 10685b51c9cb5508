/- A frame of 512 words in memory: made, loaded, stored as a whole; and what is said of a memory. -/
import Derived.Test.YtablmoegmmeglaaMap
import Derived.Deep.WholeRow
import Derived.Deep.Draws
namespace Go.Proofs.Ytablmoegmmeglaa
open Go.RowKit Go.Maps

/-- 512 words, all 0. -/
def Z : Array Value := Array.replicate 512 (.int .u64 0)
theorem size_Z : Z.size = 512 := by unfold Z; simp
theorem Z_at (i : Nat) (hi : i < 512) : Z[i]? = some (.int .u64 0) := by unfold Z; simp [hi]
theorem info76 : (Try.prog.info? 76).map (fun i => (i.zero, i.size)) = some (some (.agg Z), 512) := by kernel_rfl
theorem zero76 (w : World) : (zeroValue 76).run Try.prog w = .ok (.agg Z) w := (zero_of_info info76).1 w

theorem run_build76 (w : World) : (Instr.build 76 #[]).run Try.prog w = .ok (.agg Z) w := by
  simp [Instr.build, Sem.run_bind, zero76, Value.cells, run_underlying Try.underlying76, Instr.fill]
theorem run_alloc76 (w : World) : (Instr.alloc 76 true (.tuple #[])).run Try.prog w = .ok (.pointer (some ⟨w.heap.size, 0, none⟩)) (w.alloc (.cells Z 76)) := by
  simp [Instr.alloc, Sem.run_bind, zero76, newVar, newRow, Value.cells, newObj]
  rfl

section
variable {ops : Array Oper} {rest : List Oper} {o : Oper} {a : Act} {w : World} {Q : Exit → Act → World → Prop}
theorem wpList_build76 (hg : o.guard = none) (hop : o.op = Op.build 76 #[]) (h : wpList Try.prog ops Q rest (a.put o.dst (.agg Z)) w) : wpList Try.prog ops Q (o :: rest) a w :=
  wpList_plain hg fun K' hK' => by
    unfold Oper.wp
    have hr := run_build76 w
    simp [execOp, hop, hr, Result.andThen]
    exact hK' _ _ h
theorem wpList_alloc76 (hg : o.guard = none) (hop : o.op = Op.alloc 76) (h : wpList Try.prog ops Q rest (a.put o.dst (.pointer (some ⟨w.heap.size, 0, none⟩))) (w.alloc (.cells Z 76))) : wpList Try.prog ops Q (o :: rest) a w :=
  wpList_plain hg fun K' hK' => by
    unfold Oper.wp
    have hr := run_alloc76 w
    simp [execOp, hop, hr, Result.andThen]
    exact hK' _ _ h
end

/-- The footprint: nothing that was there outside of O has turned; what is owned behind it was owned before, or is new. -/
structure Fp (O : Nat → Prop) (w w' : World) (O' : Nat → Prop) : Prop where
  os : w'.os = w.os
  tape : w'.tape = w.tape
  output : w'.output = w.output
  size : w.heap.size ≤ w'.heap.size
  keep : ∀ k, k < w.heap.size → ¬ O k → w'.heap[k]? = w.heap[k]?
  new : ∀ k, O' k → O k ∨ (w.heap.size ≤ k ∧ k < w'.heap.size)

theorem Fp.refl (O : Nat → Prop) (w : World) : Fp O w w O := ⟨rfl, rfl, rfl, Nat.le_refl _, fun _ _ _ => rfl, fun _ h => .inl h⟩
theorem Fp.trans {O O' O'' : Nat → Prop} {a b c : World} (h : Fp O a b O') (k : Fp O' b c O'') : Fp O a c O'' := by
  refine ⟨k.os.trans h.os, k.tape.trans h.tape, k.output.trans h.output, Nat.le_trans h.size k.size, fun i hi ho => ?_, fun i hi => ?_⟩
  · refine (k.keep i (Nat.lt_of_lt_of_le hi h.size) (fun e => ?_)).trans (h.keep i hi ho)
    rcases h.new i e with h1 | h1
    · exact ho h1
    · omega
  · rcases k.new i hi with h1 | h1
    · rcases h.new i h1 with h2 | h2
      · exact .inl h2
      · exact .inr ⟨h2.1, Nat.lt_of_lt_of_le h2.2 k.size⟩
    · exact .inr ⟨Nat.le_trans h.size h1.1, h1.2⟩
/-- A new block that nobody owns. -/
theorem Fp.alloc (O : Nat → Prop) (w : World) (o : Obj) : Fp O w (w.alloc o) O := ⟨rfl, rfl, rfl, by simp, fun k hk _ => Below.heap_alloc w o k hk, fun _ h => .inl h⟩
/-- A new block that is owned from now on. -/
theorem Fp.take (O : Nat → Prop) (w : World) (o : Obj) : Fp O w (w.alloc o) (fun k => O k ∨ k = w.heap.size) :=
  ⟨rfl, rfl, rfl, by simp, fun k hk _ => Below.heap_alloc w o k hk, fun k h => by
    rcases h with h | rfl
    · exact .inl h
    · exact .inr ⟨Nat.le_refl _, by simp⟩⟩
theorem Fp.grown {O : Nat → Prop} {w w' : World} {b : Nat} (hb : O b) (h : w.grownBy w' (some b)) : Fp O w w' O :=
  ⟨h.os, h.tape, h.output, h.size, fun k hk ho => h.block k hk (fun e => ho (by cases e; exact hb)), fun _ h => .inl h⟩
theorem Fp.grown0 {O : Nat → Prop} {w w' : World} (h : w.grownBy w' none) : Fp O w w' O :=
  ⟨h.os, h.tape, h.output, h.size, fun k hk _ => h.block k hk (by simp), fun _ h => .inl h⟩
theorem Fp.set_ {O : Nat → Prop} {w : World} {p : Addr} (hb : O p.block) (v : Value) : Fp O w (w.setCell p v) O :=
  ⟨rfl, rfl, rfl, by simp, fun k _ ho => heap_setCell_other w p k v (fun e => ho (e ▸ hb)), fun _ h => .inl h⟩
theorem Fp.drew (O : Nat → Prop) (w : World) : Fp O w w.drew O := ⟨rfl, rfl, rfl, Nat.le_refl _, fun _ _ _ => rfl, fun _ h => .inl h⟩
theorem Fp.drewN (O : Nat → Prop) (w : World) (n : Nat) : Fp O w (w.drewN n) O := ⟨rfl, rfl, rfl, Nat.le_refl _, fun _ _ _ => rfl, fun _ h => .inl h⟩

/-- The frames behind the map: block pt k is frame k's words. -/
structure Frames (w : World) (O : Nat → Prop) (n : Nat) (pt : Int → Option Nat) (V : Nat → Int) : Prop where
  inN : ∀ k g, pt k = some g → 0 ≤ k ∧ k < n
  row : ∀ (k : Nat) g, pt k = some g → O g ∧ w.rowIs g 76 512 (fun j => .int .u64 (V (512 * k + j)))
  zero : ∀ k : Nat, k < n → pt k = none → ∀ j, j < 512 → V (512 * k + j) = 0
  inj : ∀ k k' g, pt k = some g → pt k' = some g → k = k'

/-- Block B is a memory of n frames, whose word i is V i; its blocks are among O; bm is its map, pt where its frames are. -/
structure MemI (w : World) (O : Nat → Prop) (B n : Nat) (V : Nat → Int) (bm : Nat) (pt : Int → Option Nat) : Prop where
  n1 : 1 ≤ n
  n64 : n ≤ 64
  fit : ∀ i, 0 ≤ V i ∧ V i ≤ 18446744073709551615
  out : ∀ i, 512 * n ≤ i → V i = 0
  lt : ∀ k, O k → k < w.heap.size
  oB : O B
  oM : O bm
  hB : w.heap[B]? = some (.cells #[.int .i64 n, .map (some bm)] 70 (0, 0))
  pm : PMap w bm pt
  fr : Frames w O n pt V
def Mem (w : World) (O : Nat → Prop) (B n : Nat) (V : Nat → Int) : Prop := ∃ bm pt, MemI w O B n V bm pt

section
variable {w w' : World} {O O' P P' : Nat → Prop} {B n bm : Nat} {V U : Nat → Int} {pt : Int → Option Nat}
theorem Frames.kept (h : Frames w O n pt V) (hk : ∀ k, O k → w'.heap[k]? = w.heap[k]?) (hO : ∀ k, O k → O' k) : Frames w' O' n pt V :=
  ⟨h.inN, fun k g e => ⟨hO g (h.row k g e).1, (h.row k g e).2.of_block (hk g (h.row k g e).1)⟩, h.zero, h.inj⟩
theorem MemI.kept (h : MemI w O B n V bm pt) (hk : ∀ k, O k → w'.heap[k]? = w.heap[k]?) (hO : ∀ k, O k → O' k) (hlt : ∀ k, O' k → k < w'.heap.size) : MemI w' O' B n V bm pt :=
  ⟨h.n1, h.n64, h.fit, h.out, hlt, hO _ h.oB, hO _ h.oM, (hk _ h.oB).trans h.hB, h.pm.of_block (hk _ h.oM), h.fr.kept hk hO⟩
theorem MemI.alloc (h : MemI w O B n V bm pt) (o : Obj) : MemI (w.alloc o) O B n V bm pt :=
  h.kept (fun k hk => Below.heap_alloc w o k (h.lt k hk)) (fun _ hk => hk) (fun k hk => by have := h.lt k hk; simp; omega)
theorem MemI.drew (h : MemI w O B n V bm pt) : MemI w.drew O B n V bm pt := h.kept (fun _ _ => rfl) (fun _ hk => hk) h.lt
theorem MemI.drewN (h : MemI w O B n V bm pt) (m : Nat) : MemI (w.drewN m) O B n V bm pt := h.kept (fun _ _ => rfl) (fun _ hk => hk) h.lt
theorem MemI.cellN (h : MemI w O B n V bm pt) : w.cell? ⟨B, 0, none⟩ = some (.int .i64 n) := by simp [World.cell?, h.hB]
theorem MemI.cellM (h : MemI w O B n V bm pt) : w.cell? ⟨B, 1, none⟩ = some (.map (some bm)) := by simp [World.cell?, h.hB]
theorem MemI.hBlt (h : MemI w O B n V bm pt) : B < w.heap.size := lt_of_block h.hB

theorem Mem.kept (h : Mem w O B n V) (hk : ∀ k, O k → w'.heap[k]? = w.heap[k]?) (hO : ∀ k, O k → O' k) (hlt : ∀ k, O' k → k < w'.heap.size) : Mem w' O' B n V := by
  obtain ⟨bm, pt, h⟩ := h
  exact ⟨bm, pt, h.kept hk hO hlt⟩
theorem Mem.lt (h : Mem w O B n V) : ∀ k, O k → k < w.heap.size := by obtain ⟨bm, pt, h⟩ := h; exact h.lt
theorem Mem.n64 (h : Mem w O B n V) : n ≤ 64 := by obtain ⟨bm, pt, h⟩ := h; exact h.n64
theorem Mem.n1 (h : Mem w O B n V) : 1 ≤ n := by obtain ⟨bm, pt, h⟩ := h; exact h.n1
theorem Mem.fit (h : Mem w O B n V) : ∀ i, 0 ≤ V i ∧ V i ≤ 18446744073709551615 := by obtain ⟨bm, pt, h⟩ := h; exact h.fit
theorem Mem.out (h : Mem w O B n V) : ∀ i, 512 * n ≤ i → V i = 0 := by obtain ⟨bm, pt, h⟩ := h; exact h.out
theorem Mem.alloc (h : Mem w O B n V) (o : Obj) : Mem (w.alloc o) O B n V := by obtain ⟨bm, pt, h⟩ := h; exact ⟨bm, pt, h.alloc o⟩
theorem Mem.drew (h : Mem w O B n V) : Mem w.drew O B n V := by obtain ⟨bm, pt, h⟩ := h; exact ⟨bm, pt, h.drew⟩
theorem Mem.drewN (h : Mem w O B n V) (m : Nat) : Mem (w.drewN m) O B n V := by obtain ⟨bm, pt, h⟩ := h; exact ⟨bm, pt, h.drewN m⟩
theorem Mem.apart (h : Mem w O B n V) (hf : Fp P w w' P') (hd : ∀ k, O k → ¬ P k) : Mem w' O B n V :=
  h.kept (fun k hk => hf.keep k (h.lt k hk) (hd k hk)) (fun _ hk => hk) (fun k hk => Nat.lt_of_lt_of_le (h.lt k hk) hf.size)
theorem Mem.congr (h : Mem w O B n V) (e : ∀ i, V i = U i) : Mem w O B n U := (funext e : V = U) ▸ h

def updV (V : Nat → Int) (x : Nat) (v : Int) : Nat → Int := fun i => if i = x then v else V i
def putF (V : Nat → Int) (k : Nat) (f : Nat → Int) : Nat → Int := fun i => if i / 512 = k then f (i % 512) else V i

theorem frame_ne (h : MemI w O B n V bm pt) {k : Nat} {g : Nat} (e : pt k = some g) : g ≠ bm ∧ g ≠ B := by
  obtain ⟨_, c, hg, _⟩ := h.fr.row k g e
  refine ⟨h.pm.not_cells hg, ?_⟩
  rintro rfl
  rw [h.hB] at hg
  simp at hg
theorem bm_ne (h : MemI w O B n V bm pt) : B ≠ bm := h.pm.not_cells h.hB

/-- A store into a frame that is there. -/
theorem MemI.store (h : MemI w O B n V bm pt) (x : Nat) {g : Nat} (e : pt (x / 512 : Nat) = some g) (v : Int) (hv : 0 ≤ v ∧ v ≤ 18446744073709551615) :
    MemI (w.setCell ⟨g, x % 512, none⟩ (.int .u64 v)) O B n (updV V x v) bm pt := by
  obtain ⟨gm, gB⟩ := frame_ne h e
  obtain ⟨hk0, hkn⟩ := h.fr.inN _ _ e
  refine ⟨h.n1, h.n64, fun i => ?_, fun i hi => ?_, fun k hk => by simpa using h.lt k hk, h.oB, h.oM, ?_, ?_, ⟨h.fr.inN, fun k g' e' => ?_, fun k hk e' j hj => ?_, h.fr.inj⟩⟩
  · unfold updV
    split
    · exact hv
    · exact h.fit i
  · unfold updV
    rw [if_neg (by omega)]
    exact h.out i hi
  · exact (heap_setCell_other w ⟨g, x % 512, none⟩ B _ (Ne.symm gB)).trans h.hB
  · exact h.pm.of_block (heap_setCell_other w ⟨g, x % 512, none⟩ bm _ (Ne.symm gm))
  · obtain ⟨ho, hr⟩ := h.fr.row k g' e'
    refine ⟨ho, ?_⟩
    by_cases hg : g' = g
    · subst hg
      have hkx := h.fr.inj _ _ _ e' e
      have hkx' : k = x / 512 := by omega
      subst hkx'
      refine (hr.set (x % 512) _).congr fun j hj => ?_
      unfold updV
      by_cases hj' : j = x % 512
      · rw [if_pos hj', if_pos (by omega)]
      · rw [if_neg hj', if_neg (by omega)]
    · refine (hr.setOther (a := ⟨g, x % 512, none⟩) hg _).congr fun j hj => ?_
      unfold updV
      rw [if_neg]
      rintro rfl
      have : (512 * k + j) / 512 = k := by omega
      rw [this, e'] at e
      exact hg (Option.some.inj e)
  · unfold updV
    rw [if_neg]
    · exact h.fr.zero k hk e' j hj
    · rintro rfl
      have : (512 * k + j) / 512 = k := by omega
      rw [this, e'] at e
      cases e

/-- A frame laid into the map: its words are f. -/
theorem MemI.put (h : MemI w O B n V bm pt) (k : Nat) (hk : k < n) (cs : Array Value) (f : Nat → Int) (hcs : (w.alloc (.cells cs 76)).rowIs w.heap.size 76 512 (fun j => .int .u64 (f j))) (hf : ∀ j, 0 ≤ f j ∧ f j ≤ 18446744073709551615)
    {w2 : World} (hg : (w.alloc (.cells cs 76)).grownBy w2 (some bm)) (hs : w2.heap.size = (w.alloc (.cells cs 76)).heap.size) (pm : PMap w2 bm (updI pt k (some w.heap.size))) :
    MemI w2 (fun j => O j ∨ j = w.heap.size) B n (putF V k f) bm (updI pt k (some w.heap.size)) := by
  have hM := h.lt _ h.oM
  have hsz : (w.alloc (.cells cs 76)).heap.size = w.heap.size + 1 := by simp
  have keep : ∀ j, j < w.heap.size → j ≠ bm → w2.heap[j]? = w.heap[j]? := fun j hj hne => (hg.block j (by omega) (by simpa using hne)).trans (Below.heap_alloc w _ j hj)
  have hnew : w2.heap[w.heap.size]? = (w.alloc (.cells cs 76)).heap[w.heap.size]? := hg.block _ (by omega) (by simp; omega)
  refine ⟨h.n1, h.n64, fun i => ?_, fun i hi => ?_, fun j hj => ?_, .inl h.oB, .inl h.oM, (keep B h.hBlt (bm_ne h)).trans h.hB, pm, ⟨fun j g e => ?_, fun j g e => ?_, fun j hj e i hi => ?_, fun j j' g e e' => ?_⟩⟩
  · unfold putF
    split
    · exact hf _
    · exact h.fit i
  · unfold putF
    rw [if_neg (by omega)]
    exact h.out i hi
  · rw [hs, hsz]
    rcases hj with hj | rfl
    · have := h.lt j hj; omega
    · omega
  · unfold updI at e
    by_cases ej : j = (k : Int)
    · subst ej; omega
    · rw [if_neg ej] at e
      exact h.fr.inN j g e
  · unfold updI at e
    by_cases ej : (j : Int) = (k : Int)
    · have : j = k := by omega
      subst this
      rw [if_pos rfl] at e
      cases e
      refine ⟨.inr rfl, (hcs.of_block hnew).congr fun i hi => ?_⟩
      unfold putF
      rw [if_pos (by omega), show (512 * j + i) % 512 = i from by omega]
    · rw [if_neg ej] at e
      obtain ⟨ho, hr⟩ := h.fr.row j g e
      refine ⟨.inl ho, (hr.of_block (keep g (h.lt g ho) (frame_ne h e).1)).congr fun i hi => ?_⟩
      unfold putF
      rw [if_neg (by omega)]
  · unfold updI at e
    by_cases ej : (j : Int) = (k : Int)
    · rw [if_pos ej] at e; cases e
    · rw [if_neg ej] at e
      unfold putF
      rw [if_neg (by omega)]
      exact h.fr.zero j hj e i hi
  · unfold updI at e e'
    have old : ∀ (i : Int), pt i ≠ some w.heap.size := fun i hi => by
      obtain ⟨i', rfl⟩ := Int.eq_ofNat_of_zero_le (h.fr.inN i _ hi).1
      have := h.lt _ (h.fr.row i' _ hi).1
      omega
    by_cases ej : j = (k : Int)
    · rw [if_pos ej] at e
      cases e
      by_cases ej' : j' = (k : Int)
      · rw [ej, ej']
      · rw [if_neg ej'] at e'
        exact absurd e' (old j')
    · rw [if_neg ej] at e
      by_cases ej' : j' = (k : Int)
      · rw [if_pos ej'] at e'
        cases e'
        exact absurd e (old j)
      · rw [if_neg ej'] at e'
        exact h.fr.inj j j' g e e'

/-- A frame struck from the map. -/
theorem MemI.drop (h : MemI w O B n V bm pt) (k : Nat) {w2 : World} (hg : w.grownBy w2 (some bm)) (hs : w2.heap.size = w.heap.size) (pm : PMap w2 bm (updI pt k none)) :
    MemI w2 O B n (putF V k (fun _ => 0)) bm (updI pt k none) := by
  have keep : ∀ j, j < w.heap.size → j ≠ bm → w2.heap[j]? = w.heap[j]? := fun j hj hne => hg.block j (by omega) (by simpa using hne)
  refine ⟨h.n1, h.n64, fun i => ?_, fun i hi => ?_, fun j hj => by rw [hs]; exact h.lt j hj, h.oB, h.oM, (keep B h.hBlt (bm_ne h)).trans h.hB, pm, ⟨fun j g e => ?_, fun j g e => ?_, fun j hj e i hi => ?_, fun j j' g e e' => ?_⟩⟩
  · unfold putF
    split
    · exact ⟨by show (0 : Int) ≤ 0; omega, by show (0 : Int) ≤ 18446744073709551615; omega⟩
    · exact h.fit i
  · unfold putF
    split
    · rfl
    · exact h.out i hi
  · unfold updI at e
    split at e
    · cases e
    · exact h.fr.inN j g e
  · unfold updI at e
    by_cases ej : (j : Int) = (k : Int)
    · rw [if_pos ej] at e; cases e
    · rw [if_neg ej] at e
      obtain ⟨ho, hr⟩ := h.fr.row j g e
      refine ⟨ho, (hr.of_block (keep g (h.lt g ho) (frame_ne h e).1)).congr fun i hi => ?_⟩
      unfold putF
      rw [if_neg (by omega)]
  · unfold updI at e
    unfold putF
    by_cases ej : (j : Int) = (k : Int)
    · rw [if_pos (by omega)]
    · rw [if_neg ej] at e
      rw [if_neg (by omega)]
      exact h.fr.zero j hj e i hi
  · unfold updI at e e'
    split at e
    · cases e
    · split at e'
      · cases e'
      · exact h.fr.inj j j' g e e'
end

/-- What a call on a memory leaves. -/
def Did (w : World) (O : Nat → Prop) (B n : Nat) (V : Nat → Int) (r : Value) (e : Ending) (w' : World) : Prop := e = .returned r ∧ ∃ O', Fp O w w' O' ∧ Mem w' O' B n V
def Same (w : World) (r : Value) (e : Ending) (w' : World) : Prop := e = .returned r ∧ w = w'
end Go.Proofs.Ytablmoegmmeglaa
