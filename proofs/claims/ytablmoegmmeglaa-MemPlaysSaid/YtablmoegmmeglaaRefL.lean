/- The walks of the reference's ticket lock; a memory beside the reference's. -/
import Derived.Test.YtablmoegmmeglaaRefB
import Derived.Test.YtablmoegmmeglaaLockNilWalk
namespace Go.Proofs.Ytablmoegmmeglaa
open Go.RowKit
variable {w : World} {O : Nat → Prop} {R n : Nat} {V : Nat → Int}

theorem rread0 (h : Ref w O R n V) (ho : ∀ i, 512 * n ≤ i → V i = 0) : Calls Try.prog 35 #[.pointer (some ⟨R, 0, none⟩), .int .u64 0] w (Same w (.tuple #[.int .u64 (V 0), .int .i64 0])) := by
  have := rread_any h ho 0 (by omega)
  rw [err0 h.n1] at this
  exact this
theorem rread1 (h : Ref w O R n V) (ho : ∀ i, 512 * n ≤ i → V i = 0) : Calls Try.prog 35 #[.pointer (some ⟨R, 0, none⟩), .int .u64 1] w (Same w (.tuple #[.int .u64 (V 1), .int .i64 0])) := by
  have := rread_any h ho 1 (by omega)
  rw [err1 h.n1] at this
  exact this
theorem rtake_any (h : Ref w O R n V) (ho : ∀ i, 512 * n ≤ i → V i = 0) : Calls Try.prog 26 #[.pointer (some ⟨R, 0, none⟩)] w (DidR w O R n (vAdd n V 0 1) (.tuple #[.int .u64 (V 0), .int .i64 0])) := by
  have h1 := radd_any h ho 0 1 (by omega)
  rw [err0 h.n1] at h1
  have H := Lib.hid h1
  clear h h1 ho
  go_enter Try.func26, Try.ntmps26
  go_wp2_with fail
  refine H.out.mono ?_
  rintro e w' ⟨rfl, O2, hf, hm⟩
  have HF := Lib.hid hf
  have HM := Lib.hid hm
  clear hf hm
  go_wp2_with fail
  go_ret2
  exact ⟨rfl, O2, HF.out, HM.out⟩
theorem rserved_any (h : Ref w O R n V) (ho : ∀ i, 512 * n ≤ i → V i = 0) (t : Int) : Calls Try.prog 31 #[.pointer (some ⟨R, 0, none⟩), .int .u64 t] w (Same w (.bool (V 1 == t))) := by
  have H1 := Lib.hid (rread1 h ho)
  clear h ho
  go_enter Try.func31, Try.ntmps31
  go_wp2_with fail
  refine H1.out.mono ?_
  rintro e w' ⟨rfl, rfl⟩
  go_wp2_with fail
  go_ret
  exact ⟨rfl, rfl⟩
theorem rwaiting_any (h : Ref w O R n V) (ho : ∀ i, 512 * n ≤ i → V i = 0) : Calls Try.prog 33 #[.pointer (some ⟨R, 0, none⟩)] w (Same w (.int .u64 (wrapU (V 0 - V 1)))) := by
  have H0 := Lib.hid (rread0 h ho)
  have H1 := Lib.hid (rread1 h ho)
  have f0 := h.fit 0
  have f1 := h.fit 1
  clear h ho
  go_enter Try.func33, Try.ntmps33
  go_wp2_with fail
  refine H0.out.mono ?_
  rintro e w' ⟨rfl, rfl⟩
  go_wp2_with fail
  refine H1.out.mono ?_
  rintro e w' ⟨rfl, rfl⟩
  go_wp2_with fail
  go_ret
  exact ⟨by unfold wrapU; rw [IntKind.wrap_u64]; rfl, rfl⟩
theorem rpass_any (h : Ref w O R n V) (ho : ∀ i, 512 * n ≤ i → V i = 0) : Calls Try.prog 28 #[.pointer (some ⟨R, 0, none⟩)] w (Kept w (.tuple #[.agg #[.int .i8 0, .int .u64 1, .int .u64 (wrapU (V 1 + 1)), .int .i64 0, .int .i64 0], .int .i64 0])) := by
  have H1 := Lib.hid (fun o => rread1 (h.grown (World.grownBy_alloc w o none)) ho)
  have f1 := h.fit 1
  clear h ho
  go_enter Try.func28, Try.ntmps28
  go_wp2_with fail
  refine (H1.out _).mono ?_
  rintro e w' ⟨rfl, rfl⟩
  go_wp2_with fail
  (try simp only [Exit.inBlock, Exit.then])
  refine bodyPost_ret (v := .tuple #[.agg #[.int .i8 0, .int .u64 1, .int .u64 (IntKind.u64.wrap (V 1 + 1)), .int .i64 0, .int .i64 0], .int .i64 0]) ?_ rfl ⟨rfl, World.grownBy_alloc _ _ _⟩
  rw [results_cell_tmp rfl]
  go_simp

/-- A memory, and the reference's, that share no block. -/
structure Both (w0 w : World) (O P : Nat → Prop) (B R n : Nat) (V U : Nat → Int) : Prop where
  g : w0.grownBy w none
  lo : ∀ k, O k → w0.heap.size ≤ k
  lp : ∀ k, P k → w0.heap.size ≤ k
  m : Mem w O B n V
  r : Ref w P R n U
  d : ∀ k, O k → ¬ P k
section
variable {w0 w w' : World} {O P O' P' : Nat → Prop} {B R n : Nat} {V U V' U' : Nat → Int}
theorem Both.mem (h : Both w0 w O P B R n V U) (hf : Fp O w w' O') (hm : Mem w' O' B n V') : Both w0 w' O' P B R n V' U := by
  refine ⟨⟨hf.os.trans h.g.os, hf.tape.trans h.g.tape, hf.output.trans h.g.output, Nat.le_trans h.g.size hf.size, fun k hk _ => (hf.keep k (Nat.lt_of_lt_of_le hk h.g.size) (fun c => by have := h.lo k c; omega)).trans (h.g.block k hk (by simp))⟩, fun k hk => ?_, h.lp, hm, h.r.apart hf (fun k hp ho => h.d k ho hp), fun k ho hp => ?_⟩
  · rcases hf.new k hk with h1 | h1
    · exact h.lo k h1
    · exact Nat.le_trans h.g.size h1.1
  · rcases hf.new k ho with h1 | h1
    · exact h.d k h1 hp
    · have := h.r.lt k hp; omega
theorem Both.ref (h : Both w0 w O P B R n V U) (hf : Fp P w w' P') (hm : Ref w' P' R n U') : Both w0 w' O P' B R n V U' := by
  refine ⟨⟨hf.os.trans h.g.os, hf.tape.trans h.g.tape, hf.output.trans h.g.output, Nat.le_trans h.g.size hf.size, fun k hk _ => (hf.keep k (Nat.lt_of_lt_of_le hk h.g.size) (fun c => by have := h.lp k c; omega)).trans (h.g.block k hk (by simp))⟩, h.lo, fun k hk => ?_, h.m.apart hf h.d, hm, fun k ho hp => ?_⟩
  · rcases hf.new k hk with h1 | h1
    · exact h.lp k h1
    · exact Nat.le_trans h.g.size h1.1
  · rcases hf.new k hp with h1 | h1
    · exact h.d k ho h1
    · have := h.m.lt k ho; omega
theorem Both.grown (h : Both w0 w O P B R n V U) (hg : w.grownBy w' none) : Both w0 w' O P B R n V U :=
  h.mem (Fp.grown0 hg) (mem_grown h.m hg)
theorem Both.start {w1 : World} (hf : Fp none_ w0 w1 O) (hm : Mem w1 O B n V) (hf2 : Fp none_ w1 w P) (hr : Ref w P R n U) : Both w0 w O P B R n V U := by
  have h1 := hf.trans (hf2.ofNone O)
  refine ⟨⟨h1.os, h1.tape, h1.output, h1.size, fun k hk _ => h1.keep k hk (fun c => c)⟩, fun k hk => ?_, fun k hk => ?_, hm.apart hf2 (fun _ _ c => c), hr, fun k ho hp => ?_⟩
  · rcases hf.new k hk with h | h
    · exact h.elim
    · exact h.1
  · rcases hf2.new k hk with h | h
    · exact h.elim
    · exact Nat.le_trans hf.size h.1
  · rcases hf2.new k hp with h | h
    · exact h.elim
    · have := hm.lt k ho; omega
end
end Go.Proofs.Ytablmoegmmeglaa
