/- MemNil: whatever the word, the value and the entry: the law returns true, and the arguments read as they did. No condition. -/
import Derived.Test.YtablmoegmmeglaaNilWalk
import Derived.Test.YtablmoegmmeglaaAgg
import Derived.ChangeOld
namespace Go.Proofs.Ytablmoegmmeglaa.memNil
open Go.ChangeShapes Go.WideShapes Go.ChangeAt Go.RowKit

theorem own : ownKnob Try.prog.godebug = none := by kernel_rfl
theorem laidOut : laidOutB Try.prog = true := by kernel_rfl
theorem cells35 : Try.prog.cellsOf 35 = 5 := by kernel_rfl

theorem walk (a0 a1 kd ew ev ef er : Int) (w : World) :
    Calls Try.prog 4 #[.int .u64 a0, .int .u64 a1, .agg #[.int .i8 kd, .int .u64 ew, .int .u64 ev, .int .i64 ef, .int .i64 er]] w fun e w' => e = .returned (.bool true) ∧ Below w.heap.size w w' :=
  (nil_walk a0 a1 kd ew ev ef er w).mono fun _ _ ⟨he, _, hg⟩ => ⟨he, hg.os, hg.tape, hg.output, hg.size, fun k hk => hg.keep k hk (fun c => c)⟩

theorem int_of {H : Type} {enc : TypeId × Value → H} {P : Program} {w : World} {base : Nat} {spare : Nat → Bool} {held : Bool} {n t : Nat} {k : IntKind} {v : Value} {y : DataW H × List MemPlace} (ht : P.underlying t = some (.int k))
    (h : DataW.trod enc P w base spare held n t [v] = some y) : ∃ x, v = .int k x := by
  obtain ⟨x, e0, _, _⟩ := DataW.trod_int ht h
  exact ⟨x, by simpa using e0⟩

set_option maxRecDepth 100000 in
theorem lifted (os : Os) (started : os.Started) (H : Type) (enc : TypeId × Value → H) :
    ReturnsInHanded {} Try.checked os 4 .any (Rows.memNilSpec.pre6 enc Try.prog Try.f4 Rows.memNilRow.domain false) (Rows.memNilSpec.post enc Try.prog Try.f4 false true false false) := by
  refine returnsInHanded_of_change (C := Try.checked) own started (by kernel_rfl) Try.func4
    (ChangeSpec.witness6 (enc := enc) (C := Try.checked) false ⟨#[], #[.int .u64 0, .int .u64 0, .agg #[.int .i8 0, .int .u64 0, .int .u64 0, .int .i64 0, .int .i64 0]], []⟩ 8 (by kernel_rfl) (by kernel_rfl) (by kernel_rfl) (by kernel_rfl)) ?_
  intro W base args ds gs before hval0 hW _ _
  have hval : ∀ (j : Nat) t v, Try.f4.params[j]? = some t → args[j]? = some v → Value.okWide Try.prog W .any base t v := hval0
  have hW' := hW
  obtain ⟨p, q, hA0, hV, rfl, _, _⟩ := hW
  have hA : DataW.TrodAll enc Try.prog W 0 (fun _ => true) true Try.f4.params.toList args.toList ds p := hA0
  rw [Try.params4] at hA hval
  obtain ⟨v0, vs0, d0, ds0, p0, q0, hargs, rfl, rfl, h0, r0⟩ := trodAll_cons hA
  obtain ⟨v1, vs1, d1, ds1, p1, q1, rfl, rfl, rfl, h1, r1⟩ := trodAll_cons r0
  obtain ⟨v2, vs2, d2, ds2, p2, q2, rfl, rfl, rfl, h2, r2⟩ := trodAll_cons r1
  obtain ⟨rfl, rfl, rfl⟩ := trodAll_nil r2
  obtain rfl : args = #[v0, v1, v2] := by cases args; simp_all
  obtain ⟨rfl, rfl⟩ := trodVars_none hV
  obtain ⟨a0, rfl, rfl, rfl, w0⟩ := open_int Try.underlying32 (hval 0 32 v0 rfl rfl) h0
  obtain ⟨a1, rfl, rfl, rfl, w1⟩ := open_int Try.underlying32 (hval 1 32 v1 rfl rfl) h1
  have k2 := h2
  have lt2 : ∀ x ∈ p2, x.block < W.heap.size := by obtain ⟨m, hm⟩ := k2; exact DataW.trod_lt m _ _ _ hm
  obtain ⟨u0, u1, u2, u3, u4, y0, y1, y2, y3, y4, n, hv2, _, _, t0, t1, t2, t3, t4⟩ := open_agg5 Try.underlying35 (by kernel_rfl) cells35 (hval 2 35 v2 rfl rfl) h2
  obtain ⟨kd, rfl⟩ := int_of Try.underlying33 t0
  obtain ⟨ew, rfl⟩ := int_of Try.underlying32 t1
  obtain ⟨ev, rfl⟩ := int_of Try.underlying32 t2
  obtain ⟨ef, rfl⟩ := int_of Try.underlying3 t3
  obtain ⟨er, rfl⟩ := int_of Try.underlying3 t4
  subst hv2
  clear hA0 hval0
  refine (walk a0 a1 kd ew ev ef er W).mono fun e W' ⟨he, bel⟩ => ?_
  subst he
  exact ⟨_, rfl, _, _, _, [], _, [], hW', trodAll_mk1 (shut_bool Try.underlying4 _), (trodAll_cons_mk (shut_int Try.underlying32 w0) (trodAll_cons_mk (shut_int Try.underlying32 w1) (trodAll_cons_mk (Below.trod laidOut (by kernel_rfl) (of_decide_eq_true (by kernel_rfl)) k2 bel lt2) trodAll_mk0))), rfl, bel.frame _, fun h => by cases h⟩

theorem over : Rows.memNilRow.holds Try.pinned (OpenSpec.ofChange Rows.memNilSpec) :=
  OpenClaim.holds_of_wide 4 Try.f4 rfl rfl rfl rfl rfl rfl rfl ⟨rfl, rfl, rfl, rfl, rfl⟩ rfl rfl rfl rfl rfl (by kernel_rfl) Try.func4 (by kernel_rfl)
    (of_decide_eq_true (by kernel_rfl)) (by unfold Func.isWrapper; first | (rw [if_pos (by decide +kernel)]; kernel_rfl) | (rw [if_neg (by decide +kernel)]; exact ⟨rfl, rfl⟩))
    (fun os started H enc _ => lifted os started H enc)

theorem proved : Rows.MemNilSaid := over
#print axioms proved
end Go.Proofs.Ytablmoegmmeglaa.memNil
