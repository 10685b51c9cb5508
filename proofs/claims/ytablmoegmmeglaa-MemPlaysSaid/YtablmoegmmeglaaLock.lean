/- The walks of the ticket lock: look, Take, Served, Pass, Waiting, on a memory and on none. -/
import Derived.Test.YtablmoegmmeglaaWalkD
import Derived.Laws.ResultCell
namespace Go.Proofs.Ytablmoegmmeglaa
open Go.RowKit
variable {w : World} {O : Nat → Prop} {B n bm : Nat} {V : Nat → Int} {pt : Int → Option Nat}

def Kept (w : World) (r : Value) (e : Ending) (w' : World) : Prop := e = .returned r ∧ w.grownBy w' none
theorem err0 (h : 1 ≤ n) : errW n 0 = 0 := by unfold errW; rw [if_pos (by omega)]
theorem err1 (h : 1 ≤ n) : errW n 1 = 0 := by unfold errW; rw [if_pos (by omega)]
theorem read0 (h : Mem w O B n V) : Calls Try.prog 20 #[.pointer (some ⟨B, 0, none⟩), .int .u64 0] w (Same w (.tuple #[.int .u64 (V 0), .int .i64 0])) := by
  have := read_any h 0 (by omega)
  rw [err0 h.n1] at this
  exact this
theorem read1 (h : Mem w O B n V) : Calls Try.prog 20 #[.pointer (some ⟨B, 0, none⟩), .int .u64 1] w (Same w (.tuple #[.int .u64 (V 1), .int .i64 0])) := by
  have := read_any h 1 (by omega)
  rw [err1 h.n1] at this
  exact this

theorem look_any (h : Mem w O B n V) : Calls Try.prog 43 #[.pointer (some ⟨B, 0, none⟩)] w (Kept w (.tuple #[.agg #[.int .u64 (V 0), .int .u64 (V 1)], .bool true])) := by
  have H0 := Lib.hid (fun o => read0 (h.alloc o))
  have H1 := Lib.hid (fun o => read1 (h.alloc o))
  have f0 := h.fit 0
  have f1 := h.fit 1
  clear h
  go_enter Try.func43, Try.ntmps43
  go_wp2_with fail
  refine (H0.out _).mono ?_
  rintro e w' ⟨rfl, rfl⟩
  go_wp2_with fail
  refine (H1.out _).mono ?_
  rintro e w' ⟨rfl, rfl⟩
  go_wp2_with fail
  (try simp only [Exit.inBlock, Exit.then])
  refine bodyPost_ret (v := .tuple #[.agg #[.int .u64 (V 0), .int .u64 (V 1)], .bool true]) ?_ rfl ⟨rfl, World.grownBy_alloc _ _ _⟩
  rw [results_cell_tmp rfl]
  go_simp
theorem look_nil (w : World) : Calls Try.prog 43 #[.pointer none] w (Kept w (.tuple #[.agg #[.int .u64 0, .int .u64 0], .bool false])) := by
  go_enter Try.func43, Try.ntmps43
  go_wp2_with (go_at_call 20; refine (read_nil _ _).mono ?_; rintro e w' ⟨rfl, rfl⟩)
  (try simp only [Exit.inBlock, Exit.then])
  refine bodyPost_ret (v := .tuple #[.agg #[.int .u64 0, .int .u64 0], .bool false]) ?_ rfl ⟨rfl, World.grownBy_alloc _ _ _⟩
  rw [results_cell_tmp rfl]
  go_simp

theorem take_any (h : Mem w O B n V) : Calls Try.prog 25 #[.pointer (some ⟨B, 0, none⟩)] w (Did w O B n (vAdd n V 0 1) (.tuple #[.int .u64 (V 0), .int .i64 0])) := by
  have H := Lib.hid h
  have f0 := h.fit 0
  have n1 := h.n1
  clear h
  go_enter Try.func25, Try.ntmps25
  go_wp2_with fail
  refine (add_any H.out 0 1 (by omega) (by omega)).mono ?_
  rintro e w' ⟨rfl, O2, hf, hm⟩
  rw [err0 n1]
  have HF := Lib.hid hf
  have HM := Lib.hid hm
  clear hf hm
  go_wp2_with fail
  go_ret2
  exact ⟨rfl, O2, HF.out, HM.out⟩
theorem take_nil (w : World) : Calls Try.prog 25 #[.pointer none] w (Same w (.tuple #[.int .u64 0, .int .i64 1])) := by
  go_enter Try.func25, Try.ntmps25
  go_wp2_with (go_at_call 21; refine (add_nil _ _ _).mono ?_; rintro e w' ⟨rfl, rfl⟩)
  go_ret2
  exact ⟨rfl, rfl⟩

theorem grown0_trans {a b c : World} (h : a.grownBy b none) (k : b.grownBy c none) : a.grownBy c none :=
  ⟨k.os.trans h.os, k.tape.trans h.tape, k.output.trans h.output, Nat.le_trans h.size k.size, fun i hi _ => (k.block i (Nat.lt_of_lt_of_le hi h.size) (by simp)).trans (h.block i hi (by simp))⟩
theorem served_any (h : Mem w O B n V) (t : Int) : Calls Try.prog 30 #[.pointer (some ⟨B, 0, none⟩), .int .u64 t] w (Kept w (.bool (V 1 == t))) := by
  have H := Lib.hid h
  have f0 := h.fit 0
  have f1 := h.fit 1
  clear h
  go_enter Try.func30, Try.ntmps30
  go_wp2_with fail
  refine (look_any H.out).mono ?_
  rintro e w' ⟨rfl, hg⟩
  have HG := Lib.hid hg
  clear hg
  by_cases ht : V 1 = t
  · subst ht
    go_wp2_with fail
    go_ret
    exact ⟨by rw [beq_self_eq_true]; rfl, grown0_trans HG.out (World.grownBy_alloc _ _ _)⟩
  · have hne : (V 1 == t) = false := by simpa using ht
    go_wp2_with fail
    go_ret
    exact ⟨by rw [hne]; rfl, grown0_trans HG.out (World.grownBy_alloc _ _ _)⟩
theorem served_nil (t : Int) (w : World) : Calls Try.prog 30 #[.pointer none, .int .u64 t] w (Kept w (.bool false)) := by
  go_enter Try.func30, Try.ntmps30
  go_wp2_with (go_at_call 43; refine (look_nil _).mono ?_; rintro e w' ⟨rfl, hg⟩)
  go_ret
  exact ⟨rfl, grown0_trans hg (World.grownBy_alloc _ _ _)⟩

theorem waiting_any (h : Mem w O B n V) : Calls Try.prog 32 #[.pointer (some ⟨B, 0, none⟩)] w (Kept w (.int .u64 (wrapU (V 0 - V 1)))) := by
  have H := Lib.hid h
  have f0 := h.fit 0
  have f1 := h.fit 1
  clear h
  go_enter Try.func32, Try.ntmps32
  go_wp2_with fail
  refine (look_any H.out).mono ?_
  rintro e w' ⟨rfl, hg⟩
  go_wp2_with fail
  go_ret
  exact ⟨by unfold wrapU; rw [IntKind.wrap_u64]; rfl, grown0_trans hg (World.grownBy_alloc _ _ _)⟩
theorem waiting_nil (w : World) : Calls Try.prog 32 #[.pointer none] w (Kept w (.int .u64 0)) := by
  go_enter Try.func32, Try.ntmps32
  go_wp2_with (go_at_call 43; refine (look_nil _).mono ?_; rintro e w' ⟨rfl, hg⟩)
  go_ret
  exact ⟨rfl, grown0_trans hg (World.grownBy_alloc _ _ _)⟩

theorem pass_any (h : Mem w O B n V) : Calls Try.prog 27 #[.pointer (some ⟨B, 0, none⟩)] w (Kept w (.tuple #[.agg #[.int .i8 0, .int .u64 1, .int .u64 (wrapU (V 1 + 1)), .int .i64 0, .int .i64 0], .int .i64 0])) := by
  have H1 := Lib.hid (fun o => read1 (h.alloc o))
  have f1 := h.fit 1
  clear h
  go_enter Try.func27, Try.ntmps27
  go_wp2_with fail
  refine (H1.out _).mono ?_
  rintro e w' ⟨rfl, rfl⟩
  go_wp2_with fail
  (try simp only [Exit.inBlock, Exit.then])
  refine bodyPost_ret (v := .tuple #[.agg #[.int .i8 0, .int .u64 1, .int .u64 (IntKind.u64.wrap (V 1 + 1)), .int .i64 0, .int .i64 0], .int .i64 0]) ?_ rfl ⟨rfl, World.grownBy_alloc _ _ _⟩
  rw [results_cell_tmp rfl]
  go_simp
theorem pass_nil (w : World) : Calls Try.prog 27 #[.pointer none] w (Kept w (.tuple #[.agg #[.int .i8 0, .int .u64 0, .int .u64 0, .int .i64 0, .int .i64 0], .int .i64 1])) := by
  go_enter Try.func27, Try.ntmps27
  go_wp2_with (go_at_call 20; refine (read_nil _ _).mono ?_; rintro e w' ⟨rfl, rfl⟩)
  (try simp only [Exit.inBlock, Exit.then])
  refine bodyPost_ret (v := .tuple #[.agg #[.int .i8 0, .int .u64 0, .int .u64 0, .int .i64 0, .int .i64 0], .int .i64 1]) ?_ rfl ⟨rfl, World.grownBy_alloc _ _ _⟩
  rw [results_cell_tmp rfl]
  go_simp
end Go.Proofs.Ytablmoegmmeglaa
