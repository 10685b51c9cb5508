/- The walk of MemOrder. -/
import Derived.Test.YtablmoegmmeglaaWalkD
namespace Go.Proofs.Ytablmoegmmeglaa
open Go.RowKit
variable {w : World} {O : Nat → Prop} {B : Nat} {V : Nat → Int}

theorem reach_word (h : Mem w O B 64 V) (x : Nat) (v : Int) (hx : x < 32768) (hv : 0 ≤ v ∧ v ≤ 18446744073709551615) :
    Calls Try.prog 22 #[.pointer (some ⟨B, 0, none⟩), .agg #[.int .i8 0, .int .u64 x, .int .u64 v, .int .i64 0, .int .i64 0]] w (Did w O B 64 (updV V x v) (.int .i64 0)) := by
  have := reach_any h 0 x v 0 0 (by omega) (by omega) hv
  rw [show vReach 64 V 0 x v 0 0 = updV V x v from by unfold vReach vWrite; rw [if_pos rfl, if_pos (by omega)], show errReach 64 0 x 0 0 = 0 from by unfold errReach errW; rw [if_pos rfl, if_pos (by omega)]] at this
  exact this
theorem read_word (h : Mem w O B 64 V) (x : Nat) (hx : x < 32768) :
    Calls Try.prog 20 #[.pointer (some ⟨B, 0, none⟩), .int .u64 x] w (Same w (.tuple #[.int .u64 (V x), .int .i64 0])) := by
  have := read_any h x (by omega)
  rwa [show errW 64 x = 0 from by unfold errW; rw [if_pos (by omega)]] at this

/-- The entry that lies in block b. -/
def Ent (w : World) (b : Nat) (kd x v f k : Int) : Prop := w.heap[b]? = some (.cells #[.int .i8 kd, .int .u64 x, .int .u64 v, .int .i64 f, .int .i64 k] 35 (0, 0))
theorem Ent.kept {w w' : World} {O O' : Nat → Prop} {b : Nat} {kd x v f k : Int} (h : Ent w b kd x v f k) (hf : Fp O w w' O') (hb : ¬ O b) : Ent w' b kd x v f k := (hf.keep b (lt_of_block h) hb).trans h
theorem Ent.cell {w : World} {b : Nat} {kd x v f k : Int} (h : Ent w b kd x v f k) (j : Nat) : w.cell? ⟨b, j, none⟩ = (#[Value.int .i8 kd, .int .u64 x, .int .u64 v, .int .i64 f, .int .i64 k] : Array Value)[j]? := cell_of_row w b j _ _ _ h
theorem Fp.old {w w' : World} {O O' P : Nat → Prop} (hf : Fp O w w' O') (hd : ∀ k, P k → ¬ O k) (hlt : ∀ k, P k → k < w.heap.size) : ∀ k, P k → ¬ O' k := fun k hk ho => by
  rcases hf.new k ho with h | h
  · exact hd k hk h
  · have := hlt k hk; omega

theorem Fp.left {w w' : World} {O O' P : Nat → Prop} (h : Fp O w w' O') : Fp (fun k => O k ∨ P k) w w' (fun k => O' k ∨ P k) :=
  ⟨h.os, h.tape, h.output, h.size, fun k hk ho => h.keep k hk (fun c => ho (.inl c)), fun k hk => by
    rcases hk with hk | hk
    · rcases h.new k hk with h1 | h1
      · exact .inl (.inl h1)
      · exact .inr h1
    · exact .inl (.inr hk)⟩
theorem Fp.right {w w' : World} {O O' P : Nat → Prop} (h : Fp O w w' O') : Fp (fun k => P k ∨ O k) w w' (fun k => P k ∨ O' k) :=
  ⟨h.os, h.tape, h.output, h.size, fun k hk ho => h.keep k hk (fun c => ho (.inr c)), fun k hk => by
    rcases hk with hk | hk
    · exact .inl (.inl hk)
    · rcases h.new k hk with h1 | h1
      · exact .inl (.inr h1)
      · exact .inr h1⟩
theorem Fp.more {w w' : World} {O' P : Nat → Prop} (h : Fp none_ w w' O') : Fp P w w' (fun k => P k ∨ O' k) :=
  ⟨h.os, h.tape, h.output, h.size, fun k hk _ => h.keep k hk (fun c => c), fun k hk => by
    rcases hk with hk | hk
    · exact .inl hk
    · rcases h.new k hk with h1 | h1
      · exact h1.elim
      · exact .inr h1⟩

/-- Two memories that share no block, and two entries beside them. -/
structure Two (w0 w : World) (O1 O2 : Nat → Prop) (B1 B2 : Nat) (V1 V2 : Nat → Int) (b : Nat) (x v y u : Int) : Prop where
  f : Fp none_ w0 w (fun k => O1 k ∨ O2 k)
  m1 : Mem w O1 B1 64 V1
  m2 : Mem w O2 B2 64 V2
  d : ∀ k, O1 k → ¬ O2 k
  e1 : Ent w b 0 x v 0 0
  e2 : Ent w (b + 1) 0 y u 0 0
  n1 : ¬ O1 b ∧ ¬ O1 (b + 1)
  n2 : ¬ O2 b ∧ ¬ O2 (b + 1)
section
variable {w0 w w' : World} {O1 O2 P : Nat → Prop} {B1 B2 : Nat} {V1 V2 U : Nat → Int} {b : Nat} {x v y u : Int}
theorem new_not {O O' : Nat → Prop} (hf : Fp O w w' O') {b : Nat} (h : ¬ O b) (hb : b < w.heap.size) : ¬ O' b := fun c => by
  rcases hf.new b c with h1 | h1
  · exact h h1
  · omega
theorem Two.step1 (h : Two w0 w O1 O2 B1 B2 V1 V2 b x v y u) (hf : Fp O1 w w' P) (hm : Mem w' P B1 64 U) : Two w0 w' P O2 B1 B2 U V2 b x v y u :=
  ⟨h.f.trans hf.left, hm, h.m2.apart hf (fun k hk c => h.d k c hk), fun k hk c => hf.old (P := O2) (fun k hk c => h.d k c hk) h.m2.lt k c hk,
   h.e1.kept hf h.n1.1, h.e2.kept hf h.n1.2, ⟨new_not hf h.n1.1 (lt_of_block h.e1), new_not hf h.n1.2 (lt_of_block h.e2)⟩, h.n2⟩
theorem Two.step2 (h : Two w0 w O1 O2 B1 B2 V1 V2 b x v y u) (hf : Fp O2 w w' P) (hm : Mem w' P B2 64 U) : Two w0 w' O1 P B1 B2 V1 U b x v y u :=
  ⟨h.f.trans hf.right, h.m1.apart hf h.d, hm, fun k hk c => hf.old (P := O1) h.d h.m1.lt k hk c,
   h.e1.kept hf h.n2.1, h.e2.kept hf h.n2.2, h.n1, ⟨new_not hf h.n2.1 (lt_of_block h.e1), new_not hf h.n2.2 (lt_of_block h.e2)⟩⟩
end

set_option maxHeartbeats 2000000 in
theorem order_walk (X Y : Nat) (v u : Int) (hX : X ≤ 18446744073709551615) (hY : Y ≤ 18446744073709551615) (hv : 0 ≤ v ∧ v ≤ 18446744073709551615) (hu : 0 ≤ u ∧ u ≤ 18446744073709551615) (w : World) :
    Calls Try.prog 5 #[.int .u64 X, .int .u64 Y, .int .u64 v, .int .u64 u] w (Law w (.bool true)) := by
  have HV := Lib.hid hv
  have HU := Lib.hid hu
  clear hv hu
  go_enter Try.func5, Try.ntmps5
  go_wp2_with fail
  refine (new_in 64 _ (by omega) (by omega)).mono ?_
  rintro e w1 ⟨B1, O1, rfl, hf1, hm1⟩
  have hs1 := hm1.lt
  have HS1 := Lib.hid hs1
  have HF := Lib.hid hf1
  have HM1 := Lib.hid hm1
  clear hf1 hm1 hs1
  go_wp2_with fail
  refine (new_in 64 _ (by omega) (by omega)).mono ?_
  rintro e w2 ⟨B2, O2, rfl, hf2, hm2⟩
  have HD := Lib.hid (hf2.old (P := O1) (fun _ _ c => c) HS1.out)
  have HM1 := Lib.hid (HM1.out.apart hf2 (fun _ _ c => c))
  have HM2 := Lib.hid hm2
  have HF := Lib.hid (HF.out.trans (hf2.more (P := O1)))
  have HN1 := Lib.hid (fun k hk => Nat.lt_of_lt_of_le (HS1.out k hk) hf2.size : ∀ k, O1 k → k < w2.heap.size)
  have HN2 := Lib.hid hm2.lt
  clear hf2 hm2
  go_wp2_with fail
  rw [show (X : Int) % 32768 = ((X % 32768 : Nat) : Int) from by omega, show (Y : Int) % 32768 = ((Y % 32768 : Nat) : Int) from by omega]
  have hx : X % 32768 < 32768 := by omega
  have hy : Y % 32768 < 32768 := by omega
  generalize X % 32768 = x at hx ⊢
  generalize Y % 32768 = y at hy ⊢
  clear hX hY
  -- the two entries in their own blocks
  have hE1 : Ent ((w2.alloc (.cells #[.int .i8 0, .int .u64 x, .int .u64 v, .int .i64 0, .int .i64 0] 35)).alloc (.cells #[.int .i8 0, .int .u64 y, .int .u64 u, .int .i64 0, .int .i64 0] 35)) w2.heap.size 0 x v 0 0 :=
    (Below.heap_alloc _ _ _ (by rw [World.size_alloc]; omega)).trans (Go.heap_alloc_new w2 _)
  have hE2 : Ent ((w2.alloc (.cells #[.int .i8 0, .int .u64 x, .int .u64 v, .int .i64 0, .int .i64 0] 35)).alloc (.cells #[.int .i8 0, .int .u64 y, .int .u64 u, .int .i64 0, .int .i64 0] 35)) (w2.heap.size + 1) 0 y u 0 0 := by
    have := Go.heap_alloc_new (w2.alloc (.cells #[.int .i8 0, .int .u64 x, .int .u64 v, .int .i64 0, .int .i64 0] 35)) (.cells #[.int .i8 0, .int .u64 y, .int .u64 u, .int .i64 0, .int .i64 0] 35)
    rw [World.size_alloc] at this
    exact this
  have HF := Lib.hid ((HF.out.trans (Fp.alloc _ w2 (.cells #[.int .i8 0, .int .u64 x, .int .u64 v, .int .i64 0, .int .i64 0] 35))).trans (Fp.alloc _ _ (.cells #[.int .i8 0, .int .u64 y, .int .u64 u, .int .i64 0, .int .i64 0] 35)))
  have HM1 := Lib.hid ((HM1.out.alloc (.cells #[.int .i8 0, .int .u64 x, .int .u64 v, .int .i64 0, .int .i64 0] 35)).alloc (.cells #[.int .i8 0, .int .u64 y, .int .u64 u, .int .i64 0, .int .i64 0] 35))
  have HM2 := Lib.hid ((HM2.out.alloc (.cells #[.int .i8 0, .int .u64 x, .int .u64 v, .int .i64 0, .int .i64 0] 35)).alloc (.cells #[.int .i8 0, .int .u64 y, .int .u64 u, .int .i64 0, .int .i64 0] 35))
  have HD' := Lib.hid (fun k h2 h1 => HD.out k h1 h2 : ∀ k, O2 k → ¬ O1 k)
  have n11 : ¬ O1 w2.heap.size := fun c => by have := HN1.out _ c; omega
  have n12 : ¬ O1 (w2.heap.size + 1) := fun c => by have := HN1.out _ c; omega
  have n21 : ¬ O2 w2.heap.size := fun c => by have := HN2.out _ c; omega
  have n22 : ¬ O2 (w2.heap.size + 1) := fun c => by have := HN2.out _ c; omega
  generalize ((w2.alloc (.cells #[.int .i8 0, .int .u64 x, .int .u64 v, .int .i64 0, .int .i64 0] 35)).alloc (.cells #[.int .i8 0, .int .u64 y, .int .u64 u, .int .i64 0, .int .i64 0] 35)) = w3 at hE1 hE2 HF HM1 HM2 ⊢
  generalize w2.heap.size = b at hE1 hE2 n11 n12 n21 n22 ⊢
  have HT := Lib.hid (Two.mk HF.out HM1.out HM2.out HD.out hE1 hE2 ⟨n11, n12⟩ ⟨n21, n22⟩)
  clear HF HM1 HM2 HD hE1 hE2 n11 n12 n21 n22 HD' HS1 HN1 HN2
  refine (reach_word HT.out.m1 x v hx HV.out).mono ?_
  rintro e w4 ⟨rfl, P1, hf, hm⟩
  have HT := Lib.hid (HT.out.step1 hf hm)
  clear hf hm
  have c0 := HT.out.e2.cell 0
  have c1 := HT.out.e2.cell 1
  have c2 := HT.out.e2.cell 2
  have c3 := HT.out.e2.cell 3
  have c4 := HT.out.e2.cell 4
  go_wp2_with fail
  refine (reach_word HT.out.m1 y u hy HU.out).mono ?_
  rintro e w5 ⟨rfl, P2, hf, hm⟩
  have HT := Lib.hid (HT.out.step1 hf hm)
  clear hf hm c0 c1 c2 c3 c4
  have c0 := HT.out.e2.cell 0
  have c1 := HT.out.e2.cell 1
  have c2 := HT.out.e2.cell 2
  have c3 := HT.out.e2.cell 3
  have c4 := HT.out.e2.cell 4
  go_wp2_with fail
  refine (reach_word HT.out.m2 y u hy HU.out).mono ?_
  rintro e w6 ⟨rfl, P3, hf, hm⟩
  have HT := Lib.hid (HT.out.step2 hf hm)
  clear hf hm c0 c1 c2 c3 c4
  have c0 := HT.out.e1.cell 0
  have c1 := HT.out.e1.cell 1
  have c2 := HT.out.e1.cell 2
  have c3 := HT.out.e1.cell 3
  have c4 := HT.out.e1.cell 4
  go_wp2_with fail
  refine (reach_word HT.out.m2 x v hx HV.out).mono ?_
  rintro e w7 ⟨rfl, P4, hf, hm⟩
  have HT := Lib.hid (HT.out.step2 hf hm)
  clear hf hm c0 c1 c2 c3 c4
  go_wp2_with fail
  refine (read_word HT.out.m1 x hx).mono ?_
  rintro e w' ⟨rfl, rfl⟩
  go_wp2_with fail
  refine (read_word HT.out.m2 x hx).mono ?_
  rintro e w' ⟨rfl, rfl⟩
  go_wp2_with fail
  refine (read_word HT.out.m1 y hy).mono ?_
  rintro e w' ⟨rfl, rfl⟩
  go_wp2_with fail
  refine (read_word HT.out.m2 y hy).mono ?_
  rintro e w' ⟨rfl, rfl⟩
  by_cases hxy : x = y
  · subst hxy
    rw [show updV (updV (fun _ => 0) x v) x u x = u from if_pos rfl, show updV (updV (fun _ => 0) x u) x v x = v from if_pos rfl]
    go_wp2_with (go_at_call 10; refine (wakes_true _).mono ?_; rintro e w8 ⟨rfl, O, hf⟩)
    go_ret
    exact ⟨rfl, _, HT.out.f.trans (hf.ofNone _)⟩
  · have hyx : ¬ y = x := fun c => hxy c.symm
    rw [show updV (updV (fun _ => 0) x v) y u x = v from by unfold updV; rw [if_neg hxy, if_pos rfl], show updV (updV (fun _ => 0) y u) x v x = v from if_pos rfl, show updV (updV (fun _ => 0) x v) y u y = u from if_pos rfl, show updV (updV (fun _ => 0) y u) x v y = u from by unfold updV; rw [if_neg hyx, if_pos rfl]]
    go_wp2_with (go_at_call 10; refine (wakes_true _).mono ?_; rintro e w8 ⟨rfl, O, hf⟩)
    go_ret
    exact ⟨rfl, _, HT.out.f.trans (hf.ofNone _)⟩
end Go.Proofs.Ytablmoegmmeglaa
