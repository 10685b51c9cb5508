/- The walk of LockTurns. -/
import Derived.Test.YtablmoegmmeglaaQueue
import Derived.Test.YtablmoegmmeglaaLockNilWalk
import Derived.Deep.CutRange
import Derived.Deep.CutBlock
namespace Go.Proofs.Ytablmoegmmeglaa
open Go.RowKit
variable {w : World} {O : Nat → Prop} {B n bm : Nat} {V : Nat → Int} {pt : Int → Option Nat}

/-- A slice of n elements that came in, one cell each. -/
def Elems' (w : World) (B : Nat) (A : Option Addr) (n : Nat) (C : Nat → Value) : Prop :=
  0 < n → ∃ b off, A = some ⟨b, off, none⟩ ∧ b < B ∧ ∀ i, i < n → w.cell? ⟨b, off + i, none⟩ = some (C i)
theorem tmod_bd' (a d : Int) (hd : 0 < d) : -d < a.tmod d ∧ a.tmod d < d := ⟨Int.lt_tmod_of_pos a hd, Int.tmod_lt_of_pos a hd⟩

/-- All that the law's loop holds. -/
structure T (w0 w : World) (O : Nat → Prop) (B D K : Nat) (V d tk : Nat → Int) (v : Value) (L : List Nat) : Prop where
  g : w0.grownBy w none
  lo : ∀ k, O k → w0.heap.size ≤ k
  m : Mem w O B 1 V
  rD : w.rowIs D 65 9 (fun j => .int .i64 (d j))
  rK : w.rowIs K 66 9 (fun j => .int .u64 (tk j))
  nD : w0.heap.size ≤ D ∧ ¬ O D
  nK : w0.heap.size ≤ K ∧ ¬ O K
  q : Q w w0.heap.size v L
  nq : ∀ g, v.ownBlock = some g → ¬ O g
theorem row_ne {w : World} {A C T T' k k' : Nat} {f f' : Nat → Value} (h : w.rowIs A T k f) (h' : w.rowIs C T' k' f') (ht : T ≠ T') : A ≠ C := by
  rintro rfl
  obtain ⟨_, a, _⟩ := h
  obtain ⟨_, b, _⟩ := h'
  rw [a] at b
  simp at b
  exact ht b.2
theorem Q.ne {w : World} {base : Nat} {v : Value} {L : List Nat} (h : Q w base v L) {A T k : Nat} {f : Nat → Value} (hr : w.rowIs A T k f) (ht : T ≠ 3) : ∀ g, v.ownBlock = some g → g ≠ A := by
  obtain ⟨ao, cap, rfl, _, _, h | ⟨g, off, n, F, rfl, hb, hq, _⟩⟩ := h
  · obtain ⟨rfl, _⟩ := h
    intro g e
    cases e
  · intro g' e
    cases e
    exact row_ne hq hr (fun e => ht e.symm)
section
variable {w0 w w' : World} {O P : Nat → Prop} {B D K : Nat} {V U d tk : Nat → Int} {v v' : Value} {L L' : List Nat}
theorem T.mem (h : T w0 w O B D K V d tk v L) (hf : Fp O w w' P) (hm : Mem w' P B 1 U) : T w0 w' P B D K U d tk v L := by
  have hn : ∀ k, k < w.heap.size → ¬ O k → ¬ P k := fun k hk ho hp => by
    rcases hf.new k hp with h1 | h1
    · exact ho h1
    · omega
  refine ⟨⟨hf.os.trans h.g.os, hf.tape.trans h.g.tape, hf.output.trans h.g.output, Nat.le_trans h.g.size hf.size, fun k hk _ => (hf.keep k (Nat.lt_of_lt_of_le hk h.g.size) (fun c => by have := h.lo k c; omega)).trans (h.g.block k hk (by simp))⟩, fun k hk => ?_, hm, h.rD.of_block (hf.keep D h.rD.lt h.nD.2), h.rK.of_block (hf.keep K h.rK.lt h.nK.2), ⟨h.nD.1, hn D h.rD.lt h.nD.2⟩, ⟨h.nK.1, hn K h.rK.lt h.nK.2⟩, h.q.of_block (fun g hg => hf.keep g (h.q.lt g hg).2 (h.nq g hg)), fun g hg => hn g (h.q.lt g hg).2 (h.nq g hg)⟩
  rcases hf.new k hk with h1 | h1
  · exact h.lo k h1
  · exact Nat.le_trans h.g.size h1.1
theorem T.grown (h : T w0 w O B D K V d tk v L) (hg : w.grownBy w' none) : T w0 w' O B D K V d tk v L :=
  h.mem (Fp.grown0 hg) (mem_grown h.m hg)
theorem T.cut (h : T w0 w O B D K V d tk v L) (hg : w.grownBy w' v.ownBlock) (hq : Q w' w0.heap.size v' L') (hat : ∀ g, v'.ownBlock = some g → v.ownBlock = some g ∨ w.heap.size ≤ g) : T w0 w' O B D K V d tk v' L' := by
  have hk : ∀ k, k < w.heap.size → (∀ g, v.ownBlock = some g → g ≠ k) → w'.heap[k]? = w.heap[k]? := fun k hk hne => hg.block k hk (fun e => hne k e.symm rfl)
  refine ⟨⟨hg.os.trans h.g.os, hg.tape.trans h.g.tape, hg.output.trans h.g.output, Nat.le_trans h.g.size hg.size, fun k hk' _ => (hk k (Nat.lt_of_lt_of_le hk' h.g.size) (fun g hg' e => by have := (h.q.lt g hg').1; omega)).trans (h.g.block k hk' (by simp))⟩, h.lo, ?_, h.rD.of_block (hk D h.rD.lt (h.q.ne h.rD (by omega))), h.rK.of_block (hk K h.rK.lt (h.q.ne h.rK (by omega))), h.nD, h.nK, hq, fun g hg' => ?_⟩
  · exact h.m.kept (fun k ho => hk k (h.m.lt k ho) (fun g hg' e => h.nq g hg' (e ▸ ho))) (fun _ hk => hk) (fun k ho => Nat.lt_of_lt_of_le (h.m.lt k ho) hg.size)
  · rcases hat g hg' with h1 | h1
    · exact h.nq g h1
    · exact fun ho => by have := h.m.lt g ho; omega
theorem T.setD (h : T w0 w O B D K V d tk v L) (c : Nat) (x : Int) : T w0 (w.setCell ⟨D, c, none⟩ (.int .i64 x)) O B D K V (updV d c x) tk v L := by
  have hk : ∀ k, k ≠ D → (w.setCell ⟨D, c, none⟩ (.int .i64 x)).heap[k]? = w.heap[k]? := fun k hne => heap_setCell_other w ⟨D, c, none⟩ k _ hne
  have hs : (w.setCell ⟨D, c, none⟩ (.int .i64 x)).heap.size = w.heap.size := by simp
  refine ⟨⟨h.g.os, h.g.tape, h.g.output, by rw [hs]; exact h.g.size, fun k hk' _ => (hk k (by have := h.nD.1; omega)).trans (h.g.block k hk' (by simp))⟩, h.lo, h.m.kept (fun k ho => hk k (fun e => h.nD.2 (e ▸ ho))) (fun _ hk => hk) (fun k ho => by rw [hs]; exact h.m.lt k ho), (h.rD.set c _).congr fun j _ => ?_, h.rK.of_block (hk K (row_ne h.rK h.rD (by omega))), h.nD, h.nK, h.q.of_block (fun g hg => hk g (h.q.ne h.rD (by omega) g hg)), h.nq⟩
  unfold updV
  split <;> rfl
theorem T.setK (h : T w0 w O B D K V d tk v L) (c : Nat) (x : Int) : T w0 (w.setCell ⟨K, c, none⟩ (.int .u64 x)) O B D K V d (updV tk c x) v L := by
  have hk : ∀ k, k ≠ K → (w.setCell ⟨K, c, none⟩ (.int .u64 x)).heap[k]? = w.heap[k]? := fun k hne => heap_setCell_other w ⟨K, c, none⟩ k _ hne
  have hs : (w.setCell ⟨K, c, none⟩ (.int .u64 x)).heap.size = w.heap.size := by simp
  refine ⟨⟨h.g.os, h.g.tape, h.g.output, by rw [hs]; exact h.g.size, fun k hk' _ => (hk k (by have := h.nK.1; omega)).trans (h.g.block k hk' (by simp))⟩, h.lo, h.m.kept (fun k ho => hk k (fun e => h.nK.2 (e ▸ ho))) (fun _ hk => hk) (fun k ho => by rw [hs]; exact h.m.lt k ho), h.rD.of_block (hk D (row_ne h.rD h.rK (by omega))), (h.rK.set c _).congr fun j _ => ?_, h.nD, h.nK, h.q.of_block (fun g hg => hk g (h.q.ne h.rK (by omega) g hg)), h.nq⟩
  unfold updV
  split <;> rfl
end

theorem T.tail1 {w0 w : World} {O : Nat → Prop} {B D K : Nat} {V d tk : Nat → Int} {g off cq nq c : Nat} {tl : List Nat} {F : Nat → Value}
    (h : T w0 w O B D K V d tk (.slice (some ⟨g, off, none⟩) (c :: tl).length cq) (c :: tl)) (hb : w0.heap.size ≤ g) (hr : w.rowIs g 3 nq F) (h3 : off + cq ≤ nq) (h4 : ∀ (i k : Nat), (c :: tl)[i]? = some k → F (off + i) = .int .i64 k) (hl : tl.length + 1 ≤ cq) (hm : cq ≤ maxLen) :
    T w0 w O B D K V d tk (.slice (some ⟨g, off + 1, none⟩) tl.length (cq - 1)) tl :=
  h.cut ⟨rfl, rfl, rfl, Nat.le_refl _, fun _ _ _ => rfl⟩ ⟨_, cq - 1, rfl, by omega, by omega, .inr ⟨g, off + 1, nq, F, rfl, hb, hr, by omega, fun i k hi => by
    rw [show off + 1 + i = off + (i + 1) from by omega]
    exact h4 (i + 1) k (by simpa using hi)⟩⟩ (fun g' e => .inl e)
theorem T.tail2 {w0 w : World} {O : Nat → Prop} {B D K : Nat} {V d tk : Nat → Int} {g off cq nq c : Nat} {tl : List Nat} {F : Nat → Value}
    (h : T w0 w O B D K V d tk (.slice (some ⟨g, off, none⟩) (c :: tl).length cq) (c :: tl)) (hb : w0.heap.size ≤ g) (hr : w.rowIs g 3 nq F) (h3 : off + cq ≤ nq) (h1 : cq ≤ 1) (hl : tl.length + 1 ≤ cq) :
    T w0 w O B D K V d tk (.slice (some ⟨g, off, none⟩) tl.length 0) tl :=
  h.cut ⟨rfl, rfl, rfl, Nat.le_refl _, fun _ _ _ => rfl⟩ ⟨_, 0, rfl, by omega, by omega, .inr ⟨g, off, nq, F, rfl, hb, hr, by omega, fun i k hi => by
    rw [List.eq_nil_of_length_eq_zero (show tl.length = 0 by omega)] at hi
    simp at hi⟩⟩ (fun g' e => .inl e)

def ints9 : Array Value := #[.int .i64 0, .int .i64 0, .int .i64 0, .int .i64 0, .int .i64 0, .int .i64 0, .int .i64 0, .int .i64 0, .int .i64 0]
def words9 : Array Value := #[.int .u64 0, .int .u64 0, .int .u64 0, .int .u64 0, .int .u64 0, .int .u64 0, .int .u64 0, .int .u64 0, .int .u64 0]
theorem ints9_at : ∀ i, i < ints9.size → ints9[i]? = some (.int .i64 ((fun _ => 0) i)) := by
  intro i hi
  match i, hi with
  | 0, _ => rfl
  | 1, _ => rfl
  | 2, _ => rfl
  | 3, _ => rfl
  | 4, _ => rfl
  | 5, _ => rfl
  | 6, _ => rfl
  | 7, _ => rfl
  | 8, _ => rfl
theorem words9_at : ∀ i, i < words9.size → words9[i]? = some (.int .u64 ((fun _ => 0) i)) := by
  intro i hi
  match i, hi with
  | 0, _ => rfl
  | 1, _ => rfl
  | 2, _ => rfl
  | 3, _ => rfl
  | 4, _ => rfl
  | 5, _ => rfl
  | 6, _ => rfl
  | 7, _ => rfl
  | 8, _ => rfl
theorem T.start {w0 w : World} {O : Nat → Prop} {B : Nat} {V : Nat → Int} (hf : Fp none_ w0 w O) (hm : Mem w O B 1 V) :
    T w0 ((w.alloc (.cells ints9 65)).alloc (.cells words9 66)) O B w.heap.size (w.heap.size + 1) V (fun _ => 0) (fun _ => 0) (.slice none 0 0) [] := by
  have hs : (w.alloc (.cells ints9 65)).heap.size = w.heap.size + 1 := World.size_alloc _ _
  have hK := World.rowIs_alloc (w.alloc (.cells ints9 65)) words9 66 (fun _ => .int .u64 0) words9_at
  rw [hs] at hK
  refine ⟨⟨hf.os, hf.tape, hf.output, ?_, fun k hk _ => ?_⟩, fun k hk => ?_, (hm.alloc _).alloc _, (World.rowIs_alloc w ints9 65 (fun _ => .int .i64 0) ints9_at).of_block (Below.heap_alloc _ _ _ (by rw [hs]; omega)), hK, ⟨hf.size, fun c => by have := hm.lt _ c; omega⟩, ⟨Nat.le_succ_of_le hf.size, fun c => by have := hm.lt _ c; omega⟩, Q.nil, fun g e => by cases e⟩
  · rw [World.size_alloc, hs]; have := hf.size; omega
  · have := hf.size
    exact ((Below.heap_alloc _ _ _ (by rw [hs]; omega)).trans (Below.heap_alloc w _ _ (by omega))).trans (hf.keep k hk (fun c => c))
  · rcases hf.new k hk with h | h
    · exact h.elim
    · exact h.1

set_option maxRecDepth 10000 in
set_option maxHeartbeats 4000000 in
theorem turns_walk (A : Option Addr) (len cap : Nat) (z : Nat → Int) (v : Int) (w : World) (hl : Elems' w w.heap.size A len (fun i => .int .i64 (z i))) (hz : ∀ i, -9223372036854775808 ≤ z i ∧ z i ≤ 9223372036854775807) (hv : 0 ≤ v ∧ v ≤ 18446744073709551615) :
    Calls Try.prog 9 #[.int .u64 v, .slice A len cap] w (Law w (.bool true)) := by
  by_cases hlen : 400 < len
  · clear hl hz hv
    go_enter Try.func9, Try.ntmps9
    go_wp2_with (go_at_call 23; refine (wakes18_true _).mono ?_; rintro e w8 ⟨rfl, O, hf⟩)
    go_ret
    exact ⟨rfl, _, hf⟩
  · have HL := Lib.hid hl
    have HZ := Lib.hid hz
    have HV := Lib.hid hv
    clear hl hz hv
    go_enter Try.func9, Try.ntmps9
    go_wp2_with fail
    refine (new_in 1 w (by omega) (by omega)).mono ?_
    rintro e w1 ⟨B, O, rfl, hf1, hm1⟩
    have HF := Lib.hid hf1
    have HM := Lib.hid hm1
    clear hf1 hm1
    go_wp2_with fail
    refine (write_any HM.out 0 v (by omega) HV.out).mono ?_
    rintro e w2 ⟨rfl, O2, hf2, hm2⟩
    have HF := Lib.hid (HF.out.trans hf2)
    have HM := Lib.hid hm2
    clear hf2 hm2
    rw [err0 (n := 1) (by omega)]
    go_wp2_with fail
    refine (write_any HM.out 1 v (by omega) HV.out).mono ?_
    rintro e w3 ⟨rfl, O3, hf3, hm3⟩
    have HF := Lib.hid (HF.out.trans hf3)
    have HM := Lib.hid hm3
    clear hf3 hm3
    rw [err1 (n := 1) (by omega)]
    go_wp2_with fail
    have hT := T.start HF.out HM.out
    have hI : Inv (vWrite 1 (vWrite 1 (fun x => 0) 0 v) 1 v) (fun _ => 0) (fun _ => 0) [] := Inv.start v HV.out
      (show updV (updV (fun _ => 0) 0 v) 1 v 0 = v from by unfold updV; rw [if_neg (by omega), if_pos rfl]) (show updV (updV (fun _ => 0) 0 v) 1 v 1 = v from if_pos rfl)
    have HT := Lib.hid hT
    have HI := Lib.hid hI
    clear hT hI HF HM
    go_loopw [9, 10] (fun q i wr => ∃ j : Nat, j ≤ len ∧ i = .int .i64 j ∧ ∃ O V d tk L, T w wr O B w3.heap.size (w3.heap.size + 1) V d tk q L ∧ Inv V d tk L) (fun _ i _ => 401 - (intOf i).toNat)
    case atStart => exact ⟨0, by omega, rfl, _, _, _, _, _, HT.out, HI.out⟩
    case round =>
      obtain ⟨j, hj, rfl, O, V, d, tk, L, hT, hI⟩ := hrel
      have HJ := Lib.hid hj
      clear HT HI
      have HT := Lib.hid hT
      have HI := Lib.hid hI
      clear hj hT hI
      generalize w3.heap.size + 1 = K at HT ⊢
      generalize w3.heap.size = D at HT ⊢
      by_cases hjl : (j : Int) < len
      · obtain ⟨b, off, rfl, hbw, hcell⟩ := HL.out (by omega)
        have hcx : wr.cell? ⟨b, off + j, none⟩ = some (.int .i64 (z j)) := (World.cell?_of_block (HT.out.g.block b hbw (by simp))).trans (hcell j (by omega))
        have hz1 := HZ.out j
        have t1 := tmod_bd' (z j) 8 (by omega)
        obtain ⟨c, hc⟩ : ∃ c : Nat, 1 + (z j).tmod 8 % 8 = (c : Int) := ⟨(1 + (z j).tmod 8 % 8).toNat, by omega⟩
        have c1 : 1 ≤ c := by omega
        have c2 : c ≤ 8 := by omega
        have cD := HT.out.rD.cell (i := c) (by omega)
        have fD := HT.out.rD.frozen c
        have cK := HT.out.rK.cell (i := c) (by omega)
        have fK := HT.out.rK.frozen c
        clear hcell
        go_upto_block 2 with fail
        go_cut [6, 9, 12, 13] from 42 to 133 (fun s6 s9 s12 s13 wx => ∃ O V d tk L, T w wx O B D K V d tk s9 L ∧ Inv V d tk L)
        case first =>
          rcases HI.out.tri c1 c2 with hd | hd | hd
          · rw [hd] at cD ⊢
            have HI := Lib.hid (HI.out.take c1 c2 hd)
            clear hd

            go_wp2_with fail
            refine (take_any HT.out.m).mono ?_
            rintro e w4 ⟨rfl, O4, hf4, hm4⟩
            have HT := Lib.hid (HT.out.mem hf4 hm4)
            have cK := HT.out.rK.cell (i := c) (by omega)
            have fK := HT.out.rK.frozen c
            clear hf4 hm4
            have HT2 := Lib.hid ((HT.out.setK c (V 0)).grown (World.grownBy_alloc _ (.cells #[.int .i64 c] 3) none))
            have hc1 := cell_one_new (w4.setCell ⟨K, c, none⟩ (.int .u64 (V 0))) (.int .i64 c) 3 0 _ rfl
            rw [World.size_setCell] at hc1
            have HC1 := Lib.hid hc1
            clear hc1
            go_wp2_with (at_builtin; go_loud (refine wpList_queue rfl (.tmp 70) (.tmp 72) rfl rfl HT2.out.q (by have := HI.out.len; simp at this; omega) HT2.out.g.size ⟨w4.heap.size, 0, none⟩ 1 c rfl HC1.out ?_); intro q' w5 hq5 hg5 hat5; have HT5 := Lib.hid (HT2.out.cut hg5 hq5 hat5); have cD := HT5.out.rD.cell (i := c) (by omega); have fD := HT5.out.rD.frozen c; clear hq5 hg5 hat5)
            go_meet
            case rel => exact ⟨_, _, _, _, _, HT5.out.setD c 1, HI.out⟩
          · obtain ⟨i, hi, hil⟩ := HI.out.mem c1 c2 (by omega)
            rw [hd] at cD ⊢
            have hsv := HI.out.served hi hil
            have HIL := Lib.hid hi
            clear hd hi
            go_wp2_with fail
            refine (served_any HT.out.m (tk c)).mono ?_
            rintro e w4 ⟨rfl, hg4⟩
            rw [hsv]
            have HT := Lib.hid (HT.out.grown hg4)
            have cD := HT.out.rD.cell (i := c) (by omega)
            have fD := HT.out.rD.frozen c
            clear hg4 hsv
            by_cases hi0 : i = 0
            · subst hi0
              rw [decide_eq_true rfl]
              obtain ⟨ao, cq, hq, _, _, h | ⟨g, off', nq, F, hao, _, hr, h3, h4⟩⟩ := HT.out.q
              · omega
              · subst hao
                subst hq
                have hF := h4 0 c HIL.out
                have cq0 := hr.cell (i := off') (by omega)
                rw [show F off' = .int .i64 c from hF] at cq0
                have hl8 := HI.out.len
                have hlne : ((L.length : Int) == 0) = false := beq_eq_false_iff_ne.2 (by omega)
                have HSV := Lib.hid (HI.out.serve HIL.out)
                clear hF h3 h4 hr
                go_wp2_with fail
                go_meet
                case rel => exact ⟨_, _, _, _, _, HT.out.setD c 2, HSV.out⟩
            · rw [decide_eq_false hi0]
              go_wp2_with fail
              go_meet
              case rel => exact ⟨_, _, _, _, _, HT.out, HI.out⟩
          · obtain ⟨tl, hL, hI2⟩ := HI.out.pass c1 c2 hd
            subst hL
            rw [hd] at cD ⊢
            have HI2 := Lib.hid hI2
            clear hd hI2
            go_wp2_with fail
            refine (pass_any HT.out.m).mono ?_
            rintro e w4 ⟨rfl, hg4⟩
            have HT := Lib.hid ((HT.out.grown hg4).grown (World.grownBy_alloc _ (.cells #[.int .i8 0, .int .u64 1, .int .u64 (wrapU (V 1 + 1)), .int .i64 0, .int .i64 0] 35) none))
            clear hg4
            go_wp2_with fail
            refine (reach_any HT.out.m 0 1 (wrapU (V 1 + 1)) 0 0 (by omega) (by omega) (wrapU_fit _)).mono ?_
            rintro e w5 ⟨rfl, O5, hf5, hm5⟩
            rw [show errReach 1 0 1 0 0 = 0 from rfl]
            have HT := Lib.hid (HT.out.mem hf5 hm5)
            have cD := HT.out.rD.cell (i := c) (by omega)
            have fD := HT.out.rD.frozen c
            clear hf5 hm5
            obtain ⟨ao, cq, hq, hcl, hcm, h | ⟨g, off', nq, F, hao, hbg, hr, h3, h4⟩⟩ := HT.out.q
            · have := h.2; simp at hcl; omega
            · subst hao
              subst hq
              rw [List.length_cons] at hcl ⊢
              have hl8 := HI.out.len
              rw [List.length_cons] at hl8
              have HR := Lib.hid hr
              have H4 := Lib.hid h4
              clear hr h4
              go_wp2_with fail
              all_goals go_meet
              all_goals first
                | exact ⟨_, _, _, _, _, (HT.out.tail1 hbg HR.out h3 H4.out hcl hcm).setD c 0, HI2.out⟩
                | exact ⟨_, _, _, _, _, (HT.out.tail2 hbg HR.out h3 (by omega) hcl).setD c 0, HI2.out⟩
        case rest =>
          obtain ⟨O, V, d, tk, L, hT, hI⟩ := hcut
          obtain ⟨ao, cq, hq, _⟩ := hT.q
          subst hq
          have HT := Lib.hid hT
          have HI := Lib.hid hI
          have hl8 := hI.len
          clear hT hI
          go_wp2_with fail
          go_loopw [14, 15] (fun h k wx => ∃ q : Nat, q ≤ 8 ∧ h = .int .i64 (held d q : Nat) ∧ k = .int .i64 ((q : Int) + 1) ∧ wx = wc) (fun _ k _ => 10 - (intOf k).toNat)
          case atStart => exact ⟨0, by omega, rfl, rfl, rfl⟩
          case round =>
            obtain ⟨q, hq, rfl, rfl, rfl⟩ := hrel
            have HQ := Lib.hid hq
            clear hq
            have hone := HI.out.one q HQ.out
            have HONE := Lib.hid hone.1
            by_cases hq8 : (q : Int) + 1 ≤ 8
            · have cD := HT.out.rD.cell (i := q + 1) (by omega)
              have hh : held d (q + 1) = held d q + (if d (q + 1) = 2 then 1 else 0) := rfl
              obtain ⟨m, hm⟩ : ∃ m, m = held d q := ⟨_, rfl⟩
              rw [← hm] at hh HONE ⊢
              have hm1 := HONE.out
              by_cases hd2 : d (q + 1) = 2
              · rw [if_pos hd2] at hh
                have HH := Lib.hid hh
                rw [hd2] at cD
                clear hh hd2 hone hm
                go_wp2_with fail
                go_roundw
                case rel => exact ⟨q + 1, by omega, by rw [HH.out]; go_num, by go_num, trivial⟩
                case measure => simp [intOf]; omega
              · rw [if_neg hd2] at hh
                have HH := Lib.hid hh
                have hne : (d (q + 1) == 2) = false := beq_eq_false_iff_ne.2 hd2
                clear hh hd2 hone hm
                go_wp2_with fail
                go_roundw
                case rel => exact ⟨q + 1, by omega, by rw [HH.out]; rfl, by go_num, trivial⟩
                case measure => simp [intOf]; omega
            · clear hone
              have hm1 := HONE.out
              generalize held d q = m at hm1 HONE ⊢
              go_wp2_with fail
              refine (waiting_any HT.out.m).mono ?_
              rintro e w7 ⟨rfl, hg7⟩
              have HW := HI.out.waits
              rw [HW]
              have HT := Lib.hid (HT.out.grown hg7)
              have HIO := HI
              clear hg7 HW
              go_wp2_with fail
              go_roundw
              case rel => exact ⟨j + 1, by omega, by go_num, _, _, _, _, _, HT.out, HIO.out⟩
              case measure => simp [intOf]; omega
      · go_wp2_with (go_at_call 23; refine (wakes18_true _).mono ?_; rintro e w8 ⟨rfl, O8, hf8⟩)
        go_ret
        exact ⟨rfl, _, (Fp.grown0 HT.out.g).trans hf8⟩
end Go.Proofs.Ytablmoegmmeglaa
