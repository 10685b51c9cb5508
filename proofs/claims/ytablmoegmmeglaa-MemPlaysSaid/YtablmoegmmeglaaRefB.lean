/- The walk of the reference's Reach. -/
import Derived.Test.YtablmoegmmeglaaRefA
import Derived.ArgAppend
import Derived.StillTailTactics
namespace Go.Proofs.Ytablmoegmmeglaa
open Go.RowKit
variable {w : World} {O : Nat → Prop} {R n S : Nat} {V : Nat → Int} {pr : Nat → Option (Nat × Nat)}

theorem grown_drew' (w : World) : w.grownBy w.drew none := ⟨rfl, rfl, rfl, Nat.le_refl _, fun _ _ _ => rfl⟩
theorem DidR.mono_grown {w w' : World} {r : Value} {U : Nat → Int} {e : Ending} {w'' : World} (hg : w.grownBy w' none) (h : DidR w' O R n U r e w'') : DidR w O R n U r e w'' := by
  obtain ⟨he, O', hf, hm⟩ := h
  exact ⟨he, O', (Fp.grown0 hg).trans hf, hm⟩

set_option maxHeartbeats 400000 in
theorem rreach_0 (h : Ref w O R n V) (x : Nat) (v f k : Int) (hx : x ≤ 18446744073709551615) (hv : 0 ≤ v ∧ v ≤ 18446744073709551615) :
    Calls Try.prog 29 #[.pointer (some ⟨R, 0, none⟩), .agg #[.int .i8 0, .int .u64 x, .int .u64 v, .int .i64 f, .int .i64 k]] w (DidR w O R n (vWrite n V x v) (.int .i64 (errW n x))) := by
  have HW := Lib.hid (fun o => rwrite_any (h.grown (World.grownBy_alloc w o none)) x v hx hv)
  clear h
  go_enter Try.func29, Try.ntmps29
  go_wp2_with fail
  refine (HW.out _).mono ?_
  intro e w' hd
  obtain ⟨rfl, O', hf, hm⟩ := hd.mono_grown (World.grownBy_alloc w _ none)
  have HF := Lib.hid hf
  have HM := Lib.hid hm
  clear hf hm hd
  go_wp2_with fail
  go_ret
  exact ⟨rfl, O', HF.out, HM.out⟩
theorem rreach_1 (h : Ref w O R n V) (x v f k : Int) :
    Calls Try.prog 29 #[.pointer (some ⟨R, 0, none⟩), .agg #[.int .i8 1, .int .u64 x, .int .u64 v, .int .i64 f, .int .i64 k]] w (DidR w O R n V (.int .i64 0)) := by
  have HM := Lib.hid h
  clear h
  go_enter Try.func29, Try.ntmps29
  go_wp2_with fail
  go_ret
  exact ⟨rfl, O, Fp.alloc O w _, HM.out.grown (World.grownBy_alloc w _ none)⟩
theorem rreach_out (h : Ref w O R n V) (kd x v f k : Int) (hk : kd ≠ 0 ∧ kd ≠ 1 ∧ kd ≠ 2 ∧ kd ≠ 3) :
    Calls Try.prog 29 #[.pointer (some ⟨R, 0, none⟩), .agg #[.int .i8 kd, .int .u64 x, .int .u64 v, .int .i64 f, .int .i64 k]] w (DidR w O R n V (.int .i64 2)) := by
  have HM := Lib.hid h
  obtain ⟨k0, k1, k2, k3⟩ := hk
  have b0 : (kd == 0) = false := beq_eq_false_iff_ne.2 k0
  have b1 : (kd == 1) = false := beq_eq_false_iff_ne.2 k1
  have b2 : (kd == 2) = false := beq_eq_false_iff_ne.2 k2
  have b3 : (kd == 3) = false := beq_eq_false_iff_ne.2 k3
  clear h k0 k1 k2 k3
  go_enter Try.func29, Try.ntmps29
  go_wp2_with fail
  go_ret
  exact ⟨rfl, O, Fp.alloc O w _, HM.out.grown (World.grownBy_alloc w _ none)⟩

set_option maxHeartbeats 400000 in
theorem rreach_2out (h : RefI w O R n V S pr) (x v f k : Int) (hk : ¬ (0 ≤ k ∧ k < n)) :
    Calls Try.prog 29 #[.pointer (some ⟨R, 0, none⟩), .agg #[.int .i8 2, .int .u64 x, .int .u64 v, .int .i64 f, .int .i64 k]] w (DidR w O R n V (.int .i64 80)) := by
  have HT := Lib.hid (fun o => rframe_any (n := n) (S := S) k _ (h.grown (World.grownBy_alloc w o none)).cellR)
  rw [decide_eq_false hk] at HT
  have HM := Lib.hid h
  clear h hk
  go_enter Try.func29, Try.ntmps29
  go_wp2_with (go_at_call 37; refine (HT.out _).mono ?_; rintro e w' ⟨rfl, rfl⟩)
  go_ret
  exact ⟨rfl, O, Fp.alloc O w _, S, pr, HM.out.grown (World.grownBy_alloc w _ none)⟩
set_option maxHeartbeats 400000 in
theorem rreach_2in (h : RefI w O R n V S pr) (x v f : Int) (k : Nat) (hk : k < n) :
    Calls Try.prog 29 #[.pointer (some ⟨R, 0, none⟩), .agg #[.int .i8 2, .int .u64 x, .int .u64 v, .int .i64 f, .int .i64 k]] w (DidR w O R n (putF V k (fun _ => 0)) (.int .i64 0)) := by
  have HT := Lib.hid (fun o => rframe_any (n := n) (S := S) (k : Int) _ (h.grown (World.grownBy_alloc w o none)).cellR)
  rw [decide_eq_true (by omega : 0 ≤ (k : Int) ∧ (k : Int) < n)] at HT
  have HM := Lib.hid h
  have c0 := h.cellR
  have hn := h.n64
  have hRs := h.Rlt
  have hSs := h.hS.lt
  have cS := h.hS.cell (i := k) hk
  have fS := h.hS.frozen k
  have hRS : ¬ R = S := h.R_ne h.hS (by omega)
  have hSR : ¬ S = R := fun e => hRS e.symm
  clear h
  go_enter Try.func29, Try.ntmps29
  go_wp2_with (go_at_call 37; refine (HT.out _).mono ?_; rintro e w' ⟨rfl, rfl⟩)
  refine wp_region_still_tail 7 (by kernel_rfl) (by kernel_rfl) ?_
  simp only [List.take_succ_cons, List.take_zero, List.drop_succ_cons, List.drop_zero, World.drew_eq]
  repeat still_step
  refine wpStill_nil ?_
  go_wp2_with fail
  go_ret
  exact ⟨rfl, O, ((Fp.set_ (O := O) (w := w) (p := ⟨S, k, none⟩) HM.out.oS _).trans (Fp.alloc O _ _)).trans (Fp.drew O _), S, _, ((HM.out.drop k).grown (World.grownBy_alloc _ _ none)).grown ⟨rfl, rfl, rfl, Nat.le_refl _, fun _ _ _ => rfl⟩⟩

set_option maxHeartbeats 400000 in
theorem rreach_3out1 (h : RefI w O R n V S pr) (x v f k : Int) (hk : ¬ (0 ≤ k ∧ k < n)) :
    Calls Try.prog 29 #[.pointer (some ⟨R, 0, none⟩), .agg #[.int .i8 3, .int .u64 x, .int .u64 v, .int .i64 f, .int .i64 k]] w (DidR w O R n V (.int .i64 80)) := by
  have HT := Lib.hid (fun o => rframe_any (n := n) (S := S) k _ (h.grown (World.grownBy_alloc w o none)).cellR)
  rw [decide_eq_false hk] at HT
  have HM := Lib.hid h
  clear h hk
  go_enter Try.func29, Try.ntmps29
  go_wp2_with (go_at_call 37; refine (HT.out _).mono ?_; rintro e w' ⟨rfl, rfl⟩)
  go_ret
  exact ⟨rfl, O, Fp.alloc O w _, S, pr, HM.out.grown (World.grownBy_alloc w _ none)⟩
set_option maxHeartbeats 400000 in
theorem rreach_3out2 (h : RefI w O R n V S pr) (x v f k : Int) (hk : 0 ≤ k ∧ k < n) (hf : ¬ (0 ≤ f ∧ f < n)) :
    Calls Try.prog 29 #[.pointer (some ⟨R, 0, none⟩), .agg #[.int .i8 3, .int .u64 x, .int .u64 v, .int .i64 f, .int .i64 k]] w (DidR w O R n V (.int .i64 80)) := by
  have HT := rframe_any (n := n) (S := S) k _ (h.grown (World.grownBy_alloc w (.cells #[.int .i8 3, .int .u64 x, .int .u64 v, .int .i64 f, .int .i64 k] 35) none)).cellR
  rw [decide_eq_true hk] at HT
  have HT2 := rframe_any (n := n) (S := S) f _ (h.grown (World.grownBy_alloc w (.cells #[.int .i8 3, .int .u64 x, .int .u64 v, .int .i64 f, .int .i64 k] 35) none)).cellR
  rw [decide_eq_false hf] at HT2
  have HT := Lib.hid HT
  have HT2 := Lib.hid HT2
  have HM := Lib.hid h
  clear h hk hf
  go_enter Try.func29, Try.ntmps29
  go_wp2_with fail
  refine HT.out.mono ?_
  rintro e w' ⟨rfl, rfl⟩
  go_wp2_with fail
  refine HT2.out.mono ?_
  rintro e w' ⟨rfl, rfl⟩
  go_wp2_with fail
  go_ret
  exact ⟨rfl, O, Fp.alloc O w _, S, pr, HM.out.grown (World.grownBy_alloc w _ none)⟩

theorem info32' : (Try.prog.info? 32).map (fun i => (i.zero, i.size, i.bytes)) = some (some (.int .u64 0), 1, 8) := by kernel_rfl

set_option maxHeartbeats 800000 in
theorem rreach_3none (h : RefI w O R n V S pr) (x v : Int) (f k : Nat) (hf : f < n) (hk : k < n) (hp : pr f = none) :
    Calls Try.prog 29 #[.pointer (some ⟨R, 0, none⟩), .agg #[.int .i8 3, .int .u64 x, .int .u64 v, .int .i64 f, .int .i64 k]] w (DidR w O R n (putF V k (fun j => V (512 * f + j))) (.int .i64 0)) := by
  have HT := rframe_any (n := n) (S := S) (k : Int) _ (h.grown (World.grownBy_alloc w (.cells #[.int .i8 3, .int .u64 x, .int .u64 v, .int .i64 f, .int .i64 k] 35) none)).cellR
  rw [decide_eq_true (by omega)] at HT
  have HT2 := rframe_any (n := n) (S := S) (f : Int) _ (h.grown (World.grownBy_alloc w (.cells #[.int .i8 3, .int .u64 x, .int .u64 v, .int .i64 f, .int .i64 k] 35) none)).cellR
  rw [decide_eq_true (by omega)] at HT2
  have HT := Lib.hid HT
  have HT2 := Lib.hid HT2
  have HM := Lib.hid h
  have hV : putF V k (fun _ => 0) = putF V k (fun j => V (512 * f + j)) := by
    funext i
    unfold putF
    split
    · exact (h.zero f hf hp (i % 512) (by omega)).symm
    · rfl
  rw [← hV]
  have c0 := h.cellR
  have hn := h.n64
  have hRs := h.Rlt
  have hSs := h.hS.lt
  have cF := h.hS.cell (i := f) hf
  rw [hp] at cF
  have cF' : w.cell? ⟨S, f, none⟩ = some (.slice none 0 0) := cF
  have cS := h.hS.cell (i := k) hk
  have fS := h.hS.frozen k
  have hRS : ¬ R = S := h.R_ne h.hS (by omega)
  have hSR : ¬ S = R := fun e => hRS e.symm
  clear h hp cF hV
  go_enter Try.func29, Try.ntmps29
  go_wp2_with fail
  refine HT.out.mono ?_
  rintro e w' ⟨rfl, rfl⟩
  go_wp2_with fail
  refine HT2.out.mono ?_
  rintro e w' ⟨rfl, rfl⟩
  go_wp2_with fail
  refine wp_region_still_tail 9 (by kernel_rfl) (by kernel_rfl) ?_
  simp only [List.take_succ_cons, List.take_zero, List.drop_succ_cons, List.drop_zero, World.drew_eq]
  repeat still_step
  refine wpStill_nil ?_
  go_wp2_with fail
  refine wp_region_still_tail 8 (by kernel_rfl) (by kernel_rfl) ?_
  simp only [List.take_succ_cons, List.take_zero, List.drop_succ_cons, List.drop_zero, World.drew_eq]
  repeat still_step
  refine wpStill_nil ?_
  go_wp2_with fail
  go_ret
  exact ⟨rfl, O, (((Fp.set_ (O := O) (w := w) (p := ⟨S, k, none⟩) HM.out.oS _).trans (Fp.alloc O _ _)).trans (Fp.drew O _)).trans (Fp.drew O _), S, _, (((HM.out.drop k).grown (World.grownBy_alloc _ _ none)).grown (grown_drew' _)).grown (grown_drew' _)⟩

set_option maxHeartbeats 800000 in
theorem rreach_3some (h : RefI w O R n V S pr) (x v : Int) (f k : Nat) (hf : f < n) (hk : k < n) {g c : Nat} (hp : pr f = some (g, c)) :
    Calls Try.prog 29 #[.pointer (some ⟨R, 0, none⟩), .agg #[.int .i8 3, .int .u64 x, .int .u64 v, .int .i64 f, .int .i64 k]] w (DidR w O R n (putF V k (fun j => V (512 * f + j))) (.int .i64 0)) := by
  have HT := rframe_any (n := n) (S := S) (k : Int) _ (h.grown (World.grownBy_alloc w (.cells #[.int .i8 3, .int .u64 x, .int .u64 v, .int .i64 f, .int .i64 k] 35) none)).cellR
  rw [decide_eq_true (by omega)] at HT
  have HT2 := rframe_any (n := n) (S := S) (f : Int) _ (h.grown (World.grownBy_alloc w (.cells #[.int .i8 3, .int .u64 x, .int .u64 v, .int .i64 f, .int .i64 k] 35) none)).cellR
  rw [decide_eq_true (by omega)] at HT2
  have HT' := Lib.hid HT
  have HT2' := Lib.hid HT2
  have hWR : RefI ((w.alloc (.cells #[.int .i8 3, .int .u64 x, .int .u64 v, .int .i64 f, .int .i64 k] 35)).drew) O R n V S pr := (h.grown (World.grownBy_alloc w _ none)).grown (grown_drew' _)
  have HM := Lib.hid hWR
  have c0 := h.cellR
  have hn := h.n64
  have hRs := h.Rlt
  have hSs := h.hS.lt
  have cF := h.hS.cell (i := f) hf
  rw [hp] at cF
  have cF' : w.cell? ⟨S, f, none⟩ = some (.slice (some ⟨g, 0, none⟩) 512 c) := cF
  obtain ⟨og, h512, hmx, F, hr, hF⟩ := hWR.row f hf g c hp
  have HR := Lib.hid hr
  have HF := Lib.hid hF
  clear h hp cF hr hF og HT HT2 hWR
  obtain ⟨i0, hi, hz0, hz1, hz2⟩ := info_parts info32'
  go_enter Try.func29, Try.ntmps29
  go_wp2_with fail
  refine HT'.out.mono ?_
  rintro e w' ⟨rfl, rfl⟩
  go_wp2_with fail
  refine HT2'.out.mono ?_
  rintro e w' ⟨rfl, rfl⟩
  go_wp2_with fail
  refine wp_region_still_tail 9 (by kernel_rfl) (by kernel_rfl) ?_
  simp only [List.take_succ_cons, List.take_zero, List.drop_succ_cons, List.drop_zero, World.drew_eq]
  repeat still_step
  refine wpStill_nil ?_
  have hlen : ((List.range 512).map F).length = 512 * 1 := by simp
  have hnews : ∀ j u, ((List.range 512).map F)[j]? = some u → ((w.alloc (.cells #[.int .i8 3, .int .u64 x, .int .u64 v, .int .i64 f, .int .i64 k] 35)).drew).cell? ((⟨g, 0, none⟩ : Addr).add j) = some u := fun j u hu => by
    rw [List.getElem?_map] at hu
    rcases Nat.lt_or_ge j 512 with hj | hj
    · rw [List.getElem?_range hj] at hu
      cases hu
      have hadd : (⟨g, 0, none⟩ : Addr).add j = ⟨g, j, none⟩ := by unfold Addr.add; split <;> simp_all
      rw [hadd]
      exact HR.out.cell (i := j) (by omega)
    · rw [List.getElem?_eq_none (by simp; omega)] at hu
      cases hu
  have hone : ∀ u ∈ (List.range 512).map F, u.oneCell' = true := fun u hu => by
    obtain ⟨j, hj, rfl⟩ := List.mem_map.1 hu
    rw [HF.out j (by simpa using hj)]
    rfl
  have HNE := Lib.hid hnews
  have HON := Lib.hid hone
  clear hnews hone
  refine wpList_append_grows _ rfl (.tmp 46) (.tmp 54) 51 rfl 32 i0 (.int .u64 0) 1 8 Try.underlying51 hi hz0 hz1 hz2 rfl (by decide) none 0 0 [] rfl (fun _ => ⟨rfl, rfl⟩) rfl (fun b e => by cases e) ⟨g, 0, none⟩ 512 c ((List.range 512).map F) rfl hlen HNE.out HON.out (by omega) (by unfold maxLen; omega) (by omega) ?_
  intro v' w2 hown hg
  obtain ⟨_, ⟨_, hz⟩ | ⟨g', cap, cur, rfl, hgb, hb, hcap, hcm, hsz, hxs⟩⟩ := hown
  · omega
  have hsz0 : ((w.alloc (.cells #[.int .i8 3, .int .u64 x, .int .u64 v, .int .i64 f, .int .i64 k] 35)).drew).heap.size = w.heap.size + 1 := World.size_alloc _ _
  have hrow : w2.rowIs g' 32 cap (fun j => cur.getD j undef) := ⟨cur, hb, by omega, fun i hi => by
    have : i < cur.size := by omega
    simp [Array.getD, this]⟩
  have hcur : ∀ j, j < 512 → cur.getD j undef = .int .u64 (V (512 * f + j)) := fun j hj => by
    have h1 : (cur.toList.take (512 * 1))[j]? = some (F j) := by
      rw [show 0 + 512 = 512 from rfl] at hxs
      rw [hxs, List.nil_append, List.getElem?_map, List.getElem?_range hj]
      rfl
    rw [List.getElem?_take, if_pos (by omega), Array.getElem?_toList] at h1
    have hlt : j < cur.size := by omega
    rw [Array.getElem?_eq_getElem hlt] at h1
    rw [HF.out j hj] at h1
    simp only [Array.getD, hlt, dif_pos]
    exact Option.some.inj h1
  have hM2 := HM.out.grown hg
  have hent : w2.heap[w.heap.size]? = some (.cells #[.int .i8 3, .int .u64 x, .int .u64 v, .int .i64 f, .int .i64 k] 35 (0, 0)) := (hg.block w.heap.size (by rw [hsz0]; omega) (by simp)).trans (Go.heap_alloc_new w _)
  have q4 : w2.cell? ⟨w.heap.size, 4, none⟩ = some (.int .i64 k) := cell_of_row w2 _ 4 _ _ _ hent
  have c0' := hM2.cellR
  have cS := hM2.hS.cell (i := k) hk
  have fS := hM2.hS.frozen k
  have HP2 := Lib.hid (hM2.put k hk hrow (fun o => by have := HM.out.lt _ o; omega) (by omega) hcm (fun j => V (512 * f + j)) hcur (fun j => HM.out.fit _))
  have HFP := Lib.hid (show Fp O w (w2.setCell ⟨S, k, none⟩ (.slice (some ⟨g', 0, none⟩) 512 cap)) (fun i => O i ∨ i = g') from by
    have h1 := (((Fp.alloc O w (.cells #[.int .i8 3, .int .u64 x, .int .u64 v, .int .i64 f, .int .i64 k] 35)).trans (Fp.drew O _)).trans (Fp.grown0 (O := O) hg)).trans (Fp.set_ (O := O) (p := ⟨S, k, none⟩) HM.out.oS (.slice (some ⟨g', 0, none⟩) 512 cap))
    refine ⟨h1.os, h1.tape, h1.output, h1.size, h1.keep, fun i hi => ?_⟩
    rcases hi with hi | rfl
    · exact .inl hi
    · refine .inr ⟨by omega, ?_⟩
      rw [World.size_setCell]
      exact hrow.lt)
  clear hent hM2 hrow hcur hb hxs hg c0 cF'
  go_wp2_with fail
  refine wp_region_still_tail 8 (by kernel_rfl) (by kernel_rfl) ?_
  simp only [List.take_succ_cons, List.take_zero, List.drop_succ_cons, List.drop_zero, World.drew_eq]
  repeat still_step
  refine wpStill_nil ?_
  go_wp2_with fail
  go_ret
  exact ⟨rfl, _, HFP.out.trans (Fp.drew _ _), S, _, HP2.out.grown (grown_drew' _)⟩

theorem rreach_any (h : Ref w O R n V) (kd : Int) (x : Nat) (v f k : Int) (hx : x ≤ 18446744073709551615) (hv : 0 ≤ v ∧ v ≤ 18446744073709551615) :
    Calls Try.prog 29 #[.pointer (some ⟨R, 0, none⟩), .agg #[.int .i8 kd, .int .u64 x, .int .u64 v, .int .i64 f, .int .i64 k]] w (DidR w O R n (vReach n V kd x v f k) (.int .i64 (errReach n kd x f k))) := by
  unfold vReach errReach
  by_cases h0 : kd = 0
  · subst h0; exact rreach_0 h x v f k hx hv
  by_cases h1 : kd = 1
  · subst h1; exact rreach_1 h x v f k
  by_cases h2 : kd = 2
  · subst h2
    unfold vZero errF
    obtain ⟨S, pr, h⟩ := h
    by_cases hk : 0 ≤ k ∧ k < n
    · obtain ⟨j, rfl⟩ := Int.eq_ofNat_of_zero_le hk.1
      rw [if_neg h0, if_neg h1, if_pos rfl, if_pos hk, if_neg h0, if_neg h1, if_pos rfl, if_pos hk]
      exact rreach_2in h x v f j (by omega)
    · rw [if_neg h0, if_neg h1, if_pos rfl, if_neg hk, if_neg h0, if_neg h1, if_pos rfl, if_neg hk]
      exact rreach_2out h x v f k hk
  by_cases h3 : kd = 3
  · subst h3
    unfold vCopy errC errF
    obtain ⟨S, pr, h⟩ := h
    rw [if_neg h0, if_neg h1, if_neg h2, if_pos rfl, if_neg h0, if_neg h1, if_neg h2, if_pos rfl]
    by_cases hk : 0 ≤ k ∧ k < n
    · rw [if_pos hk]
      by_cases hf : 0 ≤ f ∧ f < n
      · obtain ⟨j, rfl⟩ := Int.eq_ofNat_of_zero_le hk.1
        obtain ⟨i, rfl⟩ := Int.eq_ofNat_of_zero_le hf.1
        rw [if_pos ⟨hk, hf⟩, if_pos hf]
        cases hp : pr i with
        | none => exact rreach_3none h x v i j (by omega) (by omega) hp
        | some gc => exact rreach_3some h x v i j (by omega) (by omega) (g := gc.1) (c := gc.2) hp
      · rw [if_neg (fun c => hf c.2), if_neg hf]
        exact rreach_3out2 h x v f k hk hf
    · rw [if_neg (fun c => hk c.1), if_neg hk]
      exact rreach_3out1 h x v f k hk
  rw [if_neg h0, if_neg h1, if_neg h2, if_neg h3, if_neg h0, if_neg h1, if_neg h2, if_neg h3]
  exact rreach_out h kd x v f k ⟨h0, h1, h2, h3⟩
end Go.Proofs.Ytablmoegmmeglaa
