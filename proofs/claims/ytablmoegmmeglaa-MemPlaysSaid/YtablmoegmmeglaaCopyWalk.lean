/- The walk of Copy. -/
import Derived.Test.YtablmoegmmeglaaMapR
import Derived.Test.YtablmoegmmeglaaWalkD
namespace Go.Proofs.Ytablmoegmmeglaa
open Go.RowKit Go.Maps
variable {w : World} {O : Nat → Prop} {B n bm : Nat} {V : Nat → Int} {pt : Int → Option Nat}

/-- A copy of V, but for the frames that are still to come. -/
def partV (V : Nat → Int) (left : Int → Bool) : Nat → Int := fun i => if left ((i / 512 : Nat) : Int) then 0 else V i
theorem partV_put (V : Nat → Int) (left : Int → Bool) (k : Nat) : putF (partV V left) k (fun j => V (512 * k + j)) = partV V (fun j => left j && !(j == (k : Int))) := by
  funext i
  unfold putF partV
  by_cases e : i / 512 = k
  · rw [if_pos e]
    subst e
    simp only [beq_self_eq_true, Bool.not_true, Bool.and_false]
    rw [show 512 * (i / 512) + i % 512 = i from by omega]
    rfl
  · rw [if_neg e]
    have : (((i / 512 : Nat) : Int) == (k : Int)) = false := beq_eq_false_iff_ne.2 (by omega)
    simp only [this, Bool.not_false, Bool.and_true]

/-- A new memory like the old one. -/
def Copied (w : World) (n : Nat) (V : Nat → Int) (e : Ending) (w' : World) : Prop :=
  ∃ B' O', e = .returned (.pointer (some ⟨B', 0, none⟩)) ∧ Fp none_ w w' O' ∧ Mem w' O' B' n V

/-- What the loop of Copy holds. -/
structure Cp (w wr : World) (bm r n : Nat) (V : Nat → Int) (pt : Int → Option Nat) (left : Int → Bool) (O' : Nat → Prop) (pt' : Int → Option Nat) : Prop where
  rg : PRange wr bm r pt left
  m : MemI wr O' (w.heap.size + 1) n (partV V left) w.heap.size pt'
  g : w.grownBy wr none
  nr : ¬ O' r
  lo : ∀ k, O' k → w.heap.size ≤ k

set_option maxRecDepth 10000 in
set_option maxHeartbeats 2000000 in
theorem copy_some (h : MemI w O B n V bm pt) : Calls Try.prog 14 #[.pointer (some ⟨B, 0, none⟩)] w (Copied w n V) := by
  have c0 := h.cellN
  have c1 := h.cellM
  have hBs := h.hBlt
  have hn := h.n64
  have hmm := @run_makeMap Try.prog
  have hMs := h.lt _ h.oM
  have H := Lib.hid h
  have hnew := mem_new w n h.n1 h.n64
  have HN := Lib.hid hnew
  have H1 := Lib.hid ((h.alloc (.map #[] 0)).alloc (.cells #[.int .i64 n, .map (some w.heap.size)] 70))
  clear h hnew
  go_enter Try.func14, Try.ntmps14
  go_wp2_with (at_range; refine wpList_pmap_range rfl _ rfl rfl H1.out.pm ?_; intro w0 hrg hg0 hs0)
  go_frame
  have hs2 : ((w.alloc (.map #[] 0)).alloc (.cells #[.int .i64 n, .map (some w.heap.size)] 70)).heap.size = w.heap.size + 2 := by rw [World.size_alloc, World.size_alloc]
  have hg1 : w.grownBy w0 none := by
    have a1 := World.grownBy_alloc w (.map #[] 0) none
    have a2 := World.grownBy_alloc (w.alloc (.map #[] 0)) (.cells #[.int .i64 n, .map (some w.heap.size)] 70) none
    exact ⟨hg0.os, hg0.tape, hg0.output, by rw [hs0, hs2]; omega, fun k hk _ => (hg0.block k (by rw [hs2]; omega) (by simp)).trans ((a2.block k (by rw [World.size_alloc]; omega) (by simp)).trans (a1.block k hk (by simp)))⟩
  have hV0 : (fun _ => 0 : Nat → Int) = partV V (fun k => (pt k).isSome) := by
    funext i
    show (0 : Int) = if (pt ((i / 512 : Nat) : Int)).isSome then 0 else V i
    cases hp : pt ((i / 512 : Nat) : Int) with
    | some g => rfl
    | none =>
      show (0 : Int) = V i
      by_cases hin : i / 512 < n
      · have := H.out.fr.zero _ hin hp (i % 512) (by omega)
        rw [show 512 * (i / 512) + i % 512 = i from by omega] at this
        exact this.symm
      · exact (H.out.out i (by omega)).symm
  have hm0 := HN.out.kept (w' := w0) (O' := fun k => k = w.heap.size ∨ k = w.heap.size + 1) (fun k hk => hg0.block k (by rw [hs2]; omega) (by simp)) (fun _ hk => hk) (fun k hk => by rw [hs0, hs2]; omega)
  rw [hV0] at hm0
  rw [hs2] at hrg ⊢
  have HC := Lib.hid (Cp.mk hrg hm0 hg1 (fun c => by omega) (fun k hk => by omega))
  clear hrg hg0 hs0 hg1 hV0 hm0 c0 c1 HN H1 hs2
  go_loopw [] (fun wr => ∃ left O' pt', Cp w wr bm (w.heap.size + 2) n V pt left O' pt') (fun wr => wr.rangeLeft bm (w.heap.size + 2))
  case atStart => exact ⟨_, _, _, HC.out⟩
  case round =>
    obtain ⟨left, O', pt', hc⟩ := hrel
    clear HC
    have HC := Lib.hid hc
    clear hc
    go_wp2_with (at_next; refine wpList_pmap_next rfl _ rfl rfl HC.out.rg ?_ ?_)
    · intro hd
      have hV : partV V left = V := by
        funext i
        unfold partV
        rw [hd]
        rfl
      have hm := HC.out.m
      rw [hV] at hm
      have HM := Lib.hid hm
      clear hd hV hm
      go_wp2_with fail
      go_ret
      exact ⟨_, O', rfl, ⟨HC.out.g.os, HC.out.g.tape, HC.out.g.output, HC.out.g.size, fun k hk _ => HC.out.g.block k hk (by simp), fun k hk => .inr ⟨HC.out.lo k hk, HM.out.lt k hk⟩⟩, _, _, HM.out⟩
    · intro k g w2 hpt _ hrg2 hlt hgr hsz hen
      obtain ⟨hk0, hkn⟩ := H.out.fr.inN _ _ hpt
      obtain ⟨hOg, cs, hcs, hcz, hat⟩ := H.out.fr.row k g hpt
      have hgs := lt_of_block hcs
      have hm2 : MemI w2 O' (w.heap.size + 1) n (partV V left) w.heap.size pt' := HC.out.m.kept (fun i hi => hgr.block i (HC.out.m.lt i hi) (fun e => HC.out.nr (by injection e with e; exact e ▸ hi))) (fun _ hi => hi) (fun i hi => by rw [hsz]; exact HC.out.m.lt i hi)
      have hw2 : w.grownBy w2 none := ⟨hgr.os.trans HC.out.g.os, hgr.tape.trans HC.out.g.tape, hgr.output.trans HC.out.g.output, Nat.le_trans HC.out.g.size hgr.size, fun i hi _ => (hgr.block i (Nat.lt_of_lt_of_le hi HC.out.g.size) (fun e => by injection e with e; omega)).trans (HC.out.g.block i hi (by simp))⟩
      have hld : w2.heap[g]? = some (.cells cs 76 (0, 0)) := (hw2.block g hgs (by simp)).trans hcs
      have cM := (hm2.alloc (.cells cs 76)).cellM
      have hb2 := hm2.hBlt
      have hnew : (w2.alloc (.cells Z 76)).heap[w2.heap.size]? = some (.cells Z 76 (0, 0)) := Go.heap_alloc_new w2 _
      have hset : (w2.alloc (.cells Z 76)).setRow w2.heap.size cs = w2.alloc (.cells cs 76) := World.setRow_alloc_new w2 Z cs 76
      have hone : cs.all (·.oneCell') = true := by
        rw [Array.all_eq_true]
        intro i hi
        have := hat i (by rw [← hcz]; exact hi)
        rw [Array.getElem?_eq_getElem hi] at this
        injection this with this
        rw [this]
        rfl
      have HLD := Lib.hid hld
      have HNEW := Lib.hid hnew
      have HSET := Lib.hid hset
      have HONE := Lib.hid hone
      have HSZ := Lib.hid hcz
      have HAT := Lib.hid hat
      have HM2 := Lib.hid hm2
      have HW2 := Lib.hid hw2
      have HRG := Lib.hid hrg2
      have HLT := Lib.hid hlt
      have hpm := hm2.pm
      have HPA := Lib.hid (hm2.alloc (.cells cs 76))
      clear hld hnew hset hone hcz hat hm2 hw2 hrg2 hlt hgr hpm hcs hsz
      try go_frame
      go_wp2_with (first | (with_reducible refine wpList_load_row (o := ⟨some 28, _, _, _, _, _⟩) rfl 76 _ rfl g rfl 76 cs (0, 0) _ HLD.out Try.underlying76 rfl (by rw [HSZ.out]; kernel_rfl) ?_) | (with_reducible refine wpList_alloc76 (o := ⟨some 6, _, _, _, _, _⟩) rfl rfl ?_) | (with_reducible refine wpList_store_row (o := ⟨none, .store 76 (.tmp 6) (.tmp 28), _, _, _, _⟩) rfl 76 _ _ rfl w2.heap.size cs rfl rfl 76 Z HNEW.out (by rw [HSZ.out]; kernel_rfl) (by rw [size_Z, HSZ.out]) HONE.out ?_; rw [HSET.out]) | (at_mapUpdate; refine wpList_pmap_store rfl _ _ _ rfl rfl HPA.out.pm k (by omega) rfl w2.heap.size rfl ?_; intro w5 hpm5 hg5 hs5))
      have hput := HM2.out.put k (by omega) cs (fun j => V (512 * k + j)) ⟨cs, Go.heap_alloc_new w2 _, HSZ.out, HAT.out⟩ (fun j => H.out.fit _) hg5 hs5 hpm5
      rw [partV_put] at hput
      have ha := World.grownBy_alloc w2 (.cells cs 76) none
      have hs2 : (w2.alloc (.cells cs 76)).heap.size = w2.heap.size + 1 := World.size_alloc _ _
      have hrl := HRG.out.lt
      have e1 : w5.rangeLeft bm (w.heap.size + 2) = w2.rangeLeft bm (w.heap.size + 2) := by
        rw [(HRG.out.kept ha (by simp) (by simp)).left_kept hg5 (by simp; omega) (by simp), HRG.out.left_kept ha (by simp) (by simp)]
      have hCp : Cp w w5 bm (w.heap.size + 2) n V pt _ _ _ := ⟨(HRG.out.kept ha (by simp) (by simp)).kept hg5 (by simp; omega) (by simp), hput, ⟨hg5.os.trans HW2.out.os, hg5.tape.trans HW2.out.tape, hg5.output.trans HW2.out.output, by have := HW2.out.size; omega, fun i hi _ => (hg5.block i (by have := HW2.out.size; omega) (by simp; omega)).trans ((ha.block i (by have := HW2.out.size; omega) (by simp)).trans (HW2.out.block i hi (by simp)))⟩, fun c => by
        rcases c with c | c
        · exact HC.out.nr c
        · omega, fun i hi => by
        rcases hi with hi | rfl
        · exact HC.out.lo i hi
        · exact HW2.out.size⟩
      have HCP := Lib.hid hCp
      have HE1 := Lib.hid e1
      clear hput ha hs2 hrl e1 hCp hg5 hs5 hpm5
      go_wp2_with fail
      go_roundw
      case rel => exact ⟨_, _, _, HCP.out⟩
      case measure => rw [HE1.out]; exact HLT.out
end Go.Proofs.Ytablmoegmmeglaa
