/- The walks of zero and copies: an entry makes a frame all 0, or as another one. -/
import Derived.Test.YtablmoegmmeglaaWalkA
namespace Go.Proofs.Ytablmoegmmeglaa
open Go.RowKit
variable {w : World} {O : Nat → Prop} {B n bm : Nat} {V : Nat → Int} {pt : Int → Option Nat}

def errF (n : Nat) (k : Int) : Int := if 0 ≤ k ∧ k < n then 0 else 80
def vZero (n : Nat) (V : Nat → Int) (k : Int) : Nat → Int := if 0 ≤ k ∧ k < n then putF V k.toNat (fun _ => 0) else V

set_option maxHeartbeats 400000 in
theorem zero_in (h : MemI w O B n V bm pt) (kd x v ef : Int) (k : Nat) (hk : k < n) :
    Calls Try.prog 40 #[.pointer (some ⟨B, 0, none⟩), .agg #[.int .i8 kd, .int .u64 x, .int .u64 v, .int .i64 ef, .int .i64 k]] w (Did w O B n (putF V k (fun _ => 0)) (.int .i64 0)) := by
  have c0 := h.cellN
  have c1 := h.cellM
  have hn := h.n64
  have hBs := h.hBlt
  have c0' : ∀ o, (w.alloc o).cell? ⟨B, 0, none⟩ = some (.int .i64 n) := fun o => (h.alloc o).cellN
  have H := Lib.hid h
  clear h
  go_enter Try.func40, Try.ntmps40
  go_wp2_with (go_at_call 44; refine (outside_no _ _ (c0' _) ⟨by omega, by omega⟩).mono ?_; rintro e w' ⟨rfl, rfl⟩)
  refine wp_region_still_tail 6 (by kernel_rfl) (by kernel_rfl) ?_
  simp only [List.take_succ_cons, List.take_zero, List.drop_succ_cons, List.drop_zero, World.drew_eq]
  repeat still_step
  refine wpStill_nil ?_
  at_delete
  refine wpList_pmap_delete rfl _ _ rfl rfl ((H.out.alloc _).drew).pm (k : Int) (WalkArith.wf_i64 (by omega)) rfl ?_
  intro w2 hpm hg hs
  have HM := Lib.hid (((H.out.alloc _).drew).drop k hg hs hpm)
  have HG := Lib.hid hg
  clear hpm hg hs
  go_wp2_with fail
  go_ret
  exact ⟨rfl, O, ((Fp.alloc O w _).trans (Fp.drew O _)).trans (Fp.grown H.out.oM HG.out), bm, _, HM.out⟩
theorem zero_out (h : MemI w O B n V bm pt) (kd x v ef k : Int) (hk : ¬ (0 ≤ k ∧ k < n)) :
    Calls Try.prog 40 #[.pointer (some ⟨B, 0, none⟩), .agg #[.int .i8 kd, .int .u64 x, .int .u64 v, .int .i64 ef, .int .i64 k]] w (Did w O B n V (.int .i64 80)) := by
  have c0' : ∀ o, (w.alloc o).cell? ⟨B, 0, none⟩ = some (.int .i64 n) := fun o => (h.alloc o).cellN
  have H := Lib.hid h
  have HK := Lib.hid hk
  clear h hk
  go_enter Try.func40, Try.ntmps40
  go_wp2_with (go_at_call 44; refine (outside_yes _ _ (c0' _) HK.out).mono ?_; rintro e w' ⟨rfl, rfl⟩)
  go_ret
  exact ⟨rfl, O, Fp.alloc O w _, bm, pt, H.out.alloc _⟩
theorem zero_any (h : Mem w O B n V) (kd x v ef k : Int) :
    Calls Try.prog 40 #[.pointer (some ⟨B, 0, none⟩), .agg #[.int .i8 kd, .int .u64 x, .int .u64 v, .int .i64 ef, .int .i64 k]] w (Did w O B n (vZero n V k) (.int .i64 (errF n k))) := by
  obtain ⟨bm, pt, h⟩ := h
  unfold vZero errF
  by_cases hk : 0 ≤ k ∧ k < n
  · obtain ⟨j, rfl⟩ := Int.eq_ofNat_of_zero_le hk.1
    rw [if_pos hk, if_pos hk]
    exact zero_in h kd x v ef j (by omega)
  · rw [if_neg hk, if_neg hk]
    exact zero_out h kd x v ef k hk

def errC (n : Nat) (to_ from_ : Int) : Int := if 0 ≤ to_ ∧ to_ < n then errF n from_ else 80
def vCopy (n : Nat) (V : Nat → Int) (to_ from_ : Int) : Nat → Int := if (0 ≤ to_ ∧ to_ < n) ∧ (0 ≤ from_ ∧ from_ < n) then putF V to_.toNat (fun j => V (512 * from_.toNat + j)) else V

set_option maxHeartbeats 400000 in
theorem copies_none (h : MemI w O B n V bm pt) (kd x v : Int) (f k : Nat) (hf : f < n) (hk : k < n) (hp : pt (f : Int) = none) :
    Calls Try.prog 41 #[.pointer (some ⟨B, 0, none⟩), .agg #[.int .i8 kd, .int .u64 x, .int .u64 v, .int .i64 f, .int .i64 k]] w (Did w O B n (putF V k (fun j => V (512 * f + j))) (.int .i64 0)) := by
  have c0 := h.cellN
  have c1 := h.cellM
  have hn := h.n64
  have hBs := h.hBlt
  have c0' : ∀ o, (w.alloc o).cell? ⟨B, 0, none⟩ = some (.int .i64 n) := fun o => (h.alloc o).cellN
  have H := Lib.hid h
  have HP := Lib.hid hp
  clear h hp
  go_enter Try.func41, Try.ntmps41
  go_wp2_with (go_at_call 44; refine (outside_no _ _ (c0' _) ⟨by omega, by omega⟩).mono ?_; rintro e w' ⟨rfl, rfl⟩)
  refine wp_region_still_tail 6 (by kernel_rfl) (by kernel_rfl) ?_
  simp only [List.take_succ_cons, List.take_zero, List.drop_succ_cons, List.drop_zero, World.drew_eq]
  repeat still_step
  refine wpStill_nil ?_
  at_lookup
  refine wpList_pmap_look rfl _ _ rfl rfl ((H.out.alloc _).drew).pm (f : Int) (WalkArith.wf_i64 (by omega)) rfl (.pointer none) (by rw [HP.out]; rfl) ?_
  go_wp2_with fail
  refine wp_region_still_tail 6 (by kernel_rfl) (by kernel_rfl) ?_
  simp only [List.take_succ_cons, List.take_zero, List.drop_succ_cons, List.drop_zero, World.drew_eq]
  repeat still_step
  refine wpStill_nil ?_
  at_delete
  refine wpList_pmap_delete rfl _ _ rfl rfl (((H.out.alloc _).drew).drew).pm (k : Int) (WalkArith.wf_i64 (by omega)) rfl ?_
  intro w2 hpm hg hs
  have HM := Lib.hid ((((H.out.alloc _).drew).drew).drop k hg hs hpm)
  have HG := Lib.hid hg
  clear hpm hg hs
  go_wp2_with fail
  go_ret
  have e : putF V k (fun _ => 0) = putF V k (fun j => V (512 * f + j)) := by
    funext i
    unfold putF
    split
    · exact (H.out.fr.zero f hf HP.out (i % 512) (by omega)).symm
    · rfl
  have hm := HM.out
  rw [e] at hm
  exact ⟨rfl, O, (((Fp.alloc O w _).trans (Fp.drew O _)).trans (Fp.drew O _)).trans (Fp.grown H.out.oM HG.out), bm, _, hm⟩

set_option maxHeartbeats 400000 in
theorem copies_some (h : MemI w O B n V bm pt) (kd x v : Int) (f k : Nat) (hf : f < n) (hk : k < n) {g : Nat} (hp : pt (f : Int) = some g) :
    Calls Try.prog 41 #[.pointer (some ⟨B, 0, none⟩), .agg #[.int .i8 kd, .int .u64 x, .int .u64 v, .int .i64 f, .int .i64 k]] w (Did w O B n (putF V k (fun j => V (512 * f + j))) (.int .i64 0)) := by
  have c0 := h.cellN
  have c1 := h.cellM
  have hn := h.n64
  have hBs := h.hBlt
  have c0' : ∀ o, (w.alloc o).cell? ⟨B, 0, none⟩ = some (.int .i64 n) := fun o => (h.alloc o).cellN
  have hrow := (h.fr.row f g hp).2
  obtain ⟨cs, hcs, hsz, hat⟩ := hrow
  have hgs := lt_of_block hcs
  have H := Lib.hid h
  have HP := Lib.hid hp
  have HCS := Lib.hid hcs
  have HSZ := Lib.hid hsz
  have HAT := Lib.hid hat
  clear h hp hcs hsz hat
  go_enter Try.func41, Try.ntmps41
  go_wp2_with (go_at_call 44; refine (outside_no _ _ (c0' _) ⟨by omega, by omega⟩).mono ?_; rintro e w' ⟨rfl, rfl⟩)
  refine wp_region_still_tail 6 (by kernel_rfl) (by kernel_rfl) ?_
  simp only [List.take_succ_cons, List.take_zero, List.drop_succ_cons, List.drop_zero, World.drew_eq]
  repeat still_step
  refine wpStill_nil ?_
  at_lookup
  refine wpList_pmap_look rfl _ _ rfl rfl ((H.out.alloc _).drew).pm (f : Int) (WalkArith.wf_i64 (by omega)) rfl (.pointer (some ⟨g, 0, none⟩)) (by rw [HP.out]; rfl) ?_
  have hnew : ∀ X : Obj, (((w.alloc X).alloc (.cells Z 76)).drew).heap[w.heap.size + 1]? = some (.cells Z 76 (0, 0)) := fun X => by
    have := Go.heap_alloc_new (w.alloc X) (.cells Z 76)
    rw [World.size_alloc] at this
    exact this
  have hset : ∀ X : Obj, (((w.alloc X).alloc (.cells Z 76)).drew).setRow (w.heap.size + 1) cs = ((w.alloc X).alloc (.cells cs 76)).drew := fun X => by
    have := World.setRow_alloc_new (w.alloc X) Z cs 76
    rw [World.size_alloc] at this
    show (((w.alloc X).alloc (.cells Z 76)).setRow (w.heap.size + 1) cs).drew = _
    rw [this]
  have HLD : ∀ X : Obj, ((w.alloc X).drew).heap[g]? = some (.cells cs 76 (0, 0)) := fun X => (Below.heap_alloc w X g hgs).trans HCS.out
  have HLD := Lib.hid HLD
  have HNEW := Lib.hid hnew
  have HSET := Lib.hid hset
  clear hnew hset
  have hone : cs.all (·.oneCell') = true := by
    rw [Array.all_eq_true]
    intro i hi
    have := HAT.out i (by rw [← HSZ.out]; exact hi)
    rw [Array.getElem?_eq_getElem hi] at this
    injection this with this
    rw [this]
    rfl
  have HONE := Lib.hid hone
  clear hone
  go_wp2_with (first | (with_reducible refine wpList_load_row (o := ⟨some 34, _, _, _, _, _⟩) rfl 76 _ rfl g rfl 76 cs (0, 0) _ (HLD.out _) Try.underlying76 rfl (by rw [HSZ.out]; kernel_rfl) ?_) | (with_reducible refine wpList_alloc76 (o := ⟨some 6, _, _, _, _, _⟩) rfl rfl ?_; simp only [World.alloc_drew, World.size_drew, World.size_alloc]) | (with_reducible refine wpList_store_row (o := ⟨none, .store 76 (.tmp 6) (.tmp 34), _, _, _, _⟩) rfl 76 _ _ rfl (w.heap.size + 1) cs rfl rfl 76 Z (HNEW.out _) (by rw [HSZ.out]; kernel_rfl) (by rw [size_Z, HSZ.out]) HONE.out ?_; rw [HSET.out]))
  have HM := Lib.hid (show MemI (((w.alloc (.cells #[.int .i8 kd, .int .u64 x, .int .u64 v, .int .i64 f, .int .i64 k] 35)).drew).drew) O B n V bm pt from ((H.out.alloc _).drew).drew)
  have HMB := Lib.hid (HM.out.alloc (.cells cs 76))
  refine wp_region_still_tail 6 (by kernel_rfl) (by kernel_rfl) ?_
  simp only [List.take_succ_cons, List.take_zero, List.drop_succ_cons, List.drop_zero, World.drew_eq]
  repeat still_step
  refine wpStill_nil ?_
  at_mapUpdate
  refine wpList_pmap_store rfl _ _ _ rfl rfl HMB.out.pm k (by omega) rfl (w.heap.size + 1) rfl ?_
  intro w2 hpm hg hs
  have hsz1 : (((w.alloc (.cells #[.int .i8 kd, .int .u64 x, .int .u64 v, .int .i64 f, .int .i64 k] 35)).drew).drew).heap.size = w.heap.size + 1 := World.size_alloc _ _
  rw [← hsz1] at hpm
  have HP2 := Lib.hid (HM.out.put k hk cs (fun j => V (512 * f + j)) ⟨cs, Go.heap_alloc_new _ _, HSZ.out, HAT.out⟩ (fun j => H.out.fit _) hg hs hpm)
  have HG := Lib.hid hg
  clear hpm hg hs hsz1
  go_wp2_with fail
  go_ret
  exact ⟨rfl, _, (((Fp.alloc O w _).trans (Fp.drew O _)).trans (Fp.drew O _)).trans ((Fp.take O _ (.cells cs 76)).trans (Fp.grown (b := bm) (.inl H.out.oM) HG.out)), bm, _, HP2.out⟩

set_option maxHeartbeats 400000 in
theorem copies_out1 (h : MemI w O B n V bm pt) (kd x v f k : Int) (hk : ¬ (0 ≤ k ∧ k < n)) :
    Calls Try.prog 41 #[.pointer (some ⟨B, 0, none⟩), .agg #[.int .i8 kd, .int .u64 x, .int .u64 v, .int .i64 f, .int .i64 k]] w (Did w O B n V (.int .i64 80)) := by
  have c0' : ∀ o, (w.alloc o).cell? ⟨B, 0, none⟩ = some (.int .i64 n) := fun o => (h.alloc o).cellN
  have H := Lib.hid h
  have HK := Lib.hid hk
  clear h hk
  go_enter Try.func41, Try.ntmps41
  go_wp2_with (go_at_call 44; refine (outside_yes _ _ (c0' _) HK.out).mono ?_; rintro e w' ⟨rfl, rfl⟩)
  go_ret
  exact ⟨rfl, O, Fp.alloc O w _, bm, pt, H.out.alloc _⟩
set_option maxHeartbeats 400000 in
theorem copies_out2 (h : MemI w O B n V bm pt) (kd x v f k : Int) (hk : 0 ≤ k ∧ k < n) (hf : ¬ (0 ≤ f ∧ f < n)) :
    Calls Try.prog 41 #[.pointer (some ⟨B, 0, none⟩), .agg #[.int .i8 kd, .int .u64 x, .int .u64 v, .int .i64 f, .int .i64 k]] w (Did w O B n V (.int .i64 80)) := by
  have c0' : ∀ o, (w.alloc o).cell? ⟨B, 0, none⟩ = some (.int .i64 n) := fun o => (h.alloc o).cellN
  have H := Lib.hid h
  have HK := Lib.hid (outside_no k (w.alloc (.cells #[.int .i8 kd, .int .u64 x, .int .u64 v, .int .i64 f, .int .i64 k] 35)) (c0' _) hk)
  have HF := Lib.hid (outside_yes f (w.alloc (.cells #[.int .i8 kd, .int .u64 x, .int .u64 v, .int .i64 f, .int .i64 k] 35)) (c0' _) hf)
  clear h hk hf
  go_enter Try.func41, Try.ntmps41
  go_wp2_with (go_at_call 44; (first | (with_reducible refine HK.out.mono ?_) | (with_reducible refine HF.out.mono ?_)); rintro e w' ⟨rfl, rfl⟩)
  go_ret
  exact ⟨rfl, O, Fp.alloc O w _, bm, pt, H.out.alloc _⟩
theorem copies_any (h : Mem w O B n V) (kd x v f k : Int) :
    Calls Try.prog 41 #[.pointer (some ⟨B, 0, none⟩), .agg #[.int .i8 kd, .int .u64 x, .int .u64 v, .int .i64 f, .int .i64 k]] w (Did w O B n (vCopy n V k f) (.int .i64 (errC n k f))) := by
  obtain ⟨bm, pt, h⟩ := h
  unfold vCopy errC errF
  by_cases hk : 0 ≤ k ∧ k < n
  · rw [if_pos hk]
    by_cases hf : 0 ≤ f ∧ f < n
    · obtain ⟨j, rfl⟩ := Int.eq_ofNat_of_zero_le hk.1
      obtain ⟨i, rfl⟩ := Int.eq_ofNat_of_zero_le hf.1
      rw [if_pos ⟨hk, hf⟩, if_pos hf]
      cases hp : pt (i : Int) with
      | none => exact copies_none h kd x v i j (by omega) (by omega) hp
      | some g => exact copies_some h kd x v i j (by omega) (by omega) hp
    · rw [if_neg (fun c => hf c.2), if_neg hf]
      exact copies_out2 h kd x v f k hk hf
  · rw [if_neg (fun c => hk c.1), if_neg hk]
    exact copies_out1 h kd x v f k hk
end Go.Proofs.Ytablmoegmmeglaa
