/- The walks of the reference's memory: New, there, frame, Read, Write. -/
import Derived.Test.YtablmoegmmeglaaRefM
namespace Go.Proofs.Ytablmoegmmeglaa
open Go.RowKit
variable {w : World} {O : Nat → Prop} {R n S : Nat} {V : Nat → Int} {pr : Nat → Option (Nat × Nat)}

def MadeR (w : World) (n : Nat) (e : Ending) (w' : World) : Prop :=
  ∃ R O', e = .returned (.tuple #[.pointer (some ⟨R, 0, none⟩), .int .i64 0]) ∧ Fp none_ w w' O' ∧ Ref w' O' R n (fun _ => 0)
theorem ref_new (w : World) (n : Nat) (h1 : 1 ≤ n) (h64 : n ≤ 64) :
    RefI ((w.alloc (.cells (madeCells #[.slice none 0 0] n) 51)).alloc (.cells #[.slice (some ⟨w.heap.size, 0, none⟩) n n] 73)) (fun k => k = w.heap.size ∨ k = w.heap.size + 1) (w.heap.size + 1) n (fun _ => 0) w.heap.size (fun _ => none) := by
  have hs : (w.alloc (.cells (madeCells #[.slice none 0 0] n) 51)).heap.size = w.heap.size + 1 := World.size_alloc _ _
  refine ⟨h1, h64, fun _ => ⟨by show (0 : Int) ≤ 0; omega, by show (0 : Int) ≤ 18446744073709551615; omega⟩, fun k hk => ?_, .inr rfl, .inl rfl, ?_, ?_, fun k _ g c h => (by cases h), fun _ _ _ _ _ => rfl, fun k k' _ _ g c c' h => (by cases h)⟩
  · rw [World.size_alloc, hs]; omega
  · have := Go.heap_alloc_new (w.alloc (.cells (madeCells #[.slice none 0 0] n) 51)) (.cells #[.slice (some ⟨w.heap.size, 0, none⟩) n n] 73)
    rw [hs] at this
    exact this
  · exact (World.rowIs_made w (.slice none 0 0) n 51).of_block (Below.heap_alloc _ _ _ (by rw [hs]; omega))
theorem refnew_in (n : Nat) (w : World) (h1 : 1 ≤ n) (h64 : n ≤ 64) : Calls Try.prog 12 #[.int .i64 n] w (MadeR w n) := by
  have hm := Lib.hid (ref_new w n h1 h64)
  have hmk := run_make_row' (P := Try.prog) 71 51 (.slice none 0 0) 24 Try.underlying71 (by kernel_rfl) rfl .i64 .i64 n (by omega) (by omega) w
  go_enter Try.func12, Try.ntmps12
  go_wp2_with fail
  go_ret2
  refine ⟨_, _, rfl, ((Fp.take none_ w _).trans (Fp.take _ _ _)), _, _, hm.out.kept (fun _ _ => rfl) (fun k hk => ?_) (fun k hk => ?_)⟩
  · have hs : (w.alloc (.cells (madeCells #[.slice none 0 0] n) 51)).heap.size = w.heap.size + 1 := World.size_alloc _ _
    rcases hk with hk | hk
    · exact .inl (.inr hk)
    · exact .inr (by rw [hs]; exact hk)
  · have hs : (w.alloc (.cells (madeCells #[.slice none 0 0] n) 51)).heap.size = w.heap.size + 1 := World.size_alloc _ _
    rw [World.size_alloc, hs]
    rcases hk with (hk | hk) | hk
    · exact hk.elim
    · omega
    · omega
theorem refnew_out (n : Int) (w : World) (h : ¬ (1 ≤ n ∧ n ≤ 64)) : Calls Try.prog 12 #[.int .i64 n] w (Same w (.tuple #[.pointer none, .int .i64 2])) := by
  by_cases h1 : n < 1
  · clear h
    go_enter Try.func12, Try.ntmps12
    go_wp2
    go_ret2
    exact ⟨rfl, rfl⟩
  · have h8 : 64 < n := by omega
    clear h
    go_enter Try.func12, Try.ntmps12
    go_wp2
    go_ret2
    exact ⟨rfl, rfl⟩

theorem rthere_any (x : Nat) (w : World) (h : w.cell? ⟨R, 0, none⟩ = some (.slice (some ⟨S, 0, none⟩) n n)) (hn : n ≤ 64) (hx : x ≤ 18446744073709551615) :
    Calls Try.prog 42 #[.pointer (some ⟨R, 0, none⟩), .int .u64 x] w (Same w (.bool (decide (x / 512 < n)))) := by
  by_cases hc : x / 512 < n
  · rw [decide_eq_true hc]
    go_enter Try.func42, Try.ntmps42
    go_wp2_with fail
    go_ret
    exact ⟨by simp; omega, rfl⟩
  · rw [decide_eq_false hc]
    go_enter Try.func42, Try.ntmps42
    go_wp2_with fail
    go_ret
    exact ⟨by simp; omega, rfl⟩
theorem rframe_any (k : Int) (w : World) (h : w.cell? ⟨R, 0, none⟩ = some (.slice (some ⟨S, 0, none⟩) n n)) :
    Calls Try.prog 37 #[.pointer (some ⟨R, 0, none⟩), .int .i64 k] w (Same w (.bool (decide (0 ≤ k ∧ k < n)))) := by
  by_cases h0 : 0 ≤ k
  · by_cases hk : k < n
    · rw [decide_eq_true ⟨h0, hk⟩]
      go_enter Try.func37, Try.ntmps37
      go_wp2_with fail
      go_ret
      exact ⟨by simp, rfl⟩
    · rw [decide_eq_false (fun c => hk c.2)]
      go_enter Try.func37, Try.ntmps37
      go_wp2_with fail
      go_ret
      exact ⟨by simp, rfl⟩
  · rw [decide_eq_false (fun c => h0 c.1)]
    go_enter Try.func37, Try.ntmps37
    go_wp2_with fail
    go_ret
    exact ⟨by simp, rfl⟩

theorem rread_out (h : RefI w O R n V S pr) (x : Nat) (hx : x ≤ 18446744073709551615) (hc : ¬ x / 512 < n) (h0 : V x = 0) :
    Calls Try.prog 35 #[.pointer (some ⟨R, 0, none⟩), .int .u64 x] w (Same w (.tuple #[.int .u64 (V x), .int .i64 80])) := by
  have ht := rthere_any x w h.cellR h.n64 hx
  rw [decide_eq_false hc] at ht
  have HT := Lib.hid ht
  rw [h0]
  clear ht h h0 hc
  go_enter Try.func35, Try.ntmps35
  go_wp2_with (go_at_call 42; refine HT.out.mono ?_; rintro e w' ⟨rfl, rfl⟩)
  go_ret2
  exact ⟨rfl, rfl⟩
theorem rread_in (h : RefI w O R n V S pr) (x : Nat) (hx : x ≤ 18446744073709551615) (hc : x / 512 < n) :
    Calls Try.prog 35 #[.pointer (some ⟨R, 0, none⟩), .int .u64 x] w (Same w (.tuple #[.int .u64 (V x), .int .i64 0])) := by
  have ht := rthere_any x w h.cellR h.n64 hx
  rw [decide_eq_true hc] at ht
  have HT := Lib.hid ht
  have c0 := h.cellR
  have hn := h.n64
  have cS := h.hS.cell (i := x / 512) hc
  clear ht
  cases hp : pr (x / 512) with
  | none =>
    have hz := h.zero _ hc hp (x % 512) (by omega)
    rw [show 512 * (x / 512) + x % 512 = x from by omega] at hz
    rw [hp] at cS
    have cS' : w.cell? ⟨S, x / 512, none⟩ = some (.slice none 0 0) := cS
    rw [hz]
    clear h hp hz cS
    go_enter Try.func35, Try.ntmps35
    go_wp2_with (go_at_call 42; refine HT.out.mono ?_; rintro e w' ⟨rfl, rfl⟩)
    go_ret2
    exact ⟨rfl, rfl⟩
  | some gc =>
    obtain ⟨g, c⟩ := gc
    obtain ⟨_, h512, _, F, hr, hF⟩ := h.row _ hc g c hp
    have cg := hr.cell (i := x % 512) (by omega)
    rw [hF (x % 512) (by omega), show 512 * (x / 512) + x % 512 = x from by omega] at cg
    rw [hp] at cS
    have cS' : w.cell? ⟨S, x / 512, none⟩ = some (.slice (some ⟨g, 0, none⟩) 512 c) := cS
    clear h hp hr hF cS
    go_enter Try.func35, Try.ntmps35
    go_wp2_with (go_at_call 42; refine HT.out.mono ?_; rintro e w' ⟨rfl, rfl⟩)
    go_ret2
    exact ⟨rfl, rfl⟩
theorem rread_any (h : Ref w O R n V) (ho : ∀ i, 512 * n ≤ i → V i = 0) (x : Nat) (hx : x ≤ 18446744073709551615) :
    Calls Try.prog 35 #[.pointer (some ⟨R, 0, none⟩), .int .u64 x] w (Same w (.tuple #[.int .u64 (V x), .int .i64 (errW n x)])) := by
  obtain ⟨S, pr, h⟩ := h
  unfold errW
  by_cases hc : x / 512 < n
  · rw [if_pos hc]; exact rread_in h x hx hc
  · rw [if_neg hc]; exact rread_out h x hx hc (ho x (by omega))

theorem rwrite_out (h : RefI w O R n V S pr) (x : Nat) (v : Int) (hx : x ≤ 18446744073709551615) (hc : ¬ x / 512 < n) :
    Calls Try.prog 24 #[.pointer (some ⟨R, 0, none⟩), .int .u64 x, .int .u64 v] w (DidR w O R n V (.int .i64 80)) := by
  have ht := rthere_any x w h.cellR h.n64 hx
  rw [decide_eq_false hc] at ht
  have HT := Lib.hid ht
  have H := Lib.hid h
  clear ht h hc
  go_enter Try.func24, Try.ntmps24
  go_wp2_with (go_at_call 42; refine HT.out.mono ?_; rintro e w' ⟨rfl, rfl⟩)
  go_ret
  exact ⟨rfl, O, Fp.refl _ _, S, pr, H.out⟩
theorem rwrite_some (h : RefI w O R n V S pr) (x : Nat) (v : Int) (hx : x ≤ 18446744073709551615) (hv : 0 ≤ v ∧ v ≤ 18446744073709551615) (hc : x / 512 < n) {g c : Nat} (hp : pr (x / 512) = some (g, c)) :
    Calls Try.prog 24 #[.pointer (some ⟨R, 0, none⟩), .int .u64 x, .int .u64 v] w (DidR w O R n (updV V x v) (.int .i64 0)) := by
  have ht := rthere_any x w h.cellR h.n64 hx
  rw [decide_eq_true hc] at ht
  have HT := Lib.hid ht
  have c0 := h.cellR
  have hn := h.n64
  have cS := h.hS.cell (i := x / 512) hc
  obtain ⟨og, h512, _, F, hr, hF⟩ := h.row _ hc g c hp
  have cg := hr.cell (i := x % 512) (by omega)
  have fg := hr.frozen (x % 512)
  rw [hF (x % 512) (by omega)] at cg
  rw [hp] at cS
  have cS' : w.cell? ⟨S, x / 512, none⟩ = some (.slice (some ⟨g, 0, none⟩) 512 c) := cS
  have HST := Lib.hid (h.store x hc hp v hv)
  have HO := Lib.hid og
  clear h hp hr hF cS ht og
  go_enter Try.func24, Try.ntmps24
  go_wp2_with (go_at_call 42; refine HT.out.mono ?_; rintro e w' ⟨rfl, rfl⟩)
  go_ret
  exact ⟨rfl, O, Fp.set_ (p := ⟨g, x % 512, none⟩) HO.out _, S, pr, HST.out⟩
def ZR : Array Value := madeCells #[.int .u64 0] 512
theorem run_make512 (w : World) : (Instr.makeSlice 51 (.int .i64 512) (.int .i64 512)).run Try.prog w = .ok (.slice (some ⟨w.heap.size, 0, none⟩) 512 512) (w.alloc (.cells ZR 32)) :=
  run_make_row' (P := Try.prog) 51 32 (.int .u64 0) 8 Try.underlying51 (by kernel_rfl) rfl .i64 .i64 512 (by omega) (by omega) w
set_option maxHeartbeats 400000 in
theorem rwrite_none (h : RefI w O R n V S pr) (x : Nat) (v : Int) (hx : x ≤ 18446744073709551615) (hv : 0 ≤ v ∧ v ≤ 18446744073709551615) (hc : x / 512 < n) (hp : pr (x / 512) = none) :
    Calls Try.prog 24 #[.pointer (some ⟨R, 0, none⟩), .int .u64 x, .int .u64 v] w (DidR w O R n (updV V x v) (.int .i64 0)) := by
  have ht := rthere_any x w h.cellR h.n64 hx
  rw [decide_eq_true hc] at ht
  have HT := Lib.hid ht
  have c0 := h.cellR
  have hn := h.n64
  have cS := h.hS.cell (i := x / 512) hc
  have fS := h.hS.frozen (x / 512)
  rw [hp] at cS
  have cS' : w.cell? ⟨S, x / 512, none⟩ = some (.slice none 0 0) := cS
  have H := Lib.hid h
  have HP := Lib.hid hp
  have HV := Lib.hid hv
  have hmk := run_make512
  have hRs := h.Rlt
  have hSs := h.hS.lt
  have hRS : ¬ R = S := h.R_ne h.hS (by omega)
  have hSR : ¬ S = R := fun e => hRS e.symm
  have nS : ¬ S = w.heap.size := by omega
  have nS' : ¬ w.heap.size = S := by omega
  have nR : ¬ R = w.heap.size := by omega
  have nR' : ¬ w.heap.size = R := by omega
  have b1 : (0 : Int) ≤ (x : Int) / 512 := by omega
  have b2 : (x : Int) / 512 < (n : Int) := by omega
  clear h hp cS ht hv
  go_enter Try.func24, Try.ntmps24
  go_wp2_with (go_at_call 42; refine HT.out.mono ?_; rintro e w' ⟨rfl, rfl⟩)
  have cAll : ∀ o, (w.drew.alloc o).cell? ⟨S, x / 512, none⟩ = some (.slice none 0 0) := fun o => (World.cell?_of_block (Below.heap_alloc w.drew o S hSs)).trans cS'
  have fAll : ∀ o, (w.drew.alloc o).frozen? ⟨S, x / 512, none⟩ = false := fun o => (World.frozen?_of_block (Below.heap_alloc w.drew o S hSs)).trans fS
  have rAll : ∀ o, (w.drew.alloc o).cell? ⟨R, 0, none⟩ = some (.slice (some ⟨S, 0, none⟩) n n) := fun o => (World.cell?_of_block (Below.heap_alloc w.drew o R hRs)).trans c0
  go_region
  have HP2 := Lib.hid (show RefI (((w.setCell ⟨S, x / 512, none⟩ (.slice (some ⟨w.heap.size, 0, none⟩) 512 512)).alloc (.cells ZR 32)).drew) (fun i => O i ∨ i = w.heap.size) R n (putF V (x / 512) (fun _ => 0)) S (updP pr (x / 512) (some (w.heap.size, 512))) from by
    have hrow : (w.alloc (.cells ZR 32)).rowIs w.heap.size 32 512 (fun _ => .int .u64 0) := World.rowIs_made w (.int .u64 0) 512 32
    have h2 := (H.out.grown (World.grownBy_alloc w (.cells ZR 32) none)).put (x / 512) hc hrow (fun c => by have := H.out.lt _ c; omega) (Nat.le_refl _) (by unfold maxLen; omega) (fun _ => 0) (fun _ _ => rfl) zero_fit
    have e : (w.setCell ⟨S, x / 512, none⟩ (.slice (some ⟨w.heap.size, 0, none⟩) 512 512)).alloc (.cells ZR 32) = (w.alloc (.cells ZR 32)).setCell ⟨S, x / 512, none⟩ (.slice (some ⟨w.heap.size, 0, none⟩) 512 512) := (World.setCell_alloc_past (w := w) _ S _ _ hSs).symm
    rw [e]
    exact h2.kept (fun _ _ => rfl) (fun _ hk => hk) h2.lt)
  have HFP := Lib.hid (show Fp O w (((w.setCell ⟨S, x / 512, none⟩ (.slice (some ⟨w.heap.size, 0, none⟩) 512 512)).alloc (.cells ZR 32)).drew) (fun i => O i ∨ i = w.heap.size) from by
    have h1 := (Fp.set_ (O := O) (w := w) (p := ⟨S, x / 512, none⟩) H.out.oS (.slice (some ⟨w.heap.size, 0, none⟩) 512 512)).trans (Fp.take O _ (.cells ZR 32))
    rw [World.size_setCell] at h1
    exact h1.trans (Fp.drew _ _))
  generalize ((w.setCell ⟨S, x / 512, none⟩ (.slice (some ⟨w.heap.size, 0, none⟩) 512 512)).alloc (.cells ZR 32)).drew = w2 at HP2 HFP ⊢
  generalize w.heap.size = g at HP2 HFP ⊢
  clear cAll fAll rAll c0 cS' fS hmk nS nS' nR nR' hRs hSs
  have hup : updP pr (x / 512) (some (g, 512)) (x / 512) = some (g, 512) := if_pos rfl
  have c0 := HP2.out.cellR
  have cS := HP2.out.hS.cell (i := x / 512) hc
  obtain ⟨_, h512, _, F, hr, hF⟩ := HP2.out.row _ hc g 512 hup
  have cg := hr.cell (i := x % 512) (by omega)
  have fg := hr.frozen (x % 512)
  rw [hF (x % 512) (by omega)] at cg
  rw [hup] at cS
  have cS' : w2.cell? ⟨S, x / 512, none⟩ = some (.slice (some ⟨g, 0, none⟩) 512 512) := cS
  have HST := Lib.hid (HP2.out.store x hc hup v HV.out)
  clear hr hF cS
  go_wp2_with fail
  go_ret
  have hV : updV (putF V (x / 512) fun _ => 0) x v = updV V x v := by
    funext i
    unfold updV
    split
    · rfl
    · unfold putF
      split
      · rename_i hi
        have := H.out.zero _ hc HP.out (i % 512) (by omega)
        rw [show 512 * (x / 512) + i % 512 = i from by omega] at this
        exact this.symm
      · rfl
  have hfin := HST.out
  rw [hV] at hfin
  exact ⟨rfl, _, HFP.out.trans (Fp.set_ (O := fun i => O i ∨ i = g) (p := ⟨g, x % 512, none⟩) (.inr rfl) _), S, _, hfin⟩

theorem rwrite_any (h : Ref w O R n V) (x : Nat) (v : Int) (hx : x ≤ 18446744073709551615) (hv : 0 ≤ v ∧ v ≤ 18446744073709551615) :
    Calls Try.prog 24 #[.pointer (some ⟨R, 0, none⟩), .int .u64 x, .int .u64 v] w (DidR w O R n (vWrite n V x v) (.int .i64 (errW n x))) := by
  obtain ⟨S, pr, h⟩ := h
  unfold vWrite errW
  by_cases hc : x / 512 < n
  · rw [if_pos hc, if_pos hc]
    cases hp : pr (x / 512) with
    | none => exact rwrite_none h x v hx hv hc hp
    | some gc => exact rwrite_some h x v hx hv hc (g := gc.1) (c := gc.2) hp
  · rw [if_neg hc, if_neg hc]
    exact rwrite_out h x v hx hc

theorem radd_any (h : Ref w O R n V) (ho : ∀ i, 512 * n ≤ i → V i = 0) (x : Nat) (v : Int) (hx : x ≤ 18446744073709551615) :
    Calls Try.prog 34 #[.pointer (some ⟨R, 0, none⟩), .int .u64 x, .int .u64 v] w (DidR w O R n (vAdd n V x v) (.tuple #[.int .u64 (V x), .int .i64 (errW n x)])) := by
  have H := Lib.hid h
  have HO := Lib.hid ho
  have HV0 := Lib.hid (ho x)
  clear h ho
  by_cases hc : x / 512 < n
  · have he : errW n x = 0 := if_pos hc
    rw [he]
    have HE := Lib.hid he
    clear he
    go_enter Try.func34, Try.ntmps34
    go_wp2_with fail
    refine (rread_any H.out HO.out x hx).mono ?_
    rintro e w' ⟨rfl, rfl⟩
    rw [HE.out]
    go_wp2_with fail
    have hw := rwrite_any H.out x (wrapU (V x + v)) hx (wrapU_fit _)
    rw [HE.out] at hw
    have HW := Lib.hid hw
    clear hw
    refine HW.out.mono ?_
    rintro e w2 ⟨rfl, O', hf, hm⟩
    have HM := Lib.hid hm
    have HF := Lib.hid hf
    clear hm hf
    go_wp2_with fail
    go_ret2
    exact ⟨rfl, O', HF.out, HM.out⟩
  · have he : errW n x = 80 := if_neg hc
    rw [he]
    have HE := Lib.hid he
    have hv0 : vAdd n V x v = V := by unfold vAdd vWrite; rw [if_neg hc]
    have hx0 : V x = 0 := HV0.out (by omega)
    rw [hv0, hx0]
    clear he hv0
    have HX := Lib.hid hx0
    clear hx0
    go_enter Try.func34, Try.ntmps34
    go_wp2_with fail
    refine (rread_any H.out HO.out x hx).mono ?_
    rintro e w' ⟨rfl, rfl⟩
    rw [HE.out]
    go_wp2_with fail
    go_ret2
    exact ⟨rfl, O, Fp.refl _ _, H.out⟩
end Go.Proofs.Ytablmoegmmeglaa
