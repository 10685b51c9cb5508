/- The walks of the memory's small functions: there, Read, Write, Add, word, barrier, outside. -/
import Derived.Test.YtablmoegmmeglaaFrame
import Derived.WalkSpells
import Derived.WalkLawsBesides
import Derived.Handy
import Derived.StillTailTactics
import Derived.Deep.RegionHeld3
namespace Go.Proofs.Ytablmoegmmeglaa
open Go.RowKit
variable {w : World} {O : Nat → Prop} {B n bm : Nat} {V : Nat → Int} {pt : Int → Option Nat}

theorem there_in (x : Nat) (w : World) (h : w.cell? ⟨B, 0, none⟩ = some (.int .i64 n)) (hn : n ≤ 64) (hc : x / 512 < n) :
    Calls Try.prog 36 #[.pointer (some ⟨B, 0, none⟩), .int .u64 x] w (Same w (.int .i64 0)) := by
  go_enter Try.func36, Try.ntmps36
  go_wp2
  go_ret
  exact ⟨rfl, rfl⟩
theorem there_out (x : Nat) (w : World) (h : w.cell? ⟨B, 0, none⟩ = some (.int .i64 n)) (hn : n ≤ 64) (hc : ¬ x / 512 < n) :
    Calls Try.prog 36 #[.pointer (some ⟨B, 0, none⟩), .int .u64 x] w (Same w (.int .i64 80)) := by
  go_enter Try.func36, Try.ntmps36
  go_wp2
  go_ret
  exact ⟨rfl, rfl⟩
theorem there_nil (x : Int) (w : World) : Calls Try.prog 36 #[.pointer none, .int .u64 x] w (Same w (.int .i64 1)) := by
  go_enter Try.func36, Try.ntmps36
  go_wp2
  go_ret
  exact ⟨rfl, rfl⟩

def errW (n x : Nat) : Int := if x / 512 < n then 0 else 80

theorem read_in (h : MemI w O B n V bm pt) (x : Nat) (hx : x ≤ 18446744073709551615) (hc : x / 512 < n) :
    Calls Try.prog 20 #[.pointer (some ⟨B, 0, none⟩), .int .u64 x] w (Same w (.tuple #[.int .u64 (V x), .int .i64 0])) := by
  have c0 := h.cellN
  have c1 := h.cellM
  have hn := h.n64
  have hlk := h.pm.look ((x / 512 : Nat) : Int) (WalkArith.wf_i64 (by omega))
  cases hp : pt ((x / 512 : Nat) : Int) with
  | none =>
    have hz := h.fr.zero (x / 512) hc hp (x % 512) (by omega)
    rw [show 512 * (x / 512) + x % 512 = x from by omega] at hz
    rw [hp] at hlk
    have hlk' : (Instr.lookup 68 (.map (some bm)) (.int .i64 ((x : Int) / 512)) false).run Try.prog w = .ok (.pointer none) w := hlk
    rw [hz]
    clear hp hlk hz h
    go_enter Try.func20, Try.ntmps20
    go_wp2_with (go_at_call 36; refine (there_in x _ c0 hn hc).mono ?_; rintro e w' ⟨rfl, rfl⟩)
    go_ret2
    exact ⟨rfl, rfl⟩
  | some g =>
    have hr := (h.fr.row (x / 512) g hp).2.cell (i := x % 512) (by omega)
    rw [show 512 * (x / 512) + x % 512 = x from by omega] at hr
    rw [hp] at hlk
    have hlk' : (Instr.lookup 68 (.map (some bm)) (.int .i64 ((x : Int) / 512)) false).run Try.prog w = .ok (.pointer (some ⟨g, 0, none⟩)) w := hlk
    clear hp hlk h
    go_enter Try.func20, Try.ntmps20
    go_wp2_with (go_at_call 36; refine (there_in x _ c0 hn hc).mono ?_; rintro e w' ⟨rfl, rfl⟩)
    go_ret2
    exact ⟨rfl, rfl⟩
theorem read_out (h : MemI w O B n V bm pt) (x : Nat) (hc : ¬ x / 512 < n) :
    Calls Try.prog 20 #[.pointer (some ⟨B, 0, none⟩), .int .u64 x] w (Same w (.tuple #[.int .u64 0, .int .i64 80])) := by
  have c0 := h.cellN
  have hn := h.n64
  clear h
  go_enter Try.func20, Try.ntmps20
  go_wp2_with (go_at_call 36; refine (there_out x _ c0 hn hc).mono ?_; rintro e w' ⟨rfl, rfl⟩)
  go_ret2
  exact ⟨rfl, rfl⟩
theorem read_any (h : Mem w O B n V) (x : Nat) (hx : x ≤ 18446744073709551615) :
    Calls Try.prog 20 #[.pointer (some ⟨B, 0, none⟩), .int .u64 x] w (Same w (.tuple #[.int .u64 (V x), .int .i64 (errW n x)])) := by
  obtain ⟨bm, pt, h⟩ := h
  unfold errW
  by_cases hc : x / 512 < n
  · rw [if_pos hc]; exact read_in h x hx hc
  · rw [if_neg hc, h.out x (by omega)]; exact read_out h x hc
theorem read_nil (x : Int) (w : World) : Calls Try.prog 20 #[.pointer none, .int .u64 x] w (Same w (.tuple #[.int .u64 0, .int .i64 1])) := by
  go_enter Try.func20, Try.ntmps20
  go_wp2_with (go_at_call 36; refine (there_nil x _).mono ?_; rintro e w' ⟨rfl, rfl⟩)
  go_ret2
  exact ⟨rfl, rfl⟩

def vWrite (n : Nat) (V : Nat → Int) (x : Nat) (v : Int) : Nat → Int := if x / 512 < n then updV V x v else V

theorem write_old (h : MemI w O B n V bm pt) (x : Nat) (v : Int) (hx : x ≤ 18446744073709551615) (hv : 0 ≤ v ∧ v ≤ 18446744073709551615) (hc : x / 512 < n) {g : Nat} (hp : pt ((x / 512 : Nat) : Int) = some g) :
    Calls Try.prog 15 #[.pointer (some ⟨B, 0, none⟩), .int .u64 x, .int .u64 v] w (Did w O B n (updV V x v) (.int .i64 0)) := by
  have c0 := h.cellN
  have c1 := h.cellM
  have hn := h.n64
  have hlk := h.pm.look ((x / 512 : Nat) : Int) (WalkArith.wf_i64 (by omega))
  obtain ⟨hO, hr⟩ := h.fr.row (x / 512) g hp
  have hr1 := hr.cell (i := x % 512) (by omega)
  have hr2 := hr.frozen (x % 512)
  have hst := Lib.hid (h.store x hp v hv)
  have HO := Lib.hid hO
  rw [hp] at hlk
  have hlk' : (Instr.lookup 68 (.map (some bm)) (.int .i64 ((x : Int) / 512)) false).run Try.prog w = .ok (.pointer (some ⟨g, 0, none⟩)) w := hlk
  clear hp hlk h hr hO hv
  go_enter Try.func15, Try.ntmps15
  go_wp2_with (go_at_call 36; refine (there_in x _ c0 hn hc).mono ?_; rintro e w' ⟨rfl, rfl⟩)
  go_ret
  exact ⟨rfl, O, Fp.set_ (p := ⟨g, x % 512, none⟩) HO.out _, _, _, hst.out⟩
theorem rowZ (w : World) : (w.alloc (.cells Z 76)).rowIs w.heap.size 76 512 (fun j => .int .u64 ((fun _ => (0 : Int)) j)) :=
  ⟨Z, Go.heap_alloc_new w _, size_Z, fun i hi => Z_at i hi⟩
theorem zero_fit : ∀ j : Nat, 0 ≤ (fun _ : Nat => (0 : Int)) j ∧ (fun _ : Nat => (0 : Int)) j ≤ 18446744073709551615 := fun _ => ⟨by show (0 : Int) ≤ 0; omega, by show (0 : Int) ≤ 18446744073709551615; omega⟩

theorem put_zero (h : MemI w O B n V bm pt) (k : Nat) (hk : k < n) (hp : pt (k : Int) = none) : ∀ i, putF V k (fun _ => 0) i = V i := by
  intro i
  unfold putF
  by_cases e : i / 512 = k
  · rw [if_pos e]
    have := h.fr.zero k hk hp (i % 512) (by omega)
    rw [show 512 * k + i % 512 = i from by omega] at this
    exact this.symm
  · rw [if_neg e]

set_option maxHeartbeats 400000 in
theorem write_new (h : MemI w O B n V bm pt) (x : Nat) (v : Int) (hx : x ≤ 18446744073709551615) (hv : 0 ≤ v ∧ v ≤ 18446744073709551615) (hc : x / 512 < n) (hp : pt ((x / 512 : Nat) : Int) = none) :
    Calls Try.prog 15 #[.pointer (some ⟨B, 0, none⟩), .int .u64 x, .int .u64 v] w (Did w O B n (updV V x v) (.int .i64 0)) := by
  have c0 := h.cellN
  have c1 := h.cellM
  have hn := h.n64
  have hlk := h.pm.look ((x / 512 : Nat) : Int) (WalkArith.wf_i64 (by omega))
  rw [hp] at hlk
  have hlk' : (Instr.lookup 68 (.map (some bm)) (.int .i64 ((x : Int) / 512)) false).run Try.prog w = .ok (.pointer none) w := hlk
  have H := Lib.hid h
  have HP := Lib.hid hp
  have HV := Lib.hid hv
  have hBs := h.hBlt
  clear hp hlk h hv
  go_enter Try.func15, Try.ntmps15
  go_wp2_with (first | (go_at_call 36; refine (there_in x _ c0 hn hc).mono ?_; rintro e w' ⟨rfl, rfl⟩) | (with_reducible refine wpList_build76 (o := ⟨some 30, _, _, _, _, _⟩) rfl rfl ?_) | (at_mapUpdate; refine wpList_pmap_store rfl _ _ _ rfl rfl (H.out.alloc _).pm (x / 512) (by omega) rfl w.heap.size rfl ?_; intro w2 hpm hg hs; have HM := Lib.hid (H.out.put (x / 512) hc Z (fun _ => 0) (rowZ w) zero_fit hg hs hpm); have HG := Lib.hid hg; have HS := Lib.hid hs; clear hpm hg hs hlk' c0 c1; have c2 := HM.out.cellM; have hl2 : (Instr.lookup 68 (.map (some bm)) (.int .i64 ((x : Int) / 512)) false).run Try.prog w2 = .ok (.pointer (some ⟨w.heap.size, 0, none⟩)) w2 := HM.out.pm.look_some ((x / 512 : Nat) : Int) (WalkArith.wf_i64 (by omega)) (by unfold updI; rw [if_pos rfl]); have r2 := (HM.out.fr.row (x / 512) w.heap.size (by unfold updI; rw [if_pos rfl])).2; have r3 := r2.cell (i := x % 512) (by omega); have r4 := r2.frozen (x % 512); clear r2))
  go_ret
  have hfin := (HM.out.store x (g := w.heap.size) (by unfold updI; rw [if_pos rfl]) v HV.out)
  refine ⟨rfl, _, (((Fp.take O w _).trans (Fp.grown (b := bm) (.inl H.out.oM) HG.out)).trans (Fp.set_ (w := w2) (p := ⟨w.heap.size, x % 512, none⟩) (.inr rfl) (.int .u64 v))), bm, updI pt ((x / 512 : Nat) : Int) (some w.heap.size), ?_⟩
  have e : updV (putF V (x / 512) fun _ => 0) x v = updV V x v := by
    funext i
    unfold updV
    rw [put_zero H.out (x / 512) hc HP.out i]
  rw [e] at hfin
  exact hfin

theorem write_out (h : MemI w O B n V bm pt) (x : Nat) (v : Int) (hc : ¬ x / 512 < n) :
    Calls Try.prog 15 #[.pointer (some ⟨B, 0, none⟩), .int .u64 x, .int .u64 v] w (Did w O B n V (.int .i64 80)) := by
  have c0 := h.cellN
  have hn := h.n64
  have H := Lib.hid h
  clear h
  go_enter Try.func15, Try.ntmps15
  go_wp2_with (go_at_call 36; refine (there_out x _ c0 hn hc).mono ?_; rintro e w' ⟨rfl, rfl⟩)
  go_ret
  exact ⟨rfl, O, Fp.refl _ _, _, _, H.out⟩
theorem write_any (h : Mem w O B n V) (x : Nat) (v : Int) (hx : x ≤ 18446744073709551615) (hv : 0 ≤ v ∧ v ≤ 18446744073709551615) :
    Calls Try.prog 15 #[.pointer (some ⟨B, 0, none⟩), .int .u64 x, .int .u64 v] w (Did w O B n (vWrite n V x v) (.int .i64 (errW n x))) := by
  obtain ⟨bm, pt, h⟩ := h
  unfold vWrite errW
  by_cases hc : x / 512 < n
  · rw [if_pos hc, if_pos hc]
    cases hp : pt ((x / 512 : Nat) : Int) with
    | none => exact write_new h x v hx hv hc hp
    | some g => exact write_old h x v hx hv hc hp
  · rw [if_neg hc, if_neg hc]
    exact write_out h x v hc
theorem write_nil (x v : Int) (w : World) : Calls Try.prog 15 #[.pointer none, .int .u64 x, .int .u64 v] w (Same w (.int .i64 1)) := by
  go_enter Try.func15, Try.ntmps15
  go_wp2_with (go_at_call 36; refine (there_nil x _).mono ?_; rintro e w' ⟨rfl, rfl⟩)
  go_ret
  exact ⟨rfl, rfl⟩

/-- A sum that wraps round. -/
def wrapU (x : Int) : Int := IntKind.u64.wrap x
theorem wrapU_fit (x : Int) : 0 ≤ wrapU x ∧ wrapU x ≤ 18446744073709551615 := by
  unfold wrapU
  rw [IntKind.wrap_u64]
  omega
def vAdd (n : Nat) (V : Nat → Int) (x : Nat) (v : Int) : Nat → Int := vWrite n V x (wrapU (V x + v))
theorem add_any (h : Mem w O B n V) (x : Nat) (v : Int) (hx : x ≤ 18446744073709551615) (_hv : 0 ≤ v ∧ v ≤ 18446744073709551615) :
    Calls Try.prog 21 #[.pointer (some ⟨B, 0, none⟩), .int .u64 x, .int .u64 v] w (Did w O B n (vAdd n V x v) (.tuple #[.int .u64 (V x), .int .i64 (errW n x)])) := by
  have H := Lib.hid h
  clear h
  by_cases hc : x / 512 < n
  · have he : errW n x = 0 := if_pos hc
    rw [he]
    have HE := Lib.hid he
    clear he
    go_enter Try.func21, Try.ntmps21
    go_wp2_with fail
    refine (read_any H.out x hx).mono ?_
    rintro e w' ⟨rfl, rfl⟩
    rw [HE.out]
    go_wp2_with fail
    have hw := write_any H.out x (wrapU (V x + v)) hx (wrapU_fit _)
    rw [HE.out] at hw
    have HW := Lib.hid hw
    clear hw
    refine HW.out.mono ?_
    rintro e w2 ⟨rfl, O', hf, hm⟩
    have HM := Lib.hid hm
    have HF := Lib.hid hf
    clear hm hf
    go_wp2_with fail
    go_ret2
    exact ⟨rfl, O', HF.out, HM.out⟩
  · have he : errW n x = 80 := if_neg hc
    rw [he]
    have HE := Lib.hid he
    have hv0 : vAdd n V x v = V := by unfold vAdd vWrite; rw [if_neg hc]
    rw [hv0]
    clear he hv0
    go_enter Try.func21, Try.ntmps21
    go_wp2_with fail
    refine (read_any H.out x hx).mono ?_
    rintro e w' ⟨rfl, rfl⟩
    rw [HE.out]
    go_wp2_with fail
    go_ret2
    exact ⟨rfl, O, Fp.refl _ _, H.out⟩
theorem add_nil (x v : Int) (w : World) : Calls Try.prog 21 #[.pointer none, .int .u64 x, .int .u64 v] w (Same w (.tuple #[.int .u64 0, .int .i64 1])) := by
  go_enter Try.func21, Try.ntmps21
  go_wp2_with (go_at_call 20; refine (read_nil x _).mono ?_; rintro e w' ⟨rfl, rfl⟩)
  go_ret2
  exact ⟨rfl, rfl⟩

theorem word_any (h : Mem w O B n V) (kd : Int) (x : Nat) (v ef er : Int) (hx : x ≤ 18446744073709551615) (hv : 0 ≤ v ∧ v ≤ 18446744073709551615) :
    Calls Try.prog 38 #[.pointer (some ⟨B, 0, none⟩), .agg #[.int .i8 kd, .int .u64 x, .int .u64 v, .int .i64 ef, .int .i64 er]] w (Did w O B n (vWrite n V x v) (.int .i64 (errW n x))) := by
  have H := Lib.hid h
  have HV := Lib.hid hv
  clear h hv
  go_enter Try.func38, Try.ntmps38
  go_wp2_with fail
  refine (write_any (H.out.alloc _) x v hx HV.out).mono ?_
  rintro e w2 ⟨rfl, O', hf, hm⟩
  have HM := Lib.hid hm
  have HF := Lib.hid hf
  clear hm hf
  go_wp2_with fail
  go_ret
  exact ⟨rfl, O', (Fp.alloc O w _).trans HF.out, HM.out⟩
theorem barrier_any (h : Mem w O B n V) (kd x v ef er : Int) :
    Calls Try.prog 39 #[.pointer (some ⟨B, 0, none⟩), .agg #[.int .i8 kd, .int .u64 x, .int .u64 v, .int .i64 ef, .int .i64 er]] w (Did w O B n V (.int .i64 0)) := by
  have H := Lib.hid h
  clear h
  go_enter Try.func39, Try.ntmps39
  go_wp2_with fail
  go_ret
  exact ⟨rfl, O, Fp.alloc O w _, H.out.alloc _⟩
theorem outside_any (k : Int) (w : World) (h : w.cell? ⟨B, 0, none⟩ = some (.int .i64 n)) :
    Calls Try.prog 44 #[.pointer (some ⟨B, 0, none⟩), .int .i64 k] w (Same w (.bool (decide (¬ (0 ≤ k ∧ k < n))))) := by
  by_cases h1 : k < 0
  · rw [decide_eq_true (by omega)]
    go_enter Try.func44, Try.ntmps44
    go_wp2
    go_ret
    exact ⟨rfl, rfl⟩
  · by_cases h2 : k < (n : Int)
    · rw [decide_eq_false (by omega)]
      go_enter Try.func44, Try.ntmps44
      go_wp2
      go_ret
      exact ⟨by simp; omega, rfl⟩
    · rw [decide_eq_true (by omega)]
      go_enter Try.func44, Try.ntmps44
      go_wp2
      go_ret
      exact ⟨rfl, rfl⟩
theorem outside_no (k : Int) (w : World) (h : w.cell? ⟨B, 0, none⟩ = some (.int .i64 n)) (hk : 0 ≤ k ∧ k < n) :
    Calls Try.prog 44 #[.pointer (some ⟨B, 0, none⟩), .int .i64 k] w (Same w (.bool false)) := by
  have := outside_any k w h
  rwa [decide_eq_false (by omega)] at this
theorem outside_yes (k : Int) (w : World) (h : w.cell? ⟨B, 0, none⟩ = some (.int .i64 n)) (hk : ¬ (0 ≤ k ∧ k < n)) :
    Calls Try.prog 44 #[.pointer (some ⟨B, 0, none⟩), .int .i64 k] w (Same w (.bool true)) := by
  have := outside_any k w h
  rwa [decide_eq_true hk] at this
end Go.Proofs.Ytablmoegmmeglaa
