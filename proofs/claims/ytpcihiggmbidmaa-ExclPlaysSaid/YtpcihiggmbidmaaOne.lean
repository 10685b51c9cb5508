/- The walks of the program's small functions: core, Set, Clear, Of. -/
import Derived.Test.YtpcihiggmbidmaaMon
import Derived.WalkSpells
import Derived.WalkLawsBesides
import Derived.Handy
namespace Go.Proofs.Ytpcihiggmbidmaa
open Go.RowKit
variable {w : World} {B : Nat} {n : Int} {f : Nat → Option Int}

def err (n c : Int) : Int := if 1 ≤ c ∧ c ≤ n then 0 else 2
theorem err_in {n c : Int} (h : 1 ≤ c ∧ c ≤ n) : err n c = 0 := if_pos h
theorem err_out {n c : Int} (h : ¬ (1 ≤ c ∧ c ≤ n)) : err n c = 2 := if_neg h

theorem core_in (c : Int) (w : World) (h : w.cell? ⟨B, 0, none⟩ = some (.int .i64 n)) (hc : 1 ≤ c ∧ c ≤ n) :
    Calls Try.prog 19 #[.pointer (some ⟨B, 0, none⟩), .int .i64 c] w fun e w' => e = .returned (.int .i64 0) ∧ w = w' := by
  obtain ⟨h1, h2⟩ := hc
  go_enter Try.func19, Try.ntmps19
  go_wp2
  go_ret
  exact ⟨rfl, rfl⟩
theorem core_out (c : Int) (w : World) (h : w.cell? ⟨B, 0, none⟩ = some (.int .i64 n)) (hc : ¬ (1 ≤ c ∧ c ≤ n)) :
    Calls Try.prog 19 #[.pointer (some ⟨B, 0, none⟩), .int .i64 c] w fun e w' => e = .returned (.int .i64 2) ∧ w = w' := by
  go_enter Try.func19, Try.ntmps19
  go_wp2
  all_goals
    go_ret
    exact ⟨rfl, rfl⟩
theorem core_nil (c : Int) (w : World) :
    Calls Try.prog 19 #[.pointer none, .int .i64 c] w fun e w' => e = .returned (.int .i64 1) ∧ w = w' := by
  go_enter Try.func19, Try.ntmps19
  go_wp2
  go_ret
  exact ⟨rfl, rfl⟩

theorem set_in (h : Mon w B n f) (c : Nat) (x : Int) (h1 : 1 ≤ c) (hn : (c : Int) ≤ n) (hx : 0 ≤ x ∧ x ≤ 18446744073709551615) :
    Calls Try.prog 8 #[.pointer (some ⟨B, 0, none⟩), .int .i64 c, .int .u64 x] w (Did w B n (upd f c (some x)) (.int .i64 0)) := by
  have c0 := h.cell0
  have hlt := h.lt
  have hn8 := h.n8
  obtain ⟨v, hv, hp⟩ := h.at_ c (by omega)
  have hf := h.free (1 + c)
  have H : Hid (Mon w B n f) := h
  clear h hp
  have c0' : ∀ o, (w.alloc o).cell? ⟨B, 0, none⟩ = some (.int .i64 n) := fun o => (World.cell?_alloc_lt w o ⟨B, 0, none⟩ hlt).trans c0
  go_enter Try.func8, Try.ntmps8
  go_wp2_with (go_at_call 19; refine (core_in _ _ (c0' _) ⟨by omega, hn⟩).mono ?_; rintro e w' ⟨rfl, rfl⟩)
  go_ret
  refine ⟨rfl, ?_, ?_⟩
  · rw [← World.setCell_alloc_past _ _ _ _ hlt]
    refine (H.out.alloc _).store c h1 hn ⟨w.heap.size, by omega, rfl, ?_, hx⟩
    exact Go.heap_alloc_new w _
  · rw [← World.setCell_alloc_past _ _ _ _ hlt]
    exact grown_trans (World.grownBy_alloc w _ _) (grown_setCell _ _ _)
theorem set_out (h : Mon w B n f) (c : Int) (x : Int) (hc : ¬ (1 ≤ c ∧ c ≤ n)) :
    Calls Try.prog 8 #[.pointer (some ⟨B, 0, none⟩), .int .i64 c, .int .u64 x] w (Did w B n f (.int .i64 2)) := by
  have c0 := h.cell0
  have hlt := h.lt
  have c0' : ∀ o, (w.alloc o).cell? ⟨B, 0, none⟩ = some (.int .i64 n) := fun o => (World.cell?_alloc_lt w o ⟨B, 0, none⟩ hlt).trans c0
  have H : Hid (Mon w B n f) := h
  have Hc : Hid (¬ (1 ≤ c ∧ c ≤ n)) := hc
  clear h hc
  go_enter Try.func8, Try.ntmps8
  go_wp2_with (go_at_call 19; refine (core_out _ _ (c0' _) Hc.out).mono ?_; rintro e w' ⟨rfl, rfl⟩)
  go_ret
  exact ⟨rfl, H.out.alloc _, World.grownBy_alloc w _ _⟩

theorem clear_in (h : Mon w B n f) (c : Nat) (h1 : 1 ≤ c) (hn : (c : Int) ≤ n) :
    Calls Try.prog 13 #[.pointer (some ⟨B, 0, none⟩), .int .i64 c] w (Did w B n (upd f c none) (.int .i64 0)) := by
  have c0 := h.cell0
  have hlt := h.lt
  have hn8 := h.n8
  obtain ⟨v, hv, hp⟩ := h.at_ c (by omega)
  have hf := h.free (1 + c)
  have H : Hid (Mon w B n f) := h
  clear h hp
  go_enter Try.func13, Try.ntmps13
  go_wp2_with (go_at_call 19; refine (core_in _ _ c0 ⟨by omega, hn⟩).mono ?_; rintro e w' ⟨rfl, rfl⟩)
  go_ret
  exact ⟨rfl, H.out.store c h1 hn rfl, grown_setCell _ _ _⟩
theorem clear_out (h : Mon w B n f) (c : Int) (hc : ¬ (1 ≤ c ∧ c ≤ n)) :
    Calls Try.prog 13 #[.pointer (some ⟨B, 0, none⟩), .int .i64 c] w (Did w B n f (.int .i64 2)) := by
  have c0 := h.cell0
  have H : Hid (Mon w B n f) := h
  have Hc : Hid (¬ (1 ≤ c ∧ c ≤ n)) := hc
  clear h hc
  go_enter Try.func13, Try.ntmps13
  go_wp2_with (go_at_call 19; refine (core_out _ _ c0 Hc.out).mono ?_; rintro e w' ⟨rfl, rfl⟩)
  go_ret
  exact ⟨rfl, H.out, grown_refl _ _⟩

def Same (w : World) (r : Value) (e : Ending) (w' : World) : Prop := e = .returned r ∧ w = w'

theorem of_in (h : Mon w B n f) (c : Nat) (h1 : 1 ≤ c) (hn : (c : Int) ≤ n) :
    Calls Try.prog 16 #[.pointer (some ⟨B, 0, none⟩), .int .i64 c] w (Same w (.tuple #[.int .u64 ((f c).getD 0), .bool (f c).isSome])) := by
  have c0 := h.cell0
  have hlt := h.lt
  have hn8 := h.n8
  obtain ⟨v, hv, hp⟩ := h.at_ c (by omega)
  cases hfc : f c with
  | none =>
    rw [hfc] at hp
    have hp' : v = .pointer none := hp
    subst hp'
    clear hfc h hp
    go_enter Try.func16, Try.ntmps16
    go_wp2_with (go_at_call 19; refine (core_in _ _ c0 ⟨by omega, hn⟩).mono ?_; rintro e w' ⟨rfl, rfl⟩)
    go_ret2
    exact ⟨rfl, rfl⟩
  | some x =>
    rw [hfc] at hp
    obtain ⟨b, hb, rfl, hbx, _⟩ := hp
    have hbc := cell_of_one hbx
    clear hfc h hbx
    go_enter Try.func16, Try.ntmps16
    go_wp2_with (go_at_call 19; refine (core_in _ _ c0 ⟨by omega, hn⟩).mono ?_; rintro e w' ⟨rfl, rfl⟩)
    go_ret2
    exact ⟨rfl, rfl⟩
theorem of_out (h : Mon w B n f) (c : Int) (hc : ¬ (1 ≤ c ∧ c ≤ n)) :
    Calls Try.prog 16 #[.pointer (some ⟨B, 0, none⟩), .int .i64 c] w (Same w (.tuple #[.int .u64 0, .bool false])) := by
  have c0 := h.cell0
  have Hc : Hid (¬ (1 ≤ c ∧ c ≤ n)) := hc
  clear h hc
  go_enter Try.func16, Try.ntmps16
  go_wp2_with (go_at_call 19; refine (core_out _ _ c0 Hc.out).mono ?_; rintro e w' ⟨rfl, rfl⟩)
  go_ret2
  exact ⟨rfl, rfl⟩
theorem of_nil (c : Int) (w : World) :
    Calls Try.prog 16 #[.pointer none, .int .i64 c] w (Same w (.tuple #[.int .u64 0, .bool false])) := by
  go_enter Try.func16, Try.ntmps16
  go_wp2
  go_ret2
  exact ⟨rfl, rfl⟩

end Go.Proofs.Ytpcihiggmbidmaa
