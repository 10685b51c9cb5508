/- A map from ints to pointers, in memory: what is said of it, and the laws at its operations. -/
import Derived.Test.YtablmoegmmeglaaRows
import Derived.WalkKit
import Derived.Maps.RangeWalk
import Derived.Deep.OwnRows
import Derived.Lib.Hide
namespace Go.Proofs.Ytablmoegmmeglaa
open Go.RowKit Go.Maps

def R0 : Value → Option (DataW Value × List MemPlace) := fun v => some (.held v, [])
def ptrV : Option Nat → Value
  | none => .pointer none
  | some g => .pointer (some ⟨g, 0, none⟩)

theorem law3 : Keyed Try.prog 3 := int_keyed Try.underlying3
theorem zeroE (w : World) : (zeroValue 74).run Try.prog w = .ok (.pointer none) w := by kernel_rfl

theorem ptrV_inj {a b : Option Nat} (h : ptrV a = ptrV b) : a = b := by
  cases a <;> cases b <;> simp [ptrV] at h <;> simp [h]

structure PD (D : DataW Value) (pt : Int → Option Nat) : Prop where
  at_ : ∀ k : Int, D.atKey (.int .i64 k) (.held (.pointer none)) = .held (ptrV (pt k))
  keys : ∀ kl, Maps.has D kl = true → ∃ (k : Nat) (g : Nat), kl = .int .i64 k ∧ k < 64 ∧ pt k = some g

/-- Block b is a map of pointers: at key k the pointer 'ptrV (pt k)'; the keys that are there are below 64, and lead somewhere. -/
def PMap (w : World) (b : Nat) (pt : Int → Option Nat) : Prop := ∃ D : DataW Value, w.ownsMap Try.prog 3 R0 b 64 D ∧ PD D pt

def updI (pt : Int → Option Nat) (k : Int) (x : Option Nat) : Int → Option Nat := fun j => if j = k then x else pt j

theorem PD.there {D : DataW Value} {pt : Int → Option Nat} (h : PD D pt) {k : Int} {g : Nat} (e : pt k = some g) : Maps.has D (.int .i64 k) = true := by
  cases hh : Maps.has D (.int .i64 k)
  · have h1 := (atKey_of_not_has hh (.held (.pointer none))).symm.trans (h.at_ k)
    rw [e] at h1
    simp [ptrV] at h1
  · rfl
theorem PD.bound {D : DataW Value} {pt : Int → Option Nat} (h : PD D pt) {k : Int} {g : Nat} (e : pt k = some g) : ∃ j : Nat, k = j ∧ j < 64 := by
  obtain ⟨j, _, hj, hl, _⟩ := h.keys _ (h.there e)
  injection hj with _ hk
  exact ⟨j, hk, hl⟩
theorem PD.off {D : DataW Value} {pt : Int → Option Nat} (h : PD D pt) {k : Int} (e : pt k = none) : Maps.has D (.int .i64 k) = false := by
  cases hh : Maps.has D (.int .i64 k)
  · rfl
  · obtain ⟨j, g, hj, _, hg⟩ := h.keys _ hh
    injection hj with _ hk
    rw [hk, hg] at e
    cases e

theorem keyI (k : Int) : WideAt.IsKeyLit (.int .i64 k) := by trivial

theorem PD.put {D : DataW Value} {pt : Int → Option Nat} (h : PD D pt) (hD : IsMap D) (k : Nat) (hk : k < 64) (g : Nat) : PD (D.put (.int .i64 k) (.held (ptrV (some g)))) (updI pt k (some g)) := by
  refine ⟨fun j => ?_, fun kl hkl => ?_⟩
  · unfold updI
    by_cases e : j = (k : Int)
    · subst e; rw [if_pos rfl, atKey_put_same hD (keyI _)]
    · rw [if_neg e, atKey_put_other (by simp [e])]
      exact h.at_ j
  · by_cases e : kl = .int .i64 k
    · exact ⟨k, g, e, hk, by unfold updI; rw [if_pos rfl]⟩
    · rw [has_put_other e] at hkl
      obtain ⟨j, g', hj, hl, hg⟩ := h.keys kl hkl
      refine ⟨j, g', hj, hl, ?_⟩
      unfold updI
      rw [if_neg (by rintro e2; exact e (by rw [hj, e2]))]
      exact hg
theorem PD.del {D : DataW Value} {pt : Int → Option Nat} (h : PD D pt) (k : Int) : PD (D.del (.int .i64 k)) (updI pt k none) := by
  refine ⟨fun j => ?_, fun kl hkl => ?_⟩
  · unfold updI
    by_cases e : j = k
    · subst e; rw [if_pos rfl, atKey_del_same]; rfl
    · rw [if_neg e, atKey_del_other (by simp [e])]
      exact h.at_ j
  · by_cases e : kl = .int .i64 k
    · rw [e, has_del_same] at hkl; cases hkl
    · rw [has_del_other e] at hkl
      obtain ⟨j, g', hj, hl, hg⟩ := h.keys kl hkl
      refine ⟨j, g', hj, hl, ?_⟩
      unfold updI
      rw [if_neg (by rintro e2; exact e (by rw [hj, e2]))]
      exact hg

theorem pigeon : ∀ (N : Nat) (es : List (Lit × DataW Value)), es.Pairwise (fun p q => p.1 ≠ q.1) → (∀ p ∈ es, ∃ k : Nat, p.1 = .int .i64 k ∧ k < N) → es.length ≤ N
  | 0, es, _, h => by
    cases es with
    | nil => simp
    | cons p r =>
      obtain ⟨k, _, hk⟩ := h p (by simp)
      omega
  | N + 1, es, hp, h => by
    have h1 := length_strike (k := .int .i64 (N : Int)) es hp
    have h2 := pigeon N (es.filter fun p => !p.1.sameKey (.int .i64 (N : Int))) (hp.filter _) (fun p hp' => by
      obtain ⟨hm, hs⟩ := List.mem_filter.1 hp'
      obtain ⟨k, hk, hl⟩ := h p hm
      refine ⟨k, hk, ?_⟩
      rcases Nat.lt_or_ge k N with h3 | h3
      · exact h3
      · have : k = N := by omega
        subst this
        rw [hk, WideAt.sameKey_self (keyI _)] at hs
        cases hs)
    split at h1 <;> omega

theorem own64 {w : World} {b m : Nat} {D : DataW Value} {pt : Int → Option Nat} (h : w.ownsMap Try.prog 3 R0 b m D) (hd : PD D pt) : w.ownsMap Try.prog 3 R0 b 64 D := by
  have hsz : Maps.size D ≤ 64 := by
    obtain ⟨es, rfl, hp, hk⟩ := h.entries law3
    refine pigeon 64 es hp fun p hpm => ?_
    have hh : Maps.has (DataW.map es) p.1 = true := List.any_eq_true.2 ⟨p, hpm, WideAt.sameKey_self (hk p hpm)⟩
    obtain ⟨k, g, hkl, hl, _⟩ := hd.keys _ hh
    exact ⟨k, hkl, hl⟩
  obtain ⟨es, clock, hb, F, _, rfl⟩ := h
  refine ⟨es, clock, hb, F, ?_, rfl⟩
  have e1 : Maps.size (DataW.map ((es.toList.map (WideElems.rg Try.prog 3 R0)).foldr DataW.insert [])) = es.size := by simp [Maps.size, length_sorted]
  omega

variable {w : World} {b : Nat} {pt : Int → Option Nat}

theorem PMap.lt (h : PMap w b pt) : b < w.heap.size := by obtain ⟨D, h1, _⟩ := h; exact h1.lt
theorem PMap.bound (h : PMap w b pt) {k : Int} {g : Nat} (e : pt k = some g) : ∃ j : Nat, k = j ∧ j < 64 := by obtain ⟨D, _, h2⟩ := h; exact h2.bound e
theorem PMap.of_block {w' : World} (h : PMap w b pt) (e : w'.heap[b]? = w.heap[b]?) : PMap w' b pt := by
  obtain ⟨D, ⟨es, clock, hb, r⟩, h2⟩ := h
  exact ⟨D, ⟨es, clock, e.trans hb, r⟩, h2⟩
theorem PMap.congr {pt' : Int → Option Nat} (h : PMap w b pt) (e : ∀ k, pt k = pt' k) : PMap w b pt' := (funext e : pt = pt') ▸ h
theorem pmap_made (w : World) : PMap (w.alloc (.map #[] 0)) w.heap.size (fun _ => none) :=
  ⟨.map [], (World.ownsMap_made w Try.prog 3 R0).mono (by omega), ⟨fun _ => rfl, fun _ h => by cases h⟩⟩
theorem PMap.not_cells (h : PMap w b pt) {g T : Nat} {cs : Array Value} {fr : Nat × Nat} (hg : w.heap[g]? = some (.cells cs T fr)) : g ≠ b := by
  rintro rfl
  obtain ⟨D, ⟨es, clock, hb, _⟩, _⟩ := h
  rw [hg] at hb
  cases hb

theorem keyOk {k : Int} (hk : (Lit.int .i64 k).wf = true) : keyOf Try.prog 3 (.int .i64 k) = some (.int .i64 k) := keyOf_int_mk Try.underlying3 hk

/-- 'm[k]'. -/
theorem PMap.look (h : PMap w b pt) (k : Int) (hk : (Lit.int .i64 k).wf = true) : (Instr.lookup 68 (.map (some b)) (.int .i64 k) false).run Try.prog w = .ok (ptrV (pt k)) w := by
  obtain ⟨D, h1, h2⟩ := h
  obtain ⟨v, ps, hrun, hv⟩ := h1.lookup law3 Try.underlying68 (zeroE w) (zd := .held (.pointer none)) (zp := []) rfl (keyOk hk)
  have hv' : (DataW.held v, ([] : List MemPlace)) = (D.atKey (.int .i64 k) (.held (.pointer none)), ps) := Option.some.inj hv
  have e := congrArg Prod.fst hv'
  rw [h2.at_ k] at e
  have e2 : v = ptrV (pt k) := by
    have : DataW.held v = DataW.held (ptrV (pt k)) := e
    injection this
  rw [hrun, e2]

theorem PMap.look_some (h : PMap w b pt) (k : Int) (hk : (Lit.int .i64 k).wf = true) {g : Nat} (e : pt k = some g) : (Instr.lookup 68 (.map (some b)) (.int .i64 k) false).run Try.prog w = .ok (.pointer (some ⟨g, 0, none⟩)) w := by
  rw [h.look k hk, e]; rfl
theorem PMap.look_none (h : PMap w b pt) (k : Int) (hk : (Lit.int .i64 k).wf = true) (e : pt k = none) : (Instr.lookup 68 (.map (some b)) (.int .i64 k) false).run Try.prog w = .ok (.pointer none) w := by
  rw [h.look k hk, e]; rfl

section
variable {ops : Array Oper} {rest : List Oper} {o : Oper} {a : Act} {Q : Exit → Act → World → Prop}
theorem wpList_pmap_look (hg : o.guard = none) (m x : Operand) (hop : o.op = Op.lookup 68 m x false) (hm : a.eval m = .map (some b)) (h : PMap w b pt) (k : Int) (hk : (Lit.int .i64 k).wf = true) (hx : a.eval x = .int .i64 k) (v : Value) (e : ptrV (pt k) = v)
    (hK : wpList Try.prog ops Q rest (a.put o.dst v) w) : wpList Try.prog ops Q (o :: rest) a w := by
  refine wpList_plain hg fun K' hK' => ?_
  have hrun := h.look k hk
  rw [e] at hrun
  unfold Oper.wp
  simp [execOp, hop, hm, hx, hrun, Result.andThen]
  exact hK' _ _ hK
theorem wpList_pmap_store (hg : o.guard = none) (m x v : Operand) (hop : o.op = Op.mapUpdate 68 m x v) (hm : a.eval m = .map (some b)) (h : PMap w b pt) (k : Nat) (hk : k < 64) (hx : a.eval x = .int .i64 (k : Int)) (g : Nat) (hv : a.eval v = ptrV (some g))
    (hK : ∀ w', PMap w' b (updI pt k (some g)) → w.grownBy w' (some b) → w'.heap.size = w.heap.size → wpList Try.prog ops Q rest (a.put o.dst undef) w') :
    wpList Try.prog ops Q (o :: rest) a w := by
  obtain ⟨D, h1, h2⟩ := h
  refine wpList_mapUpdate_in w hg m x v 68 hop 3 74 law3 Try.underlying68 R0 b 64 D hm h1 (by unfold maxLen; omega) _ _ _ hx hv (keyOk (WalkArith.wf_i64 (by omega))) (.held (ptrV (some g))) [] rfl fun w' r1 r2 => ?_
  have hd := h2.put h1.isMap k hk g
  refine hK w' ⟨_, own64 r1 hd, hd⟩ r2.grown ?_
  obtain ⟨es, clock, es', clock', _, rfl⟩ := r2
  simp [ChangeMaps.setBlock]
theorem wpList_pmap_delete (hg : o.guard = none) (m x : Operand) (hop : o.op = Op.call { callee := Callee.builtin Builtin.delete, args := #[m, x], argTypes := #[68, 3] }) (hm : a.eval m = .map (some b)) (h : PMap w b pt) (k : Int) (hk : (Lit.int .i64 k).wf = true) (hx : a.eval x = .int .i64 k)
    (hK : ∀ w', PMap w' b (updI pt k none) → w.grownBy w' (some b) → w'.heap.size = w.heap.size → wpList Try.prog ops Q rest (a.put o.dst (.tuple #[])) w') :
    wpList Try.prog ops Q (o :: rest) a w := by
  obtain ⟨D, h1, h2⟩ := h
  refine wpList_delete_own w hg m x 68 3 hop 74 law3 Try.underlying68 R0 b 64 D hm h1 _ _ hx (keyOk hk) fun w' r1 r2 => ?_
  refine hK w' ⟨_, r1, h2.del k⟩ r2.grown ?_
  obtain ⟨es, clock, es', clock', _, rfl⟩ := r2
  simp [ChangeMaps.setBlock]
end
end Go.Proofs.Ytablmoegmmeglaa
