/- A row of asks that came in; great; a row of asks played on a giver. -/
import Derived.Test.YtbehdccjiodlpaaAskA
namespace Go.Proofs.Ytbehdccjiodlpaa
open Go.RowKit
variable {w : World} {G n : Nat} {a : Int} {h : Nat → Int}

/-- An ask: its kind, its space, who runs. -/
structure One where
  kd : Int
  sp : Int
  A : Option Addr
  l : Nat
  c : Nat
  z : Nat → Int
def One.ok (w : World) (B : Nat) (x : One) : Prop := (-9223372036854775808 ≤ x.sp ∧ x.sp ≤ 9223372036854775807) ∧ (∀ i, -9223372036854775808 ≤ x.z i ∧ x.z i ≤ 9223372036854775807) ∧ Elems w B x.A x.l (fun i => .int .i64 (x.z i))
def One.cell (x : One) : Nat → Value
  | 0 => .int .i64 x.kd
  | 1 => .int .i64 x.sp
  | _ => .slice x.A x.l x.c
def Asks (w : World) (B : Nat) (A : Option Addr) (n : Nat) (X : Nat → One) : Prop :=
  0 < n → ∃ b off, A = some ⟨b, off, none⟩ ∧ b < B ∧ ∀ i, i < n → (∀ j, j < 3 → w.cell? ⟨b, off + i * 3 + j, none⟩ = some ((X i).cell j)) ∧ (X i).ok w B

def Great (w : World) (len : Nat) (X : Nat → One) (e : Ending) (w' : World) : Prop :=
  w' = w ∧ ∃ b, e = .returned (.bool b) ∧ (b = false → len ≤ 200 ∧ ∀ i, i < len → (X i).l ≤ 20)
set_option maxHeartbeats 400000 in
theorem great_any (A : Option Addr) (len cap : Nat) (X : Nat → One) (hl : Asks w w.heap.size A len X) : Calls Try.prog 8 #[.slice A len cap] w (Great w len X) := by
  have HL := Lib.hid hl
  clear hl
  go_enter Try.func8, Try.ntmps8
  go_wp2_with fail
  go_loopw [6] (fun i wr => ∃ q : Nat, q ≤ len ∧ i = .int .i64 q ∧ wr = w ∧ q ≤ 200 ∧ ∀ i, i < q → (X i).l ≤ 20) (fun i _ => len - (intOf i).toNat)
  case atStart => exact ⟨0, by omega, rfl, rfl, by omega, fun i hi => by omega⟩
  case round =>
    obtain ⟨q, hq, rfl, rfl, h200, hall⟩ := hrel
    have HALL := Lib.hid hall
    clear hall
    by_cases hql : (q : Int) < len
    · obtain ⟨b, off, rfl, hbw, hcell⟩ := HL.out (by omega)
      have hc := (hcell q (by omega)).1 2 (by omega)
      have hc2 : wr.cell? ⟨b, off + q * 3 + 2, none⟩ = some (.slice (X q).A (X q).l (X q).c) := hc
      clear hcell hc
      by_cases hq2 : (q : Int) ≥ 200
      · go_wp2_with fail
        go_ret
        exact ⟨rfl, true, rfl, fun c => by cases c⟩
      · by_cases hlr : (20 : Int) < (X q).l
        · go_wp2_with fail
          go_ret
          exact ⟨rfl, true, rfl, fun c => by cases c⟩
        · have HLR := Lib.hid hlr
          go_wp2_with fail
          go_roundw
          case rel => exact ⟨q + 1, by omega, by go_num, trivial, by omega, fun i hi => by
            by_cases e : i = q
            · subst e; have := HLR.out; omega
            · exact HALL.out i (by omega)⟩
          case measure => simp [intOf]; omega
    · have hqe : q = len := by omega
      subst hqe
      go_wp2_with fail
      go_ret
      exact ⟨rfl, false, rfl, fun _ => ⟨h200, HALL.out⟩⟩
end Go.Proofs.Ytbehdccjiodlpaa
