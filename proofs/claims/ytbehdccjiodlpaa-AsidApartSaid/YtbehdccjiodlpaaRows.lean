/-
  No cell of these rows narrows 'for every input' (looked for: loops, veiled, ifaces, maps, wideKeys, modest, calm, conditions, laid).
  DERIVED. THE GIVEN ROWS OF THIS SEAT. 4 by the template 'for every input the law returns true; each argument reads behind the call as it read before'; 0 by the template 'total and deterministic' (their statements: YtbehdccjiodlpaaTotals.lean).
  GIVEN WITH THE SEED: the statements are not yours to turn. If you find one false, say at which input.
  Laid BY PROGRAM, IN A SANDBOX (cutbox-rows.mjs): the forced cells as the released guide's own fill.sh prints them over the translation 998570df1047bae2… (all of the seat's roots in one cut). By AI agents, Wed Nov 11 2026. No macro, syntax, notation, axiom, sorry.
-/
import Derived.Test.YtbehdccjiodlpaaChecked
import GoSem.Claim
import GoSem.ClaimJoined
import GoSem.ClaimMapViews
import Derived.JoinedTies
import Derived.KernelRfl
namespace Go.Proofs.Ytbehdccjiodlpaa
/- THE CELL 'sum', in the pinned program and in every row, IS THE sha256 OF THE DUMP (.gsa) THAT YtbehdccjiodlpaaProg.lean LOADS. Nothing in Lean hashes anything: it is a label: what it is worth is what the hold of that sum in a sandbox is worth. -/
noncomputable def Try.pinned : Pinned := { name := "ytbehdccjiodlpaa", sum := "998570df1047bae26472a21017fd5ec0cc4cf764d5da5841b780d2b12794aca2", checked := Try.checked }
namespace Rows
def none {H : Type} : Left H := { results := [], args := [] }

/-- 'tenementlaw17.AsidApart': WHATEVER THE INPUT: true; the input reads as it did. -/
def asidApartSpec : ChangeSpec := { name := "asidApart", fn := fun _ => fun
  | [d1, d2] => { results := [.lit (.bool true)], args := [d1, d2] }
  | _ => none }
def asidApartRow : OpenClaim := { program := "ytbehdccjiodlpaa", sum := "998570df1047bae26472a21017fd5ec0cc4cf764d5da5841b780d2b12794aca2", func := "tenement/tenementlaw17.AsidApart", spec := "asidApart", inPlace := ["sync/atomic.StoreInt64", "sync/atomic.AddInt64", "sync/atomic.LoadInt64"], apart := false }
def AsidApartSaid : Prop := asidApartRow.holds Try.pinned (OpenSpec.ofChange asidApartSpec)

/-- ITS FALSE NEIGHBOUR: 'it returns false'. Refute it at one input. -/
def asidApartWrong : ChangeSpec := { name := "asidApart", fn := fun _ => fun
  | [d1, d2] => { results := [.lit (.bool false)], args := [d1, d2] }
  | _ => none }
def AsidApartWrongFalsely : Prop := asidApartRow.holds Try.pinned (OpenSpec.ofChange asidApartWrong)

/-- 'tenementlaw17.AsidSame': WHATEVER THE INPUT: true; the input reads as it did. -/
def asidSameSpec : ChangeSpec := { name := "asidSame", fn := fun _ => fun
  | [d1, d2, d3] => { results := [.lit (.bool true)], args := [d1, d2, d3] }
  | _ => none }
def asidSameRow : OpenClaim := { program := "ytbehdccjiodlpaa", sum := "998570df1047bae26472a21017fd5ec0cc4cf764d5da5841b780d2b12794aca2", func := "tenement/tenementlaw17.AsidSame", spec := "asidSame", inPlace := ["sync/atomic.StoreInt64", "sync/atomic.AddInt64", "sync/atomic.LoadInt64"], apart := false }
def AsidSameSaid : Prop := asidSameRow.holds Try.pinned (OpenSpec.ofChange asidSameSpec)

/-- ITS FALSE NEIGHBOUR: 'it returns false'. Refute it at one input. -/
def asidSameWrong : ChangeSpec := { name := "asidSame", fn := fun _ => fun
  | [d1, d2, d3] => { results := [.lit (.bool false)], args := [d1, d2, d3] }
  | _ => none }
def AsidSameWrongFalsely : Prop := asidSameRow.holds Try.pinned (OpenSpec.ofChange asidSameWrong)

/-- 'tenementlaw17.AsidPlays': WHATEVER THE INPUT: true; the input reads as it did. -/
def asidPlaysSpec : ChangeSpec := { name := "asidPlays", fn := fun _ => fun
  | [d1, d2] => { results := [.lit (.bool true)], args := [d1, d2] }
  | _ => none }
def asidPlaysRow : OpenClaim := { program := "ytbehdccjiodlpaa", sum := "998570df1047bae26472a21017fd5ec0cc4cf764d5da5841b780d2b12794aca2", func := "tenement/tenementlaw17.AsidPlays", spec := "asidPlays", inPlace := ["sync/atomic.StoreInt64", "sync/atomic.AddInt64", "sync/atomic.LoadInt64"], apart := false }
def AsidPlaysSaid : Prop := asidPlaysRow.holds Try.pinned (OpenSpec.ofChange asidPlaysSpec)

/-- ITS FALSE NEIGHBOUR: 'it returns false'. Refute it at one input. -/
def asidPlaysWrong : ChangeSpec := { name := "asidPlays", fn := fun _ => fun
  | [d1, d2] => { results := [.lit (.bool false)], args := [d1, d2] }
  | _ => none }
def AsidPlaysWrongFalsely : Prop := asidPlaysRow.holds Try.pinned (OpenSpec.ofChange asidPlaysWrong)

/-- 'tenementlaw17.AsidNil': WHATEVER THE INPUT: true; the input reads as it did. -/
def asidNilSpec : ChangeSpec := { name := "asidNil", fn := fun _ => fun
  | [d] => { results := [.lit (.bool true)], args := [d] }
  | _ => none }
def asidNilRow : OpenClaim := { program := "ytbehdccjiodlpaa", sum := "998570df1047bae26472a21017fd5ec0cc4cf764d5da5841b780d2b12794aca2", func := "tenement/tenementlaw17.AsidNil", spec := "asidNil", inPlace := ["sync/atomic.AddInt64", "sync/atomic.LoadInt64", "sync/atomic.StoreInt64"], apart := false }
def AsidNilSaid : Prop := asidNilRow.holds Try.pinned (OpenSpec.ofChange asidNilSpec)

/-- ITS FALSE NEIGHBOUR: 'it returns false'. Refute it at one input. -/
def asidNilWrong : ChangeSpec := { name := "asidNil", fn := fun _ => fun
  | [d] => { results := [.lit (.bool false)], args := [d] }
  | _ => none }
def AsidNilWrongFalsely : Prop := asidNilRow.holds Try.pinned (OpenSpec.ofChange asidNilWrong)

/- THE SECOND FORM. 'bulk': how many values and letters a reading holds, each counted each time it is reached (what is shared counts as often as it is met; a slice's spare places count too). A statement '..UptoSaid' is the law's where the arguments, and the package variables that the reading takes, are together of bulk at most 1048576: NARROWER than '..Said'. Prove '..Said' where nothing that the law and all that it calls make is longer than what came in: it says more and counts as full. Else prove '..UptoSaid'. A law counts once. -/
mutual
def uptoBulk {H : Type} : DataW H → Nat
  | .lit (.string bytes) => bytes.length + 1
  | .lit _ => 1
  | .nil => 1
  | .ptr d => uptoBulk d + 1
  | .slice elems spare => uptoBulkAll elems + uptoBulkAll spare + 1
  | .agg parts => uptoBulkAll parts + 1
  | .iface _ d => uptoBulk d + 1
  | .map entries => uptoBulkEntries entries + 1
  | .held _ => 1
def uptoBulkAll {H : Type} : List (DataW H) → Nat
  | [] => 0
  | d :: r => uptoBulk d + uptoBulkAll r
def uptoBulkEntries {H : Type} : List (Lit × DataW H) → Nat
  | [] => 0
  | x :: r => uptoBulkEntry x + uptoBulkEntries r
def uptoBulkEntry {H : Type} : Lit × DataW H → Nat
  | (.string bytes, d) => bytes.length + uptoBulk d + 1
  | (_, d) => uptoBulk d + 1
 end
def uptoSmall : (H : Type) → List (DataW H) → Bool := fun _ ds => decide (uptoBulkAll ds ≤ 1048576)
def OpenSpec.upto (s : _root_.Go.ChangeSpec) : _root_.Go.OpenSpec := { _root_.Go.OpenSpec.ofChange s with cond := some uptoSmall }

/-- 'tenementlaw17.AsidApart', WHERE WHAT IT READS IS OF BULK AT MOST 1048576: true; the input reads as it did. -/
def asidApartUptoRow : OpenClaim := { program := "ytbehdccjiodlpaa", sum := "998570df1047bae26472a21017fd5ec0cc4cf764d5da5841b780d2b12794aca2", func := "tenement/tenementlaw17.AsidApart", spec := "asidApart", inPlace := ["sync/atomic.StoreInt64", "sync/atomic.AddInt64", "sync/atomic.LoadInt64"], apart := false, narrowed := true }
def AsidApartUptoSaid : Prop := asidApartUptoRow.holds Try.pinned (OpenSpec.upto asidApartSpec)

/-- 'tenementlaw17.AsidSame', WHERE WHAT IT READS IS OF BULK AT MOST 1048576: true; the input reads as it did. -/
def asidSameUptoRow : OpenClaim := { program := "ytbehdccjiodlpaa", sum := "998570df1047bae26472a21017fd5ec0cc4cf764d5da5841b780d2b12794aca2", func := "tenement/tenementlaw17.AsidSame", spec := "asidSame", inPlace := ["sync/atomic.StoreInt64", "sync/atomic.AddInt64", "sync/atomic.LoadInt64"], apart := false, narrowed := true }
def AsidSameUptoSaid : Prop := asidSameUptoRow.holds Try.pinned (OpenSpec.upto asidSameSpec)

/-- 'tenementlaw17.AsidPlays', WHERE WHAT IT READS IS OF BULK AT MOST 1048576: true; the input reads as it did. -/
def asidPlaysUptoRow : OpenClaim := { program := "ytbehdccjiodlpaa", sum := "998570df1047bae26472a21017fd5ec0cc4cf764d5da5841b780d2b12794aca2", func := "tenement/tenementlaw17.AsidPlays", spec := "asidPlays", inPlace := ["sync/atomic.StoreInt64", "sync/atomic.AddInt64", "sync/atomic.LoadInt64"], apart := false, narrowed := true }
def AsidPlaysUptoSaid : Prop := asidPlaysUptoRow.holds Try.pinned (OpenSpec.upto asidPlaysSpec)

/-- 'tenementlaw17.AsidNil', WHERE WHAT IT READS IS OF BULK AT MOST 1048576: true; the input reads as it did. -/
def asidNilUptoRow : OpenClaim := { program := "ytbehdccjiodlpaa", sum := "998570df1047bae26472a21017fd5ec0cc4cf764d5da5841b780d2b12794aca2", func := "tenement/tenementlaw17.AsidNil", spec := "asidNil", inPlace := ["sync/atomic.AddInt64", "sync/atomic.LoadInt64", "sync/atomic.StoreInt64"], apart := false, narrowed := true }
def AsidNilUptoSaid : Prop := asidNilUptoRow.holds Try.pinned (OpenSpec.upto asidNilSpec)

end Rows
end Go.Proofs.Ytbehdccjiodlpaa
