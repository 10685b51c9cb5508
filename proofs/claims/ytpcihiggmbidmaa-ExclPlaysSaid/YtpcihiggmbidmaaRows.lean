/-
  No cell of these rows narrows 'for every input' (looked for: loops, veiled, ifaces, maps, wideKeys, modest, calm, conditions, laid).
  DERIVED. THE GIVEN ROWS OF THIS SEAT. 4 by the template 'for every input the law returns true; each argument reads behind the call as it read before'; 0 by the template 'total and deterministic' (their statements: YtpcihiggmbidmaaTotals.lean).
  GIVEN WITH THE SEED: the statements are not yours to turn. If you find one false, say at which input.
  Laid BY PROGRAM, IN A SANDBOX (cutbox-rows.mjs): the forced cells as the released guide's own fill.sh prints them over the translation ec8eeb40dadca95b… (all of the seat's roots in one cut). By AI agents, Wed Nov 11 2026. No macro, syntax, notation, axiom, sorry.
-/
import Derived.Test.YtpcihiggmbidmaaChecked
import GoSem.Claim
import GoSem.ClaimJoined
import GoSem.ClaimMapViews
import Derived.JoinedTies
import Derived.KernelRfl
namespace Go.Proofs.Ytpcihiggmbidmaa
/- THE CELL 'sum', in the pinned program and in every row, IS THE sha256 OF THE DUMP (.gsa) THAT YtpcihiggmbidmaaProg.lean LOADS. Nothing in Lean hashes anything: it is a label: what it is worth is what the hold of that sum in a sandbox is worth. -/
noncomputable def Try.pinned : Pinned := { name := "ytpcihiggmbidmaa", sum := "ec8eeb40dadca95bbf685a61f5a5ba812c70fdf5e6e6d9eaa5d9c5f8751bf755", checked := Try.checked }
namespace Rows
def none {H : Type} : Left H := { results := [], args := [] }

/-- 'tenementlaw10.ExclAlone': WHATEVER THE INPUT: true; the input reads as it did. -/
def exclAloneSpec : ChangeSpec := { name := "exclAlone", fn := fun _ => fun
  | [d1, d2, d3, d4, d5] => { results := [.lit (.bool true)], args := [d1, d2, d3, d4, d5] }
  | _ => none }
def exclAloneRow : OpenClaim := { program := "ytpcihiggmbidmaa", sum := "ec8eeb40dadca95bbf685a61f5a5ba812c70fdf5e6e6d9eaa5d9c5f8751bf755", func := "tenement/tenementlaw10.ExclAlone", spec := "exclAlone", unfollowed := true, recurses := true, apart := false }
def ExclAloneSaid : Prop := exclAloneRow.holds Try.pinned (OpenSpec.ofChange exclAloneSpec)

/-- ITS FALSE NEIGHBOUR: 'it returns false'. Refute it at one input. -/
def exclAloneWrong : ChangeSpec := { name := "exclAlone", fn := fun _ => fun
  | [d1, d2, d3, d4, d5] => { results := [.lit (.bool false)], args := [d1, d2, d3, d4, d5] }
  | _ => none }
def ExclAloneWrongFalsely : Prop := exclAloneRow.holds Try.pinned (OpenSpec.ofChange exclAloneWrong)

/-- 'tenementlaw10.ExclOnce': WHATEVER THE INPUT: true; the input reads as it did. -/
def exclOnceSpec : ChangeSpec := { name := "exclOnce", fn := fun _ => fun
  | [d] => { results := [.lit (.bool true)], args := [d] }
  | _ => none }
def exclOnceRow : OpenClaim := { program := "ytpcihiggmbidmaa", sum := "ec8eeb40dadca95bbf685a61f5a5ba812c70fdf5e6e6d9eaa5d9c5f8751bf755", func := "tenement/tenementlaw10.ExclOnce", spec := "exclOnce", unfollowed := true, recurses := true, apart := false }
def ExclOnceSaid : Prop := exclOnceRow.holds Try.pinned (OpenSpec.ofChange exclOnceSpec)

/-- ITS FALSE NEIGHBOUR: 'it returns false'. Refute it at one input. -/
def exclOnceWrong : ChangeSpec := { name := "exclOnce", fn := fun _ => fun
  | [d] => { results := [.lit (.bool false)], args := [d] }
  | _ => none }
def ExclOnceWrongFalsely : Prop := exclOnceRow.holds Try.pinned (OpenSpec.ofChange exclOnceWrong)

/-- 'tenementlaw10.ExclPlays': WHATEVER THE INPUT: true; the input reads as it did. -/
def exclPlaysSpec : ChangeSpec := { name := "exclPlays", fn := fun _ => fun
  | [d1, d2] => { results := [.lit (.bool true)], args := [d1, d2] }
  | _ => none }
def exclPlaysRow : OpenClaim := { program := "ytpcihiggmbidmaa", sum := "ec8eeb40dadca95bbf685a61f5a5ba812c70fdf5e6e6d9eaa5d9c5f8751bf755", func := "tenement/tenementlaw10.ExclPlays", spec := "exclPlays", unfollowed := true, recurses := true, apart := false }
def ExclPlaysSaid : Prop := exclPlaysRow.holds Try.pinned (OpenSpec.ofChange exclPlaysSpec)

/-- ITS FALSE NEIGHBOUR: 'it returns false'. Refute it at one input. -/
def exclPlaysWrong : ChangeSpec := { name := "exclPlays", fn := fun _ => fun
  | [d1, d2] => { results := [.lit (.bool false)], args := [d1, d2] }
  | _ => none }
def ExclPlaysWrongFalsely : Prop := exclPlaysRow.holds Try.pinned (OpenSpec.ofChange exclPlaysWrong)

/-- 'tenementlaw10.ExclNil': WHATEVER THE INPUT: true; the input reads as it did. -/
def exclNilSpec : ChangeSpec := { name := "exclNil", fn := fun _ => fun
  | [d1, d2, d3] => { results := [.lit (.bool true)], args := [d1, d2, d3] }
  | _ => none }
def exclNilRow : OpenClaim := { program := "ytpcihiggmbidmaa", sum := "ec8eeb40dadca95bbf685a61f5a5ba812c70fdf5e6e6d9eaa5d9c5f8751bf755", func := "tenement/tenementlaw10.ExclNil", spec := "exclNil", unfollowed := true, recurses := true, apart := false }
def ExclNilSaid : Prop := exclNilRow.holds Try.pinned (OpenSpec.ofChange exclNilSpec)

/-- ITS FALSE NEIGHBOUR: 'it returns false'. Refute it at one input. -/
def exclNilWrong : ChangeSpec := { name := "exclNil", fn := fun _ => fun
  | [d1, d2, d3] => { results := [.lit (.bool false)], args := [d1, d2, d3] }
  | _ => none }
def ExclNilWrongFalsely : Prop := exclNilRow.holds Try.pinned (OpenSpec.ofChange exclNilWrong)

/- THE SECOND FORM. 'bulk': how many values and letters a reading holds, each counted each time it is reached (what is shared counts as often as it is met; a slice's spare places count too). A statement '..UptoSaid' is the law's where the arguments, and the package variables that the reading takes, are together of bulk at most 1048576: NARROWER than '..Said'. Prove '..Said' where nothing that the law and all that it calls make is longer than what came in: it says more and counts as full. Else prove '..UptoSaid'. A law counts once. -/
mutual
def uptoBulk {H : Type} : DataW H → Nat
  | .lit (.string bytes) => bytes.length + 1
  | .lit _ => 1
  | .nil => 1
  | .ptr d => uptoBulk d + 1
  | .slice elems spare => uptoBulkAll elems + uptoBulkAll spare + 1
  | .agg parts => uptoBulkAll parts + 1
  | .iface _ d => uptoBulk d + 1
  | .map entries => uptoBulkEntries entries + 1
  | .held _ => 1
def uptoBulkAll {H : Type} : List (DataW H) → Nat
  | [] => 0
  | d :: r => uptoBulk d + uptoBulkAll r
def uptoBulkEntries {H : Type} : List (Lit × DataW H) → Nat
  | [] => 0
  | x :: r => uptoBulkEntry x + uptoBulkEntries r
def uptoBulkEntry {H : Type} : Lit × DataW H → Nat
  | (.string bytes, d) => bytes.length + uptoBulk d + 1
  | (_, d) => uptoBulk d + 1
 end
def uptoSmall : (H : Type) → List (DataW H) → Bool := fun _ ds => decide (uptoBulkAll ds ≤ 1048576)
def OpenSpec.upto (s : _root_.Go.ChangeSpec) : _root_.Go.OpenSpec := { _root_.Go.OpenSpec.ofChange s with cond := some uptoSmall }

/-- 'tenementlaw10.ExclAlone', WHERE WHAT IT READS IS OF BULK AT MOST 1048576: true; the input reads as it did. -/
def exclAloneUptoRow : OpenClaim := { program := "ytpcihiggmbidmaa", sum := "ec8eeb40dadca95bbf685a61f5a5ba812c70fdf5e6e6d9eaa5d9c5f8751bf755", func := "tenement/tenementlaw10.ExclAlone", spec := "exclAlone", unfollowed := true, recurses := true, apart := false, narrowed := true }
def ExclAloneUptoSaid : Prop := exclAloneUptoRow.holds Try.pinned (OpenSpec.upto exclAloneSpec)

/-- 'tenementlaw10.ExclOnce', WHERE WHAT IT READS IS OF BULK AT MOST 1048576: true; the input reads as it did. -/
def exclOnceUptoRow : OpenClaim := { program := "ytpcihiggmbidmaa", sum := "ec8eeb40dadca95bbf685a61f5a5ba812c70fdf5e6e6d9eaa5d9c5f8751bf755", func := "tenement/tenementlaw10.ExclOnce", spec := "exclOnce", unfollowed := true, recurses := true, apart := false, narrowed := true }
def ExclOnceUptoSaid : Prop := exclOnceUptoRow.holds Try.pinned (OpenSpec.upto exclOnceSpec)

/-- 'tenementlaw10.ExclPlays', WHERE WHAT IT READS IS OF BULK AT MOST 1048576: true; the input reads as it did. -/
def exclPlaysUptoRow : OpenClaim := { program := "ytpcihiggmbidmaa", sum := "ec8eeb40dadca95bbf685a61f5a5ba812c70fdf5e6e6d9eaa5d9c5f8751bf755", func := "tenement/tenementlaw10.ExclPlays", spec := "exclPlays", unfollowed := true, recurses := true, apart := false, narrowed := true }
def ExclPlaysUptoSaid : Prop := exclPlaysUptoRow.holds Try.pinned (OpenSpec.upto exclPlaysSpec)

/-- 'tenementlaw10.ExclNil', WHERE WHAT IT READS IS OF BULK AT MOST 1048576: true; the input reads as it did. -/
def exclNilUptoRow : OpenClaim := { program := "ytpcihiggmbidmaa", sum := "ec8eeb40dadca95bbf685a61f5a5ba812c70fdf5e6e6d9eaa5d9c5f8751bf755", func := "tenement/tenementlaw10.ExclNil", spec := "exclNil", unfollowed := true, recurses := true, apart := false, narrowed := true }
def ExclNilUptoSaid : Prop := exclNilUptoRow.holds Try.pinned (OpenSpec.upto exclNilSpec)

end Rows
end Go.Proofs.Ytpcihiggmbidmaa
