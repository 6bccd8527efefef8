/-
  No cell of these rows narrows 'for every input' (looked for: loops, veiled, ifaces, maps, wideKeys, modest, calm, conditions, laid).
  DERIVED. THE GIVEN ROWS OF THIS SEAT. 5 by the template 'for every input the law returns true; each argument reads behind the call as it read before'; 0 by the template 'total and deterministic' (their statements: YtibldmjnddppaaaTotals.lean).
  GIVEN WITH THE SEED: the statements are not yours to turn. If you find one false, say at which input.
  Laid BY PROGRAM, IN A SANDBOX (cutbox-rows.mjs): the forced cells as the released guide's own fill.sh prints them over the translation cd9493b3c8794167… (all of the seat's roots in one cut). By AI agents, Wed Nov 11 2026. No macro, syntax, notation, axiom, sorry.
-/
import Derived.Test.YtibldmjnddppaaaChecked
import GoSem.Claim
import GoSem.ClaimJoined
import GoSem.ClaimMapViews
import Derived.JoinedTies
import Derived.KernelRfl
namespace Go.Proofs.Ytibldmjnddppaaa
/- THE CELL 'sum', in the pinned program and in every row, IS THE sha256 OF THE DUMP (.gsa) THAT YtibldmjnddppaaaProg.lean LOADS. Nothing in Lean hashes anything: it is a label: what it is worth is what the hold of that sum in a sandbox is worth. -/
noncomputable def Try.pinned : Pinned := { name := "ytibldmjnddppaaa", sum := "cd9493b3c8794167bae7b5e9602afc2f2e40ce2d6a506cd028786ad5a51f014e", checked := Try.checked }
namespace Rows
def none {H : Type} : Left H := { results := [], args := [] }

/-- 'towpathlaw4.PointValid': WHATEVER THE INPUT: true; the input reads as it did. -/
def pointValidSpec : ChangeSpec := { name := "pointValid", fn := fun _ => fun
  | [d1, d2] => { results := [.lit (.bool true)], args := [d1, d2] }
  | _ => none }
def pointValidRow : OpenClaim := { program := "ytibldmjnddppaaa", sum := "cd9493b3c8794167bae7b5e9602afc2f2e40ce2d6a506cd028786ad5a51f014e", func := "towpath/towpathlaw4.PointValid", spec := "pointValid", inPlace := ["math/bits.Add64", "math/bits.Sub64"], apart := false }
def PointValidSaid : Prop := pointValidRow.holds Try.pinned (OpenSpec.ofChange pointValidSpec)

/-- ITS FALSE NEIGHBOUR: 'it returns false'. Refute it at one input. -/
def pointValidWrong : ChangeSpec := { name := "pointValid", fn := fun _ => fun
  | [d1, d2] => { results := [.lit (.bool false)], args := [d1, d2] }
  | _ => none }
def PointValidWrongFalsely : Prop := pointValidRow.holds Try.pinned (OpenSpec.ofChange pointValidWrong)

/-- 'towpathlaw4.PointSums': WHATEVER THE INPUT: true; the input reads as it did. -/
def pointSumsSpec : ChangeSpec := { name := "pointSums", fn := fun _ => fun
  | [d1, d2, d3] => { results := [.lit (.bool true)], args := [d1, d2, d3] }
  | _ => none }
def pointSumsRow : OpenClaim := { program := "ytibldmjnddppaaa", sum := "cd9493b3c8794167bae7b5e9602afc2f2e40ce2d6a506cd028786ad5a51f014e", func := "towpath/towpathlaw4.PointSums", spec := "pointSums", inPlace := ["math/bits.Add64", "math/bits.Sub64"], apart := false }
def PointSumsSaid : Prop := pointSumsRow.holds Try.pinned (OpenSpec.ofChange pointSumsSpec)

/-- ITS FALSE NEIGHBOUR: 'it returns false'. Refute it at one input. -/
def pointSumsWrong : ChangeSpec := { name := "pointSums", fn := fun _ => fun
  | [d1, d2, d3] => { results := [.lit (.bool false)], args := [d1, d2, d3] }
  | _ => none }
def PointSumsWrongFalsely : Prop := pointSumsRow.holds Try.pinned (OpenSpec.ofChange pointSumsWrong)

/-- 'towpathlaw4.PointGroup': WHATEVER THE INPUT: true; the input reads as it did. -/
def pointGroupSpec : ChangeSpec := { name := "pointGroup", fn := fun _ => fun
  | [d1, d2] => { results := [.lit (.bool true)], args := [d1, d2] }
  | _ => none }
def pointGroupRow : OpenClaim := { program := "ytibldmjnddppaaa", sum := "cd9493b3c8794167bae7b5e9602afc2f2e40ce2d6a506cd028786ad5a51f014e", func := "towpath/towpathlaw4.PointGroup", spec := "pointGroup", inPlace := ["math/bits.Add64", "math/bits.Sub64"], apart := false }
def PointGroupSaid : Prop := pointGroupRow.holds Try.pinned (OpenSpec.ofChange pointGroupSpec)

/-- ITS FALSE NEIGHBOUR: 'it returns false'. Refute it at one input. -/
def pointGroupWrong : ChangeSpec := { name := "pointGroup", fn := fun _ => fun
  | [d1, d2] => { results := [.lit (.bool false)], args := [d1, d2] }
  | _ => none }
def PointGroupWrongFalsely : Prop := pointGroupRow.holds Try.pinned (OpenSpec.ofChange pointGroupWrong)

/-- 'towpathlaw4.PointTimes': WHATEVER THE INPUT: true; the input reads as it did. -/
def pointTimesSpec : ChangeSpec := { name := "pointTimes", fn := fun _ => fun
  | [d1, d2] => { results := [.lit (.bool true)], args := [d1, d2] }
  | _ => none }
def pointTimesRow : OpenClaim := { program := "ytibldmjnddppaaa", sum := "cd9493b3c8794167bae7b5e9602afc2f2e40ce2d6a506cd028786ad5a51f014e", func := "towpath/towpathlaw4.PointTimes", spec := "pointTimes", inPlace := ["math/bits.Add64", "math/bits.Sub64"], apart := false }
def PointTimesSaid : Prop := pointTimesRow.holds Try.pinned (OpenSpec.ofChange pointTimesSpec)

/-- ITS FALSE NEIGHBOUR: 'it returns false'. Refute it at one input. -/
def pointTimesWrong : ChangeSpec := { name := "pointTimes", fn := fun _ => fun
  | [d1, d2] => { results := [.lit (.bool false)], args := [d1, d2] }
  | _ => none }
def PointTimesWrongFalsely : Prop := pointTimesRow.holds Try.pinned (OpenSpec.ofChange pointTimesWrong)

/-- 'towpathlaw4.PointNothing': WHATEVER THE INPUT: true; the input reads as it did. -/
def pointNothingSpec : ChangeSpec := { name := "pointNothing", fn := fun _ => fun
  | [d] => { results := [.lit (.bool true)], args := [d] }
  | _ => none }
def pointNothingRow : OpenClaim := { program := "ytibldmjnddppaaa", sum := "cd9493b3c8794167bae7b5e9602afc2f2e40ce2d6a506cd028786ad5a51f014e", func := "towpath/towpathlaw4.PointNothing", spec := "pointNothing", inPlace := ["math/bits.Add64", "math/bits.Sub64"], apart := false }
def PointNothingSaid : Prop := pointNothingRow.holds Try.pinned (OpenSpec.ofChange pointNothingSpec)

/-- ITS FALSE NEIGHBOUR: 'it returns false'. Refute it at one input. -/
def pointNothingWrong : ChangeSpec := { name := "pointNothing", fn := fun _ => fun
  | [d] => { results := [.lit (.bool false)], args := [d] }
  | _ => none }
def PointNothingWrongFalsely : Prop := pointNothingRow.holds Try.pinned (OpenSpec.ofChange pointNothingWrong)

/- THE SECOND FORM. 'bulk': how many values and letters a reading holds, each counted each time it is reached (what is shared counts as often as it is met; a slice's spare places count too). A statement '..UptoSaid' is the law's where the arguments, and the package variables that the reading takes, are together of bulk at most 1048576: NARROWER than '..Said'. Prove '..Said' where nothing that the law and all that it calls make is longer than what came in: it says more and counts as full. Else prove '..UptoSaid'. A law counts once. -/
mutual
def uptoBulk {H : Type} : DataW H → Nat
  | .lit (.string bytes) => bytes.length + 1
  | .lit _ => 1
  | .nil => 1
  | .ptr d => uptoBulk d + 1
  | .slice elems spare => uptoBulkAll elems + uptoBulkAll spare + 1
  | .agg parts => uptoBulkAll parts + 1
  | .iface _ d => uptoBulk d + 1
  | .map entries => uptoBulkEntries entries + 1
  | .held _ => 1
def uptoBulkAll {H : Type} : List (DataW H) → Nat
  | [] => 0
  | d :: r => uptoBulk d + uptoBulkAll r
def uptoBulkEntries {H : Type} : List (Lit × DataW H) → Nat
  | [] => 0
  | x :: r => uptoBulkEntry x + uptoBulkEntries r
def uptoBulkEntry {H : Type} : Lit × DataW H → Nat
  | (.string bytes, d) => bytes.length + uptoBulk d + 1
  | (_, d) => uptoBulk d + 1
 end
def uptoSmall : (H : Type) → List (DataW H) → Bool := fun _ ds => decide (uptoBulkAll ds ≤ 1048576)
def OpenSpec.upto (s : _root_.Go.ChangeSpec) : _root_.Go.OpenSpec := { _root_.Go.OpenSpec.ofChange s with cond := some uptoSmall }

/-- 'towpathlaw4.PointValid', WHERE WHAT IT READS IS OF BULK AT MOST 1048576: true; the input reads as it did. -/
def pointValidUptoRow : OpenClaim := { program := "ytibldmjnddppaaa", sum := "cd9493b3c8794167bae7b5e9602afc2f2e40ce2d6a506cd028786ad5a51f014e", func := "towpath/towpathlaw4.PointValid", spec := "pointValid", inPlace := ["math/bits.Add64", "math/bits.Sub64"], apart := false, narrowed := true }
def PointValidUptoSaid : Prop := pointValidUptoRow.holds Try.pinned (OpenSpec.upto pointValidSpec)

/-- 'towpathlaw4.PointSums', WHERE WHAT IT READS IS OF BULK AT MOST 1048576: true; the input reads as it did. -/
def pointSumsUptoRow : OpenClaim := { program := "ytibldmjnddppaaa", sum := "cd9493b3c8794167bae7b5e9602afc2f2e40ce2d6a506cd028786ad5a51f014e", func := "towpath/towpathlaw4.PointSums", spec := "pointSums", inPlace := ["math/bits.Add64", "math/bits.Sub64"], apart := false, narrowed := true }
def PointSumsUptoSaid : Prop := pointSumsUptoRow.holds Try.pinned (OpenSpec.upto pointSumsSpec)

/-- 'towpathlaw4.PointGroup', WHERE WHAT IT READS IS OF BULK AT MOST 1048576: true; the input reads as it did. -/
def pointGroupUptoRow : OpenClaim := { program := "ytibldmjnddppaaa", sum := "cd9493b3c8794167bae7b5e9602afc2f2e40ce2d6a506cd028786ad5a51f014e", func := "towpath/towpathlaw4.PointGroup", spec := "pointGroup", inPlace := ["math/bits.Add64", "math/bits.Sub64"], apart := false, narrowed := true }
def PointGroupUptoSaid : Prop := pointGroupUptoRow.holds Try.pinned (OpenSpec.upto pointGroupSpec)

/-- 'towpathlaw4.PointTimes', WHERE WHAT IT READS IS OF BULK AT MOST 1048576: true; the input reads as it did. -/
def pointTimesUptoRow : OpenClaim := { program := "ytibldmjnddppaaa", sum := "cd9493b3c8794167bae7b5e9602afc2f2e40ce2d6a506cd028786ad5a51f014e", func := "towpath/towpathlaw4.PointTimes", spec := "pointTimes", inPlace := ["math/bits.Add64", "math/bits.Sub64"], apart := false, narrowed := true }
def PointTimesUptoSaid : Prop := pointTimesUptoRow.holds Try.pinned (OpenSpec.upto pointTimesSpec)

/-- 'towpathlaw4.PointNothing', WHERE WHAT IT READS IS OF BULK AT MOST 1048576: true; the input reads as it did. -/
def pointNothingUptoRow : OpenClaim := { program := "ytibldmjnddppaaa", sum := "cd9493b3c8794167bae7b5e9602afc2f2e40ce2d6a506cd028786ad5a51f014e", func := "towpath/towpathlaw4.PointNothing", spec := "pointNothing", inPlace := ["math/bits.Add64", "math/bits.Sub64"], apart := false, narrowed := true }
def PointNothingUptoSaid : Prop := pointNothingUptoRow.holds Try.pinned (OpenSpec.upto pointNothingSpec)

end Rows
end Go.Proofs.Ytibldmjnddppaaa
