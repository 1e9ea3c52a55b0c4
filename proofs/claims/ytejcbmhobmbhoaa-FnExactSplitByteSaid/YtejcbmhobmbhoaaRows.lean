/-
  NARROWER THAN 'FOR EVERY INPUT', by the rows' own cells (each row's printed sentence says how): FnExactSizeOfType: loops · FnExactDepthOfType: loops.
  DERIVED. THE GIVEN ROWS OF THIS SEAT. 12 by the template 'for every input the law returns true; each argument reads behind the call as it read before'; 0 by the template 'total and deterministic' (their statements: YtejcbmhobmbhoaaTotals.lean).
  GIVEN WITH THE SEED: the statements are not yours to turn. If you find one false, say at which input.
  Laid BY PROGRAM, IN A SANDBOX (cutbox-rows.mjs): the forced cells as the released guide's own fill.sh prints them over the translation d3ad36654e170210… (all of the seat's roots in one cut). By AI agents, Wed Nov 11 2026. No macro, syntax, notation, axiom, sorry.
-/
import Derived.Test.YtejcbmhobmbhoaaChecked
import GoSem.Claim
import GoSem.ClaimJoined
import GoSem.ClaimMapViews
import Derived.JoinedTies
import Derived.KernelRfl
namespace Go.Proofs.Ytejcbmhobmbhoaa
/- THE CELL 'sum', in the pinned program and in every row, IS THE sha256 OF THE DUMP (.gsa) THAT YtejcbmhobmbhoaaProg.lean LOADS. Nothing in Lean hashes anything: it is a label: what it is worth is what the hold of that sum in a sandbox is worth. -/
noncomputable def Try.pinned : Pinned := { name := "ytejcbmhobmbhoaa", sum := "d3ad36654e1702104d75ca5ee92fd4a95ca48ef3a9f15b43a67b85d7cb5e9172", checked := Try.checked }
namespace Rows
def none {H : Type} : Left H := { results := [], args := [] }

/-- 'laws.FnExactConstants': WHATEVER THE INPUT: true; the input reads as it did. -/
def fnExactConstantsSpec : ChangeSpec := { name := "fnExactConstants", fn := fun _ => fun
  | [] => { results := [.lit (.bool true)], args := [] }
  | _ => none }
def fnExactConstantsRow : OpenClaim := { program := "ytejcbmhobmbhoaa", sum := "d3ad36654e1702104d75ca5ee92fd4a95ca48ef3a9f15b43a67b85d7cb5e9172", func := "loop.example/g00585/laws.FnExactConstants", spec := "fnExactConstants", apart := false }
def FnExactConstantsSaid : Prop := fnExactConstantsRow.holds Try.pinned (OpenSpec.ofChange fnExactConstantsSpec)

/-- ITS FALSE NEIGHBOUR: 'it returns false'. Refute it at one input. -/
def fnExactConstantsWrong : ChangeSpec := { name := "fnExactConstants", fn := fun _ => fun
  | [] => { results := [.lit (.bool false)], args := [] }
  | _ => none }
def FnExactConstantsWrongFalsely : Prop := fnExactConstantsRow.holds Try.pinned (OpenSpec.ofChange fnExactConstantsWrong)

/-- 'laws.FnExactIsName': WHATEVER THE INPUT: true; the input reads as it did. -/
def fnExactIsNameSpec : ChangeSpec := { name := "fnExactIsName", fn := fun _ => fun
  | [d] => { results := [.lit (.bool true)], args := [d] }
  | _ => none }
def fnExactIsNameRow : OpenClaim := { program := "ytejcbmhobmbhoaa", sum := "d3ad36654e1702104d75ca5ee92fd4a95ca48ef3a9f15b43a67b85d7cb5e9172", func := "loop.example/g00585/laws.FnExactIsName", spec := "fnExactIsName", apart := false }
def FnExactIsNameSaid : Prop := fnExactIsNameRow.holds Try.pinned (OpenSpec.ofChange fnExactIsNameSpec)

/-- ITS FALSE NEIGHBOUR: 'it returns false'. Refute it at one input. -/
def fnExactIsNameWrong : ChangeSpec := { name := "fnExactIsName", fn := fun _ => fun
  | [d] => { results := [.lit (.bool false)], args := [d] }
  | _ => none }
def FnExactIsNameWrongFalsely : Prop := fnExactIsNameRow.holds Try.pinned (OpenSpec.ofChange fnExactIsNameWrong)

/-- 'laws.FnExactArityOf': WHATEVER THE INPUT: true; the input reads as it did. -/
def fnExactArityOfSpec : ChangeSpec := { name := "fnExactArityOf", fn := fun _ => fun
  | [d] => { results := [.lit (.bool true)], args := [d] }
  | _ => none }
def fnExactArityOfRow : OpenClaim := { program := "ytejcbmhobmbhoaa", sum := "d3ad36654e1702104d75ca5ee92fd4a95ca48ef3a9f15b43a67b85d7cb5e9172", func := "loop.example/g00585/laws.FnExactArityOf", spec := "fnExactArityOf", apart := false }
def FnExactArityOfSaid : Prop := fnExactArityOfRow.holds Try.pinned (OpenSpec.ofChange fnExactArityOfSpec)

/-- ITS FALSE NEIGHBOUR: 'it returns false'. Refute it at one input. -/
def fnExactArityOfWrong : ChangeSpec := { name := "fnExactArityOf", fn := fun _ => fun
  | [d] => { results := [.lit (.bool false)], args := [d] }
  | _ => none }
def FnExactArityOfWrongFalsely : Prop := fnExactArityOfRow.holds Try.pinned (OpenSpec.ofChange fnExactArityOfWrong)

/-- 'laws.FnExactIsWithin': WHATEVER THE INPUT: true; the input reads as it did. -/
def fnExactIsWithinSpec : ChangeSpec := { name := "fnExactIsWithin", fn := fun _ => fun
  | [d1, d2] => { results := [.lit (.bool true)], args := [d1, d2] }
  | _ => none }
def fnExactIsWithinRow : OpenClaim := { program := "ytejcbmhobmbhoaa", sum := "d3ad36654e1702104d75ca5ee92fd4a95ca48ef3a9f15b43a67b85d7cb5e9172", func := "loop.example/g00585/laws.FnExactIsWithin", spec := "fnExactIsWithin", apart := false }
def FnExactIsWithinSaid : Prop := fnExactIsWithinRow.holds Try.pinned (OpenSpec.ofChange fnExactIsWithinSpec)

/-- ITS FALSE NEIGHBOUR: 'it returns false'. Refute it at one input. -/
def fnExactIsWithinWrong : ChangeSpec := { name := "fnExactIsWithin", fn := fun _ => fun
  | [d1, d2] => { results := [.lit (.bool false)], args := [d1, d2] }
  | _ => none }
def FnExactIsWithinWrongFalsely : Prop := fnExactIsWithinRow.holds Try.pinned (OpenSpec.ofChange fnExactIsWithinWrong)

/-- 'laws.FnExactIndexOf': WHATEVER THE INPUT: true; the input reads as it did. -/
def fnExactIndexOfSpec : ChangeSpec := { name := "fnExactIndexOf", fn := fun _ => fun
  | [d1, d2] => { results := [.lit (.bool true)], args := [d1, d2] }
  | _ => none }
def fnExactIndexOfRow : OpenClaim := { program := "ytejcbmhobmbhoaa", sum := "d3ad36654e1702104d75ca5ee92fd4a95ca48ef3a9f15b43a67b85d7cb5e9172", func := "loop.example/g00585/laws.FnExactIndexOf", spec := "fnExactIndexOf", apart := false }
def FnExactIndexOfSaid : Prop := fnExactIndexOfRow.holds Try.pinned (OpenSpec.ofChange fnExactIndexOfSpec)

/-- ITS FALSE NEIGHBOUR: 'it returns false'. Refute it at one input. -/
def fnExactIndexOfWrong : ChangeSpec := { name := "fnExactIndexOf", fn := fun _ => fun
  | [d1, d2] => { results := [.lit (.bool false)], args := [d1, d2] }
  | _ => none }
def FnExactIndexOfWrongFalsely : Prop := fnExactIndexOfRow.holds Try.pinned (OpenSpec.ofChange fnExactIndexOfWrong)

/-- 'laws.FnExactBoolType': WHATEVER THE INPUT: true; the input reads as it did. -/
def fnExactBoolTypeSpec : ChangeSpec := { name := "fnExactBoolType", fn := fun _ => fun
  | [] => { results := [.lit (.bool true)], args := [] }
  | _ => none }
def fnExactBoolTypeRow : OpenClaim := { program := "ytejcbmhobmbhoaa", sum := "d3ad36654e1702104d75ca5ee92fd4a95ca48ef3a9f15b43a67b85d7cb5e9172", func := "loop.example/g00585/laws.FnExactBoolType", spec := "fnExactBoolType", recurses := true, apart := false }
def FnExactBoolTypeSaid : Prop := fnExactBoolTypeRow.holds Try.pinned (OpenSpec.ofChange fnExactBoolTypeSpec)

/-- ITS FALSE NEIGHBOUR: 'it returns false'. Refute it at one input. -/
def fnExactBoolTypeWrong : ChangeSpec := { name := "fnExactBoolType", fn := fun _ => fun
  | [] => { results := [.lit (.bool false)], args := [] }
  | _ => none }
def FnExactBoolTypeWrongFalsely : Prop := fnExactBoolTypeRow.holds Try.pinned (OpenSpec.ofChange fnExactBoolTypeWrong)

/-- 'laws.FnExactNumType': WHATEVER THE INPUT: true; the input reads as it did. -/
def fnExactNumTypeSpec : ChangeSpec := { name := "fnExactNumType", fn := fun _ => fun
  | [] => { results := [.lit (.bool true)], args := [] }
  | _ => none }
def fnExactNumTypeRow : OpenClaim := { program := "ytejcbmhobmbhoaa", sum := "d3ad36654e1702104d75ca5ee92fd4a95ca48ef3a9f15b43a67b85d7cb5e9172", func := "loop.example/g00585/laws.FnExactNumType", spec := "fnExactNumType", recurses := true, apart := false }
def FnExactNumTypeSaid : Prop := fnExactNumTypeRow.holds Try.pinned (OpenSpec.ofChange fnExactNumTypeSpec)

/-- ITS FALSE NEIGHBOUR: 'it returns false'. Refute it at one input. -/
def fnExactNumTypeWrong : ChangeSpec := { name := "fnExactNumType", fn := fun _ => fun
  | [] => { results := [.lit (.bool false)], args := [] }
  | _ => none }
def FnExactNumTypeWrongFalsely : Prop := fnExactNumTypeRow.holds Try.pinned (OpenSpec.ofChange fnExactNumTypeWrong)

/-- 'laws.FnExactUnknownType': WHATEVER THE INPUT: true; the input reads as it did. -/
def fnExactUnknownTypeSpec : ChangeSpec := { name := "fnExactUnknownType", fn := fun _ => fun
  | [] => { results := [.lit (.bool true)], args := [] }
  | _ => none }
def fnExactUnknownTypeRow : OpenClaim := { program := "ytejcbmhobmbhoaa", sum := "d3ad36654e1702104d75ca5ee92fd4a95ca48ef3a9f15b43a67b85d7cb5e9172", func := "loop.example/g00585/laws.FnExactUnknownType", spec := "fnExactUnknownType", recurses := true, apart := false }
def FnExactUnknownTypeSaid : Prop := fnExactUnknownTypeRow.holds Try.pinned (OpenSpec.ofChange fnExactUnknownTypeSpec)

/-- ITS FALSE NEIGHBOUR: 'it returns false'. Refute it at one input. -/
def fnExactUnknownTypeWrong : ChangeSpec := { name := "fnExactUnknownType", fn := fun _ => fun
  | [] => { results := [.lit (.bool false)], args := [] }
  | _ => none }
def FnExactUnknownTypeWrongFalsely : Prop := fnExactUnknownTypeRow.holds Try.pinned (OpenSpec.ofChange fnExactUnknownTypeWrong)

/-- 'laws.FnExactSplitByte': WHATEVER THE INPUT: true; the input reads as it did. -/
def fnExactSplitByteSpec : ChangeSpec := { name := "fnExactSplitByte", fn := fun _ => fun
  | [d1, d2] => { results := [.lit (.bool true)], args := [d1, d2] }
  | _ => none }
def fnExactSplitByteRow : OpenClaim := { program := "ytejcbmhobmbhoaa", sum := "d3ad36654e1702104d75ca5ee92fd4a95ca48ef3a9f15b43a67b85d7cb5e9172", func := "loop.example/g00585/laws.FnExactSplitByte", spec := "fnExactSplitByte", apart := false }
def FnExactSplitByteSaid : Prop := fnExactSplitByteRow.holds Try.pinned (OpenSpec.ofChange fnExactSplitByteSpec)

/-- ITS FALSE NEIGHBOUR: 'it returns false'. Refute it at one input. -/
def fnExactSplitByteWrong : ChangeSpec := { name := "fnExactSplitByte", fn := fun _ => fun
  | [d1, d2] => { results := [.lit (.bool false)], args := [d1, d2] }
  | _ => none }
def FnExactSplitByteWrongFalsely : Prop := fnExactSplitByteRow.holds Try.pinned (OpenSpec.ofChange fnExactSplitByteWrong)

/-- 'laws.FnExactSizeOfType': WHATEVER THE INPUT: true; the input reads as it did. -/
def fnExactSizeOfTypeSpec : ChangeSpec := { name := "fnExactSizeOfType", fn := fun _ => fun
  | [d] => { results := [.lit (.bool true)], args := [d] }
  | _ => none }
def fnExactSizeOfTypeRow : OpenClaim := { program := "ytejcbmhobmbhoaa", sum := "d3ad36654e1702104d75ca5ee92fd4a95ca48ef3a9f15b43a67b85d7cb5e9172", func := "loop.example/g00585/laws.FnExactSizeOfType", spec := "fnExactSizeOfType", recurses := true, loops := true, apart := false }
def FnExactSizeOfTypeSaid : Prop := fnExactSizeOfTypeRow.holds Try.pinned (OpenSpec.ofChange fnExactSizeOfTypeSpec)

/-- ITS FALSE NEIGHBOUR: 'it returns false'. Refute it at one input. -/
def fnExactSizeOfTypeWrong : ChangeSpec := { name := "fnExactSizeOfType", fn := fun _ => fun
  | [d] => { results := [.lit (.bool false)], args := [d] }
  | _ => none }
def FnExactSizeOfTypeWrongFalsely : Prop := fnExactSizeOfTypeRow.holds Try.pinned (OpenSpec.ofChange fnExactSizeOfTypeWrong)

/-- 'laws.FnExactDepthOfType': WHATEVER THE INPUT: true; the input reads as it did. -/
def fnExactDepthOfTypeSpec : ChangeSpec := { name := "fnExactDepthOfType", fn := fun _ => fun
  | [d] => { results := [.lit (.bool true)], args := [d] }
  | _ => none }
def fnExactDepthOfTypeRow : OpenClaim := { program := "ytejcbmhobmbhoaa", sum := "d3ad36654e1702104d75ca5ee92fd4a95ca48ef3a9f15b43a67b85d7cb5e9172", func := "loop.example/g00585/laws.FnExactDepthOfType", spec := "fnExactDepthOfType", recurses := true, loops := true, apart := false }
def FnExactDepthOfTypeSaid : Prop := fnExactDepthOfTypeRow.holds Try.pinned (OpenSpec.ofChange fnExactDepthOfTypeSpec)

/-- ITS FALSE NEIGHBOUR: 'it returns false'. Refute it at one input. -/
def fnExactDepthOfTypeWrong : ChangeSpec := { name := "fnExactDepthOfType", fn := fun _ => fun
  | [d] => { results := [.lit (.bool false)], args := [d] }
  | _ => none }
def FnExactDepthOfTypeWrongFalsely : Prop := fnExactDepthOfTypeRow.holds Try.pinned (OpenSpec.ofChange fnExactDepthOfTypeWrong)

/-- 'laws.FnExactWithoutName': WHATEVER THE INPUT: true; the input reads as it did. -/
def fnExactWithoutNameSpec : ChangeSpec := { name := "fnExactWithoutName", fn := fun _ => fun
  | [d1, d2] => { results := [.lit (.bool true)], args := [d1, d2] }
  | _ => none }
def fnExactWithoutNameRow : OpenClaim := { program := "ytejcbmhobmbhoaa", sum := "d3ad36654e1702104d75ca5ee92fd4a95ca48ef3a9f15b43a67b85d7cb5e9172", func := "loop.example/g00585/laws.FnExactWithoutName", spec := "fnExactWithoutName", apart := false }
def FnExactWithoutNameSaid : Prop := fnExactWithoutNameRow.holds Try.pinned (OpenSpec.ofChange fnExactWithoutNameSpec)

/-- ITS FALSE NEIGHBOUR: 'it returns false'. Refute it at one input. -/
def fnExactWithoutNameWrong : ChangeSpec := { name := "fnExactWithoutName", fn := fun _ => fun
  | [d1, d2] => { results := [.lit (.bool false)], args := [d1, d2] }
  | _ => none }
def FnExactWithoutNameWrongFalsely : Prop := fnExactWithoutNameRow.holds Try.pinned (OpenSpec.ofChange fnExactWithoutNameWrong)

/- THE SECOND FORM. 'bulk': how many values and letters a reading holds, each counted each time it is reached (what is shared counts as often as it is met; a slice's spare places count too). A statement '..UptoSaid' is the law's where the arguments, and the package variables that the reading takes, are together of bulk at most 1048576: NARROWER than '..Said'. Prove '..Said' where nothing that the law and all that it calls make is longer than what came in: it says more and counts as full. Else prove '..UptoSaid'. A law counts once. -/
mutual
def uptoBulk {H : Type} : DataW H → Nat
  | .lit (.string bytes) => bytes.length + 1
  | .lit _ => 1
  | .nil => 1
  | .ptr d => uptoBulk d + 1
  | .slice elems spare => uptoBulkAll elems + uptoBulkAll spare + 1
  | .agg parts => uptoBulkAll parts + 1
  | .iface _ d => uptoBulk d + 1
  | .map entries => uptoBulkEntries entries + 1
  | .held _ => 1
def uptoBulkAll {H : Type} : List (DataW H) → Nat
  | [] => 0
  | d :: r => uptoBulk d + uptoBulkAll r
def uptoBulkEntries {H : Type} : List (Lit × DataW H) → Nat
  | [] => 0
  | x :: r => uptoBulkEntry x + uptoBulkEntries r
def uptoBulkEntry {H : Type} : Lit × DataW H → Nat
  | (.string bytes, d) => bytes.length + uptoBulk d + 1
  | (_, d) => uptoBulk d + 1
 end
def uptoSmall : (H : Type) → List (DataW H) → Bool := fun _ ds => decide (uptoBulkAll ds ≤ 1048576)
def OpenSpec.upto (s : _root_.Go.ChangeSpec) : _root_.Go.OpenSpec := { _root_.Go.OpenSpec.ofChange s with cond := some uptoSmall }

/-- 'laws.FnExactConstants', WHERE WHAT IT READS IS OF BULK AT MOST 1048576: true; the input reads as it did. -/
def fnExactConstantsUptoRow : OpenClaim := { program := "ytejcbmhobmbhoaa", sum := "d3ad36654e1702104d75ca5ee92fd4a95ca48ef3a9f15b43a67b85d7cb5e9172", func := "loop.example/g00585/laws.FnExactConstants", spec := "fnExactConstants", apart := false, narrowed := true }
def FnExactConstantsUptoSaid : Prop := fnExactConstantsUptoRow.holds Try.pinned (OpenSpec.upto fnExactConstantsSpec)

/-- 'laws.FnExactIsName', WHERE WHAT IT READS IS OF BULK AT MOST 1048576: true; the input reads as it did. -/
def fnExactIsNameUptoRow : OpenClaim := { program := "ytejcbmhobmbhoaa", sum := "d3ad36654e1702104d75ca5ee92fd4a95ca48ef3a9f15b43a67b85d7cb5e9172", func := "loop.example/g00585/laws.FnExactIsName", spec := "fnExactIsName", apart := false, narrowed := true }
def FnExactIsNameUptoSaid : Prop := fnExactIsNameUptoRow.holds Try.pinned (OpenSpec.upto fnExactIsNameSpec)

/-- 'laws.FnExactArityOf', WHERE WHAT IT READS IS OF BULK AT MOST 1048576: true; the input reads as it did. -/
def fnExactArityOfUptoRow : OpenClaim := { program := "ytejcbmhobmbhoaa", sum := "d3ad36654e1702104d75ca5ee92fd4a95ca48ef3a9f15b43a67b85d7cb5e9172", func := "loop.example/g00585/laws.FnExactArityOf", spec := "fnExactArityOf", apart := false, narrowed := true }
def FnExactArityOfUptoSaid : Prop := fnExactArityOfUptoRow.holds Try.pinned (OpenSpec.upto fnExactArityOfSpec)

/-- 'laws.FnExactIsWithin', WHERE WHAT IT READS IS OF BULK AT MOST 1048576: true; the input reads as it did. -/
def fnExactIsWithinUptoRow : OpenClaim := { program := "ytejcbmhobmbhoaa", sum := "d3ad36654e1702104d75ca5ee92fd4a95ca48ef3a9f15b43a67b85d7cb5e9172", func := "loop.example/g00585/laws.FnExactIsWithin", spec := "fnExactIsWithin", apart := false, narrowed := true }
def FnExactIsWithinUptoSaid : Prop := fnExactIsWithinUptoRow.holds Try.pinned (OpenSpec.upto fnExactIsWithinSpec)

/-- 'laws.FnExactIndexOf', WHERE WHAT IT READS IS OF BULK AT MOST 1048576: true; the input reads as it did. -/
def fnExactIndexOfUptoRow : OpenClaim := { program := "ytejcbmhobmbhoaa", sum := "d3ad36654e1702104d75ca5ee92fd4a95ca48ef3a9f15b43a67b85d7cb5e9172", func := "loop.example/g00585/laws.FnExactIndexOf", spec := "fnExactIndexOf", apart := false, narrowed := true }
def FnExactIndexOfUptoSaid : Prop := fnExactIndexOfUptoRow.holds Try.pinned (OpenSpec.upto fnExactIndexOfSpec)

/-- 'laws.FnExactBoolType', WHERE WHAT IT READS IS OF BULK AT MOST 1048576: true; the input reads as it did. -/
def fnExactBoolTypeUptoRow : OpenClaim := { program := "ytejcbmhobmbhoaa", sum := "d3ad36654e1702104d75ca5ee92fd4a95ca48ef3a9f15b43a67b85d7cb5e9172", func := "loop.example/g00585/laws.FnExactBoolType", spec := "fnExactBoolType", recurses := true, apart := false, narrowed := true }
def FnExactBoolTypeUptoSaid : Prop := fnExactBoolTypeUptoRow.holds Try.pinned (OpenSpec.upto fnExactBoolTypeSpec)

/-- 'laws.FnExactNumType', WHERE WHAT IT READS IS OF BULK AT MOST 1048576: true; the input reads as it did. -/
def fnExactNumTypeUptoRow : OpenClaim := { program := "ytejcbmhobmbhoaa", sum := "d3ad36654e1702104d75ca5ee92fd4a95ca48ef3a9f15b43a67b85d7cb5e9172", func := "loop.example/g00585/laws.FnExactNumType", spec := "fnExactNumType", recurses := true, apart := false, narrowed := true }
def FnExactNumTypeUptoSaid : Prop := fnExactNumTypeUptoRow.holds Try.pinned (OpenSpec.upto fnExactNumTypeSpec)

/-- 'laws.FnExactUnknownType', WHERE WHAT IT READS IS OF BULK AT MOST 1048576: true; the input reads as it did. -/
def fnExactUnknownTypeUptoRow : OpenClaim := { program := "ytejcbmhobmbhoaa", sum := "d3ad36654e1702104d75ca5ee92fd4a95ca48ef3a9f15b43a67b85d7cb5e9172", func := "loop.example/g00585/laws.FnExactUnknownType", spec := "fnExactUnknownType", recurses := true, apart := false, narrowed := true }
def FnExactUnknownTypeUptoSaid : Prop := fnExactUnknownTypeUptoRow.holds Try.pinned (OpenSpec.upto fnExactUnknownTypeSpec)

/-- 'laws.FnExactSplitByte', WHERE WHAT IT READS IS OF BULK AT MOST 1048576: true; the input reads as it did. -/
def fnExactSplitByteUptoRow : OpenClaim := { program := "ytejcbmhobmbhoaa", sum := "d3ad36654e1702104d75ca5ee92fd4a95ca48ef3a9f15b43a67b85d7cb5e9172", func := "loop.example/g00585/laws.FnExactSplitByte", spec := "fnExactSplitByte", apart := false, narrowed := true }
def FnExactSplitByteUptoSaid : Prop := fnExactSplitByteUptoRow.holds Try.pinned (OpenSpec.upto fnExactSplitByteSpec)

/-- 'laws.FnExactSizeOfType', WHERE WHAT IT READS IS OF BULK AT MOST 1048576: true; the input reads as it did. -/
def fnExactSizeOfTypeUptoRow : OpenClaim := { program := "ytejcbmhobmbhoaa", sum := "d3ad36654e1702104d75ca5ee92fd4a95ca48ef3a9f15b43a67b85d7cb5e9172", func := "loop.example/g00585/laws.FnExactSizeOfType", spec := "fnExactSizeOfType", recurses := true, loops := true, apart := false, narrowed := true }
def FnExactSizeOfTypeUptoSaid : Prop := fnExactSizeOfTypeUptoRow.holds Try.pinned (OpenSpec.upto fnExactSizeOfTypeSpec)

/-- 'laws.FnExactDepthOfType', WHERE WHAT IT READS IS OF BULK AT MOST 1048576: true; the input reads as it did. -/
def fnExactDepthOfTypeUptoRow : OpenClaim := { program := "ytejcbmhobmbhoaa", sum := "d3ad36654e1702104d75ca5ee92fd4a95ca48ef3a9f15b43a67b85d7cb5e9172", func := "loop.example/g00585/laws.FnExactDepthOfType", spec := "fnExactDepthOfType", recurses := true, loops := true, apart := false, narrowed := true }
def FnExactDepthOfTypeUptoSaid : Prop := fnExactDepthOfTypeUptoRow.holds Try.pinned (OpenSpec.upto fnExactDepthOfTypeSpec)

/-- 'laws.FnExactWithoutName', WHERE WHAT IT READS IS OF BULK AT MOST 1048576: true; the input reads as it did. -/
def fnExactWithoutNameUptoRow : OpenClaim := { program := "ytejcbmhobmbhoaa", sum := "d3ad36654e1702104d75ca5ee92fd4a95ca48ef3a9f15b43a67b85d7cb5e9172", func := "loop.example/g00585/laws.FnExactWithoutName", spec := "fnExactWithoutName", apart := false, narrowed := true }
def FnExactWithoutNameUptoSaid : Prop := fnExactWithoutNameUptoRow.holds Try.pinned (OpenSpec.upto fnExactWithoutNameSpec)

end Rows
end Go.Proofs.Ytejcbmhobmbhoaa
