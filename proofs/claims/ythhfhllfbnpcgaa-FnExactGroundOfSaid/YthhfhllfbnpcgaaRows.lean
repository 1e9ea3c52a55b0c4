/-
  NARROWER THAN 'FOR EVERY INPUT', by the rows' own cells (each row's printed sentence says how): FnExactEqualType: loops · FnExactArrowType: loops · FnExactPairType: loops · FnExactConsistent: loops · FnExactLessPrecise: loops · FnExactMeetType: loops · FnExactIsValidType: loops · FnExactIsNote: loops · FnExactIsCompleteType: loops · FnExactFormatType: loops · FnExactGroundOf: loops · FnExactIsGround: loops.
  DERIVED. THE GIVEN ROWS OF THIS SEAT. 12 by the template 'for every input the law returns true; each argument reads behind the call as it read before'; 0 by the template 'total and deterministic' (their statements: YthhfhllfbnpcgaaTotals.lean).
  GIVEN WITH THE SEED: the statements are not yours to turn. If you find one false, say at which input.
  Laid BY PROGRAM, IN A SANDBOX (cutbox-rows.mjs): the forced cells as the released guide's own fill.sh prints them over the translation 85f7b40f685c6905… (all of the seat's roots in one cut). By AI agents, Wed Nov 11 2026. No macro, syntax, notation, axiom, sorry.
-/
import Derived.Test.YthhfhllfbnpcgaaChecked
import GoSem.Claim
import GoSem.ClaimJoined
import GoSem.ClaimMapViews
import Derived.JoinedTies
import Derived.KernelRfl
namespace Go.Proofs.Ythhfhllfbnpcgaa
/- THE CELL 'sum', in the pinned program and in every row, IS THE sha256 OF THE DUMP (.gsa) THAT YthhfhllfbnpcgaaProg.lean LOADS. Nothing in Lean hashes anything: it is a label: what it is worth is what the hold of that sum in a sandbox is worth. -/
noncomputable def Try.pinned : Pinned := { name := "ythhfhllfbnpcgaa", sum := "85f7b40f685c6905cf982ca05e5ab262156b863c1b48df27fb9368161ce33e89", checked := Try.checked }
namespace Rows
def none {H : Type} : Left H := { results := [], args := [] }

/-- 'laws.FnExactEqualType': WHATEVER THE INPUT: true; the input reads as it did. -/
def fnExactEqualTypeSpec : ChangeSpec := { name := "fnExactEqualType", fn := fun _ => fun
  | [d1, d2] => { results := [.lit (.bool true)], args := [d1, d2] }
  | _ => none }
def fnExactEqualTypeRow : OpenClaim := { program := "ythhfhllfbnpcgaa", sum := "85f7b40f685c6905cf982ca05e5ab262156b863c1b48df27fb9368161ce33e89", func := "loop.example/g00585/laws.FnExactEqualType", spec := "fnExactEqualType", unfollowed := true, recurses := true, loops := true, apart := false }
def FnExactEqualTypeSaid : Prop := fnExactEqualTypeRow.holds Try.pinned (OpenSpec.ofChange fnExactEqualTypeSpec)

/-- ITS FALSE NEIGHBOUR: 'it returns false'. Refute it at one input. -/
def fnExactEqualTypeWrong : ChangeSpec := { name := "fnExactEqualType", fn := fun _ => fun
  | [d1, d2] => { results := [.lit (.bool false)], args := [d1, d2] }
  | _ => none }
def FnExactEqualTypeWrongFalsely : Prop := fnExactEqualTypeRow.holds Try.pinned (OpenSpec.ofChange fnExactEqualTypeWrong)

/-- 'laws.FnExactArrowType': WHATEVER THE INPUT: true; the input reads as it did. -/
def fnExactArrowTypeSpec : ChangeSpec := { name := "fnExactArrowType", fn := fun _ => fun
  | [d1, d2] => { results := [.lit (.bool true)], args := [d1, d2] }
  | _ => none }
def fnExactArrowTypeRow : OpenClaim := { program := "ythhfhllfbnpcgaa", sum := "85f7b40f685c6905cf982ca05e5ab262156b863c1b48df27fb9368161ce33e89", func := "loop.example/g00585/laws.FnExactArrowType", spec := "fnExactArrowType", recurses := true, loops := true, apart := false }
def FnExactArrowTypeSaid : Prop := fnExactArrowTypeRow.holds Try.pinned (OpenSpec.ofChange fnExactArrowTypeSpec)

/-- ITS FALSE NEIGHBOUR: 'it returns false'. Refute it at one input. -/
def fnExactArrowTypeWrong : ChangeSpec := { name := "fnExactArrowType", fn := fun _ => fun
  | [d1, d2] => { results := [.lit (.bool false)], args := [d1, d2] }
  | _ => none }
def FnExactArrowTypeWrongFalsely : Prop := fnExactArrowTypeRow.holds Try.pinned (OpenSpec.ofChange fnExactArrowTypeWrong)

/-- 'laws.FnExactPairType': WHATEVER THE INPUT: true; the input reads as it did. -/
def fnExactPairTypeSpec : ChangeSpec := { name := "fnExactPairType", fn := fun _ => fun
  | [d1, d2] => { results := [.lit (.bool true)], args := [d1, d2] }
  | _ => none }
def fnExactPairTypeRow : OpenClaim := { program := "ythhfhllfbnpcgaa", sum := "85f7b40f685c6905cf982ca05e5ab262156b863c1b48df27fb9368161ce33e89", func := "loop.example/g00585/laws.FnExactPairType", spec := "fnExactPairType", recurses := true, loops := true, apart := false }
def FnExactPairTypeSaid : Prop := fnExactPairTypeRow.holds Try.pinned (OpenSpec.ofChange fnExactPairTypeSpec)

/-- ITS FALSE NEIGHBOUR: 'it returns false'. Refute it at one input. -/
def fnExactPairTypeWrong : ChangeSpec := { name := "fnExactPairType", fn := fun _ => fun
  | [d1, d2] => { results := [.lit (.bool false)], args := [d1, d2] }
  | _ => none }
def FnExactPairTypeWrongFalsely : Prop := fnExactPairTypeRow.holds Try.pinned (OpenSpec.ofChange fnExactPairTypeWrong)

/-- 'laws.FnExactConsistent': WHATEVER THE INPUT: true; the input reads as it did. -/
def fnExactConsistentSpec : ChangeSpec := { name := "fnExactConsistent", fn := fun _ => fun
  | [d1, d2] => { results := [.lit (.bool true)], args := [d1, d2] }
  | _ => none }
def fnExactConsistentRow : OpenClaim := { program := "ythhfhllfbnpcgaa", sum := "85f7b40f685c6905cf982ca05e5ab262156b863c1b48df27fb9368161ce33e89", func := "loop.example/g00585/laws.FnExactConsistent", spec := "fnExactConsistent", unfollowed := true, recurses := true, loops := true, apart := false }
def FnExactConsistentSaid : Prop := fnExactConsistentRow.holds Try.pinned (OpenSpec.ofChange fnExactConsistentSpec)

/-- ITS FALSE NEIGHBOUR: 'it returns false'. Refute it at one input. -/
def fnExactConsistentWrong : ChangeSpec := { name := "fnExactConsistent", fn := fun _ => fun
  | [d1, d2] => { results := [.lit (.bool false)], args := [d1, d2] }
  | _ => none }
def FnExactConsistentWrongFalsely : Prop := fnExactConsistentRow.holds Try.pinned (OpenSpec.ofChange fnExactConsistentWrong)

/-- 'laws.FnExactLessPrecise': WHATEVER THE INPUT: true; the input reads as it did. -/
def fnExactLessPreciseSpec : ChangeSpec := { name := "fnExactLessPrecise", fn := fun _ => fun
  | [d1, d2] => { results := [.lit (.bool true)], args := [d1, d2] }
  | _ => none }
def fnExactLessPreciseRow : OpenClaim := { program := "ythhfhllfbnpcgaa", sum := "85f7b40f685c6905cf982ca05e5ab262156b863c1b48df27fb9368161ce33e89", func := "loop.example/g00585/laws.FnExactLessPrecise", spec := "fnExactLessPrecise", unfollowed := true, recurses := true, loops := true, apart := false }
def FnExactLessPreciseSaid : Prop := fnExactLessPreciseRow.holds Try.pinned (OpenSpec.ofChange fnExactLessPreciseSpec)

/-- ITS FALSE NEIGHBOUR: 'it returns false'. Refute it at one input. -/
def fnExactLessPreciseWrong : ChangeSpec := { name := "fnExactLessPrecise", fn := fun _ => fun
  | [d1, d2] => { results := [.lit (.bool false)], args := [d1, d2] }
  | _ => none }
def FnExactLessPreciseWrongFalsely : Prop := fnExactLessPreciseRow.holds Try.pinned (OpenSpec.ofChange fnExactLessPreciseWrong)

/-- 'laws.FnExactMeetType': WHATEVER THE INPUT: true; the input reads as it did. -/
def fnExactMeetTypeSpec : ChangeSpec := { name := "fnExactMeetType", fn := fun _ => fun
  | [d1, d2] => { results := [.lit (.bool true)], args := [d1, d2] }
  | _ => none }
def fnExactMeetTypeRow : OpenClaim := { program := "ythhfhllfbnpcgaa", sum := "85f7b40f685c6905cf982ca05e5ab262156b863c1b48df27fb9368161ce33e89", func := "loop.example/g00585/laws.FnExactMeetType", spec := "fnExactMeetType", unfollowed := true, recurses := true, loops := true, apart := false }
def FnExactMeetTypeSaid : Prop := fnExactMeetTypeRow.holds Try.pinned (OpenSpec.ofChange fnExactMeetTypeSpec)

/-- ITS FALSE NEIGHBOUR: 'it returns false'. Refute it at one input. -/
def fnExactMeetTypeWrong : ChangeSpec := { name := "fnExactMeetType", fn := fun _ => fun
  | [d1, d2] => { results := [.lit (.bool false)], args := [d1, d2] }
  | _ => none }
def FnExactMeetTypeWrongFalsely : Prop := fnExactMeetTypeRow.holds Try.pinned (OpenSpec.ofChange fnExactMeetTypeWrong)

/-- 'laws.FnExactIsValidType': WHATEVER THE INPUT: true; the input reads as it did. -/
def fnExactIsValidTypeSpec : ChangeSpec := { name := "fnExactIsValidType", fn := fun _ => fun
  | [d] => { results := [.lit (.bool true)], args := [d] }
  | _ => none }
def fnExactIsValidTypeRow : OpenClaim := { program := "ythhfhllfbnpcgaa", sum := "85f7b40f685c6905cf982ca05e5ab262156b863c1b48df27fb9368161ce33e89", func := "loop.example/g00585/laws.FnExactIsValidType", spec := "fnExactIsValidType", unfollowed := true, recurses := true, loops := true, apart := false }
def FnExactIsValidTypeSaid : Prop := fnExactIsValidTypeRow.holds Try.pinned (OpenSpec.ofChange fnExactIsValidTypeSpec)

/-- ITS FALSE NEIGHBOUR: 'it returns false'. Refute it at one input. -/
def fnExactIsValidTypeWrong : ChangeSpec := { name := "fnExactIsValidType", fn := fun _ => fun
  | [d] => { results := [.lit (.bool false)], args := [d] }
  | _ => none }
def FnExactIsValidTypeWrongFalsely : Prop := fnExactIsValidTypeRow.holds Try.pinned (OpenSpec.ofChange fnExactIsValidTypeWrong)

/-- 'laws.FnExactIsNote': WHATEVER THE INPUT: true; the input reads as it did. -/
def fnExactIsNoteSpec : ChangeSpec := { name := "fnExactIsNote", fn := fun _ => fun
  | [d] => { results := [.lit (.bool true)], args := [d] }
  | _ => none }
def fnExactIsNoteRow : OpenClaim := { program := "ythhfhllfbnpcgaa", sum := "85f7b40f685c6905cf982ca05e5ab262156b863c1b48df27fb9368161ce33e89", func := "loop.example/g00585/laws.FnExactIsNote", spec := "fnExactIsNote", unfollowed := true, recurses := true, loops := true, apart := false }
def FnExactIsNoteSaid : Prop := fnExactIsNoteRow.holds Try.pinned (OpenSpec.ofChange fnExactIsNoteSpec)

/-- ITS FALSE NEIGHBOUR: 'it returns false'. Refute it at one input. -/
def fnExactIsNoteWrong : ChangeSpec := { name := "fnExactIsNote", fn := fun _ => fun
  | [d] => { results := [.lit (.bool false)], args := [d] }
  | _ => none }
def FnExactIsNoteWrongFalsely : Prop := fnExactIsNoteRow.holds Try.pinned (OpenSpec.ofChange fnExactIsNoteWrong)

/-- 'laws.FnExactIsCompleteType': WHATEVER THE INPUT: true; the input reads as it did. -/
def fnExactIsCompleteTypeSpec : ChangeSpec := { name := "fnExactIsCompleteType", fn := fun _ => fun
  | [d] => { results := [.lit (.bool true)], args := [d] }
  | _ => none }
def fnExactIsCompleteTypeRow : OpenClaim := { program := "ythhfhllfbnpcgaa", sum := "85f7b40f685c6905cf982ca05e5ab262156b863c1b48df27fb9368161ce33e89", func := "loop.example/g00585/laws.FnExactIsCompleteType", spec := "fnExactIsCompleteType", unfollowed := true, recurses := true, loops := true, apart := false }
def FnExactIsCompleteTypeSaid : Prop := fnExactIsCompleteTypeRow.holds Try.pinned (OpenSpec.ofChange fnExactIsCompleteTypeSpec)

/-- ITS FALSE NEIGHBOUR: 'it returns false'. Refute it at one input. -/
def fnExactIsCompleteTypeWrong : ChangeSpec := { name := "fnExactIsCompleteType", fn := fun _ => fun
  | [d] => { results := [.lit (.bool false)], args := [d] }
  | _ => none }
def FnExactIsCompleteTypeWrongFalsely : Prop := fnExactIsCompleteTypeRow.holds Try.pinned (OpenSpec.ofChange fnExactIsCompleteTypeWrong)

/-- 'laws.FnExactFormatType': WHATEVER THE INPUT: true; the input reads as it did. -/
def fnExactFormatTypeSpec : ChangeSpec := { name := "fnExactFormatType", fn := fun _ => fun
  | [d] => { results := [.lit (.bool true)], args := [d] }
  | _ => none }
def fnExactFormatTypeRow : OpenClaim := { program := "ythhfhllfbnpcgaa", sum := "85f7b40f685c6905cf982ca05e5ab262156b863c1b48df27fb9368161ce33e89", func := "loop.example/g00585/laws.FnExactFormatType", spec := "fnExactFormatType", unfollowed := true, recurses := true, loops := true, apart := false }
def FnExactFormatTypeSaid : Prop := fnExactFormatTypeRow.holds Try.pinned (OpenSpec.ofChange fnExactFormatTypeSpec)

/-- ITS FALSE NEIGHBOUR: 'it returns false'. Refute it at one input. -/
def fnExactFormatTypeWrong : ChangeSpec := { name := "fnExactFormatType", fn := fun _ => fun
  | [d] => { results := [.lit (.bool false)], args := [d] }
  | _ => none }
def FnExactFormatTypeWrongFalsely : Prop := fnExactFormatTypeRow.holds Try.pinned (OpenSpec.ofChange fnExactFormatTypeWrong)

/-- 'laws.FnExactGroundOf': WHATEVER THE INPUT: true; the input reads as it did. -/
def fnExactGroundOfSpec : ChangeSpec := { name := "fnExactGroundOf", fn := fun _ => fun
  | [d] => { results := [.lit (.bool true)], args := [d] }
  | _ => none }
def fnExactGroundOfRow : OpenClaim := { program := "ythhfhllfbnpcgaa", sum := "85f7b40f685c6905cf982ca05e5ab262156b863c1b48df27fb9368161ce33e89", func := "loop.example/g00585/laws.FnExactGroundOf", spec := "fnExactGroundOf", unfollowed := true, recurses := true, loops := true, apart := false }
def FnExactGroundOfSaid : Prop := fnExactGroundOfRow.holds Try.pinned (OpenSpec.ofChange fnExactGroundOfSpec)

/-- ITS FALSE NEIGHBOUR: 'it returns false'. Refute it at one input. -/
def fnExactGroundOfWrong : ChangeSpec := { name := "fnExactGroundOf", fn := fun _ => fun
  | [d] => { results := [.lit (.bool false)], args := [d] }
  | _ => none }
def FnExactGroundOfWrongFalsely : Prop := fnExactGroundOfRow.holds Try.pinned (OpenSpec.ofChange fnExactGroundOfWrong)

/-- 'laws.FnExactIsGround': WHATEVER THE INPUT: true; the input reads as it did. -/
def fnExactIsGroundSpec : ChangeSpec := { name := "fnExactIsGround", fn := fun _ => fun
  | [d] => { results := [.lit (.bool true)], args := [d] }
  | _ => none }
def fnExactIsGroundRow : OpenClaim := { program := "ythhfhllfbnpcgaa", sum := "85f7b40f685c6905cf982ca05e5ab262156b863c1b48df27fb9368161ce33e89", func := "loop.example/g00585/laws.FnExactIsGround", spec := "fnExactIsGround", unfollowed := true, recurses := true, loops := true, apart := false }
def FnExactIsGroundSaid : Prop := fnExactIsGroundRow.holds Try.pinned (OpenSpec.ofChange fnExactIsGroundSpec)

/-- ITS FALSE NEIGHBOUR: 'it returns false'. Refute it at one input. -/
def fnExactIsGroundWrong : ChangeSpec := { name := "fnExactIsGround", fn := fun _ => fun
  | [d] => { results := [.lit (.bool false)], args := [d] }
  | _ => none }
def FnExactIsGroundWrongFalsely : Prop := fnExactIsGroundRow.holds Try.pinned (OpenSpec.ofChange fnExactIsGroundWrong)

/- THE SECOND FORM. 'bulk': how many values and letters a reading holds, each counted each time it is reached (what is shared counts as often as it is met; a slice's spare places count too). A statement '..UptoSaid' is the law's where the arguments, and the package variables that the reading takes, are together of bulk at most 1048576: NARROWER than '..Said'. Prove '..Said' where nothing that the law and all that it calls make is longer than what came in: it says more and counts as full. Else prove '..UptoSaid'. A law counts once. -/
mutual
def uptoBulk {H : Type} : DataW H → Nat
  | .lit (.string bytes) => bytes.length + 1
  | .lit _ => 1
  | .nil => 1
  | .ptr d => uptoBulk d + 1
  | .slice elems spare => uptoBulkAll elems + uptoBulkAll spare + 1
  | .agg parts => uptoBulkAll parts + 1
  | .iface _ d => uptoBulk d + 1
  | .map entries => uptoBulkEntries entries + 1
  | .held _ => 1
def uptoBulkAll {H : Type} : List (DataW H) → Nat
  | [] => 0
  | d :: r => uptoBulk d + uptoBulkAll r
def uptoBulkEntries {H : Type} : List (Lit × DataW H) → Nat
  | [] => 0
  | x :: r => uptoBulkEntry x + uptoBulkEntries r
def uptoBulkEntry {H : Type} : Lit × DataW H → Nat
  | (.string bytes, d) => bytes.length + uptoBulk d + 1
  | (_, d) => uptoBulk d + 1
 end
def uptoSmall : (H : Type) → List (DataW H) → Bool := fun _ ds => decide (uptoBulkAll ds ≤ 1048576)
def OpenSpec.upto (s : _root_.Go.ChangeSpec) : _root_.Go.OpenSpec := { _root_.Go.OpenSpec.ofChange s with cond := some uptoSmall }

/-- 'laws.FnExactEqualType', WHERE WHAT IT READS IS OF BULK AT MOST 1048576: true; the input reads as it did. -/
def fnExactEqualTypeUptoRow : OpenClaim := { program := "ythhfhllfbnpcgaa", sum := "85f7b40f685c6905cf982ca05e5ab262156b863c1b48df27fb9368161ce33e89", func := "loop.example/g00585/laws.FnExactEqualType", spec := "fnExactEqualType", unfollowed := true, recurses := true, loops := true, apart := false, narrowed := true }
def FnExactEqualTypeUptoSaid : Prop := fnExactEqualTypeUptoRow.holds Try.pinned (OpenSpec.upto fnExactEqualTypeSpec)

/-- 'laws.FnExactArrowType', WHERE WHAT IT READS IS OF BULK AT MOST 1048576: true; the input reads as it did. -/
def fnExactArrowTypeUptoRow : OpenClaim := { program := "ythhfhllfbnpcgaa", sum := "85f7b40f685c6905cf982ca05e5ab262156b863c1b48df27fb9368161ce33e89", func := "loop.example/g00585/laws.FnExactArrowType", spec := "fnExactArrowType", recurses := true, loops := true, apart := false, narrowed := true }
def FnExactArrowTypeUptoSaid : Prop := fnExactArrowTypeUptoRow.holds Try.pinned (OpenSpec.upto fnExactArrowTypeSpec)

/-- 'laws.FnExactPairType', WHERE WHAT IT READS IS OF BULK AT MOST 1048576: true; the input reads as it did. -/
def fnExactPairTypeUptoRow : OpenClaim := { program := "ythhfhllfbnpcgaa", sum := "85f7b40f685c6905cf982ca05e5ab262156b863c1b48df27fb9368161ce33e89", func := "loop.example/g00585/laws.FnExactPairType", spec := "fnExactPairType", recurses := true, loops := true, apart := false, narrowed := true }
def FnExactPairTypeUptoSaid : Prop := fnExactPairTypeUptoRow.holds Try.pinned (OpenSpec.upto fnExactPairTypeSpec)

/-- 'laws.FnExactConsistent', WHERE WHAT IT READS IS OF BULK AT MOST 1048576: true; the input reads as it did. -/
def fnExactConsistentUptoRow : OpenClaim := { program := "ythhfhllfbnpcgaa", sum := "85f7b40f685c6905cf982ca05e5ab262156b863c1b48df27fb9368161ce33e89", func := "loop.example/g00585/laws.FnExactConsistent", spec := "fnExactConsistent", unfollowed := true, recurses := true, loops := true, apart := false, narrowed := true }
def FnExactConsistentUptoSaid : Prop := fnExactConsistentUptoRow.holds Try.pinned (OpenSpec.upto fnExactConsistentSpec)

/-- 'laws.FnExactLessPrecise', WHERE WHAT IT READS IS OF BULK AT MOST 1048576: true; the input reads as it did. -/
def fnExactLessPreciseUptoRow : OpenClaim := { program := "ythhfhllfbnpcgaa", sum := "85f7b40f685c6905cf982ca05e5ab262156b863c1b48df27fb9368161ce33e89", func := "loop.example/g00585/laws.FnExactLessPrecise", spec := "fnExactLessPrecise", unfollowed := true, recurses := true, loops := true, apart := false, narrowed := true }
def FnExactLessPreciseUptoSaid : Prop := fnExactLessPreciseUptoRow.holds Try.pinned (OpenSpec.upto fnExactLessPreciseSpec)

/-- 'laws.FnExactMeetType', WHERE WHAT IT READS IS OF BULK AT MOST 1048576: true; the input reads as it did. -/
def fnExactMeetTypeUptoRow : OpenClaim := { program := "ythhfhllfbnpcgaa", sum := "85f7b40f685c6905cf982ca05e5ab262156b863c1b48df27fb9368161ce33e89", func := "loop.example/g00585/laws.FnExactMeetType", spec := "fnExactMeetType", unfollowed := true, recurses := true, loops := true, apart := false, narrowed := true }
def FnExactMeetTypeUptoSaid : Prop := fnExactMeetTypeUptoRow.holds Try.pinned (OpenSpec.upto fnExactMeetTypeSpec)

/-- 'laws.FnExactIsValidType', WHERE WHAT IT READS IS OF BULK AT MOST 1048576: true; the input reads as it did. -/
def fnExactIsValidTypeUptoRow : OpenClaim := { program := "ythhfhllfbnpcgaa", sum := "85f7b40f685c6905cf982ca05e5ab262156b863c1b48df27fb9368161ce33e89", func := "loop.example/g00585/laws.FnExactIsValidType", spec := "fnExactIsValidType", unfollowed := true, recurses := true, loops := true, apart := false, narrowed := true }
def FnExactIsValidTypeUptoSaid : Prop := fnExactIsValidTypeUptoRow.holds Try.pinned (OpenSpec.upto fnExactIsValidTypeSpec)

/-- 'laws.FnExactIsNote', WHERE WHAT IT READS IS OF BULK AT MOST 1048576: true; the input reads as it did. -/
def fnExactIsNoteUptoRow : OpenClaim := { program := "ythhfhllfbnpcgaa", sum := "85f7b40f685c6905cf982ca05e5ab262156b863c1b48df27fb9368161ce33e89", func := "loop.example/g00585/laws.FnExactIsNote", spec := "fnExactIsNote", unfollowed := true, recurses := true, loops := true, apart := false, narrowed := true }
def FnExactIsNoteUptoSaid : Prop := fnExactIsNoteUptoRow.holds Try.pinned (OpenSpec.upto fnExactIsNoteSpec)

/-- 'laws.FnExactIsCompleteType', WHERE WHAT IT READS IS OF BULK AT MOST 1048576: true; the input reads as it did. -/
def fnExactIsCompleteTypeUptoRow : OpenClaim := { program := "ythhfhllfbnpcgaa", sum := "85f7b40f685c6905cf982ca05e5ab262156b863c1b48df27fb9368161ce33e89", func := "loop.example/g00585/laws.FnExactIsCompleteType", spec := "fnExactIsCompleteType", unfollowed := true, recurses := true, loops := true, apart := false, narrowed := true }
def FnExactIsCompleteTypeUptoSaid : Prop := fnExactIsCompleteTypeUptoRow.holds Try.pinned (OpenSpec.upto fnExactIsCompleteTypeSpec)

/-- 'laws.FnExactFormatType', WHERE WHAT IT READS IS OF BULK AT MOST 1048576: true; the input reads as it did. -/
def fnExactFormatTypeUptoRow : OpenClaim := { program := "ythhfhllfbnpcgaa", sum := "85f7b40f685c6905cf982ca05e5ab262156b863c1b48df27fb9368161ce33e89", func := "loop.example/g00585/laws.FnExactFormatType", spec := "fnExactFormatType", unfollowed := true, recurses := true, loops := true, apart := false, narrowed := true }
def FnExactFormatTypeUptoSaid : Prop := fnExactFormatTypeUptoRow.holds Try.pinned (OpenSpec.upto fnExactFormatTypeSpec)

/-- 'laws.FnExactGroundOf', WHERE WHAT IT READS IS OF BULK AT MOST 1048576: true; the input reads as it did. -/
def fnExactGroundOfUptoRow : OpenClaim := { program := "ythhfhllfbnpcgaa", sum := "85f7b40f685c6905cf982ca05e5ab262156b863c1b48df27fb9368161ce33e89", func := "loop.example/g00585/laws.FnExactGroundOf", spec := "fnExactGroundOf", unfollowed := true, recurses := true, loops := true, apart := false, narrowed := true }
def FnExactGroundOfUptoSaid : Prop := fnExactGroundOfUptoRow.holds Try.pinned (OpenSpec.upto fnExactGroundOfSpec)

/-- 'laws.FnExactIsGround', WHERE WHAT IT READS IS OF BULK AT MOST 1048576: true; the input reads as it did. -/
def fnExactIsGroundUptoRow : OpenClaim := { program := "ythhfhllfbnpcgaa", sum := "85f7b40f685c6905cf982ca05e5ab262156b863c1b48df27fb9368161ce33e89", func := "loop.example/g00585/laws.FnExactIsGround", spec := "fnExactIsGround", unfollowed := true, recurses := true, loops := true, apart := false, narrowed := true }
def FnExactIsGroundUptoSaid : Prop := fnExactIsGroundUptoRow.holds Try.pinned (OpenSpec.upto fnExactIsGroundSpec)

end Rows
end Go.Proofs.Ythhfhllfbnpcgaa
