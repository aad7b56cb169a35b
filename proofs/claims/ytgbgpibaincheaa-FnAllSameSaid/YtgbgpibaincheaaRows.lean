/-
  No cell of these rows narrows 'for every input' (looked for: loops, veiled, ifaces, maps, wideKeys, modest, calm, conditions, laid).
  DERIVED. THE GIVEN ROWS OF THIS SEAT. 19 by the template 'for every input the law returns true; each argument reads behind the call as it read before'; 0 by the template 'total and deterministic' (their statements: YtgbgpibaincheaaTotals.lean).
  GIVEN WITH THE SEED: the statements are not yours to turn. If you find one false, say at which input.
  Laid BY PROGRAM, IN A SANDBOX (cutbox-rows.mjs): the forced cells as the released guide's own fill.sh prints them over the translation 10322785f5aa576c… (all of the seat's roots in one cut). By AI agents, Wed Nov 11 2026. No macro, syntax, notation, axiom, sorry.
-/
import Derived.Test.YtgbgpibaincheaaChecked
import GoSem.Claim
import GoSem.ClaimJoined
import GoSem.ClaimMapViews
import Derived.JoinedTies
import Derived.KernelRfl
namespace Go.Proofs.Ytgbgpibaincheaa
/- THE CELL 'sum', in the pinned program and in every row, IS THE sha256 OF THE DUMP (.gsa) THAT YtgbgpibaincheaaProg.lean LOADS. Nothing in Lean hashes anything: it is a label: what it is worth is what the hold of that sum in a sandbox is worth. -/
noncomputable def Try.pinned : Pinned := { name := "ytgbgpibaincheaa", sum := "10322785f5aa576c1c8a752433cf3d59195b792a4db2be2bc66964d989764211", checked := Try.checked }
namespace Rows
def none {H : Type} : Left H := { results := [], args := [] }

/-- 'laws.FnExactZerosAbove': WHATEVER THE INPUT: true; the input reads as it did. -/
def fnExactZerosAboveSpec : ChangeSpec := { name := "fnExactZerosAbove", fn := fun _ => fun
  | [d1, d2] => { results := [.lit (.bool true)], args := [d1, d2] }
  | _ => none }
def fnExactZerosAboveRow : OpenClaim := { program := "ytgbgpibaincheaa", sum := "10322785f5aa576c1c8a752433cf3d59195b792a4db2be2bc66964d989764211", func := "loop.example/bitwords/laws.FnExactZerosAbove", spec := "fnExactZerosAbove", apart := false }
def FnExactZerosAboveSaid : Prop := fnExactZerosAboveRow.holds Try.pinned (OpenSpec.ofChange fnExactZerosAboveSpec)

/-- ITS FALSE NEIGHBOUR: 'it returns false'. Refute it at one input. -/
def fnExactZerosAboveWrong : ChangeSpec := { name := "fnExactZerosAbove", fn := fun _ => fun
  | [d1, d2] => { results := [.lit (.bool false)], args := [d1, d2] }
  | _ => none }
def FnExactZerosAboveWrongFalsely : Prop := fnExactZerosAboveRow.holds Try.pinned (OpenSpec.ofChange fnExactZerosAboveWrong)

/-- 'laws.FnExactOnesOf': WHATEVER THE INPUT: true; the input reads as it did. -/
def fnExactOnesOfSpec : ChangeSpec := { name := "fnExactOnesOf", fn := fun _ => fun
  | [d1, d2] => { results := [.lit (.bool true)], args := [d1, d2] }
  | _ => none }
def fnExactOnesOfRow : OpenClaim := { program := "ytgbgpibaincheaa", sum := "10322785f5aa576c1c8a752433cf3d59195b792a4db2be2bc66964d989764211", func := "loop.example/bitwords/laws.FnExactOnesOf", spec := "fnExactOnesOf", apart := false }
def FnExactOnesOfSaid : Prop := fnExactOnesOfRow.holds Try.pinned (OpenSpec.ofChange fnExactOnesOfSpec)

/-- ITS FALSE NEIGHBOUR: 'it returns false'. Refute it at one input. -/
def fnExactOnesOfWrong : ChangeSpec := { name := "fnExactOnesOf", fn := fun _ => fun
  | [d1, d2] => { results := [.lit (.bool false)], args := [d1, d2] }
  | _ => none }
def FnExactOnesOfWrongFalsely : Prop := fnExactOnesOfRow.holds Try.pinned (OpenSpec.ofChange fnExactOnesOfWrong)

/-- 'laws.FnExactFillBelow': WHATEVER THE INPUT: true; the input reads as it did. -/
def fnExactFillBelowSpec : ChangeSpec := { name := "fnExactFillBelow", fn := fun _ => fun
  | [d1, d2] => { results := [.lit (.bool true)], args := [d1, d2] }
  | _ => none }
def fnExactFillBelowRow : OpenClaim := { program := "ytgbgpibaincheaa", sum := "10322785f5aa576c1c8a752433cf3d59195b792a4db2be2bc66964d989764211", func := "loop.example/bitwords/laws.FnExactFillBelow", spec := "fnExactFillBelow", unfollowed := true, recurses := true, apart := false }
def FnExactFillBelowSaid : Prop := fnExactFillBelowRow.holds Try.pinned (OpenSpec.ofChange fnExactFillBelowSpec)

/-- ITS FALSE NEIGHBOUR: 'it returns false'. Refute it at one input. -/
def fnExactFillBelowWrong : ChangeSpec := { name := "fnExactFillBelow", fn := fun _ => fun
  | [d1, d2] => { results := [.lit (.bool false)], args := [d1, d2] }
  | _ => none }
def FnExactFillBelowWrongFalsely : Prop := fnExactFillBelowRow.holds Try.pinned (OpenSpec.ofChange fnExactFillBelowWrong)

/-- 'laws.FnExactParityOf': WHATEVER THE INPUT: true; the input reads as it did. -/
def fnExactParityOfSpec : ChangeSpec := { name := "fnExactParityOf", fn := fun _ => fun
  | [d1, d2] => { results := [.lit (.bool true)], args := [d1, d2] }
  | _ => none }
def fnExactParityOfRow : OpenClaim := { program := "ytgbgpibaincheaa", sum := "10322785f5aa576c1c8a752433cf3d59195b792a4db2be2bc66964d989764211", func := "loop.example/bitwords/laws.FnExactParityOf", spec := "fnExactParityOf", apart := false }
def FnExactParityOfSaid : Prop := fnExactParityOfRow.holds Try.pinned (OpenSpec.ofChange fnExactParityOfSpec)

/-- ITS FALSE NEIGHBOUR: 'it returns false'. Refute it at one input. -/
def fnExactParityOfWrong : ChangeSpec := { name := "fnExactParityOf", fn := fun _ => fun
  | [d1, d2] => { results := [.lit (.bool false)], args := [d1, d2] }
  | _ => none }
def FnExactParityOfWrongFalsely : Prop := fnExactParityOfRow.holds Try.pinned (OpenSpec.ofChange fnExactParityOfWrong)

/-- 'laws.FnExactOnesSteps': WHATEVER THE INPUT: true; the input reads as it did. -/
def fnExactOnesStepsSpec : ChangeSpec := { name := "fnExactOnesSteps", fn := fun _ => fun
  | [d1, d2] => { results := [.lit (.bool true)], args := [d1, d2] }
  | _ => none }
def fnExactOnesStepsRow : OpenClaim := { program := "ytgbgpibaincheaa", sum := "10322785f5aa576c1c8a752433cf3d59195b792a4db2be2bc66964d989764211", func := "loop.example/bitwords/laws.FnExactOnesSteps", spec := "fnExactOnesSteps", apart := false }
def FnExactOnesStepsSaid : Prop := fnExactOnesStepsRow.holds Try.pinned (OpenSpec.ofChange fnExactOnesStepsSpec)

/-- ITS FALSE NEIGHBOUR: 'it returns false'. Refute it at one input. -/
def fnExactOnesStepsWrong : ChangeSpec := { name := "fnExactOnesSteps", fn := fun _ => fun
  | [d1, d2] => { results := [.lit (.bool false)], args := [d1, d2] }
  | _ => none }
def FnExactOnesStepsWrongFalsely : Prop := fnExactOnesStepsRow.holds Try.pinned (OpenSpec.ofChange fnExactOnesStepsWrong)

/-- 'laws.FnExactNextSame': WHATEVER THE INPUT: true; the input reads as it did. -/
def fnExactNextSameSpec : ChangeSpec := { name := "fnExactNextSame", fn := fun _ => fun
  | [d1, d2] => { results := [.lit (.bool true)], args := [d1, d2] }
  | _ => none }
def fnExactNextSameRow : OpenClaim := { program := "ytgbgpibaincheaa", sum := "10322785f5aa576c1c8a752433cf3d59195b792a4db2be2bc66964d989764211", func := "loop.example/bitwords/laws.FnExactNextSame", spec := "fnExactNextSame", apart := false }
def FnExactNextSameSaid : Prop := fnExactNextSameRow.holds Try.pinned (OpenSpec.ofChange fnExactNextSameSpec)

/-- ITS FALSE NEIGHBOUR: 'it returns false'. Refute it at one input. -/
def fnExactNextSameWrong : ChangeSpec := { name := "fnExactNextSame", fn := fun _ => fun
  | [d1, d2] => { results := [.lit (.bool false)], args := [d1, d2] }
  | _ => none }
def FnExactNextSameWrongFalsely : Prop := fnExactNextSameRow.holds Try.pinned (OpenSpec.ofChange fnExactNextSameWrong)

/-- 'laws.FnExactAllSame': WHATEVER THE INPUT: true; the input reads as it did. -/
def fnExactAllSameSpec : ChangeSpec := { name := "fnExactAllSame", fn := fun _ => fun
  | [d1, d2] => { results := [.lit (.bool true)], args := [d1, d2] }
  | _ => none }
def fnExactAllSameRow : OpenClaim := { program := "ytgbgpibaincheaa", sum := "10322785f5aa576c1c8a752433cf3d59195b792a4db2be2bc66964d989764211", func := "loop.example/bitwords/laws.FnExactAllSame", spec := "fnExactAllSame", apart := false }
def FnExactAllSameSaid : Prop := fnExactAllSameRow.holds Try.pinned (OpenSpec.ofChange fnExactAllSameSpec)

/-- ITS FALSE NEIGHBOUR: 'it returns false'. Refute it at one input. -/
def fnExactAllSameWrong : ChangeSpec := { name := "fnExactAllSame", fn := fun _ => fun
  | [d1, d2] => { results := [.lit (.bool false)], args := [d1, d2] }
  | _ => none }
def FnExactAllSameWrongFalsely : Prop := fnExactAllSameRow.holds Try.pinned (OpenSpec.ofChange fnExactAllSameWrong)

/-- 'laws.FnPowerAbove': WHATEVER THE INPUT: true; the input reads as it did. -/
def fnPowerAboveSpec : ChangeSpec := { name := "fnPowerAbove", fn := fun _ => fun
  | [d] => { results := [.lit (.bool true)], args := [d] }
  | _ => none }
def fnPowerAboveRow : OpenClaim := { program := "ytgbgpibaincheaa", sum := "10322785f5aa576c1c8a752433cf3d59195b792a4db2be2bc66964d989764211", func := "loop.example/bitwords/laws.FnPowerAbove", spec := "fnPowerAbove", unfollowed := true, recurses := true, apart := false }
def FnPowerAboveSaid : Prop := fnPowerAboveRow.holds Try.pinned (OpenSpec.ofChange fnPowerAboveSpec)

/-- ITS FALSE NEIGHBOUR: 'it returns false'. Refute it at one input. -/
def fnPowerAboveWrong : ChangeSpec := { name := "fnPowerAbove", fn := fun _ => fun
  | [d] => { results := [.lit (.bool false)], args := [d] }
  | _ => none }
def FnPowerAboveWrongFalsely : Prop := fnPowerAboveRow.holds Try.pinned (OpenSpec.ofChange fnPowerAboveWrong)

/-- 'laws.FnZerosAbove': WHATEVER THE INPUT: true; the input reads as it did. -/
def fnZerosAboveSpec : ChangeSpec := { name := "fnZerosAbove", fn := fun _ => fun
  | [d] => { results := [.lit (.bool true)], args := [d] }
  | _ => none }
def fnZerosAboveRow : OpenClaim := { program := "ytgbgpibaincheaa", sum := "10322785f5aa576c1c8a752433cf3d59195b792a4db2be2bc66964d989764211", func := "loop.example/bitwords/laws.FnZerosAbove", spec := "fnZerosAbove", unfollowed := true, recurses := true, apart := false }
def FnZerosAboveSaid : Prop := fnZerosAboveRow.holds Try.pinned (OpenSpec.ofChange fnZerosAboveSpec)

/-- ITS FALSE NEIGHBOUR: 'it returns false'. Refute it at one input. -/
def fnZerosAboveWrong : ChangeSpec := { name := "fnZerosAbove", fn := fun _ => fun
  | [d] => { results := [.lit (.bool false)], args := [d] }
  | _ => none }
def FnZerosAboveWrongFalsely : Prop := fnZerosAboveRow.holds Try.pinned (OpenSpec.ofChange fnZerosAboveWrong)

/-- 'laws.FnGrayBack': WHATEVER THE INPUT: true; the input reads as it did. -/
def fnGrayBackSpec : ChangeSpec := { name := "fnGrayBack", fn := fun _ => fun
  | [d1, d2] => { results := [.lit (.bool true)], args := [d1, d2] }
  | _ => none }
def fnGrayBackRow : OpenClaim := { program := "ytgbgpibaincheaa", sum := "10322785f5aa576c1c8a752433cf3d59195b792a4db2be2bc66964d989764211", func := "loop.example/bitwords/laws.FnGrayBack", spec := "fnGrayBack", unfollowed := true, recurses := true, apart := false }
def FnGrayBackSaid : Prop := fnGrayBackRow.holds Try.pinned (OpenSpec.ofChange fnGrayBackSpec)

/-- ITS FALSE NEIGHBOUR: 'it returns false'. Refute it at one input. -/
def fnGrayBackWrong : ChangeSpec := { name := "fnGrayBack", fn := fun _ => fun
  | [d1, d2] => { results := [.lit (.bool false)], args := [d1, d2] }
  | _ => none }
def FnGrayBackWrongFalsely : Prop := fnGrayBackRow.holds Try.pinned (OpenSpec.ofChange fnGrayBackWrong)

/-- 'laws.FnZigzagBack': WHATEVER THE INPUT: true; the input reads as it did. -/
def fnZigzagBackSpec : ChangeSpec := { name := "fnZigzagBack", fn := fun _ => fun
  | [d] => { results := [.lit (.bool true)], args := [d] }
  | _ => none }
def fnZigzagBackRow : OpenClaim := { program := "ytgbgpibaincheaa", sum := "10322785f5aa576c1c8a752433cf3d59195b792a4db2be2bc66964d989764211", func := "loop.example/bitwords/laws.FnZigzagBack", spec := "fnZigzagBack", unfollowed := true, recurses := true, apart := false }
def FnZigzagBackSaid : Prop := fnZigzagBackRow.holds Try.pinned (OpenSpec.ofChange fnZigzagBackSpec)

/-- ITS FALSE NEIGHBOUR: 'it returns false'. Refute it at one input. -/
def fnZigzagBackWrong : ChangeSpec := { name := "fnZigzagBack", fn := fun _ => fun
  | [d] => { results := [.lit (.bool false)], args := [d] }
  | _ => none }
def FnZigzagBackWrongFalsely : Prop := fnZigzagBackRow.holds Try.pinned (OpenSpec.ofChange fnZigzagBackWrong)

/-- 'laws.FnZigzagOf': WHATEVER THE INPUT: true; the input reads as it did. -/
def fnZigzagOfSpec : ChangeSpec := { name := "fnZigzagOf", fn := fun _ => fun
  | [d] => { results := [.lit (.bool true)], args := [d] }
  | _ => none }
def fnZigzagOfRow : OpenClaim := { program := "ytgbgpibaincheaa", sum := "10322785f5aa576c1c8a752433cf3d59195b792a4db2be2bc66964d989764211", func := "loop.example/bitwords/laws.FnZigzagOf", spec := "fnZigzagOf", unfollowed := true, recurses := true, apart := false }
def FnZigzagOfSaid : Prop := fnZigzagOfRow.holds Try.pinned (OpenSpec.ofChange fnZigzagOfSpec)

/-- ITS FALSE NEIGHBOUR: 'it returns false'. Refute it at one input. -/
def fnZigzagOfWrong : ChangeSpec := { name := "fnZigzagOf", fn := fun _ => fun
  | [d] => { results := [.lit (.bool false)], args := [d] }
  | _ => none }
def FnZigzagOfWrongFalsely : Prop := fnZigzagOfRow.holds Try.pinned (OpenSpec.ofChange fnZigzagOfWrong)

/-- 'laws.FnOnesOf': WHATEVER THE INPUT: true; the input reads as it did. -/
def fnOnesOfSpec : ChangeSpec := { name := "fnOnesOf", fn := fun _ => fun
  | [d1, d2] => { results := [.lit (.bool true)], args := [d1, d2] }
  | _ => none }
def fnOnesOfRow : OpenClaim := { program := "ytgbgpibaincheaa", sum := "10322785f5aa576c1c8a752433cf3d59195b792a4db2be2bc66964d989764211", func := "loop.example/bitwords/laws.FnOnesOf", spec := "fnOnesOf", unfollowed := true, recurses := true, apart := false }
def FnOnesOfSaid : Prop := fnOnesOfRow.holds Try.pinned (OpenSpec.ofChange fnOnesOfSpec)

/-- ITS FALSE NEIGHBOUR: 'it returns false'. Refute it at one input. -/
def fnOnesOfWrong : ChangeSpec := { name := "fnOnesOf", fn := fun _ => fun
  | [d1, d2] => { results := [.lit (.bool false)], args := [d1, d2] }
  | _ => none }
def FnOnesOfWrongFalsely : Prop := fnOnesOfRow.holds Try.pinned (OpenSpec.ofChange fnOnesOfWrong)

/-- 'laws.FnParityOf': WHATEVER THE INPUT: true; the input reads as it did. -/
def fnParityOfSpec : ChangeSpec := { name := "fnParityOf", fn := fun _ => fun
  | [d1, d2] => { results := [.lit (.bool true)], args := [d1, d2] }
  | _ => none }
def fnParityOfRow : OpenClaim := { program := "ytgbgpibaincheaa", sum := "10322785f5aa576c1c8a752433cf3d59195b792a4db2be2bc66964d989764211", func := "loop.example/bitwords/laws.FnParityOf", spec := "fnParityOf", unfollowed := true, recurses := true, apart := false }
def FnParityOfSaid : Prop := fnParityOfRow.holds Try.pinned (OpenSpec.ofChange fnParityOfSpec)

/-- ITS FALSE NEIGHBOUR: 'it returns false'. Refute it at one input. -/
def fnParityOfWrong : ChangeSpec := { name := "fnParityOf", fn := fun _ => fun
  | [d1, d2] => { results := [.lit (.bool false)], args := [d1, d2] }
  | _ => none }
def FnParityOfWrongFalsely : Prop := fnParityOfRow.holds Try.pinned (OpenSpec.ofChange fnParityOfWrong)

/-- 'laws.FnFillBelow': WHATEVER THE INPUT: true; the input reads as it did. -/
def fnFillBelowSpec : ChangeSpec := { name := "fnFillBelow", fn := fun _ => fun
  | [d] => { results := [.lit (.bool true)], args := [d] }
  | _ => none }
def fnFillBelowRow : OpenClaim := { program := "ytgbgpibaincheaa", sum := "10322785f5aa576c1c8a752433cf3d59195b792a4db2be2bc66964d989764211", func := "loop.example/bitwords/laws.FnFillBelow", spec := "fnFillBelow", unfollowed := true, recurses := true, apart := false }
def FnFillBelowSaid : Prop := fnFillBelowRow.holds Try.pinned (OpenSpec.ofChange fnFillBelowSpec)

/-- ITS FALSE NEIGHBOUR: 'it returns false'. Refute it at one input. -/
def fnFillBelowWrong : ChangeSpec := { name := "fnFillBelow", fn := fun _ => fun
  | [d] => { results := [.lit (.bool false)], args := [d] }
  | _ => none }
def FnFillBelowWrongFalsely : Prop := fnFillBelowRow.holds Try.pinned (OpenSpec.ofChange fnFillBelowWrong)

/-- 'laws.FnGrayOf': WHATEVER THE INPUT: true; the input reads as it did. -/
def fnGrayOfSpec : ChangeSpec := { name := "fnGrayOf", fn := fun _ => fun
  | [d] => { results := [.lit (.bool true)], args := [d] }
  | _ => none }
def fnGrayOfRow : OpenClaim := { program := "ytgbgpibaincheaa", sum := "10322785f5aa576c1c8a752433cf3d59195b792a4db2be2bc66964d989764211", func := "loop.example/bitwords/laws.FnGrayOf", spec := "fnGrayOf", unfollowed := true, recurses := true, apart := false }
def FnGrayOfSaid : Prop := fnGrayOfRow.holds Try.pinned (OpenSpec.ofChange fnGrayOfSpec)

/-- ITS FALSE NEIGHBOUR: 'it returns false'. Refute it at one input. -/
def fnGrayOfWrong : ChangeSpec := { name := "fnGrayOf", fn := fun _ => fun
  | [d] => { results := [.lit (.bool false)], args := [d] }
  | _ => none }
def FnGrayOfWrongFalsely : Prop := fnGrayOfRow.holds Try.pinned (OpenSpec.ofChange fnGrayOfWrong)

/-- 'laws.FnAllSame': WHATEVER THE INPUT: true; the input reads as it did. -/
def fnAllSameSpec : ChangeSpec := { name := "fnAllSame", fn := fun _ => fun
  | [d] => { results := [.lit (.bool true)], args := [d] }
  | _ => none }
def fnAllSameRow : OpenClaim := { program := "ytgbgpibaincheaa", sum := "10322785f5aa576c1c8a752433cf3d59195b792a4db2be2bc66964d989764211", func := "loop.example/bitwords/laws.FnAllSame", spec := "fnAllSame", unfollowed := true, recurses := true, apart := false }
def FnAllSameSaid : Prop := fnAllSameRow.holds Try.pinned (OpenSpec.ofChange fnAllSameSpec)

/-- ITS FALSE NEIGHBOUR: 'it returns false'. Refute it at one input. -/
def fnAllSameWrong : ChangeSpec := { name := "fnAllSame", fn := fun _ => fun
  | [d] => { results := [.lit (.bool false)], args := [d] }
  | _ => none }
def FnAllSameWrongFalsely : Prop := fnAllSameRow.holds Try.pinned (OpenSpec.ofChange fnAllSameWrong)

/-- 'laws.FnOnesSteps': WHATEVER THE INPUT: true; the input reads as it did. -/
def fnOnesStepsSpec : ChangeSpec := { name := "fnOnesSteps", fn := fun _ => fun
  | [d] => { results := [.lit (.bool true)], args := [d] }
  | _ => none }
def fnOnesStepsRow : OpenClaim := { program := "ytgbgpibaincheaa", sum := "10322785f5aa576c1c8a752433cf3d59195b792a4db2be2bc66964d989764211", func := "loop.example/bitwords/laws.FnOnesSteps", spec := "fnOnesSteps", unfollowed := true, recurses := true, apart := false }
def FnOnesStepsSaid : Prop := fnOnesStepsRow.holds Try.pinned (OpenSpec.ofChange fnOnesStepsSpec)

/-- ITS FALSE NEIGHBOUR: 'it returns false'. Refute it at one input. -/
def fnOnesStepsWrong : ChangeSpec := { name := "fnOnesSteps", fn := fun _ => fun
  | [d] => { results := [.lit (.bool false)], args := [d] }
  | _ => none }
def FnOnesStepsWrongFalsely : Prop := fnOnesStepsRow.holds Try.pinned (OpenSpec.ofChange fnOnesStepsWrong)

/-- 'laws.FnNextSame': WHATEVER THE INPUT: true; the input reads as it did. -/
def fnNextSameSpec : ChangeSpec := { name := "fnNextSame", fn := fun _ => fun
  | [d] => { results := [.lit (.bool true)], args := [d] }
  | _ => none }
def fnNextSameRow : OpenClaim := { program := "ytgbgpibaincheaa", sum := "10322785f5aa576c1c8a752433cf3d59195b792a4db2be2bc66964d989764211", func := "loop.example/bitwords/laws.FnNextSame", spec := "fnNextSame", unfollowed := true, recurses := true, apart := false }
def FnNextSameSaid : Prop := fnNextSameRow.holds Try.pinned (OpenSpec.ofChange fnNextSameSpec)

/-- ITS FALSE NEIGHBOUR: 'it returns false'. Refute it at one input. -/
def fnNextSameWrong : ChangeSpec := { name := "fnNextSame", fn := fun _ => fun
  | [d] => { results := [.lit (.bool false)], args := [d] }
  | _ => none }
def FnNextSameWrongFalsely : Prop := fnNextSameRow.holds Try.pinned (OpenSpec.ofChange fnNextSameWrong)

/- THE SECOND FORM. 'bulk': how many values and letters a reading holds, each counted each time it is reached (what is shared counts as often as it is met; a slice's spare places count too). A statement '..UptoSaid' is the law's where the arguments, and the package variables that the reading takes, are together of bulk at most 1048576: NARROWER than '..Said'. Prove '..Said' where nothing that the law and all that it calls make is longer than what came in: it says more and counts as full. Else prove '..UptoSaid'. A law counts once. -/
mutual
def uptoBulk {H : Type} : DataW H → Nat
  | .lit (.string bytes) => bytes.length + 1
  | .lit _ => 1
  | .nil => 1
  | .ptr d => uptoBulk d + 1
  | .slice elems spare => uptoBulkAll elems + uptoBulkAll spare + 1
  | .agg parts => uptoBulkAll parts + 1
  | .iface _ d => uptoBulk d + 1
  | .map entries => uptoBulkEntries entries + 1
  | .held _ => 1
def uptoBulkAll {H : Type} : List (DataW H) → Nat
  | [] => 0
  | d :: r => uptoBulk d + uptoBulkAll r
def uptoBulkEntries {H : Type} : List (Lit × DataW H) → Nat
  | [] => 0
  | x :: r => uptoBulkEntry x + uptoBulkEntries r
def uptoBulkEntry {H : Type} : Lit × DataW H → Nat
  | (.string bytes, d) => bytes.length + uptoBulk d + 1
  | (_, d) => uptoBulk d + 1
 end
def uptoSmall : (H : Type) → List (DataW H) → Bool := fun _ ds => decide (uptoBulkAll ds ≤ 1048576)
def OpenSpec.upto (s : _root_.Go.ChangeSpec) : _root_.Go.OpenSpec := { _root_.Go.OpenSpec.ofChange s with cond := some uptoSmall }

/-- 'laws.FnExactZerosAbove', WHERE WHAT IT READS IS OF BULK AT MOST 1048576: true; the input reads as it did. -/
def fnExactZerosAboveUptoRow : OpenClaim := { program := "ytgbgpibaincheaa", sum := "10322785f5aa576c1c8a752433cf3d59195b792a4db2be2bc66964d989764211", func := "loop.example/bitwords/laws.FnExactZerosAbove", spec := "fnExactZerosAbove", apart := false, narrowed := true }
def FnExactZerosAboveUptoSaid : Prop := fnExactZerosAboveUptoRow.holds Try.pinned (OpenSpec.upto fnExactZerosAboveSpec)

/-- 'laws.FnExactOnesOf', WHERE WHAT IT READS IS OF BULK AT MOST 1048576: true; the input reads as it did. -/
def fnExactOnesOfUptoRow : OpenClaim := { program := "ytgbgpibaincheaa", sum := "10322785f5aa576c1c8a752433cf3d59195b792a4db2be2bc66964d989764211", func := "loop.example/bitwords/laws.FnExactOnesOf", spec := "fnExactOnesOf", apart := false, narrowed := true }
def FnExactOnesOfUptoSaid : Prop := fnExactOnesOfUptoRow.holds Try.pinned (OpenSpec.upto fnExactOnesOfSpec)

/-- 'laws.FnExactFillBelow', WHERE WHAT IT READS IS OF BULK AT MOST 1048576: true; the input reads as it did. -/
def fnExactFillBelowUptoRow : OpenClaim := { program := "ytgbgpibaincheaa", sum := "10322785f5aa576c1c8a752433cf3d59195b792a4db2be2bc66964d989764211", func := "loop.example/bitwords/laws.FnExactFillBelow", spec := "fnExactFillBelow", unfollowed := true, recurses := true, apart := false, narrowed := true }
def FnExactFillBelowUptoSaid : Prop := fnExactFillBelowUptoRow.holds Try.pinned (OpenSpec.upto fnExactFillBelowSpec)

/-- 'laws.FnExactParityOf', WHERE WHAT IT READS IS OF BULK AT MOST 1048576: true; the input reads as it did. -/
def fnExactParityOfUptoRow : OpenClaim := { program := "ytgbgpibaincheaa", sum := "10322785f5aa576c1c8a752433cf3d59195b792a4db2be2bc66964d989764211", func := "loop.example/bitwords/laws.FnExactParityOf", spec := "fnExactParityOf", apart := false, narrowed := true }
def FnExactParityOfUptoSaid : Prop := fnExactParityOfUptoRow.holds Try.pinned (OpenSpec.upto fnExactParityOfSpec)

/-- 'laws.FnExactOnesSteps', WHERE WHAT IT READS IS OF BULK AT MOST 1048576: true; the input reads as it did. -/
def fnExactOnesStepsUptoRow : OpenClaim := { program := "ytgbgpibaincheaa", sum := "10322785f5aa576c1c8a752433cf3d59195b792a4db2be2bc66964d989764211", func := "loop.example/bitwords/laws.FnExactOnesSteps", spec := "fnExactOnesSteps", apart := false, narrowed := true }
def FnExactOnesStepsUptoSaid : Prop := fnExactOnesStepsUptoRow.holds Try.pinned (OpenSpec.upto fnExactOnesStepsSpec)

/-- 'laws.FnExactNextSame', WHERE WHAT IT READS IS OF BULK AT MOST 1048576: true; the input reads as it did. -/
def fnExactNextSameUptoRow : OpenClaim := { program := "ytgbgpibaincheaa", sum := "10322785f5aa576c1c8a752433cf3d59195b792a4db2be2bc66964d989764211", func := "loop.example/bitwords/laws.FnExactNextSame", spec := "fnExactNextSame", apart := false, narrowed := true }
def FnExactNextSameUptoSaid : Prop := fnExactNextSameUptoRow.holds Try.pinned (OpenSpec.upto fnExactNextSameSpec)

/-- 'laws.FnExactAllSame', WHERE WHAT IT READS IS OF BULK AT MOST 1048576: true; the input reads as it did. -/
def fnExactAllSameUptoRow : OpenClaim := { program := "ytgbgpibaincheaa", sum := "10322785f5aa576c1c8a752433cf3d59195b792a4db2be2bc66964d989764211", func := "loop.example/bitwords/laws.FnExactAllSame", spec := "fnExactAllSame", apart := false, narrowed := true }
def FnExactAllSameUptoSaid : Prop := fnExactAllSameUptoRow.holds Try.pinned (OpenSpec.upto fnExactAllSameSpec)

/-- 'laws.FnPowerAbove', WHERE WHAT IT READS IS OF BULK AT MOST 1048576: true; the input reads as it did. -/
def fnPowerAboveUptoRow : OpenClaim := { program := "ytgbgpibaincheaa", sum := "10322785f5aa576c1c8a752433cf3d59195b792a4db2be2bc66964d989764211", func := "loop.example/bitwords/laws.FnPowerAbove", spec := "fnPowerAbove", unfollowed := true, recurses := true, apart := false, narrowed := true }
def FnPowerAboveUptoSaid : Prop := fnPowerAboveUptoRow.holds Try.pinned (OpenSpec.upto fnPowerAboveSpec)

/-- 'laws.FnZerosAbove', WHERE WHAT IT READS IS OF BULK AT MOST 1048576: true; the input reads as it did. -/
def fnZerosAboveUptoRow : OpenClaim := { program := "ytgbgpibaincheaa", sum := "10322785f5aa576c1c8a752433cf3d59195b792a4db2be2bc66964d989764211", func := "loop.example/bitwords/laws.FnZerosAbove", spec := "fnZerosAbove", unfollowed := true, recurses := true, apart := false, narrowed := true }
def FnZerosAboveUptoSaid : Prop := fnZerosAboveUptoRow.holds Try.pinned (OpenSpec.upto fnZerosAboveSpec)

/-- 'laws.FnGrayBack', WHERE WHAT IT READS IS OF BULK AT MOST 1048576: true; the input reads as it did. -/
def fnGrayBackUptoRow : OpenClaim := { program := "ytgbgpibaincheaa", sum := "10322785f5aa576c1c8a752433cf3d59195b792a4db2be2bc66964d989764211", func := "loop.example/bitwords/laws.FnGrayBack", spec := "fnGrayBack", unfollowed := true, recurses := true, apart := false, narrowed := true }
def FnGrayBackUptoSaid : Prop := fnGrayBackUptoRow.holds Try.pinned (OpenSpec.upto fnGrayBackSpec)

/-- 'laws.FnZigzagBack', WHERE WHAT IT READS IS OF BULK AT MOST 1048576: true; the input reads as it did. -/
def fnZigzagBackUptoRow : OpenClaim := { program := "ytgbgpibaincheaa", sum := "10322785f5aa576c1c8a752433cf3d59195b792a4db2be2bc66964d989764211", func := "loop.example/bitwords/laws.FnZigzagBack", spec := "fnZigzagBack", unfollowed := true, recurses := true, apart := false, narrowed := true }
def FnZigzagBackUptoSaid : Prop := fnZigzagBackUptoRow.holds Try.pinned (OpenSpec.upto fnZigzagBackSpec)

/-- 'laws.FnZigzagOf', WHERE WHAT IT READS IS OF BULK AT MOST 1048576: true; the input reads as it did. -/
def fnZigzagOfUptoRow : OpenClaim := { program := "ytgbgpibaincheaa", sum := "10322785f5aa576c1c8a752433cf3d59195b792a4db2be2bc66964d989764211", func := "loop.example/bitwords/laws.FnZigzagOf", spec := "fnZigzagOf", unfollowed := true, recurses := true, apart := false, narrowed := true }
def FnZigzagOfUptoSaid : Prop := fnZigzagOfUptoRow.holds Try.pinned (OpenSpec.upto fnZigzagOfSpec)

/-- 'laws.FnOnesOf', WHERE WHAT IT READS IS OF BULK AT MOST 1048576: true; the input reads as it did. -/
def fnOnesOfUptoRow : OpenClaim := { program := "ytgbgpibaincheaa", sum := "10322785f5aa576c1c8a752433cf3d59195b792a4db2be2bc66964d989764211", func := "loop.example/bitwords/laws.FnOnesOf", spec := "fnOnesOf", unfollowed := true, recurses := true, apart := false, narrowed := true }
def FnOnesOfUptoSaid : Prop := fnOnesOfUptoRow.holds Try.pinned (OpenSpec.upto fnOnesOfSpec)

/-- 'laws.FnParityOf', WHERE WHAT IT READS IS OF BULK AT MOST 1048576: true; the input reads as it did. -/
def fnParityOfUptoRow : OpenClaim := { program := "ytgbgpibaincheaa", sum := "10322785f5aa576c1c8a752433cf3d59195b792a4db2be2bc66964d989764211", func := "loop.example/bitwords/laws.FnParityOf", spec := "fnParityOf", unfollowed := true, recurses := true, apart := false, narrowed := true }
def FnParityOfUptoSaid : Prop := fnParityOfUptoRow.holds Try.pinned (OpenSpec.upto fnParityOfSpec)

/-- 'laws.FnFillBelow', WHERE WHAT IT READS IS OF BULK AT MOST 1048576: true; the input reads as it did. -/
def fnFillBelowUptoRow : OpenClaim := { program := "ytgbgpibaincheaa", sum := "10322785f5aa576c1c8a752433cf3d59195b792a4db2be2bc66964d989764211", func := "loop.example/bitwords/laws.FnFillBelow", spec := "fnFillBelow", unfollowed := true, recurses := true, apart := false, narrowed := true }
def FnFillBelowUptoSaid : Prop := fnFillBelowUptoRow.holds Try.pinned (OpenSpec.upto fnFillBelowSpec)

/-- 'laws.FnGrayOf', WHERE WHAT IT READS IS OF BULK AT MOST 1048576: true; the input reads as it did. -/
def fnGrayOfUptoRow : OpenClaim := { program := "ytgbgpibaincheaa", sum := "10322785f5aa576c1c8a752433cf3d59195b792a4db2be2bc66964d989764211", func := "loop.example/bitwords/laws.FnGrayOf", spec := "fnGrayOf", unfollowed := true, recurses := true, apart := false, narrowed := true }
def FnGrayOfUptoSaid : Prop := fnGrayOfUptoRow.holds Try.pinned (OpenSpec.upto fnGrayOfSpec)

/-- 'laws.FnAllSame', WHERE WHAT IT READS IS OF BULK AT MOST 1048576: true; the input reads as it did. -/
def fnAllSameUptoRow : OpenClaim := { program := "ytgbgpibaincheaa", sum := "10322785f5aa576c1c8a752433cf3d59195b792a4db2be2bc66964d989764211", func := "loop.example/bitwords/laws.FnAllSame", spec := "fnAllSame", unfollowed := true, recurses := true, apart := false, narrowed := true }
def FnAllSameUptoSaid : Prop := fnAllSameUptoRow.holds Try.pinned (OpenSpec.upto fnAllSameSpec)

/-- 'laws.FnOnesSteps', WHERE WHAT IT READS IS OF BULK AT MOST 1048576: true; the input reads as it did. -/
def fnOnesStepsUptoRow : OpenClaim := { program := "ytgbgpibaincheaa", sum := "10322785f5aa576c1c8a752433cf3d59195b792a4db2be2bc66964d989764211", func := "loop.example/bitwords/laws.FnOnesSteps", spec := "fnOnesSteps", unfollowed := true, recurses := true, apart := false, narrowed := true }
def FnOnesStepsUptoSaid : Prop := fnOnesStepsUptoRow.holds Try.pinned (OpenSpec.upto fnOnesStepsSpec)

/-- 'laws.FnNextSame', WHERE WHAT IT READS IS OF BULK AT MOST 1048576: true; the input reads as it did. -/
def fnNextSameUptoRow : OpenClaim := { program := "ytgbgpibaincheaa", sum := "10322785f5aa576c1c8a752433cf3d59195b792a4db2be2bc66964d989764211", func := "loop.example/bitwords/laws.FnNextSame", spec := "fnNextSame", unfollowed := true, recurses := true, apart := false, narrowed := true }
def FnNextSameUptoSaid : Prop := fnNextSameUptoRow.holds Try.pinned (OpenSpec.upto fnNextSameSpec)

end Rows
end Go.Proofs.Ytgbgpibaincheaa
