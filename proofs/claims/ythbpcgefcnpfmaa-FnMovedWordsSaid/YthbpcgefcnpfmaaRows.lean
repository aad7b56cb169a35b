/-
  No cell of these rows narrows 'for every input' (looked for: loops, veiled, ifaces, maps, wideKeys, modest, calm, conditions, laid).
  DERIVED. THE GIVEN ROWS OF THIS SEAT. 11 by the template 'for every input the law returns true; each argument reads behind the call as it read before'; 0 by the template 'total and deterministic' (their statements: YthbpcgefcnpfmaaTotals.lean).
  GIVEN WITH THE SEED: the statements are not yours to turn. If you find one false, say at which input.
  Laid BY PROGRAM, IN A SANDBOX (cutbox-rows.mjs): the forced cells as the released guide's own fill.sh prints them over the translation 33c8dedb379ffe61… (all of the seat's roots in one cut). By AI agents, Wed Nov 11 2026. No macro, syntax, notation, axiom, sorry.
-/
import Derived.Test.YthbpcgefcnpfmaaChecked
import GoSem.Claim
import GoSem.ClaimJoined
import GoSem.ClaimMapViews
import Derived.JoinedTies
import Derived.KernelRfl
namespace Go.Proofs.Ythbpcgefcnpfmaa
/- THE CELL 'sum', in the pinned program and in every row, IS THE sha256 OF THE DUMP (.gsa) THAT YthbpcgefcnpfmaaProg.lean LOADS. Nothing in Lean hashes anything: it is a label: what it is worth is what the hold of that sum in a sandbox is worth. -/
noncomputable def Try.pinned : Pinned := { name := "ythbpcgefcnpfmaa", sum := "33c8dedb379ffe61a46d53cb0608863dd7b142022f5c4eacd1d5f5cbd668becf", checked := Try.checked }
namespace Rows
def none {H : Type} : Left H := { results := [], args := [] }

/-- 'laws.FnExactBoothTimes': WHATEVER THE INPUT: true; the input reads as it did. -/
def fnExactBoothTimesSpec : ChangeSpec := { name := "fnExactBoothTimes", fn := fun _ => fun
  | [d1, d2, d3] => { results := [.lit (.bool true)], args := [d1, d2, d3] }
  | _ => none }
def fnExactBoothTimesRow : OpenClaim := { program := "ythbpcgefcnpfmaa", sum := "33c8dedb379ffe61a46d53cb0608863dd7b142022f5c4eacd1d5f5cbd668becf", func := "loop.example/bitwords/laws.FnExactBoothTimes", spec := "fnExactBoothTimes", apart := false }
def FnExactBoothTimesSaid : Prop := fnExactBoothTimesRow.holds Try.pinned (OpenSpec.ofChange fnExactBoothTimesSpec)

/-- ITS FALSE NEIGHBOUR: 'it returns false'. Refute it at one input. -/
def fnExactBoothTimesWrong : ChangeSpec := { name := "fnExactBoothTimes", fn := fun _ => fun
  | [d1, d2, d3] => { results := [.lit (.bool false)], args := [d1, d2, d3] }
  | _ => none }
def FnExactBoothTimesWrongFalsely : Prop := fnExactBoothTimesRow.holds Try.pinned (OpenSpec.ofChange fnExactBoothTimesWrong)

/-- 'laws.FnWordDivide': WHATEVER THE INPUT: true; the input reads as it did. -/
def fnWordDivideSpec : ChangeSpec := { name := "fnWordDivide", fn := fun _ => fun
  | [d] => { results := [.lit (.bool true)], args := [d] }
  | _ => none }
def fnWordDivideRow : OpenClaim := { program := "ythbpcgefcnpfmaa", sum := "33c8dedb379ffe61a46d53cb0608863dd7b142022f5c4eacd1d5f5cbd668becf", func := "loop.example/bitwords/laws.FnWordDivide", spec := "fnWordDivide", unfollowed := true, recurses := true, apart := false }
def FnWordDivideSaid : Prop := fnWordDivideRow.holds Try.pinned (OpenSpec.ofChange fnWordDivideSpec)

/-- ITS FALSE NEIGHBOUR: 'it returns false'. Refute it at one input. -/
def fnWordDivideWrong : ChangeSpec := { name := "fnWordDivide", fn := fun _ => fun
  | [d] => { results := [.lit (.bool false)], args := [d] }
  | _ => none }
def FnWordDivideWrongFalsely : Prop := fnWordDivideRow.holds Try.pinned (OpenSpec.ofChange fnWordDivideWrong)

/-- 'laws.FnWideTimes': WHATEVER THE INPUT: true; the input reads as it did. -/
def fnWideTimesSpec : ChangeSpec := { name := "fnWideTimes", fn := fun _ => fun
  | [d] => { results := [.lit (.bool true)], args := [d] }
  | _ => none }
def fnWideTimesRow : OpenClaim := { program := "ythbpcgefcnpfmaa", sum := "33c8dedb379ffe61a46d53cb0608863dd7b142022f5c4eacd1d5f5cbd668becf", func := "loop.example/bitwords/laws.FnWideTimes", spec := "fnWideTimes", unfollowed := true, recurses := true, apart := false }
def FnWideTimesSaid : Prop := fnWideTimesRow.holds Try.pinned (OpenSpec.ofChange fnWideTimesSpec)

/-- ITS FALSE NEIGHBOUR: 'it returns false'. Refute it at one input. -/
def fnWideTimesWrong : ChangeSpec := { name := "fnWideTimes", fn := fun _ => fun
  | [d] => { results := [.lit (.bool false)], args := [d] }
  | _ => none }
def FnWideTimesWrongFalsely : Prop := fnWideTimesRow.holds Try.pinned (OpenSpec.ofChange fnWideTimesWrong)

/-- 'laws.FnHalfTimes': WHATEVER THE INPUT: true; the input reads as it did. -/
def fnHalfTimesSpec : ChangeSpec := { name := "fnHalfTimes", fn := fun _ => fun
  | [d] => { results := [.lit (.bool true)], args := [d] }
  | _ => none }
def fnHalfTimesRow : OpenClaim := { program := "ythbpcgefcnpfmaa", sum := "33c8dedb379ffe61a46d53cb0608863dd7b142022f5c4eacd1d5f5cbd668becf", func := "loop.example/bitwords/laws.FnHalfTimes", spec := "fnHalfTimes", unfollowed := true, recurses := true, apart := false }
def FnHalfTimesSaid : Prop := fnHalfTimesRow.holds Try.pinned (OpenSpec.ofChange fnHalfTimesSpec)

/-- ITS FALSE NEIGHBOUR: 'it returns false'. Refute it at one input. -/
def fnHalfTimesWrong : ChangeSpec := { name := "fnHalfTimes", fn := fun _ => fun
  | [d] => { results := [.lit (.bool false)], args := [d] }
  | _ => none }
def FnHalfTimesWrongFalsely : Prop := fnHalfTimesRow.holds Try.pinned (OpenSpec.ofChange fnHalfTimesWrong)

/-- 'laws.FnSignedHigh': WHATEVER THE INPUT: true; the input reads as it did. -/
def fnSignedHighSpec : ChangeSpec := { name := "fnSignedHigh", fn := fun _ => fun
  | [d] => { results := [.lit (.bool true)], args := [d] }
  | _ => none }
def fnSignedHighRow : OpenClaim := { program := "ythbpcgefcnpfmaa", sum := "33c8dedb379ffe61a46d53cb0608863dd7b142022f5c4eacd1d5f5cbd668becf", func := "loop.example/bitwords/laws.FnSignedHigh", spec := "fnSignedHigh", unfollowed := true, recurses := true, apart := false }
def FnSignedHighSaid : Prop := fnSignedHighRow.holds Try.pinned (OpenSpec.ofChange fnSignedHighSpec)

/-- ITS FALSE NEIGHBOUR: 'it returns false'. Refute it at one input. -/
def fnSignedHighWrong : ChangeSpec := { name := "fnSignedHigh", fn := fun _ => fun
  | [d] => { results := [.lit (.bool false)], args := [d] }
  | _ => none }
def FnSignedHighWrongFalsely : Prop := fnSignedHighRow.holds Try.pinned (OpenSpec.ofChange fnSignedHighWrong)

/-- 'laws.FnSignedDivide': WHATEVER THE INPUT: true; the input reads as it did. -/
def fnSignedDivideSpec : ChangeSpec := { name := "fnSignedDivide", fn := fun _ => fun
  | [d] => { results := [.lit (.bool true)], args := [d] }
  | _ => none }
def fnSignedDivideRow : OpenClaim := { program := "ythbpcgefcnpfmaa", sum := "33c8dedb379ffe61a46d53cb0608863dd7b142022f5c4eacd1d5f5cbd668becf", func := "loop.example/bitwords/laws.FnSignedDivide", spec := "fnSignedDivide", unfollowed := true, recurses := true, apart := false }
def FnSignedDivideSaid : Prop := fnSignedDivideRow.holds Try.pinned (OpenSpec.ofChange fnSignedDivideSpec)

/-- ITS FALSE NEIGHBOUR: 'it returns false'. Refute it at one input. -/
def fnSignedDivideWrong : ChangeSpec := { name := "fnSignedDivide", fn := fun _ => fun
  | [d] => { results := [.lit (.bool false)], args := [d] }
  | _ => none }
def FnSignedDivideWrongFalsely : Prop := fnSignedDivideRow.holds Try.pinned (OpenSpec.ofChange fnSignedDivideWrong)

/-- 'laws.FnDivideSigns': WHATEVER THE INPUT: true; the input reads as it did. -/
def fnDivideSignsSpec : ChangeSpec := { name := "fnDivideSigns", fn := fun _ => fun
  | [d] => { results := [.lit (.bool true)], args := [d] }
  | _ => none }
def fnDivideSignsRow : OpenClaim := { program := "ythbpcgefcnpfmaa", sum := "33c8dedb379ffe61a46d53cb0608863dd7b142022f5c4eacd1d5f5cbd668becf", func := "loop.example/bitwords/laws.FnDivideSigns", spec := "fnDivideSigns", unfollowed := true, recurses := true, apart := false }
def FnDivideSignsSaid : Prop := fnDivideSignsRow.holds Try.pinned (OpenSpec.ofChange fnDivideSignsSpec)

/-- ITS FALSE NEIGHBOUR: 'it returns false'. Refute it at one input. -/
def fnDivideSignsWrong : ChangeSpec := { name := "fnDivideSigns", fn := fun _ => fun
  | [d] => { results := [.lit (.bool false)], args := [d] }
  | _ => none }
def FnDivideSignsWrongFalsely : Prop := fnDivideSignsRow.holds Try.pinned (OpenSpec.ofChange fnDivideSignsWrong)

/-- 'laws.FnBoothDigits': WHATEVER THE INPUT: true; the input reads as it did. -/
def fnBoothDigitsSpec : ChangeSpec := { name := "fnBoothDigits", fn := fun _ => fun
  | [d] => { results := [.lit (.bool true)], args := [d] }
  | _ => none }
def fnBoothDigitsRow : OpenClaim := { program := "ythbpcgefcnpfmaa", sum := "33c8dedb379ffe61a46d53cb0608863dd7b142022f5c4eacd1d5f5cbd668becf", func := "loop.example/bitwords/laws.FnBoothDigits", spec := "fnBoothDigits", unfollowed := true, recurses := true, apart := false }
def FnBoothDigitsSaid : Prop := fnBoothDigitsRow.holds Try.pinned (OpenSpec.ofChange fnBoothDigitsSpec)

/-- ITS FALSE NEIGHBOUR: 'it returns false'. Refute it at one input. -/
def fnBoothDigitsWrong : ChangeSpec := { name := "fnBoothDigits", fn := fun _ => fun
  | [d] => { results := [.lit (.bool false)], args := [d] }
  | _ => none }
def FnBoothDigitsWrongFalsely : Prop := fnBoothDigitsRow.holds Try.pinned (OpenSpec.ofChange fnBoothDigitsWrong)

/-- 'laws.FnMovedWords': WHATEVER THE INPUT: true; the input reads as it did. -/
def fnMovedWordsSpec : ChangeSpec := { name := "fnMovedWords", fn := fun _ => fun
  | [d] => { results := [.lit (.bool true)], args := [d] }
  | _ => none }
def fnMovedWordsRow : OpenClaim := { program := "ythbpcgefcnpfmaa", sum := "33c8dedb379ffe61a46d53cb0608863dd7b142022f5c4eacd1d5f5cbd668becf", func := "loop.example/bitwords/laws.FnMovedWords", spec := "fnMovedWords", unfollowed := true, recurses := true, apart := false }
def FnMovedWordsSaid : Prop := fnMovedWordsRow.holds Try.pinned (OpenSpec.ofChange fnMovedWordsSpec)

/-- ITS FALSE NEIGHBOUR: 'it returns false'. Refute it at one input. -/
def fnMovedWordsWrong : ChangeSpec := { name := "fnMovedWords", fn := fun _ => fun
  | [d] => { results := [.lit (.bool false)], args := [d] }
  | _ => none }
def FnMovedWordsWrongFalsely : Prop := fnMovedWordsRow.holds Try.pinned (OpenSpec.ofChange fnMovedWordsWrong)

/-- 'laws.FnDivideSteps': WHATEVER THE INPUT: true; the input reads as it did. -/
def fnDivideStepsSpec : ChangeSpec := { name := "fnDivideSteps", fn := fun _ => fun
  | [d] => { results := [.lit (.bool true)], args := [d] }
  | _ => none }
def fnDivideStepsRow : OpenClaim := { program := "ythbpcgefcnpfmaa", sum := "33c8dedb379ffe61a46d53cb0608863dd7b142022f5c4eacd1d5f5cbd668becf", func := "loop.example/bitwords/laws.FnDivideSteps", spec := "fnDivideSteps", unfollowed := true, recurses := true, apart := false }
def FnDivideStepsSaid : Prop := fnDivideStepsRow.holds Try.pinned (OpenSpec.ofChange fnDivideStepsSpec)

/-- ITS FALSE NEIGHBOUR: 'it returns false'. Refute it at one input. -/
def fnDivideStepsWrong : ChangeSpec := { name := "fnDivideSteps", fn := fun _ => fun
  | [d] => { results := [.lit (.bool false)], args := [d] }
  | _ => none }
def FnDivideStepsWrongFalsely : Prop := fnDivideStepsRow.holds Try.pinned (OpenSpec.ofChange fnDivideStepsWrong)

/-- 'laws.FnBoothTimes': WHATEVER THE INPUT: true; the input reads as it did. -/
def fnBoothTimesSpec : ChangeSpec := { name := "fnBoothTimes", fn := fun _ => fun
  | [d] => { results := [.lit (.bool true)], args := [d] }
  | _ => none }
def fnBoothTimesRow : OpenClaim := { program := "ythbpcgefcnpfmaa", sum := "33c8dedb379ffe61a46d53cb0608863dd7b142022f5c4eacd1d5f5cbd668becf", func := "loop.example/bitwords/laws.FnBoothTimes", spec := "fnBoothTimes", unfollowed := true, recurses := true, apart := false }
def FnBoothTimesSaid : Prop := fnBoothTimesRow.holds Try.pinned (OpenSpec.ofChange fnBoothTimesSpec)

/-- ITS FALSE NEIGHBOUR: 'it returns false'. Refute it at one input. -/
def fnBoothTimesWrong : ChangeSpec := { name := "fnBoothTimes", fn := fun _ => fun
  | [d] => { results := [.lit (.bool false)], args := [d] }
  | _ => none }
def FnBoothTimesWrongFalsely : Prop := fnBoothTimesRow.holds Try.pinned (OpenSpec.ofChange fnBoothTimesWrong)

/- THE SECOND FORM. 'bulk': how many values and letters a reading holds, each counted each time it is reached (what is shared counts as often as it is met; a slice's spare places count too). A statement '..UptoSaid' is the law's where the arguments, and the package variables that the reading takes, are together of bulk at most 1048576: NARROWER than '..Said'. Prove '..Said' where nothing that the law and all that it calls make is longer than what came in: it says more and counts as full. Else prove '..UptoSaid'. A law counts once. -/
mutual
def uptoBulk {H : Type} : DataW H → Nat
  | .lit (.string bytes) => bytes.length + 1
  | .lit _ => 1
  | .nil => 1
  | .ptr d => uptoBulk d + 1
  | .slice elems spare => uptoBulkAll elems + uptoBulkAll spare + 1
  | .agg parts => uptoBulkAll parts + 1
  | .iface _ d => uptoBulk d + 1
  | .map entries => uptoBulkEntries entries + 1
  | .held _ => 1
def uptoBulkAll {H : Type} : List (DataW H) → Nat
  | [] => 0
  | d :: r => uptoBulk d + uptoBulkAll r
def uptoBulkEntries {H : Type} : List (Lit × DataW H) → Nat
  | [] => 0
  | x :: r => uptoBulkEntry x + uptoBulkEntries r
def uptoBulkEntry {H : Type} : Lit × DataW H → Nat
  | (.string bytes, d) => bytes.length + uptoBulk d + 1
  | (_, d) => uptoBulk d + 1
 end
def uptoSmall : (H : Type) → List (DataW H) → Bool := fun _ ds => decide (uptoBulkAll ds ≤ 1048576)
def OpenSpec.upto (s : _root_.Go.ChangeSpec) : _root_.Go.OpenSpec := { _root_.Go.OpenSpec.ofChange s with cond := some uptoSmall }

/-- 'laws.FnExactBoothTimes', WHERE WHAT IT READS IS OF BULK AT MOST 1048576: true; the input reads as it did. -/
def fnExactBoothTimesUptoRow : OpenClaim := { program := "ythbpcgefcnpfmaa", sum := "33c8dedb379ffe61a46d53cb0608863dd7b142022f5c4eacd1d5f5cbd668becf", func := "loop.example/bitwords/laws.FnExactBoothTimes", spec := "fnExactBoothTimes", apart := false, narrowed := true }
def FnExactBoothTimesUptoSaid : Prop := fnExactBoothTimesUptoRow.holds Try.pinned (OpenSpec.upto fnExactBoothTimesSpec)

/-- 'laws.FnWordDivide', WHERE WHAT IT READS IS OF BULK AT MOST 1048576: true; the input reads as it did. -/
def fnWordDivideUptoRow : OpenClaim := { program := "ythbpcgefcnpfmaa", sum := "33c8dedb379ffe61a46d53cb0608863dd7b142022f5c4eacd1d5f5cbd668becf", func := "loop.example/bitwords/laws.FnWordDivide", spec := "fnWordDivide", unfollowed := true, recurses := true, apart := false, narrowed := true }
def FnWordDivideUptoSaid : Prop := fnWordDivideUptoRow.holds Try.pinned (OpenSpec.upto fnWordDivideSpec)

/-- 'laws.FnWideTimes', WHERE WHAT IT READS IS OF BULK AT MOST 1048576: true; the input reads as it did. -/
def fnWideTimesUptoRow : OpenClaim := { program := "ythbpcgefcnpfmaa", sum := "33c8dedb379ffe61a46d53cb0608863dd7b142022f5c4eacd1d5f5cbd668becf", func := "loop.example/bitwords/laws.FnWideTimes", spec := "fnWideTimes", unfollowed := true, recurses := true, apart := false, narrowed := true }
def FnWideTimesUptoSaid : Prop := fnWideTimesUptoRow.holds Try.pinned (OpenSpec.upto fnWideTimesSpec)

/-- 'laws.FnHalfTimes', WHERE WHAT IT READS IS OF BULK AT MOST 1048576: true; the input reads as it did. -/
def fnHalfTimesUptoRow : OpenClaim := { program := "ythbpcgefcnpfmaa", sum := "33c8dedb379ffe61a46d53cb0608863dd7b142022f5c4eacd1d5f5cbd668becf", func := "loop.example/bitwords/laws.FnHalfTimes", spec := "fnHalfTimes", unfollowed := true, recurses := true, apart := false, narrowed := true }
def FnHalfTimesUptoSaid : Prop := fnHalfTimesUptoRow.holds Try.pinned (OpenSpec.upto fnHalfTimesSpec)

/-- 'laws.FnSignedHigh', WHERE WHAT IT READS IS OF BULK AT MOST 1048576: true; the input reads as it did. -/
def fnSignedHighUptoRow : OpenClaim := { program := "ythbpcgefcnpfmaa", sum := "33c8dedb379ffe61a46d53cb0608863dd7b142022f5c4eacd1d5f5cbd668becf", func := "loop.example/bitwords/laws.FnSignedHigh", spec := "fnSignedHigh", unfollowed := true, recurses := true, apart := false, narrowed := true }
def FnSignedHighUptoSaid : Prop := fnSignedHighUptoRow.holds Try.pinned (OpenSpec.upto fnSignedHighSpec)

/-- 'laws.FnSignedDivide', WHERE WHAT IT READS IS OF BULK AT MOST 1048576: true; the input reads as it did. -/
def fnSignedDivideUptoRow : OpenClaim := { program := "ythbpcgefcnpfmaa", sum := "33c8dedb379ffe61a46d53cb0608863dd7b142022f5c4eacd1d5f5cbd668becf", func := "loop.example/bitwords/laws.FnSignedDivide", spec := "fnSignedDivide", unfollowed := true, recurses := true, apart := false, narrowed := true }
def FnSignedDivideUptoSaid : Prop := fnSignedDivideUptoRow.holds Try.pinned (OpenSpec.upto fnSignedDivideSpec)

/-- 'laws.FnDivideSigns', WHERE WHAT IT READS IS OF BULK AT MOST 1048576: true; the input reads as it did. -/
def fnDivideSignsUptoRow : OpenClaim := { program := "ythbpcgefcnpfmaa", sum := "33c8dedb379ffe61a46d53cb0608863dd7b142022f5c4eacd1d5f5cbd668becf", func := "loop.example/bitwords/laws.FnDivideSigns", spec := "fnDivideSigns", unfollowed := true, recurses := true, apart := false, narrowed := true }
def FnDivideSignsUptoSaid : Prop := fnDivideSignsUptoRow.holds Try.pinned (OpenSpec.upto fnDivideSignsSpec)

/-- 'laws.FnBoothDigits', WHERE WHAT IT READS IS OF BULK AT MOST 1048576: true; the input reads as it did. -/
def fnBoothDigitsUptoRow : OpenClaim := { program := "ythbpcgefcnpfmaa", sum := "33c8dedb379ffe61a46d53cb0608863dd7b142022f5c4eacd1d5f5cbd668becf", func := "loop.example/bitwords/laws.FnBoothDigits", spec := "fnBoothDigits", unfollowed := true, recurses := true, apart := false, narrowed := true }
def FnBoothDigitsUptoSaid : Prop := fnBoothDigitsUptoRow.holds Try.pinned (OpenSpec.upto fnBoothDigitsSpec)

/-- 'laws.FnMovedWords', WHERE WHAT IT READS IS OF BULK AT MOST 1048576: true; the input reads as it did. -/
def fnMovedWordsUptoRow : OpenClaim := { program := "ythbpcgefcnpfmaa", sum := "33c8dedb379ffe61a46d53cb0608863dd7b142022f5c4eacd1d5f5cbd668becf", func := "loop.example/bitwords/laws.FnMovedWords", spec := "fnMovedWords", unfollowed := true, recurses := true, apart := false, narrowed := true }
def FnMovedWordsUptoSaid : Prop := fnMovedWordsUptoRow.holds Try.pinned (OpenSpec.upto fnMovedWordsSpec)

/-- 'laws.FnDivideSteps', WHERE WHAT IT READS IS OF BULK AT MOST 1048576: true; the input reads as it did. -/
def fnDivideStepsUptoRow : OpenClaim := { program := "ythbpcgefcnpfmaa", sum := "33c8dedb379ffe61a46d53cb0608863dd7b142022f5c4eacd1d5f5cbd668becf", func := "loop.example/bitwords/laws.FnDivideSteps", spec := "fnDivideSteps", unfollowed := true, recurses := true, apart := false, narrowed := true }
def FnDivideStepsUptoSaid : Prop := fnDivideStepsUptoRow.holds Try.pinned (OpenSpec.upto fnDivideStepsSpec)

/-- 'laws.FnBoothTimes', WHERE WHAT IT READS IS OF BULK AT MOST 1048576: true; the input reads as it did. -/
def fnBoothTimesUptoRow : OpenClaim := { program := "ythbpcgefcnpfmaa", sum := "33c8dedb379ffe61a46d53cb0608863dd7b142022f5c4eacd1d5f5cbd668becf", func := "loop.example/bitwords/laws.FnBoothTimes", spec := "fnBoothTimes", unfollowed := true, recurses := true, apart := false, narrowed := true }
def FnBoothTimesUptoSaid : Prop := fnBoothTimesUptoRow.holds Try.pinned (OpenSpec.upto fnBoothTimesSpec)

end Rows
end Go.Proofs.Ythbpcgefcnpfmaa
