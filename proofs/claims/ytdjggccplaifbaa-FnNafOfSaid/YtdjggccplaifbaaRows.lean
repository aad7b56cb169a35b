/-
  No cell of these rows narrows 'for every input' (looked for: loops, veiled, ifaces, maps, wideKeys, modest, calm, conditions, laid).
  DERIVED. THE GIVEN ROWS OF THIS SEAT. 16 by the template 'for every input the law returns true; each argument reads behind the call as it read before'; 0 by the template 'total and deterministic' (their statements: YtdjggccplaifbaaTotals.lean).
  GIVEN WITH THE SEED: the statements are not yours to turn. If you find one false, say at which input.
  Laid BY PROGRAM, IN A SANDBOX (cutbox-rows.mjs): the forced cells as the released guide's own fill.sh prints them over the translation e83537e8955a08d3… (all of the seat's roots in one cut). By AI agents, Wed Nov 11 2026. No macro, syntax, notation, axiom, sorry.
-/
import Derived.Test.YtdjggccplaifbaaChecked
import GoSem.Claim
import GoSem.ClaimJoined
import GoSem.ClaimMapViews
import Derived.JoinedTies
import Derived.KernelRfl
namespace Go.Proofs.Ytdjggccplaifbaa
/- THE CELL 'sum', in the pinned program and in every row, IS THE sha256 OF THE DUMP (.gsa) THAT YtdjggccplaifbaaProg.lean LOADS. Nothing in Lean hashes anything: it is a label: what it is worth is what the hold of that sum in a sandbox is worth. -/
noncomputable def Try.pinned : Pinned := { name := "ytdjggccplaifbaa", sum := "e83537e8955a08d32e95ec066f0a5d7fccc4fc511c4037071dcf254ff86a5c39", checked := Try.checked }
namespace Rows
def none {H : Type} : Left H := { results := [], args := [] }

/-- 'laws.FnExactExactDivide': WHATEVER THE INPUT: true; the input reads as it did. -/
def fnExactExactDivideSpec : ChangeSpec := { name := "fnExactExactDivide", fn := fun _ => fun
  | [d1, d2, d3] => { results := [.lit (.bool true)], args := [d1, d2, d3] }
  | _ => none }
def fnExactExactDivideRow : OpenClaim := { program := "ytdjggccplaifbaa", sum := "e83537e8955a08d32e95ec066f0a5d7fccc4fc511c4037071dcf254ff86a5c39", func := "loop.example/bitwords/laws.FnExactExactDivide", spec := "fnExactExactDivide", apart := false }
def FnExactExactDivideSaid : Prop := fnExactExactDivideRow.holds Try.pinned (OpenSpec.ofChange fnExactExactDivideSpec)

/-- ITS FALSE NEIGHBOUR: 'it returns false'. Refute it at one input. -/
def fnExactExactDivideWrong : ChangeSpec := { name := "fnExactExactDivide", fn := fun _ => fun
  | [d1, d2, d3] => { results := [.lit (.bool false)], args := [d1, d2, d3] }
  | _ => none }
def FnExactExactDivideWrongFalsely : Prop := fnExactExactDivideRow.holds Try.pinned (OpenSpec.ofChange fnExactExactDivideWrong)

/-- 'laws.FnExactNafTimes': WHATEVER THE INPUT: true; the input reads as it did. -/
def fnExactNafTimesSpec : ChangeSpec := { name := "fnExactNafTimes", fn := fun _ => fun
  | [d1, d2, d3] => { results := [.lit (.bool true)], args := [d1, d2, d3] }
  | _ => none }
def fnExactNafTimesRow : OpenClaim := { program := "ytdjggccplaifbaa", sum := "e83537e8955a08d32e95ec066f0a5d7fccc4fc511c4037071dcf254ff86a5c39", func := "loop.example/bitwords/laws.FnExactNafTimes", spec := "fnExactNafTimes", apart := false }
def FnExactNafTimesSaid : Prop := fnExactNafTimesRow.holds Try.pinned (OpenSpec.ofChange fnExactNafTimesSpec)

/-- ITS FALSE NEIGHBOUR: 'it returns false'. Refute it at one input. -/
def fnExactNafTimesWrong : ChangeSpec := { name := "fnExactNafTimes", fn := fun _ => fun
  | [d1, d2, d3] => { results := [.lit (.bool false)], args := [d1, d2, d3] }
  | _ => none }
def FnExactNafTimesWrongFalsely : Prop := fnExactNafTimesRow.holds Try.pinned (OpenSpec.ofChange fnExactNafTimesWrong)

/-- 'laws.FnExactDividesOdd': WHATEVER THE INPUT: true; the input reads as it did. -/
def fnExactDividesOddSpec : ChangeSpec := { name := "fnExactDividesOdd", fn := fun _ => fun
  | [d1, d2, d3] => { results := [.lit (.bool true)], args := [d1, d2, d3] }
  | _ => none }
def fnExactDividesOddRow : OpenClaim := { program := "ytdjggccplaifbaa", sum := "e83537e8955a08d32e95ec066f0a5d7fccc4fc511c4037071dcf254ff86a5c39", func := "loop.example/bitwords/laws.FnExactDividesOdd", spec := "fnExactDividesOdd", apart := false }
def FnExactDividesOddSaid : Prop := fnExactDividesOddRow.holds Try.pinned (OpenSpec.ofChange fnExactDividesOddSpec)

/-- ITS FALSE NEIGHBOUR: 'it returns false'. Refute it at one input. -/
def fnExactDividesOddWrong : ChangeSpec := { name := "fnExactDividesOdd", fn := fun _ => fun
  | [d1, d2, d3] => { results := [.lit (.bool false)], args := [d1, d2, d3] }
  | _ => none }
def FnExactDividesOddWrongFalsely : Prop := fnExactDividesOddRow.holds Try.pinned (OpenSpec.ofChange fnExactDividesOddWrong)

/-- 'laws.FnExactInverseSteps': WHATEVER THE INPUT: true; the input reads as it did. -/
def fnExactInverseStepsSpec : ChangeSpec := { name := "fnExactInverseSteps", fn := fun _ => fun
  | [d1, d2] => { results := [.lit (.bool true)], args := [d1, d2] }
  | _ => none }
def fnExactInverseStepsRow : OpenClaim := { program := "ytdjggccplaifbaa", sum := "e83537e8955a08d32e95ec066f0a5d7fccc4fc511c4037071dcf254ff86a5c39", func := "loop.example/bitwords/laws.FnExactInverseSteps", spec := "fnExactInverseSteps", apart := false }
def FnExactInverseStepsSaid : Prop := fnExactInverseStepsRow.holds Try.pinned (OpenSpec.ofChange fnExactInverseStepsSpec)

/-- ITS FALSE NEIGHBOUR: 'it returns false'. Refute it at one input. -/
def fnExactInverseStepsWrong : ChangeSpec := { name := "fnExactInverseSteps", fn := fun _ => fun
  | [d1, d2] => { results := [.lit (.bool false)], args := [d1, d2] }
  | _ => none }
def FnExactInverseStepsWrongFalsely : Prop := fnExactInverseStepsRow.holds Try.pinned (OpenSpec.ofChange fnExactInverseStepsWrong)

/-- 'laws.FnExactDivideBy': WHATEVER THE INPUT: true; the input reads as it did. -/
def fnExactDivideBySpec : ChangeSpec := { name := "fnExactDivideBy", fn := fun _ => fun
  | [d1, d2, d3] => { results := [.lit (.bool true)], args := [d1, d2, d3] }
  | _ => none }
def fnExactDivideByRow : OpenClaim := { program := "ytdjggccplaifbaa", sum := "e83537e8955a08d32e95ec066f0a5d7fccc4fc511c4037071dcf254ff86a5c39", func := "loop.example/bitwords/laws.FnExactDivideBy", spec := "fnExactDivideBy", apart := false }
def FnExactDivideBySaid : Prop := fnExactDivideByRow.holds Try.pinned (OpenSpec.ofChange fnExactDivideBySpec)

/-- ITS FALSE NEIGHBOUR: 'it returns false'. Refute it at one input. -/
def fnExactDivideByWrong : ChangeSpec := { name := "fnExactDivideBy", fn := fun _ => fun
  | [d1, d2, d3] => { results := [.lit (.bool false)], args := [d1, d2, d3] }
  | _ => none }
def FnExactDivideByWrongFalsely : Prop := fnExactDivideByRow.holds Try.pinned (OpenSpec.ofChange fnExactDivideByWrong)

/-- 'laws.FnMagicOk': WHATEVER THE INPUT: true; the input reads as it did. -/
def fnMagicOkSpec : ChangeSpec := { name := "fnMagicOk", fn := fun _ => fun
  | [d] => { results := [.lit (.bool true)], args := [d] }
  | _ => none }
def fnMagicOkRow : OpenClaim := { program := "ytdjggccplaifbaa", sum := "e83537e8955a08d32e95ec066f0a5d7fccc4fc511c4037071dcf254ff86a5c39", func := "loop.example/bitwords/laws.FnMagicOk", spec := "fnMagicOk", unfollowed := true, recurses := true, apart := false }
def FnMagicOkSaid : Prop := fnMagicOkRow.holds Try.pinned (OpenSpec.ofChange fnMagicOkSpec)

/-- ITS FALSE NEIGHBOUR: 'it returns false'. Refute it at one input. -/
def fnMagicOkWrong : ChangeSpec := { name := "fnMagicOk", fn := fun _ => fun
  | [d] => { results := [.lit (.bool false)], args := [d] }
  | _ => none }
def FnMagicOkWrongFalsely : Prop := fnMagicOkRow.holds Try.pinned (OpenSpec.ofChange fnMagicOkWrong)

/-- 'laws.FnMagicSure': WHATEVER THE INPUT: true; the input reads as it did. -/
def fnMagicSureSpec : ChangeSpec := { name := "fnMagicSure", fn := fun _ => fun
  | [d] => { results := [.lit (.bool true)], args := [d] }
  | _ => none }
def fnMagicSureRow : OpenClaim := { program := "ytdjggccplaifbaa", sum := "e83537e8955a08d32e95ec066f0a5d7fccc4fc511c4037071dcf254ff86a5c39", func := "loop.example/bitwords/laws.FnMagicSure", spec := "fnMagicSure", unfollowed := true, recurses := true, apart := false }
def FnMagicSureSaid : Prop := fnMagicSureRow.holds Try.pinned (OpenSpec.ofChange fnMagicSureSpec)

/-- ITS FALSE NEIGHBOUR: 'it returns false'. Refute it at one input. -/
def fnMagicSureWrong : ChangeSpec := { name := "fnMagicSure", fn := fun _ => fun
  | [d] => { results := [.lit (.bool false)], args := [d] }
  | _ => none }
def FnMagicSureWrongFalsely : Prop := fnMagicSureRow.holds Try.pinned (OpenSpec.ofChange fnMagicSureWrong)

/-- 'laws.FnNafOf': WHATEVER THE INPUT: true; the input reads as it did. -/
def fnNafOfSpec : ChangeSpec := { name := "fnNafOf", fn := fun _ => fun
  | [d] => { results := [.lit (.bool true)], args := [d] }
  | _ => none }
def fnNafOfRow : OpenClaim := { program := "ytdjggccplaifbaa", sum := "e83537e8955a08d32e95ec066f0a5d7fccc4fc511c4037071dcf254ff86a5c39", func := "loop.example/bitwords/laws.FnNafOf", spec := "fnNafOf", unfollowed := true, recurses := true, apart := false }
def FnNafOfSaid : Prop := fnNafOfRow.holds Try.pinned (OpenSpec.ofChange fnNafOfSpec)

/-- ITS FALSE NEIGHBOUR: 'it returns false'. Refute it at one input. -/
def fnNafOfWrong : ChangeSpec := { name := "fnNafOf", fn := fun _ => fun
  | [d] => { results := [.lit (.bool false)], args := [d] }
  | _ => none }
def FnNafOfWrongFalsely : Prop := fnNafOfRow.holds Try.pinned (OpenSpec.ofChange fnNafOfWrong)

/-- 'laws.FnMagicOf': WHATEVER THE INPUT: true; the input reads as it did. -/
def fnMagicOfSpec : ChangeSpec := { name := "fnMagicOf", fn := fun _ => fun
  | [d] => { results := [.lit (.bool true)], args := [d] }
  | _ => none }
def fnMagicOfRow : OpenClaim := { program := "ytdjggccplaifbaa", sum := "e83537e8955a08d32e95ec066f0a5d7fccc4fc511c4037071dcf254ff86a5c39", func := "loop.example/bitwords/laws.FnMagicOf", spec := "fnMagicOf", unfollowed := true, recurses := true, apart := false }
def FnMagicOfSaid : Prop := fnMagicOfRow.holds Try.pinned (OpenSpec.ofChange fnMagicOfSpec)

/-- ITS FALSE NEIGHBOUR: 'it returns false'. Refute it at one input. -/
def fnMagicOfWrong : ChangeSpec := { name := "fnMagicOf", fn := fun _ => fun
  | [d] => { results := [.lit (.bool false)], args := [d] }
  | _ => none }
def FnMagicOfWrongFalsely : Prop := fnMagicOfRow.holds Try.pinned (OpenSpec.ofChange fnMagicOfWrong)

/-- 'laws.FnNafMany': WHATEVER THE INPUT: true; the input reads as it did. -/
def fnNafManySpec : ChangeSpec := { name := "fnNafMany", fn := fun _ => fun
  | [d] => { results := [.lit (.bool true)], args := [d] }
  | _ => none }
def fnNafManyRow : OpenClaim := { program := "ytdjggccplaifbaa", sum := "e83537e8955a08d32e95ec066f0a5d7fccc4fc511c4037071dcf254ff86a5c39", func := "loop.example/bitwords/laws.FnNafMany", spec := "fnNafMany", unfollowed := true, recurses := true, apart := false }
def FnNafManySaid : Prop := fnNafManyRow.holds Try.pinned (OpenSpec.ofChange fnNafManySpec)

/-- ITS FALSE NEIGHBOUR: 'it returns false'. Refute it at one input. -/
def fnNafManyWrong : ChangeSpec := { name := "fnNafMany", fn := fun _ => fun
  | [d] => { results := [.lit (.bool false)], args := [d] }
  | _ => none }
def FnNafManyWrongFalsely : Prop := fnNafManyRow.holds Try.pinned (OpenSpec.ofChange fnNafManyWrong)

/-- 'laws.FnInverseSteps': WHATEVER THE INPUT: true; the input reads as it did. -/
def fnInverseStepsSpec : ChangeSpec := { name := "fnInverseSteps", fn := fun _ => fun
  | [d] => { results := [.lit (.bool true)], args := [d] }
  | _ => none }
def fnInverseStepsRow : OpenClaim := { program := "ytdjggccplaifbaa", sum := "e83537e8955a08d32e95ec066f0a5d7fccc4fc511c4037071dcf254ff86a5c39", func := "loop.example/bitwords/laws.FnInverseSteps", spec := "fnInverseSteps", unfollowed := true, recurses := true, apart := false }
def FnInverseStepsSaid : Prop := fnInverseStepsRow.holds Try.pinned (OpenSpec.ofChange fnInverseStepsSpec)

/-- ITS FALSE NEIGHBOUR: 'it returns false'. Refute it at one input. -/
def fnInverseStepsWrong : ChangeSpec := { name := "fnInverseSteps", fn := fun _ => fun
  | [d] => { results := [.lit (.bool false)], args := [d] }
  | _ => none }
def FnInverseStepsWrongFalsely : Prop := fnInverseStepsRow.holds Try.pinned (OpenSpec.ofChange fnInverseStepsWrong)

/-- 'laws.FnInverseOf': WHATEVER THE INPUT: true; the input reads as it did. -/
def fnInverseOfSpec : ChangeSpec := { name := "fnInverseOf", fn := fun _ => fun
  | [d] => { results := [.lit (.bool true)], args := [d] }
  | _ => none }
def fnInverseOfRow : OpenClaim := { program := "ytdjggccplaifbaa", sum := "e83537e8955a08d32e95ec066f0a5d7fccc4fc511c4037071dcf254ff86a5c39", func := "loop.example/bitwords/laws.FnInverseOf", spec := "fnInverseOf", unfollowed := true, recurses := true, apart := false }
def FnInverseOfSaid : Prop := fnInverseOfRow.holds Try.pinned (OpenSpec.ofChange fnInverseOfSpec)

/-- ITS FALSE NEIGHBOUR: 'it returns false'. Refute it at one input. -/
def fnInverseOfWrong : ChangeSpec := { name := "fnInverseOf", fn := fun _ => fun
  | [d] => { results := [.lit (.bool false)], args := [d] }
  | _ => none }
def FnInverseOfWrongFalsely : Prop := fnInverseOfRow.holds Try.pinned (OpenSpec.ofChange fnInverseOfWrong)

/-- 'laws.FnDivideBy': WHATEVER THE INPUT: true; the input reads as it did. -/
def fnDivideBySpec : ChangeSpec := { name := "fnDivideBy", fn := fun _ => fun
  | [d] => { results := [.lit (.bool true)], args := [d] }
  | _ => none }
def fnDivideByRow : OpenClaim := { program := "ytdjggccplaifbaa", sum := "e83537e8955a08d32e95ec066f0a5d7fccc4fc511c4037071dcf254ff86a5c39", func := "loop.example/bitwords/laws.FnDivideBy", spec := "fnDivideBy", unfollowed := true, recurses := true, apart := false }
def FnDivideBySaid : Prop := fnDivideByRow.holds Try.pinned (OpenSpec.ofChange fnDivideBySpec)

/-- ITS FALSE NEIGHBOUR: 'it returns false'. Refute it at one input. -/
def fnDivideByWrong : ChangeSpec := { name := "fnDivideBy", fn := fun _ => fun
  | [d] => { results := [.lit (.bool false)], args := [d] }
  | _ => none }
def FnDivideByWrongFalsely : Prop := fnDivideByRow.holds Try.pinned (OpenSpec.ofChange fnDivideByWrong)

/-- 'laws.FnExactDivide': WHATEVER THE INPUT: true; the input reads as it did. -/
def fnExactDivideSpec : ChangeSpec := { name := "fnExactDivide", fn := fun _ => fun
  | [d] => { results := [.lit (.bool true)], args := [d] }
  | _ => none }
def fnExactDivideRow : OpenClaim := { program := "ytdjggccplaifbaa", sum := "e83537e8955a08d32e95ec066f0a5d7fccc4fc511c4037071dcf254ff86a5c39", func := "loop.example/bitwords/laws.FnExactDivide", spec := "fnExactDivide", unfollowed := true, recurses := true, apart := false }
def FnExactDivideSaid : Prop := fnExactDivideRow.holds Try.pinned (OpenSpec.ofChange fnExactDivideSpec)

/-- ITS FALSE NEIGHBOUR: 'it returns false'. Refute it at one input. -/
def fnExactDivideWrong : ChangeSpec := { name := "fnExactDivide", fn := fun _ => fun
  | [d] => { results := [.lit (.bool false)], args := [d] }
  | _ => none }
def FnExactDivideWrongFalsely : Prop := fnExactDivideRow.holds Try.pinned (OpenSpec.ofChange fnExactDivideWrong)

/-- 'laws.FnNafTimes': WHATEVER THE INPUT: true; the input reads as it did. -/
def fnNafTimesSpec : ChangeSpec := { name := "fnNafTimes", fn := fun _ => fun
  | [d] => { results := [.lit (.bool true)], args := [d] }
  | _ => none }
def fnNafTimesRow : OpenClaim := { program := "ytdjggccplaifbaa", sum := "e83537e8955a08d32e95ec066f0a5d7fccc4fc511c4037071dcf254ff86a5c39", func := "loop.example/bitwords/laws.FnNafTimes", spec := "fnNafTimes", unfollowed := true, recurses := true, apart := false }
def FnNafTimesSaid : Prop := fnNafTimesRow.holds Try.pinned (OpenSpec.ofChange fnNafTimesSpec)

/-- ITS FALSE NEIGHBOUR: 'it returns false'. Refute it at one input. -/
def fnNafTimesWrong : ChangeSpec := { name := "fnNafTimes", fn := fun _ => fun
  | [d] => { results := [.lit (.bool false)], args := [d] }
  | _ => none }
def FnNafTimesWrongFalsely : Prop := fnNafTimesRow.holds Try.pinned (OpenSpec.ofChange fnNafTimesWrong)

/-- 'laws.FnDividesOdd': WHATEVER THE INPUT: true; the input reads as it did. -/
def fnDividesOddSpec : ChangeSpec := { name := "fnDividesOdd", fn := fun _ => fun
  | [d] => { results := [.lit (.bool true)], args := [d] }
  | _ => none }
def fnDividesOddRow : OpenClaim := { program := "ytdjggccplaifbaa", sum := "e83537e8955a08d32e95ec066f0a5d7fccc4fc511c4037071dcf254ff86a5c39", func := "loop.example/bitwords/laws.FnDividesOdd", spec := "fnDividesOdd", unfollowed := true, recurses := true, apart := false }
def FnDividesOddSaid : Prop := fnDividesOddRow.holds Try.pinned (OpenSpec.ofChange fnDividesOddSpec)

/-- ITS FALSE NEIGHBOUR: 'it returns false'. Refute it at one input. -/
def fnDividesOddWrong : ChangeSpec := { name := "fnDividesOdd", fn := fun _ => fun
  | [d] => { results := [.lit (.bool false)], args := [d] }
  | _ => none }
def FnDividesOddWrongFalsely : Prop := fnDividesOddRow.holds Try.pinned (OpenSpec.ofChange fnDividesOddWrong)

/- THE SECOND FORM. 'bulk': how many values and letters a reading holds, each counted each time it is reached (what is shared counts as often as it is met; a slice's spare places count too). A statement '..UptoSaid' is the law's where the arguments, and the package variables that the reading takes, are together of bulk at most 1048576: NARROWER than '..Said'. Prove '..Said' where nothing that the law and all that it calls make is longer than what came in: it says more and counts as full. Else prove '..UptoSaid'. A law counts once. -/
mutual
def uptoBulk {H : Type} : DataW H → Nat
  | .lit (.string bytes) => bytes.length + 1
  | .lit _ => 1
  | .nil => 1
  | .ptr d => uptoBulk d + 1
  | .slice elems spare => uptoBulkAll elems + uptoBulkAll spare + 1
  | .agg parts => uptoBulkAll parts + 1
  | .iface _ d => uptoBulk d + 1
  | .map entries => uptoBulkEntries entries + 1
  | .held _ => 1
def uptoBulkAll {H : Type} : List (DataW H) → Nat
  | [] => 0
  | d :: r => uptoBulk d + uptoBulkAll r
def uptoBulkEntries {H : Type} : List (Lit × DataW H) → Nat
  | [] => 0
  | x :: r => uptoBulkEntry x + uptoBulkEntries r
def uptoBulkEntry {H : Type} : Lit × DataW H → Nat
  | (.string bytes, d) => bytes.length + uptoBulk d + 1
  | (_, d) => uptoBulk d + 1
 end
def uptoSmall : (H : Type) → List (DataW H) → Bool := fun _ ds => decide (uptoBulkAll ds ≤ 1048576)
def OpenSpec.upto (s : _root_.Go.ChangeSpec) : _root_.Go.OpenSpec := { _root_.Go.OpenSpec.ofChange s with cond := some uptoSmall }

/-- 'laws.FnExactExactDivide', WHERE WHAT IT READS IS OF BULK AT MOST 1048576: true; the input reads as it did. -/
def fnExactExactDivideUptoRow : OpenClaim := { program := "ytdjggccplaifbaa", sum := "e83537e8955a08d32e95ec066f0a5d7fccc4fc511c4037071dcf254ff86a5c39", func := "loop.example/bitwords/laws.FnExactExactDivide", spec := "fnExactExactDivide", apart := false, narrowed := true }
def FnExactExactDivideUptoSaid : Prop := fnExactExactDivideUptoRow.holds Try.pinned (OpenSpec.upto fnExactExactDivideSpec)

/-- 'laws.FnExactNafTimes', WHERE WHAT IT READS IS OF BULK AT MOST 1048576: true; the input reads as it did. -/
def fnExactNafTimesUptoRow : OpenClaim := { program := "ytdjggccplaifbaa", sum := "e83537e8955a08d32e95ec066f0a5d7fccc4fc511c4037071dcf254ff86a5c39", func := "loop.example/bitwords/laws.FnExactNafTimes", spec := "fnExactNafTimes", apart := false, narrowed := true }
def FnExactNafTimesUptoSaid : Prop := fnExactNafTimesUptoRow.holds Try.pinned (OpenSpec.upto fnExactNafTimesSpec)

/-- 'laws.FnExactDividesOdd', WHERE WHAT IT READS IS OF BULK AT MOST 1048576: true; the input reads as it did. -/
def fnExactDividesOddUptoRow : OpenClaim := { program := "ytdjggccplaifbaa", sum := "e83537e8955a08d32e95ec066f0a5d7fccc4fc511c4037071dcf254ff86a5c39", func := "loop.example/bitwords/laws.FnExactDividesOdd", spec := "fnExactDividesOdd", apart := false, narrowed := true }
def FnExactDividesOddUptoSaid : Prop := fnExactDividesOddUptoRow.holds Try.pinned (OpenSpec.upto fnExactDividesOddSpec)

/-- 'laws.FnExactInverseSteps', WHERE WHAT IT READS IS OF BULK AT MOST 1048576: true; the input reads as it did. -/
def fnExactInverseStepsUptoRow : OpenClaim := { program := "ytdjggccplaifbaa", sum := "e83537e8955a08d32e95ec066f0a5d7fccc4fc511c4037071dcf254ff86a5c39", func := "loop.example/bitwords/laws.FnExactInverseSteps", spec := "fnExactInverseSteps", apart := false, narrowed := true }
def FnExactInverseStepsUptoSaid : Prop := fnExactInverseStepsUptoRow.holds Try.pinned (OpenSpec.upto fnExactInverseStepsSpec)

/-- 'laws.FnExactDivideBy', WHERE WHAT IT READS IS OF BULK AT MOST 1048576: true; the input reads as it did. -/
def fnExactDivideByUptoRow : OpenClaim := { program := "ytdjggccplaifbaa", sum := "e83537e8955a08d32e95ec066f0a5d7fccc4fc511c4037071dcf254ff86a5c39", func := "loop.example/bitwords/laws.FnExactDivideBy", spec := "fnExactDivideBy", apart := false, narrowed := true }
def FnExactDivideByUptoSaid : Prop := fnExactDivideByUptoRow.holds Try.pinned (OpenSpec.upto fnExactDivideBySpec)

/-- 'laws.FnMagicOk', WHERE WHAT IT READS IS OF BULK AT MOST 1048576: true; the input reads as it did. -/
def fnMagicOkUptoRow : OpenClaim := { program := "ytdjggccplaifbaa", sum := "e83537e8955a08d32e95ec066f0a5d7fccc4fc511c4037071dcf254ff86a5c39", func := "loop.example/bitwords/laws.FnMagicOk", spec := "fnMagicOk", unfollowed := true, recurses := true, apart := false, narrowed := true }
def FnMagicOkUptoSaid : Prop := fnMagicOkUptoRow.holds Try.pinned (OpenSpec.upto fnMagicOkSpec)

/-- 'laws.FnMagicSure', WHERE WHAT IT READS IS OF BULK AT MOST 1048576: true; the input reads as it did. -/
def fnMagicSureUptoRow : OpenClaim := { program := "ytdjggccplaifbaa", sum := "e83537e8955a08d32e95ec066f0a5d7fccc4fc511c4037071dcf254ff86a5c39", func := "loop.example/bitwords/laws.FnMagicSure", spec := "fnMagicSure", unfollowed := true, recurses := true, apart := false, narrowed := true }
def FnMagicSureUptoSaid : Prop := fnMagicSureUptoRow.holds Try.pinned (OpenSpec.upto fnMagicSureSpec)

/-- 'laws.FnNafOf', WHERE WHAT IT READS IS OF BULK AT MOST 1048576: true; the input reads as it did. -/
def fnNafOfUptoRow : OpenClaim := { program := "ytdjggccplaifbaa", sum := "e83537e8955a08d32e95ec066f0a5d7fccc4fc511c4037071dcf254ff86a5c39", func := "loop.example/bitwords/laws.FnNafOf", spec := "fnNafOf", unfollowed := true, recurses := true, apart := false, narrowed := true }
def FnNafOfUptoSaid : Prop := fnNafOfUptoRow.holds Try.pinned (OpenSpec.upto fnNafOfSpec)

/-- 'laws.FnMagicOf', WHERE WHAT IT READS IS OF BULK AT MOST 1048576: true; the input reads as it did. -/
def fnMagicOfUptoRow : OpenClaim := { program := "ytdjggccplaifbaa", sum := "e83537e8955a08d32e95ec066f0a5d7fccc4fc511c4037071dcf254ff86a5c39", func := "loop.example/bitwords/laws.FnMagicOf", spec := "fnMagicOf", unfollowed := true, recurses := true, apart := false, narrowed := true }
def FnMagicOfUptoSaid : Prop := fnMagicOfUptoRow.holds Try.pinned (OpenSpec.upto fnMagicOfSpec)

/-- 'laws.FnNafMany', WHERE WHAT IT READS IS OF BULK AT MOST 1048576: true; the input reads as it did. -/
def fnNafManyUptoRow : OpenClaim := { program := "ytdjggccplaifbaa", sum := "e83537e8955a08d32e95ec066f0a5d7fccc4fc511c4037071dcf254ff86a5c39", func := "loop.example/bitwords/laws.FnNafMany", spec := "fnNafMany", unfollowed := true, recurses := true, apart := false, narrowed := true }
def FnNafManyUptoSaid : Prop := fnNafManyUptoRow.holds Try.pinned (OpenSpec.upto fnNafManySpec)

/-- 'laws.FnInverseSteps', WHERE WHAT IT READS IS OF BULK AT MOST 1048576: true; the input reads as it did. -/
def fnInverseStepsUptoRow : OpenClaim := { program := "ytdjggccplaifbaa", sum := "e83537e8955a08d32e95ec066f0a5d7fccc4fc511c4037071dcf254ff86a5c39", func := "loop.example/bitwords/laws.FnInverseSteps", spec := "fnInverseSteps", unfollowed := true, recurses := true, apart := false, narrowed := true }
def FnInverseStepsUptoSaid : Prop := fnInverseStepsUptoRow.holds Try.pinned (OpenSpec.upto fnInverseStepsSpec)

/-- 'laws.FnInverseOf', WHERE WHAT IT READS IS OF BULK AT MOST 1048576: true; the input reads as it did. -/
def fnInverseOfUptoRow : OpenClaim := { program := "ytdjggccplaifbaa", sum := "e83537e8955a08d32e95ec066f0a5d7fccc4fc511c4037071dcf254ff86a5c39", func := "loop.example/bitwords/laws.FnInverseOf", spec := "fnInverseOf", unfollowed := true, recurses := true, apart := false, narrowed := true }
def FnInverseOfUptoSaid : Prop := fnInverseOfUptoRow.holds Try.pinned (OpenSpec.upto fnInverseOfSpec)

/-- 'laws.FnDivideBy', WHERE WHAT IT READS IS OF BULK AT MOST 1048576: true; the input reads as it did. -/
def fnDivideByUptoRow : OpenClaim := { program := "ytdjggccplaifbaa", sum := "e83537e8955a08d32e95ec066f0a5d7fccc4fc511c4037071dcf254ff86a5c39", func := "loop.example/bitwords/laws.FnDivideBy", spec := "fnDivideBy", unfollowed := true, recurses := true, apart := false, narrowed := true }
def FnDivideByUptoSaid : Prop := fnDivideByUptoRow.holds Try.pinned (OpenSpec.upto fnDivideBySpec)

/-- 'laws.FnExactDivide', WHERE WHAT IT READS IS OF BULK AT MOST 1048576: true; the input reads as it did. -/
def fnExactDivideUptoRow : OpenClaim := { program := "ytdjggccplaifbaa", sum := "e83537e8955a08d32e95ec066f0a5d7fccc4fc511c4037071dcf254ff86a5c39", func := "loop.example/bitwords/laws.FnExactDivide", spec := "fnExactDivide", unfollowed := true, recurses := true, apart := false, narrowed := true }
def FnExactDivideUptoSaid : Prop := fnExactDivideUptoRow.holds Try.pinned (OpenSpec.upto fnExactDivideSpec)

/-- 'laws.FnNafTimes', WHERE WHAT IT READS IS OF BULK AT MOST 1048576: true; the input reads as it did. -/
def fnNafTimesUptoRow : OpenClaim := { program := "ytdjggccplaifbaa", sum := "e83537e8955a08d32e95ec066f0a5d7fccc4fc511c4037071dcf254ff86a5c39", func := "loop.example/bitwords/laws.FnNafTimes", spec := "fnNafTimes", unfollowed := true, recurses := true, apart := false, narrowed := true }
def FnNafTimesUptoSaid : Prop := fnNafTimesUptoRow.holds Try.pinned (OpenSpec.upto fnNafTimesSpec)

/-- 'laws.FnDividesOdd', WHERE WHAT IT READS IS OF BULK AT MOST 1048576: true; the input reads as it did. -/
def fnDividesOddUptoRow : OpenClaim := { program := "ytdjggccplaifbaa", sum := "e83537e8955a08d32e95ec066f0a5d7fccc4fc511c4037071dcf254ff86a5c39", func := "loop.example/bitwords/laws.FnDividesOdd", spec := "fnDividesOdd", unfollowed := true, recurses := true, apart := false, narrowed := true }
def FnDividesOddUptoSaid : Prop := fnDividesOddUptoRow.holds Try.pinned (OpenSpec.upto fnDividesOddSpec)

end Rows
end Go.Proofs.Ytdjggccplaifbaa
