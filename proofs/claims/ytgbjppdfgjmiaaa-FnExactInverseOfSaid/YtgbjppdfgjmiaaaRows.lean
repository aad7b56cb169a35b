/-
  No cell of these rows narrows 'for every input' (looked for: loops, veiled, ifaces, maps, wideKeys, modest, calm, conditions, laid).
  DERIVED. THE GIVEN ROWS OF THIS SEAT. 12 by the template 'for every input the law returns true; each argument reads behind the call as it read before'; 0 by the template 'total and deterministic' (their statements: YtgbjppdfgjmiaaaTotals.lean).
  GIVEN WITH THE SEED: the statements are not yours to turn. If you find one false, say at which input.
  Laid BY PROGRAM, IN A SANDBOX (cutbox-rows.mjs): the forced cells as the released guide's own fill.sh prints them over the translation 2dbf47388dbf2459… (all of the seat's roots in one cut). By AI agents, Wed Nov 11 2026. No macro, syntax, notation, axiom, sorry.
-/
import Derived.Test.YtgbjppdfgjmiaaaChecked
import GoSem.Claim
import GoSem.ClaimJoined
import GoSem.ClaimMapViews
import Derived.JoinedTies
import Derived.KernelRfl
namespace Go.Proofs.Ytgbjppdfgjmiaaa
/- THE CELL 'sum', in the pinned program and in every row, IS THE sha256 OF THE DUMP (.gsa) THAT YtgbjppdfgjmiaaaProg.lean LOADS. Nothing in Lean hashes anything: it is a label: what it is worth is what the hold of that sum in a sandbox is worth. -/
noncomputable def Try.pinned : Pinned := { name := "ytgbjppdfgjmiaaa", sum := "2dbf47388dbf24593f4bd48be8db1ea8c1a8dee8f9b71974daab4f18873567ac", checked := Try.checked }
namespace Rows
def none {H : Type} : Left H := { results := [], args := [] }

/-- 'laws.FnExactMagicSure': WHATEVER THE INPUT: true; the input reads as it did. -/
def fnExactMagicSureSpec : ChangeSpec := { name := "fnExactMagicSure", fn := fun _ => fun
  | [d1, d2, d3, d4] => { results := [.lit (.bool true)], args := [d1, d2, d3, d4] }
  | _ => none }
def fnExactMagicSureRow : OpenClaim := { program := "ytgbjppdfgjmiaaa", sum := "2dbf47388dbf24593f4bd48be8db1ea8c1a8dee8f9b71974daab4f18873567ac", func := "loop.example/bitwords/laws.FnExactMagicSure", spec := "fnExactMagicSure", apart := false }
def FnExactMagicSureSaid : Prop := fnExactMagicSureRow.holds Try.pinned (OpenSpec.ofChange fnExactMagicSureSpec)

/-- ITS FALSE NEIGHBOUR: 'it returns false'. Refute it at one input. -/
def fnExactMagicSureWrong : ChangeSpec := { name := "fnExactMagicSure", fn := fun _ => fun
  | [d1, d2, d3, d4] => { results := [.lit (.bool false)], args := [d1, d2, d3, d4] }
  | _ => none }
def FnExactMagicSureWrongFalsely : Prop := fnExactMagicSureRow.holds Try.pinned (OpenSpec.ofChange fnExactMagicSureWrong)

/-- 'laws.FnExactMagicOk': WHATEVER THE INPUT: true; the input reads as it did. -/
def fnExactMagicOkSpec : ChangeSpec := { name := "fnExactMagicOk", fn := fun _ => fun
  | [d1, d2, d3, d4] => { results := [.lit (.bool true)], args := [d1, d2, d3, d4] }
  | _ => none }
def fnExactMagicOkRow : OpenClaim := { program := "ytgbjppdfgjmiaaa", sum := "2dbf47388dbf24593f4bd48be8db1ea8c1a8dee8f9b71974daab4f18873567ac", func := "loop.example/bitwords/laws.FnExactMagicOk", spec := "fnExactMagicOk", apart := false }
def FnExactMagicOkSaid : Prop := fnExactMagicOkRow.holds Try.pinned (OpenSpec.ofChange fnExactMagicOkSpec)

/-- ITS FALSE NEIGHBOUR: 'it returns false'. Refute it at one input. -/
def fnExactMagicOkWrong : ChangeSpec := { name := "fnExactMagicOk", fn := fun _ => fun
  | [d1, d2, d3, d4] => { results := [.lit (.bool false)], args := [d1, d2, d3, d4] }
  | _ => none }
def FnExactMagicOkWrongFalsely : Prop := fnExactMagicOkRow.holds Try.pinned (OpenSpec.ofChange fnExactMagicOkWrong)

/-- 'laws.FnExactGrayOf': WHATEVER THE INPUT: true; the input reads as it did. -/
def fnExactGrayOfSpec : ChangeSpec := { name := "fnExactGrayOf", fn := fun _ => fun
  | [d1, d2] => { results := [.lit (.bool true)], args := [d1, d2] }
  | _ => none }
def fnExactGrayOfRow : OpenClaim := { program := "ytgbjppdfgjmiaaa", sum := "2dbf47388dbf24593f4bd48be8db1ea8c1a8dee8f9b71974daab4f18873567ac", func := "loop.example/bitwords/laws.FnExactGrayOf", spec := "fnExactGrayOf", unfollowed := true, recurses := true, apart := false }
def FnExactGrayOfSaid : Prop := fnExactGrayOfRow.holds Try.pinned (OpenSpec.ofChange fnExactGrayOfSpec)

/-- ITS FALSE NEIGHBOUR: 'it returns false'. Refute it at one input. -/
def fnExactGrayOfWrong : ChangeSpec := { name := "fnExactGrayOf", fn := fun _ => fun
  | [d1, d2] => { results := [.lit (.bool false)], args := [d1, d2] }
  | _ => none }
def FnExactGrayOfWrongFalsely : Prop := fnExactGrayOfRow.holds Try.pinned (OpenSpec.ofChange fnExactGrayOfWrong)

/-- 'laws.FnExactLowestOne': WHATEVER THE INPUT: true; the input reads as it did. -/
def fnExactLowestOneSpec : ChangeSpec := { name := "fnExactLowestOne", fn := fun _ => fun
  | [d1, d2] => { results := [.lit (.bool true)], args := [d1, d2] }
  | _ => none }
def fnExactLowestOneRow : OpenClaim := { program := "ytgbjppdfgjmiaaa", sum := "2dbf47388dbf24593f4bd48be8db1ea8c1a8dee8f9b71974daab4f18873567ac", func := "loop.example/bitwords/laws.FnExactLowestOne", spec := "fnExactLowestOne", unfollowed := true, recurses := true, apart := false }
def FnExactLowestOneSaid : Prop := fnExactLowestOneRow.holds Try.pinned (OpenSpec.ofChange fnExactLowestOneSpec)

/-- ITS FALSE NEIGHBOUR: 'it returns false'. Refute it at one input. -/
def fnExactLowestOneWrong : ChangeSpec := { name := "fnExactLowestOne", fn := fun _ => fun
  | [d1, d2] => { results := [.lit (.bool false)], args := [d1, d2] }
  | _ => none }
def FnExactLowestOneWrongFalsely : Prop := fnExactLowestOneRow.holds Try.pinned (OpenSpec.ofChange fnExactLowestOneWrong)

/-- 'laws.FnExactZigzagBack': WHATEVER THE INPUT: true; the input reads as it did. -/
def fnExactZigzagBackSpec : ChangeSpec := { name := "fnExactZigzagBack", fn := fun _ => fun
  | [d1, d2] => { results := [.lit (.bool true)], args := [d1, d2] }
  | _ => none }
def fnExactZigzagBackRow : OpenClaim := { program := "ytgbjppdfgjmiaaa", sum := "2dbf47388dbf24593f4bd48be8db1ea8c1a8dee8f9b71974daab4f18873567ac", func := "loop.example/bitwords/laws.FnExactZigzagBack", spec := "fnExactZigzagBack", unfollowed := true, recurses := true, apart := false }
def FnExactZigzagBackSaid : Prop := fnExactZigzagBackRow.holds Try.pinned (OpenSpec.ofChange fnExactZigzagBackSpec)

/-- ITS FALSE NEIGHBOUR: 'it returns false'. Refute it at one input. -/
def fnExactZigzagBackWrong : ChangeSpec := { name := "fnExactZigzagBack", fn := fun _ => fun
  | [d1, d2] => { results := [.lit (.bool false)], args := [d1, d2] }
  | _ => none }
def FnExactZigzagBackWrongFalsely : Prop := fnExactZigzagBackRow.holds Try.pinned (OpenSpec.ofChange fnExactZigzagBackWrong)

/-- 'laws.FnExactGrayBack': WHATEVER THE INPUT: true; the input reads as it did. -/
def fnExactGrayBackSpec : ChangeSpec := { name := "fnExactGrayBack", fn := fun _ => fun
  | [d1, d2] => { results := [.lit (.bool true)], args := [d1, d2] }
  | _ => none }
def fnExactGrayBackRow : OpenClaim := { program := "ytgbjppdfgjmiaaa", sum := "2dbf47388dbf24593f4bd48be8db1ea8c1a8dee8f9b71974daab4f18873567ac", func := "loop.example/bitwords/laws.FnExactGrayBack", spec := "fnExactGrayBack", unfollowed := true, recurses := true, apart := false }
def FnExactGrayBackSaid : Prop := fnExactGrayBackRow.holds Try.pinned (OpenSpec.ofChange fnExactGrayBackSpec)

/-- ITS FALSE NEIGHBOUR: 'it returns false'. Refute it at one input. -/
def fnExactGrayBackWrong : ChangeSpec := { name := "fnExactGrayBack", fn := fun _ => fun
  | [d1, d2] => { results := [.lit (.bool false)], args := [d1, d2] }
  | _ => none }
def FnExactGrayBackWrongFalsely : Prop := fnExactGrayBackRow.holds Try.pinned (OpenSpec.ofChange fnExactGrayBackWrong)

/-- 'laws.FnExactZigzagOf': WHATEVER THE INPUT: true; the input reads as it did. -/
def fnExactZigzagOfSpec : ChangeSpec := { name := "fnExactZigzagOf", fn := fun _ => fun
  | [d1, d2] => { results := [.lit (.bool true)], args := [d1, d2] }
  | _ => none }
def fnExactZigzagOfRow : OpenClaim := { program := "ytgbjppdfgjmiaaa", sum := "2dbf47388dbf24593f4bd48be8db1ea8c1a8dee8f9b71974daab4f18873567ac", func := "loop.example/bitwords/laws.FnExactZigzagOf", spec := "fnExactZigzagOf", unfollowed := true, recurses := true, apart := false }
def FnExactZigzagOfSaid : Prop := fnExactZigzagOfRow.holds Try.pinned (OpenSpec.ofChange fnExactZigzagOfSpec)

/-- ITS FALSE NEIGHBOUR: 'it returns false'. Refute it at one input. -/
def fnExactZigzagOfWrong : ChangeSpec := { name := "fnExactZigzagOf", fn := fun _ => fun
  | [d1, d2] => { results := [.lit (.bool false)], args := [d1, d2] }
  | _ => none }
def FnExactZigzagOfWrongFalsely : Prop := fnExactZigzagOfRow.holds Try.pinned (OpenSpec.ofChange fnExactZigzagOfWrong)

/-- 'laws.FnExactMagicOf': WHATEVER THE INPUT: true; the input reads as it did. -/
def fnExactMagicOfSpec : ChangeSpec := { name := "fnExactMagicOf", fn := fun _ => fun
  | [d1, d2] => { results := [.lit (.bool true)], args := [d1, d2] }
  | _ => none }
def fnExactMagicOfRow : OpenClaim := { program := "ytgbjppdfgjmiaaa", sum := "2dbf47388dbf24593f4bd48be8db1ea8c1a8dee8f9b71974daab4f18873567ac", func := "loop.example/bitwords/laws.FnExactMagicOf", spec := "fnExactMagicOf", apart := false }
def FnExactMagicOfSaid : Prop := fnExactMagicOfRow.holds Try.pinned (OpenSpec.ofChange fnExactMagicOfSpec)

/-- ITS FALSE NEIGHBOUR: 'it returns false'. Refute it at one input. -/
def fnExactMagicOfWrong : ChangeSpec := { name := "fnExactMagicOf", fn := fun _ => fun
  | [d1, d2] => { results := [.lit (.bool false)], args := [d1, d2] }
  | _ => none }
def FnExactMagicOfWrongFalsely : Prop := fnExactMagicOfRow.holds Try.pinned (OpenSpec.ofChange fnExactMagicOfWrong)

/-- 'laws.FnExactNafMany': WHATEVER THE INPUT: true; the input reads as it did. -/
def fnExactNafManySpec : ChangeSpec := { name := "fnExactNafMany", fn := fun _ => fun
  | [d] => { results := [.lit (.bool true)], args := [d] }
  | _ => none }
def fnExactNafManyRow : OpenClaim := { program := "ytgbjppdfgjmiaaa", sum := "2dbf47388dbf24593f4bd48be8db1ea8c1a8dee8f9b71974daab4f18873567ac", func := "loop.example/bitwords/laws.FnExactNafMany", spec := "fnExactNafMany", apart := false }
def FnExactNafManySaid : Prop := fnExactNafManyRow.holds Try.pinned (OpenSpec.ofChange fnExactNafManySpec)

/-- ITS FALSE NEIGHBOUR: 'it returns false'. Refute it at one input. -/
def fnExactNafManyWrong : ChangeSpec := { name := "fnExactNafMany", fn := fun _ => fun
  | [d] => { results := [.lit (.bool false)], args := [d] }
  | _ => none }
def FnExactNafManyWrongFalsely : Prop := fnExactNafManyRow.holds Try.pinned (OpenSpec.ofChange fnExactNafManyWrong)

/-- 'laws.FnExactInverseOf': WHATEVER THE INPUT: true; the input reads as it did. -/
def fnExactInverseOfSpec : ChangeSpec := { name := "fnExactInverseOf", fn := fun _ => fun
  | [d1, d2] => { results := [.lit (.bool true)], args := [d1, d2] }
  | _ => none }
def fnExactInverseOfRow : OpenClaim := { program := "ytgbjppdfgjmiaaa", sum := "2dbf47388dbf24593f4bd48be8db1ea8c1a8dee8f9b71974daab4f18873567ac", func := "loop.example/bitwords/laws.FnExactInverseOf", spec := "fnExactInverseOf", apart := false }
def FnExactInverseOfSaid : Prop := fnExactInverseOfRow.holds Try.pinned (OpenSpec.ofChange fnExactInverseOfSpec)

/-- ITS FALSE NEIGHBOUR: 'it returns false'. Refute it at one input. -/
def fnExactInverseOfWrong : ChangeSpec := { name := "fnExactInverseOf", fn := fun _ => fun
  | [d1, d2] => { results := [.lit (.bool false)], args := [d1, d2] }
  | _ => none }
def FnExactInverseOfWrongFalsely : Prop := fnExactInverseOfRow.holds Try.pinned (OpenSpec.ofChange fnExactInverseOfWrong)

/-- 'laws.FnExactNafOf': WHATEVER THE INPUT: true; the input reads as it did. -/
def fnExactNafOfSpec : ChangeSpec := { name := "fnExactNafOf", fn := fun _ => fun
  | [d] => { results := [.lit (.bool true)], args := [d] }
  | _ => none }
def fnExactNafOfRow : OpenClaim := { program := "ytgbjppdfgjmiaaa", sum := "2dbf47388dbf24593f4bd48be8db1ea8c1a8dee8f9b71974daab4f18873567ac", func := "loop.example/bitwords/laws.FnExactNafOf", spec := "fnExactNafOf", apart := false }
def FnExactNafOfSaid : Prop := fnExactNafOfRow.holds Try.pinned (OpenSpec.ofChange fnExactNafOfSpec)

/-- ITS FALSE NEIGHBOUR: 'it returns false'. Refute it at one input. -/
def fnExactNafOfWrong : ChangeSpec := { name := "fnExactNafOf", fn := fun _ => fun
  | [d] => { results := [.lit (.bool false)], args := [d] }
  | _ => none }
def FnExactNafOfWrongFalsely : Prop := fnExactNafOfRow.holds Try.pinned (OpenSpec.ofChange fnExactNafOfWrong)

/-- 'laws.FnExactPowerAbove': WHATEVER THE INPUT: true; the input reads as it did. -/
def fnExactPowerAboveSpec : ChangeSpec := { name := "fnExactPowerAbove", fn := fun _ => fun
  | [d1, d2] => { results := [.lit (.bool true)], args := [d1, d2] }
  | _ => none }
def fnExactPowerAboveRow : OpenClaim := { program := "ytgbjppdfgjmiaaa", sum := "2dbf47388dbf24593f4bd48be8db1ea8c1a8dee8f9b71974daab4f18873567ac", func := "loop.example/bitwords/laws.FnExactPowerAbove", spec := "fnExactPowerAbove", apart := false }
def FnExactPowerAboveSaid : Prop := fnExactPowerAboveRow.holds Try.pinned (OpenSpec.ofChange fnExactPowerAboveSpec)

/-- ITS FALSE NEIGHBOUR: 'it returns false'. Refute it at one input. -/
def fnExactPowerAboveWrong : ChangeSpec := { name := "fnExactPowerAbove", fn := fun _ => fun
  | [d1, d2] => { results := [.lit (.bool false)], args := [d1, d2] }
  | _ => none }
def FnExactPowerAboveWrongFalsely : Prop := fnExactPowerAboveRow.holds Try.pinned (OpenSpec.ofChange fnExactPowerAboveWrong)

/- THE SECOND FORM. 'bulk': how many values and letters a reading holds, each counted each time it is reached (what is shared counts as often as it is met; a slice's spare places count too). A statement '..UptoSaid' is the law's where the arguments, and the package variables that the reading takes, are together of bulk at most 1048576: NARROWER than '..Said'. Prove '..Said' where nothing that the law and all that it calls make is longer than what came in: it says more and counts as full. Else prove '..UptoSaid'. A law counts once. -/
mutual
def uptoBulk {H : Type} : DataW H → Nat
  | .lit (.string bytes) => bytes.length + 1
  | .lit _ => 1
  | .nil => 1
  | .ptr d => uptoBulk d + 1
  | .slice elems spare => uptoBulkAll elems + uptoBulkAll spare + 1
  | .agg parts => uptoBulkAll parts + 1
  | .iface _ d => uptoBulk d + 1
  | .map entries => uptoBulkEntries entries + 1
  | .held _ => 1
def uptoBulkAll {H : Type} : List (DataW H) → Nat
  | [] => 0
  | d :: r => uptoBulk d + uptoBulkAll r
def uptoBulkEntries {H : Type} : List (Lit × DataW H) → Nat
  | [] => 0
  | x :: r => uptoBulkEntry x + uptoBulkEntries r
def uptoBulkEntry {H : Type} : Lit × DataW H → Nat
  | (.string bytes, d) => bytes.length + uptoBulk d + 1
  | (_, d) => uptoBulk d + 1
 end
def uptoSmall : (H : Type) → List (DataW H) → Bool := fun _ ds => decide (uptoBulkAll ds ≤ 1048576)
def OpenSpec.upto (s : _root_.Go.ChangeSpec) : _root_.Go.OpenSpec := { _root_.Go.OpenSpec.ofChange s with cond := some uptoSmall }

/-- 'laws.FnExactMagicSure', WHERE WHAT IT READS IS OF BULK AT MOST 1048576: true; the input reads as it did. -/
def fnExactMagicSureUptoRow : OpenClaim := { program := "ytgbjppdfgjmiaaa", sum := "2dbf47388dbf24593f4bd48be8db1ea8c1a8dee8f9b71974daab4f18873567ac", func := "loop.example/bitwords/laws.FnExactMagicSure", spec := "fnExactMagicSure", apart := false, narrowed := true }
def FnExactMagicSureUptoSaid : Prop := fnExactMagicSureUptoRow.holds Try.pinned (OpenSpec.upto fnExactMagicSureSpec)

/-- 'laws.FnExactMagicOk', WHERE WHAT IT READS IS OF BULK AT MOST 1048576: true; the input reads as it did. -/
def fnExactMagicOkUptoRow : OpenClaim := { program := "ytgbjppdfgjmiaaa", sum := "2dbf47388dbf24593f4bd48be8db1ea8c1a8dee8f9b71974daab4f18873567ac", func := "loop.example/bitwords/laws.FnExactMagicOk", spec := "fnExactMagicOk", apart := false, narrowed := true }
def FnExactMagicOkUptoSaid : Prop := fnExactMagicOkUptoRow.holds Try.pinned (OpenSpec.upto fnExactMagicOkSpec)

/-- 'laws.FnExactGrayOf', WHERE WHAT IT READS IS OF BULK AT MOST 1048576: true; the input reads as it did. -/
def fnExactGrayOfUptoRow : OpenClaim := { program := "ytgbjppdfgjmiaaa", sum := "2dbf47388dbf24593f4bd48be8db1ea8c1a8dee8f9b71974daab4f18873567ac", func := "loop.example/bitwords/laws.FnExactGrayOf", spec := "fnExactGrayOf", unfollowed := true, recurses := true, apart := false, narrowed := true }
def FnExactGrayOfUptoSaid : Prop := fnExactGrayOfUptoRow.holds Try.pinned (OpenSpec.upto fnExactGrayOfSpec)

/-- 'laws.FnExactLowestOne', WHERE WHAT IT READS IS OF BULK AT MOST 1048576: true; the input reads as it did. -/
def fnExactLowestOneUptoRow : OpenClaim := { program := "ytgbjppdfgjmiaaa", sum := "2dbf47388dbf24593f4bd48be8db1ea8c1a8dee8f9b71974daab4f18873567ac", func := "loop.example/bitwords/laws.FnExactLowestOne", spec := "fnExactLowestOne", unfollowed := true, recurses := true, apart := false, narrowed := true }
def FnExactLowestOneUptoSaid : Prop := fnExactLowestOneUptoRow.holds Try.pinned (OpenSpec.upto fnExactLowestOneSpec)

/-- 'laws.FnExactZigzagBack', WHERE WHAT IT READS IS OF BULK AT MOST 1048576: true; the input reads as it did. -/
def fnExactZigzagBackUptoRow : OpenClaim := { program := "ytgbjppdfgjmiaaa", sum := "2dbf47388dbf24593f4bd48be8db1ea8c1a8dee8f9b71974daab4f18873567ac", func := "loop.example/bitwords/laws.FnExactZigzagBack", spec := "fnExactZigzagBack", unfollowed := true, recurses := true, apart := false, narrowed := true }
def FnExactZigzagBackUptoSaid : Prop := fnExactZigzagBackUptoRow.holds Try.pinned (OpenSpec.upto fnExactZigzagBackSpec)

/-- 'laws.FnExactGrayBack', WHERE WHAT IT READS IS OF BULK AT MOST 1048576: true; the input reads as it did. -/
def fnExactGrayBackUptoRow : OpenClaim := { program := "ytgbjppdfgjmiaaa", sum := "2dbf47388dbf24593f4bd48be8db1ea8c1a8dee8f9b71974daab4f18873567ac", func := "loop.example/bitwords/laws.FnExactGrayBack", spec := "fnExactGrayBack", unfollowed := true, recurses := true, apart := false, narrowed := true }
def FnExactGrayBackUptoSaid : Prop := fnExactGrayBackUptoRow.holds Try.pinned (OpenSpec.upto fnExactGrayBackSpec)

/-- 'laws.FnExactZigzagOf', WHERE WHAT IT READS IS OF BULK AT MOST 1048576: true; the input reads as it did. -/
def fnExactZigzagOfUptoRow : OpenClaim := { program := "ytgbjppdfgjmiaaa", sum := "2dbf47388dbf24593f4bd48be8db1ea8c1a8dee8f9b71974daab4f18873567ac", func := "loop.example/bitwords/laws.FnExactZigzagOf", spec := "fnExactZigzagOf", unfollowed := true, recurses := true, apart := false, narrowed := true }
def FnExactZigzagOfUptoSaid : Prop := fnExactZigzagOfUptoRow.holds Try.pinned (OpenSpec.upto fnExactZigzagOfSpec)

/-- 'laws.FnExactMagicOf', WHERE WHAT IT READS IS OF BULK AT MOST 1048576: true; the input reads as it did. -/
def fnExactMagicOfUptoRow : OpenClaim := { program := "ytgbjppdfgjmiaaa", sum := "2dbf47388dbf24593f4bd48be8db1ea8c1a8dee8f9b71974daab4f18873567ac", func := "loop.example/bitwords/laws.FnExactMagicOf", spec := "fnExactMagicOf", apart := false, narrowed := true }
def FnExactMagicOfUptoSaid : Prop := fnExactMagicOfUptoRow.holds Try.pinned (OpenSpec.upto fnExactMagicOfSpec)

/-- 'laws.FnExactNafMany', WHERE WHAT IT READS IS OF BULK AT MOST 1048576: true; the input reads as it did. -/
def fnExactNafManyUptoRow : OpenClaim := { program := "ytgbjppdfgjmiaaa", sum := "2dbf47388dbf24593f4bd48be8db1ea8c1a8dee8f9b71974daab4f18873567ac", func := "loop.example/bitwords/laws.FnExactNafMany", spec := "fnExactNafMany", apart := false, narrowed := true }
def FnExactNafManyUptoSaid : Prop := fnExactNafManyUptoRow.holds Try.pinned (OpenSpec.upto fnExactNafManySpec)

/-- 'laws.FnExactInverseOf', WHERE WHAT IT READS IS OF BULK AT MOST 1048576: true; the input reads as it did. -/
def fnExactInverseOfUptoRow : OpenClaim := { program := "ytgbjppdfgjmiaaa", sum := "2dbf47388dbf24593f4bd48be8db1ea8c1a8dee8f9b71974daab4f18873567ac", func := "loop.example/bitwords/laws.FnExactInverseOf", spec := "fnExactInverseOf", apart := false, narrowed := true }
def FnExactInverseOfUptoSaid : Prop := fnExactInverseOfUptoRow.holds Try.pinned (OpenSpec.upto fnExactInverseOfSpec)

/-- 'laws.FnExactNafOf', WHERE WHAT IT READS IS OF BULK AT MOST 1048576: true; the input reads as it did. -/
def fnExactNafOfUptoRow : OpenClaim := { program := "ytgbjppdfgjmiaaa", sum := "2dbf47388dbf24593f4bd48be8db1ea8c1a8dee8f9b71974daab4f18873567ac", func := "loop.example/bitwords/laws.FnExactNafOf", spec := "fnExactNafOf", apart := false, narrowed := true }
def FnExactNafOfUptoSaid : Prop := fnExactNafOfUptoRow.holds Try.pinned (OpenSpec.upto fnExactNafOfSpec)

/-- 'laws.FnExactPowerAbove', WHERE WHAT IT READS IS OF BULK AT MOST 1048576: true; the input reads as it did. -/
def fnExactPowerAboveUptoRow : OpenClaim := { program := "ytgbjppdfgjmiaaa", sum := "2dbf47388dbf24593f4bd48be8db1ea8c1a8dee8f9b71974daab4f18873567ac", func := "loop.example/bitwords/laws.FnExactPowerAbove", spec := "fnExactPowerAbove", apart := false, narrowed := true }
def FnExactPowerAboveUptoSaid : Prop := fnExactPowerAboveUptoRow.holds Try.pinned (OpenSpec.upto fnExactPowerAboveSpec)

end Rows
end Go.Proofs.Ytgbjppdfgjmiaaa
