/- The facts on the head line of the cut (what it is made of, and whether it may be entered); closed, no condition. -/
import Derived.Test.YtdjggccplaifbaaProg
import Derived.Test.YtdjggccplaifbaaChecked
import Derived.Test.YtdjggccplaifbaaRows
import Derived.JoinedOf
import Derived.ProofKit
namespace Go.Proofs.Ytdjggccplaifbaa
open Go.RowKit
/-- words with a space between any two -/
def joinW : List (List Char) → List Char
  | [] => []
  | [w] => w
  | w :: v :: r => w ++ ' ' :: joinW (v :: r)
def noSp (w : List Char) : Bool := w.all fun c => !(c == ' ')
theorem ws_word : ∀ (w : List Char), noSp w = true → wordsSigns w = [w]
  | [], _ => rfl
  | c :: w, h => by
    simp only [noSp, List.all_cons, Bool.and_eq_true] at h
    have hc : c ≠ ' ' := by have h1 := h.1; simp at h1; exact h1
    have ih := ws_word w h.2
    rw [wordsSigns]
    · rw [ih]
    · exact hc
theorem ws_app : ∀ (w r : List Char), noSp w = true → wordsSigns (w ++ ' ' :: r) = w :: wordsSigns r
  | [], _, _ => rfl
  | c :: w, r, h => by
    simp only [noSp, List.all_cons, Bool.and_eq_true] at h
    have hc : c ≠ ' ' := by have h1 := h.1; simp at h1; exact h1
    have ih := ws_app w r h.2
    rw [List.cons_append, wordsSigns]
    · rw [ih]
    · exact hc
theorem ws_join : ∀ (l : List (List Char)), l ≠ [] → l.all noSp = true → wordsSigns (joinW l) = l
  | [], h, _ => absurd rfl h
  | [w], _, h => by
    simp only [List.all_cons, Bool.and_eq_true] at h
    exact ws_word w h.1
  | w :: v :: r, _, h => by
    rw [List.all_cons, Bool.and_eq_true] at h
    rw [joinW, ws_app w _ h.1, ws_join (v :: r) (by simp) h.2]
def headWords : List (List Char) := [['h', 'a', 'r', 'n', 'e', 's', 's'],
  ['e', '5', '6', 'f', 'f', '6', '8', '6', '1', '8', '1', '4', 'a', '2', 'c', '3', '7', '3', '5', '0', '1', '1', '8', 'a', '1', 'c', 'e', '4', '0', '7', '3', '2', 'e', 'b', 'f', 'a', 'e', '6', '6', 'e', 'a', '1', '8', '6', '8', '3', '3', '4', 'b', '9', 'a', '3', '3', '0', '3', 'f', '5', '1', '9', '7', 'f', 'a', '5', '3'],
  ['c', 'u', 't'],
  ['a', 't'],
  ['l', 'o', 'o', 'p', '.', 'e', 'x', 'a', 'm', 'p', 'l', 'e', '/', 'b', 'i', 't', 'w', 'o', 'r', 'd', 's', '/', 'l', 'a', 'w', 's', '.', 'F', 'n', 'E', 'x', 'a', 'c', 't', 'E', 'x', 'a', 'c', 't', 'D', 'i', 'v', 'i', 'd', 'e'],
  ['l', 'o', 'o', 'p', '.', 'e', 'x', 'a', 'm', 'p', 'l', 'e', '/', 'b', 'i', 't', 'w', 'o', 'r', 'd', 's', '/', 'l', 'a', 'w', 's', '.', 'F', 'n', 'E', 'x', 'a', 'c', 't', 'N', 'a', 'f', 'T', 'i', 'm', 'e', 's'],
  ['l', 'o', 'o', 'p', '.', 'e', 'x', 'a', 'm', 'p', 'l', 'e', '/', 'b', 'i', 't', 'w', 'o', 'r', 'd', 's', '/', 'l', 'a', 'w', 's', '.', 'F', 'n', 'E', 'x', 'a', 'c', 't', 'D', 'i', 'v', 'i', 'd', 'e', 's', 'O', 'd', 'd'],
  ['l', 'o', 'o', 'p', '.', 'e', 'x', 'a', 'm', 'p', 'l', 'e', '/', 'b', 'i', 't', 'w', 'o', 'r', 'd', 's', '/', 'l', 'a', 'w', 's', '.', 'F', 'n', 'E', 'x', 'a', 'c', 't', 'I', 'n', 'v', 'e', 'r', 's', 'e', 'S', 't', 'e', 'p', 's'],
  ['l', 'o', 'o', 'p', '.', 'e', 'x', 'a', 'm', 'p', 'l', 'e', '/', 'b', 'i', 't', 'w', 'o', 'r', 'd', 's', '/', 'l', 'a', 'w', 's', '.', 'F', 'n', 'E', 'x', 'a', 'c', 't', 'D', 'i', 'v', 'i', 'd', 'e', 'B', 'y'],
  ['l', 'o', 'o', 'p', '.', 'e', 'x', 'a', 'm', 'p', 'l', 'e', '/', 'b', 'i', 't', 'w', 'o', 'r', 'd', 's', '/', 'l', 'a', 'w', 's', '.', 'F', 'n', 'M', 'a', 'g', 'i', 'c', 'O', 'k'],
  ['l', 'o', 'o', 'p', '.', 'e', 'x', 'a', 'm', 'p', 'l', 'e', '/', 'b', 'i', 't', 'w', 'o', 'r', 'd', 's', '/', 'l', 'a', 'w', 's', '.', 'F', 'n', 'M', 'a', 'g', 'i', 'c', 'S', 'u', 'r', 'e'],
  ['l', 'o', 'o', 'p', '.', 'e', 'x', 'a', 'm', 'p', 'l', 'e', '/', 'b', 'i', 't', 'w', 'o', 'r', 'd', 's', '/', 'l', 'a', 'w', 's', '.', 'F', 'n', 'N', 'a', 'f', 'O', 'f'],
  ['l', 'o', 'o', 'p', '.', 'e', 'x', 'a', 'm', 'p', 'l', 'e', '/', 'b', 'i', 't', 'w', 'o', 'r', 'd', 's', '/', 'l', 'a', 'w', 's', '.', 'F', 'n', 'M', 'a', 'g', 'i', 'c', 'O', 'f'],
  ['l', 'o', 'o', 'p', '.', 'e', 'x', 'a', 'm', 'p', 'l', 'e', '/', 'b', 'i', 't', 'w', 'o', 'r', 'd', 's', '/', 'l', 'a', 'w', 's', '.', 'F', 'n', 'N', 'a', 'f', 'M', 'a', 'n', 'y'],
  ['l', 'o', 'o', 'p', '.', 'e', 'x', 'a', 'm', 'p', 'l', 'e', '/', 'b', 'i', 't', 'w', 'o', 'r', 'd', 's', '/', 'l', 'a', 'w', 's', '.', 'F', 'n', 'I', 'n', 'v', 'e', 'r', 's', 'e', 'S', 't', 'e', 'p', 's'],
  ['l', 'o', 'o', 'p', '.', 'e', 'x', 'a', 'm', 'p', 'l', 'e', '/', 'b', 'i', 't', 'w', 'o', 'r', 'd', 's', '/', 'l', 'a', 'w', 's', '.', 'F', 'n', 'I', 'n', 'v', 'e', 'r', 's', 'e', 'O', 'f'],
  ['l', 'o', 'o', 'p', '.', 'e', 'x', 'a', 'm', 'p', 'l', 'e', '/', 'b', 'i', 't', 'w', 'o', 'r', 'd', 's', '/', 'l', 'a', 'w', 's', '.', 'F', 'n', 'D', 'i', 'v', 'i', 'd', 'e', 'B', 'y'],
  ['l', 'o', 'o', 'p', '.', 'e', 'x', 'a', 'm', 'p', 'l', 'e', '/', 'b', 'i', 't', 'w', 'o', 'r', 'd', 's', '/', 'l', 'a', 'w', 's', '.', 'F', 'n', 'E', 'x', 'a', 'c', 't', 'D', 'i', 'v', 'i', 'd', 'e'],
  ['l', 'o', 'o', 'p', '.', 'e', 'x', 'a', 'm', 'p', 'l', 'e', '/', 'b', 'i', 't', 'w', 'o', 'r', 'd', 's', '/', 'l', 'a', 'w', 's', '.', 'F', 'n', 'N', 'a', 'f', 'T', 'i', 'm', 'e', 's'],
  ['l', 'o', 'o', 'p', '.', 'e', 'x', 'a', 'm', 'p', 'l', 'e', '/', 'b', 'i', 't', 'w', 'o', 'r', 'd', 's', '/', 'l', 'a', 'w', 's', '.', 'F', 'n', 'D', 'i', 'v', 'i', 'd', 'e', 's', 'O', 'd', 'd']]
theorem head_eq : Try.pinned.checked.prog.initOrder = String.ofList (joinW headWords) := by kernel_rfl
theorem head_nosp : headWords.all noSp = true := by kernel_rfl
theorem head_words : wordsSigns Try.pinned.checked.prog.initOrder.toList = headWords := by
  rw [head_eq, String.toList_ofList]
  exact ws_join headWords (by unfold headWords; simp) head_nosp
theorem ne_gc : ((['c', 'u', 't'] : List Char) == "gc".toList) = false := by kernel_rfl
theorem ne_spec : ((['c', 'u', 't'] : List Char) == "spec".toList) = false := by kernel_rfl
theorem ne_carried : ((['c', 'u', 't'] : List Char) == "carried".toList) = false := by kernel_rfl
theorem eq_cut : ((['c', 'u', 't'] : List Char) == "cut".toList) = true := by kernel_rfl
theorem eq_harness : ((['h', 'a', 'r', 'n', 'e', 's', 's'] : List Char) == "harness".toList) = true := by kernel_rfl
theorem strip_gen (r : List (List Char)) : stripLifts liftWords (['c', 'u', 't'] :: r) = ([], ['c', 'u', 't'] :: r) := by rfl
theorem behind_gen (s : List Char) (r : List (List Char)) (hs : isSumSigns s = true) :
    behindMainWord (['h', 'a', 'r', 'n', 'e', 's', 's'] :: s :: r) = r := by
  rw [behindMainWord, eq_harness, hs]; rfl
/-- the head's facts, of any program with such a head -/
theorem lifts_gen (P : Program) (s : List Char) (r : List (List Char)) (hs : isSumSigns s = true)
    (h : wordsSigns P.initOrder.toList = ['h', 'a', 'r', 'n', 'e', 's', 's'] :: s :: ['c', 'u', 't'] :: r) : P.headLifts = [] := by
  unfold Program.headLifts
  rw [h, behind_gen s _ hs, strip_gen]
  exact ite_self _
theorem final_gen (P : Program) (s : List Char) (r : List (List Char)) (hs : isSumSigns s = true)
    (h : wordsSigns P.initOrder.toList = ['h', 'a', 'r', 'n', 'e', 's', 's'] :: s :: ['c', 'u', 't'] :: r) : P.liftsFinal = false := by
  unfold Program.liftsFinal
  rw [lifts_gen P s r hs h, h, behind_gen s _ hs]
  rfl
theorem make_gen (P : Program) (s : List Char) (r : List (List Char)) (hs : isSumSigns s = true)
    (h : wordsSigns P.initOrder.toList = ['h', 'a', 'r', 'n', 'e', 's', 's'] :: s :: ['c', 'u', 't'] :: r) : P.make = some .cut := by
  unfold Program.make
  rw [h, behind_gen s _ hs]
  simp only [ne_gc, ne_spec, eq_cut, Bool.or_self, Bool.true_or, Bool.false_eq_true, if_false, if_true]
theorem enter_gen (P : Program) (s : List Char) (r : List (List Char)) (hs : isSumSigns s = true)
    (h : wordsSigns P.initOrder.toList = ['h', 'a', 'r', 'n', 'e', 's', 's'] :: s :: ['c', 'u', 't'] :: r)
    (h1 : P.laysLater = false) (h2 : P.bearsReflect = false) (h3 : P.doorFits [] = true) : P.mayEnter = true := by
  unfold Program.mayEnter
  rw [h, behind_gen s _ hs]
  simp only [ne_gc, ne_spec, ne_carried, strip_gen, h1, h2, h3]
  rfl
theorem main_gen (P : Program) (s : List Char) (r : List (List Char)) (hs : isSumSigns s = true)
    (h : wordsSigns P.initOrder.toList = ['h', 'a', 'r', 'n', 'e', 's', 's'] :: s :: ['c', 'u', 't'] :: r) : P.mainIs = some (true, s) := by
  unfold Program.mainIs
  rw [h]
  simp only [hs, eq_harness, Bool.not_true, Bool.false_eq_true, if_false, if_true]
def headSum : List Char := ['e', '5', '6', 'f', 'f', '6', '8', '6', '1', '8', '1', '4', 'a', '2', 'c', '3', '7', '3', '5', '0', '1', '1', '8', 'a', '1', 'c', 'e', '4', '0', '7', '3', '2', 'e', 'b', 'f', 'a', 'e', '6', '6', 'e', 'a', '1', '8', '6', '8', '3', '3', '4', 'b', '9', 'a', '3', '3', '0', '3', 'f', '5', '1', '9', '7', 'f', 'a', '5', '3']
def headRest : List (List Char) := [['a', 't'],
  ['l', 'o', 'o', 'p', '.', 'e', 'x', 'a', 'm', 'p', 'l', 'e', '/', 'b', 'i', 't', 'w', 'o', 'r', 'd', 's', '/', 'l', 'a', 'w', 's', '.', 'F', 'n', 'E', 'x', 'a', 'c', 't', 'E', 'x', 'a', 'c', 't', 'D', 'i', 'v', 'i', 'd', 'e'],
  ['l', 'o', 'o', 'p', '.', 'e', 'x', 'a', 'm', 'p', 'l', 'e', '/', 'b', 'i', 't', 'w', 'o', 'r', 'd', 's', '/', 'l', 'a', 'w', 's', '.', 'F', 'n', 'E', 'x', 'a', 'c', 't', 'N', 'a', 'f', 'T', 'i', 'm', 'e', 's'],
  ['l', 'o', 'o', 'p', '.', 'e', 'x', 'a', 'm', 'p', 'l', 'e', '/', 'b', 'i', 't', 'w', 'o', 'r', 'd', 's', '/', 'l', 'a', 'w', 's', '.', 'F', 'n', 'E', 'x', 'a', 'c', 't', 'D', 'i', 'v', 'i', 'd', 'e', 's', 'O', 'd', 'd'],
  ['l', 'o', 'o', 'p', '.', 'e', 'x', 'a', 'm', 'p', 'l', 'e', '/', 'b', 'i', 't', 'w', 'o', 'r', 'd', 's', '/', 'l', 'a', 'w', 's', '.', 'F', 'n', 'E', 'x', 'a', 'c', 't', 'I', 'n', 'v', 'e', 'r', 's', 'e', 'S', 't', 'e', 'p', 's'],
  ['l', 'o', 'o', 'p', '.', 'e', 'x', 'a', 'm', 'p', 'l', 'e', '/', 'b', 'i', 't', 'w', 'o', 'r', 'd', 's', '/', 'l', 'a', 'w', 's', '.', 'F', 'n', 'E', 'x', 'a', 'c', 't', 'D', 'i', 'v', 'i', 'd', 'e', 'B', 'y'],
  ['l', 'o', 'o', 'p', '.', 'e', 'x', 'a', 'm', 'p', 'l', 'e', '/', 'b', 'i', 't', 'w', 'o', 'r', 'd', 's', '/', 'l', 'a', 'w', 's', '.', 'F', 'n', 'M', 'a', 'g', 'i', 'c', 'O', 'k'],
  ['l', 'o', 'o', 'p', '.', 'e', 'x', 'a', 'm', 'p', 'l', 'e', '/', 'b', 'i', 't', 'w', 'o', 'r', 'd', 's', '/', 'l', 'a', 'w', 's', '.', 'F', 'n', 'M', 'a', 'g', 'i', 'c', 'S', 'u', 'r', 'e'],
  ['l', 'o', 'o', 'p', '.', 'e', 'x', 'a', 'm', 'p', 'l', 'e', '/', 'b', 'i', 't', 'w', 'o', 'r', 'd', 's', '/', 'l', 'a', 'w', 's', '.', 'F', 'n', 'N', 'a', 'f', 'O', 'f'],
  ['l', 'o', 'o', 'p', '.', 'e', 'x', 'a', 'm', 'p', 'l', 'e', '/', 'b', 'i', 't', 'w', 'o', 'r', 'd', 's', '/', 'l', 'a', 'w', 's', '.', 'F', 'n', 'M', 'a', 'g', 'i', 'c', 'O', 'f'],
  ['l', 'o', 'o', 'p', '.', 'e', 'x', 'a', 'm', 'p', 'l', 'e', '/', 'b', 'i', 't', 'w', 'o', 'r', 'd', 's', '/', 'l', 'a', 'w', 's', '.', 'F', 'n', 'N', 'a', 'f', 'M', 'a', 'n', 'y'],
  ['l', 'o', 'o', 'p', '.', 'e', 'x', 'a', 'm', 'p', 'l', 'e', '/', 'b', 'i', 't', 'w', 'o', 'r', 'd', 's', '/', 'l', 'a', 'w', 's', '.', 'F', 'n', 'I', 'n', 'v', 'e', 'r', 's', 'e', 'S', 't', 'e', 'p', 's'],
  ['l', 'o', 'o', 'p', '.', 'e', 'x', 'a', 'm', 'p', 'l', 'e', '/', 'b', 'i', 't', 'w', 'o', 'r', 'd', 's', '/', 'l', 'a', 'w', 's', '.', 'F', 'n', 'I', 'n', 'v', 'e', 'r', 's', 'e', 'O', 'f'],
  ['l', 'o', 'o', 'p', '.', 'e', 'x', 'a', 'm', 'p', 'l', 'e', '/', 'b', 'i', 't', 'w', 'o', 'r', 'd', 's', '/', 'l', 'a', 'w', 's', '.', 'F', 'n', 'D', 'i', 'v', 'i', 'd', 'e', 'B', 'y'],
  ['l', 'o', 'o', 'p', '.', 'e', 'x', 'a', 'm', 'p', 'l', 'e', '/', 'b', 'i', 't', 'w', 'o', 'r', 'd', 's', '/', 'l', 'a', 'w', 's', '.', 'F', 'n', 'E', 'x', 'a', 'c', 't', 'D', 'i', 'v', 'i', 'd', 'e'],
  ['l', 'o', 'o', 'p', '.', 'e', 'x', 'a', 'm', 'p', 'l', 'e', '/', 'b', 'i', 't', 'w', 'o', 'r', 'd', 's', '/', 'l', 'a', 'w', 's', '.', 'F', 'n', 'N', 'a', 'f', 'T', 'i', 'm', 'e', 's'],
  ['l', 'o', 'o', 'p', '.', 'e', 'x', 'a', 'm', 'p', 'l', 'e', '/', 'b', 'i', 't', 'w', 'o', 'r', 'd', 's', '/', 'l', 'a', 'w', 's', '.', 'F', 'n', 'D', 'i', 'v', 'i', 'd', 'e', 's', 'O', 'd', 'd']]
theorem sum_is : isSumSigns headSum = true := by kernel_rfl
theorem head_split : headWords = ['h', 'a', 'r', 'n', 'e', 's', 's'] :: headSum :: ['c', 'u', 't'] :: headRest := by kernel_rfl
theorem later_no : Try.pinned.checked.prog.laysLater = false := by kernel_rfl
theorem reflect_no : Try.pinned.checked.prog.bearsReflect = false := by kernel_rfl
theorem door_fits : Try.pinned.checked.prog.doorFits [] = true := by kernel_rfl
theorem may_enter : Try.pinned.checked.prog.mayEnter = true := enter_gen _ _ _ sum_is (head_words.trans head_split) later_no reflect_no door_fits
theorem lifts_final : Try.pinned.checked.prog.liftsFinal = false := final_gen _ _ _ sum_is (head_words.trans head_split)
theorem make_is : Try.pinned.checked.prog.make = some .cut := make_gen _ _ _ sum_is (head_words.trans head_split)
theorem main_is : Try.pinned.checked.prog.mainIs = some (true, headSum) := main_gen _ _ _ sum_is (head_words.trans head_split)
end Go.Proofs.Ytdjggccplaifbaa
