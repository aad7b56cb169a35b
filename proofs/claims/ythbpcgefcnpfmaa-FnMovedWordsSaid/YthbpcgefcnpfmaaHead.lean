/- The facts on the head line of the cut (what it is made of, and whether it may be entered); closed, no condition. -/
import Derived.Test.YthbpcgefcnpfmaaProg
import Derived.Test.YthbpcgefcnpfmaaChecked
import Derived.Test.YthbpcgefcnpfmaaRows
import Derived.JoinedOf
import Derived.ProofKit
namespace Go.Proofs.Ythbpcgefcnpfmaa
open Go.RowKit
/-- words with a space between any two -/
def joinW : List (List Char) → List Char
  | [] => []
  | [w] => w
  | w :: v :: r => w ++ Char.ofNat 32 :: joinW (v :: r)
def noSp (w : List Char) : Bool := w.all fun c => !(c == Char.ofNat 32)
theorem ws_word : ∀ (w : List Char), noSp w = true → wordsSigns w = [w]
  | [], _ => rfl
  | c :: w, h => by
    simp only [noSp, List.all_cons, Bool.and_eq_true] at h
    have hc : c ≠ Char.ofNat 32 := by have h1 := h.1; simp at h1; exact h1
    have ih := ws_word w h.2
    rw [wordsSigns]
    · rw [ih]
    · exact hc
theorem ws_app : ∀ (w r : List Char), noSp w = true → wordsSigns (w ++ Char.ofNat 32 :: r) = w :: wordsSigns r
  | [], _, _ => rfl
  | c :: w, r, h => by
    simp only [noSp, List.all_cons, Bool.and_eq_true] at h
    have hc : c ≠ Char.ofNat 32 := by have h1 := h.1; simp at h1; exact h1
    have ih := ws_app w r h.2
    rw [List.cons_append, wordsSigns]
    · rw [ih]
    · exact hc
theorem ws_join : ∀ (l : List (List Char)), l ≠ [] → l.all noSp = true → wordsSigns (joinW l) = l
  | [], h, _ => absurd rfl h
  | [w], _, h => by
    simp only [List.all_cons, Bool.and_eq_true] at h
    exact ws_word w h.1
  | w :: v :: r, _, h => by
    rw [List.all_cons, Bool.and_eq_true] at h
    rw [joinW, ws_app w _ h.1, ws_join (v :: r) (by simp) h.2]
def headWords : List (List Char) := [[Char.ofNat 104, Char.ofNat 97, Char.ofNat 114, Char.ofNat 110, Char.ofNat 101, Char.ofNat 115, Char.ofNat 115],
  [Char.ofNat 55, Char.ofNat 56, Char.ofNat 50, Char.ofNat 53, Char.ofNat 48, Char.ofNat 48, Char.ofNat 51, Char.ofNat 56, Char.ofNat 52, Char.ofNat 51, Char.ofNat 57, Char.ofNat 57, Char.ofNat 101, Char.ofNat 51, Char.ofNat 97, Char.ofNat 98, Char.ofNat 97, Char.ofNat 102, Char.ofNat 98, Char.ofNat 99, Char.ofNat 50, Char.ofNat 54, Char.ofNat 48, Char.ofNat 57, Char.ofNat 55, Char.ofNat 50, Char.ofNat 55, Char.ofNat 54, Char.ofNat 98, Char.ofNat 50, Char.ofNat 49, Char.ofNat 57, Char.ofNat 99, Char.ofNat 55, Char.ofNat 97, Char.ofNat 51, Char.ofNat 101, Char.ofNat 53, Char.ofNat 50, Char.ofNat 98, Char.ofNat 52, Char.ofNat 102, Char.ofNat 52, Char.ofNat 97, Char.ofNat 55, Char.ofNat 101, Char.ofNat 52, Char.ofNat 56, Char.ofNat 54, Char.ofNat 50, Char.ofNat 53, Char.ofNat 54, Char.ofNat 98, Char.ofNat 57, Char.ofNat 50, Char.ofNat 54, Char.ofNat 49, Char.ofNat 48, Char.ofNat 57, Char.ofNat 98, Char.ofNat 98, Char.ofNat 99, Char.ofNat 101, Char.ofNat 49],
  [Char.ofNat 99, Char.ofNat 117, Char.ofNat 116],
  [Char.ofNat 97, Char.ofNat 116],
  [Char.ofNat 108, Char.ofNat 111, Char.ofNat 111, Char.ofNat 112, Char.ofNat 46, Char.ofNat 101, Char.ofNat 120, Char.ofNat 97, Char.ofNat 109, Char.ofNat 112, Char.ofNat 108, Char.ofNat 101, Char.ofNat 47, Char.ofNat 98, Char.ofNat 105, Char.ofNat 116, Char.ofNat 119, Char.ofNat 111, Char.ofNat 114, Char.ofNat 100, Char.ofNat 115, Char.ofNat 47, Char.ofNat 108, Char.ofNat 97, Char.ofNat 119, Char.ofNat 115, Char.ofNat 46, Char.ofNat 70, Char.ofNat 110, Char.ofNat 69, Char.ofNat 120, Char.ofNat 97, Char.ofNat 99, Char.ofNat 116, Char.ofNat 66, Char.ofNat 111, Char.ofNat 111, Char.ofNat 116, Char.ofNat 104, Char.ofNat 84, Char.ofNat 105, Char.ofNat 109, Char.ofNat 101, Char.ofNat 115],
  [Char.ofNat 108, Char.ofNat 111, Char.ofNat 111, Char.ofNat 112, Char.ofNat 46, Char.ofNat 101, Char.ofNat 120, Char.ofNat 97, Char.ofNat 109, Char.ofNat 112, Char.ofNat 108, Char.ofNat 101, Char.ofNat 47, Char.ofNat 98, Char.ofNat 105, Char.ofNat 116, Char.ofNat 119, Char.ofNat 111, Char.ofNat 114, Char.ofNat 100, Char.ofNat 115, Char.ofNat 47, Char.ofNat 108, Char.ofNat 97, Char.ofNat 119, Char.ofNat 115, Char.ofNat 46, Char.ofNat 70, Char.ofNat 110, Char.ofNat 87, Char.ofNat 111, Char.ofNat 114, Char.ofNat 100, Char.ofNat 68, Char.ofNat 105, Char.ofNat 118, Char.ofNat 105, Char.ofNat 100, Char.ofNat 101],
  [Char.ofNat 108, Char.ofNat 111, Char.ofNat 111, Char.ofNat 112, Char.ofNat 46, Char.ofNat 101, Char.ofNat 120, Char.ofNat 97, Char.ofNat 109, Char.ofNat 112, Char.ofNat 108, Char.ofNat 101, Char.ofNat 47, Char.ofNat 98, Char.ofNat 105, Char.ofNat 116, Char.ofNat 119, Char.ofNat 111, Char.ofNat 114, Char.ofNat 100, Char.ofNat 115, Char.ofNat 47, Char.ofNat 108, Char.ofNat 97, Char.ofNat 119, Char.ofNat 115, Char.ofNat 46, Char.ofNat 70, Char.ofNat 110, Char.ofNat 87, Char.ofNat 105, Char.ofNat 100, Char.ofNat 101, Char.ofNat 84, Char.ofNat 105, Char.ofNat 109, Char.ofNat 101, Char.ofNat 115],
  [Char.ofNat 108, Char.ofNat 111, Char.ofNat 111, Char.ofNat 112, Char.ofNat 46, Char.ofNat 101, Char.ofNat 120, Char.ofNat 97, Char.ofNat 109, Char.ofNat 112, Char.ofNat 108, Char.ofNat 101, Char.ofNat 47, Char.ofNat 98, Char.ofNat 105, Char.ofNat 116, Char.ofNat 119, Char.ofNat 111, Char.ofNat 114, Char.ofNat 100, Char.ofNat 115, Char.ofNat 47, Char.ofNat 108, Char.ofNat 97, Char.ofNat 119, Char.ofNat 115, Char.ofNat 46, Char.ofNat 70, Char.ofNat 110, Char.ofNat 72, Char.ofNat 97, Char.ofNat 108, Char.ofNat 102, Char.ofNat 84, Char.ofNat 105, Char.ofNat 109, Char.ofNat 101, Char.ofNat 115],
  [Char.ofNat 108, Char.ofNat 111, Char.ofNat 111, Char.ofNat 112, Char.ofNat 46, Char.ofNat 101, Char.ofNat 120, Char.ofNat 97, Char.ofNat 109, Char.ofNat 112, Char.ofNat 108, Char.ofNat 101, Char.ofNat 47, Char.ofNat 98, Char.ofNat 105, Char.ofNat 116, Char.ofNat 119, Char.ofNat 111, Char.ofNat 114, Char.ofNat 100, Char.ofNat 115, Char.ofNat 47, Char.ofNat 108, Char.ofNat 97, Char.ofNat 119, Char.ofNat 115, Char.ofNat 46, Char.ofNat 70, Char.ofNat 110, Char.ofNat 83, Char.ofNat 105, Char.ofNat 103, Char.ofNat 110, Char.ofNat 101, Char.ofNat 100, Char.ofNat 72, Char.ofNat 105, Char.ofNat 103, Char.ofNat 104],
  [Char.ofNat 108, Char.ofNat 111, Char.ofNat 111, Char.ofNat 112, Char.ofNat 46, Char.ofNat 101, Char.ofNat 120, Char.ofNat 97, Char.ofNat 109, Char.ofNat 112, Char.ofNat 108, Char.ofNat 101, Char.ofNat 47, Char.ofNat 98, Char.ofNat 105, Char.ofNat 116, Char.ofNat 119, Char.ofNat 111, Char.ofNat 114, Char.ofNat 100, Char.ofNat 115, Char.ofNat 47, Char.ofNat 108, Char.ofNat 97, Char.ofNat 119, Char.ofNat 115, Char.ofNat 46, Char.ofNat 70, Char.ofNat 110, Char.ofNat 83, Char.ofNat 105, Char.ofNat 103, Char.ofNat 110, Char.ofNat 101, Char.ofNat 100, Char.ofNat 68, Char.ofNat 105, Char.ofNat 118, Char.ofNat 105, Char.ofNat 100, Char.ofNat 101],
  [Char.ofNat 108, Char.ofNat 111, Char.ofNat 111, Char.ofNat 112, Char.ofNat 46, Char.ofNat 101, Char.ofNat 120, Char.ofNat 97, Char.ofNat 109, Char.ofNat 112, Char.ofNat 108, Char.ofNat 101, Char.ofNat 47, Char.ofNat 98, Char.ofNat 105, Char.ofNat 116, Char.ofNat 119, Char.ofNat 111, Char.ofNat 114, Char.ofNat 100, Char.ofNat 115, Char.ofNat 47, Char.ofNat 108, Char.ofNat 97, Char.ofNat 119, Char.ofNat 115, Char.ofNat 46, Char.ofNat 70, Char.ofNat 110, Char.ofNat 68, Char.ofNat 105, Char.ofNat 118, Char.ofNat 105, Char.ofNat 100, Char.ofNat 101, Char.ofNat 83, Char.ofNat 105, Char.ofNat 103, Char.ofNat 110, Char.ofNat 115],
  [Char.ofNat 108, Char.ofNat 111, Char.ofNat 111, Char.ofNat 112, Char.ofNat 46, Char.ofNat 101, Char.ofNat 120, Char.ofNat 97, Char.ofNat 109, Char.ofNat 112, Char.ofNat 108, Char.ofNat 101, Char.ofNat 47, Char.ofNat 98, Char.ofNat 105, Char.ofNat 116, Char.ofNat 119, Char.ofNat 111, Char.ofNat 114, Char.ofNat 100, Char.ofNat 115, Char.ofNat 47, Char.ofNat 108, Char.ofNat 97, Char.ofNat 119, Char.ofNat 115, Char.ofNat 46, Char.ofNat 70, Char.ofNat 110, Char.ofNat 66, Char.ofNat 111, Char.ofNat 111, Char.ofNat 116, Char.ofNat 104, Char.ofNat 68, Char.ofNat 105, Char.ofNat 103, Char.ofNat 105, Char.ofNat 116, Char.ofNat 115],
  [Char.ofNat 108, Char.ofNat 111, Char.ofNat 111, Char.ofNat 112, Char.ofNat 46, Char.ofNat 101, Char.ofNat 120, Char.ofNat 97, Char.ofNat 109, Char.ofNat 112, Char.ofNat 108, Char.ofNat 101, Char.ofNat 47, Char.ofNat 98, Char.ofNat 105, Char.ofNat 116, Char.ofNat 119, Char.ofNat 111, Char.ofNat 114, Char.ofNat 100, Char.ofNat 115, Char.ofNat 47, Char.ofNat 108, Char.ofNat 97, Char.ofNat 119, Char.ofNat 115, Char.ofNat 46, Char.ofNat 70, Char.ofNat 110, Char.ofNat 77, Char.ofNat 111, Char.ofNat 118, Char.ofNat 101, Char.ofNat 100, Char.ofNat 87, Char.ofNat 111, Char.ofNat 114, Char.ofNat 100, Char.ofNat 115],
  [Char.ofNat 108, Char.ofNat 111, Char.ofNat 111, Char.ofNat 112, Char.ofNat 46, Char.ofNat 101, Char.ofNat 120, Char.ofNat 97, Char.ofNat 109, Char.ofNat 112, Char.ofNat 108, Char.ofNat 101, Char.ofNat 47, Char.ofNat 98, Char.ofNat 105, Char.ofNat 116, Char.ofNat 119, Char.ofNat 111, Char.ofNat 114, Char.ofNat 100, Char.ofNat 115, Char.ofNat 47, Char.ofNat 108, Char.ofNat 97, Char.ofNat 119, Char.ofNat 115, Char.ofNat 46, Char.ofNat 70, Char.ofNat 110, Char.ofNat 68, Char.ofNat 105, Char.ofNat 118, Char.ofNat 105, Char.ofNat 100, Char.ofNat 101, Char.ofNat 83, Char.ofNat 116, Char.ofNat 101, Char.ofNat 112, Char.ofNat 115],
  [Char.ofNat 108, Char.ofNat 111, Char.ofNat 111, Char.ofNat 112, Char.ofNat 46, Char.ofNat 101, Char.ofNat 120, Char.ofNat 97, Char.ofNat 109, Char.ofNat 112, Char.ofNat 108, Char.ofNat 101, Char.ofNat 47, Char.ofNat 98, Char.ofNat 105, Char.ofNat 116, Char.ofNat 119, Char.ofNat 111, Char.ofNat 114, Char.ofNat 100, Char.ofNat 115, Char.ofNat 47, Char.ofNat 108, Char.ofNat 97, Char.ofNat 119, Char.ofNat 115, Char.ofNat 46, Char.ofNat 70, Char.ofNat 110, Char.ofNat 66, Char.ofNat 111, Char.ofNat 111, Char.ofNat 116, Char.ofNat 104, Char.ofNat 84, Char.ofNat 105, Char.ofNat 109, Char.ofNat 101, Char.ofNat 115]]
theorem head_eq : Try.pinned.checked.prog.initOrder = String.ofList (joinW headWords) := by kernel_rfl
theorem head_nosp : headWords.all noSp = true := by kernel_rfl
theorem head_words : wordsSigns Try.pinned.checked.prog.initOrder.toList = headWords := by
  rw [head_eq, String.toList_ofList]
  exact ws_join headWords (by unfold headWords; simp) head_nosp
theorem ne_gc : (([Char.ofNat 99, Char.ofNat 117, Char.ofNat 116] : List Char) == "gc".toList) = false := by kernel_rfl
theorem ne_spec : (([Char.ofNat 99, Char.ofNat 117, Char.ofNat 116] : List Char) == "spec".toList) = false := by kernel_rfl
theorem ne_carried : (([Char.ofNat 99, Char.ofNat 117, Char.ofNat 116] : List Char) == "carried".toList) = false := by kernel_rfl
theorem eq_cut : (([Char.ofNat 99, Char.ofNat 117, Char.ofNat 116] : List Char) == "cut".toList) = true := by kernel_rfl
theorem eq_harness : (([Char.ofNat 104, Char.ofNat 97, Char.ofNat 114, Char.ofNat 110, Char.ofNat 101, Char.ofNat 115, Char.ofNat 115] : List Char) == "harness".toList) = true := by kernel_rfl
theorem strip_gen (r : List (List Char)) : stripLifts liftWords ([Char.ofNat 99, Char.ofNat 117, Char.ofNat 116] :: r) = ([], [Char.ofNat 99, Char.ofNat 117, Char.ofNat 116] :: r) := by rfl
theorem behind_gen (s : List Char) (r : List (List Char)) (hs : isSumSigns s = true) :
    behindMainWord ([Char.ofNat 104, Char.ofNat 97, Char.ofNat 114, Char.ofNat 110, Char.ofNat 101, Char.ofNat 115, Char.ofNat 115] :: s :: r) = r := by
  rw [behindMainWord, eq_harness, hs]; rfl
/-- the head's facts, of any program with such a head -/
theorem lifts_gen (P : Program) (s : List Char) (r : List (List Char)) (hs : isSumSigns s = true)
    (h : wordsSigns P.initOrder.toList = [Char.ofNat 104, Char.ofNat 97, Char.ofNat 114, Char.ofNat 110, Char.ofNat 101, Char.ofNat 115, Char.ofNat 115] :: s :: [Char.ofNat 99, Char.ofNat 117, Char.ofNat 116] :: r) : P.headLifts = [] := by
  unfold Program.headLifts
  rw [h, behind_gen s _ hs, strip_gen]
  exact ite_self _
theorem final_gen (P : Program) (s : List Char) (r : List (List Char)) (hs : isSumSigns s = true)
    (h : wordsSigns P.initOrder.toList = [Char.ofNat 104, Char.ofNat 97, Char.ofNat 114, Char.ofNat 110, Char.ofNat 101, Char.ofNat 115, Char.ofNat 115] :: s :: [Char.ofNat 99, Char.ofNat 117, Char.ofNat 116] :: r) : P.liftsFinal = false := by
  unfold Program.liftsFinal
  rw [lifts_gen P s r hs h, h, behind_gen s _ hs]
  rfl
theorem make_gen (P : Program) (s : List Char) (r : List (List Char)) (hs : isSumSigns s = true)
    (h : wordsSigns P.initOrder.toList = [Char.ofNat 104, Char.ofNat 97, Char.ofNat 114, Char.ofNat 110, Char.ofNat 101, Char.ofNat 115, Char.ofNat 115] :: s :: [Char.ofNat 99, Char.ofNat 117, Char.ofNat 116] :: r) : P.make = some .cut := by
  unfold Program.make
  rw [h, behind_gen s _ hs]
  simp only [ne_gc, ne_spec, eq_cut, Bool.or_self, Bool.true_or, Bool.false_eq_true, if_false, if_true]
theorem enter_gen (P : Program) (s : List Char) (r : List (List Char)) (hs : isSumSigns s = true)
    (h : wordsSigns P.initOrder.toList = [Char.ofNat 104, Char.ofNat 97, Char.ofNat 114, Char.ofNat 110, Char.ofNat 101, Char.ofNat 115, Char.ofNat 115] :: s :: [Char.ofNat 99, Char.ofNat 117, Char.ofNat 116] :: r)
    (h1 : P.laysLater = false) (h2 : P.bearsReflect = false) (h3 : P.doorFits [] = true) : P.mayEnter = true := by
  unfold Program.mayEnter
  rw [h, behind_gen s _ hs]
  simp only [ne_gc, ne_spec, ne_carried, strip_gen, h1, h2, h3]
  rfl
theorem main_gen (P : Program) (s : List Char) (r : List (List Char)) (hs : isSumSigns s = true)
    (h : wordsSigns P.initOrder.toList = [Char.ofNat 104, Char.ofNat 97, Char.ofNat 114, Char.ofNat 110, Char.ofNat 101, Char.ofNat 115, Char.ofNat 115] :: s :: [Char.ofNat 99, Char.ofNat 117, Char.ofNat 116] :: r) : P.mainIs = some (true, s) := by
  unfold Program.mainIs
  rw [h]
  simp only [hs, eq_harness, Bool.not_true, Bool.false_eq_true, if_false, if_true]
def headSum : List Char := [Char.ofNat 55, Char.ofNat 56, Char.ofNat 50, Char.ofNat 53, Char.ofNat 48, Char.ofNat 48, Char.ofNat 51, Char.ofNat 56, Char.ofNat 52, Char.ofNat 51, Char.ofNat 57, Char.ofNat 57, Char.ofNat 101, Char.ofNat 51, Char.ofNat 97, Char.ofNat 98, Char.ofNat 97, Char.ofNat 102, Char.ofNat 98, Char.ofNat 99, Char.ofNat 50, Char.ofNat 54, Char.ofNat 48, Char.ofNat 57, Char.ofNat 55, Char.ofNat 50, Char.ofNat 55, Char.ofNat 54, Char.ofNat 98, Char.ofNat 50, Char.ofNat 49, Char.ofNat 57, Char.ofNat 99, Char.ofNat 55, Char.ofNat 97, Char.ofNat 51, Char.ofNat 101, Char.ofNat 53, Char.ofNat 50, Char.ofNat 98, Char.ofNat 52, Char.ofNat 102, Char.ofNat 52, Char.ofNat 97, Char.ofNat 55, Char.ofNat 101, Char.ofNat 52, Char.ofNat 56, Char.ofNat 54, Char.ofNat 50, Char.ofNat 53, Char.ofNat 54, Char.ofNat 98, Char.ofNat 57, Char.ofNat 50, Char.ofNat 54, Char.ofNat 49, Char.ofNat 48, Char.ofNat 57, Char.ofNat 98, Char.ofNat 98, Char.ofNat 99, Char.ofNat 101, Char.ofNat 49]
def headRest : List (List Char) := [[Char.ofNat 97, Char.ofNat 116],
  [Char.ofNat 108, Char.ofNat 111, Char.ofNat 111, Char.ofNat 112, Char.ofNat 46, Char.ofNat 101, Char.ofNat 120, Char.ofNat 97, Char.ofNat 109, Char.ofNat 112, Char.ofNat 108, Char.ofNat 101, Char.ofNat 47, Char.ofNat 98, Char.ofNat 105, Char.ofNat 116, Char.ofNat 119, Char.ofNat 111, Char.ofNat 114, Char.ofNat 100, Char.ofNat 115, Char.ofNat 47, Char.ofNat 108, Char.ofNat 97, Char.ofNat 119, Char.ofNat 115, Char.ofNat 46, Char.ofNat 70, Char.ofNat 110, Char.ofNat 69, Char.ofNat 120, Char.ofNat 97, Char.ofNat 99, Char.ofNat 116, Char.ofNat 66, Char.ofNat 111, Char.ofNat 111, Char.ofNat 116, Char.ofNat 104, Char.ofNat 84, Char.ofNat 105, Char.ofNat 109, Char.ofNat 101, Char.ofNat 115],
  [Char.ofNat 108, Char.ofNat 111, Char.ofNat 111, Char.ofNat 112, Char.ofNat 46, Char.ofNat 101, Char.ofNat 120, Char.ofNat 97, Char.ofNat 109, Char.ofNat 112, Char.ofNat 108, Char.ofNat 101, Char.ofNat 47, Char.ofNat 98, Char.ofNat 105, Char.ofNat 116, Char.ofNat 119, Char.ofNat 111, Char.ofNat 114, Char.ofNat 100, Char.ofNat 115, Char.ofNat 47, Char.ofNat 108, Char.ofNat 97, Char.ofNat 119, Char.ofNat 115, Char.ofNat 46, Char.ofNat 70, Char.ofNat 110, Char.ofNat 87, Char.ofNat 111, Char.ofNat 114, Char.ofNat 100, Char.ofNat 68, Char.ofNat 105, Char.ofNat 118, Char.ofNat 105, Char.ofNat 100, Char.ofNat 101],
  [Char.ofNat 108, Char.ofNat 111, Char.ofNat 111, Char.ofNat 112, Char.ofNat 46, Char.ofNat 101, Char.ofNat 120, Char.ofNat 97, Char.ofNat 109, Char.ofNat 112, Char.ofNat 108, Char.ofNat 101, Char.ofNat 47, Char.ofNat 98, Char.ofNat 105, Char.ofNat 116, Char.ofNat 119, Char.ofNat 111, Char.ofNat 114, Char.ofNat 100, Char.ofNat 115, Char.ofNat 47, Char.ofNat 108, Char.ofNat 97, Char.ofNat 119, Char.ofNat 115, Char.ofNat 46, Char.ofNat 70, Char.ofNat 110, Char.ofNat 87, Char.ofNat 105, Char.ofNat 100, Char.ofNat 101, Char.ofNat 84, Char.ofNat 105, Char.ofNat 109, Char.ofNat 101, Char.ofNat 115],
  [Char.ofNat 108, Char.ofNat 111, Char.ofNat 111, Char.ofNat 112, Char.ofNat 46, Char.ofNat 101, Char.ofNat 120, Char.ofNat 97, Char.ofNat 109, Char.ofNat 112, Char.ofNat 108, Char.ofNat 101, Char.ofNat 47, Char.ofNat 98, Char.ofNat 105, Char.ofNat 116, Char.ofNat 119, Char.ofNat 111, Char.ofNat 114, Char.ofNat 100, Char.ofNat 115, Char.ofNat 47, Char.ofNat 108, Char.ofNat 97, Char.ofNat 119, Char.ofNat 115, Char.ofNat 46, Char.ofNat 70, Char.ofNat 110, Char.ofNat 72, Char.ofNat 97, Char.ofNat 108, Char.ofNat 102, Char.ofNat 84, Char.ofNat 105, Char.ofNat 109, Char.ofNat 101, Char.ofNat 115],
  [Char.ofNat 108, Char.ofNat 111, Char.ofNat 111, Char.ofNat 112, Char.ofNat 46, Char.ofNat 101, Char.ofNat 120, Char.ofNat 97, Char.ofNat 109, Char.ofNat 112, Char.ofNat 108, Char.ofNat 101, Char.ofNat 47, Char.ofNat 98, Char.ofNat 105, Char.ofNat 116, Char.ofNat 119, Char.ofNat 111, Char.ofNat 114, Char.ofNat 100, Char.ofNat 115, Char.ofNat 47, Char.ofNat 108, Char.ofNat 97, Char.ofNat 119, Char.ofNat 115, Char.ofNat 46, Char.ofNat 70, Char.ofNat 110, Char.ofNat 83, Char.ofNat 105, Char.ofNat 103, Char.ofNat 110, Char.ofNat 101, Char.ofNat 100, Char.ofNat 72, Char.ofNat 105, Char.ofNat 103, Char.ofNat 104],
  [Char.ofNat 108, Char.ofNat 111, Char.ofNat 111, Char.ofNat 112, Char.ofNat 46, Char.ofNat 101, Char.ofNat 120, Char.ofNat 97, Char.ofNat 109, Char.ofNat 112, Char.ofNat 108, Char.ofNat 101, Char.ofNat 47, Char.ofNat 98, Char.ofNat 105, Char.ofNat 116, Char.ofNat 119, Char.ofNat 111, Char.ofNat 114, Char.ofNat 100, Char.ofNat 115, Char.ofNat 47, Char.ofNat 108, Char.ofNat 97, Char.ofNat 119, Char.ofNat 115, Char.ofNat 46, Char.ofNat 70, Char.ofNat 110, Char.ofNat 83, Char.ofNat 105, Char.ofNat 103, Char.ofNat 110, Char.ofNat 101, Char.ofNat 100, Char.ofNat 68, Char.ofNat 105, Char.ofNat 118, Char.ofNat 105, Char.ofNat 100, Char.ofNat 101],
  [Char.ofNat 108, Char.ofNat 111, Char.ofNat 111, Char.ofNat 112, Char.ofNat 46, Char.ofNat 101, Char.ofNat 120, Char.ofNat 97, Char.ofNat 109, Char.ofNat 112, Char.ofNat 108, Char.ofNat 101, Char.ofNat 47, Char.ofNat 98, Char.ofNat 105, Char.ofNat 116, Char.ofNat 119, Char.ofNat 111, Char.ofNat 114, Char.ofNat 100, Char.ofNat 115, Char.ofNat 47, Char.ofNat 108, Char.ofNat 97, Char.ofNat 119, Char.ofNat 115, Char.ofNat 46, Char.ofNat 70, Char.ofNat 110, Char.ofNat 68, Char.ofNat 105, Char.ofNat 118, Char.ofNat 105, Char.ofNat 100, Char.ofNat 101, Char.ofNat 83, Char.ofNat 105, Char.ofNat 103, Char.ofNat 110, Char.ofNat 115],
  [Char.ofNat 108, Char.ofNat 111, Char.ofNat 111, Char.ofNat 112, Char.ofNat 46, Char.ofNat 101, Char.ofNat 120, Char.ofNat 97, Char.ofNat 109, Char.ofNat 112, Char.ofNat 108, Char.ofNat 101, Char.ofNat 47, Char.ofNat 98, Char.ofNat 105, Char.ofNat 116, Char.ofNat 119, Char.ofNat 111, Char.ofNat 114, Char.ofNat 100, Char.ofNat 115, Char.ofNat 47, Char.ofNat 108, Char.ofNat 97, Char.ofNat 119, Char.ofNat 115, Char.ofNat 46, Char.ofNat 70, Char.ofNat 110, Char.ofNat 66, Char.ofNat 111, Char.ofNat 111, Char.ofNat 116, Char.ofNat 104, Char.ofNat 68, Char.ofNat 105, Char.ofNat 103, Char.ofNat 105, Char.ofNat 116, Char.ofNat 115],
  [Char.ofNat 108, Char.ofNat 111, Char.ofNat 111, Char.ofNat 112, Char.ofNat 46, Char.ofNat 101, Char.ofNat 120, Char.ofNat 97, Char.ofNat 109, Char.ofNat 112, Char.ofNat 108, Char.ofNat 101, Char.ofNat 47, Char.ofNat 98, Char.ofNat 105, Char.ofNat 116, Char.ofNat 119, Char.ofNat 111, Char.ofNat 114, Char.ofNat 100, Char.ofNat 115, Char.ofNat 47, Char.ofNat 108, Char.ofNat 97, Char.ofNat 119, Char.ofNat 115, Char.ofNat 46, Char.ofNat 70, Char.ofNat 110, Char.ofNat 77, Char.ofNat 111, Char.ofNat 118, Char.ofNat 101, Char.ofNat 100, Char.ofNat 87, Char.ofNat 111, Char.ofNat 114, Char.ofNat 100, Char.ofNat 115],
  [Char.ofNat 108, Char.ofNat 111, Char.ofNat 111, Char.ofNat 112, Char.ofNat 46, Char.ofNat 101, Char.ofNat 120, Char.ofNat 97, Char.ofNat 109, Char.ofNat 112, Char.ofNat 108, Char.ofNat 101, Char.ofNat 47, Char.ofNat 98, Char.ofNat 105, Char.ofNat 116, Char.ofNat 119, Char.ofNat 111, Char.ofNat 114, Char.ofNat 100, Char.ofNat 115, Char.ofNat 47, Char.ofNat 108, Char.ofNat 97, Char.ofNat 119, Char.ofNat 115, Char.ofNat 46, Char.ofNat 70, Char.ofNat 110, Char.ofNat 68, Char.ofNat 105, Char.ofNat 118, Char.ofNat 105, Char.ofNat 100, Char.ofNat 101, Char.ofNat 83, Char.ofNat 116, Char.ofNat 101, Char.ofNat 112, Char.ofNat 115],
  [Char.ofNat 108, Char.ofNat 111, Char.ofNat 111, Char.ofNat 112, Char.ofNat 46, Char.ofNat 101, Char.ofNat 120, Char.ofNat 97, Char.ofNat 109, Char.ofNat 112, Char.ofNat 108, Char.ofNat 101, Char.ofNat 47, Char.ofNat 98, Char.ofNat 105, Char.ofNat 116, Char.ofNat 119, Char.ofNat 111, Char.ofNat 114, Char.ofNat 100, Char.ofNat 115, Char.ofNat 47, Char.ofNat 108, Char.ofNat 97, Char.ofNat 119, Char.ofNat 115, Char.ofNat 46, Char.ofNat 70, Char.ofNat 110, Char.ofNat 66, Char.ofNat 111, Char.ofNat 111, Char.ofNat 116, Char.ofNat 104, Char.ofNat 84, Char.ofNat 105, Char.ofNat 109, Char.ofNat 101, Char.ofNat 115]]
theorem sum_is : isSumSigns headSum = true := by kernel_rfl
theorem head_split : headWords = [Char.ofNat 104, Char.ofNat 97, Char.ofNat 114, Char.ofNat 110, Char.ofNat 101, Char.ofNat 115, Char.ofNat 115] :: headSum :: [Char.ofNat 99, Char.ofNat 117, Char.ofNat 116] :: headRest := by kernel_rfl
theorem later_no : Try.pinned.checked.prog.laysLater = false := by kernel_rfl
theorem reflect_no : Try.pinned.checked.prog.bearsReflect = false := by kernel_rfl
theorem door_fits : Try.pinned.checked.prog.doorFits [] = true := by kernel_rfl
theorem may_enter : Try.pinned.checked.prog.mayEnter = true := enter_gen _ _ _ sum_is (head_words.trans head_split) later_no reflect_no door_fits
theorem lifts_final : Try.pinned.checked.prog.liftsFinal = false := final_gen _ _ _ sum_is (head_words.trans head_split)
theorem make_is : Try.pinned.checked.prog.make = some .cut := make_gen _ _ _ sum_is (head_words.trans head_split)
theorem main_is : Try.pinned.checked.prog.mainIs = some (true, headSum) := main_gen _ _ _ sum_is (head_words.trans head_split)
end Go.Proofs.Ythbpcgefcnpfmaa
