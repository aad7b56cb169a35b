/- The walks of the laws that hold functions of chapter 4 of the program against the reference (digits, inverses); no condition. -/
import Derived.Test.YtgbjppdfgjmiaaaEq
import Derived.Test.YtgbjppdfgjmiaaaWN
import Derived.Test.YtgbjppdfgjmiaaaWI
namespace Go.Proofs.Ytgbjppdfgjmiaaa
open Go.RowKit
theorem FnExactNafOf_list (a : Int) (L : List Int) (hl : L.length ≤ 1000000)
    (HS : Hid (∀ w, Calls Try.prog 35 #[.int .i64 a] w (RetL w.heap.size L w))) (HI : Hid (∀ w, Calls Try.prog 36 #[.int .i64 a] w (RetL w.heap.size L w))) (w : World) :
    Calls Try.prog 13 #[.int .i64 a] w fun e w' => e = .returned (.bool true) ∧ Below w.heap.size w w' := by
  go_enter Try.func13, Try.ntmps13
  go_wp2_with fail
  refine (HS.out w).mono ?_
  rintro e w1 ⟨A0, c0, rfl, own0, b0⟩
  go_wp2_with fail
  refine (HI.out w1).mono ?_
  rintro e w2 ⟨A1, c1, rfl, own1, b1⟩
  have own0' := own0.below b1 (Nat.le_refl _)
  go_wp2_with fail
  refine (eqIntS_same L A1 A0 _ _ c1 c0 w2 own1 own0').mono ?_
  rintro e w3 ⟨rfl, n1, rfl⟩
  go_wp2_with fail
  refine (markIntS_any L A1 _ c1 (w2.drewN n1) own1.drewN hl).mono ?_
  rintro e w4 ⟨rfl, own2, b2⟩
  have b3 : Below w1.heap.size w1 w4 := (below_drewN b1 n1).trans b2
  have own0d := own0.below b3 (Nat.le_refl _)
  have own0h := own0d
  go_wp2_with fail
  refine (heldIntS_any L.length A1 _ c1 w4 own2 hl).mono ?_
  rintro e w4' ⟨rfl, rfl⟩
  go_wp2_with fail
  refine (HI.out w4).mono ?_
  rintro e w5 ⟨A2, c2, rfl, own3, b4⟩
  have own0t := own0d.below b4 (Nat.le_refl _)
  have own2' := own2.below b4 (Nat.le_refl _)
  go_wp2_with fail
  refine (eqIntS_same L A2 A0 _ _ c2 c0 w5 own3 own0t).mono ?_
  rintro e w6 ⟨rfl, n2, rfl⟩
  go_wp2_with fail
  refine (heldIntS_any L.length A1 _ c1 (w5.drewN n2) own2'.drewN hl).mono ?_
  rintro e w7 ⟨rfl, rfl⟩
  have hz : w.heap.size ≤ w1.heap.size := b0.size
  have hz4 : w1.heap.size ≤ w4.heap.size := b3.size
  go_wp2
  go_ret
  exact ⟨rfl, below_drewN ((b0.trans (b3.mono hz)).trans (b4.mono (by omega))) n2⟩
theorem FnExactNafOf_walk (a : Int) (_ : (Lit.int .i64 a).wf = true) (w : World) :
    Calls Try.prog 13 #[.int .i64 a] w fun e w' => e = .returned (.bool true) ∧ Below w.heap.size w w' := by
  rcases hv : inB a 0 4095 with _ | _
  · exact FnExactNafOf_list a [] (by simp) (hd fun w => specNafOf_bad a hv w) (hd fun w => implNafOf_bad a hv w) w
  · obtain ⟨n1, n2⟩ := inB_true.1 hv
    have := nafL_len a n1 n2
    exact FnExactNafOf_list a (nafL a) (by omega) (hd fun w => specNafOf_ok a hv w) (hd fun w => implNafOf_ok a hv w) w
theorem FnExactNafMany_walk (a : Int) (_ : (Lit.int .i64 a).wf = true) (w : World) :
    Calls Try.prog 11 #[.int .i64 a] w fun e w' => e = .returned (.bool true) ∧ Below w.heap.size w w' := by
  rcases hv : inB a 0 4095 with _ | _
  · go_enter Try.func11, Try.ntmps11
    go_wp2_with (first
      | (go_at_call 31; refine (specNafMany_bad _ hv _).mono ?_; rintro e w' ⟨rfl, rfl⟩)
      | (go_at_call 32; refine (implNafMany_bad _ hv _).mono ?_; rintro e w' ⟨rfl, rfl⟩))
    go_ret
    exact ⟨rfl, Below.refl _ _⟩
  · go_enter Try.func11, Try.ntmps11
    go_wp2_with fail
    refine (specNafMany_ok _ hv _).mono ?_
    rintro e w1 ⟨rfl, b1⟩
    go_wp2_with fail
    refine (implNafMany_ok _ hv _).mono ?_
    rintro e w2 ⟨rfl, b2⟩
    go_wp2
    go_ret
    exact ⟨rfl, b1.trans (b2.mono b1.size)⟩
theorem FnExactInverseOf_walk (a b : Int) (_ : (Lit.int .i64 a).wf = true) (_ : (Lit.int .i64 b).wf = true) (w : World) :
    Calls Try.prog 12 #[.int .i64 a, .int .i64 b] w fun e w' => e = .returned (.bool true) ∧ Below w.heap.size w w' := by
  rcases hv : oddB a b with _ | _
  · go_enter Try.func12, Try.ntmps12
    go_wp2_with fail
    refine (specInverseOf_bad _ _ hv _).mono ?_
    rintro e w1 ⟨rfl, b1⟩
    go_wp2_with fail
    refine (implInverseOf_bad _ _ hv _).mono ?_
    rintro e w2 ⟨rfl, b2⟩
    go_wp2
    go_ret
    exact ⟨rfl, b1.trans (b2.mono b1.size)⟩
  · go_enter Try.func12, Try.ntmps12
    go_wp2_with fail
    refine (specInverseOf_ok _ _ hv _).mono ?_
    rintro e w1 ⟨rfl, b1⟩
    go_wp2_with fail
    refine (implInverseOf_ok _ _ hv _).mono ?_
    rintro e w2 ⟨rfl, b2⟩
    go_wp2
    go_ret
    exact ⟨rfl, b1.trans (b2.mono b1.size)⟩
