/- The walks of the laws that hold functions of chapter 4 of the program against the reference (digits, inverses); no condition. -/
import Derived.Test.YtdjggccplaifbaaEq
import Derived.Test.YtdjggccplaifbaaWN
import Derived.Test.YtdjggccplaifbaaWI
namespace Go.Proofs.Ytdjggccplaifbaa
open Go.RowKit
theorem FnExactInverseSteps_list (a b : Int) (L : List Int) (hl : L.length ≤ 1000000)
    (HS : Hid (∀ w, Calls Try.prog 25 #[.int .i64 a, .int .i64 b] w (RetL w.heap.size L w))) (HI : Hid (∀ w, Calls Try.prog 26 #[.int .i64 a, .int .i64 b] w (RetL w.heap.size L w))) (w : World) :
    Calls Try.prog 6 #[.int .i64 a, .int .i64 b] w fun e w' => e = .returned (.bool true) ∧ Below w.heap.size w w' := by
  go_enter Try.func6, Try.ntmps6
  go_wp2_with fail
  refine (HS.out w).mono ?_
  rintro e w1 ⟨A0, c0, rfl, own0, b0⟩
  go_wp2_with fail
  refine (HI.out w1).mono ?_
  rintro e w2 ⟨A1, c1, rfl, own1, b1⟩
  have own0' := own0.below b1 (Nat.le_refl _)
  go_wp2_with fail
  refine (eqIntS_same L A1 A0 _ _ c1 c0 w2 own1 own0').mono ?_
  rintro e w3 ⟨rfl, n1, rfl⟩
  go_wp2_with fail
  refine (markIntS_any L A1 _ c1 (w2.drewN n1) own1.drewN hl).mono ?_
  rintro e w4 ⟨rfl, own2, b2⟩
  have b3 : Below w1.heap.size w1 w4 := (below_drewN b1 n1).trans b2
  have own0d := own0.below b3 (Nat.le_refl _)
  have own0h := own0d
  go_wp2_with fail
  refine (heldIntS_any L.length A1 _ c1 w4 own2 hl).mono ?_
  rintro e w4' ⟨rfl, rfl⟩
  go_wp2_with fail
  refine (HI.out w4).mono ?_
  rintro e w5 ⟨A2, c2, rfl, own3, b4⟩
  have own0t := own0d.below b4 (Nat.le_refl _)
  have own2' := own2.below b4 (Nat.le_refl _)
  go_wp2_with fail
  refine (eqIntS_same L A2 A0 _ _ c2 c0 w5 own3 own0t).mono ?_
  rintro e w6 ⟨rfl, n2, rfl⟩
  go_wp2_with fail
  refine (heldIntS_any L.length A1 _ c1 (w5.drewN n2) own2'.drewN hl).mono ?_
  rintro e w7 ⟨rfl, rfl⟩
  have hz : w.heap.size ≤ w1.heap.size := b0.size
  have hz4 : w1.heap.size ≤ w4.heap.size := b3.size
  go_wp2
  go_ret
  exact ⟨rfl, below_drewN ((b0.trans (b3.mono hz)).trans (b4.mono (by omega))) n2⟩
theorem FnExactInverseSteps_walk (a : Int) (b : Int) (_ : (Lit.int .i64 a).wf = true) (_ : (Lit.int .i64 b).wf = true) (w : World) :
    Calls Try.prog 6 #[.int .i64 a, .int .i64 b] w fun e w' => e = .returned (.bool true) ∧ Below w.heap.size w w' := by
  rcases hv : oddB a b with _ | _
  · exact FnExactInverseSteps_list a b [] (by simp) (hd fun w => specInverseSteps_bad a b hv w) (hd fun w => implInverseSteps_bad a b hv w) w
  · exact FnExactInverseSteps_list a b (ivS a b) (by have := ivS_len a b; omega) (hd fun w => specInverseSteps_ok a b hv w) (hd fun w => implInverseSteps_ok a b hv w) w
theorem FnExactNafTimes_walk (a b c : Int) (_ : (Lit.int .i64 a).wf = true) (_ : (Lit.int .i64 b).wf = true) (_ : (Lit.int .i64 c).wf = true) (w : World) :
    Calls Try.prog 4 #[.int .i64 a, .int .i64 b, .int .i64 c] w fun e w' => e = .returned (.bool true) ∧ Below w.heap.size w w' := by
  rcases hv : (vld a b && inB c 0 4095) with _ | _
  · go_enter Try.func4, Try.ntmps4
    go_wp2_with (first
      | (go_at_call 21; refine (specNafTimes_bad _ _ _ hv _).mono ?_; rintro e w' ⟨rfl, rfl⟩)
      | (go_at_call 22; refine (implNafTimes_bad _ _ _ hv _).mono ?_; rintro e w' ⟨rfl, rfl⟩))
    go_ret
    exact ⟨rfl, Below.refl _ _⟩
  · obtain ⟨h1, h2⟩ : vld a b = true ∧ inB c 0 4095 = true := by simpa using hv
    clear hv
    go_enter Try.func4, Try.ntmps4
    go_wp2_with fail
    refine (specNafTimes_ok _ _ _ h1 h2 _).mono ?_
    rintro e w1 ⟨rfl, b1⟩
    go_wp2_with fail
    refine (implNafTimes_ok _ _ _ h1 h2 _).mono ?_
    rintro e w2 ⟨rfl, b2⟩
    go_wp2
    go_ret
    exact ⟨rfl, b1.trans (b2.mono b1.size)⟩
end Go.Proofs.Ytdjggccplaifbaa
