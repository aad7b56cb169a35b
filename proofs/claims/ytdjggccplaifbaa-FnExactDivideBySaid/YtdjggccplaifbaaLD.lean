/- The walks of the laws that hold ExactDivide, DividesOdd and DivideBy of the program against the reference; no condition. -/
import Derived.Test.YtdjggccplaifbaaWD
namespace Go.Proofs.Ytdjggccplaifbaa
open Go.RowKit
theorem FnExactDividesOdd_walk (a b c : Int) (_ : (Lit.int .i64 a).wf = true) (_ : (Lit.int .i64 b).wf = true) (_ : (Lit.int .i64 c).wf = true) (w : World) :
    Calls Try.prog 5 #[.int .i64 a, .int .i64 b, .int .i64 c] w fun e w' => e = .returned (.bool true) ∧ Below w.heap.size w w' := by
  rcases hv : doB a b c with _ | _
  all_goals
    go_enter Try.func5, Try.ntmps5
    go_wp2_with fail
    refine (specDividesOdd_any _ _ _ _).mono ?_
    rintro e w1 ⟨rfl, b1⟩
    go_wp2_with fail
    refine (implDividesOdd_any _ _ _ _).mono ?_
    rintro e w2 ⟨rfl, b2⟩
    go_wp2
    go_ret
    exact ⟨rfl, b1.trans (b2.mono b1.size)⟩
theorem FnExactExactDivide_walk (a b c : Int) (_ : (Lit.int .i64 a).wf = true) (_ : (Lit.int .i64 b).wf = true) (_ : (Lit.int .i64 c).wf = true) (w : World) :
    Calls Try.prog 3 #[.int .i64 a, .int .i64 b, .int .i64 c] w fun e w' => e = .returned (.bool true) ∧ Below w.heap.size w w' := by
  rcases hv : exB a b c with _ | _
  · go_enter Try.func3, Try.ntmps3
    go_wp2_with fail
    refine (specExactDivide_bad _ _ _ hv _).mono ?_
    rintro e w1 ⟨rfl, b1⟩
    go_wp2_with fail
    refine (implExactDivide_bad _ _ _ hv _).mono ?_
    rintro e w2 ⟨rfl, b2⟩
    go_wp2
    go_ret
    exact ⟨rfl, b1.trans (b2.mono b1.size)⟩
  · go_enter Try.func3, Try.ntmps3
    go_wp2_with fail
    refine (specExactDivide_ok _ _ _ hv _).mono ?_
    rintro e w1 ⟨rfl, b1⟩
    go_wp2_with fail
    refine (implExactDivide_ok _ _ _ hv _).mono ?_
    rintro e w2 ⟨rfl, b2⟩
    go_wp2
    go_ret
    exact ⟨rfl, b1.trans (b2.mono b1.size)⟩
theorem FnExactDivideBy_walk (a b c : Int) (_ : (Lit.int .i64 a).wf = true) (_ : (Lit.int .i64 b).wf = true) (_ : (Lit.int .i64 c).wf = true) (w : World) :
    Calls Try.prog 7 #[.int .i64 a, .int .i64 b, .int .i64 c] w fun e w' => e = .returned (.bool true) ∧ Below w.heap.size w w' := by
  rcases hv : (mofB a c && vld a b) with _ | _
  · go_enter Try.func7, Try.ntmps7
    go_wp2_with fail
    refine (specDivideBy_bad _ _ _ hv _).mono ?_
    rintro e w1 ⟨rfl, b1⟩
    go_wp2_with fail
    refine (implDivideBy_bad _ _ _ hv _).mono ?_
    rintro e w2 ⟨rfl, b2⟩
    go_wp2
    go_ret
    exact ⟨rfl, b1.trans (b2.mono b1.size)⟩
  · obtain ⟨g1, g2⟩ : mofB a c = true ∧ vld a b = true := by simpa using hv
    obtain ⟨a1, a2, a3, a4⟩ := mofB_true g1
    obtain ⟨j, hj⟩ := mof_ex a c a1 a2 a3 a4
    have HJ := hd hj
    clear hv hj a1 a2 a3 a4
    go_enter Try.func7, Try.ntmps7
    go_wp2_with fail
    refine (specDivideBy_ok _ _ _ j g1 HJ.out g2 _).mono ?_
    rintro e w1 ⟨rfl, b1⟩
    go_wp2_with fail
    refine (implDivideBy_ok _ _ _ j g1 HJ.out g2 _).mono ?_
    rintro e w2 ⟨rfl, b2⟩
    go_wp2
    go_ret
    exact ⟨rfl, b1.trans (b2.mono b1.size)⟩
end Go.Proofs.Ytdjggccplaifbaa
