/- The walks of the laws that hold MagicSure, MagicOk and MagicOf of the program against the reference; no condition. -/
import Derived.Test.YtgbjppdfgjmiaaaW4
namespace Go.Proofs.Ytgbjppdfgjmiaaa
open Go.RowKit
theorem FnExactMagicSure_walk (a b c d : Int) (_ : (Lit.int .i64 a).wf = true) (_ : (Lit.int .i64 b).wf = true) (_ : (Lit.int .i64 c).wf = true) (_ : (Lit.int .i64 d).wf = true) (w : World) :
    Calls Try.prog 3 #[.int .i64 a, .int .i64 b, .int .i64 c, .int .i64 d] w fun e w' => e = .returned (.bool true) ∧ Below w.heap.size w w' := by
  rcases hv : msuB a b c d with _ | _
  all_goals
    go_enter Try.func3, Try.ntmps3
    go_wp2_with (first
      | (go_at_call 15; refine (specMagicSure_any _ _ _ _ _).mono ?_; rintro e w' ⟨rfl, n, rfl⟩)
      | (go_at_call 16; refine (implMagicSure_any _ _ _ _ _).mono ?_; rintro e w' ⟨rfl, rfl⟩))
    go_ret
    exact ⟨rfl, below_drewN (Below.refl _ _) _⟩
theorem FnExactMagicOk_walk (a b c d : Int) (_ : (Lit.int .i64 a).wf = true) (_ : (Lit.int .i64 b).wf = true) (_ : (Lit.int .i64 c).wf = true) (_ : (Lit.int .i64 d).wf = true) (w : World) :
    Calls Try.prog 4 #[.int .i64 a, .int .i64 b, .int .i64 c, .int .i64 d] w fun e w' => e = .returned (.bool true) ∧ Below w.heap.size w w' := by
  rcases hv : mokB a b c d with _ | _
  all_goals
    go_enter Try.func4, Try.ntmps4
    go_wp2_with (first
      | (go_at_call 17; refine (specMagicOk_any _ _ _ _ _).mono ?_; rintro e w' ⟨rfl, n, rfl⟩)
      | (go_at_call 18; refine (implMagicOk_any _ _ _ _ _).mono ?_; rintro e w' ⟨rfl, m, rfl⟩))
    go_ret
    exact ⟨rfl, below_drewN (Below.refl _ _) _⟩
theorem FnExactMagicOf_walk (a b : Int) (_ : (Lit.int .i64 a).wf = true) (_ : (Lit.int .i64 b).wf = true) (w : World) :
    Calls Try.prog 10 #[.int .i64 a, .int .i64 b] w fun e w' => e = .returned (.bool true) ∧ Below w.heap.size w w' := by
  rcases hv : mofB a b with _ | _
  · go_enter Try.func10, Try.ntmps10
    go_wp2_with (first
      | (go_at_call 29; refine (specMagicOf_bad _ _ hv _).mono ?_; rintro e w' ⟨rfl, rfl⟩)
      | (go_at_call 30; refine (implMagicOf_bad _ _ hv _).mono ?_; rintro e w' ⟨rfl, rfl⟩))
    go_ret
    exact ⟨rfl, Below.refl _ _⟩
  · obtain ⟨a1, a2, a3, a4⟩ := mofB_true hv
    obtain ⟨j, hj⟩ := mof_ex a b a1 a2 a3 a4
    clear a1 a2 a3 a4
    go_enter Try.func10, Try.ntmps10
    go_wp2_with (first
      | (go_at_call 29; refine (specMagicOf_ok _ _ j hv hj _).mono ?_; rintro e w' ⟨rfl, n, rfl⟩)
      | (go_at_call 30; refine (implMagicOf_ok _ _ j hv hj _).mono ?_; rintro e w' ⟨rfl, m, rfl⟩))
    go_ret
    exact ⟨rfl, below_drewN (Below.refl _ _) _⟩
end Go.Proofs.Ytgbjppdfgjmiaaa
