/- The walks of the laws that hold Gray codes, the lowest one, zigzag and the power above of the program against the reference; no condition. -/
import Derived.Test.YtgbjppdfgjmiaaaW5
namespace Go.Proofs.Ytgbjppdfgjmiaaa
open Go.RowKit
theorem FnExactGrayOf_walk (a b : Int) (_ : (Lit.int .i64 a).wf = true) (_ : (Lit.int .i64 b).wf = true) (w : World) :
    Calls Try.prog 5 #[.int .i64 a, .int .i64 b] w fun e w' => e = .returned (.bool true) ∧ Below w.heap.size w w' := by
  rcases hv : vld a b with _ | _
  · go_enter Try.func5, Try.ntmps5
    go_wp2_with (first
      | (go_at_call 19; refine (specGrayOf_bad _ _ hv _).mono ?_; rintro e w' ⟨rfl, rfl⟩)
      | (go_at_call 20; refine (implGrayOf_bad _ _ hv _).mono ?_; rintro e w' ⟨rfl, rfl⟩))
    go_ret
    exact ⟨rfl, Below.refl _ _⟩
  · go_enter Try.func5, Try.ntmps5
    go_wp2_with (first
      | (go_at_call 19; refine (specGrayOf_ok _ _ hv _).mono ?_; rintro e w' ⟨rfl, rfl⟩)
      | (go_at_call 20; refine (implGrayOf_ok _ _ hv _).mono ?_; rintro e w' ⟨rfl, rfl⟩))
    go_ret
    exact ⟨rfl, Below.refl _ _⟩
end Go.Proofs.Ytgbjppdfgjmiaaa
