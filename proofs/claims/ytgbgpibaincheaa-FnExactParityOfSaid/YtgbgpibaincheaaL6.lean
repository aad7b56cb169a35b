/- The walks of the laws that hold counted bits of the program against the reference; no condition. -/
import Derived.Test.YtgbgpibaincheaaW6
namespace Go.Proofs.Ytgbgpibaincheaa
open Go.RowKit
theorem FnExactOnesOf_walk (a b : Int) (_ : (Lit.int .i64 a).wf = true) (_ : (Lit.int .i64 b).wf = true) (w : World) :
    Calls Try.prog 4 #[.int .i64 a, .int .i64 b] w fun e w' => e = .returned (.bool true) ∧ Below w.heap.size w w' := by
  rcases hv : vld a b with _ | _
  · go_enter Try.func4, Try.ntmps4
    go_wp2_with (first
      | (go_at_call 24; refine (specOnesOf_bad _ _ hv _).mono ?_; rintro e w' ⟨rfl, rfl⟩)
      | (go_at_call 25; refine (implOnesOf_bad _ _ hv _).mono ?_; rintro e w' ⟨rfl, rfl⟩))
    go_ret
    exact ⟨rfl, Below.refl _ _⟩
  · go_enter Try.func4, Try.ntmps4
    go_wp2_with (first
      | (go_at_call 24; refine (specOnesOf_ok _ _ hv _).mono ?_; rintro e w' ⟨rfl, rfl⟩)
      | (go_at_call 25; refine (implOnesOf_ok _ _ hv _).mono ?_; rintro e w' ⟨rfl, rfl⟩))
    go_ret
    exact ⟨rfl, Below.refl _ _⟩
theorem FnExactParityOf_walk (a b : Int) (_ : (Lit.int .i64 a).wf = true) (_ : (Lit.int .i64 b).wf = true) (w : World) :
    Calls Try.prog 6 #[.int .i64 a, .int .i64 b] w fun e w' => e = .returned (.bool true) ∧ Below w.heap.size w w' := by
  rcases hv : vld a b with _ | _
  · go_enter Try.func6, Try.ntmps6
    go_wp2_with (first
      | (go_at_call 28; refine (specParityOf_bad _ _ hv _).mono ?_; rintro e w' ⟨rfl, rfl⟩)
      | (go_at_call 29; refine (implParityOf_bad _ _ hv _).mono ?_; rintro e w' ⟨rfl, rfl⟩))
    go_ret
    exact ⟨rfl, Below.refl _ _⟩
  · go_enter Try.func6, Try.ntmps6
    go_wp2_with (first
      | (go_at_call 28; refine (specParityOf_ok _ _ hv _).mono ?_; rintro e w' ⟨rfl, rfl⟩)
      | (go_at_call 29; refine (implParityOf_ok _ _ hv _).mono ?_; rintro e w' ⟨rfl, rfl⟩))
    go_ret
    exact ⟨rfl, Below.refl _ _⟩
end Go.Proofs.Ytgbgpibaincheaa
