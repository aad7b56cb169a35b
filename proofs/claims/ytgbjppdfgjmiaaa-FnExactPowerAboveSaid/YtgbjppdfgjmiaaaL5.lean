/- The walks of the laws that hold Gray codes, the lowest one, zigzag and the power above of the program against the reference; no condition. -/
import Derived.Test.YtgbjppdfgjmiaaaW5
namespace Go.Proofs.Ytgbjppdfgjmiaaa
open Go.RowKit
theorem FnExactGrayOf_walk (a b : Int) (_ : (Lit.int .i64 a).wf = true) (_ : (Lit.int .i64 b).wf = true) (w : World) :
    Calls Try.prog 5 #[.int .i64 a, .int .i64 b] w fun e w' => e = .returned (.bool true) ∧ Below w.heap.size w w' := by
  rcases hv : vld a b with _ | _
  · go_enter Try.func5, Try.ntmps5
    go_wp2_with (first
      | (go_at_call 19; refine (specGrayOf_bad _ _ hv _).mono ?_; rintro e w' ⟨rfl, rfl⟩)
      | (go_at_call 20; refine (implGrayOf_bad _ _ hv _).mono ?_; rintro e w' ⟨rfl, rfl⟩))
    go_ret
    exact ⟨rfl, Below.refl _ _⟩
  · go_enter Try.func5, Try.ntmps5
    go_wp2_with (first
      | (go_at_call 19; refine (specGrayOf_ok _ _ hv _).mono ?_; rintro e w' ⟨rfl, rfl⟩)
      | (go_at_call 20; refine (implGrayOf_ok _ _ hv _).mono ?_; rintro e w' ⟨rfl, rfl⟩))
    go_ret
    exact ⟨rfl, Below.refl _ _⟩
theorem FnExactLowestOne_walk (a b : Int) (_ : (Lit.int .i64 a).wf = true) (_ : (Lit.int .i64 b).wf = true) (w : World) :
    Calls Try.prog 6 #[.int .i64 a, .int .i64 b] w fun e w' => e = .returned (.bool true) ∧ Below w.heap.size w w' := by
  rcases hv : vld a b with _ | _
  · go_enter Try.func6, Try.ntmps6
    go_wp2_with (first
      | (go_at_call 21; refine (specLowestOne_bad _ _ hv _).mono ?_; rintro e w' ⟨rfl, rfl⟩)
      | (go_at_call 22; refine (implLowestOne_bad _ _ hv _).mono ?_; rintro e w' ⟨rfl, rfl⟩))
    go_ret
    exact ⟨rfl, Below.refl _ _⟩
  · go_enter Try.func6, Try.ntmps6
    go_wp2_with (first
      | (go_at_call 21; refine (specLowestOne_ok _ _ hv _).mono ?_; rintro e w' ⟨rfl, rfl⟩)
      | (go_at_call 22; refine (implLowestOne_ok _ _ hv _).mono ?_; rintro e w' ⟨rfl, rfl⟩))
    go_ret
    exact ⟨rfl, Below.refl _ _⟩
theorem FnExactZigzagBack_walk (a b : Int) (_ : (Lit.int .i64 a).wf = true) (_ : (Lit.int .i64 b).wf = true) (w : World) :
    Calls Try.prog 7 #[.int .i64 a, .int .i64 b] w fun e w' => e = .returned (.bool true) ∧ Below w.heap.size w w' := by
  rcases hv : vld a b with _ | _
  · go_enter Try.func7, Try.ntmps7
    go_wp2_with (first
      | (go_at_call 23; refine (specZigzagBack_bad _ _ hv _).mono ?_; rintro e w' ⟨rfl, rfl⟩)
      | (go_at_call 24; refine (implZigzagBack_bad _ _ hv _).mono ?_; rintro e w' ⟨rfl, rfl⟩))
    go_ret
    exact ⟨rfl, Below.refl _ _⟩
  · go_enter Try.func7, Try.ntmps7
    go_wp2_with (first
      | (go_at_call 23; refine (specZigzagBack_ok _ _ hv _).mono ?_; rintro e w' ⟨rfl, rfl⟩)
      | (go_at_call 24; refine (implZigzagBack_ok _ _ hv _).mono ?_; rintro e w' ⟨rfl, rfl⟩))
    go_ret
    exact ⟨rfl, Below.refl _ _⟩
theorem FnExactGrayBack_walk (a b : Int) (_ : (Lit.int .i64 a).wf = true) (_ : (Lit.int .i64 b).wf = true) (w : World) :
    Calls Try.prog 8 #[.int .i64 a, .int .i64 b] w fun e w' => e = .returned (.bool true) ∧ Below w.heap.size w w' := by
  rcases hv : vld a b with _ | _
  · go_enter Try.func8, Try.ntmps8
    go_wp2_with (first
      | (go_at_call 25; refine (specGrayBack_bad _ _ hv _).mono ?_; rintro e w' ⟨rfl, rfl⟩)
      | (go_at_call 26; refine (implGrayBack_bad _ _ hv _).mono ?_; rintro e w' ⟨rfl, rfl⟩))
    go_ret
    exact ⟨rfl, Below.refl _ _⟩
  · go_enter Try.func8, Try.ntmps8
    go_wp2_with (first
      | (go_at_call 25; refine (specGrayBack_ok _ _ hv _).mono ?_; rintro e w' ⟨rfl, rfl⟩)
      | (go_at_call 26; refine (implGrayBack_ok _ _ hv _).mono ?_; rintro e w' ⟨rfl, rfl⟩))
    go_ret
    exact ⟨rfl, Below.refl _ _⟩
theorem FnExactZigzagOf_walk (a b : Int) (_ : (Lit.int .i64 a).wf = true) (_ : (Lit.int .i64 b).wf = true) (w : World) :
    Calls Try.prog 9 #[.int .i64 a, .int .i64 b] w fun e w' => e = .returned (.bool true) ∧ Below w.heap.size w w' := by
  rcases hv : vld a b with _ | _
  · go_enter Try.func9, Try.ntmps9
    go_wp2_with (first
      | (go_at_call 27; refine (specZigzagOf_bad _ _ hv _).mono ?_; rintro e w' ⟨rfl, rfl⟩)
      | (go_at_call 28; refine (implZigzagOf_bad _ _ hv _).mono ?_; rintro e w' ⟨rfl, hb⟩))
    go_ret
    exact ⟨rfl, hb⟩
  · go_enter Try.func9, Try.ntmps9
    go_wp2_with (first
      | (go_at_call 27; refine (specZigzagOf_ok _ _ hv _).mono ?_; rintro e w' ⟨rfl, rfl⟩)
      | (go_at_call 28; refine (implZigzagOf_ok _ _ hv _).mono ?_; rintro e w' ⟨rfl, hb⟩))
    go_ret
    exact ⟨rfl, hb⟩
theorem FnExactPowerAbove_walk (a b : Int) (_ : (Lit.int .i64 a).wf = true) (_ : (Lit.int .i64 b).wf = true) (w : World) :
    Calls Try.prog 14 #[.int .i64 a, .int .i64 b] w fun e w' => e = .returned (.bool true) ∧ Below w.heap.size w w' := by
  rcases hv : vld a b with _ | _
  · go_enter Try.func14, Try.ntmps14
    go_wp2_with (first
      | (go_at_call 40; refine (specPowerAbove_bad _ _ hv _).mono ?_; rintro e w' ⟨rfl, rfl⟩)
      | (go_at_call 41; refine (implPowerAbove_bad _ _ hv _).mono ?_; rintro e w' ⟨rfl, rfl⟩))
    go_ret
    exact ⟨rfl, Below.refl _ _⟩
  · obtain ⟨p, q, hP⟩ : ∃ (p : Int) (q : Bool), paOut a b = .tuple #[.int .i64 p, .bool q] := by
      unfold paOut; split <;> exact ⟨_, _, rfl⟩
    have HP := hd hP
    clear hP
    cases q
    all_goals
      go_enter Try.func14, Try.ntmps14
      go_wp2_with (first
        | (go_at_call 40; refine (specPowerAbove_ok _ _ hv _).mono ?_; rintro e w' ⟨he, rfl⟩; rw [HP.out] at he; subst he)
        | (go_at_call 41; refine (implPowerAbove_ok _ _ hv _).mono ?_; rintro e w' ⟨he, rfl⟩; rw [HP.out] at he; subst he))
      go_ret
      exact ⟨rfl, Below.refl _ _⟩
end Go.Proofs.Ytgbjppdfgjmiaaa
