/- Contracts of the functions of chapter 5 (Gray codes, the lowest one, zigzag, the power above) of the program and of the reference; conditions: that the word is valid, or that it is not. -/
import Derived.Test.YtgbgpibaincheaaDoorW1
import Derived.Test.YtgbgpibaincheaaDoorMathB
namespace Go.Proofs.YtgbgpibaincheaaDoor
open Go.RowKit
theorem implLowestOne_ok (k x : Int) (h : vld k x = true) (w : World) :
    Calls Tryd.prog 14 #[.int .i64 k, .int .i64 x] w fun e w' => e = .returned (.int .i64 (loZ k x)) ∧ w = w' := by
  obtain ⟨h1, h2, h3, h4, h5, h6⟩ := vld_4096 h
  have e2 : bits .and .i64 x (-x) % pw k = loZ k x := by
    rw [i64_and_mod x (-x) k (by omega), emod_small h3 h4]; rfl
  go_enter Tryd.func14, Tryd.ntmps14
  go_wp2_with (first
    | (go_at_call 20; refine (implWordValid_any _ _ _).mono ?_; rintro e w' ⟨rfl, rfl⟩)
    | (go_at_call 36; refine (cut_any _ _ (by omega) (by omega) _).mono ?_; rintro e w' ⟨rfl, rfl⟩)
    | go_in)
  go_ret
  exact ⟨rfl, rfl⟩
theorem implLowestOne_bad (k x : Int) (h : vld k x = false) (w : World) :
    Calls Tryd.prog 14 #[.int .i64 k, .int .i64 x] w fun e w' => e = .returned (.int .i64 (-1)) ∧ w = w' := by
  go_enter Tryd.func14, Tryd.ntmps14
  go_wp2_with (first
    | (go_at_call 20; refine (implWordValid_any _ _ _).mono ?_; rintro e w' ⟨rfl, rfl⟩)
    | go_in)
  go_ret
  exact ⟨rfl, rfl⟩
theorem specLowestOne_ok (k x : Int) (h : vld k x = true) (w : World) :
    Calls Tryd.prog 15 #[.int .i64 k, .int .i64 x] w fun e w' => e = .returned (.int .i64 (loZ k x)) ∧ w = w' := by
  obtain ⟨h1, h2, h3, h4, h5, h6⟩ := vld_4096 h
  obtain ⟨a1, a2⟩ := mod_bd (-x) k h1 h2
  go_enter Tryd.func15, Tryd.ntmps15
  go_wp2_with (first
    | (go_at_call 18; refine (specWordValid_any _ _ _).mono ?_; rintro e w' ⟨rfl, rfl⟩)
    | (go_at_call 33; refine (l1Mod_any _ _ (by omega) (by omega) _).mono ?_; rintro e w' ⟨rfl, rfl⟩)
    | (go_at_call 32; refine (l1And_any _ _ (by omega) (by omega) (by omega) (by omega) _).mono ?_; rintro e w' ⟨rfl, rfl⟩))
  go_ret
  exact ⟨rfl, rfl⟩
theorem specLowestOne_bad (k x : Int) (h : vld k x = false) (w : World) :
    Calls Tryd.prog 15 #[.int .i64 k, .int .i64 x] w fun e w' => e = .returned (.int .i64 (-1)) ∧ w = w' := by
  go_enter Tryd.func15, Tryd.ntmps15
  go_wp2_with (go_at_call 18; refine (specWordValid_any _ _ _).mono ?_; rintro e w' ⟨rfl, rfl⟩)
  go_ret
  exact ⟨rfl, rfl⟩
