/- Contracts of the functions of chapter 5 (Gray codes, the lowest one, zigzag, the power above) of the program and of the reference; conditions: that the word is valid, or that it is not. -/
import Derived.Test.YtgbjppdfgjmiaaaW1
import Derived.Test.YtgbjppdfgjmiaaaMathB
namespace Go.Proofs.Ytgbjppdfgjmiaaa
open Go.RowKit
theorem implGrayOf_ok (k x : Int) (h : vld k x = true) (w : World) :
    Calls Try.prog 20 #[.int .i64 k, .int .i64 x] w fun e w' => e = .returned (.int .i64 (grZ x)) ∧ w = w' := by
  obtain ⟨h1, h2, h3, h4, h5, h6⟩ := vld_4096 h
  obtain ⟨a1, a2⟩ := half_bd h3
  obtain ⟨b1, b2⟩ := grZ_bd k x h3 h4
  have e1 : bits .xor .i64 x (x / 2) = grZ x := i64_xor x (x / 2) h3 (by omega) a1 (by omega)
  have e2 := emod_small b1 b2
  go_enter Try.func20, Try.ntmps20
  go_wp2_with (first
    | (go_at_call 62; refine (implWordValid_any _ _ _).mono ?_; rintro e w' ⟨rfl, rfl⟩)
    | (go_at_call 63; refine (cut_any _ _ (by omega) (by omega) _).mono ?_; rintro e w' ⟨rfl, rfl⟩)
    | go_in)
  go_ret
  exact ⟨rfl, rfl⟩
theorem implGrayOf_bad (k x : Int) (h : vld k x = false) (w : World) :
    Calls Try.prog 20 #[.int .i64 k, .int .i64 x] w fun e w' => e = .returned (.int .i64 (-1)) ∧ w = w' := by
  go_enter Try.func20, Try.ntmps20
  go_wp2_with (first
    | (go_at_call 62; refine (implWordValid_any _ _ _).mono ?_; rintro e w' ⟨rfl, rfl⟩)
    | go_in)
  go_ret
  exact ⟨rfl, rfl⟩
theorem specGrayOf_ok (k x : Int) (h : vld k x = true) (w : World) :
    Calls Try.prog 19 #[.int .i64 k, .int .i64 x] w fun e w' => e = .returned (.int .i64 (grZ x)) ∧ w = w' := by
  obtain ⟨h1, h2, h3, h4, h5, h6⟩ := vld_4096 h
  obtain ⟨a1, a2⟩ := half_bd h3
  go_enter Try.func19, Try.ntmps19
  go_wp2_with (first
    | (go_at_call 46; refine (specWordValid_any _ _ _).mono ?_; rintro e w' ⟨rfl, rfl⟩)
    | (go_at_call 47; refine (l1Xor_any _ _ (by omega) (by omega) (by omega) (by omega) _).mono ?_; rintro e w' ⟨rfl, rfl⟩))
  go_ret
  exact ⟨rfl, rfl⟩
theorem specGrayOf_bad (k x : Int) (h : vld k x = false) (w : World) :
    Calls Try.prog 19 #[.int .i64 k, .int .i64 x] w fun e w' => e = .returned (.int .i64 (-1)) ∧ w = w' := by
  go_enter Try.func19, Try.ntmps19
  go_wp2_with (go_at_call 46; refine (specWordValid_any _ _ _).mono ?_; rintro e w' ⟨rfl, rfl⟩)
  go_ret
  exact ⟨rfl, rfl⟩
end Go.Proofs.Ytgbjppdfgjmiaaa
