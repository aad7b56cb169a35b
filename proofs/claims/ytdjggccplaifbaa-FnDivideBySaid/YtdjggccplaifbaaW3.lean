/- Contracts of the products and quotients (chapter 3) of the program and of the reference; conditions: that the arguments are valid, or that they are not. -/
import Derived.Test.YtdjggccplaifbaaW2
import Derived.Test.YtdjggccplaifbaaMathP
import Derived.Deep.RegionWith
namespace Go.Proofs.Ytdjggccplaifbaa
open Go.RowKit
def dvB (k a b : Int) : Bool := vld2 k a b && decide (b ≠ 0)
theorem dvB_true {k a b : Int} (h : dvB k a b = true) : vld2 k a b = true ∧ 1 ≤ b := by
  have h2 : vld2 k a b = true ∧ b ≠ 0 := by simpa [dvB] using h
  have := vld2_bd h2.1
  exact ⟨h2.1, by omega⟩
theorem dvB_cases {k a b : Int} (h : dvB k a b = false) : vld2 k a b = false ∨ (vld2 k a b = true ∧ b = 0) := by
  rcases hv : vld2 k a b with _ | _
  · exact .inl rfl
  · exact .inr ⟨rfl, by simpa [dvB, hv] using h⟩
theorem implWordDivide_bad (k a b : Int) (h : dvB k a b = false) (w : World) :
    Calls Try.prog 56 #[.int .i64 k, .int .i64 a, .int .i64 b] w fun e w' => e = .returned (.tuple #[.int .i64 (-1), .int .i64 (-1), .bool false]) ∧ Below w.heap.size w w' := by
  rcases dvB_cases h with hv | ⟨hv, rfl⟩
  · clear h
    go_enter Try.func56, Try.ntmps56
    go_wp2_with (go_at_call 65; refine (allValid_two k a b _ _ _ (cell_two0 _ _ _ _) (cell_two1 _ _ _ _)).mono ?_; rintro e w' ⟨rfl, rfl⟩)
    go_ret3
    exact ⟨rfl, (Below.refl _ _).alloc (Nat.le_refl _) _⟩
  · clear h
    go_enter Try.func56, Try.ntmps56
    go_wp2_with (go_at_call 65; refine (allValid_two k a 0 _ _ _ (cell_two0 _ _ _ _) (cell_two1 _ _ _ _)).mono ?_; rintro e w' ⟨rfl, rfl⟩)
    go_ret3
    exact ⟨rfl, (Below.refl _ _).alloc (Nat.le_refl _) _⟩
theorem implWordDivide_ok (k a b : Int) (h : dvB k a b = true) (w : World) :
    Calls Try.prog 56 #[.int .i64 k, .int .i64 a, .int .i64 b] w fun e w' => e = .returned (.tuple #[.int .i64 (a / b), .int .i64 (a % b), .bool true]) ∧ Below w.heap.size w w' := by
  obtain ⟨hv, hb1⟩ := dvB_true h
  obtain ⟨h1, h2, h3, h4, g3, g4, h5, h6⟩ := vld2_bd hv
  have hbz : (b == 0) = false := by simp; omega
  obtain ⟨d1, d2⟩ := ediv_bd (x := a) (c := b) h3 hb1
  clear h
  go_enter Try.func56, Try.ntmps56
  go_wp2_with (go_at_call 65; refine (allValid_two k a b _ _ _ (cell_two0 _ _ _ _) (cell_two1 _ _ _ _)).mono ?_; rintro e w' ⟨rfl, rfl⟩)
  have t1 := i64_tdiv a b h3 (by omega) hb1
  have t2 := Int.tmod_eq_emod_of_nonneg (b := b) h3
  go_quiet (fail)
  go_wp2
  go_ret3
  exact ⟨rfl, below_drewN ((Below.refl _ _).alloc (Nat.le_refl _) _) _⟩
