/- The contract of WordRight (chapter 1) of the program; condition: that the word is valid and the places are in range. -/
import Derived.Test.YthbpcgefcnpfmaaW2
namespace Go.Proofs.Ythbpcgefcnpfmaa
open Go.RowKit
theorem btb {a b c : World} (h : Below a.heap.size a b) (g : Below b.heap.size b c) : Below a.heap.size a c := h.trans (g.mono h.size)
theorem implWordRight_ok (k x b : Int) (h : vld k x = true) (b0 : 0 ≤ b) (b1 : b ≤ 12) (w : World) :
    Calls Try.prog 51 #[.int .i64 k, .int .i64 x, .int .i64 b] w fun e w' => e = .returned (.int .i64 (x / pw b)) ∧ Below w.heap.size w w' := by
  obtain ⟨h1, h2, h3, h4, h5, h6⟩ := vld_4096 h
  have hin := inB_mk b0 b1
  obtain ⟨c1, c2⟩ := ediv_bd (x := x) (c := pw b) h3 (pw_pos b)
  have e2 : x / pw b % pw k = x / pw b := Int.emod_eq_of_lt c1 (by omega)
  have eb := shl_pw b
  go_enter Try.func51, Try.ntmps51
  go_wp2_with (first
    | (go_at_call 24; refine (implWordValid_any _ _ _).mono ?_; rintro e w' ⟨rfl, rfl⟩)
    | (go_at_call 66; refine (within_any _ _ _ _).mono ?_; rintro e w' ⟨rfl, rfl⟩)
    | (go_at_call 57; refine (cut_any _ _ (by omega) (by omega) _).mono ?_; rintro e w' ⟨rfl, rfl⟩)
    | go_in)
  go_ret
  exact ⟨rfl, ((Below.refl _ _).alloc (Nat.le_refl _) _).alloc (by simp) _⟩
end Go.Proofs.Ythbpcgefcnpfmaa
