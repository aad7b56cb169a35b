/- The walks of the laws that hold further functions of chapter 5 of the program against the reference; no condition. -/
import Derived.Test.YtgbgpibaincheaaEq
import Derived.Test.YtgbgpibaincheaaW8
namespace Go.Proofs.Ytgbgpibaincheaa
open Go.RowKit
theorem FnExactZerosAbove_walk (a b : Int) (_ : (Lit.int .i64 a).wf = true) (_ : (Lit.int .i64 b).wf = true) (w : World) :
    Calls Try.prog 3 #[.int .i64 a, .int .i64 b] w fun e w' => e = .returned (.bool true) ∧ Below w.heap.size w w' := by
  rcases hv : vld a b with _ | _
  · go_enter Try.func3, Try.ntmps3
    go_wp2_with (first
      | (go_at_call 22; refine (specZerosAbove_bad _ _ hv _).mono ?_; rintro e w' ⟨rfl, rfl⟩)
      | (go_at_call 23; refine (implZerosAbove_bad _ _ hv _).mono ?_; rintro e w' ⟨rfl, rfl⟩))
    go_ret
    exact ⟨rfl, Below.refl _ _⟩
  · go_enter Try.func3, Try.ntmps3
    go_wp2_with (first
      | (go_at_call 22; refine (specZerosAbove_ok _ _ hv _).mono ?_; rintro e w' ⟨rfl, rfl⟩)
      | (go_at_call 23; refine (implZerosAbove_ok _ _ hv _).mono ?_; rintro e w' ⟨rfl, rfl⟩))
    go_ret
    exact ⟨rfl, Below.refl _ _⟩
theorem FnExactFillBelow_walk (a b : Int) (_ : (Lit.int .i64 a).wf = true) (_ : (Lit.int .i64 b).wf = true) (w : World) :
    Calls Try.prog 5 #[.int .i64 a, .int .i64 b] w fun e w' => e = .returned (.bool true) ∧ Below w.heap.size w w' := by
  rcases hv : vld a b with _ | _
  · go_enter Try.func5, Try.ntmps5
    go_wp2_with (first
      | (go_at_call 26; refine (specFillBelow_bad _ _ hv _).mono ?_; rintro e w' ⟨rfl, rfl⟩)
      | (go_at_call 27; refine (implFillBelow_bad _ _ hv _).mono ?_; rintro e w' ⟨rfl, rfl⟩))
    go_ret
    exact ⟨rfl, Below.refl _ _⟩
  · go_enter Try.func5, Try.ntmps5
    go_wp2_with (first
      | (go_at_call 26; refine (specFillBelow_ok _ _ hv _).mono ?_; rintro e w' ⟨rfl, rfl⟩)
      | (go_at_call 27; refine (implFillBelow_ok _ _ hv _).mono ?_; rintro e w' ⟨rfl, rfl⟩))
    go_ret
    exact ⟨rfl, Below.refl _ _⟩
theorem FnExactNextSame_walk (a b : Int) (_ : (Lit.int .i64 a).wf = true) (_ : (Lit.int .i64 b).wf = true) (w : World) :
    Calls Try.prog 8 #[.int .i64 a, .int .i64 b] w fun e w' => e = .returned (.bool true) ∧ Below w.heap.size w w' := by
  have HS := hd (fun W => specNextSame_any a b W)
  have HI := hd (fun W => implNextSame_any a b W)
  obtain ⟨y, hy⟩ : ∃ y, nsOut a b = y := ⟨_, rfl⟩
  obtain ⟨t, ht⟩ : ∃ t, nsOk a b = t := ⟨_, rfl⟩
  rw [hy, ht] at HS HI
  clear hy ht
  cases t
  all_goals
    go_enter Try.func8, Try.ntmps8
    go_wp2_with (first
      | (go_at_call 35; refine (HS.out _).mono ?_; rintro e w' ⟨rfl, rfl⟩)
      | (go_at_call 36; refine (HI.out _).mono ?_; rintro e w' ⟨rfl, rfl⟩))
    go_ret
    exact ⟨rfl, Below.refl _ _⟩
theorem FnExactOnesSteps_list (a b : Int) (L : List Int) (hl : L.length ≤ 1000000)
    (HS : Hid (∀ w, Calls Try.prog 30 #[.int .i64 a, .int .i64 b] w (RetL w.heap.size L w))) (HI : Hid (∀ w, Calls Try.prog 31 #[.int .i64 a, .int .i64 b] w (RetL w.heap.size L w))) (w : World) :
    Calls Try.prog 7 #[.int .i64 a, .int .i64 b] w fun e w' => e = .returned (.bool true) ∧ Below w.heap.size w w' := by
  go_enter Try.func7, Try.ntmps7
  go_wp2_with fail
  refine (HS.out w).mono ?_
  rintro e w1 ⟨A0, c0, rfl, own0, b0⟩
  go_wp2_with fail
  refine (HI.out w1).mono ?_
  rintro e w2 ⟨A1, c1, rfl, own1, b1⟩
  have own0' := own0.below b1 (Nat.le_refl _)
  go_wp2_with fail
  refine (eqIntS_same L A1 A0 _ _ c1 c0 w2 own1 own0').mono ?_
  rintro e w3 ⟨rfl, n1, rfl⟩
  go_wp2_with fail
  refine (markIntS_any L A1 _ c1 (w2.drewN n1) own1.drewN hl).mono ?_
  rintro e w4 ⟨rfl, own2, b2⟩
  have b3 : Below w1.heap.size w1 w4 := (below_drewN b1 n1).trans b2
  have own0d := own0.below b3 (Nat.le_refl _)
  have own0h := own0d
  go_wp2_with fail
  refine (heldIntS_any L.length A1 _ c1 w4 own2 hl).mono ?_
  rintro e w4' ⟨rfl, rfl⟩
  go_wp2_with fail
  refine (HI.out w4).mono ?_
  rintro e w5 ⟨A2, c2, rfl, own3, b4⟩
  have own0t := own0d.below b4 (Nat.le_refl _)
  have own2' := own2.below b4 (Nat.le_refl _)
  go_wp2_with fail
  refine (eqIntS_same L A2 A0 _ _ c2 c0 w5 own3 own0t).mono ?_
  rintro e w6 ⟨rfl, n2, rfl⟩
  go_wp2_with fail
  refine (heldIntS_any L.length A1 _ c1 (w5.drewN n2) own2'.drewN hl).mono ?_
  rintro e w7 ⟨rfl, rfl⟩
  have hz : w.heap.size ≤ w1.heap.size := b0.size
  have hz4 : w1.heap.size ≤ w4.heap.size := b3.size
  go_wp2
  go_ret
  exact ⟨rfl, below_drewN ((b0.trans (b3.mono hz)).trans (b4.mono (by omega))) n2⟩
theorem FnExactOnesSteps_walk (a : Int) (b : Int) (_ : (Lit.int .i64 a).wf = true) (_ : (Lit.int .i64 b).wf = true) (w : World) :
    Calls Try.prog 7 #[.int .i64 a, .int .i64 b] w fun e w' => e = .returned (.bool true) ∧ Below w.heap.size w w' := by
  rcases hv : vld a b with _ | _
  · exact FnExactOnesSteps_list a b [] (by simp) (hd fun w => specOnesSteps_bad a b hv w) (hd fun w => implOnesSteps_bad a b hv w) w
  · exact FnExactOnesSteps_list a b (osL a b) (by unfold osL; rw [osF_len]; have := osK_le a; omega) (hd fun w => specOnesSteps_ok a b hv w) (hd fun w => implOnesSteps_ok a b hv w) w
theorem FnExactAllSame_list (a b : Int) (L : List Int) (hl : L.length ≤ 1000000)
    (HS : Hid (∀ w, Calls Try.prog 37 #[.int .i64 a, .int .i64 b] w (RetL w.heap.size L w))) (HI : Hid (∀ w, Calls Try.prog 38 #[.int .i64 a, .int .i64 b] w (RetL w.heap.size L w))) (w : World) :
    Calls Try.prog 9 #[.int .i64 a, .int .i64 b] w fun e w' => e = .returned (.bool true) ∧ Below w.heap.size w w' := by
  go_enter Try.func9, Try.ntmps9
  go_wp2_with fail
  refine (HS.out w).mono ?_
  rintro e w1 ⟨A0, c0, rfl, own0, b0⟩
  go_wp2_with fail
  refine (HI.out w1).mono ?_
  rintro e w2 ⟨A1, c1, rfl, own1, b1⟩
  have own0' := own0.below b1 (Nat.le_refl _)
  go_wp2_with fail
  refine (eqIntS_same L A1 A0 _ _ c1 c0 w2 own1 own0').mono ?_
  rintro e w3 ⟨rfl, n1, rfl⟩
  go_wp2_with fail
  refine (markIntS_any L A1 _ c1 (w2.drewN n1) own1.drewN hl).mono ?_
  rintro e w4 ⟨rfl, own2, b2⟩
  have b3 : Below w1.heap.size w1 w4 := (below_drewN b1 n1).trans b2
  have own0d := own0.below b3 (Nat.le_refl _)
  have own0h := own0d
  go_wp2_with fail
  refine (heldIntS_any L.length A1 _ c1 w4 own2 hl).mono ?_
  rintro e w4' ⟨rfl, rfl⟩
  go_wp2_with fail
  refine (HI.out w4).mono ?_
  rintro e w5 ⟨A2, c2, rfl, own3, b4⟩
  have own0t := own0d.below b4 (Nat.le_refl _)
  have own2' := own2.below b4 (Nat.le_refl _)
  go_wp2_with fail
  refine (eqIntS_same L A2 A0 _ _ c2 c0 w5 own3 own0t).mono ?_
  rintro e w6 ⟨rfl, n2, rfl⟩
  go_wp2_with fail
  refine (heldIntS_any L.length A1 _ c1 (w5.drewN n2) own2'.drewN hl).mono ?_
  rintro e w7 ⟨rfl, rfl⟩
  have hz : w.heap.size ≤ w1.heap.size := b0.size
  have hz4 : w1.heap.size ≤ w4.heap.size := b3.size
  go_wp2
  go_ret
  exact ⟨rfl, below_drewN ((b0.trans (b3.mono hz)).trans (b4.mono (by omega))) n2⟩
theorem FnExactAllSame_walk (a : Int) (b : Int) (_ : (Lit.int .i64 a).wf = true) (_ : (Lit.int .i64 b).wf = true) (w : World) :
    Calls Try.prog 9 #[.int .i64 a, .int .i64 b] w fun e w' => e = .returned (.bool true) ∧ Below w.heap.size w w' := by
  rcases hv : okAl a b with _ | _
  · exact FnExactAllSame_list a b [] (by simp) (hd fun w => specAllSame_bad a b hv w) (hd fun w => implAllSame_bad a b hv w) w
  · obtain ⟨h1, h2, _⟩ := okAl_true hv
    have hl := alN_len b (2 ^ a.toNat)
    have hp := pw_cast a
    have hq := (pw_w a h1 h2).2
    exact FnExactAllSame_list a b (alL a b) (by unfold alL; omega) (hd fun w => specAllSame_ok a b hv w) (hd fun w => implAllSame_ok a b hv w) w
end Go.Proofs.Ytgbgpibaincheaa
