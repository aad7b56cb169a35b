/- The walks of further laws of constants (chapter 4); no condition but that the code is a slice of bytes that can be read. -/
import Derived.Test.YtdjggccplaifbaaLC
import Derived.Test.YtdjggccplaifbaaDU
import Derived.Test.YtdjggccplaifbaaW3
namespace Go.Proofs.Ytdjggccplaifbaa
open Go.RowKit
theorem FnExactDivide_walk (a0 : Option Addr) (len0 cap0 : Nat) (w : World) (h0 : Code8 w a0 len0 cap0) :
    Calls Try.prog 16 #[.slice a0 len0 cap0] w fun e w' => e = .returned (.bool true) ∧ Below w.heap.size w w' := by
  have hm := h0.2.1
  have hlc := h0.1
  unfold maxLen at hm
  by_cases hbig : 1048576 < len0
  · clear h0
    go_enter Try.func16, Try.ntmps16
    go_wp2
    go_ret
    exact ⟨rfl, Below.refl _ _⟩
  have H0 := hd h0
  clear h0
  go_enter Try.func16, Try.ntmps16
  go_wp2_with fail
  refine (DrawExactDivide_any a0 len0 cap0 w H0.out).mono ?_
  rintro e w1 ⟨k, a, b, rfl, _, b1⟩
  rcases hv : exB k a b with _ | _
  · rcases hd2 : dvB k a b with _ | _
    · go_wp2_with fail
      refine (implExactDivide_bad k a b hv w1).mono ?_
      rintro e w2 ⟨rfl, b2⟩
      go_wp2_with fail
      refine (specExactDivide_bad k a b hv w2).mono ?_
      rintro e w3 ⟨rfl, b3⟩
      go_wp2_with fail
      refine (implWordDivide_bad k a b hd2 w3).mono ?_
      rintro e w4 ⟨rfl, b4⟩
      go_wp2_with fail
      refine (alive_any w4).mono ?_
      rintro e w5 ⟨rfl, b5⟩
      go_wp2
      go_ret
      exact ⟨rfl, (bt (bt (bt (bt b1 b2) b3) b4) b5)⟩
    · have hrest : (a % b == 0) = false := by
        obtain ⟨hv2, hb1⟩ := dvB_true hd2
        have : ¬ (b ≠ 0 ∧ a % b = 0) := by simpa [exB, hv2] using hv
        have h2 : ¬ a % b = 0 := fun g => this ⟨by omega, g⟩
        simpa using h2
      have hrest2 : (a % b != 0) = true := by simpa using hrest
      go_wp2_with fail
      refine (implExactDivide_bad k a b hv w1).mono ?_
      rintro e w2 ⟨rfl, b2⟩
      go_wp2_with fail
      refine (specExactDivide_bad k a b hv w2).mono ?_
      rintro e w3 ⟨rfl, b3⟩
      go_wp2_with fail
      refine (implWordDivide_ok k a b hd2 w3).mono ?_
      rintro e w4 ⟨rfl, b4⟩
      go_wp2_with fail
      refine (alive_any w4).mono ?_
      rintro e w5 ⟨rfl, b5⟩
      go_wp2
      go_ret
      exact ⟨rfl, (bt (bt (bt (bt b1 b2) b3) b4) b5)⟩
  · obtain ⟨hv2, hb0, hr⟩ := exB_true hv
    have hd2 : dvB k a b = true := by simp [dvB, hv2, hb0]
    have hrz : (a % b == 0) = true := by simpa using hr
    clear hb0 hv2
    go_wp2_with fail
    refine (implExactDivide_ok k a b hv w1).mono ?_
    rintro e w2 ⟨rfl, b2⟩
    go_wp2_with fail
    refine (specExactDivide_ok k a b hv w2).mono ?_
    rintro e w3 ⟨rfl, b3⟩
    go_wp2_with fail
    refine (implWordDivide_ok k a b hd2 w3).mono ?_
    rintro e w4 ⟨rfl, b4⟩
    go_wp2
    go_ret
    exact ⟨rfl, (bt (bt (bt b1 b2) b3) b4)⟩
theorem FnDividesOdd_walk (a0 : Option Addr) (len0 cap0 : Nat) (w : World) (h0 : Code8 w a0 len0 cap0) :
    Calls Try.prog 18 #[.slice a0 len0 cap0] w fun e w' => e = .returned (.bool true) ∧ Below w.heap.size w w' := by
  have hm := h0.2.1
  have hlc := h0.1
  unfold maxLen at hm
  by_cases hbig : 1048576 < len0
  · clear h0
    go_enter Try.func18, Try.ntmps18
    go_wp2
    go_ret
    exact ⟨rfl, Below.refl _ _⟩
  have H0 := hd h0
  clear h0
  go_enter Try.func18, Try.ntmps18
  go_wp2_with fail
  refine (DrawDividesOdd_any a0 len0 cap0 w H0.out).mono ?_
  rintro e w1 ⟨k, a, b, rfl, _, b1⟩
  rcases ha : vld k a with _ | _
  · have hd0 : doB k a b = false := by unfold doB; rw [ha]; rfl
    go_wp2_with fail
    refine (implDividesOdd_any k a b w1).mono ?_
    rintro e w2 ⟨rfl, b2⟩
    go_wp2_with fail
    refine (specDividesOdd_any k a b w2).mono ?_
    rintro e w3 ⟨rfl, b3⟩
    go_wp2_with fail
    refine (specWordValid_any k a w3).mono ?_
    rintro e w4 ⟨rfl, rfl⟩
    go_wp2_with fail
    refine (alive_any w3).mono ?_
    rintro e w4 ⟨rfl, b4⟩
    go_wp2
    go_ret
    exact ⟨rfl, (bt (bt (bt b1 b2) b3) b4)⟩
  rcases hb : vld k b with _ | _
  · have hd0 : doB k a b = false := by unfold doB oddB; rw [ha, hb]; rfl
    go_wp2_with fail
    refine (implDividesOdd_any k a b w1).mono ?_
    rintro e w2 ⟨rfl, b2⟩
    go_wp2_with fail
    refine (specDividesOdd_any k a b w2).mono ?_
    rintro e w3 ⟨rfl, b3⟩
    go_wp2_with fail
    refine (specWordValid_any k a w3).mono ?_
    rintro e w4 ⟨rfl, rfl⟩
    go_wp2_with fail
    refine (specWordValid_any k b w3).mono ?_
    rintro e w4 ⟨rfl, rfl⟩
    go_wp2_with fail
    refine (alive_any w3).mono ?_
    rintro e w4 ⟨rfl, b4⟩
    go_wp2
    go_ret
    exact ⟨rfl, (bt (bt (bt b1 b2) b3) b4)⟩
  obtain ⟨h1, h2, h3, h4, h5, h6⟩ := vld_4096 hb
  by_cases ho : b % 2 = 1
  · have hodd := oddB_mk hb ho
    have hiff := ddB_iff k a b ha hodd
    have HD := hd (show dvB k a b = true by simp [dvB, vld2, ha, hb]; omega)
    have hbz : (b % 2 == 0) = false := by simp; omega
    by_cases hr : a % b = 0
    · have hd0 : doB k a b = true := by unfold doB; rw [ha, hodd, hiff]; simpa using hr
      have hrz : (a % b == 0) = true := by simpa using hr
      clear hiff hodd ho
      go_wp2_with fail
      refine (implDividesOdd_any k a b w1).mono ?_
      rintro e w2 ⟨rfl, b2⟩
      go_wp2_with fail
      refine (specDividesOdd_any k a b w2).mono ?_
      rintro e w3 ⟨rfl, b3⟩
      go_wp2_with fail
      refine (specWordValid_any k a w3).mono ?_
      rintro e w4 ⟨rfl, rfl⟩
      go_wp2_with fail
      refine (specWordValid_any k b w3).mono ?_
      rintro e w4 ⟨rfl, rfl⟩
      go_wp2_with fail
      refine (implWordDivide_ok k a b HD.out w3).mono ?_
      rintro e w4 ⟨rfl, b4⟩
      go_wp2
      go_ret
      exact ⟨rfl, (bt (bt (bt b1 b2) b3) b4)⟩
    · have hd0 : doB k a b = false := by unfold doB; rw [ha, hodd, hiff]; simpa using hr
      have hrz : (a % b == 0) = false := by simpa using hr
      clear hiff hodd ho hr
      go_wp2_with fail
      refine (implDividesOdd_any k a b w1).mono ?_
      rintro e w2 ⟨rfl, b2⟩
      go_wp2_with fail
      refine (specDividesOdd_any k a b w2).mono ?_
      rintro e w3 ⟨rfl, b3⟩
      go_wp2_with fail
      refine (specWordValid_any k a w3).mono ?_
      rintro e w4 ⟨rfl, rfl⟩
      go_wp2_with fail
      refine (specWordValid_any k b w3).mono ?_
      rintro e w4 ⟨rfl, rfl⟩
      go_wp2_with fail
      refine (implWordDivide_ok k a b HD.out w3).mono ?_
      rintro e w4 ⟨rfl, b4⟩
      go_wp2
      go_ret
      exact ⟨rfl, (bt (bt (bt b1 b2) b3) b4)⟩
  · have hd0 : doB k a b = false := by unfold doB oddB; simp [ho]
    have hbz : b % 2 = 0 := by omega
    clear ho
    go_wp2_with fail
    refine (implDividesOdd_any k a b w1).mono ?_
    rintro e w2 ⟨rfl, b2⟩
    go_wp2_with fail
    refine (specDividesOdd_any k a b w2).mono ?_
    rintro e w3 ⟨rfl, b3⟩
    go_wp2_with fail
    refine (specWordValid_any k a w3).mono ?_
    rintro e w4 ⟨rfl, rfl⟩
    go_wp2_with fail
    refine (specWordValid_any k b w3).mono ?_
    rintro e w4 ⟨rfl, rfl⟩
    go_wp2_with fail
    refine (alive_any w3).mono ?_
    rintro e w4 ⟨rfl, b4⟩
    go_wp2
    go_ret
    exact ⟨rfl, (bt (bt (bt b1 b2) b3) b4)⟩
end Go.Proofs.Ytdjggccplaifbaa
