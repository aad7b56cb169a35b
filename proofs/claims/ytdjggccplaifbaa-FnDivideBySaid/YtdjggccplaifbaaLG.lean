/- The walk of the law of DivideBy (chapter 4); no condition but that the code is a slice of bytes that can be read. -/
import Derived.Test.YtdjggccplaifbaaLE
import Derived.Test.YtdjggccplaifbaaDW
import Derived.Test.YtdjggccplaifbaaW3
namespace Go.Proofs.Ytdjggccplaifbaa
open Go.RowKit
set_option maxHeartbeats 800000 in
theorem FnDivideBy_walk (a0 : Option Addr) (len0 cap0 : Nat) (w : World) (h0 : Code8 w a0 len0 cap0) :
    Calls Try.prog 15 #[.slice a0 len0 cap0] w fun e w' => e = .returned (.bool true) ∧ Below w.heap.size w w' := by
  have hm := h0.2.1
  have hlc := h0.1
  unfold maxLen at hm
  by_cases hbig : 1048576 < len0
  · clear h0
    go_enter Try.func15, Try.ntmps15
    go_wp2
    go_ret
    exact ⟨rfl, Below.refl _ _⟩
  have H0 := hd h0
  clear h0
  go_enter Try.func15, Try.ntmps15
  go_wp2_with fail
  refine (DrawDivideBy_any a0 len0 cap0 w H0.out).mono ?_
  rintro e w1 ⟨k, x, d, rfl, ⟨⟨k1, k2⟩, ⟨x0, x1⟩, d1, d2⟩, b1⟩
  rcases hv : (mofB k d && vld k x) with _ | _
  · go_wp2_with fail
    refine (implDivideBy_bad k x d hv w1).mono ?_
    rintro e w2 ⟨rfl, c2⟩
    go_wp2_with fail
    refine (specDivideBy_bad k x d hv _).mono ?_
    rintro e w3 ⟨rfl, c3⟩
    go_wp2_with (go_at_call 35; refine (alive_any _).mono ?_; rintro e w' ⟨rfl, b2⟩)
    go_ret
    exact ⟨rfl, bt (bt (bt b1 c2) c3) b2⟩
  · have hv1 : mofB k d = true := by simp only [Bool.and_eq_true] at hv; exact hv.1
    have hv2 : vld k x = true := by simp only [Bool.and_eq_true] at hv; exact hv.2
    obtain ⟨a1, a2, a3, a4⟩ := mofB_true hv1
    obtain ⟨j, hj⟩ := mof_ex k d a1 a2 a3 a4
    have HJ := hd hj
    have HV1 := hd hv1
    have HV2 := hd hv2
    obtain ⟨c1, c2, c3, c4, c5, c6⟩ := vld_4096 hv2
    have hvd := vld_mk a1 a2 (show 0 ≤ d by omega) a4
    have HD := hd (show dvB k x d = true by simp [dvB, vld2, hv2, hvd]; omega)
    obtain ⟨e1, e2⟩ := ediv_bd (x := x) (c := d) c3 (by omega)
    clear hj hv hv1 hv2 hvd
    go_wp2_with fail
    refine (implDivideBy_ok k x d j HV1.out HJ.out HV2.out w1).mono ?_
    rintro e w2 ⟨rfl, b2⟩
    go_wp2_with fail
    refine (specDivideBy_ok k x d j HV1.out HJ.out HV2.out _).mono ?_
    rintro e w3 ⟨rfl, b3⟩
    go_wp2_with fail
    refine (implWordDivide_ok k x d HD.out _).mono ?_
    rintro e w4 ⟨rfl, b4⟩
    go_wp2
    go_ret
    exact ⟨rfl, bt (bt (bt b1 b2) b3) b4⟩
end Go.Proofs.Ytdjggccplaifbaa
