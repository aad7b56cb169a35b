/- The walks of laws of counted and turned bits (chapter 5); no condition but that the codes are slices of bytes that can be read. -/
import Derived.Test.YtgbgpibaincheaaW5
import Derived.Test.YtgbgpibaincheaaW6
import Derived.Test.YtgbgpibaincheaaW2
import Derived.Test.YtgbgpibaincheaaMathZ
import Derived.Test.YtgbgpibaincheaaDT
namespace Go.Proofs.Ytgbgpibaincheaa
open Go.RowKit
theorem bt {a b c : World} (h : Below a.heap.size a b) (g : Below b.heap.size b c) : Below a.heap.size a c := h.trans (g.mono h.size)
theorem vld2_mk {k a b : Int} (h : vld k a = true) (g : vld k b = true) : vld2 k a b = true := by unfold vld2; rw [h, g]; rfl
theorem vld_xor {k a b : Int} (h : vld k a = true) (g : vld k b = true) : vld k (xorZ a b) = true := by
  obtain ⟨h1, h2, h3, h4, _, _⟩ := vld_4096 h
  obtain ⟨_, _, g3, g4, _, _⟩ := vld_4096 g
  exact vld_mk h1 h2 (xorZ_nonneg _ _) (xorZ_lt _ _ _ h3 h4 g3 g4)
theorem vld_and {k a b : Int} (h : vld k a = true) : vld k (andZ a b) = true := by
  obtain ⟨h1, h2, h3, h4, _, _⟩ := vld_4096 h
  exact vld_mk h1 h2 (andZ_nonneg _ _) (andZ_lt _ _ _ h3 h4)
theorem vld_gr {k a : Int} (h : vld k a = true) : vld k (grZ a) = true := by
  obtain ⟨h1, h2, h3, h4, _, _⟩ := vld_4096 h
  have := grZ_bd k a h3 h4
  exact vld_mk h1 h2 this.1 this.2
theorem vld_gb {k a : Int} (h : vld k a = true) : vld k (gbZ a) = true := by
  obtain ⟨h1, h2, h3, h4, _, _⟩ := vld_4096 h
  have := gbN_bd k 4 a h3 h4
  exact vld_mk h1 h2 this.1 this.2
theorem FnZigzagBack_walk (a0 : Option Addr) (len0 cap0 : Nat) (w : World) (h0 : Code8 w a0 len0 cap0) :
    Calls Try.prog 13 #[.slice a0 len0 cap0] w fun e w' => e = .returned (.bool true) ∧ Below w.heap.size w w' := by
  have hm := h0.2.1
  have hlc := h0.1
  unfold maxLen at hm
  by_cases hbig : 1048576 < len0
  · clear h0
    go_enter Try.func13, Try.ntmps13
    go_wp2
    go_ret
    exact ⟨rfl, Below.refl _ _⟩
  have H0 := hd h0
  clear h0
  go_enter Try.func13, Try.ntmps13
  go_wp2_with fail
  refine (DrawZigzagBack_any a0 len0 cap0 w H0.out).mono ?_
  rintro e w1 ⟨k, x, rfl, _, b1⟩
  rcases hv : vld k x with _ | _
  · go_wp2_with fail
    refine (implZigzagBack_bad k x hv w1).mono ?_
    rintro e w2 ⟨rfl, rfl⟩
    go_wp2_with fail
    refine (specZigzagBack_bad k x hv w1).mono ?_
    rintro e w2 ⟨rfl, rfl⟩
    go_wp2_with fail
    refine (alive_any w1).mono ?_
    rintro e w2 ⟨rfl, b2⟩
    go_wp2
    go_ret
    exact ⟨rfl, (bt b1 b2)⟩
  · obtain ⟨z1, z2, z3, z4⟩ := zz_is k x hv
    obtain ⟨h1, h2, h3, h4, h5, h6⟩ := vld_4096 z2
    have Z2 := hd z2
    go_wp2_with fail
    refine (implZigzagBack_ok k x hv w1).mono ?_
    rintro e w2 ⟨rfl, rfl⟩
    go_wp2_with fail
    refine (specZigzagBack_ok k x hv w1).mono ?_
    rintro e w2 ⟨rfl, rfl⟩
    go_wp2_with fail
    refine (implZigzagOf_ok k (zbZ k x) Z2.out w1).mono ?_
    rintro e w2 ⟨rfl, b2⟩
    go_wp2_with fail
    refine (implWordValid_any k (zbZ k x) w2).mono ?_
    rintro e w3 ⟨rfl, rfl⟩
    go_wp2
    go_ret
    exact ⟨rfl, (bt b1 b2)⟩
theorem FnGrayOf_walk (a0 : Option Addr) (len0 cap0 : Nat) (w : World) (h0 : Code8 w a0 len0 cap0) :
    Calls Try.prog 18 #[.slice a0 len0 cap0] w fun e w' => e = .returned (.bool true) ∧ Below w.heap.size w w' := by
  have hm := h0.2.1
  have hlc := h0.1
  unfold maxLen at hm
  by_cases hbig : 1048576 < len0
  · clear h0
    go_enter Try.func18, Try.ntmps18
    go_wp2
    go_ret
    exact ⟨rfl, Below.refl _ _⟩
  have H0 := hd h0
  clear h0
  go_enter Try.func18, Try.ntmps18
  go_wp2_with fail
  refine (DrawGrayOf_any a0 len0 cap0 w H0.out).mono ?_
  rintro e w1 ⟨k, x, rfl, _, b1⟩
  rcases hv : vld k x with _ | _
  · go_wp2_with fail
    refine (implGrayOf_bad k x hv w1).mono ?_
    rintro e w2 ⟨rfl, rfl⟩
    go_wp2_with fail
    refine (specGrayOf_bad k x hv w1).mono ?_
    rintro e w2 ⟨rfl, rfl⟩
    go_wp2_with fail
    refine (alive_any w1).mono ?_
    rintro e w2 ⟨rfl, b2⟩
    go_wp2
    go_ret
    exact ⟨rfl, (bt b1 b2)⟩
  · obtain ⟨h1, h2, h3, h4, h5, h6⟩ := vld_4096 hv
    obtain ⟨g1, g2, g3, _⟩ := gr_is k x hv
    have hgb := grZ_bd k x h3 h4
    have h1v := vld_mk h1 h2 (show (0 : Int) ≤ 1 by omega) (by omega)
    have hone : (1 : Int) % pw k = 1 := Int.emod_eq_of_lt (by omega) (by omega)
    have hav := vld_mod k (x + 1) h1 h2
    have HV := hd (vld2_mk hv h1v)
    have HA := hd hav
    have HG := hd (vld_gr hv)
    have HX := hd (vld2_mk (vld_gr hv) (vld_gr hav))
    have HXV := hd (vld_xor (vld_gr hv) (vld_gr hav))
    clear h1v hav
    go_wp2_with fail
    refine (implGrayOf_ok k x hv w1).mono ?_
    rintro e w2 ⟨rfl, rfl⟩
    go_wp2_with fail
    refine (specGrayOf_ok k x hv w1).mono ?_
    rintro e w2 ⟨rfl, rfl⟩
    go_wp2_with fail
    refine (implWordOf_ok k 1 h1 h2 w1).mono ?_
    rintro e w2 ⟨rfl, rfl⟩
    go_wp2_with fail
    refine (implWordAdd_ok k x 1 HV.out w1).mono ?_
    rintro e w2 ⟨rfl, b2⟩
    go_wp2_with fail
    refine (implGrayOf_ok k ((x + 1) % pw k) HA.out w2).mono ?_
    rintro e w3 ⟨rfl, rfl⟩
    go_wp2_with fail
    refine (implGrayBack_ok k (grZ x) HG.out w2).mono ?_
    rintro e w3 ⟨rfl, rfl⟩
    go_wp2_with fail
    refine (implWordXor_ok k (grZ x) (grZ ((x + 1) % pw k)) HX.out w2).mono ?_
    rintro e w3 ⟨rfl, b3⟩
    go_wp2_with fail
    refine (implOnesOf_ok k _ HXV.out w3).mono ?_
    rintro e w4 ⟨rfl, rfl⟩
    go_wp2
    go_ret
    exact ⟨rfl, (bt (bt b1 b2) b3)⟩
end Go.Proofs.Ytgbgpibaincheaa
