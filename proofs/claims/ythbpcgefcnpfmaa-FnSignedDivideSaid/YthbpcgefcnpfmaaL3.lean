/- The walks of the laws of products and quotients (chapter 3); no condition but that the code is a slice of bytes that can be read. -/
import Derived.Test.YthbpcgefcnpfmaaWP
import Derived.Test.YthbpcgefcnpfmaaDT
import Derived.Test.YthbpcgefcnpfmaaWQ
import Derived.Test.YthbpcgefcnpfmaaEq
namespace Go.Proofs.Ythbpcgefcnpfmaa
open Go.RowKit
theorem bt {a b c : World} (h : Below a.heap.size a b) (g : Below b.heap.size b c) : Below a.heap.size a c := h.trans (g.mono h.size)
theorem FnWordDivide_walk (a0 : Option Addr) (len0 cap0 : Nat) (w : World) (h0 : Code8 w a0 len0 cap0) :
    Calls Try.prog 4 #[.slice a0 len0 cap0] w fun e w' => e = .returned (.bool true) ∧ Below w.heap.size w w' := by
  have hm := h0.2.1
  have hlc := h0.1
  unfold maxLen at hm
  by_cases hbig : 1048576 < len0
  · clear h0
    go_enter Try.func4, Try.ntmps4
    go_wp2
    go_ret
    exact ⟨rfl, Below.refl _ _⟩
  have H0 := hd h0
  clear h0
  go_enter Try.func4, Try.ntmps4
  go_wp2_with fail
  refine (DrawWordDivide_any a0 len0 cap0 w H0.out).mono ?_
  rintro e w1 ⟨k, a, b, rfl, _, b1⟩
  rcases hv : dvB k a b with _ | _
  · go_wp2_with fail
    refine (implWordDivide_bad k a b hv w1).mono ?_
    rintro e w2 ⟨rfl, b2⟩
    go_wp2_with fail
    refine (specWordDivide_bad k a b hv w2).mono ?_
    rintro e w3 ⟨rfl, b3⟩
    go_wp2_with fail
    refine (alive_any w3).mono ?_
    rintro e w4 ⟨rfl, b4⟩
    go_wp2
    go_ret
    exact ⟨rfl, (bt (bt (bt b1 b2) b3) b4)⟩
  · obtain ⟨hv2, hb1⟩ := dvB_true hv
    obtain ⟨h1, h2, h3, h4, g3, g4, h5, h6⟩ := vld2_bd hv2
    have m0 := mod_lt_bd a b hb1
    obtain ⟨d1, d2⟩ := ediv_bd (x := a) (c := b) h3 hb1
    have e1 := (edm a b).symm
    obtain ⟨q0, q1⟩ := ediv_mul_bd a b h3 hb1
    go_wp2_with fail
    refine (implWordDivide_ok k a b hv w1).mono ?_
    rintro e w2 ⟨rfl, b2⟩
    go_wp2_with fail
    refine (specWordDivide_ok k a b hv w2).mono ?_
    rintro e w3 ⟨rfl, b3⟩
    go_wp2
    go_ret
    exact ⟨rfl, (bt (bt b1 b2) b3)⟩
theorem FnWideTimes_walk (a0 : Option Addr) (len0 cap0 : Nat) (w : World) (h0 : Code8 w a0 len0 cap0) :
    Calls Try.prog 5 #[.slice a0 len0 cap0] w fun e w' => e = .returned (.bool true) ∧ Below w.heap.size w w' := by
  have hm := h0.2.1
  have hlc := h0.1
  unfold maxLen at hm
  by_cases hbig : 1048576 < len0
  · clear h0
    go_enter Try.func5, Try.ntmps5
    go_wp2
    go_ret
    exact ⟨rfl, Below.refl _ _⟩
  have H0 := hd h0
  clear h0
  go_enter Try.func5, Try.ntmps5
  go_wp2_with fail
  refine (DrawWideTimes_any a0 len0 cap0 w H0.out).mono ?_
  rintro e w1 ⟨k, a, b, rfl, _, b1⟩
  rcases hv : vld2 k a b with _ | _
  · go_wp2_with fail
    refine (implWideTimes_bad k a b hv w1).mono ?_
    rintro e w2 ⟨rfl, b2⟩
    go_wp2_with fail
    refine (specWideTimes_bad k a b hv w2).mono ?_
    rintro e w3 ⟨rfl, b3⟩
    go_wp2_with fail
    refine (alive_any w3).mono ?_
    rintro e w4 ⟨rfl, b4⟩
    go_wp2
    go_ret
    exact ⟨rfl, (bt (bt (bt b1 b2) b3) b4)⟩
  · obtain ⟨h1, h2, h3, h4, g3, g4, h5, h6⟩ := vld2_bd hv
    obtain ⟨r1, r2⟩ := mul_bd (x := a) (y := b) (X := 4096) (Y := 4096) (by omega) (by omega) (by omega) (by omega)
    obtain ⟨p0, p1⟩ := prod_hi a b (pw k) h3 h4 g3 g4
    have hvh := vld_mk h1 h2 p0 p1
    have ek := shl_pw k
    have e1 := (edm (a * b) (pw k)).symm
    obtain ⟨q0, q1⟩ := ediv_mul_bd (a * b) (pw k) r1 (by omega)
    have m0 := mod_lt_bd (a * b) (pw k) (by omega)
    go_wp2_with fail
    refine (implWideTimes_ok k a b hv w1).mono ?_
    rintro e w2 ⟨rfl, b2⟩
    go_wp2_with fail
    refine (specWideTimes_ok k a b hv w2).mono ?_
    rintro e w3 ⟨rfl, b3⟩
    go_wp2_with fail
    refine (implWordTimes_ok k a b hv w3).mono ?_
    rintro e w4 ⟨rfl, b4⟩
    go_wp2_with fail
    refine (implWordValid_any k (a * b / pw k) w4).mono ?_
    rintro e w5 ⟨rfl, rfl⟩
    go_wp2
    go_ret
    exact ⟨rfl, (bt (bt (bt b1 b2) b3) b4)⟩
theorem FnHalfTimes_walk (a0 : Option Addr) (len0 cap0 : Nat) (w : World) (h0 : Code8 w a0 len0 cap0) :
    Calls Try.prog 6 #[.slice a0 len0 cap0] w fun e w' => e = .returned (.bool true) ∧ Below w.heap.size w w' := by
  have hm := h0.2.1
  have hlc := h0.1
  unfold maxLen at hm
  by_cases hbig : 1048576 < len0
  · clear h0
    go_enter Try.func6, Try.ntmps6
    go_wp2
    go_ret
    exact ⟨rfl, Below.refl _ _⟩
  have H0 := hd h0
  clear h0
  go_enter Try.func6, Try.ntmps6
  go_wp2_with fail
  refine (DrawHalfTimes_any a0 len0 cap0 w H0.out).mono ?_
  rintro e w1 ⟨k, a, b, rfl, _, b1⟩
  rcases hv : htB k a b with _ | _
  · go_wp2_with fail
    refine (implHalfTimes_bad k a b hv w1).mono ?_
    rintro e w2 ⟨rfl, b2⟩
    go_wp2_with fail
    refine (specHalfTimes_bad k a b hv w2).mono ?_
    rintro e w3 ⟨rfl, b3⟩
    go_wp2_with fail
    refine (alive_any w3).mono ?_
    rintro e w4 ⟨rfl, b4⟩
    go_wp2
    go_ret
    exact ⟨rfl, (bt (bt (bt b1 b2) b3) b4)⟩
  · go_wp2_with fail
    refine (implHalfTimes_ok k a b hv w1).mono ?_
    rintro e w2 ⟨rfl, b2⟩
    go_wp2_with fail
    refine (specHalfTimes_ok k a b hv w2).mono ?_
    rintro e w3 ⟨rfl, b3⟩
    go_wp2_with fail
    refine (implWideTimes_ok k a b (htB_true hv).1 w3).mono ?_
    rintro e w4 ⟨rfl, b4⟩
    go_wp2
    go_ret
    exact ⟨rfl, (bt (bt (bt b1 b2) b3) b4)⟩
theorem FnDivideSigns_walk (a0 : Option Addr) (len0 cap0 : Nat) (w : World) (h0 : Code8 w a0 len0 cap0) :
    Calls Try.prog 9 #[.slice a0 len0 cap0] w fun e w' => e = .returned (.bool true) ∧ Below w.heap.size w w' := by
  have hm := h0.2.1
  have hlc := h0.1
  unfold maxLen at hm
  by_cases hbig : 1048576 < len0
  · clear h0
    go_enter Try.func9, Try.ntmps9
    go_wp2
    go_ret
    exact ⟨rfl, Below.refl _ _⟩
  have H0 := hd h0
  clear h0
  go_enter Try.func9, Try.ntmps9
  go_wp2_with fail
  refine (DrawDivideSigns_any a0 len0 cap0 w H0.out).mono ?_
  rintro e w1 ⟨k, a, b, rfl, _, b1⟩
  rcases hv : dvB k a b with _ | _
  · go_wp2_with fail
    refine (implDivideSigns_bad k a b hv w1).mono ?_
    rintro e w2 ⟨rfl, b2⟩
    go_wp2_with fail
    refine (specDivideSigns_bad k a b hv w2).mono ?_
    rintro e w3 ⟨rfl, b3⟩
    go_wp2_with fail
    refine (implWordDivide_bad k a b hv w3).mono ?_
    rintro e w4 ⟨rfl, b4⟩
    go_wp2_with fail
    refine (alive_any w4).mono ?_
    rintro e w5 ⟨rfl, b5⟩
    go_wp2
    go_ret
    exact ⟨rfl, (bt (bt (bt (bt b1 b2) b3) b4) b5)⟩
  · go_wp2_with fail
    refine (implDivideSigns_ok k a b hv w1).mono ?_
    rintro e w2 ⟨rfl, b2⟩
    go_wp2_with fail
    refine (specDivideSigns_ok k a b hv w2).mono ?_
    rintro e w3 ⟨rfl, b3⟩
    go_wp2_with fail
    refine (implWordDivide_ok k a b hv w3).mono ?_
    rintro e w4 ⟨rfl, b4⟩
    go_wp2_with fail
    refine (alive_any w4).mono ?_
    rintro e w5 ⟨rfl, b5⟩
    go_wp2
    go_ret
    exact ⟨rfl, (bt (bt (bt (bt b1 b2) b3) b4) b5)⟩
end Go.Proofs.Ythbpcgefcnpfmaa
