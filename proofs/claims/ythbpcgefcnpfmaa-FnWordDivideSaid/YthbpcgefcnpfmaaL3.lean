/- The walks of the laws of products and quotients (chapter 3); no condition but that the code is a slice of bytes that can be read. -/
import Derived.Test.YthbpcgefcnpfmaaW3
import Derived.Test.YthbpcgefcnpfmaaDT
namespace Go.Proofs.Ythbpcgefcnpfmaa
open Go.RowKit
theorem FnWordDivide_walk (a0 : Option Addr) (len0 cap0 : Nat) (w : World) (h0 : Code8 w a0 len0 cap0) :
    Calls Try.prog 4 #[.slice a0 len0 cap0] w fun e w' => e = .returned (.bool true) ∧ Below w.heap.size w w' := by
  have hm := h0.2.1
  have hlc := h0.1
  unfold maxLen at hm
  by_cases hbig : 1048576 < len0
  · clear h0
    go_enter Try.func4, Try.ntmps4
    go_wp2
    go_ret
    exact ⟨rfl, Below.refl _ _⟩
  have H0 := hd h0
  clear h0
  go_enter Try.func4, Try.ntmps4
  go_wp2_with fail
  refine (DrawWordDivide_any a0 len0 cap0 w H0.out).mono ?_
  rintro e w1 ⟨k, a, b, rfl, _, b1⟩
  rcases hv : dvB k a b with _ | _
  · go_wp2_with fail
    refine (implWordDivide_bad k a b hv w1).mono ?_
    rintro e w2 ⟨rfl, b2⟩
    go_wp2_with fail
    refine (specWordDivide_bad k a b hv w2).mono ?_
    rintro e w3 ⟨rfl, b3⟩
    go_wp2_with fail
    refine (alive_any w3).mono ?_
    rintro e w4 ⟨rfl, b4⟩
    go_wp2
    go_ret
    exact ⟨rfl, ((b1.trans (b2.mono b1.size)).trans (b3.mono (Nat.le_trans b1.size b2.size))).trans (b4.mono (Nat.le_trans b1.size (Nat.le_trans b2.size b3.size)))⟩
  · obtain ⟨hv2, hb1⟩ := dvB_true hv
    obtain ⟨h1, h2, h3, h4, g3, g4, h5, h6⟩ := vld2_bd hv2
    have m0 := mod_lt_bd a b hb1
    obtain ⟨d1, d2⟩ := ediv_bd (x := a) (c := b) h3 hb1
    have e1 := (edm a b).symm
    obtain ⟨q0, q1⟩ := ediv_mul_bd a b h3 hb1
    go_wp2_with fail
    refine (implWordDivide_ok k a b hv w1).mono ?_
    rintro e w2 ⟨rfl, b2⟩
    go_wp2_with fail
    refine (specWordDivide_ok k a b hv w2).mono ?_
    rintro e w3 ⟨rfl, b3⟩
    go_wp2
    go_ret
    exact ⟨rfl, (b1.trans (b2.mono b1.size)).trans (b3.mono (Nat.le_trans b1.size b2.size))⟩
end Go.Proofs.Ythbpcgefcnpfmaa
