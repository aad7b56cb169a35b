/- The walk of the law of SignedHigh (chapter 3); no condition but that the code is a slice of bytes that can be read. -/
import Derived.Test.YthbpcgefcnpfmaaL3
namespace Go.Proofs.Ythbpcgefcnpfmaa
open Go.RowKit
set_option maxHeartbeats 800000 in
theorem FnSignedHigh_walk (a0 : Option Addr) (len0 cap0 : Nat) (w : World) (h0 : Code8 w a0 len0 cap0) :
    Calls Try.prog 7 #[.slice a0 len0 cap0] w fun e w' => e = .returned (.bool true) ∧ Below w.heap.size w w' := by
  have hm := h0.2.1
  have hlc := h0.1
  unfold maxLen at hm
  by_cases hbig : 1048576 < len0
  · clear h0
    go_enter Try.func7, Try.ntmps7
    go_wp2
    go_ret
    exact ⟨rfl, Below.refl _ _⟩
  have H0 := hd h0
  clear h0
  go_enter Try.func7, Try.ntmps7
  go_wp2_with fail
  refine (DrawSignedHigh_any a0 len0 cap0 w H0.out).mono ?_
  rintro e w1 ⟨k, a, b, rfl, _, b1⟩
  rcases hv : vld2 k a b with _ | _
  · go_wp2_with fail
    refine (implSignedHigh_bad k a b hv w1).mono ?_
    rintro e w2 ⟨rfl, b2⟩
    go_wp2_with fail
    refine (specSignedHigh_bad k a b hv w2).mono ?_
    rintro e w3 ⟨rfl, b3⟩
    go_wp2_with fail
    refine (alive_any w3).mono ?_
    rintro e w4 ⟨rfl, b4⟩
    go_wp2
    go_ret
    exact ⟨rfl, (bt (bt (bt b1 b2) b3) b4)⟩
  · obtain ⟨h1, h2, h3, h4, g3, g4, h5, h6⟩ := vld2_bd hv
    obtain ⟨va, vb⟩ := vld2_true hv
    obtain ⟨p0, p1⟩ := prod_hi a b (pw k) h3 h4 g3 g4
    have hvh := vld_mk h1 h2 p0 p1
    have hx0 := shZ_nonneg k a b
    have HM := hd (signed_high (pw k) a b (bitZ a (k - 1)) (bitZ b (k - 1)) (by omega))
    have et : (2 : Int) ^ (k.toNat - 1) = pw (k - 1) := by unfold pw; congr 1; omega
    have hq := pw_pos (k - 1)
    have hq2 := pw_le12 (k - 1) (by omega)
    have hvh2 : vld2 k (a * b / pw k) b = true := by unfold vld2; rw [hvh, vb]; rfl
    have hvh3 : vld2 k (a * b / pw k) a = true := by unfold vld2; rw [hvh, va]; rfl
    have hvh4 : vld2 k ((a * b / pw k - b) % pw k) a = true := by unfold vld2; rw [vld_mod k _ h1 h2, va]; rfl
    have Ha := hd (top_bit k a va)
    have Hb := hd (top_bit k b vb)
    have HV := hd hvh2
    have HV3 := hd hvh3
    have HV4 := hd hvh4
    have Hhi := hd (Int.emod_eq_of_lt p0 p1)
    clear hvh hvh2 hvh3 hvh4 va vb
    by_cases hca : pw (k - 1) ≤ a
    · have ta : bitZ a (k - 1) = 1 := by have h0 := Ha.out; omega
      by_cases hcb : pw (k - 1) ≤ b
      · have tb : bitZ b (k - 1) = 1 := by have h0 := Hb.out; omega
        have HX : shZ k a b = ((a * b / pw k - b) % pw k - a) % pw k := by
          have h0 := HM.out
          unfold shZ sgZ
          rw [h0, ta, tb]
          simp only [Int.one_mul]
          rw [Int.emod_sub_emod]
        have hxe := hd HX
        clear ta tb
        obtain ⟨S, hS⟩ : ∃ S, shZ k a b = S := ⟨_, rfl⟩
        rw [hS] at hx0 HX
        have hS2 : ((a * b / pw k - b) % pw k - a) % pw k = S := HX.symm
        clear HX hxe
        go_wp2_with fail
        refine (implSignedHigh_ok k a b hv w1).mono ?_
        rintro e w2 ⟨rfl, b2⟩
        go_wp2_with fail
        refine (specSignedHigh_ok k a b hv w2).mono ?_
        rintro e w3 ⟨rfl, b3⟩
        go_wp2_with fail
        refine (implWideTimes_ok k a b hv w3).mono ?_
        rintro e w4 ⟨rfl, b4⟩
        go_wp2_with fail
        refine (implWordSub_ok k _ b HV.out w4).mono ?_
        rintro e w5 ⟨rfl, b5⟩
        go_wp2_with fail
        refine (implWordSub_ok k _ a HV4.out w5).mono ?_
        rintro e w6 ⟨rfl, b6⟩
        go_wp2
        go_ret
        exact ⟨rfl, (bt (bt (bt (bt (bt b1 b2) b3) b4) b5) b6)⟩
      · have tb : bitZ b (k - 1) = 0 := by have h0 := Hb.out; omega
        have HX : shZ k a b = (a * b / pw k - b) % pw k := by
          have h0 := HM.out
          unfold shZ sgZ
          rw [h0, ta, tb]
          simp only [Int.one_mul, Int.zero_mul, Int.sub_zero]
          skip
        have hxe := hd HX
        clear ta tb
        obtain ⟨S, hS⟩ : ∃ S, shZ k a b = S := ⟨_, rfl⟩
        rw [hS] at hx0 HX
        have hS2 : (a * b / pw k - b) % pw k = S := HX.symm
        clear HX hxe
        go_wp2_with fail
        refine (implSignedHigh_ok k a b hv w1).mono ?_
        rintro e w2 ⟨rfl, b2⟩
        go_wp2_with fail
        refine (specSignedHigh_ok k a b hv w2).mono ?_
        rintro e w3 ⟨rfl, b3⟩
        go_wp2_with fail
        refine (implWideTimes_ok k a b hv w3).mono ?_
        rintro e w4 ⟨rfl, b4⟩
        go_wp2_with fail
        refine (implWordSub_ok k _ b HV.out w4).mono ?_
        rintro e w5 ⟨rfl, b5⟩
        go_wp2
        go_ret
        exact ⟨rfl, (bt (bt (bt (bt b1 b2) b3) b4) b5)⟩
    · have ta : bitZ a (k - 1) = 0 := by have h0 := Ha.out; omega
      by_cases hcb : pw (k - 1) ≤ b
      · have tb : bitZ b (k - 1) = 1 := by have h0 := Hb.out; omega
        have HX : shZ k a b = (a * b / pw k - a) % pw k := by
          have h0 := HM.out
          unfold shZ sgZ
          rw [h0, ta, tb]
          simp only [Int.one_mul, Int.zero_mul, Int.sub_zero]
          skip
        have hxe := hd HX
        clear ta tb
        obtain ⟨S, hS⟩ : ∃ S, shZ k a b = S := ⟨_, rfl⟩
        rw [hS] at hx0 HX
        have hS2 : (a * b / pw k - a) % pw k = S := HX.symm
        clear HX hxe
        go_wp2_with fail
        refine (implSignedHigh_ok k a b hv w1).mono ?_
        rintro e w2 ⟨rfl, b2⟩
        go_wp2_with fail
        refine (specSignedHigh_ok k a b hv w2).mono ?_
        rintro e w3 ⟨rfl, b3⟩
        go_wp2_with fail
        refine (implWideTimes_ok k a b hv w3).mono ?_
        rintro e w4 ⟨rfl, b4⟩
        go_wp2_with fail
        refine (implWordSub_ok k _ a HV3.out w4).mono ?_
        rintro e w5 ⟨rfl, b5⟩
        go_wp2
        go_ret
        exact ⟨rfl, (bt (bt (bt (bt b1 b2) b3) b4) b5)⟩
      · have tb : bitZ b (k - 1) = 0 := by have h0 := Hb.out; omega
        have HX : shZ k a b = a * b / pw k := by
          have h0 := HM.out
          unfold shZ sgZ
          rw [h0, ta, tb]
          simp only [Int.zero_mul, Int.sub_zero]
          exact Hhi.out
        have hxe := hd HX
        clear ta tb
        obtain ⟨S, hS⟩ : ∃ S, shZ k a b = S := ⟨_, rfl⟩
        rw [hS] at hx0 HX
        have hS2 : a * b / pw k = S := HX.symm
        clear HX hxe
        go_wp2_with fail
        refine (implSignedHigh_ok k a b hv w1).mono ?_
        rintro e w2 ⟨rfl, b2⟩
        go_wp2_with fail
        refine (specSignedHigh_ok k a b hv w2).mono ?_
        rintro e w3 ⟨rfl, b3⟩
        go_wp2_with fail
        refine (implWideTimes_ok k a b hv w3).mono ?_
        rintro e w4 ⟨rfl, b4⟩
        go_wp2
        go_ret
        exact ⟨rfl, (bt (bt (bt b1 b2) b3) b4)⟩
end Go.Proofs.Ythbpcgefcnpfmaa
