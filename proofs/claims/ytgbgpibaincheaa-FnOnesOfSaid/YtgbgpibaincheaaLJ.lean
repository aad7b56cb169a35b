/- The walk of the law of OnesOf (chapter 5); no condition but that the codes are slices of bytes that can be read. -/
import Derived.Test.YtgbgpibaincheaaLI
namespace Go.Proofs.Ytgbgpibaincheaa
open Go.RowKit
set_option maxHeartbeats 800000 in
theorem FnOnesOf_walk (a0 : Option Addr) (len0 cap0 : Nat) (a1 : Option Addr) (len1 cap1 : Nat) (w : World) (h0 : Code8 w a0 len0 cap0) (g0 : Code8 w a1 len1 cap1) :
    Calls Try.prog 15 #[.slice a0 len0 cap0, .slice a1 len1 cap1] w fun e w' => e = .returned (.bool true) ∧ Below w.heap.size w w' := by
  have hm := h0.2.1
  have hlc := h0.1
  have gm := g0.2.1
  have glc := g0.1
  unfold maxLen at hm gm
  by_cases hbig : 1048576 < len0
  · clear h0 g0
    go_enter Try.func15, Try.ntmps15
    go_wp2
    go_ret
    exact ⟨rfl, Below.refl _ _⟩
  by_cases gbig : 1048576 < len1
  · clear h0 g0
    go_enter Try.func15, Try.ntmps15
    go_wp2
    go_ret
    exact ⟨rfl, Below.refl _ _⟩
  have H0 := hd h0
  clear h0 g0
  go_enter Try.func15, Try.ntmps15
  go_wp2_with fail
  refine (DrawOnesOf_any a0 len0 cap0 w H0.out).mono ?_
  rintro e w1 ⟨k, x, rfl, _, b1⟩
  rcases hv : vld k x with _ | _
  · go_wp2_with fail
    refine (implOnesOf_bad k x hv w1).mono ?_
    rintro e w2 ⟨rfl, rfl⟩
    go_wp2_with fail
    refine (specOnesOf_bad k x hv w1).mono ?_
    rintro e w2 ⟨rfl, rfl⟩
    go_wp2_with fail
    refine (alive_any w1).mono ?_
    rintro e w2 ⟨rfl, b2⟩
    go_wp2
    go_ret
    exact ⟨rfl, (bt b1 b2)⟩
  · obtain ⟨h1, h2, h3, h4, h5, h6⟩ := vld_4096 hv
    have hz := vld_mod k ((len1 : Int) * 73) h1 h2
    obtain ⟨_, _, z3, z4, _, _⟩ := vld_4096 hz
    obtain ⟨g1, g2, g3, g4⟩ := gr_is k x hv
    have ek := shl_pw k
    have s1 := wr ((len1 : Int) * 73) (by omega)
    have s2 := wr (pw k) (by omega)
    have s3 := Int.tmod_eq_emod_of_nonneg (b := pw k) (show 0 ≤ (len1 : Int) * 73 by omega)
    have s4 : (pw k == 0) = false := by simp; omega
    go_wp2_with fail
    refine (implOnesOf_ok k x hv w1).mono ?_
    rintro e w2 ⟨rfl, rfl⟩
    go_wp2_with fail
    refine (specOnesOf_ok k x hv w1).mono ?_
    rintro e w2 ⟨rfl, rfl⟩
    have hx := vld2_mk hv hz
    have HE := hd (popZ_xor x ((len1 : Int) * 73 % pw k) h3 z3)
    have G4 := hd g4
    have Hn := hd (vld_mk h1 h2 (show 0 ≤ pw k - 1 - x by omega) (by omega))
    have Hv1 := hd hv
    have Hv2 := hd hz
    have Hv3 := hd hx
    have Hv5 := hd (vld_xor hv hz)
    have Hv6 := hd (vld_and (b := (len1 : Int) * 73 % pw k) hv)
    have p1 := popZ_bd x
    have p2 := popZ_bd ((len1 : Int) * 73 % pw k)
    have p3 := popZ_bd (andZ x ((len1 : Int) * 73 % pw k))
    have p4 := popZ_bd (pw k - 1 - x)
    clear hv hz hx g1 g2 g3 g4
    go_wp2_with fail
    refine (implWordNot_ok k x Hv1.out w1).mono ?_
    rintro e w2 ⟨rfl, rfl⟩
    have C1 := implOnesOf_ok k (pw k - 1 - x) Hn.out w1
    rw [show popZ (pw k - 1 - x) = k - popZ x by have h0 := G4.out; omega] at C1
    go_wp2_with fail
    refine (C1).mono ?_
    rintro e w2 ⟨rfl, rfl⟩
    go_wp2_with fail
    refine (implWordXor_ok k x ((len1 : Int) * 73 % pw k) Hv3.out w1).mono ?_
    rintro e w2 ⟨rfl, b2⟩
    have C2 := implOnesOf_ok k (xorZ x ((len1 : Int) * 73 % pw k)) Hv5.out w2
    rw [HE.out] at C2
    go_wp2_with fail
    refine (C2).mono ?_
    rintro e w3 ⟨rfl, rfl⟩
    go_wp2_with fail
    refine (implOnesOf_ok k ((len1 : Int) * 73 % pw k) Hv2.out w2).mono ?_
    rintro e w3 ⟨rfl, rfl⟩
    go_wp2_with fail
    refine (implWordAnd_ok k x ((len1 : Int) * 73 % pw k) Hv3.out w2).mono ?_
    rintro e w3 ⟨rfl, b3⟩
    go_wp2_with fail
    refine (implOnesOf_ok k (andZ x ((len1 : Int) * 73 % pw k)) Hv6.out w3).mono ?_
    rintro e w4 ⟨rfl, rfl⟩
    go_wp2
    go_ret
    exact ⟨rfl, bt (bt b1 b2) b3⟩
end Go.Proofs.Ytgbgpibaincheaa
