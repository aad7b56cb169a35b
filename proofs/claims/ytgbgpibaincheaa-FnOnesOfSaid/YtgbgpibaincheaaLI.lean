/- The walks of laws of bits over two codes (chapter 5); no condition but that the codes are slices of bytes that can be read. -/
import Derived.Test.YtgbgpibaincheaaLH
namespace Go.Proofs.Ytgbgpibaincheaa
open Go.RowKit
set_option maxHeartbeats 800000 in
theorem FnParityOf_walk (a0 : Option Addr) (len0 cap0 : Nat) (a1 : Option Addr) (len1 cap1 : Nat) (w : World) (h0 : Code8 w a0 len0 cap0) (g0 : Code8 w a1 len1 cap1) :
    Calls Try.prog 16 #[.slice a0 len0 cap0, .slice a1 len1 cap1] w fun e w' => e = .returned (.bool true) ∧ Below w.heap.size w w' := by
  have hm := h0.2.1
  have hlc := h0.1
  have gm := g0.2.1
  have glc := g0.1
  unfold maxLen at hm gm
  by_cases hbig : 1048576 < len0
  · clear h0 g0
    go_enter Try.func16, Try.ntmps16
    go_wp2
    go_ret
    exact ⟨rfl, Below.refl _ _⟩
  by_cases gbig : 1048576 < len1
  · clear h0 g0
    go_enter Try.func16, Try.ntmps16
    go_wp2
    go_ret
    exact ⟨rfl, Below.refl _ _⟩
  have H0 := hd h0
  clear h0 g0
  go_enter Try.func16, Try.ntmps16
  go_wp2_with fail
  refine (DrawParityOf_any a0 len0 cap0 w H0.out).mono ?_
  rintro e w1 ⟨k, x, rfl, _, b1⟩
  rcases hv : vld k x with _ | _
  · go_wp2_with fail
    refine (implParityOf_bad k x hv w1).mono ?_
    rintro e w2 ⟨rfl, rfl⟩
    go_wp2_with fail
    refine (specParityOf_bad k x hv w1).mono ?_
    rintro e w2 ⟨rfl, rfl⟩
    go_wp2_with fail
    refine (alive_any w1).mono ?_
    rintro e w2 ⟨rfl, b2⟩
    go_wp2
    go_ret
    exact ⟨rfl, (bt b1 b2)⟩
  · obtain ⟨h1, h2, h3, h4, h5, h6⟩ := vld_4096 hv
    have hz := vld_mod k ((len1 : Int) * 73) h1 h2
    obtain ⟨_, _, z3, z4, _, _⟩ := vld_4096 hz
    obtain ⟨g1, g2, g3, g4⟩ := gr_is k x hv
    have ek := shl_pw k
    have s1 := wr ((len1 : Int) * 73) (by omega)
    have s2 := wr (pw k) (by omega)
    have s3 := Int.tmod_eq_emod_of_nonneg (b := pw k) (show 0 ≤ (len1 : Int) * 73 by omega)
    have s4 : (pw k == 0) = false := by simp; omega
    go_wp2_with fail
    refine (implParityOf_ok k x hv w1).mono ?_
    rintro e w2 ⟨rfl, rfl⟩
    go_wp2_with fail
    refine (specParityOf_ok k x hv w1).mono ?_
    rintro e w2 ⟨rfl, rfl⟩
    have hx := vld2_mk hv hz
    have hx2 := vld2_mk hv hz
    have HE := hd (popZ_xor x ((len1 : Int) * 73 % pw k) h3 z3)
    have Hv1 := hd hv
    have Hv2 := hd hz
    have Hv3 := hd hx
    have Hv5 := hd (vld_xor hv hz)
    have p1 := popZ_bd x
    have p2 := popZ_bd ((len1 : Int) * 73 % pw k)
    clear hv hz hx hx2 g1 g2 g3 g4
    go_wp2_with fail
    refine (implOnesOf_ok k x Hv1.out w1).mono ?_
    rintro e w2 ⟨rfl, rfl⟩
    go_wp2_with fail
    refine (implWordXor_ok k x ((len1 : Int) * 73 % pw k) Hv3.out w1).mono ?_
    rintro e w2 ⟨rfl, b2⟩
    have C2 := implParityOf_ok k (xorZ x ((len1 : Int) * 73 % pw k)) Hv5.out w2
    rw [show popZ (xorZ x ((len1 : Int) * 73 % pw k)) % 2 = (popZ x % 2 + popZ ((len1 : Int) * 73 % pw k) % 2) % 2 by have h0 := HE.out; omega] at C2
    go_wp2_with fail
    refine (C2).mono ?_
    rintro e w3 ⟨rfl, rfl⟩
    go_wp2_with fail
    refine (implParityOf_ok k ((len1 : Int) * 73 % pw k) Hv2.out w2).mono ?_
    rintro e w3 ⟨rfl, rfl⟩
    go_wp2
    go_ret
    exact ⟨rfl, bt b1 b2⟩
end Go.Proofs.Ytgbgpibaincheaa
