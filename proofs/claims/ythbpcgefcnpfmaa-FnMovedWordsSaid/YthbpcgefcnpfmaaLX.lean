/- The walk of the law of moved words (chapter 3); no condition but that the code is a slice of bytes that can be read. -/
import Derived.Test.YthbpcgefcnpfmaaWJ
import Derived.Test.YthbpcgefcnpfmaaWM
import Derived.Test.YthbpcgefcnpfmaaDT
import Derived.Test.YthbpcgefcnpfmaaEq
namespace Go.Proofs.Ythbpcgefcnpfmaa
open Go.RowKit
set_option maxHeartbeats 800000 in
theorem FnMovedWords_walk (a0 : Option Addr) (len0 cap0 : Nat) (w : World) (h0 : Code8 w a0 len0 cap0) :
    Calls Try.prog 11 #[.slice a0 len0 cap0] w fun e w' => e = .returned (.bool true) ∧ Below w.heap.size w w' := by
  have hm := h0.2.1
  have hlc := h0.1
  unfold maxLen at hm
  by_cases hbig : 1048576 < len0
  · clear h0
    go_enter Try.func11, Try.ntmps11
    go_wp2
    go_ret
    exact ⟨rfl, Below.refl _ _⟩
  have H0 := hd h0
  clear h0
  go_enter Try.func11, Try.ntmps11
  go_wp2_with fail
  refine (DrawMovedWords_any a0 len0 cap0 w H0.out).mono ?_
  rintro e w1 ⟨k, a, b, rfl, _, b1⟩
  rcases hv : vld2 k a b with _ | _
  · go_wp2_with fail
    refine (implMovedWords_bad k a b hv w1).mono ?_
    rintro e w2 ⟨A, c, rfl, hown1, b2⟩
    go_wp2_with fail
    refine (specMovedWords_bad k a b hv w2).mono ?_
    rintro e w3 ⟨A', c', rfl, hown2, b3⟩
    have HO1 := hd (hown1.below b3 (Nat.le_refl _))
    have HO2 := hd hown2
    clear hown1 hown2
    go_wp2_with fail
    refine (sameInts_same [] A A' _ _ c c' w3 HO1.out HO2.out).mono ?_
    rintro e w4 ⟨rfl, n4, rfl⟩
    go_wp2_with (go_at_call 19; refine (alive_any _).mono ?_; rintro e w' ⟨rfl, b9⟩)
    go_ret
    exact ⟨rfl, btj (btj (btj b1 b2) (below_drewN b3 _)) b9⟩
  · have HR1 := hd (implMovedWords_ok k a b hv w1)
    have HR2 := hd (fun W => specMovedWords_ok k a b hv W)
    have HT := hd (fun W => implWordTimes_ok k a b hv W)
    obtain ⟨h1, h2, h3, h4, g3, g4, h5, h6⟩ := vld2_bd hv
    have hlen := mvL_len k a b k.toNat
    have hvs := mvL_vld k a b h1 h2 k.toNat
    have hsum := mv_prod k a b (vld2_true hv).2
    obtain ⟨L, hL⟩ : ∃ L, mvL k a b k.toNat = L := ⟨_, rfl⟩
    rw [hL] at HR1 HR2 hlen hvs hsum
    have HLK := hd (show (L.length : Int) = k by omega)
    have hpos : 1 ≤ L.length := by omega
    have hl12 : L.length ≤ 12 := by omega
    have HMS := hd (fun W A c B (hW : Owns W B A c L) => implManySum_ok k h1 h2 L hpos hl12 hvs A c B W hW)
    rw [hsum] at HMS
    clear hL hv hlen hvs hsum
    obtain ⟨p, hp⟩ : ∃ p, a * b % pw k = p := ⟨_, rfl⟩
    rw [hp] at HMS HT
    clear hp
    have hl0 : (L.length == 0) = false := by simp only [beq_eq_false_iff_ne, ne_eq]; omega
    have hl1 : ((L.length : Int) == 0) = false := by simp only [beq_eq_false_iff_ne, ne_eq]; omega
    have hq : ((L.length : Int) == k) = true := by simpa using HLK.out
    go_wp2_with fail
    refine (HR1.out).mono ?_
    rintro e w2 ⟨A, c, rfl, hown1, b2⟩
    go_wp2_with fail
    refine (HR2.out w2).mono ?_
    rintro e w3 ⟨A', c', rfl, hown2, b3⟩
    have HO1 := hd (hown1.below b3 (Nat.le_refl _))
    have HO2 := hd hown2
    have HB := hd (btj (btj b1 b2) b3)
    clear hown1 hown2 b1 b2 b3
    go_wp2_with fail
    refine (sameInts_same L A A' _ _ c c' w3 HO1.out HO2.out).mono ?_
    rintro e w4 ⟨rfl, n4, rfl⟩
    have HW4 := hd (below_drewN HB.out n4)
    have HO4 := hd (HO1.out.drewN (n := n4))
    generalize w3.drewN n4 = w5 at HW4 HO4 ⊢
    go_wp2_with fail
    refine (HMS.out _ _ _ _ HO4.out).mono ?_
    rintro e w6 ⟨rfl, b6⟩
    go_wp2_with fail
    refine (HT.out _).mono ?_
    rintro e w7 ⟨rfl, b7⟩
    go_wp2
    go_ret
    exact ⟨rfl, btj (btj HW4.out b6) b7⟩
end Go.Proofs.Ythbpcgefcnpfmaa
