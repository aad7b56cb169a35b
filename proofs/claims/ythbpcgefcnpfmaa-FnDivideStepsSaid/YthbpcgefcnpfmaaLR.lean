/- The walk of the law of rests bit by bit (chapter 3); no condition but that the code is a slice of bytes that can be read. -/
import Derived.Test.YthbpcgefcnpfmaaWR
import Derived.Test.YthbpcgefcnpfmaaMathU
import Derived.Test.YthbpcgefcnpfmaaWQ
import Derived.Test.YthbpcgefcnpfmaaDT
import Derived.Test.YthbpcgefcnpfmaaEq
import Derived.BigQuiet
namespace Go.Proofs.Ythbpcgefcnpfmaa
open Go.RowKit
set_option maxHeartbeats 800000 in
theorem FnDivideSteps_walk (a0 : Option Addr) (len0 cap0 : Nat) (w : World) (h0 : Code8 w a0 len0 cap0) :
    Calls Try.prog 12 #[.slice a0 len0 cap0] w fun e w' => e = .returned (.bool true) ∧ Below w.heap.size w w' := by
  have hm := h0.2.1
  have hlc := h0.1
  unfold maxLen at hm
  by_cases hbig : 1048576 < len0
  · clear h0
    go_enter Try.func12, Try.ntmps12
    go_wp2
    go_ret
    exact ⟨rfl, Below.refl _ _⟩
  have H0 := hd h0
  clear h0
  go_enter Try.func12, Try.ntmps12
  go_wp2_with fail
  refine (DrawDivideSteps_any a0 len0 cap0 w H0.out).mono ?_
  rintro e w1 ⟨k, a, b, rfl, ⟨⟨hk0, hk1⟩, _, _⟩, b1⟩
  rcases hv : dvB k a b with _ | _
  · go_wp2_with fail
    refine (implDivideSteps_bad k a b hv w1).mono ?_
    rintro e w2 ⟨A, c, rfl, hown1, b2⟩
    go_wp2_with fail
    refine (specDivideSteps_bad k a b hk0 hk1 hv w2).mono ?_
    rintro e w3 ⟨A', c', rfl, hown2, b3⟩
    have HO1 := hd (hown1.below b3 (Nat.le_refl _))
    have HO2 := hd hown2
    clear hown1 hown2
    go_wp2_with fail
    refine (sameInts_same [] A A' _ _ c c' w3 HO1.out HO2.out).mono ?_
    rintro e w4 ⟨rfl, n4, rfl⟩
    go_wp2_with (go_at_call 19; refine (alive_any _).mono ?_; rintro e w' ⟨rfl, b9⟩)
    go_ret
    exact ⟨rfl, btb (btb (btb b1 b2) (below_drewN b3 _)) b9⟩
  · have HR1 := hd (implDivideSteps_ok k a b hv w1)
    have HR2 := hd (fun W => specDivideSteps_ok k a b hv W)
    obtain ⟨hv2, hb1⟩ := dvB_true hv
    obtain ⟨h1, h2, h3, h4, g3, g4, h5, h6⟩ := vld2_bd hv2
    have HVA := hd (vld2_true hv2).1
    have HVB := hd (vld2_true hv2).2
    have hlen := dsF_len a b k.toNat
    have hget := dsF_get a b k.toNat
    obtain ⟨L, hL⟩ : ∃ L, dsF a b k.toNat = L := ⟨_, rfl⟩
    rw [hL] at HR1 HR2 hlen hget
    have HG := hd hget
    have HLK := hd (show (L.length : Int) = k by omega)
    clear hL hv hv2 hget hlen
    go_wp2_with fail
    refine (HR1.out).mono ?_
    rintro e w2 ⟨A, c, rfl, hown1, b2⟩
    go_wp2_with fail
    refine (HR2.out w2).mono ?_
    rintro e w3 ⟨A', c', rfl, hown2, b3⟩
    have HO1 := hd (hown1.below b3 (Nat.le_refl _))
    have HO2 := hd hown2
    have HB := hd (btb (btb b1 b2) b3)
    clear hown1 hown2 b1 b2 b3
    go_wp2_with fail
    refine (sameInts_same L A A' _ _ c c' w3 HO1.out HO2.out).mono ?_
    rintro e w4 ⟨rfl, n4, rfl⟩
    have HW4 := hd (below_drewN HB.out n4)
    obtain ⟨g, rfl, _, hg3, hc, _⟩ := HO1.out.some_ (k := 0) (by have := HLK.out; omega)
    have hpos : 1 ≤ L.length := by have := HLK.out; omega
    have hl0 : (L.length == 0) = false := by simp only [beq_eq_false_iff_ne, ne_eq]; omega
    have hl1 : ((L.length : Int) == 0) = false := by simp only [beq_eq_false_iff_ne, ne_eq]; omega
    have HCL := hd hc
    clear hc
    go_wp2
    go_loopw [7] (fun i wr => ∃ j : Nat, j ≤ L.length ∧ i = .int .i64 j ∧ Below w3.heap.size (w3.drewN n4) wr) (fun i _ => L.length - (intOf i).toNat)
    case atStart => exact ⟨0, by omega, rfl, Below.refl _ _⟩
    case round =>
      obtain ⟨j, hj, rfl, hb⟩ := hrel
      by_cases hlt : j < L.length
      · have hjk : (j : Int) < k := by have := HLK.out; omega
        have hcj : wr.cell? ⟨g, j, none⟩ = some (.int .i64 L[j]) := (hb.cell hg3).trans (HCL.out j hlt)
        have hgj := HG.out j hlt
        rw [show ((k.toNat : Nat) : Int) - 1 - j = k - 1 - j by omega] at hgj
        rw [hgj] at hcj
        clear hgj
        obtain ⟨c1, c2⟩ := ediv_bd (x := a) (c := pw (k - 1 - j)) h3 (pw_pos _)
        have HQ := hd (show dvB k (a / pw (k - 1 - j)) b = true by simp [dvB, vld2, HVB.out, vld_mk h1 h2 c1 (show a / pw (k - 1 - j) < pw k by omega)]; omega)
        have HWR := hd (fun W => implWordRight_ok k a (k - 1 - j) HVA.out (by omega) (by omega) W)
        obtain ⟨X, hX⟩ : ∃ X, a / pw (k - 1 - j) = X := ⟨_, rfl⟩
        rw [hX] at hcj HQ HWR
        clear hX c1 c2
        go_wp2_with (first
          | (go_at_call 51; refine (HWR.out _).mono ?_; rintro e w5 ⟨rfl, b5⟩)
          | (go_at_call 17; refine (implWordDivide_ok k X b HQ.out _).mono ?_; rintro e w6 ⟨rfl, b6⟩; have hcj6 : w6.cell? ⟨g, j, none⟩ = some (.int .i64 (X % b)) := ((b6.cell (Nat.lt_of_lt_of_le hg3 (Nat.le_trans hb.size b5.size))).trans (b5.cell (Nat.lt_of_lt_of_le hg3 hb.size))).trans hcj; have HB6 := hd (hb.trans ((btb b5 b6).mono hb.size)); clear hb b5 b6 hcj))
        go_roundw
        case rel => exact ⟨j + 1, by omega, by go_num, HB6.out⟩
        case measure => simp [intOf]; omega
      · have HB3 := hd hb
        clear hb
        have hq : ((L.length : Int) == k) = true := by simpa using HLK.out
        go_wp2
        go_ret
        exact ⟨rfl, btb HW4.out HB3.out⟩
end Go.Proofs.Ythbpcgefcnpfmaa
