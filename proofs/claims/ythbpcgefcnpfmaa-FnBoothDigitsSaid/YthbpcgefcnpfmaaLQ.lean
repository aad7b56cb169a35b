/- The walks of laws of digits, of products by digits and of rests bit by bit (chapter 3); no condition but that the code is a slice of bytes that can be read. -/
import Derived.Test.YthbpcgefcnpfmaaWC
import Derived.Test.YthbpcgefcnpfmaaWQ
import Derived.Test.YthbpcgefcnpfmaaDT
import Derived.Test.YthbpcgefcnpfmaaEq
namespace Go.Proofs.Ythbpcgefcnpfmaa
open Go.RowKit
theorem FnExactBoothTimes_walk (a b c : Int) (_ : (Lit.int .i64 a).wf = true) (_ : (Lit.int .i64 b).wf = true) (_ : (Lit.int .i64 c).wf = true) (w : World) :
    Calls Try.prog 3 #[.int .i64 a, .int .i64 b, .int .i64 c] w fun e w' => e = .returned (.bool true) ∧ Below w.heap.size w w' := by
  rcases hv : vld2 a b c with _ | _
  · go_enter Try.func3, Try.ntmps3
    go_wp2_with fail
    refine (specBoothTimes_bad a b c hv w).mono ?_
    rintro e w1 ⟨rfl, b1⟩
    go_wp2_with fail
    refine (implBoothTimes_bad a b c hv w1).mono ?_
    rintro e w2 ⟨rfl, b2⟩
    go_wp2
    go_ret
    exact ⟨rfl, btb b1 b2⟩
  · go_enter Try.func3, Try.ntmps3
    go_wp2_with fail
    refine (specBoothTimes_ok a b c hv w).mono ?_
    rintro e w1 ⟨rfl, b1⟩
    go_wp2_with fail
    refine (implBoothTimes_ok a b c hv w1).mono ?_
    rintro e w2 ⟨rfl, b2⟩
    go_wp2
    go_ret
    exact ⟨rfl, btb b1 b2⟩
theorem FnBoothTimes_walk (a0 : Option Addr) (len0 cap0 : Nat) (w : World) (h0 : Code8 w a0 len0 cap0) :
    Calls Try.prog 13 #[.slice a0 len0 cap0] w fun e w' => e = .returned (.bool true) ∧ Below w.heap.size w w' := by
  have hm := h0.2.1
  have hlc := h0.1
  unfold maxLen at hm
  by_cases hbig : 1048576 < len0
  · clear h0
    go_enter Try.func13, Try.ntmps13
    go_wp2
    go_ret
    exact ⟨rfl, Below.refl _ _⟩
  have H0 := hd h0
  clear h0
  go_enter Try.func13, Try.ntmps13
  go_wp2_with fail
  refine (DrawBoothTimes_any a0 len0 cap0 w H0.out).mono ?_
  rintro e w1 ⟨k, a, b, rfl, _, b1⟩
  rcases hv : vld2 k a b with _ | _
  · go_wp2_with fail
    refine (implBoothTimes_bad k a b hv w1).mono ?_
    rintro e w2 ⟨rfl, b2⟩
    go_wp2_with fail
    refine (specBoothTimes_bad k a b hv w2).mono ?_
    rintro e w3 ⟨rfl, b3⟩
    go_wp2_with fail
    refine (implWordTimes_bad k a b hv w3).mono ?_
    rintro e w4 ⟨rfl, b4⟩
    go_wp2_with (go_at_call 19; refine (alive_any _).mono ?_; rintro e w' ⟨rfl, b9⟩)
    go_ret
    exact ⟨rfl, btb (btb (btb (btb b1 b2) b3) b4) b9⟩
  · go_wp2_with fail
    refine (implBoothTimes_ok k a b hv w1).mono ?_
    rintro e w2 ⟨rfl, b2⟩
    go_wp2_with fail
    refine (specBoothTimes_ok k a b hv w2).mono ?_
    rintro e w3 ⟨rfl, b3⟩
    go_wp2_with fail
    refine (implWordTimes_ok k a b hv w3).mono ?_
    rintro e w4 ⟨rfl, b4⟩
    go_wp2_with (go_at_call 19; refine (alive_any _).mono ?_; rintro e w' ⟨rfl, b9⟩)
    go_ret
    exact ⟨rfl, btb (btb (btb (btb b1 b2) b3) b4) b9⟩
set_option maxRecDepth 20000 in
set_option maxHeartbeats 800000 in
theorem FnBoothDigits_walk (a0 : Option Addr) (len0 cap0 : Nat) (w : World) (h0 : Code8 w a0 len0 cap0) :
    Calls Try.prog 10 #[.slice a0 len0 cap0] w fun e w' => e = .returned (.bool true) ∧ Below w.heap.size w w' := by
  have hm := h0.2.1
  have hlc := h0.1
  unfold maxLen at hm
  by_cases hbig : 1048576 < len0
  · clear h0
    go_enter Try.func10, Try.ntmps10
    go_wp2
    go_ret
    exact ⟨rfl, Below.refl _ _⟩
  have H0 := hd h0
  clear h0
  go_enter Try.func10, Try.ntmps10
  go_wp2_with fail
  refine (DrawBoothDigits_any a0 len0 cap0 w H0.out).mono ?_
  rintro e w1 ⟨k, x, rfl, _, b1⟩
  rcases hv : vld k x with _ | _
  · go_wp2_with fail
    refine (implBoothDigits_bad k x hv w1).mono ?_
    rintro e w2 ⟨A, c, rfl, hown1, b2⟩
    go_wp2_with fail
    refine (specBoothDigits_bad k x hv w2).mono ?_
    rintro e w3 ⟨A', c', rfl, hown2, b3⟩
    have HO1 := hd (hown1.below b3 (Nat.le_refl _))
    have HO2 := hd hown2
    clear hown1 hown2
    go_wp2_with fail
    refine (sameInts_same [] A A' _ _ c c' w3 HO1.out HO2.out).mono ?_
    rintro e w4 ⟨rfl, n4, rfl⟩
    go_wp2_with (go_at_call 19; refine (alive_any _).mono ?_; rintro e w' ⟨rfl, b9⟩)
    go_ret
    exact ⟨rfl, btb (btb (btb b1 b2) (below_drewN b3 _)) b9⟩
  · have HR1 := hd (implBoothDigits_ok k x hv w1)
    have HR2 := hd (fun W => specBoothDigits_ok k x hv W)
    have HSG := hd (fun W => implSignedOf_ok k x hv W)
    obtain ⟨h1, h2, h3, h4, h5, h6⟩ := vld_4096 hv
    have hdg := btL_digs (sgZ k x) ((k + 1) / 2).toNat
    have hlen := btL_len (sgZ k x) ((k + 1) / 2).toNat
    have hval : dv4 (btL (sgZ k x) ((k + 1) / 2).toNat) = sgZ k x := by rw [dv4_btL, btS_word k x hv]
    obtain ⟨L, hL⟩ : ∃ L, btL (sgZ k x) ((k + 1) / 2).toNat = L := ⟨_, rfl⟩
    rw [hL] at HR1 HR2 hlen hdg hval
    have HD := hd hdg
    have HV := hd hval
    have hl7 : L.length ≤ 7 := by omega
    have HLK := hd (show (L.length : Int) = (k + 1) / 2 by omega)
    clear hL hv hdg hlen hval
    go_wp2_with fail
    refine (HR1.out).mono ?_
    rintro e w2 ⟨A, c, rfl, hown1, b2⟩
    go_wp2_with fail
    refine (HR2.out w2).mono ?_
    rintro e w3 ⟨A', c', rfl, hown2, b3⟩
    have HO1 := hd (hown1.below b3 (Nat.le_refl _))
    have HO2 := hd hown2
    have HB := hd (btb (btb b1 b2) b3)
    clear hown1 hown2 b1 b2 b3
    go_wp2_with fail
    refine (sameInts_same L A A' _ _ c c' w3 HO1.out HO2.out).mono ?_
    rintro e w4 ⟨rfl, n4, rfl⟩
    have HW4 := hd (below_drewN HB.out n4)
    obtain ⟨g, rfl, _, hg3, hc, _⟩ := HO1.out.some_ (k := 0) (by have := HLK.out; omega)
    have hpos : 1 ≤ L.length := by have := HLK.out; omega
    have hl0 : (L.length == 0) = false := by simp only [beq_eq_false_iff_ne, ne_eq]; omega
    have hl1 : ((L.length : Int) == 0) = false := by simp only [beq_eq_false_iff_ne, ne_eq]; omega
    have HCL := hd hc
    clear hc
    go_wp2
    go_loop [6, 7] (fun s q => ∃ (i : Nat) (z : Int), i ≤ L.length ∧ z = (i : Int) - 1 ∧ q = .int .i64 z ∧ s = .int .i64 (dv4 (L.drop i))) (fun _ q => (intOf q + 1).toNat)
    case atStart => exact ⟨L.length, (L.length : Int) - 1, by omega, rfl, by go_num, by simp [dv4]⟩
    case round =>
      obtain ⟨i, z, hi, hz, rfl, rfl⟩ := hrel
      by_cases h0 : i = 0
      · subst h0
        have hz1 : z = -1 := by omega
        subst hz1
        clear hz
        have e1 : dv4 (L.drop 0) = sgZ k x := HV.out
        rw [e1]
        obtain ⟨n, hn⟩ : ∃ n, sgZ k x = n := ⟨_, rfl⟩
        rw [hn] at HSG
        rw [hn]
        clear e1 hn
        have hq : ((L.length : Int) == (k + 1) / 2) = true := by simpa using HLK.out
        go_wp2_with (go_at_call 35; refine (HSG.out _).mono ?_; rintro e w' ⟨rfl, rfl⟩)
        go_ret
        exact ⟨rfl, HW4.out⟩
      · obtain ⟨j, rfl⟩ : ∃ j, i = j + 1 := ⟨i - 1, by omega⟩
        have hz2 : z = (j : Int) := by omega
        subst hz2
        clear hz
        have hck : (w3.drewN n4).cell? ⟨g, j, none⟩ = some (.int .i64 L[j]) := HCL.out j (by omega)
        have hb := drop4_bd HD.out hl7 (j + 1)
        have HS1 := hd (drop4_val (L := L) (i := j) (by omega))
        obtain ⟨d1, d2⟩ := HD.out _ (List.getElem_mem (show j < L.length by omega))
        obtain ⟨V, hV⟩ : ∃ V, dv4 (L.drop (j + 1)) = V := ⟨_, rfl⟩
        rw [hV] at hb HS1 ⊢
        obtain ⟨d, hdd⟩ : ∃ d, L[j] = d := ⟨_, rfl⟩
        rw [hdd] at hck HS1 d1 d2
        clear hV hdd
        go_wp2
        go_round
        case rel => exact ⟨j, _, by omega, rfl, by go_num, by rw [HS1.out, Int.add_comm]⟩
        case measure => simp [intOf]; try omega
end Go.Proofs.Ythbpcgefcnpfmaa
