/- The walk of the law of SignedDivide (chapter 3); no condition but that the code is a slice of bytes that can be read. -/
import Derived.Test.YthbpcgefcnpfmaaL3
namespace Go.Proofs.Ythbpcgefcnpfmaa
open Go.RowKit
theorem maxabs_lt {n m : Int} (h : (n.natAbs : Int) < m.natAbs) : (if n ≤ -n then -n else n) < (if m ≤ -m then -m else m) := by
  split <;> split <;> omega
/-- what the law asks of the quotient and of the rest, in plain numbers -/
theorem sdiv_law (k a b : Int) (va : vld k a = true) (vb : vld k b = true) (hb : sgZ k b ≠ 0) :
    sgZ k ((sgZ k a).tmod (sgZ k b) % pw k) = (sgZ k a).tmod (sgZ k b) ∧
    ((sgZ k a).tdiv (sgZ k b) % pw k * b % pw k + (sgZ k a).tmod (sgZ k b) % pw k) % pw k = a := by
  obtain ⟨h1, h2, h3, h4, h5, h6⟩ := vld_4096 va
  obtain ⟨a1, a2, a3, a4, a5⟩ := sgZ_range k a va
  obtain ⟨b1, b2, _, _, _⟩ := sgZ_range k b vb
  obtain ⟨t1, t2, t3⟩ := tmod_bd (sgZ k a) (sgZ k b) hb
  constructor
  · refine sgZ_word k _ h1 h2 ?_ ?_
    · omega
    · omega
  · have e1 := sgZ_mod k b
    have e2 := sgZ_mod k a
    have e3 := tdm (sgZ k a) (sgZ k b)
    have e4 : a % pw k = a := Int.emod_eq_of_lt h3 h4
    calc ((sgZ k a).tdiv (sgZ k b) % pw k * b % pw k + (sgZ k a).tmod (sgZ k b) % pw k) % pw k
        = ((sgZ k a).tdiv (sgZ k b) * b + (sgZ k a).tmod (sgZ k b)) % pw k := by
          rw [Int.mul_emod ((sgZ k a).tdiv (sgZ k b) % pw k) b, Int.emod_emod, ← Int.mul_emod, ← Int.add_emod]
      _ = ((sgZ k a).tdiv (sgZ k b) * sgZ k b + (sgZ k a).tmod (sgZ k b)) % pw k := by
          rw [Int.add_emod, Int.mul_emod _ b, ← e1, ← Int.mul_emod, ← Int.add_emod]
      _ = a := by rw [e3, e2, e4]
set_option maxHeartbeats 2000000 in
theorem FnSignedDivide_walk (a0 : Option Addr) (len0 cap0 : Nat) (w : World) (h0 : Code8 w a0 len0 cap0) :
    Calls Try.prog 8 #[.slice a0 len0 cap0] w fun e w' => e = .returned (.bool true) ∧ Below w.heap.size w w' := by
  have hm := h0.2.1
  have hlc := h0.1
  unfold maxLen at hm
  by_cases hbig : 1048576 < len0
  · clear h0
    go_enter Try.func8, Try.ntmps8
    go_wp2
    go_ret
    exact ⟨rfl, Below.refl _ _⟩
  have H0 := hd h0
  clear h0
  go_enter Try.func8, Try.ntmps8
  go_wp2_with fail
  refine (DrawSignedDivide_any a0 len0 cap0 w H0.out).mono ?_
  rintro e w1 ⟨k, a, b, rfl, _, b1⟩
  rcases hv : dvB k a b with _ | _
  · go_wp2_with fail
    refine (implSignedDivide_bad k a b hv w1).mono ?_
    rintro e w2 ⟨rfl, b2⟩
    go_wp2_with fail
    refine (specSignedDivide_bad k a b hv w2).mono ?_
    rintro e w3 ⟨rfl, b3⟩
    go_wp2_with fail
    refine (alive_any w3).mono ?_
    rintro e w4 ⟨rfl, b4⟩
    go_wp2
    go_ret
    exact ⟨rfl, (bt (bt (bt b1 b2) b3) b4)⟩
  · obtain ⟨hv2, hb1⟩ := dvB_true hv
    obtain ⟨h1, h2, h3, h4, g3, g4, h5, h6⟩ := vld2_bd hv2
    obtain ⟨va, vb⟩ := vld2_true hv2
    have hsb := sgZ_ne k b vb hb1
    obtain ⟨l1, l2⟩ := sdiv_law k a b va vb hsb
    obtain ⟨a1, a2, a3, a4, a5⟩ := sgZ_range k a va
    obtain ⟨c1, c2, _, _, _⟩ := sgZ_range k b vb
    obtain ⟨t1, t2, t3⟩ := tmod_bd (sgZ k a) (sgZ k b) hsb
    have hvq := vld_mod k ((sgZ k a).tdiv (sgZ k b)) h1 h2
    have hvr := vld_mod k ((sgZ k a).tmod (sgZ k b)) h1 h2
    obtain ⟨Q, hQ⟩ : ∃ Q, (sgZ k a).tdiv (sgZ k b) % pw k = Q := ⟨_, rfl⟩
    obtain ⟨R, hR⟩ : ∃ R, (sgZ k a).tmod (sgZ k b) % pw k = R := ⟨_, rfl⟩
    have I1 := implSignedDivide_ok k a b hv w1
    have S1 := fun w2 => specSignedDivide_ok k a b hv w2
    rw [hQ, hR] at I1
    simp only [hQ, hR] at S1
    rw [hQ, hR] at l2
    rw [hR] at l1 hvr
    rw [hQ] at hvq
    clear hQ hR
    obtain ⟨T, hT⟩ : ∃ T, (sgZ k a).tmod (sgZ k b) = T := ⟨_, rfl⟩
    obtain ⟨S, hS⟩ : ∃ S, sgZ k a = S := ⟨_, rfl⟩
    obtain ⟨M, hM⟩ : ∃ M, sgZ k b = M := ⟨_, rfl⟩
    have N1 := fun w => implSignedOf_ok k R hvr w
    have N2 := fun w => implSignedOf_ok k b vb w
    have N3 := fun w => implSignedOf_ok k a va w
    have T1 := fun w => implWordTimes_ok k Q b (show vld2 k Q b = true by unfold vld2; rw [hvq, vb]; rfl) w
    have A1 := fun w => implWordAdd_ok k (Q * b % pw k) R (show vld2 k (Q * b % pw k) R = true by unfold vld2; rw [vld_mod k _ h1 h2, hvr]; rfl) w
    simp only [l1, l2, hT] at N1 A1
    simp only [hM] at N2
    simp only [hS] at N3
    rw [hT, hM] at t3
    rw [hT, hS] at t1 t2
    rw [hS] at a1 a2
    rw [hM] at c1 c2 hsb
    clear hT hS hM hv l1 l2 hvq hvr va vb hv2
    have I := hd I1
    have SS := hd S1
    have N1 := hd N1
    have N2 := hd N2
    have N3 := hd N3
    have T1 := hd T1
    have A1 := hd A1
    have HT1 := hd t1
    have HT2 := hd t2
    have HT3 := hd t3
    have hm1 := maxabs_lt t3
    have tb : -2048 ≤ T ∧ T ≤ 2048 := by omega
    have mb : -2048 ≤ M ∧ M ≤ 2048 := by omega
    have s1 := wr (-T) (by omega)
    have s2 := wr (-M) (by omega)
    have HMX := hd hm1
    have HA5 := hd a4
    clear t1 t2 t3 hm1 c1 c2 a1 a2 a3 a4 a5 hb1
    have HS := hd hsb
    clear hsb
    obtain ⟨P, hP⟩ : ∃ P, pw k = P := ⟨_, rfl⟩
    rw [hP] at T1 A1 h4 g4 h5 h6
    clear hP
    go_wp2_with fail
    refine I.out.mono ?_
    rintro e w2 ⟨rfl, b2⟩
    go_wp2_with fail
    refine (SS.out w2).mono ?_
    rintro e w3 ⟨rfl, b3⟩
    go_wp2_with fail
    refine (N1.out w3).mono ?_
    rintro e w4 ⟨rfl, rfl⟩
    go_wp2_with fail
    refine (N2.out w3).mono ?_
    rintro e w4 ⟨rfl, rfl⟩
    go_wp2_with fail
    refine (T1.out w3).mono ?_
    rintro e w4 ⟨rfl, b4⟩
    go_wp2_with fail
    refine (A1.out w4).mono ?_
    rintro e w5 ⟨rfl, b5⟩
    have t3 := HT3.out
    have t1 := HT1.out
    have t2 := HT2.out
    have hs := HS.out
    rcases (show T < 0 ∨ T = 0 ∨ 0 < T by omega) with hT | hT | hT
    · have hS : S < 0 := by omega
      rcases (show M < 0 ∨ 0 < M by omega) with hM | hM
      · have hTM : M < T := by omega
        clear t1 t2 t3 hs HT1 HT2 HT3 HS
        go_wp2_with (go_at_call 35; refine (N3.out _).mono ?_; rintro e w' ⟨rfl, rfl⟩)
        all_goals go_ret
        all_goals exact ⟨rfl, bt (bt (bt (bt b1 b2) b3) b4) b5⟩
      · have hTM : -T < M := by omega
        clear t1 t2 t3 hs HT1 HT2 HT3 HS
        go_wp2_with (go_at_call 35; refine (N3.out _).mono ?_; rintro e w' ⟨rfl, rfl⟩)
        all_goals go_ret
        all_goals exact ⟨rfl, bt (bt (bt (bt b1 b2) b3) b4) b5⟩
    · subst hT
      rcases (show M < 0 ∨ 0 < M by omega) with hM | hM
      · clear t1 t2 t3 hs HT1 HT2 HT3 HS
        go_wp2_with (go_at_call 35; refine (N3.out _).mono ?_; rintro e w' ⟨rfl, rfl⟩)
        all_goals go_ret
        all_goals exact ⟨rfl, bt (bt (bt (bt b1 b2) b3) b4) b5⟩
      · clear t1 t2 t3 hs HT1 HT2 HT3 HS
        go_wp2_with (go_at_call 35; refine (N3.out _).mono ?_; rintro e w' ⟨rfl, rfl⟩)
        all_goals go_ret
        all_goals exact ⟨rfl, bt (bt (bt (bt b1 b2) b3) b4) b5⟩
    · have hS : 0 < S := by omega
      have hd1 : (T == 0 || decide (T < 0) == decide (S < 0)) = true := by
        have e1 : decide (T < 0) = false := by rw [decide_eq_false_iff_not]; omega
        have e2 : decide (S < 0) = false := by rw [decide_eq_false_iff_not]; omega
        rw [e1, e2]; simp
      rcases (show M < 0 ∨ 0 < M by omega) with hM | hM
      · have hTM : T < -M := by omega
        clear t1 t2 t3 hs HT1 HT2 HT3 HS
        go_wp2_with (go_at_call 35; refine (N3.out _).mono ?_; rintro e w' ⟨rfl, rfl⟩)
        all_goals go_ret
        all_goals first
          | exact ⟨rfl, bt (bt (bt (bt b1 b2) b3) b4) b5⟩
          | exact ⟨ret_b hd1, bt (bt (bt (bt b1 b2) b3) b4) b5⟩
      · have hTM : T < M := by omega
        clear t1 t2 t3 hs HT1 HT2 HT3 HS
        go_wp2_with (go_at_call 35; refine (N3.out _).mono ?_; rintro e w' ⟨rfl, rfl⟩)
        all_goals go_ret
        all_goals first
          | exact ⟨rfl, bt (bt (bt (bt b1 b2) b3) b4) b5⟩
          | exact ⟨ret_b hd1, bt (bt (bt (bt b1 b2) b3) b4) b5⟩
end Go.Proofs.Ythbpcgefcnpfmaa
