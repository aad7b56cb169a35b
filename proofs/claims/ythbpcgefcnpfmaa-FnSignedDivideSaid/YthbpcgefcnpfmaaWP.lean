/- Contracts of HalfTimes, SignedDivide, DivideSigns and DivideSteps (chapter 3) of the program and of the reference; conditions: that the arguments are valid, or that they are not. -/
import Derived.Test.YthbpcgefcnpfmaaW3
import Derived.Test.YthbpcgefcnpfmaaOwn
namespace Go.Proofs.Ythbpcgefcnpfmaa
open Go.RowKit
/-- the arguments of HalfTimes -/
def htB (k a b : Int) : Bool := vld2 k a b && decide (k % 2 = 0)
theorem htB_true {k a b : Int} (h : htB k a b = true) : vld2 k a b = true ∧ k % 2 = 0 := by simpa [htB] using h
theorem htB_cases {k a b : Int} (h : htB k a b = false) : vld2 k a b = false ∨ (vld2 k a b = true ∧ k % 2 = 1) := by
  rcases hv : vld2 k a b with _ | _
  · exact .inl rfl
  · refine .inr ⟨rfl, ?_⟩
    have : ¬ k % 2 = 0 := by simpa [htB, hv] using h
    omega
theorem implHalfTimes_bad (k a b : Int) (h : htB k a b = false) (w : World) :
    Calls Try.prog 26 #[.int .i64 k, .int .i64 a, .int .i64 b] w fun e w' => e = .returned (.tuple #[.int .i64 (-1), .int .i64 (-1), .bool false]) ∧ Below w.heap.size w w' := by
  rcases htB_cases h with hv | ⟨hv, hk⟩
  · clear h
    go_enter Try.func26, Try.ntmps26
    go_wp2_with (go_at_call 55; refine (allValid_two k a b _ _ _ (cell_two0 _ _ _ _) (cell_two1 _ _ _ _)).mono ?_; rintro e w' ⟨rfl, rfl⟩)
    go_ret3
    exact ⟨rfl, (Below.refl _ _).alloc (Nat.le_refl _) _⟩
  · obtain ⟨h1, h2, h3, h4, g3, g4, h5, h6⟩ := vld2_bd hv
    clear h
    go_enter Try.func26, Try.ntmps26
    go_wp2_with (go_at_call 55; refine (allValid_two k a b _ _ _ (cell_two0 _ _ _ _) (cell_two1 _ _ _ _)).mono ?_; rintro e w' ⟨rfl, rfl⟩)
    go_ret3
    exact ⟨rfl, (Below.refl _ _).alloc (Nat.le_refl _) _⟩
set_option maxHeartbeats 800000 in
theorem implHalfTimes_ok (k a b : Int) (h : htB k a b = true) (w : World) :
    Calls Try.prog 26 #[.int .i64 k, .int .i64 a, .int .i64 b] w fun e w' => e = .returned (.tuple #[.int .i64 (a * b / pw k), .int .i64 (a * b % pw k), .bool true]) ∧ Below w.heap.size w w' := by
  obtain ⟨hv, hk⟩ := htB_true h
  obtain ⟨h1, h2, h3, h4, g3, g4, h5, h6⟩ := vld2_bd hv
  have hpk : pw k = pw (k / 2) * pw (k / 2) := by rw [← pw_add _ _ (by omega) (by omega)]; congr 1; omega
  have HK := hd hpk
  obtain ⟨p1, p2⟩ := pw_le12 (k / 2) (by omega)
  obtain ⟨x0, x1, y0, y1⟩ := half_bds a (pw (k / 2)) p1 h3 (by rw [← hpk]; exact h4)
  obtain ⟨z0, z1, t0, t1⟩ := half_bds b (pw (k / 2)) p1 g3 (by rw [← hpk]; exact g4)
  have HT := hd (half_prod a b (pw (k / 2)))
  obtain ⟨m1, n1⟩ := mul_bd (x := a % pw (k / 2)) (y := b % pw (k / 2)) (X := 4096) (Y := 4096) (by omega) (by omega) (by omega) (by omega)
  obtain ⟨m2, n2⟩ := mul_bd (x := a % pw (k / 2)) (y := b / pw (k / 2)) (X := 4096) (Y := 4096) (by omega) (by omega) (by omega) (by omega)
  obtain ⟨m3, n3⟩ := mul_bd (x := a / pw (k / 2)) (y := b % pw (k / 2)) (X := 4096) (Y := 4096) (by omega) (by omega) (by omega) (by omega)
  obtain ⟨m4, n4⟩ := mul_bd (x := a / pw (k / 2)) (y := b / pw (k / 2)) (X := 4096) (Y := 4096) (by omega) (by omega) (by omega) (by omega)
  obtain ⟨m5, n5⟩ := mul_bd (x := a % pw (k / 2) * (b / pw (k / 2)) + a / pw (k / 2) * (b % pw (k / 2))) (y := pw (k / 2)) (X := 33554432) (Y := 4096) (by omega) (by omega) (by omega) (by omega)
  obtain ⟨m6, n6⟩ := mul_bd (x := a / pw (k / 2) * (b / pw (k / 2))) (y := pw k) (X := 16777216) (Y := 4096) (by omega) (by omega) (by omega) (by omega)
  have ek := shl_pw k
  have eh := shl_pw (k / 2)
  have hk0 : 0 ≤ k := by omega
  have hh0 : 0 ≤ k / 2 := by omega
  clear hpk h
  go_enter Try.func26, Try.ntmps26
  go_wp2_with (go_at_call 55; refine (allValid_two k a b _ _ _ (cell_two0 _ _ _ _) (cell_two1 _ _ _ _)).mono ?_; rintro e w' ⟨rfl, rfl⟩)
  go_quiet ((go_at_call 57; exact quiet_left (cut_any _ _ (by omega) (by omega) _)))
  go_wp2
  have s1 := wr (a % pw (k / 2) * (b % pw (k / 2))) (by omega)
  have s2 := wr (a % pw (k / 2) * (b / pw (k / 2))) (by omega)
  have s3 := wr (a / pw (k / 2) * (b % pw (k / 2))) (by omega)
  have s4 := wr (a % pw (k / 2) * (b / pw (k / 2)) + a / pw (k / 2) * (b % pw (k / 2))) (by omega)
  have s5 := wr ((a % pw (k / 2) * (b / pw (k / 2)) + a / pw (k / 2) * (b % pw (k / 2))) * pw (k / 2)) (by omega)
  have s6 := wr (a % pw (k / 2) * (b % pw (k / 2)) + (a % pw (k / 2) * (b / pw (k / 2)) + a / pw (k / 2) * (b % pw (k / 2))) * pw (k / 2)) (by omega)
  have s7 := wr (a / pw (k / 2) * (b / pw (k / 2))) (by omega)
  have s8 := wr (a / pw (k / 2) * (b / pw (k / 2)) * pw k) (by omega)
  have s9 := wr (a % pw (k / 2) * (b % pw (k / 2)) + (a % pw (k / 2) * (b / pw (k / 2)) + a / pw (k / 2) * (b % pw (k / 2))) * pw (k / 2) + a / pw (k / 2) * (b / pw (k / 2)) * pw k) (by omega)
  go_quiet (fail)
  clear s1 s2 s3 s4 s5 s6 s7 s8 s9
  have htot : a % pw (k / 2) * (b % pw (k / 2)) + (a % pw (k / 2) * (b / pw (k / 2)) + a / pw (k / 2) * (b % pw (k / 2))) * pw (k / 2) + a / pw (k / 2) * (b / pw (k / 2)) * pw k = a * b := by
    have h0 := HT.out; rw [← HK.out] at h0; exact h0
  clear m1 m2 m3 m4 m5 m6 n1 n2 n3 n4 n5 n6
  go_wp2
  go_quiet ((go_at_call 57; exact quiet_add_left (cut_any _ _ (by omega) (by omega) _)))
  go_wp2
  go_ret3
  exact ⟨rfl, below_drewN (below_drewN (below_drewN ((Below.refl _ _).alloc (Nat.le_refl _) _) _) _) _⟩
set_option maxHeartbeats 800000 in
theorem implSignedDivide_ok (k a b : Int) (h : dvB k a b = true) (w : World) :
    Calls Try.prog 33 #[.int .i64 k, .int .i64 a, .int .i64 b] w fun e w' => e = .returned (.tuple #[.int .i64 ((sgZ k a).tdiv (sgZ k b) % pw k), .int .i64 ((sgZ k a).tmod (sgZ k b) % pw k), .bool true]) ∧ Below w.heap.size w w' := by
  obtain ⟨hv, hb1⟩ := dvB_true h
  obtain ⟨h1, h2, h3, h4, g3, g4, h5, h6⟩ := vld2_bd hv
  obtain ⟨va, vb⟩ := vld2_true hv
  obtain ⟨a1, a2, a3, a4, a5⟩ := sgZ_range k a va
  have hsb := sgZ_ne k b vb hb1
  have hsz : (sgZ k b == 0) = false := by simpa using hsb
  obtain ⟨d1, d2⟩ := tdiv_bd (sgZ k a) (sgZ k b) 2048 (by omega) (by omega)
  have HA := hd va
  have HB := hd vb
  have A3 := hd a3
  have hbz : (b == 0) = false := by simp; omega
  have s1 := wr ((sgZ k a).tdiv (sgZ k b)) (by omega)
  clear va vb a3 h
  go_enter Try.func33, Try.ntmps33
  go_wp2_with (first
    | (go_at_call 55; refine (allValid_two k a b _ _ _ (cell_two0 _ _ _ _) (cell_two1 _ _ _ _)).mono ?_; rintro e w' ⟨rfl, rfl⟩)
    | (go_at_call 69; refine (signed_any _ _ (by first | exact HA.out | exact HB.out) _).mono ?_; rintro e w' ⟨rfl, rfl⟩))
  go_quiet ((go_at_call 57; exact quiet_left (cut_any _ _ (by omega) (by omega) _)))
  go_wp2
  go_ret3
  exact ⟨rfl, below_drewN ((Below.refl _ _).alloc (Nat.le_refl _) _) _⟩
theorem specHalfTimes_bad (k a b : Int) (h : htB k a b = false) (w : World) :
    Calls Try.prog 27 #[.int .i64 k, .int .i64 a, .int .i64 b] w fun e w' => e = .returned (.tuple #[.int .i64 (-1), .int .i64 (-1), .bool false]) ∧ Below w.heap.size w w' := by
  rcases htB_cases h with hv | ⟨hv, hk⟩
  · clear h
    go_enter Try.func27, Try.ntmps27
    go_wp2_with (go_at_call 53; refine (l1Both_any _ _ _ _).mono ?_; rintro e w' ⟨rfl, rfl⟩)
    go_ret3
    exact ⟨rfl, Below.refl _ _⟩
  · obtain ⟨h1, h2, h3, h4, g3, g4, h5, h6⟩ := vld2_bd hv
    clear h
    go_enter Try.func27, Try.ntmps27
    go_wp2_with (go_at_call 53; refine (l1Both_any _ _ _ _).mono ?_; rintro e w' ⟨rfl, rfl⟩)
    go_ret3
    exact ⟨rfl, Below.refl _ _⟩
set_option maxHeartbeats 800000 in
theorem specHalfTimes_ok (k a b : Int) (h : htB k a b = true) (w : World) :
    Calls Try.prog 27 #[.int .i64 k, .int .i64 a, .int .i64 b] w fun e w' => e = .returned (.tuple #[.int .i64 (a * b / pw k), .int .i64 (a * b % pw k), .bool true]) ∧ Below w.heap.size w w' := by
  obtain ⟨hv, hk⟩ := htB_true h
  obtain ⟨h1, h2, h3, h4, g3, g4, h5, h6⟩ := vld2_bd hv
  have hpk : pw k = pw (k / 2) * pw (k / 2) := by rw [← pw_add _ _ (by omega) (by omega)]; congr 1; omega
  have HK := hd hpk
  obtain ⟨p1, p2⟩ := pw_le12 (k / 2) (by omega)
  obtain ⟨x0, x1, y0, y1⟩ := half_bds a (pw (k / 2)) p1 h3 (by rw [← hpk]; exact h4)
  obtain ⟨z0, z1, t0, t1⟩ := half_bds b (pw (k / 2)) p1 g3 (by rw [← hpk]; exact g4)
  have HT := hd (half_spec a b (pw (k / 2)) p1 h3 (by rw [← hpk]; exact h4) g3 (by rw [← hpk]; exact g4))
  obtain ⟨m1, n1⟩ := mul_bd (x := a % pw (k / 2)) (y := b % pw (k / 2)) (X := 4096) (Y := 4096) (by omega) (by omega) (by omega) (by omega)
  obtain ⟨m2, n2⟩ := mul_bd (x := a % pw (k / 2)) (y := b / pw (k / 2)) (X := 4096) (Y := 4096) (by omega) (by omega) (by omega) (by omega)
  obtain ⟨m3, n3⟩ := mul_bd (x := a / pw (k / 2)) (y := b % pw (k / 2)) (X := 4096) (Y := 4096) (by omega) (by omega) (by omega) (by omega)
  obtain ⟨m4, n4⟩ := mul_bd (x := a / pw (k / 2)) (y := b / pw (k / 2)) (X := 4096) (Y := 4096) (by omega) (by omega) (by omega) (by omega)
  obtain ⟨m5, n5⟩ := ediv_bd (x := a % pw (k / 2) * (b % pw (k / 2))) (c := pw (k / 2)) m1 p1
  have ek := shl_pw k
  have eh := shl_pw (k / 2)
  have hk0 : 0 ≤ k := by omega
  have hh0 : 0 ≤ k / 2 := by omega
  have hpz : (pw (k / 2) == 0) = false := by simp; omega
  clear hpk h
  go_enter Try.func27, Try.ntmps27
  go_wp2_with (go_at_call 53; refine (l1Both_any _ _ _ _).mono ?_; rintro e w' ⟨rfl, rfl⟩)
  obtain ⟨M, hM⟩ : ∃ M, a % pw (k / 2) * (b / pw (k / 2)) + a / pw (k / 2) * (b % pw (k / 2)) + a % pw (k / 2) * (b % pw (k / 2)) / pw (k / 2) = M := ⟨_, rfl⟩
  have M0 : 0 ≤ M := by omega
  have M1 : M ≤ 100000000 := by omega
  obtain ⟨d1, d2⟩ := ediv_bd (x := M) (c := pw (k / 2)) M0 p1
  obtain ⟨q1, q2⟩ := mod_lt_bd M (pw (k / 2)) p1
  obtain ⟨q3, q4⟩ := mod_lt_bd (a % pw (k / 2) * (b % pw (k / 2))) (pw (k / 2)) p1
  obtain ⟨m6, n6⟩ := mul_bd (x := M % pw (k / 2)) (y := pw (k / 2)) (X := 4096) (Y := 4096) (by omega) (by omega) (by omega) (by omega)
  have u1 := Int.tmod_eq_emod_of_nonneg (b := pw (k / 2)) M0
  have u2 := Int.tmod_eq_emod_of_nonneg (b := pw (k / 2)) m1
  have s0 := wr (pw (k / 2)) (by omega)
  have s1 := wr (a / pw (k / 2) * (b / pw (k / 2))) (by omega)
  have s2 := wr (a / pw (k / 2) * (b / pw (k / 2)) + M / pw (k / 2)) (by omega)
  have s3 := wr (M % pw (k / 2) * pw (k / 2)) (by omega)
  have s4 := wr (M % pw (k / 2) * pw (k / 2) + a % pw (k / 2) * (b % pw (k / 2)) % pw (k / 2)) (by omega)
  have HE1 := hd (show a / pw (k / 2) * (b / pw (k / 2)) + M / pw (k / 2) = a * b / pw k by rw [← hM, HK.out]; exact HT.out.1)
  have HE2 := hd (show M % pw (k / 2) * pw (k / 2) + a % pw (k / 2) * (b % pw (k / 2)) % pw (k / 2) = a * b % pw k by rw [← hM, HK.out]; exact HT.out.2)
  go_quiet (fail)
  clear s0 s1 s2 s3 s4 u1 u2
  go_wp2
  go_ret3
  exact ⟨by rw [← HE1.out, ← HE2.out]; rfl, below_drewN (Below.refl _ _) _⟩
set_option maxHeartbeats 800000 in
theorem specSignedDivide_ok (k a b : Int) (h : dvB k a b = true) (w : World) :
    Calls Try.prog 34 #[.int .i64 k, .int .i64 a, .int .i64 b] w fun e w' => e = .returned (.tuple #[.int .i64 ((sgZ k a).tdiv (sgZ k b) % pw k), .int .i64 ((sgZ k a).tmod (sgZ k b) % pw k), .bool true]) ∧ Below w.heap.size w w' := by
  obtain ⟨hv, hb1⟩ := dvB_true h
  obtain ⟨h1, h2, h3, h4, g3, g4, h5, h6⟩ := vld2_bd hv
  obtain ⟨va, vb⟩ := vld2_true hv
  obtain ⟨a1, a2, a3, a4, a5⟩ := sgZ_range k a va
  have hsb := sgZ_ne k b vb hb1
  have hsz : (sgZ k b == 0) = false := by simpa using hsb
  obtain ⟨d1, d2⟩ := tdiv_bd (sgZ k a) (sgZ k b) 2048 (by omega) (by omega)
  have HA := hd va
  have HB := hd vb
  have A3 := hd a3
  have hbz : (b == 0) = false := by simp; omega
  have s1 := wr ((sgZ k a).tdiv (sgZ k b)) (by omega)
  clear va vb a3 h
  go_enter Try.func34, Try.ntmps34
  go_wp2_with (first
    | (go_at_call 53; refine (l1Both_any _ _ _ _).mono ?_; rintro e w' ⟨rfl, rfl⟩)
    | (go_at_call 70; refine (specSignedOf_ok _ _ (by first | exact HA.out | exact HB.out) _).mono ?_; rintro e w' ⟨rfl, rfl⟩))
  go_quiet ((go_at_call 54; exact quiet_left (l1Mod_any _ _ (by omega) (by omega) _)))
  go_wp2
  go_ret3
  exact ⟨rfl, below_drewN (Below.refl _ _) _⟩
end Go.Proofs.Ythbpcgefcnpfmaa
