/- Contracts of the products and quotients (chapter 3) of the program and of the reference; conditions: that the arguments are valid, or that they are not. -/
import Derived.Test.YthbpcgefcnpfmaaW2
import Derived.Test.YthbpcgefcnpfmaaMathP
import Derived.Deep.RegionWith
namespace Go.Proofs.Ythbpcgefcnpfmaa
open Go.RowKit
def dvB (k a b : Int) : Bool := vld2 k a b && decide (b ≠ 0)
theorem dvB_true {k a b : Int} (h : dvB k a b = true) : vld2 k a b = true ∧ 1 ≤ b := by
  have h2 : vld2 k a b = true ∧ b ≠ 0 := by simpa [dvB] using h
  have := vld2_bd h2.1
  exact ⟨h2.1, by omega⟩
theorem dvB_cases {k a b : Int} (h : dvB k a b = false) : vld2 k a b = false ∨ (vld2 k a b = true ∧ b = 0) := by
  rcases hv : vld2 k a b with _ | _
  · exact .inl rfl
  · exact .inr ⟨rfl, by simpa [dvB, hv] using h⟩
theorem implWordDivide_bad (k a b : Int) (h : dvB k a b = false) (w : World) :
    Calls Try.prog 17 #[.int .i64 k, .int .i64 a, .int .i64 b] w fun e w' => e = .returned (.tuple #[.int .i64 (-1), .int .i64 (-1), .bool false]) ∧ Below w.heap.size w w' := by
  rcases dvB_cases h with hv | ⟨hv, rfl⟩
  · clear h
    go_enter Try.func17, Try.ntmps17
    go_wp2_with (go_at_call 55; refine (allValid_two k a b _ _ _ (cell_two0 _ _ _ _) (cell_two1 _ _ _ _)).mono ?_; rintro e w' ⟨rfl, rfl⟩)
    go_ret3
    exact ⟨rfl, (Below.refl _ _).alloc (Nat.le_refl _) _⟩
  · clear h
    go_enter Try.func17, Try.ntmps17
    go_wp2_with (go_at_call 55; refine (allValid_two k a 0 _ _ _ (cell_two0 _ _ _ _) (cell_two1 _ _ _ _)).mono ?_; rintro e w' ⟨rfl, rfl⟩)
    go_ret3
    exact ⟨rfl, (Below.refl _ _).alloc (Nat.le_refl _) _⟩
theorem implDivideSigns_bad (k a b : Int) (h : dvB k a b = false) (w : World) :
    Calls Try.prog 38 #[.int .i64 k, .int .i64 a, .int .i64 b] w fun e w' => e = .returned (.tuple #[.int .i64 (-1), .int .i64 (-1), .bool false]) ∧ Below w.heap.size w w' := by
  rcases dvB_cases h with hv | ⟨hv, rfl⟩
  · clear h
    go_enter Try.func38, Try.ntmps38
    go_wp2_with (go_at_call 55; refine (allValid_two k a b _ _ _ (cell_two0 _ _ _ _) (cell_two1 _ _ _ _)).mono ?_; rintro e w' ⟨rfl, rfl⟩)
    go_ret3
    exact ⟨rfl, (Below.refl _ _).alloc (Nat.le_refl _) _⟩
  · clear h
    go_enter Try.func38, Try.ntmps38
    go_wp2_with (go_at_call 55; refine (allValid_two k a 0 _ _ _ (cell_two0 _ _ _ _) (cell_two1 _ _ _ _)).mono ?_; rintro e w' ⟨rfl, rfl⟩)
    go_ret3
    exact ⟨rfl, (Below.refl _ _).alloc (Nat.le_refl _) _⟩
theorem implSignedDivide_bad (k a b : Int) (h : dvB k a b = false) (w : World) :
    Calls Try.prog 33 #[.int .i64 k, .int .i64 a, .int .i64 b] w fun e w' => e = .returned (.tuple #[.int .i64 (-1), .int .i64 (-1), .bool false]) ∧ Below w.heap.size w w' := by
  rcases dvB_cases h with hv | ⟨hv, rfl⟩
  · clear h
    go_enter Try.func33, Try.ntmps33
    go_wp2_with (go_at_call 55; refine (allValid_two k a b _ _ _ (cell_two0 _ _ _ _) (cell_two1 _ _ _ _)).mono ?_; rintro e w' ⟨rfl, rfl⟩)
    go_ret3
    exact ⟨rfl, (Below.refl _ _).alloc (Nat.le_refl _) _⟩
  · clear h
    go_enter Try.func33, Try.ntmps33
    go_wp2_with (go_at_call 55; refine (allValid_two k a 0 _ _ _ (cell_two0 _ _ _ _) (cell_two1 _ _ _ _)).mono ?_; rintro e w' ⟨rfl, rfl⟩)
    go_ret3
    exact ⟨rfl, (Below.refl _ _).alloc (Nat.le_refl _) _⟩
theorem implWordDivide_ok (k a b : Int) (h : dvB k a b = true) (w : World) :
    Calls Try.prog 17 #[.int .i64 k, .int .i64 a, .int .i64 b] w fun e w' => e = .returned (.tuple #[.int .i64 (a / b), .int .i64 (a % b), .bool true]) ∧ Below w.heap.size w w' := by
  obtain ⟨hv, hb1⟩ := dvB_true h
  obtain ⟨h1, h2, h3, h4, g3, g4, h5, h6⟩ := vld2_bd hv
  have hbz : (b == 0) = false := by simp; omega
  obtain ⟨d1, d2⟩ := ediv_bd (x := a) (c := b) h3 hb1
  clear h
  go_enter Try.func17, Try.ntmps17
  go_wp2_with (go_at_call 55; refine (allValid_two k a b _ _ _ (cell_two0 _ _ _ _) (cell_two1 _ _ _ _)).mono ?_; rintro e w' ⟨rfl, rfl⟩)
  have t1 := i64_tdiv a b h3 (by omega) hb1
  have t2 := Int.tmod_eq_emod_of_nonneg (b := b) h3
  go_quiet (fail)
  go_wp2
  go_ret3
  exact ⟨rfl, below_drewN ((Below.refl _ _).alloc (Nat.le_refl _) _) _⟩
theorem implWideTimes_bad (k a b : Int) (hv : vld2 k a b = false) (w : World) :
    Calls Try.prog 21 #[.int .i64 k, .int .i64 a, .int .i64 b] w fun e w' => e = .returned (.tuple #[.int .i64 (-1), .int .i64 (-1), .bool false]) ∧ Below w.heap.size w w' := by
  go_enter Try.func21, Try.ntmps21
  go_wp2_with (go_at_call 55; refine (allValid_two k a b _ _ _ (cell_two0 _ _ _ _) (cell_two1 _ _ _ _)).mono ?_; rintro e w' ⟨rfl, rfl⟩)
  go_ret3
  exact ⟨rfl, (Below.refl _ _).alloc (Nat.le_refl _) _⟩
theorem wide_any (k a b : Int) (hv : vld2 k a b = true) (w : World) :
    Calls Try.prog 62 #[.int .i64 k, .int .i64 a, .int .i64 b] w fun e w' => e = .returned (.tuple #[.int .i64 (a * b / pw k), .int .i64 (a * b % pw k), .bool true]) ∧ ∃ n, w' = w.drewN n := by
  obtain ⟨h1, h2, h3, h4, g3, g4, h5, h6⟩ := vld2_bd hv
  obtain ⟨r1, r2⟩ := mul_bd (x := a) (y := b) (X := 4096) (Y := 4096) (by omega) (by omega) (by omega) (by omega)
  have ek := shl_pw k
  have s1 := wr (a * b) (by omega)
  have hk0 : 0 ≤ k := by omega
  go_enter Try.func62, Try.ntmps62
  go_wp2
  go_quiet ((go_at_call 57; exact quiet_left (cut_any _ _ (by omega) (by omega) _)))
  go_wp2
  go_ret3
  exact ⟨rfl, _, rfl⟩
theorem implWideTimes_ok (k a b : Int) (hv : vld2 k a b = true) (w : World) :
    Calls Try.prog 21 #[.int .i64 k, .int .i64 a, .int .i64 b] w fun e w' => e = .returned (.tuple #[.int .i64 (a * b / pw k), .int .i64 (a * b % pw k), .bool true]) ∧ Below w.heap.size w w' := by
  go_enter Try.func21, Try.ntmps21
  go_wp2_with (first
    | (go_at_call 55; refine (allValid_two k a b _ _ _ (cell_two0 _ _ _ _) (cell_two1 _ _ _ _)).mono ?_; rintro e w' ⟨rfl, rfl⟩)
    | (go_at_call 62; refine (wide_any k a b hv _).mono ?_; rintro e w' ⟨rfl, n, rfl⟩))
  go_ret3
  exact ⟨rfl, below_drewN ((Below.refl _ _).alloc (Nat.le_refl _) _) _⟩
theorem implSignedHigh1_any (k a b : Int) (hv : vld2 k a b = true) (g : Nat) (w : World) (hc : w.cell? ⟨g, 0, none⟩ = some (.int .i64 k)) :
    Calls Try.prog 68 #[.int .i64 a, .int .i64 b, .pointer (some ⟨g, 0, none⟩)] w fun e w' => e = .returned (.int .i64 (sgZ k a * sgZ k b / pw k)) ∧ ∃ n, w' = w.drewN n := by
  obtain ⟨h1, h2, h3, h4, g3, g4, h5, h6⟩ := vld2_bd hv
  obtain ⟨va, vb⟩ := vld2_true hv
  obtain ⟨m1, m2⟩ := sg_mul_bd k a b va vb
  have ek := shl_pw k
  have s1 := wr (sgZ k a * sgZ k b) (by omega)
  have hk0 : 0 ≤ k := by omega
  have HA := hd va
  have HB := hd vb
  clear va vb
  go_enter Try.func68, Try.ntmps68
  go_wp2
  go_quiet ((go_at_call 69; exact quiet_left (signed_any _ _ (by first | exact HA.out | exact HB.out) _)))
  go_wp2
  go_ret
  exact ⟨rfl, _, rfl⟩
theorem implSignedHigh_bad (k a b : Int) (hv : vld2 k a b = false) (w : World) :
    Calls Try.prog 29 #[.int .i64 k, .int .i64 a, .int .i64 b] w fun e w' => e = .returned (.int .i64 (-1)) ∧ Below w.heap.size w w' := by
  have hc0 : ((w.alloc (.cells #[.int .i64 k] 3)).alloc (.cells #[.int .i64 a, .int .i64 b] 3)).cell? ⟨w.heap.size + 1, 0, none⟩ = some (.int .i64 a) := by
    simp
  have hc1 : ((w.alloc (.cells #[.int .i64 k] 3)).alloc (.cells #[.int .i64 a, .int .i64 b] 3)).cell? ⟨w.heap.size + 1, 1, none⟩ = some (.int .i64 b) := by
    simp
  have HC0 := hd hc0
  have HC1 := hd hc1
  clear hc0 hc1
  go_enter Try.func29, Try.ntmps29
  go_wp2_with (first
    | (go_at_call 55; refine (allValid_two k a b _ _ _ HC0.out HC1.out).mono ?_; rintro e w' ⟨rfl, rfl⟩)
    | go_in)
  go_ret
  exact ⟨rfl, ((Below.refl _ _).alloc (Nat.le_refl _) _).alloc (by simp) _⟩
theorem implSignedHigh_ok (k a b : Int) (hv : vld2 k a b = true) (w : World) :
    Calls Try.prog 29 #[.int .i64 k, .int .i64 a, .int .i64 b] w fun e w' => e = .returned (.int .i64 (shZ k a b)) ∧ Below w.heap.size w w' := by
  obtain ⟨h1, h2, h3, h4, g3, g4, h5, h6⟩ := vld2_bd hv
  obtain ⟨va, vb⟩ := vld2_true hv
  obtain ⟨m1, m2⟩ := sg_mul_bd k a b va vb
  obtain ⟨n1, n2⟩ := sg_mul_div_bd k a b va vb
  have ek := shl_pw k
  have hc0 : ((w.alloc (.cells #[.int .i64 k] 3)).alloc (.cells #[.int .i64 a, .int .i64 b] 3)).cell? ⟨w.heap.size + 1, 0, none⟩ = some (.int .i64 a) := by
    simp
  have hc1 : ((w.alloc (.cells #[.int .i64 k] 3)).alloc (.cells #[.int .i64 a, .int .i64 b] 3)).cell? ⟨w.heap.size + 1, 1, none⟩ = some (.int .i64 b) := by
    simp
  have HC0 := hd hc0
  have HC1 := hd hc1
  clear hc0 hc1
  go_enter Try.func29, Try.ntmps29
  go_wp2_with (first
    | (go_at_call 55; refine (allValid_two k a b _ _ _ HC0.out HC1.out).mono ?_; rintro e w' ⟨rfl, rfl⟩)
    | (go_at_call 57; refine (cut_any _ _ (by omega) (by omega) _).mono ?_; rintro e w' ⟨rfl, rfl⟩)
    | (go_at_call 68; refine (implSignedHigh1_any k a b hv _ _ (by simp)).mono ?_; rintro e w' ⟨rfl, n, rfl⟩)
    | go_in)
  go_ret
  exact ⟨rfl, below_drewN (((Below.refl _ _).alloc (Nat.le_refl _) _).alloc (by simp) _) _⟩
theorem specWordDivide_bad (k a b : Int) (h : dvB k a b = false) (w : World) :
    Calls Try.prog 18 #[.int .i64 k, .int .i64 a, .int .i64 b] w fun e w' => e = .returned (.tuple #[.int .i64 (-1), .int .i64 (-1), .bool false]) ∧ Below w.heap.size w w' := by
  rcases dvB_cases h with hv | ⟨hv, rfl⟩
  · clear h
    go_enter Try.func18, Try.ntmps18
    go_wp2_with (go_at_call 53; refine (l1Both_any _ _ _ _).mono ?_; rintro e w' ⟨rfl, rfl⟩)
    go_ret3
    exact ⟨rfl, Below.refl _ _⟩
  · clear h
    go_enter Try.func18, Try.ntmps18
    go_wp2_with (go_at_call 53; refine (l1Both_any _ _ _ _).mono ?_; rintro e w' ⟨rfl, rfl⟩)
    go_ret3
    exact ⟨rfl, Below.refl _ _⟩
theorem specDivideSigns_bad (k a b : Int) (h : dvB k a b = false) (w : World) :
    Calls Try.prog 39 #[.int .i64 k, .int .i64 a, .int .i64 b] w fun e w' => e = .returned (.tuple #[.int .i64 (-1), .int .i64 (-1), .bool false]) ∧ Below w.heap.size w w' := by
  rcases dvB_cases h with hv | ⟨hv, rfl⟩
  · clear h
    go_enter Try.func39, Try.ntmps39
    go_wp2_with (go_at_call 53; refine (l1Both_any _ _ _ _).mono ?_; rintro e w' ⟨rfl, rfl⟩)
    go_ret3
    exact ⟨rfl, Below.refl _ _⟩
  · clear h
    go_enter Try.func39, Try.ntmps39
    go_wp2_with (go_at_call 53; refine (l1Both_any _ _ _ _).mono ?_; rintro e w' ⟨rfl, rfl⟩)
    go_ret3
    exact ⟨rfl, Below.refl _ _⟩
theorem specSignedDivide_bad (k a b : Int) (h : dvB k a b = false) (w : World) :
    Calls Try.prog 34 #[.int .i64 k, .int .i64 a, .int .i64 b] w fun e w' => e = .returned (.tuple #[.int .i64 (-1), .int .i64 (-1), .bool false]) ∧ Below w.heap.size w w' := by
  rcases dvB_cases h with hv | ⟨hv, rfl⟩
  · clear h
    go_enter Try.func34, Try.ntmps34
    go_wp2_with (go_at_call 53; refine (l1Both_any _ _ _ _).mono ?_; rintro e w' ⟨rfl, rfl⟩)
    go_ret3
    exact ⟨rfl, Below.refl _ _⟩
  · clear h
    go_enter Try.func34, Try.ntmps34
    go_wp2_with (go_at_call 53; refine (l1Both_any _ _ _ _).mono ?_; rintro e w' ⟨rfl, rfl⟩)
    go_ret3
    exact ⟨rfl, Below.refl _ _⟩
theorem specWordDivide_ok (k a b : Int) (h : dvB k a b = true) (w : World) :
    Calls Try.prog 18 #[.int .i64 k, .int .i64 a, .int .i64 b] w fun e w' => e = .returned (.tuple #[.int .i64 (a / b), .int .i64 (a % b), .bool true]) ∧ Below w.heap.size w w' := by
  obtain ⟨hv, hb1⟩ := dvB_true h
  obtain ⟨h1, h2, h3, h4, g3, g4, h5, h6⟩ := vld2_bd hv
  have hbz : (b == 0) = false := by simp; omega
  obtain ⟨d1, d2⟩ := ediv_bd (x := a) (c := b) h3 hb1
  clear h
  go_enter Try.func18, Try.ntmps18
  go_wp2_with (go_at_call 53; refine (l1Both_any _ _ _ _).mono ?_; rintro e w' ⟨rfl, rfl⟩)
  have t1 := i64_tdiv a b h3 (by omega) hb1
  have t2 := Int.tmod_eq_emod_of_nonneg (b := b) h3
  go_quiet (fail)
  go_wp2
  go_ret3
  exact ⟨rfl, below_drewN (Below.refl _ _) _⟩
theorem specWideTimes_bad (k a b : Int) (hv : vld2 k a b = false) (w : World) :
    Calls Try.prog 22 #[.int .i64 k, .int .i64 a, .int .i64 b] w fun e w' => e = .returned (.tuple #[.int .i64 (-1), .int .i64 (-1), .bool false]) ∧ Below w.heap.size w w' := by
  go_enter Try.func22, Try.ntmps22
  go_wp2_with (go_at_call 53; refine (l1Both_any _ _ _ _).mono ?_; rintro e w' ⟨rfl, rfl⟩)
  go_ret3
  exact ⟨rfl, Below.refl _ _⟩
theorem specWideTimes_ok (k a b : Int) (hv : vld2 k a b = true) (w : World) :
    Calls Try.prog 22 #[.int .i64 k, .int .i64 a, .int .i64 b] w fun e w' => e = .returned (.tuple #[.int .i64 (a * b / pw k), .int .i64 (a * b % pw k), .bool true]) ∧ Below w.heap.size w w' := by
  obtain ⟨h1, h2, h3, h4, g3, g4, h5, h6⟩ := vld2_bd hv
  obtain ⟨r1, r2⟩ := mul_bd (x := a) (y := b) (X := 4096) (Y := 4096) (by omega) (by omega) (by omega) (by omega)
  have ek := shl_pw k
  have s1 := wr (a * b) (by omega)
  have hk0 : 0 ≤ k := by omega
  go_enter Try.func22, Try.ntmps22
  go_wp2_with (go_at_call 53; refine (l1Both_any _ _ _ _).mono ?_; rintro e w' ⟨rfl, rfl⟩)
  go_quiet ((go_at_call 54; exact quiet_left (l1Mod_any _ _ (by omega) (by omega) _)))
  go_wp2
  go_ret3
  exact ⟨rfl, below_drewN (Below.refl _ _) _⟩
theorem specSignedHigh_bad (k a b : Int) (hv : vld2 k a b = false) (w : World) :
    Calls Try.prog 30 #[.int .i64 k, .int .i64 a, .int .i64 b] w fun e w' => e = .returned (.int .i64 (-1)) ∧ Below w.heap.size w w' := by
  go_enter Try.func30, Try.ntmps30
  go_wp2_with (go_at_call 53; refine (l1Both_any _ _ _ _).mono ?_; rintro e w' ⟨rfl, rfl⟩)
  go_ret
  exact ⟨rfl, Below.refl _ _⟩
theorem specSignedHigh_ok (k a b : Int) (hv : vld2 k a b = true) (w : World) :
    Calls Try.prog 30 #[.int .i64 k, .int .i64 a, .int .i64 b] w fun e w' => e = .returned (.int .i64 (shZ k a b)) ∧ Below w.heap.size w w' := by
  obtain ⟨h1, h2, h3, h4, g3, g4, h5, h6⟩ := vld2_bd hv
  obtain ⟨va, vb⟩ := vld2_true hv
  obtain ⟨m1, m2⟩ := sg_mul_bd k a b va vb
  obtain ⟨n1, n2⟩ := sg_mul_div_bd k a b va vb
  have ek := shl_pw k
  go_enter Try.func30, Try.ntmps30
  go_wp2_with (first
    | (go_at_call 53; refine (l1Both_any _ _ _ _).mono ?_; rintro e w' ⟨rfl, rfl⟩)
    | (go_at_call 54; refine (l1Mod_any _ _ (by omega) (by omega) _).mono ?_; rintro e w' ⟨rfl, rfl⟩)
    | (go_at_call 70; refine (specSignedOf_ok _ _ (by assumption) _).mono ?_; rintro e w' ⟨rfl, rfl⟩))
  go_ret
  exact ⟨rfl, Below.refl _ _⟩
end Go.Proofs.Ythbpcgefcnpfmaa
