/- Contracts of DividesOdd, ExactDivide and DivideBy of the program and of the reference; conditions: those that are written at each. -/
import Derived.Test.YtdjggccplaifbaaWI
import Derived.Test.YtdjggccplaifbaaW2
import Derived.Test.YtdjggccplaifbaaW4
import Derived.Test.YtdjggccplaifbaaMathD
import Derived.Deep.RegionWith
namespace Go.Proofs.Ytdjggccplaifbaa
open Go.RowKit
/-- the value of DividesOdd -/
def doB (k a b : Int) : Bool := vld k a && oddB k b && ddB k a b
theorem implDividesOdd_any (k a b : Int) (w : World) :
    Calls Try.prog 24 #[.int .i64 k, .int .i64 a, .int .i64 b] w fun e w' => e = .returned (.bool (doB k a b)) ∧ Below w.heap.size w w' := by
  rcases hv : vld k a with _ | _
  · have HD := hd (show doB k a b = false by unfold doB; rw [hv]; rfl)
    go_enter Try.func24, Try.ntmps24
    go_wp2_with (go_at_call 54; refine (implWordValid_any _ _ _).mono ?_; rintro e w' ⟨rfl, rfl⟩)
    go_ret
    exact ⟨ret_b HD.out.symm, Below.refl _ _⟩
  rcases ho : oddB k b with _ | _
  · have HD := hd (show doB k a b = false by unfold doB; rw [hv, ho]; rfl)
    go_enter Try.func24, Try.ntmps24
    go_wp2_with (first
      | (go_at_call 54; refine (implWordValid_any _ _ _).mono ?_; rintro e w' ⟨rfl, rfl⟩)
      | (go_at_call 69; refine (isOdd_any _ _ _).mono ?_; rintro e w' ⟨rfl, rfl⟩))
    go_ret
    exact ⟨ret_b HD.out.symm, Below.refl _ _⟩
  · have HD := hd (show doB k a b = decide (a * ivZ k b % pw k ≤ (pw k - 1) / b) by unfold doB; rw [hv, ho]; rfl)
    obtain ⟨h1, h2, h3, h4, h5, h6⟩ := vld_4096 hv
    obtain ⟨hvb, hob⟩ := oddB_true ho
    obtain ⟨_, _, g3, g4, _, _⟩ := vld_4096 hvb
    obtain ⟨_, i2, i3⟩ := ivZ_is k b ho
    obtain ⟨r1, r2⟩ := mul_bd (x := a) (y := ivZ k b) (X := 4096) (Y := 4096) (by omega) (by omega) (by omega) (by omega)
    have hb1 : 1 ≤ b := by omega
    obtain ⟨d1, d2⟩ := ediv_bd (x := pw k - 1) (c := b) (by omega) hb1
    have HO := hd ho
    clear hvb hob
    go_enter Try.func24, Try.ntmps24
    go_wp2_with (first
      | (go_at_call 54; refine (implWordValid_any _ _ _).mono ?_; rintro e w' ⟨rfl, rfl⟩)
      | (go_at_call 69; refine (isOdd_any _ _ _).mono ?_; rintro e w' ⟨rfl, rfl⟩)
      | (go_at_call 52; refine (implInverseOf_ok _ _ HO.out _).mono ?_; rintro e w1 ⟨rfl, hb⟩)
      | (go_at_call 68; refine (cut_any _ _ (by omega) (by omega) _).mono ?_; rintro e w' ⟨rfl, rfl⟩)
      | (go_at_call 70; refine (greatest_any _ (by omega) (by omega) _).mono ?_; rintro e w' ⟨rfl, rfl⟩))
    go_ret
    exact ⟨ret_b HD.out.symm, hb⟩
set_option maxHeartbeats 1600000 in
theorem specDividesOdd_odd (k a b : Int) (hv : vld2 k a b = true) (hb2 : b % 2 = 1) (w : World) :
    Calls Try.prog 23 #[.int .i64 k, .int .i64 a, .int .i64 b] w fun e w' => e = .returned (.bool (doB k a b)) ∧ Below w.heap.size w w' := by
  obtain ⟨h1, h2, h3, h4, g3, g4, h5, h6⟩ := vld2_bd hv
  obtain ⟨ha, hbv⟩ := vld2_true hv
  have ho := oddB_mk hbv hb2
  have HD := hd (show doB k a b = decide (a * ivZ k b % pw k ≤ (pw k - 1) / b) by unfold doB; rw [ha, ho]; rfl)
  obtain ⟨_, i2, i3⟩ := ivZ_is k b ho
  obtain ⟨r1, r2⟩ := mul_bd (x := a) (y := ivZ k b) (X := 4096) (Y := 4096) (by omega) (by omega) (by omega) (by omega)
  have hb1 : 1 ≤ b := by omega
  obtain ⟨d1, d2⟩ := ediv_bd (x := pw k - 1) (c := b) (by omega) hb1
  have HO := hd ho
  have ek := shl_pw k
  have hb20 : (b % 2 == 0) = false := by simp; omega
  clear ho ha hbv hb2
  go_enter Try.func23, Try.ntmps23
  go_wp2_with (go_at_call 62; refine (l1Both_any _ _ _ _).mono ?_; rintro e w' ⟨rfl, rfl⟩)
  have s1 := wr (a * ivZ k b) (by omega)
  have s2 := wr (pw k) (by omega)
  have s3 := wr (pw k - 1) (by omega)
  have s4 := i64_tdiv (pw k - 1) b (by omega) (by omega) hb1
  have hk0 : 0 ≤ k := by omega
  have hbne : (b == 0) = false := by simp; omega
  clear hv
  go_region_with ((first
    | (go_at_call 53; refine (specInverseOf_ok _ _ HO.out _).mono ?_; rintro e w1 ⟨rfl, hb⟩)
    | (go_at_call 64; refine (l1Mod_any _ _ (by omega) (by omega) _).mono ?_; rintro e w' ⟨rfl, rfl⟩)))
  all_goals
    go_wp2
    go_ret
    refine ⟨?_, ((Below.refl w.heap.size w).drew).trans hb⟩
    rw [HD.out]
    go_simp
theorem specDividesOdd_any (k a b : Int) (w : World) :
    Calls Try.prog 23 #[.int .i64 k, .int .i64 a, .int .i64 b] w fun e w' => e = .returned (.bool (doB k a b)) ∧ Below w.heap.size w w' := by
  rcases hv : vld2 k a b with _ | _
  · have HD := hd (show doB k a b = false by
      unfold doB oddB
      rcases h1 : vld k a with _ | _
      · rfl
      · have h2 : vld k b = false := by simpa [vld2, h1] using hv
        rw [h2]; rfl)
    go_enter Try.func23, Try.ntmps23
    go_wp2_with (go_at_call 62; refine (l1Both_any _ _ _ _).mono ?_; rintro e w' ⟨rfl, rfl⟩)
    go_ret
    exact ⟨ret_b HD.out.symm, Below.refl _ _⟩
  obtain ⟨h1, h2, h3, h4, g3, g4, h5, h6⟩ := vld2_bd hv
  by_cases hb2 : b % 2 = 1
  · exact specDividesOdd_odd k a b hv hb2 w
  · have HD := hd (show doB k a b = false by unfold doB oddB; simp [hb2])
    have hb20 : b % 2 = 0 := by omega
    clear hb2
    go_enter Try.func23, Try.ntmps23
    go_wp2_with (go_at_call 62; refine (l1Both_any _ _ _ _).mono ?_; rintro e w' ⟨rfl, rfl⟩)
    go_ret
    exact ⟨ret_b HD.out.symm, Below.refl _ _⟩
/-- the pair that l4Twos returns -/
def Twos (n : Int) (w : World) (e : Ending) (w' : World) : Prop := ∃ j o : Int, e = .returned (.tuple #[.int .i64 j, .int .i64 o]) ∧ 0 ≤ j ∧ j ≤ 12 ∧ o % 2 = 1 ∧ 0 < o ∧ n = pw j * o ∧ w = w'
theorem l4Twos_any (n : Int) (h0 : 0 < n) (h : n < 4096) (w : World) : Calls Try.prog 63 #[.int .i64 n] w (Twos n w) := by
  go_enter Try.func63, Try.ntmps63
  go_wp2
  go_loop [0, 4] (fun t c => ∃ (j : Nat) (m : Int), 0 < m ∧ t = .int .i64 m ∧ c = .int .i64 j ∧ n = pw j * m) (fun t _ => (intOf t).toNat)
  case atStart => exact ⟨0, n, h0, rfl, rfl, by simp [pw]⟩
  case round =>
    obtain ⟨j, m, hm, rfl, rfl, hn⟩ := hrel
    have HN := hd hn
    have hj : j ≤ 12 := by
      rcases Nat.lt_or_ge 12 j with hh | hh
      · have h13 := pw_le 13 j (by omega)
        rw [show pw 13 = 8192 by decide] at h13
        have := Int.mul_le_mul_of_nonneg_left (show 1 ≤ m by omega) (show 0 ≤ pw j by omega)
        omega
      · exact hh
    have hmn : m ≤ 4096 := by
      have := Int.mul_le_mul_of_nonneg_right (pw_pos j) (show 0 ≤ m by omega)
      omega
    clear hn
    by_cases hev : m % 2 = 0
    · have HS := hd (show n = pw ((j + 1 : Nat) : Int) * (m / 2) by
        rw [show ((j + 1 : Nat) : Int) = (j : Int) + 1 from rfl, pw_succ _ (by omega), HN.out, Int.mul_comm 2, Int.mul_assoc]
        congr 1; omega)
      go_wp2
      go_round
      case rel => exact ⟨j + 1, m / 2, by omega, rfl, by go_num, HS.out⟩
      case measure => simp [intOf]; omega
    · have hev1 : m % 2 = 1 := by omega
      go_wp2
      go_ret2
      exact ⟨j, m, rfl, by omega, by omega, by omega, hm, HN.out, rfl⟩
/-- the arguments of ExactDivide at which there is a quotient -/
def exB (k a b : Int) : Bool := vld2 k a b && decide (b ≠ 0 ∧ a % b = 0)
theorem exB_true {k a b : Int} (h : exB k a b = true) : vld2 k a b = true ∧ b ≠ 0 ∧ a % b = 0 := by simpa [exB] using h
theorem exB_cases (k a b : Int) (h : exB k a b = false) : vld2 k a b = false ∨ (vld2 k a b = true ∧ b = 0) ∨ (vld2 k a b = true ∧ b ≠ 0 ∧ a % b ≠ 0) := by
  rcases hv : vld2 k a b with _ | _
  · exact .inl rfl
  · by_cases hb : b = 0
    · exact .inr (.inl ⟨rfl, hb⟩)
    · exact .inr (.inr ⟨rfl, hb, fun g => by simp [exB, hv, hb, g] at h⟩)
theorem implExactDivide_bad (k a b : Int) (h : exB k a b = false) (w : World) :
    Calls Try.prog 20 #[.int .i64 k, .int .i64 a, .int .i64 b] w fun e w' => e = .returned (.tuple #[.int .i64 (-1), .bool false]) ∧ Below w.heap.size w w' := by
  rcases exB_cases k a b h with hv | ⟨hv, rfl⟩ | ⟨hv, hb, hr⟩
  · clear h
    go_enter Try.func20, Try.ntmps20
    go_wp2_with (go_at_call 65; refine (allValid_two k a b _ _ _ (cell_two0 _ _ _ _) (cell_two1 _ _ _ _)).mono ?_; rintro e w' ⟨rfl, rfl⟩)
    go_ret2
    exact ⟨rfl, (Below.refl _ _).alloc (Nat.le_refl _) _⟩
  · clear h
    go_enter Try.func20, Try.ntmps20
    go_wp2_with (go_at_call 65; refine (allValid_two k a 0 _ _ _ (cell_two0 _ _ _ _) (cell_two1 _ _ _ _)).mono ?_; rintro e w' ⟨rfl, rfl⟩)
    go_ret2
    exact ⟨rfl, (Below.refl _ _).alloc (Nat.le_refl _) _⟩
  · obtain ⟨h1, h2, h3, h4, g3, g4, h5, h6⟩ := vld2_bd hv
    have hb1 : 1 ≤ b := by omega
    have hbz : (b == 0) = false := by simp; omega
    have hrz : (a % b == 0) = false := by simpa using hr
    have hrn : (a % b != 0) = true := by simpa using hr
    clear h hr hb
    go_enter Try.func20, Try.ntmps20
    go_wp2_with (go_at_call 65; refine (allValid_two k a b _ _ _ (cell_two0 _ _ _ _) (cell_two1 _ _ _ _)).mono ?_; rintro e w' ⟨rfl, rfl⟩)
    go_ret2
    exact ⟨rfl, (Below.refl _ _).alloc (Nat.le_refl _) _⟩
theorem specExactDivide_bad (k a b : Int) (h : exB k a b = false) (w : World) :
    Calls Try.prog 19 #[.int .i64 k, .int .i64 a, .int .i64 b] w fun e w' => e = .returned (.tuple #[.int .i64 (-1), .bool false]) ∧ Below w.heap.size w w' := by
  rcases exB_cases k a b h with hv | ⟨hv, rfl⟩ | ⟨hv, hb, hr⟩
  · clear h
    go_enter Try.func19, Try.ntmps19
    go_wp2_with (go_at_call 62; refine (l1Both_any _ _ _ _).mono ?_; rintro e w' ⟨rfl, rfl⟩)
    go_ret2
    exact ⟨rfl, Below.refl _ _⟩
  · clear h
    go_enter Try.func19, Try.ntmps19
    go_wp2_with (go_at_call 62; refine (l1Both_any _ _ _ _).mono ?_; rintro e w' ⟨rfl, rfl⟩)
    go_ret2
    exact ⟨rfl, Below.refl _ _⟩
  · obtain ⟨h1, h2, h3, h4, g3, g4, h5, h6⟩ := vld2_bd hv
    have hb1 : 1 ≤ b := by omega
    have hbz : (b == 0) = false := by simp; omega
    have hrz : (a % b == 0) = false := by simpa using hr
    have hrn : (a % b != 0) = true := by simpa using hr
    clear h hr hb
    go_enter Try.func19, Try.ntmps19
    go_wp2_with (go_at_call 62; refine (l1Both_any _ _ _ _).mono ?_; rintro e w' ⟨rfl, rfl⟩)
    go_ret2
    exact ⟨rfl, Below.refl _ _⟩
theorem implExactDivide_ok (k a b : Int) (h : exB k a b = true) (w : World) :
    Calls Try.prog 20 #[.int .i64 k, .int .i64 a, .int .i64 b] w fun e w' => e = .returned (.tuple #[.int .i64 (a / b), .bool true]) ∧ Below w.heap.size w w' := by
  obtain ⟨hv, hb, hr⟩ := exB_true h
  obtain ⟨h1, h2, h3, h4, g3, g4, h5, h6⟩ := vld2_bd hv
  have hb1 : 1 ≤ b := by omega
  have hbz : (b == 0) = false := by simp; omega
  obtain ⟨d1, d2⟩ := ediv_bd (x := a) (c := b) h3 hb1
  clear h hb
  go_enter Try.func20, Try.ntmps20
  go_wp2_with (go_at_call 65; refine (allValid_two k a b _ _ _ (cell_two0 _ _ _ _) (cell_two1 _ _ _ _)).mono ?_; rintro e w' ⟨rfl, rfl⟩)
  go_ret2
  exact ⟨rfl, (Below.refl _ _).alloc (Nat.le_refl _) _⟩
set_option maxHeartbeats 1600000 in
theorem specExactDivide_ok (k a b : Int) (h : exB k a b = true) (w : World) :
    Calls Try.prog 19 #[.int .i64 k, .int .i64 a, .int .i64 b] w fun e w' => e = .returned (.tuple #[.int .i64 (a / b), .bool true]) ∧ Below w.heap.size w w' := by
  obtain ⟨hv, hb, hr⟩ := exB_true h
  obtain ⟨h1, h2, h3, h4, g3, g4, h5, h6⟩ := vld2_bd hv
  have hb1 : 1 ≤ b := by omega
  have hbz : (b == 0) = false := by simp; omega
  have HR := hd hr
  clear h hb
  go_enter Try.func19, Try.ntmps19
  go_wp2_with (first
    | (go_at_call 62; refine (l1Both_any _ _ _ _).mono ?_; rintro e w' ⟨rfl, rfl⟩)
    | (go_at_call 63; refine (l4Twos_any b (by omega) (by omega) _).mono ?_; rintro e w' ⟨j, o, rfl, j0, j1, o1, o0, hbo, rfl⟩; have HB := hd hbo; clear hbo))
  obtain ⟨ho, he⟩ := exact_eq k a b j o h1 h2 h3 h4 (by omega) g4 HR.out o1 o0 HB.out
  obtain ⟨_, i2, i3⟩ := ivZ_is k o ho
  have pj := pw_pos j
  obtain ⟨d1, d2⟩ := ediv_bd (x := a) (c := pw j) h3 pj
  obtain ⟨r1, r2⟩ := mul_bd (x := a / pw j) (y := ivZ k o) (X := 4096) (Y := 4096) (by omega) (by omega) (by omega) (by omega)
  have HO := hd ho
  have HE := hd he
  clear ho he hr hv
  have s1 := wr (a / pw j * ivZ k o) (by omega)
  have ej := shl_pw j
  go_region_with ((first
    | (go_at_call 53; refine (specInverseOf_ok _ _ HO.out _).mono ?_; rintro e w1 ⟨rfl, hb⟩)
    | (go_at_call 64; refine (l1Mod_any _ _ (by omega) (by omega) _).mono ?_; rintro e w' ⟨rfl, rfl⟩)))
  all_goals
    go_wp2
    go_ret2
    refine ⟨?_, ((Below.refl w.heap.size w).drew).trans hb⟩
    rw [← HE.out]
    go_simp
theorem implDivideBy_ok (k x d : Int) (j : Nat) (h : mofB k d = true) (hj : mofIs k d j) (hv : vld k x = true) (w : World) :
    Calls Try.prog 31 #[.int .i64 k, .int .i64 x, .int .i64 d] w fun e w' => e = .returned (.int .i64 (x / d)) ∧ Below w.heap.size w w' := by
  obtain ⟨h1, h2, h3, h4, h5, h6⟩ := vld_4096 hv
  obtain ⟨_, _, m3, m4, m5, m6⟩ := mofIs_mag hj
  obtain ⟨r1, r2⟩ := mul_bd (x := x) (y := magM d j) (X := 4096) (Y := 67108863) (by omega) (by omega) (by omega) (by omega)
  have HE := hd (magic_div k x d j hv hj)
  have HJ := hd hj
  have ej := shl_pwn j
  clear hj
  go_enter Try.func31, Try.ntmps31
  go_wp2_with (first
    | (go_at_call 44; refine (implMagicOf_ok _ _ j h HJ.out _).mono ?_; rintro e w' ⟨rfl, n, rfl⟩)
    | (go_at_call 54; refine (implWordValid_any _ _ _).mono ?_; rintro e w' ⟨rfl, rfl⟩))
  go_ret
  exact ⟨ret_i HE.out, below_drewN (Below.refl _ _) _⟩
theorem specDivideBy_ok (k x d : Int) (j : Nat) (h : mofB k d = true) (hj : mofIs k d j) (hv : vld k x = true) (w : World) :
    Calls Try.prog 30 #[.int .i64 k, .int .i64 x, .int .i64 d] w fun e w' => e = .returned (.int .i64 (x / d)) ∧ Below w.heap.size w w' := by
  obtain ⟨h1, h2, h3, h4, h5, h6⟩ := vld_4096 hv
  obtain ⟨_, _, m3, m4, m5, m6⟩ := mofIs_mag hj
  obtain ⟨r1, r2⟩ := mul_bd (x := x) (y := magM d j) (X := 4096) (Y := 67108863) (by omega) (by omega) (by omega) (by omega)
  have HE := hd (magic_div k x d j hv hj)
  have HJ := hd hj
  have ej := shl_pwn j
  clear hj
  go_enter Try.func30, Try.ntmps30
  go_wp2_with (first
    | (go_at_call 45; refine (specMagicOf_ok _ _ j h HJ.out _).mono ?_; rintro e w' ⟨rfl, n, rfl⟩)
    | (go_at_call 61; refine (specWordValid_any _ _ _).mono ?_; rintro e w' ⟨rfl, rfl⟩))
  go_ret
  exact ⟨ret_i HE.out, below_drewN (Below.refl _ _) _⟩
theorem implDivideBy_bad (k x d : Int) (h : (mofB k d && vld k x) = false) (w : World) :
    Calls Try.prog 31 #[.int .i64 k, .int .i64 x, .int .i64 d] w fun e w' => e = .returned (.int .i64 (-1)) ∧ Below w.heap.size w w' := by
  rcases hm : mofB k d with _ | _
  · clear h
    go_enter Try.func31, Try.ntmps31
    go_wp2_with (go_at_call 44; refine (implMagicOf_bad _ _ hm _).mono ?_; rintro e w' ⟨rfl, rfl⟩)
    go_ret
    exact ⟨rfl, Below.refl _ _⟩
  · have hv : vld k x = false := by simpa [hm] using h
    obtain ⟨a1, a2, a3, a4⟩ := mofB_true hm
    obtain ⟨j, hj⟩ := mof_ex k d a1 a2 a3 a4
    have HJ := hd hj
    clear h hj a1 a2 a3 a4
    go_enter Try.func31, Try.ntmps31
    go_wp2_with (first
      | (go_at_call 44; refine (implMagicOf_ok _ _ j hm HJ.out _).mono ?_; rintro e w' ⟨rfl, n, rfl⟩)
      | (go_at_call 54; refine (implWordValid_any _ _ _).mono ?_; rintro e w' ⟨rfl, rfl⟩))
    go_ret
    exact ⟨rfl, below_drewN (Below.refl _ _) _⟩
theorem specDivideBy_bad (k x d : Int) (h : (mofB k d && vld k x) = false) (w : World) :
    Calls Try.prog 30 #[.int .i64 k, .int .i64 x, .int .i64 d] w fun e w' => e = .returned (.int .i64 (-1)) ∧ Below w.heap.size w w' := by
  rcases hm : mofB k d with _ | _
  · clear h
    go_enter Try.func30, Try.ntmps30
    go_wp2_with (go_at_call 45; refine (specMagicOf_bad _ _ hm _).mono ?_; rintro e w' ⟨rfl, rfl⟩)
    go_ret
    exact ⟨rfl, Below.refl _ _⟩
  · have hv : vld k x = false := by simpa [hm] using h
    obtain ⟨a1, a2, a3, a4⟩ := mofB_true hm
    obtain ⟨j, hj⟩ := mof_ex k d a1 a2 a3 a4
    have HJ := hd hj
    clear h hj a1 a2 a3 a4
    go_enter Try.func30, Try.ntmps30
    go_wp2_with (first
      | (go_at_call 45; refine (specMagicOf_ok _ _ j hm HJ.out _).mono ?_; rintro e w' ⟨rfl, n, rfl⟩)
      | (go_at_call 61; refine (specWordValid_any _ _ _).mono ?_; rintro e w' ⟨rfl, rfl⟩))
    go_ret
    exact ⟨rfl, below_drewN (Below.refl _ _) _⟩
end Go.Proofs.Ytdjggccplaifbaa
