/- Contracts of the functions of chapter 5 (Gray codes, the lowest one, zigzag, the power above) of the program and of the reference; conditions: that the word is valid, or that it is not. -/
import Derived.Test.YtgbgpibaincheaaW1
import Derived.Test.YtgbgpibaincheaaMathB
namespace Go.Proofs.Ytgbgpibaincheaa
open Go.RowKit
theorem implGrayOf_ok (k x : Int) (h : vld k x = true) (w : World) :
    Calls Try.prog 47 #[.int .i64 k, .int .i64 x] w fun e w' => e = .returned (.int .i64 (grZ x)) ∧ w = w' := by
  obtain ⟨h1, h2, h3, h4, h5, h6⟩ := vld_4096 h
  obtain ⟨a1, a2⟩ := half_bd h3
  obtain ⟨b1, b2⟩ := grZ_bd k x h3 h4
  have e1 : bits .xor .i64 x (x / 2) = grZ x := i64_xor x (x / 2) h3 (by omega) a1 (by omega)
  have e2 := emod_small b1 b2
  go_enter Try.func47, Try.ntmps47
  go_wp2_with (first
    | (go_at_call 53; refine (implWordValid_any _ _ _).mono ?_; rintro e w' ⟨rfl, rfl⟩)
    | (go_at_call 102; refine (cut_any _ _ (by omega) (by omega) _).mono ?_; rintro e w' ⟨rfl, rfl⟩)
    | go_in)
  go_ret
  exact ⟨rfl, rfl⟩
theorem implGrayOf_bad (k x : Int) (h : vld k x = false) (w : World) :
    Calls Try.prog 47 #[.int .i64 k, .int .i64 x] w fun e w' => e = .returned (.int .i64 (-1)) ∧ w = w' := by
  go_enter Try.func47, Try.ntmps47
  go_wp2_with (first
    | (go_at_call 53; refine (implWordValid_any _ _ _).mono ?_; rintro e w' ⟨rfl, rfl⟩)
    | go_in)
  go_ret
  exact ⟨rfl, rfl⟩
theorem specGrayOf_ok (k x : Int) (h : vld k x = true) (w : World) :
    Calls Try.prog 65 #[.int .i64 k, .int .i64 x] w fun e w' => e = .returned (.int .i64 (grZ x)) ∧ w = w' := by
  obtain ⟨h1, h2, h3, h4, h5, h6⟩ := vld_4096 h
  obtain ⟨a1, a2⟩ := half_bd h3
  go_enter Try.func65, Try.ntmps65
  go_wp2_with (first
    | (go_at_call 70; refine (specWordValid_any _ _ _).mono ?_; rintro e w' ⟨rfl, rfl⟩)
    | (go_at_call 78; refine (l1Xor_any _ _ (by omega) (by omega) (by omega) (by omega) _).mono ?_; rintro e w' ⟨rfl, rfl⟩))
  go_ret
  exact ⟨rfl, rfl⟩
theorem specGrayOf_bad (k x : Int) (h : vld k x = false) (w : World) :
    Calls Try.prog 65 #[.int .i64 k, .int .i64 x] w fun e w' => e = .returned (.int .i64 (-1)) ∧ w = w' := by
  go_enter Try.func65, Try.ntmps65
  go_wp2_with (go_at_call 70; refine (specWordValid_any _ _ _).mono ?_; rintro e w' ⟨rfl, rfl⟩)
  go_ret
  exact ⟨rfl, rfl⟩
theorem specLowestOne_ok (k x : Int) (h : vld k x = true) (w : World) :
    Calls Try.prog 81 #[.int .i64 k, .int .i64 x] w fun e w' => e = .returned (.int .i64 (loZ k x)) ∧ w = w' := by
  obtain ⟨h1, h2, h3, h4, h5, h6⟩ := vld_4096 h
  obtain ⟨a1, a2⟩ := mod_bd (-x) k h1 h2
  go_enter Try.func81, Try.ntmps81
  go_wp2_with (first
    | (go_at_call 70; refine (specWordValid_any _ _ _).mono ?_; rintro e w' ⟨rfl, rfl⟩)
    | (go_at_call 95; refine (l1Mod_any _ _ (by omega) (by omega) _).mono ?_; rintro e w' ⟨rfl, rfl⟩)
    | (go_at_call 80; refine (l1And_any _ _ (by omega) (by omega) (by omega) (by omega) _).mono ?_; rintro e w' ⟨rfl, rfl⟩))
  go_ret
  exact ⟨rfl, rfl⟩
theorem specLowestOne_bad (k x : Int) (h : vld k x = false) (w : World) :
    Calls Try.prog 81 #[.int .i64 k, .int .i64 x] w fun e w' => e = .returned (.int .i64 (-1)) ∧ w = w' := by
  go_enter Try.func81, Try.ntmps81
  go_wp2_with (go_at_call 70; refine (specWordValid_any _ _ _).mono ?_; rintro e w' ⟨rfl, rfl⟩)
  go_ret
  exact ⟨rfl, rfl⟩
theorem implZigzagBack_ok (k x : Int) (h : vld k x = true) (w : World) :
    Calls Try.prog 50 #[.int .i64 k, .int .i64 x] w fun e w' => e = .returned (.int .i64 (zbZ k x)) ∧ w = w' := by
  obtain ⟨h1, h2, h3, h4, h5, h6⟩ := vld_4096 h
  obtain ⟨a1, a2⟩ := half_bd h3
  have e1 := i64_and_1 x
  have e2 : bits .xor .i64 (x / 2) (-(x % 2)) % pw k = zbZ k x := by
    rw [i64_xor_mod (x / 2) (-(x % 2)) k (by omega), emod_small a1 (by omega)]; rfl
  go_enter Try.func50, Try.ntmps50
  go_wp2_with (first
    | (go_at_call 53; refine (implWordValid_any _ _ _).mono ?_; rintro e w' ⟨rfl, rfl⟩)
    | (go_at_call 102; refine (cut_any _ _ (by omega) (by omega) _).mono ?_; rintro e w' ⟨rfl, rfl⟩)
    | go_in)
  go_ret
  exact ⟨rfl, rfl⟩
theorem implZigzagBack_bad (k x : Int) (h : vld k x = false) (w : World) :
    Calls Try.prog 50 #[.int .i64 k, .int .i64 x] w fun e w' => e = .returned (.int .i64 (-1)) ∧ w = w' := by
  go_enter Try.func50, Try.ntmps50
  go_wp2_with (first
    | (go_at_call 53; refine (implWordValid_any _ _ _).mono ?_; rintro e w' ⟨rfl, rfl⟩)
    | go_in)
  go_ret
  exact ⟨rfl, rfl⟩
theorem specZigzagBack_ok (k x : Int) (h : vld k x = true) (w : World) :
    Calls Try.prog 51 #[.int .i64 k, .int .i64 x] w fun e w' => e = .returned (.int .i64 (zbZ k x)) ∧ w = w' := by
  obtain ⟨h1, h2, h3, h4, h5, h6⟩ := vld_4096 h
  obtain ⟨a1, a2⟩ := half_bd h3
  obtain ⟨b1, b2⟩ := mod_bd (-(x % 2)) k h1 h2
  go_enter Try.func51, Try.ntmps51
  go_wp2_with (first
    | (go_at_call 70; refine (specWordValid_any _ _ _).mono ?_; rintro e w' ⟨rfl, rfl⟩)
    | (go_at_call 95; refine (l1Mod_any _ _ (by omega) (by omega) _).mono ?_; rintro e w' ⟨rfl, rfl⟩)
    | (go_at_call 78; refine (l1Xor_any _ _ (by omega) (by omega) (by omega) (by omega) _).mono ?_; rintro e w' ⟨rfl, rfl⟩))
  go_ret
  exact ⟨rfl, rfl⟩
theorem specZigzagBack_bad (k x : Int) (h : vld k x = false) (w : World) :
    Calls Try.prog 51 #[.int .i64 k, .int .i64 x] w fun e w' => e = .returned (.int .i64 (-1)) ∧ w = w' := by
  go_enter Try.func51, Try.ntmps51
  go_wp2_with (go_at_call 70; refine (specWordValid_any _ _ _).mono ?_; rintro e w' ⟨rfl, rfl⟩)
  go_ret
  exact ⟨rfl, rfl⟩
theorem specZigzagOf_ok (k x : Int) (h : vld k x = true) (w : World) :
    Calls Try.prog 55 #[.int .i64 k, .int .i64 x] w fun e w' => e = .returned (.int .i64 (zzZ k x)) ∧ w = w' := by
  obtain ⟨h1, h2, h3, h4, h5, h6⟩ := vld_4096 h
  obtain ⟨a1, a2, a3, a4⟩ := sgZ_bd k x h
  have A3 := hd a3
  clear a3
  by_cases hs : sgZ k x < 0
  all_goals
    go_enter Try.func55, Try.ntmps55
    go_wp2_with (first
      | (go_at_call 70; refine (specWordValid_any _ _ _).mono ?_; rintro e w' ⟨rfl, rfl⟩)
      | (go_at_call 98; refine (specSignedOf_ok _ _ h _).mono ?_; rintro e w' ⟨rfl, rfl⟩))
    go_ret
    exact ⟨ret_i (by unfold zzZ; split <;> omega), rfl⟩
theorem specZigzagOf_bad (k x : Int) (h : vld k x = false) (w : World) :
    Calls Try.prog 55 #[.int .i64 k, .int .i64 x] w fun e w' => e = .returned (.int .i64 (-1)) ∧ w = w' := by
  go_enter Try.func55, Try.ntmps55
  go_wp2_with (go_at_call 70; refine (specWordValid_any _ _ _).mono ?_; rintro e w' ⟨rfl, rfl⟩)
  go_ret
  exact ⟨rfl, rfl⟩
theorem implZigzagOf_ok (k x : Int) (h : vld k x = true) (w : World) :
    Calls Try.prog 52 #[.int .i64 k, .int .i64 x] w fun e w' => e = .returned (.int .i64 (zzZ k x)) ∧ Below w.heap.size w w' := by
  obtain ⟨h1, h2, h3, h4, h5, h6⟩ := vld_4096 h
  obtain ⟨a1, a2, a3, a4⟩ := sgZ_bd k x h
  obtain ⟨b1, b2⟩ := zzZ_bd k x h
  have A3 := hd a3
  clear a3
  by_cases hs : sgZ k x < 0
  · have e2 := hd (show (-2 * sgZ k x - 1) % pw k = zzZ k x by rw [show -2 * sgZ k x - 1 = zzZ k x by unfold zzZ; split <;> omega]; exact emod_small b1 b2)
    go_enter Try.func52, Try.ntmps52
    go_wp2_with (first
      | (go_at_call 53; refine (implWordValid_any _ _ _).mono ?_; rintro e w' ⟨rfl, rfl⟩)
      | (go_at_call 97; refine (signed_any _ _ h _).mono ?_; rintro e w' ⟨rfl, rfl⟩)
      | (go_at_call 102; refine (cut_any _ _ (by omega) (by omega) _).mono ?_; rintro e w' ⟨rfl, rfl⟩)
      | go_in)
    go_ret
    exact ⟨ret_i e2.out, (Below.refl _ _).alloc (Nat.le_refl _) _⟩
  · have e2 := hd (show (2 * sgZ k x) % pw k = zzZ k x by rw [show 2 * sgZ k x = zzZ k x by unfold zzZ; split <;> omega]; exact emod_small b1 b2)
    go_enter Try.func52, Try.ntmps52
    go_wp2_with (first
      | (go_at_call 53; refine (implWordValid_any _ _ _).mono ?_; rintro e w' ⟨rfl, rfl⟩)
      | (go_at_call 97; refine (signed_any _ _ h _).mono ?_; rintro e w' ⟨rfl, rfl⟩)
      | (go_at_call 102; refine (cut_any _ _ (by omega) (by omega) _).mono ?_; rintro e w' ⟨rfl, rfl⟩)
      | go_in)
    go_ret
    exact ⟨ret_i e2.out, (Below.refl _ _).alloc (Nat.le_refl _) _⟩
theorem implZigzagOf_bad (k x : Int) (h : vld k x = false) (w : World) :
    Calls Try.prog 52 #[.int .i64 k, .int .i64 x] w fun e w' => e = .returned (.int .i64 (-1)) ∧ Below w.heap.size w w' := by
  go_enter Try.func52, Try.ntmps52
  go_wp2_with (first
    | (go_at_call 53; refine (implWordValid_any _ _ _).mono ?_; rintro e w' ⟨rfl, rfl⟩)
    | go_in)
  go_ret
  exact ⟨rfl, (Below.refl _ _).alloc (Nat.le_refl _) _⟩
theorem implGrayBack1_any (k x : Int) (h3 : 0 ≤ x) (h4 : x < pw k) (h6 : pw k ≤ 4096) (w : World) :
    Calls Try.prog 90 #[.int .i64 x] w fun e w' => e = .returned (.int .i64 (gbZ x)) ∧ w = w' := by
  go_enter Try.func90, Try.ntmps90
  go_wp2
  go_loop [0, 3] (fun v b => ∃ j : Nat, j ≤ 4 ∧ b = .int .i64 (2 ^ j : Nat) ∧ v = .int .i64 (gbN j x)) (fun _ b => 16 - (intOf b).toNat)
  case atStart => exact ⟨0, by omega, rfl, rfl⟩
  case round =>
    obtain ⟨j, hj, rfl, rfl⟩ := hrel
    obtain ⟨b1, b2⟩ := gbN_bd k j x h3 h4
    obtain ⟨c1, c2⟩ := ediv_bd (c := pw (2 ^ j : Nat)) b1 (pw_pos _)
    have e1 := i64_xor (gbN j x) (gbN j x / pw (2 ^ j : Nat)) b1 (by omega) c1 (by omega)
    have HS := hd (show gbN (j + 1) x = xorZ (gbN j x) (gbN j x / pw (2 ^ j : Nat)) from rfl)
    obtain ⟨v, hv⟩ : ∃ v, gbN j x = v := ⟨_, rfl⟩
    rw [hv] at b1 b2 c1 c2 e1 HS ⊢
    have HV := hd hv
    clear hv
    rcases (show j = 0 ∨ j = 1 ∨ j = 2 ∨ j = 3 ∨ j = 4 by omega) with rfl | rfl | rfl | rfl | rfl
    all_goals simp only [Nat.reducePow, pw_nat, Int.reducePow] at e1 c1 c2 HS ⊢
    · go_wp2
      go_round
      case rel => exact ⟨1, by omega, rfl, by rw [HS.out]⟩
      case measure => simp [intOf]
    · go_wp2
      go_round
      case rel => exact ⟨2, by omega, rfl, by rw [HS.out]⟩
      case measure => simp [intOf]
    · go_wp2
      go_round
      case rel => exact ⟨3, by omega, rfl, by rw [HS.out]⟩
      case measure => simp [intOf]
    · go_wp2
      go_round
      case rel => exact ⟨4, by omega, rfl, by rw [HS.out]⟩
      case measure => simp [intOf]
    · go_wp2
      go_ret
      exact ⟨ret_i HV.out.symm, rfl⟩
theorem implGrayBack_ok (k x : Int) (h : vld k x = true) (w : World) :
    Calls Try.prog 45 #[.int .i64 k, .int .i64 x] w fun e w' => e = .returned (.int .i64 (gbZ x)) ∧ w = w' := by
  obtain ⟨h1, h2, h3, h4, h5, h6⟩ := vld_4096 h
  obtain ⟨b1, b2⟩ := gbN_bd k 4 x h3 h4
  have e2 := hd (emod_small b1 b2)
  go_enter Try.func45, Try.ntmps45
  go_wp2_with (first
    | (go_at_call 53; refine (implWordValid_any _ _ _).mono ?_; rintro e w' ⟨rfl, rfl⟩)
    | (go_at_call 102; refine (cut_any _ _ (by omega) (by omega) _).mono ?_; rintro e w' ⟨rfl, rfl⟩)
    | (go_at_call 90; refine (implGrayBack1_any k x h3 h4 (by omega) _).mono ?_; rintro e w' ⟨rfl, rfl⟩)
    | go_in)
  go_ret
  exact ⟨ret_i e2.out, rfl⟩
theorem implGrayBack_bad (k x : Int) (h : vld k x = false) (w : World) :
    Calls Try.prog 45 #[.int .i64 k, .int .i64 x] w fun e w' => e = .returned (.int .i64 (-1)) ∧ w = w' := by
  go_enter Try.func45, Try.ntmps45
  go_wp2_with (first
    | (go_at_call 53; refine (implWordValid_any _ _ _).mono ?_; rintro e w' ⟨rfl, rfl⟩)
    | go_in)
  go_ret
  exact ⟨rfl, rfl⟩
theorem specGrayBack_bad (k x : Int) (h : vld k x = false) (w : World) :
    Calls Try.prog 46 #[.int .i64 k, .int .i64 x] w fun e w' => e = .returned (.int .i64 (-1)) ∧ w = w' := by
  go_enter Try.func46, Try.ntmps46
  go_wp2_with (go_at_call 70; refine (specWordValid_any _ _ _).mono ?_; rintro e w' ⟨rfl, rfl⟩)
  go_ret
  exact ⟨rfl, rfl⟩
theorem specFillBelow_bad (k x : Int) (h : vld k x = false) (w : World) :
    Calls Try.prog 26 #[.int .i64 k, .int .i64 x] w fun e w' => e = .returned (.int .i64 (-1)) ∧ w = w' := by
  go_enter Try.func26, Try.ntmps26
  go_wp2_with (go_at_call 70; refine (specWordValid_any _ _ _).mono ?_; rintro e w' ⟨rfl, rfl⟩)
  go_ret
  exact ⟨rfl, rfl⟩
theorem specGrayBack_ok (k x : Int) (h : vld k x = true) (w : World) :
    Calls Try.prog 46 #[.int .i64 k, .int .i64 x] w fun e w' => e = .returned (.int .i64 (gbZ x)) ∧ w = w' := by
  obtain ⟨h1, h2, h3, h4, h5, h6⟩ := vld_4096 h
  go_enter Try.func46, Try.ntmps46
  go_wp2_with (go_at_call 70; refine (specWordValid_any _ _ _).mono ?_; rintro e w' ⟨rfl, rfl⟩)
  go_loop [1, 5] (fun v b => ∃ j : Nat, j ≤ 4 ∧ b = .int .i64 (2 ^ j : Nat) ∧ v = .int .i64 (gbN j x)) (fun _ b => 16 - (intOf b).toNat)
  case atStart => exact ⟨0, by omega, rfl, rfl⟩
  case round =>
    obtain ⟨j, hj, rfl, rfl⟩ := hrel
    obtain ⟨b1, b2⟩ := gbN_bd k j x h3 h4
    obtain ⟨c1, c2⟩ := ediv_bd (c := pw (2 ^ j : Nat)) b1 (pw_pos _)
    have HS := hd (show gbN (j + 1) x = xorZ (gbN j x) (gbN j x / pw (2 ^ j : Nat)) from rfl)
    obtain ⟨v, hv⟩ : ∃ v, gbN j x = v := ⟨_, rfl⟩
    rw [hv] at b1 b2 c1 c2 HS ⊢
    have HV := hd hv
    clear hv
    rcases (show j = 0 ∨ j = 1 ∨ j = 2 ∨ j = 3 ∨ j = 4 by omega) with rfl | rfl | rfl | rfl | rfl
    all_goals simp only [Nat.reducePow, pw_nat, Int.reducePow] at c1 c2 HS ⊢
    · go_wp2_with (go_at_call 78; refine (l1Xor_any _ _ (by omega) (by omega) (by omega) (by omega) _).mono ?_; rintro e w' ⟨rfl, rfl⟩)
      go_round
      case rel => exact ⟨1, by omega, rfl, by rw [HS.out]⟩
      case measure => simp [intOf]
    · go_wp2_with (go_at_call 78; refine (l1Xor_any _ _ (by omega) (by omega) (by omega) (by omega) _).mono ?_; rintro e w' ⟨rfl, rfl⟩)
      go_round
      case rel => exact ⟨2, by omega, rfl, by rw [HS.out]⟩
      case measure => simp [intOf]
    · go_wp2_with (go_at_call 78; refine (l1Xor_any _ _ (by omega) (by omega) (by omega) (by omega) _).mono ?_; rintro e w' ⟨rfl, rfl⟩)
      go_round
      case rel => exact ⟨3, by omega, rfl, by rw [HS.out]⟩
      case measure => simp [intOf]
    · go_wp2_with (go_at_call 78; refine (l1Xor_any _ _ (by omega) (by omega) (by omega) (by omega) _).mono ?_; rintro e w' ⟨rfl, rfl⟩)
      go_round
      case rel => exact ⟨4, by omega, rfl, by rw [HS.out]⟩
      case measure => simp [intOf]
    · go_wp2
      go_ret
      exact ⟨ret_i HV.out.symm, rfl⟩
theorem specFillBelow_ok (k x : Int) (h : vld k x = true) (w : World) :
    Calls Try.prog 26 #[.int .i64 k, .int .i64 x] w fun e w' => e = .returned (.int .i64 (fbZ x)) ∧ w = w' := by
  obtain ⟨h1, h2, h3, h4, h5, h6⟩ := vld_4096 h
  go_enter Try.func26, Try.ntmps26
  go_wp2_with (go_at_call 70; refine (specWordValid_any _ _ _).mono ?_; rintro e w' ⟨rfl, rfl⟩)
  go_loop [1, 5] (fun v b => ∃ j : Nat, j ≤ 4 ∧ b = .int .i64 (2 ^ j : Nat) ∧ v = .int .i64 (fbN j x)) (fun _ b => 16 - (intOf b).toNat)
  case atStart => exact ⟨0, by omega, rfl, rfl⟩
  case round =>
    obtain ⟨j, hj, rfl, rfl⟩ := hrel
    obtain ⟨b1, b2⟩ := fbN_bd k j x h3 h4
    obtain ⟨c1, c2⟩ := ediv_bd (c := pw (2 ^ j : Nat)) b1 (pw_pos _)
    have HS := hd (show fbN (j + 1) x = orZ (fbN j x) (fbN j x / pw (2 ^ j : Nat)) from rfl)
    obtain ⟨v, hv⟩ : ∃ v, fbN j x = v := ⟨_, rfl⟩
    rw [hv] at b1 b2 c1 c2 HS ⊢
    have HV := hd hv
    clear hv
    rcases (show j = 0 ∨ j = 1 ∨ j = 2 ∨ j = 3 ∨ j = 4 by omega) with rfl | rfl | rfl | rfl | rfl
    all_goals simp only [Nat.reducePow, pw_nat, Int.reducePow] at c1 c2 HS ⊢
    · go_wp2_with (go_at_call 74; refine (l1Or_any _ _ (by omega) (by omega) (by omega) (by omega) _).mono ?_; rintro e w' ⟨rfl, rfl⟩)
      go_round
      case rel => exact ⟨1, by omega, rfl, by rw [HS.out]⟩
      case measure => simp [intOf]
    · go_wp2_with (go_at_call 74; refine (l1Or_any _ _ (by omega) (by omega) (by omega) (by omega) _).mono ?_; rintro e w' ⟨rfl, rfl⟩)
      go_round
      case rel => exact ⟨2, by omega, rfl, by rw [HS.out]⟩
      case measure => simp [intOf]
    · go_wp2_with (go_at_call 74; refine (l1Or_any _ _ (by omega) (by omega) (by omega) (by omega) _).mono ?_; rintro e w' ⟨rfl, rfl⟩)
      go_round
      case rel => exact ⟨3, by omega, rfl, by rw [HS.out]⟩
      case measure => simp [intOf]
    · go_wp2_with (go_at_call 74; refine (l1Or_any _ _ (by omega) (by omega) (by omega) (by omega) _).mono ?_; rintro e w' ⟨rfl, rfl⟩)
      go_round
      case rel => exact ⟨4, by omega, rfl, by rw [HS.out]⟩
      case measure => simp [intOf]
    · go_wp2
      go_ret
      exact ⟨ret_i HV.out.symm, rfl⟩
/-- what PowerAbove returns -/
def paOut (k x : Int) : Value := if vld k (paZ x) then .tuple #[.int .i64 (paZ x), .bool true] else .tuple #[.int .i64 (-1), .bool false]
theorem specPowerAbove_ok (k x : Int) (h : vld k x = true) (w : World) :
    Calls Try.prog 41 #[.int .i64 k, .int .i64 x] w fun e w' => e = .returned (paOut k x) ∧ w = w' := by
  obtain ⟨h1, h2, h3, h4, h5, h6⟩ := vld_4096 h
  by_cases hx : 0 < x
  · obtain ⟨b1, b2⟩ := fbN_bd k 4 (x - 1) (by omega) (by omega)
    have HP := hd (show paZ x = fbZ (x - 1) + 1 by unfold paZ; rw [if_pos hx])
    have hv := vld_mk h1 h2 (show 0 ≤ x - 1 by omega) (by omega)
    change 0 ≤ fbZ (x - 1) at b1
    change fbZ (x - 1) < pw k at b2
    rcases hq : vld k (fbZ (x - 1) + 1) with _ | _
    all_goals
      go_enter Try.func41, Try.ntmps41
      go_wp2_with (first
        | (go_at_call 70; refine (specWordValid_any _ _ _).mono ?_; rintro e w' ⟨rfl, rfl⟩)
        | (go_at_call 26; refine (specFillBelow_ok _ _ hv _).mono ?_; rintro e w' ⟨rfl, rfl⟩))
      go_ret2
      exact ⟨by unfold paOut; rw [HP.out, hq]; rfl, rfl⟩
  · have HP := hd (show paZ x = 1 by unfold paZ; rw [if_neg hx])
    have hq := vld_mk h1 h2 (show (0 : Int) ≤ 1 by omega) (by omega)
    go_enter Try.func41, Try.ntmps41
    go_wp2_with (go_at_call 70; refine (specWordValid_any _ _ _).mono ?_; rintro e w' ⟨rfl, rfl⟩)
    go_ret2
    exact ⟨by unfold paOut; rw [HP.out, hq]; rfl, rfl⟩
theorem specPowerAbove_bad (k x : Int) (h : vld k x = false) (w : World) :
    Calls Try.prog 41 #[.int .i64 k, .int .i64 x] w fun e w' => e = .returned (.tuple #[.int .i64 (-1), .bool false]) ∧ w = w' := by
  go_enter Try.func41, Try.ntmps41
  go_wp2_with (go_at_call 70; refine (specWordValid_any _ _ _).mono ?_; rintro e w' ⟨rfl, rfl⟩)
  go_ret2
  exact ⟨rfl, rfl⟩
theorem implPowerAbove_bad (k x : Int) (h : vld k x = false) (w : World) :
    Calls Try.prog 40 #[.int .i64 k, .int .i64 x] w fun e w' => e = .returned (.tuple #[.int .i64 (-1), .bool false]) ∧ w = w' := by
  go_enter Try.func40, Try.ntmps40
  go_wp2_with (go_at_call 53; refine (implWordValid_any _ _ _).mono ?_; rintro e w' ⟨rfl, rfl⟩)
  go_ret2
  exact ⟨rfl, rfl⟩
theorem implPowerAbove_ok (k x : Int) (h : vld k x = true) (w : World) :
    Calls Try.prog 40 #[.int .i64 k, .int .i64 x] w fun e w' => e = .returned (paOut k x) ∧ w = w' := by
  obtain ⟨h1, h2, h3, h4, h5, h6⟩ := vld_4096 h
  obtain ⟨J, g1, g2, g3, g4⟩ := paZ_is x h3 (by omega)
  have G4 := hd g4
  have G2 := hd g2
  clear g4 g2
  go_enter Try.func40, Try.ntmps40
  go_wp2_with (go_at_call 53; refine (implWordValid_any _ _ _).mono ?_; rintro e w' ⟨rfl, rfl⟩)
  go_loop [6] (fun v => ∃ j : Nat, j ≤ J ∧ v = .int .i64 (pw j)) (fun v => 8192 - (intOf v).toNat)
  case atStart => exact ⟨0, by omega, rfl⟩
  case round =>
    obtain ⟨j, hj, rfl⟩ := hrel
    obtain ⟨p1, p2⟩ := pw_le12 j (by omega)
    by_cases hlt : pw j < x
    · have hjJ : j < J := by
        rcases Nat.lt_or_ge j J with hh | hh
        · exact hh
        · have := pw_le (J : Int) (j : Int) (by omega); omega
      have HS := hd (pw_succ (j : Int) (by omega))
      go_wp2
      go_round
      case rel => exact ⟨j + 1, by omega, by rw [show ((j + 1 : Nat) : Int) = (j : Int) + 1 from rfl, HS.out, Int.mul_comm]⟩
      case measure => simp [intOf]; omega
    · have hjJ : j = J := by
        rcases Nat.lt_or_ge j J with hh | hh
        · exact absurd (G4.out j hh) hlt
        · omega
      subst hjJ
      rcases hq : vld k (pw j) with _ | _
      all_goals
        go_wp2_with (go_at_call 53; refine (implWordValid_any _ _ _).mono ?_; rintro e w' ⟨rfl, rfl⟩)
        go_ret2
        exact ⟨by unfold paOut; rw [G2.out, hq]; rfl, rfl⟩
end Go.Proofs.Ytgbgpibaincheaa
