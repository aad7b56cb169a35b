/- Contracts of DivideSigns and DivideSteps (chapter 3) of the program and of the reference; conditions: that the arguments are valid, or that they are not. -/
import Derived.Test.YthbpcgefcnpfmaaW3
import Derived.Test.YthbpcgefcnpfmaaOwn
import Derived.Test.YthbpcgefcnpfmaaMathQ
namespace Go.Proofs.Ythbpcgefcnpfmaa
open Go.RowKit
set_option maxHeartbeats 1000000 in
theorem implDivideSigns_ok (k a b : Int) (h : dvB k a b = true) (w : World) :
    Calls Try.prog 38 #[.int .i64 k, .int .i64 a, .int .i64 b] w fun e w' => e = .returned (.tuple #[.int .i64 (a / b), .int .i64 (a % b), .bool true]) ∧ Below w.heap.size w w' := by
  obtain ⟨hv, hb1⟩ := dvB_true h
  obtain ⟨h1, h2, h3, h4, g3, g4, h5, h6⟩ := vld2_bd hv
  have hbz : (b == 0) = false := by simp; omega
  clear h
  go_enter Try.func38, Try.ntmps38
  go_wp2_with (go_at_call 55; refine (allValid_two k a b _ _ _ (cell_two0 _ _ _ _) (cell_two1 _ _ _ _)).mono ?_; rintro e w' ⟨rfl, rfl⟩)
  go_loop [9, 10, 11] (fun t u i => ∃ j r : Int, -1 ≤ j ∧ j ≤ k - 1 ∧ i = .int .i64 j ∧ t = .int .i64 r ∧ u = .int .i64 (a / pw (j + 1) / b) ∧ (r = a / pw (j + 1) % b ∨ r = a / pw (j + 1) % b - b)) (fun _ _ i => (intOf i + 1).toNat)
  case atStart => exact ⟨k - 1, 0, by omega, by omega, rfl, rfl, by rw [Int.sub_add_cancel, Int.ediv_eq_zero_of_lt h3 h4]; simp, by left; rw [Int.sub_add_cancel, Int.ediv_eq_zero_of_lt h3 h4]; simp⟩
  case round =>
    obtain ⟨j, r, hj0, hj1, rfl, rfl, rfl, hr⟩ := hrel
    have hX0 : 0 ≤ a / pw (j + 1) := Int.ediv_nonneg h3 (by have := pw_pos (j + 1); omega)
    have hX1 : a / pw (j + 1) ≤ a := Int.ediv_le_self _ h3
    obtain ⟨q0, q1⟩ := ediv_bd (x := a / pw (j + 1)) (c := b) hX0 hb1
    obtain ⟨m0, m1⟩ := mod_lt_bd (a / pw (j + 1)) b hb1
    by_cases hj : 0 ≤ j
    · obtain ⟨b0, b1⟩ := bitZ_bd a j
      have HX := hd (show a / pw (j - 1 + 1) = 2 * (a / pw (j + 1)) + bitZ a j by rw [Int.sub_add_cancel]; exact next_bit a j hj)
      have HD := hd (dstep (a / pw (j + 1)) b (bitZ a j) hb1 b0 b1)
      obtain ⟨X, hXX⟩ : ∃ X, a / pw (j + 1) = X := ⟨_, rfl⟩
      rw [hXX] at hr hX0 hX1 q0 q1 m0 m1 HX HD
      obtain ⟨R, hRR⟩ : ∃ R, X % b = R := ⟨_, rfl⟩
      rw [hRR] at hr m0 m1 HD
      have HRR := hd hRR
      clear hRR
      obtain ⟨Q, hQQ⟩ : ∃ Q, X / b = Q := ⟨_, rfl⟩
      rw [hQQ] at q0 q1 HD
      by_cases ht : b ≤ 2 * R + bitZ a j
      · have HE := hd (HD.out.1 ht)
        rcases hr with hr | hr
        all_goals
          obtain rfl := hr.symm
          go_wp2_with (go_at_call 73; refine (bit_any a _ (by omega) (by omega) _).mono ?_; rintro e w' ⟨rfl, rfl⟩)
          go_round
          case rel => exact ⟨j - 1, 2 * R + bitZ a j - b, by omega, by omega, rfl, by first | rfl | (rw [Value.int.injEq]; exact ⟨rfl, by omega⟩), by rw [HX.out, HE.out.1] <;> first | rfl | rw [Int.mul_comm], by left; rw [HX.out, HE.out.2]⟩
          case measure => simp [intOf]; omega
      · have HE := hd (HD.out.2 (by omega))
        rcases hr with hr | hr
        all_goals
          obtain rfl := hr.symm
          go_wp2_with (go_at_call 73; refine (bit_any a _ (by omega) (by omega) _).mono ?_; rintro e w' ⟨rfl, rfl⟩)
          go_round
          case rel => exact ⟨j - 1, 2 * R + bitZ a j - b, by omega, by omega, rfl, by first | rfl | (rw [Value.int.injEq]; exact ⟨rfl, by omega⟩), by rw [HX.out, HE.out.1] <;> first | rfl | rw [Int.mul_comm], by right; rw [HX.out, HE.out.2]⟩
          case measure => simp [intOf]; omega
    · obtain rfl : j = -1 := by omega
      have HX := hd (show a / pw (-1 + 1) = a by rw [show (-1 : Int) + 1 = 0 by omega, pw_0, Int.ediv_one])
      obtain ⟨X, hXX⟩ : ∃ X, a / pw (-1 + 1) = X := ⟨_, rfl⟩
      have hz : a / pw 0 = X := hXX
      rw [hXX] at hr hX0 hX1 q0 q1 m0 m1 HX
      clear hXX
      rcases hr with hr | hr
      all_goals
        obtain rfl := hr.symm
        go_wp2
        go_ret3
        exact ⟨by rw [← HX.out]; simp, (Below.refl _ _).alloc (Nat.le_refl _) _⟩
set_option maxHeartbeats 1000000 in
theorem specDivideSigns_ok (k a b : Int) (h : dvB k a b = true) (w : World) :
    Calls Try.prog 39 #[.int .i64 k, .int .i64 a, .int .i64 b] w fun e w' => e = .returned (.tuple #[.int .i64 (a / b), .int .i64 (a % b), .bool true]) ∧ Below w.heap.size w w' := by
  obtain ⟨hv, hb1⟩ := dvB_true h
  obtain ⟨h1, h2, h3, h4, g3, g4, h5, h6⟩ := vld2_bd hv
  have hbz : (b == 0) = false := by simp; omega
  clear h
  go_enter Try.func39, Try.ntmps39
  go_wp2_with (go_at_call 53; refine (l1Both_any _ _ _ _).mono ?_; rintro e w' ⟨rfl, rfl⟩)
  go_loop [9, 10, 11] (fun t u i => ∃ j r : Int, -1 ≤ j ∧ j ≤ k - 1 ∧ i = .int .i64 j ∧ t = .int .i64 r ∧ u = .int .i64 (a / pw (j + 1) / b) ∧ (r = a / pw (j + 1) % b ∨ r = a / pw (j + 1) % b - b)) (fun _ _ i => (intOf i + 1).toNat)
  case atStart => exact ⟨k - 1, 0, by omega, by omega, rfl, rfl, by rw [Int.sub_add_cancel, Int.ediv_eq_zero_of_lt h3 h4]; simp, by left; rw [Int.sub_add_cancel, Int.ediv_eq_zero_of_lt h3 h4]; simp⟩
  case round =>
    obtain ⟨j, r, hj0, hj1, rfl, rfl, rfl, hr⟩ := hrel
    have hX0 : 0 ≤ a / pw (j + 1) := Int.ediv_nonneg h3 (by have := pw_pos (j + 1); omega)
    have hX1 : a / pw (j + 1) ≤ a := Int.ediv_le_self _ h3
    obtain ⟨q0, q1⟩ := ediv_bd (x := a / pw (j + 1)) (c := b) hX0 hb1
    obtain ⟨m0, m1⟩ := mod_lt_bd (a / pw (j + 1)) b hb1
    by_cases hj : 0 ≤ j
    · obtain ⟨b0, b1⟩ := bitZ_bd a j
      have HX := hd (show a / pw (j - 1 + 1) = 2 * (a / pw (j + 1)) + bitZ a j by rw [Int.sub_add_cancel]; exact next_bit a j hj)
      have HD := hd (dstep (a / pw (j + 1)) b (bitZ a j) hb1 b0 b1)
      obtain ⟨X, hXX⟩ : ∃ X, a / pw (j + 1) = X := ⟨_, rfl⟩
      rw [hXX] at hr hX0 hX1 q0 q1 m0 m1 HX HD
      obtain ⟨R, hRR⟩ : ∃ R, X % b = R := ⟨_, rfl⟩
      rw [hRR] at hr m0 m1 HD
      have HRR := hd hRR
      clear hRR
      obtain ⟨Q, hQQ⟩ : ∃ Q, X / b = Q := ⟨_, rfl⟩
      rw [hQQ] at q0 q1 HD
      by_cases ht : b ≤ 2 * R + bitZ a j
      · have HE := hd (HD.out.1 ht)
        rcases hr with hr | hr
        all_goals
          obtain rfl := hr.symm
          go_wp2_with (go_at_call 74; refine (l1Bit_any a _ (by omega) (by omega) (by omega) _).mono ?_; rintro e w' ⟨rfl, rfl⟩)
          go_round
          case rel => exact ⟨j - 1, 2 * R + bitZ a j - b, by omega, by omega, rfl, by first | rfl | (rw [Value.int.injEq]; exact ⟨rfl, by omega⟩), by rw [HX.out, HE.out.1] <;> first | rfl | rw [Int.mul_comm], by left; rw [HX.out, HE.out.2]⟩
          case measure => simp [intOf]; omega
      · have HE := hd (HD.out.2 (by omega))
        rcases hr with hr | hr
        all_goals
          obtain rfl := hr.symm
          go_wp2_with (go_at_call 74; refine (l1Bit_any a _ (by omega) (by omega) (by omega) _).mono ?_; rintro e w' ⟨rfl, rfl⟩)
          go_round
          case rel => exact ⟨j - 1, 2 * R + bitZ a j - b, by omega, by omega, rfl, by first | rfl | (rw [Value.int.injEq]; exact ⟨rfl, by omega⟩), by rw [HX.out, HE.out.1] <;> first | rfl | rw [Int.mul_comm], by right; rw [HX.out, HE.out.2]⟩
          case measure => simp [intOf]; omega
    · obtain rfl : j = -1 := by omega
      have HX := hd (show a / pw (-1 + 1) = a by rw [show (-1 : Int) + 1 = 0 by omega, pw_0, Int.ediv_one])
      obtain ⟨X, hXX⟩ : ∃ X, a / pw (-1 + 1) = X := ⟨_, rfl⟩
      have hz : a / pw 0 = X := hXX
      rw [hXX] at hr hX0 hX1 q0 q1 m0 m1 HX
      clear hXX
      rcases hr with hr | hr
      all_goals
        obtain rfl := hr.symm
        go_wp2
        go_ret3
        exact ⟨by rw [← HX.out]; simp, Below.refl _ _⟩
theorem implDivideSteps_bad (k a b : Int) (h : dvB k a b = false) (w : World) :
    Calls Try.prog 49 #[.int .i64 k, .int .i64 a, .int .i64 b] w (RetL w.heap.size [] w) := by
  rcases dvB_cases h with hv | ⟨hv, rfl⟩
  · clear h
    go_enter Try.func49, Try.ntmps49
    go_wp2_with (go_at_call 55; refine (allValid_two k a b _ _ _ (cell_two0 _ _ _ _) (cell_two1 _ _ _ _)).mono ?_; rintro e w' ⟨rfl, rfl⟩)
    go_ret
    exact ⟨none, 0, rfl, World.ownsRow_nil _ _ _ _, (Below.refl _ _).alloc (Nat.le_refl _) _⟩
  · clear h
    go_enter Try.func49, Try.ntmps49
    go_wp2_with (go_at_call 55; refine (allValid_two k a 0 _ _ _ (cell_two0 _ _ _ _) (cell_two1 _ _ _ _)).mono ?_; rintro e w' ⟨rfl, rfl⟩)
    go_ret
    exact ⟨none, 0, rfl, World.ownsRow_nil _ _ _ _, (Below.refl _ _).alloc (Nat.le_refl _) _⟩
set_option maxHeartbeats 1000000 in
theorem implDivideSteps_ok (k a b : Int) (h : dvB k a b = true) (w : World) :
    Calls Try.prog 49 #[.int .i64 k, .int .i64 a, .int .i64 b] w (RetL w.heap.size (dsF a b k.toNat) w) := by
  obtain ⟨i0, hi, hz0, hz1, hz2⟩ := info_parts info_int
  obtain ⟨hv, hb1⟩ := dvB_true h
  obtain ⟨h1, h2, h3, h4, g3, g4, h5, h6⟩ := vld2_bd hv
  have hbz : (b == 0) = false := by simp; omega
  have hlen := dsF_len a b k.toNat
  obtain ⟨L, hL⟩ : ∃ L, dsF a b k.toNat = L := ⟨_, rfl⟩
  rw [hL] at hlen ⊢
  have HL := hd hL
  have hll : L.length ≤ 12 := by omega
  obtain ⟨B, hB⟩ : ∃ B, B = w.heap.size := ⟨_, rfl⟩
  rw [← hB]
  have hB1 : B ≤ w.heap.size := by omega
  clear h hL hB hlen
  go_enter Try.func49, Try.ntmps49
  go_wp2_with (go_at_call 55; refine (allValid_two k a b _ _ _ (cell_two0 _ _ _ _) (cell_two1 _ _ _ _)).mono ?_; rintro e w' ⟨rfl, rfl⟩)
  go_loopw [7, 8, 9] (fun v t i wr => ∃ (j r : Int) (A : Option Addr) (c : Nat) (D : List Int), -1 ≤ j ∧ j ≤ k - 1 ∧ i = .int .i64 j ∧ t = .int .i64 (a / pw (j + 1) % b) ∧ v = .slice A D.length c ∧ Owns wr B A c D ∧ D ++ dsF a b (j + 1).toNat = L ∧ Below B w wr) (fun _ _ i _ => (intOf i + 1).toNat)
  case atStart => exact ⟨k - 1, 0, none, 0, [], by omega, by omega, rfl, by rw [Int.sub_add_cancel, Int.ediv_eq_zero_of_lt h3 h4]; simp, rfl, World.ownsRow_nil _ _ _ _, by rw [List.nil_append, Int.sub_add_cancel]; exact HL.out, (Below.refl _ _).alloc hB1 _⟩
  case round =>
    obtain ⟨j, r, A, c, D, hj0, hj1, rfl, rfl, rfl, hown, hD, hbel⟩ := hrel
    have hDl : D.length ≤ 12 := by have := congrArg List.length hD; simp at this; omega
    have HD0 := hd hD
    clear hD
    have hBr : B ≤ wr.heap.size := Nat.le_trans hB1 hbel.size
    have hX0 : 0 ≤ a / pw (j + 1) := Int.ediv_nonneg h3 (by have := pw_pos (j + 1); omega)
    obtain ⟨m0, m1⟩ := mod_lt_bd (a / pw (j + 1)) b hb1
    by_cases hj : 0 ≤ j
    · obtain ⟨b0, b1⟩ := bitZ_bd a j
      have HX := hd (show a / pw (j - 1 + 1) = 2 * (a / pw (j + 1)) + bitZ a j by rw [Int.sub_add_cancel]; exact next_bit a j hj)
      have HD := hd (dstep (a / pw (j + 1)) b (bitZ a j) hb1 b0 b1)
      have HN := hd (dsF_step a b j hj)
      obtain ⟨X, hXX⟩ : ∃ X, a / pw (j + 1) = X := ⟨_, rfl⟩
      rw [hXX] at hX0 m0 m1 HX HD
      obtain ⟨R, hRR⟩ : ∃ R, X % b = R := ⟨_, rfl⟩
      rw [hRR] at m0 m1 HD
      by_cases ht : b ≤ 2 * R + bitZ a j
      · have HE := hd (HD.out.1 ht)
        go_wp2_with (first
          | (go_at_call 55; refine (allValid_two k a b _ _ _ (cell_two0 _ _ _ _) (cell_two1 _ _ _ _)).mono ?_; rintro e w' ⟨rfl, rfl⟩)
          | (go_at_call 73; refine (bit_any a _ (by omega) (by omega) _).mono ?_; rintro e w' ⟨rfl, rfl⟩)
          | (at_builtin; refine wpList_append_own _ rfl _ _ 35 rfl B 3 i0 (.int .i64 0) 1 8 Try.underlying35 hi hz0 hz1 hz2 rfl (by decide) _ _ _ rfl (hown.alloc _) ⟨wr.heap.size, 0, none⟩ 1 1 [.int .i64 (2 * R + bitZ a j - b)] rfl rfl ?c1 ?c2 ?c3 ?c4 ?c5 ?_))
        case c1 => exact (cell_one_new _ _ _)
        case c2 => intro u hu; simp at hu; subst hu; rfl
        case c3 => unfold maxLen; omega
        case c4 => omega
        case c5 => simp; omega
        intro v' w1 hown' hgrow _
        have hb2 := app_below hbel hBr hown hown' hgrow
        obtain ⟨A', c', rfl⟩ := own_shape hown'
        clear hgrow hown hbel
        go_wp2
        go_roundw
        case rel => exact ⟨j - 1, 0, A', c', D ++ [2 * R + bitZ a j - b], by omega, by omega, rfl, by rw [HX.out, HE.out.2], by simp, by simpa [Owns] using hown', by rw [List.append_assoc, ← HE.out.2, ← HX.out]; exact (by have h0 := HD0.out; rw [HN.out] at h0; exact h0), hb2⟩
        case measure => simp [intOf]; omega
      · have HE := hd (HD.out.2 (by omega))
        go_wp2_with (first
          | (go_at_call 55; refine (allValid_two k a b _ _ _ (cell_two0 _ _ _ _) (cell_two1 _ _ _ _)).mono ?_; rintro e w' ⟨rfl, rfl⟩)
          | (go_at_call 73; refine (bit_any a _ (by omega) (by omega) _).mono ?_; rintro e w' ⟨rfl, rfl⟩)
          | (at_builtin; refine wpList_append_own _ rfl _ _ 35 rfl B 3 i0 (.int .i64 0) 1 8 Try.underlying35 hi hz0 hz1 hz2 rfl (by decide) _ _ _ rfl (hown.alloc _) ⟨wr.heap.size, 0, none⟩ 1 1 [.int .i64 (2 * R + bitZ a j)] rfl rfl ?c1 ?c2 ?c3 ?c4 ?c5 ?_))
        case c1 => exact (cell_one_new _ _ _)
        case c2 => intro u hu; simp at hu; subst hu; rfl
        case c3 => unfold maxLen; omega
        case c4 => omega
        case c5 => simp; omega
        intro v' w1 hown' hgrow _
        have hb2 := app_below hbel hBr hown hown' hgrow
        obtain ⟨A', c', rfl⟩ := own_shape hown'
        clear hgrow hown hbel
        go_wp2
        go_roundw
        case rel => exact ⟨j - 1, 0, A', c', D ++ [2 * R + bitZ a j], by omega, by omega, rfl, by rw [HX.out, HE.out.2], by simp, by simpa [Owns] using hown', by rw [List.append_assoc, ← HE.out.2, ← HX.out]; exact (by have h0 := HD0.out; rw [HN.out] at h0; exact h0), hb2⟩
        case measure => simp [intOf]; omega
    · obtain rfl : j = -1 := by omega
      have HE := hd (show D = L by have h0 := HD0.out; simpa [dsF] using h0)
      go_wp2
      go_ret
      obtain rfl := HE.out
      exact ⟨A, c, rfl, hown, hbel⟩
theorem specDivideSteps_bad (k a b : Int) (hk0 : -1 ≤ k) (hk1 : k ≤ 13) (h : dvB k a b = false) (w : World) :
    Calls Try.prog 50 #[.int .i64 k, .int .i64 a, .int .i64 b] w (RetL w.heap.size [] w) := by
  have HF : Hid (RetL w.heap.size [] w (.returned (.slice (some ⟨w.heap.size, 0, none⟩) 0 0)) (w.alloc (.cells #[] 3))) :=
    ⟨_, 0, rfl, World.ownsRow_lit w #[] 0 (Nat.le_refl _) (by unfold maxLen; omega) rfl, (Below.refl _ _).alloc (Nat.le_refl _) _⟩
  by_cases hk : k < 1
  · clear h
    go_enter Try.func50, Try.ntmps50
    go_wp2
    refine wp_loop_rounds 1 ?_
    rw [rounds_succ]
    go_wp2
    go_ret
    exact HF.out
  · rcases dvB_cases h with hv | ⟨hv, rfl⟩
    · clear h
      go_enter Try.func50, Try.ntmps50
      go_wp2
      refine wp_loop_rounds 1 ?_
      rw [rounds_succ]
      go_wp2_with (go_at_call 53; refine (l1Both_any _ _ _ _).mono ?_; rintro e w' ⟨rfl, rfl⟩)
      go_ret
      exact HF.out
    · clear h
      go_enter Try.func50, Try.ntmps50
      go_wp2
      refine wp_loop_rounds 1 ?_
      rw [rounds_succ]
      go_wp2_with (go_at_call 53; refine (l1Both_any _ _ _ _).mono ?_; rintro e w' ⟨rfl, rfl⟩)
      go_ret
      exact HF.out
set_option maxHeartbeats 1000000 in
theorem specDivideSteps_ok (k a b : Int) (h : dvB k a b = true) (w : World) :
    Calls Try.prog 50 #[.int .i64 k, .int .i64 a, .int .i64 b] w (RetL w.heap.size (dsF a b k.toNat) w) := by
  obtain ⟨i0, hi, hz0, hz1, hz2⟩ := info_parts info_int
  obtain ⟨hv, hb1⟩ := dvB_true h
  obtain ⟨h1, h2, h3, h4, g3, g4, h5, h6⟩ := vld2_bd hv
  have hbz : (b == 0) = false := by simp; omega
  have hlen := dsF_len a b k.toNat
  obtain ⟨L, hL⟩ : ∃ L, dsF a b k.toNat = L := ⟨_, rfl⟩
  rw [hL] at hlen ⊢
  have HL := hd hL
  have hll : L.length ≤ 12 := by omega
  obtain ⟨B, hB⟩ : ∃ B, B = w.heap.size := ⟨_, rfl⟩
  rw [← hB]
  have hB1 : B ≤ w.heap.size := by omega
  clear h hL hB hlen
  go_enter Try.func50, Try.ntmps50
  go_wp2
  go_loopw [7, 8, 9] (fun v t i wr => ∃ (j r : Int) (A : Option Addr) (c : Nat) (D : List Int), -1 ≤ j ∧ j ≤ k - 1 ∧ i = .int .i64 j ∧ t = .int .i64 (a / pw (j + 1) % b) ∧ v = .slice A D.length c ∧ Owns wr B A c D ∧ D ++ dsF a b (j + 1).toNat = L ∧ Below B w wr) (fun _ _ i _ => (intOf i + 1).toNat)
  case atStart => exact ⟨k - 1, 0, _, 0, [], by omega, by omega, rfl, by rw [Int.sub_add_cancel, Int.ediv_eq_zero_of_lt h3 h4]; simp, rfl, World.ownsRow_lit w #[] 0 hB1 (by unfold maxLen; omega) rfl, by rw [List.nil_append, Int.sub_add_cancel]; exact HL.out, (Below.refl _ _).alloc hB1 _⟩
  case round =>
    obtain ⟨j, r, A, c, D, hj0, hj1, rfl, rfl, rfl, hown, hD, hbel⟩ := hrel
    have hDl : D.length ≤ 12 := by have := congrArg List.length hD; simp at this; omega
    have HD0 := hd hD
    clear hD
    have hBr : B ≤ wr.heap.size := Nat.le_trans hB1 hbel.size
    have hX0 : 0 ≤ a / pw (j + 1) := Int.ediv_nonneg h3 (by have := pw_pos (j + 1); omega)
    obtain ⟨m0, m1⟩ := mod_lt_bd (a / pw (j + 1)) b hb1
    by_cases hj : 0 ≤ j
    · obtain ⟨b0, b1⟩ := bitZ_bd a j
      have HX := hd (show a / pw (j - 1 + 1) = 2 * (a / pw (j + 1)) + bitZ a j by rw [Int.sub_add_cancel]; exact next_bit a j hj)
      have HD := hd (dstep (a / pw (j + 1)) b (bitZ a j) hb1 b0 b1)
      have HN := hd (dsF_step a b j hj)
      obtain ⟨X, hXX⟩ : ∃ X, a / pw (j + 1) = X := ⟨_, rfl⟩
      rw [hXX] at hX0 m0 m1 HX HD
      obtain ⟨R, hRR⟩ : ∃ R, X % b = R := ⟨_, rfl⟩
      rw [hRR] at m0 m1 HD
      by_cases ht : b ≤ 2 * R + bitZ a j
      · have HE := hd (HD.out.1 ht)
        go_wp2_with (first
          | (go_at_call 53; refine (l1Both_any _ _ _ _).mono ?_; rintro e w' ⟨rfl, rfl⟩)
          | (go_at_call 74; refine (l1Bit_any a _ (by omega) (by omega) (by omega) _).mono ?_; rintro e w' ⟨rfl, rfl⟩)
          | (at_builtin; refine wpList_append_own _ rfl _ _ 35 rfl B 3 i0 (.int .i64 0) 1 8 Try.underlying35 hi hz0 hz1 hz2 rfl (by decide) _ _ _ rfl (hown.alloc _) ⟨wr.heap.size, 0, none⟩ 1 1 [.int .i64 (2 * R + bitZ a j - b)] rfl rfl ?c1 ?c2 ?c3 ?c4 ?c5 ?_))
        case c1 => exact (cell_one_new _ _ _)
        case c2 => intro u hu; simp at hu; subst hu; rfl
        case c3 => unfold maxLen; omega
        case c4 => omega
        case c5 => simp; omega
        intro v' w1 hown' hgrow _
        have hb2 := app_below hbel hBr hown hown' hgrow
        obtain ⟨A', c', rfl⟩ := own_shape hown'
        clear hgrow hown hbel
        go_wp2
        go_roundw
        case rel => exact ⟨j - 1, 0, A', c', D ++ [2 * R + bitZ a j - b], by omega, by omega, rfl, by rw [HX.out, HE.out.2], by simp, by simpa [Owns] using hown', by rw [List.append_assoc, ← HE.out.2, ← HX.out]; exact (by have h0 := HD0.out; rw [HN.out] at h0; exact h0), hb2⟩
        case measure => simp [intOf]; omega
      · have HE := hd (HD.out.2 (by omega))
        go_wp2_with (first
          | (go_at_call 53; refine (l1Both_any _ _ _ _).mono ?_; rintro e w' ⟨rfl, rfl⟩)
          | (go_at_call 74; refine (l1Bit_any a _ (by omega) (by omega) (by omega) _).mono ?_; rintro e w' ⟨rfl, rfl⟩)
          | (at_builtin; refine wpList_append_own _ rfl _ _ 35 rfl B 3 i0 (.int .i64 0) 1 8 Try.underlying35 hi hz0 hz1 hz2 rfl (by decide) _ _ _ rfl (hown.alloc _) ⟨wr.heap.size, 0, none⟩ 1 1 [.int .i64 (2 * R + bitZ a j)] rfl rfl ?c1 ?c2 ?c3 ?c4 ?c5 ?_))
        case c1 => exact (cell_one_new _ _ _)
        case c2 => intro u hu; simp at hu; subst hu; rfl
        case c3 => unfold maxLen; omega
        case c4 => omega
        case c5 => simp; omega
        intro v' w1 hown' hgrow _
        have hb2 := app_below hbel hBr hown hown' hgrow
        obtain ⟨A', c', rfl⟩ := own_shape hown'
        clear hgrow hown hbel
        go_wp2
        go_roundw
        case rel => exact ⟨j - 1, 0, A', c', D ++ [2 * R + bitZ a j], by omega, by omega, rfl, by rw [HX.out, HE.out.2], by simp, by simpa [Owns] using hown', by rw [List.append_assoc, ← HE.out.2, ← HX.out]; exact (by have h0 := HD0.out; rw [HN.out] at h0; exact h0), hb2⟩
        case measure => simp [intOf]; omega
    · obtain rfl : j = -1 := by omega
      have HE := hd (show D = L by have h0 := HD0.out; simpa [dsF] using h0)
      go_wp2
      go_ret
      obtain rfl := HE.out
      exact ⟨A, c, rfl, hown, hbel⟩
end Go.Proofs.Ythbpcgefcnpfmaa
