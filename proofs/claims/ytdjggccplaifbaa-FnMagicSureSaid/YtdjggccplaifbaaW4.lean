/- Contracts of MagicOk, MagicSure, MagicOf of the program and of the reference; conditions: those that are written at each. -/
import Derived.Test.YtdjggccplaifbaaW1
import Derived.Test.YtdjggccplaifbaaMathM
namespace Go.Proofs.Ytdjggccplaifbaa
open Go.RowKit
theorem magicArguments_any (k d m s : Int) (w : World) :
    Calls Try.prog 74 #[.int .i64 k, .int .i64 d, .int .i64 m, .int .i64 s] w fun e w' => e = .returned (.bool (magB k d m s)) ∧ w = w' := by
  have HB := hd (magB_and k d m s)
  rcases b1 : inB k 1 12 with _ | _
  · go_enter Try.func74, Try.ntmps74
    go_wp2_with (first
      | (go_at_call 79; refine (isWidth_any _ _).mono ?_; rintro e w' ⟨rfl, rfl⟩)
      | (go_at_call 67; refine (within_any _ _ _ _).mono ?_; rintro e w' ⟨rfl, rfl⟩))
    go_ret
    exact ⟨ret_b (by rw [HB.out, b1]; rfl), rfl⟩
  rcases b2 : inB d 1 4095 with _ | _
  · go_enter Try.func74, Try.ntmps74
    go_wp2_with (first
      | (go_at_call 79; refine (isWidth_any _ _).mono ?_; rintro e w' ⟨rfl, rfl⟩)
      | (go_at_call 67; refine (within_any _ _ _ _).mono ?_; rintro e w' ⟨rfl, rfl⟩))
    go_ret
    exact ⟨ret_b (by rw [HB.out, b1, b2]; rfl), rfl⟩
  rcases b3 : inB m 0 67108863 with _ | _
  · go_enter Try.func74, Try.ntmps74
    go_wp2_with (first
      | (go_at_call 79; refine (isWidth_any _ _).mono ?_; rintro e w' ⟨rfl, rfl⟩)
      | (go_at_call 67; refine (within_any _ _ _ _).mono ?_; rintro e w' ⟨rfl, rfl⟩))
    go_ret
    exact ⟨ret_b (by rw [HB.out, b1, b2, b3]; rfl), rfl⟩
  rcases b4 : inB s 0 24 with _ | _
  all_goals
    go_enter Try.func74, Try.ntmps74
    go_wp2_with (first
      | (go_at_call 79; refine (isWidth_any _ _).mono ?_; rintro e w' ⟨rfl, rfl⟩)
      | (go_at_call 67; refine (within_any _ _ _ _).mono ?_; rintro e w' ⟨rfl, rfl⟩))
    go_ret
    exact ⟨ret_b (by rw [HB.out, b1, b2, b3, b4]; rfl), rfl⟩
theorem implMagicOk_any (k d m s : Int) (w : World) :
    Calls Try.prog 33 #[.int .i64 k, .int .i64 d, .int .i64 m, .int .i64 s] w fun e w' => e = .returned (.bool (mokB k d m s)) ∧ ∃ n, w' = w.drewN n := by
  rcases hb : magB k d m s with _ | _
  · have HB := hd (mokB_bad hb)
    go_enter Try.func33, Try.ntmps33
    go_wp2_with (go_at_call 74; refine (magicArguments_any _ _ _ _ _).mono ?_; rintro e w' ⟨rfl, rfl⟩)
    go_ret
    exact ⟨ret_b HB.out.symm, 0, rfl⟩
  · obtain ⟨c1, c2, c3, c4, c5, c6, c7, c8⟩ := magB_true.1 hb
    obtain ⟨p1, p2⟩ := pw_w k c1 c2
    have q1 := pw_pos s
    have es := shl_pw s
    go_enter Try.func33, Try.ntmps33
    go_wp2_with (first
      | (go_at_call 74; refine (magicArguments_any _ _ _ _ _).mono ?_; rintro e w' ⟨rfl, rfl⟩)
      | (go_at_call 75; refine (power_any _ (by omega) (by omega) _).mono ?_; rintro e w' ⟨rfl, rfl⟩))
    go_loopw [18] (fun i wr => ∃ n x : Nat, (x : Int) ≤ pw k ∧ i = .int .i64 x ∧ mokTo d m s x ∧ wr = w.drewN n) (fun i _ => (pw k).toNat - (intOf i).toNat)
    case atStart => exact ⟨0, 0, by omega, rfl, fun _ h => absurd h (by omega), rfl⟩
    case round =>
      obtain ⟨n, x, hx, rfl, hto, rfl⟩ := hrel
      have HT := hd hto
      clear hto
      by_cases hlt : (x : Int) < pw k
      · obtain ⟨r1, r2⟩ := mul_bd (x := (x : Int)) (y := m) (X := 4096) (Y := 67108863) (by omega) (by omega) (by omega) (by omega)
        obtain ⟨t1, t2⟩ := ediv_bd (x := (x : Int)) (c := d) (by omega) c3
        by_cases he : (x : Int) * m / pw s = (x : Int) / d
        · have HE := hd he
          have h1 : ((x : Int) * m / pw s != (x : Int) / d) = false := by simpa using he
          clear he
          go_wp2
          go_quiet (fail)
          go_wp2
          go_roundw
          case rel => exact ⟨_, x + 1, by omega, by go_num, mokTo_succ HT.out HE.out, rfl⟩
          case measure => simp [intOf]; omega
        · have HN := hd (mokB_no (mokP_not hlt he))
          have h1 : ((x : Int) * m / pw s != (x : Int) / d) = true := by simpa using he
          clear he
          go_wp2
          go_quiet (fail)
          go_wp2
          go_ret
          exact ⟨ret_b HN.out.symm, _, drewN2 _ _ _⟩
      · have HY := hd (mokB_yes hb (mokP_of hlt HT.out))
        go_wp2
        go_ret
        exact ⟨ret_b HY.out.symm, _, rfl⟩
theorem specMagicOk_any (k d m s : Int) (w : World) :
    Calls Try.prog 34 #[.int .i64 k, .int .i64 d, .int .i64 m, .int .i64 s] w fun e w' => e = .returned (.bool (mokB k d m s)) ∧ ∃ n, w' = w.drewN n := by
  rcases b1 : inB k 1 12 with _ | _
  · have HB := hd (mokB_bad (k := k) (d := d) (m := m) (s := s) (by rw [magB_and, b1]; rfl))
    go_enter Try.func34, Try.ntmps34
    go_wp2_with (go_at_call 66; refine (l1In_any _ _ _ _).mono ?_; rintro e w' ⟨rfl, rfl⟩)
    go_ret
    exact ⟨ret_b HB.out.symm, 0, rfl⟩
  rcases b2 : inB d 1 4095 with _ | _
  · have HB := hd (mokB_bad (k := k) (d := d) (m := m) (s := s) (by rw [magB_and, b1, b2]; rfl))
    go_enter Try.func34, Try.ntmps34
    go_wp2_with (go_at_call 66; refine (l1In_any _ _ _ _).mono ?_; rintro e w' ⟨rfl, rfl⟩)
    go_ret
    exact ⟨ret_b HB.out.symm, 0, rfl⟩
  rcases b3 : inB m 0 67108863 with _ | _
  · have HB := hd (mokB_bad (k := k) (d := d) (m := m) (s := s) (by rw [magB_and, b1, b2, b3]; rfl))
    go_enter Try.func34, Try.ntmps34
    go_wp2_with (go_at_call 66; refine (l1In_any _ _ _ _).mono ?_; rintro e w' ⟨rfl, rfl⟩)
    go_ret
    exact ⟨ret_b HB.out.symm, 0, rfl⟩
  rcases b4 : inB s 0 24 with _ | _
  · have HB := hd (mokB_bad (k := k) (d := d) (m := m) (s := s) (by rw [magB_and, b1, b2, b3, b4]; rfl))
    go_enter Try.func34, Try.ntmps34
    go_wp2_with (go_at_call 66; refine (l1In_any _ _ _ _).mono ?_; rintro e w' ⟨rfl, rfl⟩)
    go_ret
    exact ⟨ret_b HB.out.symm, 0, rfl⟩
  have hb : magB k d m s = true := by rw [magB_and, b1, b2, b3, b4]; rfl
  obtain ⟨c1, c2, c3, c4, c5, c6, c7, c8⟩ := magB_true.1 hb
  obtain ⟨p1, p2⟩ := pw_w k c1 c2
  have q1 := pw_pos s
  have es := shl_pw s
  have ek := shl_pw k
  clear hb
  go_enter Try.func34, Try.ntmps34
  go_wp2_with (go_at_call 66; refine (l1In_any _ _ _ _).mono ?_; rintro e w' ⟨rfl, rfl⟩)
  have hb : magB k d m s = true := by rw [magB_and, b1, b2, b3, b4]; rfl
  clear b1 b2 b3 b4
  go_loopw [9] (fun i wr => ∃ n x : Nat, (x : Int) ≤ pw k ∧ i = .int .i64 x ∧ mokTo d m s x ∧ wr = w.drewN n) (fun i _ => (pw k).toNat - (intOf i).toNat)
  case atStart => exact ⟨0, 0, by omega, rfl, fun _ h => absurd h (by omega), rfl⟩
  case round =>
    obtain ⟨n, x, hx, rfl, hto, rfl⟩ := hrel
    have HT := hd hto
    clear hto
    by_cases hlt : (x : Int) < pw k
    · obtain ⟨r1, r2⟩ := mul_bd (x := (x : Int)) (y := m) (X := 4096) (Y := 67108863) (by omega) (by omega) (by omega) (by omega)
      obtain ⟨t1, t2⟩ := ediv_bd (x := (x : Int)) (c := d) (by omega) c3
      by_cases he : (x : Int) * m / pw s = (x : Int) / d
      · have HE := hd he
        have h1 : ((x : Int) * m / pw s != (x : Int) / d) = false := by simpa using he
        clear he
        go_wp2
        go_quiet (fail)
        go_wp2
        go_roundw
        case rel => exact ⟨_, x + 1, by omega, by go_num, mokTo_succ HT.out HE.out, rfl⟩
        case measure => simp [intOf]; omega
      · have HN := hd (mokB_no (mokP_not hlt he))
        have h1 : ((x : Int) * m / pw s != (x : Int) / d) = true := by simpa using he
        clear he
        go_wp2
        go_quiet (fail)
        go_wp2
        go_ret
        exact ⟨ret_b HN.out.symm, _, drewN2 _ _ _⟩
    · have HY := hd (mokB_yes hb (mokP_of hlt HT.out))
      go_wp2
      go_ret
      exact ⟨ret_b HY.out.symm, _, rfl⟩
theorem implMagicSure_any (k d m s : Int) (w : World) :
    Calls Try.prog 37 #[.int .i64 k, .int .i64 d, .int .i64 m, .int .i64 s] w fun e w' => e = .returned (.bool (msuB k d m s)) ∧ w = w' := by
  rcases hb : magB k d m s with _ | _
  · have HB := hd (show msuB k d m s = false by unfold msuB; rw [hb]; rfl)
    go_enter Try.func37, Try.ntmps37
    go_wp2_with (go_at_call 74; refine (magicArguments_any _ _ _ _ _).mono ?_; rintro e w' ⟨rfl, rfl⟩)
    go_ret
    exact ⟨ret_b HB.out.symm, rfl⟩
  · obtain ⟨c1, c2, c3, c4, c5, c6, c7, c8⟩ := magB_true.1 hb
    by_cases hs : s < k
    · have HB := hd (show msuB k d m s = false by unfold msuB; rw [decide_eq_false (by omega : ¬ k ≤ s)]; simp)
      go_enter Try.func37, Try.ntmps37
      go_wp2_with (go_at_call 74; refine (magicArguments_any _ _ _ _ _).mono ?_; rintro e w' ⟨rfl, rfl⟩)
      go_ret
      exact ⟨ret_b HB.out.symm, rfl⟩
    · have HB := hd (show msuB k d m s = inB (m * d - pw s) 0 (pw (s - k)) by unfold msuB; rw [hb, decide_eq_true (by omega : k ≤ s)]; rfl)
      obtain ⟨r1, r2⟩ := mul_bd (x := m) (y := d) (X := 67108863) (Y := 4095) (by omega) (by omega) (by omega) (by omega)
      obtain ⟨q1, q2⟩ := pw_le24 s c8
      go_enter Try.func37, Try.ntmps37
      go_wp2_with (first
        | (go_at_call 74; refine (magicArguments_any _ _ _ _ _).mono ?_; rintro e w' ⟨rfl, rfl⟩)
        | (go_at_call 75; refine (power_any _ (by omega) (by omega) _).mono ?_; rintro e w' ⟨rfl, rfl⟩)
        | (go_at_call 67; refine (within_any _ _ _ _).mono ?_; rintro e w' ⟨rfl, rfl⟩))
      go_ret
      exact ⟨ret_b HB.out.symm, rfl⟩
theorem specMagicSure_any (k d m s : Int) (w : World) :
    Calls Try.prog 38 #[.int .i64 k, .int .i64 d, .int .i64 m, .int .i64 s] w fun e w' => e = .returned (.bool (msuB k d m s)) ∧ ∃ n, w' = w.drewN n := by
  rcases b1 : inB k 1 12 with _ | _
  · have HB := hd (show msuB k d m s = false by rw [msuB_and, b1]; rfl)
    go_enter Try.func38, Try.ntmps38
    go_wp2_with (go_at_call 66; refine (l1In_any _ _ _ _).mono ?_; rintro e w' ⟨rfl, rfl⟩)
    go_ret
    exact ⟨ret_b HB.out.symm, 0, rfl⟩
  rcases b2 : inB d 1 4095 with _ | _
  · have HB := hd (show msuB k d m s = false by rw [msuB_and, b1, b2]; rfl)
    go_enter Try.func38, Try.ntmps38
    go_wp2_with (go_at_call 66; refine (l1In_any _ _ _ _).mono ?_; rintro e w' ⟨rfl, rfl⟩)
    go_ret
    exact ⟨ret_b HB.out.symm, 0, rfl⟩
  rcases b3 : inB m 0 67108863 with _ | _
  · have HB := hd (show msuB k d m s = false by rw [msuB_and, b1, b2, b3]; rfl)
    go_enter Try.func38, Try.ntmps38
    go_wp2_with (go_at_call 66; refine (l1In_any _ _ _ _).mono ?_; rintro e w' ⟨rfl, rfl⟩)
    go_ret
    exact ⟨ret_b HB.out.symm, 0, rfl⟩
  rcases b4 : inB s k 24 with _ | _
  · have HB := hd (show msuB k d m s = false by rw [msuB_and, b1, b2, b3, b4]; rfl)
    go_enter Try.func38, Try.ntmps38
    go_wp2_with (go_at_call 66; refine (l1In_any _ _ _ _).mono ?_; rintro e w' ⟨rfl, rfl⟩)
    go_ret
    exact ⟨ret_b HB.out.symm, 0, rfl⟩
  obtain ⟨a1, a2⟩ := inB_true.1 b1
  obtain ⟨a3, a4⟩ := inB_true.1 b2
  obtain ⟨a5, a6⟩ := inB_true.1 b3
  obtain ⟨a7, a8⟩ := inB_true.1 b4
  have HB := hd (show msuB k d m s = inB (m * d - pw s) 0 (pw (s - k)) by rw [msuB_and, b1, b2, b3, b4]; rfl)
  obtain ⟨r1, r2⟩ := mul_bd (x := m) (y := d) (X := 67108863) (Y := 4095) (by omega) (by omega) (by omega) (by omega)
  obtain ⟨q1, q2⟩ := pw_le24 s (by omega)
  obtain ⟨q3, q4⟩ := pw_le24 (s - k) (by omega)
  have es := shl_pw s
  have ek := shl_pw (s - k)
  go_enter Try.func38, Try.ntmps38
  go_wp2_with (go_at_call 66; refine (l1In_any _ _ _ _).mono ?_; rintro e w' ⟨rfl, rfl⟩)
  clear b1 b2 b3 b4
  have s1 := wr (m * d) (by omega)
  have s2 := wr (pw s) (by omega)
  have s3 := wr (m * d - pw s) (by omega)
  have s4 := wr (s - k) (by omega)
  have s5 := wr (pw (s - k)) (by omega)
  have s6 : 0 ≤ s - k := by omega
  go_quiet ((go_at_call 66; exact quiet_left (l1In_any _ _ _ _)))
  clear s1 s2 s3 s4 s5 s6
  go_wp2
  go_ret
  exact ⟨ret_b HB.out.symm, _, rfl⟩
/-- the arguments of MagicOf -/
def mofB (k d : Int) : Bool := inB k 1 12 && inB d 1 (pw k - 1)
theorem mofB_true {k d : Int} (h : mofB k d = true) : 1 ≤ k ∧ k ≤ 12 ∧ 1 ≤ d ∧ d < pw k := by
  simp only [mofB, Bool.and_eq_true] at h
  obtain ⟨a, b⟩ := inB_true.1 h.1
  obtain ⟨c, e⟩ := inB_true.1 h.2
  exact ⟨a, b, c, by omega⟩
theorem implMagicOf_bad (k d : Int) (h : mofB k d = false) (w : World) :
    Calls Try.prog 44 #[.int .i64 k, .int .i64 d] w fun e w' => e = .returned (.tuple #[.int .i64 (-1), .int .i64 (-1), .bool false]) ∧ w = w' := by
  rcases b1 : inB k 1 12 with _ | _
  · go_enter Try.func44, Try.ntmps44
    go_wp2_with (go_at_call 79; refine (isWidth_any _ _).mono ?_; rintro e w' ⟨rfl, rfl⟩)
    go_ret3
    exact ⟨rfl, rfl⟩
  · have h2 : inB d 1 (pw k - 1) = false := by simpa [mofB, b1] using h
    obtain ⟨a1, a2⟩ := inB_true.1 b1
    obtain ⟨p1, p2⟩ := pw_w k a1 a2
    go_enter Try.func44, Try.ntmps44
    go_wp2_with (first
      | (go_at_call 79; refine (isWidth_any _ _).mono ?_; rintro e w' ⟨rfl, rfl⟩)
      | (go_at_call 75; refine (power_any _ (by omega) (by omega) _).mono ?_; rintro e w' ⟨rfl, rfl⟩)
      | (go_at_call 67; refine (within_any _ _ _ _).mono ?_; rintro e w' ⟨rfl, rfl⟩))
    go_ret3
    exact ⟨rfl, rfl⟩
theorem specMagicOf_bad (k d : Int) (h : mofB k d = false) (w : World) :
    Calls Try.prog 45 #[.int .i64 k, .int .i64 d] w fun e w' => e = .returned (.tuple #[.int .i64 (-1), .int .i64 (-1), .bool false]) ∧ w = w' := by
  rcases b1 : inB k 1 12 with _ | _
  · go_enter Try.func45, Try.ntmps45
    go_wp2_with (go_at_call 66; refine (l1In_any _ _ _ _).mono ?_; rintro e w' ⟨rfl, rfl⟩)
    go_ret3
    exact ⟨rfl, rfl⟩
  · have h2 : inB d 1 (pw k - 1) = false := by simpa [mofB, b1] using h
    obtain ⟨a1, a2⟩ := inB_true.1 b1
    obtain ⟨p1, p2⟩ := pw_w k a1 a2
    have ek := shl_pw k
    go_enter Try.func45, Try.ntmps45
    go_wp2_with (go_at_call 66; refine (l1In_any _ _ _ _).mono ?_; rintro e w' ⟨rfl, rfl⟩)
    go_ret3
    exact ⟨rfl, rfl⟩
theorem implMagicOf_ok (k d : Int) (j : Nat) (h : mofB k d = true) (hj : mofIs k d j) (w : World) :
    Calls Try.prog 44 #[.int .i64 k, .int .i64 d] w fun e w' => e = .returned (.tuple #[.int .i64 (magM d j), .int .i64 j, .bool true]) ∧ ∃ n, w' = w.drewN n := by
  obtain ⟨a1, a2, a3, a4⟩ := mofB_true h
  obtain ⟨j1, j2, j3, j4⟩ := hj
  have b1 := inB_mk a1 a2
  have b2 := inB_mk a3 (show d ≤ pw k - 1 by omega)
  obtain ⟨p1, p2⟩ := pw_w k a1 a2
  have J3 := hd j3
  have J4 := hd j4
  clear j3 j4
  go_enter Try.func44, Try.ntmps44
  go_wp2_with (first
    | (go_at_call 79; refine (isWidth_any _ _).mono ?_; rintro e w' ⟨rfl, rfl⟩)
    | (go_at_call 75; refine (power_any _ (by omega) (by omega) _).mono ?_; rintro e w' ⟨rfl, rfl⟩)
    | (go_at_call 67; refine (within_any _ _ _ _).mono ?_; rintro e w' ⟨rfl, rfl⟩))
  clear b1 b2
  go_loopw [7] (fun t wr => ∃ n i : Nat, k ≤ i ∧ i ≤ j ∧ t = .int .i64 i ∧ wr = w.drewN n) (fun t _ => 25 - (intOf t).toNat)
  case atStart => exact ⟨0, k.toNat, by omega, by omega, by rw [Int.toNat_of_nonneg (by omega)], rfl⟩
  case round =>
    obtain ⟨n, i, hi1, hi2, rfl, rfl⟩ := hrel
    obtain ⟨q1, q2⟩ := pw_le24 i (by omega)
    obtain ⟨m1, m2⟩ := magM_bd d i a3 (by omega) (by omega)
    have HM := hd (show magM d i = (pw i + d - 1) / d from rfl)
    by_cases hlt : i < j
    · have hm : mokB k d ((pw i + d - 1) / d) i = false := J4.out i hi1 hlt
      go_wp2_with (first
        | (go_at_call 75; refine (power_any _ (by omega) (by omega) _).mono ?_; rintro e w' ⟨rfl, rfl⟩)
        | (go_at_call 33; refine (implMagicOk_any _ _ _ _ _).mono ?_; rintro e w' ⟨rfl, n2, rfl⟩))
      go_roundw
      case rel => exact ⟨_, i + 1, by omega, by omega, by go_num, rfl⟩
      case measure => simp [intOf]; omega
    · obtain rfl : i = j := by omega
      have hm : mokB k d ((pw i + d - 1) / d) i = true := J3.out
      go_wp2_with (first
        | (go_at_call 75; refine (power_any _ (by omega) (by omega) _).mono ?_; rintro e w' ⟨rfl, rfl⟩)
        | (go_at_call 33; refine (implMagicOk_any _ _ _ _ _).mono ?_; rintro e w' ⟨rfl, n2, rfl⟩))
      go_ret3
      exact ⟨by rw [HM.out]; rfl, _, rfl⟩
theorem specMagicOf_ok (k d : Int) (j : Nat) (h : mofB k d = true) (hj : mofIs k d j) (w : World) :
    Calls Try.prog 45 #[.int .i64 k, .int .i64 d] w fun e w' => e = .returned (.tuple #[.int .i64 (magM d j), .int .i64 j, .bool true]) ∧ ∃ n, w' = w.drewN n := by
  obtain ⟨a1, a2, a3, a4⟩ := mofB_true h
  obtain ⟨j1, j2, j3, j4⟩ := hj
  have b1 := inB_mk a1 a2
  have b2 := inB_mk a3 (show d ≤ pw k - 1 by omega)
  obtain ⟨p1, p2⟩ := pw_w k a1 a2
  have J3 := hd j3
  have J4 := hd j4
  have ek := shl_pw k
  clear j3 j4
  go_enter Try.func45, Try.ntmps45
  go_wp2_with (go_at_call 66; refine (l1In_any _ _ _ _).mono ?_; rintro e w' ⟨rfl, rfl⟩)
  clear b1 b2 ek
  go_loopw [7] (fun t wr => ∃ n i : Nat, k ≤ i ∧ i ≤ j ∧ t = .int .i64 i ∧ wr = w.drewN n) (fun t _ => 25 - (intOf t).toNat)
  case atStart => exact ⟨0, k.toNat, by omega, by omega, by rw [Int.toNat_of_nonneg (by omega)], rfl⟩
  case round =>
    obtain ⟨n, i, hi1, hi2, rfl, rfl⟩ := hrel
    obtain ⟨q1, q2⟩ := pw_le24 i (by omega)
    obtain ⟨m1, m2⟩ := magM_bd d i a3 (by omega) (by omega)
    have HM := hd (show magM d i = (pw i + d - 1) / d from rfl)
    have ei := shl_pwn i
    by_cases hlt : i < j
    · have hm : mokB k d ((pw i + d - 1) / d) i = false := J4.out i hi1 hlt
      go_wp2_with (go_at_call 34; refine (specMagicOk_any _ _ _ _ _).mono ?_; rintro e w' ⟨rfl, n2, rfl⟩)
      go_roundw
      case rel => exact ⟨_, i + 1, by omega, by omega, by go_num, rfl⟩
      case measure => simp [intOf]; omega
    · obtain rfl : i = j := by omega
      have hm : mokB k d ((pw i + d - 1) / d) i = true := J3.out
      go_wp2_with (go_at_call 34; refine (specMagicOk_any _ _ _ _ _).mono ?_; rintro e w' ⟨rfl, n2, rfl⟩)
      go_ret3
      exact ⟨by rw [HM.out]; rfl, _, rfl⟩
end Go.Proofs.Ytdjggccplaifbaa
