/- Contracts of further functions of chapter 5 (lengths, filled words, the next with as many ones, all with so many ones, counting by halves); conditions: that the word is valid, or that it is not. -/
import Derived.Test.YtgbgpibaincheaaW6
import Derived.Test.YtgbgpibaincheaaW5
import Derived.Test.YtgbgpibaincheaaW2
import Derived.Test.YtgbgpibaincheaaOwn
import Derived.Test.YtgbgpibaincheaaMathX
import Derived.Test.YtgbgpibaincheaaWL
namespace Go.Proofs.Ytgbgpibaincheaa
open Go.RowKit
theorem ret_t {a b : Int} {s t : Bool} (h : a = b) (g : s = t) : Ending.returned (.tuple #[.int .i64 a, .bool s]) = .returned (.tuple #[.int .i64 b, .bool t]) := by rw [h, g]
theorem len_lib_chk : chk (fun x => ((Lib.bitLen x : Nat) : Int) == lenZ x) 12 0 = true := by decide +kernel
theorem len_lib (x : Int) (h0 : 0 ≤ x) (h : x < 4096) : ((Lib.bitLen x.toNat : Nat) : Int) = lenZ x := by
  obtain ⟨n, rfl⟩ := Int.eq_ofNat_of_zero_le h0
  have := chk_sound _ 12 0 len_lib_chk n (by omega) (by omega)
  simpa using this
theorem len64_any (x : Int) (h0 : 0 ≤ x) (h1 : x < 4096) (w : World) :
    Calls Try.prog 104 #[.int .u64 x] w fun e w' => e = .returned (.int .i64 (lenZ x)) ∧ w = w' :=
  (len64_lib x h0 (by omega) w).mono fun e w' h => ⟨h.1.trans (ret_i (len_lib x h0 h1)), h.2.symm⟩
theorem len_any (x : Int) (h0 : 0 ≤ x) (h : x < 4096) (w : World) :
    Calls Try.prog 72 #[.int .u64 x] w fun e w' => e = .returned (.int .i64 (lenZ x)) ∧ w = w' := by
  go_enter Try.func72, Try.ntmps72
  go_wp2_with (go_at_call 104; refine (len64_any _ h0 h _).mono ?_; rintro e w' ⟨rfl, rfl⟩)
  go_ret
  exact ⟨rfl, rfl⟩
theorem implZerosAbove_bad (k x : Int) (h : vld k x = false) (w : World) :
    Calls Try.prog 23 #[.int .i64 k, .int .i64 x] w fun e w' => e = .returned (.int .i64 (-1)) ∧ w = w' := by
  go_enter Try.func23, Try.ntmps23
  go_wp2_with (first
    | (go_at_call 53; refine (implWordValid_any _ _ _).mono ?_; rintro e w' ⟨rfl, rfl⟩)
    | go_in)
  go_ret
  exact ⟨rfl, rfl⟩
theorem specZerosAbove_bad (k x : Int) (h : vld k x = false) (w : World) :
    Calls Try.prog 22 #[.int .i64 k, .int .i64 x] w fun e w' => e = .returned (.int .i64 (-1)) ∧ w = w' := by
  go_enter Try.func22, Try.ntmps22
  go_wp2_with (go_at_call 70; refine (specWordValid_any _ _ _).mono ?_; rintro e w' ⟨rfl, rfl⟩)
  go_ret
  exact ⟨rfl, rfl⟩
theorem implFillBelow_bad (k x : Int) (h : vld k x = false) (w : World) :
    Calls Try.prog 27 #[.int .i64 k, .int .i64 x] w fun e w' => e = .returned (.int .i64 (-1)) ∧ w = w' := by
  go_enter Try.func27, Try.ntmps27
  go_wp2_with (first
    | (go_at_call 53; refine (implWordValid_any _ _ _).mono ?_; rintro e w' ⟨rfl, rfl⟩)
    | go_in)
  go_ret
  exact ⟨rfl, rfl⟩
theorem implZerosAbove_ok (k x : Int) (h : vld k x = true) (w : World) :
    Calls Try.prog 23 #[.int .i64 k, .int .i64 x] w fun e w' => e = .returned (.int .i64 (k - lenZ x)) ∧ w = w' := by
  obtain ⟨h1, h2, h3, h4, h5, h6⟩ := vld_4096 h
  obtain ⟨⟨g1, g2, _⟩, _⟩ := len_is x h3 (by omega)
  go_enter Try.func23, Try.ntmps23
  go_wp2_with (first
    | (go_at_call 53; refine (implWordValid_any _ _ _).mono ?_; rintro e w' ⟨rfl, rfl⟩)
    | (go_at_call 72; refine (len_any _ (by omega) (by omega) _).mono ?_; rintro e w' ⟨rfl, rfl⟩))
  go_ret
  exact ⟨rfl, rfl⟩
theorem specZerosAbove_ok (k x : Int) (h : vld k x = true) (w : World) :
    Calls Try.prog 22 #[.int .i64 k, .int .i64 x] w fun e w' => e = .returned (.int .i64 (k - lenZ x)) ∧ w = w' := by
  obtain ⟨h1, h2, h3, h4, h5, h6⟩ := vld_4096 h
  obtain ⟨⟨g1, g2, _⟩, _⟩ := len_is x h3 (by omega)
  have hle := len_le k x h
  have HA := hd (fun j hj => bit_above k x h j hj)
  have HT := hd (fun j hj => bit_top k x h j hj)
  obtain ⟨Z, hZ⟩ : ∃ Z, lenZ x = Z := ⟨_, rfl⟩
  rw [hZ] at g1 g2 hle HA HT ⊢
  clear hZ
  go_enter Try.func22, Try.ntmps22
  go_wp2_with (go_at_call 70; refine (specWordValid_any _ _ _).mono ?_; rintro e w' ⟨rfl, rfl⟩)
  go_loop [5] (fun n => ∃ j : Nat, (j : Int) ≤ k - Z ∧ n = .int .i64 j) (fun n => (k - intOf n).toNat)
  case atStart => exact ⟨0, by omega, rfl⟩
  case round =>
    obtain ⟨j, hj, rfl⟩ := hrel
    have hb := bitZ_bd x (k - 1 - j)
    by_cases hlt : (j : Int) < k - Z
    · have hbit : bitZ x (k - 1 - j) = 0 := by
        have := HA.out (k - 1 - j).toNat (by omega)
        rwa [show (((k - 1 - j).toNat : Nat) : Int) = k - 1 - j by omega] at this
      go_wp2_with (go_at_call 71; refine (l1Bit_any _ _ (by omega) (by omega) (by omega) _).mono ?_; rintro e w' ⟨rfl, rfl⟩)
      go_round
      case rel => exact ⟨j + 1, by omega, by go_num⟩
      case measure => simp [intOf]; omega
    · have hjz : (j : Int) = k - Z := by omega
      have HJ := hd hjz
      by_cases hz : Z = 0
      · have hjk : (j : Int) = k := by omega
        clear hjz
        go_wp2
        go_ret
        exact ⟨ret_i (by have := HJ.out; omega), rfl⟩
      · have hbit : bitZ x (k - 1 - j) = 1 := by
          have := HT.out (k - 1 - j).toNat (by omega)
          rwa [show (((k - 1 - j).toNat : Nat) : Int) = k - 1 - j by omega] at this
        have hjk : (j : Int) < k := by omega
        clear hjz
        go_wp2_with (go_at_call 71; refine (l1Bit_any _ _ (by omega) (by omega) (by omega) _).mono ?_; rintro e w' ⟨rfl, rfl⟩)
        go_ret
        exact ⟨ret_i HJ.out, rfl⟩
theorem implFillBelow_ok (k x : Int) (h : vld k x = true) (w : World) :
    Calls Try.prog 27 #[.int .i64 k, .int .i64 x] w fun e w' => e = .returned (.int .i64 (fbZ x)) ∧ w = w' := by
  obtain ⟨h1, h2, h3, h4, h5, h6⟩ := vld_4096 h
  obtain ⟨⟨g1, g2, _⟩, HF, _⟩ := len_is x h3 (by omega)
  obtain ⟨b1, b2⟩ := fbN_bd k 4 x h3 h4
  change 0 ≤ fbZ x at b1
  change fbZ x < pw k at b2
  have HE := hd (show (pw (lenZ x) - 1) % pw k = fbZ x by rw [← HF]; exact emod_small b1 b2)
  obtain ⟨p1, p2⟩ := pw_le12 (lenZ x) g2
  clear HF b1 b2
  obtain ⟨Z, hZ⟩ : ∃ Z, lenZ x = Z := ⟨_, rfl⟩
  rw [hZ] at g1 g2 p1 p2 HE
  have HL := hd (fun W => len_any x h3 (by omega) W)
  rw [hZ] at HL
  clear hZ
  go_enter Try.func27, Try.ntmps27
  go_wp2_with (first
    | (go_at_call 53; refine (implWordValid_any _ _ _).mono ?_; rintro e w' ⟨rfl, rfl⟩)
    | (go_at_call 102; refine (cut_any _ _ (by omega) (by omega) _).mono ?_; rintro e w' ⟨rfl, rfl⟩)
    | (go_at_call 77; refine (power_any _ (by omega) (by omega) _).mono ?_; rintro e w' ⟨rfl, rfl⟩)
    | (go_at_call 72; refine (HL.out _).mono ?_; rintro e w' ⟨rfl, rfl⟩)
    | go_in)
  go_ret
  exact ⟨ret_i HE.out, rfl⟩
theorem implNextSame_any (k x : Int) (w : World) :
    Calls Try.prog 36 #[.int .i64 k, .int .i64 x] w fun e w' => e = .returned (.tuple #[.int .i64 (nsOut k x), .bool (nsOk k x)]) ∧ w = w' := by
  rcases hv : vld k x with _ | _
  · have HO := hd (show nsOk k x = false by unfold nsOk; rw [hv]; rfl)
    have HP := hd (show nsOut k x = -1 by unfold nsOut; rw [HO.out]; rfl)
    go_enter Try.func36, Try.ntmps36
    go_wp2_with (go_at_call 53; refine (implWordValid_any _ _ _).mono ?_; rintro e w' ⟨rfl, rfl⟩)
    go_ret2
    exact ⟨ret_t HP.out.symm HO.out.symm, rfl⟩
  by_cases hx : x = 0
  · subst hx
    have HO := hd (show nsOk k 0 = false by unfold nsOk; simp)
    have HP := hd (show nsOut k 0 = -1 by unfold nsOut; rw [HO.out]; rfl)
    go_enter Try.func36, Try.ntmps36
    go_wp2_with (go_at_call 53; refine (implWordValid_any _ _ _).mono ?_; rintro e w' ⟨rfl, rfl⟩)
    go_ret2
    exact ⟨ret_t HP.out.symm HO.out.symm, rfl⟩
  obtain ⟨h1, h2, h3, h4, h5, h6⟩ := vld_4096 hv
  obtain ⟨n1, n2, n3, _⟩ := ns_is k x hv hx
  have hpx := popZ_bd x
  have hx0 : (x == 0) = false := by simpa using hx
  by_cases hy : nsZ k x < pw k
  · have HO := hd (show nsOk k x = true by unfold nsOk; rw [hv, decide_eq_true hy]; simpa using hx)
    have HP := hd (show nsOut k x = nsZ k x by unfold nsOut; rw [if_pos HO.out])
    have H2 := hd (n2 hy)
    have H3 := hd n3
    clear n2 n3
    obtain ⟨y, hyy⟩ : ∃ y, nsZ k x = y := ⟨_, rfl⟩
    rw [hyy] at n1 hy H2 H3 HP
    clear hyy
    go_enter Try.func36, Try.ntmps36
    go_wp2_with (go_at_call 53; refine (implWordValid_any _ _ _).mono ?_; rintro e w' ⟨rfl, rfl⟩)
    go_loop [6] (fun n => ∃ i : Int, x < i ∧ i ≤ y ∧ n = .int .i64 i) (fun n => (y - intOf n).toNat)
    case atStart => exact ⟨x + 1, by omega, by omega, by go_num⟩
    case round =>
      obtain ⟨i, i1, i2, rfl⟩ := hrel
      have hpi := popZ_bd i
      by_cases hi : i = y
      · subst hi
        have hq : (popZ i == popZ x) = true := by simpa using H2.out
        go_wp2_with (first
          | (go_at_call 82; refine (greatest_any _ (by omega) (by omega) _).mono ?_; rintro e w' ⟨rfl, rfl⟩)
          | (go_at_call 73; refine (ones_any _ (by omega) (by omega) _).mono ?_; rintro e w' ⟨rfl, rfl⟩))
        go_ret2
        exact ⟨ret_t HP.out.symm HO.out.symm, rfl⟩
      · have hq : (popZ i == popZ x) = false := by simpa using H3.out i (by omega) (by omega) (by omega)
        go_wp2_with (first
          | (go_at_call 82; refine (greatest_any _ (by omega) (by omega) _).mono ?_; rintro e w' ⟨rfl, rfl⟩)
          | (go_at_call 73; refine (ones_any _ (by omega) (by omega) _).mono ?_; rintro e w' ⟨rfl, rfl⟩))
        go_round
        case rel => exact ⟨i + 1, by omega, by omega, by go_num⟩
        case measure => simp [intOf]; omega
  · have HO := hd (show nsOk k x = false by unfold nsOk; rw [decide_eq_false hy]; simp)
    have HP := hd (show nsOut k x = -1 by unfold nsOut; rw [HO.out]; rfl)
    have H3 := hd n3
    clear n2 n3
    obtain ⟨y, hyy⟩ : ∃ y, nsZ k x = y := ⟨_, rfl⟩
    rw [hyy] at n1 hy H3
    clear hyy
    go_enter Try.func36, Try.ntmps36
    go_wp2_with (go_at_call 53; refine (implWordValid_any _ _ _).mono ?_; rintro e w' ⟨rfl, rfl⟩)
    go_loop [6] (fun n => ∃ i : Int, x < i ∧ i ≤ pw k ∧ n = .int .i64 i) (fun n => (pw k - intOf n).toNat)
    case atStart => exact ⟨x + 1, by omega, by omega, by go_num⟩
    case round =>
      obtain ⟨i, i1, i2, rfl⟩ := hrel
      have hpi := popZ_bd i
      by_cases hi : i = pw k
      · go_wp2_with (go_at_call 82; refine (greatest_any _ (by omega) (by omega) _).mono ?_; rintro e w' ⟨rfl, rfl⟩)
        go_ret2
        exact ⟨ret_t HP.out.symm HO.out.symm, rfl⟩
      · have hq : (popZ i == popZ x) = false := by simpa using H3.out i (by omega) (by omega) (by omega)
        go_wp2_with (first
          | (go_at_call 82; refine (greatest_any _ (by omega) (by omega) _).mono ?_; rintro e w' ⟨rfl, rfl⟩)
          | (go_at_call 73; refine (ones_any _ (by omega) (by omega) _).mono ?_; rintro e w' ⟨rfl, rfl⟩))
        go_round
        case rel => exact ⟨i + 1, by omega, by omega, by go_num⟩
        case measure => simp [intOf]; omega
theorem specNextSame_any (k x : Int) (w : World) :
    Calls Try.prog 35 #[.int .i64 k, .int .i64 x] w fun e w' => e = .returned (.tuple #[.int .i64 (nsOut k x), .bool (nsOk k x)]) ∧ w = w' := by
  rcases hv : vld k x with _ | _
  · have HO := hd (show nsOk k x = false by unfold nsOk; rw [hv]; rfl)
    have HP := hd (show nsOut k x = -1 by unfold nsOut; rw [HO.out]; rfl)
    go_enter Try.func35, Try.ntmps35
    go_wp2_with (go_at_call 70; refine (specWordValid_any _ _ _).mono ?_; rintro e w' ⟨rfl, rfl⟩)
    go_ret2
    exact ⟨ret_t HP.out.symm HO.out.symm, rfl⟩
  by_cases hx : x = 0
  · subst hx
    have HO := hd (show nsOk k 0 = false by unfold nsOk; simp)
    have HP := hd (show nsOut k 0 = -1 by unfold nsOut; rw [HO.out]; rfl)
    go_enter Try.func35, Try.ntmps35
    go_wp2_with (go_at_call 70; refine (specWordValid_any _ _ _).mono ?_; rintro e w' ⟨rfl, rfl⟩)
    go_ret2
    exact ⟨ret_t HP.out.symm HO.out.symm, rfl⟩
  obtain ⟨h1, h2, h3, h4, h5, h6⟩ := vld_4096 hv
  obtain ⟨n1, _, _, n4⟩ := ns_is k x hv hx
  have hlo := (lo_is k x hv).2 hx
  have hlo2 := (loZ_bd k x h3).2
  have HS := hd (fun W => specLowestOne_ok k x hv W)
  have HU := hd (show nsU k x = x + loZ k x from rfl)
  have HZ := hd (show nsZ k x = x + loZ k x + xorZ x (x + loZ k x) / loZ k x / 4 from rfl)
  have ek := shl_pw k
  by_cases hy : nsZ k x < pw k
  · have HO := hd (show nsOk k x = true by unfold nsOk; rw [hv, decide_eq_true hy]; simpa using hx)
    have HP := hd (show nsOut k x = nsZ k x by unfold nsOut; rw [if_pos HO.out])
    have hu : x + loZ k x < pw k := by rw [← HU.out]; exact n4.2 hy
    rw [HZ.out] at HP
    clear n4 hy n1 HU HZ
    obtain ⟨l, hl⟩ : ∃ l, loZ k x = l := ⟨_, rfl⟩
    rw [hl] at hlo hlo2 HS hu HP
    clear hl
    have x1 := xorZ_nonneg x (x + l)
    have x2 := xorZ_lt x (x + l) k h3 h4 (by omega) hu
    obtain ⟨y1, y2⟩ := ediv_bd (x := xorZ x (x + l)) (c := l) x1 hlo
    go_enter Try.func35, Try.ntmps35
    go_wp2_with (first
      | (go_at_call 70; refine (specWordValid_any _ _ _).mono ?_; rintro e w' ⟨rfl, rfl⟩)
      | (go_at_call 81; refine (HS.out _).mono ?_; rintro e w' ⟨rfl, rfl⟩)
      | (go_at_call 78; refine (l1Xor_any _ _ (by omega) (by omega) (by omega) (by omega) _).mono ?_; rintro e w' ⟨rfl, rfl⟩))
    go_ret2
    exact ⟨ret_t HP.out.symm HO.out.symm, rfl⟩
  · have HO := hd (show nsOk k x = false by unfold nsOk; rw [decide_eq_false hy]; simp)
    have HP := hd (show nsOut k x = -1 by unfold nsOut; rw [HO.out]; rfl)
    have hu : ¬ x + loZ k x < pw k := by rw [← HU.out]; exact fun g => hy (n4.1 g)
    clear n4 hy n1 HU HZ
    obtain ⟨l, hl⟩ : ∃ l, loZ k x = l := ⟨_, rfl⟩
    rw [hl] at hlo hlo2 HS hu
    clear hl
    go_enter Try.func35, Try.ntmps35
    go_wp2_with (first
      | (go_at_call 70; refine (specWordValid_any _ _ _).mono ?_; rintro e w' ⟨rfl, rfl⟩)
      | (go_at_call 81; refine (HS.out _).mono ?_; rintro e w' ⟨rfl, rfl⟩))
    go_ret2
    exact ⟨ret_t HP.out.symm HO.out.symm, rfl⟩
end Go.Proofs.Ytgbgpibaincheaa
