/- Contracts of BoothTimes (chapter 3) of the program and of the reference; conditions: that the arguments are valid, or that they are not. -/
import Derived.Test.YthbpcgefcnpfmaaWS
import Derived.Test.YthbpcgefcnpfmaaWR
import Derived.Test.YthbpcgefcnpfmaaMathU
namespace Go.Proofs.Ythbpcgefcnpfmaa
open Go.RowKit
theorem implBoothTimes_bad (k a b : Int) (h : vld2 k a b = false) (w : World) :
    Calls Try.prog 15 #[.int .i64 k, .int .i64 a, .int .i64 b] w fun e w' => e = .returned (.int .i64 (-1)) ∧ Below w.heap.size w w' := by
  go_enter Try.func15, Try.ntmps15
  go_wp2_with (go_at_call 55; refine (allValid_two k a b _ _ _ (cell_two0 _ _ _ _) (cell_two1 _ _ _ _)).mono ?_; rintro e w' ⟨rfl, rfl⟩)
  go_ret
  exact ⟨rfl, (Below.refl _ _).alloc (Nat.le_refl _) _⟩
theorem specBoothTimes_bad (k a b : Int) (h : vld2 k a b = false) (w : World) :
    Calls Try.prog 14 #[.int .i64 k, .int .i64 a, .int .i64 b] w fun e w' => e = .returned (.int .i64 (-1)) ∧ Below w.heap.size w w' := by
  go_enter Try.func14, Try.ntmps14
  go_wp2_with (go_at_call 53; refine (l1Both_any _ _ _ _).mono ?_; rintro e w' ⟨rfl, rfl⟩)
  go_ret
  exact ⟨rfl, Below.refl _ _⟩
set_option maxHeartbeats 800000 in
theorem implBoothTimes_ok (k a b : Int) (h : vld2 k a b = true) (w : World) :
    Calls Try.prog 15 #[.int .i64 k, .int .i64 a, .int .i64 b] w fun e w' => e = .returned (.int .i64 (a * b % pw k)) ∧ Below w.heap.size w w' := by
  obtain ⟨h1, h2, h3, h4, g3, g4, h5, h6⟩ := vld2_bd h
  have hvb := (vld2_true h).2
  have HR := hd (fun W => implBoothDigits_ok k b hvb W)
  have HT := hd (bt_times k a b hvb)
  have hdg := btL_digs (sgZ k b) ((k + 1) / 2).toNat
  have hlen := btL_len (sgZ k b) ((k + 1) / 2).toNat
  obtain ⟨L, hL⟩ : ∃ L, btL (sgZ k b) ((k + 1) / 2).toNat = L := ⟨_, rfl⟩
  have HT2 := hd (HT.out L hL.symm)
  rw [hL] at HR hdg hlen
  have hlen7 : L.length ≤ 7 := by omega
  have HG := hd hdg
  clear hL hdg hlen HT hvb
  go_enter Try.func15, Try.ntmps15
  go_wp2_with (first
    | (go_at_call 55; refine (allValid_two k a b _ _ _ (cell_two0 _ _ _ _) (cell_two1 _ _ _ _)).mono ?_; rintro e w' ⟨rfl, rfl⟩)
    | (go_at_call 41; refine (HR.out _).mono ?_; rintro e w1 ⟨A, c, rfl, hown, hbel⟩))
  have HBEL := hd (btb ((Below.refl _ _).alloc (Nat.le_refl _) _) hbel)
  clear hbel
  go_loop [7, 20] (fun t j => ∃ i : Nat, i ≤ L.length ∧ j = .int .i64 i ∧ t = .int .i64 (a * dv4 (L.take i))) (fun _ j => L.length - (intOf j).toNat)
  case atStart => exact ⟨0, by omega, rfl, by simp [dv4]⟩
  case round =>
    obtain ⟨i, hi, rfl, rfl⟩ := hrel
    obtain ⟨t1, t2⟩ := take4_bd HG.out hlen7 i
    obtain ⟨u1, u2⟩ := mul4_bd (X := 16384) h3 (by omega : a ≤ 4096) (by omega : -16384 ≤ dv4 (L.take i)) (by omega)
    by_cases hlt : i < L.length
    · obtain ⟨g, rfl, _, _, hc, _⟩ := hown.some_ hlt
      have hck := hc i hlt
      clear hc
      have HS := hd (take4_val a L i hlt)
      obtain ⟨d1, d2⟩ := HG.out _ (List.getElem_mem hlt)
      obtain ⟨k1, k2, k3, k4⟩ := dig4_bd d1 d2 h3 (by omega : a ≤ 4096) i (by omega)
      have ei := shl_pw (2 * (i : Int))
      obtain ⟨d, hdd⟩ : ∃ d, L[i] = d := ⟨_, rfl⟩
      rw [hdd] at hck HS k1 k2 k3 k4 d1 d2
      clear hdd
      go_wp2_with (go_at_call 56; refine (power_any _ (by omega) (by omega) _).mono ?_; rintro e w' ⟨rfl, rfl⟩)
      go_round
      case rel => exact ⟨i + 1, by omega, by go_num, by rw [HS.out]⟩
      case measure => simp [intOf]; omega
    · have e2 := hd (show a * dv4 (L.take i) % pw k = a * b % pw k by rw [List.take_of_length_le (by omega), HT2.out])
      go_wp2_with (go_at_call 57; refine (cut_any _ _ (by omega) (by omega) _).mono ?_; rintro e w' ⟨rfl, rfl⟩)
      go_ret
      exact ⟨ret_i (by rw [e2.out]), HBEL.out⟩
set_option maxHeartbeats 800000 in
theorem specBoothTimes_ok (k a b : Int) (h : vld2 k a b = true) (w : World) :
    Calls Try.prog 14 #[.int .i64 k, .int .i64 a, .int .i64 b] w fun e w' => e = .returned (.int .i64 (a * b % pw k)) ∧ Below w.heap.size w w' := by
  obtain ⟨h1, h2, h3, h4, g3, g4, h5, h6⟩ := vld2_bd h
  have hvb := (vld2_true h).2
  have HR := hd (fun W => specBoothDigits_ok k b hvb W)
  have HT := hd (bt_times k a b hvb)
  have hdg := btL_digs (sgZ k b) ((k + 1) / 2).toNat
  have hlen := btL_len (sgZ k b) ((k + 1) / 2).toNat
  obtain ⟨L, hL⟩ : ∃ L, btL (sgZ k b) ((k + 1) / 2).toNat = L := ⟨_, rfl⟩
  have HT2 := hd (HT.out L hL.symm)
  rw [hL] at HR hdg hlen
  have hlen7 : L.length ≤ 7 := by omega
  have HG := hd hdg
  clear hL hdg hlen HT hvb
  go_enter Try.func14, Try.ntmps14
  go_wp2_with (first
    | (go_at_call 53; refine (l1Both_any _ _ _ _).mono ?_; rintro e w' ⟨rfl, rfl⟩)
    | (go_at_call 43; refine (HR.out _).mono ?_; rintro e w1 ⟨A, c, rfl, hown, hbel⟩))
  have HBEL := hd (btb (Below.refl _ _) hbel)
  clear hbel
  go_loop [8, 9] (fun t j => ∃ i : Nat, i ≤ L.length ∧ j = .int .i64 i ∧ t = .int .i64 (a * dv4 (L.take i))) (fun _ j => L.length - (intOf j).toNat)
  case atStart => exact ⟨0, by omega, rfl, by simp [dv4]⟩
  case round =>
    obtain ⟨i, hi, rfl, rfl⟩ := hrel
    obtain ⟨t1, t2⟩ := take4_bd HG.out hlen7 i
    obtain ⟨u1, u2⟩ := mul4_bd (X := 16384) h3 (by omega : a ≤ 4096) (by omega : -16384 ≤ dv4 (L.take i)) (by omega)
    by_cases hlt : i < L.length
    · obtain ⟨g, rfl, _, _, hc, _⟩ := hown.some_ hlt
      have hck := hc i hlt
      clear hc
      have HS := hd (take4_val a L i hlt)
      obtain ⟨d1, d2⟩ := HG.out _ (List.getElem_mem hlt)
      obtain ⟨k1, k2, k3, k4⟩ := dig4_bd d1 d2 h3 (by omega : a ≤ 4096) i (by omega)
      have ei := shl_pw (2 * (i : Int))
      obtain ⟨d, hdd⟩ : ∃ d, L[i] = d := ⟨_, rfl⟩
      rw [hdd] at hck HS k1 k2 k3 k4 d1 d2
      clear hdd
      go_wp2_with fail
      go_round
      case rel => exact ⟨i + 1, by omega, by go_num, by rw [HS.out]⟩
      case measure => simp [intOf]; omega
    · have e2 := hd (show a * dv4 (L.take i) % pw k = a * b % pw k by rw [List.take_of_length_le (by omega), HT2.out])
      go_wp2_with (go_at_call 54; refine (l1Mod_any _ _ (by omega) (by omega) _).mono ?_; rintro e w' ⟨rfl, rfl⟩)
      go_ret
      exact ⟨ret_i (by rw [e2.out]), HBEL.out⟩
end Go.Proofs.Ythbpcgefcnpfmaa
