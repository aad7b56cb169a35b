/- Contracts of NafOf and NafMany of the program and of the reference; conditions: that the number is in its range, or that it is not. -/
import Derived.Test.YtdjggccplaifbaaOwn
import Derived.Test.YtdjggccplaifbaaMathN
namespace Go.Proofs.Ytdjggccplaifbaa
open Go.RowKit
theorem implNafOf_bad (n : Int) (h : inB n 0 4095 = false) (w : World) :
    Calls Try.prog 40 #[.int .i64 n] w (RetL w.heap.size [] w) := by
  go_enter Try.func40, Try.ntmps40
  go_wp2_with (go_at_call 67; refine (within_any _ _ _ _).mono ?_; rintro e w' ⟨rfl, rfl⟩)
  go_ret
  exact ⟨none, 0, rfl, World.ownsRow_nil _ _ _ _, Below.refl _ _⟩
theorem implNafOf_ok (n : Int) (h : inB n 0 4095 = true) (w : World) :
    Calls Try.prog 40 #[.int .i64 n] w (RetL w.heap.size (nafL n) w) := by
  obtain ⟨i0, hi, hz0, hz1, hz2⟩ := info_parts info_int
  obtain ⟨n1, n2⟩ := inB_true.1 h
  have hmx := nafL_len n n1 n2
  obtain ⟨L, hL⟩ : ∃ L, nafL n = L := ⟨_, rfl⟩
  rw [hL] at hmx ⊢
  have HL := hd hL
  clear hL
  obtain ⟨B, hB⟩ : ∃ B, B = w.heap.size := ⟨_, rfl⟩
  have HB := hd hB
  rw [← hB]
  have hB1 : B ≤ w.heap.size := by omega
  clear hB
  go_enter Try.func40, Try.ntmps40
  go_wp2_with (go_at_call 67; refine (within_any _ _ _ _).mono ?_; rintro e w' ⟨rfl, rfl⟩)
  go_loopw [0, 3] (fun t v wr => ∃ (m : Int) (A : Option Addr) (c : Nat) (D : List Int), 0 ≤ m ∧ m ≤ 4096 ∧ t = .int .i64 m ∧ v = .slice A D.length c ∧ Owns wr B A c D ∧ D ++ nafL m = L ∧ Below B w wr)
    (fun t _ _ => (intOf t).toNat)
  case atStart => exact ⟨n, none, 0, [], by omega, by omega, rfl, rfl, World.ownsRow_nil _ _ _ _, HL.out, Below.refl _ _⟩
  case round =>
    obtain ⟨m, A, c, D, hm1, hm2, rfl, rfl, hown, hD, hbel⟩ := hrel
    have HD := hd hD
    have hlen : D.length ≤ 13 := by have := congrArg List.length hD; simp at this; omega
    clear hD
    have hBr : B ≤ wr.heap.size := Nat.le_trans hB1 hbel.size
    by_cases h0 : m = 0
    · subst h0
      have HE := hd (show D = L by have := HD.out; rwa [nafL_0, List.append_nil] at this)
      go_wp2
      go_ret
      obtain rfl := HE.out
      exact ⟨A, c, rfl, hown, hbel⟩
    · have hpos : 0 < m := by omega
      have HS := hd (nafL_pos m hpos)
      have hhalf := dg_half m hpos
      by_cases hodd : m % 2 = 1
      · have HG := hd (dg_odd hodd)
        rw [HG.out] at hhalf
        go_wp2_with (at_builtin; refine wpList_append_own _ rfl _ _ 26 rfl B 3 i0 (.int .i64 0) 1 8 Try.underlying26 hi hz0 hz1 hz2 rfl (by decide) _ _ _ rfl (hown.alloc _) ⟨wr.heap.size, 0, none⟩ 1 1 [.int .i64 (2 - m % 4)] rfl rfl ?c1 ?c2 ?c3 ?c4 ?c5 ?_)
        case c1 => exact (cell_one_new _ _ _)
        case c2 => intro u hu; simp at hu; subst hu; rfl
        case c3 => unfold maxLen; omega
        case c4 => omega
        case c5 => simp; omega
        intro v' w1 hown' hgrow _
        have hb1 := app_below hbel hBr hown hown' hgrow
        obtain ⟨A', c', rfl⟩ := own_shape hown'
        clear hgrow hown hbel
        go_wp2
        go_roundw
        case rel => exact ⟨(m - (2 - m % 4)) / 2, A', c', D ++ [2 - m % 4], by omega, by omega, rfl, by simp, by simpa [Owns] using hown', by rw [List.append_assoc, ← HG.out]; exact (by rw [HS.out] at HD; exact HD.out), hb1⟩
        case measure => simp [intOf]; omega
      · have HG := hd (dg_even hodd)
        rw [HG.out] at hhalf
        have hm0 : m % 2 = 0 := by omega
        go_wp2_with (at_builtin; refine wpList_append_own _ rfl _ _ 26 rfl B 3 i0 (.int .i64 0) 1 8 Try.underlying26 hi hz0 hz1 hz2 rfl (by decide) _ _ _ rfl (hown.alloc _) ⟨wr.heap.size, 0, none⟩ 1 1 [.int .i64 (0)] rfl rfl ?c1 ?c2 ?c3 ?c4 ?c5 ?_)
        case c1 => exact (cell_one_new _ _ _)
        case c2 => intro u hu; simp at hu; subst hu; rfl
        case c3 => unfold maxLen; omega
        case c4 => omega
        case c5 => simp; omega
        intro v' w1 hown' hgrow _
        have hb1 := app_below hbel hBr hown hown' hgrow
        obtain ⟨A', c', rfl⟩ := own_shape hown'
        clear hgrow hown hbel
        go_wp2
        go_roundw
        case rel => exact ⟨m / 2, A', c', D ++ [0], by omega, by omega, rfl, by simp, by simpa [Owns] using hown', by have hh := HD.out; rw [HS.out, HG.out] at hh; rw [List.append_assoc]; simpa using hh, hb1⟩
        case measure => simp [intOf]; omega
theorem specNafOf_bad (n : Int) (h : inB n 0 4095 = false) (w : World) :
    Calls Try.prog 42 #[.int .i64 n] w (RetL w.heap.size [] w) := by
  go_enter Try.func42, Try.ntmps42
  go_wp2_with (go_at_call 66; refine (l1In_any _ _ _ _).mono ?_; rintro e w' ⟨rfl, rfl⟩)
  go_ret
  exact ⟨_, 0, rfl, World.ownsRow_lit w #[] 0 (Nat.le_refl _) (by unfold maxLen; omega) rfl, (Below.refl _ _).alloc (Nat.le_refl _) _⟩
theorem specNafOf_ok (n : Int) (h : inB n 0 4095 = true) (w : World) :
    Calls Try.prog 42 #[.int .i64 n] w (RetL w.heap.size (nafL n) w) := by
  obtain ⟨i0, hi, hz0, hz1, hz2⟩ := info_parts info_int
  obtain ⟨n1, n2⟩ := inB_true.1 h
  have hmx := nafL_len n n1 n2
  obtain ⟨L, hL⟩ : ∃ L, nafL n = L := ⟨_, rfl⟩
  rw [hL] at hmx ⊢
  have HL := hd hL
  clear hL
  obtain ⟨B, hB⟩ : ∃ B, B = w.heap.size := ⟨_, rfl⟩
  have HB := hd hB
  rw [← hB]
  have hB1 : B ≤ w.heap.size := by omega
  clear hB
  go_enter Try.func42, Try.ntmps42
  go_wp2_with (go_at_call 66; refine (l1In_any _ _ _ _).mono ?_; rintro e w' ⟨rfl, rfl⟩)
  go_loopw [0, 3] (fun t v wr => ∃ (m : Int) (A : Option Addr) (c : Nat) (D : List Int), 0 ≤ m ∧ m ≤ 4096 ∧ t = .int .i64 m ∧ v = .slice A D.length c ∧ Owns wr B A c D ∧ D ++ nafL m = L ∧ Below B w wr)
    (fun t _ _ => (intOf t).toNat)
  case atStart => exact ⟨n, _, 0, [], by omega, by omega, rfl, rfl, World.ownsRow_lit w #[] 0 hB1 (by unfold maxLen; omega) rfl, HL.out, (Below.refl _ _).alloc hB1 _⟩
  case round =>
    obtain ⟨m, A, c, D, hm1, hm2, rfl, rfl, hown, hD, hbel⟩ := hrel
    have HD := hd hD
    have hlen : D.length ≤ 13 := by have := congrArg List.length hD; simp at this; omega
    clear hD
    have hBr : B ≤ wr.heap.size := Nat.le_trans hB1 hbel.size
    by_cases h0 : m = 0
    · subst h0
      have HE := hd (show D = L by have := HD.out; rwa [nafL_0, List.append_nil] at this)
      go_wp2
      go_ret
      obtain rfl := HE.out
      exact ⟨A, c, rfl, hown, hbel⟩
    · have hpos : 0 < m := by omega
      have HS := hd (nafL_pos m hpos)
      have hhalf := dg_half m hpos
      by_cases hodd : m % 2 = 1
      · have HG := hd (dg_odd hodd)
        rw [HG.out] at hhalf
        go_wp2_with (at_builtin; refine wpList_append_own _ rfl _ _ 26 rfl B 3 i0 (.int .i64 0) 1 8 Try.underlying26 hi hz0 hz1 hz2 rfl (by decide) _ _ _ rfl (hown.alloc _) ⟨wr.heap.size, 0, none⟩ 1 1 [.int .i64 (2 - m % 4)] rfl rfl ?c1 ?c2 ?c3 ?c4 ?c5 ?_)
        case c1 => exact (cell_one_new _ _ _)
        case c2 => intro u hu; simp at hu; subst hu; rfl
        case c3 => unfold maxLen; omega
        case c4 => omega
        case c5 => simp; omega
        intro v' w1 hown' hgrow _
        have hb1 := app_below hbel hBr hown hown' hgrow
        obtain ⟨A', c', rfl⟩ := own_shape hown'
        clear hgrow hown hbel
        go_wp2
        go_roundw
        case rel => exact ⟨(m - (2 - m % 4)) / 2, A', c', D ++ [2 - m % 4], by omega, by omega, rfl, by simp, by simpa [Owns] using hown', by rw [List.append_assoc, ← HG.out]; exact (by rw [HS.out] at HD; exact HD.out), hb1⟩
        case measure => simp [intOf]; omega
      · have HG := hd (dg_even hodd)
        rw [HG.out] at hhalf
        have hm0 : m % 2 = 0 := by omega
        go_wp2_with (at_builtin; refine wpList_append_own _ rfl _ _ 26 rfl B 3 i0 (.int .i64 0) 1 8 Try.underlying26 hi hz0 hz1 hz2 rfl (by decide) _ _ _ rfl (hown.alloc _) ⟨wr.heap.size, 0, none⟩ 1 1 [.int .i64 (0)] rfl rfl ?c1 ?c2 ?c3 ?c4 ?c5 ?_)
        case c1 => exact (cell_one_new _ _ _)
        case c2 => intro u hu; simp at hu; subst hu; rfl
        case c3 => unfold maxLen; omega
        case c4 => omega
        case c5 => simp; omega
        intro v' w1 hown' hgrow _
        have hb1 := app_below hbel hBr hown hown' hgrow
        obtain ⟨A', c', rfl⟩ := own_shape hown'
        clear hgrow hown hbel
        go_wp2
        go_roundw
        case rel => exact ⟨m / 2, A', c', D ++ [0], by omega, by omega, rfl, by simp, by simpa [Owns] using hown', by have hh := HD.out; rw [HS.out, HG.out] at hh; rw [List.append_assoc]; simpa using hh, hb1⟩
        case measure => simp [intOf]; omega
theorem implNafMany_bad (n : Int) (h : inB n 0 4095 = false) (w : World) :
    Calls Try.prog 47 #[.int .i64 n] w fun e w' => e = .returned (.int .i64 (-1)) ∧ w = w' := by
  go_enter Try.func47, Try.ntmps47
  go_wp2_with (go_at_call 67; refine (within_any _ _ _ _).mono ?_; rintro e w' ⟨rfl, rfl⟩)
  go_ret
  exact ⟨rfl, rfl⟩
theorem implNafMany_ok (n : Int) (h : inB n 0 4095 = true) (w : World) :
    Calls Try.prog 47 #[.int .i64 n] w fun e w' => e = .returned (.int .i64 (nmZ n)) ∧ Below w.heap.size w w' := by
  obtain ⟨n1, n2⟩ := inB_true.1 h
  have hmx := nafL_len n n1 n2
  have hdg := nafL_digs n
  have HR := hd (implNafOf_ok n h w)
  have HZ := hd (show nmZ n = nzN (nafL n) from rfl)
  obtain ⟨L, hL⟩ : ∃ L, nafL n = L := ⟨_, rfl⟩
  rw [hL] at hmx hdg HR HZ
  have HG := hd hdg
  clear hL hdg
  go_enter Try.func47, Try.ntmps47
  go_wp2_with (first
    | (go_at_call 67; refine (within_any _ _ _ _).mono ?_; rintro e w' ⟨rfl, rfl⟩)
    | (go_at_call 40; refine (HR.out).mono ?_; rintro e w1 ⟨A, c, rfl, hown, hbel⟩))
  go_loop [3, 12] (fun t i => ∃ k : Nat, k ≤ L.length ∧ i = .int .i64 k ∧ t = .int .i64 (nzN (L.take k))) (fun _ i => L.length - (intOf i).toNat)
  case atStart => exact ⟨0, by omega, rfl, rfl⟩
  case round =>
    obtain ⟨k, hk, rfl, rfl⟩ := hrel
    by_cases hlt : k < L.length
    · obtain ⟨g, rfl, _, _, hc, _⟩ := hown.some_ hlt
      have hck := hc k hlt
      clear hc
      have hq := nzN_bd (L.take k)
      have hq2 : (L.take k).length ≤ 13 := by rw [List.length_take]; omega
      have HS := hd (show nzN (L.take (k + 1)) = nzN (L.take k) + (if L[k] = 0 then 0 else 1) by rw [List.take_succ_eq_append_getElem hlt, nzN_snoc])
      have hdk := HG.out _ (List.getElem_mem hlt)
      obtain ⟨d, hdd⟩ : ∃ d, L[k] = d := ⟨_, rfl⟩
      rw [hdd] at hck HS hdk
      clear hdd
      rcases hdk with rfl | rfl | rfl
      all_goals
        go_wp2
        go_round
        case rel => exact ⟨k + 1, by omega, by go_num, by rw [HS.out]; simp⟩
        case measure => simp [intOf]; omega
    · go_wp2
      go_ret
      exact ⟨ret_i (by rw [HZ.out, List.take_of_length_le (by omega)]), hbel⟩
theorem implNafTimes_bad (k x n : Int) (h : (vld k x && inB n 0 4095) = false) (w : World) :
    Calls Try.prog 22 #[.int .i64 k, .int .i64 x, .int .i64 n] w fun e w' => e = .returned (.int .i64 (-1)) ∧ w = w' := by
  rcases hv : vld k x with _ | _
  · clear h
    go_enter Try.func22, Try.ntmps22
    go_wp2_with (go_at_call 54; refine (implWordValid_any _ _ _).mono ?_; rintro e w' ⟨rfl, rfl⟩)
    go_ret
    exact ⟨rfl, rfl⟩
  · have h2 : inB n 0 4095 = false := by simpa [hv] using h
    clear h
    go_enter Try.func22, Try.ntmps22
    go_wp2_with (first
      | (go_at_call 54; refine (implWordValid_any _ _ _).mono ?_; rintro e w' ⟨rfl, rfl⟩)
      | (go_at_call 67; refine (within_any _ _ _ _).mono ?_; rintro e w' ⟨rfl, rfl⟩))
    go_ret
    exact ⟨rfl, rfl⟩
theorem implNafTimes_ok (k x n : Int) (hv : vld k x = true) (h : inB n 0 4095 = true) (w : World) :
    Calls Try.prog 22 #[.int .i64 k, .int .i64 x, .int .i64 n] w fun e w' => e = .returned (.int .i64 (x * n % pw k)) ∧ Below w.heap.size w w' := by
  obtain ⟨h1, h2, h3, h4, h5, h6⟩ := vld_4096 hv
  obtain ⟨n1, n2⟩ := inB_true.1 h
  have hmx := nafL_len n n1 n2
  have hdg := nafL_digs n
  have HR := hd (implNafOf_ok n h w)
  have HV := hd (dvN_naf n n1)
  obtain ⟨L, hL⟩ : ∃ L, nafL n = L := ⟨_, rfl⟩
  rw [hL] at hmx hdg HR HV
  have HG := hd hdg
  clear hL hdg
  go_enter Try.func22, Try.ntmps22
  go_wp2_with (first
    | (go_at_call 54; refine (implWordValid_any _ _ _).mono ?_; rintro e w' ⟨rfl, rfl⟩)
    | (go_at_call 67; refine (within_any _ _ _ _).mono ?_; rintro e w' ⟨rfl, rfl⟩)
    | (go_at_call 40; refine (HR.out).mono ?_; rintro e w1 ⟨A, c, rfl, hown, hbel⟩))
  go_loop [7, 22] (fun t j => ∃ i : Nat, i ≤ L.length ∧ j = .int .i64 i ∧ t = .int .i64 (x * dvN (L.take i))) (fun _ j => L.length - (intOf j).toNat)
  case atStart => exact ⟨0, by omega, rfl, by simp [dvN]⟩
  case round =>
    obtain ⟨i, hi, rfl, rfl⟩ := hrel
    have hq := dvN_mul_bd x 4096 (L.take i) (fun d hd => HG.out d (List.mem_of_mem_take hd)) (by rw [List.length_take]; omega) (by omega) (by omega)
    have hmd := mod_bd (x * dvN (L.take i)) k h1 h2
    by_cases hlt : i < L.length
    · obtain ⟨g, rfl, _, _, hc, _⟩ := hown.some_ hlt
      have hck := hc i hlt
      clear hc
      have HS := hd (dvN_step x L i hlt)
      have hdk := dig_mul_bd (HG.out _ (List.getElem_mem hlt)) (x := x) (by omega) (by omega : x ≤ 4096) i (by omega)
      obtain ⟨d, hdd⟩ : ∃ d, L[i] = d := ⟨_, rfl⟩
      rw [hdd] at hck HS hdk
      clear hdd
      obtain ⟨k1, k2, k3, k4⟩ := hdk
      have ei := shl_pwn i
      go_wp2
      go_round
      case rel => exact ⟨i + 1, by omega, by go_num, by rw [HS.out]⟩
      case measure => simp [intOf]; omega
    · have e2 := hd (show x * dvN (L.take i) = x * n by rw [List.take_of_length_le (by omega), HV.out])
      go_wp2_with (go_at_call 68; refine (cut_any _ _ (by omega) (by omega) _).mono ?_; rintro e w' ⟨rfl, rfl⟩)
      go_ret
      exact ⟨ret_i (by rw [e2.out]), hbel⟩
theorem specNafMany_bad (n : Int) (h : inB n 0 4095 = false) (w : World) :
    Calls Try.prog 48 #[.int .i64 n] w fun e w' => e = .returned (.int .i64 (-1)) ∧ w = w' := by
  go_enter Try.func48, Try.ntmps48
  go_wp2_with (go_at_call 66; refine (l1In_any _ _ _ _).mono ?_; rintro e w' ⟨rfl, rfl⟩)
  go_ret
  exact ⟨rfl, rfl⟩
theorem specNafMany_ok (n : Int) (h : inB n 0 4095 = true) (w : World) :
    Calls Try.prog 48 #[.int .i64 n] w fun e w' => e = .returned (.int .i64 (nmZ n)) ∧ Below w.heap.size w w' := by
  obtain ⟨n1, n2⟩ := inB_true.1 h
  have hmx := nafL_len n n1 n2
  have hdg := nafL_digs n
  have HR := hd (specNafOf_ok n h w)
  have HZ := hd (show nmZ n = nzN (nafL n) from rfl)
  obtain ⟨L, hL⟩ : ∃ L, nafL n = L := ⟨_, rfl⟩
  rw [hL] at hmx hdg HR HZ
  have HG := hd hdg
  clear hL hdg
  go_enter Try.func48, Try.ntmps48
  go_wp2_with (first
    | (go_at_call 66; refine (l1In_any _ _ _ _).mono ?_; rintro e w' ⟨rfl, rfl⟩)
    | (go_at_call 42; refine (HR.out).mono ?_; rintro e w1 ⟨A, c, rfl, hown, hbel⟩))
  go_loop [3, 5] (fun t i => ∃ k : Nat, k ≤ L.length ∧ i = .int .i64 k ∧ t = .int .i64 (nzN (L.take k))) (fun _ i => L.length - (intOf i).toNat)
  case atStart => exact ⟨0, by omega, rfl, rfl⟩
  case round =>
    obtain ⟨k, hk, rfl, rfl⟩ := hrel
    by_cases hlt : k < L.length
    · obtain ⟨g, rfl, _, _, hc, _⟩ := hown.some_ hlt
      have hck := hc k hlt
      clear hc
      have hq := nzN_bd (L.take k)
      have hq2 : (L.take k).length ≤ 13 := by rw [List.length_take]; omega
      have HS := hd (show nzN (L.take (k + 1)) = nzN (L.take k) + (if L[k] = 0 then 0 else 1) by rw [List.take_succ_eq_append_getElem hlt, nzN_snoc])
      have hdk := HG.out _ (List.getElem_mem hlt)
      obtain ⟨d, hdd⟩ : ∃ d, L[k] = d := ⟨_, rfl⟩
      rw [hdd] at hck HS hdk
      clear hdd
      rcases hdk with rfl | rfl | rfl
      all_goals
        go_wp2
        go_round
        case rel => exact ⟨k + 1, by omega, by go_num, by rw [HS.out]; simp⟩
        case measure => simp [intOf]; omega
    · go_wp2
      go_ret
      exact ⟨ret_i (by rw [HZ.out, List.take_of_length_le (by omega)]), hbel⟩
theorem specNafTimes_bad (k x n : Int) (h : (vld k x && inB n 0 4095) = false) (w : World) :
    Calls Try.prog 21 #[.int .i64 k, .int .i64 x, .int .i64 n] w fun e w' => e = .returned (.int .i64 (-1)) ∧ w = w' := by
  rcases hv : vld k x with _ | _
  · clear h
    go_enter Try.func21, Try.ntmps21
    go_wp2_with (go_at_call 61; refine (specWordValid_any _ _ _).mono ?_; rintro e w' ⟨rfl, rfl⟩)
    go_ret
    exact ⟨rfl, rfl⟩
  · have h2 : inB n 0 4095 = false := by simpa [hv] using h
    clear h
    go_enter Try.func21, Try.ntmps21
    go_wp2_with (first
      | (go_at_call 61; refine (specWordValid_any _ _ _).mono ?_; rintro e w' ⟨rfl, rfl⟩)
      | (go_at_call 66; refine (l1In_any _ _ _ _).mono ?_; rintro e w' ⟨rfl, rfl⟩))
    go_ret
    exact ⟨rfl, rfl⟩
theorem specNafTimes_ok (k x n : Int) (hv : vld k x = true) (h : inB n 0 4095 = true) (w : World) :
    Calls Try.prog 21 #[.int .i64 k, .int .i64 x, .int .i64 n] w fun e w' => e = .returned (.int .i64 (x * n % pw k)) ∧ Below w.heap.size w w' := by
  obtain ⟨h1, h2, h3, h4, h5, h6⟩ := vld_4096 hv
  obtain ⟨n1, n2⟩ := inB_true.1 h
  have hmx := nafL_len n n1 n2
  have hdg := nafL_digs n
  have HR := hd (specNafOf_ok n h w)
  have HV := hd (dvN_naf n n1)
  obtain ⟨L, hL⟩ : ∃ L, nafL n = L := ⟨_, rfl⟩
  rw [hL] at hmx hdg HR HV
  have HG := hd hdg
  clear hL hdg
  go_enter Try.func21, Try.ntmps21
  go_wp2_with (first
    | (go_at_call 61; refine (specWordValid_any _ _ _).mono ?_; rintro e w' ⟨rfl, rfl⟩)
    | (go_at_call 66; refine (l1In_any _ _ _ _).mono ?_; rintro e w' ⟨rfl, rfl⟩)
    | (go_at_call 42; refine (HR.out).mono ?_; rintro e w1 ⟨A, c, rfl, hown, hbel⟩))
  go_loop [8, 9] (fun t j => ∃ i : Nat, i ≤ L.length ∧ j = .int .i64 i ∧ t = .int .i64 ((x * dvN (L.take i)) % pw k)) (fun _ j => L.length - (intOf j).toNat)
  case atStart => exact ⟨0, by omega, rfl, by simp [dvN]⟩
  case round =>
    obtain ⟨i, hi, rfl, rfl⟩ := hrel
    have hq := dvN_mul_bd x 4096 (L.take i) (fun d hd => HG.out d (List.mem_of_mem_take hd)) (by rw [List.length_take]; omega) (by omega) (by omega)
    have hmd := mod_bd (x * dvN (L.take i)) k h1 h2
    by_cases hlt : i < L.length
    · obtain ⟨g, rfl, _, _, hc, _⟩ := hown.some_ hlt
      have hck := hc i hlt
      clear hc
      have HS := hd (dvN_step x L i hlt)
      have hdk := dig_mul_bd (HG.out _ (List.getElem_mem hlt)) (x := x) (by omega) (by omega : x ≤ 4096) i (by omega)
      obtain ⟨d, hdd⟩ : ∃ d, L[i] = d := ⟨_, rfl⟩
      rw [hdd] at hck HS hdk
      clear hdd
      obtain ⟨k1, k2, k3, k4⟩ := hdk
      have ei := shl_pwn i
      go_wp2_with (go_at_call 64; refine (l1Mod_any _ _ (by omega) (by omega) _).mono ?_; rintro e w' ⟨rfl, rfl⟩)
      go_round
      case rel => exact ⟨i + 1, by omega, by go_num, by rw [HS.out]⟩
      case measure => simp [intOf]; omega
    · have e2 := hd (show x * dvN (L.take i) = x * n by rw [List.take_of_length_le (by omega), HV.out])
      go_wp2
      go_ret
      exact ⟨ret_i (by rw [e2.out]), hbel⟩
end Go.Proofs.Ytdjggccplaifbaa
