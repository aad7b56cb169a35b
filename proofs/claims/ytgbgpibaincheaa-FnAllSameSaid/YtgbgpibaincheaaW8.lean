/- Contracts of AllSame and OnesSteps (chapter 5) of the program and of the reference; conditions: that the arguments are valid, or that they are not. -/
import Derived.Test.YtgbgpibaincheaaW7
namespace Go.Proofs.Ytgbgpibaincheaa
open Go.RowKit
theorem ret_v {a b : Int} (h : a = b) : Value.int .i64 a = .int .i64 b := by rw [h]
def okAl (k c : Int) : Bool := inB k 1 12 && inB c 0 k
theorem okAl_true {k c : Int} (h : okAl k c = true) : 1 ≤ k ∧ k ≤ 12 ∧ 0 ≤ c ∧ c ≤ k := by
  unfold okAl at h
  simp only [Bool.and_eq_true] at h
  obtain ⟨a, b⟩ := inB_true.1 h.1
  obtain ⟨c, d⟩ := inB_true.1 h.2
  exact ⟨a, b, c, d⟩
def alL (k c : Int) : List Int := alN c (2 ^ k.toNat)
theorem implAllSame_bad (k c : Int) (h : okAl k c = false) (w : World) :
    Calls Try.prog 38 #[.int .i64 k, .int .i64 c] w (RetL w.heap.size [] w) := by
  rcases hk : inB k 1 12 with _ | _
  · clear h
    go_enter Try.func38, Try.ntmps38
    go_wp2_with (go_at_call 84; refine (isWidth_any _ _).mono ?_; rintro e w' ⟨rfl, rfl⟩)
    go_ret
    exact ⟨none, 0, rfl, World.ownsRow_nil _ _ _ _, Below.refl _ _⟩
  · have h2 : inB c 0 k = false := by simpa [okAl, hk] using h
    clear h
    go_enter Try.func38, Try.ntmps38
    go_wp2_with (first
      | (go_at_call 84; refine (isWidth_any _ _).mono ?_; rintro e w' ⟨rfl, rfl⟩)
      | (go_at_call 85; refine (within_any _ _ _ _).mono ?_; rintro e w' ⟨rfl, rfl⟩))
    go_ret
    exact ⟨none, 0, rfl, World.ownsRow_nil _ _ _ _, Below.refl _ _⟩
theorem specAllSame_bad (k c : Int) (h : okAl k c = false) (w : World) :
    Calls Try.prog 37 #[.int .i64 k, .int .i64 c] w (RetL w.heap.size [] w) := by
  rcases hk : inB k 1 12 with _ | _
  · clear h
    go_enter Try.func37, Try.ntmps37
    go_wp2_with (go_at_call 83; refine (l1In_any _ _ _ _).mono ?_; rintro e w' ⟨rfl, rfl⟩)
    go_ret
    exact ⟨_, 0, rfl, World.ownsRow_lit w #[] 0 (Nat.le_refl _) (by unfold maxLen; omega) rfl, (Below.refl _ _).alloc (Nat.le_refl _) _⟩
  · have h2 : inB c 0 k = false := by simpa [okAl, hk] using h
    clear h
    go_enter Try.func37, Try.ntmps37
    go_wp2_with (go_at_call 83; refine (l1In_any _ _ _ _).mono ?_; rintro e w' ⟨rfl, rfl⟩)
    go_ret
    exact ⟨_, 0, rfl, World.ownsRow_lit w #[] 0 (Nat.le_refl _) (by unfold maxLen; omega) rfl, (Below.refl _ _).alloc (Nat.le_refl _) _⟩
set_option maxHeartbeats 800000 in
theorem implAllSame_ok (k c : Int) (h : okAl k c = true) (w : World) :
    Calls Try.prog 38 #[.int .i64 k, .int .i64 c] w (RetL w.heap.size (alL k c) w) := by
  obtain ⟨i0, hi, hz0, hz1, hz2⟩ := info_parts info_int
  obtain ⟨h1, h2, h3, h4⟩ := okAl_true h
  obtain ⟨hb1, hb2⟩ : inB k 1 12 = true ∧ inB c 0 k = true := ⟨inB_mk h1 h2, inB_mk h3 h4⟩
  obtain ⟨p1, p2⟩ := pw_w k h1 h2
  have HPC := hd (pw_cast k)
  clear h
  obtain ⟨B, hB⟩ : ∃ B, B = w.heap.size := ⟨_, rfl⟩
  have HB := hd hB
  rw [← hB]
  have hB1 : B ≤ w.heap.size := by omega
  clear hB
  go_enter Try.func38, Try.ntmps38
  go_wp2_with (first
    | (go_at_call 84; refine (isWidth_any _ _).mono ?_; rintro e w' ⟨rfl, rfl⟩)
    | (go_at_call 85; refine (within_any _ _ _ _).mono ?_; rintro e w' ⟨rfl, rfl⟩)
    | (go_at_call 77; refine (power_any _ (by omega) (by omega) _).mono ?_; rintro e w' ⟨rfl, rfl⟩))
  go_loopw [5, 18] (fun v i wr => ∃ (j : Nat) (A : Option Addr) (cc : Nat), (j : Int) ≤ pw k ∧ i = .int .i64 j ∧ v = .slice A (alN c j).length cc ∧ Owns wr B A cc (alN c j) ∧ Below B w wr) (fun _ i _ => (pw k - intOf i).toNat)
  case atStart => exact ⟨0, none, 0, by omega, rfl, rfl, World.ownsRow_nil _ _ _ _, Below.refl _ _⟩
  case round =>
    obtain ⟨j, A, cc, hj, rfl, rfl, hown, hbel⟩ := hrel
    have hlen := alN_len c j
    have hBr : B ≤ wr.heap.size := Nat.le_trans hB1 hbel.size
    by_cases hlt : (j : Int) < pw k
    · have hpj := popZ_bd j
      by_cases hp : popZ j = c
      · have HY := hd (alN_yes hp)
        have hq : (popZ j == c) = true := by simpa using hp
        clear hp
        obtain ⟨D, hD⟩ : ∃ D, alN c j = D := ⟨_, rfl⟩
        rw [hD] at hown hlen HY
        rw [hD]
        clear hD
        go_wp2_with (first
          | (go_at_call 73; refine (ones_any _ (by omega) (by omega) _).mono ?_; rintro e w' ⟨rfl, rfl⟩)
          | (at_builtin; refine wpList_append_own _ rfl _ _ 24 rfl B 3 i0 (.int .i64 0) 1 8 Try.underlying24 hi hz0 hz1 hz2 rfl (by decide) _ _ _ rfl (hown.alloc _) ⟨wr.heap.size, 0, none⟩ 1 1 [.int .i64 j] rfl rfl ?c1 ?c2 ?c3 ?c4 ?c5 ?_))
        case c1 => exact (cell_one_new _ _ _)
        case c2 => intro u hu; simp at hu; subst hu; rfl
        case c3 => unfold maxLen; omega
        case c4 => omega
        case c5 => simp; omega

        intro v' w1 hown' hgrow _
        have hb1 := app_below hbel hBr hown hown' hgrow
        obtain ⟨A', c', rfl⟩ := own_shape hown'
        clear hgrow hown hbel
        go_wp2
        go_roundw
        case rel => exact ⟨j + 1, A', c', by omega, by go_num, by rw [HY.out]; simp, by rw [HY.out]; simpa [Owns] using hown', hb1⟩
        case measure => simp [intOf]; omega
      · have HY := hd (alN_no hp)
        have hq : (popZ j == c) = false := by simpa using hp
        clear hp
        go_wp2_with (go_at_call 73; refine (ones_any _ (by omega) (by omega) _).mono ?_; rintro e w' ⟨rfl, rfl⟩)
        go_roundw
        case rel => exact ⟨j + 1, A, cc, by omega, by go_num, by rw [HY.out], by rw [HY.out]; exact hown, hbel⟩
        case measure => simp [intOf]; omega
    · have hE : j = 2 ^ k.toNat := by have := HPC.out; omega
      have HE := hd (show alL k c = alN c j by rw [hE]; rfl)
      clear hE
      go_wp2
      go_ret
      rw [HE.out]
      exact ⟨A, cc, rfl, hown, hbel⟩
set_option maxHeartbeats 800000 in
theorem specAllSame_ok (k c : Int) (h : okAl k c = true) (w : World) :
    Calls Try.prog 37 #[.int .i64 k, .int .i64 c] w (RetL w.heap.size (alL k c) w) := by
  obtain ⟨i0, hi, hz0, hz1, hz2⟩ := info_parts info_int
  obtain ⟨h1, h2, h3, h4⟩ := okAl_true h
  obtain ⟨hb1, hb2⟩ : inB k 1 12 = true ∧ inB c 0 k = true := ⟨inB_mk h1 h2, inB_mk h3 h4⟩
  obtain ⟨p1, p2⟩ := pw_w k h1 h2
  obtain ⟨p3, p4⟩ := pw_le12 c (by omega)
  have p5 := pw_le c k h4
  have HF := hd (al_first c.toNat (by omega))
  have HPC := hd (pw_cast k)
  have HPD := hd (pw_cast c)
  have ec := shl_pw c
  have s0 := Go.Proofs.Ytgbgpibaincheaa.wr (pw c) (by omega)
  clear h
  obtain ⟨B, hB⟩ : ∃ B, B = w.heap.size := ⟨_, rfl⟩
  have HB := hd hB
  rw [← hB]
  have hB1 : B ≤ w.heap.size := by omega
  clear hB
  go_enter Try.func37, Try.ntmps37
  go_wp2_with (go_at_call 83; refine (l1In_any _ _ _ _).mono ?_; rintro e w' ⟨rfl, rfl⟩)
  go_loopw [5, 6, 7] (fun v i b wr => ∃ (n : Nat) (x : Int) (t : Bool) (A : Option Addr) (cc : Nat) (D : List Int), D.length ≤ n ∧ n ≤ 4096 ∧ i = .int .i64 x ∧ b = .bool t ∧ v = .slice A D.length cc ∧ Owns wr B A cc D ∧ Below B w wr ∧ (t = true → x = n ∧ x < pw k ∧ popZ x = c ∧ D = alN c n) ∧ (t = false → D = alL k c)) (fun _ i b _ => match b with | .bool true => 5000 - (intOf i).toNat | _ => 0)
  case atStart =>
    refine ⟨(pw c - 1).toNat, pw c - 1, true, _, 0, [], by simp, by omega, by go_num, rfl, rfl, World.ownsRow_lit w #[] 0 hB1 (by unfold maxLen; omega) rfl, (Below.refl _ _).alloc hB1 _, (fun _ => ⟨by omega, by omega, ?_, ?_⟩), (fun g => by cases g)⟩
    · have h0 := HF.out.2
      rw [show ((2 ^ c.toNat - 1 : Nat) : Int) = pw c - 1 by have := HPD.out; omega] at h0
      rw [h0]; omega
    · have h0 := HF.out.1
      rw [show ((c.toNat : Nat) : Int) = c by omega, show 2 ^ c.toNat - 1 = (pw c - 1).toNat by have := HPD.out; omega] at h0
      exact h0.symm
  case round =>
    obtain ⟨n, x, t, A, cc, D, hDn, hn, rfl, rfl, rfl, hown, hbel, ht, hf⟩ := hrel
    have hBr : B ≤ wr.heap.size := Nat.le_trans hB1 hbel.size
    cases t with
    | false =>
      have HE := hd (hf rfl)
      clear ht hf
      go_wp2
      go_ret
      obtain rfl := HE.out
      exact ⟨A, cc, rfl, hown, hbel⟩
    | true =>
      obtain ⟨rfl, hx, hp, hD⟩ := ht rfl
      have hv : vld k n = true := vld_mk h1 h2 (by omega) hx
      obtain ⟨a1, a2⟩ := al_next k n c hv hp
      have HD := hd hD
      have HY := hd (alN_yes hp)
      have HV := hd hv
      clear ht hf hp hD hv
      rcases hok : nsOk k n with _ | _
      · have HA := hd (a2 hok)
        have HO := hd (show nsOut k n = -1 by unfold nsOut; rw [hok]; rfl)
        clear a1 a2
        go_wp2_with (first
          | (go_at_call 35; refine (specNextSame_any _ _ _).mono ?_; rintro e w' ⟨rfl, rfl⟩)
          | (at_builtin; refine wpList_append_own _ rfl _ _ 24 rfl B 3 i0 (.int .i64 0) 1 8 Try.underlying24 hi hz0 hz1 hz2 rfl (by decide) _ _ _ rfl (hown.alloc _) ⟨wr.heap.size, 0, none⟩ 1 1 [.int .i64 n] rfl rfl ?c1 ?c2 ?c3 ?c4 ?c5 ?_))
        case c1 => exact (cell_one_new _ _ _)
        case c2 => intro u hu; simp at hu; subst hu; rfl
        case c3 => unfold maxLen; omega
        case c4 => omega
        case c5 => simp; omega

        intro v' w1 hown' hgrow _
        have hb1 := app_below hbel hBr hown hown' hgrow
        obtain ⟨A', c', rfl⟩ := own_shape hown'
        clear hgrow hown hbel
        go_wp2_with (go_at_call 35; refine (specNextSame_any _ _ _).mono ?_; rintro e w' ⟨rfl, rfl⟩)
        go_roundw
        case rel => exact ⟨4096, _, false, A', c', D ++ [(n : Int)], by simp; omega, by omega, rfl, rfl, by simp, by simpa [Owns] using hown', hb1, (fun g => by cases g), (fun _ => by unfold alL; rw [HA.out, HY.out, HD.out])⟩
        case measure => simp [intOf]; omega
      · obtain ⟨g1, g2, g3, g4, g5⟩ := a1 hok
        have HA := hd g5
        have HP := hd g4
        have HO := hd (show nsOut k n = nsZ k n by unfold nsOut; rw [if_pos hok])
        clear a1 a2 g4 g5
        obtain ⟨y, hy⟩ : ∃ y, nsZ k n = y := ⟨_, rfl⟩
        rw [hy] at g1 g2 g3 HA HP HO
        clear hy
        have HN := hd (fun W => specNextSame_any k n W)
        rw [HO.out, hok] at HN
        clear hok
        go_wp2_with (first
          | (go_at_call 35; refine (HN.out _).mono ?_; rintro e w' ⟨rfl, rfl⟩)
          | (at_builtin; refine wpList_append_own _ rfl _ _ 24 rfl B 3 i0 (.int .i64 0) 1 8 Try.underlying24 hi hz0 hz1 hz2 rfl (by decide) _ _ _ rfl (hown.alloc _) ⟨wr.heap.size, 0, none⟩ 1 1 [.int .i64 n] rfl rfl ?c1 ?c2 ?c3 ?c4 ?c5 ?_))
        case c1 => exact (cell_one_new _ _ _)
        case c2 => intro u hu; simp at hu; subst hu; rfl
        case c3 => unfold maxLen; omega
        case c4 => omega
        case c5 => simp; omega

        intro v' w1 hown' hgrow _
        have hb1 := app_below hbel hBr hown hown' hgrow
        obtain ⟨A', c', rfl⟩ := own_shape hown'
        clear hgrow hown hbel
        go_wp2_with (go_at_call 35; refine (HN.out _).mono ?_; rintro e w' ⟨rfl, rfl⟩)
        go_roundw
        case rel => exact ⟨y.toNat, y, true, A', c', D ++ [(n : Int)], by simp; omega, by omega, rfl, rfl, by simp, by simpa [Owns] using hown', hb1, (fun _ => ⟨by omega, by omega, HP.out, by rw [HA.out, HY.out, HD.out]⟩), (fun g => by cases g)⟩
        case measure => simp [intOf]; omega
theorem implOnesSteps_bad (k x : Int) (h : vld k x = false) (w : World) :
    Calls Try.prog 31 #[.int .i64 k, .int .i64 x] w (RetL w.heap.size [] w) := by
  go_enter Try.func31, Try.ntmps31
  go_wp2_with (go_at_call 53; refine (implWordValid_any _ _ _).mono ?_; rintro e w' ⟨rfl, rfl⟩)
  go_ret
  exact ⟨none, 0, rfl, World.ownsRow_nil _ _ _ _, Below.refl _ _⟩
theorem specOnesSteps_bad (k x : Int) (h : vld k x = false) (w : World) :
    Calls Try.prog 30 #[.int .i64 k, .int .i64 x] w (RetL w.heap.size [] w) := by
  go_enter Try.func30, Try.ntmps30
  go_wp2_with (go_at_call 70; refine (specWordValid_any _ _ _).mono ?_; rintro e w' ⟨rfl, rfl⟩)
  go_ret
  exact ⟨_, 0, rfl, World.ownsRow_lit w #[] 0 (Nat.le_refl _) (by unfold maxLen; omega) rfl, (Below.refl _ _).alloc (Nat.le_refl _) _⟩
theorem l5Mask_any (j : Nat) (hj : j < 4) (F : Int) (hF : F = ((2 * 2 ^ j : Nat) : Int)) (w : World) :
    Calls Try.prog 79 #[.int .i64 24, .int .i64 F] w fun e w' => e = .returned (.int .i64 (osM j)) ∧ w = w' := by
  have HM := hd (mk_is j hj)
  obtain ⟨f, hf⟩ : ∃ f : Nat, 2 * 2 ^ j = f := ⟨_, rfl⟩
  rw [hf] at hF HM
  have hf1 : 2 ≤ f := by have := Nat.two_pow_pos j; omega
  have hf2 : f ≤ 16 := by rcases (show j = 0 ∨ j = 1 ∨ j = 2 ∨ j = 3 by omega) with rfl | rfl | rfl | rfl <;> simp at hf <;> omega
  clear hf
  have HF := hd hF
  have hF1 : 2 ≤ F := by omega
  have hF2 : F ≤ 16 := by omega
  clear hF hf1 hf2
  go_enter Try.func79, Try.ntmps79
  go_wp2
  go_loop [5, 6] (fun o i => ∃ t : Nat, t ≤ 24 ∧ i = .int .i64 t ∧ o = .int .i64 (mkZ f t)) (fun _ i => 24 - (intOf i).toNat)
  case atStart => exact ⟨0, by omega, rfl, rfl⟩
  case round =>
    obtain ⟨t, ht, rfl, rfl⟩ := hrel
    by_cases hlt : t < 24
    · obtain ⟨b1, b2⟩ := mkZ_bd f t
      obtain ⟨q1, q2⟩ := pw_le24 t (by omega)
      have et := shl_pwn t
      have s0 := Go.Proofs.Ytgbgpibaincheaa.wr (pw t) (by omega)
      have hr0 := Int.emod_nonneg (t : Int) (show F ≠ 0 by omega)
      have hr1 := Int.emod_lt_of_pos (t : Int) (show 0 < F by omega)
      have hc : (t : Int) % F = ((t % f : Nat) : Int) := by rw [HF.out]; rfl
      have hh : F / 2 = ((f / 2 : Nat) : Int) := by rw [HF.out]; omega
      by_cases hb : t % f < f / 2
      · have HS := hd (show mkZ f (t + 1) = mkZ f t + pw t by simp only [mkZ]; rw [if_pos hb])
        have hb' : (t : Int) % F < F / 2 := by omega
        clear hc hh hb
        go_wp2
        go_round
        case rel => exact ⟨t + 1, by omega, by go_num, by rw [HS.out]⟩
        case measure => simp [intOf]; omega
      · have HS := hd (show mkZ f (t + 1) = mkZ f t by simp only [mkZ]; rw [if_neg hb]; omega)
        have hb' : F / 2 ≤ (t : Int) % F := by omega
        clear hc hh hb
        go_wp2
        go_round
        case rel => exact ⟨t + 1, by omega, by go_num, by rw [HS.out]⟩
        case measure => simp [intOf]; omega
    · obtain rfl : t = 24 := by omega
      go_wp2
      go_ret
      exact ⟨ret_i HM.out, rfl⟩
theorem os_next (k : Int) (j : Nat) (y : Int) (L D : List Int) (hj : j < osK k) (h : D ++ osF (osK k - j) j y = L) : D ++ [y] ++ osF (osK k - (j + 1)) (j + 1) (osN j y) = L := by
  rw [← h, show osK k - j = (osK k - (j + 1)) + 1 by omega, List.append_assoc]; rfl
theorem os_end (k : Int) (j : Nat) (y : Int) (L D : List Int) (hj : j = osK k) (h : D ++ osF (osK k - j) j y = L) : D ++ [y] = L := by
  rw [← h, hj, Nat.sub_self]; rfl
set_option maxHeartbeats 1600000 in
theorem specOnesSteps_ok (k x : Int) (h : vld k x = true) (w : World) :
    Calls Try.prog 30 #[.int .i64 k, .int .i64 x] w (RetL w.heap.size (osL k x) w) := by
  obtain ⟨i0, hi, hz0, hz1, hz2⟩ := info_parts info_int
  obtain ⟨h1, h2, h3, h4, h5, h6⟩ := vld_4096 h
  obtain ⟨L, hL⟩ : ∃ L, osL k x = L := ⟨_, rfl⟩
  rw [hL]
  have HL := hd hL
  clear hL
  obtain ⟨B, hB⟩ : ∃ B, B = w.heap.size := ⟨_, rfl⟩
  have HB := hd hB
  rw [← hB]
  have hB1 : B ≤ w.heap.size := by omega
  clear hB
  have hbel0 : Below B w (w.alloc (.cells #[] 3)) := (Below.refl _ _).alloc hB1 _
  have hown0 : (w.alloc (.cells #[] 3)).ownsRow B 3 1 (.slice (some ⟨w.heap.size, 0, none⟩) 0 0) 0 [] := World.ownsRow_lit w #[] 0 hB1 (by unfold maxLen; omega) rfl
  go_enter Try.func30, Try.ntmps30
  go_wp2_with (first
    | (go_at_call 70; refine (specWordValid_any _ _ _).mono ?_; rintro e w' ⟨rfl, rfl⟩)
    | (at_builtin; refine wpList_append_own _ rfl _ _ 24 rfl B 3 i0 (.int .i64 0) 1 8 Try.underlying24 hi hz0 hz1 hz2 rfl (by decide) _ _ _ rfl (hown0.alloc _) ⟨w.heap.size + 1, 0, none⟩ 1 1 [.int .i64 x] rfl rfl ?a1 ?a2 ?a3 ?a4 ?a5 ?_))
  case a1 => have hn := cell_one_new (w.alloc (.cells #[] 3)) (.int .i64 x) 3; simpa using hn
  case a2 => intro u hu; simp at hu; subst hu; rfl
  case a3 => unfold maxLen; omega
  case a4 => omega
  case a5 => simp; omega
  intro v0 w2 hown1 hgrow0 _
  have hbel1 := app_below hbel0 (by simp; omega) hown0 hown1 hgrow0
  obtain ⟨A0, c0, rfl⟩ := own_shape hown1
  clear hgrow0 hown0 hbel0
  go_wp2
  go_loopw [1, 5, 6] (fun y0 v f wr => ∃ (j : Nat) (y F : Int) (A : Option Addr) (c : Nat) (D : List Int), j ≤ osK k ∧ y0 = .int .i64 y ∧ 0 ≤ y ∧ y < 4096 ∧ F = ((2 * 2 ^ j : Nat) : Int) ∧ f = .int .i64 F ∧ v = .slice A (D.length + 1) c ∧ D.length = j ∧ Owns wr B A c (D ++ [y]) ∧ D ++ osF (osK k - j) j y = L ∧ Below B w wr)
    (fun _ _ f _ => 64 - (intOf f).toNat)
  case atStart => exact ⟨0, x, 2, A0, c0, [], by omega, rfl, h3, by omega, rfl, rfl, rfl, rfl, by simpa [Owns] using hown1, HL.out, hbel1⟩
  case round =>
    obtain ⟨j, y, F, A, c, D, hj, rfl, hy0, hy1, hF, rfl, rfl, hDj, hown, hD, hbel⟩ := hrel
    have hj4 := osK_le k
    have hk := osK_is k h1 h2 j (by omega)
    have HDJ := hd hDj
    have hlenD : D.length ≤ 4 := by omega
    clear hDj
    have hown2 : wr.ownsRow B 3 1 (.slice A (D.length + 1) c) (D.length + 1) ((D ++ [y]).map (Value.int .i64)) := by have h0 := hown; rw [Owns, List.length_append] at h0; exact h0
    have hBr : B ≤ wr.heap.size := Nat.le_trans hB1 hbel.size
    have hF2 : F = 2 * ((2 ^ j : Nat) : Int) := by rw [hF]; simp
    have hF3 : 2 ≤ F ∧ F ≤ 32 := by
      rw [hF]
      rcases (show j = 0 ∨ j = 1 ∨ j = 2 ∨ j = 3 ∨ j = 4 by omega) with rfl | rfl | rfl | rfl | rfl <;> simp
    have hFn : F * 2 = ((2 * 2 ^ (j + 1) : Nat) : Int) := by rw [hF, Nat.pow_succ]; omega
    by_cases hlt : j < osK k
    · have hlt2 : F < 2 * k := by have := hk.2 hlt; omega
      have HN := hd (os_next k j y L D hlt hD)
      obtain ⟨_, c2, c3, _⟩ := os_is y hy0 hy1 j (by omega)
      have m1 := osM_bd j
      have a1 := andZ_nonneg y (osM j)
      have a2 := andZ_le y (osM j) hy0
      have hh : F / 2 = ((2 ^ j : Nat) : Int) := by omega
      obtain ⟨d1, d2⟩ := ediv_bd (x := y) (c := pw (F / 2)) hy0 (pw_pos _)
      have a3 := andZ_nonneg (y / pw (F / 2)) (osM j)
      have a4 := andZ_le (y / pw (F / 2)) (osM j) d1
      have HS := hd (show osN j y = andZ y (osM j) + andZ (y / pw (F / 2)) (osM j) by unfold osN; rw [hh])
      have eh := shl_pw (F / 2)
      have HFN := hd hFn
      have HM := hd (fun W => l5Mask_any j (by omega) F hF W)
      clear hD hk hF hF2 hFn hh
      obtain ⟨M, hM⟩ : ∃ M, osM j = M := ⟨_, rfl⟩
      obtain ⟨z, hz⟩ : ∃ z, osN j y = z := ⟨_, rfl⟩
      rw [hM] at m1 a1 a2 a3 a4 HS HM
      rw [hz] at c2 c3 HS HN
      clear hM hz
      have hz3 := HS.out
      go_wp2_with (go_at_call 79; refine (HM.out _).mono ?_; rintro e w' ⟨rfl, rfl⟩)
      go_quiet ((go_at_call 80; exact Calls.quiet_of_same ((l1And_any _ _ (by omega) (by omega) (by omega) (by omega) _).mono fun e w' h => ⟨h.1, h.2.symm⟩)))
      have hown3 : (wr.drewN nq).ownsRow B 3 1 (.slice A (D.length + 1) c) (D.length + 1) ((D ++ [y]).map (Value.int .i64)) := hown2
      have hbel3 := below_drewN hbel nq
      go_wp2_with (at_builtin; refine wpList_append_own _ rfl _ _ 24 rfl B 3 i0 (.int .i64 0) 1 8 Try.underlying24 hi hz0 hz1 hz2 rfl (by decide) _ _ _ rfl (hown3.alloc _) ⟨wr.heap.size, 0, none⟩ 1 1 [.int .i64 (andZ y M + andZ (y / pw (F / 2)) M)] rfl rfl ?c1 ?c2 ?c3 ?c4 ?c5 ?_)
      case c1 => exact (cell_one_new _ _ _)
      case c2 => intro u hu; simp at hu; subst hu; rfl
      case c3 => unfold maxLen; omega
      case c4 => omega
      case c5 => simp; omega

      intro v' w1 hown' hgrow _
      have hb1 := app_below hbel3 hBr hown3 hown' hgrow
      obtain ⟨A', c', rfl⟩ := own_shape hown'
      clear hgrow hown hown2 hown3 hbel hbel3
      rw [← hz3] at hown'
      go_wp2
      go_roundw
      case rel => exact ⟨j + 1, z, F * 2, A', c', D ++ [y], by omega, ret_v hz3.symm, c3, c2, HFN.out, ret_v (by omega), by simp, by have := HDJ.out; simp; omega, by simpa [Owns] using hown', HN.out, hb1⟩
      case measure => simp [intOf]; omega
    · have hje : j = osK k := by omega
      have hlt2 : ¬ F < 2 * k := fun g => hlt (hk.1 (by omega))
      have HE := hd (os_end k j y L D hje hD)
      clear hD hk hF hF2 hFn hje
      go_wp2
      go_ret
      obtain rfl := HE.out
      exact ⟨A, c, by rw [List.length_append]; rfl, hown, hbel⟩
set_option maxHeartbeats 1600000 in
theorem implOnesSteps_ok (k x : Int) (h : vld k x = true) (w : World) :
    Calls Try.prog 31 #[.int .i64 k, .int .i64 x] w (RetL w.heap.size (osL k x) w) := by
  obtain ⟨i0, hi, hz0, hz1, hz2⟩ := info_parts info_int
  obtain ⟨h1, h2, h3, h4, h5, h6⟩ := vld_4096 h
  obtain ⟨L, hL⟩ : ∃ L, osL k x = L := ⟨_, rfl⟩
  rw [hL]
  have HL := hd hL
  clear hL
  obtain ⟨B, hB⟩ : ∃ B, B = w.heap.size := ⟨_, rfl⟩
  have HB := hd hB
  rw [← hB]
  have hB1 : B ≤ w.heap.size := by omega
  clear hB
  go_enter Try.func31, Try.ntmps31
  go_wp2_with (go_at_call 53; refine (implWordValid_any _ _ _).mono ?_; rintro e w' ⟨rfl, rfl⟩)
  go_loopw [1, 5, 6] (fun y0 v f wr => ∃ (j : Nat) (y F : Int) (A : Option Addr) (c : Nat) (D : List Int), j ≤ osK k ∧ y0 = .int .i64 y ∧ 0 ≤ y ∧ y < 4096 ∧ F = ((2 * 2 ^ j : Nat) : Int) ∧ f = .int .i64 F ∧ v = .slice A (D.length + 1) c ∧ D.length = j ∧ Owns wr B A c (D ++ [y]) ∧ D ++ osF (osK k - j) j y = L ∧ Below B w wr)
    (fun _ _ f _ => 64 - (intOf f).toNat)
  case atStart => exact ⟨0, x, 2, _, 1, [], by omega, rfl, h3, by omega, rfl, rfl, rfl, rfl, World.ownsRow_lit w #[.int .i64 x] 1 hB1 (by unfold maxLen; omega) rfl, HL.out, (Below.refl _ _).alloc hB1 _⟩
  case round =>
    obtain ⟨j, y, F, A, c, D, hj, rfl, hy0, hy1, hF, rfl, rfl, hDj, hown, hD, hbel⟩ := hrel
    have hj4 := osK_le k
    have hk := osK_is k h1 h2 j (by omega)
    have HDJ := hd hDj
    have hlenD : D.length ≤ 4 := by omega
    clear hDj
    have hown2 : wr.ownsRow B 3 1 (.slice A (D.length + 1) c) (D.length + 1) ((D ++ [y]).map (Value.int .i64)) := by have h0 := hown; rw [Owns, List.length_append] at h0; exact h0
    have hBr : B ≤ wr.heap.size := Nat.le_trans hB1 hbel.size
    have hF2 : F = 2 * ((2 ^ j : Nat) : Int) := by rw [hF]; simp
    have hF3 : 2 ≤ F ∧ F ≤ 32 ∧ (j ≤ 3 → F ≤ 16) := by
      rw [hF]
      rcases (show j = 0 ∨ j = 1 ∨ j = 2 ∨ j = 3 ∨ j = 4 by omega) with rfl | rfl | rfl | rfl | rfl <;> simp
    have hFn : F * 2 = ((2 * 2 ^ (j + 1) : Nat) : Int) := by rw [hF, Nat.pow_succ]; omega
    by_cases hlt : j < osK k
    · have hlt2 : F < 2 * k := by have := hk.2 hlt; omega
      have hF16 : F ≤ 16 := hF3.2.2 (by omega)
      have HN := hd (os_next k j y L D hlt hD)
      obtain ⟨c1, c2, c3, c4⟩ := os_is y hy0 hy1 j (by omega)
      have C1 := hd c1
      have C4 := hd c4
      have HFN := hd hFn
      obtain ⟨H, hH⟩ : ∃ H, H = ((2 ^ j : Nat) : Int) := ⟨_, rfl⟩
      have hFH : F = 2 * H := by rw [hF2, hH]
      have HH := hd hH
      have HLT := hd (fun t => os_lt j t H (by omega) hH)
      obtain ⟨_, _, _, e1, e2⟩ := os_lt j 0 H (by omega) hH
      have HE := hd (fun t a ha => osT_eq j t y a H hH ha)
      obtain ⟨g1, g2⟩ := pw_le12 H (by omega)
      clear hD hk hF hF2 hFn hH c1 c4 hF3 hj4
      have g3 := pw_le H 8 e2
      rw [show pw 8 = 256 from by decide] at g3
      obtain ⟨T, hT⟩ : ∃ T, 8 / 2 ^ j = T := ⟨_, rfl⟩
      rw [hT] at C1 C4
      have HT := hd hT
      clear hT
      have eFH : F / 2 = H := by omega
      have HFH := hd hFH
      have hF2' : 2 ≤ F := by omega
      clear hFH
      go_wp2
      obtain ⟨wo, rfl⟩ : ∃ wo : World, wo = wr := ⟨_, rfl⟩
      go_loopw [9, 8] (fun at' o wi => ∃ (n t : Nat) (a : Int), t ≤ T ∧ a = 2 * H * t ∧ at' = .int .i64 a ∧ o = .int .i64 (osI j y t) ∧ wi = wo.drewN n) (fun at' _ _ => 40 - (intOf at').toNat)
      case atStart => exact ⟨0, 0, 0, by omega, by simp, rfl, rfl, rfl⟩
      case round => 
        obtain ⟨n, t, a, ht, ha, rfl, rfl, rfl⟩ := hrel
        obtain ⟨l1, l2, l3, _, _⟩ := HLT.out t
        rw [HT.out, ← ha] at l1 l2 l3
        have hanext : a + F = 2 * H * (t + 1 : Nat) := by rw [ha, HFH.out, Int.natCast_add, Int.mul_add]; simp
        have ha0 : 0 ≤ a := by rw [ha]; exact Int.mul_nonneg (by omega) (by omega)
        have ha16 : a ≤ 16 := l2 ht
        have HTE := hd (HE.out t a ha)
        have HAN := hd hanext
        clear hanext ha
        obtain ⟨o1, o2, o3, o4⟩ := C4.out t ht
        by_cases hta : t < T
        · have hlt16 : a < 16 := l1.2 hta
          obtain ⟨o5, o6, _, _⟩ := C4.out (t + 1) (by omega)
          have HS := hd (show osI j y (t + 1) = orZ (osI j y t) (osT j t y) from rfl)
          rw [HTE.out] at o3 o4 HS
          have ea := shl_pw a
          have eb := shl_pw (a + H)
          have q1 := pw_pos a
          have q2 := pw_pos (a + H)
          have k1 := i64_and_mask (y / pw a) H (by omega)
          have k2 := i64_and_mask (y / pw (a + H)) H (by omega)
          have k3 := mod_lt_bd (y / pw a) (pw H) g1
          have k4 := mod_lt_bd (y / pw (a + H)) (pw H) g1
          have k5 := ediv_bd (x := y) (c := pw a) hy0 q1
          have k6 := ediv_bd (x := y) (c := pw (a + H)) hy0 q2
          have k7 := i64_or (osI j y t) ((y / pw a % pw H + y / pw (a + H) % pw H) * pw a) (by omega) (by omega) (by omega) (by omega)
          clear l1 l2 l3
          generalize hwi : wo.drewN n = wi
          have HWI := hd hwi
          clear hwi
          go_wp2
          go_quiet ((go_at_call 77; exact Calls.quiet_of_same ((power_any _ (by omega) (by omega) _).mono fun e w' h => ⟨h.1, h.2.symm⟩)))
          go_wp2
          go_roundw
          case rel => exact ⟨n + nq, t + 1, a + F, by omega, HAN.out, by go_num, by rw [HS.out], by rw [← HWI.out, World.drewN_drewN]⟩
          case measure => simp [intOf]; omega
        · have hlt16 : ¬ a < 16 := fun g => hta (l1.1 g)
          have hz : osI j y t = osN j y := by rw [← C1.out]; congr 1; omega
          rw [hz] at o1 o2 ⊢
          clear l1 l2 l3 hz
          obtain ⟨z, hz⟩ : ∃ z, osN j y = z := ⟨_, rfl⟩
          rw [hz] at c2 c3 HN o1 o2 ⊢
          clear hz
          have hown3 : (wo.drewN n).ownsRow B 3 1 (.slice A (D.length + 1) c) (D.length + 1) ((D ++ [y]).map (Value.int .i64)) := hown2
          have hbel3 := below_drewN hbel n
          have hBi : B ≤ (wo.drewN n).heap.size := hBr
          generalize wo.drewN n = wi at hown3 hbel3 hBi ⊢
          clear hown2 hbel hBr
          go_wp2_with (at_builtin; refine wpList_append_own _ rfl _ _ 24 rfl B 3 i0 (.int .i64 0) 1 8 Try.underlying24 hi hz0 hz1 hz2 rfl (by decide) _ _ _ rfl (hown3.alloc _) ⟨wi.heap.size, 0, none⟩ 1 1 [.int .i64 z] rfl rfl ?c1 ?c2 ?c3 ?c4 ?c5 ?_)
          try (case c1 => exact (cell_one_new _ _ _))
          try (case c2 => first | rfl | (intro u hu; simp at hu; subst hu; rfl))
          case c3 => unfold maxLen; omega
          case c4 => omega
          case c5 => first | omega | (simp; omega)
          intro v' w1 hown' hgrow _
          have hb1 := app_below hbel3 hBi hown3 hown' hgrow
          obtain ⟨A', c', rfl⟩ := own_shape hown'
          clear hgrow hown3 hbel3
          go_wp2
          go_roundw
          case rel => exact ⟨j + 1, z, F * 2, A', c', D ++ [y], by omega, rfl, c3, c2, HFN.out, ret_v (by omega), by simp, by have := HDJ.out; simp; omega, by simpa [Owns] using hown', HN.out, hb1⟩
          case measure => simp [intOf]; omega
    · have hje : j = osK k := by omega
      have hlt2 : ¬ F < 2 * k := fun g => hlt (hk.1 (by omega))
      have HE := hd (os_end k j y L D hje hD)
      clear hD hk hF hF2 hFn hje
      by_cases hF16 : F ≤ 16
      · go_wp2
        go_ret
        obtain rfl := HE.out
        exact ⟨A, c, by rw [List.length_append]; rfl, hown, hbel⟩
      · go_wp2
        go_ret
        obtain rfl := HE.out
        exact ⟨A, c, by rw [List.length_append]; rfl, hown, hbel⟩
end Go.Proofs.Ytgbgpibaincheaa
