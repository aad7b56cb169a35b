/- Contracts of MovedWords (chapter 3) of the program and of the reference; conditions: that both words are valid, or that one is not. -/
import Derived.Test.YthbpcgefcnpfmaaW2
import Derived.Test.YthbpcgefcnpfmaaOwn
import Derived.Test.YthbpcgefcnpfmaaMathJ
import Derived.Deep.AppendLies
import Derived.Deep.RegionLaw
namespace Go.Proofs.Ythbpcgefcnpfmaa
open Go.RowKit
theorem implMovedWords_bad (k a b : Int) (h : vld2 k a b = false) (w : World) :
    Calls Try.prog 45 #[.int .i64 k, .int .i64 a, .int .i64 b] w (RetL w.heap.size [] w) := by
  go_enter Try.func45, Try.ntmps45
  go_wp2_with (go_at_call 55; refine (allValid_two k a b _ _ _ (cell_two0 _ _ _ _) (cell_two1 _ _ _ _)).mono ?_; rintro e w' ⟨rfl, rfl⟩)
  go_ret
  exact ⟨none, 0, rfl, World.ownsRow_nil _ _ _ _, (Below.refl _ _).alloc (Nat.le_refl _) _⟩
theorem specMovedWords_bad (k a b : Int) (h : vld2 k a b = false) (w : World) :
    Calls Try.prog 46 #[.int .i64 k, .int .i64 a, .int .i64 b] w (RetL w.heap.size [] w) := by
  have HF : Hid (RetL w.heap.size [] w (.returned (.slice (some ⟨w.heap.size, 0, none⟩) 0 0)) (w.alloc (.cells #[] 3))) :=
    ⟨_, 0, rfl, World.ownsRow_lit w #[] 0 (Nat.le_refl _) (by unfold maxLen; omega) rfl, (Below.refl _ _).alloc (Nat.le_refl _) _⟩
  by_cases hk : 0 < k
  all_goals
    go_enter Try.func46, Try.ntmps46
    go_wp2
    refine wp_loop_rounds 1 ?_
    rw [rounds_succ]
    go_wp2_with (go_at_call 53; refine (l1Both_any _ _ _ _).mono ?_; rintro e w' ⟨rfl, rfl⟩)
    go_ret
    exact HF.out
set_option maxHeartbeats 800000 in
theorem implMovedWords_ok (k a b : Int) (h : vld2 k a b = true) (w : World) :
    Calls Try.prog 45 #[.int .i64 k, .int .i64 a, .int .i64 b] w (RetL w.heap.size (mvL k a b k.toNat) w) := by
  obtain ⟨i0, hi, hz0, hz1, hz2⟩ := info_parts info_int
  obtain ⟨h1, h2, h3, h4, g3, g4, h5, h6⟩ := vld2_bd h
  obtain ⟨m, hm⟩ : ∃ m, k.toNat = m := ⟨_, rfl⟩
  have hmk : (m : Int) = k := by omega
  rw [hm]
  have HMK := hd hmk
  have hm12 : m ≤ 12 := by omega
  clear hm hmk
  obtain ⟨B, hB⟩ : ∃ B, B = w.heap.size := ⟨_, rfl⟩
  rw [← hB]
  have hB1 : B ≤ w.heap.size := by omega
  clear hB
  go_enter Try.func45, Try.ntmps45
  go_wp2_with (go_at_call 55; refine (allValid_two k a b _ _ _ (cell_two0 _ _ _ _) (cell_two1 _ _ _ _)).mono ?_; rintro e w' ⟨rfl, rfl⟩)

  go_loopw [7, 16] (fun v i wr => ∃ (j : Nat) (A : Option Addr) (c : Nat), j ≤ m ∧ i = .int .i64 (j : Int) ∧ v = .slice A j c ∧ Owns wr B A c (mvL k a b j) ∧ Below B w wr) (fun _ i _ => m - (intOf i).toNat)
  case atStart => exact ⟨0, none, 0, by omega, rfl, rfl, World.ownsRow_nil _ _ _ _, (Below.refl _ _).alloc hB1 _⟩
  case round =>
    obtain ⟨j, A, c, hj, rfl, rfl, hown0, hbel⟩ := hrel
    have hown : wr.ownsRow B 3 1 (.slice A j c) j ((mvL k a b j).map (Value.int .i64)) := by have h0 := hown0; rw [Owns, mvL_len] at h0; exact h0
    have hBr : B ≤ wr.heap.size := Nat.le_trans hB1 hbel.size
    by_cases hlt : j < m
    · have hlk : (j : Int) < k := by have := HMK.out; omega
      obtain ⟨b0, b1⟩ := bitZ_bd b (j : Int)
      obtain ⟨q1, q2⟩ := pw_le12 (j : Int) (by omega)
      obtain ⟨r1, r2⟩ := mul_bd (x := a) (y := pw j) (X := 4096) (Y := 4096) (by omega) (by omega) (by omega) (by omega)
      have r3 := mod_lt_bd (a * pw j) (pw k) (by omega)
      have HS := hd (mvL_succ k a b j)
      have HE := hd (mv_elem k a b j)
      have ej := shl_pwn j
      obtain ⟨t1, t2⟩ := mul_bd (x := bitZ b j) (y := a) (X := 1) (Y := 4096) b0 b1 (by omega) (by omega)
      obtain ⟨t3, t4⟩ := mul_bd (x := bitZ b j * a) (y := pw j) (X := 4096) (Y := 4096) t1 (by omega) (by omega) (by omega)
      go_wp2_with (first
        | (go_at_call 73; refine (bit_any _ _ (by omega) (by omega) _).mono ?_; rintro e w' ⟨rfl, rfl⟩)
        | (go_at_call 57; refine (cut_any _ _ (by omega) (by omega) _).mono ?_; rintro e w' ⟨rfl, rfl⟩)
        | (at_builtin; refine wpList_append_own _ rfl _ _ 35 rfl B 3 i0 (.int .i64 0) 1 8 Try.underlying35 hi hz0 hz1 hz2 rfl (by decide) _ _ _ rfl (hown.alloc _) ⟨wr.heap.size, 0, none⟩ 1 1 [.int .i64 (bitZ b j * a * pw j % pw k)] rfl rfl ?c1 ?c2 ?c3 ?c4 ?c5 ?_))
      case c1 => exact (cell_one_new _ _ _)
      case c2 => intro u hu; simp at hu; subst hu; rfl
      case c3 => unfold maxLen; omega
      case c4 => omega
      case c5 => simp; omega
      · intro v' w1 hown' hgrow _
        have hb2 := app_below hbel hBr hown hown' hgrow
        obtain ⟨A', c', rfl⟩ := own_shape hown'
        clear hgrow hown hown0 hbel
        go_wp2
        go_roundw
        case rel => exact ⟨j + 1, A', c', by omega, by go_num, rfl, by rw [HS.out, ← HE.out]; simpa [Owns, mvL_len] using hown', hb2⟩
        case measure => simp [intOf]; omega
    · have HJ := hd (show j = m by omega)
      have hlk : ¬ (j : Int) < k := by have := HMK.out; omega
      go_wp2
      go_ret
      rw [← HJ.out]
      exact ⟨A, c, by rw [mvL_len]; rfl, hown0, hbel⟩
set_option maxHeartbeats 3200000 in
theorem specMovedWords_ok (k a b : Int) (h : vld2 k a b = true) (w : World) :
    Calls Try.prog 46 #[.int .i64 k, .int .i64 a, .int .i64 b] w (RetL w.heap.size (mvL k a b k.toNat) w) := by
  obtain ⟨i0, hi, hz0, hz1, hz2⟩ := info_parts info_int
  obtain ⟨h1, h2, h3, h4, g3, g4, h5, h6⟩ := vld2_bd h
  obtain ⟨m, hm⟩ : ∃ m, k.toNat = m := ⟨_, rfl⟩
  have hmk : (m : Int) = k := by omega
  rw [hm]
  have HMK := hd hmk
  have hm12 : m ≤ 12 := by omega
  clear hm hmk
  obtain ⟨B, hB⟩ : ∃ B, B = w.heap.size := ⟨_, rfl⟩
  rw [← hB]
  have hB1 : B ≤ w.heap.size := by omega
  clear hB
  go_enter Try.func46, Try.ntmps46
  go_wp2
  go_loopw [7, 8] (fun v i wr => ∃ (j : Nat) (A : Option Addr) (c : Nat), j ≤ m ∧ i = .int .i64 (j : Int) ∧ v = .slice A j c ∧ Owns wr B A c (mvL k a b j) ∧ Below B w wr) (fun _ i _ => m - (intOf i).toNat)
  case atStart => exact ⟨0, _, 0, by omega, rfl, rfl, World.ownsRow_lit w #[] 0 hB1 (by unfold maxLen; omega) rfl, (Below.refl _ _).alloc hB1 _⟩
  case round =>
    obtain ⟨j, A, c, hj, rfl, rfl, hown0, hbel⟩ := hrel
    have hown : wr.ownsRow B 3 1 (.slice A j c) j ((mvL k a b j).map (Value.int .i64)) := by have h0 := hown0; rw [Owns, mvL_len] at h0; exact h0
    have hBr : B ≤ wr.heap.size := Nat.le_trans hB1 hbel.size
    by_cases hlt : j < m
    · have hlk : (j : Int) < k := by have := HMK.out; omega
      obtain ⟨b0, b1⟩ := bitZ_bd b (j : Int)
      obtain ⟨q1, q2⟩ := pw_le12 (j : Int) (by omega)
      obtain ⟨r1, r2⟩ := mul_bd (x := a) (y := pw j) (X := 4096) (Y := 4096) (by omega) (by omega) (by omega) (by omega)
      have r3 := mod_lt_bd (a * pw j) (pw k) (by omega)
      have HS := hd (mvL_succ k a b j)
      have HE := hd (mv_elem k a b j)
      have ej := shl_pwn j
      obtain ⟨t1, t2⟩ := mul_bd (x := bitZ b j) (y := a * pw j % pw k) (X := 1) (Y := 4096) b0 b1 (by omega) (by omega)
      have s0 := Go.Proofs.Ythbpcgefcnpfmaa.wr (a * pw j) (by omega)
      have s1 := Go.Proofs.Ythbpcgefcnpfmaa.wr (bitZ b j * (a * pw j % pw k)) (by omega)
      go_wp2_with (go_at_call 53; refine (l1Both_any _ _ _ _).mono ?_; rintro e w' ⟨rfl, rfl⟩)
      go_region_law (first
        | (refine step_append_lies _ rfl _ _ 35 rfl B 3 i0 (.int .i64 0) 1 8 Try.underlying35 hi hz0 hz1 hz2 rfl (by decide) _ _ _ rfl (hown.drew.alloc _) ⟨wr.heap.size, 0, none⟩ 1 1 [_] rfl rfl (cell_one_new wr.drew _ _) (by intro u hu; simp at hu; subst hu; rfl) (by decide) (by unfold maxLen; omega) (by omega) (by simp; omega) _ rfl ?_; intro g cap w1 hown' hgrow hat hlt')
        | (go_simp; go_at_call 54; refine (l1Mod_any _ _ (by omega) (by omega) _).mono ?_; rintro e w' ⟨rfl, rfl⟩)
        | (go_simp; go_at_call 74; refine (l1Bit_any _ _ (by omega) (by omega) (by omega) _).mono ?_; rintro e w' ⟨rfl, rfl⟩))
      all_goals
        have hb1 := app_below hbel.drew (by simpa using hBr) hown.drew hown' hgrow
        clear hgrow hown hown0 hbel hat hlt'
        go_wp2
        go_roundw
        case rel => exact ⟨j + 1, some ⟨g, 0, none⟩, cap, by omega, by go_num, rfl, by rw [HS.out]; simpa [Owns, mvL_len] using hown', hb1⟩
        case measure => simp [intOf]; omega
    · have HJ := hd (show j = m by omega)
      have hlk : ¬ (j : Int) < k := by have := HMK.out; omega
      go_wp2
      go_ret
      rw [← HJ.out]
      exact ⟨A, c, by rw [mvL_len]; rfl, hown0, hbel⟩
end Go.Proofs.Ythbpcgefcnpfmaa
