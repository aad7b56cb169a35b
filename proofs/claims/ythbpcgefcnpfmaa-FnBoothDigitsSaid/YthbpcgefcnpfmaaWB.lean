/- Contracts of BoothDigits and BoothTimes (chapter 3) of the program and of the reference; conditions: that the arguments are valid, or that they are not. -/
import Derived.Test.YthbpcgefcnpfmaaW2
import Derived.Test.YthbpcgefcnpfmaaOwn
import Derived.Test.YthbpcgefcnpfmaaMathT
import Derived.StillTailTactics
namespace Go.Proofs.Ythbpcgefcnpfmaa
open Go.RowKit
theorem implBoothDigits_bad (k x : Int) (h : vld k x = false) (w : World) :
    Calls Try.prog 41 #[.int .i64 k, .int .i64 x] w (RetL w.heap.size [] w) := by
  go_enter Try.func41, Try.ntmps41
  go_wp2_with (go_at_call 24; refine (implWordValid_any _ _ _).mono ?_; rintro e w' ⟨rfl, rfl⟩)
  go_ret
  exact ⟨none, 0, rfl, World.ownsRow_nil _ _ _ _, Below.refl _ _⟩
theorem specBoothDigits_bad (k x : Int) (h : vld k x = false) (w : World) :
    Calls Try.prog 43 #[.int .i64 k, .int .i64 x] w (RetL w.heap.size [] w) := by
  have HF : Hid (RetL w.heap.size [] w (.returned (.slice (some ⟨w.heap.size, 0, none⟩) 0 0)) (w.alloc (.cells #[] 3))) :=
    ⟨_, 0, rfl, World.ownsRow_lit w #[] 0 (Nat.le_refl _) (by unfold maxLen; omega) rfl, (Below.refl _ _).alloc (Nat.le_refl _) _⟩
  by_cases hk : 0 < k
  all_goals
    go_enter Try.func43, Try.ntmps43
    go_wp2_with (go_at_call 70; refine (specSignedOf_bad _ _ h _).mono ?_; rintro e w' ⟨rfl, rfl⟩)
    refine wp_loop_rounds 1 ?_
    rw [rounds_succ]
    go_wp2_with (go_at_call 76; refine (specWordValid_any _ _ _).mono ?_; rintro e w' ⟨rfl, rfl⟩)
    go_ret
    exact HF.out
set_option maxHeartbeats 800000 in
theorem implBoothDigits_ok (k x : Int) (h : vld k x = true) (w : World) :
    Calls Try.prog 41 #[.int .i64 k, .int .i64 x] w (RetL w.heap.size (btL (sgZ k x) ((k + 1) / 2).toNat) w) := by
  obtain ⟨i0, hi, hz0, hz1, hz2⟩ := info_parts info_int
  obtain ⟨h1, h2, h3, h4, h5, h6⟩ := vld_4096 h
  obtain ⟨a1, a2, a3, a4⟩ := sgZ_bdT k x h
  obtain ⟨m, hm⟩ : ∃ m, ((k + 1) / 2).toNat = m := ⟨_, rfl⟩
  have hm2 : k ≤ 2 * m := by omega
  have hm3 : 2 * (m : Int) ≤ k + 1 := by omega
  rw [hm]
  have HR := hd (show btL (sgZ k x) m = btL (sgZ k x) m from rfl)
  obtain ⟨B, hB⟩ : ∃ B, B = w.heap.size := ⟨_, rfl⟩
  rw [← hB]
  have hB1 : B ≤ w.heap.size := by omega
  clear hm hB
  go_enter Try.func41, Try.ntmps41
  go_wp2_with (first
    | (go_at_call 24; refine (implWordValid_any _ _ _).mono ?_; rintro e w' ⟨rfl, rfl⟩)
    | (go_at_call 69; refine (signed_any _ _ h _).mono ?_; rintro e w' ⟨rfl, rfl⟩))
  go_loopw [6, 7, 8] (fun v t i wr => ∃ (j : Nat) (A : Option Addr) (c : Nat), j ≤ m ∧ i = .int .i64 (2 * (j : Int)) ∧ t = .int .i64 (prevB (sgZ k x) (2 * j)) ∧ v = .slice A j c ∧ Owns wr B A c (btL (sgZ k x) j) ∧ Below B w wr) (fun _ _ i _ => (k + 1 - intOf i).toNat)
  case atStart => exact ⟨0, none, 0, by omega, rfl, rfl, rfl, World.ownsRow_nil _ _ _ _, (Below.refl _ _)⟩
  case round =>
    obtain ⟨j, A, c, hj, rfl, rfl, rfl, hown0, hbel⟩ := hrel
    have hown : wr.ownsRow B 3 1 (.slice A j c) j ((btL (sgZ k x) j).map (Value.int .i64)) := by have h0 := hown0; rw [Owns, btL_len] at h0; exact h0
    have hBr : B ≤ wr.heap.size := Nat.le_trans hB1 hbel.size
    by_cases hlt : 2 * (j : Int) < k
    · obtain ⟨b0, b1⟩ := bitZ_bd (sgZ k x) (2 * (j : Int))
      obtain ⟨c0, c1⟩ := bitZ_bd (sgZ k x) (2 * (j : Int) + 1)
      obtain ⟨d0, d1⟩ := prevB_bd (sgZ k x) (2 * j)
      have HS := hd (btL_succ (sgZ k x) j)
      have HDg := hd (show btD (sgZ k x) j = bitZ (sgZ k x) (2 * (j : Int)) + prevB (sgZ k x) (2 * j) - 2 * bitZ (sgZ k x) (2 * (j : Int) + 1) from rfl)
      have HP := hd (show prevB (sgZ k x) (2 * (j + 1)) = bitZ (sgZ k x) (2 * (j : Int) + 1) by unfold prevB; rw [if_neg (by omega)]; congr 1; omega)
      go_wp2_with (first
        | (go_at_call 73; refine (bit_any _ _ (by omega) (by omega) _).mono ?_; rintro e w' ⟨rfl, rfl⟩)
        | (at_builtin; refine wpList_append_own _ rfl _ _ 35 rfl B 3 i0 (.int .i64 0) 1 8 Try.underlying35 hi hz0 hz1 hz2 rfl (by decide) _ _ _ rfl (hown.alloc _) ⟨wr.heap.size, 0, none⟩ 1 1 [.int .i64 (bitZ (sgZ k x) (2 * (j : Int)) + prevB (sgZ k x) (2 * j) - 2 * bitZ (sgZ k x) (2 * (j : Int) + 1))] rfl rfl ?c1 ?c2 ?c3 ?c4 ?c5 ?_))
      case c1 => exact (cell_one_new _ _ _)
      case c2 => intro u hu; simp at hu; subst hu; rfl
      case c3 => unfold maxLen; omega
      case c4 => omega
      case c5 => simp; omega
      · intro v' w1 hown' hgrow _
        have hb2 := app_below hbel hBr hown hown' hgrow
        obtain ⟨A', c', rfl⟩ := own_shape hown'
        clear hgrow hown hown0 hbel
        go_wp2_with (go_at_call 73; refine (bit_any _ _ (by omega) (by omega) _).mono ?_; rintro e w' ⟨rfl, rfl⟩)
        go_roundw
        case rel => exact ⟨j + 1, A', c', by omega, by rw [Value.int.injEq]; exact ⟨rfl, by omega⟩, by rw [HP.out], rfl, by rw [HS.out, HDg.out]; simpa [Owns, btL_len] using hown', hb2⟩
        case measure => simp [intOf]; omega
    · obtain rfl : j = m := by omega
      go_wp2
      go_ret
      exact ⟨A, c, by rw [btL_len]; rfl, hown0, hbel⟩
end Go.Proofs.Ythbpcgefcnpfmaa
