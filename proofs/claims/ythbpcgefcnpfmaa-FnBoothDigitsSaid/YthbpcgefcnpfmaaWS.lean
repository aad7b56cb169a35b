/- The contract of BoothDigits of the reference (chapter 3); condition: that the word is valid. -/
import Derived.Test.YthbpcgefcnpfmaaWB
import Derived.Deep.AppendLies
import Derived.Deep.RegionLaw
namespace Go.Proofs.Ythbpcgefcnpfmaa
open Go.RowKit
set_option maxHeartbeats 3200000 in
theorem specBoothDigits_ok (k x : Int) (h : vld k x = true) (w : World) :
    Calls Try.prog 43 #[.int .i64 k, .int .i64 x] w (RetL w.heap.size (btL (sgZ k x) ((k + 1) / 2).toNat) w) := by
  obtain ⟨i0, hi, hz0, hz1, hz2⟩ := info_parts info_int
  obtain ⟨h1, h2, h3, h4, h5, h6⟩ := vld_4096 h
  obtain ⟨a1, a2, a3, a4⟩ := sgZ_bdT k x h
  obtain ⟨m, hm⟩ : ∃ m, ((k + 1) / 2).toNat = m := ⟨_, rfl⟩
  have hm2 : k ≤ 2 * m := by omega
  have hm3 : 2 * (m : Int) ≤ k + 1 := by omega
  rw [hm]
  have HR := hd (show btL (sgZ k x) m = btL (sgZ k x) m from rfl)
  obtain ⟨B, hB⟩ : ∃ B, B = w.heap.size := ⟨_, rfl⟩
  rw [← hB]
  have hB1 : B ≤ w.heap.size := by omega
  clear hm hB
  go_enter Try.func43, Try.ntmps43
  go_wp2_with (go_at_call 70; refine (specSignedOf_ok _ _ h _).mono ?_; rintro e w' ⟨rfl, rfl⟩)
  go_loopw [5, 7] (fun v i wr => ∃ (j : Nat) (A : Option Addr) (c : Nat), j ≤ m ∧ i = .int .i64 (2 * (j : Int)) ∧ v = .slice A j c ∧ Owns wr B A c (btL (sgZ k x) j) ∧ Below B w wr) (fun _ i _ => (k + 1 - intOf i).toNat)
  case atStart => exact ⟨0, _, 0, by omega, rfl, rfl, World.ownsRow_lit w #[] 0 hB1 (by unfold maxLen; omega) rfl, (Below.refl _ _).alloc hB1 _⟩
  case round =>
    obtain ⟨j, A, c, hj, rfl, rfl, hown0, hbel⟩ := hrel
    have hown : wr.ownsRow B 3 1 (.slice A j c) j ((btL (sgZ k x) j).map (Value.int .i64)) := by have h0 := hown0; rw [Owns, btL_len] at h0; exact h0
    have hBr : B ≤ wr.heap.size := Nat.le_trans hB1 hbel.size
    by_cases hlt : 2 * (j : Int) < k
    · obtain ⟨b0, b1⟩ := bitZ_bd (sgZ k x) (2 * (j : Int))
      obtain ⟨c0, c1⟩ := bitZ_bd (sgZ k x) (2 * (j : Int) + 1)
      obtain ⟨d0, d1⟩ := prevB_bd (sgZ k x) (2 * j)
      have HS := hd (btL_succ (sgZ k x) j)
      have HDg := hd (show btD (sgZ k x) j = bitZ (sgZ k x) (2 * (j : Int)) + prevB (sgZ k x) (2 * j) - 2 * bitZ (sgZ k x) (2 * (j : Int) + 1) from rfl)
      have e1 : sgZ k x / 2 ^ (2 * j) % pw 1 = bitZ (sgZ k x) (2 * (j : Int)) := by unfold bitZ; rw [show pw (2 * (j : Int)) = 2 ^ (2 * j) from by rw [show 2 * (j : Int) = ((2 * j : Nat) : Int) from rfl, pw_nat]]; rfl
      have e2 : sgZ k x / 2 ^ (2 * j + 1) % pw 1 = bitZ (sgZ k x) (2 * (j : Int) + 1) := by unfold bitZ; rw [show pw (2 * (j : Int) + 1) = 2 ^ (2 * j + 1) from by rw [show 2 * (j : Int) + 1 = ((2 * j + 1 : Nat) : Int) from rfl, pw_nat]]; rfl
      have f1 : sgZ k x / 2 ^ (2 * (j : Int)).toNat % pw 1 = bitZ (sgZ k x) (2 * (j : Int)) := rfl
      have f2 : sgZ k x / 2 ^ (2 * (j : Int) + 1).toNat % pw 1 = bitZ (sgZ k x) (2 * (j : Int) + 1) := rfl
      have f3 := Go.Proofs.Ythbpcgefcnpfmaa.wr (2 * (j : Int) + 1) (by omega)
      have f4 := Go.Proofs.Ythbpcgefcnpfmaa.wr (bitZ (sgZ k x) (2 * (j : Int)) + prevB (sgZ k x) (2 * j)) (by omega)
      have f5 := Go.Proofs.Ythbpcgefcnpfmaa.wr (2 * bitZ (sgZ k x) (2 * (j : Int) + 1)) (by omega)
      have f6 := Go.Proofs.Ythbpcgefcnpfmaa.wr (bitZ (sgZ k x) (2 * (j : Int)) + prevB (sgZ k x) (2 * j) - 2 * bitZ (sgZ k x) (2 * (j : Int) + 1)) (by omega)
      have f7 := Go.Proofs.Ythbpcgefcnpfmaa.wr (bitZ (sgZ k x) (2 * (j : Int)) - 2 * bitZ (sgZ k x) (2 * (j : Int) + 1)) (by omega)
      have f8 := Go.Proofs.Ythbpcgefcnpfmaa.wr (bitZ (sgZ k x) (2 * (j : Int))) (by omega)
      by_cases hj0 : 0 < (j : Int)
      · have e3 : sgZ k x / 2 ^ (2 * j - 1) % pw 1 = prevB (sgZ k x) (2 * j) := by
          unfold prevB bitZ; rw [if_neg (by omega), show pw (((2 * j : Nat) : Int) - 1) = 2 ^ (2 * j - 1) from by rw [show ((2 * j : Nat) : Int) - 1 = ((2 * j - 1 : Nat) : Int) by omega, pw_nat]]; rfl
        go_wp2_with (first
          | (go_at_call 76; refine (specWordValid_any _ _ _).mono ?_; rintro e w' ⟨rfl, rfl⟩)
          | (go_at_call 54; refine (l1Mod_any _ _ (by omega) (by omega) _).mono ?_; rintro e w' ⟨rfl, rfl⟩))
        go_region_law (first
          | (refine step_append_lies _ rfl _ _ 35 rfl B 3 i0 (.int .i64 0) 1 8 Try.underlying35 hi hz0 hz1 hz2 rfl (by decide) _ _ _ rfl (hown.drew.alloc _) ⟨wr.heap.size, 0, none⟩ 1 1 [_] rfl rfl (cell_one_new wr.drew _ _) (by intro u hu; simp at hu; subst hu; rfl) (by decide) (by unfold maxLen; omega) (by omega) (by simp; omega) _ rfl ?_; intro g cap w1 hown' hgrow hat hlt')
          | (go_simp; go_at_call 54; refine (l1Mod_any _ _ (by omega) (by omega) _).mono ?_; rintro e w' ⟨rfl, rfl⟩))
        all_goals
          have hb1 := app_below hbel.drew (by simpa using hBr) hown.drew hown' hgrow
          clear hgrow hown hown0 hbel hat hlt'
          go_wp2
          go_roundw
          case rel => exact ⟨j + 1, some ⟨g, 0, none⟩, cap, by omega, by rw [Value.int.injEq]; exact ⟨rfl, by omega⟩, rfl, by rw [HS.out, HDg.out]; simpa [Owns, btL_len] using hown', hb1⟩
          case measure => simp [intOf]; omega
      · have e3 : prevB (sgZ k x) (2 * j) = 0 := by unfold prevB; rw [if_pos (by omega)]
        go_wp2_with (first
          | (go_at_call 76; refine (specWordValid_any _ _ _).mono ?_; rintro e w' ⟨rfl, rfl⟩)
          | (go_at_call 54; refine (l1Mod_any _ _ (by omega) (by omega) _).mono ?_; rintro e w' ⟨rfl, rfl⟩))
        go_region_law (first
          | (refine step_append_lies _ rfl _ _ 35 rfl B 3 i0 (.int .i64 0) 1 8 Try.underlying35 hi hz0 hz1 hz2 rfl (by decide) _ _ _ rfl (hown.drew.alloc _) ⟨wr.heap.size, 0, none⟩ 1 1 [_] rfl rfl (cell_one_new wr.drew _ _) (by intro u hu; simp at hu; subst hu; rfl) (by decide) (by unfold maxLen; omega) (by omega) (by simp; omega) _ rfl ?_; intro g cap w1 hown' hgrow hat hlt')
          | (go_simp; go_at_call 54; refine (l1Mod_any _ _ (by omega) (by omega) _).mono ?_; rintro e w' ⟨rfl, rfl⟩))
        all_goals
          have hb1 := app_below hbel.drew (by simpa using hBr) hown.drew hown' hgrow
          clear hgrow hown hown0 hbel hat hlt'
          go_wp2
          go_roundw
          case rel => exact ⟨j + 1, some ⟨g, 0, none⟩, cap, by omega, by rw [Value.int.injEq]; exact ⟨rfl, by omega⟩, rfl, by rw [HS.out, HDg.out, e3, Int.add_zero]; simpa [Owns, btL_len] using hown', hb1⟩
          case measure => simp [intOf]; omega
    · obtain rfl : j = m := by omega
      go_wp2
      go_ret
      exact ⟨A, c, by rw [btL_len]; rfl, hown0, hbel⟩
end Go.Proofs.Ythbpcgefcnpfmaa
