/- What the row's condition on the laid table gives, and the contracts of Go's math/bits.TrailingZeros over it, of ZerosBelow of the program and of the reference (chapter 5); conditions: that the table holds what is laid, that the word is valid, or that it is not. -/
import Derived.Test.YtgbgpibaincheaaDoorW6
import Derived.Test.YtgbgpibaincheaaDoorMathV
import Derived.Lib.LaidTab
namespace Go.Proofs.YtgbgpibaincheaaDoor
open Go.RowKit
/-- the table lies where it was laid -/
def Tab64 (w : World) : Prop := 1 < w.heap.size ∧ ∀ i : Nat, i < 64 → w.cell? ⟨1, i, none⟩ = some (.int .u8 (dbL.getD i 0))
theorem Tab64.below {B : Nat} {w w' : World} (h : Tab64 w) (hb : Below B w w') (hB : w.heap.size ≤ B) : Tab64 w' :=
  ⟨Nat.lt_of_lt_of_le h.1 hb.size, fun i hi => (hb.cell (p := ⟨1, i, none⟩) (Nat.lt_of_lt_of_le h.1 hB)).trans (h.2 i hi)⟩
set_option maxHeartbeats 800000 in
theorem tz64_any (x : Int) (h0 : 0 < x) (h : x < 4096) (w : World) (hT : Tab64 w) :
    Calls Tryd.prog 41 #[.int .u64 x] w fun e w' => e = .returned (.int .i64 (tzZ x)) ∧ w = w' := by
  obtain ⟨d1, d2, d3, d4, _⟩ := db_is x h0 h
  have a1 := andZ_nonneg x (18446744073709551616 - x)
  have e1 := u64_andZ x (18446744073709551616 - x) (by omega) (by omega) (by omega) (by omega)
  have e0 : IntKind.u64.wrap (-x) = 18446744073709551616 - x := by rw [IntKind.wrap_u64]; omega
  have HI := hd (show dbI x = andZ x (18446744073709551616 - x) * 285870213051353865 % 18446744073709551616 / 288230376151711744 from rfl)
  change andZ x (18446744073709551616 - x) ≤ 4096 at d1
  have i0 : 0 ≤ dbI x := by rw [HI.out]; omega
  have i1 : dbI x < 64 := by rw [HI.out]; omega
  have hc := hT.2 (dbI x).toNat (by omega)
  rw [d2] at hc
  obtain ⟨l, hl⟩ : ∃ l, andZ x (18446744073709551616 - x) = l := ⟨_, rfl⟩
  rw [hl] at a1 e1 d1 HI
  clear hl d2
  rw [HI.out] at hc i0 i1
  obtain ⟨m, hm⟩ : ∃ m, IntKind.u64.wrap (l * 285870213051353865) = m := ⟨_, rfl⟩
  have hm2 : l * 285870213051353865 % 18446744073709551616 = m := by rw [← hm, IntKind.wrap_u64]
  rw [hm2] at hc i0 i1
  have m0 : 0 ≤ m := by rw [← hm2]; omega
  have m1 : m < 18446744073709551616 := by rw [← hm2]; omega
  clear hm2
  have hx0 : (x == 0) = false := by simp only [beq_eq_false_iff_ne, ne_eq]; omega
  clear hT
  go_enter Tryd.func41, Tryd.ntmps41
  go_wp2
  go_ret
  exact ⟨rfl, rfl⟩
theorem tz64_0 (w : World) :
    Calls Tryd.prog 41 #[.int .u64 0] w fun e w' => e = .returned (.int .i64 64) ∧ w = w' := by
  go_enter Tryd.func41, Tryd.ntmps41
  go_wp2
  go_ret
  exact ⟨rfl, rfl⟩
theorem tz_any (x : Int) (h0 : 0 < x) (h : x < 4096) (w : World) (hT : Tab64 w) :
    Calls Tryd.prog 21 #[.int .u64 x] w fun e w' => e = .returned (.int .i64 (tzZ x)) ∧ w = w' := by
  go_enter Tryd.func21, Tryd.ntmps21
  go_wp2_with (go_at_call 41; refine (tz64_any _ h0 h _ hT).mono ?_; rintro e w' ⟨rfl, rfl⟩)
  go_ret
  exact ⟨rfl, rfl⟩
theorem tz_0 (w : World) :
    Calls Tryd.prog 21 #[.int .u64 0] w fun e w' => e = .returned (.int .i64 64) ∧ w = w' := by
  go_enter Tryd.func21, Tryd.ntmps21
  go_wp2_with (go_at_call 41; refine (tz64_0 _).mono ?_; rintro e w' ⟨rfl, rfl⟩)
  go_ret
  exact ⟨rfl, rfl⟩
/-- what ZerosBelow returns -/
def zbO (k x : Int) : Int := if x = 0 then k else tzZ x
theorem implZerosBelow_bad (k x : Int) (h : vld k x = false) (w : World) :
    Calls Tryd.prog 7 #[.int .i64 k, .int .i64 x] w fun e w' => e = .returned (.int .i64 (-1)) ∧ w = w' := by
  go_enter Tryd.func7, Tryd.ntmps7
  go_wp2_with (go_at_call 20; refine (implWordValid_any _ _ _).mono ?_; rintro e w' ⟨rfl, rfl⟩)
  go_ret
  exact ⟨rfl, rfl⟩
theorem specZerosBelow_bad (k x : Int) (h : vld k x = false) (w : World) :
    Calls Tryd.prog 6 #[.int .i64 k, .int .i64 x] w fun e w' => e = .returned (.int .i64 (-1)) ∧ w = w' := by
  go_enter Tryd.func6, Tryd.ntmps6
  go_wp2_with (go_at_call 18; refine (specWordValid_any _ _ _).mono ?_; rintro e w' ⟨rfl, rfl⟩)
  go_ret
  exact ⟨rfl, rfl⟩
theorem implZerosBelow_ok (k x : Int) (h : vld k x = true) (w : World) (hT : Tab64 w) :
    Calls Tryd.prog 7 #[.int .i64 k, .int .i64 x] w fun e w' => e = .returned (.int .i64 (zbO k x)) ∧ w = w' := by
  obtain ⟨h1, h2, h3, h4, h5, h6⟩ := vld_4096 h
  by_cases hx : x = 0
  · subst hx
    go_enter Tryd.func7, Tryd.ntmps7
    go_wp2_with (first
      | (go_at_call 20; refine (implWordValid_any _ _ _).mono ?_; rintro e w' ⟨rfl, rfl⟩)
      | (go_at_call 21; refine (tz_0 _).mono ?_; rintro e w' ⟨rfl, rfl⟩))
    go_ret
    exact ⟨ret_i (by simp [zbO]), rfl⟩
  · have HO := hd (show zbO k x = tzZ x by unfold zbO; rw [if_neg hx])
    have hlt := ((tz_is k x h).1 hx).1
    obtain ⟨_, _, d3, d4, _⟩ := db_is x (by omega) (by omega)
    have HT := hd hT
    have HZ := hd (fun W hW => tz_any x (by omega) (by omega) W hW)
    obtain ⟨z, hz⟩ : ∃ z, tzZ x = z := ⟨_, rfl⟩
    rw [hz] at HO hlt d3 d4 HZ
    clear hz hT
    go_enter Tryd.func7, Tryd.ntmps7
    go_wp2_with (first
      | (go_at_call 20; refine (implWordValid_any _ _ _).mono ?_; rintro e w' ⟨rfl, rfl⟩)
      | (go_at_call 21; refine (HZ.out _ HT.out).mono ?_; rintro e w' ⟨rfl, rfl⟩))
    go_ret
    exact ⟨ret_i HO.out.symm, rfl⟩
theorem specZerosBelow_ok (k x : Int) (h : vld k x = true) (w : World) :
    Calls Tryd.prog 6 #[.int .i64 k, .int .i64 x] w fun e w' => e = .returned (.int .i64 (zbO k x)) ∧ w = w' := by
  obtain ⟨h1, h2, h3, h4, h5, h6⟩ := vld_4096 h
  by_cases hx : x = 0
  · subst hx
    go_enter Tryd.func6, Tryd.ntmps6
    go_wp2_with (go_at_call 18; refine (specWordValid_any _ _ _).mono ?_; rintro e w' ⟨rfl, rfl⟩)
    go_loop [5] (fun n => ∃ j : Nat, (j : Int) ≤ k ∧ n = .int .i64 j) (fun n => (k - intOf n).toNat)
    case atStart => exact ⟨0, by omega, rfl⟩
    case round =>
      obtain ⟨j, hj, rfl⟩ := hrel
      have hb : bitZ 0 (j : Int) = 0 := by unfold bitZ; simp
      by_cases hlt : (j : Int) < k
      · go_wp2_with (go_at_call 19; refine (l1Bit_any _ _ (by omega) (by omega) (by omega) _).mono ?_; rintro e w' ⟨rfl, rfl⟩)
        go_round
        case rel => exact ⟨j + 1, by omega, by go_num⟩
        case measure => simp [intOf]; omega
      · have HJ := hd (show (j : Int) = k by omega)
        go_wp2
        go_ret
        exact ⟨ret_i (by have := HJ.out; simp [zbO]; omega), rfl⟩
  · have HO := hd (show zbO k x = tzZ x by unfold zbO; rw [if_neg hx])
    have hlt0 := ((tz_is k x h).1 hx).1
    obtain ⟨_, _, d3, d4, d5⟩ := db_is x (by omega) (by omega)
    have HB := hd d5
    clear d5
    obtain ⟨z, hz⟩ : ∃ z, tzZ x = z := ⟨_, rfl⟩
    rw [hz] at HO hlt0 d3 d4 HB
    clear hz
    go_enter Tryd.func6, Tryd.ntmps6
    go_wp2_with (go_at_call 18; refine (specWordValid_any _ _ _).mono ?_; rintro e w' ⟨rfl, rfl⟩)
    go_loop [5] (fun n => ∃ j : Nat, (j : Int) ≤ z ∧ n = .int .i64 j) (fun n => (k - intOf n).toNat)
    case atStart => exact ⟨0, by omega, rfl⟩
    case round =>
      obtain ⟨j, hj, rfl⟩ := hrel
      have hjk : (j : Int) < k := by omega
      by_cases hlt : (j : Int) < z
      · have hb := (HB.out j).1 hlt
        go_wp2_with (go_at_call 19; refine (l1Bit_any _ _ (by omega) (by omega) (by omega) _).mono ?_; rintro e w' ⟨rfl, rfl⟩)
        go_round
        case rel => exact ⟨j + 1, by omega, by go_num⟩
        case measure => simp [intOf]; omega
      · have HJ := hd (show (j : Int) = z by omega)
        have hb := (HB.out j).2 HJ.out
        go_wp2_with (go_at_call 19; refine (l1Bit_any _ _ (by omega) (by omega) (by omega) _).mono ?_; rintro e w' ⟨rfl, rfl⟩)
        go_ret
        exact ⟨ret_i (HJ.out.trans HO.out.symm), rfl⟩
theorem FnExactZerosBelow_walk (a b : Int) (_ : (Lit.int .i64 a).wf = true) (_ : (Lit.int .i64 b).wf = true) (w : World) (hT : Tab64 w) :
    Calls Tryd.prog 3 #[.int .i64 a, .int .i64 b] w fun e w' => e = .returned (.bool true) ∧ Below w.heap.size w w' := by
  have HT := hd hT
  clear hT
  rcases hv : vld a b with _ | _
  · go_enter Tryd.func3, Tryd.ntmps3
    go_wp2_with (first
      | (go_at_call 6; refine (specZerosBelow_bad _ _ hv _).mono ?_; rintro e w' ⟨rfl, rfl⟩)
      | (go_at_call 7; refine (implZerosBelow_bad _ _ hv _).mono ?_; rintro e w' ⟨rfl, rfl⟩))
    go_ret
    exact ⟨rfl, Below.refl _ _⟩
  · go_enter Tryd.func3, Tryd.ntmps3
    go_wp2_with (first
      | (go_at_call 6; refine (specZerosBelow_ok _ _ hv _).mono ?_; rintro e w' ⟨rfl, rfl⟩)
      | (go_at_call 7; refine (implZerosBelow_ok _ _ hv _ HT.out).mono ?_; rintro e w' ⟨rfl, rfl⟩))
    go_ret
    exact ⟨rfl, Below.refl _ _⟩
end Go.Proofs.YtgbgpibaincheaaDoor
