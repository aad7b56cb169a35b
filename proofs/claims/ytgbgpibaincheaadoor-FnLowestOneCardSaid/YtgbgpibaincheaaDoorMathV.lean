/- Plain arithmetic of the zeros below the lowest one (chapter 5), by finite checks. Conditions: the bounds that are written at each. -/
import Derived.Test.YtgbgpibaincheaaDoorMathO
namespace Go.Proofs.YtgbgpibaincheaaDoor
def tzN : Nat → Nat → Nat
  | 0, _ => 0
  | f + 1, n => if n % 2 = 1 then 0 else 1 + tzN f (n / 2)
/-- how many zeros are below the lowest one -/
def tzZ (x : Int) : Int := ((tzN 12 x.toNat : Nat) : Int)
/-- the table that Go's math/bits looks into -/
def dbL : List Int := [0, 1, 56, 2, 57, 49, 28, 3, 61, 58, 42, 50, 38, 29, 17, 4, 62, 47, 59, 36, 45, 43, 51, 22, 53, 39, 33, 30, 24, 18, 12, 5, 63, 55, 48, 27, 60, 41, 37, 16, 46, 35, 44, 21, 52, 32, 23, 11, 54, 26, 40, 15, 34, 20, 31, 10, 25, 14, 19, 9, 13, 8, 7, 6]
theorem dbL_len : dbL.length = 64 := rfl
def dbA (x : Int) : Int := andZ x (18446744073709551616 - x)
def dbI (x : Int) : Int := dbA x * 285870213051353865 % 18446744073709551616 / 288230376151711744
theorem db_chk : chk (fun x => (x == 0) || (decide (dbA x ≤ 4096) && (dbL.getD (dbI x).toNat 0 == tzZ x) && decide (tzZ x ≤ 11) && ((List.range 12).all fun j => if (j : Int) < tzZ x then bitZ x j == 0 else if (j : Int) = tzZ x then bitZ x j == 1 else true))) 12 0 = true := by decide +kernel
theorem db_is (x : Int) (h0 : 0 < x) (h : x < 4096) : dbA x ≤ 4096 ∧ dbL.getD (dbI x).toNat 0 = tzZ x ∧ 0 ≤ tzZ x ∧ tzZ x ≤ 11 ∧ ∀ j : Nat, ((j : Int) < tzZ x → bitZ x j = 0) ∧ ((j : Int) = tzZ x → bitZ x j = 1) := by
  obtain ⟨n, rfl⟩ := Int.eq_ofNat_of_zero_le (show 0 ≤ x by omega)
  have hc := chk_sound _ 12 0 db_chk n (by omega) (by omega)
  simp only [Bool.or_eq_true, Bool.and_eq_true, beq_iff_eq, decide_eq_true_eq] at hc
  rcases hc with hc | ⟨⟨⟨c1, c2⟩, c3⟩, c4⟩
  · omega
  refine ⟨c1, c2, Int.natCast_nonneg _, c3, fun j => ⟨fun g => ?_, fun g => ?_⟩⟩
  · have := List.all_eq_true.1 c4 j (List.mem_range.2 (by omega))
    rw [if_pos g] at this
    simpa using this
  · have := List.all_eq_true.1 c4 j (List.mem_range.2 (by omega))
    rw [if_neg (by omega), if_pos g] at this
    simpa using this
theorem width_natV {k : Int} (h1 : 1 ≤ k) (h2 : k ≤ 12) : ∃ j : Nat, j < 12 ∧ k = ((j + 1 : Nat) : Int) := ⟨(k - 1).toNat, by omega, by omega⟩
theorem tz_chk : chk (fun x => (List.range 12).all fun j => !vld ((j + 1 : Nat) : Int) x || ((x == 0 || (decide (tzZ x < ((j + 1 : Nat) : Int)) && (popZ (andZ ((x : Int) - 1) (pw ((j + 1 : Nat) : Int) - 1 - x)) == tzZ x) && (loZ ((j + 1 : Nat) : Int) x == pw (tzZ x)))) && (((x : Int) - loZ ((j + 1 : Nat) : Int) x) % pw ((j + 1 : Nat) : Int) == andZ x (((x : Int) - 1) % pw ((j + 1 : Nat) : Int))))) 12 0 = true := by decide +kernel
theorem tz_is (k x : Int) (hv : vld k x = true) : (x ≠ 0 → tzZ x < k ∧ popZ (andZ (x - 1) (pw k - 1 - x)) = tzZ x ∧ loZ k x = pw (tzZ x)) ∧ (x - loZ k x) % pw k = andZ x ((x - 1) % pw k) := by
  obtain ⟨h1, h2, h3, h4, h5, h6⟩ := vld_4096 hv
  obtain ⟨n, rfl⟩ := Int.eq_ofNat_of_zero_le h3
  obtain ⟨j, hj, rfl⟩ := width_natV h1 h2
  have hc := List.all_eq_true.1 (chk_sound _ 12 0 tz_chk n (by omega) (by omega)) j (List.mem_range.2 hj)
  rw [hv] at hc
  simp only [Bool.not_true, Bool.false_or, Bool.and_eq_true, Bool.or_eq_true, beq_iff_eq, decide_eq_true_eq] at hc
  refine ⟨fun g => ?_, hc.2⟩
  rcases hc.1 with c | ⟨⟨c1, c2⟩, c3⟩
  · omega
  · exact ⟨c1, c2, c3⟩
end Go.Proofs.YtgbgpibaincheaaDoor
