/- Plain arithmetic of counted and turned bits (chapter 5): Gray codes, the lowest one, zigzag, filled words, the power above. Conditions: the bounds that are written at each. -/
import Derived.Test.YtgbgpibaincheaaDoorMath
namespace Go.Proofs.YtgbgpibaincheaaDoor

theorem emod_small {a k : Int} (h0 : 0 ≤ a) (h : a < pw k) : a % pw k = a := Int.emod_eq_of_lt h0 h
theorem half_bd {x : Int} (h0 : 0 ≤ x) : 0 ≤ x / 2 ∧ x / 2 ≤ x := by omega

/-- the Gray code -/
def grZ (x : Int) : Int := xorZ x (x / 2)
theorem grZ_bd (k x : Int) (h0 : 0 ≤ x) (h : x < pw k) : 0 ≤ grZ x ∧ grZ x < pw k := by
  obtain ⟨a, b⟩ := half_bd h0
  exact ⟨xorZ_nonneg _ _, xorZ_lt _ _ _ h0 h a (by omega)⟩

/-- a word with itself, lower, by rounds of 1, 2, 4, 8 places: 'xor' -/
def gbN : Nat → Int → Int
  | 0, x => x
  | j + 1, x => xorZ (gbN j x) (gbN j x / pw (2 ^ j : Nat))
theorem gbN_bd (k : Int) : ∀ (j : Nat) (x : Int), 0 ≤ x → x < pw k → 0 ≤ gbN j x ∧ gbN j x < pw k
  | 0, x, h0, h => ⟨h0, h⟩
  | j + 1, x, h0, h => by
    obtain ⟨a, b⟩ := gbN_bd k j x h0 h
    obtain ⟨c, d⟩ := ediv_bd (c := pw (2 ^ j : Nat)) a (pw_pos _)
    exact ⟨xorZ_nonneg _ _, xorZ_lt _ _ _ a b c (by omega)⟩
def gbZ (x : Int) : Int := gbN 4 x
/-- .. 'or' -/
def fbN : Nat → Int → Int
  | 0, x => x
  | j + 1, x => orZ (fbN j x) (fbN j x / pw (2 ^ j : Nat))
theorem fbN_bd (k : Int) : ∀ (j : Nat) (x : Int), 0 ≤ x → x < pw k → 0 ≤ fbN j x ∧ fbN j x < pw k
  | 0, x, h0, h => ⟨h0, h⟩
  | j + 1, x, h0, h => by
    obtain ⟨a, b⟩ := fbN_bd k j x h0 h
    obtain ⟨c, d⟩ := ediv_bd (c := pw (2 ^ j : Nat)) a (pw_pos _)
    exact ⟨orZ_nonneg _ _, orZ_lt _ _ _ a b c (by omega)⟩
def fbZ (x : Int) : Int := fbN 4 x

/-- the lowest one -/
def loZ (k x : Int) : Int := andZ x ((-x) % pw k)
theorem loZ_bd (k x : Int) (h0 : 0 ≤ x) : 0 ≤ loZ k x ∧ loZ k x ≤ x := ⟨andZ_nonneg _ _, andZ_le _ _ h0⟩

/-- zigzag -/
def zzZ (k x : Int) : Int := if 0 ≤ sgZ k x then 2 * sgZ k x else -2 * sgZ k x - 1
theorem sgZ_bd (k x : Int) (h : vld k x = true) : -pw (k - 1) ≤ sgZ k x ∧ sgZ k x < pw (k - 1) ∧ pw k = 2 * pw (k - 1) ∧ pw (k - 1) ≤ 2048 := by
  obtain ⟨h1, h2, h3, h4, h5, h6⟩ := vld_4096 h
  have e := pw_pred k h1
  have hp := pw_pos (k - 1)
  unfold sgZ bitZ
  have hq : x / pw (k - 1) = 0 ∨ x / pw (k - 1) = 1 := by
    have a1 : x / pw (k - 1) < 2 := Int.ediv_lt_of_lt_mul (by omega) (by omega)
    have a2 : 0 ≤ x / pw (k - 1) := Int.ediv_nonneg h3 (by omega)
    omega
  have hm := Int.emod_add_mul_ediv x (pw (k - 1))
  have hr0 := Int.emod_nonneg x (show pw (k - 1) ≠ 0 by omega)
  have hr1 := Int.emod_lt_of_pos x (show 0 < pw (k - 1) by omega)
  rcases hq with q | q
  · rw [q] at hm ⊢
    simp at hm ⊢
    omega
  · rw [q] at hm ⊢
    simp at hm ⊢
    omega
theorem zzZ_bd (k x : Int) (h : vld k x = true) : 0 ≤ zzZ k x ∧ zzZ k x < pw k := by
  obtain ⟨a, b, c, d⟩ := sgZ_bd k x h
  unfold zzZ
  split <;> omega
/-- back -/
def zbZ (k x : Int) : Int := xorZ (x / 2) ((-(x % 2)) % pw k)

/-- the least power of two that is not less -/
def paZ (x : Int) : Int := if 0 < x then fbZ (x - 1) + 1 else 1
theorem pa_chk : chk (fun x => (List.range 13).any fun j => paZ x == pw j && decide ((x : Int) ≤ pw j) && (j == 0 || decide (pw (j - 1 : Nat) < (x : Int)))) 12 0 = true := by decide +kernel
theorem paZ_is (x : Int) (h0 : 0 ≤ x) (h : x < 4096) : ∃ j : Nat, j ≤ 12 ∧ paZ x = pw j ∧ x ≤ pw j ∧ ∀ i : Nat, i < j → pw i < x := by
  obtain ⟨n, rfl⟩ := Int.eq_ofNat_of_zero_le h0
  have hc := chk_sound _ 12 0 pa_chk n (by omega) (by omega)
  simp only [List.any_eq_true, List.mem_range, Bool.and_eq_true, Bool.or_eq_true, beq_iff_eq, decide_eq_true_eq] at hc
  obtain ⟨j, hj, ⟨h1, h2⟩, h3⟩ := hc
  refine ⟨j, by omega, h1, h2, fun i hi => ?_⟩
  rcases h3 with h3 | h3
  · omega
  · have := pw_le (i : Int) ((j - 1 : Nat) : Int) (by omega)
    omega
end Go.Proofs.YtgbgpibaincheaaDoor
