/- Plain arithmetic of counted bits (chapter 5): how many are 1, the length, parity. Conditions: the bounds that are written at each. -/
import Derived.Test.YtgbgpibaincheaaDoorMathB
namespace Go.Proofs.YtgbgpibaincheaaDoor
/-- how many of the lowest k bits are 1 -/
def popK (x : Int) : Nat → Int
  | 0 => 0
  | k + 1 => popK x k + bitZ x k
def popZ (x : Int) : Int := popK x 12
theorem popK_bd (x : Int) : ∀ k : Nat, 0 ≤ popK x k ∧ popK x k ≤ k
  | 0 => ⟨Int.le_refl _, Int.le_refl _⟩
  | k + 1 => by
    have := popK_bd x k
    have := bitZ_bd x k
    simp only [popK]; omega
theorem popZ_bd (x : Int) : 0 ≤ popZ x ∧ popZ x ≤ 12 := popK_bd x 12
theorem popK_up (x w : Int) (h0 : 0 ≤ x) (h : x < pw w) : ∀ j : Nat, w ≤ j → popK x (j + 1) = popK x j := by
  intro j hj
  simp only [popK]
  have hp := pw_le w j hj
  unfold bitZ
  rw [Int.ediv_eq_zero_of_lt h0 (by omega)]; simp
theorem popK_all (x w : Int) (h0 : 0 ≤ x) (h : x < pw w) : ∀ n j : Nat, w ≤ j → popK x (j + n) = popK x j
  | 0, _, _ => rfl
  | n + 1, j, hj => by rw [← Nat.add_assoc, popK_up x w h0 h (j + n) (by omega), popK_all x w h0 h n j hj]
theorem popK_word (k x : Int) (h : vld k x = true) : popK x k.toNat = popZ x := by
  obtain ⟨h1, h2, h3, h4, _, _⟩ := vld_4096 h
  have := popK_all x k h3 h4 (12 - k.toNat) k.toNat (by omega)
  rw [show k.toNat + (12 - k.toNat) = 12 by omega] at this
  exact this.symm
/-- Go's way to count -/
def ocM0 : Int := 6148914691236517205
def ocM1 : Int := 3689348814741910323
def ocM2 : Int := 1085102592571150095
def ocA (x : Int) : Int := andZ (x / 2) ocM0 + andZ x ocM0
def ocB (y : Int) : Int := andZ (y / 4) ocM1 + andZ y ocM1
def ocC (y : Int) : Int := andZ (y / 16 + y) ocM2
def ocD (y : Int) : Int := y + y / 256
theorem oc_chk : chk (fun x => decide (ocD (ocC (ocB (ocA x))) ≤ 65535) && (ocD (ocC (ocB (ocA x))) % 128 == popZ x)) 12 0 = true := by decide +kernel
theorem oc_is (x : Int) (h0 : 0 ≤ x) (h : x < 4096) : ocD (ocC (ocB (ocA x))) ≤ 65535 ∧ ocD (ocC (ocB (ocA x))) % 128 = popZ x := by
  obtain ⟨n, rfl⟩ := Int.eq_ofNat_of_zero_le h0
  have hc := chk_sound _ 12 0 oc_chk n (by omega) (by omega)
  simpa using hc
/-- the length -/
def lenT : List Int := [0, 1, 2, 2, 3, 3, 3, 3, 4, 4, 4, 4, 4, 4, 4, 4]
def lenZ (x : Int) : Int := if 256 ≤ x then 8 + lenT.getD (x / 256).toNat 0 else if 16 ≤ x then 4 + lenT.getD (x / 16).toNat 0 else lenT.getD x.toNat 0
theorem len_chk : chk (fun x => decide (0 ≤ lenZ x ∧ lenZ x ≤ 12 ∧ (x : Int) < pw (lenZ x) ∧ ((x : Int) = 0 ∨ pw (lenZ x - 1) ≤ (x : Int)) ∧ ((x : Int) = 0 → lenZ x = 0)) && (fbZ x == pw (lenZ x) - 1) && (popZ x % 2 == gbZ x % 2)) 12 0 = true := by decide +kernel
theorem len_is (x : Int) (h0 : 0 ≤ x) (h : x < 4096) : (0 ≤ lenZ x ∧ lenZ x ≤ 12 ∧ x < pw (lenZ x) ∧ (x = 0 ∨ pw (lenZ x - 1) ≤ x) ∧ (x = 0 → lenZ x = 0)) ∧ fbZ x = pw (lenZ x) - 1 ∧ popZ x % 2 = gbZ x % 2 := by
  obtain ⟨n, rfl⟩ := Int.eq_ofNat_of_zero_le h0
  have hc := chk_sound _ 12 0 len_chk n (by omega) (by omega)
  simp only [Bool.and_eq_true, decide_eq_true_eq, beq_iff_eq] at hc
  exact ⟨hc.1.1, hc.1.2, hc.2⟩
theorem len_le (k x : Int) (h : vld k x = true) : lenZ x ≤ k := by
  obtain ⟨h1, h2, h3, h4, h5, h6⟩ := vld_4096 h
  obtain ⟨⟨a, b, c, d, e⟩, _, _⟩ := len_is x h3 (by omega)
  rcases d with d | d
  · have := e d; omega
  · rcases Int.lt_or_le k (lenZ x) with hh | hh
    · have := pw_le k (lenZ x - 1) (by omega); omega
    · exact hh
end Go.Proofs.YtgbgpibaincheaaDoor
