/- Plain arithmetic of the laws of chapter 5: finite checks over words, and what holds for any two words. Conditions: the bounds that are written at each. -/
import Derived.Test.YtgbgpibaincheaaMathO
namespace Go.Proofs.Ytgbgpibaincheaa
theorem width_nat5 {k : Int} (h1 : 1 ≤ k) (h2 : k ≤ 12) : ∃ j : Nat, j < 12 ∧ k = ((j + 1 : Nat) : Int) := ⟨(k - 1).toNat, by omega, by omega⟩
/-- a check of all valid words of all widths -/
def allW (f : Int → Int → Bool) : Bool := chk (fun x => (List.range 12).all fun j => !vld ((j + 1 : Nat) : Int) x || f ((j + 1 : Nat) : Int) x) 12 0
theorem allW_sound {f : Int → Int → Bool} (h : allW f = true) (k x : Int) (hv : vld k x = true) : f k x = true := by
  obtain ⟨h1, h2, h3, h4, h5, h6⟩ := vld_4096 hv
  obtain ⟨n, rfl⟩ := Int.eq_ofNat_of_zero_le h3
  obtain ⟨j, hj, rfl⟩ := width_nat5 h1 h2
  have hc := chk_sound _ 12 0 h n (by omega) (by omega)
  have := List.all_eq_true.1 hc j (List.mem_range.2 hj)
  rw [hv] at this
  simpa using this
theorem zz_chk : allW (fun k x => (zzZ k (zbZ k x) == x) && vld k (zbZ k x) && (zbZ k (zzZ k x) == x) && vld k (zzZ k x)) = true := by decide +kernel
theorem zz_is (k x : Int) (h : vld k x = true) : zzZ k (zbZ k x) = x ∧ vld k (zbZ k x) = true ∧ zbZ k (zzZ k x) = x ∧ vld k (zzZ k x) = true := by
  have := allW_sound zz_chk k x h
  simp only [Bool.and_eq_true, beq_iff_eq] at this
  exact ⟨this.1.1.1, this.1.1.2, this.1.2, this.2⟩
theorem gr_chk : allW (fun k x => (gbZ (grZ x) == x) && (grZ (gbZ x) == x) && (popZ (xorZ (grZ x) (grZ ((x + 1) % pw k))) == 1) && (popZ (pw k - 1 - x) + popZ x == k)) = true := by decide +kernel
theorem gr_is (k x : Int) (h : vld k x = true) : gbZ (grZ x) = x ∧ grZ (gbZ x) = x ∧ popZ (xorZ (grZ x) (grZ ((x + 1) % pw k))) = 1 ∧ popZ (pw k - 1 - x) + popZ x = k := by
  have := allW_sound gr_chk k x h
  simp only [Bool.and_eq_true, beq_iff_eq] at this
  exact ⟨this.1.1.1, this.1.1.2, this.1.2, this.2⟩
/-- bits of an 'xor' and an 'and' -/
theorem bit_xor_and (a b : Int) (j : Nat) (ha : 0 ≤ a) (hb : 0 ≤ b) : bitZ (xorZ a b) j + 2 * bitZ (andZ a b) j = bitZ a j + bitZ b j := by
  rw [bitZ_toNat _ j (xorZ_nonneg a b), bitZ_toNat _ j (andZ_nonneg a b), bitZ_toNat a j ha, bitZ_toNat b j hb]
  unfold xorZ andZ
  rw [Int.toNat_natCast, Int.toNat_natCast, Nat.xor_div_two_pow, Nat.and_div_two_pow]
  obtain ⟨x, hx⟩ : ∃ x, a.toNat / 2 ^ j = x := ⟨_, rfl⟩
  obtain ⟨y, hy⟩ : ∃ y, b.toNat / 2 ^ j = y := ⟨_, rfl⟩
  rw [hx, hy]
  have h1 := and_split x y
  have h2 := xor_split x y
  rcases Nat.mod_two_eq_zero_or_one x with hx2 | hx2 <;> rcases Nat.mod_two_eq_zero_or_one y with hy2 | hy2 <;> simp [Nat.add_mod, hx2, hy2] at h1 h2 <;> omega
theorem popK_xor (a b : Int) (ha : 0 ≤ a) (hb : 0 ≤ b) : ∀ k : Nat, popK (xorZ a b) k + 2 * popK (andZ a b) k = popK a k + popK b k
  | 0 => by simp [popK]
  | k + 1 => by
    have := popK_xor a b ha hb k
    have := bit_xor_and a b k ha hb
    simp only [popK]; omega
theorem popZ_xor (a b : Int) (ha : 0 ≤ a) (hb : 0 ≤ b) : popZ (xorZ a b) = popZ a + popZ b - 2 * popZ (andZ a b) := by
  have := popK_xor a b ha hb 12
  unfold popZ; omega
theorem xor_half (a b : Int) (j : Nat) (ha : 0 ≤ a) (hb : 0 ≤ b) : xorZ a b / pw j = xorZ (a / pw j) (b / pw j) := by
  obtain ⟨x, rfl⟩ := Int.eq_ofNat_of_zero_le ha
  obtain ⟨y, rfl⟩ := Int.eq_ofNat_of_zero_le hb
  unfold xorZ
  have e : ∀ z : Nat, ((z : Int) / pw j) = ((z / 2 ^ j : Nat) : Int) := fun z => by rw [pw_nat, Int.natCast_ediv]; simp
  rw [e, e, e]
  simp only [Int.toNat_natCast]
  rw [Nat.xor_div_two_pow]
theorem xor4 (a b c d : Int) (_ : 0 ≤ a) (_ : 0 ≤ b) (_ : 0 ≤ c) (_ : 0 ≤ d) : xorZ (xorZ a b) (xorZ c d) = xorZ (xorZ a c) (xorZ b d) := by
  unfold xorZ
  simp only [Int.toNat_natCast]
  congr 1
  rw [Nat.xor_assoc, Nat.xor_assoc, ← Nat.xor_assoc b.toNat, Nat.xor_comm b.toNat c.toNat, Nat.xor_assoc c.toNat]
theorem gbN_nonneg : ∀ (j : Nat) (x : Int), 0 ≤ x → 0 ≤ gbN j x
  | 0, _, h => h
  | _ + 1, _, _ => xorZ_nonneg _ _
theorem gbN_xor (a b : Int) (ha : 0 ≤ a) (hb : 0 ≤ b) : ∀ j : Nat, gbN j (xorZ a b) = xorZ (gbN j a) (gbN j b)
  | 0 => rfl
  | j + 1 => by
    have h1 := gbN_nonneg j a ha
    have h2 := gbN_nonneg j b hb
    have hp := pw_pos ((2 ^ j : Nat) : Int)
    simp only [gbN]
    rw [gbN_xor a b ha hb j, xor_half _ _ _ h1 h2, xor4 _ _ _ _ h1 h2 (Int.ediv_nonneg h1 (by omega)) (Int.ediv_nonneg h2 (by omega))]
theorem gbZ_xor (a b : Int) (ha : 0 ≤ a) (hb : 0 ≤ b) : gbZ (xorZ a b) = xorZ (gbZ a) (gbZ b) := gbN_xor a b ha hb 4
end Go.Proofs.Ytgbgpibaincheaa
