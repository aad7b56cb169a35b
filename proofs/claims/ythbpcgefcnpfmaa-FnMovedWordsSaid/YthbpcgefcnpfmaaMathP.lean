/- Plain arithmetic of products and quotients of words (chapter 3). Conditions: the bounds that are written at each. -/
import Derived.Test.YthbpcgefcnpfmaaMath
namespace Go.Proofs.Ythbpcgefcnpfmaa

theorem divmod_unique {n P q r : Int} (hP : 0 < P) (e : n = q * P + r) (h0 : 0 ≤ r) (h1 : r < P) : n / P = q ∧ n % P = r := by
  subst e
  constructor
  · rw [Int.add_comm, Int.add_mul_ediv_right _ _ (by omega), Int.ediv_eq_zero_of_lt h0 h1]; omega
  · rw [Int.add_comm, Int.add_mul_emod_self_right]; exact Int.emod_eq_of_lt h0 h1
theorem edm (n P : Int) : n = n / P * P + n % P := by
  have := Int.emod_add_mul_ediv n P; rw [Int.mul_comm] at this; omega
/-- halves make the whole product -/
theorem half_prod (a b H : Int) :
    (a % H * (b % H)) + (a % H * (b / H) + a / H * (b % H)) * H + a / H * (b / H) * (H * H) = a * b := by
  have e1 := edm a H
  have e2 := edm b H
  obtain ⟨x, hx⟩ : ∃ x, a / H = x := ⟨_, rfl⟩
  obtain ⟨y, hy⟩ : ∃ y, a % H = y := ⟨_, rfl⟩
  obtain ⟨z, hz⟩ : ∃ z, b / H = z := ⟨_, rfl⟩
  obtain ⟨t, ht⟩ : ∃ t, b % H = t := ⟨_, rfl⟩
  rw [hx, hy] at e1
  rw [hz, ht] at e2
  rw [hx, hy, hz, ht]
  clear hx hy hz ht
  grind
theorem half_bds (a H : Int) (hH : 1 ≤ H) (ha : 0 ≤ a) (ha2 : a < H * H) : 0 ≤ a / H ∧ a / H < H ∧ 0 ≤ a % H ∧ a % H < H :=
  ⟨Int.ediv_nonneg ha (by omega), Int.ediv_lt_of_lt_mul (by omega) ha2, Int.emod_nonneg _ (by omega), Int.emod_lt_of_pos _ (by omega)⟩
/-- the reference's way: the middle, with the carry of the lower -/
theorem half_spec (a b H : Int) (hH : 1 ≤ H) (ha : 0 ≤ a) (ha2 : a < H * H) (hb : 0 ≤ b) (hb2 : b < H * H) :
    a / H * (b / H) + (a % H * (b / H) + a / H * (b % H) + a % H * (b % H) / H) / H = a * b / (H * H) ∧
    (a % H * (b / H) + a / H * (b % H) + a % H * (b % H) / H) % H * H + a % H * (b % H) % H = a * b % (H * H) := by
  have e1 := edm a H
  have e2 := edm b H
  obtain ⟨x0, x1, y0, y1⟩ := half_bds a H hH ha ha2
  obtain ⟨z0, z1, t0, t1⟩ := half_bds b H hH hb hb2
  obtain ⟨x, hx⟩ : ∃ x, a / H = x := ⟨_, rfl⟩
  obtain ⟨y, hy⟩ : ∃ y, a % H = y := ⟨_, rfl⟩
  obtain ⟨z, hz⟩ : ∃ z, b / H = z := ⟨_, rfl⟩
  obtain ⟨t, ht⟩ : ∃ t, b % H = t := ⟨_, rfl⟩
  rw [hx, hy] at e1
  rw [hz, ht] at e2
  rw [hx, hy, hz, ht]
  have e3 := edm (y * t) H
  have f0 := Int.emod_nonneg (y * t) (show H ≠ 0 by omega)
  have f1 := Int.emod_lt_of_pos (y * t) (show 0 < H by omega)
  obtain ⟨l1, h1⟩ : ∃ l1, y * t / H = l1 := ⟨_, rfl⟩
  obtain ⟨l0, h0⟩ : ∃ l0, y * t % H = l0 := ⟨_, rfl⟩
  rw [h1, h0] at e3
  rw [h0] at f0 f1
  rw [h1, h0]
  have e4 := edm (y * z + x * t + l1) H
  have g0 := Int.emod_nonneg (y * z + x * t + l1) (show H ≠ 0 by omega)
  have g1 := Int.emod_lt_of_pos (y * z + x * t + l1) (show 0 < H by omega)
  obtain ⟨m1, h3⟩ : ∃ m1, (y * z + x * t + l1) / H = m1 := ⟨_, rfl⟩
  obtain ⟨m0, h4⟩ : ∃ m0, (y * z + x * t + l1) % H = m0 := ⟨_, rfl⟩
  rw [h3, h4] at e4
  rw [h4] at g0 g1
  rw [h3, h4]
  have q0 : 0 ≤ m0 * H := Int.mul_nonneg g0 (by omega)
  have q1 : m0 * H ≤ (H - 1) * H := Int.mul_le_mul_of_nonneg_right (by omega) (by omega)
  have q2 : (H - 1) * H = H * H - H := by rw [Int.sub_mul, Int.one_mul]
  have hHH : 0 < H * H := Int.mul_pos (by omega) (by omega)
  have := divmod_unique (n := a * b) (P := H * H) (q := x * z + m1) (r := m0 * H + l0) hHH (by
    clear x0 x1 y0 y1 z0 z1 t0 t1 f0 f1 g0 g1 q0 q1 q2 hHH ha ha2 hb hb2 hH hx hy hz ht h0 h1 h3 h4
    grind) (by omega) (by omega)
  exact ⟨this.1.symm, this.2.symm⟩
/-- products of words fit -/
theorem prod_hi (a b P : Int) (ha : 0 ≤ a) (ha2 : a < P) (hb : 0 ≤ b) (hb2 : b < P) : 0 ≤ a * b / P ∧ a * b / P < P := by
  refine ⟨Int.ediv_nonneg (Int.mul_nonneg ha hb) (by omega), Int.ediv_lt_of_lt_mul (by omega) ?_⟩
  have h1 : a * b ≤ (P - 1) * (P - 1) := Int.mul_le_mul (by omega) (by omega) hb (by omega)
  have h2 : (P - 1) * (P - 1) = P * P - 2 * P + 1 := by clear h1 ha ha2 hb hb2; grind
  omega
/-- the number with a sign -/
theorem sgZ_eq (k a : Int) : sgZ k a = a - bitZ a (k - 1) * pw k := rfl
/-- with signs the higher word is mended -/
theorem signed_high (P a b ta tb : Int) (hP : 1 ≤ P) : ((a - ta * P) * (b - tb * P) / P) % P = (a * b / P - ta * b - tb * a) % P := by
  have e : (a - ta * P) * (b - tb * P) = a * b + (tb * ta * P - ta * b - tb * a) * P := by grind
  rw [e, Int.add_mul_ediv_right _ _ (by omega)]
  have e2 : a * b / P + (tb * ta * P - ta * b - tb * a) = (a * b / P - ta * b - tb * a) + P * (tb * ta) := by grind
  rw [e2, Int.add_mul_emod_self_left]
theorem top_bit (k a : Int) (h : vld k a = true) : (bitZ a (k - 1) = 1 ∧ pw (k - 1) ≤ a) ∨ (bitZ a (k - 1) = 0 ∧ a < pw (k - 1)) := by
  obtain ⟨h1, h2, h3, h4, h5, h6⟩ := vld_4096 h
  have e := pw_pred k h1
  have hp := pw_pos (k - 1)
  unfold bitZ
  by_cases hlt : a < pw (k - 1)
  · right; rw [Int.ediv_eq_zero_of_lt h3 hlt]; exact ⟨rfl, hlt⟩
  · left
    have : a / pw (k - 1) = 1 := by
      have a1 : a / pw (k - 1) < 2 := Int.ediv_lt_of_lt_mul (by omega) (by omega)
      have a2 : 1 ≤ a / pw (k - 1) := Int.le_ediv_of_mul_le (by omega) (by omega)
      omega
    rw [this]; exact ⟨rfl, by omega⟩
theorem sgZ_mod (k a : Int) : sgZ k a % pw k = a % pw k := by
  unfold sgZ
  rw [show a - bitZ a (k - 1) * pw k = a + pw k * (-bitZ a (k - 1)) by rw [Int.mul_neg, Int.mul_comm]; omega, Int.add_mul_emod_self_left]
theorem sgZ_range (k a : Int) (h : vld k a = true) : -pw (k - 1) ≤ sgZ k a ∧ sgZ k a < pw (k - 1) ∧ pw k = 2 * pw (k - 1) ∧ pw (k - 1) ≤ 2048 ∧ 1 ≤ pw (k - 1) := by
  obtain ⟨h1, h2, h3, h4, h5, h6⟩ := vld_4096 h
  have e := pw_pred k h1
  have hp := pw_pos (k - 1)
  unfold sgZ
  rcases top_bit k a h with ⟨hb, hc⟩ | ⟨hb, hc⟩ <;> rw [hb] <;> omega
/-- a number in the range of signs is what its word is with a sign -/
theorem sgZ_word (k n : Int) (h1 : 1 ≤ k) (h2 : k ≤ 12) (hn : -pw (k - 1) ≤ n) (hn2 : n < pw (k - 1)) : sgZ k (n % pw k) = n := by
  have hv := vld_mod k n h1 h2
  obtain ⟨a1, a2, a3, a4, a5⟩ := sgZ_range k _ hv
  have e1 := sgZ_mod k (n % pw k)
  rw [Int.emod_emod] at e1
  -- both are congruent and in a range of 2^k
  have hd : (sgZ k (n % pw k) - n) % pw k = 0 := by rw [Int.sub_emod, e1, Int.sub_self]; simp
  obtain ⟨c, hc⟩ := Int.dvd_of_emod_eq_zero hd
  obtain ⟨s, hs⟩ : ∃ s, sgZ k (n % pw k) = s := ⟨_, rfl⟩
  rw [hs] at hc a1 a2 ⊢
  have hp := pw_pos k
  have c1 : c < 1 := by
    rcases Int.lt_or_le c 1 with hh | hh
    · exact hh
    · have := Int.mul_le_mul_of_nonneg_left hh (show 0 ≤ pw k by omega); omega
  have c2 : -1 < c := by
    rcases Int.lt_or_le (-1) c with hh | hh
    · exact hh
    · have := Int.mul_le_mul_of_nonneg_left hh (show 0 ≤ pw k by omega); omega
  obtain rfl : c = 0 := by omega
  simp at hc; omega
/-- quotients that are cut towards 0 -/
theorem tdm (x y : Int) : x.tdiv y * y + x.tmod y = x := by have := Int.mul_tdiv_add_tmod x y; rw [Int.mul_comm] at this; exact this
theorem tmod_bd (x y : Int) (hy : y ≠ 0) : (0 ≤ x → 0 ≤ x.tmod y) ∧ (x ≤ 0 → x.tmod y ≤ 0) ∧ ((x.tmod y).natAbs : Int) < y.natAbs := by
  refine ⟨fun h => Int.tmod_nonneg y h, fun h => ?_, ?_⟩
  · have := Int.tmod_nonneg (a := -x) y (by omega); rw [Int.neg_tmod] at this; omega
  · have h1 : (x.tmod y).natAbs = x.natAbs % y.natAbs := by rw [Int.natAbs_tmod]
    rw [h1]
    have := Nat.mod_lt x.natAbs (show 0 < y.natAbs by omega)
    omega
theorem tdiv_bd (x y X : Int) (h1 : -X ≤ x) (h2 : x ≤ X) : -X ≤ x.tdiv y ∧ x.tdiv y ≤ X := by
  have h3 : (x.tdiv y).natAbs ≤ x.natAbs := by rw [Int.natAbs_tdiv]; exact Nat.div_le_self _ _
  omega
/-- the higher word with signs -/
def shZ (k a b : Int) : Int := sgZ k a * sgZ k b / pw k % pw k
theorem abs_mul_bd {x y X : Int} (h1 : -X ≤ x) (h2 : x ≤ X) (h3 : -X ≤ y) (h4 : y ≤ X) : -(X * X) ≤ x * y ∧ x * y ≤ X * X := by
  have hx : (x.natAbs : Int) ≤ X := by omega
  have hy : (y.natAbs : Int) ≤ X := by omega
  have h : ((x * y).natAbs : Int) ≤ X * X := by
    rw [Int.natAbs_mul, Int.natCast_mul]
    exact Int.mul_le_mul hx hy (by omega) (by omega)
  omega
theorem sg_mul_bd (k a b : Int) (ha : vld k a = true) (hb : vld k b = true) : -4194304 ≤ sgZ k a * sgZ k b ∧ sgZ k a * sgZ k b ≤ 4194304 := by
  obtain ⟨a1, a2, a3, a4, a5⟩ := sgZ_range k a ha
  obtain ⟨b1, b2, b3, b4, b5⟩ := sgZ_range k b hb
  exact abs_mul_bd (X := 2048) (by omega) (by omega) (by omega) (by omega)
theorem sg_mul_div_bd (k a b : Int) (ha : vld k a = true) (hb : vld k b = true) : -4194304 ≤ sgZ k a * sgZ k b / pw k ∧ sgZ k a * sgZ k b / pw k ≤ 4194304 := by
  obtain ⟨h1, h2⟩ := sg_mul_bd k a b ha hb
  have hp := pw_pos k
  constructor
  · exact Int.le_ediv_of_mul_le (by omega) (by have := Int.mul_le_mul_of_nonneg_left hp (show (0:Int) ≤ 4194304 by omega); omega)
  · have : sgZ k a * sgZ k b / pw k < 4194305 := Int.ediv_lt_of_lt_mul (by omega) (by have := Int.mul_le_mul_of_nonneg_left hp (show (0:Int) ≤ 4194305 by omega); omega)
    omega
theorem ediv_mul_bd (a b : Int) (ha : 0 ≤ a) (hb : 1 ≤ b) : 0 ≤ a / b * b ∧ a / b * b ≤ a :=
  ⟨Int.mul_nonneg (Int.ediv_nonneg ha (by omega)) (by omega), Int.ediv_mul_le _ (by omega)⟩
theorem sgZ_ne (k b : Int) (h : vld k b = true) (hb : 1 ≤ b) : sgZ k b ≠ 0 := by
  obtain ⟨h1, h2, h3, h4, h5, h6⟩ := vld_4096 h
  intro e
  have h0 := sgZ_mod k b
  rw [e, Int.emod_eq_of_lt h3 h4] at h0
  simp at h0; omega
theorem shZ_nonneg (k a b : Int) : 0 ≤ shZ k a b := Int.emod_nonneg _ (by have := pw_pos k; omega)
end Go.Proofs.Ythbpcgefcnpfmaa
