/- Plain arithmetic of words of bits: powers of two, and, or, xor of numbers that are not negative, and finite checks. No condition; no program in sight. -/
import Derived.KernelRfl
namespace Go.Proofs.Ythbpcgefcnpfmaa

/-! ### A finite check over 2^k numbers -/
def chk (f : Nat → Bool) : Nat → Nat → Bool
  | 0, lo => f lo
  | k + 1, lo => chk f k lo && chk f k (lo + 2 ^ k)
theorem chk_sound (f : Nat → Bool) : ∀ (k lo : Nat), chk f k lo = true → ∀ x, lo ≤ x → x < lo + 2 ^ k → f x = true
  | 0, lo, h, x, h1, h2 => by
    have : x = lo := by simp at h2; omega
    subst this; exact h
  | k + 1, lo, h, x, h1, h2 => by
    simp only [chk, Bool.and_eq_true] at h
    rw [Nat.pow_succ] at h2
    by_cases hx : x < lo + 2 ^ k
    · exact chk_sound f k lo h.1 x h1 hx
    · exact chk_sound f k (lo + 2 ^ k) h.2 x (by omega) (by omega)

/-! ### Powers of two -/
def pw (w : Int) : Int := 2 ^ w.toNat
theorem pw_nat (k : Nat) : pw (k : Int) = 2 ^ k := by simp [pw]
theorem pw_cast (w : Int) : pw w = ((2 ^ w.toNat : Nat) : Int) := by simp [pw]
theorem pw_pos (w : Int) : 1 ≤ pw w := by
  rw [pw_cast]; have := Nat.two_pow_pos w.toNat; omega
theorem pw_add (a b : Int) (ha : 0 ≤ a) (hb : 0 ≤ b) : pw (a + b) = pw a * pw b := by
  unfold pw; rw [Int.toNat_add ha hb, Int.pow_add]
theorem pw_succ (w : Int) (h : 0 ≤ w) : pw (w + 1) = 2 * pw w := by
  rw [pw_add w 1 h (by omega), Int.mul_comm]; rfl
theorem pw_pred (w : Int) (h : 1 ≤ w) : pw w = 2 * pw (w - 1) := by
  have := pw_succ (w - 1) (by omega); rwa [Int.sub_add_cancel] at this
theorem pw_le (a b : Int) (h : a ≤ b) : pw a ≤ pw b := by
  rw [pw_cast, pw_cast]
  have := Nat.pow_le_pow_right (n := 2) (by omega) (show a.toNat ≤ b.toNat by omega)
  omega
theorem pw_lt (a b : Int) (h0 : 0 ≤ a) (h : a < b) : pw a < pw b := by
  rw [pw_cast, pw_cast]
  have := Nat.pow_lt_pow_right (a := 2) (by omega) (show a.toNat < b.toNat by omega)
  omega
theorem pw_0 : pw 0 = 1 := rfl
theorem pw_1 : pw 1 = 2 := rfl
theorem pw_12 : pw 12 = 4096 := by decide
theorem pw_24 : pw 24 = 16777216 := by decide
theorem pw_30 : pw 30 = 1073741824 := by decide
theorem pw_w (w : Int) (h1 : 1 ≤ w) (h2 : w ≤ 12) : 2 ≤ pw w ∧ pw w ≤ 4096 := by
  have := pw_le 1 w h1; have := pw_le w 12 h2; rw [pw_1] at *; rw [pw_12] at *; omega
theorem pw_le12 (w : Int) (h2 : w ≤ 12) : 1 ≤ pw w ∧ pw w ≤ 4096 := by
  have := pw_pos w; have := pw_le w 12 h2; rw [pw_12] at *; omega
theorem pw_le24 (w : Int) (h2 : w ≤ 24) : 1 ≤ pw w ∧ pw w ≤ 16777216 := by
  have := pw_pos w; have := pw_le w 24 h2; rw [pw_24] at *; omega
theorem pw_le30 (w : Int) (h2 : w ≤ 30) : 1 ≤ pw w ∧ pw w ≤ 1073741824 := by
  have := pw_pos w; have := pw_le w 30 h2; rw [pw_30] at *; omega

theorem ediv_bd {x c : Int} (h0 : 0 ≤ x) (hc : 1 ≤ c) : 0 ≤ x / c ∧ x / c ≤ x := ⟨Int.ediv_nonneg h0 (by omega), Int.ediv_le_self _ h0⟩
theorem mod_bd (n k : Int) (h1 : 1 ≤ k) (h2 : k ≤ 12) : 0 ≤ n % pw k ∧ n % pw k < 4096 := by
  obtain ⟨a, b⟩ := pw_w k h1 h2
  have := Int.emod_nonneg n (show pw k ≠ 0 by omega)
  have := Int.emod_lt_of_pos n (show 0 < pw k by omega)
  omega
theorem mul_bd {x y X Y : Int} (hx : 0 ≤ x) (hX : x ≤ X) (hy : 0 ≤ y) (hY : y ≤ Y) : 0 ≤ x * y ∧ x * y ≤ X * Y :=
  ⟨Int.mul_nonneg hx hy, Int.mul_le_mul hX hY hy (by omega)⟩
theorem mod_lt_bd (v m : Int) (h : 1 ≤ m) : 0 ≤ v % m ∧ v % m < m := ⟨Int.emod_nonneg _ (by omega), Int.emod_lt_of_pos _ (by omega)⟩
/-- a number is between two others -/
def inB (n lo hi : Int) : Bool := decide (lo ≤ n ∧ n ≤ hi)
theorem inB_true {n lo hi : Int} : inB n lo hi = true ↔ lo ≤ n ∧ n ≤ hi := by simp [inB]
theorem inB_false {n lo hi : Int} : inB n lo hi = false ↔ ¬ (lo ≤ n ∧ n ≤ hi) := by simp [inB]
theorem inB_mk {n lo hi : Int} (h1 : lo ≤ n) (h2 : n ≤ hi) : inB n lo hi = true := inB_true.2 ⟨h1, h2⟩

/-- a width, a valid word -/
def okw (w : Int) : Bool := decide (1 ≤ w ∧ w ≤ 12)
def vld (w x : Int) : Bool := decide (1 ≤ w ∧ w ≤ 12 ∧ 0 ≤ x ∧ x < pw w)
theorem vld_true {w x : Int} : vld w x = true ↔ 1 ≤ w ∧ w ≤ 12 ∧ 0 ≤ x ∧ x < pw w := by simp [vld]
theorem vld_false {w x : Int} : vld w x = false ↔ ¬ (1 ≤ w ∧ w ≤ 12 ∧ 0 ≤ x ∧ x < pw w) := by simp only [vld, decide_eq_false_iff_not]
theorem vld_mk {w x : Int} (h1 : 1 ≤ w) (h2 : w ≤ 12) (h3 : 0 ≤ x) (h4 : x < pw w) : vld w x = true := vld_true.2 ⟨h1, h2, h3, h4⟩
theorem vld_4096 {w x : Int} (h : vld w x = true) : 1 ≤ w ∧ w ≤ 12 ∧ 0 ≤ x ∧ x < pw w ∧ 2 ≤ pw w ∧ pw w ≤ 4096 := by
  obtain ⟨h1, h2, h3, h4⟩ := vld_true.1 h
  have := pw_w w h1 h2
  exact ⟨h1, h2, h3, h4, this⟩
theorem vld_mod (w n : Int) (h1 : 1 ≤ w) (h2 : w ≤ 12) : vld w (n % pw w) = true := by
  have := pw_pos w
  exact vld_mk h1 h2 (Int.emod_nonneg _ (by omega)) (Int.emod_lt_of_pos _ (by omega))

/-! ### and, or, xor of numbers that are not negative; halving -/
def andZ (a b : Int) : Int := ((a.toNat &&& b.toNat : Nat) : Int)
def orZ (a b : Int) : Int := ((a.toNat ||| b.toNat : Nat) : Int)
def xorZ (a b : Int) : Int := ((a.toNat ^^^ b.toNat : Nat) : Int)
theorem andZ_nonneg (a b : Int) : 0 ≤ andZ a b := Int.natCast_nonneg _
theorem orZ_nonneg (a b : Int) : 0 ≤ orZ a b := Int.natCast_nonneg _
theorem xorZ_nonneg (a b : Int) : 0 ≤ xorZ a b := Int.natCast_nonneg _
theorem toNat_lt_pw {a w : Int} (h0 : 0 ≤ a) (h : a < pw w) : a.toNat < 2 ^ w.toNat := by
  rw [pw_cast] at h; omega
theorem lt_pw_of {n : Nat} {w : Int} (h : n < 2 ^ w.toNat) : (n : Int) < pw w := by rw [pw_cast]; omega
theorem andZ_lt (a b w : Int) (h0 : 0 ≤ a) (h : a < pw w) : andZ a b < pw w :=
  lt_pw_of (Nat.lt_of_le_of_lt Nat.and_le_left (toNat_lt_pw h0 h))
theorem andZ_le (a b : Int) (h0 : 0 ≤ a) : andZ a b ≤ a := by
  unfold andZ; have : a.toNat &&& b.toNat ≤ a.toNat := Nat.and_le_left; omega
theorem orZ_lt (a b w : Int) (h0 : 0 ≤ a) (h : a < pw w) (g0 : 0 ≤ b) (g : b < pw w) : orZ a b < pw w :=
  lt_pw_of (Nat.or_lt_two_pow (toNat_lt_pw h0 h) (toNat_lt_pw g0 g))
theorem xorZ_lt (a b w : Int) (h0 : 0 ≤ a) (h : a < pw w) (g0 : 0 ≤ b) (g : b < pw w) : xorZ a b < pw w :=
  lt_pw_of (Nat.xor_lt_two_pow (toNat_lt_pw h0 h) (toNat_lt_pw g0 g))

theorem half_ind {p : Nat → Nat → Prop} (h0 : ∀ b, p 0 b) (hs : ∀ a b, p (a / 2) (b / 2) → p a b) : ∀ a b, p a b := by
  intro a
  induction a using Nat.strongRecOn with
  | ind a ih =>
    intro b
    by_cases ha : a = 0
    · subst ha; exact h0 b
    · exact hs a b (ih (a / 2) (by omega) (b / 2))
theorem and_split (a b : Nat) : a &&& b = 2 * (a / 2 &&& b / 2) + (a % 2) * (b % 2) := by
  have h1 : (a &&& b) / 2 = a / 2 &&& b / 2 := Nat.and_div_two
  have h2 : (a &&& b) % 2 = (a % 2) * (b % 2) := by
    rcases Nat.mod_two_eq_zero_or_one a with ha | ha <;> rcases Nat.mod_two_eq_zero_or_one b with hb | hb <;>
      simp [Nat.and_mod_two_pow (n := 1) (a := a) (b := b) |> (by simpa using ·), ha, hb]
  omega
theorem or_split (a b : Nat) : a ||| b = 2 * (a / 2 ||| b / 2) + (if a % 2 = 0 then b % 2 else 1) := by
  have h1 : (a ||| b) / 2 = a / 2 ||| b / 2 := Nat.or_div_two
  have h2 : (a ||| b) % 2 = (if a % 2 = 0 then b % 2 else 1) := by
    rcases Nat.mod_two_eq_zero_or_one a with ha | ha <;> rcases Nat.mod_two_eq_zero_or_one b with hb | hb <;>
      simp [Nat.or_mod_two_pow (n := 1) (a := a) (b := b) |> (by simpa using ·), ha, hb]
  omega
theorem xor_split (a b : Nat) : a ^^^ b = 2 * (a / 2 ^^^ b / 2) + (a + b) % 2 := by
  have h1 : (a ^^^ b) / 2 = a / 2 ^^^ b / 2 := Nat.xor_div_two
  have h2 : (a ^^^ b) % 2 = (a + b) % 2 := by
    rcases Nat.mod_two_eq_zero_or_one a with ha | ha <;> rcases Nat.mod_two_eq_zero_or_one b with hb | hb <;>
      simp [Nat.xor_mod_two_pow (n := 1) (a := a) (b := b) |> (by simpa using ·), Nat.add_mod, ha, hb]
  omega
theorem or_add_and (a b : Nat) : (a ||| b) + (a &&& b) = a + b := by
  induction a, b using half_ind with
  | h0 b => simp
  | hs a b ih =>
    have h1 := and_split a b
    have h2 := or_split a b
    rcases Nat.mod_two_eq_zero_or_one a with ha | ha <;> rcases Nat.mod_two_eq_zero_or_one b with hb | hb <;> simp [ha, hb] at h1 h2 <;> omega
theorem xor_add_and (a b : Nat) : (a ^^^ b) + 2 * (a &&& b) = a + b := by
  induction a, b using half_ind with
  | h0 b => simp
  | hs a b ih =>
    have h1 := and_split a b
    have h2 := xor_split a b
    rcases Nat.mod_two_eq_zero_or_one a with ha | ha <;> rcases Nat.mod_two_eq_zero_or_one b with hb | hb <;> simp [Nat.add_mod, ha, hb] at h1 h2 <;> omega
theorem orZ_eq (a b : Int) (ha : 0 ≤ a) (hb : 0 ≤ b) : a + b - andZ a b = orZ a b := by
  have := or_add_and a.toNat b.toNat; unfold andZ orZ; omega
theorem xorZ_eq (a b : Int) (ha : 0 ≤ a) (hb : 0 ≤ b) : a + b - 2 * andZ a b = xorZ a b := by
  have := xor_add_and a.toNat b.toNat; unfold andZ xorZ; omega

/-- a bit of a number -/
def bitZ (x k : Int) : Int := x / pw k % 2
theorem bitZ_01 (x k : Int) : bitZ x k = 0 ∨ bitZ x k = 1 := by unfold bitZ; omega
theorem bitZ_bd (x k : Int) : 0 ≤ bitZ x k ∧ bitZ x k ≤ 1 := by unfold bitZ; omega

/-- the bits below k of an 'and' -/
theorem mod_pow_succ_nat (a k : Nat) : a % 2 ^ (k + 1) = a % 2 ^ k + 2 ^ k * (a / 2 ^ k % 2) := by
  rw [Nat.pow_succ, Nat.mod_mul]
theorem and_low_succ (a b k : Nat) :
    ((a % 2 ^ (k + 1)) &&& (b % 2 ^ (k + 1))) = ((a % 2 ^ k) &&& (b % 2 ^ k)) + (a / 2 ^ k % 2) * (b / 2 ^ k % 2) * 2 ^ k := by
  rw [← Nat.and_mod_two_pow, ← Nat.and_mod_two_pow, mod_pow_succ_nat]
  congr 1
  rw [Nat.mul_comm]
  congr 1
  have h : (a &&& b) / 2 ^ k = a / 2 ^ k &&& b / 2 ^ k := Nat.and_div_two_pow
  rw [h, and_split]
  rcases Nat.mod_two_eq_zero_or_one (a / 2 ^ k) with ha | ha <;> rcases Nat.mod_two_eq_zero_or_one (b / 2 ^ k) with hb | hb <;> rw [ha, hb] <;> omega

theorem pw_le61 (w : Int) (h : w ≤ 61) : pw w ≤ 2305843009213693952 := by
  have hle := pw_le w 61 h
  have hk : pw 61 = 2305843009213693952 := by decide
  omega
theorem vld_eq_inB {k x : Int} (h1 : 1 ≤ k) (h2 : k ≤ 12) : inB x 0 (pw k - 1) = vld k x := by
  unfold inB vld
  rw [decide_eq_decide]
  omega
theorem vld_bad_width {k : Int} (h : ¬ (1 ≤ k ∧ k ≤ 12)) (x : Int) : vld k x = false := vld_false.2 (fun g => h ⟨g.1, g.2.1⟩)
/-- the number with a sign -/
def sgZ (w x : Int) : Int := x - bitZ x (w - 1) * pw w
theorem bitZ_mul_bd (x k j : Int) (h1 : 1 ≤ k) (h2 : k ≤ 12) : 0 ≤ bitZ x j * pw k ∧ bitZ x j * pw k ≤ 4096 := by
  obtain ⟨hp, hp'⟩ := pw_w k h1 h2
  rcases bitZ_01 x j with h | h <;> rw [h] <;> omega
theorem tmod_pw (n p : Int) (hp : 1 ≤ p) : (0 ≤ n.tmod p ∧ n.tmod p = n % p) ∨ (n.tmod p < 0 ∧ -p ≤ n.tmod p ∧ n.tmod p + p = n % p) := by
  have h := Int.tmod_eq_emod (a := n) (b := p)
  have h2 : 0 ≤ n % p := Int.emod_nonneg _ (by omega)
  have h3 : n % p < p := Int.emod_lt_of_pos _ (by omega)
  rw [h]
  split
  · left; omega
  · right; rw [Int.natAbs_of_nonneg (by omega)]; omega
theorem bitZ_toNat (a : Int) (k : Nat) (ha : 0 ≤ a) : bitZ a k = ((a.toNat / 2 ^ k % 2 : Nat) : Int) := by
  unfold bitZ
  rw [pw_nat, Int.natCast_emod, Int.natCast_ediv, Int.toNat_of_nonneg ha]; simp
/-- the 'and' of the lowest k bits -/
def lowAnd (a b : Int) (k : Nat) : Int := ((a.toNat % 2 ^ k &&& b.toNat % 2 ^ k : Nat) : Int)
theorem lowAnd_0 (a b : Int) : lowAnd a b 0 = 0 := by simp [lowAnd, Nat.mod_one]
theorem lowAnd_bd (a b : Int) (k : Nat) (hk : k ≤ 30) : 0 ≤ lowAnd a b k ∧ lowAnd a b k ≤ 1073741824 := by
  unfold lowAnd
  have h1 : a.toNat % 2 ^ k &&& b.toNat % 2 ^ k ≤ a.toNat % 2 ^ k := Nat.and_le_left
  have h2 : a.toNat % 2 ^ k < 2 ^ k := Nat.mod_lt _ (Nat.two_pow_pos k)
  have h3 : 2 ^ k ≤ 2 ^ 30 := Nat.pow_le_pow_right (by omega) hk
  omega
theorem lowAnd_succ (a b : Int) (k : Nat) (ha : 0 ≤ a) (hb : 0 ≤ b) : lowAnd a b (k + 1) = lowAnd a b k + bitZ a k * bitZ b k * pw k := by
  unfold lowAnd
  rw [bitZ_toNat a k ha, bitZ_toNat b k hb, and_low_succ, pw_nat]
  simp
theorem lowAnd_30 (a b : Int) (ha : 0 ≤ a) (ha' : a < 1073741824) (hb : 0 ≤ b) (hb' : b < 1073741824) : lowAnd a b 30 = andZ a b := by
  unfold lowAnd andZ
  rw [Nat.mod_eq_of_lt (by omega), Nat.mod_eq_of_lt (by omega)]
theorem bit_mul_bd (a b k j : Int) : 0 ≤ bitZ a k * bitZ b j ∧ bitZ a k * bitZ b j ≤ 1 := by
  rcases bitZ_01 a k with h | h <;> rcases bitZ_01 b j with g | g <;> rw [h, g] <;> decide
theorem bit_mul_pw_bd (a b k : Int) (hk : k ≤ 30) : 0 ≤ bitZ a k * bitZ b k * pw k ∧ bitZ a k * bitZ b k * pw k ≤ 1073741824 := by
  obtain ⟨h1, h2⟩ := pw_le30 k hk
  rcases bitZ_01 a k with h | h <;> rcases bitZ_01 b k with g | g <;> rw [h, g] <;> omega
end Go.Proofs.Ythbpcgefcnpfmaa
