/- and, or, xor of Go's int, as plain arithmetic; conditions: the bounds that are written at each. -/
import Derived.Test.YthbpcgefcnpfmaaMath
import Derived.Laws.Bits64
import Derived.Laws.Shifts
import Derived.IntWalk
namespace Go.Proofs.Ythbpcgefcnpfmaa
open Go

theorem pw_dvd64 (w : Int) (h : w ≤ 62) : ∃ c : Int, (18446744073709551616 : Int) = pw w * c := by
  refine ⟨((2 ^ (64 - w.toNat) : Nat) : Int), ?_⟩
  rw [pw_cast, ← Int.natCast_mul, ← Nat.pow_add, show w.toNat + (64 - w.toNat) = 64 by omega]; rfl
theorem emod_of_shift (n q w : Int) (h : w ≤ 62) : (n + 18446744073709551616 * q) % pw w = n % pw w := by
  obtain ⟨c, hc⟩ := pw_dvd64 w h
  rw [hc, Int.mul_assoc, Int.add_mul_emod_self_left]
theorem emod64_emod (n w : Int) (h : w ≤ 62) : (n % 18446744073709551616) % pw w = n % pw w := by
  obtain ⟨c, hc⟩ := pw_dvd64 w h
  exact Int.emod_emod_of_dvd n ⟨c, hc⟩
theorem wrap64_emod (n w : Int) (h : w ≤ 62) : IntKind.i64.wrap n % pw w = n % pw w := by
  rw [IntKind.wrap_i64]
  have e : (n + 9223372036854775808) % 18446744073709551616 - 9223372036854775808 = n + 18446744073709551616 * (-((n + 9223372036854775808) / 18446744073709551616)) := by
    have := Int.emod_add_mul_ediv (n + 9223372036854775808) 18446744073709551616
    omega
  rw [e, emod_of_shift _ _ _ h]
theorem ofInt64_toNat (n : Int) : (BitVec.ofInt 64 n).toNat = (n % 18446744073709551616).toNat := by
  rw [BitVec.toNat_ofInt]; rfl
theorem ofInt64_mod (n w : Int) (h : w ≤ 62) : (BitVec.ofInt 64 n).toNat % 2 ^ w.toNat = (n % pw w).toNat := by
  rw [ofInt64_toNat]
  have h1 : 0 ≤ n % 18446744073709551616 := Int.emod_nonneg _ (by omega)
  have h2 := emod64_emod n w h
  have h3 : (((n % 18446744073709551616).toNat % 2 ^ w.toNat : Nat) : Int) = (n % 18446744073709551616) % pw w := by
    rw [Int.natCast_emod, Int.toNat_of_nonneg h1, pw_cast]
  have hp := pw_pos w
  have h4 : 0 ≤ n % pw w := Int.emod_nonneg _ (by omega)
  omega
theorem i64_and_mod (a b w : Int) (h : w ≤ 62) : bits .and .i64 a b % pw w = andZ (a % pw w) (b % pw w) := by
  show IntKind.i64.wrap ((BitVec.ofInt 64 a &&& BitVec.ofInt 64 b).toNat : Int) % pw w = _
  rw [wrap64_emod _ _ h, BitVec.toNat_and, pw_cast, ← Int.natCast_emod, Nat.and_mod_two_pow, ofInt64_mod _ _ h, ofInt64_mod _ _ h, ← pw_cast]
  rfl
theorem i64_or_mod (a b w : Int) (h : w ≤ 62) : bits .or .i64 a b % pw w = orZ (a % pw w) (b % pw w) := by
  show IntKind.i64.wrap ((BitVec.ofInt 64 a ||| BitVec.ofInt 64 b).toNat : Int) % pw w = _
  rw [wrap64_emod _ _ h, BitVec.toNat_or, pw_cast, ← Int.natCast_emod, Nat.or_mod_two_pow, ofInt64_mod _ _ h, ofInt64_mod _ _ h, ← pw_cast]
  rfl
theorem i64_xor_mod (a b w : Int) (h : w ≤ 62) : bits .xor .i64 a b % pw w = xorZ (a % pw w) (b % pw w) := by
  show IntKind.i64.wrap ((BitVec.ofInt 64 a ^^^ BitVec.ofInt 64 b).toNat : Int) % pw w = _
  rw [wrap64_emod _ _ h, BitVec.toNat_xor, pw_cast, ← Int.natCast_emod, Nat.xor_mod_two_pow, ofInt64_mod _ _ h, ofInt64_mod _ _ h, ← pw_cast]
  rfl
theorem ofInt64_small (a : Int) (h0 : 0 ≤ a) (h : a ≤ 4611686018427387903) : (BitVec.ofInt 64 a).toNat = a.toNat := by
  rw [ofInt64_toNat]; omega
theorem i64_and (a b : Int) (h0 : 0 ≤ a) (h : a ≤ 4611686018427387903) (g0 : 0 ≤ b) (g : b ≤ 4611686018427387903) : bits .and .i64 a b = andZ a b := by
  show IntKind.i64.wrap ((BitVec.ofInt 64 a &&& BitVec.ofInt 64 b).toNat : Int) = _
  rw [BitVec.toNat_and, ofInt64_small a h0 h, ofInt64_small b g0 g, IntKind.wrap_i64]
  have : a.toNat &&& b.toNat ≤ a.toNat := Nat.and_le_left
  unfold andZ; omega
theorem i64_or (a b : Int) (h0 : 0 ≤ a) (h : a ≤ 4611686018427387903) (g0 : 0 ≤ b) (g : b ≤ 4611686018427387903) : bits .or .i64 a b = orZ a b := by
  show IntKind.i64.wrap ((BitVec.ofInt 64 a ||| BitVec.ofInt 64 b).toNat : Int) = _
  rw [BitVec.toNat_or, ofInt64_small a h0 h, ofInt64_small b g0 g, IntKind.wrap_i64]
  have : a.toNat ||| b.toNat < 2 ^ 62 := Nat.or_lt_two_pow (by omega) (by omega)
  unfold orZ; omega
theorem i64_xor (a b : Int) (h0 : 0 ≤ a) (h : a ≤ 4611686018427387903) (g0 : 0 ≤ b) (g : b ≤ 4611686018427387903) : bits .xor .i64 a b = xorZ a b := by
  show IntKind.i64.wrap ((BitVec.ofInt 64 a ^^^ BitVec.ofInt 64 b).toNat : Int) = _
  rw [BitVec.toNat_xor, ofInt64_small a h0 h, ofInt64_small b g0 g, IntKind.wrap_i64]
  have : a.toNat ^^^ b.toNat < 2 ^ 62 := Nat.xor_lt_two_pow (by omega) (by omega)
  unfold xorZ; omega
theorem i64_and_mask (n w : Int) (h : w ≤ 61) : bits .and .i64 n (pw w - 1) = n % pw w := by
  have hp := pw_pos w
  have hle := pw_le w 61 h
  have hk : pw 61 = 2305843009213693952 := by decide
  rw [hk] at hle
  show IntKind.i64.wrap ((BitVec.ofInt 64 n &&& BitVec.ofInt 64 (pw w - 1)).toNat : Int) = _
  rw [BitVec.toNat_and, ofInt64_small (pw w - 1) (by omega) (by omega)]
  have e : (pw w - 1).toNat = 2 ^ w.toNat - 1 := by rw [pw_cast]; have := Nat.two_pow_pos w.toNat; omega
  rw [e, Nat.and_two_pow_sub_one_eq_mod, ofInt64_mod _ _ (by omega), IntKind.wrap_i64]
  have h1 : 0 ≤ n % pw w := Int.emod_nonneg _ (by omega)
  have h2 : n % pw w < pw w := Int.emod_lt_of_pos _ (by omega)
  omega
theorem i64_and_1 (n : Int) : bits .and .i64 n 1 = n % 2 := i64_and_mask n 1 (by omega)
theorem i64_not (n : Int) (h0 : 0 ≤ n) (h : n ≤ 4611686018427387903) : bits .xor .i64 (-1) n = -1 - n := by
  show IntKind.i64.wrap ((BitVec.ofInt 64 (-1) ^^^ BitVec.ofInt 64 n).toNat : Int) = _
  have e1 : BitVec.ofInt 64 (-1) = BitVec.allOnes 64 := by decide
  rw [e1, BitVec.allOnes_xor, BitVec.toNat_not, ofInt64_small n h0 h, IntKind.wrap_i64]
  omega

/-! ### Shifts, in the walk's form: '2 ^ n.toNat', '2 ^ n' -/
theorem shl_pw (n : Int) : (2 : Int) ^ n.toNat = pw n := rfl
theorem shl_pwn (k : Nat) : (2 : Int) ^ k = pw k := (pw_nat k).symm
theorem i64_tdiv (x d : Int) (h0 : 0 ≤ x) (h : x ≤ 9223372036854775807) (hd : 1 ≤ d) : IntKind.i64.wrap (x.tdiv d) = x / d := IntWalk.i64_quo x d ⟨h0, h, hd⟩
end Go.Proofs.Ythbpcgefcnpfmaa
