/- Plain arithmetic of exact division and of division by constants (chapter 4). Conditions: those that are written at each. -/
import Derived.Test.YtdjggccplaifbaaMathI
import Derived.Test.YtdjggccplaifbaaMathM
namespace Go.Proofs.Ytdjggccplaifbaa

def ddB (k a b : Int) : Bool := decide (a * ivZ k b % pw k ≤ (pw k - 1) / b)
theorem inv_back (k a b q : Int) (h : oddB k b = true) (hq0 : 0 ≤ q) (hq : q < pw k) (ha : a = q * b) : a * ivZ k b % pw k = q := by
  obtain ⟨i1, i2, i3⟩ := ivZ_is k b h
  subst ha
  rw [Int.mul_assoc, Int.mul_emod, i1]
  have hp := pw_pos k
  rw [Int.mul_one, Int.emod_emod]
  exact Int.emod_eq_of_lt hq0 hq
theorem ddB_iff (k a b : Int) (ha : vld k a = true) (hb : oddB k b = true) : ddB k a b = decide (a % b = 0) := by
  obtain ⟨h1, h2, h3, h4, h5, h6⟩ := vld_4096 ha
  obtain ⟨_, _, g3, g4, _, _⟩ := vld_4096 (oddB_true hb).1
  have go := (oddB_true hb).2
  obtain ⟨i1, i2, i3⟩ := ivZ_is k b hb
  unfold ddB
  rw [decide_eq_decide]
  constructor
  · intro hc
    obtain ⟨c, hcc⟩ : ∃ c, a * ivZ k b % pw k = c := ⟨_, rfl⟩
    rw [hcc] at hc
    have c0 : 0 ≤ c := by rw [← hcc]; exact Int.emod_nonneg _ (by omega)
    have hcb : c * b ≤ pw k - 1 := by
      have := Int.mul_le_mul_of_nonneg_right hc (show 0 ≤ b by omega)
      have := Int.ediv_mul_le (pw k - 1) (show b ≠ 0 by omega)
      omega
    have hcb0 : 0 ≤ c * b := Int.mul_nonneg c0 (by omega)
    -- c * b and a are the same modulo 2^k
    have e1 : (c * b) % pw k = a % pw k := by
      rw [← hcc, Int.mul_emod, Int.emod_emod, ← Int.mul_emod, Int.mul_assoc, Int.mul_comm (ivZ k b) b, Int.mul_emod, i1, Int.mul_one, Int.emod_emod]
    rw [Int.emod_eq_of_lt hcb0 (by omega), Int.emod_eq_of_lt h3 h4] at e1
    rw [← e1]; exact Int.mul_emod_left c b
  · intro h0
    have hd : a = (a / b) * b := by have := Int.emod_add_mul_ediv a b; rw [h0, Int.mul_comm] at this; omega
    have q0 : 0 ≤ a / b := Int.ediv_nonneg h3 (by omega)
    have q1 : a / b ≤ a := Int.ediv_le_self _ h3
    rw [inv_back k a b (a / b) hb q0 (by omega) hd]
    exact Int.ediv_le_ediv (by omega) (by omega)
theorem oddB_mk {k x : Int} (h : vld k x = true) (g : x % 2 = 1) : oddB k x = true := by simp [oddB, h, g]
/-- the quotient, by the inverse of what is left of the divisor -/
theorem exact_eq (k a b j o : Int) (h1 : 1 ≤ k) (h2 : k ≤ 12) (ha0 : 0 ≤ a) (ha : a < pw k) (hb0 : 0 < b) (hb : b < pw k) (hr : a % b = 0) (ho : o % 2 = 1) (ho0 : 0 < o) (e : b = pw j * o) :
    oddB k o = true ∧ a / pw j * ivZ k o % pw k = a / b := by
  have hp := pw_pos j
  have hob : o ≤ b := by
    rw [e]
    have := Int.mul_le_mul_of_nonneg_right hp (show 0 ≤ o by omega)
    omega
  have hodd : oddB k o = true := oddB_mk (vld_mk h1 h2 (by omega) (by omega)) ho
  refine ⟨hodd, ?_⟩
  have hd : a = (a / b) * b := by have := Int.emod_add_mul_ediv a b; rw [hr, Int.mul_comm] at this; omega
  have q0 : 0 ≤ a / b := Int.ediv_nonneg ha0 (by omega)
  have q1 : a / b ≤ a := Int.ediv_le_self _ ha0
  refine inv_back k (a / pw j) o (a / b) hodd q0 (by omega) ?_
  have e2 : a = (a / b * o) * pw j := by
    conv => lhs; rw [hd, e]
    rw [Int.mul_assoc, Int.mul_comm o (pw j)]
    conv => rhs; rw [← e]
    conv => lhs; rw [← e]
  conv => lhs; rw [e2]
  rw [Int.mul_ediv_cancel _ (by omega)]
theorem magic_div (k x d : Int) (j : Nat) (hv : vld k x = true) (hj : mofIs k d j) : x * magM d j / pw j = x / d := by
  obtain ⟨h1, h2, h3, h4, h5, h6⟩ := vld_4096 hv
  obtain ⟨n, rfl⟩ := Int.eq_ofNat_of_zero_le h3
  have h := (mokB_true.1 hj.2.2.1).2
  exact h n (by rw [pw_cast] at h4; omega)
theorem mofIs_mag {k d : Int} {j : Nat} (hj : mofIs k d j) : 1 ≤ k ∧ k ≤ 12 ∧ 1 ≤ d ∧ 0 ≤ magM d j ∧ magM d j ≤ 67108863 ∧ j ≤ 24 := by
  obtain ⟨a, b, c, e, f, g, _, i⟩ := magB_true.1 (mokB_true.1 hj.2.2.1).1
  exact ⟨a, b, c, f, g, by omega⟩
end Go.Proofs.Ytdjggccplaifbaa
