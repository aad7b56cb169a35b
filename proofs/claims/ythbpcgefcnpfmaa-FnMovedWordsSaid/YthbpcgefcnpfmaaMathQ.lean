/- Plain arithmetic of division bit by bit (chapter 3). Conditions: the bounds that are written at each. -/
import Derived.Test.YthbpcgefcnpfmaaMathP
namespace Go.Proofs.Ythbpcgefcnpfmaa
theorem next_bit (a j : Int) (hj : 0 ≤ j) : a / pw j = 2 * (a / pw (j + 1)) + bitZ a j := by
  unfold bitZ
  have h : a / pw (j + 1) = a / pw j / 2 := by
    rw [pw_succ j hj, Int.mul_comm, Int.ediv_ediv_of_nonneg (by have := pw_pos j; omega)]
  rw [h]; omega
theorem dstep (X b c : Int) (hb : 1 ≤ b) (c0 : 0 ≤ c) (c1 : c ≤ 1) :
    (b ≤ 2 * (X % b) + c → (2 * X + c) / b = 2 * (X / b) + 1 ∧ (2 * X + c) % b = 2 * (X % b) + c - b) ∧
    (2 * (X % b) + c < b → (2 * X + c) / b = 2 * (X / b) ∧ (2 * X + c) % b = 2 * (X % b) + c) := by
  have h0 := edm X b
  obtain ⟨m0, m1⟩ := mod_lt_bd X b hb
  have e1 : (2 * (X / b) + 1) * b = 2 * (X / b * b) + b := by rw [Int.add_mul, Int.one_mul, Int.mul_assoc]
  have e2 : 2 * (X / b) * b = 2 * (X / b * b) := Int.mul_assoc _ _ _
  exact ⟨fun h1 => divmod_unique (by omega) (by omega) (by omega) (by omega), fun h1 => divmod_unique (by omega) (by omega) (by omega) (by omega)⟩
/-- the rests bit by bit, from place n - 1 down -/
def dsF (a b : Int) : Nat → List Int
  | 0 => []
  | n + 1 => (a / pw n % b) :: dsF a b n
theorem dsF_len (a b : Int) : ∀ n, (dsF a b n).length = n
  | 0 => rfl
  | n + 1 => by simp [dsF, dsF_len a b n]
theorem dsF_step (a b j : Int) (hj : 0 ≤ j) : dsF a b (j + 1).toNat = (a / pw (j - 1 + 1) % b) :: dsF a b (j - 1 + 1).toNat := by
  obtain ⟨n, rfl⟩ := Int.eq_ofNat_of_zero_le hj
  rw [Int.sub_add_cancel]
  rfl
end Go.Proofs.Ythbpcgefcnpfmaa
