/- Plain arithmetic of digits with signs and of moved words (chapter 3). Conditions: the bounds that are written at each. -/
import Derived.Test.YthbpcgefcnpfmaaMathQ
namespace Go.Proofs.Ythbpcgefcnpfmaa
/-- the bit below a place, 0 below the lowest one -/
def prevB (n : Int) (j : Nat) : Int := if j = 0 then 0 else bitZ n ((j : Int) - 1)
theorem prevB_bd (n : Int) (j : Nat) : 0 ≤ prevB n j ∧ prevB n j ≤ 1 := by
  unfold prevB; split
  · omega
  · exact bitZ_bd _ _
/-- a digit -/
def btD (n : Int) (i : Nat) : Int := bitZ n ((2 * i : Nat) : Int) + prevB n (2 * i) - 2 * bitZ n ((2 * i + 1 : Nat) : Int)
theorem btD_bd (n : Int) (i : Nat) : -2 ≤ btD n i ∧ btD n i ≤ 2 := by
  unfold btD
  have := bitZ_bd n ((2 * i : Nat) : Int)
  have := bitZ_bd n ((2 * i + 1 : Nat) : Int)
  have := prevB_bd n (2 * i)
  omega
def btL (n : Int) (m : Nat) : List Int := (List.range m).map (btD n)
theorem btL_len (n : Int) (m : Nat) : (btL n m).length = m := by simp [btL]
theorem btL_succ (n : Int) (m : Nat) : btL n (m + 1) = btL n m ++ [btD n m] := by simp [btL, List.range_succ]
theorem btL_get (n : Int) (m i : Nat) (h : i < (btL n m).length) : (btL n m)[i] = btD n i := by simp [btL]
/-- the sum of the digits, each times its power of 4 -/
def btS (n : Int) : Nat → Int
  | 0 => 0
  | m + 1 => btS n m + btD n m * pw ((2 * m : Nat) : Int)
/-- they are together what is left of the number -/
theorem btS_eq (n : Int) : ∀ m : Nat, btS n m + (n / pw ((2 * m : Nat) : Int) + prevB n (2 * m)) * pw ((2 * m : Nat) : Int) = n
  | 0 => by simp [btS, prevB, pw]
  | m + 1 => by
    have ih := btS_eq n m
    have e1 := next_bit n ((2 * m : Nat) : Int) (by omega)
    have e2 := next_bit n ((2 * m + 1 : Nat) : Int) (by omega)
    rw [show ((2 * m : Nat) : Int) + 1 = ((2 * m + 1 : Nat) : Int) from rfl] at e1
    rw [show ((2 * m + 1 : Nat) : Int) + 1 = ((2 * (m + 1) : Nat) : Int) by omega] at e2
    have hp : pw ((2 * (m + 1) : Nat) : Int) = 4 * pw ((2 * m : Nat) : Int) := by
      rw [show ((2 * (m + 1) : Nat) : Int) = ((2 * m : Nat) : Int) + 1 + 1 by omega, pw_succ _ (by omega), pw_succ _ (by omega)]; omega
    have hprev : prevB n (2 * (m + 1)) = bitZ n ((2 * m + 1 : Nat) : Int) := by
      unfold prevB; rw [if_neg (by omega)]; congr 1; omega
    simp only [btS, btD]
    rw [hp, hprev]
    obtain ⟨P, hP⟩ : ∃ P, pw ((2 * m : Nat) : Int) = P := ⟨_, rfl⟩
    obtain ⟨X, hX⟩ : ∃ X, n / P = X := ⟨_, rfl⟩
    obtain ⟨Y, hY⟩ : ∃ Y, n / pw ((2 * m + 1 : Nat) : Int) = Y := ⟨_, rfl⟩
    rw [hp, hY] at e2
    rw [hP] at ih e1 e2 ⊢
    rw [hX, hY] at e1
    rw [hX] at ih
    obtain ⟨Z, hZ⟩ : ∃ Z, n / (4 * P) = Z := ⟨_, rfl⟩
    rw [hZ] at e2 ⊢
    obtain ⟨b0, h0⟩ : ∃ b0, bitZ n ((2 * m : Nat) : Int) = b0 := ⟨_, rfl⟩
    obtain ⟨b1, h1⟩ : ∃ b1, bitZ n ((2 * m + 1 : Nat) : Int) = b1 := ⟨_, rfl⟩
    obtain ⟨q, h2⟩ : ∃ q, prevB n (2 * m) = q := ⟨_, rfl⟩
    rw [h0] at e1
    rw [h1] at e2
    rw [h2] at ih
    rw [h0, h1, h2]
    clear hP hX hY hZ h0 h1 h2 hp hprev
    grind
/-- there are enough digits for a word with a sign -/
theorem btS_word (k x : Int) (h : vld k x = true) : btS (sgZ k x) ((k + 1) / 2).toNat = sgZ k x := by
  obtain ⟨a1, a2, a3, a4, a5⟩ := sgZ_range k x h
  obtain ⟨h1, h2, _, _, _, _⟩ := vld_4096 h
  obtain ⟨m, hm⟩ : ∃ m, ((k + 1) / 2).toNat = m := ⟨_, rfl⟩
  rw [hm]
  have hs := btS_eq (sgZ k x) m
  have hm2 : k ≤ ((2 * m : Nat) : Int) := by omega
  have hm1 : 1 ≤ m := by omega
  obtain ⟨n, hn⟩ : ∃ n, sgZ k x = n := ⟨_, rfl⟩
  rw [hn] at a1 a2 hs ⊢
  have hp := pw_le (k - 1) (((2 * m : Nat) : Int) - 1) (by omega)
  have hp2 := pw_le (((2 * m : Nat) : Int) - 1) ((2 * m : Nat) : Int) (by omega)
  have hpp := pw_pos (((2 * m : Nat) : Int) - 1)
  have hz : n / pw ((2 * m : Nat) : Int) + prevB n (2 * m) = 0 := by
    unfold prevB
    rw [if_neg (by omega)]
    unfold bitZ
    rcases Int.lt_or_le n 0 with hneg | hpos
    · have e1 : n / pw ((2 * m : Nat) : Int) = -1 := by
        have : n / pw ((2 * m : Nat) : Int) < 0 := Int.ediv_lt_of_lt_mul (by omega) (by omega)
        have : -1 ≤ n / pw ((2 * m : Nat) : Int) := Int.le_ediv_of_mul_le (by omega) (by omega)
        omega
      have e2 : n / pw (((2 * m : Nat) : Int) - 1) = -1 := by
        have : n / pw (((2 * m : Nat) : Int) - 1) < 0 := Int.ediv_lt_of_lt_mul (by omega) (by omega)
        have : -1 ≤ n / pw (((2 * m : Nat) : Int) - 1) := Int.le_ediv_of_mul_le (by omega) (by omega)
        omega
      rw [e1, e2]; rfl
    · rw [Int.ediv_eq_zero_of_lt hpos (by omega), Int.ediv_eq_zero_of_lt hpos (by omega)]; rfl
  rw [hz, Int.zero_mul] at hs
  omega
theorem sgZ_bdT (k x : Int) (h : vld k x = true) : -2048 ≤ sgZ k x ∧ sgZ k x ≤ 2048 ∧ True ∧ True := by
  obtain ⟨a1, a2, a3, a4, a5⟩ := sgZ_range k x h
  exact ⟨by omega, by omega, trivial, trivial⟩
end Go.Proofs.Ythbpcgefcnpfmaa
