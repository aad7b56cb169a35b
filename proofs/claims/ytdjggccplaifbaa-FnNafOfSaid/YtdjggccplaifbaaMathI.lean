/- Plain arithmetic of inverses of odd words (chapter 4). Conditions: the bounds that are written at each. -/
import Derived.Test.YtdjggccplaifbaaMath
namespace Go.Proofs.Ytdjggccplaifbaa

def oddB (k x : Int) : Bool := vld k x && (x % 2 == 1)
theorem oddB_true {k x : Int} (h : oddB k x = true) : vld k x = true ∧ x % 2 = 1 := by simpa [oddB] using h
/-- the next one -/
def ivN (k x l : Int) : Int := l * ((2 - x * l) % pw k) % pw k
theorem ivN_bd (k x l : Int) (h1 : 1 ≤ k) (h2 : k ≤ 12) : 0 ≤ ivN k x l ∧ ivN k x l < pw k := by
  obtain ⟨a, b⟩ := pw_w k h1 h2
  exact ⟨Int.emod_nonneg _ (by omega), Int.emod_lt_of_pos _ (by omega)⟩
/-- the steps from one on -/
def ivF : Nat → Int → Int → Int → List Int
  | 0, _, _, l => [l]
  | f + 1, k, x, l => if x * l % pw k = 1 then [l] else l :: ivF f k x (ivN k x l)
def ivOk : Nat → Int → Int → Int → Bool
  | 0, k, x, l => x * l % pw k == 1
  | f + 1, k, x, l => if x * l % pw k = 1 then true else ivOk f k x (ivN k x l)
def ivS (k x : Int) : List Int := ivF 2 k x x
def ivG : Nat → Int → Int → Int → Int
  | 0, _, _, l => l
  | f + 1, k, x, l => if x * l % pw k = 1 then l else ivG f k x (ivN k x l)
/-- the inverse -/
def ivZ (k x : Int) : Int := ivG 2 k x x
theorem ivF_last : ∀ (f : Nat) (k x l : Int), ∃ D l', ivF f k x l = D ++ [l'] ∧ l' = ivG f k x l
  | 0, k, x, l => ⟨[], l, rfl, rfl⟩
  | f + 1, k, x, l => by
    by_cases h : x * l % pw k = 1
    · exact ⟨[], l, by simp [ivF, h], by simp [ivG, h]⟩
    · obtain ⟨D, l', h1, h2⟩ := ivF_last f k x (ivN k x l)
      exact ⟨l :: D, l', by simp [ivF, h, h1], by simp [ivG, h, h2]⟩
theorem ivS_last (k x : Int) : ∃ D l, ivS k x = D ++ [l] ∧ l = ivZ k x := ivF_last 2 k x x
theorem ivG_good : ∀ (f : Nat) (k x l : Int), ivOk f k x l = true → x * ivG f k x l % pw k = 1
  | 0, k, x, l, h => by simpa [ivOk, ivG] using h
  | f + 1, k, x, l, h => by
    by_cases g : x * l % pw k = 1
    · simp [ivG, g]
    · simp only [ivOk, if_neg g] at h
      simp only [ivG, if_neg g]
      exact ivG_good f k x _ h
theorem ivG_bd : ∀ (f : Nat) (k x l : Int), 1 ≤ k → k ≤ 12 → 0 ≤ l → l < pw k → 0 ≤ ivG f k x l ∧ ivG f k x l < pw k
  | 0, _, _, _, _, _, h3, h4 => ⟨h3, h4⟩
  | f + 1, k, x, l, h1, h2, h3, h4 => by
    simp only [ivG]
    split
    · exact ⟨h3, h4⟩
    · obtain ⟨a, b⟩ := ivN_bd k x l h1 h2
      exact ivG_bd f k x _ h1 h2 a b
theorem ivF_len : ∀ (f : Nat) (k x l : Int), (ivF f k x l).length ≤ f + 1
  | 0, _, _, _ => by simp [ivF]
  | f + 1, k, x, l => by
    simp only [ivF]
    split
    · simp
    · have := ivF_len f k x (ivN k x l)
      simp only [List.length_cons]; omega
theorem ivS_len (k x : Int) : (ivS k x).length ≤ 3 := ivF_len 2 k x x
theorem ivF_good {f : Nat} {k x l : Int} (h : x * l % pw k = 1) : ivF f k x l = [l] := by cases f <;> simp [ivF, h]
theorem ivOk_step {f : Nat} {k x l : Int} (h : ¬ x * l % pw k = 1) (g : ivOk f k x l = true) : ∃ f', f = f' + 1 ∧ ivOk f' k x (ivN k x l) = true ∧ ivF f k x l = l :: ivF f' k x (ivN k x l) := by
  cases f with
  | zero => simp [ivOk] at g; exact absurd g h
  | succ f => exact ⟨f, rfl, by simpa [ivOk, h] using g, by simp [ivF, h]⟩
theorem iv_chk : chk (fun x => (List.range 12).all fun j => !oddB ((j + 1 : Nat) : Int) x || ivOk 2 ((j + 1 : Nat) : Int) x x) 12 0 = true := by decide +kernel
theorem width_nat {k : Int} (h1 : 1 ≤ k) (h2 : k ≤ 12) : ∃ j : Nat, j < 12 ∧ k = ((j + 1 : Nat) : Int) := ⟨(k - 1).toNat, by omega, by omega⟩
theorem iv_ok (k x : Int) (h : oddB k x = true) : ivOk 2 k x x = true := by
  obtain ⟨h1, h2, h3, h4, h5, h6⟩ := vld_4096 (oddB_true h).1
  obtain ⟨n, rfl⟩ := Int.eq_ofNat_of_zero_le h3
  obtain ⟨j, hj, rfl⟩ := width_nat h1 h2
  have hc := chk_sound _ 12 0 iv_chk n (by omega) (by omega)
  have := List.all_eq_true.1 hc j (List.mem_range.2 hj)
  rw [h] at this
  simpa using this
theorem ivZ_is (k x : Int) (h : oddB k x = true) : x * ivZ k x % pw k = 1 ∧ 0 ≤ ivZ k x ∧ ivZ k x < pw k := by
  obtain ⟨h1, h2, h3, h4, h5, h6⟩ := vld_4096 (oddB_true h).1
  exact ⟨ivG_good _ _ _ _ (iv_ok k x h), ivG_bd _ _ _ _ h1 h2 h3 h4⟩
theorem ivZ_odd (k x : Int) (h : oddB k x = true) : oddB k (ivZ k x) = true := by
  obtain ⟨h1, h2, h3, h4, h5, h6⟩ := vld_4096 (oddB_true h).1
  obtain ⟨i1, i2, i3⟩ := ivZ_is k x h
  have hv := vld_mk h1 h2 i2 i3
  have e := pw_pred k h1
  have h2' : x * ivZ k x % 2 = 1 := by
    have hd : x * ivZ k x % pw k % 2 = x * ivZ k x % 2 := Int.emod_emod_of_dvd _ ⟨pw (k - 1), by omega⟩
    rw [← hd, i1]; rfl
  have h3' : ivZ k x % 2 = 1 := by
    rcases (show ivZ k x % 2 = 0 ∨ ivZ k x % 2 = 1 by omega) with hz | hz
    · rw [Int.mul_emod, hz] at h2'; simp at h2'
    · exact hz
  simp [oddB, hv, h3']
theorem ivZ_ivZ (k x : Int) (h : oddB k x = true) : ivZ k (ivZ k x) = x := by
  obtain ⟨h1, h2, h3, h4, h5, h6⟩ := vld_4096 (oddB_true h).1
  obtain ⟨i1, i2, i3⟩ := ivZ_is k x h
  obtain ⟨j1, j2, j3⟩ := ivZ_is k (ivZ k x) (ivZ_odd k x h)
  have e1 : x * (ivZ k x * ivZ k (ivZ k x)) % pw k = x := by rw [Int.mul_emod, j1, Int.mul_one, Int.emod_emod, Int.emod_eq_of_lt h3 h4]
  have e2 : x * ivZ k x * ivZ k (ivZ k x) % pw k = ivZ k (ivZ k x) := by rw [Int.mul_emod, i1, Int.one_mul, Int.emod_emod, Int.emod_eq_of_lt j2 j3]
  rw [Int.mul_assoc, e1] at e2
  exact e2.symm
end Go.Proofs.Ytdjggccplaifbaa
