/- Plain arithmetic of digits of which no two side by side are other than 0 (chapter 4). Conditions: the bounds that are written at each. -/
import Derived.Test.YtdjggccplaifbaaMath
namespace Go.Proofs.Ytdjggccplaifbaa

/-- the digit -/
def dg (n : Int) : Int := if n % 2 = 1 then 2 - n % 4 else 0
theorem dg_odd {n : Int} (h : n % 2 = 1) : dg n = 2 - n % 4 := by unfold dg; rw [if_pos h]
theorem dg_even {n : Int} (h : ¬ n % 2 = 1) : dg n = 0 := by unfold dg; rw [if_neg h]
theorem dg_half (n : Int) (h : 0 < n) : 0 ≤ (n - dg n) / 2 ∧ (n - dg n) / 2 < n := by unfold dg; split <;> omega
theorem dg_eq (n : Int) : n = dg n + 2 * ((n - dg n) / 2) := by unfold dg; split <;> omega
def nafF : Nat → Int → List Int
  | 0, _ => []
  | f + 1, n => if n ≤ 0 then [] else dg n :: nafF f ((n - dg n) / 2)
def nafL (n : Int) : List Int := nafF n.toNat n
theorem nafF_np (f : Nat) (n : Int) (h : n ≤ 0) : nafF f n = [] := by cases f <;> simp [nafF, h]
theorem nafF_eq : ∀ (f : Nat) (n : Int), n.toNat ≤ f → nafF f n = nafL n := by
  intro f
  induction f using Nat.strongRecOn with
  | ind f ih =>
    intro n hn
    by_cases h : n ≤ 0
    · rw [nafF_np f n h]; unfold nafL; rw [nafF_np _ n h]
    · obtain ⟨m, hm⟩ : ∃ m, n.toNat = m + 1 := ⟨n.toNat - 1, by omega⟩
      obtain ⟨g, rfl⟩ : ∃ g, f = g + 1 := ⟨f - 1, by omega⟩
      have hh := dg_half n (by omega)
      unfold nafL
      rw [hm]
      simp only [nafF, if_neg h]
      rw [ih g (by omega) _ (by omega)]
      by_cases hmg : m = g
      · subst hmg; rw [ih m (by omega) _ (by omega)]
      · rw [ih m (by omega) _ (by omega)]
theorem nafL_0 : nafL 0 = [] := rfl
theorem nafL_pos (n : Int) (h : 0 < n) : nafL n = dg n :: nafL ((n - dg n) / 2) := by
  obtain ⟨m, hm⟩ : ∃ m, n.toNat = m + 1 := ⟨n.toNat - 1, by omega⟩
  have hh := dg_half n h
  conv => lhs; unfold nafL; rw [hm]; simp only [nafF, if_neg (show ¬ n ≤ 0 by omega)]
  rw [nafF_eq m _ (by omega)]
/-- the number of the digits that are not 0 -/
def nzN : List Int → Int
  | [] => 0
  | d :: l => (if d = 0 then 0 else 1) + nzN l
theorem nzN_bd : ∀ l, 0 ≤ nzN l ∧ nzN l ≤ l.length
  | [] => by simp [nzN]
  | d :: l => by have := nzN_bd l; simp only [nzN, List.length_cons]; split <;> omega
theorem nzN_snoc (l : List Int) (d : Int) : nzN (l ++ [d]) = nzN l + (if d = 0 then 0 else 1) := by
  induction l with
  | nil => simp [nzN]
  | cons x l ih => simp only [List.cons_append, nzN, ih]; omega
def nmZ (n : Int) : Int := nzN (nafL n)
/-- all digits are -1, 0 or 1 -/
def Digs (l : List Int) : Prop := ∀ d ∈ l, d = -1 ∨ d = 0 ∨ d = 1
theorem dg_is (n : Int) : dg n = -1 ∨ dg n = 0 ∨ dg n = 1 := by unfold dg; split <;> omega
theorem nafF_digs : ∀ (f : Nat) (n : Int), Digs (nafF f n)
  | 0, _ => by intro d h; simp [nafF] at h
  | f + 1, n => by
    intro d h
    simp only [nafF] at h
    split at h
    · simp at h
    · rcases List.mem_cons.1 h with rfl | h
      · exact dg_is n
      · exact nafF_digs f _ d h
theorem nafL_digs (n : Int) : Digs (nafL n) := nafF_digs _ _
theorem nafL_len_chk : chk (fun n => decide ((nafL n).length ≤ 13)) 12 0 = true := by decide +kernel
theorem nafL_len (n : Int) (h0 : 0 ≤ n) (h : n ≤ 4095) : (nafL n).length ≤ 13 := by
  obtain ⟨m, rfl⟩ := Int.eq_ofNat_of_zero_le h0
  exact of_decide_eq_true (chk_sound _ 12 0 nafL_len_chk m (by omega) (by omega))

/-- the number that digits are -/
def dvN : List Int → Int
  | [] => 0
  | d :: l => d + 2 * dvN l
theorem dvN_snoc (d : Int) : ∀ l : List Int, dvN (l ++ [d]) = dvN l + d * pw l.length
  | [] => by simp [dvN, pw]
  | x :: l => by
    simp only [List.cons_append, dvN, dvN_snoc d l, List.length_cons]
    rw [show ((l.length + 1 : Nat) : Int) = (l.length : Int) + 1 from rfl, pw_succ _ (by omega)]
    rw [Int.mul_add, ← Int.mul_assoc d 2, ← Int.mul_assoc 2 d, Int.mul_comm 2 d, Int.add_assoc]
theorem dvN_nafF : ∀ (f : Nat) (n : Int), 0 ≤ n → n.toNat ≤ f → dvN (nafF f n) = n
  | 0, n, h0, h => by simp [nafF, dvN]; omega
  | f + 1, n, h0, h => by
    simp only [nafF]
    split
    · simp [dvN]; omega
    · have hh := dg_half n (by omega)
      have he := dg_eq n
      simp only [dvN]
      rw [dvN_nafF f _ hh.1 (by omega)]
      omega
theorem dvN_naf (n : Int) (h : 0 ≤ n) : dvN (nafL n) = n := dvN_nafF _ n h (Nat.le_refl _)
theorem dvN_bd : ∀ l : List Int, Digs l → -pw l.length < dvN l ∧ dvN l < pw l.length
  | [], _ => by simp [dvN, pw]
  | d :: l, h => by
    have h1 := dvN_bd l (fun x hx => h x (List.mem_cons_of_mem _ hx))
    have h2 := h d List.mem_cons_self
    simp only [dvN, List.length_cons]
    rw [show ((l.length + 1 : Nat) : Int) = (l.length : Int) + 1 from rfl, pw_succ _ (by omega)]
    omega
theorem dvN_mul_bd (x X : Int) (l : List Int) (h : Digs l) (hl : l.length ≤ 13) (h0 : 0 ≤ x) (hX : x ≤ X) : -(X * 8192) ≤ x * dvN l ∧ x * dvN l ≤ X * 8192 := by
  have hb := dvN_bd l h
  have hp := pw_le l.length 13 (by omega)
  rw [show pw 13 = 8192 by decide] at hp
  have a1 : x * dvN l ≤ x * 8192 := Int.mul_le_mul_of_nonneg_left (by omega) h0
  have a2 : x * (-8192) ≤ x * dvN l := Int.mul_le_mul_of_nonneg_left (by omega) h0
  omega
theorem dvN_step (x : Int) (L : List Int) (i : Nat) (hlt : i < L.length) : x * dvN (L.take (i + 1)) = x * dvN (L.take i) + L[i] * x * pw i := by
  rw [List.take_succ_eq_append_getElem hlt, dvN_snoc, Int.mul_add, List.length_take, Nat.min_eq_left (by omega), ← Int.mul_assoc, Int.mul_comm x L[i]]
theorem dig_mul_bd {d : Int} (h : d = -1 ∨ d = 0 ∨ d = 1) {x : Int} (h0 : 0 ≤ x) (hx : x ≤ 4096) (i : Nat) (hi : i ≤ 13) :
    -4096 ≤ d * x ∧ d * x ≤ 4096 ∧ -33554432 ≤ d * x * pw i ∧ d * x * pw i ≤ 33554432 := by
  have hp := pw_le i 13 (by omega)
  rw [show pw 13 = 8192 by decide] at hp
  have hp1 := pw_pos i
  obtain ⟨m1, m2⟩ := (⟨Int.mul_nonneg h0 (by omega), Int.mul_le_mul hx hp (by omega) (by omega)⟩ : 0 ≤ x * pw i ∧ x * pw i ≤ 4096 * 8192)
  rcases h with rfl | rfl | rfl
  · have : -1 * x * pw i = -(x * pw i) := by rw [Int.mul_assoc, Int.neg_one_mul]
    omega
  · simp
  · have : 1 * x * pw i = x * pw i := by rw [Int.one_mul]
    omega
/-- how many of the lowest bits are 1 -/
def oneZ (n : Int) : Nat → Int
  | 0 => 0
  | k + 1 => oneZ n k + n / 2 ^ k % 2
theorem oneZ_bd (n : Int) : ∀ k : Nat, 0 ≤ oneZ n k ∧ oneZ n k ≤ k
  | 0 => ⟨Int.le_refl _, Int.le_refl _⟩
  | k + 1 => by
    have := oneZ_bd n k
    have h0 : 0 ≤ n / 2 ^ k % 2 ∧ n / 2 ^ k % 2 ≤ 1 := by omega
    simp only [oneZ]; omega
theorem nmZ_double (n : Int) (h : 0 ≤ n) : nmZ (2 * n) = nmZ n := by
  by_cases h0 : n = 0
  · subst h0; rfl
  · unfold nmZ
    rw [nafL_pos (2 * n) (by omega), dg_even (by omega), show (2 * n - 0) / 2 = n by omega]
    simp [nzN]
end Go.Proofs.Ytdjggccplaifbaa
