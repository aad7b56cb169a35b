/- Plain laws of division by one product with one bit fewer, of the steps to an inverse and of the fewest digits (chapter 4), by finite checks. Conditions: those that are written at each. -/
import Derived.Test.YtdjggccplaifbaaMathD
import Derived.Test.YtdjggccplaifbaaMathC
namespace Go.Proofs.Ytdjggccplaifbaa
theorem mok_one {k d m s : Int} (h : mokB k d m s = true) : m / pw s = 1 / d := by
  obtain ⟨h1, h2⟩ := mokB_true.1 h
  obtain ⟨c1, _⟩ := magB_true.1 h1
  have e : ((1 : Nat) : Int) * m / pw s = ((1 : Nat) : Int) / d := h2 1 (Nat.one_lt_two_pow (by omega))
  have e' : (1 : Int) * m / pw s = 1 / d := e
  rwa [Int.one_mul] at e'
theorem mok_less {k d m s : Int} (h : mokB k d m s = true) (hk : k ≠ 1) : mokB (k - 1) d m s = true := by
  obtain ⟨h1, h2⟩ := mokB_true.1 h
  obtain ⟨c1, c2, c3, c4, c5, c6, c7, c8⟩ := magB_true.1 h1
  exact mokB_yes (magB_true.2 ⟨by omega, by omega, c3, c4, c5, c6, c7, c8⟩) (fun x hx => h2 x (Nat.lt_of_lt_of_le hx (Nat.pow_le_pow_right (by omega) (by omega))))

/-- each step makes twice as many bits right -/
def ivC : Int → Int → Int → List Int → Bool
  | _, _, _, [] => true
  | r, k, x, l :: t => (x * l % pw k % pw (if r ≤ k then r else k) == 1) && ivC (2 * r) k x t
theorem ivC_get : ∀ (L : List Int) (r k x : Int), ivC r k x L = true → ∀ i (hi : i < L.length), x * L[i] % pw k % pw (if r * 2 ^ i ≤ k then r * 2 ^ i else k) = 1
  | [], _, _, _, _ => fun i hi => absurd hi (by simp)
  | l :: t, r, k, x, h => by
    simp only [ivC, Bool.and_eq_true, beq_iff_eq] at h
    intro i hi
    cases i with
    | zero => simpa using h.1
    | succ i =>
      have := ivC_get t (2 * r) k x h.2 i (by simpa using hi)
      rw [show r * 2 ^ (i + 1) = 2 * r * 2 ^ i by rw [Int.pow_succ, Int.mul_comm (2 ^ i) 2, ← Int.mul_assoc, Int.mul_comm r 2]]
      simpa using this
theorem ivC_chk : chk (fun x => (List.range 12).all fun j => !oddB ((j + 1 : Nat) : Int) x || ivC 3 ((j + 1 : Nat) : Int) x (ivS ((j + 1 : Nat) : Int) x)) 12 0 = true := by decide +kernel
theorem ivC_ok (k x : Int) (h : oddB k x = true) : ivC 3 k x (ivS k x) = true := by
  obtain ⟨h1, h2, h3, h4, h5, h6⟩ := vld_4096 (oddB_true h).1
  obtain ⟨n, rfl⟩ := Int.eq_ofNat_of_zero_le h3
  obtain ⟨j, hj, rfl⟩ := width_nat h1 h2
  have hc := chk_sound _ 12 0 ivC_chk n (by omega) (by omega)
  have := List.all_eq_true.1 hc j (List.mem_range.2 hj)
  rw [h] at this
  simpa using this
theorem ivF_vld : ∀ (f : Nat) (k x l : Int), 1 ≤ k → k ≤ 12 → 0 ≤ l → l < pw k → ∀ y ∈ ivF f k x l, 0 ≤ y ∧ y < pw k
  | 0, _, _, _, _, _, h3, h4 => by intro y hy; simp [ivF] at hy; subst hy; exact ⟨h3, h4⟩
  | f + 1, k, x, l, h1, h2, h3, h4 => by
    intro y hy
    obtain ⟨a, b⟩ := ivN_bd k x l h1 h2
    simp only [ivF] at hy
    split at hy
    · simp at hy; subst hy; exact ⟨h3, h4⟩
    · rcases List.mem_cons.1 hy with rfl | hy
      · exact ⟨h3, h4⟩
      · exact ivF_vld f k x _ h1 h2 a b y hy
theorem ivS_vld (k x : Int) (h : oddB k x = true) (i : Nat) (hi : i < (ivS k x).length) : vld k (ivS k x)[i] = true := by
  obtain ⟨h1, h2, h3, h4, h5, h6⟩ := vld_4096 (oddB_true h).1
  obtain ⟨a, b⟩ := ivF_vld 2 k x x h1 h2 h3 h4 _ (List.getElem_mem hi)
  exact vld_mk h1 h2 a b

/-- of two digits side by side one is 0 -/
def adjB : List Int → Bool
  | d :: e :: t => (d == 0 || e == 0) && adjB (e :: t)
  | _ => true
theorem adjB_get : ∀ (L : List Int), adjB L = true → ∀ i (hi : i + 1 < L.length), L[i] = 0 ∨ L[i + 1] = 0
  | [], _ => fun i hi => absurd hi (by simp)
  | [_], _ => fun i hi => absurd hi (by simp)
  | d :: e :: t, h => by
    simp only [adjB, Bool.and_eq_true, Bool.or_eq_true, beq_iff_eq] at h
    intro i hi
    cases i with
    | zero => simpa using h.1
    | succ i =>
      have := adjB_get (e :: t) h.2 i (by simpa using hi)
      simpa using this
theorem adj_chk : chk (fun n => adjB (nafL n)) 12 0 = true := by decide +kernel
theorem naf_adj (n : Int) (h0 : 0 ≤ n) (h : n ≤ 4095) (i : Nat) (hi : i + 1 < (nafL n).length) : (nafL n)[i] = 0 ∨ (nafL n)[i + 1] = 0 := by
  obtain ⟨m, rfl⟩ := Int.eq_ofNat_of_zero_le h0
  exact adjB_get _ (chk_sound _ 12 0 adj_chk m (by omega) (by omega)) i hi
theorem naf7_chk : chk (fun n => decide ((nafL n).length ≤ 7)) 6 0 = true := by decide +kernel
theorem naf7 (n : Int) (h0 : 0 ≤ n) (h : n < 64) : (nafL n).length ≤ 7 := by
  obtain ⟨m, rfl⟩ := Int.eq_ofNat_of_zero_le h0
  exact of_decide_eq_true (chk_sound _ 6 0 naf7_chk m (by omega) (by omega))

def absZ (v : Int) : Int := if v < 0 then -v else v
theorem nm_chk : ((List.range 129).all fun m => decide (nmZ (2 * (m : Int) + 1) ≤ nmZ m + 1) && decide (nmZ (absZ (2 * (m : Int) - 1)) ≤ nmZ m + 1)) = true := by decide +kernel
theorem nm_step (v d : Int) (hd : d = -1 ∨ d = 0 ∨ d = 1) (h1 : -128 ≤ v) (h2 : v ≤ 128) : nmZ (absZ (d + 2 * v)) ≤ (if d = 0 then 0 else 1) + nmZ (absZ v) := by
  obtain ⟨m, hm⟩ : ∃ m : Nat, absZ v = m := ⟨(absZ v).toNat, by unfold absZ; split <;> omega⟩
  have hm2 : m ≤ 128 := by unfold absZ at hm; split at hm <;> omega
  have hc := List.all_eq_true.1 nm_chk m (List.mem_range.2 (by omega))
  simp only [Bool.and_eq_true, decide_eq_true_eq] at hc
  obtain ⟨c1, c2⟩ := hc
  rw [hm]
  rcases hd with rfl | rfl | rfl
  · rw [if_neg (by decide)]
    by_cases hv : v < 0
    · have : absZ (-1 + 2 * v) = 2 * (m : Int) + 1 := by unfold absZ at hm ⊢; rw [if_pos hv] at hm; rw [if_pos (by omega)]; omega
      rw [this]; omega
    · have : v = m := by unfold absZ at hm; rw [if_neg hv] at hm; exact hm
      subst this
      rw [show -1 + 2 * (m : Int) = 2 * (m : Int) - 1 by omega]; omega
  · rw [if_pos rfl]
    have : absZ (0 + 2 * v) = 2 * (m : Int) := by
      unfold absZ at hm ⊢
      split at hm
      · rw [if_pos (by omega)]; omega
      · rw [if_neg (by omega)]; omega
    rw [this, nmZ_double _ (by omega)]; omega
  · rw [if_neg (by decide)]
    by_cases hv : v < 0
    · have : absZ (1 + 2 * v) = absZ (2 * (m : Int) - 1) := by
        unfold absZ at hm; rw [if_pos hv] at hm
        unfold absZ
        rw [if_pos (by omega), if_neg (by omega)]; omega
      rw [this]; omega
    · have : absZ (1 + 2 * v) = 2 * (m : Int) + 1 := by
        unfold absZ at hm ⊢; rw [if_neg hv] at hm; rw [if_neg (by omega)]; omega
      rw [this]; omega
theorem nm_min : ∀ (l : List Int), Digs l → l.length ≤ 7 → nmZ (absZ (dvN l)) ≤ nzN l
  | [], _, _ => by decide
  | d :: t, h, hl => by
    have ht : Digs t := fun x hx => h x (List.mem_cons_of_mem _ hx)
    have hlt : t.length ≤ 6 := by simp at hl; omega
    have ih := nm_min t ht (by omega)
    have hb := dvN_bd t ht
    have hp := pw_le t.length 6 (by omega)
    rw [show pw 6 = 64 by decide] at hp
    have := nm_step (dvN t) d (h d List.mem_cons_self) (by omega) (by omega)
    simp only [dvN, nzN]
    omega
/-- the digits by which the law tries all numbers -/
def tS (c : Int) : Nat → List Int
  | 0 => []
  | j + 1 => tS c j ++ [c / 3 ^ j % 3 - 1]
theorem tS_len (c : Int) : ∀ j, (tS c j).length = j
  | 0 => rfl
  | j + 1 => by simp [tS, tS_len c j]
theorem tS_digs (c : Int) : ∀ j, Digs (tS c j)
  | 0 => by intro d h; simp [tS] at h
  | j + 1 => by
    intro d h
    simp only [tS, List.mem_append, List.mem_singleton] at h
    rcases h with h | rfl
    · exact tS_digs c j d h
    · omega
theorem tS_val (c : Int) (j : Nat) : dvN (tS c (j + 1)) = dvN (tS c j) + (c / 3 ^ j % 3 - 1) * pw j := by
  simp only [tS]; rw [dvN_snoc, tS_len]
theorem tS_used (c : Int) (j : Nat) : nzN (tS c (j + 1)) = nzN (tS c j) + (if c / 3 ^ j % 3 = 1 then 0 else 1) := by
  simp only [tS]; rw [nzN_snoc]
  congr 1
  by_cases h : c / 3 ^ j % 3 = 1
  · rw [if_pos h, if_pos (by omega)]
  · rw [if_neg h, if_neg (by omega)]
theorem tS_rest (c : Int) (j : Nat) : c / 3 ^ (j + 1) = c / 3 ^ j / 3 := by
  rw [Int.pow_succ]
  exact (Int.ediv_ediv_of_nonneg (Int.le_of_lt (Int.pow_pos (by decide)))).symm
theorem tS_bd (c : Int) (j : Nat) (hj : j ≤ 7) : -128 < dvN (tS c j) ∧ dvN (tS c j) < 128 ∧ 0 ≤ nzN (tS c j) ∧ nzN (tS c j) ≤ 7 := by
  have hb := dvN_bd _ (tS_digs c j)
  have hn := nzN_bd (tS c j)
  rw [tS_len] at hb hn
  have hp := pw_le j 7 (by omega)
  rw [show pw 7 = 128 by decide] at hp
  omega
theorem tS_min (n c : Int) (j : Nat) (hj : j ≤ 7) (h0 : 0 ≤ n) (h : dvN (tS c j) = n) : nmZ n ≤ nzN (tS c j) := by
  have := nm_min (tS c j) (tS_digs c j) (by rw [tS_len]; exact hj)
  rw [h, show absZ n = n by unfold absZ; rw [if_neg (by omega)]] at this
  exact this
theorem drop_val {L : List Int} {i : Nat} (h : i < L.length) : dvN (L.drop i) = L[i] + 2 * dvN (L.drop (i + 1)) := by rw [List.drop_eq_getElem_cons h]; rfl
theorem drop_used {L : List Int} {i : Nat} (h : i < L.length) : nzN (L.drop i) = (if L[i] = 0 then 0 else 1) + nzN (L.drop (i + 1)) := by rw [List.drop_eq_getElem_cons h]; rfl
theorem drop_bd {L : List Int} (hd : Digs L) (hl : L.length ≤ 13) (i : Nat) : -8192 < dvN (L.drop i) ∧ dvN (L.drop i) < 8192 ∧ 0 ≤ nzN (L.drop i) ∧ nzN (L.drop i) ≤ 13 := by
  have hb := dvN_bd (L.drop i) (fun d h => hd d (List.mem_of_mem_drop h))
  have hn := nzN_bd (L.drop i)
  rw [List.length_drop] at hb hn
  have hp := pw_le (L.length - i : Nat) 13 (by omega)
  rw [show pw 13 = 8192 by decide] at hp
  omega
end Go.Proofs.Ytdjggccplaifbaa
