/- Plain arithmetic of division by one product (chapter 4): MagicOk, MagicSure, MagicOf. Conditions: the bounds that are written at each. -/
import Derived.Test.YtdjggccplaifbaaMath
namespace Go.Proofs.Ytdjggccplaifbaa

/-- the arguments of MagicOk -/
def magB (k d m s : Int) : Bool := decide (1 ≤ k ∧ k ≤ 12 ∧ 1 ≤ d ∧ d ≤ 4095 ∧ 0 ≤ m ∧ m ≤ 67108863 ∧ 0 ≤ s ∧ s ≤ 24)
theorem magB_true {k d m s : Int} : magB k d m s = true ↔ 1 ≤ k ∧ k ≤ 12 ∧ 1 ≤ d ∧ d ≤ 4095 ∧ 0 ≤ m ∧ m ≤ 67108863 ∧ 0 ≤ s ∧ s ≤ 24 := by simp [magB]
theorem magB_and (k d m s : Int) : magB k d m s = (inB k 1 12 && inB d 1 4095 && inB m 0 67108863 && inB s 0 24) := by
  unfold magB inB
  rw [Bool.eq_iff_iff]
  simp only [Bool.and_eq_true, decide_eq_true_eq]
  omega
/-- the words below n are divided right -/
def mokTo (d m s : Int) (n : Nat) : Prop := ∀ x : Nat, x < n → (x : Int) * m / pw s = (x : Int) / d
/-- all words of the width are divided right -/
def mokP (k d m s : Int) : Prop := mokTo d m s (2 ^ k.toNat)
open Classical in
noncomputable def mokB (k d m s : Int) : Bool := magB k d m s && decide (mokP k d m s)
theorem mokB_bad {k d m s : Int} (h : magB k d m s = false) : mokB k d m s = false := by unfold mokB; rw [h]; rfl
theorem mokB_true {k d m s : Int} : mokB k d m s = true ↔ magB k d m s = true ∧ mokP k d m s := by
  unfold mokB; rw [Bool.and_eq_true]; simp
theorem mokB_yes {k d m s : Int} (h : magB k d m s = true) (g : mokP k d m s) : mokB k d m s = true := mokB_true.2 ⟨h, g⟩
theorem mokB_no {k d m s : Int} (g : ¬ mokP k d m s) : mokB k d m s = false := by
  rw [← Bool.not_eq_true]; intro h; exact g (mokB_true.1 h).2
theorem mokTo_succ {d m s : Int} {n : Nat} (h : mokTo d m s n) (g : (n : Int) * m / pw s = (n : Int) / d) : mokTo d m s (n + 1) := by
  intro x hx
  by_cases e : x = n
  · subst e; exact g
  · exact h x (by omega)
theorem mokP_not {k d m s : Int} {n : Nat} (hn : (n : Int) < pw k) (g : ¬ ((n : Int) * m / pw s = (n : Int) / d)) : ¬ mokP k d m s :=
  fun h => g (h n (by rw [pw_cast] at hn; omega))
theorem mokP_of {k d m s : Int} {n : Nat} (hn : ¬ ((n : Int) < pw k)) (h : mokTo d m s n) : mokP k d m s :=
  fun x hx => h x (by rw [pw_cast] at hn; omega)

/-- what is sure -/
def msuB (k d m s : Int) : Bool := magB k d m s && decide (k ≤ s) && inB (m * d - pw s) 0 (pw (s - k))

theorem msuB_and (k d m s : Int) : msuB k d m s = (inB k 1 12 && inB d 1 4095 && inB m 0 67108863 && inB s k 24 && inB (m * d - pw s) 0 (pw (s - k))) := by
  unfold msuB
  congr 1
  rw [magB_and, Bool.eq_iff_iff]
  simp only [inB, Bool.and_eq_true, decide_eq_true_eq]
  omega
theorem sure_div (q r m d P e : Int) (x : Int) (hd : 1 ≤ d) (hx : x = d * q + r) (hr0 : 0 ≤ r) (hr : r < d) (hP : 1 ≤ P) (he : m * d = P + e) (_ : 0 ≤ e) (hxe : 0 ≤ x * e) (hxe2 : x * e < P) :
    x * m / P = q := by
  -- x * m * d = x * P + x * e = (d * q + r) * P + x * e
  have h1 : x * m * d = d * q * P + r * P + x * e := by
    rw [Int.mul_assoc, he, Int.mul_add, hx, Int.add_mul]
  have h2 : r * P ≤ (d - 1) * P := Int.mul_le_mul_of_nonneg_right (by omega) (by omega)
  have h3 : 0 ≤ r * P := Int.mul_nonneg hr0 (by omega)
  have h4 : (d - 1) * P = d * P - P := by rw [Int.sub_mul, Int.one_mul]
  -- q * P * d ≤ x * m * d < (q + 1) * P * d
  have l1 : (q * P) * d ≤ (x * m) * d := by
    have : q * P * d = d * q * P := by rw [Int.mul_comm, Int.mul_assoc]
    omega
  have l2 : (x * m) * d < ((q + 1) * P) * d := by
    have e1 : ((q + 1) * P) * d = d * q * P + d * P := by
      rw [Int.add_mul, Int.one_mul, Int.add_mul, Int.mul_comm (q * P) d, Int.mul_assoc d q P, Int.mul_comm P d]
    omega
  have a1 : q * P ≤ x * m := Int.le_of_mul_le_mul_right l1 (by omega)
  have a2 : x * m < (q + 1) * P := Int.lt_of_mul_lt_mul_right l2 (by omega)
  have b1 : q ≤ x * m / P := Int.le_ediv_of_mul_le (by omega) a1
  have b2 : x * m / P < q + 1 := Int.ediv_lt_of_lt_mul (by omega) a2
  omega

theorem sure_ok (k d m s : Int) (h : msuB k d m s = true) : mokB k d m s = true := by
  simp only [msuB, Bool.and_eq_true, decide_eq_true_eq] at h
  obtain ⟨⟨h0, h1⟩, h2⟩ := h
  obtain ⟨c1, c2, c3, c4, c5, c6, c7, c8⟩ := magB_true.1 h0
  obtain ⟨g1, g2⟩ := inB_true.1 h2
  refine mokB_yes h0 (fun x hx => ?_)
  have hP := pw_pos s
  have hQ := pw_pos (s - k)
  have hs : pw s = pw (s - k) * pw k := by rw [← pw_add _ _ (by omega) (by omega), Int.sub_add_cancel]
  have hxk : (x : Int) < pw k := by rw [pw_cast]; omega
  have m1 := Int.emod_add_mul_ediv (x : Int) d
  have e0 := Int.emod_nonneg (x : Int) (show d ≠ 0 by omega)
  have e1 := Int.emod_lt_of_pos (x : Int) (show 0 < d by omega)
  have f0 : 0 ≤ (x : Int) * (m * d - pw s) := Int.mul_nonneg (by omega) g1
  have f1 : (x : Int) * (m * d - pw s) ≤ x * pw (s - k) := Int.mul_le_mul_of_nonneg_left g2 (by omega)
  have f2 : (x : Int) * pw (s - k) ≤ (pw k - 1) * pw (s - k) := Int.mul_le_mul_of_nonneg_right (by omega) (by omega)
  have f3 : (pw k - 1) * pw (s - k) = pw s - pw (s - k) := by rw [Int.sub_mul, Int.one_mul, hs, Int.mul_comm]
  exact sure_div ((x : Int) / d) ((x : Int) % d) m d (pw s) (m * d - pw s) x (by omega) (by omega) e0 e1 hP (by omega) g1 f0 (by omega)

/-- the number for so many places: 2 to their power, divided by the constant, rounded up -/
def magM (d s : Int) : Int := (pw s + d - 1) / d
theorem magM_bd (d s : Int) (hd : 1 ≤ d) (hs : s ≤ 24) (_ : 0 ≤ s) : 0 ≤ magM d s ∧ magM d s ≤ 16777216 := by
  have hp := pw_pos s
  have hp' := (pw_le24 s hs).2
  unfold magM
  refine ⟨Int.ediv_nonneg (by omega) (by omega), ?_⟩
  have : (pw s + d - 1) / d < pw s + 1 := by
    refine Int.ediv_lt_of_lt_mul (by omega) ?_
    have : (pw s + 1) * d = pw s * d + d := by rw [Int.add_mul, Int.one_mul]
    have : pw s * 1 ≤ pw s * d := Int.mul_le_mul_of_nonneg_left hd (by omega)
    omega
  omega
theorem magM_mul (d s : Int) (hd : 1 ≤ d) : 0 ≤ magM d s * d - pw s ∧ magM d s * d - pw s ≤ d - 1 := by
  unfold magM
  have h1 := Int.emod_add_mul_ediv (pw s + d - 1) d
  have h2 := Int.emod_nonneg (pw s + d - 1) (show d ≠ 0 by omega)
  have h3 := Int.emod_lt_of_pos (pw s + d - 1) (show 0 < d by omega)
  rw [Int.mul_comm] at h1
  omega
/-- twice as many places as the width are enough -/
theorem magM_twice (k d : Int) (h1 : 1 ≤ k) (h2 : k ≤ 12) (hd : 1 ≤ d) (hd' : d < pw k) : mokB k d (magM d (2 * k)) (2 * k) = true := by
  apply sure_ok
  have hk := pw_le12 k h2
  obtain ⟨a, b⟩ := magM_bd d (2 * k) hd (by omega) (by omega)
  obtain ⟨e, f⟩ := magM_mul d (2 * k) hd
  simp only [msuB, Bool.and_eq_true, decide_eq_true_eq]
  refine ⟨⟨magB_true.2 ⟨h1, h2, hd, by omega, a, by omega, by omega, by omega⟩, by omega⟩, inB_mk e ?_⟩
  rw [show 2 * k - k = k by omega]; omega
/-- there is a first one, from the width on -/
theorem first_from (P : Nat → Prop) (a : Nat) : ∀ n, P (a + n) → ∃ j, a ≤ j ∧ j ≤ a + n ∧ P j ∧ ∀ i, a ≤ i → i < j → ¬ P i
  | 0, h => ⟨a, by omega, by omega, h, fun i _ _ => by omega⟩
  | n + 1, h => by
    by_cases hc : ∃ j, a ≤ j ∧ j ≤ a + n ∧ P j
    · obtain ⟨j, h1, h2, h3⟩ := hc
      obtain ⟨i, g1, g2, g3, g4⟩ := first_from P a (j - a) (by rw [show a + (j - a) = j by omega]; exact h3)
      exact ⟨i, g1, by omega, g3, g4⟩
    · exact ⟨a + (n + 1), by omega, by omega, h, fun i h1 h2 h3 => hc ⟨i, h1, by omega, h3⟩⟩
/-- the places of MagicOf -/
def mofIs (k d : Int) (j : Nat) : Prop := k ≤ j ∧ (j : Int) ≤ 2 * k ∧ mokB k d (magM d j) j = true ∧ ∀ i : Nat, k ≤ i → i < j → mokB k d (magM d i) i = false
theorem mof_ex (k d : Int) (h1 : 1 ≤ k) (h2 : k ≤ 12) (hd : 1 ≤ d) (hd' : d < pw k) : ∃ j, mofIs k d j := by
  obtain ⟨n, rfl⟩ := Int.eq_ofNat_of_zero_le (show 0 ≤ k by omega)
  have h := magM_twice n d h1 h2 hd hd'
  have e : 2 * (n : Int) = ((n + n : Nat) : Int) := by omega
  rw [e] at h
  obtain ⟨j, g1, g2, g3, g4⟩ := first_from (fun j => mokB n d (magM d j) j = true) n n h
  exact ⟨j, by omega, by omega, g3, fun i hi hj => by simpa using g4 i (by omega) hj⟩
end Go.Proofs.Ytdjggccplaifbaa
