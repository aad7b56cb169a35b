/- Plain arithmetic of digits with signs, base 4, and of rests bit by bit (chapter 3). Conditions: the bounds that are written at each. -/
import Derived.Test.YthbpcgefcnpfmaaMathT
namespace Go.Proofs.Ythbpcgefcnpfmaa
theorem dsF_get (a b : Int) : ∀ (n i : Nat) (h : i < (dsF a b n).length), (dsF a b n)[i] = a / pw ((n : Int) - 1 - i) % b
  | 0, i, h => absurd h (by simp [dsF])
  | n + 1, 0, _ => by
    simp only [dsF, List.getElem_cons_zero]
    rw [show ((n + 1 : Nat) : Int) - 1 - ((0 : Nat) : Int) = (n : Int) by omega]
  | n + 1, i + 1, h => by
    have := dsF_get a b n i (by simpa [dsF] using h)
    simp only [dsF, List.getElem_cons_succ]
    rw [this, show ((n + 1 : Nat) : Int) - 1 - ((i + 1 : Nat) : Int) = (n : Int) - 1 - i by omega]
/-- the number that digits are, base 4 -/
def dv4 : List Int → Int
  | [] => 0
  | d :: l => d + 4 * dv4 l
theorem pw_two (l : Nat) : pw ((2 * (l + 1) : Nat) : Int) = 4 * pw ((2 * l : Nat) : Int) := by
  rw [show ((2 * (l + 1) : Nat) : Int) = ((2 * l : Nat) : Int) + 1 + 1 by omega, pw_succ _ (by omega), pw_succ _ (by omega)]; omega
theorem dv4_snoc (d : Int) : ∀ l : List Int, dv4 (l ++ [d]) = dv4 l + d * pw ((2 * l.length : Nat) : Int)
  | [] => by simp [dv4, pw]
  | x :: l => by
    simp only [List.cons_append, dv4, dv4_snoc d l, List.length_cons]
    rw [pw_two]
    rw [Int.mul_add, ← Int.mul_assoc d 4, ← Int.mul_assoc 4 d, Int.mul_comm 4 d, Int.add_assoc]
theorem dv4_btL (n : Int) : ∀ m : Nat, dv4 (btL n m) = btS n m
  | 0 => rfl
  | m + 1 => by rw [btL_succ, dv4_snoc, dv4_btL n m, btL_len]; rfl
theorem dv4_bd : ∀ l : List Int, (∀ d ∈ l, -2 ≤ d ∧ d ≤ 2) → -pw ((2 * l.length : Nat) : Int) < dv4 l ∧ dv4 l < pw ((2 * l.length : Nat) : Int)
  | [], _ => by simp [dv4, pw]
  | d :: l, h => by
    have h1 := dv4_bd l (fun x hx => h x (List.mem_cons_of_mem _ hx))
    have h2 := h d List.mem_cons_self
    simp only [dv4, List.length_cons]
    rw [pw_two]
    omega
theorem btL_digs (n : Int) (m : Nat) : ∀ d ∈ btL n m, -2 ≤ d ∧ d ≤ 2 := by
  intro d h
  simp only [btL, List.mem_map] at h
  obtain ⟨i, _, rfl⟩ := h
  exact btD_bd n i
theorem pw_14 : pw 14 = 16384 := by decide
theorem drop4_bd {L : List Int} (hd : ∀ d ∈ L, -2 ≤ d ∧ d ≤ 2) (hl : L.length ≤ 7) (i : Nat) : -16384 < dv4 (L.drop i) ∧ dv4 (L.drop i) < 16384 := by
  have hb := dv4_bd (L.drop i) (fun d h => hd d (List.mem_of_mem_drop h))
  rw [List.length_drop] at hb
  have hp := pw_le ((2 * (L.length - i) : Nat) : Int) 14 (by omega)
  rw [pw_14] at hp
  omega
theorem take4_bd {L : List Int} (hd : ∀ d ∈ L, -2 ≤ d ∧ d ≤ 2) (hl : L.length ≤ 7) (i : Nat) : -16384 < dv4 (L.take i) ∧ dv4 (L.take i) < 16384 := by
  have hb := dv4_bd (L.take i) (fun d h => hd d (List.mem_of_mem_take h))
  have hq : (L.take i).length ≤ 7 := by rw [List.length_take]; omega
  have hp := pw_le ((2 * (L.take i).length : Nat) : Int) 14 (by omega)
  rw [pw_14] at hp
  omega
theorem drop4_val {L : List Int} {i : Nat} (h : i < L.length) : dv4 (L.drop i) = L[i] + 4 * dv4 (L.drop (i + 1)) := by rw [List.drop_eq_getElem_cons h]; rfl
theorem take4_val (a : Int) (L : List Int) (i : Nat) (h : i < L.length) : a * dv4 (L.take (i + 1)) = a * dv4 (L.take i) + L[i] * a * pw (2 * (i : Int)) := by
  rw [List.take_succ_eq_append_getElem h, dv4_snoc, Int.mul_add, List.length_take, Nat.min_eq_left (by omega), ← Int.mul_assoc, Int.mul_comm a L[i]]
  rfl
theorem mul4_bd {a v X : Int} (h0 : 0 ≤ a) (ha : a ≤ 4096) (h1 : -X ≤ v) (h2 : v ≤ X) : -(4096 * X) ≤ a * v ∧ a * v ≤ 4096 * X := by
  rcases Int.lt_or_le v 0 with hv | hv
  · have h3 : a * (-v) ≤ 4096 * X := Int.mul_le_mul ha (by omega) (by omega) (by omega)
    have h4 : 0 ≤ a * (-v) := Int.mul_nonneg h0 (by omega)
    rw [Int.mul_neg] at h3 h4
    omega
  · have h3 : a * v ≤ 4096 * X := Int.mul_le_mul ha (by omega) (by omega) (by omega)
    have h4 : 0 ≤ a * v := Int.mul_nonneg h0 (by omega)
    omega
/-- the product, by a word with its sign -/
theorem bt_times (k a b : Int) (h : vld k b = true) (L : List Int) (hL : L = btL (sgZ k b) ((k + 1) / 2).toNat) : a * dv4 L % pw k = a * b % pw k := by
  rw [hL, dv4_btL, btS_word k b h]
  unfold sgZ
  rw [Int.mul_sub, ← Int.mul_assoc]
  exact Int.sub_mul_emod_self_right _ _ _
theorem dig4_bd {d a : Int} (h1 : -2 ≤ d) (h2 : d ≤ 2) (h0 : 0 ≤ a) (ha : a ≤ 4096) (i : Nat) (hi : i ≤ 7) :
    -8192 ≤ d * a ∧ d * a ≤ 8192 ∧ -134217728 ≤ d * a * pw (2 * (i : Int)) ∧ d * a * pw (2 * (i : Int)) ≤ 134217728 := by
  have hp := pw_le (2 * (i : Int)) 14 (by omega)
  rw [pw_14] at hp
  have hp1 := pw_pos (2 * (i : Int))
  have m1 : -8192 ≤ d * a ∧ d * a ≤ 8192 := by
    rcases (show d = -2 ∨ d = -1 ∨ d = 0 ∨ d = 1 ∨ d = 2 by omega) with rfl | rfl | rfl | rfl | rfl <;> omega
  obtain ⟨x, hx⟩ : ∃ x, d * a = x := ⟨_, rfl⟩
  obtain ⟨p, hpp⟩ : ∃ p, pw (2 * (i : Int)) = p := ⟨_, rfl⟩
  rw [hx] at m1 ⊢
  rw [hpp] at hp hp1 ⊢
  refine ⟨m1.1, m1.2, ?_⟩
  rcases Int.lt_or_le x 0 with hv | hv
  · have h3 : (-x) * p ≤ 8192 * 16384 := Int.mul_le_mul (by omega) hp (by omega) (by omega)
    have h4 : 0 ≤ (-x) * p := Int.mul_nonneg (by omega) (by omega)
    rw [Int.neg_mul] at h3 h4
    omega
  · have h3 : x * p ≤ 8192 * 16384 := Int.mul_le_mul (by omega) hp (by omega) (by omega)
    have h4 : 0 ≤ x * p := Int.mul_nonneg hv (by omega)
    omega
end Go.Proofs.Ythbpcgefcnpfmaa
