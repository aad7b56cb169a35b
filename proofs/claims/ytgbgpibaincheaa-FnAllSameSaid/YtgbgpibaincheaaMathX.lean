/- Plain arithmetic of the next word with as many ones, of all words with so many ones, of counting by halves, and of filled words (chapter 5), by finite checks. Conditions: the bounds that are written at each. -/
import Derived.Test.YtgbgpibaincheaaMathZ
namespace Go.Proofs.Ytgbgpibaincheaa
/-- counting, quick -/
def pfA (n : Nat) : Nat := n - Nat.land (n / 2) 1365
def pfB (a : Nat) : Nat := Nat.land a 819 + Nat.land (a / 4) 819
def pfC (b : Nat) : Nat := Nat.land b 15 + Nat.land (b / 16) 15 + b / 256
def popF (n : Nat) : Nat := pfC (pfB (pfA n))
theorem popF_chk : chk (fun x => popZ x == (popF x : Int)) 12 0 = true := by decide +kernel
theorem popF_is (n : Nat) (h : n < 4096) : popZ n = (popF n : Int) := by
  have := chk_sound _ 12 0 popF_chk n (by omega) (by omega)
  simpa using this
/-- none of the f numbers below y has so many -/
noncomputable def noneF (c y : Nat) (f : Nat) : Bool := Nat.rec (motive := fun _ => Bool) true (fun f ih => (Nat.beq (popF (y - (f + 1))) c == false) && ih) f
theorem noneF_sound (c y : Nat) : ∀ f, noneF c y f = true → ∀ n, n < y → y ≤ n + f → popF n ≠ c
  | 0, _ => fun n h1 h2 => by omega
  | f + 1, h => by
    intro n h1 h2
    have h' : ((Nat.beq (popF (y - (f + 1))) c == false) && noneF c y f) = true := h
    simp only [Bool.and_eq_true, beq_iff_eq] at h'
    by_cases e : y ≤ n + f
    · exact noneF_sound c y f h'.2 n h1 e
    · have : y - (f + 1) = n := by omega
      rw [this] at h'
      intro g
      have := h'.1
      rw [g, Nat.beq_refl] at this
      cases this
/-- a number, reckoned first -/
noncomputable def force (n : Nat) (k : Nat → Bool) : Bool := Nat.rec (motive := fun _ => Bool) (k 0) (fun m _ => k (m + 1)) n
theorem force_eq (n : Nat) (k : Nat → Bool) : force n k = k n := by cases n <;> rfl
/-- the next one -/
def nsU (k x : Int) : Int := x + loZ k x
def nsZ (k x : Int) : Int := nsU k x + xorZ x (nsU k x) / loZ k x / 4
def osM (j : Nat) : Int := if j = 0 then 5592405 else if j = 1 then 3355443 else if j = 2 then 986895 else 16711935
def osN (j : Nat) (x : Int) : Int := andZ x (osM j) + andZ (x / pw (2 ^ j : Nat)) (osM j)
def osK (k : Int) : Nat := if k ≤ 1 then 0 else if k ≤ 2 then 1 else if k ≤ 4 then 2 else if k ≤ 8 then 3 else 4
def osG : Nat → Nat → Int → Int
  | 0, _, x => x
  | f + 1, j, x => osG f (j + 1) (osN j x)
theorem all_chk : allW (fun k x => (loZ k x == loZ 12 x && (x == 0 || decide (1 ≤ loZ k x))) && ((x != 0 && decide (nsZ 12 x < pw k)) || (x == pw k - pw (k - popZ x))) && (decide (popZ x ≤ k) && (popZ x == 0) == (x == 0)) && (osG (osK k) 0 x == popZ x) &&
    (decide (x ≤ fbZ x) && (if x = 0 then fbZ x == 0 else decide (fbZ x < 2 * x)) && (andZ (fbZ x) ((fbZ x + 1) % pw k) == 0) && (fbZ (fbZ x) == fbZ x) && (popZ (fbZ x) == lenZ x) && vld k (fbZ x))) = true := by decide +kernel
theorem all_is (k x : Int) (h : vld k x = true) : (loZ k x = loZ 12 x ∧ (x = 0 ∨ 1 ≤ loZ k x)) ∧ ((x != 0 && decide (nsZ 12 x < pw k)) = true ∨ x = pw k - pw (k - popZ x)) ∧ (popZ x ≤ k ∧ (popZ x == 0) = (x == 0)) ∧ osG (osK k) 0 x = popZ x ∧
    (x ≤ fbZ x ∧ (if x = 0 then fbZ x == 0 else decide (fbZ x < 2 * x)) = true ∧ andZ (fbZ x) ((fbZ x + 1) % pw k) = 0 ∧ fbZ (fbZ x) = fbZ x ∧ popZ (fbZ x) = lenZ x ∧ vld k (fbZ x) = true) := by
  have hc := allW_sound all_chk k x h
  rw [Bool.and_eq_true, Bool.and_eq_true, Bool.and_eq_true, Bool.and_eq_true] at hc
  obtain ⟨⟨⟨⟨a, b⟩, c⟩, d⟩, e⟩ := hc
  refine ⟨?_, ?_, ?_, by simpa using d, ?_⟩
  · simp only [Bool.and_eq_true, Bool.or_eq_true, beq_iff_eq, decide_eq_true_eq] at a; exact a
  · rw [Bool.or_eq_true] at b
    exact b.imp id (fun g => by simpa using g)
  · simp only [Bool.and_eq_true, beq_iff_eq, decide_eq_true_eq] at c; exact c
  · rw [Bool.and_eq_true, Bool.and_eq_true, Bool.and_eq_true, Bool.and_eq_true, Bool.and_eq_true] at e
    obtain ⟨⟨⟨⟨⟨a, b⟩, c⟩, d⟩, e⟩, f⟩ := e
    exact ⟨by simpa using a, b, by simpa using c, by simpa using d, by simpa using e, f⟩
theorem lo_is (k x : Int) (h : vld k x = true) : loZ k x = loZ 12 x ∧ (x ≠ 0 → 1 ≤ loZ k x) := by
  obtain ⟨this, _⟩ := all_is k x h
  exact ⟨this.1, fun g => this.2.resolve_left g⟩
theorem nsZ_is (k x : Int) (h : vld k x = true) : nsU k x = nsU 12 x ∧ nsZ k x = nsZ 12 x := by
  have e := (lo_is k x h).1
  have e2 : nsU k x = nsU 12 x := by unfold nsU; rw [e]
  exact ⟨e2, by unfold nsZ; rw [e2, e]⟩
noncomputable def nsC (x : Nat) : Bool := Nat.beq x 0 || (decide ((x : Int) < nsZ 12 x) && force (popF x) (fun c => force (min (nsZ 12 x).toNat 4096) (fun y => (Nat.ble 4096 y || Nat.beq (popF y) c) && noneF c y (y - (x + 1)))) && ((List.range 12).all fun j => decide (nsU 12 x < pw ((j + 1 : Nat) : Int)) == decide (nsZ 12 x < pw ((j + 1 : Nat) : Int))))
theorem ns_chk : chk nsC 12 0 = true := by decide +kernel
theorem ns_is (k x : Int) (hv : vld k x = true) (hx : x ≠ 0) : x < nsZ k x ∧ (nsZ k x < pw k → popZ (nsZ k x) = popZ x) ∧ (∀ n : Int, x < n → n < nsZ k x → n < pw k → popZ n ≠ popZ x) ∧ (nsU k x < pw k ↔ nsZ k x < pw k) := by
  obtain ⟨h1, h2, h3, h4, h5, h6⟩ := vld_4096 hv
  obtain ⟨e1, e2⟩ := nsZ_is k x hv
  rw [e1, e2]
  obtain ⟨m, rfl⟩ := Int.eq_ofNat_of_zero_le h3
  have hc := chk_sound _ 12 0 ns_chk m (by omega) (by omega)
  unfold nsC at hc
  simp only [Bool.or_eq_true, Bool.and_eq_true, force_eq] at hc
  rcases hc with hc | ⟨⟨c1, c2, c3⟩, c4⟩
  · exact absurd (congrArg (Nat.cast (R := Int)) (Nat.eq_of_beq_eq_true hc)) hx
  have c1' := of_decide_eq_true c1
  refine ⟨c1', fun g => ?_, fun n g1 g2 g3 => ?_, ?_⟩
  · obtain ⟨y, hy⟩ := Int.eq_ofNat_of_zero_le (show 0 ≤ nsZ 12 (m : Int) by omega)
    rw [hy] at c2 g ⊢
    rw [show min (Int.toNat (y : Int)) 4096 = y by omega] at c2
    rcases c2 with c2 | c2
    · have := Nat.le_of_ble_eq_true c2; omega
    · rw [popF_is y (by omega), popF_is m (by omega), Nat.eq_of_beq_eq_true c2]
  · obtain ⟨i, rfl⟩ := Int.eq_ofNat_of_zero_le (show 0 ≤ n by omega)
    have := noneF_sound _ _ _ c3 i (by omega) (by omega)
    rw [popF_is i (by omega), popF_is m (by omega)]
    omega
  · obtain ⟨j, hj, rfl⟩ := width_nat5 h1 h2
    have := List.all_eq_true.1 c4 j (List.mem_range.2 hj)
    simp only [beq_iff_eq, decide_eq_decide] at this
    exact this
/-- what NextSame returns -/
def nsOk (k x : Int) : Bool := vld k x && (x != 0) && decide (nsZ k x < pw k)
def nsOut (k x : Int) : Int := if nsOk k x = true then nsZ k x else -1
theorem ns_none (k x : Int) (h : vld k x = true) (g : nsOk k x = false) : x = pw k - pw (k - popZ x) := by
  have hc := (all_is k x h).2.1
  have e := (nsZ_is k x h).2
  unfold nsOk at g
  rw [h, e, Bool.true_and] at g
  rcases hc with hc | hc
  · rw [g] at hc; cases hc
  · exact hc
theorem pop_le (k x : Int) (h : vld k x = true) : popZ x ≤ k ∧ (popZ x = 0 ↔ x = 0) := by
  have hc := (all_is k x h).2.2.1
  refine ⟨hc.1, ?_⟩
  have h2 := hc.2
  constructor
  · intro g; rw [g] at h2; simpa using h2.symm
  · intro g; subst g; simpa using h2

/-- the words below n with so many ones -/
def alN (c : Int) : Nat → List Int
  | 0 => []
  | n + 1 => if popZ (n : Int) = c then alN c n ++ [(n : Int)] else alN c n
theorem alN_len (c : Int) : ∀ n, (alN c n).length ≤ n
  | 0 => by simp [alN]
  | n + 1 => by have := alN_len c n; simp only [alN]; split <;> simp <;> omega
theorem alN_yes {c : Int} {n : Nat} (h : popZ (n : Int) = c) : alN c (n + 1) = alN c n ++ [(n : Int)] := by simp only [alN]; rw [if_pos h]
theorem alN_no {c : Int} {n : Nat} (h : ¬ popZ (n : Int) = c) : alN c (n + 1) = alN c n := by simp only [alN]; rw [if_neg h]
theorem alN_gap (c : Int) (a : Nat) : ∀ j, (∀ m : Nat, a ≤ m → m < a + j → ¬ popZ (m : Int) = c) → alN c (a + j) = alN c a
  | 0, _ => rfl
  | j + 1, h => by
    rw [← Nat.add_assoc, alN_no (h (a + j) (by omega) (by omega))]
    exact alN_gap c a j (fun m h1 h2 => h m h1 (by omega))
theorem alN_pre (c : Int) (a : Nat) : ∀ j, ∃ T, alN c (a + j) = alN c a ++ T
  | 0 => ⟨[], by simp⟩
  | j + 1 => by
    obtain ⟨T, hT⟩ := alN_pre c a j
    by_cases h : popZ ((a + j : Nat) : Int) = c
    · exact ⟨T ++ [((a + j : Nat) : Int)], by rw [← Nat.add_assoc, alN_yes h, hT, List.append_assoc]⟩
    · exact ⟨T, by rw [← Nat.add_assoc, alN_no h, hT]⟩
theorem alN_get (c : Int) (n m : Nat) (h : n < m) (hp : popZ (n : Int) = c) : ∃ hl : (alN c n).length < (alN c m).length, (alN c m)[(alN c n).length] = (n : Int) := by
  obtain ⟨T, hT⟩ := alN_pre c (n + 1) (m - (n + 1))
  rw [show n + 1 + (m - (n + 1)) = m by omega, alN_yes hp] at hT
  rw [hT]
  exact ⟨by simp, by simp⟩
theorem al_chk : ((List.range 13).all fun c => noneF c (2 ^ c - 1) (2 ^ c - 1) && Nat.beq (popF (2 ^ c - 1)) c) = true := by decide +kernel
theorem al_first (c : Nat) (h : c ≤ 12) : alN c (2 ^ c - 1) = [] ∧ popZ ((2 ^ c - 1 : Nat) : Int) = c := by
  have hc := List.all_eq_true.1 al_chk c (List.mem_range.2 (by omega))
  simp only [Bool.and_eq_true] at hc
  have hp : 2 ^ c ≤ 2 ^ 12 := Nat.pow_le_pow_right (by omega) h
  have hp0 := Nat.two_pow_pos c
  have hz : alN (c : Int) (0 + (2 ^ c - 1)) = alN c 0 := alN_gap c 0 _ (fun m _ h2 g => by
    rw [popF_is m (by omega)] at g
    exact noneF_sound _ _ _ hc.1 m (by omega) (by omega) (by omega))
  rw [Nat.zero_add] at hz
  refine ⟨hz, ?_⟩
  rw [popF_is _ (by omega), Nat.eq_of_beq_eq_true hc.2]

theorem al_next (k : Int) (n : Nat) (c : Int) (hv : vld k n = true) (hp : popZ (n : Int) = c) :
    (nsOk k n = true → n + 1 ≤ (nsZ k n).toNat ∧ 0 ≤ nsZ k n ∧ nsZ k n < pw k ∧ popZ (nsZ k n) = c ∧ alN c (nsZ k n).toNat = alN c (n + 1)) ∧ (nsOk k n = false → alN c (2 ^ k.toNat) = alN c (n + 1)) := by
  obtain ⟨h1, h2, h3, h4, h5, h6⟩ := vld_4096 hv
  have hk : pw k = ((2 ^ k.toNat : Nat) : Int) := pw_cast k
  by_cases h0 : (n : Int) = 0
  · refine ⟨fun g => ?_, fun _ => ?_⟩
    · unfold nsOk at g; rw [h0] at g; simp at g
    · have hn : n = 0 := by omega
      subst hn
      have := alN_gap c 1 (2 ^ k.toNat - 1) (fun m g1 g2 g => by
        have hm : vld k m = true := vld_mk h1 h2 (by omega) (by omega)
        have e0 : popZ ((0 : Nat) : Int) = 0 := (pop_le k _ hv).2.2 rfl
        have := (pop_le k m hm).2.1 (by rw [g, ← hp, e0])
        omega)
      rw [show 1 + (2 ^ k.toNat - 1) = 2 ^ k.toNat by omega] at this
      exact this
  · obtain ⟨n1, n2, n3, _⟩ := ns_is k n hv h0
    refine ⟨fun g => ?_, fun g => ?_⟩
    · have hy : nsZ k n < pw k := by unfold nsOk at g; simp only [Bool.and_eq_true, decide_eq_true_eq] at g; exact g.2
      refine ⟨by omega, by omega, hy, (n2 hy).trans hp, ?_⟩
      have := alN_gap c (n + 1) ((nsZ k n).toNat - (n + 1)) (fun m g1 g2 g => n3 m (by omega) (by omega) (by omega) (g.trans hp.symm))
      rwa [show n + 1 + ((nsZ k n).toNat - (n + 1)) = (nsZ k n).toNat by omega] at this
    · have hy : ¬ nsZ k n < pw k := by
        intro hy
        have : nsOk k n = true := by unfold nsOk; rw [hv, decide_eq_true hy]; simpa using h0
        rw [this] at g; cases g
      have := alN_gap c (n + 1) (2 ^ k.toNat - (n + 1)) (fun m g1 g2 g => n3 m (by omega) (by omega) (by omega) (g.trans hp.symm))
      rwa [show n + 1 + (2 ^ k.toNat - (n + 1)) = 2 ^ k.toNat by omega] at this

/-- counting by halves -/
def osT (j t : Nat) (x : Int) : Int := (x / pw (2 * 2 ^ j * t : Nat) % pw (2 ^ j : Nat) + x / pw (2 * 2 ^ j * t + 2 ^ j : Nat) % pw (2 ^ j : Nat)) * pw (2 * 2 ^ j * t : Nat)
def osI (j : Nat) (x : Int) : Nat → Int
  | 0 => 0
  | t + 1 => orZ (osI j x t) (osT j t x)
theorem os_chk : chk (fun x => (List.range 4).all fun j => (osI j x (8 / 2 ^ j) == osN j x) && decide (osN j x < 4096)) 12 0 = true := by decide +kernel
theorem osT_nonneg (j t : Nat) (x : Int) (_ : 0 ≤ x) : 0 ≤ osT j t x := by
  unfold osT
  have h1 := Int.emod_nonneg (x / pw (2 * 2 ^ j * t : Nat)) (show pw (2 ^ j : Nat) ≠ 0 by have := pw_pos (2 ^ j : Nat); omega)
  have h2 := Int.emod_nonneg (x / pw (2 * 2 ^ j * t + 2 ^ j : Nat)) (show pw (2 ^ j : Nat) ≠ 0 by have := pw_pos (2 ^ j : Nat); omega)
  have h3 := pw_pos (2 * 2 ^ j * t : Nat)
  exact Int.mul_nonneg (by omega) (by omega)
theorem emod_le' (a b : Int) (ha : 0 ≤ a) (hb : 0 ≤ b) : a % b ≤ a := by
  have h := Int.emod_add_mul_ediv a b
  have := Int.mul_nonneg hb (Int.ediv_nonneg ha hb)
  omega
theorem osT_lt (j t : Nat) (x : Int) (h0 : 0 ≤ x) : osT j t x ≤ 2 * x := by
  unfold osT
  obtain ⟨a, ha⟩ : ∃ a : Int, ((2 * 2 ^ j * t : Nat) : Int) = a := ⟨_, rfl⟩
  obtain ⟨H, hH⟩ : ∃ H : Int, ((2 ^ j : Nat) : Int) = H := ⟨_, rfl⟩
  have hH0 : 0 ≤ H := by rw [← hH]; exact Int.natCast_nonneg _
  have e2 : ((2 * 2 ^ j * t + 2 ^ j : Nat) : Int) = a + H := by rw [Int.natCast_add, ha, hH]
  rw [e2, ha, hH]
  clear hH ha e2
  have hp := pw_pos a
  have hq := pw_pos (a + H)
  have hH := pw_pos H
  have hle := pw_le a (a + H) (by omega)
  have d1 := Int.ediv_nonneg h0 (show 0 ≤ pw a by omega)
  have d2 := Int.ediv_nonneg h0 (show 0 ≤ pw (a + H) by omega)
  have m1 := emod_le' (x / pw a) (pw H) d1 (by omega)
  have m2 := emod_le' (x / pw (a + H)) (pw H) d2 (by omega)
  have m3 : x / pw (a + H) ≤ x / pw a := by
    refine Int.le_ediv_of_mul_le (by omega) ?_
    have q1 := Int.ediv_mul_le x (show pw (a + H) ≠ 0 by omega)
    have q2 := Int.mul_le_mul_of_nonneg_left hle d2
    omega
  have q3 := Int.ediv_mul_le x (show pw a ≠ 0 by omega)
  have q4 : (x / pw a % pw H + x / pw (a + H) % pw H) * pw a ≤ (2 * (x / pw a)) * pw a := Int.mul_le_mul_of_nonneg_right (by omega) (by omega)
  rw [Int.mul_assoc] at q4
  omega
theorem osI_bd (j : Nat) (x : Int) (h0 : 0 ≤ x) (h : x < 4096) : ∀ t, 0 ≤ osI j x t ∧ osI j x t < pw 13
  | 0 => ⟨Int.le_refl _, by have := pw_pos 13; simp only [osI]; omega⟩
  | t + 1 => by
    obtain ⟨a, b⟩ := osI_bd j x h0 h t
    have c := osT_nonneg j t x h0
    have d := osT_lt j t x h0
    have e : pw 13 = 8192 := by decide
    exact ⟨orZ_nonneg _ _, orZ_lt _ _ _ a b c (by omega)⟩
theorem os_is (x : Int) (h0 : 0 ≤ x) (h : x < 4096) (j : Nat) (hj : j < 4) : osI j x (8 / 2 ^ j) = osN j x ∧ osN j x < 4096 ∧ 0 ≤ osN j x ∧ ∀ t, t ≤ 8 / 2 ^ j → (0 ≤ osI j x t ∧ osI j x t < 65536 ∧ 0 ≤ osT j t x ∧ osT j t x < 65536) := by
  obtain ⟨n, rfl⟩ := Int.eq_ofNat_of_zero_le h0
  have hc := List.all_eq_true.1 (chk_sound _ 12 0 os_chk n (by omega) (by omega)) j (List.mem_range.2 hj)
  simp only [Bool.and_eq_true, beq_iff_eq, decide_eq_true_eq] at hc
  obtain ⟨c1, c2⟩ := hc
  refine ⟨c1, c2, ?_, fun t _ => ?_⟩
  · have h1 := andZ_nonneg (n : Int) (osM j)
    have h2 := andZ_nonneg ((n : Int) / pw (2 ^ j : Nat)) (osM j)
    unfold osN; omega
  · obtain ⟨a, b⟩ := osI_bd j _ h0 h t
    have e : pw 13 = 8192 := by decide
    have d := osT_lt j t _ h0
    exact ⟨a, by omega, osT_nonneg j t _ h0, by omega⟩
theorem osT_eq (j t : Nat) (x a H : Int) (hH : H = ((2 ^ j : Nat) : Int)) (ha : a = 2 * H * t) : osT j t x = (x / pw a % pw H + x / pw (a + H) % pw H) * pw a := by
  have e : ((2 * 2 ^ j * t : Nat) : Int) = a := by rw [ha, hH]; simp
  have e2 : ((2 * 2 ^ j * t + 2 ^ j : Nat) : Int) = a + H := by rw [Int.natCast_add, e, hH]
  unfold osT
  rw [e, e2, ← hH]
theorem os_lt (j t : Nat) (H : Int) (hj : j < 4) (hH : H = ((2 ^ j : Nat) : Int)) : (2 * H * t < 16 ↔ t < 8 / 2 ^ j) ∧ (t ≤ 8 / 2 ^ j → 2 * H * t ≤ 16) ∧ (t = 8 / 2 ^ j → ¬ 2 * H * t < 16) ∧ 1 ≤ H ∧ H ≤ 8 := by
  subst hH
  rcases (show j = 0 ∨ j = 1 ∨ j = 2 ∨ j = 3 by omega) with rfl | rfl | rfl | rfl <;> simp <;> omega
theorem osK_is (k : Int) (h1 : 1 ≤ k) (h2 : k ≤ 12) (j : Nat) (hj : j ≤ 4) : (2 ^ j : Nat) < k ↔ j < osK k := by
  unfold osK
  rcases (show j = 0 ∨ j = 1 ∨ j = 2 ∨ j = 3 ∨ j = 4 by omega) with rfl | rfl | rfl | rfl | rfl <;> split <;> (try split) <;> (try split) <;> (try split) <;> simp <;> omega
theorem osK_le (k : Int) : osK k ≤ 4 := by unfold osK; split <;> (try split) <;> (try split) <;> (try split) <;> omega
def osF : Nat → Nat → Int → List Int
  | 0, _, x => [x]
  | f + 1, j, x => x :: osF f (j + 1) (osN j x)
def osL (k x : Int) : List Int := osF (osK k) 0 x
theorem osF_last : ∀ (f j : Nat) (x : Int), ∃ D, osF f j x = D ++ [osG f j x]
  | 0, _, x => ⟨[], rfl⟩
  | f + 1, j, x => by
    obtain ⟨D, h⟩ := osF_last f (j + 1) (osN j x)
    exact ⟨x :: D, by simp only [osF, osG, h, List.cons_append]⟩
theorem osF_len : ∀ (f j : Nat) (x : Int), (osF f j x).length = f + 1
  | 0, _, _ => rfl
  | f + 1, j, x => by simp only [osF, List.length_cons, osF_len f]
theorem osF_head (f j : Nat) (x : Int) : ∃ T, osF f j x = x :: T := by cases f with | zero => exact ⟨[], rfl⟩ | succ f => exact ⟨_, rfl⟩
theorem os_last (k x : Int) (h : vld k x = true) : ∃ D, osL k x = D ++ [popZ x] := by
  have := (all_is k x h).2.2.2.1
  obtain ⟨D, hD⟩ := osF_last (osK k) 0 x
  exact ⟨D, by rw [← this]; exact hD⟩
/-- the mask, bit by bit -/
def mkZ (f : Nat) : Nat → Int
  | 0 => 0
  | k + 1 => mkZ f k + (if k % f < f / 2 then pw k else 0)
theorem mkZ_bd (f : Nat) : ∀ k : Nat, 0 ≤ mkZ f k ∧ mkZ f k < pw k
  | 0 => by simp [mkZ, pw]
  | k + 1 => by
    have := mkZ_bd f k
    have hp := pw_pos k
    rw [show ((k + 1 : Nat) : Int) = (k : Int) + 1 from rfl, pw_succ _ (by omega)]
    simp only [mkZ]; split <;> omega
theorem mk_chk : ((List.range 4).all fun j => mkZ (2 * 2 ^ j) 24 == osM j) = true := by decide +kernel
theorem mk_is (j : Nat) (h : j < 4) : mkZ (2 * 2 ^ j) 24 = osM j := by
  have := List.all_eq_true.1 mk_chk j (List.mem_range.2 h)
  simpa using this
theorem osM_bd (j : Nat) : 0 ≤ osM j ∧ osM j ≤ 16777215 := by unfold osM; split <;> (try split) <;> (try split) <;> omega

/-- filled words and lengths -/
theorem fl_is (k x : Int) (h : vld k x = true) : x ≤ fbZ x ∧ ((x = 0 ∧ fbZ x = 0) ∨ (x ≠ 0 ∧ fbZ x < 2 * x)) ∧ andZ (fbZ x) ((fbZ x + 1) % pw k) = 0 ∧ fbZ (fbZ x) = fbZ x ∧ popZ (fbZ x) = lenZ x ∧ vld k (fbZ x) = true := by
  obtain ⟨a, b, c, d, e, f⟩ := (all_is k x h).2.2.2.2
  refine ⟨a, ?_, c, d, e, f⟩
  by_cases hx : x = 0
  · rw [if_pos hx] at b; exact .inl ⟨hx, by simpa using b⟩
  · rw [if_neg hx] at b; exact .inr ⟨hx, by simpa using b⟩
/-- bits above the length -/
theorem bit_above (k x : Int) (h : vld k x = true) (j : Nat) (hj : lenZ x ≤ j) : bitZ x j = 0 := by
  obtain ⟨h1, h2, h3, h4, h5, h6⟩ := vld_4096 h
  obtain ⟨⟨a, b, c, d, e⟩, _, _⟩ := len_is x h3 (by omega)
  have := pw_le (lenZ x) j hj
  unfold bitZ
  rw [Int.ediv_eq_zero_of_lt h3 (by omega)]; rfl
theorem bit_top (k x : Int) (h : vld k x = true) (j : Nat) (hj : lenZ x = j + 1) : bitZ x j = 1 := by
  obtain ⟨h1, h2, h3, h4, h5, h6⟩ := vld_4096 h
  obtain ⟨⟨a, b, c, d, e⟩, _, _⟩ := len_is x h3 (by omega)
  have hx : x ≠ 0 := fun g => by have := e g; omega
  have d' := d.resolve_left hx
  rw [hj, show (j : Int) + 1 - 1 = j by omega] at d'
  have c' := c
  rw [hj, pw_succ _ (by omega)] at c'
  have hp := pw_pos j
  unfold bitZ
  have : x / pw j = 1 := by
    have a1 : x / pw j < 2 := Int.ediv_lt_of_lt_mul (by omega) (by omega)
    have a2 : 1 ≤ x / pw j := Int.le_ediv_of_mul_le (by omega) (by omega)
    omega
  rw [this]; rfl
end Go.Proofs.Ytgbgpibaincheaa
