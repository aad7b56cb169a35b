/- Contracts of the functions of two words (chapter 1) of the program and of the reference; conditions: that both words are valid, or that one is not. -/
import Derived.Test.YthbpcgefcnpfmaaW1
namespace Go.Proofs.Ythbpcgefcnpfmaa
open Go.RowKit
/-- both words are valid -/
def vld2 (k a b : Int) : Bool := vld k a && vld k b
theorem vld2_true {k a b : Int} (h : vld2 k a b = true) : vld k a = true ∧ vld k b = true := by simpa [vld2] using h
theorem vld2_bd {k a b : Int} (h : vld2 k a b = true) : 1 ≤ k ∧ k ≤ 12 ∧ 0 ≤ a ∧ a < pw k ∧ 0 ≤ b ∧ b < pw k ∧ 2 ≤ pw k ∧ pw k ≤ 4096 := by
  obtain ⟨h1, h2⟩ := vld2_true h
  obtain ⟨a1, a2, a3, a4, a5, a6⟩ := vld_4096 h1
  obtain ⟨b1, b2, b3, b4, b5, b6⟩ := vld_4096 h2
  exact ⟨a1, a2, a3, a4, b3, b4, a5, a6⟩
theorem l1Both_any (k a b : Int) (w : World) :
    Calls Try.prog 53 #[.int .i64 k, .int .i64 a, .int .i64 b] w fun e w' => e = .returned (.bool (vld2 k a b)) ∧ w = w' := by
  have HV := hd (show vld2 k a b = (vld k a && vld k b) from rfl)
  rcases h1 : vld k a with _ | _
  · go_enter Try.func53, Try.ntmps53
    go_wp2_with (go_at_call 76; refine (specWordValid_any _ _ _).mono ?_; rintro e w' ⟨rfl, rfl⟩)
    go_ret
    exact ⟨ret_b (by rw [HV.out, h1]; rfl), rfl⟩
  · go_enter Try.func53, Try.ntmps53
    go_wp2_with (go_at_call 76; refine (specWordValid_any _ _ _).mono ?_; rintro e w' ⟨rfl, rfl⟩)
    go_ret
    exact ⟨ret_b (by rw [HV.out, h1]; rfl), rfl⟩
/-- the slice's cells -/
def Cells (w : World) (g : Nat) (L : List Int) : Prop := ∀ j (hj : j < L.length), w.cell? ⟨g, j, none⟩ = some (.int .i64 L[j])
theorem allValid_any (k : Int) (L : List Int) (g c : Nat) (w : World) (hl : L.length ≤ 1000000) (hc : Cells w g L) :
    Calls Try.prog 55 #[.int .i64 k, .slice (some ⟨g, 0, none⟩) L.length c] w fun e w' => e = .returned (.bool (inB k 1 12 && L.all (vld k))) ∧ w = w' := by
  have HC := hd hc
  clear hc
  go_enter Try.func55, Try.ntmps55
  go_wp2
  go_loop [9] (fun i => ∃ j : Nat, j ≤ L.length ∧ i = .int .i64 j ∧ (L.take j).all (vld k) = true) (fun i => L.length - (intOf i).toNat)
  case atStart => exact ⟨0, by omega, rfl, rfl⟩
  case round =>
    obtain ⟨j, hj, rfl, hall⟩ := hrel
    have HA := hd hall
    clear hall
    by_cases hlt : j < L.length
    · have hck := HC.out j hlt
      have HT := hd (List.take_succ_eq_append_getElem hlt)
      have HM := hd (List.getElem_mem hlt)
      obtain ⟨x, hx⟩ : ∃ x, L[j] = x := ⟨_, rfl⟩
      rw [hx] at hck HT HM
      clear hx
      rcases hv : vld k x with _ | _
      · have HF := hd (show L.all (vld k) = false by rw [List.all_eq_false]; exact ⟨x, HM.out, by simp [hv]⟩)
        go_wp2_with (go_at_call 24; refine (implWordValid_any _ _ _).mono ?_; rintro e w' ⟨rfl, rfl⟩)
        go_ret
        exact ⟨ret_b (by rw [HF.out, Bool.and_false]), rfl⟩
      · go_wp2_with (go_at_call 24; refine (implWordValid_any _ _ _).mono ?_; rintro e w' ⟨rfl, rfl⟩)
        go_round
        case rel => exact ⟨j + 1, by omega, by go_num, by rw [HT.out, List.all_append, HA.out]; simp [hv]⟩
        case measure => simp [intOf]; omega
    · have HF := hd (show L.all (vld k) = true by have h0 := HA.out; rwa [List.take_of_length_le (by omega)] at h0)
      go_wp2_with (go_at_call 65; refine (isWidth_any _ _).mono ?_; rintro e w' ⟨rfl, rfl⟩)
      go_ret
      exact ⟨ret_b (by rw [HF.out, Bool.and_true]), rfl⟩
theorem allValid_two (k a b : Int) (g c : Nat) (w : World) (ha : w.cell? ⟨g, 0, none⟩ = some (.int .i64 a)) (hb : w.cell? ⟨g, 1, none⟩ = some (.int .i64 b)) :
    Calls Try.prog 55 #[.int .i64 k, .slice (some ⟨g, 0, none⟩) 2 c] w fun e w' => e = .returned (.bool (vld2 k a b)) ∧ w = w' := by
  have h := allValid_any k [a, b] g c w (by simp) (fun j hj => by
    match j, hj with
    | 0, _ => exact ha
    | 1, _ => exact hb
    | j + 2, hj => simp at hj; omega)
  have e : (inB k 1 12 && [a, b].all (vld k)) = vld2 k a b := by
    simp only [List.all_cons, List.all_nil, Bool.and_true, vld2]
    rcases h1 : vld k a with _ | _
    · simp
    · obtain ⟨x1, x2, _⟩ := vld_true.1 h1
      rw [inB_mk x1 x2]; simp
  rw [e] at h
  exact h
theorem cell_two0 (w : World) (u v : Value) (t : TypeId) : (w.alloc (.cells #[u, v] t)).cell? ⟨w.heap.size, 0, none⟩ = some u := by
  rw [World.cell?_alloc_at] <;> rfl
theorem cell_two1 (w : World) (u v : Value) (t : TypeId) : (w.alloc (.cells #[u, v] t)).cell? ⟨w.heap.size, 1, none⟩ = some v := by
  rw [World.cell?_alloc_at] <;> rfl
theorem implWordAdd_ok (k a b : Int) (h : vld2 k a b = true) (w : World) :
    Calls Try.prog 36 #[.int .i64 k, .int .i64 a, .int .i64 b] w fun e w' => e = .returned (.int .i64 ((a + b) % pw k)) ∧ Below w.heap.size w w' := by
  obtain ⟨h1, h2, h3, h4, h5, h6, h7, h8⟩ := vld2_bd h
  go_enter Try.func36, Try.ntmps36
  go_wp2_with (first
    | (go_at_call 55; refine (allValid_two k a b _ _ _ (cell_two0 _ _ _ _) (cell_two1 _ _ _ _)).mono ?_; rintro e w' ⟨rfl, rfl⟩)
    | (go_at_call 57; refine (cut_any _ _ (by omega) (by omega) _).mono ?_; rintro e w' ⟨rfl, rfl⟩)
    | go_in)
  go_ret
  exact ⟨rfl, (Below.refl _ _).alloc (Nat.le_refl _) _⟩
theorem implWordAdd_bad (k a b : Int) (h : vld2 k a b = false) (w : World) :
    Calls Try.prog 36 #[.int .i64 k, .int .i64 a, .int .i64 b] w fun e w' => e = .returned (.int .i64 (-1)) ∧ Below w.heap.size w w' := by
  go_enter Try.func36, Try.ntmps36
  go_wp2_with (first
    | (go_at_call 55; refine (allValid_two k a b _ _ _ (cell_two0 _ _ _ _) (cell_two1 _ _ _ _)).mono ?_; rintro e w' ⟨rfl, rfl⟩)
    | go_in)
  go_ret
  exact ⟨rfl, (Below.refl _ _).alloc (Nat.le_refl _) _⟩
theorem implWordSub_ok (k a b : Int) (h : vld2 k a b = true) (w : World) :
    Calls Try.prog 31 #[.int .i64 k, .int .i64 a, .int .i64 b] w fun e w' => e = .returned (.int .i64 ((a - b) % pw k)) ∧ Below w.heap.size w w' := by
  obtain ⟨h1, h2, h3, h4, h5, h6, h7, h8⟩ := vld2_bd h
  go_enter Try.func31, Try.ntmps31
  go_wp2_with (first
    | (go_at_call 55; refine (allValid_two k a b _ _ _ (cell_two0 _ _ _ _) (cell_two1 _ _ _ _)).mono ?_; rintro e w' ⟨rfl, rfl⟩)
    | (go_at_call 57; refine (cut_any _ _ (by omega) (by omega) _).mono ?_; rintro e w' ⟨rfl, rfl⟩)
    | go_in)
  go_ret
  exact ⟨rfl, (Below.refl _ _).alloc (Nat.le_refl _) _⟩
theorem implWordSub_bad (k a b : Int) (h : vld2 k a b = false) (w : World) :
    Calls Try.prog 31 #[.int .i64 k, .int .i64 a, .int .i64 b] w fun e w' => e = .returned (.int .i64 (-1)) ∧ Below w.heap.size w w' := by
  go_enter Try.func31, Try.ntmps31
  go_wp2_with (first
    | (go_at_call 55; refine (allValid_two k a b _ _ _ (cell_two0 _ _ _ _) (cell_two1 _ _ _ _)).mono ?_; rintro e w' ⟨rfl, rfl⟩)
    | go_in)
  go_ret
  exact ⟨rfl, (Below.refl _ _).alloc (Nat.le_refl _) _⟩
theorem implWordTimes_ok (k a b : Int) (h : vld2 k a b = true) (w : World) :
    Calls Try.prog 23 #[.int .i64 k, .int .i64 a, .int .i64 b] w fun e w' => e = .returned (.int .i64 (a * b % pw k)) ∧ Below w.heap.size w w' := by
  obtain ⟨h1, h2, h3, h4, h5, h6, h7, h8⟩ := vld2_bd h
  obtain ⟨r1, r2⟩ := mul_bd (x := a) (y := b) (X := 4096) (Y := 4096) (by omega) (by omega) (by omega) (by omega)
  go_enter Try.func23, Try.ntmps23
  go_wp2_with (first
    | (go_at_call 55; refine (allValid_two k a b _ _ _ (cell_two0 _ _ _ _) (cell_two1 _ _ _ _)).mono ?_; rintro e w' ⟨rfl, rfl⟩)
    | (go_at_call 57; refine (cut_any _ _ (by omega) (by omega) _).mono ?_; rintro e w' ⟨rfl, rfl⟩)
    | go_in)
  go_ret
  exact ⟨rfl, (Below.refl _ _).alloc (Nat.le_refl _) _⟩
theorem implWordTimes_bad (k a b : Int) (h : vld2 k a b = false) (w : World) :
    Calls Try.prog 23 #[.int .i64 k, .int .i64 a, .int .i64 b] w fun e w' => e = .returned (.int .i64 (-1)) ∧ Below w.heap.size w w' := by
  go_enter Try.func23, Try.ntmps23
  go_wp2_with (first
    | (go_at_call 55; refine (allValid_two k a b _ _ _ (cell_two0 _ _ _ _) (cell_two1 _ _ _ _)).mono ?_; rintro e w' ⟨rfl, rfl⟩)
    | go_in)
  go_ret
  exact ⟨rfl, (Below.refl _ _).alloc (Nat.le_refl _) _⟩
theorem implWordNot_ok (k x : Int) (h : vld k x = true) (w : World) :
    Calls Try.prog 60 #[.int .i64 k, .int .i64 x] w fun e w' => e = .returned (.int .i64 (pw k - 1 - x)) ∧ w = w' := by
  obtain ⟨h1, h2, h3, h4, h5, h6⟩ := vld_4096 h
  have e1 := i64_not x h3 (by omega)
  have e2 : (-1 - x) % pw k = pw k - 1 - x := by
    rw [show -1 - x = (pw k - 1 - x) + pw k * (-1) by omega, Int.add_mul_emod_self_left]
    exact Int.emod_eq_of_lt (by omega) (by omega)
  go_enter Try.func60, Try.ntmps60
  go_wp2_with (first
    | (go_at_call 24; refine (implWordValid_any _ _ _).mono ?_; rintro e w' ⟨rfl, rfl⟩)
    | (go_at_call 57; refine (cut_any _ _ (by omega) (by omega) _).mono ?_; rintro e w' ⟨rfl, rfl⟩)
    | go_in)
  go_ret
  exact ⟨rfl, rfl⟩
theorem implSignedOf_ok (k x : Int) (h : vld k x = true) (w : World) :
    Calls Try.prog 35 #[.int .i64 k, .int .i64 x] w fun e w' => e = .returned (.int .i64 (sgZ k x)) ∧ w = w' := by
  go_enter Try.func35, Try.ntmps35
  go_wp2_with (first
    | (go_at_call 24; refine (implWordValid_any _ _ _).mono ?_; rintro e w' ⟨rfl, rfl⟩)
    | (go_at_call 69; refine (signed_any _ _ h _).mono ?_; rintro e w' ⟨rfl, rfl⟩))
  go_ret
  exact ⟨rfl, rfl⟩
theorem alive_any (w : World) : Calls Try.prog 19 #[] w fun e w' => e = .returned (.bool true) ∧ Below w.heap.size w w' := by
  have h1 := hd (implWordAdd_ok 4 9 9 (by decide) w)
  have h2 : ∀ w', Calls Try.prog 60 #[.int .i64 3, .int .i64 0] w' fun e w'' => e = .returned (.int .i64 7) ∧ w' = w'' := fun w' => implWordNot_ok 3 0 (by decide) w'
  have H2 := hd h2
  clear h2
  go_enter Try.func19, Try.ntmps19
  go_wp2_with (first
    | (go_at_call 36; refine (h1.out).mono ?_; rintro e w1 ⟨rfl, hb⟩)
    | (go_at_call 60; refine (H2.out _).mono ?_; rintro e w2 ⟨rfl, rfl⟩))
  go_ret
  exact ⟨rfl, hb⟩
end Go.Proofs.Ythbpcgefcnpfmaa
