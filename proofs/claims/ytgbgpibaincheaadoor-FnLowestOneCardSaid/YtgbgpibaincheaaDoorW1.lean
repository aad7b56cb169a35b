/- Contracts of the functions of words (chapter 1) of the program and of the reference; conditions: the bounds that are written at each. -/
import Derived.Test.YtgbgpibaincheaaDoorRows
import Derived.Test.YtgbgpibaincheaaDoorBits
import Derived.WalkKit
import Derived.WalkSpells
import Derived.WalkLawsBesides
import Derived.Deep.QuietTactic
import Derived.BigQuiet
namespace Go.Proofs.YtgbgpibaincheaaDoor
open Go.RowKit

theorem hd {p : Prop} (h : p) : Hid p := h
theorem quiet_add_left {P : Program} {f : FuncId} {args : Array Value} {w : World} {a n : Nat} {v : Value}
    (h : Calls P f args (w.drewN (a + n)) fun e w' => e = .returned v ∧ w.drewN (a + n) = w') :
    Calls P f args (w.drewN (a + n)) fun e w'' => e = .returned v ∧ ∃ m, w'' = w.drewN (a + m) :=
  h.mono fun _ _ ⟨he, hm⟩ => ⟨he, n, hm.symm⟩
theorem quiet_left {P : Program} {f : FuncId} {args : Array Value} {w : World} {n : Nat} {v : Value}
    (h : Calls P f args (w.drewN n) fun e w' => e = .returned v ∧ w.drewN n = w') : Calls P f args (w.drewN n) fun e w'' => e = .returned v ∧ ∃ m, w'' = w.drewN m :=
  h.mono fun _ _ ⟨he, hm⟩ => ⟨he, n, hm.symm⟩
theorem drewN2 (w : World) (n m : Nat) : (w.drewN n).drewN m = w.drewN (n + m) := by simp
/-- a sum that Go's int holds -/
theorem wr (n : Int) (h : -9223372036854775808 ≤ n ∧ n ≤ 9223372036854775807) : IntKind.i64.wrap n = n := IntWalk.i64_in n h
theorem ret_i {k : IntKind} {a b : Int} (h : a = b) : Ending.returned (.int k a) = .returned (.int k b) := by rw [h]
theorem ret_b {a b : Bool} (h : a = b) : Ending.returned (.bool a) = .returned (.bool b) := by rw [h]

theorem within_any (n lo hi : Int) (w : World) :
    Calls Tryd.prog 38 #[.int .i64 n, .int .i64 lo, .int .i64 hi] w fun e w' => e = .returned (.bool (inB n lo hi)) ∧ w = w' := by
  by_cases h1 : lo ≤ n
  · by_cases h2 : n ≤ hi
    all_goals
      go_enter Tryd.func38, Tryd.ntmps38
      go_wp2
      go_ret
      exact ⟨ret_b (by simp only [inB]; first | exact (decide_eq_true (by omega)).symm | exact (decide_eq_false (by omega)).symm), rfl⟩
  · go_enter Tryd.func38, Tryd.ntmps38
    go_wp2
    go_ret
    exact ⟨ret_b (by simp only [inB]; exact (decide_eq_false (by omega)).symm), rfl⟩
theorem l1In_any (n lo hi : Int) (w : World) :
    Calls Tryd.prog 37 #[.int .i64 n, .int .i64 lo, .int .i64 hi] w fun e w' => e = .returned (.bool (inB n lo hi)) ∧ w = w' := by
  by_cases h1 : lo ≤ n
  · by_cases h2 : n ≤ hi
    all_goals
      go_enter Tryd.func37, Tryd.ntmps37
      go_wp2
      go_ret
      exact ⟨ret_b (by simp only [inB]; first | exact (decide_eq_true (by omega)).symm | exact (decide_eq_false (by omega)).symm), rfl⟩
  · go_enter Tryd.func37, Tryd.ntmps37
    go_wp2
    go_ret
    exact ⟨ret_b (by simp only [inB]; exact (decide_eq_false (by omega)).symm), rfl⟩
theorem isWidth_any (n : Int) (w : World) :
    Calls Tryd.prog 35 #[.int .i64 n] w fun e w' => e = .returned (.bool (inB n 1 12)) ∧ w = w' := by
  go_enter Tryd.func35, Tryd.ntmps35
  go_wp2_with (go_at_call 38; refine (within_any _ _ _ _).mono ?_; rintro e w' ⟨rfl, rfl⟩)
  go_ret
  exact ⟨rfl, rfl⟩
theorem power_any (n : Int) (h0 : 0 ≤ n) (h : n ≤ 61) (w : World) :
    Calls Tryd.prog 49 #[.int .i64 n] w fun e w' => e = .returned (.int .i64 (pw n)) ∧ w = w' := by
  have hp := pw_pos n
  have hle := pw_le n 61 h
  have hk : pw 61 = 2305843009213693952 := by decide
  rw [hk] at hle
  have e0 := shl_pw n
  clear hk
  go_enter Tryd.func49, Tryd.ntmps49
  go_wp2
  go_ret
  exact ⟨rfl, rfl⟩
theorem greatest_any (n : Int) (h0 : 0 ≤ n) (h : n ≤ 61) (w : World) :
    Calls Tryd.prog 39 #[.int .i64 n] w fun e w' => e = .returned (.int .i64 (pw n - 1)) ∧ w = w' := by
  have hp := pw_pos n
  have hle := pw_le61 n h
  go_enter Tryd.func39, Tryd.ntmps39
  go_wp2_with (go_at_call 49; refine (power_any n h0 h _).mono ?_; rintro e w' ⟨rfl, rfl⟩)
  go_ret
  exact ⟨rfl, rfl⟩
theorem cut_any (k n : Int) (h0 : 0 ≤ k) (h : k ≤ 61) (w : World) :
    Calls Tryd.prog 36 #[.int .i64 k, .int .i64 n] w fun e w' => e = .returned (.int .i64 (n % pw k)) ∧ w = w' := by
  have e1 := i64_and_mask n k (by omega)
  go_enter Tryd.func36, Tryd.ntmps36
  go_wp2_with (go_at_call 39; refine (greatest_any k h0 h _).mono ?_; rintro e w' ⟨rfl, rfl⟩)
  go_ret
  exact ⟨rfl, rfl⟩
theorem implWordValid_any (k x : Int) (w : World) :
    Calls Tryd.prog 20 #[.int .i64 k, .int .i64 x] w fun e w' => e = .returned (.bool (vld k x)) ∧ w = w' := by
  by_cases hk : 1 ≤ k ∧ k ≤ 12
  · have hb : inB k 1 12 = true := inB_true.2 hk
    go_enter Tryd.func20, Tryd.ntmps20
    go_wp2_with (first
      | (go_at_call 35; refine (isWidth_any _ _).mono ?_; rintro e w' ⟨rfl, rfl⟩)
      | (go_at_call 39; refine (greatest_any k (by omega) (by omega) _).mono ?_; rintro e w' ⟨rfl, rfl⟩)
      | (go_at_call 38; refine (within_any _ _ _ _).mono ?_; rintro e w' ⟨rfl, rfl⟩))
    go_ret
    exact ⟨ret_b (vld_eq_inB hk.1 hk.2), rfl⟩
  · have hb : inB k 1 12 = false := inB_false.2 hk
    go_enter Tryd.func20, Tryd.ntmps20
    go_wp2_with (go_at_call 35; refine (isWidth_any _ _).mono ?_; rintro e w' ⟨rfl, rfl⟩)
    go_ret
    exact ⟨ret_b (vld_bad_width hk x).symm, rfl⟩
theorem specWordValid_any (k x : Int) (w : World) :
    Calls Tryd.prog 18 #[.int .i64 k, .int .i64 x] w fun e w' => e = .returned (.bool (vld k x)) ∧ w = w' := by
  by_cases hk : 1 ≤ k ∧ k ≤ 12
  · have hb : inB k 1 12 = true := inB_true.2 hk
    have e0 := shl_pw k
    obtain ⟨hp, hp'⟩ := pw_w k hk.1 hk.2
    go_enter Tryd.func18, Tryd.ntmps18
    go_wp2_with (go_at_call 37; refine (l1In_any _ _ _ _).mono ?_; rintro e w' ⟨rfl, rfl⟩)
    go_ret
    exact ⟨ret_b (vld_eq_inB hk.1 hk.2), rfl⟩
  · have hb : inB k 1 12 = false := inB_false.2 hk
    go_enter Tryd.func18, Tryd.ntmps18
    go_wp2_with (go_at_call 37; refine (l1In_any _ _ _ _).mono ?_; rintro e w' ⟨rfl, rfl⟩)
    go_ret
    exact ⟨ret_b (vld_bad_width hk x).symm, rfl⟩
theorem l1Bit_any (x k : Int) (hx : 0 ≤ x) (h0 : 0 ≤ k) (h : k ≤ 61) (w : World) :
    Calls Tryd.prog 19 #[.int .i64 x, .int .i64 k] w fun e w' => e = .returned (.int .i64 (bitZ x k)) ∧ w = w' := by
  have e0 := shl_pw k
  have hp := pw_pos k
  have hd : 0 ≤ x / pw k := Int.ediv_nonneg hx (by omega)
  go_enter Tryd.func19, Tryd.ntmps19
  go_wp2
  go_ret
  exact ⟨rfl, rfl⟩
theorem l1Mod_any (k n : Int) (h0 : 0 ≤ k) (h : k ≤ 61) (w : World) :
    Calls Tryd.prog 33 #[.int .i64 k, .int .i64 n] w fun e w' => e = .returned (.int .i64 (n % pw k)) ∧ w = w' := by
  have e0 := shl_pw k
  have hp := pw_pos k
  have hle := pw_le61 k h
  rcases tmod_pw n (pw k) hp with ⟨ht, he⟩ | ⟨ht, hl, he⟩
  all_goals
    obtain ⟨t, hT⟩ : ∃ t, t = n.tmod (pw k) := ⟨_, rfl⟩
    rw [← hT] at ht he
    have HE := hd he
    have hT' := hT.symm
    clear he hT
  · go_enter Tryd.func33, Tryd.ntmps33
    go_wp2
    go_ret
    exact ⟨ret_i HE.out, rfl⟩
  · rw [hT'] at hl
    go_enter Tryd.func33, Tryd.ntmps33
    go_wp2
    go_ret
    exact ⟨ret_i HE.out, rfl⟩
theorem l1And_any (a b : Int) (ha : 0 ≤ a) (ha' : a < 1073741824) (hb : 0 ≤ b) (hb' : b < 1073741824) (w : World) :
    Calls Tryd.prog 32 #[.int .i64 a, .int .i64 b] w fun e w' => e = .returned (.int .i64 (andZ a b)) ∧ w = w' := by
  go_enter Tryd.func32, Tryd.ntmps32
  go_wp2
  go_loop [5, 6] (fun o i => ∃ k : Nat, k ≤ 30 ∧ i = .int .i64 k ∧ o = .int .i64 (lowAnd a b k)) (fun _ i => 30 - (intOf i).toNat)
  case atStart => exact ⟨0, by omega, rfl, by rw [lowAnd_0]⟩
  case round =>
    obtain ⟨k, hk, rfl, rfl⟩ := hrel
    by_cases hlt : k < 30
    · obtain ⟨l1, l2⟩ := lowAnd_bd a b k (by omega)
      have HS := hd (lowAnd_succ a b k ha hb)
      obtain ⟨b1, b2⟩ := bitZ_bd a k
      obtain ⟨c1, c2⟩ := bitZ_bd b k
      obtain ⟨d1, d2⟩ := bit_mul_bd a b k k
      obtain ⟨p1, p2⟩ := bit_mul_pw_bd a b k (by omega)
      have e0 := shl_pwn k
      go_wp2_with (go_at_call 19; refine (l1Bit_any _ _ (by omega) (by omega) (by omega) _).mono ?_; rintro e w' ⟨rfl, rfl⟩)
      go_round
      case rel => exact ⟨k + 1, by omega, by go_num, by rw [HS.out]⟩
      case measure => simp [intOf]; omega
    · go_wp2
      go_ret
      exact ⟨ret_i (by rw [show k = 30 by omega]; exact lowAnd_30 a b ha ha' hb hb'), rfl⟩
