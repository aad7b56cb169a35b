/- Contracts of the functions of words (chapter 1) of the program and of the reference; conditions: the bounds that are written at each. -/
import Derived.Test.YtgbgpibaincheaaRows
import Derived.Test.YtgbgpibaincheaaBits
import Derived.WalkKit
import Derived.WalkSpells
import Derived.WalkLawsBesides
import Derived.Deep.QuietTactic
import Derived.BigQuiet
namespace Go.Proofs.Ytgbgpibaincheaa
open Go.RowKit

theorem hd {p : Prop} (h : p) : Hid p := h
theorem quiet_add_left {P : Program} {f : FuncId} {args : Array Value} {w : World} {a n : Nat} {v : Value}
    (h : Calls P f args (w.drewN (a + n)) fun e w' => e = .returned v ∧ w.drewN (a + n) = w') :
    Calls P f args (w.drewN (a + n)) fun e w'' => e = .returned v ∧ ∃ m, w'' = w.drewN (a + m) :=
  h.mono fun _ _ ⟨he, hm⟩ => ⟨he, n, hm.symm⟩
theorem quiet_left {P : Program} {f : FuncId} {args : Array Value} {w : World} {n : Nat} {v : Value}
    (h : Calls P f args (w.drewN n) fun e w' => e = .returned v ∧ w.drewN n = w') : Calls P f args (w.drewN n) fun e w'' => e = .returned v ∧ ∃ m, w'' = w.drewN m :=
  h.mono fun _ _ ⟨he, hm⟩ => ⟨he, n, hm.symm⟩
theorem drewN2 (w : World) (n m : Nat) : (w.drewN n).drewN m = w.drewN (n + m) := by simp
/-- a sum that Go's int holds -/
theorem wr (n : Int) (h : -9223372036854775808 ≤ n ∧ n ≤ 9223372036854775807) : IntKind.i64.wrap n = n := IntWalk.i64_in n h
theorem ret_i {k : IntKind} {a b : Int} (h : a = b) : Ending.returned (.int k a) = .returned (.int k b) := by rw [h]
theorem ret_b {a b : Bool} (h : a = b) : Ending.returned (.bool a) = .returned (.bool b) := by rw [h]

theorem within_any (n lo hi : Int) (w : World) :
    Calls Try.prog 85 #[.int .i64 n, .int .i64 lo, .int .i64 hi] w fun e w' => e = .returned (.bool (inB n lo hi)) ∧ w = w' := by
  by_cases h1 : lo ≤ n
  · by_cases h2 : n ≤ hi
    all_goals
      go_enter Try.func85, Try.ntmps85
      go_wp2
      go_ret
      exact ⟨ret_b (by simp only [inB]; first | exact (decide_eq_true (by omega)).symm | exact (decide_eq_false (by omega)).symm), rfl⟩
  · go_enter Try.func85, Try.ntmps85
    go_wp2
    go_ret
    exact ⟨ret_b (by simp only [inB]; exact (decide_eq_false (by omega)).symm), rfl⟩
theorem l1In_any (n lo hi : Int) (w : World) :
    Calls Try.prog 83 #[.int .i64 n, .int .i64 lo, .int .i64 hi] w fun e w' => e = .returned (.bool (inB n lo hi)) ∧ w = w' := by
  by_cases h1 : lo ≤ n
  · by_cases h2 : n ≤ hi
    all_goals
      go_enter Try.func83, Try.ntmps83
      go_wp2
      go_ret
      exact ⟨ret_b (by simp only [inB]; first | exact (decide_eq_true (by omega)).symm | exact (decide_eq_false (by omega)).symm), rfl⟩
  · go_enter Try.func83, Try.ntmps83
    go_wp2
    go_ret
    exact ⟨ret_b (by simp only [inB]; exact (decide_eq_false (by omega)).symm), rfl⟩
theorem isWidth_any (n : Int) (w : World) :
    Calls Try.prog 84 #[.int .i64 n] w fun e w' => e = .returned (.bool (inB n 1 12)) ∧ w = w' := by
  go_enter Try.func84, Try.ntmps84
  go_wp2_with (go_at_call 85; refine (within_any _ _ _ _).mono ?_; rintro e w' ⟨rfl, rfl⟩)
  go_ret
  exact ⟨rfl, rfl⟩
theorem power_any (n : Int) (h0 : 0 ≤ n) (h : n ≤ 61) (w : World) :
    Calls Try.prog 77 #[.int .i64 n] w fun e w' => e = .returned (.int .i64 (pw n)) ∧ w = w' := by
  have hp := pw_pos n
  have hle := pw_le n 61 h
  have hk : pw 61 = 2305843009213693952 := by decide
  rw [hk] at hle
  have e0 := shl_pw n
  clear hk
  go_enter Try.func77, Try.ntmps77
  go_wp2
  go_ret
  exact ⟨rfl, rfl⟩
theorem greatest_any (n : Int) (h0 : 0 ≤ n) (h : n ≤ 61) (w : World) :
    Calls Try.prog 82 #[.int .i64 n] w fun e w' => e = .returned (.int .i64 (pw n - 1)) ∧ w = w' := by
  have hp := pw_pos n
  have hle := pw_le61 n h
  go_enter Try.func82, Try.ntmps82
  go_wp2_with (go_at_call 77; refine (power_any n h0 h _).mono ?_; rintro e w' ⟨rfl, rfl⟩)
  go_ret
  exact ⟨rfl, rfl⟩
theorem bit_any (x k : Int) (h0 : 0 ≤ k) (h : k ≤ 61) (w : World) :
    Calls Try.prog 110 #[.int .i64 x, .int .i64 k] w fun e w' => e = .returned (.int .i64 (bitZ x k)) ∧ w = w' := by
  have e0 := shl_pw k
  have e1 := i64_and_1 (x / pw k)
  go_enter Try.func110, Try.ntmps110
  go_wp2
  go_ret
  exact ⟨rfl, rfl⟩
theorem cut_any (k n : Int) (h0 : 0 ≤ k) (h : k ≤ 61) (w : World) :
    Calls Try.prog 102 #[.int .i64 k, .int .i64 n] w fun e w' => e = .returned (.int .i64 (n % pw k)) ∧ w = w' := by
  have e1 := i64_and_mask n k (by omega)
  go_enter Try.func102, Try.ntmps102
  go_wp2_with (go_at_call 82; refine (greatest_any k h0 h _).mono ?_; rintro e w' ⟨rfl, rfl⟩)
  go_ret
  exact ⟨rfl, rfl⟩
theorem implWordValid_any (k x : Int) (w : World) :
    Calls Try.prog 53 #[.int .i64 k, .int .i64 x] w fun e w' => e = .returned (.bool (vld k x)) ∧ w = w' := by
  by_cases hk : 1 ≤ k ∧ k ≤ 12
  · have hb : inB k 1 12 = true := inB_true.2 hk
    go_enter Try.func53, Try.ntmps53
    go_wp2_with (first
      | (go_at_call 84; refine (isWidth_any _ _).mono ?_; rintro e w' ⟨rfl, rfl⟩)
      | (go_at_call 82; refine (greatest_any k (by omega) (by omega) _).mono ?_; rintro e w' ⟨rfl, rfl⟩)
      | (go_at_call 85; refine (within_any _ _ _ _).mono ?_; rintro e w' ⟨rfl, rfl⟩))
    go_ret
    exact ⟨ret_b (vld_eq_inB hk.1 hk.2), rfl⟩
  · have hb : inB k 1 12 = false := inB_false.2 hk
    go_enter Try.func53, Try.ntmps53
    go_wp2_with (go_at_call 84; refine (isWidth_any _ _).mono ?_; rintro e w' ⟨rfl, rfl⟩)
    go_ret
    exact ⟨ret_b (vld_bad_width hk x).symm, rfl⟩
theorem specWordValid_any (k x : Int) (w : World) :
    Calls Try.prog 70 #[.int .i64 k, .int .i64 x] w fun e w' => e = .returned (.bool (vld k x)) ∧ w = w' := by
  by_cases hk : 1 ≤ k ∧ k ≤ 12
  · have hb : inB k 1 12 = true := inB_true.2 hk
    have e0 := shl_pw k
    obtain ⟨hp, hp'⟩ := pw_w k hk.1 hk.2
    go_enter Try.func70, Try.ntmps70
    go_wp2_with (go_at_call 83; refine (l1In_any _ _ _ _).mono ?_; rintro e w' ⟨rfl, rfl⟩)
    go_ret
    exact ⟨ret_b (vld_eq_inB hk.1 hk.2), rfl⟩
  · have hb : inB k 1 12 = false := inB_false.2 hk
    go_enter Try.func70, Try.ntmps70
    go_wp2_with (go_at_call 83; refine (l1In_any _ _ _ _).mono ?_; rintro e w' ⟨rfl, rfl⟩)
    go_ret
    exact ⟨ret_b (vld_bad_width hk x).symm, rfl⟩
theorem signed_any (k x : Int) (h : vld k x = true) (w : World) :
    Calls Try.prog 97 #[.int .i64 k, .int .i64 x] w fun e w' => e = .returned (.int .i64 (sgZ k x)) ∧ w = w' := by
  obtain ⟨h1, h2, h3, h4, h5, h6⟩ := vld_4096 h
  obtain ⟨h7, h8⟩ := bitZ_mul_bd x k (k - 1) h1 h2
  clear h
  go_enter Try.func97, Try.ntmps97
  go_wp2_with (first
    | (go_at_call 110; refine (bit_any x _ (by omega) (by omega) _).mono ?_; rintro e w' ⟨rfl, rfl⟩)
    | (go_at_call 77; refine (power_any k (by omega) (by omega) _).mono ?_; rintro e w' ⟨rfl, rfl⟩))
  go_ret
  exact ⟨rfl, rfl⟩
theorem l1Bit_any (x k : Int) (hx : 0 ≤ x) (h0 : 0 ≤ k) (h : k ≤ 61) (w : World) :
    Calls Try.prog 71 #[.int .i64 x, .int .i64 k] w fun e w' => e = .returned (.int .i64 (bitZ x k)) ∧ w = w' := by
  have e0 := shl_pw k
  have hp := pw_pos k
  have hd : 0 ≤ x / pw k := Int.ediv_nonneg hx (by omega)
  go_enter Try.func71, Try.ntmps71
  go_wp2
  go_ret
  exact ⟨rfl, rfl⟩
theorem l1Mod_any (k n : Int) (h0 : 0 ≤ k) (h : k ≤ 61) (w : World) :
    Calls Try.prog 95 #[.int .i64 k, .int .i64 n] w fun e w' => e = .returned (.int .i64 (n % pw k)) ∧ w = w' := by
  have e0 := shl_pw k
  have hp := pw_pos k
  have hle := pw_le61 k h
  rcases tmod_pw n (pw k) hp with ⟨ht, he⟩ | ⟨ht, hl, he⟩
  all_goals
    obtain ⟨t, hT⟩ : ∃ t, t = n.tmod (pw k) := ⟨_, rfl⟩
    rw [← hT] at ht he
    have HE := hd he
    have hT' := hT.symm
    clear he hT
  · go_enter Try.func95, Try.ntmps95
    go_wp2
    go_ret
    exact ⟨ret_i HE.out, rfl⟩
  · rw [hT'] at hl
    go_enter Try.func95, Try.ntmps95
    go_wp2
    go_ret
    exact ⟨ret_i HE.out, rfl⟩
theorem specSignedOf_ok (k x : Int) (h : vld k x = true) (w : World) :
    Calls Try.prog 98 #[.int .i64 k, .int .i64 x] w fun e w' => e = .returned (.int .i64 (sgZ k x)) ∧ w = w' := by
  obtain ⟨h1, h2, h3, h4, h5, h6⟩ := vld_4096 h
  have e0 := shl_pw k
  rcases bitZ_01 x (k - 1) with hb | hb
  all_goals
    go_enter Try.func98, Try.ntmps98
    go_wp2_with (first
      | (go_at_call 70; refine (specWordValid_any _ _ _).mono ?_; rintro e w' ⟨rfl, rfl⟩)
      | (go_at_call 71; refine (l1Bit_any x _ (by omega) (by omega) (by omega) _).mono ?_; rintro e w' ⟨rfl, rfl⟩))
    go_ret
    exact ⟨ret_i (by simp [sgZ, hb]), rfl⟩
theorem specSignedOf_bad (k x : Int) (h : vld k x = false) (w : World) :
    Calls Try.prog 98 #[.int .i64 k, .int .i64 x] w fun e w' => e = .returned (.int .i64 0) ∧ w = w' := by
  go_enter Try.func98, Try.ntmps98
  go_wp2_with (go_at_call 70; refine (specWordValid_any _ _ _).mono ?_; rintro e w' ⟨rfl, rfl⟩)
  go_ret
  exact ⟨rfl, rfl⟩
theorem l1And_any (a b : Int) (ha : 0 ≤ a) (ha' : a < 1073741824) (hb : 0 ≤ b) (hb' : b < 1073741824) (w : World) :
    Calls Try.prog 80 #[.int .i64 a, .int .i64 b] w fun e w' => e = .returned (.int .i64 (andZ a b)) ∧ w = w' := by
  go_enter Try.func80, Try.ntmps80
  go_wp2
  go_loop [5, 6] (fun o i => ∃ k : Nat, k ≤ 30 ∧ i = .int .i64 k ∧ o = .int .i64 (lowAnd a b k)) (fun _ i => 30 - (intOf i).toNat)
  case atStart => exact ⟨0, by omega, rfl, by rw [lowAnd_0]⟩
  case round =>
    obtain ⟨k, hk, rfl, rfl⟩ := hrel
    by_cases hlt : k < 30
    · obtain ⟨l1, l2⟩ := lowAnd_bd a b k (by omega)
      have HS := hd (lowAnd_succ a b k ha hb)
      obtain ⟨b1, b2⟩ := bitZ_bd a k
      obtain ⟨c1, c2⟩ := bitZ_bd b k
      obtain ⟨d1, d2⟩ := bit_mul_bd a b k k
      obtain ⟨p1, p2⟩ := bit_mul_pw_bd a b k (by omega)
      have e0 := shl_pwn k
      go_wp2_with (go_at_call 71; refine (l1Bit_any _ _ (by omega) (by omega) (by omega) _).mono ?_; rintro e w' ⟨rfl, rfl⟩)
      go_round
      case rel => exact ⟨k + 1, by omega, by go_num, by rw [HS.out]⟩
      case measure => simp [intOf]; omega
    · go_wp2
      go_ret
      exact ⟨ret_i (by rw [show k = 30 by omega]; exact lowAnd_30 a b ha ha' hb hb'), rfl⟩
theorem l1Or_any (a b : Int) (ha : 0 ≤ a) (ha' : a < 1073741824) (hb : 0 ≤ b) (hb' : b < 1073741824) (w : World) :
    Calls Try.prog 74 #[.int .i64 a, .int .i64 b] w fun e w' => e = .returned (.int .i64 (orZ a b)) ∧ w = w' := by
  have h1 := andZ_nonneg a b
  have h2 := andZ_le a b ha
  go_enter Try.func74, Try.ntmps74
  go_wp2_with (go_at_call 80; refine (l1And_any a b ha ha' hb hb' _).mono ?_; rintro e w' ⟨rfl, rfl⟩)
  go_ret
  exact ⟨ret_i (orZ_eq a b ha hb), rfl⟩
theorem l1Xor_any (a b : Int) (ha : 0 ≤ a) (ha' : a < 1073741824) (hb : 0 ≤ b) (hb' : b < 1073741824) (w : World) :
    Calls Try.prog 78 #[.int .i64 a, .int .i64 b] w fun e w' => e = .returned (.int .i64 (xorZ a b)) ∧ w = w' := by
  have h1 := andZ_nonneg a b
  have h2 := andZ_le a b ha
  go_enter Try.func78, Try.ntmps78
  go_wp2_with (go_at_call 80; refine (l1And_any a b ha ha' hb hb' _).mono ?_; rintro e w' ⟨rfl, rfl⟩)
  go_ret
  exact ⟨ret_i (xorZ_eq a b ha hb), rfl⟩
end Go.Proofs.Ytgbgpibaincheaa
