/- Contracts of the functions of words (chapter 1) of the program and of the reference; conditions: the bounds that are written at each. -/
import Derived.Test.YthbpcgefcnpfmaaRows
import Derived.Test.YthbpcgefcnpfmaaBits
import Derived.WalkKit
import Derived.WalkSpells
import Derived.WalkLawsBesides
import Derived.Deep.QuietTactic
import Derived.BigQuiet
namespace Go.Proofs.Ythbpcgefcnpfmaa
open Go.RowKit

theorem hd {p : Prop} (h : p) : Hid p := h
theorem quiet_add_left {P : Program} {f : FuncId} {args : Array Value} {w : World} {a n : Nat} {v : Value}
    (h : Calls P f args (w.drewN (a + n)) fun e w' => e = .returned v ∧ w.drewN (a + n) = w') :
    Calls P f args (w.drewN (a + n)) fun e w'' => e = .returned v ∧ ∃ m, w'' = w.drewN (a + m) :=
  h.mono fun _ _ ⟨he, hm⟩ => ⟨he, n, hm.symm⟩
theorem quiet_left {P : Program} {f : FuncId} {args : Array Value} {w : World} {n : Nat} {v : Value}
    (h : Calls P f args (w.drewN n) fun e w' => e = .returned v ∧ w.drewN n = w') : Calls P f args (w.drewN n) fun e w'' => e = .returned v ∧ ∃ m, w'' = w.drewN m :=
  h.mono fun _ _ ⟨he, hm⟩ => ⟨he, n, hm.symm⟩
theorem drewN2 (w : World) (n m : Nat) : (w.drewN n).drewN m = w.drewN (n + m) := by simp
/-- a sum that Go's int holds -/
theorem wr (n : Int) (h : -9223372036854775808 ≤ n ∧ n ≤ 9223372036854775807) : IntKind.i64.wrap n = n := IntWalk.i64_in n h
theorem ret_i {k : IntKind} {a b : Int} (h : a = b) : Ending.returned (.int k a) = .returned (.int k b) := by rw [h]
theorem ret_b {a b : Bool} (h : a = b) : Ending.returned (.bool a) = .returned (.bool b) := by rw [h]

theorem within_any (n lo hi : Int) (w : World) :
    Calls Try.prog 66 #[.int .i64 n, .int .i64 lo, .int .i64 hi] w fun e w' => e = .returned (.bool (inB n lo hi)) ∧ w = w' := by
  by_cases h1 : lo ≤ n
  · by_cases h2 : n ≤ hi
    all_goals
      go_enter Try.func66, Try.ntmps66
      go_wp2
      go_ret
      exact ⟨ret_b (by simp only [inB]; first | exact (decide_eq_true (by omega)).symm | exact (decide_eq_false (by omega)).symm), rfl⟩
  · go_enter Try.func66, Try.ntmps66
    go_wp2
    go_ret
    exact ⟨ret_b (by simp only [inB]; exact (decide_eq_false (by omega)).symm), rfl⟩
theorem l1In_any (n lo hi : Int) (w : World) :
    Calls Try.prog 85 #[.int .i64 n, .int .i64 lo, .int .i64 hi] w fun e w' => e = .returned (.bool (inB n lo hi)) ∧ w = w' := by
  by_cases h1 : lo ≤ n
  · by_cases h2 : n ≤ hi
    all_goals
      go_enter Try.func85, Try.ntmps85
      go_wp2
      go_ret
      exact ⟨ret_b (by simp only [inB]; first | exact (decide_eq_true (by omega)).symm | exact (decide_eq_false (by omega)).symm), rfl⟩
  · go_enter Try.func85, Try.ntmps85
    go_wp2
    go_ret
    exact ⟨ret_b (by simp only [inB]; exact (decide_eq_false (by omega)).symm), rfl⟩
theorem isWidth_any (n : Int) (w : World) :
    Calls Try.prog 65 #[.int .i64 n] w fun e w' => e = .returned (.bool (inB n 1 12)) ∧ w = w' := by
  go_enter Try.func65, Try.ntmps65
  go_wp2_with (go_at_call 66; refine (within_any _ _ _ _).mono ?_; rintro e w' ⟨rfl, rfl⟩)
  go_ret
  exact ⟨rfl, rfl⟩
theorem power_any (n : Int) (h0 : 0 ≤ n) (h : n ≤ 61) (w : World) :
    Calls Try.prog 56 #[.int .i64 n] w fun e w' => e = .returned (.int .i64 (pw n)) ∧ w = w' := by
  have hp := pw_pos n
  have hle := pw_le n 61 h
  have hk : pw 61 = 2305843009213693952 := by decide
  rw [hk] at hle
  have e0 := shl_pw n
  clear hk
  go_enter Try.func56, Try.ntmps56
  go_wp2
  go_ret
  exact ⟨rfl, rfl⟩
theorem greatest_any (n : Int) (h0 : 0 ≤ n) (h : n ≤ 61) (w : World) :
    Calls Try.prog 67 #[.int .i64 n] w fun e w' => e = .returned (.int .i64 (pw n - 1)) ∧ w = w' := by
  have hp := pw_pos n
  have hle := pw_le61 n h
  go_enter Try.func67, Try.ntmps67
  go_wp2_with (go_at_call 56; refine (power_any n h0 h _).mono ?_; rintro e w' ⟨rfl, rfl⟩)
  go_ret
  exact ⟨rfl, rfl⟩
theorem bit_any (x k : Int) (h0 : 0 ≤ k) (h : k ≤ 61) (w : World) :
    Calls Try.prog 73 #[.int .i64 x, .int .i64 k] w fun e w' => e = .returned (.int .i64 (bitZ x k)) ∧ w = w' := by
  have e0 := shl_pw k
  have e1 := i64_and_1 (x / pw k)
  go_enter Try.func73, Try.ntmps73
  go_wp2
  go_ret
  exact ⟨rfl, rfl⟩
theorem cut_any (k n : Int) (h0 : 0 ≤ k) (h : k ≤ 61) (w : World) :
    Calls Try.prog 57 #[.int .i64 k, .int .i64 n] w fun e w' => e = .returned (.int .i64 (n % pw k)) ∧ w = w' := by
  have e1 := i64_and_mask n k (by omega)
  go_enter Try.func57, Try.ntmps57
  go_wp2_with (go_at_call 67; refine (greatest_any k h0 h _).mono ?_; rintro e w' ⟨rfl, rfl⟩)
  go_ret
  exact ⟨rfl, rfl⟩
theorem implWordValid_any (k x : Int) (w : World) :
    Calls Try.prog 24 #[.int .i64 k, .int .i64 x] w fun e w' => e = .returned (.bool (vld k x)) ∧ w = w' := by
  by_cases hk : 1 ≤ k ∧ k ≤ 12
  · have hb : inB k 1 12 = true := inB_true.2 hk
    go_enter Try.func24, Try.ntmps24
    go_wp2_with (first
      | (go_at_call 65; refine (isWidth_any _ _).mono ?_; rintro e w' ⟨rfl, rfl⟩)
      | (go_at_call 67; refine (greatest_any k (by omega) (by omega) _).mono ?_; rintro e w' ⟨rfl, rfl⟩)
      | (go_at_call 66; refine (within_any _ _ _ _).mono ?_; rintro e w' ⟨rfl, rfl⟩))
    go_ret
    exact ⟨ret_b (vld_eq_inB hk.1 hk.2), rfl⟩
  · have hb : inB k 1 12 = false := inB_false.2 hk
    go_enter Try.func24, Try.ntmps24
    go_wp2_with (go_at_call 65; refine (isWidth_any _ _).mono ?_; rintro e w' ⟨rfl, rfl⟩)
    go_ret
    exact ⟨ret_b (vld_bad_width hk x).symm, rfl⟩
theorem specWordValid_any (k x : Int) (w : World) :
    Calls Try.prog 76 #[.int .i64 k, .int .i64 x] w fun e w' => e = .returned (.bool (vld k x)) ∧ w = w' := by
  by_cases hk : 1 ≤ k ∧ k ≤ 12
  · have hb : inB k 1 12 = true := inB_true.2 hk
    have e0 := shl_pw k
    obtain ⟨hp, hp'⟩ := pw_w k hk.1 hk.2
    go_enter Try.func76, Try.ntmps76
    go_wp2_with (go_at_call 85; refine (l1In_any _ _ _ _).mono ?_; rintro e w' ⟨rfl, rfl⟩)
    go_ret
    exact ⟨ret_b (vld_eq_inB hk.1 hk.2), rfl⟩
  · have hb : inB k 1 12 = false := inB_false.2 hk
    go_enter Try.func76, Try.ntmps76
    go_wp2_with (go_at_call 85; refine (l1In_any _ _ _ _).mono ?_; rintro e w' ⟨rfl, rfl⟩)
    go_ret
    exact ⟨ret_b (vld_bad_width hk x).symm, rfl⟩
theorem signed_any (k x : Int) (h : vld k x = true) (w : World) :
    Calls Try.prog 69 #[.int .i64 k, .int .i64 x] w fun e w' => e = .returned (.int .i64 (sgZ k x)) ∧ w = w' := by
  obtain ⟨h1, h2, h3, h4, h5, h6⟩ := vld_4096 h
  obtain ⟨h7, h8⟩ := bitZ_mul_bd x k (k - 1) h1 h2
  clear h
  go_enter Try.func69, Try.ntmps69
  go_wp2_with (first
    | (go_at_call 73; refine (bit_any x _ (by omega) (by omega) _).mono ?_; rintro e w' ⟨rfl, rfl⟩)
    | (go_at_call 56; refine (power_any k (by omega) (by omega) _).mono ?_; rintro e w' ⟨rfl, rfl⟩))
  go_ret
  exact ⟨rfl, rfl⟩
theorem l1Bit_any (x k : Int) (hx : 0 ≤ x) (h0 : 0 ≤ k) (h : k ≤ 61) (w : World) :
    Calls Try.prog 74 #[.int .i64 x, .int .i64 k] w fun e w' => e = .returned (.int .i64 (bitZ x k)) ∧ w = w' := by
  have e0 := shl_pw k
  have hp := pw_pos k
  have hd : 0 ≤ x / pw k := Int.ediv_nonneg hx (by omega)
  go_enter Try.func74, Try.ntmps74
  go_wp2
  go_ret
  exact ⟨rfl, rfl⟩
theorem l1Mod_any (k n : Int) (h0 : 0 ≤ k) (h : k ≤ 61) (w : World) :
    Calls Try.prog 54 #[.int .i64 k, .int .i64 n] w fun e w' => e = .returned (.int .i64 (n % pw k)) ∧ w = w' := by
  have e0 := shl_pw k
  have hp := pw_pos k
  have hle := pw_le61 k h
  rcases tmod_pw n (pw k) hp with ⟨ht, he⟩ | ⟨ht, hl, he⟩
  all_goals
    obtain ⟨t, hT⟩ : ∃ t, t = n.tmod (pw k) := ⟨_, rfl⟩
    rw [← hT] at ht he
    have HE := hd he
    have hT' := hT.symm
    clear he hT
  · go_enter Try.func54, Try.ntmps54
    go_wp2
    go_ret
    exact ⟨ret_i HE.out, rfl⟩
  · rw [hT'] at hl
    go_enter Try.func54, Try.ntmps54
    go_wp2
    go_ret
    exact ⟨ret_i HE.out, rfl⟩
theorem specSignedOf_ok (k x : Int) (h : vld k x = true) (w : World) :
    Calls Try.prog 70 #[.int .i64 k, .int .i64 x] w fun e w' => e = .returned (.int .i64 (sgZ k x)) ∧ w = w' := by
  obtain ⟨h1, h2, h3, h4, h5, h6⟩ := vld_4096 h
  have e0 := shl_pw k
  rcases bitZ_01 x (k - 1) with hb | hb
  all_goals
    go_enter Try.func70, Try.ntmps70
    go_wp2_with (first
      | (go_at_call 76; refine (specWordValid_any _ _ _).mono ?_; rintro e w' ⟨rfl, rfl⟩)
      | (go_at_call 74; refine (l1Bit_any x _ (by omega) (by omega) (by omega) _).mono ?_; rintro e w' ⟨rfl, rfl⟩))
    go_ret
    exact ⟨ret_i (by simp [sgZ, hb]), rfl⟩
theorem specSignedOf_bad (k x : Int) (h : vld k x = false) (w : World) :
    Calls Try.prog 70 #[.int .i64 k, .int .i64 x] w fun e w' => e = .returned (.int .i64 0) ∧ w = w' := by
  go_enter Try.func70, Try.ntmps70
  go_wp2_with (go_at_call 76; refine (specWordValid_any _ _ _).mono ?_; rintro e w' ⟨rfl, rfl⟩)
  go_ret
  exact ⟨rfl, rfl⟩
