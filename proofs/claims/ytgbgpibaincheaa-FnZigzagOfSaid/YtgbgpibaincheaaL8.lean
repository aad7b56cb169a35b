/- The walk of the law of ZigzagOf (chapter 5); no condition but that the code is a slice of bytes that can be read. -/
import Derived.Test.YtgbgpibaincheaaL7
namespace Go.Proofs.Ytgbgpibaincheaa
open Go.RowKit
set_option linter.unusedSimpArgs false in
theorem FnZigzagOf_walk (a0 : Option Addr) (len0 cap0 : Nat) (w : World) (h0 : Code8 w a0 len0 cap0) :
    Calls Try.prog 14 #[.slice a0 len0 cap0] w fun e w' => e = .returned (.bool true) ∧ Below w.heap.size w w' := by
  have hm := h0.2.1
  have hlc := h0.1
  unfold maxLen at hm
  by_cases hbig : 1048576 < len0
  · clear h0
    go_enter Try.func14, Try.ntmps14
    go_wp2
    go_ret
    exact ⟨rfl, Below.refl _ _⟩
  have H0 := hd h0
  clear h0
  go_enter Try.func14, Try.ntmps14
  go_wp2_with fail
  refine (DrawZigzagOf_any a0 len0 cap0 w H0.out).mono ?_
  rintro e w1 ⟨k, x, rfl, _, b1⟩
  rcases hv : vld k x with _ | _
  · go_wp2_with fail
    refine (implZigzagOf_bad k x hv w1).mono ?_
    rintro e w2 ⟨rfl, b2⟩
    go_wp2_with fail
    refine (specZigzagOf_bad k x hv w2).mono ?_
    rintro e w3 ⟨rfl, rfl⟩
    go_wp2_with fail
    refine (alive_any w2).mono ?_
    rintro e w3 ⟨rfl, b3⟩
    go_wp2
    go_ret
    exact ⟨rfl, (bt (bt b1 b2) b3)⟩
  · obtain ⟨z1, z2, z3, z4⟩ := zz_is k x hv
    obtain ⟨h1, h2, h3, h4, h5, h6⟩ := vld_4096 z4
    obtain ⟨s1, s2, s3, s4⟩ := sgZ_bd k x hv
    have HZ := hd (show zzZ k x = if 0 ≤ sgZ k x then 2 * sgZ k x else -2 * sgZ k x - 1 from rfl)
    have Z4 := hd z4
    have Z3 := hd z3
    clear z1 z2 z3 z4 s3
    obtain ⟨Y, hY⟩ : ∃ Y, zzZ k x = Y := ⟨_, rfl⟩
    obtain ⟨n, hn⟩ : ∃ n, sgZ k x = n := ⟨_, rfl⟩
    have HY := hd hY
    have HN := hd hn
    rw [hY] at h3 h4 HZ Z4 Z3
    rw [hn] at s1 s2 HZ
    go_wp2_with fail
    refine (implZigzagOf_ok k x hv w1).mono ?_
    rintro e w2 ⟨he, b2⟩
    rw [hY] at he
    subst he
    go_wp2_with fail
    refine (specZigzagOf_ok k x hv w2).mono ?_
    rintro e w3 ⟨he, rfl⟩
    rw [hY] at he
    subst he
    go_wp2_with fail
    refine (implSignedOf_ok k x hv w2).mono ?_
    rintro e w3 ⟨he, rfl⟩
    rw [hn] at he
    subst he
    clear hY hn
    go_wp2
    go_loop [7] (fun v => ∃ i : Int, 0 ≤ i ∧ i ≤ k ∧ v = .int .i64 i) (fun v => (k - intOf v).toNat)
    case atStart => exact ⟨0, by omega, by omega, rfl⟩
    case round =>
      obtain ⟨i, hi, hik, rfl⟩ := hrel
      have hp := pw_pos i
      have hp2 := pw_le12 i (by omega)
      have q0 : (2 : Int) ^ i.toNat = pw i := rfl
      have q1 := wr (pw i) (by omega)
      have q2 := wr (-pw i) (by omega)
      have q3 := wr (2 * pw i) (by omega)
      by_cases hlt : i < k
      · by_cases hn0 : 0 ≤ n
        · have hy : Y = 2 * n := by have h0 := HZ.out; rw [if_pos hn0] at h0; exact h0
          by_cases hc : n < pw i
          · go_wp2
            all_goals first
              | exact ⟨⟨i + 1, by omega, by omega, rfl⟩, by simp only [intOf]; omega⟩
              | (constructor
                 · omega
                 · simp only [intOf]; omega)
          · go_wp2
            all_goals first
              | exact ⟨⟨i + 1, by omega, by omega, rfl⟩, by simp only [intOf]; omega⟩
              | (constructor
                 · omega
                 · simp only [intOf]; omega)
        · have hy : Y = -2 * n - 1 := by have h0 := HZ.out; rw [if_neg hn0] at h0; exact h0
          by_cases hc : -pw i ≤ n
          · have d1 : decide (n < pw i) = true := by rw [decide_eq_true_eq]; omega
            have d2 : decide (-2 * n - 1 < 2 * pw i) = true := by rw [decide_eq_true_eq]; omega
            go_wp2
            all_goals first
              | (rename_i hh; exfalso; rw [d1, d2] at hh; cases hh)
              | exact ⟨⟨i + 1, by omega, by omega, rfl⟩, by simp only [intOf]; omega⟩
              | (constructor
                 · omega
                 · simp only [intOf]; omega)
          · go_wp2
            all_goals first
              | exact ⟨⟨i + 1, by omega, by omega, rfl⟩, by simp only [intOf]; omega⟩
              | (constructor
                 · omega
                 · simp only [intOf]; omega)
      · clear q0 q1 q2 q3
        go_wp2_with fail
        refine (implWordValid_any k Y w2).mono ?_
        rintro e w3 ⟨rfl, rfl⟩
        go_wp2_with fail
        have C := implZigzagBack_ok k Y Z4.out w2
        rw [Z3.out] at C
        refine C.mono ?_
        rintro e w3 ⟨rfl, rfl⟩
        go_wp2
        go_ret
        exact ⟨rfl, bt b1 b2⟩
end Go.Proofs.Ytgbgpibaincheaa
