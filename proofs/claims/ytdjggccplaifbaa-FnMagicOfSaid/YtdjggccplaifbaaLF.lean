/- The walks of the laws of MagicOf and DivideBy (chapter 4); no condition but that the code is a slice of bytes that can be read. -/
import Derived.Test.YtdjggccplaifbaaLE
import Derived.Test.YtdjggccplaifbaaDV
namespace Go.Proofs.Ytdjggccplaifbaa
open Go.RowKit
theorem mofB_false {k d : Int} (h : mofB k d = false) : k < 1 ∨ 12 < k ∨ d < 1 ∨ (1 ≤ k ∧ k ≤ 12 ∧ pw k ≤ d) := by
  rcases Classical.em (k < 1 ∨ 12 < k ∨ d < 1 ∨ pw k ≤ d) with hc | hc
  · omega
  · have : mofB k d = true := by
      unfold mofB
      rw [inB_mk (by omega) (by omega), inB_mk (by omega) (by omega)]
      rfl
    rw [this] at h; cases h
set_option maxHeartbeats 800000 in
theorem FnMagicOf_walk (a0 : Option Addr) (len0 cap0 : Nat) (w : World) (h0 : Code8 w a0 len0 cap0) :
    Calls Try.prog 11 #[.slice a0 len0 cap0] w fun e w' => e = .returned (.bool true) ∧ Below w.heap.size w w' := by
  have hm := h0.2.1
  have hlc := h0.1
  unfold maxLen at hm
  by_cases hbig : 1048576 < len0
  · clear h0
    go_enter Try.func11, Try.ntmps11
    go_wp2
    go_ret
    exact ⟨rfl, Below.refl _ _⟩
  have H0 := hd h0
  clear h0
  go_enter Try.func11, Try.ntmps11
  go_wp2_with fail
  refine (DrawMagicOf_any a0 len0 cap0 w H0.out).mono ?_
  rintro e w1 ⟨k, d, rfl, ⟨⟨k1, k2⟩, d1, d2⟩, b1⟩
  rcases hv : mofB k d with _ | _
  · have hn := hd (mofB_false hv)
    go_wp2_with fail
    refine (implMagicOf_bad k d hv w1).mono ?_
    rintro e w2 ⟨rfl, rfl⟩
    go_wp2_with fail
    refine (specMagicOf_bad k d hv w1).mono ?_
    rintro e w2 ⟨rfl, rfl⟩
    rcases hn.out with hc | hc | hc | ⟨hc1, hc2, hc⟩
    · go_wp2_with (go_at_call 35; refine (alive_any _).mono ?_; rintro e w' ⟨rfl, b2⟩)
      go_ret
      exact ⟨rfl, bt b1 b2⟩
    · go_wp2_with (go_at_call 35; refine (alive_any _).mono ?_; rintro e w' ⟨rfl, b2⟩)
      go_ret
      exact ⟨rfl, bt b1 b2⟩
    · by_cases hk : k < 1
      · go_wp2_with (go_at_call 35; refine (alive_any _).mono ?_; rintro e w' ⟨rfl, b2⟩)
        go_ret
        exact ⟨rfl, bt b1 b2⟩
      · go_wp2_with (go_at_call 35; refine (alive_any _).mono ?_; rintro e w' ⟨rfl, b2⟩)
        all_goals
          go_ret
          exact ⟨rfl, bt b1 b2⟩
    · have hp := pw_w k hc1 hc2
      have ek := shl_pw k
      have s0 := wr (pw k) (by omega)
      have q0 : (2 : Int) ^ k.toNat = pw k := rfl
      by_cases hd1 : d < 1
      · go_wp2_with (go_at_call 35; refine (alive_any _).mono ?_; rintro e w' ⟨rfl, b2⟩)
        all_goals
          go_ret
          exact ⟨rfl, bt b1 b2⟩
      · go_wp2_with (go_at_call 35; refine (alive_any _).mono ?_; rintro e w' ⟨rfl, b2⟩)
        all_goals
          go_ret
          exact ⟨rfl, bt b1 b2⟩
  · obtain ⟨a1, a2, a3, a4⟩ := mofB_true hv
    obtain ⟨j, hj⟩ := mof_ex k d a1 a2 a3 a4
    have HJ := hd hj
    obtain ⟨j1, j2, j3, j4⟩ := hj
    have J4 := hd j4
    obtain ⟨m1, m2⟩ := magM_bd d j a3 (by omega) (by omega)
    clear j4
    go_wp2_with fail
    refine (implMagicOf_ok k d j hv HJ.out w1).mono ?_
    rintro e w2 ⟨rfl, n2, rfl⟩
    go_wp2_with fail
    refine (specMagicOf_ok k d j hv HJ.out _).mono ?_
    rintro e w3 ⟨rfl, n3, rfl⟩
    clear hv
    by_cases hlt : (j : Int) = k
    · subst hlt
      go_wp2_with (go_at_call 33; refine (implMagicOk_any _ _ _ _ _).mono ?_; rintro e w' ⟨rfl, n4, rfl⟩)
      all_goals
        go_ret
        exact ⟨rfl, below_drewN b1 _⟩
    · obtain ⟨i, rfl⟩ : ∃ i, j = i + 1 := ⟨j - 1, by omega⟩
      have hm2 : mokB k d ((pw i + d - 1) / d) i = false := J4.out i (by omega) (by omega)
      obtain ⟨q1, q2⟩ := pw_le24 i (by omega)
      have ei := shl_pwn i
      obtain ⟨r1, r2⟩ := magM_bd d i a3 (by omega) (by omega)
      have HM := hd (show magM d i = (pw i + d - 1) / d from rfl)
      go_wp2_with (go_at_call 33; refine (implMagicOk_any _ _ _ _ _).mono ?_; rintro e w' ⟨rfl, n4, rfl⟩)
      go_ret
      exact ⟨rfl, below_drewN b1 _⟩
end Go.Proofs.Ytdjggccplaifbaa
