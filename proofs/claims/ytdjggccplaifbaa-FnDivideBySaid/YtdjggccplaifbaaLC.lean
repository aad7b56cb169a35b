/- The walks of the laws of constants (chapter 4); no condition but that the code is a slice of bytes that can be read. -/
import Derived.Test.YtdjggccplaifbaaWD
import Derived.Test.YtdjggccplaifbaaWN
import Derived.Test.YtdjggccplaifbaaEq
import Derived.Test.YtdjggccplaifbaaDT
import Derived.Test.YtdjggccplaifbaaMathC
namespace Go.Proofs.Ytdjggccplaifbaa
open Go.RowKit
theorem bt {a b c : World} (h : Below a.heap.size a b) (g : Below b.heap.size b c) : Below a.heap.size a c := h.trans (g.mono h.size)
theorem FnInverseOf_walk (a0 : Option Addr) (len0 cap0 : Nat) (w : World) (h0 : Code8 w a0 len0 cap0) :
    Calls Try.prog 14 #[.slice a0 len0 cap0] w fun e w' => e = .returned (.bool true) ∧ Below w.heap.size w w' := by
  have hm := h0.2.1
  have hlc := h0.1
  unfold maxLen at hm
  by_cases hbig : 1048576 < len0
  · clear h0
    go_enter Try.func14, Try.ntmps14
    go_wp2
    go_ret
    exact ⟨rfl, Below.refl _ _⟩
  have H0 := hd h0
  clear h0
  go_enter Try.func14, Try.ntmps14
  go_wp2_with fail
  refine (DrawInverseOf_any a0 len0 cap0 w H0.out).mono ?_
  rintro e w1 ⟨k, x, rfl, _, b1⟩
  rcases hv : oddB k x with _ | _
  · rcases hvv : vld k x with _ | _
    · go_wp2_with fail
      refine (implInverseOf_bad k x hv w1).mono ?_
      rintro e w2 ⟨rfl, b2⟩
      go_wp2_with fail
      refine (specInverseOf_bad k x hv w2).mono ?_
      rintro e w3 ⟨rfl, b3⟩
      go_wp2_with fail
      refine (implWordValid_any k x w3).mono ?_
      rintro e w4 ⟨rfl, rfl⟩
      go_wp2_with fail
      refine (alive_any w3).mono ?_
      rintro e w4 ⟨rfl, b4⟩
      go_wp2
      go_ret
      exact ⟨rfl, (bt (bt (bt b1 b2) b3) b4)⟩
    · obtain ⟨h1, h2, h3, h4, h5, h6⟩ := vld_4096 hvv
      have hx2 : x % 2 = 0 := by
        have : ¬ x % 2 = 1 := by simpa [oddB, hvv] using hv
        omega
      go_wp2_with fail
      refine (implInverseOf_bad k x hv w1).mono ?_
      rintro e w2 ⟨rfl, b2⟩
      go_wp2_with fail
      refine (specInverseOf_bad k x hv w2).mono ?_
      rintro e w3 ⟨rfl, b3⟩
      go_wp2_with fail
      refine (implWordValid_any k x w3).mono ?_
      rintro e w4 ⟨rfl, rfl⟩
      go_wp2_with fail
      refine (alive_any w3).mono ?_
      rintro e w4 ⟨rfl, b4⟩
      go_wp2
      go_ret
      exact ⟨rfl, (bt (bt (bt b1 b2) b3) b4)⟩
  · obtain ⟨hvv, ho⟩ := oddB_true hv
    obtain ⟨h1, h2, h3, h4, h5, h6⟩ := vld_4096 hvv
    obtain ⟨i1, i2, i3⟩ := ivZ_is k x hv
    have HO := hd (ivZ_odd k x hv)
    have HV := hd (show vld2 k x (ivZ k x) = true by unfold vld2; rw [hvv, vld_mk h1 h2 i2 i3]; rfl)
    have hii := ivZ_ivZ k x hv
    clear hvv
    go_wp2_with fail
    refine (implInverseOf_ok k x hv w1).mono ?_
    rintro e w2 ⟨rfl, b2⟩
    go_wp2_with fail
    refine (specInverseOf_ok k x hv w2).mono ?_
    rintro e w3 ⟨rfl, b3⟩
    go_wp2_with fail
    refine (implWordTimes_ok k x (ivZ k x) HV.out w3).mono ?_
    rintro e w4 ⟨rfl, b4⟩
    go_wp2_with fail
    refine (implInverseOf_ok k (ivZ k x) HO.out w4).mono ?_
    rintro e w5 ⟨rfl, b5⟩
    go_wp2
    go_ret
    exact ⟨rfl, (bt (bt (bt (bt b1 b2) b3) b4) b5)⟩
theorem FnNafTimes_walk (a0 : Option Addr) (len0 cap0 : Nat) (w : World) (h0 : Code8 w a0 len0 cap0) :
    Calls Try.prog 17 #[.slice a0 len0 cap0] w fun e w' => e = .returned (.bool true) ∧ Below w.heap.size w w' := by
  have hm := h0.2.1
  have hlc := h0.1
  unfold maxLen at hm
  by_cases hbig : 1048576 < len0
  · clear h0
    go_enter Try.func17, Try.ntmps17
    go_wp2
    go_ret
    exact ⟨rfl, Below.refl _ _⟩
  have H0 := hd h0
  clear h0
  go_enter Try.func17, Try.ntmps17
  go_wp2_with fail
  refine (DrawNafTimes_any a0 len0 cap0 w H0.out).mono ?_
  rintro e w1 ⟨k, x, n, rfl, _, b1⟩
  rcases hv : (vld k x && inB n 0 4095) with _ | _
  · go_wp2_with fail
    refine (implNafTimes_bad k x n hv w1).mono ?_
    rintro e w2 ⟨rfl, rfl⟩
    go_wp2_with fail
    refine (specNafTimes_bad k x n hv w1).mono ?_
    rintro e w2 ⟨rfl, rfl⟩
    go_wp2_with fail
    refine (alive_any w1).mono ?_
    rintro e w2 ⟨rfl, b2⟩
    go_wp2
    go_ret
    exact ⟨rfl, (bt b1 b2)⟩
  · obtain ⟨g1, g2⟩ : vld k x = true ∧ inB n 0 4095 = true := by simpa using hv
    obtain ⟨h1, h2, h3, h4, h5, h6⟩ := vld_4096 g1
    have HV := hd (show vld2 k x (n % pw k) = true by unfold vld2; rw [g1, vld_mod k n h1 h2]; rfl)
    have hem : x * (n % pw k) % pw k = x * n % pw k := by rw [Int.mul_emod, Int.emod_emod, ← Int.mul_emod]
    have hy := mod_bd (x * n) k h1 h2
    clear hv
    go_wp2_with fail
    refine (implNafTimes_ok k x n g1 g2 w1).mono ?_
    rintro e w2 ⟨rfl, b2⟩
    go_wp2_with fail
    refine (specNafTimes_ok k x n g1 g2 w2).mono ?_
    rintro e w3 ⟨rfl, b3⟩
    go_wp2_with fail
    refine (implWordOf_ok k n h1 h2 w3).mono ?_
    rintro e w4 ⟨rfl, rfl⟩
    go_wp2_with fail
    refine (implWordTimes_ok k x (n % pw k) HV.out w3).mono ?_
    rintro e w4 ⟨rfl, b4⟩
    go_wp2
    go_ret
    exact ⟨rfl, (bt (bt (bt b1 b2) b3) b4)⟩
theorem FnNafMany_walk (a0 : Option Addr) (len0 cap0 : Nat) (w : World) (h0 : Code8 w a0 len0 cap0) :
    Calls Try.prog 12 #[.slice a0 len0 cap0] w fun e w' => e = .returned (.bool true) ∧ Below w.heap.size w w' := by
  have hm := h0.2.1
  have hlc := h0.1
  unfold maxLen at hm
  by_cases hbig : 1048576 < len0
  · clear h0
    go_enter Try.func12, Try.ntmps12
    go_wp2
    go_ret
    exact ⟨rfl, Below.refl _ _⟩
  have H0 := hd h0
  clear h0
  go_enter Try.func12, Try.ntmps12
  go_wp2_with fail
  refine (DrawNafMany_any a0 len0 cap0 w H0.out).mono ?_
  rintro e w1 ⟨n, rfl, _, b1⟩
  rcases hv : inB n 0 4095 with _ | _
  · go_wp2_with fail
    refine (implNafMany_bad n hv w1).mono ?_
    rintro e w2 ⟨rfl, rfl⟩
    go_wp2_with fail
    refine (specNafMany_bad n hv w1).mono ?_
    rintro e w2 ⟨rfl, rfl⟩
    go_wp2_with fail
    refine (alive_any w1).mono ?_
    rintro e w2 ⟨rfl, b2⟩
    go_wp2
    go_ret
    exact ⟨rfl, (bt b1 b2)⟩
  · obtain ⟨n1, n2⟩ := inB_true.1 hv
    obtain ⟨c1, c2, c3⟩ := naf_many n n1 n2
    go_wp2_with fail
    refine (implNafMany_ok n hv w1).mono ?_
    rintro e w2 ⟨rfl, b2⟩
    go_wp2_with fail
    refine (specNafMany_ok n hv w2).mono ?_
    rintro e w3 ⟨rfl, b3⟩
    have C1 := hd c1
    have C2 := hd c2
    obtain ⟨M, hM⟩ : ∃ M, nmZ n = M := ⟨_, rfl⟩
    rw [hM] at C1 C2 c3
    go_wp2
    go_loop [5, 6] (fun o i => ∃ j : Nat, j ≤ 12 ∧ i = .int .i64 j ∧ o = .int .i64 (oneZ n j)) (fun _ i => 12 - (intOf i).toNat)
    case atStart => exact ⟨0, by omega, rfl, rfl⟩
    case round =>
      obtain ⟨j, hj, rfl, rfl⟩ := hrel
      have hb := oneZ_bd n j
      by_cases hlt : j < 12
      · have HS := hd (show oneZ n (j + 1) = oneZ n j + n / 2 ^ j % 2 from rfl)
        have hd0 : 0 ≤ n / 2 ^ j := Int.ediv_nonneg n1 (Int.le_of_lt (Int.pow_pos (by decide)))
        go_wp2
        go_round
        case rel => exact ⟨j + 1, by omega, by go_num, by rw [HS.out]⟩
        case measure => simp [intOf]; omega
      · have hle : M ≤ oneZ n j := by rw [show j = 12 by omega]; exact C1.out
        by_cases hn0 : n = 0
        · have hM0 : M = 0 := C2.out.2 hn0
          have q1 : (M == 0) = true := by simpa using hM0
          have q2 : (n == 0) = true := by simpa using hn0
          have HN := hd (show nmZ (2 * n) = M by rw [nmZ_double n n1]; exact hM)
          have hi2 := inB_mk (n := 2 * n) (lo := 0) (hi := 4095) (by omega) (by omega)
          have h2n : 2 * n ≤ 4095 := by omega
          clear hn0 hM0
          go_wp2_with (go_at_call 47; refine (implNafMany_ok _ hi2 w3).mono ?_; rintro e w4 ⟨he, b4⟩; rw [HN.out] at he; subst he)
          go_ret
          exact ⟨rfl, bt (bt (bt b1 b2) b3) b4⟩
        · have hM0 : ¬ M = 0 := fun g => hn0 (C2.out.1 g)
          have q1 : (M == 0) = false := by simpa using hM0
          have q2 : (n == 0) = false := by simpa using hn0
          by_cases h2n : 4095 < 2 * n
          · clear hn0 hM0
            go_wp2
            go_ret
            exact ⟨rfl, bt (bt b1 b2) b3⟩
          · have HN := hd (show nmZ (2 * n) = M by rw [nmZ_double n n1]; exact hM)
            have hi2 := inB_mk (n := 2 * n) (lo := 0) (hi := 4095) (by omega) (by omega)
            clear hn0 hM0
            go_wp2_with (go_at_call 47; refine (implNafMany_ok _ hi2 w3).mono ?_; rintro e w4 ⟨he, b4⟩; rw [HN.out] at he; subst he)
            go_ret
            exact ⟨rfl, bt (bt (bt b1 b2) b3) b4⟩
end Go.Proofs.Ytdjggccplaifbaa
