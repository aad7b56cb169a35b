/- The walks of further laws of chapter 5; no condition but that the code is a slice of bytes that can be read. -/
import Derived.Test.YtgbgpibaincheaaW8
import Derived.Test.YtgbgpibaincheaaMathY
import Derived.Test.YtgbgpibaincheaaDF
import Derived.Test.YtgbgpibaincheaaQC
import Derived.Test.YtgbgpibaincheaaEq
namespace Go.Proofs.Ytgbgpibaincheaa
open Go.RowKit
theorem btp {a b c : World} (h : Below a.heap.size a b) (g : Below b.heap.size b c) : Below a.heap.size a c := h.trans (g.mono h.size)
theorem vld2p {k a b : Int} (h : vld k a = true) (g : vld k b = true) : vld2 k a b = true := by unfold vld2; rw [h, g]; rfl
theorem FnPowerAbove_walk (a0 : Option Addr) (len0 cap0 : Nat) (w : World) (h0 : Code8 w a0 len0 cap0) :
    Calls Try.prog 10 #[.slice a0 len0 cap0] w fun e w' => e = .returned (.bool true) ∧ Below w.heap.size w w' := by
  have hm := h0.2.1
  have hlc := h0.1
  unfold maxLen at hm
  by_cases hbig : 1048576 < len0
  · clear h0
    go_enter Try.func10, Try.ntmps10
    go_wp2
    go_ret
    exact ⟨rfl, Below.refl _ _⟩
  have H0 := hd h0
  clear h0
  go_enter Try.func10, Try.ntmps10
  go_wp2_with fail
  refine (DrawPowerAbove_any a0 len0 cap0 w H0.out).mono ?_
  rintro e w1 ⟨k, x, rfl, _, b1⟩
  rcases hv : vld k x with _ | _
  · skip
    go_wp2_with fail
    refine (implPowerAbove_bad k x hv w1).mono ?_
    rintro e w2 ⟨rfl, rfl⟩
    go_wp2_with fail
    refine (specPowerAbove_bad k x hv w1).mono ?_
    rintro e w2 ⟨rfl, rfl⟩
    go_wp2_with (go_at_call 42; refine (alive_any _).mono ?_; rintro e w' ⟨rfl, b9⟩)
    go_ret
    exact ⟨rfl, btp b1 b9⟩
  · obtain ⟨h1, h2, h3, h4, h5, h6⟩ := vld_4096 hv
    rcases hp : vld k (paZ x) with _ | _
    · have HP := hd (show paOut k x = .tuple #[.int .i64 (-1), .bool false] by unfold paOut; rw [hp]; rfl)
      go_wp2_with fail
      refine (implPowerAbove_ok k x hv w1).mono ?_
      rintro e w2 ⟨he, rfl⟩
      rw [HP.out] at he
      subst he
      go_wp2_with fail
      refine (specPowerAbove_ok k x hv w1).mono ?_
      rintro e w2 ⟨he, rfl⟩
      rw [HP.out] at he
      subst he
      go_wp2_with (go_at_call 42; refine (alive_any _).mono ?_; rintro e w' ⟨rfl, b9⟩)
      go_ret
      exact ⟨rfl, btp b1 b9⟩
    · have HP := hd (show paOut k x = .tuple #[.int .i64 (paZ x), .bool true] by unfold paOut; rw [hp]; rfl)
      obtain ⟨_, _, g3, g4, _, _⟩ := vld_4096 hp
      obtain ⟨p1, p2, p3, p4⟩ := pa_law x h3 (by omega) (by omega)
      have HQ := hd (show paOut k (paZ x) = .tuple #[.int .i64 (paZ x), .bool true] by unfold paOut; rw [p4, hp]; rfl)
      have HV := hd hp
      have HO := hd (fun W => implOnesOf_ok k (paZ x) hp W)
      rw [p3] at HO
      have HA := hd (fun W => implPowerAbove_ok k x hv W)
      have HB := hd (fun W => specPowerAbove_ok k x hv W)
      have HC := hd (fun W => implPowerAbove_ok k (paZ x) hp W)
      rw [HP.out] at HA HB
      rw [HQ.out] at HC
      clear hp hv HP HQ p3 p4
      obtain ⟨y, hy⟩ : ∃ y, paZ x = y := ⟨_, rfl⟩
      rw [hy] at HA HB HC HO g3 g4 p1 p2
      clear hy HV
      go_wp2_with fail
      refine (HA.out w1).mono ?_
      rintro e w2 ⟨rfl, rfl⟩
      go_wp2_with fail
      refine (HB.out w1).mono ?_
      rintro e w2 ⟨rfl, rfl⟩
      go_wp2_with fail
      refine (HC.out w1).mono ?_
      rintro e w2 ⟨rfl, rfl⟩
      rcases p2 with p2 | p2
      · subst p2
        go_wp2_with (go_at_call 25; refine (HO.out _).mono ?_; rintro e w' ⟨rfl, rfl⟩)
        go_ret
        exact ⟨rfl, b1⟩
      · by_cases hy1 : y = 1
        · subst hy1
          go_wp2_with (go_at_call 25; refine (HO.out _).mono ?_; rintro e w' ⟨rfl, rfl⟩)
          go_ret
          exact ⟨rfl, b1⟩
        · go_wp2_with (go_at_call 25; refine (HO.out _).mono ?_; rintro e w' ⟨rfl, rfl⟩)
          go_ret
          exact ⟨rfl, b1⟩
theorem FnZerosAbove_walk (a0 : Option Addr) (len0 cap0 : Nat) (w : World) (h0 : Code8 w a0 len0 cap0) :
    Calls Try.prog 11 #[.slice a0 len0 cap0] w fun e w' => e = .returned (.bool true) ∧ Below w.heap.size w w' := by
  have hm := h0.2.1
  have hlc := h0.1
  unfold maxLen at hm
  by_cases hbig : 1048576 < len0
  · clear h0
    go_enter Try.func11, Try.ntmps11
    go_wp2
    go_ret
    exact ⟨rfl, Below.refl _ _⟩
  have H0 := hd h0
  clear h0
  go_enter Try.func11, Try.ntmps11
  go_wp2_with fail
  refine (DrawZerosAbove_any a0 len0 cap0 w H0.out).mono ?_
  rintro e w1 ⟨k, x, rfl, _, b1⟩
  rcases hv : vld k x with _ | _
  · skip
    go_wp2_with fail
    refine (implZerosAbove_bad k x hv w1).mono ?_
    rintro e w2 ⟨rfl, rfl⟩
    go_wp2_with fail
    refine (specZerosAbove_bad k x hv w1).mono ?_
    rintro e w2 ⟨rfl, rfl⟩
    go_wp2_with (go_at_call 42; refine (alive_any _).mono ?_; rintro e w' ⟨rfl, b9⟩)
    go_ret
    exact ⟨rfl, btp b1 b9⟩
  · obtain ⟨h1, h2, h3, h4, h5, h6⟩ := vld_4096 hv
    obtain ⟨_, _, _, _, f5, f6⟩ := fl_is k x hv
    obtain ⟨⟨g1, g2, g3, g4, g5⟩, _, _⟩ := len_is x h3 (by omega)
    have hle := len_le k x hv
    have HA := hd (fun W => implZerosAbove_ok k x hv W)
    have HB := hd (fun W => specZerosAbove_ok k x hv W)
    have HC := hd (fun W => implFillBelow_ok k x hv W)
    have HO := hd (fun W => implOnesOf_ok k (fbZ x) f6 W)
    rw [f5] at HO
    clear f5 f6
    obtain ⟨f, hf⟩ : ∃ f, fbZ x = f := ⟨_, rfl⟩
    rw [hf] at HC HO
    obtain ⟨n, hn⟩ : ∃ n, k - lenZ x = n := ⟨_, rfl⟩
    have hZ : lenZ x = k - n := by omega
    rw [hZ] at HA HB HO g1 g2 g3 g4 g5 hle
    rw [show k - (k - n) = n by omega] at HA HB
    clear hf hn hZ hv
    have ek := shl_pw (k - n)
    obtain ⟨q1, q2⟩ := pw_le12 (k - n) (by omega)
    have s0 := wr (pw (k - n)) (by omega)
    go_wp2_with fail
    refine (HA.out w1).mono ?_
    rintro e w2 ⟨rfl, rfl⟩
    go_wp2_with fail
    refine (HB.out w1).mono ?_
    rintro e w2 ⟨rfl, rfl⟩
    by_cases hnk : n = k
    · have hkn : k - n = 0 := by omega
      have hp0 : pw (k - n) = 1 := by rw [hkn]; rfl
      obtain rfl : x = 0 := by omega
      have hq : (n == k) = true := by simpa using hnk
      rw [hkn] at HO
      clear hnk g3 g4 g5 ek s0 q1 q2 hp0
      go_wp2_with (first
        | (go_at_call 27; refine (HC.out _).mono ?_; rintro e w' ⟨rfl, rfl⟩)
        | (go_at_call 25; refine (HO.out _).mono ?_; rintro e w' ⟨rfl, rfl⟩))
      go_ret
      exact ⟨rfl, b1⟩
    · have hx0 : x ≠ 0 := fun g => by have := g5 g; omega
      have hlow := g4.resolve_left hx0
      have e2 := shl_pw (k - n - 1)
      have e3 : (2 : Int) ^ ((k - n).toNat - 1) = pw (k - n - 1) := by rw [show (k - n).toNat - 1 = (k - n - 1).toNat by omega]; rfl
      have hq : (n == k) = false := by simpa using hnk
      obtain ⟨q3, q4⟩ := pw_le12 (k - n - 1) (by omega)
      have s1 := wr (pw (k - n - 1)) (by omega)
      clear g4 g5
      go_wp2_with (first
        | (go_at_call 27; refine (HC.out _).mono ?_; rintro e w' ⟨rfl, rfl⟩)
        | (go_at_call 25; refine (HO.out _).mono ?_; rintro e w' ⟨rfl, rfl⟩))
      go_ret
      exact ⟨rfl, b1⟩
theorem FnFillBelow_walk (a0 : Option Addr) (len0 cap0 : Nat) (w : World) (h0 : Code8 w a0 len0 cap0) :
    Calls Try.prog 17 #[.slice a0 len0 cap0] w fun e w' => e = .returned (.bool true) ∧ Below w.heap.size w w' := by
  have hm := h0.2.1
  have hlc := h0.1
  unfold maxLen at hm
  by_cases hbig : 1048576 < len0
  · clear h0
    go_enter Try.func17, Try.ntmps17
    go_wp2
    go_ret
    exact ⟨rfl, Below.refl _ _⟩
  have H0 := hd h0
  clear h0
  go_enter Try.func17, Try.ntmps17
  go_wp2_with fail
  refine (DrawFillBelow_any a0 len0 cap0 w H0.out).mono ?_
  rintro e w1 ⟨k, x, rfl, _, b1⟩
  rcases hv : vld k x with _ | _
  · skip
    go_wp2_with fail
    refine (implFillBelow_bad k x hv w1).mono ?_
    rintro e w2 ⟨rfl, rfl⟩
    go_wp2_with fail
    refine (specFillBelow_bad k x hv w1).mono ?_
    rintro e w2 ⟨rfl, rfl⟩
    go_wp2_with (go_at_call 42; refine (alive_any _).mono ?_; rintro e w' ⟨rfl, b9⟩)
    go_ret
    exact ⟨rfl, btp b1 b9⟩
  · obtain ⟨h1, h2, h3, h4, h5, h6⟩ := vld_4096 hv
    obtain ⟨f1, f2, f3, f4, f5, f6⟩ := fl_is k x hv
    obtain ⟨_, _, g3, g4, _, _⟩ := vld_4096 f6
    have hone : (1 : Int) % pw k = 1 := Int.emod_eq_of_lt (by omega) (by omega)
    have hv1 := vld_mk h1 h2 (show (0 : Int) ≤ 1 by omega) (by omega)
    have hm2 := mod_lt_bd (fbZ x + 1) (pw k) (by omega)
    have hv2 := vld_mk h1 h2 hm2.1 hm2.2
    have HA := hd (fun W => implFillBelow_ok k x hv W)
    have HB := hd (fun W => specFillBelow_ok k x hv W)
    have HC := hd (fun W => implFillBelow_ok k (fbZ x) f6 W)
    have HW := hd (fun W => implWordOf_ok k 1 h1 h2 W)
    rw [hone] at HW
    have HAD := hd (fun W => implWordAdd_ok k (fbZ x) 1 (vld2p f6 hv1) W)
    have HAN := hd (fun W => implWordAnd_ok k (fbZ x) ((fbZ x + 1) % pw k) (vld2p f6 hv2) W)
    rw [f3] at HAN
    rw [f4] at HC
    clear f3 f4 f5 f6 hv1 hv2 hone hv
    obtain ⟨y, hy⟩ : ∃ y, fbZ x = y := ⟨_, rfl⟩
    rw [hy] at HA HB HC HAD HAN f1 f2 g3 g4 hm2
    clear hy
    obtain ⟨z, hz⟩ : ∃ z, (y + 1) % pw k = z := ⟨_, rfl⟩
    rw [hz] at HAD HAN hm2
    clear hz
    go_wp2_with fail
    refine (HA.out w1).mono ?_
    rintro e w2 ⟨rfl, rfl⟩
    go_wp2_with fail
    refine (HB.out w1).mono ?_
    rintro e w2 ⟨rfl, rfl⟩
    rcases f2 with ⟨f2, f3⟩ | ⟨f2, f3⟩
    · subst f2
      subst f3
      go_wp2_with (first
        | (go_at_call 27; refine (HC.out _).mono ?_; rintro e w' ⟨rfl, rfl⟩)
        | (go_at_call 63; refine (HW.out _).mono ?_; rintro e w' ⟨rfl, rfl⟩)
        | (go_at_call 62; refine (HAD.out _).mono ?_; rintro e w3 ⟨rfl, b3⟩)
        | (go_at_call 59; refine (HAN.out _).mono ?_; rintro e w4 ⟨rfl, b4⟩))
      go_ret
      exact ⟨rfl, btp (btp b1 b3) b4⟩
    · go_wp2_with (first
        | (go_at_call 27; refine (HC.out _).mono ?_; rintro e w' ⟨rfl, rfl⟩)
        | (go_at_call 63; refine (HW.out _).mono ?_; rintro e w' ⟨rfl, rfl⟩)
        | (go_at_call 62; refine (HAD.out _).mono ?_; rintro e w3 ⟨rfl, b3⟩)
        | (go_at_call 59; refine (HAN.out _).mono ?_; rintro e w4 ⟨rfl, b4⟩))
      go_ret
      exact ⟨rfl, btp (btp b1 b3) b4⟩
set_option maxHeartbeats 800000 in
theorem FnNextSame_walk (a0 : Option Addr) (len0 cap0 : Nat) (w : World) (h0 : Code8 w a0 len0 cap0) :
    Calls Try.prog 21 #[.slice a0 len0 cap0] w fun e w' => e = .returned (.bool true) ∧ Below w.heap.size w w' := by
  have hm := h0.2.1
  have hlc := h0.1
  unfold maxLen at hm
  by_cases hbig : 1048576 < len0
  · clear h0
    go_enter Try.func21, Try.ntmps21
    go_wp2
    go_ret
    exact ⟨rfl, Below.refl _ _⟩
  have H0 := hd h0
  clear h0
  go_enter Try.func21, Try.ntmps21
  go_wp2_with fail
  refine (DrawNextSame_any a0 len0 cap0 w H0.out).mono ?_
  rintro e w1 ⟨k, x, rfl, _, b1⟩
  have HA := hd (fun W => implNextSame_any k x W)
  have HB := hd (fun W => specNextSame_any k x W)
  rcases hok : nsOk k x with _ | _
  · have HO := hd (show nsOut k x = -1 by unfold nsOut; rw [hok]; rfl)
    rw [HO.out, hok] at HA HB
    rcases hv : vld k x with _ | _
    · skip
      go_wp2_with fail
      refine (HA.out w1).mono ?_
      rintro e w2 ⟨rfl, rfl⟩
      go_wp2_with fail
      refine (HB.out w1).mono ?_
      rintro e w2 ⟨rfl, rfl⟩
      go_wp2_with (go_at_call 24; refine (specOnesOf_bad k x hv _).mono ?_; rintro e w' ⟨rfl, rfl⟩)
      refine wp_region_below (by kernel_rfl) (by kernel_rfl) ?_
      repeat (go_big_quiet_step ((go_at_call 42; exact calls_alive _ (alive_any _))))
      refine wpQuiet_nil ?_
      rintro _ ⟨nq, rfl⟩
      go_wp2
      go_ret
      exact ⟨rfl, btp b1 nq.below⟩
    · obtain ⟨h1, h2, h3, h4, h5, h6⟩ := vld_4096 hv
      have hx := ns_none k x hv hok
      have hpl := (pop_le k x hv).1
      have hpz := popZ_bd x
      have HN := hd (fun W => specOnesOf_ok k x hv W)
      obtain ⟨n, hn⟩ : ∃ n, popZ x = n := ⟨_, rfl⟩
      rw [hn] at hx hpl hpz HN
      have hq : (x == pw k - pw (k - n)) = true := by simpa using hx
      have hn0 : decide (n < 0) = false := decide_eq_false (by omega)
      have hkn : 0 ≤ k - n := by omega
      have s2 := Go.Proofs.Ytgbgpibaincheaa.wr (pw k - pw (k - n)) (by have := pw_pos (k - n); have := pw_le12 k h2; have := pw_le12 (k - n) (by omega); omega)
      clear hn hok hv hx
      have e1 := shl_pw k
      have e2 := shl_pw (k - n)
      obtain ⟨q1, q2⟩ := pw_le12 (k - n) (by omega)
      have s0 := wr (pw k) (by omega)
      have s1 := wr (pw (k - n)) (by omega)
      go_wp2_with fail
      refine (HA.out w1).mono ?_
      rintro e w2 ⟨rfl, rfl⟩
      go_wp2_with fail
      refine (HB.out w1).mono ?_
      rintro e w2 ⟨rfl, rfl⟩
      go_wp2_with (go_at_call 24; refine (HN.out _).mono ?_; rintro e w' ⟨rfl, rfl⟩)
      refine wp_region_below (by kernel_rfl) (by kernel_rfl) ?_
      repeat (go_big_quiet_step ((go_at_call 42; exact calls_alive _ (alive_any _))))
      refine wpQuiet_nil ?_
      rintro _ ⟨nq, rfl⟩
      go_wp2
      go_ret
      exact ⟨rfl, btp b1 nq.below⟩
  · have HO := hd (show nsOut k x = nsZ k x by unfold nsOut; rw [if_pos hok])
    rw [HO.out, hok] at HA HB
    have hok2 := hok
    unfold nsOk at hok2
    simp only [Bool.and_eq_true, decide_eq_true_eq, bne_iff_ne] at hok2
    obtain ⟨⟨hv, hx⟩, hlt⟩ := hok2
    obtain ⟨h1, h2, h3, h4, h5, h6⟩ := vld_4096 hv
    obtain ⟨n1, n2, n3, _⟩ := ns_is k x hv hx
    have hpz := popZ_bd x
    have HN := hd (fun W => specOnesOf_ok k x hv W)
    have hyv := vld_mk h1 h2 (show 0 ≤ nsZ k x by omega) hlt
    have HY := hd (fun W => implOnesOf_ok k (nsZ k x) hyv W)
    rw [n2 hlt] at HY
    have N3 := hd n3
    clear n2 n3 hok HO hv hyv
    obtain ⟨n, hn⟩ : ∃ n, popZ x = n := ⟨_, rfl⟩
    obtain ⟨y, hy⟩ : ∃ y, nsZ k x = y := ⟨_, rfl⟩
    rw [hn] at hpz HN HY N3
    rw [hy] at HA HB HY N3 n1 hlt
    clear hn hy
    go_wp2_with fail
    refine (HA.out w1).mono ?_
    rintro e w2 ⟨rfl, rfl⟩
    go_wp2_with fail
    refine (HB.out w1).mono ?_
    rintro e w2 ⟨rfl, rfl⟩
    go_wp2_with fail
    refine (HN.out w1).mono ?_
    rintro e w2 ⟨rfl, rfl⟩
    go_wp2
    go_loop [10] (fun v => ∃ i : Int, x < i ∧ i ≤ y ∧ v = .int .i64 i) (fun v => (y - intOf v).toNat)
    case atStart => exact ⟨x + 1, by omega, by omega, by go_num⟩
    case round =>
      obtain ⟨i, i1, i2, rfl⟩ := hrel
      by_cases hi : i = y
      · have HI := hd hi
        have hi2 : ¬ i < y := by omega
        clear hi
        go_wp2_with (go_at_call 25; refine (HY.out _).mono ?_; rintro e w' ⟨rfl, rfl⟩)
        go_ret
        exact ⟨rfl, b1⟩
      · have hq : (popZ i == n) = false := by simpa using N3.out i i1 (by omega) (by omega)
        have HVI := hd (vld_mk h1 h2 (show 0 ≤ i by omega) (show i < pw k by omega))
        go_wp2_with (go_at_call 25; refine (implOnesOf_ok k i HVI.out _).mono ?_; rintro e w' ⟨rfl, rfl⟩)
        go_round
        case rel => exact ⟨i + 1, by omega, by omega, by go_num⟩
        case measure => simp [intOf]; omega
set_option maxHeartbeats 800000 in
theorem FnOnesSteps_walk (a0 : Option Addr) (len0 cap0 : Nat) (w : World) (h0 : Code8 w a0 len0 cap0) :
    Calls Try.prog 20 #[.slice a0 len0 cap0] w fun e w' => e = .returned (.bool true) ∧ Below w.heap.size w w' := by
  have hm := h0.2.1
  have hlc := h0.1
  unfold maxLen at hm
  by_cases hbig : 1048576 < len0
  · clear h0
    go_enter Try.func20, Try.ntmps20
    go_wp2
    go_ret
    exact ⟨rfl, Below.refl _ _⟩
  have H0 := hd h0
  clear h0
  go_enter Try.func20, Try.ntmps20
  go_wp2_with fail
  refine (DrawOnesSteps_any a0 len0 cap0 w H0.out).mono ?_
  rintro e w1 ⟨k, x, rfl, _, b1⟩
  rcases hv : vld k x with _ | _
  · go_wp2_with fail
    refine (implOnesSteps_bad k x hv w1).mono ?_
    rintro e w2 ⟨A, c, rfl, hown1, b2⟩
    go_wp2_with fail
    refine (specOnesSteps_bad k x hv w2).mono ?_
    rintro e w3 ⟨A', c', rfl, hown2, b3⟩
    have HO1 := hd (hown1.below b3 (Nat.le_refl _))
    have HO2 := hd hown2
    clear hown1 hown2
    go_wp2_with fail
    refine (sameInts_same [] A A' _ _ c c' w3 HO1.out HO2.out).mono ?_
    rintro e w4 ⟨rfl, n4, rfl⟩
    go_wp2_with (go_at_call 42; refine (alive_any _).mono ?_; rintro e w' ⟨rfl, b9⟩)
    go_ret
    exact ⟨rfl, btp (btp (btp b1 b2) (below_drewN b3 _)) b9⟩
  · have HR1 := hd (implOnesSteps_ok k x hv w1)
    have HR2 := hd (fun W => specOnesSteps_ok k x hv W)
    have HOC := hd (fun W => implOnesOf_ok k x hv W)
    have hpz := popZ_bd x
    obtain ⟨D, hD⟩ := os_last k x hv
    obtain ⟨T, hT⟩ := osF_head (osK k) 0 x
    change osL k x = x :: T at hT
    have hlen : (osL k x).length ≤ 5 := by unfold osL; rw [osF_len]; have := osK_le k; omega
    obtain ⟨L, hL⟩ : ∃ L, osL k x = L := ⟨_, rfl⟩
    rw [hL] at HR1 HR2 hlen hD hT
    have HLEN2 := hd (show L.length = D.length + 1 by rw [hD]; simp)
    have hpos : 1 ≤ L.length := by have := HLEN2.out; omega
    have hl0 : (L.length == 0) = false := by simp only [beq_eq_false_iff_ne, ne_eq]; omega
    have hl1 : ((L.length : Int) == 0) = false := by simp only [beq_eq_false_iff_ne, ne_eq]; omega
    have HL1 := hd (show ∀ (h : D.length < L.length), L[D.length] = popZ x by intro h; simp [hD])
    have HL0 := hd (show ∀ (h : 0 < L.length), L[0] = x by intro h; simp [hT])
    clear hD hT hL
    obtain ⟨n, hn⟩ : ∃ n, popZ x = n := ⟨_, rfl⟩
    rw [hn] at HL1 HOC hpz
    clear hn
    go_wp2_with fail
    refine (HR1.out).mono ?_
    rintro e w2 ⟨A, c, rfl, hown1, b2⟩
    go_wp2_with fail
    refine (HR2.out w2).mono ?_
    rintro e w3 ⟨A', c', rfl, hown2, b3⟩
    have HO1 := hd (hown1.below b3 (Nat.le_refl _))
    have HO2 := hd hown2
    have HB := hd (btp (btp b1 b2) b3)
    clear hown1 hown2 b1 b2 b3
    go_wp2_with fail
    refine (sameInts_same L A A' _ _ c c' w3 HO1.out HO2.out).mono ?_
    rintro e w4 ⟨rfl, n4, rfl⟩
    obtain ⟨g, rfl, _, hg3, hc, _⟩ := HO1.out.some_ (k := 0) (by omega)
    have hc0 : (w3.drewN n4).cell? ⟨g, 0, none⟩ = some (.int .i64 x) := (hc 0 (by omega)).trans (by rw [HL0.out])
    have hc1 : (w3.drewN n4).cell? ⟨g, D.length, none⟩ = some (.int .i64 n) := (hc D.length (by have := HLEN2.out; omega)).trans (by rw [HL1.out])
    have hidx : ((L.length : Int) - 1).toNat = D.length := by have := HLEN2.out; omega
    have HW4 := hd (below_drewN HB.out n4)
    clear hc
    generalize w3.drewN n4 = w5 at hc0 hc1 HW4 ⊢
    go_wp2
    go_quiet ((go_at_call 25; exact Calls.quiet_of_same ((HOC.out _).mono fun e w' h => ⟨h.1, h.2.symm⟩)))
    go_wp2
    go_ret
    exact ⟨rfl, below_drewN HW4.out _⟩
set_option maxHeartbeats 800000 in
theorem FnAllSame_walk (a0 : Option Addr) (len0 cap0 : Nat) (w : World) (h0 : Code8 w a0 len0 cap0) :
    Calls Try.prog 19 #[.slice a0 len0 cap0] w fun e w' => e = .returned (.bool true) ∧ Below w.heap.size w w' := by
  have hm := h0.2.1
  have hlc := h0.1
  unfold maxLen at hm
  by_cases hbig : 1048576 < len0
  · clear h0
    go_enter Try.func19, Try.ntmps19
    go_wp2
    go_ret
    exact ⟨rfl, Below.refl _ _⟩
  have H0 := hd h0
  clear h0
  go_enter Try.func19, Try.ntmps19
  go_wp2_with fail
  refine (DrawAllSame_any a0 len0 cap0 w H0.out).mono ?_
  rintro e w1 ⟨k, c0, rfl, _, b1⟩
  rcases hv : okAl k c0 with _ | _
  · go_wp2_with fail
    refine (implAllSame_bad k c0 hv w1).mono ?_
    rintro e w2 ⟨A, c, rfl, hown1, b2⟩
    go_wp2_with fail
    refine (specAllSame_bad k c0 hv w2).mono ?_
    rintro e w3 ⟨A', c', rfl, hown2, b3⟩
    have HO1 := hd (hown1.below b3 (Nat.le_refl _))
    have HO2 := hd hown2
    clear hown1 hown2
    go_wp2_with fail
    refine (sameInts_same [] A A' _ _ c c' w3 HO1.out HO2.out).mono ?_
    rintro e w4 ⟨rfl, n4, rfl⟩
    go_wp2_with (go_at_call 42; refine (alive_any _).mono ?_; rintro e w' ⟨rfl, b9⟩)
    go_ret
    exact ⟨rfl, btp (btp (btp b1 b2) (below_drewN b3 _)) b9⟩
  · have HR1 := hd (implAllSame_ok k c0 hv w1)
    have HR2 := hd (fun W => specAllSame_ok k c0 hv W)
    obtain ⟨h1, h2, h3, h4⟩ := okAl_true hv
    obtain ⟨p1, p2⟩ := pw_w k h1 h2
    have hpc := pw_cast k
    have HG := hd (fun n h hp => alN_get c0 n (2 ^ k.toNat) h hp)
    have hlen : (alL k c0).length ≤ 4096 := by unfold alL; have := alN_len c0 (2 ^ k.toNat); omega
    have HLE := hd (show alL k c0 = alN c0 (2 ^ k.toNat) from rfl)
    change Hid (∀ (n : Nat), n < 2 ^ k.toNat → popZ (n : Int) = c0 → ∃ hl : (alN c0 n).length < (alL k c0).length, (alL k c0)[(alN c0 n).length] = (n : Int)) at HG
    obtain ⟨L, hL⟩ : ∃ L, alL k c0 = L := ⟨_, rfl⟩
    rw [hL] at HR1 HR2 hlen HG HLE
    clear hL hv
    have HPC := hd hpc
    clear hpc
    have ek := shl_pw k
    have s0 := wr (pw k) (by omega)
    go_wp2_with fail
    refine (HR1.out).mono ?_
    rintro e w2 ⟨A, c, rfl, hown1, b2⟩
    go_wp2_with fail
    refine (HR2.out w2).mono ?_
    rintro e w3 ⟨A', c', rfl, hown2, b3⟩
    have HO1 := hd (hown1.below b3 (Nat.le_refl _))
    have HO2 := hd hown2
    have HB := hd (btp (btp b1 b2) b3)
    clear hown1 hown2 b1 b2 b3
    go_wp2_with fail
    refine (sameInts_same L A A' _ _ c c' w3 HO1.out HO2.out).mono ?_
    rintro e w4 ⟨rfl, n4, rfl⟩
    have HW4 := hd (below_drewN HB.out n4)
    by_cases hl0 : L.length = 0
    · go_wp2_with (go_at_call 42; refine (alive_any _).mono ?_; rintro e w' ⟨rfl, b9⟩)
      go_ret
      exact ⟨rfl, btp HW4.out b9⟩
    · obtain ⟨g, rfl, _, hg3, hc, _⟩ := HO1.out.some_ (k := 0) (by omega)
      have HC := hd hc
      clear hc
      have hl0 : (L.length == 0) = false := by simp only [beq_eq_false_iff_ne, ne_eq]; omega
      have hl1 : ((L.length : Int) == 0) = false := by simp only [beq_eq_false_iff_ne, ne_eq]; omega
      go_wp2
      go_loop [6, 7] (fun t v => ∃ j : Nat, (j : Int) ≤ pw k ∧ v = .int .i64 j ∧ t = .int .i64 (alN c0 j).length) (fun _ v => (pw k - intOf v).toNat)
      case atStart => exact ⟨0, by omega, rfl, rfl⟩
      case round =>
        obtain ⟨j, hj, rfl, rfl⟩ := hrel
        have hal := alN_len c0 j
        by_cases hlt : (j : Int) < pw k
        · have HVI := hd (vld_mk h1 h2 (show (0 : Int) ≤ j by omega) hlt)
          have hpj := popZ_bd j
          by_cases hp : popZ j = c0
          · obtain ⟨u1, u2⟩ := HG.out j (by have := HPC.out; omega) hp
            have HY := hd (show (alN c0 (j + 1)).length = (alN c0 j).length + 1 by rw [alN_yes hp]; simp)
            have hck := HC.out _ u1
            rw [u2] at hck
            have hq : (popZ j == c0) = true := by simpa using hp
            clear hp u2
            obtain ⟨m, hm⟩ : ∃ m, (alN c0 j).length = m := ⟨_, rfl⟩
            rw [hm] at hal u1 HY hck ⊢
            clear hm
            go_wp2_with (go_at_call 25; refine (implOnesOf_ok k j HVI.out _).mono ?_; rintro e w' ⟨rfl, rfl⟩)
            go_round
            case rel => exact ⟨j + 1, by omega, by go_num, by rw [HY.out]; go_num⟩
            case measure => simp [intOf]; omega
          · have HY := hd (show (alN c0 (j + 1)).length = (alN c0 j).length by rw [alN_no hp])
            have hq : (popZ j == c0) = false := by simpa using hp
            clear hp
            go_wp2_with (go_at_call 25; refine (implOnesOf_ok k j HVI.out _).mono ?_; rintro e w' ⟨rfl, rfl⟩)
            go_round
            case rel => exact ⟨j + 1, by omega, by go_num, by rw [HY.out]⟩
            case measure => simp [intOf]; omega
        · have hE : (alN c0 j).length = L.length := by rw [HLE.out]; congr 1; congr 1; have := HPC.out; omega
          rw [hE]
          clear hE
          go_wp2
          go_ret
          exact ⟨rfl, HW4.out⟩
end Go.Proofs.Ytgbgpibaincheaa
