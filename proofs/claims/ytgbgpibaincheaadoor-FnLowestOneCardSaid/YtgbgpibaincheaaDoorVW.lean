/- The walks of the laws of the zeros below and of the lowest one (chapter 5); conditions: that the code is a slice of bytes that can be read, and that the laid table lies where it was laid. -/
import Derived.Test.YtgbgpibaincheaaDoorVL
import Derived.Test.YtgbgpibaincheaaDoorW2
import Derived.Test.YtgbgpibaincheaaDoorW5
import Derived.Test.YtgbgpibaincheaaDoorDT
import Derived.Test.YtgbgpibaincheaaDoorDE
import Derived.Test.YtgbgpibaincheaaDoorQC
namespace Go.Proofs.YtgbgpibaincheaaDoor
open Go.RowKit
theorem btv {a b c : World} (h : Below a.heap.size a b) (g : Below b.heap.size b c) : Below a.heap.size a c := h.trans (g.mono h.size)
theorem vld2v {k a b : Int} (h : vld k a = true) (g : vld k b = true) : vld2 k a b = true := by unfold vld2; rw [h, g]; rfl
theorem FnZerosBelow_walk (a0 : Option Addr) (len0 cap0 : Nat) (w : World) (h0 : Code8 w a0 len0 cap0) (hT : Tab64 w) :
    Calls Tryd.prog 4 #[.slice a0 len0 cap0] w fun e w' => e = .returned (.bool true) ∧ Below w.heap.size w w' := by
  have hm := h0.2.1
  have hlc := h0.1
  unfold maxLen at hm
  by_cases hbig : 1048576 < len0
  · clear h0 hT
    go_enter Tryd.func4, Tryd.ntmps4
    go_wp2
    go_ret
    exact ⟨rfl, Below.refl _ _⟩
  have H0 := hd h0
  have HT0 := hd hT
  clear h0 hT
  go_enter Tryd.func4, Tryd.ntmps4
  go_wp2_with fail
  refine (DrawZerosBelow_any a0 len0 cap0 w H0.out).mono ?_
  rintro e w1 ⟨k, x, rfl, _, b1⟩
  have HT := hd (HT0.out.below b1 (Nat.le_refl _))
  rcases hv : vld k x with _ | _
  · go_wp2_with fail
    refine (implZerosBelow_bad k x hv w1).mono ?_
    rintro e w2 ⟨rfl, rfl⟩
    go_wp2_with fail
    refine (specZerosBelow_bad k x hv w1).mono ?_
    rintro e w2 ⟨rfl, rfl⟩
    go_wp2_with (go_at_call 9; refine (alive_any _).mono ?_; rintro e w' ⟨rfl, b9⟩)
    go_ret
    exact ⟨rfl, btv b1 b9⟩
  · obtain ⟨h1, h2, h3, h4, h5, h6⟩ := vld_4096 hv
    have HA := hd (fun W hW => implZerosBelow_ok k x hv W hW)
    have HB := hd (fun W => specZerosBelow_ok k x hv W)
    by_cases hx : x = 0
    · subst hx
      have HZ := hd (show zbO k 0 = k by simp [zbO])
      rw [HZ.out] at HA HB
      clear hv
      go_wp2_with fail
      refine (HA.out w1 HT.out).mono ?_
      rintro e w2 ⟨rfl, rfl⟩
      go_wp2_with fail
      refine (HB.out w1).mono ?_
      rintro e w2 ⟨rfl, rfl⟩
      go_wp2
      go_ret
      exact ⟨rfl, b1⟩
    · have HZ := hd (show zbO k x = tzZ x by unfold zbO; rw [if_neg hx])
      rw [HZ.out] at HA HB
      obtain ⟨t1, t2, _⟩ := (tz_is k x hv).1 hx
      obtain ⟨_, _, d3, d4, _⟩ := db_is x (by omega) (by omega)
      have hx0 : (x == 0) = false := by simpa using hx
      have hv1 := vld_mk h1 h2 (show 0 ≤ x - 1 by omega) (show x - 1 < pw k by omega)
      have hv2 := vld_mk h1 h2 (show 0 ≤ pw k - 1 - x by omega) (show pw k - 1 - x < pw k by omega)
      have hva := vld_mk h1 h2 (andZ_nonneg (x - 1) (pw k - 1 - x)) (Int.lt_of_le_of_lt (andZ_le (x - 1) (pw k - 1 - x) (by omega)) (show x - 1 < pw k by omega))
      have HN := hd (fun W => implWordNot_ok k x hv W)
      have HAN := hd (fun W => implWordAnd_ok k (x - 1) (pw k - 1 - x) (vld2v hv1 hv2) W)
      have HO := hd (fun W => implOnesOf_ok k (andZ (x - 1) (pw k - 1 - x)) hva W)
      rw [t2] at HO
      clear hv hv1 hv2 hva t2
      obtain ⟨z, hz⟩ : ∃ z, tzZ x = z := ⟨_, rfl⟩
      rw [hz] at HA HB HO t1 d3 d4
      clear hz HZ
      obtain ⟨y, hy⟩ : ∃ y, andZ (x - 1) (pw k - 1 - x) = y := ⟨_, rfl⟩
      rw [hy] at HAN HO
      clear hy
      go_wp2_with fail
      refine (HA.out w1 HT.out).mono ?_
      rintro e w2 ⟨rfl, rfl⟩
      go_wp2_with fail
      refine (HB.out w1).mono ?_
      rintro e w2 ⟨rfl, rfl⟩
      go_wp2_with (first
        | (go_at_call 12; refine (HN.out _).mono ?_; rintro e w' ⟨rfl, rfl⟩)
        | (go_at_call 11; refine (HAN.out _).mono ?_; rintro e w4 ⟨rfl, b4⟩)
        | (go_at_call 10; refine (HO.out _).mono ?_; rintro e w' ⟨rfl, rfl⟩))
      go_ret
      exact ⟨rfl, btv b1 b4⟩
set_option maxHeartbeats 800000 in
theorem FnLowestOne_walk (a0 : Option Addr) (len0 cap0 : Nat) (w : World) (h0 : Code8 w a0 len0 cap0) (hT : Tab64 w) :
    Calls Tryd.prog 5 #[.slice a0 len0 cap0] w fun e w' => e = .returned (.bool true) ∧ Below w.heap.size w w' := by
  have hm := h0.2.1
  have hlc := h0.1
  unfold maxLen at hm
  by_cases hbig : 1048576 < len0
  · clear h0 hT
    go_enter Tryd.func5, Tryd.ntmps5
    go_wp2
    go_ret
    exact ⟨rfl, Below.refl _ _⟩
  have H0 := hd h0
  have HT0 := hd hT
  clear h0 hT
  go_enter Tryd.func5, Tryd.ntmps5
  go_wp2_with fail
  refine (DrawLowestOne_any a0 len0 cap0 w H0.out).mono ?_
  rintro e w1 ⟨k, x, rfl, _, b1⟩
  have HT := hd (HT0.out.below b1 (Nat.le_refl _))
  rcases hv : vld k x with _ | _
  · go_wp2_with fail
    refine (implLowestOne_bad k x hv w1).mono ?_
    rintro e w2 ⟨rfl, rfl⟩
    go_wp2_with fail
    refine (specLowestOne_bad k x hv w1).mono ?_
    rintro e w2 ⟨rfl, rfl⟩
    go_wp2_with (go_at_call 9; refine (alive_any _).mono ?_; rintro e w' ⟨rfl, b9⟩)
    go_ret
    exact ⟨rfl, btv b1 b9⟩
  · obtain ⟨h1, h2, h3, h4, h5, h6⟩ := vld_4096 hv
    obtain ⟨lo0, lo1⟩ := loZ_bd k x h3
    have htz := tz_is k x hv
    have hone : (1 : Int) % pw k = 1 := Int.emod_eq_of_lt (by omega) (by omega)
    have hv1 := vld_mk h1 h2 (show (0 : Int) ≤ 1 by omega) (by omega)
    have hvl := vld_mk h1 h2 lo0 (show loZ k x < pw k by omega)
    have hvm := vld_mod k (x - 1) h1 h2
    have HA := hd (fun W => implLowestOne_ok k x hv W)
    have HB := hd (fun W => specLowestOne_ok k x hv W)
    have HS := hd (fun W => implWordSub_ok k x (loZ k x) (vld2v hv hvl) W)
    have HW := hd (fun W => implWordOf_ok k 1 h1 h2 W)
    rw [hone] at HW
    have HS1 := hd (fun W => implWordSub_ok k x 1 (vld2v hv hv1) W)
    have HAN := hd (fun W => implWordAnd_ok k x ((x - 1) % pw k) (vld2v hv hvm) W)
    have HZB := hd (fun W hW => implZerosBelow_ok k x hv W hW)
    rw [← htz.2] at HAN
    obtain ⟨m, hm⟩ : ∃ m, (x - 1) % pw k = m := ⟨_, rfl⟩
    rw [hm] at HAN HS1
    obtain ⟨d, hd'⟩ : ∃ d, (x - loZ k x) % pw k = d := ⟨_, rfl⟩
    rw [hd'] at HS HAN
    clear hm hd' hone hv1 hvl hvm
    by_cases hx : x = 0
    · subst hx
      have hl0 : loZ k 0 = 0 := by omega
      rw [hl0] at HA HB HS
      clear hv htz lo0 lo1 hl0
      go_wp2_with fail
      refine (HA.out w1).mono ?_
      rintro e w2 ⟨rfl, rfl⟩
      go_wp2_with fail
      refine (HB.out w1).mono ?_
      rintro e w2 ⟨rfl, rfl⟩
      go_wp2_with fail
      refine (HS.out _).mono ?_
      rintro e w3 ⟨rfl, b3⟩
      go_wp2_with fail
      refine (HW.out _).mono ?_
      rintro e w3' ⟨rfl, rfl⟩
      go_wp2_with fail
      refine (HS1.out _).mono ?_
      rintro e w4 ⟨rfl, b4⟩
      go_wp2_with fail
      refine (HAN.out _).mono ?_
      rintro e w5 ⟨rfl, b5⟩
      go_wp2
      go_ret
      exact ⟨rfl, btv (btv (btv b1 b3) b4) b5⟩
    · obtain ⟨t1, _, t3⟩ := htz.1 hx
      obtain ⟨_, _, d3, d4, _⟩ := db_is x (by omega) (by omega)
      have HZ := hd (show zbO k x = tzZ x by unfold zbO; rw [if_neg hx])
      rw [HZ.out] at HZB
      rw [t3] at HA HB HS
      obtain ⟨z, hz⟩ : ∃ z, tzZ x = z := ⟨_, rfl⟩
      rw [hz] at HZB t1 t3 d3 d4 HA HB HS
      clear hv htz hz HZ t3
      have ez := shl_pw z
      obtain ⟨q1, q2⟩ := pw_le12 z (by omega)
      have s0 := Go.Proofs.YtgbgpibaincheaaDoor.wr (pw z) (by omega)
      go_wp2_with fail
      refine (HA.out w1).mono ?_
      rintro e w2 ⟨rfl, rfl⟩
      go_wp2_with fail
      refine (HB.out w1).mono ?_
      rintro e w2 ⟨rfl, rfl⟩
      go_wp2_with fail
      refine (HS.out _).mono ?_
      rintro e w3 ⟨rfl, b3⟩
      go_wp2_with fail
      refine (HW.out _).mono ?_
      rintro e w3' ⟨rfl, rfl⟩
      go_wp2_with fail
      refine (HS1.out _).mono ?_
      rintro e w4 ⟨rfl, b4⟩
      go_wp2_with fail
      refine (HAN.out _).mono ?_
      rintro e w5 ⟨rfl, b5⟩
      have HT5 := hd (HT.out.below (btv (btv b3 b4) b5) (Nat.le_refl _))
      have HW5 := hd (btv (btv (btv b1 b3) b4) b5)
      clear b1 b3 b4 b5
      go_wp2_with fail
      refine (HZB.out _ HT5.out).mono ?_
      rintro e w6 ⟨rfl, rfl⟩
      go_wp2
      go_ret
      exact ⟨rfl, HW5.out⟩
end Go.Proofs.YtgbgpibaincheaaDoor
