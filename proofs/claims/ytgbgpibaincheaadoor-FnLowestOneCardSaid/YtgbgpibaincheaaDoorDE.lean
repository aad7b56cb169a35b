/- The contract of l20Ends, which draws a word with its ends moved (chapter 5): no condition but that the reader can be read. -/
import Derived.Test.YtgbgpibaincheaaDoorDT
import Derived.Deep.RegionWith
namespace Go.Proofs.YtgbgpibaincheaaDoor
open Go.RowKit
set_option maxHeartbeats 2000000 in
theorem l20Ends_l (R : Nat) (A : Option Addr) (n c P : Nat) (hP : P ≤ 400) (w : World) (h : RdL w R A n c P) :
    Calls Tryd.prog 22 #[.pointer (some ⟨R, 0, none⟩)] w (Drawn2 R A n c (P + 9) (fun u v => okW u ∧ okX v) w) := by
  go_enter Tryd.func22, Tryd.ntmps22
  go_wp2_with fail
  refine (l20One_l R A n c P 9 (by omega) (by omega) (by omega) _ h).mono ?_
  rintro e w1 ⟨u, x, rfl, ⟨u0, x0⟩, hR1, hg1⟩
  rcases hv : vld u x with _ | _
  · go_wp2_with (go_at_call 18; refine (specWordValid_any _ _ _).mono ?_; rintro e w' ⟨rfl, rfl⟩)
    go_ret2
    exact ⟨u, x, rfl, ⟨u0, x0⟩, hR1.up (by omega), hg1⟩
  · obtain ⟨h1, h2, h3, h4, h5, h6⟩ := vld_4096 hv
    go_wp2_with fail
    refine (specWordValid_any u x w1).mono ?_
    rintro e w1' ⟨rfl, rfl⟩
    go_wp2_with fail
    refine (pick_l R A n c (P + 6) 2 (by omega) (by omega) _ hR1).mono ?_
    rintro e w2 ⟨t, rfl, ⟨t0, t1⟩, hR2, hg2⟩
    have t2 := t1 (by omega)
    have HG := hd (hg1.trans hg2)
    clear hg1 hg2 t1 hR1
    by_cases ht : t = 0
    · subst ht
      go_wp2_with fail
      refine (pick_l R A n c (P + 6 + 1) 2 (by omega) (by omega) _ hR2).mono ?_
      rintro e w3 ⟨s, rfl, ⟨s0, s1⟩, hR3, hg3⟩
      have s2 := s1 (by omega)
      have HG3 := hd (HG.out.trans hg3)
      clear s1 hR2 hg3
      have HP := hd (fun W (h0 : RdL W R A n c (P + 6 + 1 + 1)) => pick_l R A n c (P + 6 + 1 + 1) u (by omega) (by omega) W h0)
      by_cases hs : s = 0
      · subst hs
        go_wp2
        go_region_with ((go_at_call 42; refine (HP.out _ hR3.drew1).mono ?_; rintro e w4 ⟨y, rfl, ⟨y0, y1⟩, hR4, hg4⟩))
        all_goals
          have y2 := y1 (by omega)
          have hy := pw_pos y
          obtain ⟨c1, c2⟩ := ediv_bd (x := x) (c := pw y) h3 hy
          go_wp2
          go_ret2
          refine ⟨u, x / pw y, ?_, ⟨u0, ⟨by omega, by omega⟩⟩, hR4, (grown_drewN HG3.out 1).trans hg4⟩
          go_simp
          rfl
      · have hsf : (s == 0) = false := by simpa using hs
        go_wp2_with (first
          | (go_at_call 42; refine (HP.out _ hR3).mono ?_; rintro e w4 ⟨y, rfl, ⟨y0, y1⟩, hR4, hg4⟩; have y2 := y1 (by omega); have hy := pw_le12 y (by omega); have mb := mul_bd (x := x) (y := pw y) (X := 4096) (Y := 4096) (by omega) (by omega) (by omega) (by omega); have q0 : (2 : Int) ^ y.toNat = pw y := rfl)
          | (go_at_call 33; refine (l1Mod_any _ _ (by omega) (by omega) _).mono ?_; rintro e w' ⟨rfl, rfl⟩))
        go_ret2
        have hq := mod_lt_bd (x * pw y) (pw u) (by omega)
        exact ⟨u, x * pw y % pw u, rfl, ⟨u0, ⟨by omega, by omega⟩⟩, hR4, HG3.out.trans hg4⟩
    · go_wp2
      go_ret2
      exact ⟨u, x, rfl, ⟨u0, x0⟩, hR2.up (by omega), HG.out⟩
theorem DrawZerosBelow_any (a : Option Addr) (len cap : Nat) (w : World) (h : Code8 w a len cap) : Calls Tryd.prog 8 #[.slice a len cap] w (Top2 (fun u v => okW u ∧ okX v) w) := by
  go_enter Tryd.func8, Tryd.ntmps8
  go_wp2_with fail
  refine (l20Open_any a len cap w h).mono ?_
  rintro e w1 ⟨R, A, n, c, rfl, hR, hRB, hb⟩
  go_wp2_with fail
  refine (l20Ends_l R A n c 0 (by omega) w1 hR).mono ?_
  rintro e w2 ⟨u, v, rfl, hq, _, hg⟩
  go_wp2
  go_ret2
  exact ⟨u, v, rfl, hq, top_below hb hRB hg⟩
