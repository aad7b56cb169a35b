/- The contract of the function that draws the arguments of PowerAbove (chapter 5): no condition but that the code is a slice of bytes that can be read. -/
import Derived.Test.YtgbgpibaincheaaDE
import Derived.Deep.RegionWith
namespace Go.Proofs.Ytgbgpibaincheaa
open Go.RowKit
set_option maxHeartbeats 800000 in
theorem DrawPowerAbove_any (a : Option Addr) (len cap : Nat) (w : World) (h : Code8 w a len cap) : Calls Try.prog 39 #[.slice a len cap] w (Top2 (fun u v => okW u ∧ okX v) w) := by
  go_enter Try.func39, Try.ntmps39
  go_wp2_with fail
  refine (l20Open_any a len cap w h).mono ?_
  rintro e w1 ⟨R, A, n, c, rfl, hR, hRB, hb⟩
  go_wp2_with fail
  refine (l20Ends_l R A n c 0 (by omega) w1 hR).mono ?_
  rintro e w2 ⟨u, x, rfl, ⟨u0, x0⟩, hR2, hg⟩
  rcases hv : vld u x with _ | _
  · go_wp2_with (go_at_call 70; refine (specWordValid_any _ _ _).mono ?_; rintro e w' ⟨rfl, rfl⟩)
    go_ret2
    exact ⟨u, x, rfl, ⟨u0, x0⟩, top_below hb hRB hg⟩
  · obtain ⟨h1, h2, h3, h4, h5, h6⟩ := vld_4096 hv
    go_wp2_with fail
    refine (specWordValid_any u x w2).mono ?_
    rintro e w2' ⟨rfl, rfl⟩
    go_wp2_with fail
    refine (pick_l R A n c 9 3 (by omega) (by omega) _ hR2).mono ?_
    rintro e w3 ⟨t, rfl, ⟨t0, t1⟩, hR3, hg3⟩
    have HG := hd (hg.trans hg3)
    clear hg hg3 t1 hR2
    have HP := hd (fun W (h0 : RdL W R A n c 10) => pick_l R A n c 10 u (by omega) (by omega) W h0)
    by_cases ht : t = 0
    · subst ht
      go_wp2
      go_region_with ((go_at_call 88; refine (HP.out _ hR3.drew1).mono ?_; rintro e w4 ⟨y, rfl, ⟨y0, y1⟩, hR4, hg4⟩))
      all_goals
        have y2 := y1 (by omega)
        have hy := pw_le12 y (by omega)
        have q0 : (2 : Int) ^ y.toNat = pw y := rfl
        have s1 := wr (pw y) (by omega)
        go_wp2
        go_ret2
        refine ⟨u, pw y, ?_, ⟨u0, ⟨by omega, by omega⟩⟩, top_below hb hRB ((grown_drewN HG.out 1).trans hg4)⟩
        go_simp
        try rw [s1]
        try rfl
    · have htf : (t == 0) = false := by simpa using ht
      go_wp2
      go_ret2
      exact ⟨u, x, rfl, ⟨u0, x0⟩, top_below hb hRB HG.out⟩
set_option maxHeartbeats 800000 in
theorem DrawAllSame_any (a : Option Addr) (len cap : Nat) (w : World) (h : Code8 w a len cap) : Calls Try.prog 66 #[.slice a len cap] w (Top2 (fun u v => (1 ≤ u ∧ u ≤ 14) ∧ -1 ≤ v ∧ v ≤ 15) w) := by
  go_enter Try.func66, Try.ntmps66
  go_wp2_with fail
  refine (l20Open_any a len cap w h).mono ?_
  rintro e w1 ⟨R, A, n, c, rfl, hR, hRB, hb⟩
  go_wp2_with fail
  refine (pick_l R A n c 0 8 (by omega) (by omega) _ hR).mono ?_
  rintro e w2 ⟨u, rfl, ⟨u0, u1⟩, hR2, hg2⟩
  have u2 := u1 (by omega)
  have HG := hd hg2
  clear u1 hg2
  go_wp2_with fail
  refine (pick_l R A n c 1 30 (by omega) (by omega) _ hR2).mono ?_
  rintro e w3 ⟨v, rfl, ⟨v0, v1⟩, hR3, hg3⟩
  have v2 := v1 (by omega)
  have HG := hd (HG.out.trans hg3)
  clear v1 hg3
  have e1 := Int.tdiv_eq_ediv_of_nonneg (b := 29) v0
  go_wp2_with fail
  refine (pick_l R A n c 2 _ (by omega) (by omega) _ hR3).mono ?_
  rintro e w4 ⟨y, rfl, ⟨y0, y1⟩, hR4, hg4⟩
  have y2 := y1 (by omega)
  have HG := hd (HG.out.trans hg4)
  clear y1 hg4
  go_wp2_with fail
  refine (pick_l R A n c 3 20 (by omega) (by omega) _ hR4).mono ?_
  rintro e w5 ⟨z, rfl, ⟨z0, z1⟩, hR5, hg5⟩
  have z2 := z1 (by omega)
  have HG := hd (HG.out.trans hg5)
  clear z1 hg5
  have e2 := Int.tdiv_eq_ediv_of_nonneg (b := 19) z0
  go_wp2
  go_ret2
  exact ⟨_, _, rfl, ⟨by omega, by omega⟩, top_below hb hRB HG.out⟩
end Go.Proofs.Ytgbgpibaincheaa
