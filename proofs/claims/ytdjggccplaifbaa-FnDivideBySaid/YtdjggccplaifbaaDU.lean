/- Contracts of further functions that draw the arguments of the laws (chapter 4): no condition but that the code is a slice of bytes that can be read. -/
import Derived.Test.YtdjggccplaifbaaDT
namespace Go.Proofs.Ytdjggccplaifbaa
open Go.RowKit
set_option maxHeartbeats 800000 in
theorem DrawExactDivide_any (a : Option Addr) (len cap : Nat) (w : World) (h : Code8 w a len cap) : Calls Try.prog 57 #[.slice a len cap] w (Top3 (fun u v x => okW u ∧ okX v ∧ okX x) w) := by
  go_enter Try.func57, Try.ntmps57
  go_wp2_with fail
  refine (l20Open_any a len cap w h).mono ?_
  rintro e w1 ⟨R, A, n, c, rfl, hR, hRB, hb⟩
  go_wp2_with fail
  refine (l20Ratio_l R A n c 0 (by omega) w1 hR).mono ?_
  rintro e w2 ⟨u, v, x, rfl, ⟨u0, v0, x0⟩, hR2, hg⟩
  have HB := hd (top_below hb hRB hg)
  rcases hv : vld2 u v x with _ | _
  · go_wp2_with (go_at_call 62; refine (l1Both_any _ _ _ _).mono ?_; rintro e w' ⟨rfl, rfl⟩)
    go_ret3
    exact ⟨u, v, x, rfl, ⟨u0, v0, x0⟩, HB.out⟩
  obtain ⟨h1, h2, h3, h4, g3, g4, h5, h6⟩ := vld2_bd hv
  by_cases hx : 0 < x
  · go_wp2_with (first
      | (go_at_call 62; refine (l1Both_any _ _ _ _).mono ?_; rintro e w' ⟨rfl, rfl⟩)
      | (go_at_call 73; refine (pick_l R A n c 12 4 (by omega) (by omega) _ hR2).mono ?_; rintro e w3 ⟨t, rfl, ⟨t0, t1⟩, hR3, hg3⟩))
    · have hxz : (x == 0) = false := by simp; omega
      obtain ⟨d1, d2⟩ := ediv_bd (x := v) (c := x) h3 (by omega)
      have e1 : 0 ≤ v / x * x := Int.mul_nonneg d1 (by omega)
      have e2 : v / x * x ≤ v := Int.ediv_mul_le _ (by omega)
      have s1 := i64_tdiv v x h3 (by omega) (by omega)
      have s2 := wr (v / x * x) (by omega)
      go_quiet (fail)
      go_wp2
      go_ret3
      have v0' := v0.2
      exact ⟨u, v / x * x, x, rfl, ⟨u0, ⟨by omega, by omega⟩, x0⟩, below_drewN (HB.out.grown hg3 HB.out.size (by rintro k ⟨⟩; exact hRB)) _⟩
    · go_ret3
      exact ⟨u, v, x, rfl, ⟨u0, v0, x0⟩, HB.out.grown hg3 HB.out.size (by rintro k ⟨⟩; exact hRB)⟩
  · go_wp2_with (go_at_call 62; refine (l1Both_any _ _ _ _).mono ?_; rintro e w' ⟨rfl, rfl⟩)
    go_ret3
    exact ⟨u, v, x, rfl, ⟨u0, v0, x0⟩, HB.out⟩
set_option maxHeartbeats 800000 in
theorem DrawDividesOdd_any (a : Option Addr) (len cap : Nat) (w : World) (h : Code8 w a len cap) : Calls Try.prog 60 #[.slice a len cap] w (Top3 (fun _ _ _ => True) w) := by
  go_enter Try.func60, Try.ntmps60
  go_wp2_with fail
  refine (l20Open_any a len cap w h).mono ?_
  rintro e w1 ⟨R, A, n, c, rfl, hR, hRB, hb⟩
  go_wp2_with fail
  refine (l20Ratio_l R A n c 0 (by omega) w1 hR).mono ?_
  rintro e w2 ⟨u, v, x, rfl, ⟨u0, v0, x0⟩, hR2, hg⟩
  have HB := hd (top_below hb hRB hg)
  rcases hv : vld2 u v x with _ | _
  · go_wp2_with (go_at_call 62; refine (l1Both_any _ _ _ _).mono ?_; rintro e w' ⟨rfl, rfl⟩)
    go_ret3
    exact ⟨u, v, x, rfl, trivial, HB.out⟩
  obtain ⟨h1, h2, h3, h4, g3, g4, h5, h6⟩ := vld2_bd hv
  go_wp2_with fail
  refine (l1Both_any u v x w2).mono ?_
  rintro e w2' ⟨rfl, rfl⟩
  go_wp2_with fail
  refine (pick_l R A n c 12 4 (by omega) (by omega) _ hR2).mono ?_
  rintro e w3 ⟨t, rfl, ⟨t0, t1⟩, hR3, hg3⟩
  have HB3 := hd (HB.out.grown hg3 HB.out.size (by rintro k ⟨⟩; exact hRB))
  by_cases ht : 0 < t
  · go_wp2_with fail
    refine (pick_l R A n c 13 2 (by omega) (by omega) _ hR3).mono ?_
    rintro e w4 ⟨y, rfl, ⟨y0, y1⟩, hR4, hg4⟩
    have HB4 := hd (HB3.out.grown hg4 HB3.out.size (by rintro k ⟨⟩; exact hRB))
    have hp1 : 1 ≤ x / 2 * 2 + 1 := by omega
    have hp2 : x / 2 * 2 + 1 ≤ 4096 := by omega
    have hpz : (x / 2 * 2 + 1 == 0) = false := by simp; omega
    obtain ⟨d1, d2⟩ := ediv_bd (x := v) (c := x / 2 * 2 + 1) h3 hp1
    have e1 : 0 ≤ v / (x / 2 * 2 + 1) * (x / 2 * 2 + 1) := Int.mul_nonneg d1 (by omega)
    have e2 : v / (x / 2 * 2 + 1) * (x / 2 * 2 + 1) ≤ v := Int.ediv_mul_le _ (by omega)
    by_cases hy : y = 0
    · subst hy
      go_wp2
      go_ret3
      exact ⟨u, _, _, rfl, trivial, HB4.out⟩
    · have hyz : (y == 0) = false := by simpa using hy
      clear hy
      go_wp2
      go_ret3
      exact ⟨u, _, _, rfl, trivial, HB4.out⟩
  · go_wp2
    go_ret3
    exact ⟨u, v, x, rfl, trivial, HB3.out⟩
def clampE (k : Int) : Int := if k < 0 then 0 else if k ≤ 8 then k else 8
end Go.Proofs.Ytdjggccplaifbaa
