/- The contract of the function that draws the arguments of DivideBy (chapter 4): no condition but that the code is a slice of bytes that can be read. -/
import Derived.Test.YtdjggccplaifbaaDV
import Derived.Deep.RegionWith
namespace Go.Proofs.Ytdjggccplaifbaa
open Go.RowKit
set_option maxHeartbeats 6000000 in
theorem DrawDivideBy_any (a : Option Addr) (len cap : Nat) (w : World) (h : Code8 w a len cap) : Calls Try.prog 55 #[.slice a len cap] w (Top3 (fun u x v => (-8 ≤ u ∧ u ≤ 13) ∧ (-1 ≤ x ∧ x ≤ 4096) ∧ 0 ≤ v ∧ v ≤ 600) w) := by
  go_enter Try.func55, Try.ntmps55
  go_wp2_with fail
  refine (l20Open_any a len cap w h).mono ?_
  rintro e w1 ⟨R, A, n, c, rfl, hR, hRB, hb⟩
  go_wp2_with fail
  refine (l20Small_l R A n c 0 (by omega) w1 hR).mono ?_
  rintro e w2 ⟨k, rfl, ⟨k1, k2⟩, hR2, hg⟩
  have HG := hd hg
  clear hg hR
  rcases (show k < 0 ∨ (0 ≤ k ∧ k ≤ 8) ∨ 8 < k by omega) with hk | hk | hk
  · skip
    have HP : ∀ W, RdL W R A n c 7 → Calls Try.prog 73 #[.pointer (some ⟨R, 0, none⟩), .int .i64 (IntKind.i64.wrap 1)] W (Drawn1 R A n c (7 + 1) (fun v => 0 ≤ v ∧ (1 ≤ (1 : Int) → v < 1)) W) := fun W h0 => by rw [wr 1 (by omega)]; exact pick_l R A n c 7 1 (by omega) (by omega) W h0
    go_wp2
    go_region_with ((first
      | (go_at_call 73; refine (pick_l R A n c 8 30 (by omega) (by omega) _ hR4).mono ?_; rintro e w5 ⟨v, rfl, ⟨v0, v1⟩, hR5, hg5⟩; have v2 := v1 (by omega))
      | (go_at_call 73; refine (HP _ hR3).mono ?_; rintro e w4 ⟨u, rfl, ⟨u0, u1⟩, hR4, hg4⟩; have u2 := u1 (by omega))
      | (go_at_call 83; refine (l20Word_l R A n c 3 k 14 (by omega) (by omega) (by omega) _ hR2.drew1).mono ?_; rintro e w3 ⟨x, rfl, ⟨x0, x1⟩, hR3, hg3⟩)))
    all_goals
      have e1 := Int.tdiv_eq_ediv_of_nonneg (b := 29) v0
      have q1 := wr (v / 29 * 256) (by omega)
      have q2 := wr (u + v / 29 * 256) (by omega)
      go_wp2
      go_ret3
      refine ⟨k, x, u + v / 29 * 256, ?_, ⟨⟨k1, k2⟩, ⟨x0, x1⟩, by omega, by omega⟩, top_below hb hRB ((((grown_drewN HG.out 1).trans hg3).trans hg4).trans hg5)⟩
      go_simp
      rw [wr (v / 29) (by omega), q1, q2]
  · skip
    have q0 : (2 : Int) ^ k.toNat = pw k := rfl
    obtain ⟨p1, p2⟩ := small_pw k (by omega) k2
    have p3 := pw_le k 8 (by omega)
    rw [show pw 8 = 256 from by decide] at p3
    have s0 := wr (pw k) (by omega)
    go_wp2
    go_region_with ((first
      | (go_at_call 73; refine (pick_l R A n c 8 30 (by omega) (by omega) _ hR4).mono ?_; rintro e w5 ⟨v, rfl, ⟨v0, v1⟩, hR5, hg5⟩; have v2 := v1 (by omega))
      | (go_at_call 73; refine (pick_l R A n c 7 _ (by omega) (by omega) _ hR3).mono ?_; rintro e w4 ⟨u, rfl, ⟨u0, u1⟩, hR4, hg4⟩; have u2 := u1 (by omega))
      | (go_at_call 83; refine (l20Word_l R A n c 3 k 14 (by omega) (by omega) (by omega) _ hR2.drew1).mono ?_; rintro e w3 ⟨x, rfl, ⟨x0, x1⟩, hR3, hg3⟩)))
    all_goals
      have e1 := Int.tdiv_eq_ediv_of_nonneg (b := 29) v0
      have q1 := wr (v / 29 * 256) (by omega)
      have q2 := wr (u + v / 29 * 256) (by omega)
      go_wp2
      go_ret3
      refine ⟨k, x, u + v / 29 * 256, ?_, ⟨⟨k1, k2⟩, ⟨x0, x1⟩, by omega, by omega⟩, top_below hb hRB ((((grown_drewN HG.out 1).trans hg3).trans hg4).trans hg5)⟩
      go_simp
      rw [wr (v / 29) (by omega), q1, q2]
  · skip
    have HP : ∀ (m : Int) W, m = 256 → RdL W R A n c 7 → Calls Try.prog 73 #[.pointer (some ⟨R, 0, none⟩), .int .i64 m] W (Drawn1 R A n c (7 + 1) (fun v => 0 ≤ v ∧ (1 ≤ (256 : Int) → v < 256)) W) := fun m W hm h0 => by subst hm; exact pick_l R A n c 7 256 (by omega) (by omega) W h0
    go_wp2
    go_region_with ((first
      | (go_at_call 73; refine (pick_l R A n c 8 30 (by omega) (by omega) _ hR4).mono ?_; rintro e w5 ⟨v, rfl, ⟨v0, v1⟩, hR5, hg5⟩; have v2 := v1 (by omega))
      | (go_at_call 73; refine (HP _ _ (by first | rfl | decide) hR3).mono ?_; rintro e w4 ⟨u, rfl, ⟨u0, u1⟩, hR4, hg4⟩; have u2 := u1 (by omega))
      | (go_at_call 83; refine (l20Word_l R A n c 3 k 14 (by omega) (by omega) (by omega) _ hR2.drew1).mono ?_; rintro e w3 ⟨x, rfl, ⟨x0, x1⟩, hR3, hg3⟩)))
    all_goals
      have e1 := Int.tdiv_eq_ediv_of_nonneg (b := 29) v0
      have q1 := wr (v / 29 * 256) (by omega)
      have q2 := wr (u + v / 29 * 256) (by omega)
      go_wp2
      go_ret3
      refine ⟨k, x, u + v / 29 * 256, ?_, ⟨⟨k1, k2⟩, ⟨x0, x1⟩, by omega, by omega⟩, top_below hb hRB ((((grown_drewN HG.out 1).trans hg3).trans hg4).trans hg5)⟩
      go_simp
      rw [wr (v / 29) (by omega), q1, q2]
end Go.Proofs.Ytdjggccplaifbaa
