/- Contracts of the functions that draw the arguments of MagicOk and MagicSure (chapter 4): no condition but that the code is a slice of bytes that can be read. -/
import Derived.Test.YtdjggccplaifbaaDV
namespace Go.Proofs.Ytdjggccplaifbaa
open Go.RowKit
theorem pw_17 : pw 17 = 131072 := by decide
theorem results_tmp4 {fn : Func} {t u v x : Tmp} (h : fn.results = #[.tmp t, .tmp u, .tmp v, .tmp x]) (tmps : Array Value) (P : Program) (w : World) :
    (results fn tmps).run P w = .ok (.tuple #[tmps.getD t undef, tmps.getD u undef, tmps.getD v undef, tmps.getD x undef]) w := by
  simp [results, h]
set_option maxHeartbeats 1600000 in
theorem DrawMagicOk_any (a : Option Addr) (len cap : Nat) (w : World) (h : Code8 w a len cap) : Calls Try.prog 32 #[.slice a len cap] w (Top4 (fun k d m s => (-8 ≤ k ∧ k ≤ 13) ∧ (1 ≤ d ∧ d ≤ 256) ∧ (-1 ≤ m ∧ m ≤ 200000) ∧ 0 ≤ s ∧ s ≤ 50) w) := by
  go_enter Try.func32, Try.ntmps32
  go_wp2_with fail
  refine (l20Open_any a len cap w h).mono ?_
  rintro e w1 ⟨R, A, n, c, rfl, hR, hRB, hb⟩
  go_wp2_with fail
  refine (l20Small_l R A n c 0 (by omega) w1 hR).mono ?_
  rintro e w2 ⟨k, rfl, ⟨k1, k2⟩, hR2, hg⟩
  have HG := hd hg
  clear hg hR
  rcases (show k < 0 ∨ (0 ≤ k ∧ k ≤ 8) ∨ 8 < k by omega) with hk | hk | hk
  · skip
    go_wp2_with fail
    refine (pick_l R A n c 3 1 (by omega) (by omega) _ hR2).mono ?_
    rintro e w3 ⟨u, rfl, ⟨u0, u1⟩, hw3, hgw3⟩
    have u2 := u1 (by omega)
    have HG := hd (HG.out.trans hgw3)
    clear u1 hgw3
    go_wp2_with fail
    refine (pick_l R A n c 4 5 (by omega) (by omega) _ hw3).mono ?_
    rintro e w4 ⟨v, rfl, ⟨v0, v1⟩, hw4, hgw4⟩
    have v2 := v1 (by omega)
    have HG := hd (HG.out.trans hgw4)
    clear v1 hgw4
    have ps := pw_pos v
    have pl := pw_le v 17 (by omega)
    rw [pw_17] at pl
    have q1 : (2 : Int) ^ v.toNat = pw v := rfl
    have s1 := wr (pw v) (by omega)
    obtain ⟨P, hP⟩ : ∃ P, pw v = P := ⟨_, rfl⟩
    rw [hP] at ps pl q1 s1
    clear hP
    obtain ⟨D1, D2⟩ := ediv_bd (x := P + (1 + u) - 1) (c := 1 + u) (by omega) (by omega)
    go_wp2_with fail
    refine (pick_l R A n c 5 5 (by omega) (by omega) _ hw4).mono ?_
    rintro e w5 ⟨t, rfl, ⟨t0, t1⟩, hw5, hgw5⟩
    have t2 := t1 (by omega)
    have HG := hd (HG.out.trans hgw5)
    clear t1 hgw5
    by_cases ht : t = 0
    · subst ht
      go_wp2_with fail
      refine (pick_l R A n c 6 3 (by omega) (by omega) _ hw5).mono ?_
      rintro e w6 ⟨y, rfl, ⟨y0, y1⟩, hw6, hgw6⟩
      have y2 := y1 (by omega)
      have HG := hd (HG.out.trans hgw6)
      clear y1 hgw6
      go_wp2_with fail
      refine (pick_l R A n c 7 40 (by omega) (by omega) _ hw6).mono ?_
      rintro e w7 ⟨z, rfl, ⟨z0, z1⟩, hw7, hgw7⟩
      have z2 := z1 (by omega)
      have HG := hd (HG.out.trans hgw7)
      clear z1 hgw7
      have e1 := Int.tdiv_eq_ediv_of_nonneg (b := 39) z0
      have q2 := wr (z / 39 * 30) (by omega)
      go_wp2
      (try simp only [Exit.inBlock, Exit.then]); refine bodyPost_ret (results_tmp4 rfl _ _ _) rfl ?_
      exact ⟨k, 1 + u, _, _, rfl, ⟨⟨k1, k2⟩, ⟨by omega, by omega⟩, ⟨by omega, by omega⟩, by omega, by omega⟩, top_below hb hRB HG.out⟩
    · have htf : (t == 0) = false := by simpa using ht
      go_wp2_with fail
      refine (pick_l R A n c 6 40 (by omega) (by omega) _ hw5).mono ?_
      rintro e w7 ⟨z, rfl, ⟨z0, z1⟩, hw7, hgw7⟩
      have z2 := z1 (by omega)
      have HG := hd (HG.out.trans hgw7)
      clear z1 hgw7
      have e1 := Int.tdiv_eq_ediv_of_nonneg (b := 39) z0
      have q2 := wr (z / 39 * 30) (by omega)
      go_wp2
      (try simp only [Exit.inBlock, Exit.then]); refine bodyPost_ret (results_tmp4 rfl _ _ _) rfl ?_
      exact ⟨k, 1 + u, _, _, rfl, ⟨⟨k1, k2⟩, ⟨by omega, by omega⟩, ⟨by omega, by omega⟩, by omega, by omega⟩, top_below hb hRB HG.out⟩
  · skip
    have q0 : (2 : Int) ^ k.toNat = pw k := rfl
    obtain ⟨p1, p2⟩ := small_pw k (by omega) k2
    have p3 := pw_le k 8 (by omega)
    rw [show pw 8 = 256 from by decide] at p3
    have s0 := wr (pw k) (by omega)
    go_wp2_with fail
    refine (pick_l R A n c 3 (pw k) (by omega) (by omega) _ hR2).mono ?_
    rintro e w3 ⟨u, rfl, ⟨u0, u1⟩, hw3, hgw3⟩
    have u2 := u1 (by omega)
    have HG := hd (HG.out.trans hgw3)
    clear u1 hgw3
    go_wp2_with fail
    refine (pick_l R A n c 4 5 (by omega) (by omega) _ hw3).mono ?_
    rintro e w4 ⟨v, rfl, ⟨v0, v1⟩, hw4, hgw4⟩
    have v2 := v1 (by omega)
    have HG := hd (HG.out.trans hgw4)
    clear v1 hgw4
    have ps := pw_pos (k + v)
    have pl := pw_le (k + v) 17 (by omega)
    rw [pw_17] at pl
    have q1 : (2 : Int) ^ (k + v).toNat = pw (k + v) := rfl
    have s1 := wr (pw (k + v)) (by omega)
    obtain ⟨P, hP⟩ : ∃ P, pw (k + v) = P := ⟨_, rfl⟩
    rw [hP] at ps pl q1 s1
    clear hP
    obtain ⟨D1, D2⟩ := ediv_bd (x := P + (1 + u) - 1) (c := 1 + u) (by omega) (by omega)
    go_wp2_with fail
    refine (pick_l R A n c 5 5 (by omega) (by omega) _ hw4).mono ?_
    rintro e w5 ⟨t, rfl, ⟨t0, t1⟩, hw5, hgw5⟩
    have t2 := t1 (by omega)
    have HG := hd (HG.out.trans hgw5)
    clear t1 hgw5
    by_cases ht : t = 0
    · subst ht
      go_wp2_with fail
      refine (pick_l R A n c 6 3 (by omega) (by omega) _ hw5).mono ?_
      rintro e w6 ⟨y, rfl, ⟨y0, y1⟩, hw6, hgw6⟩
      have y2 := y1 (by omega)
      have HG := hd (HG.out.trans hgw6)
      clear y1 hgw6
      go_wp2_with fail
      refine (pick_l R A n c 7 40 (by omega) (by omega) _ hw6).mono ?_
      rintro e w7 ⟨z, rfl, ⟨z0, z1⟩, hw7, hgw7⟩
      have z2 := z1 (by omega)
      have HG := hd (HG.out.trans hgw7)
      clear z1 hgw7
      have e1 := Int.tdiv_eq_ediv_of_nonneg (b := 39) z0
      have q2 := wr (z / 39 * 30) (by omega)
      go_wp2
      (try simp only [Exit.inBlock, Exit.then]); refine bodyPost_ret (results_tmp4 rfl _ _ _) rfl ?_
      exact ⟨k, 1 + u, _, _, rfl, ⟨⟨k1, k2⟩, ⟨by omega, by omega⟩, ⟨by omega, by omega⟩, by omega, by omega⟩, top_below hb hRB HG.out⟩
    · have htf : (t == 0) = false := by simpa using ht
      go_wp2_with fail
      refine (pick_l R A n c 6 40 (by omega) (by omega) _ hw5).mono ?_
      rintro e w7 ⟨z, rfl, ⟨z0, z1⟩, hw7, hgw7⟩
      have z2 := z1 (by omega)
      have HG := hd (HG.out.trans hgw7)
      clear z1 hgw7
      have e1 := Int.tdiv_eq_ediv_of_nonneg (b := 39) z0
      have q2 := wr (z / 39 * 30) (by omega)
      go_wp2
      (try simp only [Exit.inBlock, Exit.then]); refine bodyPost_ret (results_tmp4 rfl _ _ _) rfl ?_
      exact ⟨k, 1 + u, _, _, rfl, ⟨⟨k1, k2⟩, ⟨by omega, by omega⟩, ⟨by omega, by omega⟩, by omega, by omega⟩, top_below hb hRB HG.out⟩
  · skip
    go_wp2_with fail
    refine (pick_l R A n c 3 256 (by omega) (by omega) _ hR2).mono ?_
    rintro e w3 ⟨u, rfl, ⟨u0, u1⟩, hw3, hgw3⟩
    have u2 := u1 (by omega)
    have HG := hd (HG.out.trans hgw3)
    clear u1 hgw3
    go_wp2_with fail
    refine (pick_l R A n c 4 5 (by omega) (by omega) _ hw3).mono ?_
    rintro e w4 ⟨v, rfl, ⟨v0, v1⟩, hw4, hgw4⟩
    have v2 := v1 (by omega)
    have HG := hd (HG.out.trans hgw4)
    clear v1 hgw4
    have ps := pw_pos (k + v)
    have pl := pw_le (k + v) 17 (by omega)
    rw [pw_17] at pl
    have q1 : (2 : Int) ^ (k + v).toNat = pw (k + v) := rfl
    have s1 := wr (pw (k + v)) (by omega)
    obtain ⟨P, hP⟩ : ∃ P, pw (k + v) = P := ⟨_, rfl⟩
    rw [hP] at ps pl q1 s1
    clear hP
    obtain ⟨D1, D2⟩ := ediv_bd (x := P + (1 + u) - 1) (c := 1 + u) (by omega) (by omega)
    go_wp2_with fail
    refine (pick_l R A n c 5 5 (by omega) (by omega) _ hw4).mono ?_
    rintro e w5 ⟨t, rfl, ⟨t0, t1⟩, hw5, hgw5⟩
    have t2 := t1 (by omega)
    have HG := hd (HG.out.trans hgw5)
    clear t1 hgw5
    by_cases ht : t = 0
    · subst ht
      go_wp2_with fail
      refine (pick_l R A n c 6 3 (by omega) (by omega) _ hw5).mono ?_
      rintro e w6 ⟨y, rfl, ⟨y0, y1⟩, hw6, hgw6⟩
      have y2 := y1 (by omega)
      have HG := hd (HG.out.trans hgw6)
      clear y1 hgw6
      go_wp2_with fail
      refine (pick_l R A n c 7 40 (by omega) (by omega) _ hw6).mono ?_
      rintro e w7 ⟨z, rfl, ⟨z0, z1⟩, hw7, hgw7⟩
      have z2 := z1 (by omega)
      have HG := hd (HG.out.trans hgw7)
      clear z1 hgw7
      have e1 := Int.tdiv_eq_ediv_of_nonneg (b := 39) z0
      have q2 := wr (z / 39 * 30) (by omega)
      go_wp2
      (try simp only [Exit.inBlock, Exit.then]); refine bodyPost_ret (results_tmp4 rfl _ _ _) rfl ?_
      exact ⟨k, 1 + u, _, _, rfl, ⟨⟨k1, k2⟩, ⟨by omega, by omega⟩, ⟨by omega, by omega⟩, by omega, by omega⟩, top_below hb hRB HG.out⟩
    · have htf : (t == 0) = false := by simpa using ht
      go_wp2_with fail
      refine (pick_l R A n c 6 40 (by omega) (by omega) _ hw5).mono ?_
      rintro e w7 ⟨z, rfl, ⟨z0, z1⟩, hw7, hgw7⟩
      have z2 := z1 (by omega)
      have HG := hd (HG.out.trans hgw7)
      clear z1 hgw7
      have e1 := Int.tdiv_eq_ediv_of_nonneg (b := 39) z0
      have q2 := wr (z / 39 * 30) (by omega)
      go_wp2
      (try simp only [Exit.inBlock, Exit.then]); refine bodyPost_ret (results_tmp4 rfl _ _ _) rfl ?_
      exact ⟨k, 1 + u, _, _, rfl, ⟨⟨k1, k2⟩, ⟨by omega, by omega⟩, ⟨by omega, by omega⟩, by omega, by omega⟩, top_below hb hRB HG.out⟩
theorem DrawMagicSure_any (a : Option Addr) (len cap : Nat) (w : World) (h : Code8 w a len cap) : Calls Try.prog 36 #[.slice a len cap] w (Top4 (fun k d m s => (-8 ≤ k ∧ k ≤ 13) ∧ (1 ≤ d ∧ d ≤ 256) ∧ (-1 ≤ m ∧ m ≤ 200000) ∧ 0 ≤ s ∧ s ≤ 50) w) := by
  go_enter Try.func36, Try.ntmps36
  go_wp2_with fail
  refine (DrawMagicOk_any a len cap w h).mono ?_
  rintro e w1 ⟨k, d, m, s, rfl, hq, hb⟩
  go_wp2
  (try simp only [Exit.inBlock, Exit.then]); refine bodyPost_ret (results_tmp4 rfl _ _ _) rfl ?_
  exact ⟨k, d, m, s, rfl, hq, hb⟩
end Go.Proofs.Ytdjggccplaifbaa
