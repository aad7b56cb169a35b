/- Contracts of the functions that draw the arguments of the laws: no condition but that the code is a slice of bytes that can be read. -/
import Derived.Test.YthbpcgefcnpfmaaDS
import Derived.Deep.RegionWith
namespace Go.Proofs.Ythbpcgefcnpfmaa
open Go.RowKit
theorem code8_of {w : World} {a : Option Addr} {len cap : Nat} {zs : List Int}
    (h : (a = none ∧ len = 0 ∧ cap = 0 ∧ zs = []) ∨ ∃ x, a = some x ∧ len ≤ cap ∧ cap ≤ maxLen ∧ zs.length = cap ∧ (∀ i, i < zs.length → w.cell? (x.add i) = some (.int .u8 (zs.getD i 0))) ∧ ∀ n ∈ zs, (Lit.int .u8 n).wf = true) :
    Code8 w a len cap := by
  rcases h with ⟨rfl, rfl, rfl, rfl⟩ | ⟨x, rfl, hl, hm, hz, hc, hw⟩
  · exact ⟨Nat.le_refl _, Nat.zero_le _, fun h => absurd h (by omega)⟩
  · refine ⟨hl, hm, fun h0 => ?_⟩
    obtain ⟨b, off, spot⟩ := x
    have h1 := hc 0 (by omega)
    have hspot : spot = none := by simpa [Addr.add] using World.cell?_spot h1
    subst hspot
    have hadd : ∀ i, (⟨b, off, none⟩ : Addr).add i = ⟨b, off + i, none⟩ := fun i => by unfold Addr.add; split <;> simp_all
    refine ⟨b, off, rfl, World.block_lt_of_cell? w _ h1, fun i hi => ?_⟩
    have h2 := hc i (by omega)
    rw [hadd] at h2
    have h3 := hw (zs.getD i 0) (by rw [List.getD_eq_getElem?_getD, List.getElem?_eq_getElem (by omega)]; exact List.getElem_mem _)
    have h4 : 0 ≤ zs.getD i 0 ∧ zs.getD i 0 ≤ 255 := by simpa [Lit.wf, IntKind.min, IntKind.max, IntKind.signed, IntKind.bits] using h3
    exact ⟨_, h2, h4.1, h4.2⟩
def Top1 (Q : Int → Prop) (w : World) (e : Ending) (w' : World) : Prop := ∃ u : Int, e = .returned (.int .i64 u) ∧ Q u ∧ Below w.heap.size w w'
def Top2 (Q : Int → Int → Prop) (w : World) (e : Ending) (w' : World) : Prop := ∃ u v : Int, e = .returned (.tuple #[.int .i64 u, .int .i64 v]) ∧ Q u v ∧ Below w.heap.size w w'
def Top3 (Q : Int → Int → Int → Prop) (w : World) (e : Ending) (w' : World) : Prop := ∃ u v x : Int, e = .returned (.tuple #[.int .i64 u, .int .i64 v, .int .i64 x]) ∧ Q u v x ∧ Below w.heap.size w w'
def Top4 (Q : Int → Int → Int → Int → Prop) (w : World) (e : Ending) (w' : World) : Prop := ∃ u v x y : Int, e = .returned (.tuple #[.int .i64 u, .int .i64 v, .int .i64 x, .int .i64 y]) ∧ Q u v x y ∧ Below w.heap.size w w'
theorem top_below {w w1 w2 : World} {R : Nat} (hb : Below w.heap.size w w1) (hRB : w.heap.size ≤ R) (hg : w1.grownBy w2 (some R)) : Below w.heap.size w w2 :=
  hb.grown hg hb.size (by rintro k ⟨⟩; exact hRB)
set_option maxHeartbeats 800000 in
theorem l20Ratio_l (R : Nat) (A : Option Addr) (n c P : Nat) (hP : P ≤ 400) (w : World) (h : RdL w R A n c P) :
    Calls Try.prog 58 #[.pointer (some ⟨R, 0, none⟩)] w (Drawn3 R A n c (P + 12) (fun u v x => okW u ∧ okX v ∧ okX x) w) := by
  go_enter Try.func58, Try.ntmps58
  go_wp2_with fail
  refine (l20Two_l R A n c P _ (by omega) (by omega) (by omega) w h).mono ?_
  rintro e w1 ⟨u, v, x, rfl, ⟨u0, v0, x0⟩, hR1, hg1⟩
  by_cases hk1 : 0 < u
  · by_cases hk2 : u ≤ 12
    · go_wp2_with fail
      refine (pick_l R A n c (P + 10) 2 (by omega) (by omega) _ hR1).mono ?_
      rintro e w2 ⟨t, rfl, ⟨t0, t1⟩, hR2, hg2⟩
      have HG := hd (hg1.trans hg2)
      clear hg1 hg2 t1 hR1
      by_cases ht : t = 0
      · subst ht
        obtain ⟨p1, p2⟩ := pw_w u (by omega) hk2
        have ek := shl_pw u
        go_wp2
        have s1 := wr (pw u) (by omega)
        have hu0 : 0 ≤ u := by omega
        have hpz : (pw u == 0) = false := by simp; omega
        have HP := hd (fun W (h0 : RdL W R A n c (P + 11)) => pick_l R A n c (P + 11) 7 (by omega) (by omega) W h0)
        go_region_with ((go_at_call 80; refine (HP.out _ hR2.drew1).mono ?_; rintro e w3 ⟨y, rfl, ⟨y0, y1⟩, hR3, hg3⟩))
        all_goals
          go_wp2
          go_ret3
          have hq := mod_lt_bd y (pw u) (by omega)
          have hok : okX (y % pw u) := ⟨by omega, by omega⟩
          refine ⟨u, v, y % pw u, ?_, ⟨u0, v0, hok⟩, hR3, (grown_drewN HG.out 1).trans hg3⟩
          have ht := Int.tmod_eq_emod_of_nonneg (b := pw u) y0
          go_simp
      · have hv2 : (t == 0) = false := by simpa using ht
        go_wp2
        go_ret3
        exact ⟨u, v, x, rfl, ⟨u0, v0, x0⟩, hR2.up (by omega), HG.out⟩
    · go_wp2
      go_ret3
      exact ⟨u, v, x, rfl, ⟨u0, v0, x0⟩, hR1.up (by omega), hg1⟩
  · go_wp2
    go_ret3
    exact ⟨u, v, x, rfl, ⟨u0, v0, x0⟩, hR1.up (by omega), hg1⟩
theorem DrawBoothTimes_any (a : Option Addr) (len cap : Nat) (w : World) (h : Code8 w a len cap) : Calls Try.prog 52 #[.slice a len cap] w (Top3 (fun u v x => okW u ∧ okX v ∧ okX x) w) := by
  go_enter Try.func52, Try.ntmps52
  go_wp2_with fail
  refine (l20Open_any a len cap w h).mono ?_
  rintro e w1 ⟨R, A, n, c, rfl, hR, hRB, hb⟩
  go_wp2_with fail
  refine (l20Two_l R A n c 0 9 (by omega) (by omega) (by omega) w1 hR).mono ?_
  rintro e w2 ⟨u, v, x, rfl, hq, _, hg⟩
  go_wp2
  go_ret3
  exact ⟨u, v, x, rfl, hq, top_below hb hRB hg⟩
theorem DrawWideTimes_any (a : Option Addr) (len cap : Nat) (w : World) (h : Code8 w a len cap) : Calls Try.prog 20 #[.slice a len cap] w (Top3 (fun u v x => okW u ∧ okX v ∧ okX x) w) := by
  go_enter Try.func20, Try.ntmps20
  go_wp2_with fail
  refine (l20Open_any a len cap w h).mono ?_
  rintro e w1 ⟨R, A, n, c, rfl, hR, hRB, hb⟩
  go_wp2_with fail
  refine (l20Two_l R A n c 0 9 (by omega) (by omega) (by omega) w1 hR).mono ?_
  rintro e w2 ⟨u, v, x, rfl, hq, _, hg⟩
  go_wp2
  go_ret3
  exact ⟨u, v, x, rfl, hq, top_below hb hRB hg⟩
theorem DrawHalfTimes_any (a : Option Addr) (len cap : Nat) (w : World) (h : Code8 w a len cap) : Calls Try.prog 25 #[.slice a len cap] w (Top3 (fun u v x => okW u ∧ okX v ∧ okX x) w) := by
  go_enter Try.func25, Try.ntmps25
  go_wp2_with fail
  refine (l20Open_any a len cap w h).mono ?_
  rintro e w1 ⟨R, A, n, c, rfl, hR, hRB, hb⟩
  go_wp2_with fail
  refine (l20Two_l R A n c 0 9 (by omega) (by omega) (by omega) w1 hR).mono ?_
  rintro e w2 ⟨u, v, x, rfl, hq, _, hg⟩
  go_wp2
  go_ret3
  exact ⟨u, v, x, rfl, hq, top_below hb hRB hg⟩
theorem DrawSignedHigh_any (a : Option Addr) (len cap : Nat) (w : World) (h : Code8 w a len cap) : Calls Try.prog 28 #[.slice a len cap] w (Top3 (fun u v x => okW u ∧ okX v ∧ okX x) w) := by
  go_enter Try.func28, Try.ntmps28
  go_wp2_with fail
  refine (l20Open_any a len cap w h).mono ?_
  rintro e w1 ⟨R, A, n, c, rfl, hR, hRB, hb⟩
  go_wp2_with fail
  refine (l20Two_l R A n c 0 9 (by omega) (by omega) (by omega) w1 hR).mono ?_
  rintro e w2 ⟨u, v, x, rfl, hq, _, hg⟩
  go_wp2
  go_ret3
  exact ⟨u, v, x, rfl, hq, top_below hb hRB hg⟩
theorem DrawMovedWords_any (a : Option Addr) (len cap : Nat) (w : World) (h : Code8 w a len cap) : Calls Try.prog 44 #[.slice a len cap] w (Top3 (fun u v x => okW u ∧ okX v ∧ okX x) w) := by
  go_enter Try.func44, Try.ntmps44
  go_wp2_with fail
  refine (l20Open_any a len cap w h).mono ?_
  rintro e w1 ⟨R, A, n, c, rfl, hR, hRB, hb⟩
  go_wp2_with fail
  refine (l20Two_l R A n c 0 9 (by omega) (by omega) (by omega) w1 hR).mono ?_
  rintro e w2 ⟨u, v, x, rfl, hq, _, hg⟩
  go_wp2
  go_ret3
  exact ⟨u, v, x, rfl, hq, top_below hb hRB hg⟩
theorem DrawBoothDigits_any (a : Option Addr) (len cap : Nat) (w : World) (h : Code8 w a len cap) : Calls Try.prog 40 #[.slice a len cap] w (Top2 (fun u v => okW u ∧ okX v) w) := by
  go_enter Try.func40, Try.ntmps40
  go_wp2_with fail
  refine (l20Open_any a len cap w h).mono ?_
  rintro e w1 ⟨R, A, n, c, rfl, hR, hRB, hb⟩
  go_wp2_with fail
  refine (l20One_l R A n c 0 9 (by omega) (by omega) (by omega) w1 hR).mono ?_
  rintro e w2 ⟨u, v, rfl, hq, _, hg⟩
  go_wp2
  go_ret2
  exact ⟨u, v, rfl, hq, top_below hb hRB hg⟩
theorem DrawWordDivide_any (a : Option Addr) (len cap : Nat) (w : World) (h : Code8 w a len cap) : Calls Try.prog 16 #[.slice a len cap] w (Top3 (fun u v x => okW u ∧ okX v ∧ okX x) w) := by
  go_enter Try.func16, Try.ntmps16
  go_wp2_with fail
  refine (l20Open_any a len cap w h).mono ?_
  rintro e w1 ⟨R, A, n, c, rfl, hR, hRB, hb⟩
  go_wp2_with fail
  refine (l20Ratio_l R A n c 0 (by omega) w1 hR).mono ?_
  rintro e w2 ⟨u, v, x, rfl, hq, _, hg⟩
  go_wp2
  go_ret3
  exact ⟨u, v, x, rfl, hq, top_below hb hRB hg⟩
theorem DrawDivideSteps_any (a : Option Addr) (len cap : Nat) (w : World) (h : Code8 w a len cap) : Calls Try.prog 48 #[.slice a len cap] w (Top3 (fun u v x => okW u ∧ okX v ∧ okX x) w) := by
  go_enter Try.func48, Try.ntmps48
  go_wp2_with fail
  refine (l20Open_any a len cap w h).mono ?_
  rintro e w1 ⟨R, A, n, c, rfl, hR, hRB, hb⟩
  go_wp2_with fail
  refine (l20Ratio_l R A n c 0 (by omega) w1 hR).mono ?_
  rintro e w2 ⟨u, v, x, rfl, hq, _, hg⟩
  go_wp2
  go_ret3
  exact ⟨u, v, x, rfl, hq, top_below hb hRB hg⟩
theorem DrawDivideSigns_any (a : Option Addr) (len cap : Nat) (w : World) (h : Code8 w a len cap) : Calls Try.prog 37 #[.slice a len cap] w (Top3 (fun u v x => okW u ∧ okX v ∧ okX x) w) := by
  go_enter Try.func37, Try.ntmps37
  go_wp2_with fail
  refine (l20Open_any a len cap w h).mono ?_
  rintro e w1 ⟨R, A, n, c, rfl, hR, hRB, hb⟩
  go_wp2_with fail
  refine (l20Ratio_l R A n c 0 (by omega) w1 hR).mono ?_
  rintro e w2 ⟨u, v, x, rfl, hq, _, hg⟩
  go_wp2
  go_ret3
  exact ⟨u, v, x, rfl, hq, top_below hb hRB hg⟩
theorem DrawSignedDivide_any (a : Option Addr) (len cap : Nat) (w : World) (h : Code8 w a len cap) : Calls Try.prog 32 #[.slice a len cap] w (Top3 (fun u v x => okW u ∧ okX v ∧ okX x) w) := by
  go_enter Try.func32, Try.ntmps32
  go_wp2_with fail
  refine (l20Open_any a len cap w h).mono ?_
  rintro e w1 ⟨R, A, n, c, rfl, hR, hRB, hb⟩
  go_wp2_with fail
  refine (l20Ratio_l R A n c 0 (by omega) w1 hR).mono ?_
  rintro e w2 ⟨u, v, x, rfl, hq, _, hg⟩
  go_wp2
  go_ret3
  exact ⟨u, v, x, rfl, hq, top_below hb hRB hg⟩
