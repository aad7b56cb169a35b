/- Contracts of the functions that draw the arguments of the laws: no condition but that the code is a slice of bytes that can be read. -/
import Derived.Test.YtdjggccplaifbaaDS
import Derived.Deep.RegionWith
namespace Go.Proofs.Ytdjggccplaifbaa
open Go.RowKit
theorem code8_of {w : World} {a : Option Addr} {len cap : Nat} {zs : List Int}
    (h : (a = none ∧ len = 0 ∧ cap = 0 ∧ zs = []) ∨ ∃ x, a = some x ∧ len ≤ cap ∧ cap ≤ maxLen ∧ zs.length = cap ∧ (∀ i, i < zs.length → w.cell? (x.add i) = some (.int .u8 (zs.getD i 0))) ∧ ∀ n ∈ zs, (Lit.int .u8 n).wf = true) :
    Code8 w a len cap := by
  rcases h with ⟨rfl, rfl, rfl, rfl⟩ | ⟨x, rfl, hl, hm, hz, hc, hw⟩
  · exact ⟨Nat.le_refl _, Nat.zero_le _, fun h => absurd h (by omega)⟩
  · refine ⟨hl, hm, fun h0 => ?_⟩
    obtain ⟨b, off, spot⟩ := x
    have h1 := hc 0 (by omega)
    have hspot : spot = none := by simpa [Addr.add] using World.cell?_spot h1
    subst hspot
    have hadd : ∀ i, (⟨b, off, none⟩ : Addr).add i = ⟨b, off + i, none⟩ := fun i => by unfold Addr.add; split <;> simp_all
    refine ⟨b, off, rfl, World.block_lt_of_cell? w _ h1, fun i hi => ?_⟩
    have h2 := hc i (by omega)
    rw [hadd] at h2
    have h3 := hw (zs.getD i 0) (by rw [List.getD_eq_getElem?_getD, List.getElem?_eq_getElem (by omega)]; exact List.getElem_mem _)
    have h4 : 0 ≤ zs.getD i 0 ∧ zs.getD i 0 ≤ 255 := by simpa [Lit.wf, IntKind.min, IntKind.max, IntKind.signed, IntKind.bits] using h3
    exact ⟨_, h2, h4.1, h4.2⟩
def Top1 (Q : Int → Prop) (w : World) (e : Ending) (w' : World) : Prop := ∃ u : Int, e = .returned (.int .i64 u) ∧ Q u ∧ Below w.heap.size w w'
def Top2 (Q : Int → Int → Prop) (w : World) (e : Ending) (w' : World) : Prop := ∃ u v : Int, e = .returned (.tuple #[.int .i64 u, .int .i64 v]) ∧ Q u v ∧ Below w.heap.size w w'
def Top3 (Q : Int → Int → Int → Prop) (w : World) (e : Ending) (w' : World) : Prop := ∃ u v x : Int, e = .returned (.tuple #[.int .i64 u, .int .i64 v, .int .i64 x]) ∧ Q u v x ∧ Below w.heap.size w w'
def Top4 (Q : Int → Int → Int → Int → Prop) (w : World) (e : Ending) (w' : World) : Prop := ∃ u v x y : Int, e = .returned (.tuple #[.int .i64 u, .int .i64 v, .int .i64 x, .int .i64 y]) ∧ Q u v x y ∧ Below w.heap.size w w'
theorem top_below {w w1 w2 : World} {R : Nat} (hb : Below w.heap.size w w1) (hRB : w.heap.size ≤ R) (hg : w1.grownBy w2 (some R)) : Below w.heap.size w w2 :=
  hb.grown hg hb.size (by rintro k ⟨⟩; exact hRB)
set_option maxHeartbeats 800000 in
theorem l20Ratio_l (R : Nat) (A : Option Addr) (n c P : Nat) (hP : P ≤ 400) (w : World) (h : RdL w R A n c P) :
    Calls Try.prog 84 #[.pointer (some ⟨R, 0, none⟩)] w (Drawn3 R A n c (P + 12) (fun u v x => okW u ∧ okX v ∧ okX x) w) := by
  go_enter Try.func84, Try.ntmps84
  go_wp2_with fail
  refine (l20Two_l R A n c P _ (by omega) (by omega) (by omega) w h).mono ?_
  rintro e w1 ⟨u, v, x, rfl, ⟨u0, v0, x0⟩, hR1, hg1⟩
  by_cases hk1 : 0 < u
  · by_cases hk2 : u ≤ 12
    · go_wp2_with fail
      refine (pick_l R A n c (P + 10) 2 (by omega) (by omega) _ hR1).mono ?_
      rintro e w2 ⟨t, rfl, ⟨t0, t1⟩, hR2, hg2⟩
      have HG := hd (hg1.trans hg2)
      clear hg1 hg2 t1 hR1
      by_cases ht : t = 0
      · subst ht
        obtain ⟨p1, p2⟩ := pw_w u (by omega) hk2
        have ek := shl_pw u
        go_wp2
        have s1 := wr (pw u) (by omega)
        have hu0 : 0 ≤ u := by omega
        have hpz : (pw u == 0) = false := by simp; omega
        have HP := hd (fun W (h0 : RdL W R A n c (P + 11)) => pick_l R A n c (P + 11) 7 (by omega) (by omega) W h0)
        go_region_with ((go_at_call 73; refine (HP.out _ hR2.drew1).mono ?_; rintro e w3 ⟨y, rfl, ⟨y0, y1⟩, hR3, hg3⟩))
        all_goals
          go_wp2
          go_ret3
          have hq := mod_lt_bd y (pw u) (by omega)
          have hok : okX (y % pw u) := ⟨by omega, by omega⟩
          refine ⟨u, v, y % pw u, ?_, ⟨u0, v0, hok⟩, hR3, (grown_drewN HG.out 1).trans hg3⟩
          have ht := Int.tmod_eq_emod_of_nonneg (b := pw u) y0
          go_simp
      · have hv2 : (t == 0) = false := by simpa using ht
        go_wp2
        go_ret3
        exact ⟨u, v, x, rfl, ⟨u0, v0, x0⟩, hR2.up (by omega), HG.out⟩
    · go_wp2
      go_ret3
      exact ⟨u, v, x, rfl, ⟨u0, v0, x0⟩, hR1.up (by omega), hg1⟩
  · go_wp2
    go_ret3
    exact ⟨u, v, x, rfl, ⟨u0, v0, x0⟩, hR1.up (by omega), hg1⟩
set_option maxHeartbeats 800000 in
theorem l20Constant_l (R : Nat) (A : Option Addr) (n c P : Nat) (hP : P ≤ 400) (w : World) (h : RdL w R A n c P) :
    Calls Try.prog 78 #[.pointer (some ⟨R, 0, none⟩)] w (Drawn1 R A n c (P + 5) (fun v => -4200 ≤ v ∧ v ≤ 4200) w) := by
  go_enter Try.func78, Try.ntmps78
  go_wp2_with fail
  refine (pick_l R A n c P 4 (by omega) (by omega) _ h).mono ?_
  rintro e w1 ⟨t, rfl, ⟨t0, t1⟩, hR1, hg1⟩
  by_cases ht : t = 0
  · subst ht
    go_wp2_with fail
    refine (pick_l R A n c (P + 1) 12 (by omega) (by omega) _ hR1).mono ?_
    rintro e w2 ⟨u, rfl, ⟨u0, u1⟩, hR2, hg2⟩
    have u2 := u1 (by omega)
    obtain ⟨p1, p2⟩ := pw_le12 u (by omega)
    have eu := shl_pw u
    have HG := hd (hg1.trans hg2)
    clear hg1 hg2 u1 t1
    go_wp2
    go_ret
    exact ⟨pw u, rfl, ⟨by omega, by omega⟩, hR2.up (by omega), HG.out⟩
  by_cases ht1 : t = 1
  · subst ht1
    go_wp2_with fail
    refine (pick_l R A n c (P + 1) 16 (by omega) (by omega) _ hR1).mono ?_
    rintro e w2 ⟨u, rfl, ⟨u0, u1⟩, hR2, hg2⟩
    have u2 := u1 (by omega)
    have HG := hd (hg1.trans hg2)
    clear hg1 hg2 u1 t1
    go_wp2
    go_ret
    exact ⟨u, rfl, ⟨by omega, by omega⟩, hR2.up (by omega), HG.out⟩
  · have e1 : (t == 0) = false := by simpa using ht
    have e2 : (t == 1) = false := by simpa using ht1
    go_wp2_with fail
    refine (pick_l R A n c (P + 1) 16 (by omega) (by omega) _ hR1).mono ?_
    rintro e w2 ⟨u, rfl, ⟨u0, u1⟩, hR2, hg2⟩
    have u2 := u1 (by omega)
    have HG := hd (hg1.trans hg2)
    clear hg1 hg2 u1 t1 hR1
    go_wp2_with fail
    refine (pick_l R A n c (P + 2) 256 (by omega) (by omega) _ hR2).mono ?_
    rintro e w3 ⟨v, rfl, ⟨v0, v1⟩, hR3, hg3⟩
    have v2 := v1 (by omega)
    have HG3 := hd (HG.out.trans hg3)
    clear hg3 v1 hR2
    go_wp2_with fail
    refine (pick_l R A n c (P + 3) 60 (by omega) (by omega) _ hR3).mono ?_
    rintro e w4 ⟨x, rfl, ⟨x0, x1⟩, hR4, hg4⟩
    have x2 := x1 (by omega)
    have HG4 := hd (HG3.out.trans hg4)
    clear hg4 x1 hR3
    go_wp2_with fail
    refine (pick_l R A n c (P + 4) 60 (by omega) (by omega) _ hR4).mono ?_
    rintro e w5 ⟨y, rfl, ⟨y0, y1⟩, hR5, hg5⟩
    have y2 := y1 (by omega)
    have HG5 := hd (HG4.out.trans hg5)
    clear hg5 y1 hR4
    go_wp2
    go_ret
    exact ⟨_, rfl, ⟨by omega, by omega⟩, hR5, HG5.out⟩
theorem l20Small_l (R : Nat) (A : Option Addr) (n c P : Nat) (hP : P ≤ 400) (w : World) (h : RdL w R A n c P) :
    Calls Try.prog 72 #[.pointer (some ⟨R, 0, none⟩)] w (Drawn1 R A n c (P + 3) (fun v => -8 ≤ v ∧ v ≤ 13) w) := by
  go_enter Try.func72, Try.ntmps72
  go_wp2_with fail
  refine (pick_l R A n c P 8 (by omega) (by omega) _ h).mono ?_
  rintro e w1 ⟨u, rfl, ⟨u0, u1⟩, hR1, hg1⟩
  have u2 := u1 (by omega)
  clear u1
  go_wp2_with fail
  refine (pick_l R A n c (P + 1) 40 (by omega) (by omega) _ hR1).mono ?_
  rintro e w2 ⟨v, rfl, ⟨v0, v1⟩, hR2, hg2⟩
  have v2 := v1 (by omega)
  have HG := hd (hg1.trans hg2)
  clear v1 hR1 hg1 hg2
  go_wp2_with fail
  refine (pick_l R A n c (P + 2) 40 (by omega) (by omega) _ hR2).mono ?_
  rintro e w3 ⟨x, rfl, ⟨x0, x1⟩, hR3, hg3⟩
  have x2 := x1 (by omega)
  have HG3 := hd (HG.out.trans hg3)
  clear x1 hR2 hg3
  go_wp2
  go_ret
  exact ⟨_, rfl, ⟨by omega, by omega⟩, hR3, HG3.out⟩
theorem l20Odd_l (R : Nat) (A : Option Addr) (n c P : Nat) (hP : P ≤ 400) (w : World) (h : RdL w R A n c P) :
    Calls Try.prog 80 #[.pointer (some ⟨R, 0, none⟩)] w (Drawn2 R A n c (P + 7) (fun u v => okW u ∧ okX v) w) := by
  go_enter Try.func80, Try.ntmps80
  go_wp2_with fail
  refine (l20One_l R A n c P 9 (by omega) (by omega) (by omega) _ h).mono ?_
  rintro e w1 ⟨u, x, rfl, ⟨u0, x0⟩, hR1, hg1⟩
  rcases hv : vld u x with _ | _
  · go_wp2_with (go_at_call 61; refine (specWordValid_any _ _ _).mono ?_; rintro e w' ⟨rfl, rfl⟩)
    go_ret2
    exact ⟨u, x, rfl, ⟨u0, x0⟩, hR1.up (by omega), hg1⟩
  · obtain ⟨h1, h2, h3, h4, h5, h6⟩ := vld_4096 hv
    go_wp2_with (first
      | (go_at_call 61; refine (specWordValid_any _ _ _).mono ?_; rintro e w' ⟨rfl, rfl⟩)
      | (go_at_call 73; refine (pick_l R A n c (P + 6) 5 (by omega) (by omega) _ hR1).mono ?_; rintro e w2 ⟨t, rfl, ⟨t0, t1⟩, hR2, hg2⟩))
    all_goals
      go_ret2
      refine ⟨u, _, rfl, ⟨u0, ?_⟩, hR2.up (by omega), hg1.trans hg2⟩
      unfold okX
      omega
theorem DrawNafOf_any (a : Option Addr) (len cap : Nat) (w : World) (h : Code8 w a len cap) : Calls Try.prog 39 #[.slice a len cap] w (Top1 (fun v => -4200 ≤ v ∧ v ≤ 4200) w) := by
  go_enter Try.func39, Try.ntmps39
  go_wp2_with fail
  refine (l20Open_any a len cap w h).mono ?_
  rintro e w1 ⟨R, A, n, c, rfl, hR, hRB, hb⟩
  go_wp2_with fail
  refine (l20Constant_l R A n c 0 (by omega) w1 hR).mono ?_
  rintro e w2 ⟨u, rfl, hq, _, hg⟩
  go_wp2
  go_ret
  exact ⟨u, rfl, hq, top_below hb hRB hg⟩
theorem DrawNafMany_any (a : Option Addr) (len cap : Nat) (w : World) (h : Code8 w a len cap) : Calls Try.prog 46 #[.slice a len cap] w (Top1 (fun v => -4200 ≤ v ∧ v ≤ 4200) w) := by
  go_enter Try.func46, Try.ntmps46
  go_wp2_with fail
  refine (l20Open_any a len cap w h).mono ?_
  rintro e w1 ⟨R, A, n, c, rfl, hR, hRB, hb⟩
  go_wp2_with fail
  refine (l20Constant_l R A n c 0 (by omega) w1 hR).mono ?_
  rintro e w2 ⟨u, rfl, hq, _, hg⟩
  go_wp2
  go_ret
  exact ⟨u, rfl, hq, top_below hb hRB hg⟩
theorem DrawNafTimes_any (a : Option Addr) (len cap : Nat) (w : World) (h : Code8 w a len cap) : Calls Try.prog 58 #[.slice a len cap] w (Top3 (fun u v x => okW u ∧ okX v ∧ -4200 ≤ x ∧ x ≤ 4200) w) := by
  go_enter Try.func58, Try.ntmps58
  go_wp2_with fail
  refine (l20Open_any a len cap w h).mono ?_
  rintro e w1 ⟨R, A, n, c, rfl, hR, hRB, hb⟩
  go_wp2_with fail
  refine (l20One_l R A n c 0 9 (by omega) (by omega) (by omega) w1 hR).mono ?_
  rintro e w2 ⟨u, v, rfl, ⟨hq, hq2⟩, hR2, hg⟩
  go_wp2_with fail
  refine (l20Constant_l R A n c 6 (by omega) w2 hR2).mono ?_
  rintro e w3 ⟨x, rfl, hx, _, hg3⟩
  go_wp2
  go_ret3
  exact ⟨u, v, x, rfl, ⟨hq, hq2, hx⟩, top_below hb hRB (hg.trans hg3)⟩
theorem DrawInverseSteps_any (a : Option Addr) (len cap : Nat) (w : World) (h : Code8 w a len cap) : Calls Try.prog 49 #[.slice a len cap] w (Top2 (fun u v => okW u ∧ okX v) w) := by
  go_enter Try.func49, Try.ntmps49
  go_wp2_with fail
  refine (l20Open_any a len cap w h).mono ?_
  rintro e w1 ⟨R, A, n, c, rfl, hR, hRB, hb⟩
  go_wp2_with fail
  refine (l20Odd_l R A n c 0 (by omega) w1 hR).mono ?_
  rintro e w2 ⟨u, v, rfl, hq, _, hg⟩
  go_wp2
  go_ret2
  exact ⟨u, v, rfl, hq, top_below hb hRB hg⟩
theorem DrawInverseOf_any (a : Option Addr) (len cap : Nat) (w : World) (h : Code8 w a len cap) : Calls Try.prog 51 #[.slice a len cap] w (Top2 (fun u v => okW u ∧ okX v) w) := by
  go_enter Try.func51, Try.ntmps51
  go_wp2_with fail
  refine (l20Open_any a len cap w h).mono ?_
  rintro e w1 ⟨R, A, n, c, rfl, hR, hRB, hb⟩
  go_wp2_with fail
  refine (l20Odd_l R A n c 0 (by omega) w1 hR).mono ?_
  rintro e w2 ⟨u, v, rfl, hq, _, hg⟩
  go_wp2
  go_ret2
  exact ⟨u, v, rfl, hq, top_below hb hRB hg⟩
end Go.Proofs.Ytdjggccplaifbaa
