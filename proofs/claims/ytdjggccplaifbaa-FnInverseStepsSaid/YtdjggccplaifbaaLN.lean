/- The walk of the law of InverseSteps (chapter 4); no condition but that the code is a slice of bytes that can be read. -/
import Derived.Test.YtdjggccplaifbaaWI
import Derived.Test.YtdjggccplaifbaaQC
import Derived.Test.YtdjggccplaifbaaDT
import Derived.Test.YtdjggccplaifbaaEq
import Derived.Test.YtdjggccplaifbaaMathK
namespace Go.Proofs.Ytdjggccplaifbaa
open Go.RowKit
theorem btm {a b c : World} (h : Below a.heap.size a b) (g : Below b.heap.size b c) : Below a.heap.size a c := h.trans (g.mono h.size)
set_option maxHeartbeats 1600000 in
theorem FnInverseSteps_walk (a0 : Option Addr) (len0 cap0 : Nat) (w : World) (h0 : Code8 w a0 len0 cap0) :
    Calls Try.prog 13 #[.slice a0 len0 cap0] w fun e w' => e = .returned (.bool true) ∧ Below w.heap.size w w' := by
  have hm := h0.2.1
  have hlc := h0.1
  unfold maxLen at hm
  by_cases hbig : 1048576 < len0
  · clear h0
    go_enter Try.func13, Try.ntmps13
    go_wp2
    go_ret
    exact ⟨rfl, Below.refl _ _⟩
  have H0 := hd h0
  clear h0
  go_enter Try.func13, Try.ntmps13
  go_wp2_with fail
  refine (DrawInverseSteps_any a0 len0 cap0 w H0.out).mono ?_
  rintro e w1 ⟨k, x, rfl, _, b1⟩
  rcases hv : oddB k x with _ | _
  · go_wp2_with fail
    refine (implInverseSteps_bad k x hv w1).mono ?_
    rintro e w2 ⟨A, c, rfl, hown1, b2⟩
    go_wp2_with fail
    refine (specInverseSteps_bad k x hv w2).mono ?_
    rintro e w3 ⟨A', c', rfl, hown2, b3⟩
    have HO1 := hd (hown1.below b3 (Nat.le_refl _))
    have HO2 := hd hown2
    clear hown1 hown2
    go_wp2_with fail
    refine (sameInts_same [] A A' _ _ c c' w3 HO1.out HO2.out).mono ?_
    rintro e w4 ⟨rfl, n4, rfl⟩
    go_wp2_with (go_at_call 35; refine (alive_any _).mono ?_; rintro e w' ⟨rfl, b9⟩)
    go_ret
    exact ⟨rfl, btm (btm (btm b1 b2) (below_drewN b3 _)) b9⟩
  · have HC := hd (ivC_get _ _ _ _ (ivC_ok k x hv))
    have HV := hd (fun i hi => ivS_vld k x hv i hi)
    have HR1 := hd (implInverseSteps_ok k x hv w1)
    have HR2 := hd (fun W => specInverseSteps_ok k x hv W)
    obtain ⟨h1, h2, h3, h4, h5, h6⟩ := vld_4096 (oddB_true hv).1
    have HX := hd (oddB_true hv).1
    have hlen := ivS_len k x
    obtain ⟨D, l, hD, hl⟩ := ivS_last k x
    have hgood : x * l % pw k = 1 := by rw [hl]; exact (ivZ_is k x hv).1
    have hlen2 := hd (show (ivS k x).length = D.length + 1 by rw [hD]; simp)
    have HLAST := hd (show ∀ (h : D.length < (ivS k x).length), (ivS k x)[D.length] = l by intro h; simp [hD])
    obtain ⟨L, hL⟩ : ∃ L, ivS k x = L := ⟨_, rfl⟩
    rw [hL] at HC HV HR1 HR2 hlen hlen2 HLAST
    clear hD hL hl hv
    go_wp2_with fail
    refine (HR1.out).mono ?_
    rintro e w2 ⟨A, c, rfl, hown1, b2⟩
    go_wp2_with fail
    refine (HR2.out w2).mono ?_
    rintro e w3 ⟨A', c', rfl, hown2, b3⟩
    have HO1 := hd (hown1.below b3 (Nat.le_refl _))
    have HO2 := hd hown2
    have HB := hd (btm (btm b1 b2) b3)
    clear hown1 hown2 b1 b2 b3
    go_wp2_with fail
    refine (sameInts_same L A A' _ _ c c' w3 HO1.out HO2.out).mono ?_
    rintro e w4 ⟨rfl, n4, rfl⟩
    obtain ⟨g, rfl, _, hg3, hc, _⟩ := HO1.out.some_ (k := D.length) (by have := hlen2.out; omega)
    have hpos : 1 ≤ L.length := by have := hlen2.out; omega
    have HCL := hd hc
    have HW4 := hd (below_drewN HB.out n4)
    clear hc
    have hl0 : (L.length == 0) = false := by simp only [beq_eq_false_iff_ne, ne_eq]; omega
    have hl1 : ((L.length : Int) == 0) = false := by simp only [beq_eq_false_iff_ne, ne_eq]; omega
    go_wp2
    go_loopw [6, 7] (fun r i wr => ∃ (j : Nat) (r0 : Int), j ≤ L.length ∧ i = .int .i64 j ∧ r = .int .i64 r0 ∧ r0 = 3 * 2 ^ j ∧ Below w3.heap.size (w3.drewN n4) wr) (fun _ i _ => L.length - (intOf i).toNat)
    case atStart => exact ⟨0, 3, by omega, rfl, rfl, rfl, Below.refl _ _⟩
    case round =>
      obtain ⟨j, r, hj, rfl, rfl, hr, hb⟩ := hrel
      have hr1 : 3 ≤ r ∧ r ≤ 24 := by
        rcases (show j = 0 ∨ j = 1 ∨ j = 2 ∨ j = 3 by omega) with rfl | rfl | rfl | rfl <;> (rw [hr]; decide)
      have hstep : 2 * r = 3 * 2 ^ (j + 1) := by rw [hr, Int.pow_succ]; omega
      by_cases hlt : j < L.length
      · have hcj : wr.cell? ⟨g, j, none⟩ = some (.int .i64 L[j]) := (hb.cell hg3).trans (HCL.out j hlt)
        have hvj := HV.out j hlt
        have hchk := HC.out j hlt
        rw [← hr] at hchk
        obtain ⟨y, hy⟩ : ∃ y, L[j] = y := ⟨_, rfl⟩
        rw [hy] at hcj hvj hchk
        clear hy
        have hv2 : vld2 k x y = true := by unfold vld2; rw [HX.out, hvj]; rfl
        have hm0 := mod_bd (x * y) k h1 h2
        have hcell : ∀ n : BW wr, n.w.cell? ⟨g, j, none⟩ = some (.int .i64 y) := fun n => (n.below.cell (Nat.lt_of_lt_of_le hg3 hb.size)).trans hcj
        have HS := hd hstep
        have HR := hd hr
        clear hstep hr hvj
        by_cases hrk : r ≤ k
        · rw [if_pos hrk] at hchk
          have qr := pw_le12 r (by omega)
          have er := shl_pw r
          have s0 := Go.Proofs.Ytdjggccplaifbaa.wr (pw r) (by omega)
          have HQ := hd hchk
          have hc2 : (x * y % pw k % pw r != 1) = false := by simpa using hchk
          clear hchk
          go_wp2
          refine wp_region_below (by kernel_rfl) (by kernel_rfl) ?_
          repeat (go_big_quiet_step ((go_at_call 50; exact calls_alive _ (implWordTimes_ok _ _ _ hv2 _))))
          refine wpQuiet_nil ?_
          rintro _ ⟨nq, rfl⟩
          have HNB := hd (hb.trans (nq.below.mono hb.size))
          clear hcell hcj hb
          go_wp2
          go_roundw
          case rel => exact ⟨j + 1, 2 * r, by omega, by go_num, by go_num, HS.out, HNB.out⟩
          case measure => simp [intOf]; omega
        · rw [if_neg hrk] at hchk
          have er := shl_pw k
          have s0 := Go.Proofs.Ytdjggccplaifbaa.wr (pw k) (by omega)
          have hc2 : (x * y % pw k % pw k != 1) = false := by simpa using hchk
          have hc3 : (x * y % pw k != 1) = false := by simpa using hchk
          have hc4 : (1 % pw k != 1) = false := by rw [Int.emod_eq_of_lt (by omega) (by omega)]; rfl
          clear hchk
          go_wp2
          refine wp_region_below (by kernel_rfl) (by kernel_rfl) ?_
          repeat (go_big_quiet_step ((go_at_call 50; exact calls_alive _ (implWordTimes_ok _ _ _ hv2 _))))
          refine wpQuiet_nil ?_
          rintro _ ⟨nq, rfl⟩
          have HNB := hd (hb.trans (nq.below.mono hb.size))
          clear hcell hcj hb
          go_wp2
          go_roundw
          case rel => exact ⟨j + 1, 2 * r, by omega, by go_num, by go_num, HS.out, HNB.out⟩
          case measure => simp [intOf]; omega
      · have hcl : wr.cell? ⟨g, D.length, none⟩ = some (.int .i64 l) := (hb.cell hg3).trans ((HCL.out D.length (by have := hlen2.out; omega)).trans (by rw [HLAST.out]))
        have hidx : ((L.length : Int) - 1).toNat = D.length := by have := hlen2.out; omega
        have hvl : vld k l = true := by have := HV.out D.length (by have := hlen2.out; omega); rwa [HLAST.out] at this
        have hv2 : vld2 k x l = true := by unfold vld2; rw [HX.out, hvl]; rfl
        have HB3 := hd hb
        clear hb
        go_wp2_with (go_at_call 50; refine (implWordTimes_ok _ _ _ hv2 _).mono ?_; rintro e w5 ⟨rfl, b5⟩)
        go_ret
        exact ⟨rfl, btm HW4.out (HB3.out.trans (b5.mono HB3.out.size))⟩
end Go.Proofs.Ytdjggccplaifbaa
