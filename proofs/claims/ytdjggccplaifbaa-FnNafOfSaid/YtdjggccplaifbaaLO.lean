/- The walk of the law of NafOf (chapter 4); no condition but that the code is a slice of bytes that can be read. -/
import Derived.Test.YtdjggccplaifbaaWN
import Derived.Test.YtdjggccplaifbaaDT
import Derived.Test.YtdjggccplaifbaaEq
import Derived.Test.YtdjggccplaifbaaMathK
namespace Go.Proofs.Ytdjggccplaifbaa
open Go.RowKit
theorem btm {a b c : World} (h : Below a.heap.size a b) (g : Below b.heap.size b c) : Below a.heap.size a c := h.trans (g.mono h.size)
def AdjP (L : List Int) : Prop := ∀ (i : Nat) (hi : i + 1 < L.length), L[i] = 0 ∨ L[i + 1] = 0
theorem ret_v {a b : Int} (h : a = b) : Value.int .i64 a = .int .i64 b := by rw [h]
set_option maxRecDepth 20000 in
set_option maxHeartbeats 3200000 in
theorem FnNafOf_walk (a0 : Option Addr) (len0 cap0 : Nat) (w : World) (h0 : Code8 w a0 len0 cap0) :
    Calls Try.prog 10 #[.slice a0 len0 cap0] w fun e w' => e = .returned (.bool true) ∧ Below w.heap.size w w' := by
  have hm := h0.2.1
  have hlc := h0.1
  unfold maxLen at hm
  by_cases hbig : 1048576 < len0
  · clear h0
    go_enter Try.func10, Try.ntmps10
    go_wp2
    go_ret
    exact ⟨rfl, Below.refl _ _⟩
  have H0 := hd h0
  clear h0
  go_enter Try.func10, Try.ntmps10
  go_wp2_with fail
  refine (DrawNafOf_any a0 len0 cap0 w H0.out).mono ?_
  rintro e w1 ⟨n, rfl, _, b1⟩
  rcases hv : inB n 0 4095 with _ | _
  · have hn : n < 0 ∨ 4095 < n := by
      rcases Classical.em (n < 0 ∨ 4095 < n) with hc | hc
      · exact hc
      · rw [inB_mk (by omega) (by omega)] at hv; cases hv
    go_wp2_with fail
    refine (implNafOf_bad n hv w1).mono ?_
    rintro e w2 ⟨A, c, rfl, hown1, b2⟩
    go_wp2_with fail
    refine (specNafOf_bad n hv w2).mono ?_
    rintro e w3 ⟨A', c', rfl, hown2, b3⟩
    have HO1 := hd (hown1.below b3 (Nat.le_refl _))
    have HO2 := hd hown2
    clear hown1 hown2
    go_wp2_with fail
    refine (sameInts_same [] A A' _ _ c c' w3 HO1.out HO2.out).mono ?_
    rintro e w4 ⟨rfl, n4, rfl⟩
    rcases hn with hn | hn
    · go_wp2_with (go_at_call 35; refine (alive_any _).mono ?_; rintro e w' ⟨rfl, b9⟩)
      go_ret
      exact ⟨rfl, btm (btm (btm b1 b2) (below_drewN b3 _)) b9⟩
    · go_wp2_with (go_at_call 35; refine (alive_any _).mono ?_; rintro e w' ⟨rfl, b9⟩)
      go_ret
      exact ⟨rfl, btm (btm (btm b1 b2) (below_drewN b3 _)) b9⟩
  · obtain ⟨n1, n2⟩ := inB_true.1 hv
    have HR1 := hd (implNafOf_ok n hv w1)
    have HR2 := hd (fun W => specNafOf_ok n hv W)
    have hlen := nafL_len n n1 n2
    have hdg := nafL_digs n
    have hval := dvN_naf n n1
    have hadj : AdjP (nafL n) := naf_adj n n1 n2
    have h7 := naf7 n n1
    have hnm : nmZ n = nzN (nafL n) := rfl
    obtain ⟨L, hL⟩ : ∃ L, nafL n = L := ⟨_, rfl⟩
    rw [hL] at HR1 HR2 hlen hdg hval hadj h7 hnm
    have HD := hd hdg
    have HV := hd hval
    have HA := hd hadj
    have H7 := hd h7
    have HM := hd hnm
    clear hL hdg hval hadj h7 hnm hv
    go_wp2_with fail
    refine (HR1.out).mono ?_
    rintro e w2 ⟨A, c, rfl, hown1, b2⟩
    go_wp2_with fail
    refine (HR2.out w2).mono ?_
    rintro e w3 ⟨A', c', rfl, hown2, b3⟩
    have HO1 := hd (hown1.below b3 (Nat.le_refl _))
    have HO2 := hd hown2
    have HB := hd (btm (btm b1 b2) b3)
    clear hown1 hown2 b1 b2 b3
    go_wp2_with fail
    refine (sameInts_same L A A' _ _ c c' w3 HO1.out HO2.out).mono ?_
    rintro e w4 ⟨rfl, n4, rfl⟩
    have HW4 := hd (below_drewN HB.out n4)
    go_wp2
    go_loop [5, 6, 7] (fun s m k => ∃ (i : Nat) (z : Int), i ≤ L.length ∧ z = (i : Int) - 1 ∧ k = .int .i64 z ∧ s = .int .i64 (dvN (L.drop i)) ∧ m = .int .i64 (nzN (L.drop i))) (fun _ _ k => (intOf k + 1).toNat)
    case atStart => exact ⟨L.length, (L.length : Int) - 1, by omega, rfl, by go_num, by simp [dvN], by simp [nzN]⟩
    case round =>
      obtain ⟨i, z, hi, hz, rfl, rfl, rfl⟩ := hrel
      by_cases h0 : i = 0
      · subst h0
        have hz1 : z = -1 := by omega
        subst hz1
        clear hz
        have e1 : dvN (L.drop 0) = n := HV.out
        have hq := nzN_bd L
        have e2 : nzN (L.drop 0) = nzN L := rfl
        obtain ⟨m, hm⟩ : ∃ m, nzN L = m := ⟨_, rfl⟩
        rw [e1, e2, hm]
        rw [hm] at hq
        have HM2 := hd (HM.out.trans hm)
        clear e1 e2 hm
        by_cases h64 : 64 ≤ n
        · go_wp2
          go_ret
          exact ⟨rfl, HW4.out⟩
        · have hl7 := H7.out (by omega)
          go_wp2
          go_loop [8, 9] (fun a k => ∃ j : Nat, j ≤ L.length ∧ k = .int .i64 j ∧ a = .int .i64 (3 ^ j)) (fun _ k => L.length - (intOf k).toNat)
          case atStart => exact ⟨0, by omega, rfl, rfl⟩
          case round =>
            obtain ⟨j, hj, rfl, rfl⟩ := hrel
            have hp : (1 : Int) ≤ 3 ^ j ∧ (3 : Int) ^ j ≤ 2187 := by
              rcases (show j = 0 ∨ j = 1 ∨ j = 2 ∨ j = 3 ∨ j = 4 ∨ j = 5 ∨ j = 6 ∨ j = 7 by omega) with rfl | rfl | rfl | rfl | rfl | rfl | rfl | rfl <;> decide
            have hps : (3 : Int) ^ (j + 1) = 3 * 3 ^ j := by rw [Int.pow_succ, Int.mul_comm]
            have HPS := hd hps
            clear hps
            by_cases hlt : j < L.length
            · obtain ⟨p, hpp⟩ : ∃ p, (3 : Int) ^ j = p := ⟨_, rfl⟩
              rw [hpp] at hp HPS ⊢
              clear hpp
              go_wp2
              go_round
              case rel => exact ⟨j + 1, by omega, by go_num, by rw [HPS.out]⟩
              case measure => simp [intOf]; omega
            · obtain rfl : j = L.length := by omega
              obtain ⟨p, hpp⟩ : ∃ p, (3 : Int) ^ L.length = p := ⟨_, rfl⟩
              rw [hpp] at hp ⊢
              clear hpp HPS
              go_wp2
              go_loop [10] (fun c => ∃ t : Nat, (t : Int) ≤ p ∧ c = .int .i64 t) (fun c => (p - intOf c).toNat)
              case atStart => exact ⟨0, by omega, rfl⟩
              case round =>
                obtain ⟨t, ht, rfl⟩ := hrel
                by_cases hlt : (t : Int) < p
                · go_wp2
                  go_loop [11, 12, 13, 14] (fun v u r k => ∃ j : Nat, j ≤ L.length ∧ k = .int .i64 j ∧ v = .int .i64 (dvN (tS t j)) ∧ u = .int .i64 (nzN (tS t j)) ∧ r = .int .i64 ((t : Int) / 3 ^ j)) (fun _ _ _ k => L.length - (intOf k).toNat)
                  case atStart => exact ⟨0, by omega, rfl, rfl, rfl, by simp⟩
                  case round =>
                    obtain ⟨j, hj, rfl, rfl, rfl, rfl⟩ := hrel
                    obtain ⟨g1, g2, g3, g4⟩ := tS_bd t j (by omega)
                    have hmin := tS_min n t j (by omega) n1
                    have HS1 := hd (tS_val t j)
                    have HS2 := hd (tS_used t j)
                    have HS3 := hd (tS_rest t j)
                    have hr0 : 0 ≤ (t : Int) / 3 ^ j := Int.ediv_nonneg (by omega) (Int.pow_nonneg (by decide))
                    have hr1 : (t : Int) / 3 ^ j ≤ t := Int.ediv_le_self _ (by omega)
                    obtain ⟨r, hr⟩ : ∃ r, (t : Int) / 3 ^ j = r := ⟨_, rfl⟩
                    obtain ⟨V, hV⟩ : ∃ V, dvN (tS t j) = V := ⟨_, rfl⟩
                    obtain ⟨U, hU⟩ : ∃ U, nzN (tS t j) = U := ⟨_, rfl⟩
                    rw [hr] at HS1 HS2 HS3 hr0 hr1 ⊢
                    rw [hV] at g1 g2 hmin HS1 ⊢
                    rw [hU] at g3 g4 hmin HS2 ⊢
                    rw [HM2.out] at hmin
                    have HMIN := hd hmin
                    clear hr hV hU hmin
                    by_cases hlt : j < L.length
                    · have hpj := pw_le j 7 (by omega)
                      rw [show pw 7 = 128 by decide] at hpj
                      have hpj1 := pw_pos j
                      have hd3 : r % 3 - 1 = -1 ∨ r % 3 - 1 = 0 ∨ r % 3 - 1 = 1 := by omega
                      have hdb : -128 ≤ (r % 3 - 1) * pw j ∧ (r % 3 - 1) * pw j ≤ 128 := by
                        rcases hd3 with hh | hh | hh <;> rw [hh] <;> omega
                      have ej := shl_pwn j
                      clear hd3
                      by_cases hr3 : r % 3 = 1
                      · have hc3 : (r % 3 != 1) = false := by simpa using hr3
                        have HS4 := hd (show nzN (tS t (j + 1)) = U by rw [HS2.out, if_pos hr3]; omega)
                        clear hr3
                        go_wp2
                        go_round
                        case rel => exact ⟨j + 1, by omega, by go_num, by rw [HS1.out], by rw [HS4.out], by rw [HS3.out]⟩
                        case measure => simp [intOf]; omega
                      · have hc3 : (r % 3 != 1) = true := by simpa using hr3
                        have HS4 := hd (show nzN (tS t (j + 1)) = U + 1 by rw [HS2.out, if_neg hr3])
                        clear hr3
                        go_wp2
                        go_round
                        case rel => exact ⟨j + 1, by omega, by go_num, by rw [HS1.out], by rw [HS4.out], by rw [HS3.out]⟩
                        case measure => simp [intOf]; omega
                    · by_cases hVn : V = n
                      · have hU2 : m ≤ U := HMIN.out hVn
                        have hc4 : (V == n) = true := by simpa using hVn
                        clear hVn
                        go_wp2
                        go_round
                        case rel => exact ⟨t + 1, by omega, by go_num⟩
                        case measure => simp [intOf]; omega
                      · have hc4 : (V == n) = false := by simpa using hVn
                        clear hVn
                        go_wp2
                        go_round
                        case rel => exact ⟨t + 1, by omega, by go_num⟩
                        case measure => simp [intOf]; omega
                · go_wp2
                  go_ret
                  exact ⟨rfl, HW4.out⟩
      · obtain ⟨j, rfl⟩ : ∃ j, i = j + 1 := ⟨i - 1, by omega⟩
        have hz2 : z = (j : Int) := by omega
        subst hz2
        clear hz
        obtain ⟨g, rfl, _, _, hc, _⟩ := HO1.out.some_ (k := j) (by omega)
        have hck := hc j (by omega)
        have hb := drop_bd HD.out hlen (j + 1)
        have HS1 := hd (drop_val (L := L) (i := j) (by omega))
        have HS2 := hd (drop_used (L := L) (i := j) (by omega))
        have hdj := HD.out _ (List.getElem_mem (show j < L.length by omega))
        obtain ⟨V, hV⟩ : ∃ V, dvN (L.drop (j + 1)) = V := ⟨_, rfl⟩
        obtain ⟨U, hU⟩ : ∃ U, nzN (L.drop (j + 1)) = U := ⟨_, rfl⟩
        rw [hV] at hb HS1 ⊢
        rw [hU] at hb HS2 ⊢
        clear hV hU
        by_cases hj0 : j = 0
        · subst hj0
          obtain ⟨d, hdd⟩ : ∃ d, L[0] = d := ⟨_, rfl⟩
          rw [hdd] at hck HS1 HS2 hdj
          clear hdd hc
          rcases hdj with rfl | rfl | rfl
          all_goals
            go_wp2
            go_round
            case rel => exact ⟨0, _, by omega, rfl, by go_num, ret_v (by rw [HS1.out]; omega), ret_v (by rw [HS2.out]; simp; try omega)⟩
            case measure => simp [intOf]
        · obtain ⟨q, rfl⟩ : ∃ q, j = q + 1 := ⟨j - 1, by omega⟩
          have hck2 := hc q (by omega)
          have hadj := HA.out q (by omega)
          have hidx : (((q + 1 : Nat) : Int) - 1).toNat = q := by omega
          obtain ⟨d, hdd⟩ : ∃ d, L[q + 1] = d := ⟨_, rfl⟩
          obtain ⟨d2, hdd2⟩ : ∃ d2, L[q] = d2 := ⟨_, rfl⟩
          rw [hdd] at hck HS1 HS2 hdj hadj
          rw [hdd2] at hck2 hadj
          clear hdd hdd2 hc
          rcases hdj with rfl | rfl | rfl
          · obtain rfl : d2 = 0 := by omega
            go_wp2
            go_round
            case rel => exact ⟨q + 1, _, by omega, rfl, by go_num, ret_v (by rw [HS1.out]; omega), ret_v (by rw [HS2.out]; simp; try omega)⟩
            case measure => simp [intOf]; try omega
          · go_wp2
            go_round
            case rel => exact ⟨q + 1, _, by omega, rfl, by go_num, ret_v (by rw [HS1.out]; omega), ret_v (by rw [HS2.out]; simp; try omega)⟩
            case measure => simp [intOf]; try omega
          · obtain rfl : d2 = 0 := by omega
            go_wp2
            go_round
            case rel => exact ⟨q + 1, _, by omega, rfl, by go_num, ret_v (by rw [HS1.out]; omega), ret_v (by rw [HS2.out]; simp; try omega)⟩
            case measure => simp [intOf]; try omega
end Go.Proofs.Ytdjggccplaifbaa
