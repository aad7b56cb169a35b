/- Contracts of counted bits (chapter 5), and of Go's math/bits at words; conditions: that the word is valid, or that it is not. -/
import Derived.Test.YtgbgpibaincheaaDoorW1
import Derived.Test.YtgbgpibaincheaaDoorMathO
import Derived.Laws.BitsAllLaws
namespace Go.Proofs.YtgbgpibaincheaaDoor
open Go.RowKit
theorem u64_andZ (a b : Int) (h0 : 0 ≤ a) (h : a < 18446744073709551616) (g0 : 0 ≤ b) (g : b < 18446744073709551616) : bits .and .u64 a b = andZ a b := u64_and a b h0 h g0 g
set_option maxHeartbeats 800000 in
theorem ones64_any (x : Int) (h0 : 0 ≤ x) (h : x < 4096) (w : World) :
    Calls Tryd.prog 45 #[.int .u64 x] w fun e w' => e = .returned (.int .i64 (popZ x)) ∧ w = w' := by
  have HO := hd (oc_is x h0 h)
  have a1 := andZ_nonneg (x / 2) 6148914691236517205
  have a2 := andZ_le (x / 2) 6148914691236517205 (by omega)
  have a3 := andZ_nonneg x 6148914691236517205
  have a4 := andZ_le x 6148914691236517205 h0
  have e1 := u64_andZ (x / 2) 6148914691236517205 (by omega) (by omega) (by decide) (by decide)
  have e2 := u64_andZ x 6148914691236517205 h0 (by omega) (by decide) (by decide)
  have E1 := hd (show ocA x = andZ (x / 2) 6148914691236517205 + andZ x 6148914691236517205 from rfl)
  obtain ⟨p, hp⟩ : ∃ p, andZ (x / 2) 6148914691236517205 = p := ⟨_, rfl⟩
  obtain ⟨q, hq⟩ : ∃ q, andZ x 6148914691236517205 = q := ⟨_, rfl⟩
  rw [hp] at a1 a2 e1 E1
  rw [hq] at a3 a4 e2 E1
  clear hp hq
  have b1 := andZ_nonneg ((p + q) / 4) 3689348814741910323
  have b2 := andZ_le ((p + q) / 4) 3689348814741910323 (by omega)
  have b3 := andZ_nonneg (p + q) 3689348814741910323
  have b4 := andZ_le (p + q) 3689348814741910323 (by omega)
  have e3 := u64_andZ ((p + q) / 4) 3689348814741910323 (by omega) (by omega) (by decide) (by decide)
  have e4 := u64_andZ (p + q) 3689348814741910323 (by omega) (by omega) (by decide) (by decide)
  have E2 := hd (show ocB (p + q) = andZ ((p + q) / 4) 3689348814741910323 + andZ (p + q) 3689348814741910323 from rfl)
  obtain ⟨r, hr⟩ : ∃ r, andZ ((p + q) / 4) 3689348814741910323 = r := ⟨_, rfl⟩
  obtain ⟨t, ht⟩ : ∃ t, andZ (p + q) 3689348814741910323 = t := ⟨_, rfl⟩
  rw [hr] at b1 b2 e3 E2
  rw [ht] at b3 b4 e4 E2
  clear hr ht
  have c1 := andZ_nonneg ((r + t) / 16 + (r + t)) 1085102592571150095
  have c2 := andZ_le ((r + t) / 16 + (r + t)) 1085102592571150095 (by omega)
  have e5 := u64_andZ ((r + t) / 16 + (r + t)) 1085102592571150095 (by omega) (by omega) (by decide) (by decide)
  have E3 := hd (show ocC (r + t) = andZ ((r + t) / 16 + (r + t)) 1085102592571150095 from rfl)
  obtain ⟨u, hu⟩ : ∃ u, andZ ((r + t) / 16 + (r + t)) 1085102592571150095 = u := ⟨_, rfl⟩
  rw [hu] at c1 c2 e5 E3
  clear hu
  have hU : u + u / 256 ≤ 65535 := by have h1 := HO.out.1; rw [E1.out, E2.out, E3.out] at h1; exact h1
  have z1 : (u + u / 256) / 65536 = 0 := by omega
  have z2 : (u + u / 256) / 4294967296 = 0 := by omega
  have e6 : bits .and .i64 (u + u / 256) 127 = (u + u / 256) % 128 := i64_and_mask (u + u / 256) 7 (by omega)
  have HE := hd (show (u + u / 256) % 128 = popZ x by have h1 := HO.out.2; rw [E1.out, E2.out, E3.out] at h1; exact h1)
  go_enter Tryd.func45, Tryd.ntmps45
  go_wp2
  go_ret
  exact ⟨ret_i HE.out, rfl⟩
theorem ones_any (x : Int) (h0 : 0 ≤ x) (h : x < 4096) (w : World) :
    Calls Tryd.prog 25 #[.int .u64 x] w fun e w' => e = .returned (.int .i64 (popZ x)) ∧ w = w' := by
  go_enter Tryd.func25, Tryd.ntmps25
  go_wp2_with (go_at_call 45; refine (ones64_any _ h0 h _).mono ?_; rintro e w' ⟨rfl, rfl⟩)
  go_ret
  exact ⟨rfl, rfl⟩
theorem implOnesOf_ok (k x : Int) (h : vld k x = true) (w : World) :
    Calls Tryd.prog 10 #[.int .i64 k, .int .i64 x] w fun e w' => e = .returned (.int .i64 (popZ x)) ∧ w = w' := by
  obtain ⟨h1, h2, h3, h4, h5, h6⟩ := vld_4096 h
  go_enter Tryd.func10, Tryd.ntmps10
  go_wp2_with (first
    | (go_at_call 20; refine (implWordValid_any _ _ _).mono ?_; rintro e w' ⟨rfl, rfl⟩)
    | (go_at_call 25; refine (ones_any _ (by omega) (by omega) _).mono ?_; rintro e w' ⟨rfl, rfl⟩))
  go_ret
  exact ⟨rfl, rfl⟩
theorem implOnesOf_bad (k x : Int) (h : vld k x = false) (w : World) :
    Calls Tryd.prog 10 #[.int .i64 k, .int .i64 x] w fun e w' => e = .returned (.int .i64 (-1)) ∧ w = w' := by
  go_enter Tryd.func10, Tryd.ntmps10
  go_wp2_with (first
    | (go_at_call 20; refine (implWordValid_any _ _ _).mono ?_; rintro e w' ⟨rfl, rfl⟩))
  go_ret
  exact ⟨rfl, rfl⟩
