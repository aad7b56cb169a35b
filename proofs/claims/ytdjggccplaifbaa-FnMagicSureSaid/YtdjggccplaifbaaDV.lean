/- Contracts of the functions that draw the arguments of MagicOf, DivideBy, MagicOk and MagicSure (chapter 4): no condition but that the code is a slice of bytes that can be read. -/
import Derived.Test.YtdjggccplaifbaaDT
namespace Go.Proofs.Ytdjggccplaifbaa
open Go.RowKit
theorem small_pw (k : Int) (_ : 0 ≤ k) (h2 : k ≤ 13) : 1 ≤ pw k ∧ pw k ≤ 8192 := by
  have a := pw_pos k
  have b := pw_le k 13 h2
  have c : pw 13 = 8192 := by decide
  omega
set_option maxHeartbeats 800000 in
theorem DrawMagicOf_any (a : Option Addr) (len cap : Nat) (w : World) (h : Code8 w a len cap) : Calls Try.prog 43 #[.slice a len cap] w (Top2 (fun u v => (-8 ≤ u ∧ u ≤ 13) ∧ 0 ≤ v ∧ v ≤ 600) w) := by
  go_enter Try.func43, Try.ntmps43
  go_wp2_with fail
  refine (l20Open_any a len cap w h).mono ?_
  rintro e w1 ⟨R, A, n, c, rfl, hR, hRB, hb⟩
  go_wp2_with fail
  refine (l20Small_l R A n c 0 (by omega) w1 hR).mono ?_
  rintro e w2 ⟨k, rfl, ⟨k1, k2⟩, hR2, hg⟩
  have HG := hd hg
  clear hg hR
  rcases (show k < 0 ∨ (0 ≤ k ∧ k ≤ 8) ∨ 8 < k by omega) with hk | hk | hk
  · skip
    go_wp2_with fail
    refine (pick_l R A n c 3 1 (by omega) (by omega) _ hR2).mono ?_
    rintro e w4 ⟨u, rfl, ⟨u0, u1⟩, hR4, hg4⟩
    have u2 := u1 (by omega)
    have HG := hd (HG.out.trans hg4)
    clear u1 hg4
    go_wp2_with fail
    refine (pick_l R A n c 4 30 (by omega) (by omega) _ hR4).mono ?_
    rintro e w5 ⟨v, rfl, ⟨v0, v1⟩, hR5, hg5⟩
    have v2 := v1 (by omega)
    have HG := hd (HG.out.trans hg5)
    clear v1 hg5
    go_wp2
    go_ret2
    exact ⟨k, _, rfl, ⟨⟨k1, k2⟩, by omega, by omega⟩, top_below hb hRB HG.out⟩
  · skip
    have q0 : (2 : Int) ^ k.toNat = pw k := rfl
    obtain ⟨p1, p2⟩ := small_pw k (by omega) k2
    have p3 := pw_le k 8 (by omega)
    rw [show pw 8 = 256 from by decide] at p3
    have s0 := wr (pw k) (by omega)
    go_wp2_with fail
    refine (pick_l R A n c 3 (pw k) (by omega) (by omega) _ hR2).mono ?_
    rintro e w4 ⟨u, rfl, ⟨u0, u1⟩, hR4, hg4⟩
    have u2 := u1 (by omega)
    have HG := hd (HG.out.trans hg4)
    clear u1 hg4
    go_wp2_with fail
    refine (pick_l R A n c 4 30 (by omega) (by omega) _ hR4).mono ?_
    rintro e w5 ⟨v, rfl, ⟨v0, v1⟩, hR5, hg5⟩
    have v2 := v1 (by omega)
    have HG := hd (HG.out.trans hg5)
    clear v1 hg5
    go_wp2
    go_ret2
    exact ⟨k, _, rfl, ⟨⟨k1, k2⟩, by omega, by omega⟩, top_below hb hRB HG.out⟩
  · skip
    go_wp2_with fail
    refine (pick_l R A n c 3 256 (by omega) (by omega) _ hR2).mono ?_
    rintro e w4 ⟨u, rfl, ⟨u0, u1⟩, hR4, hg4⟩
    have u2 := u1 (by omega)
    have HG := hd (HG.out.trans hg4)
    clear u1 hg4
    go_wp2_with fail
    refine (pick_l R A n c 4 30 (by omega) (by omega) _ hR4).mono ?_
    rintro e w5 ⟨v, rfl, ⟨v0, v1⟩, hR5, hg5⟩
    have v2 := v1 (by omega)
    have HG := hd (HG.out.trans hg5)
    clear v1 hg5
    go_wp2
    go_ret2
    exact ⟨k, _, rfl, ⟨⟨k1, k2⟩, by omega, by omega⟩, top_below hb hRB HG.out⟩
end Go.Proofs.Ytdjggccplaifbaa
