/- Contracts of the functions that draw the arguments of the laws off a code (words, ratios, the code itself): no condition but that the code is a slice of bytes that can be read. -/
import Derived.Test.YthbpcgefcnpfmaaDR
import Derived.Laws.NewBlocks
namespace Go.Proofs.Ythbpcgefcnpfmaa
open Go.RowKit
theorem lit5 (K : Int) (hK : 2 ≤ K) (hK2 : K ≤ 4096) (v : Int) (h0 : 0 ≤ v) (h1 : v < 5) :
    ∃ y : Int, (#[.int .i64 0, .int .i64 (K - 1), .int .i64 (K / 2), .int .i64 (K / 2 - 1), .int .i64 1] : Array Value)[v.toNat]? = some (.int .i64 y) ∧ 0 ≤ y ∧ y < K := by
  rcases (show v = 0 ∨ v = 1 ∨ v = 2 ∨ v = 3 ∨ v = 4 by omega) with rfl | rfl | rfl | rfl | rfl <;> exact ⟨_, rfl, by omega, by omega⟩
theorem lit2 (K : Int) (hK : 2 ≤ K) (hK2 : K ≤ 4096) (v : Int) (h0 : 0 ≤ v) (h1 : v < 2) :
    ∃ y : Int, (#[.int .i64 (-1), .int .i64 K] : Array Value)[v.toNat]? = some (.int .i64 y) ∧ -1 ≤ y ∧ y ≤ 4096 := by
  rcases (show v = 0 ∨ v = 1 by omega) with rfl | rfl <;> exact ⟨_, rfl, by omega, by omega⟩
set_option maxHeartbeats 800000 in
theorem l20Word_lo (R : Nat) (A : Option Addr) (n c P : Nat) (k m : Int) (hk : k < 1) (hm1 : 1 ≤ m) (hm : m ≤ 1000) (hP : P ≤ 1000) (w : World) (h : RdL w R A n c P) :
    Calls Try.prog 84 #[.pointer (some ⟨R, 0, none⟩), .int .i64 k, .int .i64 m] w (Drawn1 R A n c (P + 4) (fun v => -1 ≤ v ∧ v ≤ 4096) w) := by
  have hK1 : (2 : Int) ≤ 2 := by omega
  have hK2 : (2 : Int) ≤ 4096 := by omega
  go_enter Try.func84, Try.ntmps84
  go_wp2_with fail
  refine (odd_l R A n c P m hm1 (by omega) (by omega) w h).mono ?_
  rintro e w1 ⟨b, rfl, hR1, hg1⟩
  have hlt := hR1.lt
  cases b
  · go_wp2_with fail
    refine (pick_l R A n c (P + 1) 6 (by omega) (by omega) _ hR1).mono ?_
    rintro e w2 ⟨v, rfl, ⟨v0, v1⟩, hR2, hg2⟩
    have hlt2 := hR2.lt
    have HG := hd (hg1.trans hg2)
    clear hg1 hg2 v1 hR1
    by_cases hv : v = 0
    · subst hv
      go_wp2_with fail
      refine (pick_l R A n c (P + 2) 5 (by omega) (by omega) _ (hR2.alloc _)).mono ?_
      rintro e w3 ⟨u, rfl, ⟨u0, u1⟩, hR3, hg3⟩
      have u2 := u1 (by omega)
      obtain ⟨y, hy, y0, y1⟩ := lit5 2 hK1 hK2 u u0 u2
      have hc := lit_after hlt2 hg3 hy
      have HG3 := hd (((HG.out.trans (World.grownBy_alloc w2 _ _)).trans hg3))
      have HQ := hd (mod_lt_bd y 2 (by omega))
      clear hg3 hy u1
      go_wp2
      go_ret
      exact ⟨y % 2, rfl, ⟨by have := HQ.out; omega, by have := HQ.out; omega⟩, hR3.up (by omega), HG3.out⟩
    · have hv2 : (v == 0) = false := by simpa using hv
      go_wp2_with fail
      refine (pick_l R A n c (P + 2) 256 (by omega) (by omega) _ hR2).mono ?_
      rintro e w3 ⟨u, rfl, ⟨u0, u1⟩, hR3, hg3⟩
      have u2 := u1 (by omega)
      have HG3 := hd (HG.out.trans hg3)
      clear hg3 u1
      go_wp2_with fail
      refine (pick_l R A n c (P + 3) 16 (by omega) (by omega) _ hR3).mono ?_
      rintro e w4 ⟨x, rfl, ⟨x0, x1⟩, hR4, hg4⟩
      have x2 := x1 (by omega)
      have HG4 := hd (HG3.out.trans hg4)
      have HQ := hd (mod_lt_bd (u * 16 + x) 2 (by omega))
      clear hg4 x1
      go_wp2
      go_ret
      exact ⟨(u * 16 + x) % 2, rfl, ⟨by have := HQ.out; omega, by have := HQ.out; omega⟩, hR4, HG4.out⟩
  · go_wp2_with fail
    refine (pick_l R A n c (P + 1) 2 (by omega) (by omega) _ (hR1.alloc _)).mono ?_
    rintro e w2 ⟨v, rfl, ⟨v0, v1⟩, hR2, hg2⟩
    have v2 := v1 (by omega)
    obtain ⟨y, hy, y0, y1⟩ := lit2 2 hK1 hK2 v v0 v2
    have hc := lit_after hlt hg2 hy
    have HG := hd (((hg1.trans (World.grownBy_alloc w1 _ _)).trans hg2))
    clear hg1 hg2 hy v1
    go_wp2
    go_ret
    exact ⟨y, rfl, ⟨y0, y1⟩, hR2.up (by omega), HG.out⟩
set_option maxHeartbeats 800000 in
theorem l20Word_mid (R : Nat) (A : Option Addr) (n c P : Nat) (k m : Int) (hk1 : 1 ≤ k) (hk2 : k ≤ 12) (hm1 : 1 ≤ m) (hm : m ≤ 1000) (hP : P ≤ 1000) (w : World) (h : RdL w R A n c P) :
    Calls Try.prog 84 #[.pointer (some ⟨R, 0, none⟩), .int .i64 k, .int .i64 m] w (Drawn1 R A n c (P + 4) (fun v => -1 ≤ v ∧ v ≤ 4096) w) := by
  obtain ⟨hK1, hK2⟩ := pw_w k hk1 hk2
  have ek := shl_pw k
  go_enter Try.func84, Try.ntmps84
  go_wp2_with fail
  refine (odd_l R A n c P m hm1 (by omega) (by omega) w h).mono ?_
  rintro e w1 ⟨b, rfl, hR1, hg1⟩
  have hlt := hR1.lt
  cases b
  · go_wp2_with fail
    refine (pick_l R A n c (P + 1) 6 (by omega) (by omega) _ hR1).mono ?_
    rintro e w2 ⟨v, rfl, ⟨v0, v1⟩, hR2, hg2⟩
    have hlt2 := hR2.lt
    have HG := hd (hg1.trans hg2)
    clear hg1 hg2 v1 hR1
    by_cases hv : v = 0
    · subst hv
      go_wp2_with fail
      refine (pick_l R A n c (P + 2) 5 (by omega) (by omega) _ (hR2.alloc _)).mono ?_
      rintro e w3 ⟨u, rfl, ⟨u0, u1⟩, hR3, hg3⟩
      have u2 := u1 (by omega)
      obtain ⟨y, hy, y0, y1⟩ := lit5 (pw k) hK1 hK2 u u0 u2
      have hc := lit_after hlt2 hg3 hy
      have HG3 := hd (((HG.out.trans (World.grownBy_alloc w2 _ _)).trans hg3))
      have HQ := hd (mod_lt_bd y (pw k) (by omega))
      clear hg3 hy u1
      go_wp2
      go_ret
      exact ⟨y % (pw k), rfl, ⟨by have := HQ.out; omega, by have := HQ.out; omega⟩, hR3.up (by omega), HG3.out⟩
    · have hv2 : (v == 0) = false := by simpa using hv
      go_wp2_with fail
      refine (pick_l R A n c (P + 2) 256 (by omega) (by omega) _ hR2).mono ?_
      rintro e w3 ⟨u, rfl, ⟨u0, u1⟩, hR3, hg3⟩
      have u2 := u1 (by omega)
      have HG3 := hd (HG.out.trans hg3)
      clear hg3 u1
      go_wp2_with fail
      refine (pick_l R A n c (P + 3) 16 (by omega) (by omega) _ hR3).mono ?_
      rintro e w4 ⟨x, rfl, ⟨x0, x1⟩, hR4, hg4⟩
      have x2 := x1 (by omega)
      have HG4 := hd (HG3.out.trans hg4)
      have HQ := hd (mod_lt_bd (u * 16 + x) (pw k) (by omega))
      clear hg4 x1
      go_wp2
      go_ret
      exact ⟨(u * 16 + x) % (pw k), rfl, ⟨by have := HQ.out; omega, by have := HQ.out; omega⟩, hR4, HG4.out⟩
  · go_wp2_with fail
    refine (pick_l R A n c (P + 1) 2 (by omega) (by omega) _ (hR1.alloc _)).mono ?_
    rintro e w2 ⟨v, rfl, ⟨v0, v1⟩, hR2, hg2⟩
    have v2 := v1 (by omega)
    obtain ⟨y, hy, y0, y1⟩ := lit2 (pw k) hK1 hK2 v v0 v2
    have hc := lit_after hlt hg2 hy
    have HG := hd (((hg1.trans (World.grownBy_alloc w1 _ _)).trans hg2))
    clear hg1 hg2 hy v1
    go_wp2
    go_ret
    exact ⟨y, rfl, ⟨y0, y1⟩, hR2.up (by omega), HG.out⟩
set_option maxHeartbeats 800000 in
theorem l20Word_hi (R : Nat) (A : Option Addr) (n c P : Nat) (k m : Int) (hk : 12 < k) (hm1 : 1 ≤ m) (hm : m ≤ 1000) (hP : P ≤ 1000) (w : World) (h : RdL w R A n c P) :
    Calls Try.prog 84 #[.pointer (some ⟨R, 0, none⟩), .int .i64 k, .int .i64 m] w (Drawn1 R A n c (P + 4) (fun v => -1 ≤ v ∧ v ≤ 4096) w) := by
  have hK1 : (2 : Int) ≤ 4096 := by omega
  have hK2 : (4096 : Int) ≤ 4096 := by omega
  go_enter Try.func84, Try.ntmps84
  go_wp2_with fail
  refine (odd_l R A n c P m hm1 (by omega) (by omega) w h).mono ?_
  rintro e w1 ⟨b, rfl, hR1, hg1⟩
  have hlt := hR1.lt
  cases b
  · go_wp2_with fail
    refine (pick_l R A n c (P + 1) 6 (by omega) (by omega) _ hR1).mono ?_
    rintro e w2 ⟨v, rfl, ⟨v0, v1⟩, hR2, hg2⟩
    have hlt2 := hR2.lt
    have HG := hd (hg1.trans hg2)
    clear hg1 hg2 v1 hR1
    by_cases hv : v = 0
    · subst hv
      go_wp2_with fail
      refine (pick_l R A n c (P + 2) 5 (by omega) (by omega) _ (hR2.alloc _)).mono ?_
      rintro e w3 ⟨u, rfl, ⟨u0, u1⟩, hR3, hg3⟩
      have u2 := u1 (by omega)
      obtain ⟨y, hy, y0, y1⟩ := lit5 4096 hK1 hK2 u u0 u2
      have hc := lit_after hlt2 hg3 hy
      have HG3 := hd (((HG.out.trans (World.grownBy_alloc w2 _ _)).trans hg3))
      have HQ := hd (mod_lt_bd y 4096 (by omega))
      clear hg3 hy u1
      go_wp2
      go_ret
      exact ⟨y % 4096, rfl, ⟨by have := HQ.out; omega, by have := HQ.out; omega⟩, hR3.up (by omega), HG3.out⟩
    · have hv2 : (v == 0) = false := by simpa using hv
      go_wp2_with fail
      refine (pick_l R A n c (P + 2) 256 (by omega) (by omega) _ hR2).mono ?_
      rintro e w3 ⟨u, rfl, ⟨u0, u1⟩, hR3, hg3⟩
      have u2 := u1 (by omega)
      have HG3 := hd (HG.out.trans hg3)
      clear hg3 u1
      go_wp2_with fail
      refine (pick_l R A n c (P + 3) 16 (by omega) (by omega) _ hR3).mono ?_
      rintro e w4 ⟨x, rfl, ⟨x0, x1⟩, hR4, hg4⟩
      have x2 := x1 (by omega)
      have HG4 := hd (HG3.out.trans hg4)
      have HQ := hd (mod_lt_bd (u * 16 + x) 4096 (by omega))
      clear hg4 x1
      go_wp2
      go_ret
      exact ⟨(u * 16 + x) % 4096, rfl, ⟨by have := HQ.out; omega, by have := HQ.out; omega⟩, hR4, HG4.out⟩
  · go_wp2_with fail
    refine (pick_l R A n c (P + 1) 2 (by omega) (by omega) _ (hR1.alloc _)).mono ?_
    rintro e w2 ⟨v, rfl, ⟨v0, v1⟩, hR2, hg2⟩
    have v2 := v1 (by omega)
    obtain ⟨y, hy, y0, y1⟩ := lit2 4096 hK1 hK2 v v0 v2
    have hc := lit_after hlt hg2 hy
    have HG := hd (((hg1.trans (World.grownBy_alloc w1 _ _)).trans hg2))
    clear hg1 hg2 hy v1
    go_wp2
    go_ret
    exact ⟨y, rfl, ⟨y0, y1⟩, hR2.up (by omega), HG.out⟩
theorem l20Word_l (R : Nat) (A : Option Addr) (n c P : Nat) (k m : Int) (hm1 : 1 ≤ m) (hm : m ≤ 1000) (hP : P ≤ 1000) (w : World) (h : RdL w R A n c P) :
    Calls Try.prog 84 #[.pointer (some ⟨R, 0, none⟩), .int .i64 k, .int .i64 m] w (Drawn1 R A n c (P + 4) (fun v => -1 ≤ v ∧ v ≤ 4096) w) := by
  by_cases h1 : k < 1
  · exact l20Word_lo R A n c P k m h1 hm1 hm hP w h
  · by_cases h2 : k ≤ 12
    · exact l20Word_mid R A n c P k m (by omega) h2 hm1 hm hP w h
    · exact l20Word_hi R A n c P k m (by omega) hm1 hm hP w h
def okW (v : Int) : Prop := -1 ≤ v ∧ v ≤ 13
def okX (v : Int) : Prop := -1 ≤ v ∧ v ≤ 4096
theorem l20One_l (R : Nat) (A : Option Addr) (n c P : Nat) (m : Int) (hm1 : 1 ≤ m) (hm : m ≤ 100) (hP : P ≤ 500) (w : World) (h : RdL w R A n c P) :
    Calls Try.prog 75 #[.pointer (some ⟨R, 0, none⟩), .int .i64 m] w (Drawn2 R A n c (P + 6) (fun u v => okW u ∧ okX v) w) := by
  go_enter Try.func75, Try.ntmps75
  go_wp2_with fail
  refine (l20Width_l R A n c P _ (by omega) (by omega) (by omega) w h).mono ?_
  rintro e w1 ⟨u, rfl, u0, hR1, hg1⟩
  go_wp2_with fail
  refine (l20Word_l R A n c (P + 2) u _ (by omega) (by omega) (by omega) w1 hR1).mono ?_
  rintro e w2 ⟨v, rfl, v0, hR2, hg2⟩
  go_wp2
  go_ret2
  exact ⟨u, v, rfl, ⟨u0, v0⟩, hR2, hg1.trans hg2⟩
theorem l20Two_l (R : Nat) (A : Option Addr) (n c P : Nat) (m : Int) (hm1 : 1 ≤ m) (hm : m ≤ 100) (hP : P ≤ 500) (w : World) (h : RdL w R A n c P) :
    Calls Try.prog 61 #[.pointer (some ⟨R, 0, none⟩), .int .i64 m] w (Drawn3 R A n c (P + 10) (fun u v x => okW u ∧ okX v ∧ okX x) w) := by
  go_enter Try.func61, Try.ntmps61
  go_wp2_with fail
  refine (l20Width_l R A n c P _ (by omega) (by omega) (by omega) w h).mono ?_
  rintro e w1 ⟨u, rfl, u0, hR1, hg1⟩
  go_wp2_with fail
  refine (l20Word_l R A n c (P + 2) u _ (by omega) (by omega) (by omega) w1 hR1).mono ?_
  rintro e w2 ⟨v, rfl, v0, hR2, hg2⟩
  go_wp2_with fail
  refine (l20Word_l R A n c (P + 6) u _ (by omega) (by omega) (by omega) w2 hR2).mono ?_
  rintro e w3 ⟨x, rfl, x0, hR3, hg3⟩
  go_wp2
  go_ret3
  exact ⟨u, v, x, rfl, ⟨u0, v0, x0⟩, hR3, (hg1.trans hg2).trans hg3⟩
/-- the code, as the shell gives it -/
def Code8 (w : World) (a : Option Addr) (len cap : Nat) : Prop :=
  len ≤ cap ∧ cap ≤ maxLen ∧ (0 < len → ∃ b off, a = some ⟨b, off, none⟩ ∧ b < w.heap.size ∧ ∀ i, i < len → ∃ v : Int, w.cell? ⟨b, off + i, none⟩ = some (.int .u8 v) ∧ 0 ≤ v ∧ v ≤ 255)
def Opened (w : World) (e : Ending) (w' : World) : Prop :=
  ∃ R A n c, e = .returned (.pointer (some ⟨R, 0, none⟩)) ∧ RdL w' R A n c 0 ∧ w.heap.size ≤ R ∧ Below w.heap.size w w'
theorem l20Open_any (a : Option Addr) (len cap : Nat) (w : World) (h : Code8 w a len cap) : Calls Try.prog 59 #[.slice a len cap] w (Opened w) := by
  obtain ⟨h1, h2, h3⟩ := h
  unfold maxLen at h2
  have hal : ∀ (A : Option Addr) (n c : Nat), n ≤ 2000 → n ≤ len → (0 < n → A = a) → Opened w (.returned (.pointer (some ⟨w.heap.size, 0, none⟩))) (w.alloc (.cells #[.slice A n c, .int .i64 0] 53)) := by
    intro A n c hn hnl hA
    refine ⟨w.heap.size, A, n, c, rfl, ⟨0, Nat.le_refl _, heap_alloc_new w _, hn, fun h0 => ?_⟩, Nat.le_refl _, (Below.refl _ _).alloc (Nat.le_refl _) _⟩
    obtain ⟨b, off, hab, hb, hc⟩ := h3 (by omega)
    refine ⟨b, off, (hA h0).trans hab, hb, fun i hi => ?_⟩
    obtain ⟨v, hv, v0⟩ := hc i (by omega)
    exact ⟨v, (World.cell?_alloc_lt w _ _ hb).trans hv, v0⟩
  have HA := hd hal
  clear hal
  by_cases hl : len ≤ 2000
  · clear h3
    go_enter Try.func59, Try.ntmps59
    go_wp2
    go_ret
    exact HA.out a len cap hl (Nat.le_refl _) (fun _ => rfl)
  · obtain ⟨b, off, rfl, hb, hc⟩ := h3 (by omega)
    clear hc
    go_enter Try.func59, Try.ntmps59
    go_wp2
    go_ret
    exact HA.out (some ⟨b, off, none⟩) 2000 cap (by omega) (by omega) (fun _ => rfl)
end Go.Proofs.Ythbpcgefcnpfmaa
