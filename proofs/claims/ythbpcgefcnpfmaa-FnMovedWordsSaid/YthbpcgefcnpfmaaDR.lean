/- Contracts of the functions that draw the arguments of the laws off a code: no condition but that the code is a slice of bytes that can be read. -/
import Derived.Test.YthbpcgefcnpfmaaOwn
import Derived.Test.YthbpcgefcnpfmaaW2
import Derived.Maps.AppendAt
namespace Go.Proofs.Ythbpcgefcnpfmaa
open Go.RowKit
/-- the reader in block R: its code (A, n, c), its place p -/
def Rd (w : World) (R : Nat) (A : Option Addr) (n c p : Nat) : Prop :=
  w.heap[R]? = some (.cells #[.slice A n c, .int .i64 p] 53 (0, 0)) ∧ n ≤ 2000 ∧
  (0 < n → ∃ b off, A = some ⟨b, off, none⟩ ∧ b < R ∧ ∀ i, i < n → ∃ v : Int, w.cell? ⟨b, off + i, none⟩ = some (.int .u8 v) ∧ 0 ≤ v ∧ v ≤ 255)
theorem Rd.cell0 {w : World} {R n c p : Nat} {A : Option Addr} (h : Rd w R A n c p) : w.cell? ⟨R, 0, none⟩ = some (.slice A n c) := cell_of_row w R 0 _ _ (0, 0) h.1
theorem Rd.cell1 {w : World} {R n c p : Nat} {A : Option Addr} (h : Rd w R A n c p) : w.cell? ⟨R, 1, none⟩ = some (.int .i64 p) := cell_of_row w R 1 _ _ (0, 0) h.1
theorem Rd.free {w : World} {R n c p : Nat} {A : Option Addr} (h : Rd w R A n c p) (i : Nat) : w.frozen? ⟨R, i, none⟩ = false := frozen_of_row w R i _ _ h.1
theorem Rd.lt {w : World} {R n c p : Nat} {A : Option Addr} (h : Rd w R A n c p) : R < w.heap.size := lt_of_block h.1
theorem Rd.keep {w w' : World} {R n c p : Nat} {A : Option Addr} (h : Rd w R A n c p) (hb : Below (R + 1) w w') : Rd w' R A n c p := by
  refine ⟨(hb.block R (by omega)).trans h.1, h.2.1, fun hn => ?_⟩
  obtain ⟨b, off, e, hlt, hc⟩ := h.2.2 hn
  refine ⟨b, off, e, hlt, fun i hi => ?_⟩
  obtain ⟨v, hv, v0, v1⟩ := hc i hi
  exact ⟨v, (hb.cell (by show b < R + 1; omega)).trans hv, v0, v1⟩
theorem Rd.drewN {w : World} {R n c p k : Nat} {A : Option Addr} (h : Rd w R A n c p) : Rd (w.drewN k) R A n c p := h
theorem Rd.alloc {w : World} {R n c p : Nat} {A : Option Addr} (h : Rd w R A n c p) (o : Obj) : Rd (w.alloc o) R A n c p := h.keep ((Below.refl _ _).alloc h.lt o)
/-- the place behind a pick -/
theorem Rd.put {w : World} {R n c p : Nat} {A : Option Addr} (h : Rd w R A n c p) : Rd (w.setCell ⟨R, 1, none⟩ (.int .i64 ((p : Int) + 1))) R A n c (p + 1) := by
  refine ⟨?_, h.2.1, fun hn => ?_⟩
  · rw [heap_setCell_same w R 1 _ _ _ h.1]
    rfl
  · obtain ⟨b, off, e, hlt, hc⟩ := h.2.2 hn
    refine ⟨b, off, e, hlt, fun i hi => ?_⟩
    obtain ⟨v, hv, v0, v1⟩ := hc i hi
    exact ⟨v, (World.cell?_setCell_other w _ _ _ (fun e => by injection e with e1; omega)).trans hv, v0, v1⟩
theorem Rd.put_grown {w : World} {R : Nat} (u : Value) : w.grownBy (w.setCell ⟨R, 1, none⟩ u) (some R) :=
  ⟨rfl, rfl, rfl, by simp, fun k _ hk => Below.heap_setCell w ⟨R, 1, none⟩ u k (fun e => hk (by rw [e]))⟩
theorem grown_drewN {a w : World} {r : Option Nat} (h : a.grownBy w r) (n : Nat) : a.grownBy (w.drewN n) r := ⟨h.os, h.tape, h.output, h.size, h.block⟩
/-- a pick's result -/
def Picked (R : Nat) (A : Option Addr) (n c p : Nat) (m : Int) (w : World) (e : Ending) (w' : World) : Prop :=
  ∃ v : Int, e = .returned (.int .i64 v) ∧ 0 ≤ v ∧ (1 ≤ m → v < m) ∧ Rd w' R A n c (p + 1) ∧ w.grownBy w' (some R)
theorem pick_any (R : Nat) (A : Option Addr) (n c p : Nat) (m : Int) (hm : m ≤ 1000000) (hp : p ≤ 1000000) (w : World) (h : Rd w R A n c p) :
    Calls Try.prog 80 #[.pointer (some ⟨R, 0, none⟩), .int .i64 m] w (Picked R A n c p m w) := by
  have c0 := h.cell0
  have c1 := h.cell1
  have fr := h.free 1
  have hn := h.2.1
  have HP := hd h.put
  by_cases hm1 : m < 1
  · clear h
    go_enter Try.func80, Try.ntmps80
    go_wp2
    go_ret
    exact ⟨0, rfl, by omega, fun g => by omega, HP.out, Rd.put_grown _⟩
  by_cases hn0 : n = 0
  · subst hn0
    clear h
    go_enter Try.func80, Try.ntmps80
    go_wp2
    go_ret
    exact ⟨0, rfl, by omega, fun g => by omega, HP.out, Rd.put_grown _⟩
  have hne : ((n : Int) == 0) = false := by simp; omega
  obtain ⟨b, off, rfl, hbR, hby⟩ := HP.out.2.2 (by omega)
  have hm0 : (m == 0) = false := by simp; omega
  by_cases hpn : p < n
  · obtain ⟨v, hv, v0, v1⟩ := hby p hpn
    have HQ := hd (mod_lt_bd v m (by omega))
    clear h hby
    go_enter Try.func80, Try.ntmps80
    go_wp2
    go_ret
    exact ⟨v % m, rfl, HQ.out.1, fun _ => HQ.out.2, HP.out, Rd.put_grown _⟩
  · obtain ⟨v, hv, v0, v1⟩ := hby (p % n) (Nat.mod_lt _ (by omega))
    obtain ⟨u, hu, u0, u1⟩ := hby ((p * 7 + 3) % n) (Nat.mod_lt _ (by omega))
    have q1 := Nat.mod_lt p (show 0 < n by omega)
    have q2 := Nat.mod_lt (p * 7 + 3) (show 0 < n by omega)
    have t1 : (p : Int).tmod n = (p : Int) % n := Int.tmod_eq_emod_of_nonneg (by omega)
    have t2 : ((p : Int) * 7 + 3).tmod n = ((p : Int) * 7 + 3) % n := Int.tmod_eq_emod_of_nonneg (by omega)
    obtain ⟨z1, z2⟩ := mod_lt_bd (p : Int) n (by omega)
    obtain ⟨z3, z4⟩ := mod_lt_bd ((p : Int) * 7 + 3) n (by omega)
    have z5 : ((p : Int) % n).toNat = p % n := by rw [show (p : Int) % n = ((p % n : Nat) : Int) by rw [Int.natCast_emod]]; rfl
    have z6 : (((p : Int) * 7 + 3) % n).toNat = (p * 7 + 3) % n := by rw [show ((p : Int) * 7 + 3) % n = (((p * 7 + 3) % n : Nat) : Int) by rw [Int.natCast_emod]; rfl]; rfl
    have t3 : IntKind.i64.wrap ((p : Int).tdiv n) = (p : Int) / n := i64_tdiv p n (by omega) (by omega) (by omega)
    obtain ⟨d0, d1⟩ := ediv_bd (x := (p : Int)) (c := n) (by omega) (by omega)
    clear h hby
    go_enter Try.func80, Try.ntmps80
    go_wp2
    have x1 := wr (v * 131) (by omega)
    have x2 := wr ((p : Int) * 7) (by omega)
    have x3 := wr ((p : Int) * 7 + 3) (by omega)
    have x4 := wr (u * 1117) (by omega)
    have x5 := wr (v * 131 + u * 1117) (by omega)
    have x6 := wr ((p : Int) * 29) (by omega)
    have x7 := wr (v * 131 + u * 1117 + (p : Int) * 29) (by omega)
    have x8 := wr ((p : Int) / n * 53) (by omega)
    have x9 := wr (v * 131 + u * 1117 + (p : Int) * 29 + (p : Int) / n * 53) (by omega)
    go_quiet (fail)
    clear x1 x2 x3 x4 x5 x6 x7 x8 x9 z1 z2 z3 z4 z5 z6 t1 t2 t3 hv hu
    obtain ⟨X, hX⟩ : ∃ X, v * 131 + u * 1117 + (p : Int) * 29 + (p : Int) / n * 53 = X := ⟨_, rfl⟩
    have X0 : 0 ≤ X := by omega
    have X1 : X ≤ 4611686018427387903 := by omega
    have X2 : 0 ≤ X / 64 ∧ X / 64 ≤ X := by omega
    have e1 := i64_xor X (X / 64) X0 X1 X2.1 (by omega)
    have e2 := xorZ_nonneg X (X / 64)
    have HQ := hd (mod_lt_bd (xorZ X (X / 64)) m (by omega))
    go_wp2
    go_ret
    exact ⟨xorZ X (X / 64) % m, rfl, HQ.out.1, fun _ => HQ.out.2, HP.out.drewN, grown_drewN (Rd.put_grown _) _⟩
def RdL (w : World) (R : Nat) (A : Option Addr) (n c P : Nat) : Prop := ∃ p, p ≤ P ∧ Rd w R A n c p
theorem RdL.lt {w : World} {R n c P : Nat} {A : Option Addr} (h : RdL w R A n c P) : R < w.heap.size := h.elim fun _ g => g.2.lt
theorem RdL.alloc {w : World} {R n c P : Nat} {A : Option Addr} (h : RdL w R A n c P) (o : Obj) : RdL (w.alloc o) R A n c P := h.elim fun p g => ⟨p, g.1, g.2.alloc o⟩
theorem RdL.drewN {w : World} {R n c P k : Nat} {A : Option Addr} (h : RdL w R A n c P) : RdL (w.drewN k) R A n c P := h
theorem RdL.drew1 {w : World} {R n c P : Nat} {A : Option Addr} (h : RdL w R A n c P) : RdL w.drew R A n c P := h
theorem RdL.up {w : World} {R n c P P' : Nat} {A : Option Addr} (h : RdL w R A n c P) (hP : P ≤ P') : RdL w R A n c P' := h.elim fun p g => ⟨p, Nat.le_trans g.1 hP, g.2⟩
def Drawn1 (R : Nat) (A : Option Addr) (n c P : Nat) (Q : Int → Prop) (w : World) (e : Ending) (w' : World) : Prop :=
  ∃ v : Int, e = .returned (.int .i64 v) ∧ Q v ∧ RdL w' R A n c P ∧ w.grownBy w' (some R)
def DrawnB (R : Nat) (A : Option Addr) (n c P : Nat) (w : World) (e : Ending) (w' : World) : Prop :=
  ∃ b : Bool, e = .returned (.bool b) ∧ RdL w' R A n c P ∧ w.grownBy w' (some R)
def Drawn2 (R : Nat) (A : Option Addr) (n c P : Nat) (Q : Int → Int → Prop) (w : World) (e : Ending) (w' : World) : Prop :=
  ∃ u v : Int, e = .returned (.tuple #[.int .i64 u, .int .i64 v]) ∧ Q u v ∧ RdL w' R A n c P ∧ w.grownBy w' (some R)
def Drawn3 (R : Nat) (A : Option Addr) (n c P : Nat) (Q : Int → Int → Int → Prop) (w : World) (e : Ending) (w' : World) : Prop :=
  ∃ u v x : Int, e = .returned (.tuple #[.int .i64 u, .int .i64 v, .int .i64 x]) ∧ Q u v x ∧ RdL w' R A n c P ∧ w.grownBy w' (some R)
theorem pick_l (R : Nat) (A : Option Addr) (n c P : Nat) (m : Int) (hm : m ≤ 1000000) (hP : P ≤ 1000000) (w : World) (h : RdL w R A n c P) :
    Calls Try.prog 80 #[.pointer (some ⟨R, 0, none⟩), .int .i64 m] w (Drawn1 R A n c (P + 1) (fun v => 0 ≤ v ∧ (1 ≤ m → v < m)) w) := by
  obtain ⟨p, hp, hr⟩ := h
  exact (pick_any R A n c p m hm (by omega) w hr).mono fun e w' ⟨v, he, h0, h1, h2, h3⟩ => ⟨v, he, ⟨h0, h1⟩, ⟨p + 1, by omega, h2⟩, h3⟩
theorem lit_cell (w : World) (cs : Array Value) (t : TypeId) (i : Nat) : (w.alloc (.cells cs t)).cell? ⟨w.heap.size, i, none⟩ = cs[i]? := by
  rw [World.cell?_alloc_at] <;> rfl
theorem lit_after {w w' : World} {cs : Array Value} {t : TypeId} {i R : Nat} {u : Value} (hR : R < w.heap.size) (hg : (w.alloc (.cells cs t)).grownBy w' (some R)) (h : cs[i]? = some u) : w'.cell? ⟨w.heap.size, i, none⟩ = some u :=
  hg.cell ((lit_cell w cs t i).trans h) (fun e => by injection e with e1; simp at e1; omega)
theorem odd_l (R : Nat) (A : Option Addr) (n c P : Nat) (m : Int) (hm1 : 1 ≤ m) (hm : m ≤ 1000000) (hP : P ≤ 1000000) (w : World) (h : RdL w R A n c P) :
    Calls Try.prog 86 #[.pointer (some ⟨R, 0, none⟩), .int .i64 m] w (DrawnB R A n c (P + 1) w) := by
  go_enter Try.func86, Try.ntmps86
  go_wp2_with (go_at_call 80; refine (pick_l R A n c P m hm hP w h).mono ?_; rintro e w1 ⟨v, rfl, ⟨v0, v1⟩, hR1, hg1⟩)
  go_ret
  exact ⟨_, rfl, hR1, hg1⟩
theorem lit3 (v : Int) (h0 : 0 ≤ v) (h1 : v < 3) : ∃ y : Int, (#[.int .i64 0, .int .i64 (-1), .int .i64 13] : Array Value)[v.toNat]? = some (.int .i64 y) ∧ -1 ≤ y ∧ y ≤ 13 := by
  rcases (show v = 0 ∨ v = 1 ∨ v = 2 by omega) with rfl | rfl | rfl <;> exact ⟨_, rfl, by omega, by omega⟩
theorem lit12 (v : Int) (h0 : 0 ≤ v) (h1 : v < 12) :
    ∃ y : Int, (#[.int .i64 1, .int .i64 2, .int .i64 3, .int .i64 4, .int .i64 5, .int .i64 6, .int .i64 7, .int .i64 8, .int .i64 8, .int .i64 8, .int .i64 10, .int .i64 12] : Array Value)[v.toNat]? = some (.int .i64 y) ∧ -1 ≤ y ∧ y ≤ 13 := by
  rcases (show v = 0 ∨ v = 1 ∨ v = 2 ∨ v = 3 ∨ v = 4 ∨ v = 5 ∨ v = 6 ∨ v = 7 ∨ v = 8 ∨ v = 9 ∨ v = 10 ∨ v = 11 by omega) with rfl | rfl | rfl | rfl | rfl | rfl | rfl | rfl | rfl | rfl | rfl | rfl <;> exact ⟨_, rfl, by omega, by omega⟩
theorem l20Width_l (R : Nat) (A : Option Addr) (n c P : Nat) (m : Int) (hm1 : 1 ≤ m) (hm : m ≤ 1000) (hP : P ≤ 1000) (w : World) (h : RdL w R A n c P) :
    Calls Try.prog 83 #[.pointer (some ⟨R, 0, none⟩), .int .i64 m] w (Drawn1 R A n c (P + 2) (fun v => -1 ≤ v ∧ v ≤ 13) w) := by
  go_enter Try.func83, Try.ntmps83
  go_wp2_with fail
  refine (odd_l R A n c P m hm1 (by omega) (by omega) w h).mono ?_
  rintro e w1 ⟨b, rfl, hR1, hg1⟩
  have hlt := hR1.lt
  cases b
  · go_wp2_with fail
    refine (pick_l R A n c (P + 1) 12 (by omega) (by omega) _ (hR1.alloc _)).mono ?_
    rintro e w2 ⟨v, rfl, ⟨v0, v1⟩, hR2, hg2⟩
    have v2 := v1 (by omega)
    obtain ⟨y, hy, y0, y1⟩ := lit12 v v0 v2
    have hc := lit_after hlt hg2 hy
    have HG := hd (((hg1.trans (World.grownBy_alloc w1 _ _)).trans hg2))
    clear hg1 hg2 hy v1
    go_wp2
    go_ret
    exact ⟨y, rfl, ⟨y0, y1⟩, hR2, HG.out⟩
  · go_wp2_with fail
    refine (pick_l R A n c (P + 1) 3 (by omega) (by omega) _ (hR1.alloc _)).mono ?_
    rintro e w2 ⟨v, rfl, ⟨v0, v1⟩, hR2, hg2⟩
    have v2 := v1 (by omega)
    obtain ⟨y, hy, y0, y1⟩ := lit3 v v0 v2
    have hc := lit_after hlt hg2 hy
    have HG := hd (((hg1.trans (World.grownBy_alloc w1 _ _)).trans hg2))
    clear hg1 hg2 hy v1
    go_wp2
    go_ret
    exact ⟨y, rfl, ⟨y0, y1⟩, hR2, HG.out⟩
end Go.Proofs.Ythbpcgefcnpfmaa
