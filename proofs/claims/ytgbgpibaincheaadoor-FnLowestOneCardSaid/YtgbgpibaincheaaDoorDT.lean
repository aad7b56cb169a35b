/- Contracts of the functions that draw the arguments of the laws: no condition but that the code is a slice of bytes that can be read. -/
import Derived.Test.YtgbgpibaincheaaDoorDS
import Derived.Deep.RegionWith
namespace Go.Proofs.YtgbgpibaincheaaDoor
open Go.RowKit
theorem code8_of {w : World} {a : Option Addr} {len cap : Nat} {zs : List Int}
    (h : (a = none ∧ len = 0 ∧ cap = 0 ∧ zs = []) ∨ ∃ x, a = some x ∧ len ≤ cap ∧ cap ≤ maxLen ∧ zs.length = cap ∧ (∀ i, i < zs.length → w.cell? (x.add i) = some (.int .u8 (zs.getD i 0))) ∧ ∀ n ∈ zs, (Lit.int .u8 n).wf = true) :
    Code8 w a len cap := by
  rcases h with ⟨rfl, rfl, rfl, rfl⟩ | ⟨x, rfl, hl, hm, hz, hc, hw⟩
  · exact ⟨Nat.le_refl _, Nat.zero_le _, fun h => absurd h (by omega)⟩
  · refine ⟨hl, hm, fun h0 => ?_⟩
    obtain ⟨b, off, spot⟩ := x
    have h1 := hc 0 (by omega)
    have hspot : spot = none := by simpa [Addr.add] using World.cell?_spot h1
    subst hspot
    have hadd : ∀ i, (⟨b, off, none⟩ : Addr).add i = ⟨b, off + i, none⟩ := fun i => by unfold Addr.add; split <;> simp_all
    refine ⟨b, off, rfl, World.block_lt_of_cell? w _ h1, fun i hi => ?_⟩
    have h2 := hc i (by omega)
    rw [hadd] at h2
    have h3 := hw (zs.getD i 0) (by rw [List.getD_eq_getElem?_getD, List.getElem?_eq_getElem (by omega)]; exact List.getElem_mem _)
    have h4 : 0 ≤ zs.getD i 0 ∧ zs.getD i 0 ≤ 255 := by simpa [Lit.wf, IntKind.min, IntKind.max, IntKind.signed, IntKind.bits] using h3
    exact ⟨_, h2, h4.1, h4.2⟩
def Top1 (Q : Int → Prop) (w : World) (e : Ending) (w' : World) : Prop := ∃ u : Int, e = .returned (.int .i64 u) ∧ Q u ∧ Below w.heap.size w w'
def Top2 (Q : Int → Int → Prop) (w : World) (e : Ending) (w' : World) : Prop := ∃ u v : Int, e = .returned (.tuple #[.int .i64 u, .int .i64 v]) ∧ Q u v ∧ Below w.heap.size w w'
def Top3 (Q : Int → Int → Int → Prop) (w : World) (e : Ending) (w' : World) : Prop := ∃ u v x : Int, e = .returned (.tuple #[.int .i64 u, .int .i64 v, .int .i64 x]) ∧ Q u v x ∧ Below w.heap.size w w'
def Top4 (Q : Int → Int → Int → Int → Prop) (w : World) (e : Ending) (w' : World) : Prop := ∃ u v x y : Int, e = .returned (.tuple #[.int .i64 u, .int .i64 v, .int .i64 x, .int .i64 y]) ∧ Q u v x y ∧ Below w.heap.size w w'
theorem top_below {w w1 w2 : World} {R : Nat} (hb : Below w.heap.size w w1) (hRB : w.heap.size ≤ R) (hg : w1.grownBy w2 (some R)) : Below w.heap.size w w2 :=
  hb.grown hg hb.size (by rintro k ⟨⟩; exact hRB)
theorem DrawLowestOne_any (a : Option Addr) (len cap : Nat) (w : World) (h : Code8 w a len cap) : Calls Tryd.prog 13 #[.slice a len cap] w (Top2 (fun u v => okW u ∧ okX v) w) := by
  go_enter Tryd.func13, Tryd.ntmps13
  go_wp2_with fail
  refine (l20Open_any a len cap w h).mono ?_
  rintro e w1 ⟨R, A, n, c, rfl, hR, hRB, hb⟩
  go_wp2_with fail
  refine (l20One_l R A n c 0 9 (by omega) (by omega) (by omega) w1 hR).mono ?_
  rintro e w2 ⟨u, v, rfl, hq, _, hg⟩
  go_wp2
  go_ret2
  exact ⟨u, v, rfl, hq, top_below hb hRB hg⟩
