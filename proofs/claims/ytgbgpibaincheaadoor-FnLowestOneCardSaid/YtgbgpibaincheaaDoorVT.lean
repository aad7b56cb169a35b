/- What the rows' condition gives: Go's table lies where it was laid; and the heap that the door's own run leaves meets the condition. No other condition. -/
import Derived.Test.YtgbgpibaincheaaDoorRows
import Derived.Test.YtgbgpibaincheaaDoorVL
import Derived.WalkKit
import Derived.ProofKit
import Derived.LaidMore
import Derived.MakeChecks
namespace Go.Proofs.YtgbgpibaincheaaDoor
open Go.ChangeShapes Go.WideShapes Go.ChangeAt Go.WideMaps Go.WideElems Go.RowKit
def laidAll : List (String × DataW Unit) := [("math/bits.deBruijn32tab", Rows.laid_math_bits_deBruijn32tab), ("math/bits.deBruijn64tab", Rows.laid_math_bits_deBruijn64tab)]
theorem g64 : Tryd.prog.globalNamed "math/bits.deBruijn64tab" = some 1 := by kernel_rfl
theorem t64 : (Tryd.prog.globals[1]?).map (·.type) = some 51 := by kernel_rfl
theorem tab_of {W : World} (h : laidMetH Tryd.prog laidAll W) : Tab64 W := by
  rw [MakeChecks.laidMetH_plain _ _ _ (by kernel_rfl)] at h
  obtain ⟨ps, ⟨g0, t0, cs0, f0, p0, q0, hg0, ht0, hv0, hd0, ⟨g1, t1, cs1, f1, p1, q1, hg1, ht1, hv1, hd1, _, _⟩, _⟩, _, _⟩ := h
  obtain rfl := Option.some.inj (g64.symm.trans hg1)
  obtain rfl := Option.some.inj (t64.symm.trans ht1)
  have hcs : cs1.toList = dbL.map fun z => Value.int .u8 z := Lib.cells_of_tab (n := 64) (k := .u8) (zs := dbL) Tryd.underlying51 Tryd.underlying5 (by kernel_rfl) (by kernel_rfl) hd1
  have hcell : ∀ i : Nat, W.cell? ⟨1, i, none⟩ = cs1[i]? := fun i => by have := World.var?_cell hg1 hv1 i; simpa using this
  have hget : ∀ i : Nat, i < 64 → cs1[i]? = some (.int .u8 (dbL.getD i 0)) := fun i hi => by
    rw [← Array.getElem?_toList, hcs, List.getElem?_map, List.getElem?_eq_getElem (by rw [dbL_len]; exact hi), List.getD_eq_getElem?_getD, List.getElem?_eq_getElem (by rw [dbL_len]; exact hi)]; rfl
  refine ⟨?_, fun i hi => by rw [hcell i, hget i hi]⟩
  rcases Nat.lt_or_ge 1 W.heap.size with h | h
  · exact h
  · have h0 := hcell 0
    rw [hget 0 (by omega)] at h0
    simp [World.cell?, Array.getElem?_eq_none h] at h0
theorem door_met (os : Os) (args : Array Value) : laidMetH Tryd.prog laidAll ((World.doorLaid Tryd.prog 400 os).forCall (fun _ _ => 0) ⟨#[], args, []⟩).memory :=
  laidMetH_of_parts3 (fuel := 8) (laidMet_of_run' 8 (by kernel_rfl) (by kernel_rfl)) (by kernel_rfl) (by kernel_rfl)
end Go.Proofs.YtgbgpibaincheaaDoor
