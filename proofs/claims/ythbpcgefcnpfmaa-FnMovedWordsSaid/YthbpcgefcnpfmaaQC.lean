/- A region that draws its order, whose callees may make memory above what was there: walked once, in the order of the text. No condition but what is written at each. -/
import Derived.Test.YthbpcgefcnpfmaaW2
import Derived.BigQuiet
namespace Go.Proofs.Ythbpcgefcnpfmaa
open Go.RowKit
/-- a world in which what was there in w0 is as it was -/
def BW (w0 : World) : Type := { x : World // Below w0.heap.size w0 x }
def BW.w {w0 : World} (n : BW w0) : World := n.1
instance (w0 : World) : Nonempty (BW w0) := ⟨⟨w0, Below.refl _ _⟩⟩
theorem BW.below {w0 : World} (n : BW w0) : Below w0.heap.size w0 n.w := n.2
theorem BW.step {w0 : World} {n : BW w0} {w' : World} (h : Below n.w.heap.size n.w w') : ∃ m : BW w0, w' = m.w :=
  ⟨⟨w', n.2.trans (h.mono n.2.size)⟩, rfl⟩
theorem BW.drewN {w0 : World} {n : BW w0} {w' : World} (h : ∃ j, w' = n.w.drewN j) : ∃ m : BW w0, w' = m.w := by
  obtain ⟨j, rfl⟩ := h
  exact BW.step (below_drewN (Below.refl _ _) j)
theorem BW.same {w0 : World} {n : BW w0} {w' : World} (h : n.w = w') : ∃ m : BW w0, w' = m.w := ⟨n, h.symm⟩
theorem wp_region_below {P : Program} {id : Nat} {Q : Exit → Act → World → Prop} {a : Act} {w : World} {l : List Oper} (hm : P.follows .mixedOrders = true) (hB : Region.lexB .any l.toArray = true)
    (h : wpQuiet P l.toArray (fun w' => ∃ n : BW w, w' = n.w) (fun a' => ∀ w', (∃ n : BW w, w' = n.w) → Q .normal a' w') l a) : (Code.region id l.toArray true).wp P Q a w :=
  wp_region_quiet (C := fun w' => ∃ n : BW w, w' = n.w) hm hB ⟨⟨_, (Below.refl _ _).drew⟩, rfl⟩ (by simpa using h)
theorem calls_alive {w0 : World} (n : BW w0) {f : FuncId} {P : Program} {args : Array Value} {v : Value} (h : Calls P f args n.w fun e w' => e = .returned v ∧ Below n.w.heap.size n.w w') :
    Calls P f args n.w fun e w' => e = .returned v ∧ ∃ m : BW w0, w' = m.w := h.mono fun _ _ h => ⟨h.1, BW.step h.2⟩
theorem calls_drew {w0 : World} (n : BW w0) {f : FuncId} {P : Program} {args : Array Value} {v : Value} (h : Calls P f args n.w fun e w' => e = .returned v ∧ ∃ j, w' = n.w.drewN j) :
    Calls P f args n.w fun e w' => e = .returned v ∧ ∃ m : BW w0, w' = m.w := h.mono fun _ _ h => ⟨h.1, BW.drewN h.2⟩
theorem calls_same {w0 : World} (n : BW w0) {f : FuncId} {P : Program} {args : Array Value} {v : Value} (h : Calls P f args n.w fun e w' => e = .returned v ∧ n.w = w') :
    Calls P f args n.w fun e w' => e = .returned v ∧ ∃ m : BW w0, w' = m.w := h.mono fun _ _ h => ⟨h.1, BW.same h.2⟩
end Go.Proofs.Ythbpcgefcnpfmaa
