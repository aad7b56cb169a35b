/- Slices of Go's int that the call itself has made: what they hold, and three small functions of the laws over them. No condition but what is written at each. -/
import Derived.Test.YthbpcgefcnpfmaaW1
namespace Go.Proofs.Ythbpcgefcnpfmaa
open Go.RowKit
theorem info_int : (Try.prog.info? 3).map (fun i => (i.zero, i.size, i.bytes)) = some (some (.int .i64 0), 1, 8) := by kernel_rfl
/-- the slice holds the numbers L, in a row that the call has made, in a block from B on -/
def Owns (w : World) (B : Nat) (A : Option Addr) (c : Nat) (L : List Int) : Prop :=
  w.ownsRow B 3 1 (.slice A L.length c) L.length (L.map (Value.int .i64))
/-- the length of a slice -/
def slLen : Value → Nat
  | .slice _ n _ => n
  | _ => 0
theorem own_shape {w : World} {B e n : Nat} {v : Value} {xs : List Value} (h : w.ownsRow B e 1 v n xs) : ∃ A c, v = .slice A n c := by
  rcases h.2 with ⟨rfl, rfl⟩ | ⟨g, cap, cur, rfl, _⟩
  · exact ⟨_, _, rfl⟩
  · exact ⟨_, _, rfl⟩
theorem own_len {w : World} {B e n : Nat} {v : Value} {L : List Int} (h : w.ownsRow B e 1 v n (L.map (Value.int .i64))) : n = L.length := by
  have := h.1; simp at this; omega
theorem Owns.max {w : World} {B c : Nat} {A : Option Addr} {L : List Int} (h : Owns w B A c L) : L.length ≤ 9223372036854775807 := by
  rcases h.2 with ⟨_, h0⟩ | ⟨g, cap, cur, _, _, _, h1, h2, _⟩
  · omega
  · unfold maxLen at h2; omega
theorem Owns.some_ {w : World} {B c k : Nat} {A : Option Addr} {L : List Int} (h : Owns w B A c L) (hk : k < L.length) :
    ∃ g, A = some ⟨g, 0, none⟩ ∧ B ≤ g ∧ g < w.heap.size ∧ (∀ j (hj : j < L.length), w.cell? ⟨g, j, none⟩ = some (.int .i64 L[j])) ∧ ∀ j, w.frozen? ⟨g, j, none⟩ = false := by
  rcases h.2 with ⟨_, h0⟩ | ⟨g, cap, cur, hv, hB, hg, h1, h2, h3, h4⟩
  · omega
  · simp only [Value.slice.injEq] at hv
    obtain ⟨rfl, _, rfl⟩ := hv
    refine ⟨g, rfl, hB, (Array.getElem?_eq_some_iff.1 hg).1, fun j hj => ?_, fun j => h.frozenAt j⟩
    rw [h.cellAt j (by omega), List.getElem?_map, List.getElem?_eq_getElem hj]; rfl
theorem Owns.keep {w w' : World} {B c : Nat} {A : Option Addr} {L : List Int} (h : Owns w B A c L) (hk : ∀ g, g < w.heap.size → w'.heap[g]? = w.heap[g]?) : Owns w' B A c L := by
  refine ⟨h.1, ?_⟩
  rcases h.2 with h' | ⟨g, cap, cur, hv, hB, hg, rest⟩
  · exact .inl h'
  · exact .inr ⟨g, cap, cur, hv, hB, (hk g (Array.getElem?_eq_some_iff.1 hg).1).trans hg, rest⟩
theorem Owns.below {w w' : World} {B B' c : Nat} {A : Option Addr} {L : List Int} (h : Owns w B A c L) (hb : Below B' w w') (hB : w.heap.size ≤ B') : Owns w' B A c L :=
  h.keep fun g hg => hb.block g (by omega)
theorem Owns.drewN {w : World} {B c n : Nat} {A : Option Addr} {L : List Int} (h : Owns w B A c L) : Owns (w.drewN n) B A c L := h
theorem app_below {w0 wr w1 : World} {B e n n' : Nat} {v v' : Value} {xs xs' : List Value} {o : Obj} (hb : Below B w0 wr) (hB : B ≤ wr.heap.size) (hown : wr.ownsRow B e 1 v n xs)
    (_ : w1.ownsRow B e 1 v' n' xs') (hg : (wr.alloc o).grownBy w1 v.ownBlock) : Below B w0 w1 :=
  (hb.alloc hB o).grown hg (by simp; omega) (fun k hk => (hown.lt k hk).1)
/-- a returned list -/
def RetL (B : Nat) (L : List Int) (w : World) (e : Ending) (w' : World) : Prop := ∃ A c, e = .returned (.slice A L.length c) ∧ Owns w' B A c L ∧ Below B w w'
end Go.Proofs.Ythbpcgefcnpfmaa
