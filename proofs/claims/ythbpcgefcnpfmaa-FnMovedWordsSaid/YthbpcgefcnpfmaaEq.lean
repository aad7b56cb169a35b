/- Contracts of the laws' own functions over slices of Go's int: equal lists, marks. Conditions: that both slices hold the same list, or the marks. -/
import Derived.Test.YthbpcgefcnpfmaaOwn
namespace Go.Proofs.Ythbpcgefcnpfmaa
open Go.RowKit
theorem sameInts_same (L : List Int) (A A' : Option Addr) (B B' c c' : Nat) (w : World) (h : Owns w B A c L) (h' : Owns w B' A' c' L) :
    Calls Try.prog 42 #[.slice A L.length c, .slice A' L.length c'] w fun e w' => e = .returned (.bool true) ∧ ∃ n, w' = w.drewN n := by
  have hmx := h.max
  go_enter Try.func42, Try.ntmps42
  go_wp2
  go_loopw [5] (fun i wr => ∃ n k : Nat, k ≤ L.length ∧ i = .int .i64 k ∧ wr = w.drewN n) (fun i _ => L.length - (intOf i).toNat)
  case atStart => exact ⟨0, 0, by omega, rfl, rfl⟩
  case round =>
    obtain ⟨n, k, hk, rfl, rfl⟩ := hrel
    by_cases hlt : k < L.length
    · obtain ⟨g, rfl, _, _, hc, _⟩ := h.some_ hlt
      obtain ⟨g', rfl, _, _, hc', _⟩ := h'.some_ hlt
      have hck := hc k hlt
      have hck' := hc' k hlt
      clear hc hc'
      have hlt' : (k : Int) < L.length := by omega
      have hk0 : (0 : Int) ≤ k := by omega
      go_wp2
      go_quiet (fail)
      go_wp2
      go_roundw
      case rel => exact ⟨_, k + 1, by omega, by go_num, rfl⟩
      case measure => simp [intOf]; omega
    · go_wp2
      go_ret
      exact ⟨rfl, _, rfl⟩
/-- the marks 1, 2, .. -/
def marks (n : Nat) : List Int := (List.range n).map fun t : Nat => 1 + (t : Int)
def marked (L : List Int) (k : Nat) : List Int := marks k ++ L.drop k
theorem marks_length (n : Nat) : (marks n).length = n := by simp [marks]
theorem marked_length (L : List Int) (k : Nat) (h : k ≤ L.length) : (marked L k).length = L.length := by simp [marked, marks_length]; omega
theorem marked_set (L : List Int) (k : Nat) (h : k < L.length) : (marked L k).set k (1 + (k : Int)) = marked L (k + 1) := by
  unfold marked
  rw [List.set_append_right _ _ (by rw [marks_length]; omega), marks_length, Nat.sub_self]
  rw [List.drop_eq_getElem_cons h, List.set_cons_zero]
  simp [marks, List.range_succ]
theorem marked_all (L : List Int) : marked L L.length = marks L.length := by simp [marked]
theorem marks_get (n k : Nat) (h : k < (marks n).length) : (marks n)[k] = 1 + (k : Int) := by simp [marks]
theorem Owns.put {w : World} {B c k : Nat} {g : Nat} {L : List Int} (h : Owns w B (some ⟨g, 0, none⟩) c L) (u : Int) (M : List Int) (hM : L.set k u = M) :
    Owns (w.setCell ⟨g, k, none⟩ (.int .i64 u)) B (some ⟨g, 0, none⟩) c M := by
  have h1 := (h.stored k (.int .i64 u)).1
  subst hM
  unfold Owns
  rw [List.length_set, List.map_set]
  exact h1
