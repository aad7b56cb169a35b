/- Contracts of the laws' own functions over slices of Go's int: equal lists, marks. Conditions: that both slices hold the same list, or the marks. -/
import Derived.Test.YtgbgpibaincheaaOwn
namespace Go.Proofs.Ytgbgpibaincheaa
open Go.RowKit
theorem eqIntS_same (L : List Int) (A A' : Option Addr) (B B' c c' : Nat) (w : World) (h : Owns w B A c L) (h' : Owns w B' A' c' L) :
    Calls Try.prog 32 #[.slice A L.length c, .slice A' L.length c'] w fun e w' => e = .returned (.bool true) ∧ ∃ n, w' = w.drewN n := by
  have hmx := h.max
  go_enter Try.func32, Try.ntmps32
  go_wp2
  go_loopw [5] (fun i wr => ∃ n k : Nat, k ≤ L.length ∧ i = .int .i64 k ∧ wr = w.drewN n) (fun i _ => L.length - (intOf i).toNat)
  case atStart => exact ⟨0, 0, by omega, rfl, rfl⟩
  case round =>
    obtain ⟨n, k, hk, rfl, rfl⟩ := hrel
    by_cases hlt : k < L.length
    · obtain ⟨g, rfl, _, _, hc, _⟩ := h.some_ hlt
      obtain ⟨g', rfl, _, _, hc', _⟩ := h'.some_ hlt
      have hck := hc k hlt
      have hck' := hc' k hlt
      clear hc hc'
      have hlt' : (k : Int) < L.length := by omega
      have hk0 : (0 : Int) ≤ k := by omega
      go_wp2
      go_quiet (fail)
      go_wp2
      go_roundw
      case rel => exact ⟨_, k + 1, by omega, by go_num, rfl⟩
      case measure => simp [intOf]; omega
    · go_wp2
      go_ret
      exact ⟨rfl, _, rfl⟩
theorem sameInts_same (L : List Int) (A A' : Option Addr) (B B' c c' : Nat) (w : World) (h : Owns w B A c L) (h' : Owns w B' A' c' L) :
    Calls Try.prog 67 #[.slice A L.length c, .slice A' L.length c'] w fun e w' => e = .returned (.bool true) ∧ ∃ n, w' = w.drewN n := by
  have hmx := h.max
  go_enter Try.func67, Try.ntmps67
  go_wp2
  go_loopw [5] (fun i wr => ∃ n k : Nat, k ≤ L.length ∧ i = .int .i64 k ∧ wr = w.drewN n) (fun i _ => L.length - (intOf i).toNat)
  case atStart => exact ⟨0, 0, by omega, rfl, rfl⟩
  case round =>
    obtain ⟨n, k, hk, rfl, rfl⟩ := hrel
    by_cases hlt : k < L.length
    · obtain ⟨g, rfl, _, _, hc, _⟩ := h.some_ hlt
      obtain ⟨g', rfl, _, _, hc', _⟩ := h'.some_ hlt
      have hck := hc k hlt
      have hck' := hc' k hlt
      clear hc hc'
      have hlt' : (k : Int) < L.length := by omega
      have hk0 : (0 : Int) ≤ k := by omega
      go_wp2
      go_quiet (fail)
      go_wp2
      go_roundw
      case rel => exact ⟨_, k + 1, by omega, by go_num, rfl⟩
      case measure => simp [intOf]; omega
    · go_wp2
      go_ret
      exact ⟨rfl, _, rfl⟩
/-- the marks 1, 2, .. -/
def marks (n : Nat) : List Int := (List.range n).map fun t : Nat => 1 + (t : Int)
def marked (L : List Int) (k : Nat) : List Int := marks k ++ L.drop k
theorem marks_length (n : Nat) : (marks n).length = n := by simp [marks]
theorem marked_length (L : List Int) (k : Nat) (h : k ≤ L.length) : (marked L k).length = L.length := by simp [marked, marks_length]; omega
theorem marked_set (L : List Int) (k : Nat) (h : k < L.length) : (marked L k).set k (1 + (k : Int)) = marked L (k + 1) := by
  unfold marked
  rw [List.set_append_right _ _ (by rw [marks_length]; omega), marks_length, Nat.sub_self]
  rw [List.drop_eq_getElem_cons h, List.set_cons_zero]
  simp [marks, List.range_succ]
theorem marked_all (L : List Int) : marked L L.length = marks L.length := by simp [marked]
theorem marks_get (n k : Nat) (h : k < (marks n).length) : (marks n)[k] = 1 + (k : Int) := by simp [marks]
theorem Owns.put {w : World} {B c k : Nat} {g : Nat} {L : List Int} (h : Owns w B (some ⟨g, 0, none⟩) c L) (u : Int) (M : List Int) (hM : L.set k u = M) :
    Owns (w.setCell ⟨g, k, none⟩ (.int .i64 u)) B (some ⟨g, 0, none⟩) c M := by
  have h1 := (h.stored k (.int .i64 u)).1
  subst hM
  unfold Owns
  rw [List.length_set, List.map_set]
  exact h1
theorem markIntS_any (L : List Int) (A : Option Addr) (B c : Nat) (w : World) (h : Owns w B A c L) (hmx : L.length ≤ 1000000) :
    Calls Try.prog 33 #[.slice A L.length c, .int .i64 1] w fun e w' => e = .returned (.int .i64 (1 + L.length)) ∧ Owns w' B A c (marks L.length) ∧ Below B w w' := by
  go_enter Try.func33, Try.ntmps33
  go_wp2
  go_loopw [5, 1] (fun i m wr => ∃ k : Nat, k ≤ L.length ∧ i = .int .i64 k ∧ m = .int .i64 (1 + (k : Int)) ∧ Owns wr B A c (marked L k) ∧ Below B w wr) (fun i _ _ => L.length - (intOf i).toNat)
  case atStart => exact ⟨0, by omega, rfl, rfl, h, Below.refl _ _⟩
  case round =>
    obtain ⟨k, hk, rfl, rfl, hown, hbel⟩ := hrel
    by_cases hlt : k < L.length
    · have hl := marked_length L k hk
      obtain ⟨g, rfl, hBg, _, hc, hfr⟩ := hown.some_ (k := k) (by omega)
      obtain ⟨y, hck⟩ : ∃ y, wr.cell? ⟨g, k, none⟩ = some (.int .i64 y) := ⟨_, hc k (by omega)⟩
      have hfk := hfr k
      have HP := hd (Owns.put hown (1 + (k : Int)) _ (marked_set L k hlt))
      have HB := hd (hbel.setCell (p := ⟨g, k, none⟩) hBg (.int .i64 (1 + (k : Int))))
      clear hc hfr hown hbel h hl
      go_wp2
      go_roundw
      case rel => exact ⟨k + 1, by omega, by go_num, by go_num, HP.out, HB.out⟩
      case measure => simp [intOf]; omega
    · go_wp2
      go_ret
      obtain rfl : k = L.length := by omega
      rw [marked_all] at hown
      exact ⟨rfl, hown, hbel⟩
theorem heldIntS_any (n : Nat) (A : Option Addr) (B c : Nat) (w : World) (h : Owns w B A c (marks n)) (hmx : n ≤ 1000000) :
    Calls Try.prog 34 #[.slice A n c, .int .i64 1] w fun e w' => e = .returned (.int .i64 (1 + n)) ∧ w = w' := by
  go_enter Try.func34, Try.ntmps34
  go_wp2
  go_loop [5, 1] (fun i m => ∃ k : Nat, k ≤ n ∧ i = .int .i64 k ∧ m = .int .i64 (1 + (k : Int))) (fun i _ => n - (intOf i).toNat)
  case atStart => exact ⟨0, by omega, rfl, rfl⟩
  case round =>
    obtain ⟨k, hk, rfl, rfl⟩ := hrel
    by_cases hlt : k < n
    · obtain ⟨g, rfl, _, _, hc, _⟩ := h.some_ (k := k) (by rw [marks_length]; omega)
      have hck := hc k (by rw [marks_length]; omega)
      rw [marks_get] at hck
      clear hc
      go_wp2
      go_round
      case rel => exact ⟨k + 1, by omega, by go_num, by go_num⟩
      case measure => simp [intOf]; omega
    · go_wp2
      go_ret
      obtain rfl : k = n := by omega
      exact ⟨rfl, rfl⟩
end Go.Proofs.Ytgbgpibaincheaa
