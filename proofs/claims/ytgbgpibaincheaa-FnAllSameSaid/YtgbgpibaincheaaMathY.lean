/- Plain laws of powers of two above words (chapter 5), by the finite check over 12 bits. -/
import Derived.Test.YtgbgpibaincheaaMathO
import Derived.Test.YtgbgpibaincheaaMathZ
namespace Go.Proofs.Ytgbgpibaincheaa
theorem pl_chk : chk (fun x => paZ x == 4096 || (decide ((x : Int) ≤ paZ x) && (paZ x == 1 || decide (paZ x / 2 < (x : Int))) && popZ (paZ x) == 1 && paZ (paZ x) == paZ x)) 12 0 = true := by decide +kernel
theorem pa_law (x : Int) (h0 : 0 ≤ x) (h : x < 4096) (g : paZ x < 4096) : x ≤ paZ x ∧ (paZ x = 1 ∨ paZ x / 2 < x) ∧ popZ (paZ x) = 1 ∧ paZ (paZ x) = paZ x := by
  obtain ⟨n, rfl⟩ := Int.eq_ofNat_of_zero_le h0
  have hc := chk_sound _ 12 0 pl_chk n (by omega) (by omega)
  simp only [Bool.or_eq_true, Bool.and_eq_true, beq_iff_eq, decide_eq_true_eq] at hc
  rcases hc with hc | ⟨⟨⟨h1, h2⟩, h3⟩, h4⟩
  · omega
  · exact ⟨h1, h2, h3, h4⟩
end Go.Proofs.Ytgbgpibaincheaa
