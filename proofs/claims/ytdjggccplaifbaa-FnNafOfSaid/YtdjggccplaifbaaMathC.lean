/- A finite check of the digits of which no two side by side are other than 0 (chapter 4). Conditions: the bounds that are written. -/
import Derived.Test.YtdjggccplaifbaaMathN
namespace Go.Proofs.Ytdjggccplaifbaa
theorem naf_chk : chk (fun n => decide (nmZ n ≤ oneZ n 12) && ((nmZ n == 0) == ((n : Int) == 0))) 12 0 = true := by decide +kernel
theorem naf_many (n : Int) (h0 : 0 ≤ n) (h : n ≤ 4095) : nmZ n ≤ oneZ n 12 ∧ (nmZ n = 0 ↔ n = 0) ∧ 0 ≤ nmZ n := by
  obtain ⟨m, rfl⟩ := Int.eq_ofNat_of_zero_le h0
  have hc := chk_sound _ 12 0 naf_chk m (by omega) (by omega)
  simp only [Bool.and_eq_true, decide_eq_true_eq, beq_iff_eq] at hc
  refine ⟨hc.1, ?_, (nzN_bd _).1⟩
  have h2 := hc.2
  constructor
  · intro g; rw [g] at h2; simpa using h2.symm
  · intro g
    obtain rfl : m = 0 := by omega
    rfl
end Go.Proofs.Ytdjggccplaifbaa
