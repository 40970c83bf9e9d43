/-
  Ymbrcp: sums of the records' sizes.
-/
import Derived.Test.YmbrcpSizes
namespace Go.Proofs.Ymbrcp
set_option linter.unusedVariables false

/-- The sum of the sizes, a failing one counting nothing. -/
def rsum (L : Nat → Nat) : Nat → Int
  | 0 => 0
  | k + 1 => rsum L k + rsize (L k)
/-- None has failed. -/
def allB (L : Nat → Nat) : Nat → Bool
  | 0 => true
  | k + 1 => allB L k && rok (L k)
theorem rsize_bd (n : Nat) : 0 ≤ rsize n ∧ rsize n ≤ 65539 := by
  unfold rsize
  have := wire_ge n
  split <;> omega
theorem rsum_bd (L : Nat → Nat) (k : Nat) : 0 ≤ rsum L k ∧ rsum L k ≤ 65539 * k := by
  induction k with
  | zero => simp [rsum]
  | succ k ih => have := rsize_bd (L k); simp only [rsum]; omega
theorem all_iff (L : Nat → Nat) (k : Nat) : (allB L k = true → (∀ i, i < k → L i ≤ 65535) ∧ rsum L k = sumTo L k) ∧ (allB L k = false → ∃ i, i < k ∧ 65535 < L i) := by
  induction k with
  | zero => simp [allB, rsum, sumTo]
  | succ k ih =>
    constructor
    · intro h
      simp only [allB, Bool.and_eq_true, rok, decide_eq_true_eq] at h
      obtain ⟨h1, h2⟩ := h
      obtain ⟨g1, g2⟩ := ih.1 h1
      refine ⟨fun i hi => ?_, ?_⟩
      · by_cases e : i = k
        · rw [e]; exact h2
        · exact g1 i (by omega)
      · simp only [rsum, sumTo, g2, rsize, show ¬ 65535 < L k by omega, if_false]
        omega
    · intro h
      simp only [allB] at h
      cases h1 : allB L k with
      | false =>
        obtain ⟨i, hi, hl⟩ := ih.2 h1
        exact ⟨i, by omega, hl⟩
      | true =>
        rw [h1] at h
        simp [rok] at h
        exact ⟨k, by omega, h⟩

end Go.Proofs.Ymbrcp
