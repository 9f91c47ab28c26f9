/- The contracts of UnpackText in both texts. -/
import Derived.Test.YtnadkeiidbgmjaaFnsC
namespace Go.Proofs.Ytnadkeiidbgmjaa
open Go.Sim
set_option maxRecDepth 100000
theorem decL_some {s : List UInt8} {p : Nat} : ∀ (f k n : Nat) {a b : Nat}, decL s p f k n = some (a, b) → k < b ∧ b ≤ k + f ∧ p + b ≤ s.length ∧ a ≤ 1099511627775
  | 0, _, _, _, _, h => by simp [decL] at h
  | f + 1, k, n, a, b, h => by
    rw [decL] at h
    split at h
    · cases h
    · rename_i c hc
      have hlt : p + k < s.length := by
        rcases Nat.lt_or_ge (p + k) s.length with h' | h'
        · exact h'
        · rw [List.getElem?_eq_none h'] at hc; cases hc
      simp only at h
      split at h
      · have := decL_some f (k + 1) _ h
        omega
      · split at h
        · rename_i he
          simp only [Option.some.injEq, Prod.mk.injEq] at h
          obtain ⟨rfl, rfl⟩ := h
          refine ⟨by omega, by omega, by omega, ?_⟩
          have hl := congrArg List.length he
          simp only [List.length_take, List.length_drop] at hl
          rw [enc] at hl
          split at hl
          · rename_i hw
            have := within_iff.1 hw
            omega
          · simp at hl; omega
        · cases h
theorem dec_some {s : List UInt8} {p : Int} {a b : Nat} (h : dec s p = some (a, b)) : 0 ≤ p ∧ 0 < b ∧ b ≤ 6 ∧ p.toNat + b ≤ s.length ∧ a ≤ 1099511627775 := by
  rw [dec] at h
  split at h
  · cases h
  · have := decL_some 6 0 0 h
    omega
end Go.Proofs.Ytnadkeiidbgmjaa
