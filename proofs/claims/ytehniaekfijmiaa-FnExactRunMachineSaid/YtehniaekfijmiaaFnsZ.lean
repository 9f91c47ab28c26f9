/- NewMachine in both texts. -/
import Derived.Test.YtehniaekfijmiaaFnsY
namespace Go.Proofs.Ytehniaekfijmiaa
open Go.Sim
set_option maxRecDepth 100000
set_option maxHeartbeats 4000000
theorem spaceOk_inv {s : TSpace} (h : spaceOk s = true) : ∃ i0 i1 b0 b1, s = ⟨[i0, i1], [b0, b1], s.fEntries⟩ ∧ (1 ≤ s.fEntries.length ∧ s.fEntries.length ≤ 6) ∧ (imageOk i0 = true ∧ 1 ≤ b0 ∧ b0 ≤ 1000000) ∧ (imageOk i1 = true ∧ 1 ≤ b1 ∧ b1 ≤ 1000000) ∧ overlap i0 i1 b0 b1 = false ∧ ∀ e ∈ s.fEntries, (entryIn i0 b0 e || entryIn i1 b1 e) = true := by
  rcases space_shape (s := s) with ⟨i0, i1, b0, b1, hs⟩ | ⟨h', _⟩
  · refine ⟨i0, i1, b0, b1, hs, ?_⟩
    rw [hs, spaceOk] at h
    dsimp only at h
    rw [spaceOk2, Bool.and_eq_true, Bool.and_eq_true, Bool.and_eq_true, Bool.and_eq_true, Bool.and_eq_true, Bool.and_eq_true, within_iff, within_iff, within_iff, List.all_eq_true, Bool.not_eq_true'] at h
    obtain ⟨h1, h2, h3, h4, h5, h6, h7⟩ := h
    exact ⟨by omega, ⟨h2, h3⟩, ⟨h4, h5⟩, h6, h7⟩
  · rw [h'] at h; cases h
end Go.Proofs.Ytehniaekfijmiaa
