/- RowsOf, ViewOf in both texts. -/
import Derived.Test.YtehniaekfijmiaaFnsJ
import Derived.Test.YtehniaekfijmiaaMkA
namespace Go.Proofs.Ytehniaekfijmiaa
open Go.Sim
set_option maxRecDepth 100000
set_option maxHeartbeats 4000000
theorem smallRs_of {α : Type} {g : α → List Tr} {L : Int} : ∀ {l : List α}, (∀ x ∈ l, smallR L (g x)) → smallRs L (l.map g)
  | [], _ => by rw [List.map_nil, smallRs]; trivial
  | x :: l, h => by
    rw [List.map_cons, smallRs]
    exact ⟨h x (by simp), smallRs_of fun y hy => h y (by simp [hy])⟩
theorem small_map {α : Type} {g : α → List Tr} {l : List α} {sz : Nat} (hl : l.length ≤ 1048576) (h : ∀ x ∈ l, smallR 1048576 (g x)) : smallT 1048576 (.lst sz (l.map g)) := by
  rw [smallT]
  exact ⟨by simp; omega, smallRs_of h⟩
end Go.Proofs.Ytehniaekfijmiaa
