/- Two facts of the program that every row asks for. -/
import Derived.Test.YtehniaekfijmiaaEnv
namespace Go.Proofs.Ytehniaekfijmiaa
open Go.Sim Go.ChangeShapes Go.WideShapes Go.ChangeAt Go.RowKit
theorem own : ownKnob Try.prog.godebug = none := by kernel_rfl
theorem laidOut : laidOutB Try.prog = true := by kernel_rfl
theorem i64_le {n : Int} (h : (Lit.int .i64 n).wf = true) : n ≤ 9223372036854775807 := by
  simp [Lit.wf] at h
  exact h.2
theorem i64_ge {n : Int} (h : (Lit.int .i64 n).wf = true) : -9223372036854775808 ≤ n := by
  simp [Lit.wf] at h
  exact h.1
theorem rows_map {α : Type} {g : α → List Tr} {Q : α → Prop} : ∀ {rows : List (List Tr)}, (∀ r ∈ rows, ∃ m, r = g m ∧ Q m) → ∃ ns : List α, rows = ns.map g ∧ ∀ m ∈ ns, Q m
  | [], _ => ⟨[], rfl, fun _ h => by cases h⟩
  | r :: rows, h => by
    obtain ⟨m, rfl, hm⟩ := h r (by simp)
    obtain ⟨ns, rfl, hns⟩ := rows_map (rows := rows) fun r hr => h r (by simp [hr])
    exact ⟨m :: ns, rfl, fun x hx => by
      rcases List.mem_cons.1 hx with rfl | hx
      · exact hm
      · exact hns x hx⟩
end Go.Proofs.Ytehniaekfijmiaa
