/- RowsOf, ViewOf in both texts. -/
import Derived.Test.YtflolafbblohnaaFnsK
import Derived.Test.YtflolafbblohnaaMkA
namespace Go.Proofs.Ytflolafbblohnaa
open Go.Sim
set_option maxRecDepth 100000
set_option maxHeartbeats 4000000
theorem s_impl_copyView (v : TView) (hl : v.fWords.length ≤ 1048576) : Sim.Spec Try.prog 229 [.agg v.tr] (.r (.agg (v.tr.map resC))) := by
  refine spec_of_W hΓ hmix Try.func229 rfl (by decide) rfl ?_
  repeat' (
    (conv => whnf)
    first
    | refine Or.inl ?_
    | refine And.intro (Obl.out (?_ : Obl _)) ?_
    | refine ifB_intro (fun h => ?_) (fun h => ?_)
    | refine Exists.intro _ (And.intro rfl ?_)
    | ((with_reducible show _ = _); rfl))
  all_goals try (
    (with_reducible refine Obl.mk ?_)
    first
    | ((with_reducible show regOk _ _ = true); kernel_rfl)
    | ((with_reducible show eqTyOk _ _ = true); kernel_rfl)
    | rfl
    | exact trivial
    | ((repeat' (first | exact trivial | refine And.intro ?_ ?_)); done)
    | decide
    | (intro r hr; simp only [List.mem_cons, List.not_mem_nil, or_false] at hr; first | (subst hr; rfl) | (rcases hr with rfl | rfl <;> rfl) | (rcases hr with rfl | rfl | rfl <;> rfl) | (rcases hr with rfl | rfl | rfl | rfl <;> rfl))
    | (refine And.intro ?_ ?_ <;> simp only [List.length_map, List.length_append, List.length_cons, List.length_nil] <;> omega))
  all_goals try exact ⟨⟨by simp; omega, by simp; omega⟩⟩
  all_goals try exact ⟨⟨rfl, flat_ints _⟩⟩
theorem smallRs_of {α : Type} {g : α → List Tr} {L : Int} : ∀ {l : List α}, (∀ x ∈ l, smallR L (g x)) → smallRs L (l.map g)
  | [], _ => by rw [List.map_nil, smallRs]; trivial
  | x :: l, h => by
    rw [List.map_cons, smallRs]
    exact ⟨h x (by simp), smallRs_of fun y hy => h y (by simp [hy])⟩
theorem small_map {α : Type} {g : α → List Tr} {l : List α} {sz : Nat} (hl : l.length ≤ 1048576) (h : ∀ x ∈ l, smallR 1048576 (g x)) : smallT 1048576 (.lst sz (l.map g)) := by
  rw [smallT]
  exact ⟨by simp; omega, smallRs_of h⟩
theorem small_Ints {l : List Int} (hl : l.length ≤ 1048576) : smallT 1048576 (.lst 1 (l.map intRow)) := small_map hl fun x _ => by simp [intRow, smallR, smallT]
end Go.Proofs.Ytflolafbblohnaa
