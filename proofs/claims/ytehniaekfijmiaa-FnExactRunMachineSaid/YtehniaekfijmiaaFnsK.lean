/- Views, machines and names: the contracts in both texts. -/
import Derived.Test.YtehniaekfijmiaaFnsJ
namespace Go.Proofs.Ytehniaekfijmiaa
open Go.Sim
set_option maxRecDepth 100000
set_option maxHeartbeats 4000000
def machineOk (m : TMachine) : Bool := (m.fStack.length == 1200) && within m.fSp 0 1200 && within m.fState 0 2
theorem s_impl_MachineOk (m : TMachine) : Sim.Spec Try.prog 75 [.agg m.tr] (rB (machineOk m)) := by
  refine spec_of_W hΓ hmix Try.func75 rfl (by decide) rfl ?_
  have hlen : (m.fStack.map intRow).length = m.fStack.length := by simp
  unfold machineOk
  repeat' ((conv => whnf); first | refine Or.inl ?_ | refine And.intro (Obl.out (?_ : Obl _)) ?_ | refine ifB_intro (fun h => ?_) (fun h => ?_) | refine call_intro (s_impl_between _ _ _) (And.intro rfl (And.intro rfl (And.intro rfl trivial))) ?_ | refine Exists.intro _ (And.intro rfl ?_) | ((with_reducible show _ = _); rfl))
  all_goals try ((with_reducible refine Obl.mk ?_); first | ((with_reducible show regOk _ _ = true); kernel_rfl) | ((with_reducible show eqTyOk _ _ = true); kernel_rfl) | rfl | exact trivial | ((repeat' (first | exact trivial | refine And.intro ?_ ?_)); done) | decide | ((repeat' (first | exact List.forall_mem_nil _ | refine List.forall_mem_cons.2 (And.intro rfl ?_))); done) | (refine And.intro ?_ ?_ <;> simp only [List.length_map, List.length_append, List.length_cons, List.length_nil] <;> omega))
  all_goals (refine ⟨congrArg Tr.bool ?_⟩; simp_all; try omega)
theorem s_spec_MachineOk (m : TMachine) : Sim.Spec Try.prog 68 [.agg m.tr] (rB (machineOk m)) := by
  refine spec_of_W hΓ hmix Try.func68 rfl (by decide) rfl ?_
  have hlen : (m.fStack.map intRow).length = m.fStack.length := by simp
  unfold machineOk
  repeat' ((conv => whnf); first | refine Or.inl ?_ | refine And.intro (Obl.out (?_ : Obl _)) ?_ | refine ifB_intro (fun h => ?_) (fun h => ?_) | refine call_intro (s_spec_l01In _ _ _) (And.intro rfl (And.intro rfl (And.intro rfl trivial))) ?_ | refine Exists.intro _ (And.intro rfl ?_) | ((with_reducible show _ = _); rfl))
  all_goals try ((with_reducible refine Obl.mk ?_); first | ((with_reducible show regOk _ _ = true); kernel_rfl) | ((with_reducible show eqTyOk _ _ = true); kernel_rfl) | rfl | exact trivial | ((repeat' (first | exact trivial | refine And.intro ?_ ?_)); done) | decide | ((repeat' (first | exact List.forall_mem_nil _ | refine List.forall_mem_cons.2 (And.intro rfl ?_))); done) | (refine And.intro ?_ ?_ <;> simp only [List.length_map, List.length_append, List.length_cons, List.length_nil] <;> omega))
  all_goals (refine ⟨congrArg Tr.bool ?_⟩; simp_all; try omega)
end Go.Proofs.Ytehniaekfijmiaa
