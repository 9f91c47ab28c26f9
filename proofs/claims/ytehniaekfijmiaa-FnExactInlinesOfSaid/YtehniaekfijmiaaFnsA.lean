import Derived.Test.YtehniaekfijmiaaEnv
namespace Go.Proofs.Ytehniaekfijmiaa
open Go.Sim
abbrev tvI (n : Int) : TV := .c (.int .i64 n)
abbrev tvS (n : List UInt8) : TV := .c (.str n)
abbrev rI (n : Int) : Res := .r (.c (.t (.int .i64 n)))
abbrev rB (b : Bool) : Res := .r (.c (.t (.bool b)))
abbrev rS (b : List UInt8) : Res := .r (.c (.t (.str b)))
def within (n lo hi : Int) : Bool := decide (lo ≤ n) && decide (n ≤ hi)
theorem within_iff {n lo hi : Int} : within n lo hi = true ↔ lo ≤ n ∧ n ≤ hi := by simp [within]
set_option maxRecDepth 100000
theorem s_impl_between (n lo hi : Int) : Sim.Spec Try.prog 76 [tvI n, tvI lo, tvI hi] (rB (within n lo hi)) := by
  refine spec_of_W hΓ hmix Try.func76 rfl (by decide) rfl ?_
  repeat' ((conv => whnf); first | refine Or.inl ?_ | refine And.intro (Obl.out (?_ : Obl _)) ?_ | refine ifB_intro (fun h => ?_) (fun h => ?_) | refine Exists.intro _ (And.intro rfl ?_) | ((with_reducible show _ = _); rfl))
  all_goals try ((with_reducible refine Obl.mk ?_); first | ((with_reducible show regOk _ _ = true); kernel_rfl) | ((with_reducible show eqTyOk _ _ = true); kernel_rfl) | rfl | exact trivial | ((repeat' (first | exact trivial | refine And.intro ?_ ?_)); done) | decide | ((repeat' (first | exact List.forall_mem_nil _ | refine List.forall_mem_cons.2 (And.intro rfl ?_))); done) | (refine And.intro ?_ ?_ <;> simp only [List.length_map, List.length_append, List.length_cons, List.length_nil] <;> omega))
  all_goals refine ⟨?_⟩
  all_goals simp_all [within]
  all_goals omega
theorem s_spec_l01In (n lo hi : Int) : Sim.Spec Try.prog 69 [tvI n, tvI lo, tvI hi] (rB (within n lo hi)) := by
  refine spec_of_W hΓ hmix Try.func69 rfl (by decide) rfl ?_
  repeat' ((conv => whnf); first | refine Or.inl ?_ | refine And.intro (Obl.out (?_ : Obl _)) ?_ | refine ifB_intro (fun h => ?_) (fun h => ?_) | refine Exists.intro _ (And.intro rfl ?_) | ((with_reducible show _ = _); rfl))
  all_goals try ((with_reducible refine Obl.mk ?_); first | ((with_reducible show regOk _ _ = true); kernel_rfl) | ((with_reducible show eqTyOk _ _ = true); kernel_rfl) | rfl | exact trivial | ((repeat' (first | exact trivial | refine And.intro ?_ ?_)); done) | decide | ((repeat' (first | exact List.forall_mem_nil _ | refine List.forall_mem_cons.2 (And.intro rfl ?_))); done) | (refine And.intro ?_ ?_ <;> simp only [List.length_map, List.length_append, List.length_cons, List.length_nil] <;> omega))
  all_goals refine ⟨?_⟩
  all_goals simp_all [within]
  all_goals omega
end Go.Proofs.Ytehniaekfijmiaa
