/- The law 'FnExactDebugFits': its function answers true; it leaves its arguments as they were. Conditions: none beyond the given statement. -/
import Derived.Test.YtnadkeiidbgmjaaBase
import Derived.Test.YtnadkeiidbgmjaaFnsZc
namespace Go.Proofs.Ytnadkeiidbgmjaa
open Go.Sim Go.ChangeShapes Go.WideShapes Go.ChangeAt Go.RowKit
set_option maxRecDepth 100000
theorem s_laws_FnExactDebugFits (x0 : TImage) (hw0 : x0.wf) (x1 : TDebug) (hw1 : x1.wf) : Sim.Spec Try.prog 10 [.agg x0.tr, .agg x1.tr] (rB true) := by
  refine spec_of_W hΓ hmix Try.func10 rfl (by decide) rfl ?_
  have hsz0 := s_laws_szImage x0 hw0 (1048576) (by omega) (by omega)
  repeat' (
    (conv => whnf)
    first
    | refine Or.inl ?_
    | refine And.intro (Obl.out (?_ : Obl _)) ?_
    | refine ifB_intro (fun h => ?_) (fun h => ?_)
    | refine call_intro (hsz0) (And.intro (And.intro rfl (And.intro rfl trivial)) (And.intro rfl trivial)) ?_
    | refine Exists.intro _ (And.intro rfl ?_)
    | ((with_reducible show _ = _); rfl))
  all_goals try (
    (with_reducible refine Obl.mk ?_)
    first
    | ((with_reducible show regOk _ _ = true); kernel_rfl)
    | ((with_reducible show eqTyOk _ _ = true); kernel_rfl)
    | rfl
    | exact trivial
    | ((repeat' (first | exact trivial | refine And.intro ?_ ?_)); done)
    | decide
    | (intro r hr; simp only [List.mem_cons, List.not_mem_nil, or_false] at hr; first | (subst hr; rfl) | (rcases hr with rfl | rfl <;> rfl) | (rcases hr with rfl | rfl | rfl <;> rfl) | (rcases hr with rfl | rfl | rfl | rfl <;> rfl))
    | (refine And.intro ?_ ?_ <;> simp only [List.length_map, List.length_append, List.length_cons, List.length_nil] <;> omega))
  have hsm0 := szR_small (L := 1048576) _ _ (Int.not_lt.1 (of_decide_eq_false h)) (by omega)
  have hnn0 := Int.not_lt.1 (of_decide_eq_false h)
  clear h
  have hs0 := hsm0.1
  have hsz1 := s_laws_szDebug x1 hw1 (szR x0.tr (1048576)) hnn0 (Int.le_trans hsm0.2 (by omega))
  repeat' (
    (conv => whnf)
    first
    | refine Or.inl ?_
    | refine And.intro (Obl.out (?_ : Obl _)) ?_
    | refine ifB_intro (fun h => ?_) (fun h => ?_)
    | refine call_intro (hsz1) (And.intro (And.intro rfl (And.intro rfl (And.intro rfl (And.intro rfl (And.intro rfl trivial))))) (And.intro rfl trivial)) ?_
    | refine Exists.intro _ (And.intro rfl ?_)
    | ((with_reducible show _ = _); rfl))
  all_goals try (
    (with_reducible refine Obl.mk ?_)
    first
    | ((with_reducible show regOk _ _ = true); kernel_rfl)
    | ((with_reducible show eqTyOk _ _ = true); kernel_rfl)
    | rfl
    | exact trivial
    | ((repeat' (first | exact trivial | refine And.intro ?_ ?_)); done)
    | decide
    | (intro r hr; simp only [List.mem_cons, List.not_mem_nil, or_false] at hr; first | (subst hr; rfl) | (rcases hr with rfl | rfl <;> rfl) | (rcases hr with rfl | rfl | rfl <;> rfl) | (rcases hr with rfl | rfl | rfl | rfl <;> rfl))
    | (refine And.intro ?_ ?_ <;> simp only [List.length_map, List.length_append, List.length_cons, List.length_nil] <;> omega))
  have hsm1 := szR_small (L := 1048576) _ _ (Int.not_lt.1 (of_decide_eq_false h)) (Int.le_trans hsm0.2 (by omega))
  have hnn1 := Int.not_lt.1 (of_decide_eq_false h)
  clear h
  have hs1 := hsm1.1
  have hto0 := s_laws_toImage x0 hs0
  have heq0 := s_laws_eqImage x0 hs0
  have hto1 := s_laws_toDebug x1 hs1
  have heq1 := s_laws_eqDebug x1 hs1
  have hspec := s_spec_DebugFits x0 x1 hs0 hs1
  have himpl := s_impl_DebugFits x0 x1 hs0 hs1
  repeat' (
    (conv => whnf)
    first
    | refine Or.inl ?_
    | refine And.intro (Obl.out (?_ : Obl _)) ?_
    | refine ifB_intro (fun h => ?_) (fun h => ?_)
    | refine call_intro (hto0) (And.intro (And.intro rfl (And.intro rfl trivial)) trivial) ?_
    | refine call_intro (heq0) (And.intro (And.intro rfl (And.intro rfl trivial)) (And.intro (And.intro rfl (And.intro rfl trivial)) trivial)) ?_
    | refine call_intro (hto1) (And.intro (And.intro rfl (And.intro rfl (And.intro rfl (And.intro rfl (And.intro rfl trivial))))) trivial) ?_
    | refine call_intro (heq1) (And.intro (And.intro rfl (And.intro rfl (And.intro rfl (And.intro rfl (And.intro rfl trivial))))) (And.intro (And.intro rfl (And.intro rfl (And.intro rfl (And.intro rfl (And.intro rfl trivial))))) trivial)) ?_
    | refine call_intro (hspec) (And.intro (And.intro rfl (And.intro rfl trivial)) (And.intro (And.intro rfl (And.intro rfl (And.intro rfl (And.intro rfl (And.intro rfl trivial))))) trivial)) ?_
    | refine call_intro (himpl) (And.intro (And.intro rfl (And.intro rfl trivial)) (And.intro (And.intro rfl (And.intro rfl (And.intro rfl (And.intro rfl (And.intro rfl trivial))))) trivial)) ?_
    | refine Exists.intro _ (And.intro rfl ?_)
    | ((with_reducible show _ = _); rfl))
  all_goals try (
    (with_reducible refine Obl.mk ?_)
    first
    | ((with_reducible show regOk _ _ = true); kernel_rfl)
    | ((with_reducible show eqTyOk _ _ = true); kernel_rfl)
    | rfl
    | exact trivial
    | ((repeat' (first | exact trivial | refine And.intro ?_ ?_)); done)
    | decide
    | (intro r hr; simp only [List.mem_cons, List.not_mem_nil, or_false] at hr; first | (subst hr; rfl) | (rcases hr with rfl | rfl <;> rfl) | (rcases hr with rfl | rfl | rfl <;> rfl) | (rcases hr with rfl | rfl | rfl | rfl <;> rfl))
    | (refine And.intro ?_ ?_ <;> simp only [List.length_map, List.length_append, List.length_cons, List.length_nil] <;> omega))
  all_goals simp at *
theorem fnExactDebugFits_lifted (os : Os) (started : os.Started) (H : Type) (enc : TypeId × Value → H) :
    ReturnsInHanded {} Try.checked os 10 .any (Rows.fnExactDebugFitsSpec.pre6 enc Try.prog Try.f10 Rows.fnExactDebugFitsRow.domain false) (Rows.fnExactDebugFitsSpec.post enc Try.prog Try.f10 false true false false) := by
  refine returnsInHanded_of_change (C := Try.checked) own started (by kernel_rfl) Try.func10
    (ChangeSpec.witness6 (enc := enc) (C := Try.checked) false ⟨#[], #[.agg #[.string ⟨#[]⟩, .slice none 0 0], .agg #[.int .i64 0, .slice none 0 0, .slice none 0 0, .slice none 0 0, .slice none 0 0]], []⟩ 8 (by kernel_rfl) (by kernel_rfl) (by kernel_rfl) (by kernel_rfl)) ?_
  intro W base args ds gs before hval hW _ _
  have hW0 := hW
  obtain ⟨p, q, hA, _, _, _, _⟩ := hW0
  have hlen := trodAll_len hA
  obtain ⟨xs, hx, hty⟩ := args_typed (n := 8) hΓ (by kernel_rfl) (fun j t v h1 h2 => hval j t v (by simpa using h1) (by simpa using h2)) hA
  rw [Try.params10] at hty hlen
  obtain ⟨_, xs0, rfl, hx0, hty0⟩ := typedVs_cons hty
  obtain ⟨t0, rfl, h0⟩ := hx0
  obtain ⟨_, xs1, rfl, hx1, hty1⟩ := typedVs_cons hty0
  obtain ⟨t1, rfl, h1⟩ := hx1
  obtain rfl := typedVs_nil hty1
  obtain ⟨d0, d1, rfl⟩ := len2 hlen
  obtain ⟨x0, rfl, v0⟩ := ty_Image h0
  obtain ⟨x1, rfl, v1⟩ := ty_Debug h1
  exact law_calls laidOut rfl Try.underlying4 rfl (by kernel_rfl) rfl hx (s_laws_FnExactDebugFits x0 v0 x1 v1) hW
theorem fnExactDebugFits_holds : Rows.FnExactDebugFitsSaid :=
  OpenClaim.holds_of_wide 10 Try.f10 rfl rfl rfl rfl rfl rfl rfl ⟨rfl, rfl, rfl, rfl, rfl⟩ rfl rfl rfl rfl rfl (by kernel_rfl) Try.func10 (by kernel_rfl)
    (of_decide_eq_true (by kernel_rfl)) (by unfold Func.isWrapper; first | (rw [if_pos (by decide +kernel)]; kernel_rfl) | (rw [if_neg (by decide +kernel)]; exact ⟨rfl, rfl⟩))
    (fun os started H enc _ => fnExactDebugFits_lifted os started H enc)
end Go.Proofs.Ytnadkeiidbgmjaa
