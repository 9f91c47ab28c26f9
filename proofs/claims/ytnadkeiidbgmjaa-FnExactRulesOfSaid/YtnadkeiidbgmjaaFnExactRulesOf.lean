/- The law 'FnExactRulesOf': its function answers true; it leaves its arguments as they were. Conditions: none beyond the given statement. -/
import Derived.Test.YtnadkeiidbgmjaaBase
import Derived.Test.YtnadkeiidbgmjaaMkB
import Derived.Test.YtnadkeiidbgmjaaFnsR
namespace Go.Proofs.Ytnadkeiidbgmjaa
open Go.Sim Go.ChangeShapes Go.WideShapes Go.ChangeAt Go.RowKit
set_option maxRecDepth 100000
set_option maxHeartbeats 4000000
theorem s_laws_FnExactRulesOf (x0 : List TPlace) (hw0 : (x0.length ≤ maxLen ∧ ∀ y ∈ x0, y.wf)) : Sim.Spec Try.prog 9 [tvL 8 (x0.map TPlace.tr)] (rB true) := by
  refine spec_of_W hΓ hmix Try.func9 rfl (by decide) rfl ?_
  have hsz0 := s_laws_szPlaceS x0 hw0 (1048576) (by omega) (by omega)
  repeat' (
    (conv => whnf)
    first
    | refine seq_inl ?_
    | refine And.intro (Obl.out (?_ : Obl _)) ?_
    | refine ifB_intro (fun h => ?_) (fun h => ?_)
    | refine Or.inl (call_intro (hsz0) (And.intro rfl (And.intro rfl trivial)) ?_)
    | refine Exists.intro _ (And.intro rfl ?_)
    | ((with_reducible show _ = _); rfl))
  all_goals try (
    (with_reducible refine Obl.mk ?_)
    first
    | ((with_reducible show regOk _ _ = true); kernel_rfl)
    | rfl
    | exact trivial
    | ((repeat' (first | exact trivial | refine And.intro ?_ ?_)); done)
    | decide
    | (intro r hr; simp only [List.mem_cons, List.not_mem_nil, or_false] at hr; first | (subst hr; rfl) | (rcases hr with rfl | rfl <;> rfl) | (rcases hr with rfl | rfl | rfl <;> rfl) | (rcases hr with rfl | rfl | rfl | rfl <;> rfl))
    | (refine And.intro ?_ ?_ <;> simp only [List.length_map, List.length_append, List.length_cons, List.length_nil] <;> omega))
  have hsm0 := szT_small (L := 1048576) _ _ (Int.not_lt.1 (of_decide_eq_false h)) (by omega)
  have hnn0 := Int.not_lt.1 (of_decide_eq_false h)
  clear h
  have hs0 := hsm0.1
  have hspec := s_spec_RulesOf x0 (small_nat hs0)
  have himpl := s_impl_RulesOf x0 (small_nat hs0)
  have hr0 : smallT 1048576 (.lst 4 ((rulesOf x0).map TRule.tr)) := small_Rule (rulesOf_len2 hs0)
  generalize rulesOf x0 = R0 at *
  have heqr0 := s_laws_eqRuleS R0 hr0
  have hrc0_0 := cn_RuleS _ hr0
  have hmkr0 := g_laws_markRuleS R0 1 (by omega) (Nat.le_trans (small_nat hr0) (by omega)) (by omega)
  have hhdr0 := s_laws_heldRuleS R0 1 (by omega) (Nat.le_trans (small_nat hr0) (by omega)) (by omega)
  have hto0 := g_laws_toPlaceS x0 hs0
  have heq0 := s_laws_eqPlaceS x0 hs0
  have hac0_0 := cn_PlaceS _ hs0
  have hmka0 := g_laws_markPlaceS x0 (1) (by omega) (Nat.le_trans (small_nat hs0) (by omega)) (by omega) (hin_PlaceS _ hs0)
  repeat' (
    (conv => whnf)
    first
    | refine callG_intro (hmka0) ?_
    | refine callG_intro (hmkr0) ?_
    | refine callG_intro (hto0) ?_
    | refine seq_inl ?_
    | refine And.intro (Obl.out (?_ : Obl _)) ?_
    | refine ifB_intro (fun h => ?_) (fun h => ?_)
    | refine Or.inl (call_intro (heqr0) (And.intro rfl (And.intro rfl trivial)) ?_)
    | refine Or.inl (call_intro (hhdr0) (And.intro rfl (And.intro rfl trivial)) ?_)
    | refine Or.inl (call_intro (heq0) (And.intro (deep_eq _ _) (And.intro (deep_eq _ _) trivial)) ?_)
    | refine Or.inl (call_intro (hspec) (And.intro (deep_eq _ _) trivial) ?_)
    | refine Or.inl (call_intro (himpl) (And.intro (deep_eq _ _) trivial) ?_)
    | refine Exists.intro _ (And.intro rfl ?_)
    | ((with_reducible show _ = _); rfl))
  all_goals try (
    (with_reducible refine Obl.mk ?_)
    first
    | ((with_reducible show regOk _ _ = true); kernel_rfl)
    | rfl
    | exact trivial
    | ((repeat' (first | exact trivial | refine And.intro ?_ ?_)); done)
    | decide
    | (intro r hr; simp only [List.mem_cons, List.not_mem_nil, or_false] at hr; first | (subst hr; rfl) | (rcases hr with rfl | rfl <;> rfl) | (rcases hr with rfl | rfl | rfl <;> rfl) | (rcases hr with rfl | rfl | rfl | rfl <;> rfl))
    | (refine And.intro ?_ ?_ <;> simp only [List.length_map, List.length_append, List.length_cons, List.length_nil] <;> omega))
  all_goals (exfalso; first | (simp at h; done) | (have h' := of_decide_eq_true h; omega))
theorem fnExactRulesOf_lifted (os : Os) (started : os.Started) (H : Type) (enc : TypeId × Value → H) :
    ReturnsInHanded {} Try.checked os 9 .any (Rows.fnExactRulesOfSpec.pre6 enc Try.prog Try.f9 Rows.fnExactRulesOfRow.domain false) (Rows.fnExactRulesOfSpec.post enc Try.prog Try.f9 false true false false) := by
  refine returnsInHanded_of_change (C := Try.checked) own started (by kernel_rfl) Try.func9
    (ChangeSpec.witness6 (enc := enc) (C := Try.checked) false ⟨#[], #[.slice none 0 0], []⟩ 8 (by kernel_rfl) (by kernel_rfl) (by kernel_rfl) (by kernel_rfl)) ?_
  intro W base args ds gs before hval hW _ _
  have hW0 := hW
  obtain ⟨p, q, hA, _, _, _, _⟩ := hW0
  have hlen := trodAll_len hA
  obtain ⟨xs, hx, hty⟩ := args_typed (n := 8) hΓ (by kernel_rfl) (fun j t v h1 h2 => hval j t v (by simpa using h1) (by simpa using h2)) hA
  rw [Try.params9] at hty hlen
  obtain ⟨_, xs0, rfl, hx0, hty0⟩ := typedVs_cons hty
  obtain ⟨_, rfl, r0, ⟨⟩, l0, e0⟩ := hx0
  obtain rfl := typedVs_nil hty0
  obtain ⟨d0, rfl⟩ := len1 hlen
  obtain ⟨x0, rfl, v0⟩ := rows_map (g := TPlace.tr) (Q := (fun y => y.wf)) (rows := r0) (fun r hr => ty_Place (typed_le (by decide) (e0 r hr)))
  exact law_calls laidOut rfl Try.underlying4 rfl (by kernel_rfl) rfl hx (s_laws_FnExactRulesOf x0 ⟨by simpa using l0, v0⟩) hW

theorem fnExactRulesOf_holds : Rows.FnExactRulesOfSaid :=
  OpenClaim.holds_of_wide 9 Try.f9 rfl rfl rfl rfl rfl rfl rfl ⟨rfl, rfl, rfl, rfl, rfl⟩ rfl rfl rfl rfl rfl (by kernel_rfl) Try.func9 (by kernel_rfl)
    (of_decide_eq_true (by kernel_rfl)) (by unfold Func.isWrapper; first | (rw [if_pos (by decide +kernel)]; kernel_rfl) | (rw [if_neg (by decide +kernel)]; exact ⟨rfl, rfl⟩))
    (fun os started H enc _ => fnExactRulesOf_lifted os started H enc)
end Go.Proofs.Ytnadkeiidbgmjaa
