/- The law 'FnExactInlinesOf': its function answers true; it leaves its arguments as they were. Conditions: none beyond the given statement. -/
import Derived.Test.YtehniaekfijmiaaBase
import Derived.Test.YtehniaekfijmiaaMkB
import Derived.Test.YtehniaekfijmiaaFnsZo
namespace Go.Proofs.Ytehniaekfijmiaa
open Go.Sim Go.ChangeShapes Go.WideShapes Go.ChangeAt Go.RowKit
set_option maxRecDepth 100000
set_option maxHeartbeats 4000000
theorem s_laws_FnExactInlinesOf (x0 : List TLine) (hw0 : (x0.length ≤ maxLen ∧ ∀ y ∈ x0, y.wf)) (x1 : List TPlace) (hw1 : (x1.length ≤ maxLen ∧ ∀ y ∈ x1, y.wf)) : Sim.Spec Try.prog 5 [tvL 4 (x0.map TLine.tr), tvL 8 (x1.map TPlace.tr)] (rB true) := by
  refine spec_of_W hΓ hmix Try.func5 rfl (by decide) rfl ?_
  have hsz0 := s_laws_szLineS x0 hw0 (1048576) (by omega) (by omega)
  repeat' ((conv => whnf); first | refine seq_inl ?_ | refine reg_inl ?_ | refine And.intro (Obl.out (?_ : Obl _)) ?_ | refine ifB_intro (fun h => ?_) (fun h => ?_) | refine Or.inl (call_intro (hsz0) (And.intro rfl (And.intro rfl trivial)) ?_) | refine Exists.intro _ (And.intro rfl ?_) | ((with_reducible show _ = _); rfl))
  all_goals try ((with_reducible refine Obl.mk ?_); first | ((with_reducible show regOk _ _ = true); kernel_rfl) | ((with_reducible show eqTyOk _ _ = true); kernel_rfl) | rfl | exact trivial | ((repeat' (first | exact trivial | refine And.intro ?_ ?_)); done) | decide | ((repeat' (first | exact List.forall_mem_nil _ | refine List.forall_mem_cons.2 (And.intro rfl ?_))); done) | (refine And.intro ?_ ?_ <;> simp only [List.length_map, List.length_append, List.length_cons, List.length_nil] <;> omega))
  have hsm0 := szT_small (L := 1048576) _ _ (Int.not_lt.1 (of_decide_eq_false h)) (by omega)
  have hnn0 := Int.not_lt.1 (of_decide_eq_false h)
  clear h
  have hs0 := hsm0.1
  have hsz1 := s_laws_szPlaceS x1 hw1 (szT (.lst 4 (x0.map TLine.tr)) (1048576)) hnn0 (Int.le_trans hsm0.2 (by omega))
  repeat' ((conv => whnf); first | refine seq_inl ?_ | refine reg_inl ?_ | refine And.intro (Obl.out (?_ : Obl _)) ?_ | refine ifB_intro (fun h => ?_) (fun h => ?_) | refine Or.inl (call_intro (hsz1) (And.intro rfl (And.intro rfl trivial)) ?_) | refine Exists.intro _ (And.intro rfl ?_) | ((with_reducible show _ = _); rfl))
  all_goals try ((with_reducible refine Obl.mk ?_); first | ((with_reducible show regOk _ _ = true); kernel_rfl) | ((with_reducible show eqTyOk _ _ = true); kernel_rfl) | rfl | exact trivial | ((repeat' (first | exact trivial | refine And.intro ?_ ?_)); done) | decide | ((repeat' (first | exact List.forall_mem_nil _ | refine List.forall_mem_cons.2 (And.intro rfl ?_))); done) | (refine And.intro ?_ ?_ <;> simp only [List.length_map, List.length_append, List.length_cons, List.length_nil] <;> omega))
  have hsm1 := szT_small (L := 1048576) _ _ (Int.not_lt.1 (of_decide_eq_false h)) (Int.le_trans hsm0.2 (by omega))
  have hnn1 := Int.not_lt.1 (of_decide_eq_false h)
  clear h
  have hs1 := hsm1.1
  have hspec := s_spec_InlinesOf x0 x1 hs0 hs1 (chains_of (Int.le_trans hsm0.2 (by omega)) hnn1)
  have himpl := s_impl_InlinesOf x0 x1 hs0 hs1 (chains_of (Int.le_trans hsm0.2 (by omega)) hnn1)
  have hr0 : smallT 1048576 (.lst 5 ((inlinesOf x0 x1).map TInline.tr)) := inlinesOf_small hs0 (chains_of (Int.le_trans hsm0.2 (by omega)) hnn1)
  generalize inlinesOf x0 x1 = R0 at *
  have heqr0 := s_laws_eqInlineS R0 hr0
  have hrc0_0 := cn_InlineS _ hr0
  have hmkr0 := g_laws_markInlineS R0 1 (by omega) (Nat.le_trans (small_nat hr0) (by omega)) (by omega)
  have hhdr0 := s_laws_heldInlineS R0 1 (by omega) (Nat.le_trans (small_nat hr0) (by omega)) (by omega)
  have hto0 := g_laws_toLineS x0 hs0
  have heq0 := s_laws_eqLineS x0 hs0
  have hac0_0 := cn_LineS _ hs0
  have hmka0 := g_laws_markLineS x0 (1) (by omega) (Nat.le_trans (small_nat hs0) (by omega)) (by omega) (hin_LineS _ hs0)
  have hto1 := g_laws_toPlaceS x1 hs1
  have heq1 := s_laws_eqPlaceS x1 hs1
  have hac1_0 := cn_PlaceS _ hs1
  have hmka1 := g_laws_markPlaceS x1 (1 + (cnRs (x0.map TLine.tr) : Nat)) (by omega) (Nat.le_trans (small_nat hs1) (by omega)) (by omega) (hin_PlaceS _ hs1)
  repeat' ((conv => whnf); first | refine callG_intro (hmka0) ?_ | refine callG_intro (hmka1) ?_ | refine callG_intro (hmkr0) ?_ | refine callG_intro (hto0) ?_ | refine callG_intro (hto1) ?_ | refine seq_inl ?_ | refine reg_inl ?_ | refine And.intro (Obl.out (?_ : Obl _)) ?_ | refine ifB_intro (fun h => ?_) (fun h => ?_) | refine Or.inl (call_intro (heqr0) (And.intro rfl (And.intro rfl trivial)) ?_) | refine Or.inl (call_intro (hhdr0) (And.intro rfl (And.intro rfl trivial)) ?_) | refine Or.inl (call_intro (heq0) (And.intro (deep_eq _ _) (And.intro (deep_eq _ _) trivial)) ?_) | refine Or.inl (call_intro (heq1) (And.intro (deep_eq _ _) (And.intro (deep_eq _ _) trivial)) ?_) | refine Or.inl (call_intro (hspec) (And.intro (deep_eq _ _) (And.intro (deep_eq _ _) trivial)) ?_) | refine Or.inl (call_intro (himpl) (And.intro (deep_eq _ _) (And.intro (deep_eq _ _) trivial)) ?_) | refine Exists.intro _ (And.intro rfl ?_) | ((with_reducible show _ = _); rfl))
  all_goals try ((with_reducible refine Obl.mk ?_); first | ((with_reducible show regOk _ _ = true); kernel_rfl) | ((with_reducible show eqTyOk _ _ = true); kernel_rfl) | rfl | exact trivial | ((repeat' (first | exact trivial | refine And.intro ?_ ?_)); done) | decide | ((repeat' (first | exact List.forall_mem_nil _ | refine List.forall_mem_cons.2 (And.intro rfl ?_))); done) | (refine And.intro ?_ ?_ <;> simp only [List.length_map, List.length_append, List.length_cons, List.length_nil] <;> omega))
  all_goals (exfalso; first | (simp at h; done) | (have h' := of_decide_eq_true h; omega))
theorem fnExactInlinesOf_lifted (os : Os) (started : os.Started) (H : Type) (enc : TypeId × Value → H) :
    ReturnsInHanded {} Try.checked os 5 .any (Rows.fnExactInlinesOfSpec.pre6 enc Try.prog Try.f5 Rows.fnExactInlinesOfRow.domain false) (Rows.fnExactInlinesOfSpec.post enc Try.prog Try.f5 false true false false) := by
  refine returnsInHanded_of_change (C := Try.checked) own started (by kernel_rfl) Try.func5
    (ChangeSpec.witness6 (enc := enc) (C := Try.checked) false ⟨#[], #[.slice none 0 0, .slice none 0 0], []⟩ 8 (by kernel_rfl) (by kernel_rfl) (by kernel_rfl) (by kernel_rfl)) ?_
  intro W base args ds gs before hval hW _ _
  have hW0 := hW
  obtain ⟨p, q, hA, _, _, _, _⟩ := hW0
  have hlen := trodAll_len hA
  obtain ⟨xs, hx, hty⟩ := args_typed (n := 8) hΓ (by kernel_rfl) (fun j t v h1 h2 => hval j t v (by simpa using h1) (by simpa using h2)) hA
  rw [Try.params5] at hty hlen
  obtain ⟨_, xs0, rfl, hx0, hty0⟩ := typedVs_cons hty
  obtain ⟨_, rfl, r0, ⟨⟩, l0, e0⟩ := hx0
  obtain ⟨_, xs1, rfl, hx1, hty1⟩ := typedVs_cons hty0
  obtain ⟨_, rfl, r1, ⟨⟩, l1, e1⟩ := hx1
  obtain rfl := typedVs_nil hty1
  obtain ⟨d0, d1, rfl⟩ := len2 hlen
  obtain ⟨x0, rfl, v0⟩ := rows_map (g := TLine.tr) (Q := (fun y => y.wf)) (rows := r0) (fun r hr => ty_Line (typed_le (by decide) (e0 r hr)))
  obtain ⟨x1, rfl, v1⟩ := rows_map (g := TPlace.tr) (Q := (fun y => y.wf)) (rows := r1) (fun r hr => ty_Place (typed_le (by decide) (e1 r hr)))
  exact law_calls laidOut rfl Try.underlying4 rfl (by kernel_rfl) rfl hx (s_laws_FnExactInlinesOf x0 ⟨by simpa using l0, v0⟩ x1 ⟨by simpa using l1, v1⟩) hW
theorem fnExactInlinesOf_holds : Rows.FnExactInlinesOfSaid :=
  OpenClaim.holds_of_wide 5 Try.f5 rfl rfl rfl rfl rfl rfl rfl ⟨rfl, rfl, rfl, rfl, rfl⟩ rfl rfl rfl rfl rfl (by kernel_rfl) Try.func5 (by kernel_rfl)
    (of_decide_eq_true (by kernel_rfl)) (by unfold Func.isWrapper; first | (rw [if_pos (by decide +kernel)]; kernel_rfl) | (rw [if_neg (by decide +kernel)]; exact ⟨rfl, rfl⟩))
    (fun os started H enc _ => fnExactInlinesOf_lifted os started H enc)
end Go.Proofs.Ytehniaekfijmiaa
