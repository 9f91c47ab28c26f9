/- The law 'FnExactRunMachine': its function answers true; it leaves its arguments as they were. Conditions: none beyond the given statement. -/
import Derived.Test.YtehniaekfijmiaaBase
import Derived.Test.YtehniaekfijmiaaMkB
import Derived.Test.YtehniaekfijmiaaFnsZm
import Derived.Test.YtehniaekfijmiaaMkC
namespace Go.Proofs.Ytehniaekfijmiaa
open Go.Sim Go.ChangeShapes Go.WideShapes Go.ChangeAt Go.RowKit
set_option maxRecDepth 100000
set_option maxHeartbeats 4000000
theorem s_laws_FnExactRunMachine (x0 : TSpace) (hw0 : x0.wf) (x1 : TMachine) (hw1 : x1.wf) (x2 : Int) (hw2 : inI x2) : Sim.Spec Try.prog 3 [.agg x0.tr, .agg x1.tr, tvI x2] (rB true) := by
  refine spec_of_W hΓ hmix Try.func3 rfl (by decide) rfl ?_
  have hsz0 := s_laws_szSpace x0 hw0 (1048576) (by omega) (by omega)
  repeat' ((conv => whnf); first | refine seq_inl ?_ | refine reg_inl ?_ | refine And.intro (Obl.out (?_ : Obl _)) ?_ | refine ifB_intro (fun h => ?_) (fun h => ?_) | refine Or.inl (call_intro (hsz0) (And.intro (And.intro rfl (And.intro rfl (And.intro rfl trivial))) (And.intro rfl trivial)) ?_) | refine Exists.intro _ (And.intro rfl ?_) | ((with_reducible show _ = _); rfl))
  all_goals try ((with_reducible refine Obl.mk ?_); first | ((with_reducible show regOk _ _ = true); kernel_rfl) | ((with_reducible show eqTyOk _ _ = true); kernel_rfl) | rfl | exact trivial | ((repeat' (first | exact trivial | refine And.intro ?_ ?_)); done) | decide | ((repeat' (first | exact List.forall_mem_nil _ | refine List.forall_mem_cons.2 (And.intro rfl ?_))); done) | (refine And.intro ?_ ?_ <;> simp only [List.length_map, List.length_append, List.length_cons, List.length_nil] <;> omega))
  have hsm0 := szR_small (L := 1048576) _ _ (Int.not_lt.1 (of_decide_eq_false h)) (by omega)
  have hnn0 := Int.not_lt.1 (of_decide_eq_false h)
  clear h
  have hs0 := hsm0.1
  have hsz1 := s_laws_szMachine x1 hw1 (szR x0.tr (1048576)) hnn0 (Int.le_trans hsm0.2 (by omega))
  repeat' ((conv => whnf); first | refine seq_inl ?_ | refine reg_inl ?_ | refine And.intro (Obl.out (?_ : Obl _)) ?_ | refine ifB_intro (fun h => ?_) (fun h => ?_) | refine Or.inl (call_intro (hsz1) (And.intro (And.intro rfl (And.intro rfl (And.intro rfl (And.intro rfl (And.intro rfl (And.intro rfl (And.intro rfl trivial))))))) (And.intro rfl trivial)) ?_) | refine Exists.intro _ (And.intro rfl ?_) | ((with_reducible show _ = _); rfl))
  all_goals try ((with_reducible refine Obl.mk ?_); first | ((with_reducible show regOk _ _ = true); kernel_rfl) | ((with_reducible show eqTyOk _ _ = true); kernel_rfl) | rfl | exact trivial | ((repeat' (first | exact trivial | refine And.intro ?_ ?_)); done) | decide | ((repeat' (first | exact List.forall_mem_nil _ | refine List.forall_mem_cons.2 (And.intro rfl ?_))); done) | (refine And.intro ?_ ?_ <;> simp only [List.length_map, List.length_append, List.length_cons, List.length_nil] <;> omega))
  have hsm1 := szR_small (L := 1048576) _ _ (Int.not_lt.1 (of_decide_eq_false h)) (Int.le_trans hsm0.2 (by omega))
  have hnn1 := Int.not_lt.1 (of_decide_eq_false h)
  clear h
  have hs1 := hsm1.1
  have hspec := s_spec_RunMachine x0 x1 x2 hs0 hs1 hw1 hw0
  have himpl := s_impl_RunMachine x0 x1 x2 hs0 hs1 hw1 hw0
  have hr0 : smallR 2097152 ((runMach x0 x1 x2).1).tr := runMach_small hs1
  generalize (runMach x0 x1 x2).1 = R0 at *
  generalize ((runMach x0 x1 x2).2 : Int) = R1 at *
  have heqr0 := s_laws_eqMachine2 R0 hr0
  have hr0u := hr0
  simp only [TMachine.tr, smallR] at hr0u
  have hrc0_0 := cn_IntS2 _ (hr0u.2.2.2.1)
  have hrc0_1 := cn_IntS2 _ (hr0u.2.2.2.2.1)
  have hmkr0 := g_laws_markMachine R0 1 (by omega) (Nat.le_trans (small_nat2 (hr0u.2.2.2.1)) (by omega)) (Nat.le_trans (small_nat2 (hr0u.2.2.2.2.1)) (by omega)) (by omega)
  have hhdr0 := s_laws_heldMachine R0 1 (by omega) (Nat.le_trans (small_nat2 (hr0u.2.2.2.1)) (by omega)) (Nat.le_trans (small_nat2 (hr0u.2.2.2.2.1)) (by omega)) (by omega)
  have hto0 := g_laws_toSpace x0 hs0
  have heq0 := s_laws_eqSpace x0 hs0
  have hs0u := hs0
  simp only [TSpace.tr, smallR] at hs0u
  have hac0_0 := cn_ImageS _ (hs0u.1)
  have hac0_1 := cn_IntS _ (hs0u.2.1)
  have hac0_2 := cn_IntS _ (hs0u.2.2.1)
  have hmka0 := g_laws_markSpace x0 (1) (by omega) (Nat.le_trans (small_nat (hs0u.1)) (by omega)) (hin_ImageS _ (hs0u.1)) (Nat.le_trans (small_nat (hs0u.2.1)) (by omega)) (Nat.le_trans (small_nat (hs0u.2.2.1)) (by omega)) (by omega)
  have hto1 := s_laws_toMachine x1 hs1
  have heq1 := s_laws_eqMachine x1 hs1
  have hs1u := hs1
  simp only [TMachine.tr, smallR] at hs1u
  have hac1_0 := cn_IntS _ (hs1u.2.2.2.1)
  have hac1_1 := cn_IntS _ (hs1u.2.2.2.2.1)
  have hmka1 := g_laws_markMachine x1 (1 + (cnRs (x0.fImages.map TImage.tr) : Nat) + (cnRs (x0.fBases.map intRow) : Nat) + (cnRs (x0.fEntries.map intRow) : Nat)) (by omega) (Nat.le_trans (small_nat (hs1u.2.2.2.1)) (by omega)) (Nat.le_trans (small_nat (hs1u.2.2.2.2.1)) (by omega)) (by omega)
  repeat' ((conv => whnf); first | refine callG_intro (hto0) ?_ | refine seq_inl ?_ | refine reg_inl ?_ | refine And.intro (Obl.out (?_ : Obl _)) ?_ | refine ifB_intro (fun h => ?_) (fun h => ?_) | refine Or.inl (call_intro (heqr0) (And.intro (And.intro rfl (And.intro rfl (And.intro rfl (And.intro rfl (And.intro rfl (And.intro rfl (And.intro rfl trivial))))))) (And.intro (And.intro rfl (And.intro rfl (And.intro rfl (And.intro rfl (And.intro rfl (And.intro rfl (And.intro rfl trivial))))))) trivial)) ?_) | refine Or.inl (call_intro (hhdr0) (And.intro (And.intro rfl (And.intro rfl (And.intro rfl (And.intro rfl (And.intro rfl (And.intro rfl (And.intro rfl trivial))))))) (And.intro rfl trivial)) ?_) | refine Or.inl (call_intro (heq0) (And.intro (And.intro (deep_eq _ _) (And.intro rfl (And.intro rfl trivial))) (And.intro (And.intro (deep_eq _ _) (And.intro rfl (And.intro rfl trivial))) trivial)) ?_) | refine Or.inl (call_intro (hto1) (And.intro (And.intro rfl (And.intro rfl (And.intro rfl (And.intro rfl (And.intro rfl (And.intro rfl (And.intro rfl trivial))))))) trivial) ?_) | refine Or.inl (call_intro (heq1) (And.intro (And.intro rfl (And.intro rfl (And.intro rfl (And.intro rfl (And.intro rfl (And.intro rfl (And.intro rfl trivial))))))) (And.intro (And.intro rfl (And.intro rfl (And.intro rfl (And.intro rfl (And.intro rfl (And.intro rfl (And.intro rfl trivial))))))) trivial)) ?_) | refine Or.inl (call_intro (hspec) (And.intro (And.intro (deep_eq _ _) (And.intro rfl (And.intro rfl trivial))) (And.intro (And.intro rfl (And.intro rfl (And.intro rfl (And.intro rfl (And.intro rfl (And.intro rfl (And.intro rfl trivial))))))) (And.intro rfl trivial))) ?_) | refine Or.inl (call_intro (himpl) (And.intro (And.intro (deep_eq _ _) (And.intro rfl (And.intro rfl trivial))) (And.intro (And.intro rfl (And.intro rfl (And.intro rfl (And.intro rfl (And.intro rfl (And.intro rfl (And.intro rfl trivial))))))) (And.intro rfl trivial))) ?_) | refine Exists.intro _ (And.intro rfl ?_) | ((with_reducible show _ = _); rfl))
  all_goals try ((with_reducible refine Obl.mk ?_); first | ((with_reducible show regOk _ _ = true); kernel_rfl) | ((with_reducible show eqTyOk _ _ = true); kernel_rfl) | rfl | exact trivial | ((repeat' (first | exact trivial | refine And.intro ?_ ?_)); done) | decide | ((repeat' (first | exact List.forall_mem_nil _ | refine List.forall_mem_cons.2 (And.intro rfl ?_))); done) | (refine And.intro ?_ ?_ <;> simp only [List.length_map, List.length_append, List.length_cons, List.length_nil] <;> omega))
  all_goals try (exfalso; first | (simp at h; done) | (have h' := of_decide_eq_true h; omega; done))
  refine callG_intro (hmka0) ?_
  repeat' ((conv => whnf); first | refine callG_intro (hto0) ?_ | refine seq_inl ?_ | refine reg_inl ?_ | refine And.intro (Obl.out (?_ : Obl _)) ?_ | refine ifB_intro (fun h => ?_) (fun h => ?_) | refine Or.inl (call_intro (heqr0) (And.intro (And.intro rfl (And.intro rfl (And.intro rfl (And.intro rfl (And.intro rfl (And.intro rfl (And.intro rfl trivial))))))) (And.intro (And.intro rfl (And.intro rfl (And.intro rfl (And.intro rfl (And.intro rfl (And.intro rfl (And.intro rfl trivial))))))) trivial)) ?_) | refine Or.inl (call_intro (hhdr0) (And.intro (And.intro rfl (And.intro rfl (And.intro rfl (And.intro rfl (And.intro rfl (And.intro rfl (And.intro rfl trivial))))))) (And.intro rfl trivial)) ?_) | refine Or.inl (call_intro (heq0) (And.intro (And.intro (deep_eq _ _) (And.intro rfl (And.intro rfl trivial))) (And.intro (And.intro (deep_eq _ _) (And.intro rfl (And.intro rfl trivial))) trivial)) ?_) | refine Or.inl (call_intro (hto1) (And.intro (And.intro rfl (And.intro rfl (And.intro rfl (And.intro rfl (And.intro rfl (And.intro rfl (And.intro rfl trivial))))))) trivial) ?_) | refine Or.inl (call_intro (heq1) (And.intro (And.intro rfl (And.intro rfl (And.intro rfl (And.intro rfl (And.intro rfl (And.intro rfl (And.intro rfl trivial))))))) (And.intro (And.intro rfl (And.intro rfl (And.intro rfl (And.intro rfl (And.intro rfl (And.intro rfl (And.intro rfl trivial))))))) trivial)) ?_) | refine Or.inl (call_intro (hspec) (And.intro (And.intro (deep_eq _ _) (And.intro rfl (And.intro rfl trivial))) (And.intro (And.intro rfl (And.intro rfl (And.intro rfl (And.intro rfl (And.intro rfl (And.intro rfl (And.intro rfl trivial))))))) (And.intro rfl trivial))) ?_) | refine Or.inl (call_intro (himpl) (And.intro (And.intro (deep_eq _ _) (And.intro rfl (And.intro rfl trivial))) (And.intro (And.intro rfl (And.intro rfl (And.intro rfl (And.intro rfl (And.intro rfl (And.intro rfl (And.intro rfl trivial))))))) (And.intro rfl trivial))) ?_) | refine Exists.intro _ (And.intro rfl ?_) | ((with_reducible show _ = _); rfl))
  all_goals try ((with_reducible refine Obl.mk ?_); first | ((with_reducible show regOk _ _ = true); kernel_rfl) | ((with_reducible show eqTyOk _ _ = true); kernel_rfl) | rfl | exact trivial | ((repeat' (first | exact trivial | refine And.intro ?_ ?_)); done) | decide | ((repeat' (first | exact List.forall_mem_nil _ | refine List.forall_mem_cons.2 (And.intro rfl ?_))); done) | (refine And.intro ?_ ?_ <;> simp only [List.length_map, List.length_append, List.length_cons, List.length_nil] <;> omega))
  all_goals try (exfalso; first | (simp at h; done) | (have h' := of_decide_eq_true h; omega; done))
  refine callG_intro (hmka1) ?_
  repeat' ((conv => whnf); first | refine callG_intro (hto0) ?_ | refine seq_inl ?_ | refine reg_inl ?_ | refine And.intro (Obl.out (?_ : Obl _)) ?_ | refine ifB_intro (fun h => ?_) (fun h => ?_) | refine Or.inl (call_intro (heqr0) (And.intro (And.intro rfl (And.intro rfl (And.intro rfl (And.intro rfl (And.intro rfl (And.intro rfl (And.intro rfl trivial))))))) (And.intro (And.intro rfl (And.intro rfl (And.intro rfl (And.intro rfl (And.intro rfl (And.intro rfl (And.intro rfl trivial))))))) trivial)) ?_) | refine Or.inl (call_intro (hhdr0) (And.intro (And.intro rfl (And.intro rfl (And.intro rfl (And.intro rfl (And.intro rfl (And.intro rfl (And.intro rfl trivial))))))) (And.intro rfl trivial)) ?_) | refine Or.inl (call_intro (heq0) (And.intro (And.intro (deep_eq _ _) (And.intro rfl (And.intro rfl trivial))) (And.intro (And.intro (deep_eq _ _) (And.intro rfl (And.intro rfl trivial))) trivial)) ?_) | refine Or.inl (call_intro (hto1) (And.intro (And.intro rfl (And.intro rfl (And.intro rfl (And.intro rfl (And.intro rfl (And.intro rfl (And.intro rfl trivial))))))) trivial) ?_) | refine Or.inl (call_intro (heq1) (And.intro (And.intro rfl (And.intro rfl (And.intro rfl (And.intro rfl (And.intro rfl (And.intro rfl (And.intro rfl trivial))))))) (And.intro (And.intro rfl (And.intro rfl (And.intro rfl (And.intro rfl (And.intro rfl (And.intro rfl (And.intro rfl trivial))))))) trivial)) ?_) | refine Or.inl (call_intro (hspec) (And.intro (And.intro (deep_eq _ _) (And.intro rfl (And.intro rfl trivial))) (And.intro (And.intro rfl (And.intro rfl (And.intro rfl (And.intro rfl (And.intro rfl (And.intro rfl (And.intro rfl trivial))))))) (And.intro rfl trivial))) ?_) | refine Or.inl (call_intro (himpl) (And.intro (And.intro (deep_eq _ _) (And.intro rfl (And.intro rfl trivial))) (And.intro (And.intro rfl (And.intro rfl (And.intro rfl (And.intro rfl (And.intro rfl (And.intro rfl (And.intro rfl trivial))))))) (And.intro rfl trivial))) ?_) | refine Exists.intro _ (And.intro rfl ?_) | ((with_reducible show _ = _); rfl))
  all_goals try ((with_reducible refine Obl.mk ?_); first | ((with_reducible show regOk _ _ = true); kernel_rfl) | ((with_reducible show eqTyOk _ _ = true); kernel_rfl) | rfl | exact trivial | ((repeat' (first | exact trivial | refine And.intro ?_ ?_)); done) | decide | ((repeat' (first | exact List.forall_mem_nil _ | refine List.forall_mem_cons.2 (And.intro rfl ?_))); done) | (refine And.intro ?_ ?_ <;> simp only [List.length_map, List.length_append, List.length_cons, List.length_nil] <;> omega))
  all_goals try (exfalso; first | (simp at h; done) | (have h' := of_decide_eq_true h; omega; done))
  refine callG_intro (hmkr0) ?_
  repeat' ((conv => whnf); first | refine callG_intro (hto0) ?_ | refine seq_inl ?_ | refine reg_inl ?_ | refine And.intro (Obl.out (?_ : Obl _)) ?_ | refine ifB_intro (fun h => ?_) (fun h => ?_) | refine Or.inl (call_intro (heqr0) (And.intro (And.intro rfl (And.intro rfl (And.intro rfl (And.intro rfl (And.intro rfl (And.intro rfl (And.intro rfl trivial))))))) (And.intro (And.intro rfl (And.intro rfl (And.intro rfl (And.intro rfl (And.intro rfl (And.intro rfl (And.intro rfl trivial))))))) trivial)) ?_) | refine Or.inl (call_intro (hhdr0) (And.intro (And.intro rfl (And.intro rfl (And.intro rfl (And.intro rfl (And.intro rfl (And.intro rfl (And.intro rfl trivial))))))) (And.intro rfl trivial)) ?_) | refine Or.inl (call_intro (heq0) (And.intro (And.intro (deep_eq _ _) (And.intro rfl (And.intro rfl trivial))) (And.intro (And.intro (deep_eq _ _) (And.intro rfl (And.intro rfl trivial))) trivial)) ?_) | refine Or.inl (call_intro (hto1) (And.intro (And.intro rfl (And.intro rfl (And.intro rfl (And.intro rfl (And.intro rfl (And.intro rfl (And.intro rfl trivial))))))) trivial) ?_) | refine Or.inl (call_intro (heq1) (And.intro (And.intro rfl (And.intro rfl (And.intro rfl (And.intro rfl (And.intro rfl (And.intro rfl (And.intro rfl trivial))))))) (And.intro (And.intro rfl (And.intro rfl (And.intro rfl (And.intro rfl (And.intro rfl (And.intro rfl (And.intro rfl trivial))))))) trivial)) ?_) | refine Or.inl (call_intro (hspec) (And.intro (And.intro (deep_eq _ _) (And.intro rfl (And.intro rfl trivial))) (And.intro (And.intro rfl (And.intro rfl (And.intro rfl (And.intro rfl (And.intro rfl (And.intro rfl (And.intro rfl trivial))))))) (And.intro rfl trivial))) ?_) | refine Or.inl (call_intro (himpl) (And.intro (And.intro (deep_eq _ _) (And.intro rfl (And.intro rfl trivial))) (And.intro (And.intro rfl (And.intro rfl (And.intro rfl (And.intro rfl (And.intro rfl (And.intro rfl (And.intro rfl trivial))))))) (And.intro rfl trivial))) ?_) | refine Exists.intro _ (And.intro rfl ?_) | ((with_reducible show _ = _); rfl))
  all_goals try ((with_reducible refine Obl.mk ?_); first | ((with_reducible show regOk _ _ = true); kernel_rfl) | ((with_reducible show eqTyOk _ _ = true); kernel_rfl) | rfl | exact trivial | ((repeat' (first | exact trivial | refine And.intro ?_ ?_)); done) | decide | ((repeat' (first | exact List.forall_mem_nil _ | refine List.forall_mem_cons.2 (And.intro rfl ?_))); done) | (refine And.intro ?_ ?_ <;> simp only [List.length_map, List.length_append, List.length_cons, List.length_nil] <;> omega))
  all_goals (exfalso; first | (simp at h; done) | (have h' := of_decide_eq_true h; omega))
theorem fnExactRunMachine_lifted (os : Os) (started : os.Started) (H : Type) (enc : TypeId × Value → H) :
    ReturnsInHanded {} Try.checked os 3 .any (Rows.fnExactRunMachineSpec.pre6 enc Try.prog Try.f3 Rows.fnExactRunMachineRow.domain false) (Rows.fnExactRunMachineSpec.post enc Try.prog Try.f3 false true false false) := by
  refine returnsInHanded_of_change (C := Try.checked) own started (by kernel_rfl) Try.func3
    (ChangeSpec.witness6 (enc := enc) (C := Try.checked) false ⟨#[], #[.agg #[.slice none 0 0, .slice none 0 0, .slice none 0 0], .agg #[.int .i64 0, .int .i64 0, .int .i64 0, .slice none 0 0, .slice none 0 0, .int .i64 0, .int .i64 0], .int .i64 0], []⟩ 8 (by kernel_rfl) (by kernel_rfl) (by kernel_rfl) (by kernel_rfl)) ?_
  intro W base args ds gs before hval hW _ _
  have hW0 := hW
  obtain ⟨p, q, hA, _, _, _, _⟩ := hW0
  have hlen := trodAll_len hA
  obtain ⟨xs, hx, hty⟩ := args_typed (n := 8) hΓ (by kernel_rfl) (fun j t v h1 h2 => hval j t v (by simpa using h1) (by simpa using h2)) hA
  rw [Try.params3] at hty hlen
  obtain ⟨_, xs0, rfl, hx0, hty0⟩ := typedVs_cons hty
  obtain ⟨t0, rfl, h0⟩ := hx0
  obtain ⟨_, xs1, rfl, hx1, hty1⟩ := typedVs_cons hty0
  obtain ⟨t1, rfl, h1⟩ := hx1
  obtain ⟨_, xs2, rfl, hx2, hty2⟩ := typedVs_cons hty1
  obtain ⟨_, rfl, a2, ⟨⟩, w2⟩ := hx2
  obtain rfl := typedVs_nil hty2
  obtain ⟨d0, d1, d2, rfl⟩ := len3 hlen
  obtain ⟨x0, rfl, v0⟩ := ty_Space h0
  obtain ⟨x1, rfl, v1⟩ := ty_Machine h1
  exact law_calls laidOut rfl Try.underlying4 rfl (by kernel_rfl) rfl hx (s_laws_FnExactRunMachine x0 v0 x1 v1 a2 (inI_of w2)) hW
theorem fnExactRunMachine_holds : Rows.FnExactRunMachineSaid :=
  OpenClaim.holds_of_wide 3 Try.f3 rfl rfl rfl rfl rfl rfl rfl ⟨rfl, rfl, rfl, rfl, rfl⟩ rfl rfl rfl rfl rfl (by kernel_rfl) Try.func3 (by kernel_rfl)
    (of_decide_eq_true (by kernel_rfl)) (by unfold Func.isWrapper; first | (rw [if_pos (by decide +kernel)]; kernel_rfl) | (rw [if_neg (by decide +kernel)]; exact ⟨rfl, rfl⟩))
    (fun os started H enc _ => fnExactRunMachine_lifted os started H enc)
end Go.Proofs.Ytehniaekfijmiaa
