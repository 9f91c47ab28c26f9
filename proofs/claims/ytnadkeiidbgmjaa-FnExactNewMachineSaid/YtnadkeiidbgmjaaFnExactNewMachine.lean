/- The law 'FnExactNewMachine': its function answers true; it leaves its arguments as they were. Conditions: none beyond the given statement. -/
import Derived.Test.YtnadkeiidbgmjaaBase
import Derived.Test.YtnadkeiidbgmjaaMkB
import Derived.Test.YtnadkeiidbgmjaaFnsZ
namespace Go.Proofs.Ytnadkeiidbgmjaa
open Go.Sim Go.ChangeShapes Go.WideShapes Go.ChangeAt Go.RowKit
set_option maxRecDepth 100000
set_option maxHeartbeats 4000000
theorem s_laws_FnExactNewMachine (x0 : TSpace) (hw0 : x0.wf) : Sim.Spec Try.prog 12 [.agg x0.tr] (rB true) := by
  refine spec_of_W hΓ hmix Try.func12 rfl (by decide) rfl ?_
  have hsz0 := s_laws_szSpace x0 hw0 (1048576) (by omega) (by omega)
  repeat' (
    (conv => whnf)
    first
    | refine seq_inl ?_
    | refine And.intro (Obl.out (?_ : Obl _)) ?_
    | refine ifB_intro (fun h => ?_) (fun h => ?_)
    | refine Or.inl (call_intro (hsz0) (And.intro (And.intro rfl (And.intro rfl (And.intro rfl trivial))) (And.intro rfl trivial)) ?_)
    | refine Exists.intro _ (And.intro rfl ?_)
    | ((with_reducible show _ = _); rfl))
  all_goals try (
    (with_reducible refine Obl.mk ?_)
    first
    | ((with_reducible show regOk _ _ = true); kernel_rfl)
    | ((with_reducible show eqTyOk _ _ = true); kernel_rfl)
    | rfl
    | exact trivial
    | ((repeat' (first | exact trivial | refine And.intro ?_ ?_)); done)
    | decide
    | (intro r hr; simp only [List.mem_cons, List.not_mem_nil, or_false] at hr; first | (subst hr; rfl) | (rcases hr with rfl | rfl <;> rfl) | (rcases hr with rfl | rfl | rfl <;> rfl) | (rcases hr with rfl | rfl | rfl | rfl <;> rfl))
    | (refine And.intro ?_ ?_ <;> simp only [List.length_map, List.length_append, List.length_cons, List.length_nil] <;> omega))
  have hsm0 := szR_small (L := 1048576) _ _ (Int.not_lt.1 (of_decide_eq_false h)) (by omega)
  have hnn0 := Int.not_lt.1 (of_decide_eq_false h)
  clear h
  have hs0 := hsm0.1
  have hspec := s_spec_NewMachine x0 hs0
  have himpl := s_impl_NewMachine x0 hs0
  have hr0 : smallR 1048576 (newM x0).tr := newM_small x0
  generalize newM x0 = R0 at *
  generalize spaceOk x0 = R1 at *
  have heqr0 := s_laws_eqMachine R0 hr0
  have hr0u := hr0
  simp only [TMachine.tr, smallR] at hr0u
  have hrc0_0 := cn_IntS _ (hr0u.2.2.2.1)
  have hrc0_1 := cn_IntS _ (hr0u.2.2.2.2.1)
  have hmkr0 := g_laws_markMachine R0 1 (by omega) (Nat.le_trans (small_nat (hr0u.2.2.2.1)) (by omega)) (Nat.le_trans (small_nat (hr0u.2.2.2.2.1)) (by omega)) (by omega)
  have hhdr0 := s_laws_heldMachine R0 1 (by omega) (Nat.le_trans (small_nat (hr0u.2.2.2.1)) (by omega)) (Nat.le_trans (small_nat (hr0u.2.2.2.2.1)) (by omega)) (by omega)
  have hto0 := g_laws_toSpace x0 hs0
  have heq0 := s_laws_eqSpace x0 hs0
  have hs0u := hs0
  simp only [TSpace.tr, smallR] at hs0u
  have hac0_0 := cn_ImageS _ (hs0u.1)
  have hac0_1 := cn_IntS _ (hs0u.2.1)
  have hac0_2 := cn_IntS _ (hs0u.2.2.1)
  have hmka0 := g_laws_markSpace x0 (1) (by omega) (Nat.le_trans (small_nat (hs0u.1)) (by omega)) (hin_ImageS _ (hs0u.1)) (Nat.le_trans (small_nat (hs0u.2.1)) (by omega)) (Nat.le_trans (small_nat (hs0u.2.2.1)) (by omega)) (by omega)
  repeat' (
    (conv => whnf)
    first
    | refine callG_intro (hmka0) ?_
    | refine callG_intro (hmkr0) ?_
    | refine callG_intro (hto0) ?_
    | refine seq_inl ?_
    | refine And.intro (Obl.out (?_ : Obl _)) ?_
    | refine ifB_intro (fun h => ?_) (fun h => ?_)
    | refine Or.inl (call_intro (heqr0) (And.intro (And.intro rfl (And.intro rfl (And.intro rfl (And.intro rfl (And.intro rfl (And.intro rfl (And.intro rfl trivial))))))) (And.intro (And.intro rfl (And.intro rfl (And.intro rfl (And.intro rfl (And.intro rfl (And.intro rfl (And.intro rfl trivial))))))) trivial)) ?_)
    | refine Or.inl (call_intro (hhdr0) (And.intro (And.intro rfl (And.intro rfl (And.intro rfl (And.intro rfl (And.intro rfl (And.intro rfl (And.intro rfl trivial))))))) (And.intro rfl trivial)) ?_)
    | refine Or.inl (call_intro (heq0) (And.intro (And.intro (deep_eq _ _) (And.intro rfl (And.intro rfl trivial))) (And.intro (And.intro (deep_eq _ _) (And.intro rfl (And.intro rfl trivial))) trivial)) ?_)
    | refine Or.inl (call_intro (hspec) (And.intro (And.intro (deep_eq _ _) (And.intro rfl (And.intro rfl trivial))) trivial) ?_)
    | refine Or.inl (call_intro (himpl) (And.intro (And.intro (deep_eq _ _) (And.intro rfl (And.intro rfl trivial))) trivial) ?_)
    | refine Exists.intro _ (And.intro rfl ?_)
    | ((with_reducible show _ = _); rfl))
  all_goals try (
    (with_reducible refine Obl.mk ?_)
    first
    | ((with_reducible show regOk _ _ = true); kernel_rfl)
    | ((with_reducible show eqTyOk _ _ = true); kernel_rfl)
    | rfl
    | exact trivial
    | ((repeat' (first | exact trivial | refine And.intro ?_ ?_)); done)
    | decide
    | (intro r hr; simp only [List.mem_cons, List.not_mem_nil, or_false] at hr; first | (subst hr; rfl) | (rcases hr with rfl | rfl <;> rfl) | (rcases hr with rfl | rfl | rfl <;> rfl) | (rcases hr with rfl | rfl | rfl | rfl <;> rfl))
    | (refine And.intro ?_ ?_ <;> simp only [List.length_map, List.length_append, List.length_cons, List.length_nil] <;> omega))
  all_goals (exfalso; first | (simp at h; done) | (have h' := of_decide_eq_true h; omega))
theorem fnExactNewMachine_lifted (os : Os) (started : os.Started) (H : Type) (enc : TypeId × Value → H) :
    ReturnsInHanded {} Try.checked os 12 .any (Rows.fnExactNewMachineSpec.pre6 enc Try.prog Try.f12 Rows.fnExactNewMachineRow.domain false) (Rows.fnExactNewMachineSpec.post enc Try.prog Try.f12 false true false false) := by
  refine returnsInHanded_of_change (C := Try.checked) own started (by kernel_rfl) Try.func12
    (ChangeSpec.witness6 (enc := enc) (C := Try.checked) false ⟨#[], #[.agg #[.slice none 0 0, .slice none 0 0, .slice none 0 0]], []⟩ 8 (by kernel_rfl) (by kernel_rfl) (by kernel_rfl) (by kernel_rfl)) ?_
  intro W base args ds gs before hval hW _ _
  have hW0 := hW
  obtain ⟨p, q, hA, _, _, _, _⟩ := hW0
  have hlen := trodAll_len hA
  obtain ⟨xs, hx, hty⟩ := args_typed (n := 8) hΓ (by kernel_rfl) (fun j t v h1 h2 => hval j t v (by simpa using h1) (by simpa using h2)) hA
  rw [Try.params12] at hty hlen
  obtain ⟨_, xs0, rfl, hx0, hty0⟩ := typedVs_cons hty
  obtain ⟨t0, rfl, h0⟩ := hx0
  obtain rfl := typedVs_nil hty0
  obtain ⟨d0, rfl⟩ := len1 hlen
  obtain ⟨x0, rfl, v0⟩ := ty_Space h0
  exact law_calls laidOut rfl Try.underlying4 rfl (by kernel_rfl) rfl hx (s_laws_FnExactNewMachine x0 v0) hW
theorem fnExactNewMachine_holds : Rows.FnExactNewMachineSaid :=
  OpenClaim.holds_of_wide 12 Try.f12 rfl rfl rfl rfl rfl rfl rfl ⟨rfl, rfl, rfl, rfl, rfl⟩ rfl rfl rfl rfl rfl (by kernel_rfl) Try.func12 (by kernel_rfl)
    (of_decide_eq_true (by kernel_rfl)) (by unfold Func.isWrapper; first | (rw [if_pos (by decide +kernel)]; kernel_rfl) | (rw [if_neg (by decide +kernel)]; exact ⟨rfl, rfl⟩))
    (fun os started H enc _ => fnExactNewMachine_lifted os started H enc)
end Go.Proofs.Ytnadkeiidbgmjaa
