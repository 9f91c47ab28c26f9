/- The law 'FnExactFramesAt': its function answers true; it leaves its arguments as they were. Conditions: none beyond the given statement. -/
import Derived.Test.YtnadkeiidbgmjaaBase
import Derived.Test.YtnadkeiidbgmjaaMkB
import Derived.Test.YtnadkeiidbgmjaaFnsU
namespace Go.Proofs.Ytnadkeiidbgmjaa
open Go.Sim Go.ChangeShapes Go.WideShapes Go.ChangeAt Go.RowKit
set_option maxRecDepth 100000
set_option maxHeartbeats 4000000
theorem s_laws_FnExactFramesAt (x0 : TDebug) (hw0 : x0.wf) (x1 : Int) (hw1 : inI x1) (x2 : Bool) : Sim.Spec Try.prog 13 [.agg x0.tr, tvI x1, tvB x2] (rB true) := by
  refine spec_of_W hΓ hmix Try.func13 rfl (by decide) rfl ?_
  have hsz0 := s_laws_szDebug x0 hw0 (1048576) (by omega) (by omega)
  repeat' (
    (conv => whnf)
    first
    | refine seq_inl ?_
    | refine And.intro (Obl.out (?_ : Obl _)) ?_
    | refine ifB_intro (fun h => ?_) (fun h => ?_)
    | refine Or.inl (call_intro (hsz0) (And.intro (And.intro rfl (And.intro rfl (And.intro rfl (And.intro rfl (And.intro rfl trivial))))) (And.intro rfl trivial)) ?_)
    | refine Exists.intro _ (And.intro rfl ?_)
    | ((with_reducible show _ = _); rfl))
  all_goals try (
    (with_reducible refine Obl.mk ?_)
    first
    | ((with_reducible show regOk _ _ = true); kernel_rfl)
    | ((with_reducible show eqTyOk _ _ = true); kernel_rfl)
    | rfl
    | exact trivial
    | ((repeat' (first | exact trivial | refine And.intro ?_ ?_)); done)
    | decide
    | (intro r hr; simp only [List.mem_cons, List.not_mem_nil, or_false] at hr; first | (subst hr; rfl) | (rcases hr with rfl | rfl <;> rfl) | (rcases hr with rfl | rfl | rfl <;> rfl) | (rcases hr with rfl | rfl | rfl | rfl <;> rfl))
    | (refine And.intro ?_ ?_ <;> simp only [List.length_map, List.length_append, List.length_cons, List.length_nil] <;> omega))
  have hsm0 := szR_small (L := 1048576) _ _ (Int.not_lt.1 (of_decide_eq_false h)) (by omega)
  have hnn0 := Int.not_lt.1 (of_decide_eq_false h)
  clear h
  have hs0 := hsm0.1
  have hspec := s_spec_FramesAt x0 x1 x2 hs0
  have himpl := s_impl_FramesAt x0 x1 x2 hs0
  have hr0 : smallT 1048576 (.lst 2 ((oL (framesAt x0 x1 x2)).map TFrame.tr)) := framesAt_small hs0 hnn0
  generalize oL (framesAt x0 x1 x2) = R0 at *
  generalize (framesAt x0 x1 x2).isSome = R1 at *
  have heqr0 := s_laws_eqFrameS R0 hr0
  have hrc0_0 := cn_FrameS _ hr0
  have hmkr0 := g_laws_markFrameS R0 1 (by omega) (Nat.le_trans (small_nat hr0) (by omega)) (by omega)
  have hhdr0 := s_laws_heldFrameS R0 1 (by omega) (Nat.le_trans (small_nat hr0) (by omega)) (by omega)
  have hto0 := s_laws_toDebug x0 hs0
  have heq0 := s_laws_eqDebug x0 hs0
  have hs0u := hs0
  simp only [TDebug.tr, smallR] at hs0u
  have hac0_0 := cn_SymbolS _ (hs0u.2.1)
  have hac0_1 := cn_RuleS _ (hs0u.2.2.1)
  have hac0_2 := cn_RowS _ (hs0u.2.2.2.1)
  have hac0_3 := cn_InlineS _ (hs0u.2.2.2.2.1)
  have hmka0 := g_laws_markDebug x0 (1) (by omega) (Nat.le_trans (small_nat (hs0u.2.1)) (by omega)) (Nat.le_trans (small_nat (hs0u.2.2.1)) (by omega)) (Nat.le_trans (small_nat (hs0u.2.2.2.1)) (by omega)) (Nat.le_trans (small_nat (hs0u.2.2.2.2.1)) (by omega)) (by omega)
  repeat' (
    (conv => whnf)
    first
    | refine callG_intro (hmka0) ?_
    | refine callG_intro (hmkr0) ?_
    | refine seq_inl ?_
    | refine And.intro (Obl.out (?_ : Obl _)) ?_
    | refine ifB_intro (fun h => ?_) (fun h => ?_)
    | refine Or.inl (call_intro (heqr0) (And.intro rfl (And.intro rfl trivial)) ?_)
    | refine Or.inl (call_intro (hhdr0) (And.intro rfl (And.intro rfl trivial)) ?_)
    | refine Or.inl (call_intro (hto0) (And.intro (And.intro rfl (And.intro rfl (And.intro rfl (And.intro rfl (And.intro rfl trivial))))) trivial) ?_)
    | refine Or.inl (call_intro (heq0) (And.intro (And.intro rfl (And.intro rfl (And.intro rfl (And.intro rfl (And.intro rfl trivial))))) (And.intro (And.intro rfl (And.intro rfl (And.intro rfl (And.intro rfl (And.intro rfl trivial))))) trivial)) ?_)
    | refine Or.inl (call_intro (hspec) (And.intro (And.intro rfl (And.intro rfl (And.intro rfl (And.intro rfl (And.intro rfl trivial))))) (And.intro rfl (And.intro rfl trivial))) ?_)
    | refine Or.inl (call_intro (himpl) (And.intro (And.intro rfl (And.intro rfl (And.intro rfl (And.intro rfl (And.intro rfl trivial))))) (And.intro rfl (And.intro rfl trivial))) ?_)
    | refine Exists.intro _ (And.intro rfl ?_)
    | ((with_reducible show _ = _); rfl))
  all_goals try (
    (with_reducible refine Obl.mk ?_)
    first
    | ((with_reducible show regOk _ _ = true); kernel_rfl)
    | ((with_reducible show eqTyOk _ _ = true); kernel_rfl)
    | rfl
    | exact trivial
    | ((repeat' (first | exact trivial | refine And.intro ?_ ?_)); done)
    | decide
    | (intro r hr; simp only [List.mem_cons, List.not_mem_nil, or_false] at hr; first | (subst hr; rfl) | (rcases hr with rfl | rfl <;> rfl) | (rcases hr with rfl | rfl | rfl <;> rfl) | (rcases hr with rfl | rfl | rfl | rfl <;> rfl))
    | (refine And.intro ?_ ?_ <;> simp only [List.length_map, List.length_append, List.length_cons, List.length_nil] <;> omega))
  all_goals (exfalso; first | (simp at h; done) | (have h' := of_decide_eq_true h; omega))
theorem fnExactFramesAt_lifted (os : Os) (started : os.Started) (H : Type) (enc : TypeId × Value → H) :
    ReturnsInHanded {} Try.checked os 13 .any (Rows.fnExactFramesAtSpec.pre6 enc Try.prog Try.f13 Rows.fnExactFramesAtRow.domain false) (Rows.fnExactFramesAtSpec.post enc Try.prog Try.f13 false true false false) := by
  refine returnsInHanded_of_change (C := Try.checked) own started (by kernel_rfl) Try.func13
    (ChangeSpec.witness6 (enc := enc) (C := Try.checked) false ⟨#[], #[.agg #[.int .i64 0, .slice none 0 0, .slice none 0 0, .slice none 0 0, .slice none 0 0], .int .i64 0, .bool false], []⟩ 8 (by kernel_rfl) (by kernel_rfl) (by kernel_rfl) (by kernel_rfl)) ?_
  intro W base args ds gs before hval hW _ _
  have hW0 := hW
  obtain ⟨p, q, hA, _, _, _, _⟩ := hW0
  have hlen := trodAll_len hA
  obtain ⟨xs, hx, hty⟩ := args_typed (n := 8) hΓ (by kernel_rfl) (fun j t v h1 h2 => hval j t v (by simpa using h1) (by simpa using h2)) hA
  rw [Try.params13] at hty hlen
  obtain ⟨_, xs0, rfl, hx0, hty0⟩ := typedVs_cons hty
  obtain ⟨t0, rfl, h0⟩ := hx0
  obtain ⟨_, xs1, rfl, hx1, hty1⟩ := typedVs_cons hty0
  obtain ⟨_, rfl, a1, ⟨⟩, w1⟩ := hx1
  obtain ⟨_, xs2, rfl, hx2, hty2⟩ := typedVs_cons hty1
  obtain ⟨_, rfl, a2, ⟨⟩⟩ := hx2
  obtain rfl := typedVs_nil hty2
  obtain ⟨d0, d1, d2, rfl⟩ := len3 hlen
  obtain ⟨x0, rfl, v0⟩ := ty_Debug h0
  exact law_calls laidOut rfl Try.underlying4 rfl (by kernel_rfl) rfl hx (s_laws_FnExactFramesAt x0 v0 a1 (inI_of w1) a2) hW
theorem fnExactFramesAt_holds : Rows.FnExactFramesAtSaid :=
  OpenClaim.holds_of_wide 13 Try.f13 rfl rfl rfl rfl rfl rfl rfl ⟨rfl, rfl, rfl, rfl, rfl⟩ rfl rfl rfl rfl rfl (by kernel_rfl) Try.func13 (by kernel_rfl)
    (of_decide_eq_true (by kernel_rfl)) (by unfold Func.isWrapper; first | (rw [if_pos (by decide +kernel)]; kernel_rfl) | (rw [if_neg (by decide +kernel)]; exact ⟨rfl, rfl⟩))
    (fun os started H enc _ => fnExactFramesAt_lifted os started H enc)
end Go.Proofs.Ytnadkeiidbgmjaa
