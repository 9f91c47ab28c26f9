/- The law 'FnExactDecodeDebug': its function answers true; it leaves its arguments as they were. Conditions: none beyond the given statement. -/
import Derived.Test.YtflolafbblohnaaBase
import Derived.Test.YtflolafbblohnaaMkB
import Derived.Test.YtflolafbblohnaaFnsZf
namespace Go.Proofs.Ytflolafbblohnaa
open Go.Sim Go.ChangeShapes Go.WideShapes Go.ChangeAt Go.RowKit
set_option maxRecDepth 100000
set_option maxHeartbeats 4000000
theorem s_laws_FnExactDecodeDebug (x0 : List UInt8) (hw0 : x0.length ≤ maxLen) : Sim.Spec Try.prog 4 [tvS x0] (rB true) := by
  refine spec_of_W hΓ hmix Try.func4 rfl (by decide) rfl ?_
  repeat' (
    (conv => whnf)
    first
    | refine seq_inl ?_
    | refine And.intro (Obl.out (?_ : Obl _)) ?_
    | refine ifB_intro (fun h => ?_) (fun h => ?_)
    | refine Exists.intro _ (And.intro rfl ?_)
    | ((with_reducible show _ = _); rfl))
  all_goals try (
    (with_reducible refine Obl.mk ?_)
    first
    | ((with_reducible show regOk _ _ = true); kernel_rfl)
    | ((with_reducible show eqTyOk _ _ = true); kernel_rfl)
    | rfl
    | exact trivial
    | ((repeat' (first | exact trivial | refine And.intro ?_ ?_)); done)
    | decide
    | (intro r hr; simp only [List.mem_cons, List.not_mem_nil, or_false] at hr; first | (subst hr; rfl) | (rcases hr with rfl | rfl <;> rfl) | (rcases hr with rfl | rfl | rfl <;> rfl) | (rcases hr with rfl | rfl | rfl | rfl <;> rfl))
    | (refine And.intro ?_ ?_ <;> simp only [List.length_map, List.length_append, List.length_cons, List.length_nil] <;> omega))
  have hs0 : x0.length ≤ 1048576 := by have := of_decide_eq_false h; omega
  clear h
  have hspec := s_spec_DecodeDebug x0 hs0
  have himpl := s_impl_DecodeDebug x0 hs0
  have hr0 : smallR 1048576 (oD (decodeDebug x0)).tr := decodeDebug_small hs0
  generalize oD (decodeDebug x0) = R0 at *
  generalize (decodeDebug x0).isSome = R1 at *
  have heqr0 := s_laws_eqDebug R0 hr0
  have hr0u := hr0
  simp only [TDebug.tr, smallR] at hr0u
  have hrc0_0 := cn_SymbolS _ (hr0u.2.1)
  have hrc0_1 := cn_RuleS _ (hr0u.2.2.1)
  have hrc0_2 := cn_RowS _ (hr0u.2.2.2.1)
  have hrc0_3 := cn_InlineS _ (hr0u.2.2.2.2.1)
  have hmkr0 := g_laws_markDebug R0 1 (by omega) (Nat.le_trans (small_nat (hr0u.2.1)) (by omega)) (Nat.le_trans (small_nat (hr0u.2.2.1)) (by omega)) (Nat.le_trans (small_nat (hr0u.2.2.2.1)) (by omega)) (Nat.le_trans (small_nat (hr0u.2.2.2.2.1)) (by omega)) (by omega)
  have hhdr0 := s_laws_heldDebug R0 1 (by omega) (Nat.le_trans (small_nat (hr0u.2.1)) (by omega)) (Nat.le_trans (small_nat (hr0u.2.2.1)) (by omega)) (Nat.le_trans (small_nat (hr0u.2.2.2.1)) (by omega)) (Nat.le_trans (small_nat (hr0u.2.2.2.2.1)) (by omega)) (by omega)
  repeat' (
    (conv => whnf)
    first
    | refine callG_intro (hmkr0) ?_
    | refine seq_inl ?_
    | refine And.intro (Obl.out (?_ : Obl _)) ?_
    | refine ifB_intro (fun h => ?_) (fun h => ?_)
    | refine Or.inl (call_intro (heqr0) (And.intro (And.intro rfl (And.intro rfl (And.intro rfl (And.intro rfl (And.intro rfl trivial))))) (And.intro (And.intro rfl (And.intro rfl (And.intro rfl (And.intro rfl (And.intro rfl trivial))))) trivial)) ?_)
    | refine Or.inl (call_intro (hhdr0) (And.intro (And.intro rfl (And.intro rfl (And.intro rfl (And.intro rfl (And.intro rfl trivial))))) (And.intro rfl trivial)) ?_)
    | refine Or.inl (call_intro (hspec) (And.intro rfl trivial) ?_)
    | refine Or.inl (call_intro (himpl) (And.intro rfl trivial) ?_)
    | refine Exists.intro _ (And.intro rfl ?_)
    | ((with_reducible show _ = _); rfl))
  all_goals try (
    (with_reducible refine Obl.mk ?_)
    first
    | ((with_reducible show regOk _ _ = true); kernel_rfl)
    | ((with_reducible show eqTyOk _ _ = true); kernel_rfl)
    | rfl
    | exact trivial
    | ((repeat' (first | exact trivial | refine And.intro ?_ ?_)); done)
    | decide
    | (intro r hr; simp only [List.mem_cons, List.not_mem_nil, or_false] at hr; first | (subst hr; rfl) | (rcases hr with rfl | rfl <;> rfl) | (rcases hr with rfl | rfl | rfl <;> rfl) | (rcases hr with rfl | rfl | rfl | rfl <;> rfl))
    | (refine And.intro ?_ ?_ <;> simp only [List.length_map, List.length_append, List.length_cons, List.length_nil] <;> omega))
  all_goals (exfalso; first | (simp at h; done) | (have h' := of_decide_eq_true h; omega))
theorem fnExactDecodeDebug_lifted (os : Os) (started : os.Started) (H : Type) (enc : TypeId × Value → H) :
    ReturnsInHanded {} Try.checked os 4 .any (Rows.fnExactDecodeDebugSpec.pre6 enc Try.prog Try.f4 Rows.fnExactDecodeDebugRow.domain false) (Rows.fnExactDecodeDebugSpec.post enc Try.prog Try.f4 false true false false) := by
  refine returnsInHanded_of_change (C := Try.checked) own started (by kernel_rfl) Try.func4
    (ChangeSpec.witness6 (enc := enc) (C := Try.checked) false ⟨#[], #[.string ⟨#[]⟩], []⟩ 8 (by kernel_rfl) (by kernel_rfl) (by kernel_rfl) (by kernel_rfl)) ?_
  intro W base args ds gs before hval hW _ _
  have hW0 := hW
  obtain ⟨p, q, hA, _, _, _, _⟩ := hW0
  have hlen := trodAll_len hA
  obtain ⟨xs, hx, hty⟩ := args_typed (n := 8) hΓ (by kernel_rfl) (fun j t v h1 h2 => hval j t v (by simpa using h1) (by simpa using h2)) hA
  rw [Try.params4] at hty hlen
  obtain ⟨_, xs0, rfl, hx0, hty0⟩ := typedVs_cons hty
  obtain ⟨_, rfl, a0, ⟨⟩, w0⟩ := hx0
  obtain rfl := typedVs_nil hty0
  obtain ⟨d0, rfl⟩ := len1 hlen
  exact law_calls laidOut rfl Try.underlying4 rfl (by kernel_rfl) rfl hx (s_laws_FnExactDecodeDebug a0 w0) hW
theorem fnExactDecodeDebug_holds : Rows.FnExactDecodeDebugSaid :=
  OpenClaim.holds_of_wide 4 Try.f4 rfl rfl rfl rfl rfl rfl rfl ⟨rfl, rfl, rfl, rfl, rfl⟩ rfl rfl rfl rfl rfl (by kernel_rfl) Try.func4 (by kernel_rfl)
    (of_decide_eq_true (by kernel_rfl)) (by unfold Func.isWrapper; first | (rw [if_pos (by decide +kernel)]; kernel_rfl) | (rw [if_neg (by decide +kernel)]; exact ⟨rfl, rfl⟩))
    (fun os started H enc _ => fnExactDecodeDebug_lifted os started H enc)
end Go.Proofs.Ytflolafbblohnaa
