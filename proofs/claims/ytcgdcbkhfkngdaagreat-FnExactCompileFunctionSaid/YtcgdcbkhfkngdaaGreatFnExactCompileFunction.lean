import Derived.Test.YtcgdcbkhfkngdaaGreatGi
namespace Go.Proofs.YtcgdcbkhfkngdaaGreat
open Go.Sim Go.ChangeShapes Go.WideShapes Go.ChangeAt Go.RowKit
set_option maxRecDepth 100000
set_option maxHeartbeats 4000000
theorem s_laws_FnExactCompileFunction (x0 : List TLine) (hw0 : (x0.length ≤ maxLen ∧ ∀ y ∈ x0,y.wf)) (x1 : Int) (hw1 : inI x1) (x2 : TBuild) (hw2 : x2.wf) : Sim.Spec Tryz.prog 3 [tvL 4 (x0.map TLine.tr),tvI x1,.agg x2.tr] (rB true) := by
 refine spec_of_W hΓ hmix Tryz.func3 rfl (by decide) rfl ?_
 have hsz0 := s_laws_szLineS x0 hw0 (1048576) (by omega) (by omega)
 repeat' ((conv => whnf);first|apply seq_inl|apply reg_inl|refine oi ?_ ?_|(refine fi ?_ ?_<;>intro h)|refine .inl (ci hsz0 (ai rfl (ai rfl trivial)) ?_)|refine Exists.intro _ (ai rfl ?_)|((with_reducible show _ = _);rfl))
 all_goals try ((with_reducible refine Obl.mk ?_);exact K1)
 have hsm0 := szT_small (L := 1048576) _ _ (Int.not_lt.1 (of_decide_eq_false h)) (by omega)
 have hnn0 := Int.not_lt.1 (of_decide_eq_false h)
 clear h
 have hs0 := hsm0.1
 have hspec := s_spec_CompileFunction x0 x1 x2 hs0
 have himpl := g_impl_CompileFunction x0 x1 x2 hs0
 have hr0 : smallT 1048576 (.lst 7 ((compileF x0 x1 x2).map TItem.tr)) := compileF_small hs0
 generalize compileF x0 x1 x2 = R0 at *
 have heqr0 := s_laws_eqItemS R0 hr0
 have hrc0_0 := cn_ItemS _ hr0
 have hmkr0 := g_laws_markItemS R0 1 (by omega) (Nat.le_trans (small_nat hr0) (by omega)) (by omega) (hin_ItemS _ hr0)
 have hhdr0 := s_laws_heldItemS R0 1 (by omega) (Nat.le_trans (small_nat hr0) (by omega)) (by omega) (hin_ItemS _ hr0)
 have hto0 := g_laws_toLineS x0 hs0
 have heq0 := s_laws_eqLineS x0 hs0
 have hac0_0 := cn_LineS _ hs0
 have hmka0 := g_laws_markLineS x0 (1) (by omega) (Nat.le_trans (small_nat hs0) (by omega)) (by omega) (hin_LineS _ hs0)
 have hto2 := s_laws_toBuild x2 (by simp [TBuild.tr,smallR,smallT])
 repeat' ((conv => whnf);first|refine cg hmka0 ?_|refine cg hmkr0 ?_|refine cg hto0 ?_|refine cg himpl ?_|apply seq_inl|apply reg_inl|refine oi ?_ ?_|(refine fi ?_ ?_<;>intro h)|refine .inl (ci heqr0 (ai (deep_eq _ _) (ai rfl trivial)) ?_)|refine .inl (ci hhdr0 (ai (deep_eq _ _) (ai rfl trivial)) ?_)|refine .inl (ci heq0 (ai (deep_eq _ _) (ai (deep_eq _ _) trivial)) ?_)|refine .inl (ci hto2 (ai (ai rfl (ai rfl (ai rfl (ai rfl trivial)))) trivial) ?_)|refine .inl (ci hspec (ai (deep_eq _ _) (ai rfl (ai (ai rfl (ai rfl (ai rfl (ai rfl trivial)))) trivial))) ?_)|refine Exists.intro _ (ai rfl ?_)|((with_reducible show _ = _);rfl))
 all_goals try ((with_reducible refine Obl.mk ?_);exact K1)
 all_goals try exact ⟨deep_eq _ _⟩
 all_goals try exact ⟨allD_deep _⟩
 all_goals (exfalso;first|(simp at h;done)|(have h' := of_decide_eq_true h;omega))
theorem fnExactCompileFunction_lifted (os : Os) (started : os.Started) (H : Type) (enc : TypeId × Value → H) :
  ReturnsInHanded {} Tryz.checked os 3 .any (Rows.fnExactCompileFunctionSpec.pre6 enc Tryz.prog Tryz.f3 Rows.fnExactCompileFunctionRow.domain false) (Rows.fnExactCompileFunctionSpec.post enc Tryz.prog Tryz.f3 false true false false) := by
 refine returnsInHanded_of_change (C := Tryz.checked) own started (by kernel_rfl) Tryz.func3
  (ChangeSpec.witness6 (enc := enc) (C := Tryz.checked) false ⟨#[],#[.slice none 0 0,.int .i64 0,.agg #[.int .i64 0,.int .i64 0,.bool false,.bool false]],[]⟩ 8 (by kernel_rfl) (by kernel_rfl) (by kernel_rfl) (by kernel_rfl)) ?_
 intro W base args ds gs before hval hW _ _
 have hW0 := hW
 obtain ⟨p,q,hA,_,_,_,_⟩ := hW0
 have hlen := trodAll_len hA
 obtain ⟨xs,hx,hty⟩ := args_typed (n := 8) hΓ (by kernel_rfl) (fun j t v h1 h2 => hval j t v (by simpa using h1) (by simpa using h2)) hA
 rw [Tryz.params3] at hty hlen
 obtain ⟨_,xs0,rfl,hx0,hty0⟩ := typedVs_cons hty
 obtain ⟨_,rfl,r0,⟨⟩,l0,e0⟩ := hx0
 obtain ⟨_,xs1,rfl,hx1,hty1⟩ := typedVs_cons hty0
 obtain ⟨_,rfl,a1,⟨⟩,w1⟩ := hx1
 obtain ⟨_,xs2,rfl,hx2,hty2⟩ := typedVs_cons hty1
 obtain ⟨t2,rfl,h2⟩ := hx2
 obtain rfl := typedVs_nil hty2
 obtain ⟨d0,d1,d2,rfl⟩ := len3 hlen
 obtain ⟨x0,rfl,v0⟩ := rows_map (g := TLine.tr) (Q := (fun y => y.wf)) (rows := r0) (fun r hr => ty_Line (typed_le (by decide) (e0 r hr)))
 obtain ⟨x2,rfl,v2⟩ := ty_Build h2
 exact law_calls laidOut rfl Tryz.underlying4 rfl (by kernel_rfl) rfl hx (s_laws_FnExactCompileFunction x0 ⟨by simpa using l0,v0⟩ a1 (inI_of w1) x2 v2) hW
theorem fnExactCompileFunction_holds : Rows.FnExactCompileFunctionSaid :=
 OpenClaim.holds_of_wide 3 Tryz.f3 rfl rfl rfl rfl rfl rfl rfl ⟨rfl,rfl,rfl,rfl,rfl⟩ rfl rfl rfl rfl rfl (by kernel_rfl) Tryz.func3 (by kernel_rfl)
  (of_decide_eq_true (by kernel_rfl)) (by unfold Func.isWrapper;first|(rw [if_pos (by decide +kernel)];kernel_rfl)|(rw [if_neg (by decide +kernel)];exact ⟨rfl,rfl⟩))
  (fun os started H enc _ => fnExactCompileFunction_lifted os started H enc)
end Go.Proofs.YtcgdcbkhfkngdaaGreat
