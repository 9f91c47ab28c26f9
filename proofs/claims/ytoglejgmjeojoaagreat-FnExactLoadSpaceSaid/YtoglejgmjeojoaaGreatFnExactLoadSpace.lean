/- The law FnExactLoadSpace answers true for every input and leaves its arguments as they were. Conditions: none beyond the given statement. -/
import Derived.Test.YtoglejgmjeojoaaGreatGj
namespace Go.Proofs.YtoglejgmjeojoaaGreat
open Go.Sim Go.ChangeShapes Go.WideShapes Go.ChangeAt Go.RowKit
set_option maxRecDepth 100000
set_option maxHeartbeats 4000000
theorem jM (x0:List FX)(hw0:(x0.length≤maxLen∧∀y∈x0,y.wf))(x1:FO)(hw1:x1.wf)(x2:Int)(hw2:inI x2)(x3:Int)(hw3:inI x3):Sim.Spec Tryz.prog 6 [tvL 4 (x0.map FX.tr),.agg x1.tr,tvI x2,tvI x3] (rB true):=by
 refine aj hΓ ao Tryz.func6 rfl (by decide) rfl ?_
 have hsz0:=tt x0 hw0 (1048576) (by omega) (by omega)
 repeat' ((conv=>whnf);first|refine ep ?_|apply aZ|apply oi|(apply fi<;>intro h)|refine cl hsz0 ?_|refine⟨_,rfl,?_⟩|exact rfl)
 all_goals try exact⟨KO⟩
 have hsm0:=mr (L:=1048576) _ _ (Int.not_lt.1 (of_decide_eq_false h)) (by omega)
 have hnn0:=Int.not_lt.1 (of_decide_eq_false h)
 clear h
 have hs0:=hsm0.1
 have hspec:=pY x0 x1 x2 x3 hs0
 have himpl:=qh x0 x1 x2 x3 hs0
 have hr0:aw 1048576 (oSp (dQ x0 x1 x2 x3)).tr:=za hs0
 generalize oSp (dQ x0 x1 x2 x3)=R0 at *
 generalize(dQ x0 x1 x2 x3).isSome=R1 at *
 have heqr0:=uq R0 hr0
 have hr0u:=hr0
 simp only[Gd.tr,aw]at hr0u
 have hrc0_0:=Ct _ (hr0u.1)
 have hrc0_1:=Ba _ (hr0u.2.1)
 have hrc0_2:=Ba _ (hr0u.2.2.1)
 have hmkr0:=qj R0 1 (by omega) (Nat.le_trans (aI (hr0u.1)) (by omega)) (tZ _ (hr0u.1)) (Nat.le_trans (aI (hr0u.2.1)) (by omega)) (Nat.le_trans (aI (hr0u.2.2.1)) (by omega)) (by omega)
 have hhdr0:=qg R0 1 (by omega) (Nat.le_trans (aI (hr0u.1)) (by omega)) (tZ _ (hr0u.1)) (Nat.le_trans (aI (hr0u.2.1)) (by omega)) (Nat.le_trans (aI (hr0u.2.2.1)) (by omega)) (by omega)
 have hto0:=ux x0 hs0
 have heq0:=th x0 hs0
 have hac0_0:=DA _ hs0
 have hmka0:=qm x0 (1) (by omega) (Nat.le_trans (aI hs0) (by omega)) (by omega) (Cl _ hs0)
 have hto1:=uu x1 (by simp[FO.tr,aw,ay])
 repeat' ((conv=>whnf);first|refine cg hmka0 ?_|refine cg hmkr0 ?_|refine cg hto0 ?_|refine cg himpl ?_|refine ep ?_|apply aZ|apply oi|(apply fi<;>intro h)|refine .inl (ci heqr0 (ai (ai (mR _ _) (ai rfl (ai rfl trivial))) (ai (ai rfl (ai rfl (ai rfl trivial))) trivial)) ?_)|refine .inl (ci hhdr0 (ai (ai (mR _ _) (ai rfl (ai rfl trivial))) (ai rfl trivial)) ?_)|refine .inl (ci heq0 (ai (mR _ _) (ai (mR _ _) trivial)) ?_)|refine cl hto1 ?_|refine .inl (ci hspec (ai (mR _ _) (ai (ai rfl (ai rfl (ai rfl (ai rfl trivial)))) (ai rfl (ai rfl trivial)))) ?_)|refine⟨_,rfl,?_⟩|exact rfl)
 all_goals try exact⟨KO⟩
 all_goals try exact⟨mR _ _⟩
 all_goals try exact⟨mu _⟩
 all_goals(exfalso;first|(simp at h;done)|(have h':=of_decide_eq_true h;omega))
theorem fnExactLoadSpace_lifted (os:Os)(started:os.Started)(H:Type)(enc:TypeId×Value→H):
  ReturnsInHanded {} Tryz.checked os 6 .any (Rows.fnExactLoadSpaceSpec.pre6 enc Tryz.prog Tryz.f6 Rows.fnExactLoadSpaceRow.domain false) (Rows.fnExactLoadSpaceSpec.post enc Tryz.prog Tryz.f6 false true false false):=by
 refine returnsInHanded_of_change (C:=Tryz.checked) own started (by kernel_rfl) Tryz.func6
  (ChangeSpec.witness6 (enc:=enc) (C:=Tryz.checked) false ⟨#[],#[.slice none 0 0,.agg #[.int .i64 0,.int .i64 0,.bool false,.bool false],.int .i64 0,.int .i64 0],[]⟩ 8 (by kernel_rfl) (by kernel_rfl) (by kernel_rfl) (by kernel_rfl)) ?_
 intro W base args ds gs before hval hW _ _
 have hW0:=hW
 obtain⟨p,q,hA,_,_,_,_⟩:=hW0
 have hlen:=rj hA
 obtain⟨xs,hx,hty⟩:=sQ (n:=8) hΓ (by kernel_rfl) (fun j t v h1 h2=>hval j t v (by simpa using h1) (by simpa using h2)) hA
 rw[Tryz.params6]at hty hlen
 obtain⟨_,xs0,rfl,hx0,hty0⟩:=hZ hty
 obtain⟨_,rfl,r0,⟨⟩,l0,e0⟩:=hx0
 obtain⟨_,xs1,rfl,hx1,hty1⟩:=hZ hty0
 obtain⟨t1,rfl,h1⟩:=hx1
 obtain⟨_,xs2,rfl,hx2,hty2⟩:=hZ hty1
 obtain⟨_,rfl,a2,⟨⟩,w2⟩:=hx2
 obtain⟨_,xs3,rfl,hx3,hty3⟩:=hZ hty2
 obtain⟨_,rfl,a3,⟨⟩,w3⟩:=hx3
 obtain rfl:=zc hty3
 obtain⟨d0,d1,d2,d3,rfl⟩:=FN hlen
 obtain⟨x0,rfl,v0⟩:=ow (g:=FX.tr) (Q:=(fun y=>y.wf)) (rows:=r0) (fun r hr=>Ey (zm (by decide) (e0 r hr)))
 obtain⟨x1,rfl,v1⟩:=CJ h1
 exact BD Eu rfl Tryz.underlying4 rfl (by kernel_rfl) rfl hx (jM x0 ⟨by simpa using l0,v0⟩ x1 v1 a2 (nN w2) a3 (nN w3)) hW
theorem fnExactLoadSpace_holds:Rows.FnExactLoadSpaceSaid:=
 OpenClaim.holds_of_wide 6 Tryz.f6 rfl rfl rfl rfl rfl rfl rfl ⟨rfl,rfl,rfl,rfl,rfl⟩ rfl rfl rfl rfl rfl (by kernel_rfl) Tryz.func6 (by kernel_rfl)
  (of_decide_eq_true (by kernel_rfl)) (by unfold Func.isWrapper;first|(rw[if_pos (by decide+kernel)];kernel_rfl)|(rw[if_neg (by decide+kernel)];exact⟨rfl,rfl⟩))
  (fun os started H enc _=>fnExactLoadSpace_lifted os started H enc)
end Go.Proofs.YtoglejgmjeojoaaGreat
