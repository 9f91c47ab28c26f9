/- The law FnExactPlacesOf answers true for every input and leaves its arguments as they were. Conditions: none beyond the given statement. -/
import Derived.Test.YtoglejgmjeojoaaGreatGi
namespace Go.Proofs.YtoglejgmjeojoaaGreat
open Go.Sim Go.ChangeShapes Go.WideShapes Go.ChangeAt Go.RowKit
set_option maxRecDepth 100000
set_option maxHeartbeats 4000000
theorem jk (x0:List CM)(hw0:(x0.length≤maxLen∧∀y∈x0,y.wf))(x1:CE)(hw1:x1.wf)(x2:Int)(hw2:inI x2):Sim.Spec Tryz.prog 5 [tvL 4 (x0.map CM.tr),.agg x1.tr,tvI x2] (rB true):=by
 refine aj hΓ aq Tryz.func5 rfl (by decide) rfl ?_
 have hsz0:=qR x0 hw0 (1048576) (by omega) (by omega)
 repeat' ((conv=>whnf);first|refine fM ?_|apply bg|apply oi|(apply fi<;>intro h)|refine cl hsz0 ?_|refine⟨_,rfl,?_⟩|exact rfl)
 all_goals try exact⟨KO⟩
 have hsm0:=lw (L:=1048576) _ _ (Int.not_lt.1 (of_decide_eq_false h)) (by omega)
 have hnn0:=Int.not_lt.1 (of_decide_eq_false h)
 clear h
 have hs0:=hsm0.1
 have hspec:=px x0 x1 x2 hs0
 have himpl:=pM x0 x1 x2 hs0
 have hr0:aA 1048576 (.lst 8 ((cv x0 x1 x2).map CP.tr)):=rX hs0
 generalize cv x0 x1 x2=R0 at *
 have heqr0:=pO R0 hr0
 have hrc0_0:=yL _ hr0
 have hmkr0:=nC R0 1 (by omega) (Nat.le_trans (bo hr0) (by omega)) (by omega) (sb _ hr0)
 have hhdr0:=nz R0 1 (by omega) (Nat.le_trans (bo hr0) (by omega)) (by omega) (sb _ hr0)
 have hto0:=qO x0 hs0
 have heq0:=rR x0 hs0
 have hac0_0:=AH _ hs0
 have hmka0:=oF x0 (1) (by omega) (Nat.le_trans (bo hs0) (by omega)) (by omega) (zg _ hs0)
 have hto1:=rp x1 (by simp[CE.tr,aE,aA])
 repeat' ((conv=>whnf);first|refine cg hmka0 ?_|refine cg hmkr0 ?_|refine cg hto0 ?_|refine cg himpl ?_|refine fM ?_|apply bg|apply oi|(apply fi<;>intro h)|refine .inl (ci heqr0 (ai (kU _ _) (ai rfl trivial)) ?_)|refine .inl (ci hhdr0 (ai (kU _ _) (ai rfl trivial)) ?_)|refine .inl (ci heq0 (ai (kU _ _) (ai (kU _ _) trivial)) ?_)|refine cl hto1 ?_|refine .inl (ci hspec (ai (kU _ _) (ai (ai rfl (ai rfl (ai rfl (ai rfl trivial)))) (ai rfl trivial))) ?_)|refine⟨_,rfl,?_⟩|exact rfl)
 all_goals try exact⟨KO⟩
 all_goals try exact⟨kU _ _⟩
 all_goals try exact⟨lr _⟩
 all_goals(exfalso;first|(simp at h;done)|(have h':=of_decide_eq_true h;omega))
theorem fnExactPlacesOf_lifted (os:Os)(started:os.Started)(H:Type)(enc:TypeId×Value→H):
  ReturnsInHanded {} Tryz.checked os 5 .any (Rows.fnExactPlacesOfSpec.pre6 enc Tryz.prog Tryz.f5 Rows.fnExactPlacesOfRow.domain false) (Rows.fnExactPlacesOfSpec.post enc Tryz.prog Tryz.f5 false true false false):=by
 refine returnsInHanded_of_change (C:=Tryz.checked) own started (by kernel_rfl) Tryz.func5
  (ChangeSpec.witness6 (enc:=enc) (C:=Tryz.checked) false ⟨#[],#[.slice none 0 0,.agg #[.int .i64 0,.int .i64 0,.bool false,.bool false],.int .i64 0],[]⟩ 8 (by kernel_rfl) (by kernel_rfl) (by kernel_rfl) (by kernel_rfl)) ?_
 intro W base args ds gs before hval hW _ _
 have hW0:=hW
 obtain⟨p,q,hA,_,_,_,_⟩:=hW0
 have hlen:=oS hA
 obtain⟨xs,hx,hty⟩:=se (n:=8) hΓ (by kernel_rfl) (fun j t v h1 h2=>hval j t v (by simpa using h1) (by simpa using h2)) hA
 rw[Tryz.params5]at hty hlen
 obtain⟨_,xs0,rfl,hx0,hty0⟩:=jf hty
 obtain⟨_,rfl,r0,⟨⟩,l0,e0⟩:=hx0
 obtain⟨_,xs1,rfl,hx1,hty1⟩:=jf hty0
 obtain⟨t1,rfl,h1⟩:=hx1
 obtain⟨_,xs2,rfl,hx2,hty2⟩:=jf hty1
 obtain⟨_,rfl,a2,⟨⟩,w2⟩:=hx2
 obtain rfl:=wb hty2
 obtain⟨d0,d1,d2,rfl⟩:=CD hlen
 obtain⟨x0,rfl,v0⟩:=mQ (g:=CM.tr) (Q:=(fun y=>y.wf)) (rows:=r0) (fun r hr=>Br (ve (by decide) (e0 r hr)))
 obtain⟨x1,rfl,v1⟩:=AF h1
 exact zq Bi rfl Tryz.underlying4 rfl (by kernel_rfl) rfl hx (jk x0 ⟨by simpa using l0,v0⟩ x1 v1 a2 (oK w2)) hW
theorem fnExactPlacesOf_holds:Rows.FnExactPlacesOfSaid:=
 OpenClaim.holds_of_wide 5 Tryz.f5 rfl rfl rfl rfl rfl rfl rfl ⟨rfl,rfl,rfl,rfl,rfl⟩ rfl rfl rfl rfl rfl (by kernel_rfl) Tryz.func5 (by kernel_rfl)
  (of_decide_eq_true (by kernel_rfl)) (by unfold Func.isWrapper;first|(rw[if_pos (by decide+kernel)];kernel_rfl)|(rw[if_neg (by decide+kernel)];exact⟨rfl,rfl⟩))
  (fun os started H enc _=>fnExactPlacesOf_lifted os started H enc)
end Go.Proofs.YtoglejgmjeojoaaGreat
