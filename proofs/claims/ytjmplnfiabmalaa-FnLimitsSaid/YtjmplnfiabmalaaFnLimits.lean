/- The law FnLimits answers true for every input and leaves its argument as it was. Conditions: none beyond the given statement. -/
import Derived.Test.YtjmplnfiabmalaaGi
namespace Go.Proofs.Ytjmplnfiabmalaa
open Go.Sim Go.ChangeShapes Go.WideShapes Go.ChangeAt Go.RowKit
set_option maxRecDepth 100000
set_option maxHeartbeats 4000000
theorem mN (code:List UInt8):Sim.Spec Try.prog 5 [tvL 1 (code.map aH)] (rB true):=by
 refine cS hΓ au Try.func5 rfl (by decide) rfl ?_
 repeat' ((conv=>whnf);first|apply Wx|apply W6|apply oi|(apply fi<;>intro h)|refine cl ((ua code)) ?_|refine⟨_,rfl,?_⟩|exact rfl)
 all_goals try exact⟨KP⟩
 have hl:code.length≤1048576:=by have:=of_decide_eq_false h;omega
 clear h
 obtain⟨p,hPL,hlen,hs,g0⟩:=jz code hl
 have hP:=dK p hs
 have hAt:=vG code 0 (by omega) hl
 have hn:0≤(atV code 0:Int).tmod 40∧(atV code 0:Int).tmod 40≤39:=by
  rw[Int.tmod_eq_emod_of_nonneg (by omega)]
  omega
 have hA:=fE p hs ((atV code 0:Int).tmod 40)
 have hB:=fE p hs 60
 have hC:=li p hs 60
 cases hpo:ay p with
 | false=>
  rw[hpo]at hP
  rw[qi (by rw[hpo];simp)]at hA hB hC
  refine cg (g0) ?_
  repeat' ((conv=>whnf);first|apply Wx|apply W6|apply oi|(apply fi<;>intro h)|refine cl hP ?_|refine cl hAt ?_|refine cl hA ?_|refine cl hB ?_|refine⟨_,rfl,?_⟩|exact rfl)
  all_goals try exact⟨KP⟩
  all_goals try exact KX
 | true=>
  rw[hpo]at hP
  have hp:=qS hs hpo
  rw[uc (by rw[hpo,Bool.true_and,within_iff];omega)]at hA hB hC
  have hL:=wV hp hpo (l1:=(atV code 0:Int).tmod 40) (l2:=60) (by omega) (by omega)
  have hrA:=mT hp hpo (lim:=(atV code 0:Int).tmod 40) (by omega)
  have hrB:=mT hp hpo (lim:=60) (by omega)
  generalize cE p 60=B at *
  generalize cE p ((atV code 0:Int).tmod 40)=A at *
  have hAv:=hrA.vis
  have hBv:=hrB.vis
  have hAo:=hrA.out
  have hBo:=hrB.out
  have hVp:=hL.vis.length_le
  have hOp:=hL.out.length_le
  have hc:=hrA.code
  have hlast:=hL.last
  have hSV:=kH A.st.visits (by omega) (fun x hx=>by have:=hrA.rows x hx;omega)
  have hSI:=fY A.st.out (by omega)
  have hTV:Tr.lst 1 (A.st.visits.map aG)= .lst 1 ((B.st.visits.map aG).take (A.st.visits.map aG).length):=by
   rw[List.length_map,←List.map_take,List.prefix_iff_eq_take.1 hL.vis];simp
  have hTO:Tr.lst 1 (A.st.out.map ab)= .lst 1 ((B.st.out.map ab).take (A.st.out.map ab).length):=by
   rw[List.length_map,←List.map_take,List.prefix_iff_eq_take.1 hL.out];simp
  refine cg (g0) ?_
  repeat' ((conv=>whnf);first|apply Wx|apply W6|apply oi|(apply fi<;>intro h)|refine cl hP ?_|refine cl hAt ?_|refine cl hA ?_|refine cl hB ?_|refine cl hC ?_|refine(.inl (ci hSV (ai rfl (ai hTV trivial)) ?_))|refine(.inl (ci hSI (ai rfl (ai hTO trivial)) ?_))|refine⟨_,rfl,?_⟩|exact rfl)
  all_goals try exact⟨KP⟩
  all_goals try(exfalso;first|(simp at h;done)|(simp at h;omega))
  all_goals try exact⟨K8⟩
  all_goals clear hA hB hC hSV hSI hTV hTO g0 hP hAt hs hp hrA hrB hL
  all_goals(rcases hlast with⟨g1,g2⟩|⟨g1,g2,g3⟩ <;> first|exact⟨by simp_all⟩|(exfalso;simp_all;done)|(exfalso;simp_all;omega))
theorem fnLimits_lifted (os:Os)(started:os.Started)(H:Type)(enc:TypeId×Value→H):
  ReturnsInHanded {} Try.checked os 5 .any (Rows.fnLimitsSpec.pre6 enc Try.prog Try.f5 Rows.fnLimitsRow.domain false) (Rows.fnLimitsSpec.post enc Try.prog Try.f5 false true false false):=by
 refine returnsInHanded_of_change (C:=Try.checked) own started (by kernel_rfl) Try.func5
  (ChangeSpec.witness6 (enc:=enc) (C:=Try.checked) false ⟨#[],#[.slice none 0 0],[]⟩ 8 (by kernel_rfl) (by kernel_rfl) (by kernel_rfl) (by kernel_rfl)) ?_
 intro W base args ds gs before hval hW _ _
 have hW0:=hW
 obtain⟨p,q,hA,_,_,_,_⟩:=hW0
 have hlen:=ma hA
 obtain⟨xs,hx,hty⟩:=nS (n:=8) hΓ (by kernel_rfl) (fun j t v h1 h2=>hval j t v (by simpa using h1) (by simpa using h2)) hA
 rw[Try.params5]at hty hlen
 obtain⟨_,xs0,rfl,hx0,hty0⟩:=ru hty
 obtain⟨_,rfl,rows,⟨⟩,hl,hr⟩:=hx0
 obtain rfl:=rU hty0
 obtain⟨d0,rfl⟩:=zn hlen
 obtain⟨bs,rfl⟩:=vg (rows:=rows) (fun r hr'=>hr r hr')
 exact vC xC rfl Try.underlying4 rfl (by kernel_rfl) rfl hx (mN bs) hW
theorem fnLimits_holds:Rows.FnLimitsSaid:=
 OpenClaim.holds_of_wide 5 Try.f5 rfl rfl rfl rfl rfl rfl rfl ⟨rfl,rfl,rfl,rfl,rfl⟩ rfl rfl rfl rfl rfl (by kernel_rfl) Try.func5 (by kernel_rfl)
  (of_decide_eq_true (by kernel_rfl)) (by unfold Func.isWrapper;first|(rw[if_pos (by decide+kernel)];kernel_rfl)|(rw[if_neg (by decide+kernel)];exact⟨rfl,rfl⟩))
  (fun os started H enc _=>fnLimits_lifted os started H enc)
end Go.Proofs.Ytjmplnfiabmalaa
