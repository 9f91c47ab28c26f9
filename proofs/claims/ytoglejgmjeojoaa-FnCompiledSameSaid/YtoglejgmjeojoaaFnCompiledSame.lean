/- The law FnCompiledSame answers true for every input and leaves its argument as it was. Conditions: none beyond the given statement. -/
import Derived.Test.YtoglejgmjeojoaaGk
namespace Go.Proofs.Ytoglejgmjeojoaa
open Go.Sim Go.ChangeShapes Go.WideShapes Go.ChangeAt Go.RowKit
set_option maxRecDepth 100000
set_option maxHeartbeats 4000000
theorem mI (code:List UInt8):Sim.Spec Try.prog 3 [tvL 1 (code.map ba)] (rB true):=by
 refine bF hΓ aK Try.func3 rfl d_ rfl ?_;repeat' ((conv=>whnf);first|apply Wx|apply W6|apply oi|apply fi|intro h|refine cl ((EY code)) ?_|refine⟨_,rfl,?_⟩|exact Y7|fail)
 have hl:code.length<=1048576:=by have:=f0 h;omega
 clear h;obtain⟨p,b,first,second,J5,g0⟩:=sm code hl;have h6:=(jX J5.prog).1;have SH:=wX (b:=b) J5.small o_ (first:=first) (second:=second);have P4:=MU J5;have hI:=qq p J5.small 60;rw[Ks (by rw[J5.prog,m8,within_iff];omega)]at hI;have YN:=Lv (nW J5.small J5.prog) J5.prog (lim:=60) o_;have hN:=qN _ SH;rw[J5.space]at hN;have hM:=La J5.space P4;have hR:=qi (aE p b first second) (lM (aE p b first second)) 6000 SH (hM.small o_) hM.inv.w P4;rw[CX J5.space hM (show(0:Int)<=6000 by omega) o_,show(6000:Int).toNat=6000 from rfl]at hR;have hE:=fun{v:Int} {s':IS} (hr:gi p 60= .ok v s')=>I_ J5 hr 6000;have Yq:=MOk.run (s:=aE p b first second) P4 6000 hM o_;have L3:=uX (aE p b first second) 6000 (lM (aE p b first second))
 generalize Vb:lM (aE p b first second)=m0 at *
 generalize hX:fI (aE p b first second) 6000 m0=X at *
 have TB:=DV (nW J5.small J5.prog) J5.prog (lim:=60) o_
 generalize gi p 60=I at *
 have r1:=YN.vis;have r2:=YN.out;have X6:(aE p b first second).tr=[.lst 2 [(ao p b 0).tr,(ao p b 1).tr],.lst 1 [aa first,aa second],.lst 1 ((entries p b first second).map aa)]:=rfl;rw[X6]at hN hR;have Vg:=lK X.1;rw[Yq.ok]at Vg;have Xy:=Yq.inv.out;have hS:=uR X.1.fah I.st.out o_;clear Yq hM hX P4 SH YN;obtain⟨⟨a1,a2,a3,a4,a5,a6,a7⟩,n⟩:=X;dsimp only at hR hE L3 Vg hS Xy;rcases TB with⟨v,s',rfl⟩|⟨c,s',rfl,hc⟩
 ·have hE:=hE (v:=v) (s':=s') rfl;dsimp only[Rr.val,Rr.st,Rr.code]at hI hS r1 r2;rcases hE with⟨rfl,rfl,rfl,rfl⟩|rfl
  ·rw[G6]at hS;refine cg (g0) ?_;repeat' ((conv=>whnf);first|apply Wx|apply W6|apply oi|apply fi|intro h|refine cl hI ?_|refine cl hN ?_|refine cl hR ?_|refine cl Vg ?_|refine cl hS ?_|refine⟨_,rfl,?_⟩|exact Y7|fail)
   all_goals try(exfalso;simp at h;done)
  ·refine cg (g0) ?_;repeat' ((conv=>whnf);first|apply Wx|apply W6|apply oi|apply fi|intro h|refine cl hI ?_|refine cl hN ?_|refine cl hR ?_|refine cl Vg ?_|refine cl hS ?_|refine⟨_,rfl,?_⟩|exact Y7|fail)
   all_goals try(exfalso;simp at h;done)
 ·dsimp only[Rr.val,Rr.st,Rr.code]at hI hS r1 r2;refine cg (g0) ?_;rcases hc with rfl|rfl
  all_goals(
   repeat' ((conv=>whnf);first|apply Wx|apply W6|apply oi|apply fi|intro h|refine cl hI ?_|refine cl hN ?_|refine cl hR ?_|refine cl Vg ?_|refine⟨_,rfl,?_⟩|exact Y7|fail)
   all_goals try(exfalso;first|(simp at h;done)|(simp at h;omega)))
theorem fnCompiledSame_lifted (os:Os)(started:os.Started)(H:Type)(enc:TypeId×Value->H):
  ReturnsInHanded {} Try.checked os 3 .any (Rows.fnCompiledSameSpec.pre6 enc Try.prog Try.f3 Rows.fnCompiledSameRow.domain false) (Rows.fnCompiledSameSpec.post enc Try.prog Try.f3 false true false false):=by
 refine returnsInHanded_of_change (C:=Try.checked) own started (by kernel_rfl) Try.func3
  (ChangeSpec.witness6 (enc:=enc) (C:=Try.checked) false ⟨#[],#[.slice none 0 0],[]⟩ 8 (by kernel_rfl) (by kernel_rfl) (by kernel_rfl) (by kernel_rfl)) ?_
 intro W base args ds gs before J8 hW _ _;have YK:=hW;obtain⟨p,q,hA,_,_,_,_⟩:=YK;have J0:=ui hA;obtain⟨xs,hx,UV⟩:=wT (n:=8) hΓ (by kernel_rfl) (fun j t v h1 h2=>J8 j t v (by simpa using h1) (by simpa using h2)) hA;rw[Try.params3]at UV J0;obtain⟨_,xs0,rfl,QQ,XF⟩:=zT UV;obtain⟨_,rfl,rows,⟨⟩,hl,hr⟩:=QQ;obtain rfl:=BE XF;obtain⟨d0,rfl⟩:=NM J0;obtain⟨bs,rfl⟩:=He (rows:=rows) (fun r QN=>hr r QN);exact GW Lm rfl Try.underlying4 rfl (by kernel_rfl) rfl hx (mI bs) hW
theorem fnCompiledSame_holds:Rows.FnCompiledSameSaid:=
 OpenClaim.holds_of_wide 3 Try.f3 rfl rfl rfl rfl rfl rfl rfl ⟨rfl,rfl,rfl,rfl,rfl⟩ rfl rfl rfl rfl rfl (by kernel_rfl) Try.func3 (by kernel_rfl)
  (f9 (by kernel_rfl)) (by unfold Func.isWrapper;first|(rw[b9 (by decide+kernel)];kernel_rfl)|(rw[b8 (by decide+kernel)];exact⟨rfl,rfl⟩))
  (fun os started H enc _=>fnCompiledSame_lifted os started H enc)
end Go.Proofs.Ytoglejgmjeojoaa
