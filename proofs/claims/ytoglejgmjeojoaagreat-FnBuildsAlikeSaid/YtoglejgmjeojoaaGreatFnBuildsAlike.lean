/- The law FnBuildsAlike answers true for every input and leaves its argument as it was. Conditions: none. -/
import Derived.Test.YtoglejgmjeojoaaGreatGm
namespace Go.Proofs.P
open Go.Proofs.YtoglejgmjeojoaaGreat
open Go.Sim Go.ChangeShapes Go.WideShapes Go.ChangeAt Go.RowKit
set_option maxRecDepth 100000
set_option maxHeartbeats 0
theorem V49{p:Prop}(h:p:=by
 rw[k2]at Vo SL;repeat' ((conv=>whnf);first|apply Wx|apply W6|apply oi|apply fi|intro h|refine cl hI ?_|refine cl We ?_|refine cl Wk ?_|refine cl Tf ?_|refine cl Vo ?_|refine cl WZ ?_|refine cl SL ?_|exact Y8|refine e_ rfl ?_)
 all_goals try(exfalso;simp at h;done)):p:=h
theorem oS (code:List UInt8):Sim.Spec Tryz.prog 7 [tvL 1 (code.map bo)] (rB true):=by
 refine aW hΓ aF Tryz.func7 rfl d_ rfl ?_;repeat' ((conv=>whnf);first|apply Wx|apply W6|apply oi|apply fi|intro h|refine cl ((HZ code)) ?_|exact Y8|refine e_ rfl ?_)
 have hl:code.length<=1048576:=by have:=j6 h;omega
 clear h;obtain⟨p,a,b,Si,hba,SS,hs,g0⟩:=vD code hl;have h6:=(gD Si).1;have hI:=tE p hs 60;rw[LE (by rw[Si,l6,within_iff];omega)]at hI;have hrn:=Od (nc hs Si) Si (lim:=60) o_;have Xv:=Hs (nc hs Si) Si (lim:=60) o_;have We:=Bd code 0 o_ hl;have Wk:=Bd code 1 o_ hl;have XP:=Mk code 0;have Tl:=Mk code 1
 generalize atV code 0=v0 at *
 generalize atV code 1=v1 at *
 have hw0:IntKind.i64.wrap (1+(v0:Int))=1+v0:=c8 _ o_;have RI:IntKind.i64.wrap (170000+(v1:Int))=170000+v1:=c8 _ o_;have Tf:=mJ p a (IntKind.i64.wrap (1+(v0:Int))) 40000 hs;have Vo:=mJ p b (IntKind.i64.wrap (170000+(v1:Int))) 90000 hs;have WZ:=mF p a (IntKind.i64.wrap (1+(v0:Int))) 40000 hs;have SL:=mF p b (IntKind.i64.wrap (170000+(v1:Int))) 90000 hs;have ac9:1<=IntKind.i64.wrap (1+(v0:Int))/\IntKind.i64.wrap (1+(v0:Int))<=1000000:=o_;have act:1<=IntKind.i64.wrap (170000+(v1:Int))/\IntKind.i64.wrap (170000+(v1:Int))<=1000000:=o_;clear hw0 RI
 have kx:∀{b:Ql} {f s:Int},aY b=true->(1<=f/\f<=1000000)->(1<=s/\s<=1000000)->fV p b f s=none\/(fV p b f s=some (aJ p b f s)/\SpOk p b f s):=fun{b f s} hb hf hsb=>by
  by_cases hc:(fV p b f s).isSome=true
  ·obtain⟨_,_,h3,h4⟩:=GU hc;exact .inr ⟨h4,hs,Si,hb,hf,hsb,h3⟩
  ·refine .inl ?_
   cases hx:fV p b f s with|none=>rfl|some y=>rw[hx]at hc;exact absurd rfl hc
 have k1:=kx hba ac9 (s:=40000) o_;have k2:=kx SS act (s:=90000) o_;clear kx;have ctr:∀(b:Ql) (f s:Int),(aJ p b f s).tr=[.lst 2 [(ay p b 0).tr,(ay p b 1).tr],.lst 1 [aa f,aa s],.lst 1 ((entries p b f s).map aa)]:=fun _ _ _=>rfl
 have kr:∀{b:Ql} {f s:Int},SpOk p b f s->∃(m0 X:Qu) (n:Nat),n<=6000/\Sim.Spec Tryz.prog 41 [.agg [.lst 2 [(ay p b 0).tr,(ay p b 1).tr],.lst 1 [aa f,aa s],.lst 1 ((entries p b f s).map aa)]] (.tup [.agg (m0.tr.map xn),.c (.t (.bool true))])/\
   Sim.Spec Tryz.prog 42 [.agg [.lst 2 [(ay p b 0).tr,(ay p b 1).tr],.lst 1 [aa f,aa s],.lst 1 ((entries p b f s).map aa)],.agg m0.tr,tvI 6000] (.tup [.agg (X.tr.map xn),.c (.t (.int .i64 (n:Int)))])/\
   (∀v s',iG p 60= .ok v s'->(X.L9=1/\X.L6=s'.out/\X.N8=v)\/n=6000)/\X.L6.length<=1048576:=fun{b f s} O7=>by
  have U6:=sw (b:=b) hs o_ (first:=f) (second:=s);have Tm:=Pl O7;have hN:=sY _ U6;rw[O7.space]at hN;have hM:=NB O7.space Tm;have hR:=tM (aJ p b f s) (oo (aJ p b f s)) 6000 U6 (hM.small o_) hM.inv.w Tm;rw[Gn O7.space hM (show(0:Int)<=6000 by omega) o_,show(6000:Int).toNat=6000 from rfl]at hR;have SL:=MOk.run (s:=aJ p b f s) Tm 6000 hM o_;refine⟨_,_,_,xQ (aJ p b f s) 6000 (oo (aJ p b f s)),hN,hR,fun v s' hr=>?_,?_⟩
  ·rcases MD O7 hr 6000 with⟨h1,h2,h3,_⟩|h1
   ·exact .inl ⟨h1,h2,h3⟩
   ·exact .inr h1
  ·have:=SL.inv.out;omega
 generalize iG p 60=I at *
 have r1:=hrn.out;have r2:=hrn.vis;refine cg (g0) ?_;rcases k1 with k1|⟨k1,ok1⟩
 ·rw[k1]at Tf WZ;rcases k2 with k2|⟨k2,ok2⟩
  ·exact V49
  ·rw[k2]at Vo SL;simp only[oSp,ctr]at Vo SL;repeat' ((conv=>whnf);first|apply Wx|apply W6|apply oi|apply fi|intro h|refine cl hI ?_|refine cl We ?_|refine cl Wk ?_|refine cl Tf ?_|refine cl Vo ?_|refine cl WZ ?_|refine cl SL ?_|exact Y8|refine e_ rfl ?_)
   all_goals try exact Q6
 ·rw[k1]at Tf WZ;simp only[oSp,ctr]at Tf WZ;rcases k2 with k2|⟨k2,ok2⟩
  ·exact V49
  ·rw[k2]at Vo SL;simp only[oSp,ctr]at Vo SL;obtain⟨m1,X1,n1,Wi,hN1,hR1,hE1,hO1⟩:=kr ok1;obtain⟨m2,X2,n2,TI,Vj,hR2,Wy,WX⟩:=kr ok2;have WN:=nY X1.L6 X2.L6 hO1;have WC:=nY X1.L6 I.st.out hO1;clear kr g0 hs hrn;obtain⟨a1,a2,a3,a4,a5,a6,a7⟩:=X1;obtain⟨b1,b2,b3,b4,b5,b6,b7⟩:=X2;dsimp only at WN WC hE1 Wy hO1 WX;rcases Xv with⟨v,s',rfl⟩|⟨c,s',rfl,hc⟩
   ·have hE1:=hE1 v s' rfl;have Wy:=Wy v s' rfl;dsimp only[Rr.val,Rr.st,Rr.code]at hI WC r1 r2;rcases hE1 with⟨rfl,rfl,rfl⟩|rfl
    ·rcases Wy with⟨rfl,rfl,rfl⟩|rfl
     ·rw[H0]at WN WC;repeat' ((conv=>whnf);first|apply Wx|apply W6|apply oi|apply fi|intro h|refine cl hI ?_|refine cl We ?_|refine cl Wk ?_|refine cl Tf ?_|refine cl Vo ?_|refine cl WZ ?_|refine cl SL ?_|refine cl hN1 ?_|refine cl Vj ?_|refine cl hR1 ?_|refine cl hR2 ?_|refine cl WN ?_|refine cl WC ?_|exact Y8|refine e_ rfl ?_)
      all_goals try exact Q6
     ·repeat' ((conv=>whnf);first|apply Wx|apply W6|apply oi|apply fi|intro h|refine cl hI ?_|refine cl We ?_|refine cl Wk ?_|refine cl Tf ?_|refine cl Vo ?_|refine cl WZ ?_|refine cl SL ?_|refine cl hN1 ?_|refine cl Vj ?_|refine cl hR1 ?_|refine cl hR2 ?_|refine cl WN ?_|refine cl WC ?_|exact Y8|refine e_ rfl ?_)
      all_goals try exact Q6
    ·repeat' ((conv=>whnf);first|apply Wx|apply W6|apply oi|apply fi|intro h|refine cl hI ?_|refine cl We ?_|refine cl Wk ?_|refine cl Tf ?_|refine cl Vo ?_|refine cl WZ ?_|refine cl SL ?_|refine cl hN1 ?_|refine cl Vj ?_|refine cl hR1 ?_|refine cl hR2 ?_|refine cl WN ?_|refine cl WC ?_|exact Y8|refine e_ rfl ?_)
     all_goals try exact Q6
   ·dsimp only[Rr.val,Rr.st,Rr.code]at hI WC r1 r2;rcases hc with rfl|rfl
    all_goals(
     repeat' ((conv=>whnf);first|apply Wx|apply W6|apply oi|apply fi|intro h|refine cl hI ?_|refine cl We ?_|refine cl Wk ?_|refine cl Tf ?_|refine cl Vo ?_|refine cl WZ ?_|refine cl SL ?_|refine cl hN1 ?_|refine cl Vj ?_|refine cl hR1 ?_|refine cl hR2 ?_|exact Y8|refine e_ rfl ?_)
     all_goals try(exfalso;first|(simp at h;done)|(simp at h;omega)))
theorem fL_ (os:Os)(started:os.Started)(H:Type)(enc:TypeId×Value->H):
  ReturnsInHanded {} Tryz.checked os 7 .any (Rows.fnBuildsAlikeSpec.pre6 enc Tryz.prog Tryz.f7 Rows.fnBuildsAlikeRow.domain false) (Rows.fnBuildsAlikeSpec.post enc Tryz.prog Tryz.f7 false true false false):=by
 refine returnsInHanded_of_change (C:=Tryz.checked) own started aaO Tryz.func7
  (ChangeSpec.witness6 (enc:=enc) (C:=Tryz.checked) false ⟨#[],#[.slice none 0 0],[]⟩ 8 aaO aaO aaO aaO) ?_
 intro W base args ds gs before P0 hW _ _;have hW0:=hW;obtain⟨p,q,hA,_,_,_,_⟩:=hW0;have O2:=wl hA;obtain⟨xs,hx,Zh⟩:=zb (n:=8) hΓ aaO (fun j t v h1 h2=>P0 j t v aaw aaq) hA;rw[Tryz.params7]at Zh O2;obtain⟨_,xs0,rfl,S5,ac6⟩:=DO Zh;obtain⟨_,rfl,rows,⟨⟩,hl,hr⟩:=S5;obtain rfl:=FI ac6;obtain⟨d0,rfl⟩:=Qg O2;obtain⟨bs,rfl⟩:=JL (rows:=rows) (fun r Uz=>hr r Uz);exact Jz Om rfl Tryz.underlying4 rfl aaO rfl hx (oS bs) hW
end Go.Proofs.P
namespace Go.Proofs.YtoglejgmjeojoaaGreat
open Go.Proofs.P
theorem fnBuildsAlike_holds:Rows.FnBuildsAlikeSaid:=
 OpenClaim.holds_of_wide 7 Tryz.f7 rfl rfl rfl rfl rfl rfl rfl ⟨rfl,rfl,rfl,rfl,rfl⟩ rfl rfl rfl rfl rfl aaO Tryz.func7 aaO
  (j5 aaO) (by unfold Func.isWrapper;first|(rw[b9 (by decide+kernel)];kernel_rfl)|(rw[b8 (by decide+kernel)];exact⟨rfl,rfl⟩))
  (fun os started H enc _=>fL_ os started H enc)
end Go.Proofs.YtoglejgmjeojoaaGreat
