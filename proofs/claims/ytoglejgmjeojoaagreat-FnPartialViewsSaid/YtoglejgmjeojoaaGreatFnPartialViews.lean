/- The law FnPartialViews answers true for every input and leaves its argument as it was. Conditions: none. -/
import Derived.Test.YtoglejgmjeojoaaGreatGk
namespace Go.Proofs.P
open Go.Proofs.YtoglejgmjeojoaaGreat
open Go.Sim Go.ChangeShapes Go.WideShapes Go.ChangeAt Go.RowKit
set_option maxRecDepth 100000
set_option maxHeartbeats 4000000
theorem Q27{p:Prop}(h:p:=by exfalso;revert h;simp;first|done|fail):p:=h
theorem Q19{p:Prop}(h:p:=by exfalso;have h4:=e8 h;rw[Tm]at h4;omega):p:=h
theorem Q16{p:Prop}(h:p:=by exfalso;have h4:=e8 h;dsimp only at h4;rw[Tm,N8]at h4;omega):p:=h
theorem Q28{p:Prop}(h:p:=by refine⟨?_⟩;simp[oI];first|done|fail):p:=h
theorem Q15{p:Prop}(h:p:=by refine⟨?_⟩;show Tr.bool (((al.map aa).length:Int)==40)=Tr.bool true;rw[N8];rfl):p:=h
theorem Q10{p:Prop}(h:p:=by refine⟨?_⟩;show(ul.map aa).length<=(al.map aa).length;rw[e7,e7];exact OS):p:=h
theorem mq (code:List UInt8):Sim.Spec Tryz.prog 4 [tvL 1 (code.map aT)] (rB true):=by
 refine bI hΓ aE Tryz.func4 rfl d_ rfl ?_;repeat' ((conv=>whnf);first|apply Wx|apply W6|apply oi|apply fi|intro h|refine cl ((Dq code)) ?_|exact Y7|refine e_ rfl ?_)
 have hl:code.length<=1048576:=by have:=e8 h;omega
 clear h;obtain⟨p,b,first,second,M5,g0⟩:=ry code hl;obtain⟨S⟩:=LM M5.small M5.prog M5.build;have h6:=(iH M5.prog).1;have Qr:=wu (b:=b) M5.small o_ (first:=first) (second:=second);have Sd:=Iy M5;have VB:=iY p b 0 M5.small;have P5:=iY p b 1 M5.small;have k0:=(nc (b:=b) (image:=0) M5.small).len;have k1:=(nc (b:=b) (image:=1) M5.small).len;have Rw:=nw (bv p b 0) o_;have VX:=nw (bv p b 1) o_
 have O3:ao 1048576 (.lst 1 ((fR p b).map (bc 4 Mw.tr))):=by
  have r0:=wv (l:=eL (bv p b 0)) (qA (nt M5.small));have r1:=wv (l:=eL (bv p b 1)) (qA (nt M5.small))
  exact fX (by simp[fR]) fun x hx=>by
   simp only[fR,d7,l9,or_false]at hx;rcases hx with rfl|rfl
   ·exact⟨r0,trivial⟩
   ·exact⟨r1,trivial⟩
 have hN:=pT _ Qr;have hM:=JK M5.space Sd;have UA:=Kg (S:=S) M5 (Ck M5.prog).1;rw[M5.space]at hN;have T0:=yI code 0 o_ hl;have UM:=yI code 1 o_ hl;have hv0:=Ix code 0;have QL:=Ix code 1;have XE:((atV code 0:Nat):Int).tmod 140=((atV code 0%140:Nat):Int):=by rw[A6 o_];rfl
 have Sb:((atV code 1:Nat):Int).tmod 30=((atV code 1%30:Nat):Int):=by rw[A6 o_];rfl
 generalize atV code 0=v0 at *
 generalize atV code 1=v1 at *
 obtain⟨k,hk,Ni⟩:∃k,v0%140=k/\k<140:=⟨_,rfl,o_⟩;obtain⟨n,hn,Qf⟩:∃k,v1%30=k/\k<30:=⟨_,rfl,o_⟩;rw[hk]at XE;rw[hn]at Sb;have hR:=ri (aP p b first second) (zJ (aP p b first second)) (k:Int) Qr (hM.small o_) hM.inv.w Sd;rw[Ce M5.space hM (show(0:Int)<=k by omega) o_,d6]at hR;have Vt:=MOk.run (s:=aP p b first second) Sd k hM o_;have S8:=Fm M5 k hM o_ (fun _=>UA)
 generalize zJ (aP p b first second)=mz at *
 generalize ml (aP p b first second) k mz=Y at *
 obtain⟨X,nr⟩:=Y;dsimp only at hR Vt S8;by_cases Qk:X.MC=0
 ·obtain⟨R,YG⟩:=S8 Qk;have hU:=Dn M5 Vt.ok YG;have UW:=Vt.inv;have Rf:=UW.sp;have OC:=UW.len;have To:∀q:Int,0<=q->bq X q=⟨X.L3,X.J6,X.L4,(X.MH.drop X.J6.toNat).take q.toNat⟩:=fun q hq=>by rw[bq,c7 ⟨Vt.ok,o_⟩]
  have Sa:∀q:Int,0<=q->cw (bq X q)=true:=fun q hq=>by
   rw[To q hq,viewOk_iff];dsimp only;rw[j8,r7,OC];omega
  have TS:∀q:Int,0<=q->(bq X q).wf:=fun q hq=>by
   rw[To q hq];refine⟨UW.w.2.1,by unfold inI;dsimp only;omega,UW.w.2.2,by simp only[j8,r7,OC];unfold maxLen;omega,fun y hy=>UW.w.1 y (z7 (t9 hy))⟩
  have OU:∀q:Int,0<=q->az 1048576 (bq X q).tr:=fun q hq=>by
   rw[To q hq];simp only[MA.tr,az];exact⟨by simp[ao],by simp[ao],by simp[ao],lw aab,trivial⟩
  have WN:=xA X 1200;have Xe:=oJ X 1200;have VU:=oJ X (n:Int);have TP:=xF (aP p b first second) (fR p b) (bq X 1200) (TS _ o_) Qr O3 (OU _ o_);have TZ:=oC (aP p b first second) (fR p b) (bq X 1200) (TS _ o_) Qr O3 (OU _ o_);have Vk:=oC (aP p b first second) (fR p b) (bq X n) (TS _ o_) Qr O3 (OU _ o_);have NQ:=Bx (s:=aP p b first second) (rules:=fR p b) (Ba Vt.ok (n:=n) o_) (Sa 1200 o_);have WI:1<=(fu (aP p b first second) (fR p b) (bq X n)).1.length:=by unfold fu;simp
  rw[hU]at TP TZ NQ;have hO:=kA (bq X n);rw[Sa n o_]at hO;have hW:=dG (bq X n) X.J6
  have O2:∀y ys,(bq X n).MB=y::ys->X.MH[X.J6.toNat]?=some y/\X.J6.toNat<X.MH.length:=fun y ys e=>by
   rw[To n o_]at e;dsimp only at e;have h1:((X.MH.drop X.J6.toNat).take (n:Int).toNat)[0]?=some y:=(by rw[e];rfl);rw[n3]at h1;split at h1
   ·rw[v3,y6]at h1;exact⟨h1,aI h1⟩
   ·cases h1
  have Z0:bZ (bq X n) X.J6=(bq X n).MB.head?:=by
   have NY:(bq X n).J6=X.J6:=(by rw[To n o_]);unfold bZ;rw[NY,Sa n o_]
   cases hw:(bq X n).MB with|nil=>rw[b8 (by rw[within_iff];simp;omega)];rfl|cons y ys=>rw[c7 ⟨rfl,by rw[within_iff];simp;omega⟩];simp
  rw[Z0]at hW
  have ZN:(bq X n).MB.length<=30:=by rw[To n o_];simp only[j8];omega
  have Nw:X.J6=((X.J6.toNat:Nat):Int):=(D0 o_).symm;have Xg:(bq X n).tr=[.int .i64 X.L3,.int .i64 X.J6,.int .i64 X.L4,.lst 1 ((bq X n).MB.map aa)]:=by rw[To n o_];rfl
  rw[Xg]at VU Vk hO hW
  generalize fu (aP p b first second) (fR p b) (bq X n)=U at *
  generalize(bq X n).MB=ws at *
  generalize bq X 1200=V at *
  obtain⟨ul,uk⟩:=U;dsimp only at Vk NQ WI;have TE:ul.length<=40:=by have:=NQ.length_le;simp at this;omega
  have Wc:=tT ul ul o_;rw[I7]at Wc;have VY:(X.L3::R.take 39).length=(R.take 39).length+1:=rfl;have Zk:(R.take 39).length<=39:=by rw[j8];omega
  have WR:Tr.lst 1 (ul.map aa)= .lst 1 (((X.L3::R.take 39).map aa).take (ul.map aa).length):=by rw[e7,<-x8,List.prefix_iff_eq_take.1 NQ];simp
  have OS:=NQ.length_le;clear hU NQ O3 Qr Sd TS OU Sa UA S8 YG;by_cases c3:R.length<39
  ·rw[q7 c3]at TP TZ;have Tm:(ul.map aa).length=ul.length:=s_;have N8:((X.L3::R.take 39).map aa).length=(R.take 39).length+1:=s_
   generalize ZQ:X.L3::R.take 39=al at *
   cases ws with
   | nil=>
    dsimp only[List.head?]at hW;refine cg (g0) ?_;repeat' ((conv=>whnf);first|apply Wx|apply W6|apply oi|apply fi|intro h|refine cl VB ?_|refine cl P5 ?_|refine cl Rw ?_|refine cl VX ?_|refine cl hN ?_|refine cl T0 ?_|refine cl UM ?_|refine .inl (ci hR (ai (ai rfl (ai rfl (ai rfl trivial))) (ai (ai rfl (ai rfl (ai rfl (ai rfl (ai rfl (ai rfl (ai rfl trivial))))))) (ai KW trivial))) ?_)|refine cl WN ?_|refine cl TP ?_|refine cl Xe ?_|refine cl TZ ?_|refine .inl (ci VU (ai (ai rfl (ai rfl (ai rfl (ai rfl (ai rfl (ai rfl (ai rfl trivial))))))) (ai KW trivial)) ?_)|refine cl Vk ?_|refine cl hW ?_|refine cl hO ?_|refine(.inl (ci Wc (ai rfl (ai WR trivial)) ?_))|exact Y7|refine e_ rfl ?_)
    all_goals try exact⟨lz _⟩
    all_goals try exact Q10
    all_goals try exact Q15
    all_goals try exact Q28
    all_goals try exact Q16
    all_goals try exact Q19
    all_goals try exact Q27
    all_goals try exact Q21
   | cons y ys=>
    dsimp only[List.head?]at hW;obtain⟨ZF,ZV⟩:=O2 y ys rfl;have VL:(X.MH.map aa)[X.J6.toNat]?=some (aa y):=ab ZF;have Sp:X.J6.toNat<(X.MH.map aa).length:=(by rw[e7];exact ZV);refine cg (g0) ?_;repeat' ((conv=>whnf);first|apply Wx|apply W6|apply oi|apply fi|intro h|refine cl VB ?_|refine cl P5 ?_|refine cl Rw ?_|refine cl VX ?_|refine cl hN ?_|refine cl T0 ?_|refine cl UM ?_|refine .inl (ci hR (ai (ai rfl (ai rfl (ai rfl trivial))) (ai (ai rfl (ai rfl (ai rfl (ai rfl (ai rfl (ai rfl (ai rfl trivial))))))) (ai KW trivial))) ?_)|refine cl WN ?_|refine cl TP ?_|refine cl Xe ?_|refine cl TZ ?_|refine .inl (ci VU (ai (ai rfl (ai rfl (ai rfl (ai rfl (ai rfl (ai rfl (ai rfl trivial))))))) (ai KW trivial)) ?_)|refine cl Vk ?_|refine cl hW ?_|refine cl hO ?_|refine(.inl (ci Wc (ai rfl (ai WR trivial)) ?_))|refine⟨_,Nw,Sp,?_⟩|refine⟨_,VL,?_⟩|exact Y7|refine e_ rfl ?_)
    all_goals try exact⟨lz _⟩
    all_goals try exact Q10
    all_goals try exact Q15
    all_goals try exact Q28
    all_goals try exact Q16
    all_goals try exact Q19
    all_goals try exact Q27
    all_goals try exact Q21
  ·have Xt:(R.take 39).length=39:=(by rw[j8];omega);rw[B6 c3]at TP TZ;have Tm:(ul.map aa).length=ul.length:=s_;have N8:((X.L3::R.take 39).map aa).length=40:=by rw[e7,d5,Xt]
   generalize ZQ:X.L3::R.take 39=al at *
   refine cg (g0) ?_;repeat' ((conv=>whnf);first|apply Wx|apply W6|apply oi|apply fi|intro h|refine cl VB ?_|refine cl P5 ?_|refine cl Rw ?_|refine cl VX ?_|refine cl hN ?_|refine cl T0 ?_|refine cl UM ?_|refine .inl (ci hR (ai (ai rfl (ai rfl (ai rfl trivial))) (ai (ai rfl (ai rfl (ai rfl (ai rfl (ai rfl (ai rfl (ai rfl trivial))))))) (ai KW trivial))) ?_)|refine cl WN ?_|refine cl TP ?_|refine cl Xe ?_|refine cl TZ ?_|refine .inl (ci VU (ai (ai rfl (ai rfl (ai rfl (ai rfl (ai rfl (ai rfl (ai rfl trivial))))))) (ai KW trivial)) ?_)|refine cl Vk ?_|refine cl hW ?_|refine cl hO ?_|refine(.inl (ci Wc (ai rfl (ai WR trivial)) ?_))|exact Y7|refine e_ rfl ?_)
   all_goals try exact⟨lz _⟩
   all_goals try exact Q10
   all_goals try exact Q15
   all_goals try exact Q28
   all_goals try exact Q16
   all_goals try exact Q19
   all_goals try exact Q27
   all_goals try exact Q21
 ·refine cg (g0) ?_;repeat' ((conv=>whnf);first|apply Wx|apply W6|apply oi|apply fi|intro h|refine cl VB ?_|refine cl P5 ?_|refine cl Rw ?_|refine cl VX ?_|refine cl hN ?_|refine cl T0 ?_|refine .inl (ci hR (ai (ai rfl (ai rfl (ai rfl trivial))) (ai (ai rfl (ai rfl (ai rfl (ai rfl (ai rfl (ai rfl (ai rfl trivial))))))) (ai KW trivial))) ?_)|exact Y7|refine e_ rfl ?_)
  all_goals try exact⟨lz _⟩
  all_goals(exfalso;simp at h;exact Qk h)
theorem fnPartialViews_lifted (os:Os)(started:os.Started)(H:Type)(enc:TypeId×Value->H):
  ReturnsInHanded {} Tryz.checked os 4 .any (Rows.fnPartialViewsSpec.pre6 enc Tryz.prog Tryz.f4 Rows.fnPartialViewsRow.domain false) (Rows.fnPartialViewsSpec.post enc Tryz.prog Tryz.f4 false true false false):=by
 refine returnsInHanded_of_change (C:=Tryz.checked) own started aaq Tryz.func4
  (ChangeSpec.witness6 (enc:=enc) (C:=Tryz.checked) false ⟨#[],#[.slice none 0 0],[]⟩ 8 aaq aaq aaq aaq) ?_
 intro W base args ds gs before N5 hW _ _;have WW:=hW;obtain⟨p,q,hA,_,_,_,_⟩:=WW;have M0:=tG hA;obtain⟨xs,hx,PX⟩:=vL (n:=8) hΓ aaq (fun j t v h1 h2=>N5 j t v aaj aag) hA;rw[Tryz.params4]at PX M0;obtain⟨_,xs0,rfl,Qk,XJ⟩:=zf PX;obtain⟨_,rfl,rows,⟨⟩,hl,hr⟩:=Qk;obtain rfl:=Ar XJ;obtain⟨d0,rfl⟩:=Me M0;obtain⟨bs,rfl⟩:=FI (rows:=rows) (fun r Qc=>hr r Qc);exact Gb JI rfl Tryz.underlying4 rfl aaq rfl hx (mq bs) hW
end Go.Proofs.P
namespace Go.Proofs.YtoglejgmjeojoaaGreat
open Go.Proofs.P
theorem fnPartialViews_holds:Rows.FnPartialViewsSaid:=
 OpenClaim.holds_of_wide 4 Tryz.f4 rfl rfl rfl rfl rfl rfl rfl ⟨rfl,rfl,rfl,rfl,rfl⟩ rfl rfl rfl rfl rfl aaq Tryz.func4 aaq
  (d9 aaq) (by unfold Func.isWrapper;first|(rw[c7 (by decide+kernel)];kernel_rfl)|(rw[b8 (by decide+kernel)];exact⟨rfl,rfl⟩))
  (fun os started H enc _=>fnPartialViews_lifted os started H enc)
end Go.Proofs.YtoglejgmjeojoaaGreat
