import Derived.Test.YtoglejgmjeojoaaGi
namespace Go.Proofs.Ytoglejgmjeojoaa
open Go.Sim
set_option maxRecDepth 100000
set_option maxHeartbeats 8000000
def fI (s:Oe):Nat->NY->NY×Nat
 | 0,m=>(m,0)
 | k+1,m=>if m.fal=0 then((fI s k (mE m (eU s m))).1,(fI s k (mE m (eU s m))).2+1)else(m,0)
def rn (s:Oe)(m:NY)(l:Int):NY×Nat:=if cN s=true/\gd m=true/\af l 0 20000=true then fI s l.toNat m else(m,0)
structure MInv (m:NY) (n:Nat):Prop where
 len:m.fas.length=1200
 sp:0<=m.fag/\m.fag<=1200
 w:MW m
 out:m.fah.length<=1048576+n
theorem GO {c:Int}{m:Nat}(h:bc c=(4,true))(hm:m<4294967296):inI (ky c m):=by
 unfold inI;by_cases hb:2^(8*4-1)<=m
 ·have e:ky c m=(m:Int)-2^(8*4):=qm (n:=4) (by rw[h];rfl) (by rw[h]) hb;rw[e];omega
 ·have e:ky c m=(m:Int):=oy (n:=4) (by rw[h];rfl) (fun hh=>hb hh.2);rw[e];omega
theorem yd {s:List UInt8}{p:Int}{x:NZ}{z:Nat}(h:bx s p=some (x,z)):inI x.faf:=by
 obtain⟨h0,h1,h2,_⟩:=mc h;by_cases c1:12<=x.fab/\x.fab<=16
 ·have:=h1 c1.1 c1.2;unfold inI;omega
 by_cases c2:1<=x.fab/\x.fab<=11
 ·have:=h2 c2.1 c2.2;unfold inI;omega
 have c3:x.fab=0\/x.fab=17:=o_;unfold bx at h;split at h
 ·split at h
  ·cases h
  ·injection h with h;injection h with h3 h4;subst h3;dsimp only at c3⊢;rcases c3 with c3|c3
   ·rw[c3];have hl:=fA s (p.toNat+1) 4
    exact GO d_ (by
                    have:(256:Nat)^4=4294967296:=d_;show aX s (p.toNat+1) 4<4294967296
                    omega)
   ·rw[c3];have hl:=fA s (p.toNat+1) 0;have hl:aX s (p.toNat+1) 0<1:=hl;have e2:ky 17 (aX s (p.toNat+1) 0)=((aX s (p.toNat+1) 0:Nat):Int):=oy (n:=0) d_ (fun hh=>absurd hh.1 d_);show inI (ky 17 (aX s (p.toNat+1) 0));rw[e2];unfold inI;omega
 ·cases h
theorem MInv.step {s:Oe}{m:NY}{n:Nat}(h:MInv m n)(he:∀e∈s.fan,inI e):MInv (mE m (eU s m)) (n+1):=by
 obtain⟨h1,h2,h3,h4⟩:=h
 cases hr:eU s m with
 | none=>exact⟨h1,h2,h3,by show m.fah.length<=_;omega⟩
 | some m'=>
  obtain⟨x,hf,hx⟩:=ml hr;obtain⟨t,p,hd⟩:=DZ hf;obtain⟨x,z⟩:=x;obtain⟨c0,c1,c2,_⟩:=mc hd;have ha:=yd hd;obtain⟨e1,e2,e3,e4,e5,e6⟩:=si hx;have X4:=Iq s.fan {m with fap:=wr (m.fap+z)} x h2 h3.2.2 c0 c1 c2;have M4:=(X4.2 e6).2;have hin:MW (bg s.fan (adv ⟨m,false⟩ z) x).m:=Js (c:=adv ⟨m,false⟩ z) ⟨h3.1,HY _,h3.2.2⟩ (by show inI m.fag;unfold inI;omega) ha he;refine⟨GS h1 m' hr,?_,?_,?_⟩
  ·show 0<=m'.fag/\m'.fag<=1200;rw[e3];exact M4
  ·show MW m';refine⟨?_,?_,?_⟩
   ·rw[e1];exact hin.1
   ·rw[e5];exact hin.2.1
   ·rw[e4];exact hin.2.2
  ·have:=zp m' hr;show m'.fah.length<=_;omega
def NK (m:NY):Option NY->AV
 | none=>mV (MN m) (0,0,0) (0,0,1)
 | some m'=>mV m' (1,0,0) (1,0,1)
def NJ (m:NY):Option NY->List (Sim.Id×AO)
 | none=>[((0,0,0),.arr false 1 (m.fas.map aa)),((0,0,1),.arr false 1 (m.fah.map aa))]
 | some m'=>([((0,0,0),.arr false 1 (m.fas.map aa)),((0,0,1),.arr false 1 (m.fah.map aa))]++[((1,0,0),.arr false 1 (m'.fas.map aa)),((1,0,1),.arr false 1 (m'.fah.map aa))])
theorem V2{p:Prop}(h:p:=by
 have hA:=jE ⟨{c.m with fal:=1},c.bad⟩ c.m.fag;obtain⟨cm,cb⟩:=c;unfold cAt at hA;dsimp only at hA
 cases cb with
 | true=>
  have:r=none:=by rw[<-Ou];rfl
  subst this;repeat' ((conv=>whnf);first|refine cg hP ?_|refine az ?_|apply aq|apply oi|apply fi|intro h|refine cl hL ?_|refine⟨i,im.tr,rfl,Rp,?_⟩|refine cl hD ?_|refine cl hC ?_|refine⟨_,rfl,?_⟩|exact Y1|fail)
  all_goals try(exfalso;simp[h0]at h;done)
  all_goals try(exfalso;have h':=f9 h;omega)
 | false=>
  by_cases OR:cm.fap=0
  ·cases hin:bN cm.fag with
   | false=>
    rw[hin]at hA;have:r=none:=by rw[<-Ou];simp[qu,OR,hin]
    subst this;repeat' ((conv=>whnf);first|refine cg hP ?_|refine cg hA ?_|refine az ?_|apply aq|apply oi|apply fi|intro h|refine cl hL ?_|refine⟨i,im.tr,rfl,Rp,?_⟩|refine cl hD ?_|refine cl hC ?_|refine⟨_,rfl,?_⟩|exact Y1|fail)
    all_goals try(exfalso;simp[h0]at h;done)
    all_goals try(exfalso;simp[OR]at h;done)
    all_goals try(exfalso;have h':=f9 h;omega)
   | true=>
    rw[hin]at hA;obtain⟨j,v,hj,hv,J3,_⟩:=sR YW hin;have J0:(cm.fas.map aa).length=cm.fas.length:=s_;have X1:bN (j:Int)=true:=hj▸hin;have:r=some {cm with fal:=1,faA:=v}:=by rw[<-Ou];simp[qu,OR,X1,ey,hj,hv]
    subst this;repeat' ((conv=>whnf);first|refine cg hP ?_|refine cg hA ?_|refine az ?_|apply aq|apply oi|apply fi|intro h|refine cl hL ?_|refine⟨i,im.tr,rfl,Rp,?_⟩|refine cl hD ?_|refine cl hC ?_|refine⟨_,rfl,?_⟩|exact Y1|fail)
    all_goals try(exfalso;simp[h0]at h;done)
    all_goals try(exfalso;simp[OR]at h;done)
    all_goals try(exfalso;have h':=f9 h;omega)
    conv=>whnf
    refine⟨j,hj,by rw[J0];exact J3,?_⟩;repeat' ((conv=>whnf);first|refine az ?_|apply aq|apply oi|apply fi|intro h|refine⟨(aa v),ab hv,?_⟩|refine⟨_,rfl,?_⟩|exact Y1|fail)
  ·have:r=some cm:=by rw[<-Ou];simp[qu,OR]
   subst this;repeat' ((conv=>whnf);first|refine cg hP ?_|refine az ?_|apply aq|apply oi|apply fi|intro h|refine cl hL ?_|refine⟨i,im.tr,rfl,Rp,?_⟩|refine cl hD ?_|refine cl hC ?_|refine⟨_,rfl,?_⟩|exact Y1|fail)
   all_goals try(exfalso;simp[h0]at h;done)
   all_goals try(exfalso;simp[OR]at h;done)
   all_goals try(exfalso;have h':=f9 h;omega)):p:=h
theorem AB (s:Oe)(m:NY)(J5:cN s=true)(hm:m.fas.length=1200)(ho:m.fah.length<=2000000)(h0:m.fal=0)(r:Option NY)(hr:eU s m=r):bf Try.prog 19 [.r (.agg (s.tr.map .t)),mV m (0,0,0) (0,0,1)] [((0,0,0),.arr false 1 (m.fas.map aa)),((0,0,1),.arr false 1 (m.fah.map aa))] (NK m r) (NJ m r):=by
 obtain⟨i0,i1,b0,b1,R9,⟨e1,e2⟩,⟨g0,p0,p1⟩,⟨g1,q0,q1⟩,_,_⟩:=ue J5;have l0:=(imageOk_iff.1 g0).1;have l1:=(imageOk_iff.1 g1).1;have hL:=yb i0 i1 b0 b1 m.fap s.fan o_ o_ o_ o_;obtain⟨im,bs,es⟩:=s;dsimp only at R9 hL e2;injection R9 with h1 h2;subst h1;subst h2;refine dM hΓ aK Try.func19 rfl d_ rfl rfl ?_;have OC:AN ⟨[i0,i1],[b0,b1],es⟩ m.fap=fy i0 i1 b0 b1 m.fap:=rfl;rcases El i0 i1 b0 b1 m.fap with hx|⟨i,off,hi,hx⟩
 ·rw[hx]at hL;have:r=none:=by rw[<-hr,eU,lP,OC,hx];rfl
  subst this;repeat' ((conv=>whnf);first|refine az ?_|apply aq|apply oi|apply fi|intro h|refine cl hL ?_|refine⟨_,rfl,?_⟩|exact Y1|fail)
  all_goals try(exfalso;simp[h0]at h;done)
 ·have Pw:=Iu (b0:=b0) (b1:=b1) (a:=m.fap) l0 l1;rw[hx]at hL Pw;dsimp only at Pw;obtain⟨im,QU,Rp,OH⟩:=Hp hi l0 l1;have hD:=mz im.fab off o_ o_
  have hf:lP ⟨[i0,i1],[b0,b1],es⟩ m.fap=bx im.fab off:=by rw[lP,OC,hx];dsimp only;rw[b8 o_,d9,QU]
  cases hd:bx im.fab off with
  | none=>
   rw[hd]at hD hf;have:r=none:=by rw[<-hr,eU,hf]
   subst this;repeat' ((conv=>whnf);first|refine az ?_|apply aq|apply oi|apply fi|intro h|refine cl hL ?_|refine⟨i,im.tr,rfl,Rp,?_⟩|refine cl hD ?_|refine⟨_,rfl,?_⟩|exact Y1|fail)
   all_goals try(exfalso;simp[h0]at h;done)
   all_goals try(exfalso;have h':=f9 h;omega)
  | some xz=>
   obtain⟨x,z⟩:=xz;rw[hd]at hD hf;obtain⟨c0,c1,_,z5⟩:=mc hd;have hC:=fV m o_ ho;have Ou:qu (bg es (adv ⟨m,false⟩ z) x)=r:=by rw[<-hr,eU,hf]
   by_cases YV:x.fab=17
   ·have ZB:x=⟨17,x.faf⟩:=by rw[<-YV]
    have hP:=Fh ⟨[i0,i1],[b0,b1],es⟩ (adv ⟨m,false⟩ z) x.faf hm ho;rw[<-ZB]at hP;have PY:bg es (adv ⟨m,false⟩ z) x=BQ (adv ⟨m,false⟩ z):=by rw[ZB];simp[bg]
    rw[PY]at Ou;have YW:(BQ (adv ⟨m,false⟩ z)).ok:=cu (c:=adv ⟨m,false⟩ z) hm
    generalize BQ (adv ⟨m,false⟩ z)=c at *
    exact V2
   ·have hP:=vz ⟨[i0,i1],[b0,b1],es⟩ (adv ⟨m,false⟩ z) x hm YV c1 g_;have YW:(bg es (adv ⟨m,false⟩ z) x).ok:=Dz hm;dsimp only at hP
    generalize bg es (adv ⟨m,false⟩ z) x=c at *
    exact V2
theorem eM {s:Oe}{k:Nat}{m:NY}(h:m.fal≠0\/k=0):fI s k m=(m,0):=by
 cases k with
 | zero=>rfl
 | succ k=>rw[fI,b8 (by
                  rcases h with h|h;· exact h
                  ·cases h)]
theorem oE {s:Oe}{k:Nat}{m:NY}(h:m.fal=0):fI s (k+1) m=((fI s k (mE m (eU s m))).1,(fI s k (mE m (eU s m))).2+1):=by rw[fI,b9 h]
abbrev NO:AO:= .box [.t (.int .i64 0),.t (.int .i64 0),.t (.int .i64 0),.nils 0,.nils 0,.t (.int .i64 0),.t (.int .i64 0)]
abbrev NL (s:Oe):AO:= .box (s.tr.map .t)
theorem V34{p:Prop}(h:p:=by
 rw[b8 s_];repeat' ((conv=>whnf);first|refine az ?_|apply aq|apply oi|apply fi|intro h|refine cl hC ?_|refine cl hS ?_|refine cl hM ?_|refine cl hB ?_|refine⟨_,rfl,?_⟩|exact Y1|fail)
 all_goals try(exfalso;simp at h;done)
 all_goals exact⟨⟨rfl,da _⟩⟩):p:=h
theorem qi (s:Oe)(m:NY)(l:Int)(hs:aR 1048576 s.tr)(hms:aR 1048576 m.tr)(hw:MW m)(hsw:∀e∈s.fan,inI e):Sim.Spec Try.prog 8 [.agg s.tr,.agg m.tr,tvI l] (.tup [.agg ((rn s m l).1.tr.map EO),.c (.t (.int .i64 ((rn s m l).2:Int)))]):=by
 have hS:=mN s hs;have hM:=lK m;have hB:=bL l 0 20000;obtain⟨k1,k2⟩:=Fd hms;have hC:=fV m k1 o_;refine aG hΓ aK Try.func8 rfl d_ rfl ?_;unfold rn
 cases a1:cN s with
 | false=>
  rw[a1]at hS
  exact V34
 | true=>
  rw[a1]at hS
  cases a2:gd m with
  | false=>
   rw[a2]at hM
   exact V34
  | true=>
   rw[a2]at hM
   cases a3:af l 0 20000 with
   | false=>
    rw[a3]at hB
    exact V34
   | true=>
    rw[a3]at hB;rw[b9 ⟨rfl,rfl,rfl⟩];have hl:=within_iff.1 a3;obtain⟨L,rfl⟩:=j8 hl.1;obtain⟨m1,m2,m3⟩:=machineOk_iffL.1 a2;have X5:MInv m 0:=⟨m1,m2,hw,o_⟩;have P4:∀e∈s.fan,inI e:=hsw;rw[d9];obtain⟨R,hR⟩:∃R,fI s L m=R:=⟨_,rfl⟩;rw[hR];repeat' ((conv=>whnf);first|refine az ?_|apply aq|apply oi|apply fi|intro h|refine cl hC ?_|refine cl hS ?_|refine cl hM ?_|refine cl hB ?_|refine⟨_,rfl,?_⟩|exact Y1|fail)
    all_goals try(exfalso;simp at h;done)
    conv=>whnf
    refine⟨{q:Nat×NY//q.1<=L/\MInv q.2 q.1/\(fI s (L-q.1) q.2).1=R.1/\(fI s (L-q.1) q.2).2+q.1=R.2},fun q=>⟨[(2,tI .i64 (L:Int)),(3,.r (.c (.ptr (3,0,0) 0))),(6,.r (.c (.ptr (6,0,0) 0))),(7,tI .i64 0),(8,.r (.c (.ptr (8,0,0) 0))),(9,tI .i64 (q.1.1:Int))],
     [((3,0,0),some (NL s)),((6,0,0),some NO),((8,0,0),some (Mw q.1.2 (11,0,3) (11,0,4))),((11,0,3),some (.arr false 1 (q.1.2.fas.map aa))),((11,0,4),some (.arr false 1 (q.1.2.fah.map aa)))],[3,6,8,11]⟩,fun q=>L-q.1.1,⟨(0,m),o_,X5,by simp[hR],by simp[hR]⟩,?_,?_⟩
    ·repeat' ((conv=>whnf);first|refine az ?_|apply aq|apply oi|apply fi|intro h|refine⟨_,rfl,?_⟩|exact Y1|fail)
    intro⟨⟨n,d⟩,q1,q2,q3,q4⟩;dsimp only at q1 q2 q3 q4⊢;by_cases XJ:d.fal=0/\n<L
    ·obtain⟨g1,g2⟩:=XJ;obtain⟨j,hj⟩:∃j,L-n=j+1:=⟨L-n-1,o_⟩;rw[hj,oE g1]at q3 q4;dsimp only at q3 q4;have O9:=q2.step P4;have hT:=AB s d a1 q2.len (by have:=q2.out;omega) g1 _ rfl
     cases hr:eU s d with
     | none=>
      rw[hr]at hT O9 q3 q4;repeat' ((conv=>whnf);first|refine cg hT ?_|refine az ?_|apply aq|apply oi|apply fi|intro h|refine⟨_,rfl,?_⟩|exact Y1|fail)
      all_goals try(exfalso;simp[g1]at h;done)
      all_goals try(exfalso;have h':=f0 h;omega)
      conv=>whnf
      refine⟨⟨(n+1,MN d),g_,O9,by rw[show L-(n+1)=j by omega];exact q3,by rw[show L-(n+1)=j by omega];dsimp only[mE]at q4⊢;omega⟩,?_,KD⟩;repeat' ((conv=>whnf);first|refine az ?_|apply aq|apply oi|apply fi|intro h|refine⟨_,rfl,?_⟩|exact Y1|fail)
      all_goals try(refine⟨congrArg (Tr.int _) ?_⟩;dsimp only;rw[c9 _ o_];omega)
     | some d'=>
      rw[hr]at hT O9 q3 q4;repeat' ((conv=>whnf);first|refine cg hT ?_|refine az ?_|apply aq|apply oi|apply fi|intro h|refine⟨_,rfl,?_⟩|exact Y1|fail)
      all_goals try(exfalso;simp[g1]at h;done)
      all_goals try(exfalso;have h':=f0 h;omega)
      conv=>whnf
      refine⟨⟨(n+1,d'),g_,O9,by rw[show L-(n+1)=j by omega];exact q3,by rw[show L-(n+1)=j by omega];dsimp only[mE]at q4⊢;omega⟩,?_,KD⟩;repeat' ((conv=>whnf);first|refine az ?_|apply aq|apply oi|apply fi|intro h|refine⟨_,rfl,?_⟩|exact Y1|fail)
      all_goals try(refine⟨congrArg (Tr.int _) ?_⟩;dsimp only;rw[c9 _ o_];omega)
    ·have N8:fI s (L-n) d=(d,0):=eM (by
                                by_cases h0:d.fal=0;· exact .inr (by have:=fun h=>XJ ⟨h0,h⟩;omega)
                                ·exact .inl h0)
     rw[N8]at q3 q4;dsimp only at q3 q4;have hD:=fV d (by have:=q2.len;omega) (by have:=q2.out;omega);obtain⟨R1,R2⟩:=R;dsimp only at q3 q4;subst q3;subst q4;repeat' ((conv=>whnf);first|refine az ?_|apply aq|apply oi|apply fi|intro h|refine cl hD ?_|refine⟨_,rfl,?_⟩|exact Y1|fail)
     all_goals try(exfalso;apply XJ;refine⟨by simpa using ‹(d.fal==0)=true›,?_⟩;have h':=f9 ‹decide ((n:Int)<(L:Int))=true›;omega)
     all_goals exact⟨congrArg (Tr.int _) g_⟩
end Go.Proofs.Ytoglejgmjeojoaa
namespace Go.Proofs.Ytoglejgmjeojoaa
open Go.Sim
set_option maxRecDepth 100000
set_option maxHeartbeats 4000000
theorem gD {c:CS}{v:Int}:(cq c v).m.fal=c.m.fal:=by unfold cq;split<;>rfl
theorem cPop_st {c:CS}:(aS c).m.fal=c.m.fal:=by unfold aS;split<;>rfl
theorem cDrop_st:∀{n:Nat} {c:CS},(cB n c).m.fal=c.m.fal
 | 0,_=>rfl
 | n+1,c=>by rw[cB,cDrop_st (n:=n),cPop_st]
theorem se:∀{n:Nat} {c:CS},(eD n c).m.fal=c.m.fal
 | 0,_=>rfl
 | n+1,c=>by rw[eD,se (n:=n),gD]
theorem CH {c:CS}{a:Int}:(ia c a).m.fal=c.m.fal:=by
 unfold ia;split
 ·rfl
 ·exact gD
theorem yO {c:CS}{a:Int}:(eP c a).m.fal=c.m.fal:=by
 unfold eP;split
 ·exact cPop_st
 ·exact cPop_st
theorem JS {es:List Int}{c:CS}{x:NZ}:(bg es c x).m.fal=c.m.fal:=by
 unfold bg;refine br (fun d=>d.m.fal=c.m.fal) gD ?_;refine br (fun d=>d.m.fal=c.m.fal) CH ?_;refine br (fun d=>d.m.fal=c.m.fal) CH ?_;refine br (fun d=>d.m.fal=c.m.fal) yO ?_;refine br (fun d=>d.m.fal=c.m.fal) yO ?_;refine br (fun d=>d.m.fal=c.m.fal) (by rw[tn,gD,cPop_st,cPop_st]) ?_;refine br (fun d=>d.m.fal=c.m.fal) rfl ?_
 refine br (fun d=>d.m.fal=c.m.fal) (by
  unfold pa;split
  ·exact cPop_st
  ·exact cPop_st) ?_
 refine br (fun d=>d.m.fal=c.m.fal) (by
  unfold oX;split
  ·exact gD
  ·exact gD) ?_
 refine br (fun d=>d.m.fal=c.m.fal) (by rw[ss,se];exact gD) ?_;refine br (fun d=>d.m.fal=c.m.fal) se ?_
 refine br (fun d=>d.m.fal=c.m.fal) (by
  rw[sK,gD,cDrop_st]
  exact cPop_st.trans (cPop_st.trans cPop_st)) ?_
 refine br (fun d=>d.m.fal=c.m.fal) (by
  rw[om,gD,cDrop_st]
  exact cPop_st.trans (cDrop_st.trans cPop_st)) ?_
 refine br (fun d=>d.m.fal=c.m.fal) (by
  show(aS c).m.fal=_
  exact cPop_st) ?_
 rfl
theorem Ip {s:Oe}{m:NY}(h:af m.fal 0 2=true):af (mE m (eU s m)).fal 0 2=true:=by
 cases hr:eU s m with
 | none=>rfl
 | some m'=>
  obtain⟨x,_,hx⟩:=ml hr;show af m'.fal 0 2=true;unfold qu at hx;split at hx
  ·cases hx
  ·split at hx
   ·split at hx
    ·injection hx with hx;subst hx;rfl
    ·cases hx
   ·injection hx with hx;subst hx;rw[JS];exact h
structure MOk (m:NY) (n:Nat):Prop where
 inv:MInv m 0
 st:af m.fal 0 2=true
 out:m.fah.length<=n
theorem Eu {s:Oe}{m:NY}:(mE m (eU s m)).fah.length<=m.fah.length+1:=by
 cases h:eU s m with
 | none=>show m.fah.length<=_;omega
 | some m'=>exact zp m' h
theorem MOk.step {s:Oe}{m:NY}{n:Nat}(h:MOk m n)(hn:n<=1000000)(he:∀e∈s.fan,inI e):MOk (mE m (eU s m)) (n+1):=by have h1:=h.inv.step (s:=s) he;have h2:=Eu (s:=s) (m:=m);have h3:=h.out;exact⟨⟨h1.len,h1.sp,h1.w,o_⟩,Ip h.st,o_⟩
theorem MOk.mono {m:NY}{n k:Nat}(h:MOk m n)(hk:n<=k):MOk m k:=⟨h.inv,h.st,by have:=h.out;omega⟩
theorem MOk.run {s:Oe}(he:∀e∈s.fan,inI e):∀(k:Nat) {m:NY} {n:Nat},MOk m n->n+k<=1000000->MOk (fI s k m).1 (n+k)
 | 0,m,n,h,_=>h
 | k+1,m,n,h,hn=>by
  by_cases h0:m.fal=0
  ·rw[oE h0];have:=MOk.run he k (h.step o_ he) o_;rw[show n+1+k=n+(k+1) by omega]at this;exact this
  ·rw[eM (.inl h0)];exact h.mono o_
theorem MOk.ok {m:NY}{n:Nat}(h:MOk m n):gd m=true:=by unfold gd;have h1:=h.inv.len;have h2:=h.inv.sp;rw[h.st,within_iff.2 ⟨h2.1,h2.2⟩,h1];rfl
theorem MOk.small {m:NY}{n:Nat}(h:MOk m n)(hn:n<=1000000):aR 1048576 m.tr:=by have h1:=h.inv.len;have h2:=h.out;simp only[NY.tr,aR];exact⟨by simp[aH],by simp[aH],by simp[aH],xU o_,xU o_,by simp[aH],by simp[aH],trivial⟩
theorem Cv {s:Oe}:∀(a b:Nat) (m:NY),fI s (a+b) m=((fI s b (fI s a m).1).1,(fI s a m).2+(fI s b (fI s a m).1).2)
 | 0,b,m=>by
  rw[s5,eM (k:=0) (.inr rfl)];dsimp only
  rw[s5]
 | a+1,b,m=>by
  by_cases h0:m.fal=0
  ·rw[show a+1+b=(a+b)+1 by omega,oE h0,oE h0,Cv a b];dsimp only;rw[Nat.add_right_comm]
  ·rw[eM (.inl h0),eM (k:=a+1) (.inl h0)];dsimp only;rw[eM (.inl h0)];exact congrArg (Prod.mk m) (s5 0).symm
theorem La {s:Oe}(hs:cN s=true)(he:∀e∈s.fan,inI e):MOk (lM s) 0:=by
 have hh:inI (s.fan.headD 0):=by
  cases hx:s.fan with
  | nil=>show inI 0;unfold inI;omega
  | cons a l=>exact he a (by rw[hx];simp)
 rw[lM,b9 hs];refine⟨⟨s_,g_,⟨fun w hw=>?_,hh,by unfold inI;dsimp only;omega⟩,s_⟩,rfl,s_⟩;have:=List.eq_of_mem_replicate hw;rw[this];unfold inI;omega
theorem CX {s:Oe}(hs:cN s=true){m:NY}{n:Nat}(h:MOk m n){l:Int}(h0:0<=l)(h1:l<=20000):rn s m l=fI s l.toNat m:=by rw[rn,b9 ⟨hs,h.ok,within_iff.2 ⟨h0,h1⟩⟩]
noncomputable section
section
variable {p:List NX} {b:NP} {first second:Int}
def tG (b:NP)(first second:Int)(f:Nat):Int:=if bt b f=1 then second else first
def adr (p:List NX)(b:NP)(first second:Int)(f j:Nat):Int:=tG b first second f+atL (bK (bG p b f) (aD p f b)) j
def Ij (p:List NX)(b:NP):List (List Oc):=[kP (cf p b 0),kP (cf p b 1)]
theorem Mr (h:SpOk p b first second)(f:Nat){off:Int}(h0:0<=off)(h1:off<(ao p b (bt b f)).fab.length):AN (aE p b first second) (tG b first second f+off)=(bt b f,off)/\1<=tG b first second f/\tG b first second f<=1000000/\(ao p b (bt b f)).fab.length<=75000:=by
 have a0:=er h.small h.prog h.build (image:=0) d_;have a1:=er h.small h.prog h.build (image:=1) d_;have ZN:=h.fb;have Z0:=h.sb;have M4:=h.space
 have M1:cY (ao p b 0) (ao p b 1) first second=false:=by exact V56
 have OC:∀e,AN (aE p b first second) e=fy (ao p b 0) (ao p b 1) first second e:=fun e=>rfl;unfold tG;rcases gr b f with e|e
 ·rw[e]at h1⊢;rw[b8 d_,OC,fy,b9 ⟨o_,o_⟩,show first+off-first=off by omega];exact⟨rfl,o_,o_,a0.2⟩
 ·rw[e]at h1⊢;rw[b9 rfl,OC,fy,b8,b9 ⟨o_,o_⟩,show second+off-second=off by omega]
  ·exact⟨rfl,o_,o_,a1.2⟩
  ·intro hc;unfold cY at M1;simp only[A4,p8]at M1;omega
structure AtA (p:List NX) (b:NP) (first second:Int) (f j:Nat) (it:NW):Prop where
 fetch:lP (aE p b first second) (adr p b first second f j)=some ((ep (bK (bG p b f) (aD p f b)) j it).fad,(aN it.fad.fab).toNat)
 next:adr p b first second f (j+1)=adr p b first second f j+aN it.fad.fab
 size:1<=aN it.fad.fab/\aN it.fad.fab<=5
 rng:1<=adr p b first second f j/\adr p b first second f j<=1080000
 rule:∀a,adr p b first second f j<=a->a<adr p b first second f (j+1)->∃r,Kv (Ij p b) (AN (aE p b first second) a)=some r/\r.faD=it.faz/\r.fau=it.fau
theorem EV (h:SpOk p b first second){f:Nat}(hf:f<(ay p).length){j:Nat}{it:NW}(hj:(aD p f b)[j]?=some it):AtA p b first second f j it:=by
 obtain⟨i,x,hx⟩:=pQ (b:=b) hf;obtain⟨g1,g2,g3⟩:=hx;have M1:=gr b f;have h3:af (bt b f) 0 1=true:=by rw[within_iff];omega
 have Pq:=(kG h.small h.prog h.build o_ g1).1;rw[g2,Int.zero_add]at Pq;have N8:((au (aB ((cn p b (bt b f) (ay p).length 0 0).take i))).length:Int)=bG p b f:=g3.symm;rw[N8]at Pq;have hy:=fo (at0:=bG p b f) hj;rw[<-Pq]at hy;obtain⟨hp,Pw⟩:=fX h.small h.prog h.build g1 hy;have Ol:(ep (bK (bG p b f) (aD p f b)) j it).fad.fab=it.fad.fab:=lO _ _ _;have OD:=pX hp.op;have N1:=eC hp.op;dsimp only at OD N1 Pw;rw[Ol]at OD N1
 have QK:∀z∈x.2,dB z.fai.fad.fab z.fai.fad.faf=true:=fun z hz=>by
  obtain⟨k,hk⟩:=t9.1 hz;exact(fX h.small h.prog h.build g1 hk).1.op
 have Va:(ao p b (bt b f)).fab=au (aB ((imL p b (bt b f)).take i))++au x.2++au (aB ((imL p b (bt b f)).drop (i+1))):=by
  rw[ao,b9 ⟨h.prog,h.build,h3⟩];have e:=tm g1
  rw[show imL p b (bt b f)=cn p b (bt b f) (ay p).length 0 0 from rfl]at *
  dsimp only;rw[e,aO,aO,<-k0]
 have hd:=tM QK hy (au (aB ((imL p b (bt b f)).take i))) (au (aB ((imL p b (bt b f)).drop (i+1))));rw[<-Va,c7]at hd;dsimp only at hd;rw[Ol]at hd
 have Wj:(((au (aB ((imL p b (bt b f)).take i))).length+(au (x.2.take j)).length:Nat):Int)=atL (bK (bG p b f) (aD p f b)) j:=by rw[Pw,Int.natCast_add]
 rw[Wj]at hd
 generalize hO:atL (bK (bG p b f) (aD p f b)) j=off at *
 have J0:off+aN it.fad.fab<=((ao p b (bt b f)).fab.length:Int):=by rw[Va,c7,c7];have h2:x.2.take (j+1)++x.2.drop (j+1)=x.2:=w5 _ _;have h4:=congrArg (fun l=>(au l).length) h2;simp only[aO,c7]at h4;rw[dF hy,aO,eB,c7]at h4;dsimp only at h4;omega
 have Tp:0<=off:=o_
 have Ox:adr p b first second f (j+1)=adr p b first second f j+aN it.fad.fab:=by unfold adr;rw[gK hj];omega
 have Qy:adr p b first second f j=tG b first second f+off:=by unfold adr;rw[hO]
 have OC:=fun(o:Int) (h0:0<=o) (h1:o<(ao p b (bt b f)).fab.length)=>Mr h f h0 h1
 have UQ:(aE p b first second).faB[(bt b f).toNat]?=some (ao p b (bt b f)):=by
  rcases M1 with e|e
  ·rw[e];rfl
  ·rw[e];rfl
 refine⟨?_,Ox,OD,?_,fun a h1 h2=>?_⟩
 ·rw[Qy,lP,(OC off Tp o_).1];dsimp only;rw[b8 o_,UQ];exact hd
 ·obtain⟨_,q1,q2,q3⟩:=OC off Tp o_;rw[Qy];omega
 ·rw[Ox,Qy]at h2;rw[Qy]at h1;obtain⟨o,rfl⟩:∃o,a=tG b first second f+o:=⟨a-tG b first second f,o_⟩;rw[(OC o o_ o_).1];have hPl:cf p b (bt b f)=aB (imL p b (bt b f)):=by rw[cf,b9 ⟨h.prog,h.build,h3⟩];rfl
  have hk:=Bn g1 hy;rw[<-hPl]at hk;obtain⟨q,r,r1,r2,r3,r4,_⟩:=LN (Dc h.small) (CR h.small) hk (off:=o) g_ (by dsimp only;rw[Ol];omega)
  have hr:(Ij p b)[(bt b f).toNat]?=some (kP (cf p b (bt b f))):=by
   rcases M1 with e|e
   ·rw[e];rfl
   ·rw[e];rfl
  refine⟨r,?_,?_,?_⟩
  ·unfold Kv;dsimp only;rw[b8 o_,hr];dsimp only;rw[r1,b8 o_,d9];exact r2
  ·rw[r3];unfold ep;split<;>rfl
  ·rw[r4];unfold ep;split<;>rfl
theorem qn (h:SpOk p b first second){f:Nat}(hf:f<(ay p).length):adr p b first second f 0=cP p b first second f:=by obtain⟨i,im,base,he⟩:=AG h hf;have N8:=he.start;have hl:=he.len;have WS:=he.range;have ZN:=h.fb;have Z0:=h.sb;rw[adr,gk,cP,c9 _ (by split<;>omega)];rfl
end
end
theorem ux {n:Int}(h:-1000000000<=n/\n<=1000000000):wr n=n:=c9 _ o_
structure Same (c c':CS) (sp lo:Int):Prop where
 sp:c'.m.fag=sp
 fp:c'.m.fao=c.m.fao
 pc:c'.m.fap=c.m.fap
 st:c'.m.fal=c.m.fal
 words:∀a,lo<=a->ey c'.m a=ey c.m a
theorem Same.trans {a b c:CS}{x y l m:Int}(h:Same a b x l)(h':Same b c y m):Same a c y (max l m):=⟨h'.sp,h'.fp.trans h.fp,h'.pc.trans h.pc,h'.st.trans h.st,fun v hv=>(h'.words v o_).trans (h.words v o_)⟩
theorem Bk {m:NY}{a v b:Int}(hl:m.fas.length=1200)(ha:0<=a/\a<=1199)(hb:0<=b):ey (mX m a v) b=if b=a then v else ey m b:=by
 unfold ey mX;dsimp only;by_cases h:b=a
 ·rw[b9 h,h,v6 o_]
 ·rw[b8 h,A7 o_]
noncomputable section
structure MS where
 pc:Int
 sp:Int
 fp:Int
 W:Int->Int
 out:List Int
def upd (W:Int->Int)(a v:Int):Int->Int:=fun b=>if b=a then v else W b
theorem ip {W:Int->Int}{a v:Int}:upd W a v a=v:=b9 rfl
theorem fm {W:Int->Int}{a v b:Int}(h:b≠a):upd W a v b=W b:=b8 h
structure IsM (m:NY) (x:MS):Prop where
 len:m.fas.length=1200
 pc:m.fap=x.pc
 sp:m.fag=x.sp
 fp:m.fao=x.fp
 out:m.fah=x.out
 w:∀a,0<=a->a<=1199->ey m a=x.W a
 st:m.fal=if x.pc=0 then 1 else 0
 val:x.pc=0->m.faA=x.W x.sp
inductive Steps (s:Oe):NY->NY->Prop where
 | refl (m:NY):Steps s m m
 | step {m m' m'':NY}:m.fal=0->eU s m=some m'->Steps s m' m''->Steps s m m''
theorem Steps.trans {s:Oe}{a b c:NY}(h:Steps s a b)(h':Steps s b c):Steps s a c:=by
 induction h with
 | refl=>exact h'
 | step h0 h1 _ ih=>exact .step h0 h1 (ih h')
def Reach (s:Oe)(x y:MS):Prop:=∀m,IsM m x->∃m',Steps s m m'/\IsM m' y
theorem Reach.refl {s:Oe}(x:MS):Reach s x x:=fun m h=>⟨m,.refl m,h⟩
theorem Reach.trans {s:Oe}{x y z:MS}(h:Reach s x y)(h':Reach s y z):Reach s x z:=fun m hm=>by
 obtain⟨m1,a1,a2⟩:=h m hm;obtain⟨m2,b1,b2⟩:=h' m1 a2;exact⟨m2,a1.trans b1,b2⟩
theorem Steps.run {s:Oe}{m m':NY}(h:Steps s m m'):∃k,∀j,fI s (k+j) m=((fI s j m').1,k+(fI s j m').2):=by
 induction h with
 | refl m=>exact⟨0,fun j=>by rw[s5,s5]⟩
 | @step a b c h0 h1 _ ih=>obtain⟨k,hk⟩:=ih;refine⟨k+1,fun j=>?_⟩;rw[show k+1+j=(k+j)+1 by omega,oE h0,h1,mE,hk];dsimp only;rw[Nat.add_right_comm]
structure IsC (c:CS) (x:MS):Prop where
 bad:c.bad=false
 len:c.m.fas.length=1200
 pc:c.m.fap=x.pc
 sp:c.m.fag=x.sp
 fp:c.m.fao=x.fp
 out:c.m.fah=x.out
 w:∀a,0<=a->a<=1199->ey c.m a=x.W a
 st:c.m.fal=0
section
variable {c:CS} {pc sp fp:Int} {W:Int->Int} {out:List Int}
theorem IsC.congr {W':Int->Int}(h:IsC c ⟨pc,sp,fp,W,out⟩)(hw:∀a,0<=a->a<=1199->W' a=W a):IsC c ⟨pc,sp,fp,W',out⟩:=
 ⟨h.bad,h.len,h.pc,h.sp,h.fp,h.out,fun a h0 h1=>by rw[h.w a h0 h1];exact(hw a h0 h1).symm,h.st⟩
theorem kK {v:Int}(h:IsC c ⟨pc,sp,fp,W,out⟩)(h1:1<=sp)(h2:sp<=1200):IsC (cq c v) ⟨pc,sp-1,fp,upd W (sp-1) v,out⟩:=by
 have M4:c.m.fag=sp:=h.sp;have hw:wr (c.m.fag-1)=sp-1:=by rw[M4];exact ux o_
 unfold cq;rw[hw,h.bad,B3];have hin:bN (sp-1)=true:=by rw[inStk_iff];omega
 rw[hin,b8 s_];refine⟨rfl,by dsimp only[mX];rw[o8];exact h.len,h.pc,rfl,h.fp,h.out,fun a a0 a1=>?_,h.st⟩;have:=Bk (m:=c.m) (v:=v) h.len (inStk_iff.1 hin) a0;have e:=h.w a a0 a1;dsimp only[upd]at e⊢;rw[<-e];exact this
theorem jW (h:IsC c ⟨pc,sp,fp,W,out⟩)(h1:0<=sp)(h2:sp<=1199):IsC (aS c) ⟨pc,sp+1,fp,W,out⟩/\iS c=W sp:=by
 have M4:c.m.fag=sp:=h.sp;have hin:bN c.m.fag=true:=by rw[inStk_iff];omega
 unfold aS iS;rw[h.bad,hin,b8 s_,b8 s_];exact⟨⟨rfl,h.len,h.pc,by dsimp only;rw[M4],h.fp,h.out,h.w,h.st⟩,by rw[M4];exact h.w sp h1 h2⟩
theorem vo:∀(n:Nat) {c:CS} {sp:Int},IsC c ⟨pc,sp,fp,W,out⟩->0<=sp->sp+n<=1200->IsC (cB n c) ⟨pc,sp+n,fp,W,out⟩
 | 0,c,sp,h,_,_=>by rw[cB];simpa using h
 | n+1,c,sp,h,h1,h2=>by
  rw[cB];have:=vo n (jW h h1 o_).1 o_ o_;rwa [show sp+1+(n:Int)=sp+((n+1:Nat):Int) by omega]at this
theorem vC:∀(n:Nat) {c:CS} {sp:Int} {W:Int->Int},IsC c ⟨pc,sp,fp,W,out⟩->(n:Int)<=sp->sp<=1200->IsC (eD n c) ⟨pc,sp-n,fp,fun a=>if sp-n<=a/\a<sp then 0 else W a,out⟩
 | 0,c,sp,W,h,_,_=>by
  rw[eD,show sp-((0:Nat):Int)=sp by omega]
  exact h.congr fun a _ _=>b8 o_
 | n+1,c,sp,W,h,h1,h2=>by
  rw[eD];have:=vC n (kK (v:=0) h o_ h2) o_ o_;rw[show sp-1-(n:Int)=sp-((n+1:Nat):Int) by omega]at this;refine this.congr fun a _ _=>?_;unfold upd;by_cases h3:sp-((n+1:Nat):Int)<=a/\a<sp
  ·rw[b9 h3];by_cases h4:a=sp-1
   ·rw[b8 o_,b9 h4]
   ·rw[b9 o_]
  ·rw[b8 h3,b8 o_,b8 o_]
theorem Gz {a:Int}(h:IsC c ⟨pc,sp,fp,W,out⟩)(h1:1<=sp)(h2:sp<=1200)(ha:0<=a/\a<=1199):IsC (ia c a) ⟨pc,sp-1,fp,upd W (sp-1) (W a),out⟩:=by unfold ia;have hin:bN a=true:=inStk_iff.2 ha;rw[h.bad,hin,b8 s_,h.w a ha.1 ha.2];exact kK ⟨rfl,h.len,h.pc,h.sp,h.fp,h.out,h.w,h.st⟩ h1 h2
theorem DA {a:Int}(h:IsC c ⟨pc,sp,fp,W,out⟩)(h1:0<=sp)(h2:sp<=1199)(ha:0<=a/\a<=1199):IsC (eP c a) ⟨pc,sp+1,fp,upd W a (W sp),out⟩:=by obtain⟨p1,p2⟩:=jW h h1 h2;unfold eP;have hin:bN a=true:=inStk_iff.2 ha;rw[p1.bad,hin,b8 s_,p2];refine⟨rfl,by dsimp only[mX];rw[o8];exact p1.len,p1.pc,p1.sp,p1.fp,p1.out,fun b b0 b1=>?_,p1.st⟩;have:=Bk (m:=(aS c).m) (v:=W sp) p1.len ha b0;have e:=p1.w b b0 b1;dsimp only[upd]at e⊢;rw[<-e];exact this
end
section
variable {p:List NX} {b:NP} {first second:Int} {F i:Nat} {pc sp fp:Int} {W:Int->Int} {out:List Int} {o:NZ}
def opA (p:List NX)(b:NP)(F i:Nat):Option NZ:=((aD p F b)[i]?).map (·.fad)
theorem lq (h:opA p b F i=some o):∃it,(aD p F b)[i]?=some it/\it.fad=o:=by
 unfold opA at h
 cases hx:(aD p F b)[i]? with
 | none=>rw[hx]at h;cases h
 | some it=>rw[hx]at h;injection h with h;exact⟨it,rfl,h⟩
abbrev jOp (p:List NX)(b:NP)(F i:Nat)(it:NW):NZ:=(ep (bK (bG p b F) (aD p F b)) i it).fad
theorem pm (h:SpOk p b first second)(hF:F<(ay p).length){it:NW}(hi:(aD p F b)[i]?=some it){y:MS}
  (hy:∀c,IsC c ⟨adr p b first second F (i+1),sp,fp,W,out⟩->IsC (bg (aE p b first second).fan c (jOp p b F i it)) y) (h0:y.pc=0->0<=y.sp/\y.sp<=1199):Reach (aE p b first second) ⟨adr p b first second F i,sp,fp,W,out⟩ y:=by
 intro m hm;have Pq:=EV h hF hi;have hr:=Pq.rng;have hz:=Pq.size;have OR:m.fap=adr p b first second F i:=hm.pc;have N8:m.fal=0:=by rw[hm.st,b8 g_]
 have hc:=hy (adv ⟨m,false⟩ ((aN it.fad.fab).toNat:Nat)) ⟨rfl,hm.len,by
  show wr (m.fap+(((aN it.fad.fab).toNat:Nat):Int))=adr p b first second F (i+1)
  rw[OR,Pq.next,ux o_];omega,hm.sp,hm.fp,hm.out,hm.w,N8⟩
 have hs:eU (aE p b first second) m=qu (bg (aE p b first second).fan (adv ⟨m,false⟩ ((aN it.fad.fab).toNat:Nat)) (jOp p b F i it)):=by unfold eU;rw[OR,Pq.fetch]
 generalize bg (aE p b first second).fan (adv ⟨m,false⟩ ((aN it.fad.fab).toNat:Nat)) (jOp p b F i it)=c at *
 have hp:=hc.pc;unfold qu at hs;rw[hc.bad,b8 s_]at hs;by_cases So:y.pc=0
 ·have M4:=hc.sp;have hin:bN c.m.fag=true:=by rw[inStk_iff,M4];exact h0 So
  rw[b9 (by rw[hp,So]),b9 hin]at hs;refine⟨_,.step N8 hs (.refl _),⟨hc.len,hc.pc,hc.sp,hc.fp,hc.out,hc.w,by rw[b9 So],fun _=>?_⟩⟩;dsimp only;rw[hc.w _ (by rw[M4];exact(h0 So).1) (by rw[M4];exact(h0 So).2),M4]
 ·rw[b8 (by rw[hp];exact So)]at hs;exact⟨_,.step N8 hs (.refl _),⟨hc.len,hc.pc,hc.sp,hc.fp,hc.out,hc.w,by rw[b8 So];exact hc.st,fun hh=>absurd hh So⟩⟩
theorem ug (h:SpOk p b first second){G:Nat}(hG:G<(ay p).length):1<=cP p b first second G/\cP p b first second G<=1080000:=by obtain⟨i,im,base,he⟩:=AG h hG;have h1:=he.entry;have h2:=he.range;have h3:=he.start;have h4:=he.len;omega
theorem FB (h:SpOk p b first second)(hF:F<(ay p).length){it:NW}(hi:(aD p F b)[i]?=some it):1<=adr p b first second F i/\adr p b first second F i<=1080000:=(EV h hF hi).rng
theorem cv (h:SpOk p b first second)(hF:F<(ay p).length)(hi:opA p b F i=some o):1<=adr p b first second F (i+1)/\adr p b first second F (i+1)<=1080005:=by obtain⟨it,h1,_⟩:=lq hi;have a:=EV h hF h1;have:=a.rng;have:=a.next;have:=a.size;omega
theorem eF (h:SpOk p b first second)(hF:F<(ay p).length)(hi:opA p b F i=some o)(Ub:o.fab≠10)(SM:o.fab≠11){y:MS}
  (hy:∀c,IsC c ⟨adr p b first second F (i+1),sp,fp,W,out⟩->IsC (bg (aE p b first second).fan c o) y) (h0:y.pc=0->0<=y.sp/\y.sp<=1199):Reach (aE p b first second) ⟨adr p b first second F i,sp,fp,W,out⟩ y:=by
 obtain⟨it,h1,rfl⟩:=lq hi
 have hj:jOp p b F i it=it.fad:=by unfold jOp ep;rw[b8 (by rw[isJump_iff];omega)]
 exact pm h hF h1 (fun c hc=>by rw[hj];exact hy c hc) h0
theorem nj (h:SpOk p b first second)(hF:F<(ay p).length){v:Int}(hi:opA p b F i=some ⟨0,v⟩)(h1:1<=sp)(h2:sp<=1200):Reach (aE p b first second) ⟨adr p b first second F i,sp,fp,W,out⟩ ⟨adr p b first second F (i+1),sp-1,fp,upd W (sp-1) v,out⟩:=by have hn:=cv h hF hi;refine eF h hF hi s_ s_ (fun c hc=>?_) (fun e=>by dsimp only at e;omega);rw[show bg (aE p b first second).fan c ⟨0,v⟩=cq c v by unfold bg;rw[b9 rfl]];exact kK hc h1 h2
theorem Cb (h:SpOk p b first second)(hF:F<(ay p).length){a:Int}(hi:opA p b F i=some ⟨1,a⟩)(h1:1<=sp)(h2:sp<=1200)(ha:0<=fp+a/\fp+a<=1199):Reach (aE p b first second) ⟨adr p b first second F i,sp,fp,W,out⟩ ⟨adr p b first second F (i+1),sp-1,fp,upd W (sp-1) (W (fp+a)),out⟩:=by have hn:=cv h hF hi;refine eF h hF hi s_ s_ (fun c hc=>?_) (fun e=>by dsimp only at e;omega);rw[show bg (aE p b first second).fan c ⟨1,a⟩=ia c (wr (c.m.fao+a)) by unfold bg;rw[b8 g_,b9 rfl]];rw[show c.m.fao=fp from hc.fp,ux o_];exact Gz hc h1 h2 ha
theorem DJ (h:SpOk p b first second)(hF:F<(ay p).length){a:Int}(hi:opA p b F i=some ⟨3,a⟩)(h1:1<=sp)(h2:sp<=1200)(ha:0<=sp+a/\sp+a<=1199):Reach (aE p b first second) ⟨adr p b first second F i,sp,fp,W,out⟩ ⟨adr p b first second F (i+1),sp-1,fp,upd W (sp-1) (W (sp+a)),out⟩:=by have hn:=cv h hF hi;refine eF h hF hi s_ s_ (fun c hc=>?_) (fun e=>by dsimp only at e;omega);rw[show bg (aE p b first second).fan c ⟨3,a⟩=ia c (wr (c.m.fag+a)) by unfold bg;rw[b8 g_,b8 g_,b9 rfl]];rw[show c.m.fag=sp from hc.sp,ux o_];exact Gz hc h1 h2 ha
theorem Bh (h:SpOk p b first second)(hF:F<(ay p).length){a:Int}(hi:opA p b F i=some ⟨2,a⟩)(h1:0<=sp)(h2:sp<=1199)(ha:0<=fp+a/\fp+a<=1199):Reach (aE p b first second) ⟨adr p b first second F i,sp,fp,W,out⟩ ⟨adr p b first second F (i+1),sp+1,fp,upd W (fp+a) (W sp),out⟩:=by have hn:=cv h hF hi;refine eF h hF hi s_ s_ (fun c hc=>?_) (fun e=>by dsimp only at e;omega);rw[show bg (aE p b first second).fan c ⟨2,a⟩=eP c (wr (c.m.fao+a)) by unfold bg;rw[b8 g_,b8 g_,b8 g_,b9 rfl]];rw[show c.m.fao=fp from hc.fp,ux o_];exact DA hc h1 h2 ha
theorem Bc (h:SpOk p b first second)(hF:F<(ay p).length){a:Int}(hi:opA p b F i=some ⟨4,a⟩)(h1:0<=sp)(h2:sp<=1199)(ha:0<=sp+a/\sp+a<=1199):Reach (aE p b first second) ⟨adr p b first second F i,sp,fp,W,out⟩ ⟨adr p b first second F (i+1),sp+1,fp,upd W (sp+a) (W sp),out⟩:=by have hn:=cv h hF hi;refine eF h hF hi s_ s_ (fun c hc=>?_) (fun e=>by dsimp only at e;omega);rw[show bg (aE p b first second).fan c ⟨4,a⟩=eP c (wr (c.m.fag+a)) by unfold bg;rw[b8 g_,b8 g_,b8 g_,b8 g_,b9 rfl]];rw[show c.m.fag=sp from hc.sp,ux o_];exact DA hc h1 h2 ha
theorem CD (h:SpOk p b first second)(hF:F<(ay p).length){k a:Int}(hi:opA p b F i=some ⟨k,a⟩)(hk:5<=k/\k<=9)(h1:0<=sp)(h2:sp<=1198):Reach (aE p b first second) ⟨adr p b first second F i,sp,fp,W,out⟩ ⟨adr p b first second F (i+1),sp+1,fp,upd W (sp+1) (cW (k-3) (W (sp+1)) (W sp)),out⟩:=by have hn:=cv h hF hi;refine eF h hF hi g_ g_ (fun c hc=>?_) (fun e=>by dsimp only at e;omega);rw[show bg (aE p b first second).fan c ⟨k,a⟩=tn c (k-3) by unfold bg;rw[b8 g_,b8 g_,b8 g_,b8 g_,b8 g_,b9 hk]];obtain⟨p1,p2⟩:=jW hc h1 o_;obtain⟨q1,q2⟩:=jW p1 o_ o_;unfold tn;rw[p2,q2];have:=kK (v:=cW (k-3) (W (sp+1)) (W sp)) q1 o_ o_;rwa [show sp+1+1-1=sp+1 by omega]at this
theorem pI (h:SpOk p b first second)(hF:F<(ay p).length){j:Nat}{o':NZ}(hi:opA p b F i=some ⟨10,(j:Int)⟩)(hj:opA p b F j=some o'):Reach (aE p b first second) ⟨adr p b first second F i,sp,fp,W,out⟩ ⟨adr p b first second F j,sp,fp,W,out⟩:=by
 obtain⟨it,k1,k2⟩:=lq hi;obtain⟨Pr,k3,_⟩:=lq hj;have hr:=FB h hF k3;have hn:=cv h hF hi
 have J1:jOp p b F i it=⟨10,adr p b first second F j-adr p b first second F (i+1)⟩:=by unfold jOp ep;rw[b9 (isJump_iff.2 (by rw[k2];exact .inl rfl))];unfold qj adr;rw[k2];dsimp only;rw[d9];congr 1;omega
 refine pm h hF k1 (fun c hc=>?_) (fun e=>by dsimp only at e;omega);rw[J1];rw[show bg (aE p b first second).fan c ⟨10,adr p b first second F j-adr p b first second F (i+1)⟩=oM c (adr p b first second F j-adr p b first second F (i+1)) by unfold bg;rw[b8 g_,b8 g_,b8 g_,b8 g_,b8 g_,b8 g_,b9 rfl]];refine⟨hc.bad,hc.len,?_,hc.sp,hc.fp,hc.out,hc.w,hc.st⟩;show wr (c.m.fap+_)=_;rw[show c.m.fap=adr p b first second F (i+1) from hc.pc,ux o_];dsimp only;omega
theorem Eb (h:SpOk p b first second)(hF:F<(ay p).length){j:Nat}{o':NZ}(hi:opA p b F i=some ⟨11,(j:Int)⟩)(hj:opA p b F j=some o')(h1:0<=sp)(h2:sp<=1199):Reach (aE p b first second) ⟨adr p b first second F i,sp,fp,W,out⟩ ⟨adr p b first second F (if W sp=0 then j else i+1),sp+1,fp,W,out⟩:=by
 obtain⟨it,k1,k2⟩:=lq hi;obtain⟨Pr,k3,_⟩:=lq hj;have hr:=FB h hF k3;have hn:=cv h hF hi
 have J1:jOp p b F i it=⟨11,adr p b first second F j-adr p b first second F (i+1)⟩:=by unfold jOp ep;rw[b9 (isJump_iff.2 (by rw[k2];exact .inr rfl))];unfold qj adr;rw[k2];dsimp only;rw[d9];congr 1;omega
 refine pm h hF k1 (fun c hc=>?_) (fun e=>by dsimp only at e;split at e<;>omega);rw[J1];rw[show bg (aE p b first second).fan c ⟨11,adr p b first second F j-adr p b first second F (i+1)⟩=pa c (adr p b first second F j-adr p b first second F (i+1)) by unfold bg;rw[b8 g_,b8 g_,b8 g_,b8 g_,b8 g_,b8 g_,b8 g_,b9 rfl]];obtain⟨p1,p2⟩:=jW hc h1 h2;unfold pa;rw[p2];by_cases hz:W sp=0
 ·rw[b9 hz,b9 hz];refine⟨p1.bad,p1.len,?_,p1.sp,p1.fp,p1.out,p1.w,p1.st⟩;show wr ((aS c).m.fap+_)=_;rw[show(aS c).m.fap=adr p b first second F (i+1) from p1.pc,ux o_];dsimp only;omega
 ·rw[b8 hz,b8 hz];exact p1
theorem Fg (h:SpOk p b first second)(hF:F<(ay p).length){G:Nat}(hG:G<(ay p).length)(hi:opA p b F i=some ⟨12,(G:Int)⟩)(h1:1<=sp)(h2:sp<=1200):Reach (aE p b first second) ⟨adr p b first second F i,sp,fp,W,out⟩ ⟨adr p b first second G 0,sp-1,fp,upd W (sp-1) (adr p b first second F (i+1)),out⟩:=by
 have N8:=ug h hG;rw[<-qn h hG]at N8;refine eF h hF hi s_ s_ (fun c hc=>?_) (fun e=>by dsimp only at e;omega);rw[show bg (aE p b first second).fan c ⟨12,(G:Int)⟩=oX (cq c c.m.fap) (aE p b first second).fan (G:Int) by unfold bg;rw[b8 g_,b8 g_,b8 g_,b8 g_,b8 g_,b8 g_,b8 g_,b8 g_,b9 rfl]]
 have co:(aE p b first second).fan[((G:Int)).toNat]?=some (adr p b first second G 0):=by rw[qn h hG,d9];exact mU hG
 unfold oX;rw[co];dsimp only;have hp:=kK (v:=c.m.fap) hc h1 h2;rw[show c.m.fap=adr p b first second F (i+1) from hc.pc]at hp⊢;exact⟨hp.bad,hp.len,rfl,hp.sp,hp.fp,hp.out,hp.w,hp.st⟩
theorem Ct (h:SpOk p b first second)(hF:F<(ay p).length){n:Nat}(hi:opA p b F i=some ⟨13,(n:Int)⟩)(h1:(n:Int)+1<=sp)(h2:sp<=1200):Reach (aE p b first second) ⟨adr p b first second F i,sp,fp,W,out⟩ ⟨adr p b first second F (i+1),sp-1-n,sp-1,fun a=>if sp-1-n<=a/\a<sp-1 then 0 else upd W (sp-1) fp a,out⟩:=by have hn:=cv h hF hi;refine eF h hF hi s_ s_ (fun c hc=>?_) (fun e=>by dsimp only at e;omega);rw[show bg (aE p b first second).fan c ⟨13,(n:Int)⟩=ss c ((n:Int)).toNat by unfold bg;rw[b8 g_,b8 g_,b8 g_,b8 g_,b8 g_,b8 g_,b8 g_,b8 g_,b8 g_,b9 rfl]];rw[d9];unfold ss;have hp:=kK (v:=c.m.fao) hc o_ h2;rw[show c.m.fao=fp from hc.fp]at hp⊢;exact vC n ⟨hp.bad,hp.len,hp.pc,hp.sp,hp.sp,hp.out,hp.w,hp.st⟩ o_ o_
theorem tR (h:SpOk p b first second)(hF:F<(ay p).length){n:Nat}(hi:opA p b F i=some ⟨15,(n:Int)⟩)(h1:(n:Int)<=sp)(h2:sp<=1200):Reach (aE p b first second) ⟨adr p b first second F i,sp,fp,W,out⟩ ⟨adr p b first second F (i+1),sp-n,fp,fun a=>if sp-n<=a/\a<sp then 0 else W a,out⟩:=by have hn:=cv h hF hi;refine eF h hF hi s_ s_ (fun c hc=>?_) (fun e=>by dsimp only at e;omega);rw[show bg (aE p b first second).fan c ⟨15,(n:Int)⟩=eD ((n:Int)).toNat c by unfold bg;rw[b8 g_,b8 g_,b8 g_,b8 g_,b8 g_,b8 g_,b8 g_,b8 g_,b8 g_,b8 g_,b9 rfl]];rw[d9];exact vC n hc h1 h2
theorem CL (h:SpOk p b first second)(hF:F<(ay p).length){n:Nat}(hi:opA p b F i=some ⟨14,(n:Int)⟩)(h1:0<=sp)(h2:sp<=1199)(hf:0<=fp)(Ta:fp+2+n<=1200):Reach (aE p b first second) ⟨adr p b first second F i,sp,fp,W,out⟩ ⟨W (fp+1),fp+1+n,W fp,upd W (fp+1+n) (W sp),out⟩:=by refine eF h hF hi s_ s_ (fun c hc=>?_) (fun e=>by dsimp only;omega);rw[show bg (aE p b first second).fan c ⟨14,(n:Int)⟩=sK c ((n:Int)).toNat by unfold bg;rw[b8 g_,b8 g_,b8 g_,b8 g_,b8 g_,b8 g_,b8 g_,b8 g_,b8 g_,b8 g_,b8 g_,b9 rfl]];rw[d9];obtain⟨p1,p2⟩:=jW hc h1 h2;have L7:IsC (ik (aS c)) ⟨adr p b first second F (i+1),fp,fp,W,out⟩:=⟨p1.bad,p1.len,p1.pc,p1.fp,p1.fp,p1.out,p1.w,p1.st⟩;obtain⟨x1,x2⟩:=jW L7 hf o_;have PA:IsC (cFp (ik (aS c))) ⟨adr p b first second F (i+1),fp+1,W fp,W,out⟩:=⟨x1.bad,x1.len,x1.pc,x1.sp,x2,x1.out,x1.w,x1.st⟩;obtain⟨y1,y2⟩:=jW PA o_ o_;have OR:IsC (cPc (cFp (ik (aS c)))) ⟨W (fp+1),fp+1+1,W fp,W,out⟩:=⟨y1.bad,y1.len,y2,y1.sp,y1.fp,y1.out,y1.w,y1.st⟩;have hd:=vo n OR o_ o_;unfold sK;rw[p2];have:=kK (v:=W sp) hd o_ o_;rwa [show fp+1+1+(n:Int)-1=fp+1+n by omega]at this
theorem AA (h:SpOk p b first second)(hF:F<(ay p).length){n w:Nat}(hn:n<16)(hi:opA p b F i=some ⟨16,(n:Int)+16*w⟩)(h1:0<=sp)(h2:sp+2+w+n<=1200):Reach (aE p b first second) ⟨adr p b first second F i,sp,fp,W,out⟩ ⟨W (sp+1+w),sp+1+w+n,fp,upd W (sp+1+w+n) (W sp),out⟩:=by refine eF h hF hi s_ s_ (fun c hc=>?_) (fun e=>by dsimp only;omega);rw[show bg (aE p b first second).fan c ⟨16,(n:Int)+16*w⟩=om c ((n:Int)+16*w).toNat by unfold bg;rw[b8 g_,b8 g_,b8 g_,b8 g_,b8 g_,b8 g_,b8 g_,b8 g_,b8 g_,b8 g_,b8 g_,b8 g_,b9 rfl]];rw[show((n:Int)+16*w).toNat=n+16*w by omega];obtain⟨p1,p2⟩:=jW hc h1 o_;have d1:=vo w p1 o_ o_;obtain⟨y1,y2⟩:=jW d1 o_ o_;have OR:IsC (cPc (cB w (aS c))) ⟨W (sp+1+w),sp+1+w+1,fp,W,out⟩:=⟨y1.bad,y1.len,y2,y1.sp,y1.fp,y1.out,y1.w,y1.st⟩;have hd:=vo n OR o_ o_;unfold om;rw[show(n+16*w)/16=w by omega,show(n+16*w)%16=n by omega,p2];have:=kK (v:=W sp) hd o_ o_;rwa [show sp+1+(w:Int)+1+n-1=sp+1+w+n by omega]at this
theorem HF (h:SpOk p b first second)(hF:F<(ay p).length){a:Int}(hi:opA p b F i=some ⟨17,a⟩)(h1:0<=sp)(h2:sp<=1199):Reach (aE p b first second) ⟨adr p b first second F i,sp,fp,W,out⟩ ⟨adr p b first second F (i+1),sp+1,fp,W,out++[W sp]⟩:=by have hn:=cv h hF hi;refine eF h hF hi s_ s_ (fun c hc=>?_) (fun e=>by dsimp only at e;omega);rw[show bg (aE p b first second).fan c ⟨17,a⟩=BQ c by unfold bg;rw[b8 g_,b8 g_,b8 g_,b8 g_,b8 g_,b8 g_,b8 g_,b8 g_,b8 g_,b8 g_,b8 g_,b8 g_,b8 g_,b9 rfl]];obtain⟨p1,p2⟩:=jW hc h1 h2;refine⟨p1.bad,p1.len,p1.pc,p1.sp,p1.fp,?_,p1.w,p1.st⟩;show(aS c).m.fah++[iS c]=_;rw[p2,show(aS c).m.fah=out from p1.out]
end
end
def opL (l:List NW)(i:Nat):Option NZ:=(l[i]?).map (·.fad)
theorem lN {l:List NW}{x:NW}{i:Nat}:opL (l++[x]) i=if i=l.length then some x.fad else opL l i:=by
 unfold opL;rcases x6 i l.length with h|h|h
 ·rw[b8 o_,j7 h]
 ·rw[b9 h,h,m5 (d6 _),v5];rfl
 ·rw[b8 o_,d8 (by simp;omega),d8 o_]
theorem wg {C:Cx}{s:Gs}{d code arg line:Int}{chain:List Int}{i:Nat}:opL (aI C s d code arg line chain).items i=if i=s.items.length then some ⟨code,arg⟩else opL s.items i:=lN
theorem kL {l:List NW}{j v:Int}{i:Nat}:opL (bD l j v) i=if j=(i:Int)then(opL l i).map (fun o=>⟨o.fab,v⟩)else opL l i:=by
 unfold bD opL;by_cases h0:0<=j
 ·rw[b9 h0]
  cases hx:l[j.toNat]? with
  | none=>
   dsimp only;split
   ·rename_i h;rw[show i=j.toNat by omega,hx];rfl
   ·rfl
  | some x=>
   dsimp only;by_cases h:j=(i:Int)
   ·rw[b9 h,show i=j.toNat by omega,v6 (aJ hx),hx];rfl
   ·rw[b8 h,A7 o_]
 ·rw[b8 h0,b8 o_]
structure Px (a b:List NW):Prop where
 le:a.length<=b.length
 eq:∀i,i<a.length->opL b i=opL a i
theorem Px.refl (a:List NW):Px a a:=⟨d6 _,fun _ _=>rfl⟩
theorem Px.trans {a b c:List NW}(h:Px a b)(h':Px b c):Px a c:=⟨t7 h.le h'.le,fun i hi=>(h'.eq i (w3 hi h.le)).trans (h.eq i hi)⟩
theorem Px.emit (C:Cx)(s:Gs)(d code arg line:Int)(chain:List Int):Px s.items (aI C s d code arg line chain).items:=⟨by simp[aI],fun i hi=>by rw[wg,b8 o_]⟩
theorem Px.set {a b:List NW}(h:Px a b){j v:Int}(hj:(a.length:Int)<=j):Px a (bD b j v):=⟨by rw[be];exact h.le,fun i hi=>by rw[kL,b8 o_];exact h.eq i hi⟩
theorem Px.patch {a:List NW}{v:Int}:∀(js:List Int) {b:List NW},Px a b->(∀j∈js,(a.length:Int)<=j)->Px a (patchL b v js)
 | [],b,h,_=>h
 | j::js,b,h,hj=>by rw[patchL];exact Px.patch js (h.set (hj j s_)) (fun i hi=>hj i (by simp[hi]))
structure Gx (a b:Gs):Prop where
 px:Px a.items b.items
 most:a.most<=b.most
theorem Gx.refl (a:Gs):Gx a a:=⟨Px.refl _,u9 _⟩
theorem Gx.trans {a b c:Gs}(h:Gx a b)(h':Gx b c):Gx a c:=⟨h.px.trans h'.px,A5 h.most h'.most⟩
theorem Gx.emit (C:Cx)(s:Gs)(d code arg line:Int)(chain:List Int):Gx s (aI C s d code arg line chain):=⟨Px.emit ..,u9 _⟩
def wM (C:Cx)(rep:Sc->List Nat->Nat->Nat->Int->Gs->Gs)(x:Sc)(ins:List Nat):Prop:=
 ∀(line g:Nat) (d:Int) (s:Gs),bP C g->cK C ins g s.items.length=true->Gx s (rep x ins line g d s)
section
variable {C:Cx} {x y:Sc} {ins:List Nat} {rep:Sc->List Nat->Nat->Nat->Int->Gs->Gs} {line:Nat}
theorem oG {chain:List Int}{l:Int}:∀(n:Nat) (d:Int) (s:Gs),Gx s (bR C y chain l n d s)
 | 0,_,s=>Gx.refl _
 | n+1,d,s=>by rw[bR];exact(Gx.emit ..).trans (oG n _ _)
theorem rT {chain:List Int}{l d:Int}:∀(n i:Nat) (s:Gs),Gx s (cL C y chain l d n i s)
 | 0,_,s=>Gx.refl _
 | n+1,i,s=>by rw[cL];exact((Gx.emit C s d 0 0 l chain).trans (Gx.emit ..)).trans (rT n _ _)
theorem IF (J4:wM C rep x ins)(t:Og)(d:Int)(s:Gs):Gx s (jv C rep x ins line t d s):=by
 unfold jv;split
 ·exact Gx.emit ..
 split
 ·exact Gx.emit ..
 split
 ·split
  ·rename_i g hg;obtain⟨_,ln,k1,k2,_⟩:=eL hg;split
   ·exact J4 _ _ _ _ ⟨ln,k1,k2⟩ (by assumption)
   ·exact Gx.emit ..
  ·exact Gx.refl _
 ·exact Gx.emit ..
mutual
theorem AY (J4:wM C rep x ins):∀(e:Ex) (d:Int) (s:Gs),Gx s (dJ C rep x ins line e d s)
 | .node t es,d,s=>by rw[dJ];exact(qt J4 es d s).trans (IF J4 t _ _)
theorem qt (J4:wM C rep x ins):∀(es:List Ex) (d:Int) (s:Gs),Gx s (cp C rep x ins line es d s)
 | [],d,s=>by rw[cp];exact Gx.refl _
 | a::es,d,s=>by rw[cp];exact(AY J4 a d s).trans (qt J4 es _ _)
end
theorem DO (d:Int)(s:Gs):Gx s (ck C x line d s):=by
 unfold ck;split
 ·exact Gx.emit ..
 ·exact Gx.refl _
theorem KA (g:Nat)(d:Int)(s:Gs):Gx s (eS C x line g d s)/\bz C x+(localsOf C.p (g:Int)).length<=(eS C x line g d s).most:=by have h:=(oG (C:=C) (y:=bS C x line g) (chain:=x.chain) (l:=(line:Int)) (argsN C.p g) d ⟨s.items,max s.most (bz C x+(localsOf C.p (g:Int)).length),s.start⟩).trans (rT (C:=C) (y:=bS C x line g) (chain:=x.chain) (l:=(line:Int)) (d:=d-argsN C.p g) ((localsOf C.p (g:Int)).length-argsN C.p g) (argsN C.p g) _);have hm:=h.most;unfold eS;dsimp only at hm;exact⟨⟨⟨h.px.le,h.px.eq⟩,o_⟩,o_⟩
end
structure Lc where
 C:Cx
 rep:Sc->List Nat->Nat->Nat->Int->Gs->Gs
 x:Sc
 ins:List Nat
 base:Int
 s:Gs
namespace Lc
noncomputable def LL (Q:Lc) (k:Nat):Ls:=fF Q.C Q.rep Q.x Q.ins Q.base (k-(Q.x.f+1)) (Q.x.f+1) (dc Q.C Q.s)
noncomputable def Hd (Q:Lc) (k:Nat):Nat:=(Q.LL k).g.items.length
structure Ok (Q:Lc) (e:Nat):Prop where
 hC:CxOk Q.C
 hx:ScOk Q.C Q.x Q.ins
 he:endAt Q.C.p Q.x.f=some e
 rep:wM Q.C Q.rep Q.x Q.ins
section
variable {Q:Lc} {e:Nat}
theorem line_at (h:Q.Ok e){k:Nat}(hk:k<=e):∃ln,Q.C.p[k]?=some ln:=by obtain⟨_,_,_,_,_,he⟩:=aM h.he;exact ae o_
theorem LL_start (Q:Lc):Q.LL (Q.x.f+1)=dc Q.C Q.s:=by unfold LL;rw[v5];rfl
theorem uS (h:Q.Ok e){k:Nat}{ln:NX}(h1:Q.x.f<k)(h2:k<=e)(hk:Q.C.p[k]?=some ln):Q.LL (k+1)=bJ Q.C Q.x k ln (cZ Q.C Q.rep Q.x Q.ins Q.base k ln (Q.LL k)):=by unfold LL;obtain⟨n,hn⟩:∃n,k-(Q.x.f+1)=n:=⟨_,rfl⟩;rw[show k+1-(Q.x.f+1)=n+1 by omega,hn,yr _ _ _ (fun i g1 g2=>line_at h o_),show Q.x.f+1+n=k by omega];rw[fF,hk];rfl
structure One (Q:Lc) (k:Nat):Prop where
 le:Q.Hd k<=Q.Hd (k+1)
 stay:∀i,i<Q.Hd k->(∀i0,Q.x.f<i0->i0<k->jumps Q.C.p i0->plN Q.C.p i0=(k:Int)->(i:Int)≠atL (Q.LL k).pos i0)->opL (Q.LL (k+1)).g.items i=opL (Q.LL k).g.items i
 told:∀i0 (t:Nat),Q.x.f<i0->i0<k->jumps Q.C.p i0->plN Q.C.p i0=(k:Int)->atL (Q.LL k).pos i0=(t:Int)->t<Q.Hd k->opL (Q.LL (k+1)).g.items t=(opL (Q.LL k).g.items t).map (fun o=>⟨o.fab,(Q.Hd (k+1):Int)⟩)
 pos:∀i,i≠k->atL (Q.LL (k+1)).pos i=atL (Q.LL k).pos i
 new:jumps Q.C.p k->Q.Hd k<Q.Hd (k+1)/\atL (Q.LL (k+1)).pos k=((Q.Hd (k+1)-1:Nat):Int)/\opL (Q.LL (k+1)).g.items (Q.Hd (k+1)-1)=some ⟨if kindAt Q.C.p k=4 then 10 else 11,0⟩
 head:∀i,i≠k->atL (Q.LL (k+1)).heads i=atL (Q.LL k).heads i
 headk:kindAt Q.C.p k≠4->kindAt Q.C.p k≠7->atL (Q.LL (k+1)).heads k=(Q.Hd k:Int)
 hl:(Q.LL (k+1)).heads.length=(Q.LL k).heads.length
 pl:(Q.LL (k+1)).pos.length=(Q.LL k).pos.length
 most:(Q.LL k).g.most<=(Q.LL (k+1)).g.most
 lv:(Q.LL (k+1)).lv=(Q.LL k).lv\/(kindAt Q.C.p k=6/\Q.x.outer=false/\(Q.LL (k+1)).lv=(Q.LL k).lv++[((Q.Hd (k+1)-1:Nat):Int)]/\Q.Hd k<Q.Hd (k+1)/\opL (Q.LL (k+1)).g.items (Q.Hd (k+1)-1)=some ⟨10,0⟩)
theorem emit_len {C:Cx}{s:Gs}{d code arg line:Int}{chain:List Int}:(aI C s d code arg line chain).items.length=s.items.length+1:=by simp[aI]
theorem IJ (h:Q.Ok e){k:Nat}{ln:NX}(h1:Q.x.f<k)(h2:k<e)(hk:Q.C.p[k]?=some ln)(h4:ln.faa=4):Q.x.f<ownOf Q.C.p k/\ownOf Q.C.p k<k/\jumps Q.C.p (ownOf Q.C.p k)/\plN Q.C.p (ownOf Q.C.p k)=(k:Int):=by
 obtain⟨o1,o2,o3,o4⟩:=h.hx.own4 h.hC h.he h1 o_ hk h4;obtain⟨y,_,hy,hy3,_⟩:=aV o1;have Tu:=aL hy;refine⟨o2,o3,.inl o_,?_⟩;have hE:bE Q.C.p (ownOf Q.C.p k:Int)=(k:Int):=by rw[bI];exact aZ o1
 have R7:dZ Q.C.p (ownOf Q.C.p k)= -(k:Int):=by unfold dZ;rw[b8 (show ¬kindAt Q.C.p (ownOf Q.C.p k)=4 by omega),hE,b9 ⟨o_,o_⟩]
 unfold plN;rw[R7,b8 o_];omega
theorem plN_exit7 (h:Q.Ok e){k:Nat}{ln:NX}(h1:Q.x.f<k)(h2:k<e)(hk:Q.C.p[k]?=some ln)(h7:ln.faa=7):Q.x.f<fj Q.C.p k/\fj Q.C.p k<k/\jumps Q.C.p (fj Q.C.p k)/\plN Q.C.p (fj Q.C.p k)=(k:Int)/\ownOf Q.C.p k≠Q.x.f:=by obtain⟨k1,k2,k3,k4,k5⟩:=Ai h.hC h.hx h.he h1 h2 hk h7;refine⟨o_,k2,k3,?_,k5⟩;unfold plN;rw[k4,b9 o_];omega
theorem GT (h:Q.Ok e){k i0:Nat}(h2:k<=e)(g1:Q.x.f<i0)(g2:i0<k)(g3:jumps Q.C.p i0)(g4:plN Q.C.p i0=(k:Int)):k<e/\(kindAt Q.C.p k=4\/kindAt Q.C.p k=7):=by
 have J3:k<e:=by have:=(JN h.hC h.hx h.he g1 o_ g3).2;omega
 exact⟨J3,Je h.hC h.hx h.he g1 g2 J3 g3 g4⟩
theorem Jh (h:Q.Ok e){k:Nat}(h2:k<=e)(hq:k=e\/(kindAt Q.C.p k≠4/\kindAt Q.C.p k≠7))(Zm:Px (Q.LL k).g.items (Q.LL (k+1)).g.items)
  (pos:∀i,i≠k->atL (Q.LL (k+1)).pos i=atL (Q.LL k).pos i)
  (new:jumps Q.C.p k->Q.Hd k<Q.Hd (k+1)/\atL (Q.LL (k+1)).pos k=((Q.Hd (k+1)-1:Nat):Int)/\opL (Q.LL (k+1)).g.items (Q.Hd (k+1)-1)=some ⟨if kindAt Q.C.p k=4 then 10 else 11,0⟩)
  (head:∀i,i≠k->atL (Q.LL (k+1)).heads i=atL (Q.LL k).heads i)
  (headk:kindAt Q.C.p k≠4->kindAt Q.C.p k≠7->atL (Q.LL (k+1)).heads k=(Q.Hd k:Int))
  (hl:(Q.LL (k+1)).heads.length=(Q.LL k).heads.length) (pl:(Q.LL (k+1)).pos.length=(Q.LL k).pos.length) (most:(Q.LL k).g.most<=(Q.LL (k+1)).g.most)
  (lv:(Q.LL (k+1)).lv=(Q.LL k).lv\/(kindAt Q.C.p k=6/\Q.x.outer=false/\(Q.LL (k+1)).lv=(Q.LL k).lv++[((Q.Hd (k+1)-1:Nat):Int)]/\Q.Hd k<Q.Hd (k+1)/\opL (Q.LL (k+1)).g.items (Q.Hd (k+1)-1)=some ⟨10,0⟩)):One Q k:=
 ⟨Zm.le,fun i hi _=>Zm.eq i hi,fun i0 t g1 g2 g3 g4 _ _=>by
  have:=GT h h2 g1 g2 g3 g4
  omega,pos,new,head,headk,hl,pl,most,lv⟩
noncomputable def gE (Q:Lc) (k:Nat) (ln:NX):Gs:=dJ Q.C Q.rep Q.x Q.ins k (exL ln.fae) Q.base ⟨(Q.LL k).g.items,(Q.LL k).g.most,true⟩
theorem gE_px (h:Q.Ok e)(k:Nat)(ln:NX):Gx (Q.LL k).g (gE Q k ln):=
 (fun hh=>⟨hh.px,hh.most⟩:Gx ⟨(Q.LL k).g.items,(Q.LL k).g.most,true⟩ (gE Q k ln)->Gx (Q.LL k).g (gE Q k ln)) <| AY h.rep (exL ln.fae) Q.base ⟨(Q.LL k).g.items,(Q.LL k).g.most,true⟩
def lastOp (Q:Lc)(k:Nat)(ln:NX):NZ:=
 if ln.faa=1 then⟨cM Q.C true,db Q.C Q.x (Q.base+1) (dy Q.x.locals ln.fac)⟩
 else if ln.faa=2 then⟨17,0⟩
 else if ln.faa=6 then(if Q.x.outer=true then(if Q.C.framed=true then⟨14,Q.C.args⟩else⟨16,Q.C.args+16*Q.C.words⟩)else⟨10,0⟩)
 else⟨11,0⟩
theorem expr_step (h:Q.Ok e){k:Nat}{ln:NX}(h1:Q.x.f<k)(h2:k<=e)(hk:Q.C.p[k]?=some ln)(h4:ln.faa≠4)(h7:ln.faa≠7):
  ∃it:NW,(Q.LL (k+1)).g.items=(gE Q k ln).items++[it]/\it.fad=lastOp Q k ln/\(Q.LL (k+1)).heads=(Q.LL k).heads.set k ((Q.LL k).g.items.length:Int)
   /\(Q.LL (k+1)).pos=(if ln.faa=1\/ln.faa=2\/ln.faa=6 then(Q.LL k).pos else(Q.LL k).pos.set k ((gE Q k ln).items.length:Int))
   /\(Q.LL (k+1)).lv=(if ln.faa=6/\Q.x.outer=false then(Q.LL k).lv++[((gE Q k ln).items.length:Int)]else(Q.LL k).lv)/\(Q.LL (k+1)).g.most=(gE Q k ln).most:=by
 rw[uS h h1 h2 hk];have hB:∀Z,bJ Q.C Q.x k ln Z=Z:=fun Z=>by unfold bJ;rw[b8 (fun hh=>h7 hh.1)]
 rw[hB];unfold cZ;rw[b8 h4,b8 h7];unfold lastOp;by_cases k1:ln.faa=1
 ·rw[b9 k1,b9 k1,b9 (show ln.faa=1\/ln.faa=2\/ln.faa=6 from .inl k1),b8 (show ¬(ln.faa=6/\Q.x.outer=false) by omega)];exact⟨_,rfl,rfl,rfl,rfl,rfl,rfl⟩
 rw[b8 k1,b8 k1];by_cases k2:ln.faa=2
 ·rw[b9 k2,b9 k2,b9 (show ln.faa=1\/ln.faa=2\/ln.faa=6 from .inr (.inl k2)),b8 (show ¬(ln.faa=6/\Q.x.outer=false) by omega)];exact⟨_,rfl,rfl,rfl,rfl,rfl,rfl⟩
 rw[b8 k2,b8 k2];by_cases k6:ln.faa=6
 ·rw[b9 k6,b9 k6,b9 (show ln.faa=1\/ln.faa=2\/ln.faa=6 from .inr (.inr k6))];unfold bM;by_cases ho:Q.x.outer=true
  ·rw[b9 ho,b9 ho,b8 (show ¬(ln.faa=6/\Q.x.outer=false) by simp[ho])];by_cases hf:Q.C.framed=true
   ·rw[b9 hf,b9 hf];exact⟨_,rfl,rfl,rfl,rfl,rfl,rfl⟩
   ·rw[b8 hf,b8 hf];exact⟨_,rfl,rfl,rfl,rfl,rfl,rfl⟩
  ·rw[b8 ho,b8 ho,b9 (show ln.faa=6/\Q.x.outer=false from⟨k6,by simpa using ho⟩),b8 (show ¬(false=true) by simp)];exact⟨_,rfl,rfl,rfl,rfl,rfl,rfl⟩
 ·rw[b8 k6,b8 k6,b8 (show ¬(ln.faa=1\/ln.faa=2\/ln.faa=6) by omega),b8 (show ¬(ln.faa=6/\Q.x.outer=false) by omega)];exact⟨_,rfl,rfl,rfl,rfl,rfl,rfl⟩
theorem Kj (h:Q.Ok e){k:Nat}{ln:NX}(h1:Q.x.f<k)(h2:k<=e)(hk:Q.C.p[k]?=some ln)(h0:ln.faa≠0)(h4:ln.faa≠4)(h7:ln.faa≠7)(PQ:(Q.LL k).pos.length=Q.C.p.length)(hhl:(Q.LL k).heads.length=Q.C.p.length):One Q k:=by
 have Qr:=aL hk;have Om:=aJ hk;have XT:=h.hC.line k ln hk;obtain⟨it,e1,e2,e3,e4,e5,e6⟩:=expr_step h h1 h2 hk h4 h7;have W0:=(gE_px h k ln).most;have hg:=(gE_px h k ln).px;have J0:(Q.LL (k+1)).g.items.length=(gE Q k ln).items.length+1:=by rw[e1];simp
 have hH:Q.Hd (k+1)-1=(gE Q k ln).items.length:=by unfold Hd;omega
 have J3:Q.Hd k<Q.Hd (k+1):=by unfold Hd;have:=hg.le;omega
 have J1:opL (Q.LL (k+1)).g.items (Q.Hd (k+1)-1)=some (lastOp Q k ln):=by rw[hH,e1,lN,b9 rfl,e2]
 have Pm:jumps Q.C.p k->ln.faa=3\/ln.faa=5:=fun hj=>by unfold jumps at hj;omega
 refine Jh h h2 (.inr ⟨o_,o_⟩) ⟨by have:=hg.le;omega,fun i hi=>?_⟩ (fun i hi=>?_) (fun hj=>?_) (fun i hi=>?_) (fun _ _=>?_) (by rw[e3,o8]) ?_ (by rw[e6];exact W0) ?_
 ·rw[e1,lN,b8 (by have:=hg.le;omega)];exact hg.eq i hi
 ·rw[e4];split
  ·rfl
  ·exact jt hi
 ·refine⟨J3,?_,?_⟩
  ·rw[e4,b8 (by have:=Pm hj;omega),iW o_,hH]
  ·rw[J1];unfold lastOp;have:=Pm hj;rw[b8 o_,b8 o_,b8 o_,b8 o_]
 ·rw[e3];exact jt hi
 ·rw[e3,iW o_];rfl
 ·rw[e4];split
  ·rfl
  ·rw[o8]
 ·rw[e5];by_cases hc:ln.faa=6/\Q.x.outer=false
  ·rw[b9 hc];refine .inr ⟨o_,hc.2,by rw[hH],J3,?_⟩;rw[J1];unfold lastOp;rw[b8 o_,b8 o_,b9 hc.1,hc.2];rfl
  ·rw[b8 hc];exact .inl rfl
theorem else_step (h:Q.Ok e){k:Nat}{ln:NX}(h1:Q.x.f<k)(h2:k<=e)(hk:Q.C.p[k]?=some ln)(h4:ln.faa=4):
  ∃it:NW,it.fad=⟨10,0⟩/\(Q.LL (k+1)).g.items=bD ((Q.LL k).g.items++[it]) (atL (Q.LL k).pos (ownOf Q.C.p k)) (((Q.LL k).g.items.length:Int)+1)/\(Q.LL (k+1)).heads=(Q.LL k).heads/\(Q.LL (k+1)).pos=(Q.LL k).pos.set k ((Q.LL k).g.items.length:Int)/\(Q.LL (k+1)).lv=(Q.LL k).lv/\(Q.LL (k+1)).g.most=(Q.LL k).g.most:=by
 rw[uS h h1 h2 hk];have hB:∀Z,bJ Q.C Q.x k ln Z=Z:=fun Z=>by unfold bJ;rw[b8 (fun hh=>by omega)]
 rw[hB];unfold cZ;rw[b9 h4];refine⟨la Q.C (Q.LL k).g Q.base 10 0 k Q.x.chain,rfl,?_,rfl,rfl,rfl,rfl⟩;dsimp only;rw[emit_len];rfl
theorem Ik (h:Q.Ok e){k:Nat}{ln:NX}(h1:Q.x.f<k)(h2:k<=e)(hk:Q.C.p[k]?=some ln)(h4:ln.faa=4)(PQ:(Q.LL k).pos.length=Q.C.p.length)(hpi:∀i,Q.x.f<i->i<k->jumps Q.C.p i->∃t:Nat,atL (Q.LL k).pos i=(t:Int)/\t<Q.Hd k):One Q k:=by
 have Qr:=aL hk;have Om:=aJ hk;have M9:k<e:=(h.hx.own4 h.hC h.he h1 h2 hk h4).2.2.2;obtain⟨it,e1,e2,e3,e4,e5,e6⟩:=else_step h h1 h2 hk h4;obtain⟨o1,o2,o3,o4⟩:=IJ h h1 M9 hk h4;have J0:Q.Hd (k+1)=Q.Hd k+1:=by unfold Hd;rw[e2,be];simp
 have OP:∀i,i≠k->atL (Q.LL (k+1)).pos i=atL (Q.LL k).pos i:=fun i hi=>by rw[e4];exact jt hi
 have Pq:∀i,opL (Q.LL (k+1)).g.items i=if atL (Q.LL k).pos (ownOf Q.C.p k)=(i:Int)then((if i=(Q.LL k).g.items.length then some it.fad else opL (Q.LL k).g.items i).map fun o=>(⟨o.fab,(Q.Hd (k+1):Int)⟩:NZ))else(if i=(Q.LL k).g.items.length then some it.fad else opL (Q.LL k).g.items i):=fun i=>by
  rw[e2,kL,lN,show(((Q.LL k).g.items.length:Int)+1)=(Q.Hd (k+1):Int) by rw[J0];unfold Hd;omega]
 refine⟨o_,fun i hi hn=>?_,fun i0 t g1 g2 g3 g4 g5 g6=>?_,OP,fun _=>⟨o_,?_,?_⟩,fun i _=>by rw[e3],fun hh=>absurd Qr o_,by rw[e3],by rw[e4,o8],by rw[e6];exact u9 _,.inl e5⟩
 ·have h3:=hn _ o1 o2 o3 o4;unfold Hd at hi;rw[Pq,b8 (fun hh=>h3 hh.symm),b8 o_]
 ·have:=Kh h.hC h.hx h.he g1 g2 M9 g3 o_ g4;subst this;unfold Hd at g6;rw[Pq,b9 g5,b8 o_]
 ·rw[e4,iW o_,J0];unfold Hd;congr 1
 ·rw[Pq,J0,F5];unfold Hd;rw[b8,b9 rfl,e1,b9 o_];intro hh;obtain⟨t,t1,t2⟩:=hpi _ o1 o2 o3;unfold Hd at t2;omega
theorem end_step (h:Q.Ok e){k:Nat}{ln:NX}(h1:Q.x.f<k)(h2:k<e)(hk:Q.C.p[k]?=some ln)(h7:ln.faa=7):
  ∃its:List NW,(its=[]/\kindAt Q.C.p (ownOf Q.C.p k)≠5\/kindAt Q.C.p (ownOf Q.C.p k)=5/\∃it:NW,its=[it]/\it.fad=⟨10,atL (Q.LL k).heads (ownOf Q.C.p k)⟩)/\(Q.LL (k+1)).g.items=bD ((Q.LL k).g.items++its) (atL (Q.LL k).pos (fj Q.C.p k)) (((Q.LL k).g.items.length:Int)+its.length)/\(Q.LL (k+1)).heads=(Q.LL k).heads/\(Q.LL (k+1)).pos=(Q.LL k).pos/\(Q.LL (k+1)).lv=(Q.LL k).lv/\(Q.LL (k+1)).g.most=(Q.LL k).g.most:=by
 rw[uS h h1 o_ hk];have L4:=(plN_exit7 h h1 h2 hk h7).2.2.2.2;have hB:∀Z,bJ Q.C Q.x k ln Z={Z with g:=⟨bD Z.g.items (atL Z.pos (fj Q.C.p k)) Z.g.items.length,Z.g.most,Z.g.start⟩}:=fun Z=>by unfold bJ;rw[b9 ⟨h7,L4⟩]
 rw[hB];unfold cZ;rw[b8 o_,b9 h7,b8 L4];by_cases h5:kindAt Q.C.p (ownOf Q.C.p k)=5
 ·rw[b9 h5];refine⟨[la Q.C (Q.LL k).g Q.base 10 (atL (Q.LL k).heads (ownOf Q.C.p k)) k Q.x.chain],.inr ⟨h5,_,rfl,rfl⟩,?_,rfl,rfl,rfl,rfl⟩;dsimp only;rw[emit_len];rfl
 ·rw[b8 h5];refine⟨[],.inl ⟨rfl,h5⟩,?_,rfl,rfl,rfl,rfl⟩;dsimp only;rw[m9];simp
theorem xI {l its:List NW}{i:Nat}(hi:i<l.length):opL (l++its) i=opL l i:=by unfold opL;rw[j7 hi]
theorem Lp (h:Q.Ok e){k:Nat}{ln:NX}(h1:Q.x.f<k)(h2:k<e)(hk:Q.C.p[k]?=some ln)(h7:ln.faa=7):One Q k:=by
 have Qr:=aL hk;obtain⟨its,e1,e2,e3,e4,e5,e6⟩:=end_step h h1 h2 hk h7;obtain⟨o1,o2,o3,o4,_⟩:=plN_exit7 h h1 h2 hk h7;have J0:(Q.LL (k+1)).g.items.length=(Q.LL k).g.items.length+its.length:=by rw[e2,be];simp
 have hj:¬jumps Q.C.p k:=by unfold jumps;omega
 refine⟨by unfold Hd;omega,fun i hi hn=>?_,fun i0 t g1 g2 g3 g4 g5 g6=>?_,fun i _=>by rw[e4],fun hh=>absurd hh hj,fun i _=>by rw[e3],fun _ hh=>absurd Qr o_,by rw[e3],by rw[e4],by rw[e6];exact u9 _,.inl e5⟩
 ·have h3:=hn _ o1 o2 o3 o4;rw[e2,kL,b8 (fun hh=>h3 hh.symm)];exact xI hi
 ·have:=Ll h.hC h.hx h.he g1 g2 h2 g3 o_ g4;subst this;rw[e2,kL,b9 g5,xI g6];unfold Hd;rw[J0,Int.natCast_add]
theorem last_step (h:Q.Ok e):∃its:List NW,(Q.LL (e+1)).g.items=(Q.LL e).g.items++its/\(its.map (·.fad))=(⟨0,0⟩:NZ)::(if Q.x.outer=true then [if Q.C.framed=true then⟨14,Q.C.args⟩else⟨16,Q.C.args+16*Q.C.words⟩]else [])/\(Q.LL (e+1)).heads=(Q.LL e).heads/\(Q.LL (e+1)).pos=(Q.LL e).pos/\(Q.LL (e+1)).lv=(Q.LL e).lv/\(Q.LL (e+1)).g.most=(Q.LL e).g.most:=by
 obtain⟨ln,hk,h7⟩:=bp h.he;obtain⟨_,_,_,_,Ul,_⟩:=aM h.he;rw[uS h Ul (d6 _) hk];have L4:=kJ h.he;have hB:∀Z,bJ Q.C Q.x e ln Z=Z:=fun Z=>by unfold bJ;rw[b8 (fun hh=>hh.2 L4)]
 rw[hB];unfold cZ;rw[b8 o_,b9 h7,b9 L4];unfold bM
 cases ho:Q.x.outer with
 | true=>
  rw[b9 rfl,b9 rfl]
  cases hf:Q.C.framed with
  | true=>exact⟨[_,_],by rw[b9 rfl];simp only[aI,k0,p9,s8];rfl,rfl,rfl,rfl,rfl,rfl⟩
  | false=>exact⟨[_,_],by rw[b8 s_];simp only[aI,k0,p9,s8];rfl,rfl,rfl,rfl,rfl,rfl⟩
 | false=>rw[b8 s_,b9 rfl,b8 s_];exact⟨[_],rfl,rfl,rfl,rfl,rfl,rfl⟩
theorem Jt (h:Q.Ok e):One Q e:=by
 obtain⟨ln,hk,h7⟩:=bp h.he;obtain⟨_,_,_,_,Ul,_⟩:=aM h.he;have Qr:=aL hk;obtain⟨its,e1,_,e3,e4,e5,e6⟩:=last_step h;have hj:¬jumps Q.C.p e:=by unfold jumps;omega
 exact Jh h (d6 _) (.inl rfl) ⟨by rw[e1,c7];omega,fun i hi=>by rw[e1];exact xI hi⟩ (fun i _=>by rw[e4]) (fun hh=>absurd hh hj) (fun i _=>by rw[e3]) (fun _ hh=>absurd Qr o_) (by rw[e3]) (by rw[e4]) (by rw[e6];exact u9 _) (.inl e5)
structure Inv (Q:Lc) (k:Nat):Prop where
 hl:(Q.LL k).heads.length=Q.C.p.length
 pl:(Q.LL k).pos.length=Q.C.p.length
 mono:∀i,Q.x.f<i->i<=k->Q.Hd i<=Q.Hd k
 pos:∀i,Q.x.f<i->i<k->jumps Q.C.p i->atL (Q.LL k).pos i=((Q.Hd (i+1)-1:Nat):Int)
 one:∀i,Q.x.f<i->i<k->One Q i
 head:∀i,Q.x.f<i->i<k->kindAt Q.C.p i≠4->kindAt Q.C.p i≠7->atL (Q.LL k).heads i=(Q.Hd i:Int)
 lv:∀j∈(Q.LL k).lv,∃r,Q.x.f<r/\r<k/\kindAt Q.C.p r=6/\Q.x.outer=false/\Q.Hd r<Q.Hd (r+1)/\j=((Q.Hd (r+1)-1:Nat):Int)/\opL (Q.LL (r+1)).g.items (Q.Hd (r+1)-1)=some ⟨10,0⟩
theorem Hg (Q:Lc):Inv Q (Q.x.f+1):=by
 have e:=LL_start Q;refine⟨by rw[e];simp[dc],by rw[e];simp[dc],fun i h1 h2=>?_,fun i h1 h2=>by omega,fun i h1 h2=>by omega,fun i h1 h2=>by omega,fun j hj=>?_⟩
 ·rw[show i=Q.x.f+1 by omega];exact d6 _
 ·rw[e]at hj;simp[dc]at hj
theorem Kk (h:Q.Ok e){k:Nat}(h1:Q.x.f<k)(h2:k<=e)(hI:Inv Q k):Inv Q (k+1):=by
 obtain⟨ln,hk⟩:=line_at h h2;have Qr:=aL hk;have TA:=ga h.hC h.hx h.he o_ h2 hk
 have Oz:One Q k:=by
  by_cases h4:ln.faa=4
  ·refine Ik h h1 h2 hk h4 hI.pl (fun i g1 g2 g3=>⟨_,hI.pos i g1 g2 g3,?_⟩);have:=((hI.one i g1 g2).new g3).1;have:=hI.mono (i+1) o_ o_;omega
  by_cases h7:ln.faa=7
  ·by_cases M9:k=e
   ·subst M9;exact Jt h
   ·exact Lp h h1 o_ hk h7
  ·exact Kj h h1 h2 hk TA h4 h7 hI.pl hI.hl
 refine⟨by rw[Oz.hl];exact hI.hl,by rw[Oz.pl];exact hI.pl,fun i g1 g2=>?_,fun i g1 g2 g3=>?_,fun i g1 g2=>?_,fun i g1 g2 g3 g4=>?_,fun j hj=>?_⟩
 ·have:=Oz.le;rcases m6 k i with g|g
  ·rw[show i=k+1 by omega];exact d6 _
  ·have:=hI.mono i g1 g;omega
 ·by_cases Po:i=k
  ·subst Po;exact(Oz.new g3).2.1
  ·rw[Oz.pos i Po];exact hI.pos i g1 o_ g3
 ·by_cases Po:i=k
  ·subst Po;exact Oz
  ·exact hI.one i g1 o_
 ·by_cases Po:i=k
  ·subst Po;exact Oz.headk g3 g4
  ·rw[Oz.head i Po];exact hI.head i g1 o_ g3 g4
 ·rcases Oz.lv with hl|⟨l1,l2,l3,l4,l5⟩
  ·rw[hl]at hj;obtain⟨r,r1,r2,r3⟩:=hI.lv j hj;exact⟨r,r1,o_,r3⟩
  ·rw[l3]at hj;rcases e7.1 hj with hj|hj
   ·obtain⟨r,r1,r2,r3⟩:=hI.lv j hj;exact⟨r,r1,o_,r3⟩
   ·exact⟨k,h1,o_,l1,l2,l4,by simpa using hj,l5⟩
theorem inv_all (h:Q.Ok e):∀k,Q.x.f<k->k<=e+1->Inv Q k:=by
 have key:∀n,Q.x.f+1+n<=e+1->Inv Q (Q.x.f+1+n):=fun n=>by
  induction n with
  | zero=>intro _;exact Hg Q
  | succ n ih=>intro hn;exact Kk (k:=Q.x.f+1+n) h o_ o_ (ih o_)
 intro k h1 h2;have:=key (k-(Q.x.f+1)) o_;rwa [show Q.x.f+1+(k-(Q.x.f+1))=k by omega]at this
theorem hd_mono (h:Q.Ok e){i k:Nat}(h1:Q.x.f<i)(h2:i<=k)(h3:k<=e+1):Q.Hd i<=Q.Hd k:=(inv_all h k o_ h3).mono i h1 h2
theorem most_mono (h:Q.Ok e){i:Nat}(h1:Q.x.f<i):∀n,i+n<=e+1->(Q.LL i).g.most<=(Q.LL (i+n)).g.most
 | 0,_=>u9 _
 | n+1,h2=>A5 (most_mono h h1 n o_) ((inv_all h (e+1) o_ (d6 _)).one (i+n) o_ o_).most
theorem last_ne (h:Q.Ok e){i j:Nat}(hi:Q.x.f<i)(hj:Q.x.f<j)(Pi:i<=e)(Uv:j<=e)(h1:Q.Hd i<Q.Hd (i+1))(h2:Q.Hd j<Q.Hd (j+1))(K0:i≠j):Q.Hd (i+1)-1≠Q.Hd (j+1)-1:=by
 rcases F4 K0 with g|g
 ·have:=hd_mono h (i:=i+1) (k:=j) o_ o_ o_;omega
 ·have:=hd_mono h (i:=j+1) (k:=i) o_ o_ o_;omega
theorem Jr (h:Q.Ok e){k1:Nat}(h1:Q.x.f<k1):∀(n:Nat) {i:Nat},k1+n<=e+1->i<Q.Hd k1->(∀i0,Q.x.f<i0->i0<k1+n->jumps Q.C.p i0->(k1:Int)<=plN Q.C.p i0->plN Q.C.p i0<((k1+n:Nat):Int)->i≠Q.Hd (i0+1)-1)->opL (Q.LL (k1+n)).g.items i=opL (Q.LL k1).g.items i
 | 0,i,_,_,_=>rfl
 | n+1,i,h2,h3,h4=>by
  have ih:=Jr h h1 n (i:=i) o_ h3 (fun i0 g1 g2 g3 g4 g5=>h4 i0 g1 o_ g3 g4 o_);have hI:=inv_all h (k1+n+1) o_ o_;have R6:=inv_all h (k1+n) o_ o_;have Oz:=hI.one (k1+n) o_ o_;have hm:=hd_mono h (i:=k1) (k:=k1+n) h1 o_ o_;rw[<-ih,<-D7];refine Oz.stay i o_ (fun i0 g1 g2 g3 g4=>?_);rw[R6.pos i0 g1 g2 g3];have:=h4 i0 g1 o_ g3 o_ o_;omega
theorem fin_line (h:Q.Ok e){k i:Nat}(h1:Q.x.f<k)(h2:k<=e)(h3:Q.Hd k<=i)(h4:i<Q.Hd (k+1))(h5:jumps Q.C.p k->i≠Q.Hd (k+1)-1):opL (Q.LL (e+1)).g.items i=opL (Q.LL (k+1)).g.items i:=by
 have:=Jr h (k1:=k+1) o_ (e-k) (i:=i) o_ h4 (fun i0 g1 g2 g3 g4 g5=>by
  have hI:=inv_all h (e+1) o_ (d6 _);have hn:=((hI.one i0 g1 o_).new g3).1;rcases x6 i0 k with g|g|g
  ·have:=hd_mono h (i:=i0+1) (k:=k) o_ o_ o_;omega
  ·subst g;exact h5 g3
  ·have:=hd_mono h (i:=k+1) (k:=i0) o_ o_ o_;omega)
 rwa [show k+1+(e-k)=e+1 by omega]at this
theorem fin_start (h:Q.Ok e):Gx Q.s (Q.LL (e+1)).g:=by
 obtain⟨_,_,_,_,Ul,_⟩:=aM h.he;have e0:Q.Hd (Q.x.f+1)=Q.s.items.length:=by unfold Hd;rw[LL_start];rfl
 have hm:=hd_mono h (i:=Q.x.f+1) (k:=e+1) o_ o_ (d6 _)
 refine⟨⟨by rw[<-e0];exact hm,fun i hi=>?_⟩,by
  have:=most_mono h (i:=Q.x.f+1) o_ (e-Q.x.f) o_;rw[show Q.x.f+1+(e-Q.x.f)=e+1 by omega,LL_start]at this
  exact this⟩
 have:=Jr h (k1:=Q.x.f+1) o_ (e-Q.x.f) (i:=i) o_ o_ (fun i0 g1 g2 g3 g4 g5=>by
  have hI:=inv_all h (e+1) o_ (d6 _);have hn:=((hI.one i0 g1 o_).new g3).1;have:=hd_mono h (i:=Q.x.f+1) (k:=i0) o_ o_ o_
  omega)
 rw[show Q.x.f+1+(e-Q.x.f)=e+1 by omega,LL_start]at this;exact this
theorem fin_jump (h:Q.Ok e){i:Nat}(h1:Q.x.f<i)(h2:i<e)(hj:jumps Q.C.p i):∃t:Nat,plN Q.C.p i=(t:Int)/\i<t/\t<e/\opL (Q.LL (e+1)).g.items (Q.Hd (i+1)-1)=some ⟨if kindAt Q.C.p i=4 then 10 else 11,(Q.Hd (t+1):Int)⟩:=by obtain⟨p1,p2⟩:=JN h.hC h.hx h.he h1 h2 hj;obtain⟨t,ht⟩:∃t:Nat,plN Q.C.p i=(t:Int):=⟨(plN Q.C.p i).toNat,o_⟩;refine⟨t,ht,o_,o_,?_⟩;have hI:=inv_all h (e+1) o_ (d6 _);have R6:=inv_all h t o_ o_;have Oz:=hI.one i h1 o_;obtain⟨n1,n2,n3⟩:=Oz.new hj;have hme:=hd_mono h (i:=i+1) (k:=t) o_ o_ o_;have dif:∀i0,Q.x.f<i0->i0<=e->jumps Q.C.p i0->i0≠i->Q.Hd (i+1)-1≠Q.Hd (i0+1)-1:=fun i0 g1 g2 g3 g4=>last_ne h h1 g1 o_ g2 n1 ((hI.one i0 g1 o_).new g3).1 (fun hh=>g4 hh.symm);have a:=Jr h (k1:=i+1) o_ (t-(i+1)) (i:=Q.Hd (i+1)-1) o_ o_ (fun i0 g1 g2 g3 g4 g5=>dif i0 g1 o_ g3 (fun hh=>by subst hh;omega));rw[show i+1+(t-(i+1))=t by omega,n3]at a;have b:=(hI.one t o_ o_).told i (Q.Hd (i+1)-1) h1 o_ hj ht (R6.pos i h1 o_ hj) o_;rw[a]at b;have hmt:=hd_mono h (i:=t) (k:=t+1) o_ o_ o_;have c:=Jr h (k1:=t+1) o_ (e-t) (i:=Q.Hd (i+1)-1) o_ o_ (fun i0 g1 g2 g3 g4 g5=>dif i0 g1 o_ g3 (fun hh=>by subst hh;omega));rw[show t+1+(e-t)=e+1 by omega]at c;rw[c,b];rfl
theorem fin_lv (h:Q.Ok e){j:Int}(hj:j∈(Q.LL (e+1)).lv):∃r,Q.x.f<r/\r<e/\kindAt Q.C.p r=6/\Q.x.outer=false/\Q.Hd r<Q.Hd (r+1)/\j=((Q.Hd (r+1)-1:Nat):Int)/\opL (Q.LL (e+1)).g.items (Q.Hd (r+1)-1)=some ⟨10,0⟩/\(Q.s.items.length:Int)<=j:=by
 obtain⟨_,_,_,_,Ul,_⟩:=aM h.he;obtain⟨le,M9,h7⟩:=bp h.he;have Qr:=aL M9;have hI:=inv_all h (e+1) o_ (d6 _);obtain⟨r,r1,r2,r3,r4,r5,r6,r7⟩:=hI.lv j hj;have hre:r≠e:=fun hh=>by subst hh;omega
 have hf:=fin_line h (k:=r) (i:=Q.Hd (r+1)-1) r1 o_ o_ o_ (fun hh=>by unfold jumps at hh;omega);have e0:Q.Hd (Q.x.f+1)=Q.s.items.length:=by unfold Hd;rw[LL_start];rfl
 have:=hd_mono h (i:=Q.x.f+1) (k:=r) o_ o_ o_;exact⟨r,r1,o_,r3,r4,r5,r6,by rw[hf,r7],o_⟩
theorem lv_has (h:Q.Ok e){r:Nat}{ln:NX}(h1:Q.x.f<r)(h2:r<e)(hk:Q.C.p[r]?=some ln)(h6:ln.faa=6)(ho:Q.x.outer=false):((Q.Hd (r+1)-1:Nat):Int)∈(Q.LL (e+1)).lv:=by
 have key:∀n,r+1+n<=e+1->((Q.Hd (r+1)-1:Nat):Int)∈(Q.LL (r+1+n)).lv:=fun n=>by
  induction n with
  | zero=>
   intro _;obtain⟨it,e1,e2,e3,e4,e5,e6⟩:=expr_step h h1 o_ hk o_ o_;rw[w9,e5,b9 ⟨h6,ho⟩];have:Q.Hd (r+1)-1=(gE Q r ln).items.length:=by unfold Hd;rw[e1];simp
   rw[this]
   simp
  | succ n ih=>
   intro hn;have hI:=inv_all h (e+1) o_ (d6 _);rcases(hI.one (r+1+n) o_ o_).lv with hl|⟨_,_,hl,_⟩
   ·rw[<-D7,hl];exact ih o_
   ·rw[<-D7,hl];exact e7.2 (.inl (ih o_))
 have:=key (e-r) o_;rwa [show r+1+(e-r)=e+1 by omega]at this
theorem lines_eq (h:Q.Ok e):bv Q.C Q.rep Q.x Q.ins Q.base Q.s=((Q.LL (e+1)).g,(Q.LL (e+1)).lv):=by
 unfold bv LL;have:cO Q.C.p Q.x.f=e:=by rw[cO,h.he];rfl
 rw[this,show e+1-(Q.x.f+1)=e-Q.x.f by omega]
end
end Lc
theorem HJ {l:List NW}{v:Int}{i:Nat}{c a:Int}:∀(js:List Int),opL l i=some ⟨c,a⟩->opL (patchL l v js) i=some ⟨c,if(i:Int)∈js then v else a⟩:=by
 intro js
 induction js generalizing l a with
 | nil=>intro h;rw[patchL,h];simp
 | cons j js ih=>
  intro h;rw[patchL];by_cases hj:j=(i:Int)
  ·have h1:opL (bD l j v) i=some ⟨c,v⟩:=by rw[kL,b9 hj,h];rfl
   rw[ih h1];simp[hj]
  ·have h1:opL (bD l j v) i=some ⟨c,a⟩:=by rw[kL,b8 hj,h]
   rw[ih h1];have:¬(i:Int)=j:=fun hh=>hj hh.symm;simp[this]
theorem vt {l:List NW}{v:Int}{i:Nat}:∀(js:List Int),(i:Int)∉js->opL (patchL l v js) i=opL l i:=by
 intro js
 induction js generalizing l with
 | nil=>intro h;rfl
 | cons j js ih=>intro h;rw[patchL,ih (by simp at h;simp[h]),kL,b8 (by simp at h;exact fun hh=>h.1 hh.symm)]
theorem LK {C:Cx}(hC:CxOk C){x:Sc}{ins:List Nat}(hx:ScOk C x ins){rep:Sc->List Nat->Nat->Nat->Int->Gs->Gs}{line g:Nat}(hg:bP C g)(J4:wM C rep (bS C x line g) (ins++[g]))(d:Int)(s:Gs):Gx s (kO C (bv C rep) x ins line g d s):=by have hy:=jz hC hx line hg;obtain⟨e,he,_⟩:=hy.endE hC;have hQ:Lc.Ok ⟨C,rep,bS C x line g,ins++[g],d-argsN C.p g,ck C x line (d-argsN C.p g) (eS C x line g d s)⟩ e:=⟨hC,hy,he,J4⟩;have h1:Gx s (ck C x line (d-argsN C.p g) (eS C x line g d s)):=(KA g d s).1.trans (DO _ _);have hl:=Lc.lines_eq hQ;have h2:=Lc.fin_start hQ;unfold kO;dsimp only at hl;rw[hl];dsimp only at h2⊢;have h3:=h1.trans h2;refine⟨Px.patch _ h3.px (fun j hj=>?_),h3.most⟩;obtain⟨r,_,_,_,_,_,_,_,h3⟩:=Lc.fin_lv hQ hj;have:=h1.px.le;dsimp only at h3;omega
theorem AQ {C:Cx}(hC:CxOk C):∀(lev:Nat) {x:Sc} {ins:List Nat},ScOk C x ins->wM C (bY C lev) x ins
 | 0,x,ins,hx,line,g,d,s,_,_=>Gx.refl _
 | lev+1,x,ins,hx,line,g,d,s,hg,hr=>LK hC hx hg (AQ hC lev (jz hC hx line hg)) d s
end Go.Proofs.Ytoglejgmjeojoaa
namespace Go.Proofs.Ytoglejgmjeojoaa
open Go.Sim
set_option maxRecDepth 100000
set_option maxHeartbeats 4000000
structure RunS where
 out:List Int
 visits:List (List Int)
 value:Int
 code:Int
 calls:List Int
abbrev ji (v:List Int):List Tr:=[.lst 1 (v.map aa)]
abbrev Hu (i1 i2 i3:Sim.Id)(p:List NX)(limit:Int)(s:RunS):List (Sim.Id×AO):=[((0,0,0),.box [.t (.lst 4 (p.map NX.tr)),.t (.int .i64 limit),.own i1,.own i2,.t (.int .i64 s.value),.t (.int .i64 s.code),.own i3]),(i1,.arr false 1 (s.out.map aa)),(i2,.dar 1 (aC (s.visits.map ji)) none),(i3,.arr false 1 (s.calls.map aa))]
theorem qC (p:List NX)(limit k:Int)(s:RunS)(h0:(s.visits.length:Int)=limit):bf Try.prog 32 [.r (.c (.ptr (0,0,0) 0)),tI .i64 k] (Hu (0,0,1) (0,0,2) (0,0,3) p limit s) (tB false) (Hu (0,0,1) (0,0,2) (0,0,3) p limit {s with code:=1}):=by
 refine aw hΓ aK Try.func32 rfl d_ rfl rfl ?_;have QS:(aC (s.visits.map ji)).length=s.visits.length:=by rw[cS,e8]
 have hb:((s.visits.length:Int)==limit)=true:=w8.2 h0;repeat' ((conv=>whnf);first|apply Wx|apply W6|apply oi|apply fi|intro h|refine⟨_,rfl,?_⟩|exact Y7|fail)
 all_goals try(exfalso;rw[QS,hb]at h;cases h;done)
theorem AM (p:List NX)(limit k:Int)(s:RunS)(hv:s.visits.length<=1000)(hc:s.calls.length<=6)(h0:(s.visits.length:Int)≠limit):bf Try.prog 32 [.r (.c (.ptr (0,0,0) 0)),tI .i64 k] (Hu (0,0,1) (0,0,2) (0,0,3) p limit s) (tB true) (Hu (0,0,1) (1,0,2) (0,0,3) p limit {s with visits:=s.visits++[s.calls++[k]]}):=by
 refine aw hΓ aK Try.func32 rfl d_ rfl rfl ?_;have QS:(aC (s.visits.map ji)).length=s.visits.length:=by rw[cS,e8]
 have hb:((s.visits.length:Int)==limit)=false:=z8.2 h0
 have hf:flat ([]++s.calls.map aa++[[Tr.int .i64 k]]):=by have:=da (s.calls++[k]);simpa [aa]using this
 repeat' ((conv=>whnf);first|apply Wx|apply W6|apply oi|apply fi|intro h|refine⟨_,rfl,?_⟩|exact Y7|fail)
 all_goals try(exfalso;rw[QS,hb]at h;cases h;done)
 all_goals try exact⟨⟨by simp[cS]<;>omega,by simp[cS]<;>omega⟩⟩
 all_goals try exact⟨hf⟩
 all_goals exact⟨by simp[aC,ji,aa]⟩
abbrev xr (l:List (List UInt8)):AV:= .r (.c (.t (.lst 1 (l.map ax))))
def Rr.val:Rr Int->Int
 | .ok v _=>v
 | _=>0
def Rr.st {α:Type}:Rr α->IS
 | .ok _ s=>s
 | .stop _ s=>s
 | .fuel=>⟨[],[]⟩
def Rr.code {α:Type}:Rr α->Int
 | .ok _ _=>0
 | .stop c _=>c
 | .fuel=>0
abbrev JE (i1 i2 i3:Sim.Id)(p:List NX)(lim:Int)(calls:List Int)(s:IS)(c:Int):List (Sim.Id×AO):=Hu i1 i2 i3 p lim ⟨s.out,s.visits,0,c,calls⟩
structure InV (lim:Int) (calls:List Int) (s:IS):Prop where
 lm:lim<=1000
 vis:(s.visits.length:Int)<=lim
 out:s.out.length<=s.visits.length
 calls:calls.length<=6
theorem InV.ext {lim:Int}{calls:List Int}{s s':IS}(h:InV lim calls s)(hx:Ext lim s s'):InV lim calls s':=⟨h.lm,hx.le h.vis,by have:=hx.ol;have:=h.out;omega,h.calls⟩
noncomputable abbrev nO (p:List NX) (lim:Int) (n:Nat) (calls:List Int) (f k:Nat) (vals:List Int) (e:Ex) (s:IS):Rr Int:=evE p (localsOf p (f:Int)) vals (bk p lim n calls k) e s
abbrev Ns (vals:List Int):List (Sim.Id×AO):=[((0,0,4),.arr false 1 (vals.map aa))]
def Ml (p:List NX)(lim:Int)(n:Nat):Prop:=∀(calls:List Int) (f:Nat) (args:List Int) (s:IS),(∃y,p[f]?=some y/\y.faa=0)->args.length=argsN p f->InV lim calls s->
 aT p lim n calls f (f+1) (dG (localsOf p (f:Int)).length args) s≠.fuel->
 bf Try.prog 15 [.r (.c (.ptr (0,0,0) 0)),tI .i64 (f:Int),.r (.c (.t (.lst 1 (args.map aa))))] (JE (0,0,1) (0,0,2) (0,0,3) p lim calls s 0)
  (tI .i64 (aT p lim n calls f (f+1) (dG (localsOf p (f:Int)).length args) s).val) (JE (1,0,1) (1,0,2) (1,0,3) p lim calls (aT p lim n calls f (f+1) (dG (localsOf p (f:Int)).length args) s).st (aT p lim n calls f (f+1) (dG (localsOf p (f:Int)).length args) s).code)
theorem CO {p:List NX}{locals:List (List UInt8)}{vals:List Int}{call:ic}:∀{es:List Ex} {s:IS} {c:Int} {s':IS},bn p locals vals call es s= .stop c s'->
  ∃(j:Nat) (a:Ex) (av:List Int) (s1:IS),es[j]?=some a/\bn p locals vals call (es.take j) s= .ok av s1/\evE p locals vals call a s1= .stop c s'
 | [],s,c,s',h=>by rw[bn]at h;cases h
 | b::es,s,c,s',h=>by
  rw[bn]at h
  cases h1:evE p locals vals call b s with
  | ok v s1=>
   rw[h1,Rr.bnd_ok]at h
   cases h2:bn p locals vals call es s1 with
   | ok vs s2=>rw[h2]at h;cases h
   | stop c2 s2=>
    rw[h2]at h;injection h with e1 e2;subst e1;subst e2;obtain⟨j,a,av,s3,q1,q2,q3⟩:=CO h2
    exact⟨j+1,a,v::av,s3,by simpa using q1,by rw[q7,bn,h1,Rr.bnd_ok,q2];rfl,q3⟩
   | fuel=>rw[h2]at h;cases h
  | stop c2 s1=>
   rw[h1]at h;injection h with e1 e2;subst e1;subst e2
   exact⟨0,b,[],s,rfl,by rw[C9,bn],h1⟩
  | fuel=>rw[h1]at h;cases h
theorem zb {p:List NX}{locals:List (List UInt8)}{vals:List Int}{call:ic}{es:List Ex}{s:IS}{av:List Int}{s':IS}(h:bn p locals vals call es s= .ok av s')(j:Nat):∃as1 s1,bn p locals vals call (es.take j) s= .ok as1 s1:=by
 cases h1:bn p locals vals call (es.take j) s with
 | ok as1 s1=>exact⟨_,_,rfl⟩
 | stop c s1=>rw[Hw h1]at h;cases h
 | fuel=>rw[HI h1]at h;cases h
theorem yv {p:List NX}{locals:List (List UInt8)}{vals:List Int}{call:ic}{es:List Ex}{s:IS}{as1:List Int}{s1:IS}{j:Nat}{a:Ex}(h1:bn p locals vals call (es.take j) s= .ok as1 s1)(ha:es[j]?=some a){as2:List Int}{s2:IS}(h2:bn p locals vals call (es.take (j+1)) s= .ok as2 s2):
  ∃v,evE p locals vals call a s1= .ok v s2/\as2=as1++[v]:=by
 rw[HQ s ha,h1,Rr.bnd_ok]at h2
 cases h3:evE p locals vals call a s1 with
 | ok v s3=>rw[h3,Rr.bnd_ok]at h2;injection h2 with e1 e2;subst e1;subst e2;exact⟨v,rfl,rfl⟩
 | stop c s3=>rw[h3]at h2;cases h2
 | fuel=>rw[h3]at h2;cases h2
def Im (p:List NX)(lim:Int)(n:Nat)(e:Ex):Prop:=∀(calls:List Int) (f en k pos:Nat) (ln:NX) (vals:List Int) (s:IS),e.ok->InF p f en k->p[k]?=some ln->jO ln.fae pos e->Known p (localsOf p (f:Int)) ln.fae->vals.length=(localsOf p (f:Int)).length->InV lim calls s->
 nO p lim n calls f k vals e s≠.fuel->
 ∃x:Int,((∃v s',nO p lim n calls f k vals e s= .ok v s')->x=((pos+e.toks.length:Nat):Int))/\
 bf Try.prog 33 [.r (.c (.ptr (0,0,0) 0)),tI .i64 (k:Int),tI .i64 (pos:Int),xr (localsOf p (f:Int)),.r (.c (.own (0,0,4)))] (JE (0,0,1) (0,0,2) (0,0,3) p lim calls s 0++Ns vals)
  (.tup [.c (.t (.int .i64 (nO p lim n calls f k vals e s).val)),.c (.t (.int .i64 x))]) (JE (1,0,1) (1,0,2) (1,0,3) p lim calls (nO p lim n calls f k vals e s).st (nO p lim n calls f k vals e s).code++Ns vals)
theorem BV {l:List Int}{k:Nat}(h:k<l.length):l[k]?=some (atL l k):=by obtain⟨x,hx⟩:=ae h;rw[atL,hx];rfl
theorem Bw {p:List NX}(hp:PgOk p){k:Nat}{ln:NX}(hk:p[k]?=some ln):iv ln.fae/\ln.fac.length<=1048576:=by obtain⟨h1,_,_,_,h5⟩:=eY (bi hp.small (d4 hk));exact⟨fun t ht=>by have:=h5 t ht;omega,h1⟩
theorem V8{p:Prop}(h:p:=by
 obtain⟨v,hv,rfl⟩:=yv Ss ha h2;have Za:=XB j;rw[Ss]at Za;have Yf:nO p lim n calls f k vals a sj= .ok v s2:=by show evE _ _ _ _ _ _=_;rw[hL];exact hv
 obtain⟨x,hx,g⟩:=Zz j a ha calls f en k (pos+1+(ak (es.take j)).length) ln vals sj (jK ho.2.2 ha) hI hk (jd TI ha) O5 (by rw[hL];exact OK) (hV.ext Za) (by rw[Yf];exact fun e=>by cases e);have Ow:=nh Ss;rw[j9]at Ow;obtain rfl:=hx ⟨v,s2,Yf⟩;rw[Yf,hL]at g;dsimp only[Rr.val,Rr.st,Rr.code]at g;repeat' ((conv=>whnf);first|apply Wx|apply W6|apply oi|apply fi|intro h|refine⟨_,rfl,?_⟩|exact Y5|fail)
 refine cg (g) ?_;repeat' ((conv=>whnf);first|apply Wx|apply W6|apply oi|apply fi|intro h|refine⟨_,rfl,?_⟩|exact Y5|fail)
 all_goals try exact⟨⟨by simp<;>omega,by simp<;>omega⟩⟩
 conv=>whnf
 refine⟨⟨(j+1,aj++[v],s2),g_,h2⟩,?_,KD⟩;repeat' ((conv=>whnf);first|apply Wx|apply W6|apply oi|apply fi|intro h|refine⟨_,rfl,?_⟩|exact Y8|fail)
 all_goals exact⟨by simp[aa]⟩):p:=h
theorem V47{p:Prop}(h:p:=by
 dsimp only[Rr.val,Rr.st,Rr.code];repeat' ((conv=>whnf);first|apply Wx|apply W6|apply oi|apply fi|intro h|refine⟨_,rfl,?_⟩|exact Y5|fail)
 all_goals try(exfalso;simp_all;done)
 all_goals try exact⟨KW⟩):p:=h
theorem V63{p:Prop}(h:p:=by
 refine⟨.inl rfl,.inl rfl,.inl rfl,.inr ⟨_,_,rfl,rfl,rfl,?_⟩,trivial⟩
 intro q hq;simp only[AC.ids,d7,l8,or_false]at hq;subst hq;rfl):p:=h
theorem DL {p:List NX}(hp:PgOk p){lim:Int}{n:Nat}(hP:Ml p lim n):∀(m:Nat) (e:Ex),e.toks.length<=m->Im p lim n e
 | 0,e,hn=>by have:=e.toks_pos;omega
 | m+1,.node t es,hn=>by
  intro calls f en k pos ln vals s ho hI hk hs O5 OK hV PR;obtain⟨R9,Pn⟩:=Bw hp hk;have L3:=lC hs;obtain⟨ht,TI⟩:=mr hs;have XC:=d4 ht;obtain⟨e1,e2⟩:=zn ho.1;have N1:es.length=ar t:=ho.2.1;have hA:=jA t (R9 t XC);rw[e1,<-N1]at hA;have Rb:=hp.len;have Pk:=(hp.line _ _ hk).2.2.2.1;have Om:=aJ hk;rw[Ex.toks,d5]at hn L3;have hlp:=hV.lm;have Zz:∀(j:Nat) (a:Ex),es[j]?=some a->Im p lim n a:=fun j a ha=>DL hp hP m a (by have:=lZ ha;omega);have Xc:(localsOf p (f:Int)).length<=8:=by obtain⟨y,hy,h0⟩:=hI.fn;obtain⟨_,_,h8,_⟩:=hp.fn f y hy h0;exact h8
  obtain⟨L,hL⟩:∃L,localsOf p (f:Int)=L:=⟨_,rfl⟩;rw[hL]at Xc OK
  have OL:nO p lim n calls f k vals (.node t es) s=(bn p L vals (bk p lim n calls k) es s).bnd fun av s'=>gG p L vals (bk p lim n calls k) t av s':=by show evE _ _ _ _ _ _=_;rw[evE,hL]
  have XB:∀j,ExtR lim s (bn p L vals (bk p lim n calls k) (es.take j) s):=fun j=>nQ (jF n calls k) _ s;rw[OL]at PR⊢
  cases hR:bn p L vals (bk p lim n calls k) es s with
  | fuel=>rw[hR]at PR;exact absurd rfl PR
  | stop c s1=>
   obtain⟨j0,a0,as0,s0,q1,q2,q3⟩:=CO hR;have Wa:=aJ q1;have QQ:=XB j0;rw[q2]at QQ;have VZ:nO p lim n calls f k vals a0 s0= .stop c s1:=by show evE _ _ _ _ _ _=_;rw[hL];exact q3
   obtain⟨x0,_,g0⟩:=Zz j0 a0 q1 calls f en k (pos+1+(ak (es.take j0)).length) ln vals s0 (jK ho.2.2 q1) hI hk (jd TI q1) O5 (by rw[hL];exact OK) (hV.ext QQ) (by rw[VZ];exact fun e=>by cases e);rw[VZ,hL]at g0;refine⟨x0,(fun⟨v,s',h⟩=>by cases h),?_⟩;rw[Rr.bnd_stop];dsimp only[Rr.val,Rr.st,Rr.code]at g0⊢;have Ol:c=1\/c=2:=by have:=nQ (p:=p) (locals:=L) (vals:=vals) (jF (p:=p) (lim:=lim) n calls k) es s;rw[hR]at this;exact this.2
   refine aw hΓ aK Try.func33 rfl d_ rfl rfl ?_;rw[hL];repeat' ((conv=>whnf);first|apply Wx|apply W6|apply oi|apply fi|intro h|refine⟨k,ln.tr,rfl,ab hk,?_⟩|refine⟨pos,t.tr,rfl,ab ht,?_⟩|refine cl hA ?_|refine⟨_,rfl,?_⟩|exact Y7|fail)
   have hz:bn p L vals (bk p lim n calls k) (es.take 0) s= .ok [] s:=by rw[C9,bn]
   conv=>whnf
   refine⟨{q:Nat×List Int×IS//q.1<=j0/\bn p L vals (bk p lim n calls k) (es.take q.1) s= .ok q.2.1 q.2.2},fun q=>⟨[(0,.r (.c (.ptr (0,0,0) 0))),(1,tI .i64 (k:Int)),(2,tI .i64 ((pos+1+(ak (es.take q.1.1)).length:Nat):Int)),(3,xr L),(4,.r (.c (.own (0,0,4)))),(12,.r (.c (.ptr (12,0,0) 0))),(13,.r (.c (.own (31,0,0)))),(14,tI .i64 ((es.length-q.1.1:Nat):Int))],
    [((0,0,0),some (.box [.t (.lst 4 (p.map NX.tr)),.t (.int .i64 lim),.own (12,0,1),.own (12,0,2),.t (.int .i64 0),.t (.int .i64 0),.own (12,0,3)])),((12,0,1),some (.arr false 1 (q.1.2.2.out.map aa))),((12,0,2),some (.dar 1 (aC (q.1.2.2.visits.map ji)) none)),((12,0,3),some (.arr false 1 (calls.map aa))),((0,0,4),some (.arr false 1 (vals.map aa))),((12,0,0),some (.box (t.tr.map .t))),((31,0,0),some (.arr true 1 (q.1.2.1.map aa)))],[31,12,0]⟩,fun q=>es.length-q.1.1,⟨(0,[],s),v4 _,hz⟩,?_,?_⟩
   ·repeat' ((conv=>whnf);first|apply Wx|apply W6|apply oi|apply fi|intro h|refine⟨_,rfl,?_⟩|exact Y7|fail)
    all_goals try exact⟨congrArg (Tr.int _) (by rw[c9 _ o_];simp[ak])⟩
    all_goals try exact⟨KW⟩
   intro⟨⟨j,aj,sj⟩,hj,Ss⟩;dsimp only at hj Ss⊢;obtain⟨a,ha⟩:=ae (l:=es) (k:=j) o_;have ZT:=fR ha;have Vn:=dY es j;by_cases WR:j<j0
   ·obtain⟨a2,s2,h2⟩:=zb q2 (j+1);rw[F9,y8 o_]at h2;exact V8
   ·obtain rfl:j=j0:=o_;rw[Ss]at q2;injection q2 with q2 q4;subst q2;subst q4;repeat' ((conv=>whnf);first|apply Wx|apply W6|apply oi|apply fi|intro h|refine⟨_,rfl,?_⟩|exact Y5|fail)
    refine cg (g0) ?_;repeat' ((conv=>whnf);first|apply Wx|apply W6|apply oi|apply fi|intro h|refine⟨_,rfl,?_⟩|exact Y5|fail)
    all_goals try(exfalso;simp at h;omega)
  | ok av s1=>
   rw[hR,Rr.bnd_ok]at PR;rw[Rr.bnd_ok];have ZO:=XB es.length;rw[D1,hR]at ZO;have Ud:=hV.ext ZO;have Re:=nh hR;refine⟨((pos+(Ex.node t es).toks.length:Nat):Int),fun _=>rfl,?_⟩;refine aw hΓ aK Try.func33 rfl d_ rfl rfl ?_;rw[hL];have hT:(Ex.node t es).toks.length=(ak es).length+1:=by rw[Ex.toks,d5]
   rw[hT];repeat' ((conv=>whnf);first|apply Wx|apply W6|apply oi|apply fi|intro h|refine⟨k,ln.tr,rfl,ab hk,?_⟩|refine⟨pos,t.tr,rfl,ab ht,?_⟩|refine cl hA ?_|refine⟨_,rfl,?_⟩|exact Y7|fail)
   have hz:bn p L vals (bk p lim n calls k) (es.take 0) s= .ok [] s:=by rw[C9,bn]
   conv=>whnf
   refine⟨{q:Nat×List Int×IS//q.1<=es.length/\bn p L vals (bk p lim n calls k) (es.take q.1) s= .ok q.2.1 q.2.2},fun q=>⟨[(0,.r (.c (.ptr (0,0,0) 0))),(1,tI .i64 (k:Int)),(2,tI .i64 ((pos+1+(ak (es.take q.1.1)).length:Nat):Int)),(3,xr L),(4,.r (.c (.own (0,0,4)))),(12,.r (.c (.ptr (12,0,0) 0))),(13,.r (.c (.own (31,0,0)))),(14,tI .i64 ((es.length-q.1.1:Nat):Int))],
    [((0,0,0),some (.box [.t (.lst 4 (p.map NX.tr)),.t (.int .i64 lim),.own (12,0,1),.own (12,0,2),.t (.int .i64 0),.t (.int .i64 0),.own (12,0,3)])),((12,0,1),some (.arr false 1 (q.1.2.2.out.map aa))),((12,0,2),some (.dar 1 (aC (q.1.2.2.visits.map ji)) none)),((12,0,3),some (.arr false 1 (calls.map aa))),((0,0,4),some (.arr false 1 (vals.map aa))),((12,0,0),some (.box (t.tr.map .t))),((31,0,0),some (.arr true 1 (q.1.2.1.map aa)))],[31,12,0]⟩,fun q=>es.length-q.1.1,⟨(0,[],s),v4 _,hz⟩,?_,?_⟩
   ·repeat' ((conv=>whnf);first|apply Wx|apply W6|apply oi|apply fi|intro h|refine⟨_,rfl,?_⟩|exact Y7|fail)
    all_goals try exact⟨congrArg (Tr.int _) (by rw[c9 _ o_];simp[ak])⟩
    all_goals try exact⟨KW⟩
   intro⟨⟨j,aj,sj⟩,hj,Ss⟩;dsimp only at hj Ss⊢;have Vn:=dY es j;by_cases WR:j<es.length
   ·obtain⟨a,ha⟩:=ae WR;have ZT:=fR ha;obtain⟨a2,s2,h2⟩:=zb hR (j+1);exact V8
   ·obtain rfl:j=es.length:=o_;rw[D1]at Ss⊢;rw[hR]at Ss;injection Ss with e3 e4;subst e3;subst e4;obtain⟨ak0,ak7,ak2⟩:=Ba ho.1;rcases tk ho.1 with h0|h1|h7|h2
    ·have hf:gG p L vals (bk p lim n calls k) t av s1= .ok t.far s1:=by rw[gG,b9 h0]
     rw[hf];exact V47
    ·obtain⟨i,hi⟩:=O5.var t XC h1;rw[hL]at hi;have PS:=il hi;have U8:=dA L t.fac o_;rw[show dy L t.fac=(i:Int) by rw[dy,hi];rfl]at U8;have hvi:vals[i]?=some (atL vals i):=BV (by rw[OK];omega);have Xx:(vals.map aa)[i]?=some (aa (atL vals i)):=by rw[l9,hvi];rfl
     have OH:i<(vals.map aa).length:=by rw[e8,OK];omega
     have hf:gG p L vals (bk p lim n calls k) t av s1= .ok (atL vals i) s1:=by rw[gG,b8 o_,b9 h1,JQ,hi]
     rw[hf];dsimp only[Rr.val,Rr.st,Rr.code];repeat' ((conv=>whnf);first|apply Wx|apply W6|apply oi|apply fi|intro h|refine cl U8 ?_|refine⟨i,rfl,OH,?_⟩|refine⟨_,Xx,?_⟩|refine⟨_,rfl,?_⟩|exact Y5|fail)
     all_goals try(exfalso;simp_all;done)
     all_goals try exact⟨KW⟩
    ·obtain⟨g,SV,U5⟩:=O5.call t XC h7;have ZS:=cU p t.fac o_;rw[show kC p t.fac=(g:Int) by rw[kC,SV];rfl]at ZS;obtain⟨U0,y,hy,Pa,_⟩:=eL SV;have hf:gG p L vals (bk p lim n calls k) t av s1=bk p lim n calls k g av s1:=by rw[gG,b8 o_,b8 o_,b9 h7,SV];rfl
     rw[hf]at PR⊢;have M6:(calls.map aa).length=calls.length:=s_;by_cases h6:calls.length=6
     ·have Uk:bk p lim n calls k g av s1= .stop 2 s1:=by rw[bk,b9 h6]
      rw[Uk];exact V47
     ·have Uk:bk p lim n calls k g av s1=aT p lim n (calls++[(k:Int)]) g (g+1) (dG (localsOf p (g:Int)).length av) s1:=by rw[bk,b8 h6]
      rw[Uk]at PR⊢;have OQ:=Ud.calls;have gp:=hP (calls++[(k:Int)]) g av s1 ⟨y,hy,Pa⟩ (by have:=ak7 h7;omega) ⟨Ud.lm,Ud.vis,Ud.out,by rw[c7];simp;omega⟩ PR
      generalize aT p lim n (calls++[(k:Int)]) g (g+1) (dG (localsOf p (g:Int)).length av) s1=R at *
      repeat' ((conv=>whnf);first|(with_reducible apply W1;fail_if_success (with_reducible show Wo _ _ _ _ (Code.region 22 _ _) _ _))|(with_reducible first|apply W2|apply W3|apply W4|apply W5|apply W6|apply W7|apply W8|apply W9)|apply aq|apply oi|apply fi|intro h|refine⟨_,rfl,?_⟩|exact Y5|fail)
      all_goals try(exfalso;rw[M6]at h;simp at h;omega)
      all_goals try(exfalso;simp_all;done)
      all_goals try exact⟨⟨by simp<;>omega,by simp<;>omega⟩⟩
      all_goals try exact⟨da _⟩
      conv=>whnf
      refine jJ ⟨[(0,.r (.c (.ptr (0,0,0) 0))),(2,tI .i64 ((pos+1+(ak es).length:Nat):Int)),(12,.r (.c (.ptr (12,0,0) 0))),(13,.r (.c (.t (.lst 1 (av.map aa)))))],
       [((0,0,0),some (.box [.t (.lst 4 (p.map NX.tr)),.t (.int .i64 lim),.own (12,0,1),.own (12,0,2),.t (.int .i64 0),.t (.int .i64 0),.own (96,0,0)])),((96,0,0),some (.arr false 1 (calls.map aa++[[.int .i64 (k:Int)]]))),((12,0,1),some (.arr false 1 (s1.out.map aa))),((12,0,2),some (.dar 1 (aC (s1.visits.map ji)) none)),((0,0,4),some (.arr false 1 (vals.map aa))),((12,0,0),some (.box (t.tr.map .t)))],[96,95,31,12,0]⟩ ?_ ?_ rfl ?_
      ·exact V63
      ·exact⟨.inr rfl,.inr rfl,.inr rfl,.inr rfl,.inr rfl,.inr rfl,trivial⟩
      have ec:(calls++[(k:Int)]).map aa=calls.map aa++[[.int .i64 (k:Int)]]:=by simp[aa]
      simp only[JE,Hu]at gp;rw[ec]at gp;have Wq:(calls.map aa++[[Tr.int .i64 (k:Int)]]).length=calls.length+1:=s_;have Pe:IntKind.i64.wrap (((calls.map aa++[[Tr.int .i64 (k:Int)]]).length:Int)-1)=(calls.length:Int):=by rw[Wq,c9 _ o_];omega
      repeat' ((conv=>whnf);first|apply Wx|apply W6|apply oi|apply fi|intro h|refine cl ZS ?_|refine⟨_,rfl,?_⟩|exact Y7|fail)
      have VS:calls.length<=(calls.map aa++[[Tr.int .i64 (k:Int)]]).length:=o_;have XW:(calls.map aa++[[Tr.int .i64 (k:Int)]]).take calls.length=calls.map aa:=by rw[w6 s_,j5 s_]
      refine cg (gp) ?_;repeat' ((conv=>whnf);first|apply Wx|apply W6|apply oi|apply fi|intro h|refine⟨calls.length,Pe,VS,?_⟩|refine⟨_,rfl,?_⟩|exact Y8|fail)
      all_goals try exact⟨XW⟩
      all_goals exact⟨VS⟩
    ·have Ta:=ak2 h2.1 h2.2
     obtain⟨x,y,rfl⟩:∃x y,av=[x,y]:=by
      match av,Re with
      | [x,y],_=>exact⟨x,y,rfl⟩
      | [],h=>simp at h;omega
      | [_],h=>simp at h;omega
      | _::_::_::_,h=>simp at h;omega
     have Ww:=qO t.faa x y;have hf:gG p L vals (bk p lim n calls k) t [x,y] s1= .ok (cW t.faa x y) s1:=by rw[gG,b8 o_,b8 o_,b8 o_];rfl
     rw[hf];dsimp only[Rr.val,Rr.st,Rr.code];repeat' ((conv=>whnf);first|apply Wx|apply W6|apply oi|apply fi|intro h|refine cl Ww ?_|refine⟨0,rfl,s_,?_⟩|refine⟨1,rfl,s_,?_⟩|refine⟨_,rfl,?_⟩|exact Y5|fail)
     all_goals try(exfalso;simp_all;done)
     all_goals try exact⟨KW⟩
theorem xK {α:Type}(l:List α):l=[]\/∃W w,l=W++[w]:=by
 rcases List.eq_nil_or_concat l with h|⟨W,w,h⟩
 ·exact .inl h
 ·exact .inr ⟨W,w,by rw[h];simp⟩
theorem IZ {p:List NX}(hp:PgOk p)(PN:ah p=true){lim:Int}:∀n,Ml p lim n:=by
 intro n
 induction n using Nat.strongRecOn with
 | ind n ihn=>
  intro calls f args s hf Ow hV PR;have hEv:∀m,m<n->∀e,Im p lim m e:=fun m hm e=>DL hp (ihn m hm) e.toks.length e (d6 _);obtain⟨en,R6⟩:=InF.start hp hf;have Rb:=hp.len;obtain⟨y,hy,Pa⟩:=hf;obtain⟨e',N5,Xc,hAL,_⟩:=hp.fn f y hy Pa;rw[R6.en]at N5;injection N5 with N5;subst N5;obtain⟨_,_,_,_,Ul,N1⟩:=aM R6.en;have hA:argsN p f=y.faj.length:=by rw[argsN,hy]
  have h4:=(hp.line f y hy).2.2.1;have Xs:=fP p (f:Int) o_ (fun z hz=>bi hp.small hz);have Sm:=bB p (f:Int) o_;rw[show bT p (f:Int)=(en:Int) by rw[bA];exact aZ R6.en]at Sm;have Qk:=zY R6;obtain⟨L,hL⟩:∃L,localsOf p (f:Int)=L:=⟨_,rfl⟩;have hKn:=fun{k:Nat} {ln:NX} (hI:InF p f en k) (hk:p[k]?=some ln) (M9:k<en)=>Dd PN hI hk M9;rw[hL]at Xc hAL Xs PR⊢;obtain⟨R,hR⟩:∃R,aT p lim n calls f (f+1) (dG L.length args) s=R:=⟨_,rfl⟩;rw[hR]at PR⊢;have OO:(args.map aa).length=args.length:=s_;refine aw hΓ aK Try.func15 rfl d_ rfl rfl ?_;repeat' ((conv=>whnf);first|(with_reducible apply W1;fail_if_success (with_reducible show Wo _ _ _ _ (Code.region 2 _ _) _ _))|(with_reducible first|apply W2|apply W3|apply W4|apply W5|apply W6|apply W7|apply W8|apply W9)|apply aq|apply oi|apply fi|intro h|refine cl Xs ?_|refine⟨_,rfl,?_⟩|exact Y7|fail)
  conv=>whnf
  refine jJ ⟨[(0,.r (.c (.ptr (0,0,0) 0))),(1,tI .i64 (f:Int)),(2,.r (.c (.t (.lst 1 (args.map aa))))),(7,xr L)],
   [((0,0,0),some (.box [.t (.lst 4 (p.map NX.tr)),.t (.int .i64 lim),.own (0,0,1),.own (0,0,2),.t (.int .i64 0),.t (.int .i64 0),.own (0,0,3)])),((0,0,1),some (.arr false 1 (s.out.map aa))),((0,0,2),some (.dar 1 (aC (s.visits.map ji)) none)),((0,0,3),some (.arr false 1 (calls.map aa)))],[21,0]⟩ ?_ ?_ rfl ?_
  ·exact V63
  ·exact⟨.inr rfl,.inr rfl,.inr rfl,.inr rfl,trivial⟩
  repeat' ((conv=>whnf);first|apply Wx|apply W6|apply oi|apply fi|intro h|refine⟨_,rfl,?_⟩|exact Y7|fail)
  all_goals try exact⟨by simpa using da args⟩
  all_goals try exact⟨⟨by simp<;>omega,by simp<;>omega⟩⟩
  conv=>whnf
  refine⟨{j:Nat//j<=L.length-args.length},fun j=>⟨[(0,.r (.c (.ptr (0,0,0) 0))),(1,tI .i64 (f:Int)),(7,xr L),(8,.r (.c (.own (22,0,0))))],
   [((0,0,0),some (.box [.t (.lst 4 (p.map NX.tr)),.t (.int .i64 lim),.own (0,0,1),.own (0,0,2),.t (.int .i64 0),.t (.int .i64 0),.own (0,0,3)])),((0,0,1),some (.arr false 1 (s.out.map aa))),((0,0,2),some (.dar 1 (aC (s.visits.map ji)) none)),((0,0,3),some (.arr false 1 (calls.map aa))),((22,0,0),some (.arr false 1 ((args++List.replicate j.1 0).map aa)))],[22,21,0]⟩,fun j=>L.length-j.1,⟨0,o_⟩,?_,?_⟩
  ·repeat' ((conv=>whnf);first|apply Wx|apply W6|apply oi|apply fi|intro h|refine⟨_,rfl,?_⟩|exact Y8|fail)
   all_goals try exact⟨s_⟩
  intro⟨j,hj⟩;dsimp only;have OM:((args++List.replicate j 0).map aa).length=args.length+j:=s_;have PF:(L.map ax).length=L.length:=s_;by_cases abU:j<L.length-args.length
  ·repeat' ((conv=>whnf);first|apply Wx|apply W6|apply oi|apply fi|intro h|refine⟨_,rfl,?_⟩|exact Y7|fail)
   all_goals try(exfalso;rw[OM,PF]at h;simp at h;omega)
   all_goals try exact⟨⟨by rw[OM];simp<;>omega,by rw[OM];simp<;>omega⟩⟩
   conv=>whnf
   refine⟨⟨j+1,o_⟩,?_,KD⟩;repeat' ((conv=>whnf);first|apply Wx|apply W6|apply oi|apply fi|intro h|refine⟨_,rfl,?_⟩|exact Y7|fail)
   all_goals exact⟨by rw[List.replicate_succ'];simp[aa]⟩
  ·repeat' ((conv=>whnf);first|apply Wx|apply W6|apply oi|apply fi|intro h|refine cl Sm ?_|refine⟨_,rfl,?_⟩|exact Y7|fail)
   all_goals try(exfalso;rw[OM,PF]at h;simp at h;omega)
   have RF:args++List.replicate j 0=dG L.length args:=by rw[dG,show j=L.length-args.length by omega]
   rw[RF];have PQ:(dG L.length args).length=L.length:=by rw[dG,c7,E0];omega
   generalize dG L.length args=V0 at *
   conv=>whnf
   refine⟨{q:Nat×Nat×List Int×IS//q.1<=n/\InF p f en q.2.1/\q.2.2.1.length=L.length/\InV lim calls q.2.2.2/\aT p lim q.1 calls f q.2.1 q.2.2.1 q.2.2.2=R},fun q=>⟨[(0,.r (.c (.ptr (0,0,0) 0))),(1,tI .i64 (f:Int)),(7,xr L),(8,.r (.c (.own (22,0,0)))),(9,tI .i64 (en:Int)),(10,.r (.c (.own (39,0,0)))),(11,tI .i64 (q.1.2.1:Int))],
    [((0,0,0),some (.box [.t (.lst 4 (p.map NX.tr)),.t (.int .i64 lim),.own (22,0,1),.own (22,0,2),.t (.int .i64 0),.t (.int .i64 0),.own (22,0,3)])),((22,0,1),some (.arr false 1 (q.1.2.2.2.out.map aa))),((22,0,2),some (.dar 1 (aC (q.1.2.2.2.visits.map ji)) none)),((22,0,3),some (.arr false 1 (calls.map aa))),((22,0,0),some (.arr false 1 (q.1.2.2.1.map aa))),((39,0,0),some (.arr true 1 ((aP p f q.1.2.1).map fun i:Nat=>aa (i:Int))))],[39,22,21,0]⟩,fun q=>q.1.1,⟨(n,f+1,V0,s),d6 _,R6,PQ,hV,hR⟩,?_,?_⟩
   ·repeat' ((conv=>whnf);first|apply Wx|apply W6|apply oi|apply fi|intro h|refine⟨_,rfl,?_⟩|exact Y8|fail)
    all_goals try exact⟨by rw[Qk];rfl⟩
   intro⟨⟨m,k,vals,sk⟩,hm,hI,OK,Sn,N9⟩;dsimp only at hm hI OK Sn N9⊢
   match m,hm,N9 with
   | 0,_,N9=>exact absurd N9.symm PR
   | m+1,hm,N9=>
   obtain⟨ln,hk,Oy,Rf,M9⟩:=hI.line hp;by_cases Om:k<en
   ·obtain⟨kd,nm,ag,ex⟩:=ln;dsimp only at Oy Rf M9;have L2:p[k]?=some ⟨kd,nm,ag,ex⟩:=hk;have hvm:(vals.map aa).length=vals.length:=s_;rcases(show kd=7\/kd=4\/(kd≠7/\kd≠4) by omega)with rfl|rfl|⟨h7,Q0⟩
    ·obtain⟨ho,h|⟨q1,q2,q3,y2,XH,q4⟩⟩:=hI.own7 hp hk rfl
     ·omega
     rw[cD hk rfl,b8 o_,aL XH]at N9
     generalize ownOf p k=o at *
     by_cases h5:y2.faa=5
     ·rw[b9 h5]at N9;rw[Ek hI.lo ho q2 XH h5,u4];have WW:=pu p f o;have Pf:((aP p f o).map (fun i:Nat=>aa (i:Int))++[o].map fun i:Nat=>aa (i:Int)).length=(aP p f o).length+1:=s_;have hw:IntKind.i64.wrap ((((aP p f o).map (fun i:Nat=>aa (i:Int))++[o].map fun i:Nat=>aa (i:Int)).length:Int)-1)=((aP p f o).length:Int):=by rw[Pf,c9 _ o_];omega
      have J3:(aP p f o).length<((aP p f o).map (fun i:Nat=>aa (i:Int))++[o].map fun i:Nat=>aa (i:Int)).length:=o_;have SF:((aP p f o).map (fun i:Nat=>aa (i:Int))++[o].map fun i:Nat=>aa (i:Int))[(aP p f o).length]?=some (aa (o:Int)):=s_;have Vn:((aP p f o).map (fun i:Nat=>aa (i:Int))++[o].map fun i:Nat=>aa (i:Int)).take (aP p f o).length=(aP p f o).map fun i:Nat=>aa (i:Int):=by rw[w6 s_,j5 s_]
      have VD:=bB p (o:Int) o_;rw[show bT p (o:Int)=(k:Int) by rw[bA];exact aZ ho]at VD;have Rw:(aP p f o).length<=((aP p f o).map (fun i:Nat=>aa (i:Int))++[o].map fun i:Nat=>aa (i:Int)).length:=o_;repeat' ((conv=>whnf);first|apply Wx|apply W6|apply oi|apply fi|intro h|refine⟨k,(NX.tr ⟨7,nm,ag,ex⟩),rfl,ab hk,?_⟩|refine cl VD ?_|refine⟨(aP p f o).length,hw,J3,?_⟩|refine⟨_,SF,?_⟩|refine⟨(aP p f o).length,hw,Rw,?_⟩|refine⟨_,rfl,?_⟩|exact Y5|fail)
      all_goals try(exfalso;simp at h;done)
      conv=>whnf
      refine⟨⟨(m,o,vals,sk),g_,hI.at q2 g_,OK,Sn,N9⟩,?_,KD⟩;repeat' ((conv=>whnf);first|apply Wx|apply W6|apply oi|apply fi|intro h|refine⟨_,rfl,?_⟩|exact Y8|fail)
      all_goals try exact⟨Vn⟩
      all_goals exact⟨Rw⟩
     ·rw[b8 h5]at N9;obtain⟨OB,Pe⟩:=Hk hk rfl ho XH o_;have WW:=pu p f k;rcases xK (aP p f k)with hn|⟨W,w,Ri⟩
      ·rw[hn];rw[hn]at OB;repeat' ((conv=>whnf);first|apply Wx|apply W6|apply oi|apply fi|intro h|refine⟨k,(NX.tr ⟨7,nm,ag,ex⟩),rfl,ab hk,?_⟩|refine⟨_,rfl,?_⟩|exact Y5|fail)
       conv=>whnf
       refine⟨⟨(m,k+1,vals,sk),g_,hI.at (by have:=hI.lo;dsimp only;omega) g_,OK,Sn,N9⟩,?_,KD⟩;repeat' ((conv=>whnf);first|apply Wx|apply W6|apply oi|apply fi|intro h|refine⟨_,rfl,?_⟩|exact Y8|fail)
       all_goals exact⟨by dsimp only;rw[OB]⟩
      ·have Xe:w∈aP p f k:=by rw[Ri];simp
       have hwk:=Pe w Xe;obtain⟨_,_,_,ew,Zi,_⟩:=wV Xe;have ZI:=bB p (w:Int) o_;rw[show bT p (w:Int)=(ew:Int) by rw[bA];exact aZ Zi]at ZI;have K0:ew≠k:=fun e=>hwk (by rw[Zi,e]);rw[Ri,u4];rw[Ri]at OB WW;rw[c7,d5,gt]at WW;have Pf:(W.map (fun i:Nat=>aa (i:Int))++[w].map fun i:Nat=>aa (i:Int)).length=W.length+1:=s_;have hw:IntKind.i64.wrap (((W.map (fun i:Nat=>aa (i:Int))++[w].map fun i:Nat=>aa (i:Int)).length:Int)-1)=(W.length:Int):=by rw[Pf,c9 _ o_];omega
       have J3:W.length<(W.map (fun i:Nat=>aa (i:Int))++[w].map fun i:Nat=>aa (i:Int)).length:=o_;have SF:(W.map (fun i:Nat=>aa (i:Int))++[w].map fun i:Nat=>aa (i:Int))[W.length]?=some (aa (w:Int)):=s_;repeat' ((conv=>whnf);first|apply Wx|apply W6|apply oi|apply fi|intro h|refine⟨k,(NX.tr ⟨7,nm,ag,ex⟩),rfl,ab hk,?_⟩|refine cl ZI ?_|refine⟨W.length,hw,J3,?_⟩|refine⟨_,SF,?_⟩|refine⟨_,rfl,?_⟩|exact Y5|fail)
       all_goals try(exfalso;simp at h;omega)
       all_goals try(exfalso;rw[Pf]at h;simp at h;omega)
       conv=>whnf
       refine⟨⟨(m,k+1,vals,sk),g_,hI.at (by have:=hI.lo;dsimp only;omega) g_,OK,Sn,N9⟩,?_,KD⟩;repeat' ((conv=>whnf);first|apply Wx|apply W6|apply oi|apply fi|intro h|refine⟨_,rfl,?_⟩|exact Y8|fail)
       all_goals exact⟨by dsimp only;rw[OB,u4]⟩
    ·have UH:=hI.elseNext hp hk rfl;obtain⟨q1,q2,q3,q4⟩:=hI.own4 hp hk rfl;have hwe:=CV hp hI hk rfl;rw[dC hk rfl]at N9;have VD:=bB p (ownOf p k:Int) o_;obtain⟨x3,e3,WN,acg,WH,_,_,_⟩:=aV q1;have hE3:cO p (ownOf p k)=e3:=by rw[cO,WH];rfl
     rw[show bT p (ownOf p k:Int)=(e3:Int) by rw[bA];exact aZ WH]at VD;rw[hE3]at UH hwe N9;have Oz:∀i,elseAt p i=some k->i=ownOf p k:=fun i h=>lV h q1
     generalize ownOf p k=o at *
     have h7e:∀i,elseAt p i≠some e3:=fun i h=>by
      obtain⟨_,_,_,_,_,_,_,z,hz,h4z⟩:=aV h;obtain⟨z2,Xr,h7z⟩:=bp WH;rw[hz]at Xr;injection Xr with Xr;subst Xr;omega
     have RZ:=fun i:Nat=>fJ p (i:Int) o_;repeat' ((conv=>whnf);first|apply Wx|apply W6|apply oi|apply fi|intro h|refine⟨k,(NX.tr ⟨4,nm,ag,ex⟩),rfl,ab hk,?_⟩|refine⟨_,rfl,?_⟩|exact Y5|fail)
     conv=>whnf
     refine⟨{i:Nat//f<=i/\i<=e3},fun i=>⟨[(0,.r (.c (.ptr (0,0,0) 0))),(1,tI .i64 (f:Int)),(7,xr L),(8,.r (.c (.own (22,0,0)))),(9,tI .i64 (en:Int)),(10,.r (.c (.own (39,0,0)))),(11,tI .i64 ((if o<i.1 then e3 else k:Nat):Int)),(13,tI .i64 (i.1:Int))],
      [((0,0,0),some (.box [.t (.lst 4 (p.map NX.tr)),.t (.int .i64 lim),.own (22,0,1),.own (22,0,2),.t (.int .i64 0),.t (.int .i64 0),.own (22,0,3)])),((22,0,1),some (.arr false 1 (sk.out.map aa))),((22,0,2),some (.dar 1 (aC (sk.visits.map ji)) none)),((22,0,3),some (.arr false 1 (calls.map aa))),((22,0,0),some (.arr false 1 (vals.map aa))),((39,0,0),some (.arr true 1 ((aP p f k).map fun i:Nat=>aa (i:Int))))],[39,22,21,0]⟩,fun i=>e3-i.1,⟨f,o_,o_⟩,?_,?_⟩
     ·repeat' ((conv=>whnf);first|apply Wx|apply W6|apply oi|apply fi|intro h|refine⟨_,rfl,?_⟩|exact Y8|fail)
      all_goals exact⟨by dsimp only;rw[b8 o_]⟩
     intro⟨i,QU,Rp⟩;dsimp only;have WD:=RZ i;by_cases Qu:o<i
     ·rw[b9 Qu];by_cases Pi:i<e3
      ·have hv:bE p (i:Int)≠(e3:Int):=fun h=>by
        rw[bI]at h
        cases hx:elseAt p i with
        | none=>rw[hx]at h;simp[cA]at h
        | some j=>rw[hx]at h;simp only[cA]at h;exact h7e i (by rw[hx];congr 1;omega)
       generalize bE p (i:Int)=ev at *
       repeat' ((conv=>whnf);first|apply Wx|apply W6|apply oi|apply fi|intro h|refine cl WD ?_|refine⟨_,rfl,?_⟩|exact Y5|fail)
       all_goals try(exfalso;simp at h;exact hv h)
       conv=>whnf
       refine⟨⟨i+1,o_,o_⟩,?_,KD⟩;repeat' ((conv=>whnf);first|apply Wx|apply W6|apply oi|apply fi|intro h|refine⟨_,rfl,?_⟩|exact Y8|fail)
       all_goals exact⟨by dsimp only;rw[b9 o_]⟩
      ·have XO:i=e3:=o_;subst XO;repeat' ((conv=>whnf);first|apply Wx|apply W6|apply oi|apply fi|intro h|refine⟨_,rfl,?_⟩|exact Y5|fail)
       conv=>whnf
       refine⟨⟨(m,i+1,vals,sk),g_,hI.at (by have:=hI.lo;dsimp only;omega) g_,OK,Sn,N9⟩,?_,KD⟩;repeat' ((conv=>whnf);first|apply Wx|apply W6|apply oi|apply fi|intro h|refine⟨_,rfl,?_⟩|exact Y8|fail)
       all_goals exact⟨by dsimp only;rw[hwe]⟩
     ·rw[b8 Qu];by_cases Pi:i=o
      ·subst Pi;rw[show bE p (i:Int)=(k:Int) by rw[bI,q1];rfl]at WD;repeat' ((conv=>whnf);first|apply Wx|apply W6|apply oi|apply fi|intro h|refine cl WD ?_|refine cl VD ?_|refine⟨_,rfl,?_⟩|exact Y5|fail)
       all_goals try(exfalso;simp at h;done)
       conv=>whnf
       refine⟨⟨i+1,o_,o_⟩,?_,KD⟩;repeat' ((conv=>whnf);first|apply Wx|apply W6|apply oi|apply fi|intro h|refine⟨_,rfl,?_⟩|exact Y8|fail)
       all_goals exact⟨by dsimp only;rw[b9 o_]⟩
      ·have hv:bE p (i:Int)≠(k:Int):=fun h=>by
        rw[bI]at h
        cases hx:elseAt p i with
        | none=>rw[hx]at h;simp[cA]at h
        | some j=>rw[hx]at h;simp only[cA]at h;exact Pi (Oz i (by rw[hx];congr 1;omega))
       generalize bE p (i:Int)=ev at *
       repeat' ((conv=>whnf);first|apply Wx|apply W6|apply oi|apply fi|intro h|refine cl WD ?_|refine⟨_,rfl,?_⟩|exact Y5|fail)
       all_goals try(exfalso;simp at h;exact hv h)
       conv=>whnf
       refine⟨⟨i+1,o_,o_⟩,?_,KD⟩;repeat' ((conv=>whnf);first|apply Wx|apply W6|apply oi|apply fi|intro h|refine⟨_,rfl,?_⟩|exact Y8|fail)
       all_goals exact⟨by dsimp only;rw[b8 o_]⟩
    ·have UF:kd=1\/kd=2\/kd=3\/kd=5\/kd=6:=o_;have hvn:sk.visits.length<=1000:=by have:=Sn.vis;have:=Sn.lm;omega
     by_cases Pg:(sk.visits.length:Int)=lim
     ·rw[dE hk h7 Q0 Pg]at N9;subst N9;dsimp only[Rr.val,Rr.st,Rr.code];have gv:=qC p lim (k:Int) ⟨sk.out,sk.visits,0,0,calls⟩ Pg;rcases UF with rfl|rfl|rfl|rfl|rfl
      all_goals(
       repeat' ((conv=>whnf);first|apply Wx|apply W6|apply oi|apply fi|intro h|refine⟨k,(NX.tr ⟨_,nm,ag,ex⟩),rfl,ab hk,?_⟩|refine⟨_,rfl,?_⟩|exact Y5|fail)
       refine cg (gv) ?_;repeat' ((conv=>whnf);first|apply Wx|apply W6|apply oi|apply fi|intro h|refine⟨_,rfl,?_⟩|exact Y7|fail)
       skip)
     ·rw[dW hk h7 Q0 Pg]at N9;have gv:=AM p lim (k:Int) ⟨sk.out,sk.visits,0,0,calls⟩ hvn Sn.calls Pg;obtain⟨WQ,e1,e2,e3⟩:=hI.known hp hk h7 Q0;obtain⟨O5,Qb⟩:=hKn hI hk Om;have Ud:InV lim calls ⟨sk.out,sk.visits++[calls++[(k:Int)]]⟩:=Sn.ext (nX Pg _);dsimp only at N9 WQ e1 e2 O5 Qb;obtain⟨E,hE⟩:∃E,nO p lim m calls f k vals (exL ex) ⟨sk.out,sk.visits++[calls++[(k:Int)]]⟩=E:=⟨_,rfl⟩;have Tb:=rf (p:=p) (locals:=localsOf p (f:Int)) (vals:=vals) (jF (p:=p) (lim:=lim) m calls k) (exL ex) ⟨sk.out,sk.visits++[calls++[(k:Int)]]⟩;rw[show evE p (localsOf p (f:Int)) vals (bk p lim m calls k) (exL ex) ⟨sk.out,sk.visits++[calls++[(k:Int)]]⟩=E from hE]at N9 Tb
      have Y0:nO p lim m calls f k vals (exL ex) ⟨sk.out,sk.visits++[calls++[(k:Int)]]⟩≠.fuel:=fun e=>by
       rw[hE]at e;rw[e]at N9;exact PR N9.symm
      obtain⟨x,_,g⟩:=hEv m o_ (exL ex) calls f en k 0 ⟨kd,nm,ag,ex⟩ vals ⟨sk.out,sk.visits++[calls++[(k:Int)]]⟩ e1 hI hk ⟨[],by rw[A8,m9];exact e2⟩ O5 (by rw[hL];exact OK) Ud Y0;rw[hE,hL]at g;rw[hL]at N9 Qb
      match E,hE,N9,Tb,g with
      | .fuel,hE,_,_,_=>exact absurd hE Y0
      | .stop c s2,hE,N9,Tb,g=>
       have N9:Rr.stop c s2=R:=N9;subst N9;have Ol:=Tb.2;dsimp only[Rr.val,Rr.st,Rr.code]at g⊢;rcases UF with rfl|rfl|rfl|rfl|rfl
       all_goals(
        repeat' ((conv=>whnf);first|apply Wx|apply W6|apply oi|apply fi|intro h|refine⟨k,(NX.tr ⟨_,nm,ag,ex⟩),rfl,ab hk,?_⟩|refine⟨_,rfl,?_⟩|exact Y5|fail)
        refine cg (gv) ?_;repeat' ((conv=>whnf);first|apply Wx|apply W6|apply oi|apply fi|intro h|refine⟨_,rfl,?_⟩|exact Y7|fail)
        refine cg (g) ?_;repeat' ((conv=>whnf);first|apply Wx|apply W6|apply oi|apply fi|intro h|refine⟨_,rfl,?_⟩|exact Y7|fail)
        all_goals try(exfalso;simp at h;omega)
        skip)
      | .ok v s2,hE,N9,Tb,g=>
       rw[Rr.bnd_ok]at N9;have Tb:Ext lim ⟨sk.out,sk.visits++[calls++[(k:Int)]]⟩ s2:=Tb;have SB:InV lim calls s2:=Ud.ext Tb;have abu:s2.out.length<=1000:=by have:=SB.vis;have:=SB.lm;have:=SB.out;omega
       dsimp only[Rr.val,Rr.st,Rr.code]at g;rcases UF with rfl|rfl|rfl|rfl|rfl
       ·obtain⟨ix,PS⟩:=Qb rfl;have aaP:=il PS;have U8:=dA L nm o_;rw[show dy L nm=(ix:Int) by rw[dy,PS];rfl]at U8;have OH:ix<(vals.map aa).length:=o_;have Xx:(vals.map aa)[ix]?=some (aa (atL vals ix)):=by rw[l9,BV o_];rfl
        have QD:mH L ⟨1,nm,ag,ex⟩ vals v=vals.set ix v:=by rw[mH,b9 rfl,PS]
        have QY:je ⟨1,nm,ag,ex⟩ s2 v=s2:=by rw[je,b8 s_]
        have O9:dI p ⟨1,nm,ag,ex⟩ k v=k+1:=by rw[dI,b8 s_]
        rw[b8 s_,QD,QY,O9]at N9;have Uw:=nu (f:=f) hk s_ s_;repeat' ((conv=>whnf);first|apply Wx|apply W6|apply oi|apply fi|intro h|refine⟨k,(NX.tr ⟨_,nm,ag,ex⟩),rfl,ab hk,?_⟩|refine⟨_,rfl,?_⟩|exact Y5|fail)
        refine cg (gv) ?_;repeat' ((conv=>whnf);first|apply Wx|apply W6|apply oi|apply fi|intro h|refine⟨_,rfl,?_⟩|exact Y7|fail)
        refine cg (g) ?_;repeat' ((conv=>whnf);first|apply Wx|apply W6|apply oi|apply fi|intro h|refine cl U8 ?_|refine⟨ix,rfl,OH,?_⟩|refine⟨_,Xx,?_⟩|refine⟨_,rfl,?_⟩|exact Y5|fail)
        conv=>whnf
        refine⟨⟨(m,k+1,vals.set ix v,s2),g_,hI.at (by have:=hI.lo;dsimp only;omega) g_,by dsimp only;rw[o8];exact OK,SB,N9⟩,?_,KD⟩;repeat' ((conv=>whnf);first|apply Wx|apply W6|apply oi|apply fi|intro h|refine⟨_,rfl,?_⟩|exact Y8|fail)
        all_goals try exact⟨by dsimp only;rw[Uw]⟩
        all_goals try exact⟨by dsimp only;rw[E8];rfl⟩
       ·have QD:mH L ⟨2,nm,ag,ex⟩ vals v=vals:=by rw[mH,b8 s_]
        have QY:je ⟨2,nm,ag,ex⟩ s2 v=⟨s2.out++[v],s2.visits⟩:=by rw[je,b9 rfl]
        have O9:dI p ⟨2,nm,ag,ex⟩ k v=k+1:=by rw[dI,b8 s_]
        have WQ:=zW (ln:=⟨2,nm,ag,ex⟩) (v:=v) Pg Tb;rw[QY]at WQ;rw[b8 s_,QD,QY,O9]at N9;have Uw:=nu (f:=f) hk s_ s_;repeat' ((conv=>whnf);first|apply Wx|apply W6|apply oi|apply fi|intro h|refine⟨k,(NX.tr ⟨_,nm,ag,ex⟩),rfl,ab hk,?_⟩|refine⟨_,rfl,?_⟩|exact Y5|fail)
        refine cg (gv) ?_;repeat' ((conv=>whnf);first|apply Wx|apply W6|apply oi|apply fi|intro h|refine⟨_,rfl,?_⟩|exact Y7|fail)
        refine cg (g) ?_;repeat' ((conv=>whnf);first|apply Wx|apply W6|apply oi|apply fi|intro h|refine⟨_,rfl,?_⟩|exact Y5|fail)
        all_goals try exact⟨⟨by simp<;>omega,by simp<;>omega⟩⟩
        conv=>whnf
        refine⟨⟨(m,k+1,vals,⟨s2.out++[v],s2.visits⟩),g_,hI.at (by have:=hI.lo;dsimp only;omega) g_,OK,Sn.ext WQ,N9⟩,?_,KD⟩;repeat' ((conv=>whnf);first|apply Wx|apply W6|apply oi|apply fi|intro h|refine⟨_,rfl,?_⟩|exact Y8|fail)
        all_goals try exact⟨by dsimp only;rw[Uw]⟩
        all_goals try exact⟨by simp[aa]⟩
       ·have QD:mH L ⟨3,nm,ag,ex⟩ vals v=vals:=by rw[mH,b8 s_]
        have QY:je ⟨3,nm,ag,ex⟩ s2 v=s2:=by rw[je,b8 s_]
        rw[b8 s_,QD,QY]at N9;by_cases Ui:v=0
        ·subst Ui;have O9:dI p ⟨3,nm,ag,ex⟩ k 0=skipAt p k+1:=by rw[dI,b9 ⟨.inl rfl,rfl⟩]
         rw[O9]at N9;have Qk:=um hp hI Om hk (.inl rfl);have PH:=hI.skip hp hk (.inl rfl) Om;have RZ:=fJ p (k:Int) o_;obtain⟨ek,VM,_,_⟩:=cT hI.en hI.lo Om hk (by rw[opensK_iff];simp);have Wl:=bB p (k:Int) o_;rw[show bT p (k:Int)=(ek:Int) by rw[bA];exact aZ VM]at Wl
         cases SO:elseAt p k with
         | some j=>
          have hj:skipAt p k=j:=by rw[skipAt,SO]
          rw[show bE p (k:Int)=(j:Int) by rw[bI,SO];rfl]at RZ;rw[hj]at N9 Qk PH;repeat' ((conv=>whnf);first|apply Wx|apply W6|apply oi|apply fi|intro h|refine⟨k,(NX.tr ⟨_,nm,ag,ex⟩),rfl,ab hk,?_⟩|refine⟨_,rfl,?_⟩|exact Y5|fail)
          refine cg (gv) ?_;repeat' ((conv=>whnf);first|apply Wx|apply W6|apply oi|apply fi|intro h|refine⟨_,rfl,?_⟩|exact Y7|fail)
          refine cg (g) ?_;repeat' ((conv=>whnf);first|apply Wx|apply W6|apply oi|apply fi|intro h|refine cl RZ ?_|refine⟨_,rfl,?_⟩|exact Y5|fail)
          conv=>whnf
          refine⟨⟨(m,j+1,vals,s2),g_,hI.at (by have:=hI.lo;dsimp only;omega) g_,OK,SB,N9⟩,?_,KD⟩;repeat' ((conv=>whnf);first|apply Wx|apply W6|apply oi|apply fi|intro h|refine⟨_,rfl,?_⟩|exact Y8|fail)
          all_goals try exact⟨by dsimp only;rw[Qk]⟩
         | none=>
          have hj:skipAt p k=ek:=by rw[skipAt,SO,cO,VM];rfl
          rw[show bE p (k:Int)= -1 by rw[bI,SO];rfl]at RZ;rw[hj]at N9 Qk PH;repeat' ((conv=>whnf);first|apply Wx|apply W6|apply oi|apply fi|intro h|refine⟨k,(NX.tr ⟨_,nm,ag,ex⟩),rfl,ab hk,?_⟩|refine⟨_,rfl,?_⟩|exact Y5|fail)
          refine cg (gv) ?_;repeat' ((conv=>whnf);first|apply Wx|apply W6|apply oi|apply fi|intro h|refine⟨_,rfl,?_⟩|exact Y7|fail)
          refine cg (g) ?_;repeat' ((conv=>whnf);first|apply Wx|apply W6|apply oi|apply fi|intro h|refine cl RZ ?_|refine cl Wl ?_|refine⟨_,rfl,?_⟩|exact Y5|fail)
          conv=>whnf
          refine⟨⟨(m,ek+1,vals,s2),g_,hI.at (by have:=hI.lo;dsimp only;omega) g_,OK,SB,N9⟩,?_,KD⟩;repeat' ((conv=>whnf);first|apply Wx|apply W6|apply oi|apply fi|intro h|refine⟨_,rfl,?_⟩|exact Y8|fail)
          all_goals try exact⟨by dsimp only;rw[Qk]⟩
        ·have O9:dI p ⟨3,nm,ag,ex⟩ k v=k+1:=by rw[dI,b8 (fun h=>Ui h.2)]
         rw[O9]at N9;have Uw:=nu (f:=f) hk s_ s_;repeat' ((conv=>whnf);first|apply Wx|apply W6|apply oi|apply fi|intro h|refine⟨k,(NX.tr ⟨_,nm,ag,ex⟩),rfl,ab hk,?_⟩|refine⟨_,rfl,?_⟩|exact Y5|fail)
         refine cg (gv) ?_;repeat' ((conv=>whnf);first|apply Wx|apply W6|apply oi|apply fi|intro h|refine⟨_,rfl,?_⟩|exact Y7|fail)
         refine cg (g) ?_;repeat' ((conv=>whnf);first|apply Wx|apply W6|apply oi|apply fi|intro h|refine⟨_,rfl,?_⟩|exact Y5|fail)
         all_goals try(exfalso;simp at h;exact Ui h)
         conv=>whnf
         refine⟨⟨(m,k+1,vals,s2),g_,hI.at (by have:=hI.lo;dsimp only;omega) g_,OK,SB,N9⟩,?_,KD⟩;repeat' ((conv=>whnf);first|apply Wx|apply W6|apply oi|apply fi|intro h|refine⟨_,rfl,?_⟩|exact Y8|fail)
         all_goals try exact⟨by dsimp only;rw[Uw]⟩
       ·have QD:mH L ⟨5,nm,ag,ex⟩ vals v=vals:=by rw[mH,b8 s_]
        have QY:je ⟨5,nm,ag,ex⟩ s2 v=s2:=by rw[je,b8 s_]
        rw[b8 s_,QD,QY]at N9;have WW:=pu p f k;by_cases Ui:v=0
        ·subst Ui;have O9:dI p ⟨5,nm,ag,ex⟩ k 0=skipAt p k+1:=by rw[dI,b9 ⟨.inr rfl,rfl⟩]
         rw[O9]at N9;have Qk:=um hp hI Om hk (.inr rfl);have PH:=hI.skip hp hk (.inr rfl) Om;obtain⟨ek,VM,_,_⟩:=cT hI.en hI.lo Om hk (by rw[opensK_iff];simp);have Wl:=bB p (k:Int) o_;rw[show bT p (k:Int)=(ek:Int) by rw[bA];exact aZ VM]at Wl;have hj:skipAt p k=ek:=by rw[skipAt,pU (by rw[aL hk];simp),cO,VM];rfl
         rw[hj]at N9 Qk PH;repeat' ((conv=>whnf);first|apply Wx|apply W6|apply oi|apply fi|intro h|refine⟨k,(NX.tr ⟨_,nm,ag,ex⟩),rfl,ab hk,?_⟩|refine⟨_,rfl,?_⟩|exact Y5|fail)
         refine cg (gv) ?_;repeat' ((conv=>whnf);first|apply Wx|apply W6|apply oi|apply fi|intro h|refine⟨_,rfl,?_⟩|exact Y7|fail)
         refine cg (g) ?_;repeat' ((conv=>whnf);first|apply Wx|apply W6|apply oi|apply fi|intro h|refine cl Wl ?_|refine⟨_,rfl,?_⟩|exact Y5|fail)
         conv=>whnf
         refine⟨⟨(m,ek+1,vals,s2),g_,hI.at (by have:=hI.lo;dsimp only;omega) g_,OK,SB,N9⟩,?_,KD⟩;repeat' ((conv=>whnf);first|apply Wx|apply W6|apply oi|apply fi|intro h|refine⟨_,rfl,?_⟩|exact Y8|fail)
         all_goals try exact⟨by dsimp only;rw[Qk]⟩
        ·have O9:dI p ⟨5,nm,ag,ex⟩ k v=k+1:=by rw[dI,b8 (fun h=>Ui h.2)]
         rw[O9]at N9;have Uw:=Cj hp hI Om hk rfl;repeat' ((conv=>whnf);first|apply Wx|apply W6|apply oi|apply fi|intro h|refine⟨k,(NX.tr ⟨_,nm,ag,ex⟩),rfl,ab hk,?_⟩|refine⟨_,rfl,?_⟩|exact Y5|fail)
         refine cg (gv) ?_;repeat' ((conv=>whnf);first|apply Wx|apply W6|apply oi|apply fi|intro h|refine⟨_,rfl,?_⟩|exact Y7|fail)
         refine cg (g) ?_;repeat' ((conv=>whnf);first|apply Wx|apply W6|apply oi|apply fi|intro h|refine⟨_,rfl,?_⟩|exact Y5|fail)
         all_goals try(exfalso;simp at h;exact Ui h)
         all_goals try exact⟨⟨by simp<;>omega,by simp<;>omega⟩⟩
         conv=>whnf
         refine⟨⟨(m,k+1,vals,s2),g_,hI.at (by have:=hI.lo;dsimp only;omega) g_,OK,SB,N9⟩,?_,KD⟩;repeat' ((conv=>whnf);first|apply Wx|apply W6|apply oi|apply fi|intro h|refine⟨_,rfl,?_⟩|exact Y8|fail)
         all_goals try exact⟨by dsimp only;rw[Uw,u4];rfl⟩
       ·rw[b9 rfl]at N9;subst N9;dsimp only[Rr.val,Rr.st,Rr.code];repeat' ((conv=>whnf);first|apply Wx|apply W6|apply oi|apply fi|intro h|refine⟨k,(NX.tr ⟨_,nm,ag,ex⟩),rfl,ab hk,?_⟩|refine⟨_,rfl,?_⟩|exact Y5|fail)
        refine cg (gv) ?_;repeat' ((conv=>whnf);first|apply Wx|apply W6|apply oi|apply fi|intro h|refine⟨_,rfl,?_⟩|exact Y7|fail)
        refine cg (g) ?_;exact Z5
   ·have ab8:k=en:=by have:=hI.hi;omega
    have h7:ln.faa=7:=o_;have how:ownOf p k=f:=by obtain⟨_,h|h⟩:=hI.own7 hp hk h7;exact h.2;omega
    rw[cD hk h7,b9 how]at N9;subst N9;dsimp only[Rr.val,Rr.st,Rr.code];exact Z5
abbrev is0:IS:=⟨[],[]⟩
noncomputable def gi (p:List NX) (lim:Int):Rr Int:=open Classical in
 if h:∃n,aT p lim n [] 0 1 (dG (localsOf p 0).length []) is0≠.fuel then aT p lim (Classical.choose h) [] 0 1 (dG (localsOf p 0).length []) is0 else .fuel
theorem oo {p:List NX}{lim:Int}{n:Nat}(h:aT p lim n [] 0 1 (dG (localsOf p 0).length []) is0≠.fuel):gi p lim=aT p lim n [] 0 1 (dG (localsOf p 0).length []) is0:=by
 have hx:∃n,aT p lim n [] 0 1 (dG (localsOf p 0).length []) is0≠.fuel:=⟨n,h⟩;rw[gi,dif_pos hx];have h2:=r9 hx;rcases Nat.le_total n (Classical.choose hx)with L3|L3
 ·exact kZ h L3
 ·exact(kZ h2 L3).symm
theorem zZ {p:List NX}(h:ah p=true):∃y,p[0]?=some y/\y.faa=0/\y.fac=kb/\y.faj=[]:=by
 unfold ah at h;simp only[c8,i7]at h;have h4:=h.2.2.2.1;unfold headOk at h4
 match p,h4 with
 | y::q,h4=>simp only[c8,w8]at h4;exact⟨y,rfl,h4.1,h4.2.1,z6.1 h4.2.2⟩
theorem pr {p:List NX}(hp:PgOk p)(h:ah p=true){lim:Int}(h0:0<=lim):∃n,aT p lim n [] 0 1 (dG (localsOf p 0).length []) is0≠.fuel:=by obtain⟨y,hy,Pa,_⟩:=zZ h;obtain⟨e,hI⟩:=InF.start hp ⟨y,hy,Pa⟩;exact rt hp 6 [] rfl 0 e 1 _ is0 (by simpa using h0) hI
theorem V31{p:Prop}(h:p:=by
 have hx:=eZ (p:=p) (lim:=lim) n [] 0 1 (dG (localsOf p 0).length []) is0;rw[oo hn]
 cases hr:aT p lim n [] 0 1 (dG (localsOf p 0).length []) is0 with
 | ok v s=>exact .inl ⟨v,s,rfl⟩
 | stop c s=>rw[hr]at hx;exact .inr ⟨c,s,rfl,hx.2⟩
 | fuel=>exact absurd hr hn):p:=h
theorem sl (p:List NX)(hs:aH 1048576 (.lst 4 (p.map NX.tr)))(PN:ah p=true)(lim:Int)(h0:0<=lim)(h1:lim<=1000):
  bf Try.prog 6 [.r (.c (.t (.lst 4 (p.map NX.tr)))),tI .i64 lim] [] (.r (.agg [.own (1,0,1),.own (1,0,2),.t (.int .i64 (gi p lim).val),.t (.int .i64 (gi p lim).code)])) [((1,0,1),.arr false 1 ((gi p lim).st.out.map aa)),((1,0,2),.dar 1 (aC ((gi p lim).st.visits.map ji)) none)]:=by
 have hp:=nW hs PN;obtain⟨n,hn⟩:=pr hp PN h0;have hP:=cF p hs;rw[PN]at hP;have gl:=bd lim 0 1000;rw[show af lim 0 1000=true by rw[within_iff];exact⟨h0,h1⟩]at gl;obtain⟨y,hy,Pa,_,XA⟩:=zZ PN;have hA:argsN p 0=0:=by rw[argsN,hy];dsimp only;rw[XA];rfl
 have gp:=IZ hp PN (lim:=lim) n [] 0 [] is0 ⟨y,hy,Pa⟩ (by rw[hA];rfl) ⟨h1,by simpa using h0,s_,s_⟩ hn;rw[show(((0:Nat):Int))=0 from rfl,show(0:Nat)+1=1 from rfl,<-oo hn]at gp
 have Ol:(∃v s,gi p lim= .ok v s)\/(∃c s,gi p lim= .stop c s/\(c=1\/c=2)):=by exact V31
 generalize gi p lim=R at *
 refine aw hΓ aK Try.func6 rfl d_ rfl rfl ?_;repeat' ((conv=>whnf);first|(with_reducible apply W1;fail_if_success (with_reducible show Wo _ _ _ _ (Code.region 4 _ _) _ _))|(with_reducible first|apply W2|apply W3|apply W4|apply W5|apply W6|apply W7|apply W8|apply W9)|apply aq|apply oi|apply fi|intro h|refine cl hP ?_|refine cl gl ?_|refine⟨_,rfl,?_⟩|exact Y5|fail)
 conv=>whnf
 refine wy ⟨[(4,.r (.c (.ptr (4,0,0) 0))),(5,.r (.c (.ptr (19,0,0) 0)))],[((4,0,0),some (.box [.nils 1,.nils 1,.t (.int .i64 0),.t (.int .i64 0)])),((19,0,0),some (.box [.t (.lst 4 (p.map NX.tr)),.t (.int .i64 lim),.own (19,0,1),.own (19,0,2),.t (.int .i64 0),.t (.int .i64 0),.own (19,0,3)])),((19,0,1),some (.arr false 1 [])),((19,0,2),some (.dar 1 [] none)),((19,0,3),some (.arr false 1 []))],[19,4,0]⟩ ?_ ?_
 ·exact Z1
 rcases Ol with⟨v,s,rfl⟩|⟨c,s,rfl,hc⟩
 ·dsimp only[Rr.val,Rr.st,Rr.code]at gp⊢;repeat' ((conv=>whnf);first|apply Wx|apply W6|apply oi|apply fi|intro h|refine⟨_,rfl,?_⟩|exact Y7|fail)
  refine cg (gp) ?_;repeat' ((conv=>whnf);first|apply Wx|apply W6|apply oi|apply fi|intro h|refine⟨_,rfl,?_⟩|exact Y7|fail)
  all_goals try exact⟨⟨_,rfl⟩⟩
 ·dsimp only[Rr.val,Rr.st,Rr.code]at gp⊢;repeat' ((conv=>whnf);first|apply Wx|apply W6|apply oi|apply fi|intro h|refine⟨_,rfl,?_⟩|exact Y7|fail)
  refine cg (gp) ?_;repeat' ((conv=>whnf);first|apply Wx|apply W6|apply oi|apply fi|intro h|refine⟨_,rfl,?_⟩|exact Y7|fail)
  all_goals try(exfalso;simp at h;omega)
  all_goals try exact⟨⟨_,rfl⟩⟩
def Hx (Φ:IS->Prop){α:Type}(r:Rr α):Prop:=match r with
 | .ok _ s=>Φ s
 | .stop _ s=>Φ s
 | .fuel=>True
section
variable {p:List NX} {locals:List (List UInt8)} {vals:List Int} {call:ic} {Φ:IS->Prop}
mutual
theorem FZ (h:∀g av s,Φ s->Hx Φ (call g av s)):∀(e:Ex) (s:IS),Φ s->Hx Φ (evE p locals vals call e s)
 | .node t es,s,hs=>by
  have h1:=Dt h es s hs;rw[evE]
  cases hr:bn p locals vals call es s with
  | ok av s1=>
   rw[hr]at h1;rw[Rr.bnd_ok,gG];split
   ·exact h1
   ·split
    ·exact h1
    ·split
     ·exact h _ _ _ h1
     ·exact h1
  | stop c s1=>rw[hr]at h1;exact h1
  | fuel=>trivial
theorem Dt (h:∀g av s,Φ s->Hx Φ (call g av s)):∀(es:List Ex) (s:IS),Φ s->Hx Φ (bn p locals vals call es s)
 | [],s,hs=>by rw[bn];exact hs
 | a::es,s,hs=>by
  have h1:=FZ h a s hs;rw[bn]
  cases hr:evE p locals vals call a s with
  | ok v s1=>
   rw[hr]at h1;rw[Rr.bnd_ok];have h2:=Dt h es s1 h1
   cases Ou:bn p locals vals call es s1 with
   | ok vs s2=>rw[Ou]at h2;exact h2
   | stop c s2=>rw[Ou]at h2;exact h2
   | fuel=>trivial
  | stop c s1=>rw[hr]at h1;exact h1
  | fuel=>trivial
end
theorem ka {lim:Int}(P9:∀(calls:List Int) (k:Nat) (s:IS),calls.length<=6->Φ s->Φ ⟨s.out,s.visits++[calls++[(k:Int)]]⟩)(Pd:∀(s:IS) (v:Int),Φ s->Φ ⟨s.out++[v],s.visits⟩):
  ∀(n:Nat) (calls:List Int) (f k:Nat) (vals:List Int) (s:IS),calls.length<=6->Φ s->Hx Φ (aT p lim n calls f k vals s)
 | 0,_,_,_,_,_,_,_=>trivial
 | n+1,calls,f,k,vals,s,hc,hs=>by
  cases hk:p[k]? with
  | none=>rw[gg hk];exact hs
  | some ln=>
   by_cases h7:ln.faa=7
   ·rw[cD hk h7];split
    ·exact hs
    ·exact ka P9 Pd n _ _ _ _ _ hc hs
   by_cases h4:ln.faa=4
   ·rw[dC hk h4];exact ka P9 Pd n _ _ _ _ _ hc hs
   by_cases hv:(s.visits.length:Int)=lim
   ·rw[dE hk h7 h4 hv];exact hs
   ·rw[dW hk h7 h4 hv]
    have M5:∀g av s,Φ s->Hx Φ (bk p lim n calls k g av s):=by
     intro g av s' hs';unfold bk;split
     ·exact hs'
     ·exact ka P9 Pd n _ _ _ _ _ (by rw[c7];simp;omega) hs'
    have he:=FZ (p:=p) (locals:=localsOf p (f:Int)) (vals:=vals) M5 (exL ln.fae) _ (P9 calls k s hc hs)
    cases hr:evE p (localsOf p (f:Int)) vals (bk p lim n calls k) (exL ln.fae) ⟨s.out,s.visits++[calls++[(k:Int)]]⟩with
    | ok v s1=>
     rw[hr]at he;rw[Rr.bnd_ok];split
     ·exact he
     ·refine ka P9 Pd n _ _ _ _ _ hc ?_;unfold je;split
      ·exact Pd _ _ he
      ·exact he
    | stop c s1=>rw[hr]at he;exact he
    | fuel=>trivial
end
structure RunOk (lim:Int) (R:Rr Int):Prop where
 nf:R≠.fuel
 vis:(R.st.visits.length:Int)<=lim
 out:R.st.out.length<=R.st.visits.length
 rows:∀x∈R.st.visits,x.length<=7
 code:R.code=0\/R.code=1\/R.code=2
theorem Lv {p:List NX}(hp:PgOk p)(h:ah p=true){lim:Int}(h0:0<=lim):RunOk lim (gi p lim):=by
 obtain⟨n,hn⟩:=pr hp h h0;rw[oo hn];have hx:=eZ (p:=p) (lim:=lim) n [] 0 1 (dG (localsOf p 0).length []) is0
 have hr:=ka (p:=p) (lim:=lim) (Φ:=fun s=>∀x∈s.visits,x.length<=7) (fun calls k s hc hs x hx=>by
  rcases e7.1 hx with hx|hx
  ·exact hs x hx
  ·rw[s9]at hx;subst hx;rw[c7];simp;omega) (fun s v hs=>hs) n [] 0 1 (dG (localsOf p 0).length []) is0 s_ (fun x hx=>by cases hx)
 cases hR:aT p lim n [] 0 1 (dG (localsOf p 0).length []) is0 with
 | fuel=>exact absurd hR hn
 | ok v s=>
  rw[hR]at hx hr;have h1:=hx.le (by simpa using h0);have h2:=hx.ol
  exact⟨(fun e=>by cases e),h1,(show s.out.length<=s.visits.length by simpa using h2),hr,.inl rfl⟩
 | stop c s=>rw[hR]at hx hr;have h1:=hx.1.le (by simpa using h0);have h2:=hx.1.ol;exact⟨(fun e=>by cases e),h1,(show s.out.length<=s.visits.length by simpa using h2),hr,.inr hx.2⟩
end Go.Proofs.Ytoglejgmjeojoaa
namespace Go.Proofs.Ytoglejgmjeojoaa
open Go.Sim
set_option maxRecDepth 100000
set_option maxHeartbeats 4000000
theorem Hs {p:List NX}(h:ah p=true){lim:Int}:gi (p.map aA) lim=gi p lim:=by
 unfold ah at h;simp only[c8,i7]at h;have h3:=n7.1 h.2.2.1
 have hl:∀n,aT (p.map aA) lim n [] 0 1 (dG (localsOf (p.map aA) 0).length []) is0=aT p lim n [] 0 1 (dG (localsOf p 0).length []) is0:=fun n=>by
  rw[iU (fun x hx=>tV (h3 x hx)),(dh p).localsOf]
 by_cases hx:∃n,aT p lim n [] 0 1 (dG (localsOf p 0).length []) is0≠.fuel
 ·obtain⟨n,hn⟩:=hx;rw[oo hn,oo (p:=p.map aA) (n:=n) (by rw[hl];exact hn),hl]
 ·have hy:¬∃n,aT (p.map aA) lim n [] 0 1 (dG (localsOf (p.map aA) 0).length []) is0≠.fuel:=fun⟨n,hn⟩=>hx ⟨n,by rw[<-hl];exact hn⟩;rw[gi,gi,dif_neg hx,dif_neg hy]
end Go.Proofs.Ytoglejgmjeojoaa
