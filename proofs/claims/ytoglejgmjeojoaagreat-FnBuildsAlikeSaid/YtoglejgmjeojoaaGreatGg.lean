import Derived.Test.YtoglejgmjeojoaaGreatGf
set_option maxRecDepth 100000
set_option maxHeartbeats 0
namespace Go.Proofs.P
open Go.Sim Tryz
theorem rY (l:List QC)(hl:l.length<=1048576):Sim.Spec prog 257 [tvL 3 (l.map QC.tr)] (rL 3 (l.map QC.tr)):=by
 refine aW hΓ aF func257 rfl d_ rfl ?_;repeat' ((conv=>whnf);first|apply Wx|apply W6|apply oi|apply fi|intro h|exact Y8|refine e_ rfl ?_)
 all_goals try exact Q2
 all_goals try exact Q31
theorem zX (x:Qt)(hs:aS 1048576 x.tr):Sim.Spec prog 239 [.agg x.tr] (.r (.agg (x.tr.map xn))):=by
 refine aW hΓ aF func239 rfl d_ rfl ?_;obtain⟨h1,h2,h3,h4,h5⟩:=dv hs;have hT:=rY x.L0 h4;repeat' ((conv=>whnf);first|apply Wx|apply W6|apply oi|apply fi|intro h|refine cl hT ?_|exact Y8|refine e_ rfl ?_)
 all_goals try exact Q2
 all_goals try exact⟨⟨rfl,gf _⟩⟩
theorem zE {α β:Type}(f:α->β)(l:List α)(k:Nat)(x:α)(hx:l[k]?=some x):(l.take (k+1)).map f=(l.take k).map f++[f x]:=by rw[A0,hx,q8];rfl
theorem Q13{p:Prop}(h:p:=by exact⟨⟨by rw[Tj];(try dsimp only);simp<;>omega,by rw[Tj];(try dsimp only);simp<;>omega⟩⟩):p:=h
theorem Q17{p:Prop}(h:p:=by exact⟨aV _⟩):p:=h
theorem sE (l:List Qt)(hs:aK 1048576 (.lst 4 (l.map Qt.tr))):bh prog 195 [vP l] [] (.r (.c (.own (1,0,0)))) [((1,0,0),.dar 4 (aw (l.map Qt.tr)) none)]:=by
 refine ax hΓ aF func195 rfl d_ rfl rfl ?_;have hl:=cP hs;have O2:(l.map Qt.tr).length=l.length:=s_;repeat' ((conv=>whnf);first|apply Wx|apply W6|apply oi|apply fi|intro h|exact Y8|refine e_ rfl ?_)
 conv=>whnf
 refine⟨{k:Nat//k<=l.length},fun q=>⟨[(0,vP l),(3,.r (.c (.own (3,0,0)))),(4,tI .i64 (q.1:Int))],[((3,0,0),some (.dar 4 (aw ((l.take q.1).map Qt.tr)) none))],[3,0]⟩,fun q=>l.length-q.1,⟨0,o_⟩,?_,?_⟩
 ·exact Z2
 intro⟨k,hk⟩;dsimp only at hk⊢;by_cases O4:k<l.length
 ·obtain⟨x,hx⟩:=ae O4;have Tj:(aw ((l.take k).map Qt.tr)).length=k:=by rw[bX,d9,k0];omega
  have hC:=zX x (bk hs (c9 hx));repeat' ((conv=>whnf);first|apply Wx|apply W6|apply oi|apply fi|intro h|refine⟨k,x.tr,rfl,ab hx,?_⟩|refine cl hC ?_|exact Y6|refine e_ rfl ?_)
  all_goals try exact Q17
  all_goals try exact⟨gf _⟩
  all_goals try exact Q13
  repeat' ((conv=>whnf);first|apply Wx|apply W6|apply oi|apply fi|intro h|exact Y8|refine e_ rfl ?_)
  conv=>whnf
  refine⟨⟨k+1,o_⟩,?_,KD⟩;repeat' ((conv=>whnf);first|apply Wx|apply W6|apply oi|apply fi|intro h|exact Y7|refine e_ rfl ?_)
  all_goals exact⟨by rw[zE Qt.tr l k x hx];simp[aw,Qt.tr]⟩
 ·repeat' ((conv=>whnf);first|apply Wx|apply W6|apply oi|apply fi|intro h|exact Y6|refine e_ rfl ?_)
  all_goals exact⟨by rw[gt o_]⟩
noncomputable def lr (l:List QC):List QC:=if h:bq l=true then(Classical.choose (kQ h)).fold.toks else []
theorem oW {l:List QC}(h:bq l=true):∃e:Ex,e.ok/\l=e.toks/\lr l=e.fold.toks:=by have hc:=t9 (kQ h);exact⟨_,hc.1,hc.2,by rw[lr,dif_pos h]⟩
theorem ua {l:List QC}(h:bq l=false):lr l=[]:=by rw[lr,dif_neg abd]
theorem BX (l:List QC):(lr l).length<=l.length:=by
 cases h:bq l with
 | false=>rw[ua h];simp
 | true=>obtain⟨e,_,h1,h2⟩:=oW h;rw[h2,h1];exact e.fold_le
theorem V111{p:Prop}(h:p:=by
 rw[h]at hE;rw[ua h]
 repeat' ((conv=>whnf);first|apply Wx|apply W6|apply oi|apply fi|intro h|refine cl hE ?_|exact Y6|refine e_ rfl ?_)):p:=h
theorem V94{p:Prop}(h:p:=by
 rw[h3]
 generalize e.fold.toks=r at *
 repeat' ((conv=>whnf);first|apply Wx|apply W6|apply oi|apply fi|intro h|refine cl hE ?_|refine cl hF ?_|exact Y6|refine e_ rfl ?_)):p:=h
theorem xt (l:List QC)(hl:l.length<=1048576)(hn:ep l):Sim.Spec prog 196 [tvL 3 (l.map QC.tr)] (rL 3 ((lr l).map QC.tr)):=by
 refine aW hΓ aF func196 rfl d_ rfl ?_;have hE:=qN l hl hn
 cases h:bq l with
 | false=>exact V111
 | true=>rw[h]at hE;obtain⟨e,h1,h2,h3⟩:=oW h;have hF:=oF e.toks.length e (d7 _) l 0 hl hn h1 ⟨[],by rw[A1,m7];exact h2⟩;exact V94
noncomputable def aC (x:Qt):Qt:=if 0<x.L0.length then⟨x.J0,x.J7,x.L3,lr x.L0⟩else x
noncomputable def gW (l:List Qt) (k:Nat):List Qt:=(l.take k).map aC++l.drop k
theorem Fj (l:List Qt)(k:Nat):(gW l k).length=l.length:=by simp[gW];omega
theorem pb {l:List Qt}{k:Nat}{x:Qt}(hx:l[k]?=some x):(gW l k)[k]?=some x:=by
 have hk:k<l.length:=by exact V145
 rw[gW,m9 aad];simp only[d9,k0];rw[z7 o_,v6,w7];exact hx
theorem sX {l:List Qt}{k:Nat}{x:Qt}(hx:l[k]?=some x):gW l (k+1)=(gW l k).set k (aC x):=by
 have hk:k<l.length:=by exact V145
 rw[gW,gW,zE aC l k x hx,dX hx,D8 _ _ aad];simp only[d9,k0];rw[z7 o_,v6,D3,l9];rfl
noncomputable def eE (l:List Qt):List Qt:=if ak l=true then l.map aC else []
theorem V84{p:Prop}(h:p:=by
 rw[Si]at hP;have:eE l=[]:=by rw[eE,b8 (by simp[Si])]
 rw[this]
 repeat' ((conv=>whnf);first|apply Wx|apply W6|apply oi|apply fi|intro h|refine cl hP ?_|exact Y6|refine e_ rfl ?_)):p:=h
theorem rt (l:List Qt)(hs:aK 1048576 (.lst 4 (l.map Qt.tr))):Sim.Spec prog 132 [tvP l] (rL 4 ((eE l).map Qt.tr)):=by
 refine aW hΓ aF func132 rfl d_ rfl ?_;have hl:=cP hs;have hP:=dz l hs;have hC:=sE l hs
 cases Si:ak l with
 | false=>exact V84
 | true=>
  rw[Si]at hP;have:eE l=l.map aC:=by rw[eE,b9 Si]
  rw[this];repeat' ((conv=>whnf);first|apply Wx|apply W6|refine cg hC ?_|apply oi|apply fi|intro h|refine cl hP ?_|exact Y6|refine e_ rfl ?_)
  conv=>whnf
  refine⟨{k:Nat//k<=l.length},fun q=>⟨[(3,.r (.c (.own (3,0,0)))),(4,tI .i64 (q.1:Int))],[((3,0,0),some (.dar 4 (aw ((gW l q.1).map Qt.tr)) none))],[3]⟩,fun q=>l.length-q.1,⟨0,o_⟩,?_,?_⟩
  ·exact Z2
  intro⟨k,hk⟩;dsimp only at hk⊢;have Tj:(aw ((gW l k).map Qt.tr)).length=l.length:=by rw[bX,d9,Fj]
  by_cases O4:k<l.length
  ·obtain⟨x,hx⟩:=ae O4;obtain⟨h1,h2,h3,h4,h5⟩:=dv (bk hs (c9 hx));have hF:=xt x.L0 h4 (fun y hy=>by have:=h5 y hy;omega);have QV:k<(aw ((gW l k).map Qt.tr)).length:=(by rw[Tj];exact O4);have Vz:(x.L0.map QC.tr).length=x.L0.length:=s_;by_cases Rq:0<x.L0.length
   ·have P7:aC x=⟨x.J0,x.J7,x.L3,lr x.L0⟩:=(by rw[aC,b9 Rq]);repeat' ((conv=>whnf);first|apply Wx|apply W6|apply oi|apply fi|intro h|refine⟨k,rfl,QV,?_⟩|refine⟨k,rfl,aa3,?_⟩|refine⟨_,kF (ab (pb hx)),?_⟩|refine⟨_,(s6 aa3),?_⟩|refine cl hF ?_|exact Y8|refine e_ rfl ?_)
    all_goals try exact Q17
    all_goals try(exfalso;have h':=j6 h;rw[Tj]at h';omega)
    all_goals try(exfalso;have h':=j6 h;rw[Vz]at h';omega)
    conv=>whnf
    refine⟨⟨k+1,o_⟩,?_,KD⟩;repeat' ((conv=>whnf);first|apply Wx|apply W6|apply oi|apply fi|intro h|exact Y8|refine e_ rfl ?_)
    all_goals try exact Q17
    all_goals try exact⟨K2⟩
    all_goals(refine⟨?_⟩;(try dsimp only);rw[sX hx,C7,<-sL,P7];simp[Qt.tr])
   ·have P7:aC x=x:=(by rw[aC,b8 Rq]);repeat' ((conv=>whnf);first|apply Wx|apply W6|apply oi|apply fi|intro h|refine⟨k,rfl,QV,?_⟩|refine⟨k,rfl,aa3,?_⟩|refine⟨_,kF (ab (pb hx)),?_⟩|refine⟨_,(s6 aa3),?_⟩|refine cl hF ?_|exact Y8|refine e_ rfl ?_)
    all_goals try exact Q17
    all_goals try(exfalso;have h':=j6 h;rw[Tj]at h';omega)
    all_goals try exact Q23
    conv=>whnf
    refine⟨⟨k+1,o_⟩,?_,KD⟩;repeat' ((conv=>whnf);first|apply Wx|apply W6|apply oi|apply fi|intro h|refine⟨k,rfl,QV,?_⟩|refine⟨k,rfl,aa3,?_⟩|refine⟨_,kF (ab (pb hx)),?_⟩|refine⟨_,(s6 aa3),?_⟩|exact Y8|refine e_ rfl ?_)
    all_goals try exact Q17
    all_goals try exact⟨K2⟩
    all_goals(refine⟨?_⟩;(try dsimp only);rw[sX hx,C7,<-sL,P7];simp[Qt.tr])
  ·repeat' ((conv=>whnf);first|apply Wx|apply W6|apply oi|apply fi|intro h|exact Y6|refine e_ rfl ?_)
   all_goals exact⟨by rw[gW,gt o_,m6 o_,m7]⟩
structure PgOk (p:List Qt):Prop where
 len:p.length<=60
 small:aK 1048576 (.lst 4 (p.map Qt.tr))
 line:∀(k:Nat) (ln:Qt),p[k]?=some ln->0<=ln.J0/\ln.J0<=7/\ln.L3.length<=4/\ln.L0.length<=20/\((ln.J0=1\/ln.J0=2\/ln.J0=3\/ln.J0=5\/ln.J0=6)->bq ln.L0=true)
 fn:∀(g:Nat) (ln:Qt),p[g]?=some ln->ln.J0=0->∃e,h_ p g=some e/\(a_ p (g:Int)).length<=8/\ln.L3.length<=(a_ p (g:Int)).length/\∀(k:Nat) (y:Qt),g<k->k<e->p[k]?=some y->y.J0≠0/\(∀t∈y.L0,t.J0=7->∃f,findN p 0 t.J7=some f/\(b_ p f:Int)=t.M1)/\(y.J0=4->∃i,g<=i/\i<k/\i_ p i=some k)
theorem PgOk.cx {p:List Qt}(h:PgOk p){b:Ql}{framed:Bool}{words args:Int}(ha:0<=args/\args<=4)(hw:0<=words/\words<=1000)(hi:0<=b.M0/\b.M0<=3):CxOk ⟨p,b,framed,words,args⟩:=
 ⟨h.len,h.small,h.line,h.fn,ha,hw,hi⟩
theorem sn {F:Nat->Nat->Bool}{l:List Qt}(hF:∀k e,h_ l k=some e->F k e=true->∀i x,k<i->i<e->l[i]?=some x->x.J0≠0):∀(n k:Nat),ck F l n k=true->∀g x,k<=g->l[g]?=some x->x.J0=0->∃e,h_ l g=some e/\F g e=true
 | 0,k,h,g,x,hk,hg,_=>by
  rw[ck,i8]at h;have:=aE hg
  omega
 | n+1,k,h,g,x,hk,hg,h0=>by
  rw[ck,b9 (by have:=aE hg;omega)]at h;split at h
  ·rename_i y e hy he;split at h
   ·rename_i hc;by_cases hgk:g=k
    ·subst hgk;exact⟨e,he,hc.2⟩
    ·by_cases QY:g<=e
     ·by_cases ac5:g=e
      ·subst ac5;obtain⟨z,hz,h7⟩:=bn he;rw[hg]at hz;injection hz with hz;subst hz;omega
      ·exact absurd h0 (hF k e he hc.2 g x o_ o_ hg)
     ·exact sn hF n (e+1) h g x o_ hg h0
   ·cases h
  ·cases h
theorem sy {l:List Qt}{locals:List (List UInt8)}{e:Nat}:∀(n i d:Nat),e-i<=n->e<=l.length->jo l locals e n i d=true->∀j x,i<=j->j<e->l[j]?=some x->bQ l locals x.L0=true
 | 0,i,d,hn,_,_,j,x,h1,h2,_=>o_
 | n+1,i,d,hn,he,hb,j,x,h1,h2,hx=>by
  rw[jo,b9 o_]at hb;obtain⟨y,hy⟩:=ae (l:=l) (k:=i) o_;rw[hy]at hb;dsimp only at hb;split at hb
  ·cases hb
  ·split at hb
   ·rename_i hk;by_cases hj:j=i
    ·subst hj;rw[hy]at hx;injection hx with hx;subst hx;exact hk.2
    ·exact sy n (i+1) _ o_ he hb j x o_ h2 hx
   ·cases hb
theorem GZ (acc:List (List UInt8))(s:List UInt8):acc.length<=(gZ acc s).length:=by unfold gZ;split<;>simp
theorem Ip {l:List Qt}{e:Nat}:∀(n i:Nat) (acc:List (List UInt8)),acc.length<=(locN l e n i acc).length
 | 0,_,_=>by simp[locN]
 | n+1,i,acc=>by
  rw[locN];split
  ·split
   ·refine s8 ?_ (Ip n _ _);split
    ·exact GZ _ _
    ·exact d7 _
   ·exact d7 _
  ·exact d7 _
theorem hasExpr_iff {k:Int}:dY k=true↔(k=1\/k=2\/k=3\/k=5\/k=6):=by unfold dY;simp
theorem CD {x:Qt}(h:cF x=true):0<=x.J0/\x.J0<=7/\x.L3.length<=4/\x.L0.length<=20/\((x.J0=1\/x.J0=2\/x.J0=3\/x.J0=5\/x.J0=6)->bq x.L0=true):=by
 have h4:x.L3.length<=4:=by
  rcases n5 4 x.L3.length with h'|h'
  ·rw[wv h']at h;cases h
  ·exact h'
 unfold cF at h;simp only[d5,within_iff]at h;obtain⟨⟨h1,h2⟩,_,_,h3⟩:=h;refine⟨h1,h2,h4,?_,fun hk=>by rw[b9 (hasExpr_iff.2 hk)]at h3;exact h3⟩;split at h3
 ·unfold bq at h3;simp only[d5,i8]at h3;exact h3.1
 ·have:=z8 h3;omega
theorem nc {p:List Qt}(hs:aK 1048576 (.lst 4 (p.map Qt.tr)))(h:ak p=true):PgOk p:=by
 unfold ak at h;simp only[d5,i8]at h;obtain⟨h1,_,h2,_,_,h3,h4⟩:=h;have hS:=rx p;rw[h3,h4]at hS;have YY:∀(k:Nat) (ln:Qt),p[k]?=some ln->0<=ln.J0/\ln.J0<=7/\ln.L3.length<=4/\ln.L0.length<=20/\((ln.J0=1\/ln.J0=2\/ln.J0=3\/ln.J0=5\/ln.J0=6)->bq ln.L0=true):=fun k ln hk=>CD (n9.1 h2 ln (c9 hk));have O4:∀k e,h_ p k=some e->e<=p.length:=fun k e he=>by obtain⟨_,_,_,_,_,h⟩:=aI he;omega
 have hF:∀k e,h_ p k=some e->om p k e=true->∀i x,k<i->i<e->p[i]?=some x->x.J0≠0:=fun k e he hf=>by
  rw[pG,d5]at hf;exact sr hf.1 (O4 k e he)
 refine⟨h1,hs,YY,fun g ln hg h0=>?_⟩;obtain⟨e,he,hf⟩:=sn hF p.length 0 hS g ln (v9 _) hg h0;have TB:=hf;rw[pG,d5]at TB;obtain⟨Wl,WV⟩:=TB;have aaR:=Wl;rw[kL,d5,i8]at aaR;obtain⟨hl8,aaa⟩:=aaR;refine⟨e,he,hl8,?_,fun k y Rh Rf hy=>⟨hF g e he hf k y Rh Rf hy,fun t ht h7=>?_,fun Uv=>?_⟩⟩
 ·unfold a_;rw[b9 o_,e7,hg,he];dsimp only;rw[b9 h0];exact Ip _ _ _
 ·have Rn:=sy (e-(g+1)) (g+1) 0 (d7 _) (O4 g e he) aaa k y o_ Rf hy;unfold bQ at Rn;have:=n9.1 Rn t ht;unfold bR at this;rw[b8 o_,b9 h7]at this;split at this
  ·rename_i f TC;refine⟨f,TC,?_⟩;unfold b_;split at this
   ·rename_i x hx
    (try rw[hx])
    exact z8 this
   ·cases this
  ·cases this
 ·have:=(jU (d7 _)).1 WV k y o_ Rf hy Uv;rw[pA]at this;obtain⟨i,i1,i2,i3⟩:=this;exact⟨i,i1,o_,i3⟩
def alike (p q:List Qt):Prop:=p.map (fun x=>(x.J0,x.J7,x.L3))=q.map (fun x=>(x.J0,x.J7,x.L3))
theorem alike.len {p q:List Qt}(h:alike p q):p.length=q.length:=by simpa using congrArg List.length h
theorem alike.get {p q:List Qt}(h:alike p q){k:Nat}{x:Qt}(hx:p[k]?=some x):∃y,q[k]?=some y/\x.J0=y.J0/\x.J7=y.J7/\x.L3=y.L3:=by
 have:=congrArg (·[k]?) h;simp only[j9,hx,v5]at this
 cases hy:q[k]? with
 | none=>rw[hy]at this;cases this
 | some y=>rw[hy]at this;simp only[v5,Option.some.injEq,Prod.mk.injEq]at this;exact⟨y,rfl,this.1,this.2.1,this.2.2⟩
theorem alike.none {p q:List Qt}(h:alike p q){k:Nat}(hx:p[k]?=none):q[k]?=none:=by rw[F1]at hx⊢;have:=h.len;omega
theorem alike.symm {p q:List Qt}(h:alike p q):alike q p:=Eq.symm h
theorem alike.drop {p q:List Qt}(h:alike p q)(n:Nat):alike (p.drop n) (q.drop n):=by
 unfold alike at *
 rw[C8,C8,h]
theorem alike.endN:∀{p q:List Qt},alike p q->∀(i o:Nat),endN p i o=endN q i o
 | [],[],_,_,_=>rfl
 | x::p,y::q,h,i,o=>by
  simp only[alike,p7,List.cons.injEq,Prod.mk.injEq]at h;have ih:=alike.endN (p:=p) (q:=q) h.2
  rw[Go.Proofs.P.endN,Go.Proofs.P.endN,h.1.1,ih,ih,ih]
 | [],_::_,h,_,_=>by simp[alike]at h
 | _::_,[],h,_,_=>by simp[alike]at h
theorem alike.h_ {p q:List Qt}(h:alike p q)(k:Nat):h_ p k=h_ q k:=by
 unfold Go.Proofs.P.h_
 cases hx:p[k]? with
 | none=>rw[h.none hx]
 | some x=>obtain⟨y,hy,e1,_⟩:=h.get hx;rw[hy];dsimp only;rw[e1,(h.drop (k+1)).endN]
theorem alike.elseN {p q:List Qt}(h:alike p q){e:Nat}:∀(n i:Nat),elseN p e n i=elseN q e n i
 | 0,_=>rfl
 | n+1,i=>by
  rw[Go.Proofs.P.elseN,Go.Proofs.P.elseN]
  cases hx:p[i]? with
  | none=>rw[h.none hx]
  | some x=>
   obtain⟨y,hy,e1,_⟩:=h.get hx;rw[hy];dsimp only;rw[e1,h.h_ i]
   cases Go.Proofs.P.h_ q i with|none=>dsimp only;rw[alike.elseN h n]|some m=>dsimp only;rw[alike.elseN h n,alike.elseN h n]
theorem alike.i_ {p q:List Qt}(h:alike p q)(k:Nat):i_ p k=i_ q k:=by
 unfold Go.Proofs.P.i_;rw[h.h_ k]
 cases hx:p[k]? with
 | none=>rw[h.none hx]
 | some x=>
  obtain⟨y,hy,e1,_⟩:=h.get hx;rw[hy]
  cases Go.Proofs.P.h_ q k with|none=>rfl|some e=>dsimp only;rw[e1,h.elseN]
theorem alike.findN:∀{p q:List Qt},alike p q->∀(i:Nat) (s:List UInt8),findN p i s=findN q i s
 | [],[],_,_,_=>rfl
 | x::p,y::q,h,i,s=>by
  simp only[alike,p7,List.cons.injEq,Prod.mk.injEq]at h;have ih:=alike.findN (p:=p) (q:=q) h.2
  rw[Go.Proofs.P.findN,Go.Proofs.P.findN,h.1.1,h.1.2.1,ih]
 | [],_::_,h,_,_=>by simp[alike]at h
 | _::_,[],h,_,_=>by simp[alike]at h
theorem alike.locN {p q:List Qt}(h:alike p q){e:Nat}:∀(n i:Nat) (acc:List (List UInt8)),locN p e n i acc=locN q e n i acc
 | 0,_,_=>rfl
 | n+1,i,acc=>by
  rw[Go.Proofs.P.locN,Go.Proofs.P.locN]
  cases hx:p[i]? with
  | none=>rw[h.none hx]
  | some x=>obtain⟨y,hy,e1,e2,_⟩:=h.get hx;rw[hy];dsimp only;rw[e1,e2,alike.locN h n]
theorem alike.a_ {p q:List Qt}(h:alike p q)(k:Int):a_ p k=a_ q k:=by
 unfold Go.Proofs.P.a_;rw[h.h_]
 cases hx:p[k.toNat]? with
 | none=>rw[h.none hx]
 | some x=>
  obtain⟨y,hy,e1,_,e3⟩:=h.get hx;rw[hy]
  cases Go.Proofs.P.h_ q k.toNat with|none=>rfl|some e=>dsimp only;rw[e1,e3,h.locN]
theorem alike.b_ {p q:List Qt}(h:alike p q)(g:Nat):b_ p g=b_ q g:=by
 unfold Go.Proofs.P.b_
 cases hx:p[g]? with
 | none=>rw[h.none hx]
 | some x=>obtain⟨y,hy,_,_,e3⟩:=h.get hx;rw[hy];dsimp only;rw[e3]
theorem dW (p:List Qt):alike (p.map aC) p:=by unfold alike;rw[F0];refine List.map_congr_left fun x _=>?_;simp only[Function.comp,aC];split<;>rfl
theorem Ps (v:Int):ar ⟨0,v,[]⟩=0:=by unfold ar nX;split<;>simp
theorem NG {v:Int}(h:af v 0 999=true):(At v).ok:=⟨by simp[fI,h],by rw[Ps];rfl,trivial⟩
theorem NS {t:QC}{fs:List Ex}(h1:fI t=true)(h2:fs.length=ar t)(h3:jd fs):(xa t fs).ok:=by
 unfold xa;split
 ·split
  ·rename_i hc;exact NG hc.2.2.2
  ·exact⟨h1,h2,h3⟩
 ·exact⟨h1,h2,h3⟩
mutual
theorem Ex.fold_ok:∀e:Ex,e.ok->e.fold.ok
 | .node t es,h=>by rw[Ex.fold];exact NS h.1 (by rw[lx];exact h.2.1) (AM es h.2.2)
theorem AM:∀es:List Ex,jd es->jd (bx es)
 | [],_=>by rw[bx];trivial
 | a::es,h=>by rw[bx];exact⟨a.fold_ok h.1,AM es h.2⟩
end
theorem MN {t:QC}{fs:List Ex}{z:QC}(h:z∈(xa t fs).toks):z=t\/z∈ao fs\/∃n,z=⟨0,n,[]⟩:=by
 unfold xa at h;split at h
 ·split at h
  ·simp only[At,Ex.toks,ao,d8,m8,or_false]at h;exact .inr (.inr ⟨_,h⟩)
  ·rw[Ex.toks,d8]at h;exact h.imp id .inl
 ·rw[Ex.toks,d8]at h;exact h.imp id .inl
mutual
theorem Ex.fold_mem:∀(e:Ex) {z:QC},z∈e.fold.toks->z∈e.toks\/∃n,z=⟨0,n,[]⟩
 | .node t es,z,h=>by
  rw[Ex.fold]at h;rw[Ex.toks,d8];rcases MN h with h|h|h
  ·exact .inl (.inl h)
  ·rcases zf es h with h|h
   ·exact .inl (.inr h)
   ·exact .inr h
  ·exact .inr h
theorem zf:∀(es:List Ex) {z:QC},z∈ao (bx es)->z∈ao es\/∃n,z=⟨0,n,[]⟩
 | [],z,h=>by rw[bx]at h;exact .inl h
 | a::es,z,h=>by
  rw[bx,ao,f0]at h;rw[ao,f0];rcases h with h|h
  ·exact(a.fold_mem h).imp .inl id
  ·exact(zf es h).imp .inr id
end
theorem Ki {e:Ex}(ho:e.ok)(hl:e.toks.length<=20):bq e.toks=true:=by have h:=ll (l:=e.toks) (p:=0) ⟨[],by rw[A1,m7]⟩ ho;have hp:=e.toks_pos;unfold bq;rw[q9 hl,q9 hp,show ez e.toks 0=_ from h];simp
theorem kc {l:List QC}(h:bq l=true):bq (lr l)=true/\∀z∈lr l,z∈l\/∃n,z=⟨0,n,[]⟩:=by
 obtain⟨e,h1,h2,h3⟩:=oW h;have hl:=BX l
 have RZ:l.length<=20:=by unfold bq at h;simp only[d5,i8]at h;exact h.1
 rw[h3]at hl⊢;refine⟨Ki (e.fold_ok h1) o_,fun z hz=>?_⟩;rw[h2];exact e.fold_mem hz
theorem pB {L:Int}:∀{rows:List (List Tr)},(∀r∈rows,aS L r)->iZ L rows
 | [],_=>by rw[iZ];trivial
 | r::rs,h=>by rw[iZ];exact⟨h r s_,pB fun x hx=>h x aaS⟩
theorem yl {x:Qt}(hs:aS 1048576 x.tr)(he:(x.J0=1\/x.J0=2\/x.J0=3\/x.J0=5\/x.J0=6)->bq x.L0=true)(RZ:x.L0.length<=20):
  (aC x).J0=x.J0/\(aC x).L3=x.L3/\(aC x).L0.length<=20/\((x.J0=1\/x.J0=2\/x.J0=3\/x.J0=5\/x.J0=6)->bq (aC x).L0=true)/\(∀z∈(aC x).L0,z∈x.L0\/∃n,z=⟨0,n,[]⟩)/\aS 1048576 (aC x).tr:=by
 unfold aC;split
 ·rename_i Rq;have hl:=BX x.L0
  have hz:∀z∈lr x.L0,z∈x.L0\/∃n,z=⟨0,n,[]⟩:=by
   cases hx:bq x.L0 with
   | true=>exact(kc hx).2
   | false=>rw[ua hx];intro z hz;cases hz
  refine⟨rfl,rfl,g_,fun hk=>(kc (he hk)).1,hz,?_⟩;simp only[Qt.tr,aS]at hs⊢;obtain⟨q0,q1,q2,q3,q4⟩:=hs;refine⟨q0,q1,q2,?_,q4⟩;have Su:=qj q3;rw[aK];refine⟨by rw[d9];omega,pB fun r hr=>?_⟩;obtain⟨z,hz1,rfl⟩:=q7.1 hr;rcases hz z hz1 with h|⟨n,rfl⟩
  ·exact bk q3 h
  ·simp[QC.tr,aS,aK]
 ·exact⟨rfl,rfl,RZ,he,fun z hz=> .inl hz,hs⟩
theorem PgOk.fold {p:List Qt}(h:PgOk p):PgOk (p.map aC):=by
 have ha:=dW p
 have cI:∀{k:Nat} {y:Qt},(p.map aC)[k]?=some y->∃x,p[k]?=some x/\y=aC x:=fun{k y} hy=>by
  rw[j9]at hy
  cases hx:p[k]? with
  | none=>rw[hx]at hy;cases hy
  | some x=>rw[hx]at hy;injection hy with hy;exact⟨x,rfl,hy.symm⟩
 have hf:∀{k:Nat} {x:Qt},p[k]?=some x->_:=fun{k x} hx=>yl (bk h.small (c9 hx)) (h.line k x hx).2.2.2.2 (h.line k x hx).2.2.2.1;refine⟨by rw[d9];exact h.len,?_,fun k y hy=>?_,fun g y hy h0=>?_⟩
 ·rw[aK];refine⟨by have:=h.len;simp;omega,pB fun r hr=>?_⟩;obtain⟨y,hy,rfl⟩:=q7.1 hr;obtain⟨x,hx,rfl⟩:=q7.1 hy;obtain⟨k,hk,YR⟩:=List.mem_iff_getElem.1 hx;exact(hf (k:=k) (x:=x) (by rw[i9 hk,YR])).2.2.2.2.2
 ·obtain⟨x,hx,rfl⟩:=cI hy;obtain⟨f1,f2,f3,f4,_⟩:=hf hx;obtain⟨l1,l2,l3,_⟩:=h.line k x hx;rw[f1,f2];exact⟨l1,l2,l3,f3,f4⟩
 ·obtain⟨x,hx,rfl⟩:=cI hy;obtain⟨f1,f2,_⟩:=hf hx;rw[f1]at h0;obtain⟨e,he,q1,q2,q3⟩:=h.fn g x hx h0;refine⟨e,by rw[ha.h_];exact he,by rw[ha.a_];exact q1,by rw[ha.a_,f2];exact q2,fun k y Rh Rf hy=>?_⟩;obtain⟨z,hz,rfl⟩:=cI hy;obtain⟨g1,_,_,_,g5,_⟩:=hf hz;obtain⟨r1,r2,r3⟩:=q3 k z Rh Rf hz;refine⟨by rw[g1];exact r1,fun t ht h7=>?_,fun h4=>?_⟩
  ·rcases g5 t ht with h'|⟨n,rfl⟩
   ·obtain⟨f,Wl,WV⟩:=r2 t h' h7;exact⟨f,by rw[ha.findN];exact Wl,by rw[ha.b_];exact WV⟩
   ·exact absurd h7 (show ¬(0:Int)=7 by decide)
  ·rw[g1]at h4;obtain⟨i,i1,i2,i3⟩:=r3 h4;exact⟨i,i1,i2,by rw[ha.i_];exact i3⟩
abbrev mI (x:Sc)(lv:List Int):List DC:=[.d (.int .i64 (x.f:Int)),.t (.lst 1 (x.I9.map aa)),.t (.lst 1 (x.J3.map ah)),.d (.int .i64 x.first),.d (.bool x.J9),.d (.lst (if x.J9=true then 0 else 1) (lv.map aa))]
abbrev scV (x:Sc):AV:= .r (.agg [.t (.int .i64 (x.f:Int)),.t (.lst 1 (x.I9.map aa)),.t (.lst 1 (x.J3.map ah)),.t (.int .i64 x.first),.t (.bool x.J9),.opq])
abbrev Bu (l:List Int):AV:= .r (.c (.t (.lst 1 (l.map aa))))
abbrev itR (l:List Qs):List (List DC):=aw (l.map Qs.tr)
abbrev rp (C:Cx)(s:Gs)(d:Int)(i1 i2:Sim.Id):AO:= .box [.t (.lst 4 (C.p.map Qt.tr)),.t (.int .i64 C.b.N3),.t (.int .i64 C.b.M0),.t (.bool C.b.N9),.t (.bool C.b.N4),.t (.bool C.J8),.t (.int .i64 C.J1),.t (.int .i64 s.J4),.t (.int .i64 C.args),.t (.int .i64 d),.own i1,.own i2,.t (.bool s.start)]
abbrev jE (i1 i2:Sim.Id)(C:Cx)(s:Gs)(d:Int)(S:List (List DC)):List (Sim.Id×AO):=[((0,0,0),rp C s d i1 i2),(i1,.dar 7 (itR s.I8) none),(i2,.dar 6 S none)]
abbrev dP:AV:= .r (.c (.ptr (0,0,0) 0))
theorem kP (l:List Qs):(itR l).length=l.length:=by rw[itR,bX,d9]
theorem EF (l:List Qs)(x:Qs):itR (l++[x])=itR l++[x.tr.map .d]:=by simp[itR,aw]
def ca (s:Gs):Prop:=s.I8.length<=68719476736
theorem Q26{p:Prop}(h:p:=by exact⟨⟨by rw[O2];(try dsimp only);omega,by rw[O2];(try dsimp only);omega⟩⟩):p:=h
theorem cC (C:Cx)(s:Gs)(d:Int)(S:List (List DC))(code arg line:Int)(chain:List Int)(h1:ca s)(h2:chain.length<=100):bh prog 197 [dP,tI .i64 code,tI .i64 arg,tI .i64 line,Bu chain] (jE (0,0,1) (0,0,2) C s d S) (.tup []) (jE (1,0,1) (0,0,2) C (aB C s d code arg line chain) d S):=by
 refine ax hΓ aF func197 rfl d_ rfl rfl ?_;unfold ca at h1;have O2:=kP s.I8;have QK:(chain.map aa).length=chain.length:=s_;have P7:=dh chain;repeat' ((conv=>whnf);first|apply Wx|apply W6|apply oi|apply fi|intro h|exact Y8|refine e_ rfl ?_)
 all_goals try exact Q26
 all_goals try exact Q2
 all_goals try exact⟨by simpa using P7⟩
 all_goals(refine⟨?_⟩;(try rw[O2]at *);rw[aB,EF];congr 1;simp_all[kw,Qs.tr])
theorem ue (C:Cx)(hC:CxOk C)(s:Gs)(d:Int)(S:List (List DC))(x:Sc)(i:Int)(store:Bool)(hd:-2000<=d/\d<=2000)(hx:0<=x.first/\x.first<=1000)(hi:-2<=i/\i<=100):bh prog 262 [dP,scV x,tI .i64 i,tB store] (jE (0,0,1) (0,0,2) C s d S) (.tup [.c (.t (.int .i64 (bL C store))),.c (.t (.int .i64 (bU C x d i)))]) (jE (0,0,1) (0,0,2) C s d S):=by
 refine ax hΓ aF func262 rfl d_ rfl rfl ?_;obtain⟨a1,a2⟩:=hC.args;repeat' ((conv=>whnf);first|apply Wx|apply W6|apply oi|apply fi|intro h|exact Y8|refine e_ rfl ?_)
 all_goals try exact Q3
 all_goals(refine⟨congrArg (Tr.int _) ?_⟩;(try unfold bL);(try unfold bU jl eI);(try simp(disch:=omega)only[c8]);simp_all<;>omega)
theorem V61{p:Prop}(h:p:=by
 repeat' ((conv=>whnf);first|apply Wx|apply W6|apply oi|apply fi|intro h|exact Y8|refine e_ rfl ?_)
 refine cg (g1) ?_;repeat' ((conv=>whnf);first|apply Wx|apply W6|apply oi|apply fi|intro h|exact Y8|refine e_ rfl ?_)
 refine cg (g2) ?_
 exact Z5):p:=h
theorem GI (C:Cx)(hC:CxOk C)(s:Gs)(d:Int)(S:List (List DC))(x:Sc)(i line:Int)(h1:ca s)(h2:x.I9.length<=100)(hd:-1000<=d/\d<=1999)(hx:0<=x.first/\x.first<=1000)(hi:-2<=i/\i<=100):bh prog 259 [dP,scV x,tI .i64 i,tI .i64 line] (jE (0,0,1) (0,0,2) C s d S) (.tup []) (jE (1,0,1) (0,0,2) C (Ei C x s d i line) (d+1) S):=by refine ax hΓ aF func259 rfl d_ rfl rfl ?_;have g1:=ue C hC s d S x i false o_ hx hi;have g2:=cC C s d S (bL C false) (bU C x d i) line x.I9 h1 h2;exact V61
theorem nl (C:Cx)(hC:CxOk C)(s:Gs)(d:Int)(S:List (List DC))(x:Sc)(i line:Int)(chain:List Int)(h1:ca s)(h2:chain.length<=100)(hd:-1000<=d/\d<=2000)(hx:0<=x.first/\x.first<=1000)(hi:-2<=i/\i<=100):bh prog 245 [dP,scV x,tI .i64 i,tI .i64 line,Bu chain] (jE (0,0,1) (0,0,2) C s d S) (.tup []) (jE (1,0,1) (0,0,2) C (cX C x s d i line chain) (d-1) S):=by refine ax hΓ aF func245 rfl d_ rfl rfl ?_;have g1:=ue C hC s d S x i true o_ hx hi;have g2:=cC C s d S (bL C true) (bU C x d i) line chain h1 h2;exact V61
theorem mu (C:Cx)(s:Gs)(d:Int)(S:List (List DC))(v line:Int)(chain:List Int)(h1:ca s)(h2:chain.length<=100)(hd:-1000<=d/\d<=1999):bh prog 242 [dP,tI .i64 v,tI .i64 line,Bu chain] (jE (0,0,1) (0,0,2) C s d S) (.tup []) (jE (1,0,1) (0,0,2) C (aB C s d 0 v line chain) (d+1) S):=by
 refine ax hΓ aF func242 rfl d_ rfl rfl ?_;have g2:=cC C s d S 0 v line chain h1 h2;repeat' ((conv=>whnf);first|apply Wx|apply W6|apply oi|apply fi|intro h|exact Y8|refine e_ rfl ?_)
 refine cg (g2) ?_;exact Z5
abbrev scH (l:List (Sc×List Int)):List (List DC):=l.map fun y=>mI y.1 y.2
theorem Q15{p:Prop}(h:p:=by exact⟨KW⟩):p:=h
theorem uh (C:Cx)(hC:CxOk C)(s:Gs)(d:Int)(S:List (Sc×List Int))(x:Sc)(lv:List Int)(k:Nat)(last:Bool)(h1:ca s)(h2:x.I9.length<=100)(hd:-1000<=d/\d<=2000)(hS:S.length<=100)(Zc:lv.length<=68719476736)(hd p:List Int):
  bh prog 243 [dP,tI .i64 (k:Int),tB last] (jE (0,0,1) (0,0,2) C s d (scH (S++[(x,lv)]))) (.tup []) (jE (1,0,1) (1,0,2) C (be C x k last d ⟨s,hd,p,lv⟩).g (d-1) (scH (S++[(x,(be C x k last d ⟨s,hd,p,lv⟩).lv)]))):=by
 refine ax hΓ aF func243 rfl d_ rfl rfl ?_;obtain⟨f,chain,locals,first,outer⟩:=x;have O2:=kP s.I8;have Su:(scH (S++[(⟨f,chain,locals,first,outer⟩,lv)])).length=S.length+1:=s_;have P9:(scH (S++[(⟨f,chain,locals,first,outer⟩,lv)]))[S.length]?=some (mI ⟨f,chain,locals,first,outer⟩ lv):=s_;have hw:IntKind.i64.wrap (((scH (S++[(⟨f,chain,locals,first,outer⟩,lv)])).length:Int)-1)=(S.length:Int):=by rw[Su,c8 _ o_];omega
 have P7:=dh lv;have Tv:=dh (lv++[(s.I8.length:Int)]);have O4:S.length<(scH (S++[(⟨f,chain,locals,first,outer⟩,lv)])).length:=o_;have Sk:(lv.map aa).length=lv.length:=s_;unfold ca at h1
 cases outer with
 | false=>
  cases last with
  | true=>
   have e:be C ⟨f,chain,locals,first,false⟩ k true d ⟨s,hd,p,lv⟩=⟨s,hd,p,lv⟩:=(by simp[be]);rw[e];repeat' ((conv=>whnf);first|apply Wx|apply W6|apply oi|apply fi|intro h|refine⟨S.length,hw,O4,?_⟩|refine⟨_,P9,?_⟩|exact Y9|refine e_ rfl ?_)
   all_goals(exfalso;simp_all;done)
  | false=>
   have e:be C ⟨f,chain,locals,first,false⟩ k false d ⟨s,hd,p,lv⟩=⟨aB C s d 10 0 k chain,hd,p,lv++[(s.I8.length:Int)]⟩:=(by simp[be]);rw[e];have g:=cC C s d ((scH (S++[(⟨f,chain,locals,first,false⟩,lv)])).set S.length [.d (.int .i64 (f:Int)),.t (.lst 1 (chain.map aa)),.t (.lst 1 (locals.map ah)),.d (.int .i64 first),.d (.bool false),.d (.lst 1 (lv.map aa++[[.int .i64 ((itR s.I8).length:Int)]]))]) 10 0 k chain h1 h2;repeat' ((conv=>whnf);first|apply Wx|apply W6|refine cg g ?_|apply oi|apply fi|intro h|refine⟨S.length,hw,O4,?_⟩|refine⟨_,P9,?_⟩|refine⟨_,(s6 O4),?_⟩|exact Y8|refine e_ rfl ?_)
   all_goals try exact⟨P7⟩
   all_goals try exact⟨⟨by rw[Sk];(try dsimp only);simp<;>omega,by rw[Sk];(try dsimp only);simp<;>omega⟩⟩
   all_goals try exact⟨by rw[O2];first|(simp[aa];done)|simpa [aa]using Tv⟩
   all_goals try exact Q15
   all_goals try exact Q3
   all_goals(refine⟨?_⟩;rw[O2];simp[List.set_append,aa])
 | true=>
  have g1:=cC C s d (scH (S++[(⟨f,chain,locals,first,true⟩,lv)])) 14 C.args k chain h1 h2;have g2:=cC C s d (scH (S++[(⟨f,chain,locals,first,true⟩,lv)])) 16 (C.args+16*C.J1) k chain h1 h2;obtain⟨a1,a2⟩:=hC.args;obtain⟨a3,a4⟩:=hC.J1;have e2:IntKind.i64.wrap (C.args+IntKind.i64.wrap (16*C.J1))=C.args+16*C.J1:=by simp(disch:=omega)only[c8]
  rw[<-e2]at g2
  cases hf:C.J8 with
  | true=>
   have e:be C ⟨f,chain,locals,first,true⟩ k last d ⟨s,hd,p,lv⟩=⟨aB C s d 14 C.args k chain,hd,p,lv⟩:=(by simp[be,hf]);rw[e];repeat' ((conv=>whnf);first|apply Wx|apply W6|refine cg g1 ?_|apply oi|apply fi|intro h|refine⟨S.length,hw,O4,?_⟩|refine⟨_,P9,?_⟩|exact Y9|refine e_ rfl ?_)
   all_goals(exfalso;simp_all;done)
  | false=>
   have e:be C ⟨f,chain,locals,first,true⟩ k last d ⟨s,hd,p,lv⟩=⟨aB C s d 16 (IntKind.i64.wrap (C.args+IntKind.i64.wrap (16*C.J1))) k chain,hd,p,lv⟩:=(by simp[be,hf,e2]);rw[e];repeat' ((conv=>whnf);first|apply Wx|apply W6|refine cg g2 ?_|apply oi|apply fi|intro h|refine⟨S.length,hw,O4,?_⟩|refine⟨_,P9,?_⟩|exact Y9|refine e_ rfl ?_)
   all_goals(exfalso;simp_all;done)
abbrev oH (e:Int×Int):List Tr:=[.int .i64 e.1,.int .i64 e.2]
theorem Kf {l:List Qs}{j:Nat}{x:Qs}(h:l[j]?=some x)(v:Int):bv l (j:Int) v=l.set j ⟨⟨x.K0.J5,v⟩,x.M8,x.L7,x.N0,x.M6,x.N2⟩:=by rw[bv,b9 o_,e7,h]
theorem lu {l:List Qs}{j:Nat}{x:Qs}(h:l[j]?=some x)(v:Int):itR (bv l (j:Int) v)=(itR l).set j [.d (.int .i64 x.K0.J5),.d (.int .i64 v),.d (.int .i64 x.M8),.d (.bool x.L7),.d (.lst 1 (x.N0.map aa)),.d (.int .i64 x.M6),.d (.bool x.N2)]:=by rw[Kf h];simp[aw,C7,Qs.tr]
theorem gV {l:List Qs}{j:Nat}{x:Qs}(h:l[j]?=some x):(itR l)[j]?=some (x.tr.map .d):=kF (ab h)
theorem sV (C:Cx)(s:Gs)(d:Int)(S:List (List DC))(E:List (Int×Int))(to:Int)(h1:ca s)(hE:E.length<=100)(hin:∀e∈E,0<=e.2/\e.2<s.I8.length):
  bh prog 241 [dP,.r (.c (.own (0,1,0))),tI .i64 to] (jE (0,0,1) (0,0,2) C s d S++[((0,1,0),.arr false 2 (E.map oH))]) (.tup []) (jE (0,0,1) (0,0,2) C ⟨dV s.I8 s.I8.length to E,s.J4,s.start⟩ d S++[((0,1,0),.arr false 2 (E.map oH))]):=by
 refine ax hΓ aF func241 rfl d_ rfl rfl ?_;have UU:(E.map oH).length=E.length:=s_;unfold ca at h1;repeat' ((conv=>whnf);first|apply Wx|apply W6|apply oi|apply fi|intro h|exact Y8|refine e_ rfl ?_)
 conv=>whnf
 refine⟨{k:Nat//k<=E.length},fun q=>⟨[(0,dP),(1,.r (.c (.own (0,1,0)))),(2,tI .i64 to),(6,tI .i64 (q.1:Int))],[((0,0,0),some (rp C s d (0,0,1) (0,0,2))),((0,0,1),some (.dar 7 (itR (dV s.I8 s.I8.length to (E.take q.1))) none)),((0,0,2),some (.dar 6 S none)),((0,1,0),some (.arr false 2 (E.map oH)))],[0]⟩,fun q=>E.length-q.1,⟨0,o_⟩,?_,?_⟩
 ·exact Z2
 intro⟨k,hk⟩;dsimp only at hk⊢;have Se:=yG s.I8.length to (E.take k) s.I8;have Rw:(itR (dV s.I8 s.I8.length to (E.take k))).length=s.I8.length:=by rw[kP,Se]
 by_cases O4:k<E.length
 ·obtain⟨e,he⟩:=ae O4;obtain⟨i1,i2⟩:=hin e (c9 he);obtain⟨j,hj⟩:=i7 i1;have Q0:j<(itR (dV s.I8 s.I8.length to (E.take k))).length:=by rw[Rw];omega
  obtain⟨x,hx⟩:=ae (l:=dV s.I8 s.I8.length to (E.take k)) (k:=j) (by rw[Se];omega);have QV:k<(E.map oH).length:=by rw[UU];exact O4
  have QW:E.take (k+1)=E.take k++[e]:=by rw[A0,he];rfl
  have XQ:=Ft s.I8.length to e (E.take k) s.I8;repeat' ((conv=>whnf);first|apply Wx|apply W6|apply oi|apply fi|intro h|refine⟨k,rfl,QV,?_⟩|refine⟨oH e,(ab he),?_⟩|refine⟨j,hj,Q0,?_⟩|refine⟨_,(gV hx),?_⟩|exact Y6|refine e_ rfl ?_)
  all_goals(conv=>whnf)
  all_goals(refine⟨⟨k+1,o_⟩,?_,KD⟩)
  repeat' ((conv=>whnf);first|apply Wx|apply W6|apply oi|apply fi|intro h|exact Y9|refine e_ rfl ?_)
  all_goals(refine⟨?_⟩;(try rw[Rw]);rw[QW,XQ])
  ·rw[b9 aap,hj,lu hx];rfl
  ·rw[b8 aap]
 ·repeat' ((conv=>whnf);first|apply Wx|apply W6|apply oi|apply fi|intro h|exact Y6|refine e_ rfl ?_)
  all_goals(refine⟨?_⟩;rw[gt o_])
abbrev cK (S:List (Sc×List Int)):List Nat:=S.map fun y=>y.1.f
theorem xv (C:Cx)(hC:CxOk C)(s:Gs)(d:Int)(S:List (Sc×List Int))(g:Nat)(h1:ca s)(hS:1<=S.length/\S.length<=100)(hg:g<C.p.length):
  bh prog 260 [dP,tI .i64 (g:Int)] (jE (0,0,1) (0,0,2) C s d (scH S)) (tB (cv C (cK S) g s.I8.length)) (jE (0,0,1) (0,0,2) C s d (scH S)):=by
 refine ax hΓ aF func260 rfl d_ rfl rfl ?_;unfold ca at h1;have O2:=kP s.I8;have Su:(scH S).length=S.length:=s_;have Se:(C.p.map Qt.tr).length=C.p.length:=s_;have hE:=bW C.p (g:Int) (by have:=hC.len;omega);have Rw:(cK S).length=S.length:=s_;have SA:=hC.len;have hin:=hC.inl
 have RX:-1<=bA C.p (g:Int)/\bA C.p (g:Int)<=60:=by
  rw[bc]
  cases he:h_ C.p g with|none=>simp[cn]|some e=>have:=aI he;obtain⟨_,_,_,_,_,h⟩:=this;simp only[cn];omega
 unfold cv;rw[Rw]
 generalize bA C.p (g:Int)=eg at *
 have RI:IntKind.i64.wrap (((scH S).length:Int)-1)=(S.length:Int)-1:=by rw[Su,c8 _ o_]
 have Sr:IntKind.i64.wrap (eg-(g:Int))=eg-g:=by rw[c8 _ o_]
 repeat' ((conv=>whnf);first|apply Wx|apply W6|apply oi|apply fi|intro h|refine cl hE ?_|exact Y8|refine e_ rfl ?_)
 all_goals try(refine⟨congrArg Tr.bool ?_⟩;(try rw[RI]at h);(try rw[Sr]at h);(try rw[O2]at h);simp only[i8]at h;symm;simp only[A9,p6];omega)
 conv=>whnf
 refine⟨{k:Nat//k<=S.length/\((cK S).take k).contains g=false},fun q=>⟨[(0,dP),(1,tI .i64 (g:Int)),(5,tI .i64 (q.1:Int))],(jE (0,0,1) (0,0,2) C s d (scH S)).map (fun p=>(p.1,some p.2)),[0]⟩,fun q=>S.length-q.1,⟨0,o_,s_⟩,?_,?_⟩
 ·exact Z2
 rename_i ha hb;rw[RI]at ha;rw[Sr]at hb;rw[O2]at h;simp only[p6]at ha hb h
 have QO:∀c:Bool,(decide ((S.length:Int)<=C.b.M0)&&(decide (eg-(g:Int)<=9)&&(decide (s.I8.length<200)&&!c)))= !c:=fun c=>by
  rw[q9 o_,q9 o_,q9 o_];rfl
 rw[QO];clear QO;intro⟨k,hk,QR⟩;dsimp only at hk QR⊢;by_cases O4:k<S.length
 ·obtain⟨y,hy⟩:=ae O4;have ZL:(scH S)[k]?=some (mI y.1 y.2):=by simp[hy]
  have QV:k<(scH S).length:=o_;have QW:(cK S).take (k+1)=(cK S).take k++[y.1.f]:=by rw[A0,j9,hy];rfl
  have RY:y.1.f∈cK S:=q7.2 ⟨y,c9 hy,rfl⟩;repeat' ((conv=>whnf);first|apply Wx|apply W6|apply oi|apply fi|intro h|refine⟨k,rfl,QV,?_⟩|refine⟨_,ZL,?_⟩|exact Y6|refine e_ rfl ?_)
  ·refine⟨congrArg Tr.bool ?_⟩;have e:y.1.f=g:=(by have:=z8 h;omega);rw[<-e,A4.2 RY];rfl
  ·conv=>whnf
   refine⟨⟨k+1,o_,?_⟩,?_,KD⟩
   ·have e:g≠y.1.f:=fun e=>by rw[<-e]at h;simp at h
    rw[QW,List.contains_eq_any_beq,List.any_append,<-List.contains_eq_any_beq,QR];simp[e]
   exact Z5
 ·repeat' ((conv=>whnf);first|apply Wx|apply W6|apply oi|apply fi|intro h|exact Y6|refine e_ rfl ?_)
  rw[gt o_]at QR;exact⟨by rw[QR];rfl⟩
def qm (C:Cx)(l:List QC):Prop:=∀t∈l,t.J0=7->∃f,findN C.p 0 t.J7=some f/\(b_ C.p f:Int)=t.M1
structure Rm (C:Cx) (lev n:Nat) (S:Nat) (s:Gs) (d:Int):Prop where
 room:s.I8.length+n*dc lev<=68719476736
 depth:((lev+S:Nat):Int)=C.b.M0
 low:0<=d
 high:d+(n:Int)+100*(lev:Int)<=1900
def PZ (C:Cx)(lev:Nat):Prop:=∀(e:Ex) (x:Sc) (S:List (Sc×List Int)) (lv:List Int) (k p:Nat) (ln:Qt) (s:Gs) (d:Int),e.ok->ScOk C x (cK (S++[(x,lv)]))->C.p[k]?=some ln->iv ln.L0 p e->qm C ln.L0->Rm C lev e.toks.length S.length s d->
 bh prog 244 [dP,tI .i64 (k:Int),tI .i64 (p:Int)] (jE (0,0,1) (0,0,2) C s d (scH (S++[(x,lv)]))) (tI .i64 ((p+e.toks.length:Nat):Int)) (jE (1,0,1) (1,0,2) C (dk C (bg C lev) x (cK (S++[(x,lv)])) k e d s) (d+1) (scH (S++[(x,lv)])))
def LR (C:Cx)(lev:Nat):Prop:=∀(x:Sc) (S:List (Sc×List Int)) (lv:List Int) (k g:Nat) (s:Gs) (d:Int),ScOk C x (cK (S++[(x,lv)]))->k<C.p.length->bI C g->cv C (cK (S++[(x,lv)])) g s.I8.length=true->Rm C lev 1 S.length s (d-b_ C.p g)->
 bh prog 261 [dP,tI .i64 (g:Int),tI .i64 (k:Int),scV x] (jE (0,0,1) (0,0,2) C s d (scH (S++[(x,lv)]))) (.tup []) (jE (1,0,1) (1,0,2) C (bg C lev x (cK (S++[(x,lv)])) k g d s) (d-b_ C.p g+1) (scH (S++[(x,lv)])))
theorem mN {α:Type}[BEq α](l:List α)(s:α):-1<=cN l s/\cN l s<=l.length:=by
 unfold cN
 cases h:eQ l 0 s with|none=>simp only[cn];omega|some k=>have:=jp h;simp only[cn];omega
theorem nA {C:Cx}(hC:CxOk C){k:Nat}{ln:Qt}(hk:C.p[k]?=some ln):ep ln.L0/\ln.J7.length<=1048576:=by obtain⟨h1,_,_,_,h5⟩:=dv (bk hC.small (c9 hk));exact⟨fun t ht=>by have:=h5 t ht;omega,h1⟩
theorem Ek (p:List Qt)(g:Nat):iH p g<=g:=by unfold iH;have h1:=E1 (fun x:Qt=>x.J0==0) (p.take g);have h2:=List.length_take_le g p;omega
theorem Ih {p:List Qt}{i:Nat}{x:Qt}(hx:p[i]?=some x):iH p (i+1)=iH p i+if x.J0=0 then 1 else 0:=by
 unfold iH;rw[A0,hx,F9,c7];by_cases h:x.J0=0
 ·simp[h]
 ·simp[h]
theorem V68{p:Prop}(h:p:=by
 have:∀(l:List Ex),l.length<=(ao l).length:=by
  intro l
  induction l with
  | nil=>simp
  | cons b l ih=>have:=b.toks_pos;rw[ao,c7,d6];omega
 have h2:=this (es.take j);rw[k0]at h2
 omega):p:=h
theorem V96{p:Prop}(h:p:=by
 have hz:=k1 (.inl S9);unfold fW;rw[b9 S9]
 repeat' ((conv=>whnf);first|apply Wx|apply W6|refine cg g1 ?_|apply oi|apply fi|intro h|exact Y10|refine e_ rfl ?_)):p:=h
theorem V114{p:Prop}(h:p:=by
 repeat' ((conv=>whnf);first|apply Wx|apply W6|refine cg g1 ?_|apply oi|apply fi|intro h|refine cl gI ?_|exact Y10|refine e_ rfl ?_)):p:=h
theorem V87{p:Prop}(h:p:=by
 rw[UA]at g1;rw[b9 rfl]
 repeat' ((conv=>whnf);first|apply Wx|apply W6|refine cg g1 ?_|refine cg g2 ?_|apply oi|apply fi|intro h|refine cl gF ?_|exact Y10|refine e_ rfl ?_)):p:=h
theorem V41{p:Prop}(h:p:=by
 have hw5:IntKind.i64.wrap (IntKind.i64.wrap (5+t.J0)-2)=5+t.J0-2:=by simp(disch:=omega)only[c8]
 rw[<-hw5]at g1;have hz:=k3 Yw.1 Yw.2;unfold fW;rw[b8 o_,b8 o_,b8 o_,<-hw5]
 repeat' ((conv=>whnf);first|apply Wx|apply W6|refine cg g1 ?_|apply oi|apply fi|intro h|exact Y10|refine e_ rfl ?_)):p:=h
theorem FL {C:Cx}(hC:CxOk C){lev:Nat}(hR:LR C lev):∀(n:Nat) (e:Ex),e.toks.length<=n->∀(x:Sc) (S:List (Sc×List Int)) (lv:List Int) (k p:Nat) (ln:Qt) (s:Gs) (d:Int),e.ok->ScOk C x (cK (S++[(x,lv)]))->C.p[k]?=some ln->iv ln.L0 p e->qm C ln.L0->Rm C lev e.toks.length S.length s d->
  bh prog 244 [dP,tI .i64 (k:Int),tI .i64 (p:Int)] (jE (0,0,1) (0,0,2) C s d (scH (S++[(x,lv)]))) (tI .i64 ((p+e.toks.length:Nat):Int)) (jE (1,0,1) (1,0,2) C (dk C (bg C lev) x (cK (S++[(x,lv)])) k e d s) (d+1) (scH (S++[(x,lv)])))
 | 0,e,hn,_,_,_,_,_,_,_,_,_,_,_,_,_,_=>by have:=e.toks_pos;omega
 | n+1,.node t es,hn,x,S,lv,k,p,ln,s,d,ho,hx,hk,hs,hca,hr=>by
  refine ax hΓ aF func244 rfl d_ rfl rfl ?_;obtain⟨Tz,Sp⟩:=nA hC hk;have P6:=gj hs;obtain⟨ht,TZ⟩:=ip hs;obtain⟨e1,e2⟩:=rg ho.1;have QP:es.length=ar t:=ho.2.1;have hA:=kO t (Tz t (c9 ht));rw[e1,<-QP]at hA;have SA:=hC.len;have RZ:=(hC.line _ _ hk).2.2.2.1;have Su:(scH (S++[(x,lv)])).length=S.length+1:=s_;have P9:(scH (S++[(x,lv)]))[S.length]?=some (mI x lv):=s_;have O4:S.length<(scH (S++[(x,lv)])).length:=o_;have Sy:=hr.room;have Rk:=hr.depth;have hr3:=hr.low;have hr4:=hr.high;have hin:=hC.inl;have hw:IntKind.i64.wrap (((scH (S++[(x,lv)])).length:Int)-1)=(S.length:Int):=by rw[Su,c8 _ o_];omega
  have htp:=yB lev;rw[Ex.toks,d6]at hn P6 Sy hr4;rw[dk];repeat' ((conv=>whnf);first|apply Wx|apply W6|apply oi|apply fi|intro h|refine⟨S.length,hw,O4,?_⟩|refine⟨_,P9,?_⟩|refine⟨k,ln.tr,rfl,ab hk,?_⟩|refine⟨p,t.tr,rfl,ab ht,?_⟩|refine cl hA ?_|exact Y8|refine e_ rfl ?_)
  conv=>whnf
  refine⟨{j:Nat//j<=es.length},fun q=>⟨[(0,dP),(1,tI .i64 (k:Int)),(2,tI .i64 ((p+1+(ao (es.take q.1)).length:Nat):Int)),(9,tI .i64 ((es.length-q.1:Nat):Int)),(7,.r (.c (.ptr (7,0,0) 0))),(8,.r (.c (.ptr (8,0,0) 0)))],
   [(
    (0,0,0),some (rp C (ce C (bg C lev) x (cK (S++[(x,lv)])) k (es.take q.1) d s) (d+q.1) (7,0,1) (7,0,2))),((7,0,1),some (.dar 7 (itR (ce C (bg C lev) x (cK (S++[(x,lv)])) k (es.take q.1) d s).I8) none)),((7,0,2),some (.dar 6 (scH (S++[(x,lv)])) none)),
    ((7,0,0),some (.box [.t (.int .i64 (x.f:Int)),.t (.lst 1 (x.I9.map aa)),.t (.lst 1 (x.J3.map ah)),.t (.int .i64 x.first),.t (.bool x.J9),.opq])),((8,0,0),some (.box (t.tr.map .t)))],[8,7,0]⟩,fun q=>es.length-q.1,⟨0,o_⟩,?_,?_⟩
  ·repeat' ((conv=>whnf);first|apply Wx|apply W6|apply oi|apply fi|intro h|exact Y8|refine e_ rfl ?_)
   ·exact⟨congrArg (Tr.int _) (by rw[c8 _ o_];simp[ao])⟩
   ·exact⟨congrArg (Tr.int _) s_⟩
  intro⟨j,hj⟩;dsimp only at hj⊢;have hgr:=nz (C:=C) (x:=x) (ins:=cK (S++[(x,lv)])) (line:=k) (lev:=lev) (fun g d s hg hr=>dQ hC lev k g d s hx hg hr) (es.take j) d s;have XL:=hgr.le;have Wj:=cV es j;obtain⟨s1,Tg⟩:∃s1,ce C (bg C lev) x (cK (S++[(x,lv)])) k (es.take j) d s=s1:=⟨_,rfl⟩;rw[Tg]at hgr XL⊢;by_cases Xs:j<es.length
  ·obtain⟨a,ha⟩:=ae Xs;have hta:=fA ha;have YS:=cV es (j+1);have QZ:=jw ha
   have hjt:j<=(ao (es.take j)).length:=by exact V68
   have hm:=m5 (dc lev) (show(ao (es.take j)).length+a.toks.length<=(ao es).length+1 by omega);rw[p8]at hm;have hI:=FL hC hR n a o_ x S lv k (p+1+(ao (es.take j)).length) ln s1 (d+j) (iD ho.2.2 ha) hx hk (kb TZ ha) hca ⟨o_,Rk,o_,o_⟩;have QW:=rE C (bg C lev) x (cK (S++[(x,lv)])) k d s ha;rw[Tg]at QW;repeat' ((conv=>whnf);first|apply Wx|apply W6|apply oi|apply fi|intro h|exact Y6|refine e_ rfl ?_)
   refine cg (hI) ?_;repeat' ((conv=>whnf);first|apply Wx|apply W6|apply oi|apply fi|intro h|exact Y8|refine e_ rfl ?_)
   conv=>whnf
   refine⟨⟨j+1,o_⟩,?_,KD⟩;repeat' ((conv=>whnf);first|apply Wx|apply W6|apply oi|apply fi|intro h|exact Y8|refine e_ rfl ?_)
   all_goals try exact⟨by dsimp only;rw[QW]⟩
   all_goals try exact Q15
  ·have Ut:j=es.length:=o_;subst Ut;rw[A3]at Tg XL Wj⊢;have hT:(Ex.node t es).toks.length=(ao es).length+1:=(by rw[Ex.toks,d6]);rw[Tg]
   have QG:s1.I8.length+dc lev<=68719476736:=by have:((ao es).length+1)*dc lev=(ao es).length*dc lev+dc lev:=(by rw[p8];omega);omega
   have Rx:x.I9.length<=100:=by have:=hx.I9;rw[show(cK (S++[(x,lv)])).length=S.length+1 by simp]at this;omega
   have S6:ca s1:=(by unfold ca;omega);obtain⟨k1,k2,k3⟩:=xS ho.1;have Zl:=Tz t (c9 ht)
   have VN:0<=x.first/\x.first<=1000:=by have:=hx.first;rw[show(cK (S++[(x,lv)])).length=S.length+1 by simp]at this;omega
   obtain⟨ee,_,_,_,_,Sk⟩:=hx.endE hC;rcases qs ho.1 with S9|Rh|TX|Yw
   ·have g1:=mu C s1 (d+es.length) (scH (S++[(x,lv)])) t.M1 k x.I9 S6 Rx o_;exact V96
   ·have g1:=GI C hC s1 (d+es.length) (scH (S++[(x,lv)])) x (cN x.J3 t.J7) k S6 Rx o_ VN (by have:=mN x.J3 t.J7;omega);have gI:=er x.J3 t.J7 o_;have hz:=k1 (.inr Rh);unfold fW;rw[b8 o_,b9 Rh]
    generalize cN x.J3 t.J7=ix at *
    exact V114
   ·obtain⟨f,hf,ZC⟩:=hca t (c9 ht) TX;obtain⟨P7,y,hy,RF,_⟩:=dR hf;have SB:bI C f:=⟨y,hy,RF⟩;have U3:=k2 TX;have gF:=dJ C.p t.J7 o_;rw[show fS C.p t.J7=(f:Int) from aU hf]at gF;have g1:=xv C hC s1 (d+es.length) (S++[(x,lv)]) f S6 aad P7;unfold fW;rw[b8 o_,b8 o_,b9 TX,hf];dsimp only
    cases UA:cv C (cK (S++[(x,lv)])) f s1.I8.length with
    | true=>
     have g2:=hR x S lv k f s1 (d+es.length) hx (aE hk) SB UA ⟨o_,Rk,o_,o_⟩
     exact V87
    | false=>
     rw[UA]at g1;rw[b8 s_];have g2:=cC C s1 (d+es.length) (scH (S++[(x,lv)])) 12 (iH C.p f) k x.I9 S6 Rx;repeat' ((conv=>whnf);first|apply Wx|apply W6|refine cg g1 ?_|apply oi|apply fi|intro h|refine cl gF ?_|exact Y11|refine e_ rfl ?_)
     conv=>whnf
     refine⟨{i:Nat//i<=f},fun q=>⟨[(0,dP),(1,tI .i64 (k:Int)),(2,tI .i64 ((p+1+(ao es).length:Nat):Int)),(10,tI .i64 (f:Int)),(11,tI .i64 (iH C.p q.1:Int)),(12,tI .i64 (q.1:Int)),(7,.r (.c (.ptr (7,0,0) 0))),(8,.r (.c (.ptr (8,0,0) 0)))],
      [(
       (0,0,0),some (rp C s1 (d+es.length) (7,0,1) (7,0,2))),((7,0,1),some (.dar 7 (itR s1.I8) none)),((7,0,2),some (.dar 6 (scH (S++[(x,lv)])) none)),
       ((7,0,0),some (.box [.t (.int .i64 (x.f:Int)),.t (.lst 1 (x.I9.map aa)),.t (.lst 1 (x.J3.map ah)),.t (.int .i64 x.first),.t (.bool x.J9),.opq])),((8,0,0),some (.box (t.tr.map .t)))],[8,7,0]⟩,fun q=>f-q.1,⟨0,o_⟩,?_,?_⟩
     ·exact Z2
     intro⟨i,hi⟩;dsimp only at hi⊢;have RQ:=Ek C.p i;by_cases hif:i<f
     ·obtain⟨z,hz⟩:=ae (l:=C.p) (k:=i) o_;have Xw:=Ih hz;repeat' ((conv=>whnf);first|apply Wx|apply W6|apply oi|apply fi|intro h|refine⟨i,z.tr,rfl,ab hz,?_⟩|exact Y6|refine e_ rfl ?_)
      all_goals(conv=>whnf)
      all_goals(refine⟨⟨i+1,o_⟩,?_,KD⟩)
      repeat' ((conv=>whnf);first|apply Wx|apply W6|apply oi|apply fi|intro h|exact Y9|refine e_ rfl ?_)
      ·rw[b9 aap]at Xw;all_goals try exact Q15
      ·rw[b8 aap]at Xw;all_goals try exact Q15
     ·have Sv:i=f:=o_;subst Sv;repeat' ((conv=>whnf);first|apply Wx|apply W6|refine cg g2 ?_|apply oi|apply fi|intro h|exact Y12|refine e_ rfl ?_)
   ·have g1:=cC C s1 (d+es.length) (scH (S++[(x,lv)])) (5+t.J0-2) 0 k x.I9 S6 Rx;exact V41
def CB (C:Cx)(lev:Nat):Prop:=∀(x:Sc) (S:List (Sc×List Int)) (s:Gs) (d:Int),ScOk C x (cK (S++[(x,[])]))->s.I8.length+(dq C.p x.f-x.f)*(20*dc lev+3)<=68719476736->((lev+S.length:Nat):Int)=C.b.M0->0<=d->d+30+100*(lev:Int)<=1900->
 bh prog 198 [dP] (jE (0,0,1) (0,0,2) C s d (scH (S++[(x,[])]))) (.tup []) (jE (1,0,1) (1,0,2) C (aZ C (bg C lev) x (cK (S++[(x,[])])) d s).1 d (scH (S++[(x,(aZ C (bg C lev) x (cK (S++[(x,[])])) d s).2)])))
theorem lw (S:List (Sc×List Int))(y:Sc×List Int):cK (S++[y])=cK S++[y.1.f]:=s_
theorem V147{p:Prop}(h:p:=by
 intro q hq;simp only[AC.ids,d8,m8,or_false]at hq;subst hq;rfl):p:=h
theorem Oo {C:Cx}(hC:CxOk C){lev:Nat}(hL:CB C lev):LR C (lev+1):=by
 intro x S lv k g s d hx hk hg UA hr;refine ax hΓ aF func261 rfl d_ rfl rfl ?_;obtain⟨r1,r2,r3,r4⟩:=eM UA;obtain⟨y,hy,RF⟩:=hg;have SA:=hC.len;have hin:=hC.inl;have Rs:=cW hC ⟨y,hy,RF⟩;have hA:b_ C.p g=y.L3.length:=by rw[b_,hy]
 have Zk:=ic C.p (g:Int) o_ (fun z hz=>bk hC.small hz);have Tp:=mR hC hx;have Rw:(cK (S++[(x,lv)])).length=S.length+1:=s_;rw[Rw]at Tp r1;have U7:x.J3.length<=8:=by obtain⟨_,_,_,_,_,h⟩:=hx.endE hC;exact h
 have VN:=hx.first;rw[Rw]at VN;have ha:=hC.args;have Rx:=hx.I9;rw[Rw]at Rx;obtain⟨q1,q2,q3,q4⟩:=hr;have P7:=dh (x.I9++[(k:Int)]);have Wr:(y.L3.map ah).length=y.L3.length:=s_;have WF:(x.J3.map ah).length=x.J3.length:=s_;have QK:(x.I9.map aa).length=x.I9.length:=s_;have e1:IntKind.i64.wrap ((x.J3.length:Int)-C.args)=(x.J3.length:Int)-C.args:=by rw[c8 _ o_]
 have e2:IntKind.i64.wrap (x.first+(x.J3.length:Int))=x.first+x.J3.length:=by rw[c8 _ o_]
 repeat' ((conv=>whnf);first|(with_reducible apply W1;fail_if_success (with_reducible show Wo _ _ _ _ (Code.seq (Code.region 3 _ _) _) _ _))|(with_reducible first|apply W2|apply W3|apply W4|apply W5|apply W6|apply W7|apply W8|apply W9)|apply au|apply oi|apply fi|intro h|refine⟨g,y.tr,rfl,ab hy,?_⟩|exact Y8|refine e_ rfl ?_)
 refine lb Unit (fun _=>⟨[(0,dP),(1,tI .i64 (g:Int)),(2,tI .i64 (k:Int)),(7,.r (.c (.ptr (7,0,0) 0))),(8,tI .i64 (b_ C.p g:Int)),(9,tI .i64 (ba C x))],
  [(
   (0,0,0),some (rp C s d (0,0,1) (0,0,2))),((0,0,1),some (.dar 7 (itR s.I8) none)),((0,0,2),some (.dar 6 (scH (S++[(x,lv)])) none)),
   ((7,0,0),some (.box [.t (.int .i64 (x.f:Int)),.t (.lst 1 (x.I9.map aa)),.t (.lst 1 (x.J3.map ah)),.t (.int .i64 x.first),.t (.bool x.J9),.opq]))],[7,0]⟩) ?_ ?_
 ·repeat' ((conv=>whnf);first|apply Wx|apply W6|apply oi|apply fi|intro h|exact Y8|refine e_ rfl ?_)
  all_goals(conv=>whnf)
  all_goals(refine⟨(),?_⟩)
  repeat' ((conv=>whnf);first|apply Wx|apply W6|apply oi|apply fi|intro h|exact Y8|refine e_ rfl ?_)
  all_goals(refine⟨congrArg (Tr.int _) ?_⟩)
  all_goals try(rw[Wr,hA];done)
  all_goals(unfold ba;rw[WF])
  all_goals first|(rw[b9 aav];exact e1)|(rw[b8 (by simp_all)];exact e2)
 intro _;repeat' ((conv=>whnf);first|(with_reducible apply W1;fail_if_success (with_reducible show Wo _ _ _ _ (Code.region 7 _ _) _ _))|(with_reducible first|apply W2|apply W3|apply W4|apply W5|apply W6|apply W7|apply W8|apply W9)|apply au|apply oi|apply fi|intro h|refine cl Zk ?_|exact Y8|refine e_ rfl ?_)
 all_goals try exact Q2
 conv=>whnf
 refine lC ⟨[(0,dP),(1,tI .i64 (g:Int)),(2,tI .i64 (k:Int)),(7,.r (.c (.ptr (7,0,0) 0))),(8,tI .i64 (b_ C.p g:Int)),(9,tI .i64 (ba C x)),(10,.r (.c (.ptr (10,0,0) 0)))],
  [(
   (0,0,0),some (rp C s d (0,0,1) (0,0,2))),((0,0,1),some (.dar 7 (itR s.I8) none)),((0,0,2),some (.dar 6 (scH (S++[(x,lv)])) none)),
   ((7,0,0),some (.box [.t (.int .i64 (x.f:Int)),.t (.lst 1 (x.I9.map aa)),.t (.lst 1 (x.J3.map ah)),.t (.int .i64 x.first),.t (.bool x.J9),.opq])),
   ((10,0,0),some (.box [.t (.int .i64 (g:Int)),.t (.lst 1 ((x.I9++[(k:Int)]).map aa)),.t (.lst 1 ((a_ C.p (g:Int)).map ah)),.t (.int .i64 (ba C x)),.t (.bool false),.nils 1]))],_⟩ ?_ ?_ rfl ?_
 ·exact⟨.inl rfl,.inl rfl,.inl rfl,.inl rfl,.inl rfl,.inl rfl,.inl rfl,trivial⟩
 ·refine⟨.inr (.inl rfl),.inr (.inl rfl),.inr (.inl rfl),.inr (.inl rfl),.inr (.inr (.inl ⟨_,_,rfl,rfl,.inl rfl,.inr (.inr ⟨_,rfl,?_,?_⟩),.inr (.inr ⟨_,rfl,rfl,?_⟩),.inl rfl,.inl rfl,.inr (.inl ⟨_,_,rfl,rfl⟩),trivial⟩)),trivial⟩
  ·show Tr.lst 1 _=Tr.lst 1 ([]++List.map aa x.I9++[[Tr.int .i64 (k:Int)]]);simp[aa]
  all_goals(intro q hq;simp only[AC.ids,d8,m8,or_false]at hq;subst hq;rfl)
 have Sk:((a_ C.p (g:Int)).map ah).length=(a_ C.p (g:Int)).length:=s_;have em:IntKind.i64.wrap (ba C x+(((a_ C.p (g:Int)).map ah).length:Int))=ba C x+((a_ C.p (g:Int)).length:Int):=by rw[Sk,c8 _ o_]
 obtain⟨s0,Xe⟩:∃s0:Gs,(⟨s.I8,max s.J4 (ba C x+(a_ C.p (g:Int)).length),s.start⟩:Gs)=s0:=⟨_,rfl⟩;have z1:s.I8=s0.I8:=by rw[<-Xe]
 have z2:max s.J4 (ba C x+(a_ C.p (g:Int)).length)=s0.J4:=by rw[<-Xe]
 have z3:s.start=s0.start:=by rw[<-Xe]
 obtain⟨Y,hY⟩:∃Y,bF C x k g=Y:=⟨_,rfl⟩;obtain⟨T1,hT1⟩:∃T1,bD C (bF C x k g) x.I9 k (b_ C.p g) d s0=T1:=⟨_,rfl⟩;repeat' ((conv=>whnf);first|apply Wx|apply W6|apply oi|apply fi|intro h|exact Y8|refine e_ rfl ?_)
 conv=>whnf
 refine⟨{q:Nat×Gs//q.1<=b_ C.p g/\bD C (bF C x k g) x.I9 k q.1 (d-((b_ C.p g-q.1:Nat):Int)) q.2=T1/\q.2.I8.length<=300-q.1},fun q=>⟨[(0,dP),(1,tI .i64 (g:Int)),(2,tI .i64 (k:Int)),(7,.r (.c (.ptr (7,0,0) 0))),(8,tI .i64 (b_ C.p g:Int)),(10,.r (.c (.ptr (10,0,0) 0))),(11,tI .i64 ((q.1.1:Int)-1))],
  [(
   (0,0,0),some (rp C q.1.2 (d-((b_ C.p g-q.1.1:Nat):Int)) (7,0,1) (7,0,2))),((7,0,1),some (.dar 7 (itR q.1.2.I8) none)),((7,0,2),some (.dar 6 (scH (S++[(x,lv)])) none)),
   ((7,0,0),some (.box [.t (.int .i64 (x.f:Int)),.t (.lst 1 (x.I9.map aa)),.t (.lst 1 (x.J3.map ah)),.t (.int .i64 x.first),.t (.bool x.J9),.opq])),
   ((10,0,0),some (.box [.t (.int .i64 (g:Int)),.t (.lst 1 ((x.I9++[(k:Int)]).map aa)),.t (.lst 1 ((a_ C.p (g:Int)).map ah)),.t (.int .i64 (ba C x)),.t (.bool false),.nils 1]))],[10,7,0]⟩,fun q=>q.1.1,⟨(b_ C.p g,s0),g_,by rw[<-hT1];simp,by dsimp only;rw[<-z1];omega⟩,?_,?_⟩
 ·repeat' ((conv=>whnf);first|apply Wx|apply W6|apply oi|apply fi|intro h|exact Y8|refine e_ rfl ?_)
  all_goals try exact⟨by rw[z1]⟩
  all_goals try exact⟨by rw[z3]⟩
  all_goals try exact⟨congrArg itR z1⟩
  all_goals try exact⟨congrArg (Tr.int _) (by rw[em];exact z2)⟩
  all_goals try exact Q15
 intro⟨⟨m,t⟩,hm,ht,Zl⟩;dsimp only at hm ht Zl⊢
 cases m with
 | succ m=>
  have g1:=nl C hC t (d-((b_ C.p g-(m+1):Nat):Int)) (scH (S++[(x,lv)])) (bF C x k g) m k x.I9 aal o_ o_ aaQ o_;rw[bD]at ht;rw[show((m+1:Nat):Int)-1=(m:Int) by omega];repeat' ((conv=>whnf);first|apply Wx|apply W6|refine cg g1 ?_|apply oi|apply fi|intro h|exact Y6|refine e_ rfl ?_)
  conv=>whnf
  refine⟨⟨(m,cX C (bF C x k g) t (d-((b_ C.p g-(m+1):Nat):Int)) m k x.I9),g_,by rw[<-ht];dsimp only;congr 1;omega,by dsimp only;simp only[cX,aB,c7,d6,e8];omega⟩,?_,KD⟩
  exact Z5
 | zero=>
  have e0:t=T1:=by rw[<-ht];rfl
  subst e0;have ed:d-((b_ C.p g-0:Nat):Int)=d-b_ C.p g:=by rw[u7]
  rw[ed];obtain⟨T2,hT2⟩:∃T2,cj C (bF C x k g) x.I9 k (d-b_ C.p g) ((a_ C.p (g:Int)).length-b_ C.p g) (b_ C.p g) t=T2:=⟨_,rfl⟩;repeat' ((conv=>whnf);first|apply Wx|apply W6|apply oi|apply fi|intro h|exact Y6|refine e_ rfl ?_)
  conv=>whnf
  refine⟨{q:Nat×Gs//q.1<=(a_ C.p (g:Int)).length/\cj C (bF C x k g) x.I9 k (d-b_ C.p g) ((a_ C.p (g:Int)).length-q.1) q.1 q.2=T2/\q.2.I8.length<=400-2*((a_ C.p (g:Int)).length-q.1)},fun q=>⟨[(0,dP),(1,tI .i64 (g:Int)),(2,tI .i64 (k:Int)),(7,.r (.c (.ptr (7,0,0) 0))),(10,.r (.c (.ptr (10,0,0) 0))),(12,tI .i64 (q.1.1:Int))],
   [(
    (0,0,0),some (rp C q.1.2 (d-b_ C.p g) (7,0,1) (7,0,2))),((7,0,1),some (.dar 7 (itR q.1.2.I8) none)),((7,0,2),some (.dar 6 (scH (S++[(x,lv)])) none)),
    ((7,0,0),some (.box [.t (.int .i64 (x.f:Int)),.t (.lst 1 (x.I9.map aa)),.t (.lst 1 (x.J3.map ah)),.t (.int .i64 x.first),.t (.bool x.J9),.opq])),
    ((10,0,0),some (.box [.t (.int .i64 (g:Int)),.t (.lst 1 ((x.I9++[(k:Int)]).map aa)),.t (.lst 1 ((a_ C.p (g:Int)).map ah)),.t (.int .i64 (ba C x)),.t (.bool false),.nils 1]))],[10,7,0]⟩,fun q=>(a_ C.p (g:Int)).length-q.1.1,⟨(b_ C.p g,t),g_,hT2,g_⟩,?_,?_⟩
  ·exact Z2
  intro⟨⟨i,u⟩,hi,hu,XX⟩;dsimp only at hi hu XX⊢;by_cases acl:i<(a_ C.p (g:Int)).length
  ·obtain⟨c,hc⟩:∃c,(a_ C.p (g:Int)).length-i=c+1:=⟨(a_ C.p (g:Int)).length-i-1,o_⟩;rw[hc,cj]at hu;have g1:=mu C u (d-b_ C.p g) (scH (S++[(x,lv)])) 0 k x.I9 aal o_ o_;have g2:=nl C hC (aB C u (d-b_ C.p g) 0 0 k x.I9) (d-b_ C.p g+1) (scH (S++[(x,lv)])) (bF C x k g) i k x.I9 aas o_ o_ aaQ o_;repeat' ((conv=>whnf);first|apply Wx|apply W6|refine cg g1 ?_|refine cg g2 ?_|apply oi|apply fi|intro h|exact Y6|refine e_ rfl ?_)
   conv=>whnf
   refine⟨⟨(i+1,cX C (bF C x k g) (aB C u (d-b_ C.p g) 0 0 k x.I9) (d-b_ C.p g+1) i k x.I9),g_,by rw[<-hu];dsimp only;rw[show(a_ C.p (g:Int)).length-(i+1)=c by omega],by dsimp only;simp only[cX,aB,c7,d6,e8];omega⟩,?_,KD⟩;exact Z5
  ·have Sv:i=(a_ C.p (g:Int)).length:=o_;subst Sv;rw[v6,cj]at hu;subst hu;have RG:di C x k g d s=u:=(by rw[di,Xe,hT1,hT2]);repeat' ((conv=>whnf);first|(with_reducible apply W1;fail_if_success (with_reducible show Wo _ _ _ _ (Code.seq (Code.region 17 _ _) _) _ _))|(with_reducible first|apply W2|apply W3|apply W4|apply W5|apply W6|apply W7|apply W8|apply W9)|apply au|apply oi|apply fi|intro h|exact Y6|refine e_ rfl ?_)
   obtain⟨v,hv⟩:∃v,bu C x k (d-b_ C.p g) u=v:=⟨_,rfl⟩;have RP:v.I8.length<=500:=by rw[<-hv,bu];split<;>first|(simp[aB];omega)|omega
   refine lb Unit (fun _=>⟨[(0,dP),(1,tI .i64 (g:Int)),(2,tI .i64 (k:Int)),(7,.r (.c (.ptr (7,0,0) 0))),(10,.r (.c (.ptr (10,0,0) 0)))],
    [(
     (0,0,0),some (rp C v (d-b_ C.p g) (7,0,1) (7,0,2))),((7,0,1),some (.dar 7 (itR v.I8) none)),((7,0,2),some (.dar 6 (scH (S++[(x,lv)])) none)),
     ((10,0,0),some (.box [.t (.int .i64 (g:Int)),.t (.lst 1 ((x.I9++[(k:Int)]).map aa)),.t (.lst 1 ((a_ C.p (g:Int)).map ah)),.t (.int .i64 (ba C x)),.t (.bool false),.own (10,0,1)])),((10,0,1),some (.arr true 1 []))],[10,7,0]⟩) ?_ ?_
   ·have g3:=cC C u (d-b_ C.p g) (scH (S++[(x,lv)])) 15 0 k x.I9 aal o_;unfold bu at hv
    cases QJ:u.start with
    | true=>
     rw[b9 QJ]at hv;subst hv;repeat' ((conv=>whnf);first|apply Wx|apply W6|refine cg g3 ?_|apply oi|apply fi|intro h|exact Y8|refine e_ rfl ?_)
     ·conv=>whnf
      refine⟨(),?_⟩;exact Z2
     ·exfalso;simp_all
    | false=>
     rw[b8 (by simp[QJ])]at hv;subst hv;repeat' ((conv=>whnf);first|apply Wx|apply W6|refine cg g3 ?_|apply oi|apply fi|intro h|exact Y8|refine e_ rfl ?_)
     ·exfalso;simp_all
     ·conv=>whnf
      refine⟨(),?_⟩;exact Z2
   intro _;have UD:ScOk C (bF C x k g) (cK ((S++[(x,lv)])++[(bF C x k g,[])])):=(by rw[lw];exact jg hC hx k ⟨y,hy,RF⟩);obtain⟨ye,ye1,ye2,ye3,ye4,_⟩:=UD.endE hC
   have hye:dq C.p (bF C x k g).f-(bF C x k g).f<=9:=by rw[ye4];have:bA C.p (g:Int)=(ye:Int):=(by rw[bc];exact aU ye1);show ye-g<=9;omega
   have h3:=vq (n:=lev) o_
   have Zf:=hL (bF C x k g) (S++[(x,lv)]) v (d-b_ C.p g) UD (by
    have:=A2 hye (show 20*dc lev+3<=20*8679837+3 by omega)
    omega) (by simp only[c7,d6,e8];omega) q3 o_
   have Su:(scH (S++[(x,lv)])).length=S.length+1:=s_;obtain⟨r,hr⟩:∃r,aZ C (bg C lev) (bF C x k g) (cK ((S++[(x,lv)])++[(bF C x k g,[])])) (d-b_ C.p g) v=r:=⟨_,rfl⟩;rw[hr]at Zf;have Vg:(scH ((S++[(x,lv)])++[(bF C x k g,r.2)])).length=S.length+2:=s_;have Sr:IntKind.i64.wrap (((scH ((S++[(x,lv)])++[(bF C x k g,r.2)])).length:Int)-1)=((S.length+1:Nat):Int):=(by rw[Vg,c8 _ o_];omega);have T9:S.length+1<(scH ((S++[(x,lv)])++[(bF C x k g,r.2)])).length:=o_;have XO:(scH ((S++[(x,lv)])++[(bF C x k g,r.2)]))[S.length+1]?=some (mI (bF C x k g) r.2):=s_;have ac3:=dh r.2;repeat' ((conv=>whnf);first|(with_reducible apply W1;fail_if_success (with_reducible show Wo _ _ _ _ (Code.region 23 _ _) _ _))|(with_reducible first|apply W2|apply W3|apply W4|apply W5|apply W6|apply W7|apply W8|apply W9)|apply au|refine cg Zf ?_|apply oi|apply fi|intro h|refine⟨S.length+1,Sr,T9,?_⟩|refine⟨_,XO,?_⟩|exact Y8|refine e_ rfl ?_)
   all_goals try exact⟨⟨by rw[Su];simp<;>omega,by rw[Su];simp<;>omega⟩⟩
   all_goals try exact⟨ac3⟩
   all_goals try exact⟨by simp[bF,aa]⟩
   conv=>whnf
   refine lC ⟨[(0,dP),(13,tI .i64 (d-b_ C.p g)),(14,.r (.c (.t (.lst 1 (r.2.map aa)))))],
    [((0,0,0),some (rp C r.1 (d-b_ C.p g) (127,0,1) (127,0,2))),((127,0,1),some (.dar 7 (itR r.1.I8) none)),((127,0,2),some (.dar 6 ((scH ((S++[(x,lv)])++[(bF C x k g,r.2)])).set (S.length+1) ((mI (bF C x k g) r.2).set 5 (.t (.lst 1 (r.2.map aa))))) none))],_⟩ ?_ ?_ rfl ?_
   ·refine⟨.inl rfl,.inl rfl,.inr (.inl ⟨_,_,rfl,rfl,.inr (.inr ⟨_,rfl,rfl,?_⟩)⟩),trivial⟩;exact V147
   ·exact⟨.inr (.inl rfl),.inr (.inl rfl),.inr (.inr (.inr ⟨_,_,_,_,_,_,_,rfl,XO,d_,rfl,rfl,rfl⟩)),trivial⟩
   have ady:((scH ((S++[(x,lv)])++[(bF C x k g,r.2)])).set (S.length+1) ((mI (bF C x k g) r.2).set 5 (.t (.lst 1 (r.2.map aa))))).length=S.length+2:=(by rw[o8];exact Vg);have hw4:IntKind.i64.wrap ((((scH ((S++[(x,lv)])++[(bF C x k g,r.2)])).set (S.length+1) ((mI (bF C x k g) r.2).set 5 (.t (.lst 1 (r.2.map aa))))).length:Int)-1)=((S.length+1:Nat):Int):=(by rw[ady,c8 _ o_];omega);have aa5:S.length+1<=((scH ((S++[(x,lv)])++[(bF C x k g,r.2)])).set (S.length+1) ((mI (bF C x k g) r.2).set 5 (.t (.lst 1 (r.2.map aa))))).length:=o_
   have QF:((scH ((S++[(x,lv)])++[(bF C x k g,r.2)])).set (S.length+1) ((mI (bF C x k g) r.2).set 5 (.t (.lst 1 (r.2.map aa))))).take (S.length+1)=scH (S++[(x,lv)]):=by rw[H4 (d7 _),<-y8,List.take_left' s_]
   have RM:(r.2.map aa).length=r.2.length:=s_;have Uq:=Cr (lev:=lev) (rep:=bg C lev) (fun line g d s hg hr=>dQ hC lev line g d s UD hg hr) hC UD (d-b_ C.p g) v;have VK:=kj (lev:=lev) (rep:=bg C lev) (fun line g d s hg hr=>dQ hC lev line g d s UD hg hr) hC UD (d-b_ C.p g) v;rw[hr]at Uq VK;have acm:=VK.le;obtain⟨WR,Uq⟩:=Uq;have Xa:=A2 hye (show 20*dc lev+3<=20*8679837+3 by omega);repeat' ((conv=>whnf);first|apply Wx|apply W6|apply oi|apply fi|intro h|refine⟨S.length+1,hw4,aa5,?_⟩|exact Y8|refine e_ rfl ?_)
   conv=>whnf
   refine⟨{i:Nat//i<=r.2.length},fun q=>⟨[(0,dP),(13,tI .i64 (d-b_ C.p g)),(14,.r (.c (.t (.lst 1 (r.2.map aa))))),(15,tI .i64 (q.1:Int))],
    [((0,0,0),some (rp C r.1 (d-b_ C.p g) (127,0,1) (127,0,2))),((127,0,1),some (.dar 7 (itR (patchL r.1.I8 r.1.I8.length (r.2.take q.1))) none)),((127,0,2),some (.dar 6 (scH (S++[(x,lv)])) none))],[127,0]⟩,fun q=>r.2.length-q.1,⟨0,o_⟩,?_,?_⟩
   ·repeat' ((conv=>whnf);first|apply Wx|apply W6|apply oi|apply fi|intro h|exact Y8|refine e_ rfl ?_)
    all_goals first|exact⟨aa5⟩|exact⟨QF⟩
   intro⟨i,hi3⟩;dsimp only at hi3⊢;have Se:=eH (r.1.I8.length:Int) (r.2.take i) r.1.I8;have Vx:(itR (patchL r.1.I8 r.1.I8.length (r.2.take i))).length=r.1.I8.length:=(by rw[kP,Se]);by_cases Zr:i<r.2.length
   ·obtain⟨j,hj⟩:=ae Zr;obtain⟨j1,j2⟩:=Uq j (c9 hj);obtain⟨jn,rfl⟩:=i7 j1;have Q0:jn<(itR (patchL r.1.I8 r.1.I8.length (r.2.take i))).length:=(by rw[Vx];omega);obtain⟨it,Ry⟩:=ae (l:=patchL r.1.I8 r.1.I8.length (r.2.take i)) (k:=jn) (by rw[Se];omega);have QW:r.2.take (i+1)=r.2.take i++[(jn:Int)]:=(by rw[A0,hj];rfl);have XQ:=pH r.1.I8.length (jn:Int) (r.2.take i) r.1.I8;repeat' ((conv=>whnf);first|apply Wx|apply W6|apply oi|apply fi|intro h|refine⟨i,(aa jn),rfl,ab hj,?_⟩|refine⟨jn,rfl,Q0,?_⟩|refine⟨_,(gV Ry),?_⟩|exact Y6|refine e_ rfl ?_)
    conv=>whnf
    refine⟨⟨i+1,o_⟩,?_,KD⟩;repeat' ((conv=>whnf);first|apply Wx|apply W6|apply oi|apply fi|intro h|exact Y9|refine e_ rfl ?_)
    all_goals(refine⟨?_⟩;rw[Vx];dsimp only;rw[QW,XQ,lu Ry];rfl)
   ·have Sv:i=r.2.length:=o_;subst Sv;have Uz:aZ C (bg C lev) (bF C x k g) (cK (S++[(x,lv)])++[g]) (d-b_ C.p g) v=r:=(congrArg (fun l=>aZ C (bg C lev) (bF C x k g) l (d-b_ C.p g) v) (by simp[bF])).trans hr
    have QO:bg C (lev+1) x (cK (S++[(x,lv)])) k g d s=⟨patchL r.1.I8 r.1.I8.length r.2,r.1.J4,r.1.start⟩:=by show fH C (aZ C (bg C lev)) x (cK (S++[(x,lv)])) k g d s=_;unfold fH;rw[RG,hv,Uz]
    rw[QO];rw[A3];repeat' ((conv=>whnf);first|apply Wx|apply W6|apply oi|apply fi|intro h|exact Y6|refine e_ rfl ?_)
    all_goals try exact⟨congrArg (fun z:Gs=>Tr.bool z.start) QO.symm⟩
    all_goals try exact⟨congrArg (fun z:Gs=>itR z.I8) QO.symm⟩
    all_goals try exact⟨congrArg (fun z:Gs=>Tr.int .i64 z.J4) QO.symm⟩
    all_goals try exact Q15
theorem V105{p:Prop}(h:p:=by
 rcases Nat.lt_or_eq_of_le QI with h'|h'
 ·exact h'
 ·subst h';obtain⟨z,hz,Yo⟩:=bn he;rw[hl]at hz;injection hz with hz;subst hz
  exact absurd Yo h):p:=h
theorem V110{p:Prop}(h:p:=by
 obtain⟨l0,q1,q2⟩:=hx.fn;obtain⟨e',q3,_,_,q4⟩:=hC.fn _ _ q1 q2;rw[he]at q3;injection q3 with q3;subst q3
 exact(q4 k ln o_ (Ul h) hl).2.1):p:=h
theorem V25{p:Prop}(h:p:=by
 repeat' ((conv=>whnf);first|apply Wx|apply W6|refine cg gEm ?_|apply oi|apply fi|intro h|refine cl gEn ?_|refine⟨(f_ C.p k),y.tr,rfl,ab hy,?_⟩|refine⟨f_ C.p k,rfl,Tk,?_⟩|refine⟨_,Zt,?_⟩|exact Y11|refine e_ rfl ?_)
 all_goals try exact Q6
 conv=>whnf
 refine⟨⟨f_ C.p k+1,o_,o_⟩,?_,KD⟩;repeat' ((conv=>whnf);first|apply Wx|apply W6|apply oi|apply fi|intro h|exact Y9|refine e_ rfl ?_)
 all_goals(refine⟨?_⟩;dsimp only;rw[b9 o_,a1])):p:=h
theorem Q35{p:Prop}(h:p:=by exact⟨⟨by rw[Zg];simp<;>omega,by rw[Zg];simp<;>omega⟩⟩):p:=h
theorem Jp {C:Cx}(hC:CxOk C){lev:Nat}(hE:PZ C lev):CB C lev:=by
 intro x S s d hx QG R8 Vk Zq;refine ax hΓ aF func198 rfl d_ rfl rfl ?_;rw[lw]at hx;rw[lw];dsimp only at hx⊢;obtain⟨e,he,Xf,QP,Tm,Sk⟩:=hx.endE hC;have SA:=hC.len;have hin:=hC.inl;have Su:∀lv:List Int,(scH (S++[(x,lv)])).length=S.length+1:=fun lv=>s_;have P9:∀lv:List Int,(scH (S++[(x,lv)]))[S.length]?=some (mI x lv):=fun lv=>s_;have O4:∀lv:List Int,S.length<(scH (S++[(x,lv)])).length:=fun lv=>by rw[Su];omega
 have hw:∀lv:List Int,IntKind.i64.wrap (((scH (S++[(x,lv)])).length:Int)-1)=(S.length:Int):=fun lv=>by rw[Su,c8 _ o_];omega
 have gE:=bW C.p (x.f:Int) o_;rw[show bA C.p (x.f:Int)=(e:Int) by rw[bc];exact aU he]at gE;have Se:(C.p.map Qt.tr).length=C.p.length:=s_;have Wa:(((C.p.map Qt.tr).length:Nat):Int)=(C.p.length:Int):=by rw[Se]
 have U2:C.p.length<=9223372036854775807:=o_;have hm3:C.p.length*8<=140737488355328:=o_;have h3:=vq (n:=lev) o_
 have Rx:x.I9.length<=100:=by have:=hx.I9;rw[c7,d9]at this;simp only[d6,e8]at this;omega
 have VN:0<=x.first/\x.first<=1000:=by have:=hx.first;rw[c7,d9]at this;simp only[d6,e8]at this;omega
 obtain⟨R,hR⟩:∃R,fh C (bg C lev) x (cK S++[x.f]) d (e+1-(x.f+1)) (x.f+1) (cz C s)=R:=⟨_,rfl⟩
 have QO:aZ C (bg C lev) x (cK S++[x.f]) d s=(R.g,R.lv):=by unfold aZ;rw[Tm,show e-x.f=e+1-(x.f+1) by omega,hR]
 rw[QO];rw[Tm]at QG;have UN:LInv C lev x (cK S++[x.f]) d e R (x.f+1) (cz C s):=⟨d7 _,o_,by simp[cz],by simp[cz],fun i h1 h2=>o_,⟨by simp[cz],fun j hj=>by simp[cz]at hj⟩,by rw[show e+1-(x.f+1)=e-x.f by omega];exact QG,hR⟩;repeat' ((conv=>whnf);first|apply Wx|apply W6|apply oi|apply fi|intro h|refine⟨S.length,hw [],O4 [],?_⟩|refine⟨_,P9 [],?_⟩|refine cl gE ?_|refine⟨C.p.length,Wa,Wa,U2,hm3,?_⟩|exact Y8|refine e_ rfl ?_)
 conv=>whnf
 refine⟨{q:Nat×Ls×List Qs//LInv C lev x (cK S++[x.f]) d e R q.1 q.2.1/\q.2.2.length=q.2.1.g.I8.length/\(q.1<=e->dV q.2.2 q.2.2.length (q.1:Int) (bJ C.p q.2.1.pos (x.f+1) (q.1-(x.f+1)))=q.2.1.g.I8)/\(q.1=e+1->q.2.2=q.2.1.g.I8)},
  fun q=>⟨[(0,dP),(2,tI .i64 (x.f:Int)),(3,Bu x.I9),(4,tI .i64 (e:Int)),(5,.r (.c (.own (5,0,0)))),(6,.r (.c (.own (6,0,0)))),(7,tI .i64 (q.1.1:Int))],
   [((0,0,0),some (rp C ⟨q.1.2.2,q.1.2.1.g.J4,q.1.2.1.g.start⟩ d (5,0,1) (5,0,2))),((5,0,1),some (.dar 7 (itR q.1.2.2) none)),((5,0,2),some (.dar 6 (scH (S++[(x,q.1.2.1.lv)])) none)),((5,0,0),some (.arr false 1 (q.1.2.1.J6.map aa))),((6,0,0),some (.arr false 2 ((bJ C.p q.1.2.1.pos (x.f+1) (q.1.1-(x.f+1))).map oH)))],[6,5,0]⟩,
  fun q=>e+1-q.1.1,⟨(x.f+1,cz C s,s.I8),UN,rfl,fun _=>by rw[v6];rfl,fun _=>rfl⟩,?_,?_⟩
 ·repeat' ((conv=>whnf);first|apply Wx|apply W6|apply oi|apply fi|intro h|exact Y9|refine e_ rfl ?_)
  ·exact⟨by simp[cz,aa]⟩
  ·exact⟨by dsimp only;rw[v6];rfl⟩
 intro⟨⟨k,L,u⟩,hI,XX,aaB,XS⟩;dsimp only at hI XX aaB XS⊢;by_cases QI:k<=e
 ·obtain⟨ln,hl⟩:=ae (l:=C.p) (k:=k) o_;have h0:=fQ hC hx he hI.lo QI hl;obtain⟨S9,TX,_,RZ,To⟩:=hC.line _ _ hl;obtain⟨Tz,Sp⟩:=nA hC hl;have WS:=hI.lo;have hIr:=hI.room;have hIh:=hI.J6;have hIp:=hI.pos;have WR:=hI.lv.1
  have YL:L.g.I8.length+20*dc lev+3<=68719476736:=by obtain⟨n,hn⟩:∃n,e+1-k=n+1:=⟨e-k,o_⟩;rw[hn,p8]at hIr;omega
  have UU:=rQ C.p L.pos (x.f+1) (k-(x.f+1))
  have aaN:∀z∈bJ C.p L.pos (x.f+1) (k-(x.f+1)),0<=z.2/\z.2<(L.g.I8.length:Int):=fun z hz=>by
   obtain⟨i,i1,i2,i3,rfl⟩:=nK hz;exact hI.at_ i o_ o_ i3
  have gP:=sV C ⟨u,L.g.J4,L.g.start⟩ d (scH (S++[(x,L.lv)])) (bJ C.p L.pos (x.f+1) (k-(x.f+1))) k (by unfold ca;dsimp only;omega) o_ (by dsimp only;rw[XX];exact aaN);rw[aaB QI]at gP;obtain⟨A,hA⟩:∃A,dn C (bg C lev) x (cK S++[x.f]) d k ln L=A:=⟨_,rfl⟩;have hN:=LInv.next hC hx he hI QI hl;rw[hA]at hN;obtain⟨Yh,YU⟩:=HB hC hx he WS QI hl A;obtain⟨b1,b2,b3,b4,b5,b6⟩:=rX (C:=C) (x:=x) k ln A;have hQ:LInv C lev x (cK S++[x.f]) d e R (k+1) (bf C x k ln A)/\A.g.I8.length=(bf C x k ln A).g.I8.length/\(k+1<=e->dV A.g.I8 A.g.I8.length ((k+1:Nat):Int) (bJ C.p (bf C x k ln A).pos (x.f+1) (k+1-(x.f+1)))=(bf C x k ln A).g.I8)/\(k+1=e+1->A.g.I8=(bf C x k ln A).g.I8):=⟨hN,b4.symm,fun h=>by rw[b2];exact Yh h,fun h=>YU o_⟩;have hIl:k<(L.J6.map aa).length:=by rw[d9,hIh];omega
  have S6:ca L.g:=by unfold ca;omega
  have Sj:=kP L.g.I8
  have Ul:ln.J0≠7->k<e:=fun h=>by
   exact V105
  have Rt:ln.J0≠7->qm C ln.L0:=fun h=>by
   exact V110
  obtain⟨g1,UP⟩:∃g1,dk C (bg C lev) x (cK S++[x.f]) k (exL ln.L0) d ⟨L.g.I8,L.g.J4,true⟩=g1:=⟨_,rfl⟩
  have hX:bq ln.L0=true->ln.J0≠7->bh prog 244 [dP,tI .i64 (k:Int),tI .i64 (0:Int)] (jE (0,0,1) (0,0,2) C ⟨L.g.I8,L.g.J4,true⟩ d (scH (S++[(x,L.lv)]))) (tI .i64 ((0+(exL ln.L0).toks.length:Nat):Int)) (jE (1,0,1) (1,0,2) C g1 (d+1) (scH (S++[(x,L.lv)]))):=fun Sd hx7=>by
   obtain⟨eo,et⟩:=mA Sd;have YB:(exL ln.L0).toks.length<=20:=(by rw[<-et];exact RZ);have hmu:=m5 (dc lev) YB;have:=hE (exL ln.L0) x S L.lv k 0 ln ⟨L.g.I8,L.g.J4,true⟩ d eo (by rw[lw];exact hx) hl ⟨[],by rw[A1,m7];exact et⟩ (Rt hx7) ⟨g_,R8,Vk,o_⟩;rw[lw]at this;dsimp only at this;rw[UP]at this;exact this
  have hG:bq ln.L0=true->g1.I8.length<=L.g.I8.length+20*dc lev:=fun Sd=>by
   have:=(nD (x:=x) (ins:=cK S++[x.f]) (rep:=bg C lev) (line:=k) (lev:=lev) (fun g d s hg hr=>dQ hC lev k g d s hx hg hr) hC hl Sd d ⟨L.g.I8,L.g.J4,true⟩).le;rw[UP]at this;exact this
  have hhr:(L.J6.map aa)[k]?=some (aa (atL L.J6 k)):=by rw[j9];have:k<L.J6.length:=o_;rw[i9 this,atL,i9 this];rfl
  have hhs:∀v:Int,(L.J6.map aa).set k [.int .i64 v]=(L.J6.set k v).map aa:=fun v=>by simp[C7,aa]
  unfold dn at hA;rw[UP]at hA;dsimp only at hA;have Vf:ln.J0=4\/ln.J0=7\/ln.J0=1\/ln.J0=2\/ln.J0=6\/(ln.J0=3\/ln.J0=5):=o_;rcases Vf with h4|h7|h1|h2|h6|TY
  ·
   rw[b9 h4]at hA;have a1:A.g.I8=bv (aB C L.g d 10 0 k x.I9).I8 (atL L.pos (f_ C.p k)) (aB C L.g d 10 0 k x.I9).I8.length:=(by rw[<-hA]);have a2:A.g.J4=L.g.J4:=(by rw[<-hA];rfl);have a3:A.g.start=false:=(by rw[<-hA];rfl);have a4:A.J6=L.J6:=(by rw[<-hA]);have a5:A.pos=L.pos.set k L.g.I8.length:=(by rw[<-hA]);have a6:A.lv=L.lv:=(by rw[<-hA]);obtain⟨o1,o2,o3,o4⟩:=hx.own4 hC he o_ QI hl h4;obtain⟨y,m,hy,y3,hm,_⟩:=aP o1;have U3:=aL hl;have Vh:eV C.p k=bA C.p (f_ C.p k:Int)+1:=(by unfold eV;rw[b9 o_]);have QY:=gG C.p (f_ C.p k);have Wh:bJ C.p L.pos (x.f+1) (k-(x.f+1))++[(eV C.p k,(L.g.I8.length:Int))]=bJ C.p (L.pos.set k L.g.I8.length) (x.f+1) (k+1-(x.f+1)):=yJ WS aaY (by rw[hIp];omega) _;have gEm:=cC C L.g d (scH (S++[(x,L.lv)])) 10 0 k x.I9 S6 Rx
   have gP2:=sV C (aB C L.g d 10 0 k x.I9) d (scH (S++[(x,L.lv)])) (bJ C.p (L.pos.set k L.g.I8.length) (x.f+1) (k+1-(x.f+1))) (-(k:Int)) aas (by have:=rQ C.p (L.pos.set k L.g.I8.length) (x.f+1) (k+1-(x.f+1));omega) (fun z hz=>by
    rw[<-Wh,f0]at hz;simp only[aB,c7,d6,e8];rcases hz with hz|hz
    ·have:=aaN z hz;omega
    ·simp only[d8,m8,or_false]at hz;subst hz;dsimp only
     omega)
   rw[HQ hC hx he WS QI hl h4,eO o_]at gP2;have XT:IntKind.i64.wrap (0-(k:Int))= -(k:Int):=(by rw[c8 _ o_];omega);rw[<-XT]at gP2;repeat' ((conv=>whnf);first|apply Wx|apply W6|refine cg gP ?_|apply oi|apply fi|intro h|refine⟨k,ln.tr,rfl,ab hl,?_⟩|exact Y11|refine e_ rfl ?_)
   conv=>whnf
   refine⟨{i:Nat//x.f<=i/\i<=k},fun q=>⟨[(0,dP),(2,tI .i64 (x.f:Int)),(3,Bu x.I9),(4,tI .i64 (e:Int)),(5,.r (.c (.own (5,0,0)))),(6,.r (.c (.own (6,0,0)))),(7,tI .i64 (k:Int)),(9,tI .i64 (q.1:Int))],
    [((0,0,0),some (rp C L.g d (5,0,1) (5,0,2))),((5,0,1),some (.dar 7 (itR L.g.I8) none)),((5,0,2),some (.dar 6 (scH (S++[(x,L.lv)])) none)),((5,0,0),some (.arr false 1 (L.J6.map aa))),((6,0,0),some (.arr false 2 ((bJ C.p L.pos (x.f+1) (k-(x.f+1))++(if f_ C.p k<q.1 then [(eV C.p k,(L.g.I8.length:Int))]else [])).map oH)))],[6,5,0]⟩,
    fun q=>k-q.1,⟨x.f,o_,o_⟩,?_,?_⟩
   ·repeat' ((conv=>whnf);first|apply Wx|apply W6|apply oi|apply fi|intro h|exact Y8|refine e_ rfl ?_)
    all_goals exact⟨by rw[b8 g_];simp⟩
   intro⟨i,UJ,UX⟩;dsimp only at UJ UX⊢;by_cases RB:i<k
   ·have gEl:=gR C.p (i:Int) o_;by_cases S4:i=f_ C.p k
    ·subst S4;rw[show bi C.p (f_ C.p k:Int)=(k:Int) by rw[bZ];exact aU o1]at gEl;have gEn:=bW C.p (f_ C.p k:Int) o_;rw[b8 o_,m7];have Zg:((bJ C.p L.pos (x.f+1) (k-(x.f+1))).map oH).length=(bJ C.p L.pos (x.f+1) (k-(x.f+1))).length:=s_;have Sj:=kP L.g.I8;repeat' ((conv=>whnf);first|apply Wx|apply W6|apply oi|apply fi|intro h|refine cl gEl ?_|refine cl gEn ?_|exact Y6|refine e_ rfl ?_)
     all_goals try exact Q6
     all_goals try exact Q35
     conv=>whnf
     refine⟨⟨f_ C.p k+1,o_,o_⟩,?_,KD⟩;repeat' ((conv=>whnf);first|apply Wx|apply W6|apply oi|apply fi|intro h|exact Y9|refine e_ rfl ?_)
     all_goals(refine⟨?_⟩;dsimp only;rw[b9 o_,Vh,Sj,c8 _ o_];simp)
    ·have P2:bi C.p (i:Int)≠(k:Int):=fun hh=>by
      rw[bZ]at hh
      cases hz:i_ C.p i with
      | none=>rw[hz]at hh;simp only[cn]at hh;omega
      | some j=>rw[hz]at hh;simp only[cn]at hh;have:j=k:=o_;subst this;exact S4 (lG hz o1)
     generalize bi C.p (i:Int)=el at *
     repeat' ((conv=>whnf);first|apply Wx|apply W6|apply oi|apply fi|intro h|refine cl gEl ?_|exact Y6|refine e_ rfl ?_)
     ·exact absurd (z8 h) P2
     ·conv=>whnf
      refine⟨⟨i+1,o_,o_⟩,?_,KD⟩;repeat' ((conv=>whnf);first|apply Wx|apply W6|apply oi|apply fi|intro h|exact Y9|refine e_ rfl ?_)
      all_goals(refine⟨?_⟩;dsimp only;congr 2)
      all_goals(by_cases hh:f_ C.p k<i)
      all_goals first|rw[b9 hh,b9 o_]|rw[b8 hh,b8 o_]
   ·have Sv:i=k:=o_;subst Sv;rw[b9 o3,Wh];repeat' ((conv=>whnf);first|apply Wx|apply W6|refine cg gEm ?_|refine cg gP2 ?_|apply oi|apply fi|intro h|exact Y6|refine e_ rfl ?_)
    conv=>whnf
    refine⟨⟨(i+1,bf C x i ln A,A.g.I8),hQ⟩,?_,KD⟩;repeat' ((conv=>whnf);first|apply Wx|apply W6|apply oi|apply fi|intro h|exact Y9|refine e_ rfl ?_)
    all_goals(refine⟨?_⟩;dsimp only;simp only[b1,b2,b3,b5,b6,a1,a2,a3,a4,a5,a6];try rfl)
  ·
   rw[b8 o_,b9 h7]at hA;obtain⟨o1,o2⟩:=hx.own7 hC he o_ QI hl h7;have RX:bJ C.p L.pos (x.f+1) (k+1-(x.f+1))=bJ C.p L.pos (x.f+1) (k-(x.f+1)):=nB WS (by unfold jumps;rw[aL hl,h7];decide);rcases o2 with⟨o2,o3⟩|⟨o2,o3,o4,y,hy,o5⟩
   ·subst o2;rw[b9 o3]at hA;have gN:=mu C L.g d (scH (S++[(x,L.lv)])) 0 k x.I9 S6 Rx o_;have gL:=uh C hC (aB C L.g d 0 0 k x.I9) (d+1) S x L.lv k true aas Rx o_ o_ o_ L.J6 L.pos;rw[show be C x k true (d+1) ⟨aB C L.g d 0 0 k x.I9,L.J6,L.pos,L.lv⟩=A from hA,G0]at gL;have a4:A.J6=L.J6:=(by rw[<-hA];unfold be;(repeat' split)<;>rfl);have a5:A.pos=L.pos:=(by rw[<-hA];unfold be;(repeat' split)<;>rfl);repeat' ((conv=>whnf);first|apply Wx|apply W6|refine cg gP ?_|refine cg gN ?_|refine cg gL ?_|apply oi|apply fi|intro h|refine⟨k,ln.tr,rfl,ab hl,?_⟩|exact Y11|refine e_ rfl ?_)
    all_goals try exact Q6
    conv=>whnf
    refine⟨⟨(k+1,bf C x k ln A,A.g.I8),hQ⟩,?_,KD⟩;repeat' ((conv=>whnf);first|apply Wx|apply W6|apply oi|apply fi|intro h|exact Y9|refine e_ rfl ?_)
    all_goals(refine⟨?_⟩;dsimp only;simp only[b1,b2,b3,b5,b6,a4,a5,RX];try rfl)
   ·rw[b8 o_]at hA;have Vm:=aL hy;have gEm:=cC C L.g d (scH (S++[(x,L.lv)])) 10 (atL L.J6 (f_ C.p k)) k x.I9 S6 Rx;have a4:A.J6=L.J6:=(by rw[<-hA];split<;>rfl);have a5:A.pos=L.pos:=(by rw[<-hA];split<;>rfl);have a6:A.lv=L.lv:=(by rw[<-hA];split<;>rfl);have a1:A.g=if j_ C.p (f_ C.p k)=5 then aB C L.g d 10 (atL L.J6 (f_ C.p k)) k x.I9 else L.g:=by rw[<-hA];split<;>rfl
    have UT:bA C.p (f_ C.p k:Int)=(k:Int):=by rw[bc];exact aU o1
    have Zt:(L.J6.map aa)[f_ C.p k]?=some (aa (atL L.J6 (f_ C.p k))):=by rw[j9];have:f_ C.p k<L.J6.length:=o_;rw[i9 this,atL,i9 this];rfl
    have Tk:f_ C.p k<(L.J6.map aa).length:=(by rw[d9];omega);repeat' ((conv=>whnf);first|apply Wx|apply W6|refine cg gP ?_|apply oi|apply fi|intro h|refine⟨k,ln.tr,rfl,ab hl,?_⟩|exact Y11|refine e_ rfl ?_)
    conv=>whnf
    refine⟨{i:Nat//x.f+1<=i/\i<=k},fun q=>⟨[(0,dP),(2,tI .i64 (x.f:Int)),(3,Bu x.I9),(4,tI .i64 (e:Int)),(5,.r (.c (.own (5,0,0)))),(6,.r (.c (.own (6,0,0)))),(7,tI .i64 (k:Int)),(11,tI .i64 (q.1:Int))],
     [((0,0,0),some (rp C (if f_ C.p k<q.1 then A.g else L.g) d (5,0,1) (5,0,2))),((5,0,1),some (.dar 7 (itR (if f_ C.p k<q.1 then A.g else L.g).I8) none)),((5,0,2),some (.dar 6 (scH (S++[(x,L.lv)])) none)),((5,0,0),some (.arr false 1 (L.J6.map aa))),((6,0,0),some (.arr false 2 ((bJ C.p L.pos (x.f+1) (k-(x.f+1))).map oH)))],[6,5,0]⟩,
     fun q=>k-q.1,⟨x.f+1,o_,o_⟩,?_,?_⟩
    ·repeat' ((conv=>whnf);first|apply Wx|apply W6|apply oi|apply fi|intro h|exact Y8|refine e_ rfl ?_)
     all_goals try(refine⟨?_⟩;dsimp only;rw[b8 o_];done)
     all_goals try exact Q15
    intro⟨i,UJ,UX⟩;dsimp only at UJ UX⊢;by_cases RB:i<k
    ·have gEn:=bW C.p (i:Int) o_;obtain⟨z,hz⟩:=ae (l:=C.p) (k:=i) o_;by_cases S4:i=f_ C.p k
     ·subst S4;rw[UT]at gEn;rw[hy]at hz;injection hz with hz;subst hz;rw[b8 o_];by_cases h5:y.J0=5
      ·rw[b9 o_]at a1;exact V25
      ·rw[b8 o_]at a1;exact V25
     ·have P2:bA C.p (i:Int)≠(k:Int):=fun hh=>by
       have h':=rC hh o_;rw[e7]at h';exact S4 (uT h' o1)
      generalize bA C.p (i:Int)=en at *
      repeat' ((conv=>whnf);first|apply Wx|apply W6|apply oi|apply fi|intro h|refine cl gEn ?_|refine⟨i,z.tr,rfl,ab hz,?_⟩|exact Y6|refine e_ rfl ?_)
      all_goals try(exfalso;exact P2 (z8 aav))
      conv=>whnf
      refine⟨⟨i+1,o_,o_⟩,?_,KD⟩
      have U6:(if f_ C.p k<i+1 then A.g else L.g)=if f_ C.p k<i then A.g else L.g:=by
       by_cases hh:f_ C.p k<i
       ·rw[b9 hh,b9 o_]
       ·rw[b8 hh,b8 o_]
      dsimp only;rw[U6];exact Z5
    ·have Sv:i=k:=o_;subst Sv;rw[b9 o4];repeat' ((conv=>whnf);first|apply Wx|apply W6|apply oi|apply fi|intro h|exact Y6|refine e_ rfl ?_)
     conv=>whnf
     refine⟨⟨(i+1,bf C x i ln A,A.g.I8),hQ⟩,?_,KD⟩;repeat' ((conv=>whnf);first|apply Wx|apply W6|apply oi|apply fi|intro h|exact Y9|refine e_ rfl ?_)
     all_goals(refine⟨?_⟩;dsimp only;simp only[b1,b2,b3,b5,b6,a4,a5,a6,RX];try rfl)
  ·
   rw[b8 o_,b8 o_,b9 h1]at hA;have Sd:=To (.inl h1);have gX:=hX Sd o_;have YZ:=hG Sd;have S3:=mN x.J3 ln.J7;have gI:=er x.J3 ln.J7 o_;have gS:=nl C hC g1 (d+1) (scH (S++[(x,L.lv)])) x (cN x.J3 ln.J7) k x.I9 aal Rx o_ VN o_;rw[G0]at gS;have a1:A.g=cX C x g1 (d+1) (cN x.J3 ln.J7) k x.I9:=(by rw[<-hA]);have a4:A.J6=L.J6.set k L.g.I8.length:=(by rw[<-hA]);have a5:A.pos=L.pos:=(by rw[<-hA]);have a6:A.lv=L.lv:=(by rw[<-hA]);have RX:bJ C.p L.pos (x.f+1) (k+1-(x.f+1))=bJ C.p L.pos (x.f+1) (k-(x.f+1)):=nB WS (by unfold jumps;rw[aL hl,h1];decide)
   generalize cN x.J3 ln.J7=ix at *
   repeat' ((conv=>whnf);first|apply Wx|apply W6|refine cg gP ?_|refine cg gX ?_|refine cg gS ?_|apply oi|apply fi|intro h|refine⟨k,ln.tr,rfl,ab hl,?_⟩|refine⟨k,rfl,hIl,?_⟩|refine⟨_,hhr,?_⟩|refine⟨S.length,hw L.lv,O4 L.lv,?_⟩|refine⟨_,P9 L.lv,?_⟩|refine cl gI ?_|exact Y11|refine e_ rfl ?_)
   conv=>whnf
   refine⟨⟨(k+1,bf C x k ln A,A.g.I8),hQ⟩,?_,KD⟩;repeat' ((conv=>whnf);first|apply Wx|apply W6|apply oi|apply fi|intro h|exact Y9|refine e_ rfl ?_)
   all_goals(refine⟨?_⟩;dsimp only;simp only[b1,b2,b3,b5,b6,a1,a4,a5,a6,RX,Sj,<-hhs];try rfl)
  ·
   rw[b8 o_,b8 o_,b8 o_,b9 h2]at hA;have Sd:=To (.inr (.inl h2));have gX:=hX Sd o_;have YZ:=hG Sd;have gS:=cC C g1 (d+1) (scH (S++[(x,L.lv)])) 17 0 k x.I9 aal Rx;have a1:A.g=aB C g1 (d+1) 17 0 k x.I9:=(by rw[<-hA]);have a4:A.J6=L.J6.set k L.g.I8.length:=(by rw[<-hA]);have a5:A.pos=L.pos:=(by rw[<-hA]);have a6:A.lv=L.lv:=(by rw[<-hA]);have RX:bJ C.p L.pos (x.f+1) (k+1-(x.f+1))=bJ C.p L.pos (x.f+1) (k-(x.f+1)):=nB WS (by unfold jumps;rw[aL hl,h2];decide);repeat' ((conv=>whnf);first|apply Wx|apply W6|refine cg gP ?_|refine cg gX ?_|refine cg gS ?_|apply oi|apply fi|intro h|refine⟨k,ln.tr,rfl,ab hl,?_⟩|refine⟨k,rfl,hIl,?_⟩|refine⟨_,hhr,?_⟩|exact Y11|refine e_ rfl ?_)
   conv=>whnf
   refine⟨⟨(k+1,bf C x k ln A,A.g.I8),hQ⟩,?_,KD⟩;repeat' ((conv=>whnf);first|apply Wx|apply W6|apply oi|apply fi|intro h|exact Y9|refine e_ rfl ?_)
   all_goals(refine⟨?_⟩;dsimp only;simp only[b1,b2,b3,b5,b6,a1,a4,a5,a6,RX,Sj,<-hhs];try rfl)
  ·
   rw[b8 o_,b8 o_,b8 o_,b8 o_,b9 h6]at hA;have Sd:=To (.inr (.inr (.inr (.inr h6))));have gX:=hX Sd o_;have YZ:=hG Sd;have gS:=uh C hC g1 (d+1) S x L.lv k false aal Rx o_ o_ o_ (L.J6.set k L.g.I8.length) L.pos;rw[hA,G0]at gS;have a4:A.J6=L.J6.set k L.g.I8.length:=(by rw[<-hA];unfold be;(repeat' split)<;>rfl);have a5:A.pos=L.pos:=(by rw[<-hA];unfold be;(repeat' split)<;>rfl);have RX:bJ C.p L.pos (x.f+1) (k+1-(x.f+1))=bJ C.p L.pos (x.f+1) (k-(x.f+1)):=nB WS (by unfold jumps;rw[aL hl,h6];decide);repeat' ((conv=>whnf);first|apply Wx|apply W6|refine cg gP ?_|refine cg gX ?_|refine cg gS ?_|apply oi|apply fi|intro h|refine⟨k,ln.tr,rfl,ab hl,?_⟩|refine⟨k,rfl,hIl,?_⟩|refine⟨_,hhr,?_⟩|exact Y11|refine e_ rfl ?_)
   conv=>whnf
   refine⟨⟨(k+1,bf C x k ln A,A.g.I8),hQ⟩,?_,KD⟩;repeat' ((conv=>whnf);first|apply Wx|apply W6|apply oi|apply fi|intro h|exact Y9|refine e_ rfl ?_)
   all_goals(refine⟨?_⟩;dsimp only;simp only[b1,b2,b3,b5,b6,a4,a5,RX,Sj,<-hhs];try rfl)
  ·
   rw[b8 o_,b8 o_,b8 o_,b8 o_,b8 o_]at hA;have Sd:=To o_;have gX:=hX Sd o_;have YZ:=hG Sd;have gS:=cC C g1 (d+1) (scH (S++[(x,L.lv)])) 11 0 k x.I9 aal Rx;have a1:A.g=aB C g1 (d+1) 11 0 k x.I9:=(by rw[<-hA]);have a4:A.J6=L.J6.set k L.g.I8.length:=(by rw[<-hA]);have a5:A.pos=L.pos.set k g1.I8.length:=(by rw[<-hA]);have a6:A.lv=L.lv:=(by rw[<-hA]);have U3:=aL hl;have RX:=yJ (pos:=L.pos) (p:=C.p) (f:=x.f) (k:=k) WS aaY (by rw[hIp];omega) (g1.I8.length:Int);have gEn:=bW C.p (k:Int) o_;have gEl:=gR C.p (k:Int) o_;have QY:=gG C.p k
   have X9:-1<=bi C.p (k:Int)/\bi C.p (k:Int)<=C.p.length:=by
    rw[bZ]
    cases hz:i_ C.p k with
    | none=>simp only[cn];omega
    | some j=>obtain⟨_,_,_,_,_,_,_,w,hw,_⟩:=aP hz;have:=aE hw;simp only[cn];omega
   have Vh:eV C.p k=if ln.J0=3/\0<=bi C.p (k:Int)then-bi C.p (k:Int)else bA C.p (k:Int)+1:=by unfold eV;rw[b8 o_,U3]
   have Zg:((bJ C.p L.pos (x.f+1) (k-(x.f+1))).map oH).length=(bJ C.p L.pos (x.f+1) (k-(x.f+1))).length:=s_;have aay:=kP g1.I8
   generalize eV C.p k=to at *
   generalize bA C.p (k:Int)=en at *
   generalize bi C.p (k:Int)=el at *
   have RI:IntKind.i64.wrap (en+1)=en+1:=(by rw[c8 _ o_]);have Sr:IntKind.i64.wrap (0-el)= - el:=(by rw[c8 _ o_];omega);repeat' ((conv=>whnf);first|apply Wx|apply W6|refine cg gP ?_|refine cg gX ?_|refine cg gS ?_|apply oi|apply fi|intro h|refine⟨k,ln.tr,rfl,ab hl,?_⟩|refine⟨k,rfl,hIl,?_⟩|refine⟨_,hhr,?_⟩|refine cl gEn ?_|refine cl gEl ?_|exact Y11|refine e_ rfl ?_)
   all_goals try exact Q35
   all_goals(conv=>whnf)
   all_goals(refine⟨⟨(k+1,bf C x k ln A,A.g.I8),hQ⟩,?_,KD⟩)
   repeat' ((conv=>whnf);first|apply Wx|apply W6|apply oi|apply fi|intro h|exact Y9|refine e_ rfl ?_)
   all_goals(refine⟨?_⟩;dsimp only;simp only[b1,b2,b3,b5,b6,a1,a4,a5,a6,<-RX,Sj,aay,<-hhs,RI,Sr];try rfl)
   all_goals first
    |(rw[Vh,b9 ⟨z8 aav,j5 aav⟩];simp)
    |(rw[Vh,b8 (fun hh=>absurd hh.2 (j6 aav))];simp)
    |(rw[Vh,b8 (fun hh=>by
                     have h9:(ln.J0==3)=false:=by assumption
                     rw[hh.1]at h9;cases h9)];simp)
 ·have Rh:k=e+1:=by have:=hI.hi;omega
  subst Rh;have hf:=hI.fin;rw[v6,fh]at hf;subst hf;rw[XS rfl];exact Z6
structure Qm where
 b:List UInt8
 i:Nat
 h:Int
def Qm.ok (c:Qm):Prop:=c.i<=c.b.length/\c.b.length<=1048576
abbrev mD (c:Qm):List (Sim.Id×AO):=[((0,0,0),.box [.t (.lst 1 (c.b.map bo)),.t (.int .i64 c.i),.t (.int .i64 c.h)])]
abbrev mz:AV:= .r (.c (.ptr (0,0,0) 0))
theorem PO (z:Int):∃x:Nat,x<256/\IntKind.i64.wrap ((BitVec.ofInt IntKind.i64.bits z &&& BitVec.ofInt IntKind.i64.bits 255).toNat:Int)=(x:Int):=by
 have e:(BitVec.ofInt 64 255).toNat=2^8-1:=d_
 have h:(BitVec.ofInt IntKind.i64.bits z &&& BitVec.ofInt IntKind.i64.bits 255).toNat<256:=by show(BitVec.ofInt 64 z &&& BitVec.ofInt 64 255).toNat<256;rw[BitVec.toNat_and,e,G9];omega
 generalize(BitVec.ofInt IntKind.i64.bits z &&& BitVec.ofInt IntKind.i64.bits 255).toNat=n at *
 exact⟨n,h,c8 _ o_⟩
def Fm (h:Int):Int:=IntKind.i64.wrap (IntKind.i64.wrap (h*6364136223846793005)+1442695040888963407)
theorem jc (c:Qm)(hc:c.ok):∃(x:Nat) (c':Qm),x<256/\c'.b=c.b/\c'.ok/\bh prog 194 [mz] (mD c) (tI .i64 x) (mD c'):=by
 obtain⟨hi,hl⟩:=hc;have U0:(c.b.map bo).length=c.b.length:=s_;obtain⟨x0,S5,YF⟩:=PO (IntKind.i64.wrap ((BitVec.ofInt IntKind.i64.bits ((Fm c.h).fdiv (2^min (Int.toNat 33) IntKind.i64.bits)) ^^^ BitVec.ofInt IntKind.i64.bits ((Fm c.h).fdiv (2^min (Int.toNat 45) IntKind.i64.bits))).toNat:Int));unfold Fm at YF;by_cases O4:c.i<c.b.length
 ·obtain⟨u,hu⟩:=ae O4;obtain⟨x,hx,he⟩:=PO (IntKind.i64.wrap ((x0:Int)+IntKind.i64.wrap (u.toNat:Int)));rw[<-YF]at he;refine⟨x,⟨c.b,c.i+1,Fm c.h⟩,hx,rfl,⟨g_,hl⟩,?_⟩;refine ax hΓ aF func194 rfl d_ rfl rfl ?_;repeat' ((conv=>whnf);first|apply Wx|apply W6|apply oi|apply fi|intro h|refine⟨c.i,(bo u),rfl,ab hu,?_⟩|exact Y6|refine e_ rfl ?_)
  all_goals try exact⟨congrArg (Tr.int _) he⟩
  all_goals try exact⟨K6⟩
  all_goals exact⟨rfl⟩
 ·refine⟨x0,⟨c.b,c.i,Fm c.h⟩,S5,rfl,⟨hi,hl⟩,?_⟩;refine ax hΓ aF func194 rfl d_ rfl rfl ?_;repeat' ((conv=>whnf);first|apply Wx|apply W6|apply oi|apply fi|intro h|exact Y6|refine e_ rfl ?_)
  all_goals try exact⟨congrArg (Tr.int _) YF⟩
  all_goals exact⟨rfl⟩
theorem xZ {x:Nat}{n:Int}(h:0<n):∃y:Nat,(y:Int)<n/\(x:Int).tmod n=(y:Int):=by have h1:=Int.tmod_nonneg n (Int.natCast_nonneg x);have h2:=Int.tmod_lt_of_pos (x:Int) h;obtain⟨y,hy⟩:=i7 h1;exact⟨y,o_,hy⟩
theorem cu (c:Qm)(n:Int)(hc:c.ok):∃(x:Nat) (c':Qm),(0<n->(x:Int)<n)/\(n<=0->x=0)/\c'.b=c.b/\c'.ok/\bh prog 130 [mz,tI .i64 n] (mD c) (tI .i64 x) (mD c'):=by
 by_cases h0:n<=0
 ·refine⟨0,c,o_,fun _=>rfl,rfl,hc,?_⟩;refine ax hΓ aF func130 rfl d_ rfl rfl ?_;exact Z6
 ·obtain⟨x1,c1,k1,b1,o1,g1⟩:=jc c hc;by_cases h2:n<=256
  ·obtain⟨y,hy,hm⟩:=xZ (x:=x1) (n:=n) o_;refine⟨y,c1,fun _=>hy,o_,b1,o1,?_⟩;refine ax hΓ aF func130 rfl d_ rfl rfl ?_;repeat' ((conv=>whnf);first|apply Wx|apply W6|refine cg g1 ?_|apply oi|apply fi|intro h|exact Y6|refine e_ rfl ?_)
   all_goals try exact⟨o_⟩
   all_goals exact⟨congrArg (Tr.int _) hm⟩
  ·obtain⟨x2,c2,k2,b2,o2,g2⟩:=jc c1 o1;obtain⟨x3,c3,k3,b3,o3,g3⟩:=jc c2 o2;obtain⟨x4,c4,k4,b4,o4,g4⟩:=jc c3 o3;obtain⟨y,hy,hm⟩:=xZ (x:=x1*16777216+x2*65536+x3*256+x4) (n:=n) o_;refine⟨y,c4,fun _=>hy,o_,((b4.trans b3).trans b2).trans b1,o4,?_⟩;refine ax hΓ aF func130 rfl d_ rfl rfl ?_;repeat' ((conv=>whnf);first|apply Wx|apply W6|apply oi|apply fi|intro h|exact Y6|refine e_ rfl ?_)
   refine cg (g1) ?_;repeat' ((conv=>whnf);first|apply Wx|apply W6|apply oi|apply fi|intro h|exact Y8|refine e_ rfl ?_)
   refine cg (g2) ?_;repeat' ((conv=>whnf);first|apply Wx|apply W6|apply oi|apply fi|intro h|exact Y8|refine e_ rfl ?_)
   refine cg (g3) ?_;repeat' ((conv=>whnf);first|apply Wx|apply W6|apply oi|apply fi|intro h|exact Y8|refine e_ rfl ?_)
   refine cg (g4) ?_;repeat' ((conv=>whnf);first|apply Wx|apply W6|apply oi|apply fi|intro h|exact Y8|refine e_ rfl ?_)
   all_goals try exact⟨o_⟩
   all_goals(
    have hw:IntKind.i64.wrap (IntKind.i64.wrap (IntKind.i64.wrap (IntKind.i64.wrap ((x1:Int)*16777216)+IntKind.i64.wrap ((x2:Int)*65536))+IntKind.i64.wrap ((x3:Int)*256))+(x4:Int))=((x1*16777216+x2*65536+x3*256+x4:Nat):Int):=by rw[c8 ((x1:Int)*16777216) o_,c8 ((x2:Int)*65536) o_,c8 ((x3:Int)*256) o_,c8 ((x1:Int)*16777216+(x2:Int)*65536) o_,c8 ((x1:Int)*16777216+(x2:Int)*65536+(x3:Int)*256) o_,c8 _ o_];omega
    exact⟨by rw[hw,hm]⟩)
theorem eS (c:Qm)(n:Int)(hc:c.ok):∃(x:Bool) (c':Qm),c'.b=c.b/\c'.ok/\bh prog 171 [mz,tI .i64 n] (mD c) (tB x) (mD c'):=by obtain⟨x,c',_,_,b1,o1,g1⟩:=cu c n hc;refine⟨(x:Int)==0,c',b1,o1,?_⟩;refine ax hΓ aF func171 rfl d_ rfl rfl ?_;repeat' ((conv=>whnf);first|apply Wx|apply W6|refine cg g1 ?_|apply oi|apply fi|intro h|exact Y8|refine e_ rfl ?_)
theorem lJ (c:Qm)(ns:List Int)(hc:c.ok)(hp:0<ns.length)(hl:ns.length<=1048576):∃(v:Int) (c':Qm),v∈ns/\c'.b=c.b/\c'.ok/\bh prog 129 [mz,.r (.c (.own (0,0,1)))] (mD c++[((0,0,1),.arr false 1 (ns.map aa))]) (tI .i64 v) (mD c'++[((0,0,1),.arr false 1 (ns.map aa))]):=by
 have O2:(ns.map aa).length=ns.length:=s_;obtain⟨x,c',h1,_,b1,o1,g1⟩:=cu c ((ns.map aa).length:Int) hc;rw[O2]at h1;obtain⟨v,hv⟩:=ae (l:=ns) (k:=x) o_;have U7:x<(ns.map aa).length:=by rw[O2];omega
 refine⟨v,c',c9 hv,b1,o1,?_⟩;refine ax hΓ aF func129 rfl d_ rfl rfl ?_;repeat' ((conv=>whnf);first|apply Wx|apply W6|refine cg g1 ?_|apply oi|apply fi|intro h|refine⟨x,rfl,U7,?_⟩|refine⟨(aa v),ab hv,?_⟩|exact Y8|refine e_ rfl ?_)
def aY (b:Ql):Bool:=af b.N3 0 63&&af b.M0 0 3
theorem lz (b:Ql):Sim.Spec prog 60 [.agg b.tr] (rB (aY b)):=by
 refine aW hΓ aF func60 rfl d_ rfl ?_;have h1:=bz b.N3 0 63;have h2:=bz b.M0 0 3;unfold aY
 generalize af b.N3 0 63=w1 at *
 generalize af b.M0 0 3=w2 at *
 repeat' ((conv=>whnf);first|apply Wx|apply W6|apply oi|apply fi|intro h|refine cl h1 ?_|refine cl h2 ?_|exact Y8|refine e_ rfl ?_)
 all_goals(refine⟨congrArg Tr.bool ?_⟩;simp_all)
theorem oe (c:Qm)(hc:c.ok):∃(b:Ql) (c':Qm),aY b=true/\c'.b=c.b/\c'.ok/\bh prog 95 [mz] (mD c) (.r (.agg (b.tr.map .t))) (mD c'):=by
 obtain⟨f,c1,k1,_,b1,o1,g1⟩:=cu c 64 hc;obtain⟨v,c2,hv,b2,o2,g2⟩:=lJ c1 [0,1,2,3] o1 d_ d_;obtain⟨x,c3,b3,o3,g3⟩:=eS c2 2 o2;obtain⟨y,c4,b4,o4,g4⟩:=eS c3 2 o3;refine⟨⟨f,v,x,y⟩,c4,?_,((b4.trans b3).trans b2).trans b1,o4,?_⟩
 ·have:=k1 o_;simp only[d8,m8,or_false]at hv;unfold aY;rw[within_iff.2 ⟨g_,g_⟩,within_iff.2 ⟨g_,g_⟩];rfl
 ·refine ax hΓ aF func95 rfl d_ rfl rfl ?_;repeat' ((conv=>whnf);first|apply Wx|apply W6|apply oi|apply fi|intro h|exact Y8|refine e_ rfl ?_)
  refine cg (g1) ?_;repeat' ((conv=>whnf);first|apply Wx|apply W6|apply oi|apply fi|intro h|exact Y8|refine e_ rfl ?_)
  refine cg (g2) ?_;repeat' ((conv=>whnf);first|apply Wx|apply W6|apply oi|apply fi|intro h|exact Y8|refine e_ rfl ?_)
  refine cg (g3) ?_;repeat' ((conv=>whnf);first|apply Wx|apply W6|apply oi|apply fi|intro h|exact Y8|refine e_ rfl ?_)
  refine cg (g4) ?_;exact Z2
theorem Ke {C:Cx}(hC:CxOk C):∀lev,LR C lev/\CB C lev:=by
 have hL:∀lev,LR C lev->CB C lev:=fun lev hR=>Jp hC fun e x S lv k p ln s d h1 h2 h3 h4 h5 h6=>FL hC hR e.toks.length e (d7 _) x S lv k p ln s d h1 h2 h3 h4 h5 h6;intro lev
 induction lev with
 | zero=>
  have hR:LR C 0:=by intro x S lv k g s d hx hk hg UA hr;obtain⟨r1,_⟩:=eM UA;have:=hr.depth;rw[show(cK (S++[(x,lv)])).length=S.length+1 by simp]at r1;omega
  exact⟨hR,hL 0 hR⟩
 | succ n ih=>have hR:=Oo hC ih.2;exact⟨hR,hL _ hR⟩
def Dj (frames f:Int):Bool:=IntKind.i64.wrap (BitVec.ofInt IntKind.i64.bits (frames.fdiv (2^min f.toNat IntKind.i64.bits)) &&& BitVec.ofInt IntKind.i64.bits 1).toNat==1
theorem Q8{p:Prop}(h:p:=by exfalso;rw[TN]at h;cases h;first|done|fail):p:=h
theorem V44{p:Prop}(h:p:=by
 rw[YE];repeat' ((conv=>whnf);first|apply Wx|apply W6|refine cg g2 ?_|refine cg gLs ?_|apply oi|apply fi|intro h|refine⟨0,rfl,s_,?_⟩|refine⟨_,hOl,?_⟩|exact Y8|refine e_ rfl ?_)
 all_goals try exact Q8
 all_goals first|exact⟨⟨_,rfl⟩⟩|exact⟨congrArg (Tr.int .i64) Zv.symm⟩):p:=h
theorem me (C:Cx)(hC:CxOk C)(f g:Nat)(hf:(aq C.p)[f]?=some g)(e3:C.J8=Dj C.b.N3 f)(e5:C.args=b_ C.p g):
  Sim.Spec prog 133 [tvP C.p,tvI (f:Int),.agg C.b.tr,tvI C.J1] (.tup [.c (.arr 7 ((cJ C g).I8.map Qs.tr)),.c (.t (.int .i64 (cJ C g).J4))]):=by
 refine aW hΓ aF func133 rfl d_ rfl ?_;obtain⟨X9,y,hy,RF⟩:=kN (c9 hf);have SA:=hC.len;have hw:=hC.J1;have hin:=hC.inl;have gF:=dC C.p o_;have gL:=ic C.p (g:Int) o_ (fun z hz=>bk hC.small hz);have hA:b_ C.p g=y.L3.length:=by rw[b_,hy]
 have h4:=(hC.line g y hy).2.2.1;have P7:f<(aq C.p).length:=aE hf;have SH:f<((aq C.p).map fun n:Nat=>aa n).length:=by rw[d9];exact P7
 have VP:((aq C.p).map fun n:Nat=>aa n)[f]?=some (aa (g:Int)):=by rw[j9,hf];rfl
 have Rs:=cW hC ⟨y,hy,RF⟩;have Wr:(y.L3.map ah).length=y.L3.length:=s_;have Sk:((a_ C.p (g:Int)).map ah).length=(a_ C.p (g:Int)).length:=s_;have hS:ScOk C (aO C g) [g]:=⟨⟨y,hy,RF⟩,rfl,⟨u6 _,by simp[aO]⟩,rfl,by simp[aO],fun _=>e5,rfl⟩;obtain⟨e,he1,S8,Z9,he4,_⟩:=hS.endE hC;obtain⟨O,hO⟩:∃O,aO C g=O:=⟨_,rfl⟩;have hOr:mI O []=[.d (.int .i64 (g:Int)),.t (.lst 1 []),.t (.lst 1 ((a_ C.p (g:Int)).map ah)),.d (.int .i64 0),.d (.bool true),.d (.lst 0 [])]:=by rw[<-hO,aO];rfl
 have hOl:(scH [(O,[])])[0]?=some [.d (.int .i64 (g:Int)),.t (.lst 1 []),.t (.lst 1 ((a_ C.p (g:Int)).map ah)),.d (.int .i64 0),.d (.bool true),.d (.lst 0 [])]:=by rw[<-hOr];rfl
 have g1:=fun code=>cC C ⟨[],(a_ C.p (g:Int)).length-C.args,false⟩ 0 (scH [(O,[])]) code C.J1 g [] (by unfold ca;simp) s_;have R8:((C.b.M0.toNat:Nat):Int)=C.b.M0:=C9 hin.1;have h3:=vq (n:=C.b.M0.toNat) o_
 have gLs:=(Ke hC C.b.M0.toNat).2 O [] (db C g) C.J1 (by rw[<-hO];exact hS) (by
  rw[<-hO,he4];have:=A2 (show e-(aO C g).f<=60 by omega) (show 20*dc C.b.M0.toNat+3<=20*8679837+3 by omega);simp only[db,aB,c7,e8,d6]
  omega) (by simpa using R8) hw.1 o_
 have hcg:aZ C (bg C C.b.M0.toNat) O (cK ([]++[(O,[])])) C.J1 (db C g)=aZ C (bg C C.b.M0.toNat) (aO C g) [g] C.J1 (db C g):=by rw[<-hO];rfl
 rw[hcg,r9,r9]at gLs;repeat' ((conv=>whnf);first|(with_reducible apply W1;fail_if_success (with_reducible show Wo _ _ _ _ (Code.region 4 _ _) _ _))|(with_reducible first|apply W2|apply W3|apply W4|apply W5|apply W6|apply W7|apply W8|apply W9)|apply au|apply oi|apply fi|intro h|refine cl gF ?_|refine⟨f,rfl,SH,?_⟩|refine⟨_,VP,?_⟩|refine⟨g,y.tr,rfl,ab hy,?_⟩|refine cl gL ?_|exact Y8|refine e_ rfl ?_)
 all_goals try exact⟨o_⟩
 all_goals try exact⟨gf _⟩
 conv=>whnf
 refine JQ (40,0,0) (rows':=[mI O []]) rfl ?_ ?_
 ·rw[hOr];refine⟨⟨rfl,fun q c d hc hd=>?_⟩,trivial⟩
  match q with|0=>simp at hc hd;subst hc;subst hd;exact .inl rfl|1=>simp at hc hd;subst hc;subst hd;exact .inr (.inr ⟨0,1,rfl,rfl⟩)|2=>simp at hc hd;subst hc;subst hd;exact .inr (.inl rfl)|3=>simp at hc hd;subst hc;subst hd;exact .inl rfl|4=>simp at hc hd;subst hc;subst hd;exact .inl rfl|5=>simp at hc hd;subst hc;subst hd;exact .inl rfl|q+6=>simp at hc
 refine oK ⟨[(0,vP C.p),(3,tI .i64 C.J1),(10,tI .i64 (g:Int)),(11,.r (.c (.ptr (33,0,0) 0)))],[((33,0,0),some (rp C ⟨[],0,false⟩ 0 (33,0,1) (33,0,2))),((33,0,1),some (.dar 7 (itR []) none)),((33,0,2),some (.dar 6 (scH [(O,[])]) none))],[40,38,33,13,6]⟩ ?_ ?_
 ·repeat' ((conv=>whnf);first|apply Wx|apply W6|apply oi|apply fi|intro h|exact Y8|refine e_ rfl ?_)
  all_goals try exact⟨by rw[e3];rfl⟩
  all_goals try exact⟨by rw[e5,hA,Wr]⟩
 have Zv:IntKind.i64.wrap ((((a_ C.p (g:Int)).map ah).length:Int)-C.args)=((a_ C.p (g:Int)).length:Int)-C.args:=by rw[Sk,c8 _ o_]
 cases TN:C.J8 with
 | true=>
  have hh:db C g=aB C ⟨[],(a_ C.p (g:Int)).length-C.args,false⟩ 0 13 C.J1 g []:=by rw[db,b9 TN]
  rw[hh]at gLs;have g2:=g1 13;have YE:cJ C g=(aZ C (bg C C.b.M0.toNat) (aO C g) [g] C.J1 (aB C ⟨[],(a_ C.p (g:Int)).length-C.args,false⟩ 0 13 C.J1 g [])).1:=by rw[cJ,hh]
  exact V44
 | false=>
  have hh:db C g=aB C ⟨[],(a_ C.p (g:Int)).length-C.args,false⟩ 0 15 C.J1 g []:=by rw[db,b8 (by simp[TN])]
  rw[hh]at gLs;have g2:=g1 15;have YE:cJ C g=(aZ C (bg C C.b.M0.toNat) (aO C g) [g] C.J1 (aB C ⟨[],(a_ C.p (g:Int)).length-C.args,false⟩ 0 15 C.J1 g [])).1:=by rw[cJ,hh]
  exact V44
theorem rD {C:Cx}(hC:CxOk C){g:Nat}(hg:bI C g)(e5:C.args=b_ C.p g):0<=(cJ C g).J4/\(cJ C g).J4<=1000:=by have hS:ScOk C (aO C g) [g]:=⟨hg,rfl,⟨u6 _,by simp[aO]⟩,rfl,by simp[aO],fun _=>e5,rfl⟩;have hG:=kj (lev:=C.b.M0.toNat) (rep:=bg C C.b.M0.toNat) (fun line g d s hg hr=>dQ hC _ line g d s hS hg hr) hC hS C.J1 (db C g);obtain⟨l1,l2⟩:=cW hC hg;have hm:(db C g).J4=(a_ C.p (g:Int)).length-C.args:=rfl;have h1:=hG.J4;have h2:=hG.cap (by rw[hm];omega);rw[hm]at h1;exact⟨B0 o_ h1,h2⟩
def ctx (p:List Qt)(f g:Nat)(b:Ql)(words:Int):Cx:=⟨p,b,Dj b.N3 f,words,b_ p g⟩
noncomputable def foldIf (p:List Qt) (b:Ql):List Qt:=if b.N9=true then p.map aC else p
noncomputable def jV (p:List Qt) (f:Nat) (b:Ql):List Qs:=match(aq (foldIf p b))[f]? with
 | some g=>(cJ (ctx (foldIf p b) f g b (cJ (ctx (foldIf p b) f g b 0) g).J4) g).I8
 | none=>[]
noncomputable def aG (p:List Qt) (f:Int) (b:Ql):List Qs:=
 if ak p=true/\aY b=true/\0<=f/\f<(aq p).length then jV p f.toNat b else []
theorem alike.funsF:∀{p q:List Qt},alike p q->∀i:Nat,funsF p i=funsF q i
 | [],[],_,_=>rfl
 | x::p,y::q,h,i=>by
  simp only[alike,p7,List.cons.injEq,Prod.mk.injEq]at h;have ih:=alike.funsF (p:=p) (q:=q) h.2
  rw[Go.Proofs.P.funsF,Go.Proofs.P.funsF,h.1.1,ih]
 | [],_::_,h,_=>by simp[alike]at h
 | _::_,[],h,_=>by simp[alike]at h
theorem iC (p:List Qt)(b:Ql):aq (foldIf p b)=aq p:=by
 unfold foldIf;split
 ·exact(dW p).funsF 0
 ·rfl
theorem PgOk.foldIf {p:List Qt}(h:PgOk p)(b:Ql):PgOk (foldIf p b):=by
 unfold Go.Proofs.P.foldIf;split
 ·exact h.fold
 ·exact h
theorem V150{p:Prop}(h:p:=by
 unfold aY at h2;simp only[d5,within_iff]at h2
 exact h2.2):p:=h
theorem V70{p:Prop}(h:p:=by
 simp only[ctx,e]at g0 g1
 repeat' ((conv=>whnf);first|apply Wx|apply W6|apply oi|apply fi|intro h|refine cl hP ?_|refine cl hB ?_|refine cl gF ?_|refine cl Tn ?_|refine cl g0 ?_|refine cl g1 ?_|exact Y6|refine e_ rfl ?_)):p:=h
theorem V109{p:Prop}(h:p:=by
 repeat' ((conv=>whnf);first|apply Wx|apply W6|apply oi|apply fi|intro h|refine cl hP ?_|refine cl hB ?_|refine cl gF ?_|exact Y6|refine e_ rfl ?_)):p:=h
theorem nN (p:List Qt)(f:Int)(b:Ql)(hs:aK 1048576 (.lst 4 (p.map Qt.tr))):Sim.Spec prog 64 [tvP p,tvI f,.agg b.tr] (rL 7 ((aG p f b).map Qs.tr)):=by
 refine aW hΓ aF func64 rfl d_ rfl ?_;have hP:=dz p hs;have hB:=lz b;have hl:=cP hs;have gF:=dC p o_;have P7:((aq p).map fun n:Nat=>aa n).length=(aq p).length:=s_;by_cases hc:ak p=true/\aY b=true/\0<=f/\f<(aq p).length
 ·have TE:aG p f b=jV p f.toNat b:=by rw[aG,b9 hc]
  rw[TE];obtain⟨h1,h2,h3,h4⟩:=hc;obtain⟨f,rfl⟩:=i7 h3;rw[e7];rw[h1]at hP;rw[h2]at hB
  have hb:0<=b.M0/\b.M0<=3:=by exact V150
  obtain⟨g,hg⟩:=ae (l:=aq p) (k:=f) o_;have Ti:=(nc hs h1).foldIf b;have UW:(aq (foldIf p b))[f]?=some g:=by rw[iC];exact hg
  obtain⟨X9,y,hy,RF⟩:=kN (c9 UW);have Uv:=(Ti.line g y hy).2.2.1;have ha:(0:Int)<=(b_ (foldIf p b) g:Int)/\(b_ (foldIf p b) g:Int)<=4:=by rw[b_,hy];dsimp only;omega
  have Va:CxOk (ctx (foldIf p b) f g b 0):=Ti.cx ha o_ hb;have hm:=rD Va ⟨y,hy,RF⟩ rfl;have hC1:CxOk (ctx (foldIf p b) f g b (cJ (ctx (foldIf p b) f g b 0) g).J4):=Ti.cx ha hm hb;have g0:=me _ Va f g UW rfl rfl;have g1:=me _ hC1 f g UW rfl rfl;have ZK:jV p f b=(cJ (ctx (foldIf p b) f g b (cJ (ctx (foldIf p b) f g b 0) g).J4) g).I8:=by rw[jV,UW]
  rw[ZK]
  generalize cJ (ctx (foldIf p b) f g b 0) g=R0 at *
  generalize cJ (ctx (foldIf p b) f g b R0.J4) g=R1 at *
  have Tn:=rt p hs;rw[show eE p=p.map aC by rw[eE,b9 h1]]at Tn;obtain⟨fr,inl,fold,sp⟩:=b
  cases fold with
  | true=>
   have e:foldIf p ⟨fr,inl,true,sp⟩=p.map aC:=rfl
   exact V70
  | false=>have e:foldIf p ⟨fr,inl,false,sp⟩=p:=rfl;exact V70
 ·have TE:aG p f b=[]:=by rw[aG,b8 hc]
  rw[TE]
  cases h1:ak p with
  | false=>
   rw[h1]at hP
   exact V109
  | true=>
   rw[h1]at hP
   cases h2:aY b with
   | false=>
    rw[h2]at hB
    exact V109
   | true=>rw[h2]at hB;have O8:¬(0<=f/\f<(aq p).length):=fun hh=>hc ⟨h1,h2,hh⟩;exact V109
def AG (l:List Qs):Prop:=∀it∈l,it.N0.length<=4
structure Cap (M t:Nat) (s s':Gs):Prop where
 le:s'.I8.length<=max s.I8.length M+t
 ch:AG s.I8->AG s'.I8
theorem Cap.refl {M:Nat}(s:Gs):Cap M 0 s s:=⟨o_,id⟩
theorem Cap.trans {M n m:Nat}{a b c:Gs}(h:Cap M n a b)(h':Cap M m b c):Cap M (n+m) a c:=⟨by have:=h.le;have:=h'.le;omega,fun x=>h'.ch (h.ch x)⟩
theorem Cap.mono {M n m:Nat}{a b:Gs}(h:Cap M n a b)(hn:n<=m):Cap M m a b:=⟨by have:=h.le;omega,h.ch⟩
theorem cO {M:Nat}(C:Cx)(s:Gs)(d code arg line:Int){chain:List Int}(hc:chain.length<=4):Cap M 1 s (aB C s d code arg line chain):=by
 refine⟨by simp only[aB,c7,d6,e8];omega,fun h it Ry=>?_⟩;simp only[aB,f0,d8,m8,or_false]at Ry;rcases Ry with Ry|rfl
 ·exact h it Ry
 ·exact hc
theorem vt {l:List Qs}(h:AG l)(j v:Int):AG (bv l j v):=by
 unfold bv;split
 ·split
  ·rename_i it hi;intro z hz;rcases u9 hz with hz|rfl
   ·exact h z hz
   ·exact h it (c9 hi)
  ·exact h
 ·exact h
theorem Be (v:Int):∀(js:List Int) {l:List Qs},AG l->AG (patchL l v js)
 | [],_,h=>h
 | j::js,_,h=>by rw[patchL];exact Be v js (vt h j v)
theorem Cap.set {M n:Nat}{a b:Gs}{l:List Qs}(h:Cap M n a b)(hl:l.length=b.I8.length)(hc:AG b.I8->AG l):Cap M n a ⟨l,b.J4,b.start⟩:=⟨by have:=h.le;simp only[hl];omega,fun x=>hc (h.ch x)⟩
section
variable {C:Cx} {x:Sc} {ins:List Nat} {rep:Sc->List Nat->Nat->Nat->Int->Gs->Gs} {line:Nat} {M:Nat}
theorem wJ (y:Sc){chain:List Int}(hc:chain.length<=4)(line:Int):∀(n:Nat) (d:Int) (s:Gs),Cap M n s (bD C y chain line n d s)
 | 0,d,s=>Cap.refl s
 | n+1,d,s=>by
  rw[bD];exact((cO C s d _ _ _ hc).trans (wJ y hc line n (d-1) _)).mono o_
theorem zr (y:Sc){chain:List Int}(hc:chain.length<=4)(line d:Int):∀(n i:Nat) (s:Gs),Cap M (2*n) s (cj C y chain line d n i s)
 | 0,i,s=>Cap.refl s
 | n+1,i,s=>by
  rw[cj];exact(((cO C s d _ _ _ hc).trans (cO C _ (d+1) _ _ _ hc)).trans (zr y hc line d n (i+1) _)).mono o_
theorem LH (hx:x.I9.length<=4)(O6:∀g d s,bI C g->cv C ins g s.I8.length=true->Cap M 0 s (rep x ins line g d s))(t:QC)(d:Int)(s:Gs):Cap M 1 s (fW C rep x ins line t d s):=by
 unfold fW;split
 ·exact cO _ _ _ _ _ _ hx
 ·split
  ·exact cO _ _ _ _ _ _ hx
  ·split
   ·split
    ·rename_i g hg;split
     ·rename_i hr;obtain⟨_,ln,h1,h2,_⟩:=dR hg;exact(O6 g d s ⟨ln,h1,h2⟩ hr).mono o_
     ·exact cO _ _ _ _ _ _ hx
    ·exact(Cap.refl s).mono o_
   ·exact cO _ _ _ _ _ _ hx
mutual
theorem ER (hx:x.I9.length<=4)(O6:∀g d s,bI C g->cv C ins g s.I8.length=true->Cap M 0 s (rep x ins line g d s)):∀(e:Ex) (d:Int) (s:Gs),Cap M e.toks.length s (dk C rep x ins line e d s)
 | .node t es,d,s=>by
  rw[dk,Ex.toks,d6];exact((BR hx O6 es d s).trans (LH hx O6 t _ _)).mono o_
theorem BR (hx:x.I9.length<=4)(O6:∀g d s,bI C g->cv C ins g s.I8.length=true->Cap M 0 s (rep x ins line g d s)):∀(es:List Ex) (d:Int) (s:Gs),Cap M (ao es).length s (ce C rep x ins line es d s)
 | [],d,s=>by rw[ce,ao];exact(Cap.refl s).mono o_
 | a::es,d,s=>by
  rw[ce,ao,c7];exact(ER hx O6 a d s).trans (BR hx O6 es (d+1) _)
end
theorem LN (hC:CxOk C)(hx:x.I9.length<=4)(line:Nat){g:Nat}(hg:bI C g)(d:Int)(s:Gs):Cap M 16 s (di C x line g d s):=by obtain⟨h1,h2⟩:=cW hC hg;have h0:Cap M 0 s ⟨s.I8,max s.J4 (ba C x+(a_ C.p (g:Int)).length),s.start⟩:=⟨g_,id⟩;unfold di;exact((h0.trans (wJ _ hx _ _ _ _)).trans (zr _ hx _ _ _ _ _)).mono o_
theorem Hq (hx:x.I9.length<=4)(line:Nat)(d:Int)(s:Gs):Cap M 1 s (bu C x line d s):=by
 unfold bu;split
 ·exact cO _ _ _ _ _ _ hx
 ·exact(Cap.refl s).mono o_
theorem zZ (hx:x.I9.length<=4)(k:Nat)(last:Bool)(d:Int)(L:Ls):Cap M 1 L.g (be C x k last d L).g:=by
 unfold be;split
 ·split
  ·exact cO _ _ _ _ _ _ hx
  ·exact cO _ _ _ _ _ _ hx
 ·split
  ·exact(Cap.refl _).mono o_
  ·exact cO _ _ _ _ _ _ hx
theorem JV (hx:x.I9.length<=4)(O6:∀g d s,bI C g->cv C ins g s.I8.length=true->Cap M 0 s (rep x ins line g d s))(hC:CxOk C){k:Nat}{ln:Qt}(hk:C.p[k]?=some ln)(he:bq ln.L0=true)(d:Int)(s:Gs):Cap M 20 s (dk C rep x ins line (exL ln.L0) d s):=by have h1:=(mA he).2;have h2:=(hC.line _ _ hk).2.2.2.1;rw[h1]at h2;exact(ER hx O6 _ d s).mono h2
theorem Js (hx:x.I9.length<=4)(O6:∀line g d s,bI C g->cv C ins g s.I8.length=true->Cap M 0 s (rep x ins line g d s))(hC:CxOk C){k:Nat}{ln:Qt}(hk:C.p[k]?=some ln)(h0:ln.J0≠0)(base:Int)(L:Ls):Cap M 22 L.g (dn C rep x ins base k ln L).g:=by
 unfold dn;split
 ·exact((cO C L.g base 10 0 k hx).set (bB _ _ _) fun h=>vt h _ _).mono o_
 ·split
  ·split
   ·refine Cap.mono (n:=1+1) ?_ o_;exact(cO C L.g base 0 0 k hx).trans (zZ hx k true (base+1) {L with g:=aB C L.g base 0 0 k x.I9})
   ·split
    ·exact(cO _ _ _ _ _ _ hx).mono o_
    ·exact(Cap.refl _).mono o_
  ·rename_i h4 h7;have hl:=hC.line _ _ hk
   have RZ:Cap M 20 L.g (dk C rep x ins k (exL ln.L0) base ⟨L.g.I8,L.g.J4,true⟩):=by have:=JV hx (fun g d s=>O6 k g d s) hC hk (hl.2.2.2.2 o_) base ⟨L.g.I8,L.g.J4,true⟩;exact⟨this.le,this.ch⟩
   split
   ·exact(RZ.trans (cO _ _ _ _ _ _ hx)).mono o_
   ·split
    ·exact(RZ.trans (cO _ _ _ _ _ _ hx)).mono o_
    ·split
     ·refine Cap.mono (n:=20+1) ?_ o_;exact RZ.trans (zZ hx k false (base+1) {L with g:=dk C rep x ins k (exL ln.L0) base ⟨L.g.I8,L.g.J4,true⟩,J6:=L.J6.set k L.g.I8.length})
     ·exact(RZ.trans (cO _ _ _ _ _ _ hx)).mono o_
theorem Kk (k:Nat)(ln:Qt)(L:Ls):Cap M 0 L.g (bf C x k ln L).g:=by
 unfold bf;split
 ·exact(Cap.refl _).set (bB _ _ _) fun h=>vt h _ _
 ·exact Cap.refl _
theorem DV (hx:x.I9.length<=4)(O6:∀line g d s,bI C g->cv C ins g s.I8.length=true->Cap M 0 s (rep x ins line g d s))(hC:CxOk C)(base:Int):∀(n k:Nat) (L:Ls),(∀i y,k<=i->i<k+n->C.p[i]?=some y->y.J0≠0)->Cap M (n*22) L.g (fh C rep x ins base n k L).g
 | 0,k,L,_=>(Cap.refl _).mono o_
 | n+1,k,L,h=>by
  rw[fh];split
  ·rename_i ln hk;exact(((Js hx O6 hC hk (h k ln (d7 _) o_ hk) base L).trans (Kk k ln _)).trans (DV hx O6 hC base n (k+1) _ fun i y h1 h2 hy=>h i y o_ o_ hy)).mono o_
  ·exact(Cap.refl _).mono o_
theorem yc (hc:x.I9.length<=4)(O6:∀line g d s,bI C g->cv C ins g s.I8.length=true->Cap M 0 s (rep x ins line g d s))(hC:CxOk C)(hx:ScOk C x ins)(base:Int)(s:Gs):Cap M ((dq C.p x.f-x.f)*22) s (aZ C rep x ins base s).1:=by unfold aZ;obtain⟨ln,h1,h2⟩:=hx.fn;obtain⟨e,h3,_,_,h4⟩:=hC.fn _ _ h1 h2;obtain⟨e',g3,_,_,g5,_⟩:=hx.endE hC;rw[h3]at g3;injection g3 with g3;subst g3;rw[g5];refine DV hc O6 hC base (e-x.f) (x.f+1) (cz C s) fun i y k1 k2 hy=>?_;exact V117
end
theorem Fk {C:Cx}(hC:CxOk C):∀(lev:Nat) {x:Sc} {ins:List Nat} (line g:Nat) (d:Int) (s:Gs),ScOk C x ins->bI C g->cv C ins g s.I8.length=true->Cap (217+198*lev) 0 s (bg C lev x ins line g d s)
 | 0,x,ins,line,g,d,s,hx,hg,hr=>(Cap.refl s).mono o_
 | lev+1,x,ins,line,g,d,s,hx,hg,hr=>by
  obtain⟨r1,r2,r3,_⟩:=eM hr;have hin:=hC.inl;have Rx:=hx.I9;have hy:=jg hC hx line hg;have h1:=LN (M:=217) (x:=x) hC o_ line hg d s;have h2:=Hq (C:=C) (M:=217) (x:=x) o_ line (d-b_ C.p g) (di C x line g d s);have TK:=hy.I9;rw[c7,d6,e8]at TK;have h3:=yc (M:=217+198*lev) (rep:=bg C lev) o_ (fun line g d s hg hr=>Fk hC lev line g d s hy hg hr) hC hy (d-b_ C.p g) (bu C x line (d-b_ C.p g) (di C x line g d s));obtain⟨e,e1,e2,e3,e4,_⟩:=hy.endE hC;have e5:bA C.p (g:Int)=(e:Int):=by rw[bc];exact aU e1
  have e6:dq C.p (bF C x line g).f-(bF C x line g).f<=9:=by rw[e4];show e-g<=9;omega
  show Cap _ 0 s (fH C (aZ C (bg C lev)) x ins line g d s);unfold fH;have l1:=BJ hC hx o_ line hg d s;have l2:=wt (C:=C) x line (d-b_ C.p g) (di C x line g d s);refine⟨?_,fun h=>Be _ _ (h3.ch (h2.ch (h1.ch h)))⟩;simp only[eH];have k3:=h3.le;have k1:=l1.le;have k2:=l2.le;omega
theorem JN {C:Cx}(hC:CxOk C){g:Nat}(hg:bI C g)(e5:C.args=b_ C.p g):(cJ C g).I8.length<=2500/\AG (cJ C g).I8:=by
 have hS:ScOk C (aO C g) [g]:=⟨hg,rfl,⟨u6 _,by simp[aO]⟩,rfl,by simp[aO],fun _=>e5,rfl⟩;have hG:=yc (M:=217+198*C.b.M0.toNat) (rep:=bg C C.b.M0.toNat) (by simp[aO]) (fun line g d s hg hr=>Fk hC _ line g d s hS hg hr) hC hS C.J1 (db C g);obtain⟨e,e1,e2,e3,e4,_⟩:=hS.endE hC;have hl:=hC.len;have hin:=hC.inl;have hh:(db C g).I8.length=1:=by simp[db,aB]
 have hk:=hG.le;refine⟨?_,hG.ch fun it Ry=>?_⟩
 ·show(aZ C (bg C C.b.M0.toNat) (aO C g) [g] C.J1 (db C g)).1.I8.length<=2500;omega
 ·simp only[db,aB,r9,d8,m8,or_false]at Ry;subst Ry;exact v9 _
theorem lW {p:List Qt}{f:Int}{b:Ql}(hs:aK 1048576 (.lst 4 (p.map Qt.tr)))(h1:ak p=true)(h2:aY b=true)(h3:0<=f)(h4:f<(aq p).length):∃(g:Nat) (C:Cx),(aq p)[f.toNat]?=some g/\CxOk C/\C.p=foldIf p b/\C.b=b/\C.args=b_ C.p g/\C.J8=Dj b.N3 f/\bI C g/\aG p f b=(cJ C g).I8/\C.J1=(cJ (ctx (foldIf p b) f.toNat g b 0) g).J4:=by
 obtain⟨f,rfl⟩:=i7 h3
 have hb:0<=b.M0/\b.M0<=3:=by exact V150
 obtain⟨g,hg⟩:=ae (l:=aq p) (k:=f) o_;have Ti:=(nc hs h1).foldIf b;have UW:(aq (foldIf p b))[f]?=some g:=by rw[iC];exact hg
 obtain⟨X9,y,hy,RF⟩:=kN (c9 UW);have Uv:=(Ti.line g y hy).2.2.1;have ha:(0:Int)<=(b_ (foldIf p b) g:Int)/\(b_ (foldIf p b) g:Int)<=4:=by rw[b_,hy];dsimp only;omega
 have Va:CxOk (ctx (foldIf p b) f g b 0):=Ti.cx ha o_ hb;have hm:=rD Va ⟨y,hy,RF⟩ rfl;have hC1:CxOk (ctx (foldIf p b) f g b (cJ (ctx (foldIf p b) f g b 0) g).J4):=Ti.cx ha hm hb;refine⟨g,_,by rw[e7];exact hg,hC1,rfl,rfl,rfl,rfl,⟨y,hy,RF⟩,?_,by rw[e7];rfl⟩;rw[aG,b9 ⟨h1,h2,h3,h4⟩,e7,jV,UW]
theorem iX {p:List Qt}{f:Int}{b:Ql}(hs:aK 1048576 (.lst 4 (p.map Qt.tr))):(aG p f b).length<=2500/\AG (aG p f b):=by
 by_cases hc:ak p=true/\aY b=true/\0<=f/\f<(aq p).length
 ·obtain⟨h1,h2,h3,h4⟩:=hc;obtain⟨g,C,_,k2,_,_,k5,_,k7,k8,_⟩:=lW hs h1 h2 h3 h4;rw[k8];exact JN k2 k7 k5
 ·rw[aG,b8 hc];exact⟨s_,fun it h=>by cases h⟩
def fY (c a:Int):Prop:=0<=c/\c<=17/\(c=0->-2147483648<=a/\a<=2147483647)/\(c=1\/c=2\/c=3\/c=4\/c=10\/c=11->-32768<=a/\a<=32767)/\(c=16->0<=a/\a<=65535)/\(c=12\/c=13\/c=14\/c=15->0<=a/\a<=255)/\(5<=c/\c<=9\/c=17->a=0)
def mm (C:Cx)(line:Int):Prop:=∃y,0<=line/\C.p[line.toNat]?=some y/\y.J0≠0
structure GoodI (C:Cx) (n:Nat) (it:Qs):Prop where
 line:mm C it.M8
 jump:it.K0.J5=10\/it.K0.J5=11->0<=it.K0.L2/\it.K0.L2<=n
 op:¬(it.K0.J5=10\/it.K0.J5=11)->fY it.K0.J5 it.K0.L2
 enter:it.K0.J5≠13
theorem GoodI.mono {C:Cx}{n m:Nat}{it:Qs}(h:GoodI C n it)(hn:n<=m):GoodI C m it:=⟨h.line,fun k=>by have:=h.jump k;omega,h.op,h.enter⟩
def PN (C:Cx)(g:Nat)(it:Qs):Prop:=(it.K0.J5=13\/it.K0.J5=15)/\it.M8=g/\it.K0.L2=C.J1
def InvI (C:Cx)(g:Nat)(l:List Qs):Prop:=∃h t,l=h::t/\PN C g h/\∀it∈t,GoodI C l.length it
def dS (l:List Qs)(i:Nat):Option Int:=(l[i]?).map (·.K0.J5)
def JP (l:List Qs)(j:Int):Prop:=0<=j/\∃c,dS l j.toNat=some c/\(c=10\/c=11)
structure Tr2 (C:Cx) (g:Nat) (a b:Gs):Prop where
 ext:∀i c,dS a.I8 i=some c->dS b.I8 i=some c
 inv:InvI C g a.I8->InvI C g b.I8
 J4:a.J4<=60->b.J4<=60
theorem Tr2.refl {C:Cx}{g:Nat}(s:Gs):Tr2 C g s s:=⟨fun _ _ h=>h,id,id⟩
theorem Tr2.trans {C:Cx}{g:Nat}{a b c:Gs}(h:Tr2 C g a b)(h':Tr2 C g b c):Tr2 C g a c:=⟨fun i v x=>h'.ext i v (h.ext i v x),fun x=>h'.inv (h.inv x),fun x=>h'.J4 (h.J4 x)⟩
theorem BQ {l:List Qs}{i:Nat}{c:Int}(h:dS l i=some c):i<l.length:=by
 unfold dS at h
 cases hi:l[i]? with
 | none=>rw[hi]at h;cases h
 | some x=>exact aE hi
theorem EW {l:List Qs}{i:Nat}(h:i<l.length):∃c,dS l i=some c:=by obtain⟨x,hx⟩:=ae h;exact⟨x.K0.J5,by rw[dS,hx];rfl⟩
theorem JP.ext {a b:List Qs}(h:∀i c,dS a i=some c->dS b i=some c){j:Int}(hj:JP a j):JP b j:=by obtain⟨h0,c,h1,h2⟩:=hj;exact⟨h0,c,h _ _ h1,h2⟩
theorem Tr2.len {C:Cx}{g:Nat}{a b:Gs}(h:Tr2 C g a b):a.I8.length<=b.I8.length:=by
 rcases B8 a.I8.length with h0|h0
 ·omega
 ·obtain⟨c,hc⟩:=EW (l:=a.I8) (i:=a.I8.length-1) o_;have:=BQ (h.ext _ _ hc);omega
theorem fo {C:Cx}{g:Nat}{s:Gs}{d code arg line:Int}{chain:List Int}(hl:mm C line)(h1:code=10\/code=11->0<=arg/\arg<=s.I8.length)(h2:¬(code=10\/code=11)->fY code arg)(h3:code≠13):Tr2 C g s (aB C s d code arg line chain):=by
 refine⟨fun i c h=>?_,fun⟨h,t,e1,e2,e3⟩=>?_,id⟩
 ·have:=BQ h;unfold dS at h⊢;simp only[aB];rw[l8 this];exact h
 ·refine⟨h,t++[kw C s d code arg line chain],by simp[aB,e1],e2,fun it Ry=>?_⟩;have hn:s.I8.length<=(aB C s d code arg line chain).I8.length:=by simp[aB]
  rw[f0,t6]at Ry;rcases Ry with Ry|rfl
  ·exact(e3 it Ry).mono hn
  ·exact⟨hl,fun k=>by have:=h1 k;simp only[kw];omega,h2,h3⟩
theorem wg {l:List Qs}{j v:Int}(i:Nat):dS (bv l j v) i=dS l i:=by
 unfold bv;split
 ·split
  ·rename_i x hx;unfold dS;by_cases h:j.toNat=i
   ·subst h;rw[s6 (aE hx),hx];rfl
   ·rw[y6 h]
  ·rfl
 ·rfl
theorem Hp {C:Cx}{g:Nat}{l:List Qs}{j:Int}(h:InvI C g l)(hj:JP l j):InvI C g (bv l j l.length):=by
 obtain⟨a,t,e1,e2,e3⟩:=h;obtain⟨h0,c,h1,h2⟩:=hj;unfold bv;rw[b9 h0]
 cases hx:l[j.toNat]? with
 | none=>simp only;exact⟨a,t,e1,e2,e3⟩
 | some x=>
  have hc:x.K0.J5=c:=by rw[dS,hx]at h1;simpa using h1
  have ZZ:j.toNat≠0:=by intro h;rw[h,e1]at hx;simp at hx;subst hx;have:=e2.1;omega
  obtain⟨m,hm⟩:∃m,j.toNat=m+1:=⟨j.toNat-1,o_⟩;rw[hm,e1,j8]at hx;have hg:=e3 x (c9 hx);refine⟨a,t.set m ⟨⟨x.K0.J5,l.length⟩,x.M8,x.L7,x.N0,x.M6,x.N2⟩,?_,e2,fun it Ry=>?_⟩
  ·rw[e1,hm];rfl
  ·rw[o8];rcases u9 Ry with Ry|rfl
   ·exact e3 it Ry
   ·exact⟨hg.line,fun _=>by simp only;omega,fun k=>absurd (by rw[hc];exact h2) k,hg.enter⟩
theorem vu {C:Cx}{g:Nat}{s:Gs}{j:Int}(hj:JP s.I8 j):Tr2 C g s ⟨bv s.I8 j s.I8.length,s.J4,s.start⟩:=
 ⟨fun i c h=>by rw[wg];exact h,fun h=>Hp h hj,id⟩
theorem Bo {C:Cx}{g:Nat}:∀(js:List Int) {s:Gs},(∀j∈js,JP s.I8 j)->Tr2 C g s ⟨patchL s.I8 s.I8.length js,s.J4,s.start⟩
 | [],s,_=>Tr2.refl s
 | j::js,s,h=>by
  have h1:=vu (C:=C) (g:=g) (s:=s) (h j s_);have h2:=Bo (C:=C) (g:=g) js (s:=⟨bv s.I8 j s.I8.length,s.J4,s.start⟩) fun i hi=>(h i (by simp[hi])).ext h1.ext;simp only[bB]at h2;exact h1.trans h2
theorem CY {C:Cx}{s:Gs}{d code arg line:Int}{chain:List Int}(h:code=10\/code=11):JP (aB C s d code arg line chain).I8 (s.I8.length:Int):=by refine⟨o_,code,?_,h⟩;rw[dS,e7];simp[aB,kw]
theorem xO:∀(es:List Ex),es.length<=(ao es).length
 | []=>v9 _
 | a::es=>by
  have:=xO es;have:=a.toks_pos;rw[ao,c7,d6];omega
section
variable {C:Cx} {x:Sc} {ins:List Nat} {rep:Sc->List Nat->Nat->Nat->Int->Gs->Gs} {line:Nat} {G:Nat}
theorem Ah (hC:CxOk C){y:Sc}(hf:0<=y.first/\y.first<=200){d i:Int}(hd:-100<=d/\d<=2000)(hi:-2<=i/\i<=100)(store:Bool):¬(bL C store=10\/bL C store=11)/\bL C store≠13/\fY (bL C store) (bU C y d i):=by
 have ha:=hC.args;have hk:eI C y i≥-10/\eI C y i<=400:=by unfold eI;split<;>omega
 have hc:1<=bL C store/\bL C store<=4:=by unfold bL;split<;>split<;>omega
 have hA:-10000<=bU C y d i/\bU C y d i<=10000:=by unfold bU;repeat' split<;>omega
 unfold fY;omega
theorem Ou (hC:CxOk C){y:Sc}(hf:0<=y.first/\y.first<=200){d i line:Int}(hd:-100<=d/\d<=2000)(hi:-2<=i/\i<=100)(hl:mm C line)(s:Gs):Tr2 C G s (Ei C y s d i line):=by obtain⟨h1,h2,h3⟩:=Ah hC hf hd hi false;exact fo hl (fun k=>absurd k h1) (fun _=>h3) h2
theorem Aq (hC:CxOk C){y:Sc}(hf:0<=y.first/\y.first<=200){d i line:Int}(hd:-100<=d/\d<=2000)(hi:-2<=i/\i<=100)(hl:mm C line)(s:Gs)(chain:List Int):Tr2 C G s (cX C y s d i line chain):=by obtain⟨h1,h2,h3⟩:=Ah hC hf hd hi true;exact fo hl (fun k=>absurd k h1) (fun _=>h3) h2
theorem BI:fY 0 0:=by unfold fY;omega
theorem Bs (hC:CxOk C){y:Sc}(hf:0<=y.first/\y.first<=200){chain:List Int}{line:Int}(hl:mm C line):∀(n:Nat) (d:Int) (s:Gs),n<=50->-100<=d-n->d<=2000->Tr2 C G s (bD C y chain line n d s)
 | 0,d,s,_,_,_=>Tr2.refl s
 | n+1,d,s,h0,h1,h2=>by
  rw[bD];exact(Aq hC hf o_ o_ hl s chain).trans (Bs hC hf hl n (d-1) _ o_ o_ o_)
theorem Fu (hC:CxOk C){y:Sc}(hf:0<=y.first/\y.first<=200){chain:List Int}{line d:Int}(hl:mm C line)(hd:-100<=d/\d<=1999):∀(n i:Nat) (s:Gs),i+n<=50->Tr2 C G s (cj C y chain line d n i s)
 | 0,i,s,_=>Tr2.refl s
 | n+1,i,s,h=>by
  rw[cj];exact((fo hl (fun k=>o_) (fun _=>BI) o_).trans (Aq hC hf o_ o_ hl _ chain)).trans (Fu hC hf hl hd n (i+1) _ o_)
def Ha (C:Cx)(rep:Sc->List Nat->Nat->Nat->Int->Gs->Gs)(G:Nat)(x:Sc)(ins:List Nat):Prop:=
 ∀(line g:Nat) (d:Int) (s:Gs),mm C line->bI C g->-10*(ins.length:Int)<=d->d<=1000+30*ins.length+21->cv C ins g s.I8.length=true->Tr2 C G s (rep x ins line g d s)
theorem PG (hC:CxOk C)(hx:ScOk C x ins)(hi:ins.length<=4)(O6:Ha C rep G x ins)(hl:mm C line){t:QC}(ht:fI t=true){d:Int}(h1:-10*(ins.length:Int)<=d)(h2:d<=1000+30*ins.length+21)(s:Gs):Tr2 C G s (fW C rep x ins line t d s):=by
 obtain⟨e,e1,e2,e3,e4,e5⟩:=hx.endE hC;have TC:=hx.first;have Zr:=mN x.J3 t.J7;unfold fI at ht;unfold fW;split
 ·rename_i h0;rw[b9 h0]at ht;simp only[d5,within_iff]at ht;exact fo hl (fun k=>o_) (fun _=>by unfold fY;omega) o_
 ·rename_i h0;rw[b8 h0]at ht;split
  ·exact Ou hC o_ o_ o_ hl s
  ·rename_i h1;split
   ·split
    ·rename_i g hg;obtain⟨_,ln,k1,k2,_⟩:=dR hg;split
     ·rename_i hr;exact O6 line g d s hl ⟨ln,k1,k2⟩ o_ o_ hr
     ·have hn:=Ek C.p g;have:=aE k1;have:=hC.len;exact fo hl (fun k=>o_) (fun _=>by unfold fY;omega) o_
    ·exact Tr2.refl s
   ·rename_i h7;rw[b8 h7,b8 h1]at ht;simp only[d5,within_iff]at ht;exact fo hl (fun k=>o_) (fun _=>by unfold fY;omega) o_
mutual
theorem IA (hC:CxOk C)(hx:ScOk C x ins)(hi:ins.length<=4)(O6:Ha C rep G x ins)(hl:mm C line):∀(e:Ex) (d:Int) (s:Gs),e.ok->-10*(ins.length:Int)<=d->d+e.toks.length<=1000+30*ins.length+21->Tr2 C G s (dk C rep x ins line e d s)
 | .node t es,d,s,h,h1,h2=>by
  rw[Ex.toks,d6]at h2;rw[dk];have P6:=xO es;exact(GC hC hx hi O6 hl es d s h.2.2 h1 o_).trans (PG hC hx hi O6 hl h.1 o_ o_ _)
theorem GC (hC:CxOk C)(hx:ScOk C x ins)(hi:ins.length<=4)(O6:Ha C rep G x ins)(hl:mm C line):∀(es:List Ex) (d:Int) (s:Gs),jd es->-10*(ins.length:Int)<=d->d+(ao es).length<=1000+30*ins.length+21->Tr2 C G s (ce C rep x ins line es d s)
 | [],d,s,_,_,_=>by rw[ce];exact Tr2.refl s
 | a::es,d,s,h,h1,h2=>by
  rw[ao,c7]at h2;rw[ce];have hp:=a.toks_pos;exact(IA hC hx hi O6 hl a d s h.1 h1 o_).trans (GC hC hx hi O6 hl es (d+1) _ h.2 o_ o_)
end
theorem LY (hl:mm C line)(x:Sc)(d:Int)(s:Gs):Tr2 C G s (bu C x line d s):=by
 unfold bu;split
 ·exact fo hl (fun k=>o_) (fun _=>by unfold fY;omega) o_
 ·exact Tr2.refl s
theorem Pi (hC:CxOk C)(hx:ScOk C x ins)(hi:ins.length<=3)(hl:mm C line){g:Nat}(hg:bI C g){d:Int}(h1:-10*(ins.length:Int)<=d)(h2:d<=1000+30*ins.length+21)(s:Gs):Tr2 C G s (di C x line g d s):=by obtain⟨k1,k2⟩:=cW hC hg;have hy:=jg hC hx line hg;have hf:=hy.first;rw[c7,d6,e8]at hf;have ht:=mR hC hx;have ha:=hC.b_ g;have h0:Tr2 C G s ⟨s.I8,max s.J4 (ba C x+(a_ C.p (g:Int)).length),s.start⟩:=⟨fun _ _ h=>h,id,fun h=>g_⟩;unfold di;exact(h0.trans (Bs hC o_ hl _ d _ o_ o_ o_)).trans (Fu hC o_ hl o_ _ _ _ o_)
structure LsI (C:Cx) (G f k:Nat) (g0:Gs) (L:Ls):Prop where
 tr:Tr2 C G g0 L.g
 J6:∀v∈L.J6,0<=v/\v<=L.g.I8.length
 pos:∀i,f+1<=i->i<k->jumps C.p i->JP L.g.I8 (atL L.pos i)
 lv:∀j∈L.lv,JP L.g.I8 j
 len:L.pos.length=C.p.length
theorem LsI.step {f k k':Nat}{g0:Gs}{L L':Ls}(h:LsI C G f k g0 L)(ht:Tr2 C G L.g L'.g)(hh:∀v∈L'.J6,v∈L.J6\/(0<=v/\v<=L'.g.I8.length))(hp:∀i,f+1<=i->i<k'->jumps C.p i->(i<k/\atL L'.pos i=atL L.pos i)\/JP L'.g.I8 (atL L'.pos i))(hv:∀j∈L'.lv,j∈L.lv\/JP L'.g.I8 j)(hl:L'.pos.length=L.pos.length):LsI C G f k' g0 L':=by
 have P6:=ht.len;refine⟨h.tr.trans ht,fun v hv=>?_,fun i h1 h2 h3=>?_,fun j hj=>?_,by rw[hl,h.len]⟩
 ·rcases hh v hv with h1|h1
  ·have:=h.J6 v h1;omega
  ·exact h1
 ·rcases hp i h1 h2 h3 with⟨k1,k2⟩|k1
  ·rw[k2];exact(h.pos i h1 k1 h3).ext ht.ext
  ·exact k1
 ·rcases hv j hj with h1|h1
  ·exact(h.lv j h1).ext ht.ext
  ·exact h1
theorem LsI.same {f k:Nat}{g0:Gs}{L L':Ls}(h:LsI C G f k g0 L)(ht:Tr2 C G L.g L'.g)(e1:L'.J6=L.J6)(e2:L'.pos=L.pos)(e3:L'.lv=L.lv):LsI C G f k g0 L':=
 h.step ht (fun v hv=> .inl (by rw[<-e1];exact hv)) (fun i _ h2 _=> .inl ⟨h2,by rw[e2]⟩) (fun j hj=> .inl (by rw[<-e3];exact hj)) (by rw[e2])
theorem LsI.next {f k:Nat}{g0:Gs}{L:Ls}(h:LsI C G f k g0 L)(hj:¬jumps C.p k):LsI C G f (k+1) g0 L:=
 h.step (Tr2.refl _) (fun v hv=> .inl hv) (fun i h1 h2 h3=> .inl ⟨by
  rcases n5 i k with h|h
  ·exact h
  ·rw[show i=k by omega]at h3;exact absurd h3 hj,rfl⟩) (fun j hj=> .inl hj) rfl
theorem ET (hC:CxOk C)(hw:C.J1<=255){f k k':Nat}{g0:Gs}{L:Ls}(hl:mm C (k':Int))(last:Bool)(d:Int)(h:LsI C G f k g0 L):LsI C G f k g0 (be C x k' last d L):=by
 have ha:=hC.args;have WL:=hC.J1;unfold be;split
 ·split
  ·exact h.same (fo hl (fun k=>o_) (fun _=>by unfold fY;omega) o_) rfl rfl rfl
  ·exact h.same (fo hl (fun k=>o_) (fun _=>by unfold fY;omega) o_) rfl rfl rfl
 ·split
  ·exact h
  ·refine h.step (fo hl (fun k=>o_) (fun k=>o_) o_) (fun v hv=> .inl hv) (fun i _ h2 _=> .inl ⟨h2,rfl⟩) (fun j hj=>?_) rfl;simp only[f0,t6]at hj;rcases hj with hj|rfl
   ·exact .inl hj
   ·exact .inr (CY (.inl rfl))
theorem Kh {l:List Int}{n:Int}(h:∀v∈l,0<=v/\v<=n)(hn:0<=n)(k:Nat):0<=atL l k/\atL l k<=n:=by
 unfold atL
 cases hk:l[k]? with|none=>simp only[Option.getD];omega|some v=>exact h v (c9 hk)
theorem Md (hC:CxOk C)(hw:C.J1<=255)(hx:ScOk C x ins)(hi:ins.length<=4)(O6:Ha C rep G x ins){e:Nat}(he:h_ C.p x.f=some e){k:Nat}{ln:Qt}(hk:C.p[k]?=some ln)(h0:ln.J0≠0)(Rh:x.f<k)(Rf:k<=e){base:Int}(Sg:-10*(ins.length:Int)<=base)(Rb:base<=1000+30*ins.length){g0:Gs}{L:Ls}(h:LsI C G x.f k g0 L):LsI C G x.f (k+1) g0 (dn C rep x ins base k ln L):=by
 have hl:mm C (k:Int):=⟨ln,o_,by rw[e7];exact hk,h0⟩;have QV:k<C.p.length:=aE hk;have T4:=aL hk;unfold dn;split
 ·rename_i h4;obtain⟨o1,o2,o3,o4⟩:=hx.own4 hC he Rh Rf hk h4;obtain⟨y,_,hy,hy3,_⟩:=aP o1;have hJ:=h.pos (f_ C.p k) o2 o3 (.inl (by rw[aL hy];exact hy3));have t1:Tr2 C G L.g (aB C L.g base 10 0 k x.I9):=fo hl (fun _=>o_) (fun k=>o_) o_;have t2:=vu (C:=C) (g:=G) (hJ.ext t1.ext);refine h.step (t1.trans t2) (fun v hv=> .inl hv) (fun i h1 h2 h3=>?_) (fun j hj=> .inl hj) s_;by_cases RB:i=k
  ·subst RB;refine .inr ?_;rw[fX (by rw[h.len];exact QV)];exact JP.ext t2.ext (CY (.inl rfl))
  ·exact .inl ⟨o_,eO RB⟩
 ·rename_i h4;split
  ·rename_i h7;have Xu:¬jumps C.p k:=(by unfold jumps;rw[T4];omega);split
   ·exact(ET hC hw (x:=x) hl true (base+1) (h.same (L':={L with g:=aB C L.g base 0 0 k x.I9}) (fo hl (fun k=>o_) (fun _=>BI) o_) rfl rfl rfl)).next Xu
   ·split
    ·have hh:=Kh h.J6 o_ (f_ C.p k);exact(h.same (L':={L with g:=aB C L.g base 10 (atL L.J6 (f_ C.p k)) k x.I9}) (fo hl (fun _=>hh) (fun k=>o_) o_) rfl rfl rfl).next Xu
    ·exact h.next Xu
  ·rename_i h7;have Wt:=hC.line _ _ hk;have X7:=mA (Wt.2.2.2.2 o_);have RZ:=Wt.2.2.2.1;rw[X7.2]at RZ
   have tg:Tr2 C G L.g (dk C rep x ins k (exL ln.L0) base ⟨L.g.I8,L.g.J4,true⟩):=by have:=IA hC hx hi O6 hl (exL ln.L0) base ⟨L.g.I8,L.g.J4,true⟩ X7.1 Sg o_;exact⟨this.ext,this.inv,this.J4⟩
   have Tf:LsI C G x.f k g0 {L with g:=dk C rep x ins k (exL ln.L0) base ⟨L.g.I8,L.g.J4,true⟩,J6:=L.J6.set k L.g.I8.length}:=by
    refine h.step tg (fun v hv=>?_) (fun i _ h2 _=> .inl ⟨h2,rfl⟩) (fun j hj=> .inl hj) rfl;rcases u9 hv with hv|rfl
    ·exact .inl hv
    ·exact .inr ⟨o_,by have:=tg.len;simp only;omega⟩
   have Zr:=mN x.J3 ln.J7;obtain⟨_,_,_,_,_,e5⟩:=hx.endE hC;have TC:=hx.first;generalize dk C rep x ins k (exL ln.L0) base ⟨L.g.I8,L.g.J4,true⟩=GE at tg Tf⊢;split
   ·rename_i k1;have Xu:¬jumps C.p k:=(by unfold jumps;rw[T4];omega);have t2:Tr2 C G GE (cX C x GE (base+1) (cN x.J3 ln.J7) k x.I9):=Aq hC o_ o_ o_ hl _ _;exact(Tf.same (L':={L with g:=cX C x GE (base+1) (cN x.J3 ln.J7) k x.I9,J6:=L.J6.set k L.g.I8.length}) t2 rfl rfl rfl).next Xu
   ·split
    ·rename_i k2;have Xu:¬jumps C.p k:=(by unfold jumps;rw[T4];omega);have t2:Tr2 C G GE (aB C GE (base+1) 17 0 k x.I9):=fo hl (fun k=>o_) (fun _=>by unfold fY;omega) o_;exact(Tf.same (L':={L with g:=aB C GE (base+1) 17 0 k x.I9,J6:=L.J6.set k L.g.I8.length}) t2 rfl rfl rfl).next Xu
    ·split
     ·rename_i k6;have Xu:¬jumps C.p k:=(by unfold jumps;rw[T4];omega);exact(ET hC hw (x:=x) hl false (base+1) Tf).next Xu
     ·refine Tf.step (fo hl (fun _=>o_) (fun k=>o_) o_) (fun v hv=> .inl hv) (fun i h1 h2 h3=>?_) (fun j hj=> .inl hj) s_;by_cases RB:i=k
      ·subst RB;refine .inr ?_;rw[fX (by rw[h.len];exact QV)];exact CY (.inr rfl)
      ·exact .inl ⟨o_,eO RB⟩
theorem MV (hC:CxOk C)(hx:ScOk C x ins){e:Nat}(he:h_ C.p x.f=some e){k:Nat}{ln:Qt}(hk:C.p[k]?=some ln)(Rh:x.f<k)(Rf:k<=e){g0:Gs}{L:Ls}(h:LsI C G x.f (k+1) g0 L):LsI C G x.f (k+1) g0 (bf C x k ln L):=by
 unfold bf;split
 ·rename_i h7
  have QI:k≠e:=fun hh=>by
   rcases(hx.own7 hC he Rh Rf hk h7.1).2 with⟨_,o⟩|⟨o,_⟩
   ·exact h7.2 o
   ·omega
  obtain⟨k1,k2,k3,_,_⟩:=xE hC hx he Rh o_ hk h7.1;exact h.same (vu (h.pos _ k1 o_ k3)) rfl rfl rfl
 ·exact h
theorem Io (hC:CxOk C)(hw:C.J1<=255)(hx:ScOk C x ins)(hi:ins.length<=4)(O6:Ha C rep G x ins){e:Nat}(he:h_ C.p x.f=some e){base:Int}(Sg:-10*(ins.length:Int)<=base)(Rb:base<=1000+30*ins.length)(h0:∀i y,x.f<i->i<=e->C.p[i]?=some y->y.J0≠0){g0:Gs}:∀(n k:Nat) (L:Ls),x.f<k->k+n=e+1->LsI C G x.f k g0 L->LsI C G x.f (e+1) g0 (fh C rep x ins base n k L)
 | 0,k,L,_,h2,h=>by rw[fh,<-h2];exact h
 | n+1,k,L,h1,h2,h=>by
  obtain⟨_,_,_,_,_,QP⟩:=aI he;obtain⟨ln,hk⟩:=ae (l:=C.p) (k:=k) o_;rw[fh,hk];exact Io hC hw hx hi O6 he Sg Rb h0 n (k+1) _ o_ o_ (MV hC hx he hk h1 o_ (Md hC hw hx hi O6 he hk (h0 k ln h1 o_ hk) h1 o_ Sg Rb h))
theorem Bc (hC:CxOk C)(hw:C.J1<=255)(hx:ScOk C x ins)(hi:ins.length<=4)(O6:Ha C rep G x ins){base:Int}(Sg:-10*(ins.length:Int)<=base)(Rb:base<=1000+30*ins.length)(s:Gs):Tr2 C G s (aZ C rep x ins base s).1/\∀j∈(aZ C rep x ins base s).2,JP (aZ C rep x ins base s).1.I8 j:=by
 obtain⟨ln,h1,h2⟩:=hx.fn;obtain⟨e,h3,_,_,h4⟩:=hC.fn _ _ h1 h2;obtain⟨e',g3,g4,Yz,g5,_⟩:=hx.endE hC;rw[h3]at g3;injection g3 with g3;subst g3
 have h:=Io hC hw hx hi O6 h3 Sg Rb (fun i y k1 k2 hy=>by
  by_cases Sv:i=e
  ·subst Sv;obtain⟨z,hz,h7⟩:=bn h3;rw[hy]at hz;injection hz with hz;subst hz;omega
  ·exact(h4 i y o_ o_ hy).1) (g0:=s) (e-x.f) (x.f+1) (cz C s) o_ o_ ⟨Tr2.refl s,fun v hv=>by
   simp only[cz,D4]at hv
   omega,fun i k1 k2 _=>o_,fun j hj=>(by cases hj),by simp[cz]⟩
 unfold aZ;rw[g5];exact⟨h.tr,h.lv⟩
end
theorem IQ {C:Cx}{G:Nat}(hC:CxOk C)(hw:C.J1<=255):∀(lev:Nat) {x:Sc} {ins:List Nat},ScOk C x ins->Ha C (bg C lev) G x ins
 | 0,x,ins,hx,line,g,d,s,_,_,_,_,_=>Tr2.refl s
 | lev+1,x,ins,hx,line,g,d,s,hl,hg,h1,h2,hr=>by
  obtain⟨r1,r2,r3,_⟩:=eM hr;have hin:=hC.inl;have hy:=jg hC hx line hg;have ha:=hC.b_ g;have Rw:(ins++[g]).length=ins.length+1:=s_;have t1:=Pi (G:=G) hC hx o_ hl hg h1 h2 s;have t2:=LY (G:=G) hl x (d-b_ C.p g) (di C x line g d s);have t3:=Bc (G:=G) hC hw hy o_ (IQ hC hw lev hy) (base:=d-b_ C.p g) o_ o_ (bu C x line (d-b_ C.p g) (di C x line g d s));exact((t1.trans t2).trans t3.1).trans (Bo _ t3.2)
theorem yI {C:Cx}(hC:CxOk C)(hw:C.J1<=255){g:Nat}(hg:bI C g)(e5:C.args=b_ C.p g):InvI C g (cJ C g).I8/\(cJ C g).J4<=60:=by
 have hS:ScOk C (aO C g) [g]:=⟨hg,rfl,⟨u6 _,by simp[aO]⟩,rfl,by simp[aO],fun _=>e5,rfl⟩;have WL:=hC.J1;have t:=(Bc (G:=g) hC hw hS s_ (IQ hC hw C.b.M0.toNat hS) (base:=C.J1) (by simp only[d6,e8];omega) (by simp only[d6,e8];omega) (db C g)).1;obtain⟨l1,l2⟩:=cW hC hg;refine⟨t.inv ⟨_,[],rfl,⟨?_,rfl,rfl⟩,fun it h=>by cases h⟩,t.J4 ?_⟩
 ·simp only[kw];split<;>omega
 ·show(a_ C.p (g:Int)).length-C.args<=60;omega
theorem sP {p:List Qt}{f:Int}{b:Ql}(hs:aK 1048576 (.lst 4 (p.map Qt.tr)))(h1:ak p=true)(h2:aY b=true)(h3:0<=f)(h4:f<(aq p).length):∃(g:Nat) (C:Cx),(aq p)[f.toNat]?=some g/\C.p=foldIf p b/\0<=C.J1/\C.J1<=255/\InvI C g (aG p f b):=by
 obtain⟨g,C,k1,k2,k3,k4,k5,k6,k7,k8,k9⟩:=lW hs h1 h2 h3 h4
 have hb:0<=b.M0/\b.M0<=3:=by exact V150
 have Ti:=(nc hs h1).foldIf b;have ha:(0:Int)<=(b_ (foldIf p b) g:Int)/\(b_ (foldIf p b) g:Int)<=4:=by have:=k2.b_ g;rw[k3]at this;omega
 have Va:CxOk (ctx (foldIf p b) f.toNat g b 0):=Ti.cx ha o_ hb;obtain⟨y,y1,y2⟩:=k7;have Xh:bI (ctx (foldIf p b) f.toNat g b 0) g:=⟨y,by rw[k3]at y1;exact y1,y2⟩;have SA:=(yI Va (by show(0:Int)<=255;omega) Xh rfl).2;have hw:=k2.J1;refine⟨g,C,k1,k3,hw.1,o_,?_⟩;rw[k8];exact(yI k2 o_ ⟨y,y1,y2⟩ k5).1
theorem As {α:Type}{g:α->List Tr}{L:Int}:∀{l:List α},(∀x∈l,aS L (g x))->iZ L (l.map g)
 | [],_=>by rw[D5,iZ];trivial
 | x::l,h=>by
  rw[p7,iZ];exact⟨h x s_,As fun y hy=>h y aba⟩
theorem lc {α:Type}{g:α->List Tr}{l:List α}{sz:Nat}(hl:l.length<=1048576)(h:∀x∈l,aS 1048576 (g x)):aK 1048576 (.lst sz (l.map g)):=by rw[aK];exact⟨by simp;omega,As h⟩
theorem xX {l:List Int}(hl:l.length<=1048576):aK 1048576 (.lst 1 (l.map aa)):=lc hl fun x _=>by simp[aa,aS,aK]
def br (c:Int):Int×Bool:=
 if c=0 then(4,true)else if c=1\/c=2\/c=3\/c=4\/c=10\/c=11 then(2,true)
 else if c=16 then(2,false)else if c=12\/c=13\/c=14\/c=15 then(1,false)else(0,false)
def aQ (c:Int):Int:=if af c 0 17 then(br c).1+1 else 0
theorem dI (c:Int):0<=(br c).1/\(br c).1<=4:=by
 unfold br;repeat' split
 all_goals simp
theorem iF (c:Int):0<=aQ c/\aQ c<=5:=by have:=dI c;unfold aQ;split<;>omega
abbrev Kg (c:Int):Res:= .tup [.c (.t (.int .i64 (br c).1)),.c (.t (.bool (br c).2))]
theorem V112{p:Prop}(h:p:=by
 repeat' ((conv=>whnf);first|refine Or.inl ?_|apply oi|apply fi|intro h|exact Y1|refine e_ rfl ?_)
 all_goals(refine⟨?_⟩;simp_all[br])):p:=h
theorem ij (c:Int):Sim.Spec prog 220 [tvI c] (Kg c):=by refine az hΓ aF func220 rfl d_ rfl ?_;exact V112
theorem ig (c:Int):Sim.Spec prog 131 [tvI c] (Kg c):=by refine az hΓ aF func131 rfl d_ rfl ?_;exact V112
theorem V98{p:Prop}(h:p:=by
 rw[hw]at hb
 repeat' ((conv=>whnf);first|refine Or.inl ?_|apply oi|apply fi|intro h|refine ci hb (ai rfl (ai rfl (ai rfl trivial))) ?_|exact Y1|refine e_ rfl ?_)):p:=h
theorem jN (c:Int):Sim.Spec prog 160 [tvI c] (rI (aQ c)):=by
 refine az hΓ aF func160 rfl d_ rfl ?_;have hb:=aN c 0 17;have ha:=ij c;have P6:=dI c;unfold aQ
 cases hw:af c 0 17 with
 | false=>exact V98
 | true=>
  rw[hw]at hb;repeat' ((conv=>whnf);first|refine Or.inl ?_|apply oi|apply fi|intro h|refine ci hb (ai rfl (ai rfl (ai rfl trivial))) ?_|refine ci ha (ai rfl trivial) ?_|exact Y1|refine e_ rfl ?_)
  exact⟨by rw[c8 _ o_];rfl⟩
theorem qY (c:Int):Sim.Spec prog 59 [tvI c] (rI (aQ c)):=by
 refine az hΓ aF func59 rfl d_ rfl ?_;have hb:=bz c 0 17;have ha:=ig c;have P6:=dI c;unfold aQ
 cases hw:af c 0 17 with
 | false=>exact V98
 | true=>
  rw[hw]at hb;repeat' ((conv=>whnf);first|refine Or.inl ?_|apply oi|apply fi|intro h|refine ci hb (ai rfl (ai rfl (ai rfl trivial))) ?_|refine ci ha (ai rfl trivial) ?_|exact Y1|refine e_ rfl ?_)
  exact⟨by rw[c8 _ o_,Int.add_comm];rfl⟩
def PE (l:List Qw):Bool:=l.all fun x=>af x.M7 0 1000000
def ku (x:Qw):Qy:=⟨x.M7,x.M7+aQ x.L5.K0.J5,x.L5.N2,x.L5.M6⟩
def Ny (r s:Qy):Bool:=r.N1==s.L7&&(r.N7==s.N7&&r.M6==s.M6)
def pV (acc:List Qy)(s:Qy):List Qy:=match acc.getLast? with
 | some r=>if Ny r s then acc.dropLast++[⟨r.L7,s.N1,r.N7,r.M6⟩]else acc++[s]
 | none=>[s]
def mn (l:List Qw):List Qy:=if PE l then l.foldl (fun a x=>pV a (ku x)) []else []
theorem EQ {α:Type}(l:List α):l=[]\/∃ini r,l=ini++[r]:=by
 rcases List.eq_nil_or_concat l with h|⟨a,b,h⟩
 ·exact .inl h
 ·exact .inr ⟨a,b,by rw[h,List.concat_eq_append]⟩
theorem Dx (ini:List Qy)(r s:Qy):pV (ini++[r]) s=if Ny r s then ini++[⟨r.L7,s.N1,r.N7,r.M6⟩]else ini++[r]++[s]:=by simp[pV]
end Go.Proofs.P
