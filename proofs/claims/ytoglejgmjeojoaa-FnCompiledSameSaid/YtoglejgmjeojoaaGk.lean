import Derived.Test.YtoglejgmjeojoaaGj
namespace Go.Proofs.Ytoglejgmjeojoaa
open Go.Sim
set_option maxRecDepth 100000
set_option maxHeartbeats 4000000
noncomputable section
structure Fn (p:List NX) (b:NP) (first second:Int) (F g:Nat) (C:Cx):Prop where
 h:SpOk p b first second
 hg:(ay p)[F]?=some g
 hC:CxOk C
 pq:C.p=foldIf p b
 bb:C.b=b
 args:C.args=argsN C.p g
 fn:bP C g
 items:aD p F b=(dg C g).items
 most:(dg C g).most<=C.words
 words:C.words<=60
theorem Fn.lt {p:List NX}{b:NP}{first second:Int}{F g:Nat}{C:Cx}(h:Fn p b first second F g C):F<(ay p).length:=aJ h.hg
def frI (C:Cx):Int:=if C.framed=true then 1 else 0
def iq (C:Cx)(B:Int):Int:=B+frI C+C.args
def fh (C:Cx)(x:Sc)(B j:Int):Int:=if tZ C x j=true then iq C B-j else B-1-kq C x j
def zH (x:Sc):Int:=if x.outer=true then 0 else x.first
def Reg (C:Cx)(x:Sc)(B a:Int):Prop:=(B-C.words<=a/\a<B-zH x)\/(x.outer=true/\iq C B-C.args<a/\a<=iq C B)
structure Fr (C:Cx) (c:Nat) (B fp:Int):Prop where
 fpB:C.framed=true->fp=B
 lo:170*(7-(c:Int))-1<=B
 c6:c<=6
 hi:iq C B<=1199
def Vars (C:Cx)(x:Sc)(B:Int)(W:Int->Int)(vals:List Int):Prop:=∀j:Nat,j<x.locals.length->W (fh C x B j)=atL vals j
def Seg (p:List NX)(b:NP)(F a e:Nat)(items:List NW):Prop:=∀i,a<=i->i<e->opA p b F i=opL items i
theorem vY (C:Cx):0<=frI C/\frI C<=1:=by unfold frI;split<;>omega
theorem Fr.rng {C:Cx}{c:Nat}{B fp:Int}(hC:CxOk C)(h:Fr C c B fp):169<=B/\B<=1199:=by
 have:=h.lo;have:=h.c6;have:=h.hi;have:=vY C;have:=hC.args
 unfold iq at *
 omega
section
variable {C:Cx} {x:Sc} {ins:List Nat} {B:Int}
theorem AX (hC:CxOk C)(hx:ScOk C x ins)(Ql:bz C x<=C.words){j:Nat}(hj:j<x.locals.length):Reg C x B (fh C x B j)/\B-bz C x<=fh C x B j/\fh C x B j<=iq C B:=by
 have ha:=hC.args;have Ow:=hx.argLe hC;have hf:=vY C;have PZ:=hx.first
 unfold Reg fh tZ kq zH at *
 unfold bz at *
 cases ho:x.outer with
 | true=>
  rw[ho]at Ql;have OO:=hx.args ho
  simp only[m8,i7,if_true]at *
  unfold iq at *
  by_cases Tv:(j:Int)<C.args
  ·rw[b9 Tv];exact⟨.inr ⟨trivial,o_,o_⟩,o_,o_⟩
  ·rw[b8 Tv]
   exact⟨.inl ⟨o_,o_⟩,o_,o_⟩
 | false=>
  rw[ho]at Ql
  simp only[q9,y7,if_false,false_and,or_false]at *
  unfold iq;omega
theorem Kd (hC:CxOk C)(hx:ScOk C x ins){j k:Nat}(hj:j<x.locals.length)(hk:k<x.locals.length)(h:fh C x B j=fh C x B k):j=k:=by
 have ha:=hC.args;have hf:=vY C;have PZ:=hx.first
 unfold fh tZ kq iq at *
 cases ho:x.outer with
 | true=>
  rw[ho]at h;simp only[m8,i7,if_true]at h;by_cases h1:(j:Int)<C.args
  ·rw[b9 h1]at h;by_cases h2:(k:Int)<C.args
   ·rw[b9 h2]at h;omega
   ·rw[b8 h2]at h;omega
  ·rw[b8 h1]at h;by_cases h2:(k:Int)<C.args
   ·rw[b9 h2]at h;omega
   ·rw[b8 h2]at h;omega
 | false=>rw[ho]at h;simp only[q9,y7,if_false]at h;omega
theorem Vars.keep {W W':Int->Int}{vals:List Int}(h:Vars C x B W vals)(hw:∀j:Nat,j<x.locals.length->W' (fh C x B j)=W (fh C x B j)):Vars C x B W' vals:=fun j hj=>(hw j hj).trans (h j hj)
end
section
variable {p:List NX} {b:NP} {first second:Int} {F g:Nat} {C:Cx} {x:Sc} {ins:List Nat} {B fp sp d:Int} {c i:Nat} {W:Int->Int} {out:List Int}
theorem Iy (hF:Fn p b first second F g C)(fr:Fr C c B fp){j:Int}(J1:opA p b F i=some ⟨cM C false,db C x d j⟩)(M4:sp+d=B)(hd:0<=d)(h1:1<=sp)(ha:0<=fh C x B j/\fh C x B j<=1199):
  Reach (aE p b first second) ⟨adr p b first second F i,sp,fp,W,out⟩ ⟨adr p b first second F (i+1),sp-1,fp,upd W (sp-1) (W (fh C x B j)),out⟩:=by
 have hr:=fr.rng hF.hC
 cases hf:C.framed with
 | true=>
  have PA:=fr.fpB hf
  have e:fp+db C x d j=fh C x B j:=by unfold db fh iq frI;rw[b9 hf,b9 hf];split<;>omega
  have OR:cM C false=1:=by unfold cM;rw[b9 hf];rfl
  rw[OR]at J1;have:=Cb (sp:=sp) (fp:=fp) (W:=W) (out:=out) hF.h hF.lt J1 h1 o_ (by rw[e];exact ha)
  rwa [e]at this
 | false=>
  have hn:¬(C.framed=true):=by rw[hf];simp
  have e:sp+db C x d j=fh C x B j:=by unfold db fh iq frI;rw[b8 hn,b8 hn];split<;>omega
  have OR:cM C false=3:=by unfold cM;rw[b8 hn];rfl
  rw[OR]at J1;have:=DJ (sp:=sp) (fp:=fp) (W:=W) (out:=out) hF.h hF.lt J1 h1 o_ (by rw[e];exact ha);rwa [e]at this
theorem tl (hF:Fn p b first second F g C)(fr:Fr C c B fp){j:Int}(J1:opA p b F i=some ⟨cM C true,db C x d j⟩)(M4:sp+d=B)(hd:0<=d)(h1:0<=sp)(ha:0<=fh C x B j/\fh C x B j<=1199):
  Reach (aE p b first second) ⟨adr p b first second F i,sp,fp,W,out⟩ ⟨adr p b first second F (i+1),sp+1,fp,upd W (fh C x B j) (W sp),out⟩:=by
 have hr:=fr.rng hF.hC
 cases hf:C.framed with
 | true=>
  have PA:=fr.fpB hf
  have e:fp+db C x d j=fh C x B j:=by unfold db fh iq frI;rw[b9 hf,b9 hf];split<;>omega
  have OR:cM C true=2:=by unfold cM;rw[b9 hf];rfl
  rw[OR]at J1;have:=Bh (sp:=sp) (fp:=fp) (W:=W) (out:=out) hF.h hF.lt J1 h1 o_ (by rw[e];exact ha)
  rwa [e]at this
 | false=>
  have hn:¬(C.framed=true):=by rw[hf];simp
  have e:sp+db C x d j=fh C x B j:=by unfold db fh iq frI;rw[b8 hn,b8 hn];split<;>omega
  have OR:cM C true=4:=by unfold cM;rw[b8 hn];rfl
  rw[OR]at J1;have:=Bc (sp:=sp) (fp:=fp) (W:=W) (out:=out) hF.h hF.lt J1 h1 o_ (by rw[e];exact ha);rwa [e]at this
end
def Md (p:List NX)(b:NP)(first second:Int)(C:Cx)(call:ic)(lo:Int):Prop:=
 ∀(g' G:Nat) (av:List Int) (st J2:IS) (v sp fp:Int) (W:Int->Int),bP C g'->(ay p)[G]?=some g'->av.length=argsN C.p g'->call g' av st= .ok v J2->lo<=sp->sp+argsN C.p g'<=1199->(∀j:Nat,j<argsN C.p g'->W (sp+argsN C.p g'-j)=atL av j)->
  ∃W',Reach (aE p b first second) ⟨adr p b first second G 0,sp,fp,W,st.out⟩ ⟨W sp,sp+argsN C.p g',fp,W',J2.out⟩/\W' (sp+argsN C.p g')=v/\∀a,sp+argsN C.p g'<a->W' a=W a
def LW (p:List NX)(b:NP)(first second:Int)(F:Nat)(C:Cx)(rep:Sc->List Nat->Nat->Nat->Int->Gs->Gs)(x:Sc)(ins:List Nat)(line:Nat)(call:ic)(B fp dm:Int):Prop:=
 ∀(g':Nat) (av:List Int) (st J2:IS) (v sp d:Int) (W:Int->Int) (s:Gs),bP C g'->cK C ins g' s.items.length=true->(rep x ins line g' d s).most<=C.words->(rep x ins line g' d s).items.length<(aD p F b).length->Seg p b F s.items.length (rep x ins line g' d s).items.length (rep x ins line g' d s).items->
  av.length=argsN C.p g'->call g' av st= .ok v J2->sp+d=B->C.words+argsN C.p g'<=d->d<=dm->(∀j:Nat,j<argsN C.p g'->W (sp+argsN C.p g'-1-j)=atL av j)->
  ∃W',Reach (aE p b first second) ⟨adr p b first second F s.items.length,sp,fp,W,st.out⟩ ⟨adr p b first second F (rep x ins line g' d s).items.length,sp+argsN C.p g'-1,fp,W',J2.out⟩/\W' (sp+argsN C.p g'-1)=v/\∀a,sp+argsN C.p g'<=a->(a<B-C.words\/B-bz C x<=a)->W' a=W a
section
variable {p:List NX} {b:NP} {first second:Int} {F g:Nat} {C:Cx} {x:Sc} {ins:List Nat} {B fp dm:Int} {c line:Nat} {rep:Sc->List Nat->Nat->Nat->Int->Gs->Gs} {call:ic} {vals:List Int}
structure Ec (p:List NX) (b:NP) (first second:Int) (F g:Nat) (C:Cx) (x:Sc) (ins:List Nat) (B fp dm:Int) (c line:Nat) (rep:Sc->List Nat->Nat->Nat->Int->Gs->Gs) (call:ic) (vals:List Int):Prop where
 hF:Fn p b first second F g C
 hx:ScOk C x ins
 px:wM C rep x ins
 fr:Fr C c B fp
 top:bz C x<=C.words
 dmx:dm<=148
 cm:Md p b first second C call (B-149)
 cr:LW p b first second F C rep x ins line call B fp dm
def Val (p:List NX)(b:NP)(first second:Int)(F:Nat)(C:Cx)(x:Sc)(B fp:Int)(i j:Nat)(sp top:Int)(W:Int->Int)(st J2:IS)(v:Int):Prop:=
 ∃W',Reach (aE p b first second) ⟨adr p b first second F i,sp,fp,W,st.out⟩ ⟨adr p b first second F j,top-1,fp,W',J2.out⟩/\W' (top-1)=v/\∀a,top<=a->(a<B-C.words\/B-bz C x<=a)->W' a=W a
theorem LH (E:Ec p b first second F g C x ins B fp dm c line rep call vals){t:Og}(ht:fZ t=true)(hv:t.faa=1->∃i,eQ x.locals 0 t.fac=some i)(M6:t.faa=7->∃g',findN C.p 0 t.fac=some g'/\(argsN C.p g':Int)=t.far)
  {d sp v:Int} {s:Gs} {st J2:IS} {av:List Int} {W:Int->Int} (hd:C.words<=d) (RU:d+ar t<=dm) (VE:d+1<=dm) (hm:(jv C rep x ins line t (d+ar t) s).most<=C.words) (J0:(jv C rep x ins line t (d+ar t) s).items.length<(aD p F b).length) (L5:Seg p b F s.items.length (jv C rep x ins line t (d+ar t) s).items.length (jv C rep x ins line t (d+ar t) s).items)
  (Re:av.length=ar t) (J8:gG C.p x.locals vals call t av st= .ok v J2) (M4:sp+(d+ar t)=B) (hW:∀j:Nat,j<ar t->W (sp+ar t-1-j)=atL av j) (M0:Vars C x B W vals):
  Val p b first second F C x B fp s.items.length (jv C rep x ins line t (d+ar t) s).items.length sp (sp+ar t) W st J2 v:=by
 obtain⟨hF,hx,px,fr,top,aa6,cm,cr⟩:=E;have hr:=fr.rng hF.hC;have TZ:=hF.hC.words;obtain⟨k1,k2,k3⟩:=Ba ht
 have QW:∀{code arg line:Int} {chain:List Int} {d:Int},Seg p b F s.items.length (aI C s d code arg line chain).items.length (aI C s d code arg line chain).items->opA p b F s.items.length=some ⟨code,arg⟩:=fun hs=>by
  rw[hs s.items.length (d6 _) (by rw[Lc.emit_len];omega),wg,b9 rfl]
 unfold jv at hm L5 J0⊢;unfold gG at J8;by_cases h0:t.faa=0
 ·rw[b9 h0]at hm L5 J0 J8⊢;have hz:=k1 (.inl h0);rw[hz]at M4 RU L5⊢;injection J8 with e1 e2;subst e1;subst e2;rw[Lc.emit_len];refine⟨upd W (sp-1) t.far,?_,?_,?_⟩
  ·have:=nj (sp:=sp) (fp:=fp) (W:=W) (out:=st.out) hF.h hF.lt (QW L5) o_ o_;rwa [show sp+((0:Nat):Int)-1=sp-1 by omega]
  ·rw[show sp+((0:Nat):Int)-1=sp-1 by omega];exact ip
  ·intro a ha _;exact fm o_
 rw[b8 h0]at hm L5 J0 J8⊢;by_cases h1:t.faa=1
 ·rw[b9 h1]at hm L5 J0 J8⊢;have hz:=k1 (.inr h1);rw[hz]at M4 RU L5⊢;obtain⟨i,hi⟩:=hv h1;have OH:=il hi;have Qu:dy x.locals t.fac=(i:Int):=by unfold dy;exact aZ hi
  have J3:i<x.locals.length:=o_;obtain⟨va,vb,vc⟩:=AX (B:=B) hF.hC hx top J3;have TE:=fr.hi;injection J8 with e1 e2;subst e2;have Yz:v=atL vals i:=by rw[<-e1];unfold JQ;rw[hi]
  unfold FP at L5⊢;rw[Qu]at L5⊢;rw[Lc.emit_len];refine⟨upd W (sp-1) (W (fh C x B i)),?_,?_,?_⟩
  ·have:=Iy (x:=x) (W:=W) (out:=st.out) hF fr (QW L5) (show sp+(d+((0:Nat):Int))=B by exact M4) o_ o_ ⟨o_,o_⟩;rwa [show sp+((0:Nat):Int)-1=sp-1 by omega]
  ·rw[show sp+((0:Nat):Int)-1=sp-1 by omega,ip,Yz];exact M0 i J3
  ·intro a ha _;exact fm o_
 rw[b8 h1]at hm L5 J0 J8⊢;by_cases h7:t.faa=7
 ·rw[b9 h7]at hm L5 J0 J8⊢;obtain⟨g',Sz,hn⟩:=M6 h7;have Qn:=k2 h7;obtain⟨_,ln,q1,q2,_⟩:=eL Sz;have Ps:bP C g':=⟨ln,q1,q2⟩;have TF:ar t=argsN C.p g':=o_;rw[Sz]at hm L5 J0 J8⊢;dsimp only[Option.getD_some]at hm L5 J0 J8⊢;rw[TF]at hm L5 J0 M4 RU Re hW⊢;by_cases hB:cK C ins g' s.items.length=true
  ·rw[b9 hB]at hm L5 J0⊢;obtain⟨W',r1,r2,r3⟩:=cr g' av st J2 v sp (d+argsN C.p g') W s Ps hB hm J0 L5 Re J8 M4 o_ RU hW;exact⟨W',r1,r2,r3⟩
  ·rw[b8 hB]at hm L5⊢;rw[Lc.emit_len];have RX:=BS Ps;have TJ:(ay p)[iV C.p g']?=some g':=by rw[<-kH p b,<-hF.pq];exact RX
   have Tt:=CxOk.argsN hF.hC g';have r1:=Fg (sp:=sp) (fp:=fp) (W:=W) (out:=st.out) hF.h hF.lt (aJ TJ) (QW L5) o_ o_
   obtain⟨W',r2,r3,r4⟩:=cm g' (iV C.p g') av st J2 v (sp-1) fp (upd W (sp-1) (adr p b first second F (s.items.length+1))) Ps TJ Re J8 o_ o_ (fun j hj=>by
    rw[fm o_,<-hW j hj];congr 1
    omega)
   rw[ip]at r2;rw[show sp-1+(argsN C.p g':Int)=sp+argsN C.p g'-1 by omega]at r2 r3 r4;refine⟨W',r1.trans r2,r3,fun a ha _=>?_⟩;rw[r4 a o_];exact fm o_
 ·rw[b8 h7]at hm L5 J0 J8⊢
  have hk:2<=t.faa/\t.faa<=6:=by
   rcases tk ht with h|h|h|h
   ·omega
   ·omega
   ·omega
   ·exact h
  have h2:=k3 hk.1 hk.2;rw[h2]at M4 RU L5 hW⊢;injection J8 with e1 e2;subst e2;rw[Lc.emit_len];have w0:=hW 0 o_;have w1:=hW 1 o_;rw[show sp+((2:Nat):Int)-1-((0:Nat):Int)=sp+1 by omega]at w0;rw[show sp+((2:Nat):Int)-1-((1:Nat):Int)=sp by omega]at w1;refine⟨upd W (sp+1) v,?_,?_,?_⟩
  ·have:=CD (sp:=sp) (fp:=fp) (W:=W) (out:=st.out) hF.h hF.lt (QW L5) o_ o_ o_;rw[w0,w1,show 5+t.faa-2-3=t.faa by omega,e1]at this;rwa [show sp+((2:Nat):Int)-1=sp+1 by omega]
  ·rw[show sp+((2:Nat):Int)-1=sp+1 by omega];exact ip
  ·intro a ha _;exact fm o_
def KnE (C:Cx)(locals:List (List UInt8))(l:List Og):Prop:=∀t∈l,(t.faa=1->∃i,eQ locals 0 t.fac=some i)/\(t.faa=7->∃g',findN C.p 0 t.fac=some g'/\(argsN C.p g':Int)=t.far)
theorem sU (hF:Fn p b first second F g C)(hx:ScOk C x ins)(top:bz C x<=C.words){W W':Int->Int}{sp:Int}(M4:sp<=B-C.words)(h:Vars C x B W vals)(hw:∀a,sp<=a->(a<B-C.words\/B-bz C x<=a)->W' a=W a):Vars C x B W' vals:=h.keep fun j hj=>by
 obtain⟨_,v2,_⟩:=AX (B:=B) hF.hC hx top hj;exact hw _ o_ (.inr v2)
mutual
theorem Bj (E:Ec p b first second F g C x ins B fp dm c line rep call vals):∀(e:Ex) (d sp v:Int) (s:Gs) (st J2:IS) (W:Int->Int),e.ok->KnE C x.locals e.toks->C.words<=d->d+e.toks.length<=dm->(dJ C rep x ins line e d s).most<=C.words->(dJ C rep x ins line e d s).items.length<(aD p F b).length->Seg p b F s.items.length (dJ C rep x ins line e d s).items.length (dJ C rep x ins line e d s).items->
  evE C.p x.locals vals call e st= .ok v J2->sp+d=B->Vars C x B W vals->Val p b first second F C x B fp s.items.length (dJ C rep x ins line e d s).items.length sp sp W st J2 v
 | .node t es,d,sp,v,s,st,J2,W,ho,hk,hd,RU,hm,J0,L5,OL,M4,M0=>by
  rw[dJ]at hm J0 L5⊢;rw[evE]at OL;rw[Ex.toks,d5]at RU;have Q7:=hk t (by rw[Ex.toks];simp);have ZK:=ho.2.1;have N1:=ve es;have gx:=IF (line:=line) E.px t (d+es.length) (cp C rep x ins line es d s);have gx0:=qt (line:=line) E.px es d s
  cases PD:bn C.p x.locals vals call es st with
  | stop c s'=>rw[PD]at OL;cases OL
  | fuel=>rw[PD]at OL;cases OL
  | ok av st1=>
   rw[PD,Rr.bnd_ok]at OL;have Re:=nh PD;obtain⟨W1,a1,a2,a3⟩:=zD E es d sp s st st1 av W ho.2.2 (fun u hu=>hk u (by rw[Ex.toks];simp[hu])) hd o_ (A5 gx.most hm) (Nat.lt_of_le_of_lt gx.px.le J0) (fun i i1 i2=>by rw[L5 i i1 (w3 i2 gx.px.le)];exact gx.px.eq i i2) PD M4 M0;have PO:=sU E.hF E.hx E.top (sp:=sp) o_ M0 a3;have QG:(ar t:Int)=es.length:=o_;rw[<-QG]at hm J0 L5⊢;rw[<-QG]at a1
   obtain⟨W2,b1,b2,b3⟩:=LH E ho.1 Q7.1 Q7.2 (sp:=sp-ar t) (s:=cp C rep x ins line es d s) (d:=d) (W:=W1) hd o_ o_ hm J0 (fun i i1 i2=>L5 i (t7 gx0.px.le i1) i2) o_ OL o_ (fun j hj=>by
    rw[show sp-(ar t:Int)+ar t-1-j=sp-1-j by omega]
    exact a2 j o_) PO
   rw[show sp-(ar t:Int)+ar t=sp by omega]at b1 b2 b3;exact⟨W2,a1.trans b1,b2,fun a h1 h2=>by rw[b3 a h1 h2,a3 a h1 h2]⟩
theorem zD (E:Ec p b first second F g C x ins B fp dm c line rep call vals):∀(es:List Ex) (d sp:Int) (s:Gs) (st J2:IS) (av:List Int) (W:Int->Int),ig es->KnE C x.locals (ak es)->C.words<=d->d+(ak es).length<=dm->(cp C rep x ins line es d s).most<=C.words->(cp C rep x ins line es d s).items.length<(aD p F b).length->Seg p b F s.items.length (cp C rep x ins line es d s).items.length (cp C rep x ins line es d s).items->
  bn C.p x.locals vals call es st= .ok av J2->sp+d=B->Vars C x B W vals->
  ∃W',Reach (aE p b first second) ⟨adr p b first second F s.items.length,sp,fp,W,st.out⟩ ⟨adr p b first second F (cp C rep x ins line es d s).items.length,sp-es.length,fp,W',J2.out⟩/\(∀j:Nat,j<es.length->W' (sp-1-j)=atL av j)/\∀a,sp<=a->(a<B-C.words\/B-bz C x<=a)->W' a=W a
 | [],d,sp,s,st,J2,av,W,_,_,_,_,_,_,_,OL,_,_=>by
  rw[cp];rw[bn]at OL;injection OL with e1 e2;subst e2;refine⟨W,?_,fun j hj=>absurd hj s_,fun a _ _=>rfl⟩;rw[show sp-(([]:List Ex).length:Int)=sp by simp]
  exact Reach.refl _
 | a::es,d,sp,s,st,J2,av,W,ho,hk,hd,RU,hm,J0,L5,OL,M4,M0=>by
  rw[cp]at hm J0 L5⊢;rw[bn]at OL;rw[ak,c7]at RU;have OP:=a.toks_pos;have gx:=qt (line:=line) E.px es (d+1) (dJ C rep x ins line a d s);have gx0:=AY (line:=line) E.px a d s
  cases WF:evE C.p x.locals vals call a st with
  | stop c s'=>rw[WF]at OL;cases OL
  | fuel=>rw[WF]at OL;cases OL
  | ok v st1=>
   rw[WF,Rr.bnd_ok]at OL
   cases PD:bn C.p x.locals vals call es st1 with
   | stop c s'=>rw[PD]at OL;cases OL
   | fuel=>rw[PD]at OL;cases OL
   | ok vs st2=>
    rw[PD,Rr.bnd_ok]at OL;injection OL with e1 e2;subst e1;subst e2;obtain⟨W1,a1,a2,a3⟩:=Bj E a d sp v s st st1 W ho.1 (fun u hu=>hk u (by rw[ak];simp[hu])) hd o_ (A5 gx.most hm) (Nat.lt_of_le_of_lt gx.px.le J0) (fun i i1 i2=>by rw[L5 i i1 (w3 i2 gx.px.le)];exact gx.px.eq i i2) WF M4 M0;have PO:=sU E.hF E.hx E.top (sp:=sp) o_ M0 a3;obtain⟨W2,b1,b2,b3⟩:=zD E es (d+1) (sp-1) (dJ C rep x ins line a d s) st1 st2 vs W1 ho.2 (fun u hu=>hk u (by rw[ak];simp[hu])) o_ o_ hm J0 (fun i i1 i2=>L5 i (t7 gx0.px.le i1) i2) PD o_ PO;refine⟨W2,?_,fun j hj=>?_,fun q h1 h2=>by rw[b3 q o_ h2,a3 q h1 h2]⟩
    ·rw[show sp-(((a::es).length:Nat):Int)=sp-1-es.length by simp;omega];exact a1.trans b1
    ·cases j with
     | zero=>
      rw[show sp-1-((0:Nat):Int)=sp-1 by omega,b3 (sp-1) o_ (.inl o_),a2]
      rfl
     | succ j=>rw[show sp-1-((j+1:Nat):Int)=sp-1-1-j by omega,b2 j (by simpa using hj)];simp[atL]
end
end
end
end Go.Proofs.Ytoglejgmjeojoaa
namespace Go.Proofs.Ytoglejgmjeojoaa
open Go.Sim
set_option maxRecDepth 100000
set_option maxHeartbeats 4000000
noncomputable section
section
variable {p:List NX} {b:NP} {first second:Int} {F g:Nat} {C:Cx} {x y:Sc} {ins:List Nat} {B fp:Int} {c:Nat}
theorem vd {s:Gs}{d code arg line:Int}{chain:List Int}{e:Nat}{l:List NW}(hs:Seg p b F s.items.length e l)(hp:Px (aI C s d code arg line chain).items l)(he:(aI C s d code arg line chain).items.length<=e):opA p b F s.items.length=some ⟨code,arg⟩:=by rw[Lc.emit_len]at he;rw[hs s.items.length (d6 _) o_,hp.eq _ (by rw[Lc.emit_len];omega),wg,b9 rfl]
theorem pG (ho:y.outer=false)(j:Int):fh C y B j=B-1-(y.first+j):=by unfold fh tZ kq;rw[ho];simp
theorem vV (hF:Fn p b first second F g C)(fr:Fr C c B fp)(ho:y.outer=false)(hf:0<=y.first){chain:List Int}{line:Int}{out:List Int}{e:Nat}{l:List NW}:∀(n:Nat) (d sp:Int) (s:Gs) (W:Int->Int),Seg p b F s.items.length e l->Px (bR C y chain line n d s).items l->(bR C y chain line n d s).items.length<=e->sp+d=B->C.words+n<=d->d<=148->y.first+n<=C.words->
  ∃W',Reach (aE p b first second) ⟨adr p b first second F s.items.length,sp,fp,W,out⟩ ⟨adr p b first second F (bR C y chain line n d s).items.length,sp+n,fp,W',out⟩/\(∀j:Nat,j<n->W' (fh C y B j)=W (sp+n-1-j))/\∀a,sp+n<=a->(∀j:Nat,j<n->a≠fh C y B j)->W' a=W a
 | 0,d,sp,s,W,_,_,_,_,_,_,_=>⟨W,by rw[bR,show sp+((0:Nat):Int)=sp by omega];exact Reach.refl _,fun j hj=>by omega,fun a _ _=>rfl⟩
 | n+1,d,sp,s,W,hs,hp,he,M4,hd,Xh,Ph=>by
  have hr:=fr.rng hF.hC;rw[bR]at hp he⊢;have gx:=oG (C:=C) (y:=y) (chain:=chain) (l:=line) n (d-1) (dL C y s d n line chain);have J1:opA p b F s.items.length=some ⟨cM C true,db C y d n⟩:=vd hs (gx.px.trans hp) (t7 gx.px.le he);have hv:=pG (C:=C) (B:=B) ho;have r1:=tl (W:=W) (out:=out) hF fr J1 M4 o_ o_ (by rw[hv];omega);obtain⟨W',r2,r3,r4⟩:=vV hF fr ho hf n (d-1) (sp+1) (dL C y s d n line chain) (upd W (fh C y B n) (W sp)) (fun i i1 i2=>hs i (by unfold dL at i1;rw[Lc.emit_len]at i1;omega) i2) hp he o_ o_ o_ o_;have J0:(dL C y s d n line chain).items.length=s.items.length+1:=Lc.emit_len;rw[J0]at r2;refine⟨W',?_,fun j hj=>?_,fun a h1 h2=>?_⟩
  ·rw[show sp+((n+1:Nat):Int)=sp+1+n by omega];exact r1.trans r2
  ·by_cases WL:j=n
   ·subst WL;rw[r4 _ (by rw[hv];omega) (fun k hk hh=>by rw[hv,hv]at hh;omega),ip,show sp+((j+1:Nat):Int)-1-j=sp by omega]
   ·rw[r3 j o_,fm (by rw[hv];omega)];congr 1;omega
  ·rw[r4 a o_ (fun j hj=>h2 j o_),fm (h2 n o_)]
theorem yL (hF:Fn p b first second F g C)(fr:Fr C c B fp)(ho:y.outer=false)(hf:0<=y.first){chain:List Int}{line d:Int}{out:List Int}{e:Nat}{l:List NW}(sp:Int)(M4:sp+d=B)(hd:C.words<=d)(Xh:d<=148):∀(n i:Nat) (s:Gs) (W:Int->Int),Seg p b F s.items.length e l->Px (cL C y chain line d n i s).items l->(cL C y chain line d n i s).items.length<=e->y.first+i+n<=C.words->
  ∃W',Reach (aE p b first second) ⟨adr p b first second F s.items.length,sp,fp,W,out⟩ ⟨adr p b first second F (cL C y chain line d n i s).items.length,sp,fp,W',out⟩/\(∀j:Nat,i<=j->j<i+n->W' (fh C y B j)=0)/\∀a,sp<=a->(∀j:Nat,i<=j->j<i+n->a≠fh C y B j)->W' a=W a
 | 0,i,s,W,_,_,_,_=>⟨W,by rw[cL];exact Reach.refl _,fun j h1 h2=>by omega,fun a _ _=>rfl⟩
 | n+1,i,s,W,hs,hp,he,Ph=>by
  have hr:=fr.rng hF.hC;have TZ:=hF.hC.words;rw[cL]at hp he⊢;have hv:=pG (C:=C) (B:=B) ho;have gx:=rT (C:=C) (y:=y) (chain:=chain) (l:=line) (d:=d) n (i+1) (dL C y (aI C s d 0 0 line chain) (d+1) i line chain);have gx1:Px (aI C s d 0 0 line chain).items (dL C y (aI C s d 0 0 line chain) (d+1) i line chain).items:=Px.emit ..;have op1:opA p b F s.items.length=some ⟨0,0⟩:=vd hs (gx1.trans (gx.px.trans hp)) (t7 (gx1.trans gx.px).le he);have l1:(aI C s d 0 0 line chain).items.length=s.items.length+1:=Lc.emit_len;have l2:(dL C y (aI C s d 0 0 line chain) (d+1) i line chain).items.length=s.items.length+2:=by unfold dL;rw[Lc.emit_len,l1]
  have op2:opA p b F (s.items.length+1)=some ⟨cM C true,db C y (d+1) i⟩:=by rw[<-l1];exact vd (fun k k1 k2=>hs k o_ k2) (gx.px.trans hp) (t7 gx.px.le he)
  have r1:=nj (sp:=sp) (fp:=fp) (W:=W) (out:=out) hF.h hF.lt op1 o_ o_;have r2:=tl (W:=upd W (sp-1) 0) (out:=out) hF fr op2 (show sp-1+(d+1)=B by omega) o_ o_ (by rw[hv];omega);rw[ip,show sp-1+1=sp by omega]at r2;obtain⟨W',r3,r4,r5⟩:=yL hF fr ho hf sp M4 hd Xh n (i+1) (dL C y (aI C s d 0 0 line chain) (d+1) i line chain) (upd (upd W (sp-1) 0) (fh C y B i) 0) (fun k k1 k2=>hs k o_ k2) hp he o_;rw[l2]at r3;refine⟨W',(r1.trans r2).trans r3,fun j h1 h2=>?_,fun a h1 h2=>?_⟩
  ·by_cases O2:j=i
   ·subst O2;rw[r5 _ (by rw[hv];omega) (fun k k1 k2 hh=>by rw[hv,hv]at hh;omega),ip]
   ·exact r4 j o_ o_
  ·rw[r5 a h1 (fun j j1 j2=>h2 j o_ o_),fm (h2 i o_ o_),fm o_]
end
structure Sx (p:List NX) (b:NP) (first second:Int) (F g:Nat) (Q:Lc) (e lev:Nat):Prop where
 hF:Fn p b first second F g Q.C
 ok:Q.Ok e
 rep:Q.rep=bY Q.C lev
 lvl:Q.ins.length+lev=Q.C.b.faq.toNat+1
 base:(Q.x.outer=true/\Q.base=Q.C.words)\/(Q.x.outer=false/\Q.C.words<=Q.base)
 dm:Q.base+21*((lev:Int)+1)<=148
 most:(Q.LL (e+1)).g.most<=Q.C.words
 top:bz Q.C Q.x<=Q.C.words
 agree:∀i,Q.s.items.length<=i->i<Q.Hd (e+1)->opA p b F i=if(i:Int)∈(Q.LL (e+1)).lv then some ⟨10,(Q.Hd (e+1):Int)⟩else opL (Q.LL (e+1)).g.items i
 room:Q.Hd (e+1)<=(aD p F b).length
 nx:Q.x.outer=false->Q.Hd (e+1)<(aD p F b).length
structure Post (C:Cx) (x:Sc) (B sp fp:Int) (W:Int->Int) (pcE v:Int) (y:MS) (out:List Int):Prop where
 out:y.out=out
 o:x.outer=true->y.pc=(if C.framed=true then W (B+1)else W B)/\y.sp=iq C B/\y.fp=(if C.framed=true then W B else fp)/\y.W (iq C B)=v/\∀a,iq C B<a->y.W a=W a
 i:x.outer=false->y.pc=pcE/\y.sp=sp-1/\y.fp=fp/\y.W (sp-1)=v/\∀a,sp<=a->¬Reg C x B a->y.W a=W a
def KeepR (C:Cx)(x:Sc)(B sp:Int)(W W':Int->Int):Prop:=∀a,sp<=a->¬Reg C x B a->W' a=W a
theorem KeepR.trans {C:Cx}{x:Sc}{B sp:Int}{W W' W'':Int->Int}(h:KeepR C x B sp W W')(h':KeepR C x B sp W' W''):KeepR C x B sp W W'':=fun a h1 h2=>(h' a h1 h2).trans (h a h1 h2)
theorem Post.keep {C:Cx}{x:Sc}{B sp fp:Int}{W W':Int->Int}{pcE v:Int}{y:MS}{out:List Int}(hC:CxOk C)(M4:sp<=B)(QQ:0<=zH x)(h:Post C x B sp fp W' pcE v y out)(hk:KeepR C x B sp W W'):Post C x B sp fp W pcE v y out:=by
 refine⟨h.out,fun ho=>?_,fun ho=>?_⟩
 ·obtain⟨h1,h2,h3,h4,h5⟩:=h.o ho;have ha:=hC.args;have hf:zH x=0:=by unfold zH;rw[b9 ho]
  have kB:W' B=W B:=hk B M4 (by
   have:=vY C
   unfold Reg iq;rw[hf];omega)
  refine⟨?_,h2,?_,h4,fun a ha=>?_⟩
  ·rw[h1];split
   ·rename_i PJ
    exact hk (B+1) o_ (by
     have:frI C=1:=by unfold frI;rw[b9 PJ]
     unfold Reg iq;rw[hf];omega)
   ·exact kB
  ·rw[h3];split
   ·exact kB
   ·rfl
  ·rw[h5 a ha];have:=vY C;have:B<=iq C B:=by unfold iq;omega
   exact hk a o_ (by unfold Reg;rw[hf];omega)
 ·obtain⟨h1,h2,h3,h4,h5⟩:=h.i ho;exact⟨h1,h2,h3,h4,fun a a1 a2=>(h5 a a1 a2).trans (hk a a1 a2)⟩
def tc (p:List NX)(b:NP)(first second lim:Int)(n:Nat):Prop:=
 ∀(F g:Nat) (Q:Lc) (e lev k:Nat) (calls vals:List Int) (st J2:IS) (v sp fp B:Int) (W:Int->Int),Sx p b first second F g Q e lev->Q.x.f<k->k<=e->aT (foldIf p b) lim n calls Q.x.f k vals st= .ok v J2->vals.length=Q.x.locals.length->Vars Q.C Q.x B W vals->Fr Q.C calls.length B fp->sp+Q.base=B->
  ∃y,Reach (aE p b first second) ⟨adr p b first second F (Q.Hd k),sp,fp,W,st.out⟩ y/\Post Q.C Q.x B sp fp W (adr p b first second F (Q.Hd (e+1))) v y J2.out
section
variable {p:List NX} {b:NP} {first second lim:Int} {n:Nat}
theorem Ie {C:Cx}(hC:CxOk C){g e:Nat}(hg:bP C g)(e5:C.args=argsN C.p g)(he:endAt C.p g=some e):Lc.Ok ⟨C,bY C C.b.faq.toNat,aQ C g,[g],C.words,cV C g⟩ e:=by have hS:ScOk C (aQ C g) [g]:=⟨hg,rfl,⟨u9 _,by simp[aQ]⟩,rfl,by simp[aQ],fun _=>e5,rfl⟩;exact⟨hC,hS,he,AQ hC _ hS⟩
theorem Jc {F g:Nat}{C:Cx}(hF:Fn p b first second F g C):∃e,endAt C.p g=some e/\g<e/\Sx p b first second F g ⟨C,bY C C.b.faq.toNat,aQ C g,[g],C.words,cV C g⟩ e C.b.faq.toNat:=by
 have hC:=hF.hC;have hS:ScOk C (aQ C g) [g]:=⟨hF.fn,rfl,⟨u9 _,by simp[aQ]⟩,rfl,by simp[aQ],fun _=>hF.args,rfl⟩;obtain⟨e,he,e2,e3,e4,_⟩:=hS.endE hC;have J5:=Ie hC hF.fn hF.args he;have hl:=Lc.lines_eq J5
 have P7:dg C g=(Lc.LL ⟨C,bY C C.b.faq.toNat,aQ C g,[g],C.words,cV C g⟩ (e+1)).g:=by unfold dg;dsimp only at hl;rw[hl]
 have hlv:(Lc.LL ⟨C,bY C C.b.faq.toNat,aQ C g,[g],C.words,cV C g⟩ (e+1)).lv=[]:=by
  cases hx:(Lc.LL ⟨C,bY C C.b.faq.toNat,aQ C g,[g],C.words,cV C g⟩ (e+1)).lv with
  | nil=>rfl
  | cons j js=>
   obtain⟨_,_,_,_,h,_⟩:=Lc.fin_lv J5 (j:=j) (by rw[hx];simp)
   cases h
 have hin:=hC.inl;have hw:=hF.words;have Vb:=(Lc.fin_start J5).most;have hm:(Lc.LL ⟨C,bY C C.b.faq.toNat,aQ C g,[g],C.words,cV C g⟩ (e+1)).g.most<=C.words:=by rw[<-P7];exact hF.most
 refine⟨e,he,e2,⟨hF,J5,rfl,by dsimp only[List.length_cons,List.length_nil];omega,.inl ⟨rfl,rfl⟩,g_,hm,?_,fun i h1 h2=>?_,?_,fun h=>by cases h⟩⟩
 ·show bz C (aQ C g)<=C.words;have h3:(cV C g).most=(localsOf C.p (g:Int)).length-C.args:=rfl;dsimp only at Vb;rw[h3]at Vb;unfold bz;rw[b9 (show(aQ C g).outer=true from rfl)];show((localsOf C.p (g:Int)).length:Int)-C.args<=C.words;omega
 ·rw[hlv,b8 s_,<-P7];unfold opA opL;rw[hF.items]
 ·unfold Lc.Hd;rw[<-P7,hF.items];exact d6 _
theorem V81{p:Prop}(h:p:=by
 unfold dG atL;split
 ·rw[j7 o_]
 ·rw[m5 o_,F7]
  split<;>rfl):p:=h
theorem zC (Ph:∀G g',(ay p)[G]?=some g'->∃C',Fn p b first second G g' C')(hL:tc p b first second lim n){C:Cx}(hp:C.p=foldIf p b){calls:List Int}(Uk:calls.length<=6){g' G:Nat}{av:List Int}{st J2:IS}{v sp fp':Int}{W:Int->Int}(Ps:bP C g')(hG:(ay p)[G]?=some g')(Re:av.length=argsN C.p g')
  (M5:aT (foldIf p b) lim n calls g' (g'+1) (dG (localsOf (foldIf p b) (g':Int)).length av) st= .ok v J2) (P8:170*(7-(calls.length:Int))<=sp) (TE:sp+argsN C.p g'<=1199) (OO:∀j:Nat,j<argsN C.p g'->W (sp+argsN C.p g'-j)=atL av j):
  ∃W',Reach (aE p b first second) ⟨adr p b first second G 0,sp,fp',W,st.out⟩ ⟨W sp,sp+argsN C.p g',fp',W',J2.out⟩/\W' (sp+argsN C.p g')=v/\∀a,sp+argsN C.p g'<a->W' a=W a:=by
 obtain⟨C',hF⟩:=Ph G g' hG;have hpp:C'.p=C.p:=by rw[hF.pq,hp]
 have YQ:C'.args=argsN C.p g':=by rw[hF.args,hpp]
 obtain⟨e,he,N2,hS⟩:=Jc hF;have hC:=hF.hC;have TZ:=hC.words;have hw:=hF.words;have ha:=hC.args
 have Yn:Lc.Hd ⟨C',bY C' C'.b.faq.toNat,aQ C' g',[g'],C'.words,cV C' g'⟩ (g'+1)=1:=by show(Lc.LL _ (g'+1)).g.items.length=1;have:=Lc.LL_start ⟨C',bY C' C'.b.faq.toNat,aQ C' g',[g'],C'.words,cV C' g'⟩;dsimp only[aQ]at this;rw[show(Lc.LL ⟨C',bY C' C'.b.faq.toNat,aQ C' g',[g'],C'.words,cV C' g'⟩ (g'+1))=_ from this];rfl
 have J1:opA p b G 0=some ⟨if C'.framed=true then 13 else 15,C'.words⟩:=by
  have N8:=Lc.fin_start hS.ok;have h1:=N8.px.eq 0 (by simp[cV,aI])
  have P7:dg C' g'=(Lc.LL ⟨C',bY C' C'.b.faq.toNat,aQ C' g',[g'],C'.words,cV C' g'⟩ (e+1)).g:=by have hl:=Lc.lines_eq hS.ok;unfold dg;dsimp only at hl;rw[hl]
  unfold opA;rw[hF.items,P7];exact h1
 obtain⟨w,WC⟩:=j8 TZ.1
 have J0:(dG (localsOf (foldIf p b) (g':Int)).length av).length=(aQ C' g').locals.length:=by show _=(localsOf C'.p (g':Int)).length;have L3:=(cX hC hF.fn).2;rw[hF.pq]at L3⊢;rw[show argsN (foldIf p b) g'=argsN C.p g' by rw[hp]]at L3;unfold dG;simp;omega
 have RF:∀j:Nat,atL (dG (localsOf (foldIf p b) (g':Int)).length av) j=if j<av.length then atL av j else 0:=fun j=>by
  exact V81
 have Ql:=hS.top;have X2:=hS.ok.hx.argLe hC;have XX:(av.length:Int)=C'.args:=o_
 have key:∀(sp1 fp1 B1:Int) (W1:Int->Int),Reach (aE p b first second) ⟨adr p b first second G 0,sp,fp',W,st.out⟩ ⟨adr p b first second G 1,sp1,fp1,W1,st.out⟩->sp1+C'.words=B1->(C'.framed=true->fp1=B1)->iq C' B1=sp+argsN C.p g'->(B1=sp-1\/B1=sp)->(∀a,B1-C'.words<=a->a<B1->W1 a=0)->(∀a,sp<=a->W1 a=W a)->(if C'.framed=true then W1 (B1+1)else W1 B1)=W sp->(if C'.framed=true then W1 B1 else fp1)=fp'->
   ∃W',Reach (aE p b first second) ⟨adr p b first second G 0,sp,fp',W,st.out⟩ ⟨W sp,sp+argsN C.p g',fp',W',J2.out⟩/\W' (sp+argsN C.p g')=v/\∀a,sp+argsN C.p g'<a->W' a=W a:=by
  intro sp1 fp1 B1 W1 r1 e1 e2 e3 e4 z1 z2 e5 e6
  obtain⟨y,ry,py⟩:=hL G g' _ e _ (g'+1) calls _ st J2 v sp1 fp1 B1 W1 hS (Nat.lt_succ_self _) o_ M5 J0 (fun j hj=>by
   rw[RF j];have TP:j<(localsOf C'.p (g':Int)).length:=hj;unfold fh tZ kq;rw[show(aQ C' g').outer=true from rfl,m8,b9 rfl];unfold bz at Ql;rw[b9 (show(aQ C' g').outer=true from rfl)]at Ql;have ZM:((localsOf C'.p (g':Int)).length:Int)-C'.args<=C'.words:=Ql;by_cases Tv:(j:Int)<C'.args
   ·rw[b9 (by simpa using Tv),b9 o_,e3,z2 _ o_];exact OO j o_
   ·rw[b8 (by simpa using Tv),b8 o_]
    exact z1 _ g_ g_) ⟨e2,o_,Uk,g_⟩ e1
  rw[Yn]at ry;obtain⟨o1,o2,o3,o4,o5⟩:=py.o rfl;have Pd:=py.out;obtain⟨ypc,ysp,yfp,yW,yout⟩:=y;dsimp only at o1 o2 o3 o4 o5 Pd ry;rw[e5]at o1;rw[e6]at o3;rw[e3]at o2 o4 o5;subst o1;subst o2;subst o3;subst Pd;exact⟨yW,r1.trans ry,o4,fun a ha=>by rw[o5 a ha,z2 a o_]⟩
 cases PJ:C'.framed with
 | true=>
  rw[PJ,b9 rfl,WC]at J1;have r1:=Ct (sp:=sp) (fp:=fp') (W:=W) (out:=st.out) hF.h hF.lt J1 o_ o_;have PZ:frI C'=1:=by unfold frI;rw[b9 PJ]
  refine key _ _ (sp-1) _ r1 o_ (fun _=>rfl) (by unfold iq;omega) (.inl rfl) (fun a a1 a2=>b9 o_) (fun a a1=>?_) ?_ ?_
  ·rw[b8 o_,fm o_]
  ·rw[b9 PJ,b8 o_,fm o_,show sp-1+1=sp by omega]
  ·rw[b9 PJ,b8 o_,ip]
 | false=>
  have hn:¬C'.framed=true:=by rw[PJ];simp
  rw[b8 hn,WC]at J1;have r1:=tR (sp:=sp) (fp:=fp') (W:=W) (out:=st.out) hF.h hF.lt J1 o_ o_;have PZ:frI C'=0:=by unfold frI;rw[b8 hn]
  refine key _ _ sp _ r1 o_ (fun h=>absurd h hn) (by unfold iq;omega) (.inr rfl) (fun a a1 a2=>b9 o_) (fun a a1=>b8 o_) ?_ ?_
  ·rw[b8 hn,b8 o_]
  ·rw[b8 hn]
theorem IY (Ph:∀G g',(ay p)[G]?=some g'->∃C',Fn p b first second G g' C')(hL:tc p b first second lim n){C:Cx}(hp:C.p=foldIf p b){calls:List Int}{k:Nat}{B fp:Int}(fr:Fr C calls.length B fp):Md p b first second C (bk (foldIf p b) lim n calls k) (B-149):=by
 intro g' G av st J2 v sp fp' W Ps hG Re M5 P8 TE OO;unfold bk at M5;split at M5
 ·cases M5
 rename_i h6;have Uk:=fr.c6;have Yd:=fr.lo;exact zC Ph hL hp (calls:=calls++[(k:Int)]) (by rw[c7,B8];omega) Ps hG Re M5 (by rw[c7,B8];omega) TE OO
theorem JB (hL:tc p b first second lim n){F g:Nat}{Q:Lc}{e lev:Nat}(hS:Sx p b first second F g Q e lev){calls:List Int}{k:Nat}{B fp:Int}(fr:Fr Q.C calls.length B fp):LW p b first second F Q.C Q.rep Q.x Q.ins k (bk (foldIf p b) lim n calls k) B fp (Q.base+21):=by
 intro g' av st J2 v sp d W s Ps hB hm M2 L5 Re M5 M4 hd RU OO;have hC:=hS.hF.hC;have TZ:=hC.words;obtain⟨rB1,_⟩:=fW hB;have hin:=hC.inl;have PB:=hS.lvl;obtain⟨Q5,rfl⟩:∃l,lev=l+1:=⟨lev-1,o_⟩;have aaJ:=hS.dm;have Qf:Q.C.words<=Q.base:=by rcases hS.base with h|h<;>omega
 have Tt:=CxOk.argsN hC g';unfold bk at M5;split at M5
 ·cases M5
 rename_i h6;have Uk:=fr.c6;have Yd:=fr.lo;have Th:=fr.rng hC;have hx:=hS.ok.hx;have hy:=jz hC hx k Ps;obtain⟨e',N5,e2,e3,e4,_⟩:=hy.endE hC;have abB:endAt Q.C.p g'=some e':=N5;have N2:g'<e':=e2;obtain⟨Xc,hLa⟩:=cX hC Ps;rw[hS.rep]at hm M2 L5⊢
 generalize hq:(⟨Q.C,bY Q.C Q5,bS Q.C Q.x k g',Q.ins++[g'],d-argsN Q.C.p g',ck Q.C Q.x k (d-argsN Q.C.p g') (eS Q.C Q.x k g' d s)⟩:Lc)=Q2 at *
 have SU:Q2.Ok e':=by rw[<-hq];exact⟨hC,hy,N5,AQ hC _ hy⟩
 have hl:=Lc.lines_eq SU;have c2:Q2.C=Q.C:=by rw[<-hq]
 have x2:Q2.x=bS Q.C Q.x k g':=by rw[<-hq]
 have s2:Q2.s=ck Q.C Q.x k (d-argsN Q.C.p g') (eS Q.C Q.x k g' d s):=by rw[<-hq]
 have b2:Q2.base=d-argsN Q.C.p g':=by rw[<-hq]
 have i2:Q2.ins=Q.ins++[g']:=by rw[<-hq]
 have r2:Q2.rep=bY Q.C Q5:=by rw[<-hq]
 have J4:bY Q.C (Q5+1) Q.x Q.ins k g' d s=⟨patchL (Q2.LL (e'+1)).g.items (Q2.Hd (e'+1)) (Q2.LL (e'+1)).lv,(Q2.LL (e'+1)).g.most,(Q2.LL (e'+1)).g.start⟩:=by show kO Q.C (bv Q.C (bY Q.C Q5)) Q.x Q.ins k g' d s=_;unfold kO;rw[c2,x2,s2,b2,i2,r2]at hl;rw[hl];rfl
 rw[J4]at hm M2 L5⊢;dsimp only at hm M2 L5⊢;rw[fY]at M2 L5⊢;have ZG:(Q2.LL (e'+1)).g.items.length=Q2.Hd (e'+1):=rfl;rw[ZG]at M2 L5⊢;have gpre:=KA (C:=Q.C) (x:=Q.x) (line:=k) g' d s;have gsp:=DO (C:=Q.C) (x:=Q.x) (line:=k) (d-argsN Q.C.p g') (eS Q.C Q.x k g' d s);have gst:=Lc.fin_start SU;rw[s2]at gst;have abS:=gpre.1.px.le;have RJ:=gsp.px.le;have Sd:=gst.px.le;rw[ZG]at Sd
 have TD:∀j∈(Q2.LL (e'+1)).lv,((ck Q.C Q.x k (d-argsN Q.C.p g') (eS Q.C Q.x k g' d s)).items.length:Int)<=j/\opL (Q2.LL (e'+1)).g.items j.toNat=some ⟨10,0⟩:=fun j hj=>by
  obtain⟨r,_,_,_,_,_,h1,h2,h3⟩:=Lc.fin_lv SU hj;rw[s2]at h3;rw[h1]at h3⊢;rw[d9];exact⟨h3,h2⟩
 have Zj:Sx p b first second F g Q2 e' Q5:=by
  refine⟨by rw[c2];exact hS.hF,SU,by rw[r2,c2],by rw[i2,c2,c7,B8];omega,.inr ⟨by rw[x2];rfl,by rw[b2,c2];omega⟩,by rw[b2];omega,by rw[c2];exact hm,?_,fun i h1 h2=>?_,o_,fun _=>by omega⟩
  ·have TC:=gpre.2;have Sv:=gsp.most;have hm3:=gst.most;rw[c2,x2];show bz Q.C Q.x+((localsOf Q.C.p (g':Int)).length:Int)<=Q.C.words;omega
  ·rw[s2]at h1;rw[L5 i o_ h2];split
   ·rename_i OT;have h3:=(TD _ OT).2;rw[d9]at h3;rw[HJ _ h3,b9 OT]
   ·rename_i OT;exact vt _ OT
 have TL:=Zj.top;rw[c2,x2]at TL;have Zr:bz Q.C Q.x+((localsOf Q.C.p (g':Int)).length:Int)<=Q.C.words:=TL;have ST:=(nN hC hx).1;have Ut:(bS Q.C Q.x k g').outer=false:=rfl;have PZ:(bS Q.C Q.x k g').first=bz Q.C Q.x:=rfl;have hv:=pG (C:=Q.C) (B:=B) Ut;have Se:Px (ck Q.C Q.x k (d-argsN Q.C.p g') (eS Q.C Q.x k g' d s)).items (patchL (Q2.LL (e'+1)).g.items (Q2.Hd (e'+1)) (Q2.LL (e'+1)).lv):=Px.patch _ gst.px (fun j hj=>(TD j hj).1);have gz:=rT (C:=Q.C) (y:=bS Q.C Q.x k g') (chain:=Q.x.chain) (l:=(k:Int)) (d:=d-argsN Q.C.p g') ((localsOf Q.C.p (g':Int)).length-argsN Q.C.p g') (argsN Q.C.p g') (bR Q.C (bS Q.C Q.x k g') Q.x.chain k (argsN Q.C.p g') d ⟨s.items,max s.most (bz Q.C Q.x+(localsOf Q.C.p (g':Int)).length),s.start⟩);have OJ:eS Q.C Q.x k g' d s=cL Q.C (bS Q.C Q.x k g') Q.x.chain k (d-argsN Q.C.p g') ((localsOf Q.C.p (g':Int)).length-argsN Q.C.p g') (argsN Q.C.p g') (bR Q.C (bS Q.C Q.x k g') Q.x.chain k (argsN Q.C.p g') d ⟨s.items,max s.most (bz Q.C Q.x+(localsOf Q.C.p (g':Int)).length),s.start⟩):=rfl;rw[<-OJ]at gz;have TS:=gz.px.le;obtain⟨W1,a1,a2,a3⟩:=vV (out:=st.out) hS.hF fr Ut (by rw[PZ];omega) (argsN Q.C.p g') d sp ⟨s.items,max s.most (bz Q.C Q.x+(localsOf Q.C.p (g':Int)).length),s.start⟩ W (fun i i1 i2=>L5 i i1 i2) (gz.px.trans (gsp.px.trans Se)) o_ M4 o_ o_ (by rw[PZ];omega);have gs0:=oG (C:=Q.C) (y:=bS Q.C Q.x k g') (chain:=Q.x.chain) (l:=(k:Int)) (argsN Q.C.p g') d ⟨s.items,max s.most (bz Q.C Q.x+(localsOf Q.C.p (g':Int)).length),s.start⟩;have Pf:=gs0.px.le;dsimp only at Pf;obtain⟨W2,c1,c3,c4⟩:=yL (out:=st.out) (chain:=Q.x.chain) (line:=(k:Int)) hS.hF fr Ut (by rw[PZ];omega) (sp+argsN Q.C.p g') (show sp+argsN Q.C.p g'+(d-argsN Q.C.p g')=B by omega) o_ o_ ((localsOf Q.C.p (g':Int)).length-argsN Q.C.p g') (argsN Q.C.p g') (bR Q.C (bS Q.C Q.x k g') Q.x.chain k (argsN Q.C.p g') d ⟨s.items,max s.most (bz Q.C Q.x+(localsOf Q.C.p (g':Int)).length),s.start⟩) W1 (fun i i1 i2=>L5 i o_ i2) (by rw[<-OJ];exact gsp.px.trans Se) (by rw[<-OJ];omega) (by rw[PZ];omega);rw[<-OJ]at c1
 have r3:Reach (aE p b first second) ⟨adr p b first second F (eS Q.C Q.x k g' d s).items.length,sp+argsN Q.C.p g',fp,W2,st.out⟩ ⟨adr p b first second F (ck Q.C Q.x k (d-argsN Q.C.p g') (eS Q.C Q.x k g' d s)).items.length,sp+argsN Q.C.p g',fp,W2,st.out⟩:=by
  unfold ck at Se RJ Sd⊢;split
  ·rename_i N8;rw[b9 N8]at Se RJ Sd;have J1:=vd (fun i i1 i2=>L5 i o_ i2) Se Sd;have:=tR (n:=0) (sp:=sp+argsN Q.C.p g') (fp:=fp) (W:=W2) (out:=st.out) hS.hF.h hS.hF.lt J1 o_ o_;rw[Lc.emit_len];rw[show(fun a=>if sp+(argsN Q.C.p g':Int)-((0:Nat):Int)<=a/\a<sp+argsN Q.C.p g' then 0 else W2 a)=W2 from funext fun a=>b8 o_]at this;rwa [show sp+(argsN Q.C.p g':Int)-((0:Nat):Int)=sp+argsN Q.C.p g' by omega]at this
  ·exact Reach.refl _
 have Yn:Q2.Hd (g'+1)=(ck Q.C Q.x k (d-argsN Q.C.p g') (eS Q.C Q.x k g' d s)).items.length:=by unfold Lc.Hd;have:=Lc.LL_start Q2;rw[x2,s2]at this;rw[show(Q2.LL (g'+1))=_ from this];rfl
 have RF:∀j:Nat,atL (dG (localsOf (foldIf p b) (g':Int)).length av) j=if j<av.length then atL av j else 0:=fun j=>by
  exact V81
 have x2f:Q2.x.f=g':=by rw[x2];rfl
 rw[<-x2f]at M5
 obtain⟨y,ry,py⟩:=hL F g Q2 e' Q5 (g'+1) (calls++[(k:Int)]) _ st J2 v (sp+argsN Q.C.p g') fp B W2 Zj (by rw[x2f];omega) o_ (by rw[x2f]at M5⊢;exact M5) (by
   rw[x2];show _=(localsOf Q.C.p (g':Int)).length;have YL:foldIf p b=Q.C.p:=hS.hF.pq.symm;rw[YL];unfold dG;simp
   omega) (fun j hj=>by
   rw[x2]at hj;have TP:j<(localsOf Q.C.p (g':Int)).length:=hj;rw[RF j,c2,x2];by_cases Tv:j<argsN Q.C.p g'
   ·rw[b9 o_,c4 _ (by rw[hv,PZ];omega) (fun i i1 i2 hh=>by rw[hv,hv]at hh;omega),a2 j Tv];exact OO j Tv
   ·rw[b8 o_]
    exact c3 j o_ o_) (by rw[c2];exact⟨fr.fpB,by rw[c7,B8];omega,by rw[c7,B8];omega,fr.hi⟩) (by rw[b2];omega)
 rw[Yn]at ry;obtain⟨o1,o2,o3,o4,o5⟩:=py.i (by rw[x2];rfl);have Pd:=py.out;obtain⟨ypc,ysp,yfp,yW,yout⟩:=y;dsimp only at o1 o2 o3 o4 o5 Pd ry;subst o1;subst o2;subst o3;subst Pd;refine⟨yW,((a1.trans c1).trans r3).trans ry,o4,fun a h1 h2=>?_⟩
 have hnr:¬Reg Q2.C Q2.x B a:=by rw[c2,x2];unfold Reg zH;rw[Ut,PZ];simp;omega
 rw[o5 a h1 hnr,c4 a h1 (fun j j1 j2 hh=>by rw[hv,PZ]at hh;omega),a3 a h1 (fun j hj hh=>by rw[hv,PZ]at hh;omega)]
end
end
abbrev kS (s:List UInt8):Tr:= .str s
theorem keyS_iff {s:List UInt8}{q:Tr}:dQ (kS s) q=true↔q=kS s:=by
 cases q with
 | str a=>
  constructor
  ·intro h;have:s=a:=A3 h;rw[this]
  ·intro h;injection h with h;subst h
   exact G6 _
 | _=>
  constructor
  ·intro h;cases h
  ·intro h;cases h
theorem pF (v:Int)(s:List UInt8):∀es:List (Tr×Int),fN (kT es (kS s) v) (kS s)=some v
 | []=>by
  show dT (dQ (kS s)) [(kS s,v)]=_
  rw[dT,keyS_iff.2 rfl];rfl
 |(q,x)::es=>by
  have ih:=pF v s es;show dT (dQ (kS s)) (km (dQ (kS s)) (kS s) v ((q,x)::es))=_;rw[km]
  cases hb:dQ (kS s) q with
  | true=>rw[show(bif true then(q,v)::es else(q,x)::km (dQ (kS s)) (kS s) v es)=(q,v)::es from rfl,dT,hb];rfl
  | false=>rw[show(bif false then(q,v)::es else(q,x)::km (dQ (kS s)) (kS s) v es)=(q,x)::km (dQ (kS s)) (kS s) v es from rfl,dT,hb];exact ih
theorem kN {s s':List UInt8}(h:s≠s')(v:Int):∀es:List (Tr×Int),fN (kT es (kS s) v) (kS s')=fN es (kS s')
 | []=>by
  show dT (dQ (kS s')) [(kS s,v)]=dT _ [];rw[dT,dT]
  cases hb:dQ (kS s') (kS s)with
  | true=>exact absurd (by have:=keyS_iff.1 hb;injection this) h
  | false=>rfl
 |(q,x)::es=>by
  have ih:=kN h v es;show dT (dQ (kS s')) (km (dQ (kS s)) (kS s) v ((q,x)::es))=dT (dQ (kS s')) ((q,x)::es);rw[km]
  cases hb:dQ (kS s) q with
  | true=>
   rw[show(bif true then(q,v)::es else(q,x)::km (dQ (kS s)) (kS s) v es)=(q,v)::es from rfl,dT,dT]
   cases Oo:dQ (kS s') q with
   | true=>exact absurd (by have h1:=keyS_iff.1 hb;have h2:=keyS_iff.1 Oo;rw[h1]at h2;injection h2) h
   | false=>rfl
  | false=>
   rw[show(bif false then(q,v)::es else(q,x)::km (dQ (kS s)) (kS s) v es)=(q,x)::km (dQ (kS s)) (kS s) v es from rfl,dT,dT]
   cases dQ (kS s') q with
   | true=>rfl
   | false=>exact ih
theorem zK {l:List (List UInt8)}:∀{n i:Nat} {s:List UInt8},eQ l n s=some i->n<=i/\l[i-n]?=some s:=by
 induction l with
 | nil=>intro n i s h;rw[eQ]at h;cases h
 | cons x l ih=>
  intro n i s h;rw[eQ]at h;split at h
  ·rename_i hx;injection h with h;subst h;exact⟨d6 _,by rw[v5,e9,A3 hx]⟩
  ·obtain⟨h1,h2⟩:=ih h;exact⟨o_,by rw[show i-n=(i-(n+1))+1 by omega,j6];exact h2⟩
theorem EQ {l:List (List UInt8)}:∀{n i:Nat} {s:List UInt8},eQ l n s=some i->∀j,n<=j->j<i->l[j-n]?≠some s:=by
 induction l with
 | nil=>intro n i s h;rw[eQ]at h;cases h
 | cons x l ih=>
  intro n i s h j h1 h2;rw[eQ]at h;split at h
  ·injection h with h;omega
  ·rename_i hx;rcases Nat.eq_or_lt_of_le h1 with rfl|J3
   ·rw[v5,e9];intro e;injection e with e;exact hx (by rw[e];simp)
   ·rw[show j-n=(j-(n+1))+1 by omega,j6];exact ih h j o_ h2
def VarsM (L:List (List UInt8))(vals:List Int)(es:List (Tr×Int)):Prop:=∀(i:Nat) (nm:List UInt8),eQ L 0 nm=some i->oO (fN es (kS nm))=atL vals i
theorem Is {l:List Int}{i j:Nat}{v:Int}(hi:i<l.length):atL (l.set i v) j=if j=i then v else atL l j:=by
 unfold atL;rw[List.getElem?_set];by_cases h:i=j
 ·subst h;rw[b9 rfl,b9 hi,b9 rfl];rfl
 ·rw[b8 h,b8 (fun e=>h e.symm)]
theorem VarsM.set {L:List (List UInt8)}{vals:List Int}{es:List (Tr×Int)}(h:VarsM L vals es){nm:List UInt8}{i:Nat}(hi:eQ L 0 nm=some i)(hl:i<vals.length)(v:Int):VarsM L (vals.set i v) (kT es (kS nm) v):=by
 intro j UD hj;rw[Is hl];by_cases e:nm=UD
 ·subst e;rw[hi]at hj;injection hj with hj;rw[b9 hj.symm,pF];rfl
 ·rw[kN e,h j UD hj,b8];intro e2;subst e2;have h1:=(zK hi).2;have h2:=(zK hj).2;rw[h1]at h2;injection h2 with h2;exact e h2
def FillM (A:List (List UInt8))(args:List Int)(k:Nat)(es:List (Tr×Int)):Prop:=(∀i nm,i<k->A[i]?=some nm->oO (fN es (kS nm))=atL args i)/\∀nm,nm∉A.take k->oO (fN es (kS nm))=0
theorem FillM.zero (A:List (List UInt8))(args:List Int):FillM A args 0 []:=⟨fun i nm h=>by omega,fun nm _=>rfl⟩
theorem zl {l:List (List UInt8)}:∀(n k:Nat),wi l n k=true->∀(i j:Nat) (s:List UInt8),i<j->k<=j->j<k+n->l[j]?=some s->l[i]?≠some s
 | 0,k,_,i,j,s,_,h1,h2,_=>o_
 | n+1,k,h,i,j,s,PC,h1,h2,hj=>by
  rw[wi]at h;split at h
  ·rename_i t ht;split at h
   ·rename_i hc;rcases Nat.eq_or_lt_of_le h1 with rfl|J3
    ·rw[ht]at hj;injection hj with hj;subst hj;intro hi
     have hm:t∈l.take k:=by rw[t9];exact⟨i,by rw[n6,b9 PC];exact hi⟩
     have:=hc.2;rw[B7.2 hm]at this
     cases this
    ·exact zl n (k+1) h i j s PC o_ o_ hj
   ·cases h
  ·rename_i ht;rw[E9]at ht
   have:j<l.length:=by
    rcases m6 j l.length with h'|h'
    ·exact h'
    ·rw[d8 h']at hj;cases hj
   omega
theorem Bd {l:List (List UInt8)}(h:lQ l=true){i j:Nat}{s:List UInt8}(PC:i<j)(hj:l[j]?=some s):l[i]?≠some s:=by
 unfold lQ at h;rw[c8]at h
 have hl:j<l.length:=by
  rcases m6 j l.length with h'|h'
  ·exact h'
  ·rw[d8 h']at hj;cases hj
 exact zl l.length 0 h.1 i j s PC o_ o_ hj
theorem FillM.step {A:List (List UInt8)}{args:List Int}{k:Nat}{es:List (Tr×Int)}(hA:lQ A=true)(h:FillM A args k es){nm:List UInt8}(hk:A[k]?=some nm):FillM A args (k+1) (kT es (kS nm) (atL args k)):=by
 obtain⟨h1,h2⟩:=h;refine⟨fun i UD hi hn=>?_,fun UD hn=>?_⟩
 ·by_cases e:i=k
  ·subst e;rw[hk]at hn;injection hn with hn;subst hn;rw[pF];rfl
  ·rw[kN (fun e2=>by subst e2;exact Bd hA (show i<k by omega) hk hn)];exact h1 i UD o_ hn
 ·rw[z9,hk]at hn;simp only[Option.toList,e7,s9,not_or]at hn;rw[kN (fun e=>hn.2 e.symm)];exact h2 UD hn.1
theorem FillM.vars {A L:List (List UInt8)}{args:List Int}{es:List (Tr×Int)}(h:FillM A args A.length es)(hp:A <+:L)(hl:args.length=A.length):VarsM L (dG L.length args) es:=by
 obtain⟨t,rfl⟩:=hp;intro i nm hi;have h1:=(zK hi).2;rw[x5]at h1;by_cases J3:i<A.length
 ·rw[j7 J3]at h1;rw[h.1 i nm J3 h1,dG];unfold atL;rw[j7 o_]
 ·rw[h.2 nm]
  ·have OH:i<(A++t).length:=by
    rcases m6 i (A++t).length with h'|h'
    ·exact h'
    ·rw[d8 h']at h1;cases h1
   rw[dG];unfold atL;rw[m5 o_,F7,b9 o_];rfl
  ·rw[D1];intro hm;obtain⟨j,hj⟩:=t9.1 hm
   have OM:j<A.length:=by
    rcases m6 j A.length with h'|h'
    ·exact h'
    ·rw[d8 h']at hj;cases hj
   exact EQ hi j o_ o_ (by rw[x5,j7 OM];exact hj)
noncomputable section
section
variable {p:List NX} {b:NP} {first second lim:Int} {F g:Nat} {Q:Lc} {e lev:Nat}
theorem IK {i:Nat}(h:i<(aD p F b).length):∃o,opA p b F i=some o:=by obtain⟨it,OS⟩:=ae h;exact⟨it.fad,by unfold opA;rw[OS];rfl⟩
theorem Sx.lo (hS:Sx p b first second F g Q e lev){k:Nat}(h1:Q.x.f<k)(h2:k<=e+1):Q.s.items.length<=Q.Hd k:=by
 have e0:Q.Hd (Q.x.f+1)=Q.s.items.length:=by unfold Lc.Hd;rw[Lc.LL_start];rfl
 rw[<-e0];exact Lc.hd_mono hS.ok o_ o_ h2
theorem Sx.line_op (hS:Sx p b first second F g Q e lev){k i:Nat}(h1:Q.x.f<k)(h2:k<=e)(h3:Q.Hd k<=i)(h4:i<Q.Hd (k+1))(h5:jumps Q.C.p k->i≠Q.Hd (k+1)-1)(h6:kindAt Q.C.p k=6->Q.x.outer=false->i≠Q.Hd (k+1)-1):opA p b F i=opL (Q.LL (k+1)).g.items i:=by
 have hm:=Lc.hd_mono hS.ok (i:=k+1) (k:=e+1) o_ o_ (d6 _);have P8:=hS.lo h1 o_;rw[hS.agree i o_ o_,b8,Lc.fin_line hS.ok h1 h2 h3 h4 h5];intro OT;obtain⟨r,r1,r2,r3,r4,r5,r6,_⟩:=Lc.fin_lv hS.ok OT;rcases x6 r k with hh|hh|hh
 ·have:=Lc.hd_mono hS.ok (i:=r+1) (k:=k) o_ o_ o_;omega
 ·subst hh;have:=h6 r3 r4;omega
 ·have:=Lc.hd_mono hS.ok (i:=k+1) (k:=r) o_ o_ o_;omega
theorem Sx.jump_op (hS:Sx p b first second F g Q e lev){k:Nat}(h1:Q.x.f<k)(h2:k<e)(hj:jumps Q.C.p k):∃t:Nat,plN Q.C.p k=(t:Int)/\k<t/\t<e/\opA p b F (Q.Hd (k+1)-1)=some ⟨if kindAt Q.C.p k=4 then 10 else 11,(Q.Hd (t+1):Int)⟩/\Q.Hd k<Q.Hd (k+1):=by
 obtain⟨t,t1,t2,t3,t4⟩:=Lc.fin_jump hS.ok h1 h2 hj;have hI:=Lc.inv_all hS.ok (e+1) o_ (d6 _);have hn:=((hI.one k h1 o_).new hj).1;have hm:=Lc.hd_mono hS.ok (i:=k+1) (k:=e+1) o_ o_ (d6 _);have P8:=hS.lo h1 o_;refine⟨t,t1,t2,t3,?_,hn⟩;rw[hS.agree _ o_ o_,b8,t4];intro OT;obtain⟨r,r1,r2,r3,r4,r5,r6,_⟩:=Lc.fin_lv hS.ok OT;have K0:r≠k:=fun hh=>by subst hh;unfold jumps at hj;omega
 have:=Lc.last_ne hS.ok r1 h1 o_ o_ r5 hn K0;omega
theorem Sx.lv_op (hS:Sx p b first second F g Q e lev){k:Nat}{ln:NX}(h1:Q.x.f<k)(h2:k<e)(hk:Q.C.p[k]?=some ln)(h6:ln.faa=6)(ho:Q.x.outer=false):opA p b F (Q.Hd (k+1)-1)=some ⟨10,(Q.Hd (e+1):Int)⟩:=by have OT:=Lc.lv_has hS.ok h1 h2 hk h6 ho;obtain⟨r,r1,r2,r3,r4,r5,r6,_,r8⟩:=Lc.fin_lv hS.ok OT;have hm:=Lc.hd_mono hS.ok (i:=r+1) (k:=e+1) o_ o_ (d6 _);rw[hS.agree _ o_ o_,b9 OT]
theorem Sx.lastHd (hS:Sx p b first second F g Q e lev):Q.Hd e<Q.Hd (e+1):=by obtain⟨its,e1,e2,_⟩:=Lc.last_step hS.ok;unfold Lc.Hd;rw[e1,c7];have:=congrArg List.length e2;rw[e8,d5]at this;omega
theorem Sx.head_op (hS:Sx p b first second F g Q e lev){k:Nat}(h1:Q.x.f<k)(h2:k<=e):∃o,opA p b F (Q.Hd k)=some o:=by have:=Lc.hd_mono hS.ok (i:=k) (k:=e) h1 h2 o_;have:=hS.lastHd;have:=hS.room;exact IK o_
theorem Fs {C:Cx}{x:Sc}{c i:Nat}{B fp sp:Int}{W:Int->Int}{out:List Int}{pcE:Int}(hF:Fn p b first second F g C)(fr:Fr C c B fp)(ho:x.outer=true)(M4:sp+C.words+1=B)(J1:opA p b F i=some (if C.framed=true then⟨14,C.args⟩else⟨16,C.args+16*C.words⟩)):
  ∃y,Reach (aE p b first second) ⟨adr p b first second F i,sp,fp,W,out⟩ y/\Post C x B (sp+1) fp W pcE (W sp) y out:=by
 have hr:=fr.rng hF.hC;have ha:=hF.hC.args;have hw:=hF.hC.words;have Pe:=hF.words;have TE:=fr.hi;obtain⟨n,hn⟩:=j8 ha.1;obtain⟨w,WC⟩:=j8 hw.1
 cases hf:C.framed with
 | true=>
  rw[b9 hf,hn]at J1;have PA:=fr.fpB hf;subst PA;have PZ:frI C=1:=by unfold frI;rw[b9 hf]
  have hT:iq C fp=fp+1+n:=by unfold iq;omega
  have r:=CL (sp:=sp) (fp:=fp) (W:=W) (out:=out) hF.h hF.lt J1 o_ o_ o_ o_;refine⟨_,r,rfl,fun _=>?_,fun h=>by rw[ho]at h;cases h⟩;rw[b9 hf,b9 hf,hT]
  exact⟨rfl,rfl,rfl,ip,fun a h=>fm o_⟩
 | false=>
  have PR:¬C.framed=true:=by rw[hf];simp
  rw[b8 PR,hn,WC]at J1;have PZ:frI C=0:=by unfold frI;rw[b8 PR]
  have hT:iq C B=sp+1+w+n:=by unfold iq;omega
  have r:=AA (sp:=sp) (fp:=fp) (W:=W) (out:=out) hF.h hF.lt (n:=n) (w:=w) o_ J1 o_ o_;refine⟨_,r,rfl,fun _=>?_,fun h=>by rw[ho]at h;cases h⟩;rw[b8 PR,b8 PR,hT,show B=sp+1+w by omega];exact⟨rfl,rfl,rfl,ip,fun a h=>fm o_⟩
theorem Mt (hS:Sx p b first second F g Q e lev):0<=zH Q.x/\zH Q.x<=bz Q.C Q.x:=by
 have h1:=(nN hS.ok.hC hS.ok.hx).1;have h2:=hS.ok.hx.first;unfold zH;split
 ·omega
 ·rename_i ho
  unfold bz at *
  rw[b8 ho]at *
  omega
theorem JL {k:Nat}{ln:NX}(hk:Q.C.p[k]?=some ln)(hS:Sx p b first second F g Q e lev)(h1:Q.x.f<k)(h2:k<e)(Ue:ln.faa=3\/ln.faa=5){t:Nat}(ht:plN Q.C.p k=(t:Int))(Q7:k<t):skipAt Q.C.p k=t:=by
 have Qr:=aL hk;unfold skipAt
 cases N1:elseAt Q.C.p k with
 | some j=>
  obtain⟨z,_,hz,hz3,_⟩:=aV N1;rw[hk]at hz;injection hz with hz;subst hz;have hE:bE Q.C.p (k:Int)=(j:Int):=by rw[bI];exact aZ N1
  have R7:dZ Q.C.p k= -(j:Int):=by unfold dZ;rw[b8 (show ¬kindAt Q.C.p k=4 by omega),hE,b9 (show kindAt Q.C.p k=3/\0<=(j:Int) from⟨o_,o_⟩)]
  unfold plN at ht;rw[R7,b8 o_]at ht;dsimp only
  omega
 | none=>
  have hE:bE Q.C.p (k:Int)= -1:=by rw[bI,N1];rfl
  have R7:dZ Q.C.p k=bT Q.C.p (k:Int)+1:=by unfold dZ;rw[b8 (show ¬kindAt Q.C.p k=4 by omega),hE,b8 (show ¬(kindAt Q.C.p k=3/\(0:Int)<=-1) by omega)]
  unfold plN at ht;rw[R7]at ht;dsimp only;unfold cO;have N2:=gJ Q.C.p k;rw[bA]at ht N2
  cases P4:endAt Q.C.p k with
  | none=>
   rw[P4]at ht;simp only[cA]at ht
   omega
  | some m=>rw[P4,show cA (some m)=(m:Int) from rfl]at ht;show m=t;rw[b9 o_]at ht;omega
theorem Ib {k:Nat}{ln:NX}(hk:Q.C.p[k]?=some ln)(hS:Sx p b first second F g Q e lev)(h4:ln.faa=4){t:Nat}(ht:plN Q.C.p k=(t:Int))(Q7:k<t):cO Q.C.p (ownOf Q.C.p k)=t:=by
 have Qr:=aL hk;unfold plN dZ at ht;rw[b9 (show kindAt Q.C.p k=4 by omega)]at ht;have N2:=gJ Q.C.p (ownOf Q.C.p k);unfold cO;rw[bA]at ht N2
 cases P4:endAt Q.C.p (ownOf Q.C.p k)with
 | none=>
  rw[P4]at ht;simp only[cA]at ht
  omega
 | some m=>rw[P4,show cA (some m)=(m:Int) from rfl]at ht;show m=t;rw[b9 o_]at ht;omega
theorem DU (Ph:∀G g',(ay p)[G]?=some g'->∃C',Fn p b first second G g' C')(PN:ah (foldIf p b)=true){n:Nat}(hL:tc p b first second lim n):tc p b first second lim (n+1):=by
 intro F g Q e lev k calls vals st J2 v sp fp B W hS h1 h2 J8 OK M0 fr M4;have hC:=hS.hF.hC;have hq:foldIf p b=Q.C.p:=hS.hF.pq.symm;obtain⟨ln,hk⟩:=Lc.line_at hS.ok h2;have Qr:=aL hk;have hr:=fr.rng hC;have TZ:=hC.words;have Qf:Q.C.words<=Q.base:=by rcases hS.base with h|h<;>omega
 have RU:=hS.dm;have TA:=ga hC hS.ok.hx hS.ok.he o_ h2 hk;obtain⟨kl,kh,_,kt,kx⟩:=hC.line k ln hk;obtain⟨ST,UT⟩:=Mt hS;have OC:=hS.ok.hx.loc;have Pb:(foldIf p b)[k]?=some ln:=by rw[hq];exact hk
 have hmk:=Lc.hd_mono hS.ok (i:=k) (k:=k+1) h1 o_ o_;have hme:=Lc.hd_mono hS.ok (i:=k+1) (k:=e+1) o_ o_ (d6 _);have M2:=hS.room
 have lastop:∀{i:Nat} {o:NZ},opA p b F i=some o->i<(aD p F b).length:=fun{i o} h=>by
  unfold opA at h
  cases hx:(aD p F b)[i]? with
  | none=>rw[hx]at h;cases h
  | some x=>exact aJ hx
 by_cases h7:ln.faa=7
 ·rw[cD Pb h7,hq]at J8;by_cases L4:ownOf Q.C.p k=Q.x.f
  ·
   rw[b9 L4]at J8;injection J8 with ev es;subst ev;subst es
   have M9:k=e:=by
    obtain⟨_,⟨o1,_⟩|⟨_,o3,_⟩⟩:=hS.ok.hx.own7 hC hS.ok.he h1 h2 hk h7
    ·exact o1
    ·omega
   subst M9;obtain⟨its,e1,e2,_⟩:=Lc.last_step hS.ok
   have J1:∀j,j<its.length->opA p b F (Q.Hd k+j)=(its.map (·.fad))[j]?:=fun j hj=>by
    have J0:Q.Hd (k+1)=Q.Hd k+its.length:=by unfold Lc.Hd;rw[e1,c7]
    rw[hS.line_op h1 (d6 _) o_ o_ (fun hh=>by unfold jumps at hh;omega) (fun hh=>by omega),e1];unfold opL Lc.Hd;rw[m5 o_,D2,l9]
   have Pc:=congrArg List.length e2;rw[e8,d5]at Pc;have op0:=J1 0 o_;rw[e2,w9,e9]at op0;have r1:=nj (sp:=sp) (fp:=fp) (W:=W) (out:=st.out) hS.hF.h hS.hF.lt op0 o_ o_
   cases ho:Q.x.outer with
   | true=>
    have Sp:Q.base=Q.C.words:=by
     rcases hS.base with h|h
     ·exact h.2
     ·rw[ho]at h;cases h.1
    rw[ho]at e2 Pc;rw[b9 rfl]at e2 Pc;have op1:=J1 1 (by simp at Pc;omega);rw[e2,j6,e9]at op1;obtain⟨y,r2,py⟩:=Fs (x:=Q.x) (pcE:=adr p b first second F (Q.Hd (k+1))) (W:=upd W (sp-1) 0) (out:=st.out) (sp:=sp-1) hS.hF fr ho o_ op1;rw[ip]at py;refine⟨y,r1.trans r2,?_⟩;rw[show sp-1+1=sp by omega]at py
    exact py.keep hC o_ ST (fun a a1 _=>fm o_)
   | false=>
    rw[ho]at e2 Pc;simp at e2 Pc;have J0:Q.Hd (k+1)=Q.Hd k+1:=by unfold Lc.Hd;rw[e1,c7];omega
    rw[J0];refine⟨_,r1,rfl,(fun h=>by rw[ho]at h;cases h),fun _=>⟨rfl,rfl,rfl,ip,fun a a1 _=>fm o_⟩⟩
  ·rw[b8 L4,<-hq]at J8
   have M9:k<e:=by
    obtain⟨_,⟨_,o1⟩|⟨o2,_⟩⟩:=hS.ok.hx.own7 hC hS.ok.he h1 h2 hk h7
    ·exact absurd o1 L4
    ·exact o2
   obtain⟨_,⟨_,o1⟩|⟨_,o3,o4,y0,Pa,abq⟩⟩:=hS.ok.hx.own7 hC hS.ok.he h1 h2 hk h7
   ·exact absurd o1 L4
   have Tu:=aL Pa;obtain⟨its,e1,e2,_⟩:=Lc.end_step hS.ok h1 M9 hk h7;rw[hq]at J8;by_cases h5:kindAt Q.C.p (ownOf Q.C.p k)=5
   ·rw[b9 h5,<-hq]at J8;rcases e1 with⟨_,e1⟩|⟨_,it,e1,e3⟩
    ·exact absurd h5 e1
    subst e1;have hI:=Lc.inv_all hS.ok k h1 o_;have UO:=hI.head (ownOf Q.C.p k) o3 o4 o_ o_;have J0:Q.Hd (k+1)=Q.Hd k+1:=by unfold Lc.Hd;rw[e2,be,c7];rfl
    obtain⟨x1,x2,x3,x4,_⟩:=Lc.plN_exit7 hS.ok h1 M9 hk h7;have OP:=hI.pos _ x1 x2 x3;have hIe:=Lc.inv_all hS.ok (e+1) o_ (d6 _);have hnw:=((hIe.one _ x1 o_).new x3).1;have YU:=Lc.hd_mono hS.ok (i:=fj Q.C.p k+1) (k:=k) o_ o_ o_
    have J1:opA p b F (Q.Hd k)=some ⟨10,(Q.Hd (ownOf Q.C.p k):Int)⟩:=by rw[hS.line_op h1 h2 (d6 _) o_ (fun hh=>by unfold jumps at hh;omega) (fun hh=>by omega),e2,kL,OP,b8 o_,lN,b9 (by unfold Lc.Hd;rfl),e3,UO]
    obtain⟨o',L9⟩:=hS.head_op o3 o_;have r1:=pI (sp:=sp) (fp:=fp) (W:=W) (out:=st.out) hS.hF.h hS.hF.lt J1 L9;rw[hq]at J8;rw[<-hq]at J8;obtain⟨y,r2,py⟩:=hL F g Q e lev (ownOf Q.C.p k) calls vals st J2 v sp fp B W hS o3 o_ (by rw[hq]at J8⊢;exact J8) OK M0 fr M4;exact⟨y,r1.trans r2,py⟩
   ·rw[b8 h5,<-hq]at J8;rcases e1 with⟨e1,_⟩|⟨e1,_⟩
    ·subst e1;have J0:Q.Hd (k+1)=Q.Hd k:=by unfold Lc.Hd;rw[e2,be,m9]
     obtain⟨y,r2,py⟩:=hL F g Q e lev (k+1) calls vals st J2 v sp fp B W hS o_ o_ J8 OK M0 fr M4;rw[J0]at r2;exact⟨y,r2,py⟩
    ·exact absurd e1 h5
 by_cases h4:ln.faa=4
 ·rw[dC Pb h4,hq]at J8;have M9:k<e:=(hS.ok.hx.own4 hC hS.ok.he h1 h2 hk h4).2.2.2;obtain⟨t,t1,t2,t3,t4,t5⟩:=hS.jump_op h1 M9 (.inr (.inl o_));have P4:=Ib hk hS h4 t1 t2;rw[P4,<-hq]at J8;obtain⟨it,_,e2,_⟩:=Lc.else_step hS.ok h1 h2 hk h4;have J0:Q.Hd (k+1)=Q.Hd k+1:=by unfold Lc.Hd;rw[e2,be,c7];rfl
  rw[J0,F5,b9 o_]at t4;obtain⟨o',L9⟩:=hS.head_op (k:=t+1) o_ o_;have r1:=pI (sp:=sp) (fp:=fp) (W:=W) (out:=st.out) hS.hF.h hS.hF.lt t4 L9;obtain⟨y,r2,py⟩:=hL F g Q e lev (t+1) calls vals st J2 v sp fp B W hS o_ o_ J8 OK M0 fr M4;exact⟨y,r1.trans r2,py⟩
 by_cases P9:(st.visits.length:Int)=lim
 ·rw[dE Pb h7 h4 P9]at J8;cases J8
 rw[dW Pb h7 h4 P9]at J8
 have M9:k<e:=by
  rcases Nat.lt_or_eq_of_le h2 with h|h
  ·exact h
  ·subst h;obtain⟨le,L3,hl7⟩:=bp hS.ok.he;rw[hk]at L3;injection L3 with L3;subst L3;exact absurd hl7 h7
 obtain⟨q1,q2⟩:=nF (kx o_)
 have O5:=Dd PN (f:=Q.x.f) (e:=e) (k:=k) (by
  rw[hq]
  exact⟨hS.ok.hx.fn,hS.ok.he,h1,h2⟩) Pb M9
 have hkE:KnE Q.C Q.x.locals (exL ln.fae).toks:=fun u hu=>by
  rw[<-q2]at hu;refine⟨fun hh=>?_,fun hh=>?_⟩
  ·have:=O5.1.var u hu hh;rw[hq,<-OC]at this;exact this
  ·have:=O5.1.call u hu hh;rw[hq]at this;exact this
 cases OL:evE (foldIf p b) (localsOf (foldIf p b) (Q.x.f:Int)) vals (bk (foldIf p b) lim n calls k) (exL ln.fae) ⟨st.out,st.visits++[calls++[(k:Int)]]⟩with
 | stop c s1=>rw[OL]at J8;cases J8
 | fuel=>rw[OL]at J8;cases J8
 | ok v1 st1=>
  rw[OL,Rr.bnd_ok]at J8;obtain⟨it,e1,e2,e3,e4,e5,e6⟩:=Lc.expr_step hS.ok h1 h2 hk h4 h7;have gx:=Lc.gE_px hS.ok k ln;have J0:Q.Hd (k+1)=(Lc.gE Q k ln).items.length+1:=by unfold Lc.Hd;rw[e1,c7];rfl
  have Tx:=Lc.most_mono hS.ok (i:=k+1) o_ (e-k) o_;rw[show k+1+(e-k)=e+1 by omega,e6]at Tx;have E:Ec p b first second F g Q.C Q.x Q.ins B fp (Q.base+21) calls.length k Q.rep (bk (foldIf p b) lim n calls k) vals:=⟨hS.hF,hS.ok.hx,hS.ok.rep,fr,hS.top,o_,IY Ph hL hS.hF.pq fr,JB hL hS fr⟩;rw[hq,<-OC,<-hq]at OL;have U0:Q.Hd k<=(Lc.gE Q k ln).items.length:=gx.px.le
  obtain⟨W1,r1,a2,a3⟩:=Bj E (exL ln.fae) Q.base sp v1 ⟨(Q.LL k).g.items,(Q.LL k).g.most,true⟩ ⟨st.out,st.visits++[calls++[(k:Int)]]⟩ st1 W q1 hkE Qf (by rw[<-q2];omega) (A5 Tx hS.most) (by
   show(Lc.gE Q k ln).items.length<_
   omega) (fun i i1 i2=>by
   have i1:Q.Hd k<=i:=i1;have i2:i<(Lc.gE Q k ln).items.length:=i2;show opA p b F i=opL (Lc.gE Q k ln).items i
   rw[hS.line_op h1 h2 i1 o_ (fun _=>by omega) (fun _ _=>by omega),e1,lN,b8 o_]) (by rw[hq]at OL⊢;exact OL) M4 M0
  have r1:Reach (aE p b first second) ⟨adr p b first second F (Q.Hd k),sp,fp,W,st.out⟩ ⟨adr p b first second F (Lc.gE Q k ln).items.length,sp-1,fp,W1,st1.out⟩:=r1;have PO:=sU hS.hF hS.ok.hx hS.top (sp:=sp) o_ M0 a3
  have kp:KeepR Q.C Q.x B sp W W1:=fun a h1 h2=>a3 a h1 (by
   unfold Reg at h2
   omega)
  have Zn:Q.Hd (k+1)-1=(Lc.gE Q k ln).items.length:=o_
  have T6:(jumps Q.C.p k->False)->(kindAt Q.C.p k=6->Q.x.outer=true)->opA p b F (Lc.gE Q k ln).items.length=some (Lc.lastOp Q k ln):=fun hj h6=>by
   rw[hS.line_op h1 h2 o_ o_ (fun hh=>(hj hh).elim) (fun hh ho=>by rw[h6 hh]at ho;cases ho),e1,lN,b9 rfl,e2]
  by_cases k6:ln.faa=6
  ·rw[b9 k6]at J8;injection J8 with ev es;subst ev;subst es
   cases ho:Q.x.outer with
   | true=>
    have Sp:Q.base=Q.C.words:=by
     rcases hS.base with h|h
     ·exact h.2
     ·rw[ho]at h;cases h.1
    have J1:=T6 (fun hj=>by unfold jumps at hj;omega) (fun _=>ho);unfold Lc.lastOp at J1;rw[b8 o_,b8 o_,b9 k6,b9 ho]at J1
    obtain⟨y,r2,py⟩:=Fs (x:=Q.x) (pcE:=adr p b first second F (Q.Hd (e+1))) (W:=W1) (out:=st1.out) (sp:=sp-1) hS.hF fr ho o_ (by
     cases PJ:Q.C.framed with
     | true=>rw[PJ]at J1;exact J1
     | false=>rw[PJ]at J1;exact J1)
    rw[a2,show sp-1+1=sp by omega]at py
    exact⟨y,r1.trans r2,py.keep hC o_ ST kp⟩
   | false=>have J1:=hS.lv_op h1 M9 hk k6 ho;rw[Zn]at J1;obtain⟨o',L9⟩:=IK (hS.nx ho);have r2:=pI (sp:=sp-1) (fp:=fp) (W:=W1) (out:=st1.out) hS.hF.h hS.hF.lt J1 L9;refine⟨_,r1.trans r2,rfl,(fun h=>by rw[ho]at h;cases h),fun _=>⟨rfl,rfl,rfl,a2,fun a g1 g2=>kp a g1 g2⟩⟩
  rw[b8 k6]at J8;by_cases k1:ln.faa=1
  ·obtain⟨j,hj⟩:=O5.2 k1;rw[hq,<-OC]at hj;have OM:=il hj;have hjo:dy Q.x.locals ln.fac=(j:Int):=by unfold dy;exact aZ hj
   have J3:j<Q.x.locals.length:=o_;have J1:=T6 (fun hj=>by unfold jumps at hj;omega) (fun hh=>by omega);unfold Lc.lastOp at J1;rw[b9 k1,hjo]at J1;obtain⟨va,vb,vc⟩:=AX (B:=B) hC hS.ok.hx hS.top J3;have TE:=fr.hi;have htw:=hS.hF.words;have htp:=hS.top;have r2:=tl (x:=Q.x) (W:=W1) (out:=st1.out) hS.hF fr J1 (show sp-1+(Q.base+1)=B by omega) o_ o_ ⟨o_,o_⟩;rw[a2,show sp-1+1=sp by omega,<-J0]at r2;have O9:dI (foldIf p b) ln k v1=k+1:=by unfold dI;rw[b8 o_]
   have QY:je ln st1 v1=st1:=by unfold je;rw[b8 o_]
   have QD:mH (localsOf (foldIf p b) (Q.x.f:Int)) ln vals v1=vals.set j v1:=by unfold mH;rw[b9 k1,hq,<-OC,hj]
   rw[O9,QY,QD]at J8
   obtain⟨y,r3,py⟩:=hL F g Q e lev (k+1) calls (vals.set j v1) st1 J2 v sp fp B (upd W1 (fh Q.C Q.x B j) v1) hS o_ o_ J8 (by rw[o8];exact OK) (fun i hi=>by
    rw[Is o_];by_cases PC:i=j
    ·subst PC;rw[b9 rfl];exact ip
    ·rw[b8 PC,fm (fun hh=>PC (Kd hC hS.ok.hx hi J3 hh))]
     exact PO i hi) fr M4
   refine⟨y,(r1.trans r2).trans r3,py.keep hC o_ ST (kp.trans fun a g1 g2=>fm (fun hh=>g2 (hh▸va)))⟩
  have QD:mH (localsOf (foldIf p b) (Q.x.f:Int)) ln vals v1=vals:=by unfold mH;rw[b8 k1]
  rw[QD]at J8;by_cases k2:ln.faa=2
  ·have J1:=T6 (fun hj=>by unfold jumps at hj;omega) (fun hh=>by omega);unfold Lc.lastOp at J1;rw[b8 k1,b9 k2]at J1;have r2:=HF (sp:=sp-1) (fp:=fp) (W:=W1) (out:=st1.out) hS.hF.h hS.hF.lt J1 o_ o_;rw[a2,show sp-1+1=sp by omega,<-J0]at r2;have O9:dI (foldIf p b) ln k v1=k+1:=by unfold dI;rw[b8 o_]
   have QY:je ln st1 v1=⟨st1.out++[v1],st1.visits⟩:=by unfold je;rw[b9 k2]
   rw[O9,QY]at J8;obtain⟨y,r3,py⟩:=hL F g Q e lev (k+1) calls vals ⟨st1.out++[v1],st1.visits⟩ J2 v sp fp B W1 hS o_ o_ J8 OK PO fr M4;exact⟨y,(r1.trans r2).trans r3,py.keep hC o_ ST kp⟩
  have QY:je ln st1 v1=st1:=by unfold je;rw[b8 k2]
  rw[QY]at J8;have k35:ln.faa=3\/ln.faa=5:=o_;obtain⟨t,t1,t2,t3,t4,t5⟩:=hS.jump_op h1 M9 (by unfold jumps;omega);rw[Zn,b8 o_]at t4;have PH:=JL hk hS h1 M9 k35 t1 t2;obtain⟨o',L9⟩:=hS.head_op (k:=t+1) o_ o_;have r2:=Eb (sp:=sp-1) (fp:=fp) (W:=W1) (out:=st1.out) hS.hF.h hS.hF.lt t4 L9 o_ o_;rw[a2,show sp-1+1=sp by omega]at r2;by_cases hz:v1=0
  ·rw[b9 hz]at r2;have O9:dI (foldIf p b) ln k v1=t+1:=by unfold dI;rw[b9 ⟨k35,hz⟩,hq,PH]
   rw[O9]at J8;obtain⟨y,r3,py⟩:=hL F g Q e lev (t+1) calls vals st1 J2 v sp fp B W1 hS o_ o_ J8 OK PO fr M4;exact⟨y,(r1.trans r2).trans r3,py.keep hC o_ ST kp⟩
  ·rw[b8 hz,<-J0]at r2;have O9:dI (foldIf p b) ln k v1=k+1:=by unfold dI;rw[b8 (fun hh=>hz hh.2)]
   rw[O9]at J8;obtain⟨y,r3,py⟩:=hL F g Q e lev (k+1) calls vals st1 J2 v sp fp B W1 hS o_ o_ J8 OK PO fr M4;exact⟨y,(r1.trans r2).trans r3,py.keep hC o_ ST kp⟩
theorem xp (Ph:∀G g',(ay p)[G]?=some g'->∃C',Fn p b first second G g' C')(PN:ah (foldIf p b)=true):∀n,tc p b first second lim n
 | 0=>fun F g Q e lev k calls vals st J2 v sp fp B W hS h1 h2 J8=>by rw[aT]at J8;cases J8
 | n+1=>DU Ph PN (xp Ph PN n)
theorem NB (h:SpOk p b first second)(G g':Nat)(hG:(ay p)[G]?=some g'):∃C',Fn p b first second G g' C':=by
 have J3:=aJ hG;obtain⟨g0,C,k1,k2,k3,k4,k5,k6,k7,k8,k9⟩:=kV (f:=(G:Int)) h.small h.prog h.build o_ o_;rw[d9,hG]at k1;injection k1 with k1;subst k1;have hw:Wd (ctx (foldIf p b) ((G:Int)).toNat g' b 0) C:=⟨by rw[k3];rfl,by rw[k4];rfl,by rw[k6];rfl,by rw[k5,k3];rfl⟩;have Vh:=IH hw g';have hin:=k2.inl;have ha:=k2.args
 have Tq:CxOk (ctx (foldIf p b) ((G:Int)).toNat g' b 0):=by refine⟨by have:=k2.len;rw[k3]at this;exact this,by have:=k2.small;rw[k3]at this;exact this,by have:=k2.line;rw[k3]at this;exact this,by have:=k2.fn;rw[k3]at this;exact this,?_,by show(0:Int)<=0/\(0:Int)<=1000;omega,by have:=k2.inl;rw[k4]at this;exact this⟩;rw[k5,k3]at ha;exact ha
 have Rb:=(vD Tq (show(0:Int)<=255 by omega) (g:=g') (by have hh:=k7;unfold bP at hh⊢;rw[k3]at hh;exact hh) rfl).2;exact⟨C,h,hG,k2,k3,k4,k5,k7,k8,by rw[Vh,k9];exact u9 _,by rw[k9];exact Rb⟩
end
theorem IU {p:List NX}{b:NP}{first second lim:Int}(h:SpOk p b first second){v:Int}{s':IS}(hr:gi p lim= .ok v s'):
  ∃m',Steps (aE p b first second) (lM (aE p b first second)) m'/\m'.fal=1/\m'.fah=s'.out/\m'.faA=v/\m'.fag=1199:=by
 have PN:ah (foldIf p b)=true:=by
  unfold foldIf;split
  ·exact xt h.prog
  ·exact h.prog
 have QN:gi (foldIf p b) lim= .ok v s':=by
  unfold foldIf;split
  ·rw[Hs h.prog];exact hr
  ·exact hr
 have hx:∃n,aT (foldIf p b) lim n [] 0 1 (dG (localsOf (foldIf p b) 0).length []) is0= .ok v s':=by
  unfold gi at QN;split at QN
  ·exact⟨_,QN⟩
  ·cases QN
 obtain⟨n,hn⟩:=hx;obtain⟨y0,Pa,hyk,_,XA⟩:=zZ PN;have Sl:bP ⟨foldIf p b,b,false,0,0⟩ 0:=⟨y0,Pa,hyk⟩;have RX:=BS Sl
 have YG:(ay p)[0]?=some 0:=by
  rw[kH p b]at RX;have:iV (foldIf p b) 0=0:=by unfold iV;simp
  rw[this]at RX;exact RX
 have Ph:=NB h;have hL:=xp (lim:=lim) Ph PN n;have J3:0<(ay p).length:=aJ YG;obtain⟨C0,hF⟩:=Ph 0 0 YG;have PP:argsN (foldIf p b) 0=0:=by unfold argsN;rw[Pa];dsimp only;rw[XA];rfl
 have hS:=h.space
 have Yp:lM (aE p b first second)=⟨cP p b first second 0,1199,1200,List.replicate 1200 0,[],0,0⟩:=by
  rw[lM,b9 hS]
  have he:(aE p b first second).fan.headD 0=cP p b first second 0:=by have:=mU (p:=p) (b:=b) (first:=first) (second:=second) J3;rw[show(aE p b first second).fan=entries p b first second from rfl,List.headD_eq_head?_getD,List.head?_eq_getElem?,this];rfl
  rw[he]
 obtain⟨W',r1,r2,_⟩:=zC (C:=C0) (calls:=[]) (av:=[]) (st:=is0) (sp:=1199) (fp':=1200) (W:=fun _=>0) (g':=0) (G:=0) Ph hL hF.pq s_ hF.fn YG (by rw[hF.pq,PP];rfl) hn s_ (by rw[hF.pq,PP];decide) (fun j hj=>by rw[hF.pq,PP]at hj;omega);rw[hF.pq,PP]at r1 r2;have P4:=ug h J3
 obtain⟨m',s1,s2⟩:=r1 (lM (aE p b first second)) (by
  rw[Yp];refine⟨s_,(qn h J3).symm,rfl,rfl,rfl,fun a a0 a1=>?_,?_,fun _=>rfl⟩
  ·unfold ey;dsimp only;rw[F7,b9 o_]
  ·rw[b8 (by dsimp only;rw[qn h J3];omega)])
 refine⟨m',s1,?_,s2.out,?_,?_⟩
 ·have:=s2.st;simpa using this
 ·rw[s2.val rfl];exact r2
 ·have:=s2.sp;simpa using this
end
theorem uX (s:Oe):∀(n:Nat) (m:NY),(fI s n m).2<=n
 | 0,m=>by rw[eM (.inr rfl)];exact d6 _
 | n+1,m=>by
  by_cases h0:m.fal=0
  ·rw[oE h0];have:=uX s n (mE m (eU s m));dsimp only;omega
  ·rw[eM (.inl h0)];exact v4 _
theorem I_ {p:List NX}{b:NP}{first second lim:Int}(h:SpOk p b first second){v:Int}{s':IS}(hr:gi p lim= .ok v s')(n:Nat):
  ((fI (aE p b first second) n (lM (aE p b first second))).1.fal=1/\(fI (aE p b first second) n (lM (aE p b first second))).1.fah=s'.out/\(fI (aE p b first second) n (lM (aE p b first second))).1.faA=v/\(fI (aE p b first second) n (lM (aE p b first second))).1.fag=1199)\/(fI (aE p b first second) n (lM (aE p b first second))).2=n:=by
 obtain⟨m',h1,h2,h3,h4,h5⟩:=IU h hr;obtain⟨k,hk⟩:=h1.run;by_cases O5:k<=n
 ·have e:=hk (n-k);rw[show k+(n-k)=n by omega,eM (m:=m') (.inl o_)]at e;rw[e];exact .inl ⟨h2,h3,h4,h5⟩
 ·refine .inr ?_;have e:=hk 0;rw[w9,eM (m:=m') (.inr rfl)]at e;have ha:=Cv (s:=aE p b first second) n (k-n) (lM (aE p b first second));rw[show n+(k-n)=k by omega,e]at ha;have h1:=congrArg Prod.snd ha;dsimp only at h1;have l1:=uX (aE p b first second) n (lM (aE p b first second));have l2:=uX (aE p b first second) (k-n) (fI (aE p b first second) n (lM (aE p b first second))).1;omega
theorem DV {p:List NX}(hp:PgOk p)(h:ah p=true){lim:Int}(h0:0<=lim):(∃v s,gi p lim= .ok v s)\/(∃c s,gi p lim= .stop c s/\(c=1\/c=2)):=by obtain⟨n,hn⟩:=pr hp h h0;exact V31
theorem MU {p:List NX}{b:NP}{first second:Int}(h:SpOk p b first second):∀e∈(aE p b first second).fan,inI e:=fun e he=>by
 obtain⟨f,hf⟩:=t9.1 he;have L8:f<(ay p).length:=by have:=aJ hf;rwa [show(aE p b first second).fan=entries p b first second from rfl,CM]at this
 rw[show(aE p b first second).fan=entries p b first second from rfl,mU L8]at hf;injection hf with hf;obtain⟨i,im,bs,hi⟩:=AG h L8;have h1:=hi.entry;have h2:=hi.range;have h3:=hi.start;have h4:=hi.len;unfold inI;omega
end Go.Proofs.Ytoglejgmjeojoaa
namespace Go.Proofs.Ytoglejgmjeojoaa
open Go.Sim Go.RowKit
set_option maxRecDepth 100000
structure Od where
 fah:List Int
 faI:List (List Int)
 faA:Int
 fab:Int
def Od.tr (x:Od):List Tr:=[.lst 1 (x.fah.map aa),.lst 1 (x.faI.map (Ky 1 aa)),.int .i64 x.faA,.int .i64 x.fab]
def Od.wf (x:Od):Prop:=(x.fah.length<=maxLen/\∀y∈x.fah,inI y)/\(x.faI.length<=maxLen/\∀y∈x.faI,(y.length<=maxLen/\∀z∈y,inI z))/\inI x.faA/\inI x.fab
end Go.Proofs.Ytoglejgmjeojoaa
namespace Go.Proofs.Ytoglejgmjeojoaa
open Go.Sim
set_option maxRecDepth 100000
set_option maxHeartbeats 4000000
noncomputable def ivR (p:List NX) (lim:Int):Od:=if(ah p&&af lim 0 1000)=true then⟨(gi p lim).st.out,(gi p lim).st.visits,(gi p lim).val,(gi p lim).code⟩else⟨[],[],0,3⟩
abbrev ivE (x:Od):List (Sim.Id×AO):=[((1,0,1),.arr false 1 (x.fah.map aa)),((1,0,2),.dar 1 (aC (x.faI.map (Ky 1 aa))) none)]
abbrev ivV (x:Od):AV:= .r (.agg [.own (1,0,1),.own (1,0,2),.t (.int .i64 x.faA),.t (.int .i64 x.fab)])
theorem KN {p:List NX}{lim:Int}(h:¬(ah p&&af lim 0 1000)=true):ivR p lim=⟨[],[],0,3⟩:=by rw[ivR,b8 h]
theorem Ks {p:List NX}{lim:Int}(h:(ah p&&af lim 0 1000)=true):ivR p lim=⟨(gi p lim).st.out,(gi p lim).st.visits,(gi p lim).val,(gi p lim).code⟩:=by rw[ivR,b9 h]
theorem rg (p:List NX)(hs:aH 1048576 (.lst 4 (p.map NX.tr)))(lim:Int):
  bf Try.prog 6 [.r (.c (.t (.lst 4 (p.map NX.tr)))),tI .i64 lim] [] (ivV (ivR p lim)) (ivE (ivR p lim)):=by
 by_cases h:(ah p&&af lim 0 1000)=true
 ·rw[Ks h];rw[c8,within_iff]at h;exact sl p hs h.1 lim h.2.1 h.2.2
 rw[KN h];have hP:=cF p hs;have gl:=bd lim 0 1000
 generalize ah p=b1 at *
 generalize af lim 0 1000=b2 at *
 refine aw hΓ aK Try.func6 rfl d_ rfl rfl ?_;repeat' ((conv=>whnf);first|(with_reducible apply W1;fail_if_success (with_reducible show Wo _ _ _ _ (Code.region 4 _ _) _ _))|(with_reducible first|apply W2|apply W3|apply W4|apply W5|apply W6|apply W7|apply W8|apply W9)|apply aq|apply oi|apply fi|intro h|refine cl hP ?_|refine cl gl ?_|refine⟨_,rfl,?_⟩|exact Y7|fail)
 all_goals try(exfalso;revert h;cases b1<;>cases b2<;>simp_all;done)
theorem qq (p:List NX)(hs:aH 1048576 (.lst 4 (p.map NX.tr)))(lim:Int):Sim.Spec Try.prog 6 [tvP p,tvI lim] (.r (.agg ((ivR p lim).tr.map EO))):=by
 refine HN (ts:=[tvP p,tvI lim]) (rg p hs lim) rfl ⟨trivial,trivial,trivial,trivial,trivial⟩ ⟨rfl,rfl,?_⟩;repeat' ((conv=>whnf);first|exact rfl|exact trivial|(refine And.intro ?_ ?_))
 all_goals first|rfl|exact da _
end Go.Proofs.Ytoglejgmjeojoaa
