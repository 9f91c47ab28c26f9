import Derived.Test.YtoglejgmjeojoaaGreatGg
set_option maxRecDepth 100000
set_option maxHeartbeats 4000000
namespace Go.Proofs.P
open Go.Sim Tryz
def plN (p:List LO)(i:Nat):Int:=if 0<fo p i then fo p i-1 else-fo p i
section
variable {C:Cx} {x:Sc} {ins:List Nat} {rep:Sc->List Nat->Nat->Nat->Int->Gs->Gs} {base:Int}
theorem Cw (hC:CxOk C)(hx:ScOk C x ins){e:Nat}(he:endAt C.p x.f=some e){i:Nat}(h1:x.f<i)(h2:i<e)(hj:jumps C.p i):(i:Int)<plN C.p i/\plN C.p i<e:=by
 have Nz:i<C.p.length:=by obtain⟨_,_,_,_,_,h⟩:=aN he;omega
 obtain⟨y,hy⟩:=ae Nz;have Sk:=bc hy;unfold plN fo;by_cases h4:kindAt C.p i=4
 ·rw[c7 h4];obtain⟨o1,o2,o3,o4⟩:=hx.own4 hC he o_ o_ hy (by rw[<-Sk];exact h4);obtain⟨z,e',hz,hz3,Nn,r1,r2,_⟩:=bt o1;obtain⟨m,hm,m1,m2⟩:=jr he o2 o_ hz aaG;rw[Nn]at hm;injection hm with hm;subst hm;have hE:ct C.p (ownOf C.p i:Int)=(e':Int):=by rw[cw];exact bR Nn
  rw[hE,c7 o_];omega
 ·rw[b8 h4];have Zz:kindAt C.p i=3\/kindAt C.p i=5:=by unfold jumps at hj;omega
  obtain⟨m,hm,m1,m2⟩:=jr he h1 h2 hy aaG;split
  ·rename_i hc
   cases M6:elseAt C.p i with
   | none=>rw[dq,M6]at hc;simp[cO]at hc
   | some j=>obtain⟨_,e',_,_,Nn,r1,r2,_⟩:=bt M6;rw[hm]at Nn;injection Nn with Nn;subst Nn;have hE:cB C.p (i:Int)=(j:Int):=(by rw[dq];exact bR M6);rw[hE,b8 o_];omega
  ·have hE:ct C.p (i:Int)=(m:Int):=(by rw[cw];exact bR hm);rw[hE,c7 o_];omega
theorem HZ (hC:CxOk C)(hx:ScOk C x ins){e:Nat}(he:endAt C.p x.f=some e){k i:Nat}(h1:x.f<i)(h2:i<k)(h3:k<e)(hj:jumps C.p i)(hk:kindAt C.p k=4)(hp:plN C.p i=(k:Int)):i=ownOf C.p k:=by
 unfold plN at hp;by_cases h0:0<fo C.p i
 ·rw[c7 h0]at hp;have:=(pB hC hx he (k:=k+1) o_ o_ o_ hj o_).1;rw[show k+1-1=k by omega]at this;omega
 ·rw[b8 h0]at hp;have ht:fo C.p i= -(k:Int):=o_;unfold fo at ht;have MS:=jp C.p;split at ht
  ·have:=(MS (ownOf C.p i)).1;omega
  ·split at ht
   ·rw[dq]at ht
    cases M6:elseAt C.p i with
    | none=>rw[M6]at ht;simp only[cO]at ht;omega
    | some j=>rw[M6]at ht;simp only[cO]at ht;have N9:j=k:=o_;rw[N9]at M6;exact(vl M6).symm
   ·have:=(MS i).1;omega
theorem Jt (hC:CxOk C)(hx:ScOk C x ins){e:Nat}(he:endAt C.p x.f=some e){k i:Nat}(h1:x.f<i)(h2:i<k)(h3:k<e)(hj:jumps C.p i)(hk:kindAt C.p k=7)(hp:plN C.p i=(k:Int)):i=iN C.p k:=by
 unfold plN at hp;by_cases h0:0<fo C.p i
 ·rw[c7 h0]at hp;have:=(pB hC hx he (k:=k+1) o_ o_ o_ hj o_).2.2;rw[show k+1-1=k by omega]at this;exact this.symm
 ·rw[b8 h0]at hp;have ht:fo C.p i= -(k:Int):=o_;unfold fo at ht;have MS:=jp C.p;split at ht
  ·have:=(MS (ownOf C.p i)).1;omega
  ·split at ht
   ·rw[dq]at ht
    cases M6:elseAt C.p i with
    | none=>rw[M6]at ht;simp only[cO]at ht;omega
    | some j=>rw[M6]at ht;simp only[cO]at ht;have N9:j=k:=o_;rw[N9]at M6;obtain⟨_,_,_,_,_,_,_,w,hw,w4⟩:=bt M6;rw[bc hw]at hk;omega
   ·have:=(MS i).1;omega
theorem Gy (hC:CxOk C)(hx:ScOk C x ins){e:Nat}(he:endAt C.p x.f=some e){k i:Nat}(h1:x.f<i)(h2:i<k)(h3:k<e)(hj:jumps C.p i)(hp:plN C.p i=(k:Int)):kindAt C.p k=4\/kindAt C.p k=7:=by
 unfold plN at hp;by_cases h0:0<fo C.p i
 ·rw[c7 h0]at hp;have:=(pB hC hx he (k:=k+1) o_ o_ o_ hj o_).1;rw[show k+1-1=k by omega]at this;exact .inr this
 ·rw[b8 h0]at hp;have ht:fo C.p i= -(k:Int):=o_;unfold fo at ht;have MS:=jp C.p;split at ht
  ·have:=(MS (ownOf C.p i)).1;omega
  ·split at ht
   ·rw[dq]at ht
    cases M6:elseAt C.p i with
    | none=>rw[M6]at ht;simp only[cO]at ht;omega
    | some j=>rw[M6]at ht;simp only[cO]at ht;have N9:j=k:=o_;rw[N9]at M6;obtain⟨_,_,_,_,_,_,_,w,hw,w4⟩:=bt M6;exact .inl (by rw[bc hw];exact w4)
   ·have:=(MS i).1;omega
structure LsT (C:Cx) (x:Sc) (base:Int) (ds0 pn0:List Int) (k:Nat) (L:Ls) (ds pn:List Int):Prop where
 pre:∃es,ds=ds0++es/\∀v,es.head?=some v->v=base
 ty:Ty C L.g.I7 ds pn base
 J4:∀i,x.f<i->i<k->kindAt C.p i≠4->kindAt C.p i≠7->1<=atL L.J4 i/\ds[(atL L.J4 i).toNat]?=some base
 pos:∀i,x.f<i->i<k->jumps C.p i->Cd L.g.I7 ds (atL L.pos i) base
 lv:∀j∈L.lv,Cd L.g.I7 ds j (base+1)
 lvo:x.L2=true->L.lv=[]
 pn:∀j∈pn,j∈pn0\/j∈L.lv\/∃i,x.f<i/\i<k/\jumps C.p i/\(k:Int)<=plN C.p i/\j=atL L.pos i
 hl:L.J4.length=C.p.length
 pl:L.pos.length=C.p.length
theorem mQ {ds0 ds es:List Int}(h:∃a0,ds=ds0++a0/\∀v,a0.head?=some v->v=base)(he:∀v,es.head?=some v->v=base):∃a0,ds++es=ds0++a0/\∀v,a0.head?=some v->v=base:=by
 obtain⟨a0,rfl,h2⟩:=h;refine⟨a0++es,by rw[j9],fun v hv=>?_⟩
 cases a0 with|nil=>exact he v hv|cons a a0=>exact h2 v hv
structure LT (C:Cx) (x:Sc) (base:Int) (k k':Nat) (L L':Ls):Prop where
 mono:L.g.J3<=L'.g.J3
 ext:∀i c,bd L.g.I7 i=some c->bd L'.g.I7 i=some c
 ty:L'.g.J3<=C.I8->ck C x<=C.I8->∀ds0 pn0 ds pn,LsT C x base ds0 pn0 k L ds pn->∃es pn',LsT C x base ds0 pn0 k' L' (ds++es) pn'
theorem LT.trans {k k' k'':Nat}{L L' L'':Ls}(h:LT C x base k k' L L')(h':LT C x base k' k'' L' L''):LT C x base k k'' L L'':=
 ⟨D4 h.mono h'.mono,fun i c g=>h'.ext i c (h.ext i c g),fun hm ht ds0 pn0 ds pn hL=>by
  obtain⟨es,pn1,h1⟩:=h.ty (D4 h'.mono hm) ht ds0 pn0 ds pn hL;obtain⟨fs,pn2,h2⟩:=h'.ty hm ht ds0 pn0 _ pn1 h1
  exact⟨es++fs,pn2,by rw[<-j9];exact h2⟩⟩
theorem eM {s:Gs}{d code arg line:Int}{chain:List Int}:∀i c,bd s.I7 i=some c->bd (aC C s d code arg line chain).I7 i=some c:=fun i c h=>by
 exact V111
theorem Fk {s:Gs}{d code arg line:Int}{chain:List Int}:bd (aC C s d code arg line chain).I7 s.I7.length=some code:=by simp[bd,aC,bM]
theorem xm {ds es:List Int}{hs:List Int}{k:Nat}(h:∀i,x.f<i->i<k->kindAt C.p i≠4->kindAt C.p i≠7->1<=atL hs i/\ds[(atL hs i).toNat]?=some base):∀i,x.f<i->i<k->kindAt C.p i≠4->kindAt C.p i≠7->1<=atL hs i/\(ds++es)[(atL hs i).toNat]?=some base:=fun i h1 h2 h3 h4=>by
 obtain⟨a,b⟩:=h i h1 h2 h3 h4;exact⟨a,by rw[j7 (aH b)];exact b⟩
theorem JK (hC:CxOk C)(hx:ScOk C x ins){e:Nat}(he:endAt C.p x.f=some e){k:Nat}{ln:LO}(hk:C.p[k]?=some ln)(hk1:x.f<k)(MN:k<e)(hb:C.I8<=base)(h4:ln.J1=4)(L:Ls):
  LT C x base k (k+1) L (bB C x k ln (bI C rep x ins base k ln L)):=by
 have Sx:=bc hk;have Ne:=aH hk;obtain⟨o1,o2,o3,o4⟩:=hx.own4 hC he hk1 o_ hk h4;obtain⟨y,_,hy,Wv,_⟩:=bt o1;have hB:bB C x k ln (bI C rep x ins base k ln L)=bI C rep x ins base k ln L:=by unfold bB;rw[b8 o_]
 rw[hB];unfold bI;rw[c7 h4];dsimp only;refine⟨v2 _,fun i c h=>by rw[dv];exact eM i c h,fun hm ht ds0 pn0 ds pn hL=>?_⟩;have hn:ds.length=L.g.I7.length:=hL.ty.len;have hJ:=hL.pos (ownOf C.p k) o2 o3 (.inl (by rw[bc hy];exact Wv))
 have h1:Ty C (aC C L.g base 10 0 k x.J0).I7 (ds++[base]) ((L.g.I7.length:Int)::pn) base:=
  hL.ty.emit (dw hL.ty.pos hb (fun h=>o_) (fun h=>o_) (fun h=>o_) (fun h=>o_) (fun h=>o_) (fun h=>o_) (fun h=>o_) (fun h=>o_) o_) base (fun h=>absurd rfl h.1) (fun i hi=>by simp[hi]) (fun _=> .inl s_)
 have ZA:Cd (aC C L.g base 10 0 k x.J0).I7 (ds++[base]) (atL L.pos (ownOf C.p k)) base:=hJ.ext eM _
 generalize hj:atL L.pos (ownOf C.p k)=j at *
 have h2:=h1.patch (pn':=((L.g.I7.length:Int)::pn).filter (· !=j)) ZA (fun i hi=>by
  by_cases OD:i=j
  ·exact .inl OD
  ·exact .inr (A7.2 ⟨hi,by simpa using OD⟩))
 refine⟨[base],_,mQ hL.pre (fun v hv=>by simpa using hv.symm),h2,?_,fun i g1 g2 g3=>?_,fun j hj=>?_,hL.lvo,fun i hi=>?_,hL.hl,by simp[hL.pl]⟩
 ·intro i g1 g2 g3 g4;rcases m7 i k with My|MS
  ·exact xm hL.J4 i g1 My g3 g4
  ·rw[show i=k by omega]at g3;omega
 ·dsimp only;rcases m7 i k with My|MS
  ·rw[fW o_];exact(hL.pos i g1 My g3).ext (fun a c h=>by rw[dv];exact eM a c h) _
  ·have Ou:i=k:=o_;subst Ou;rw[fv aaM];exact⟨o_,10,base,by rw[dv,d7];exact Fk,by rw[d7,m5 o_,hn];simp,.inl rfl,rfl⟩
 ·exact(hL.lv j hj).ext (fun a c h=>by rw[dv];exact eM a c h) _
 ·obtain⟨hi,ME⟩:=A7.1 hi;have ME:i≠j:=by simpa using ME
  rcases d6.1 hi with rfl|hi
  ·refine .inr (.inr ⟨k,hk1,o_,.inr (.inl o_),?_,by dsimp only;rw[fv aaM]⟩);have:=(Cw hC hx he hk1 MN (.inr (.inl o_))).1;omega
  ·rcases hL.pn i hi with h|h|⟨i',q1,q2,q3,q4,q5⟩
   ·exact .inl h
   ·exact .inr (.inl h)
   ·refine .inr (.inr ⟨i',q1,o_,q3,?_,by dsimp only;rw[fW o_];exact q5⟩);rcases H7 q4 with h|h
    ·omega
    ·have:=HZ hC hx he q1 q2 MN q3 o_ h.symm;rw[this,hj]at q5;exact absurd q5 ME
theorem Ko (hC:CxOk C)(hx:ScOk C x ins){e:Nat}(he:endAt C.p x.f=some e){k:Nat}{ln:LO}(hk:C.p[k]?=some ln)(hk1:x.f<k)(MN:k<e)(hb:C.I8<=base)(h7:ln.J1=7)(L:Ls):
  LT C x base k (k+1) L (bB C x k ln (bI C rep x ins base k ln L)):=by
 have Sx:=bc hk;have Ne:=aH hk;obtain⟨k1,k2,k3,_,k5⟩:=yH hC hx he hk1 MN hk h7;obtain⟨_,⟨o1,_⟩|⟨_,o3,o4,y,hy,ho⟩⟩:=hx.own7 hC he hk1 o_ hk h7
 ·omega
 have Sk:=bc hy
 have hA:LT C x base k k L (bI C rep x ins base k ln L)/\(bI C rep x ins base k ln L).pos=L.pos/\(bI C rep x ins base k ln L).lv=L.lv/\(bI C rep x ins base k ln L).J4=L.J4:=by
  unfold bI;rw[b8 o_,c7 h7,b8 k5];split
  ·rename_i h5;refine⟨⟨v2 _,eM,fun hm ht ds0 pn0 ds pn hL=>?_⟩,rfl,rfl,rfl⟩;obtain⟨b1,b2⟩:=hL.J4 (ownOf C.p k) o3 o4 o_ o_;refine⟨[base],pn,mQ hL.pre (fun v hv=>by simpa using hv.symm),?_,xm hL.J4,fun i g1 g2 g3=>(hL.pos i g1 g2 g3).ext eM _,fun j hj=>(hL.lv j hj).ext eM _,hL.lvo,hL.pn,hL.hl,hL.pl⟩;refine hL.ty.emit (dw hL.ty.pos hb (fun h=>o_) (fun h=>o_) (fun h=>o_) (fun h=>o_) (fun h=>o_) (fun h=>o_) (fun h=>o_) (fun h=>o_) o_) base (fun h=>absurd rfl h.1) (fun i hi=>hi) (fun _=> .inr ⟨b1,?_⟩);show(ds++[base])[(atL L.J4 (ownOf C.p k)).toNat]?=some base;rw[j7 (aH b2)];exact b2
  ·exact⟨⟨v2 _,fun _ _ h=>h,fun hm ht ds0 pn0 ds pn hL=>⟨[],pn,by rw[m6];exact hL⟩⟩,rfl,rfl,rfl⟩
 obtain⟨hA,ep,el,eh⟩:=hA;refine hA.trans (k':=k) ?_
 generalize bI C rep x ins base k ln L=L1 at *
 unfold bB;rw[c7 ⟨h7,k5⟩];refine⟨v2 _,fun i c h=>by dsimp only;rw[dv];exact h,fun hm ht ds0 pn0 ds pn hL=>?_⟩;have hJ:=hL.pos (iN C.p k) o_ k2 k3
 generalize hj:atL L1.pos (iN C.p k)=j at *
 refine⟨[],pn.filter (· !=j),?_⟩;rw[m6];have ON:∀i c,bd L1.g.I7 i=some c->bd (bV L1.g.I7 j L1.g.I7.length) i=some c:=fun i c h=>by rw[dv];exact h
 have Wu:¬jumps C.p k:=by unfold jumps;omega
 refine⟨hL.pre,hL.ty.patch hJ (fun i hi=>by
  by_cases OD:i=j
  ·exact .inl OD
  ·exact .inr (A7.2 ⟨hi,by simpa using OD⟩)),fun i g1 g2 g3 g4=>?_,fun i g1 g2 g3=>?_,fun i hi=>?_,hL.lvo,fun i hi=>?_,hL.hl,hL.pl⟩
 ·rcases m7 i k with My|MS
  ·exact hL.J4 i g1 My g3 g4
  ·rw[show i=k by omega]at g4;omega
 ·rcases m7 i k with My|MS
  ·simpa using(hL.pos i g1 My g3).ext ON []
  ·rw[show i=k by omega]at g3;exact absurd g3 Wu
 ·simpa using(hL.lv i hi).ext ON []
 ·obtain⟨hi,ME⟩:=A7.1 hi;have ME:i≠j:=by simpa using ME
  rcases hL.pn i hi with h|h|⟨i',q1,q2,q3,q4,q5⟩
  ·exact .inl h
  ·exact .inr (.inl h)
  ·refine .inr (.inr ⟨i',q1,o_,q3,?_,q5⟩);rcases H7 q4 with h|h
   ·omega
   ·have:=Jt hC hx he q1 q2 MN q3 o_ h.symm;rw[this,hj]at q5;exact absurd q5 ME
structure Mid (C:Cx) (x:Sc) (base:Int) (k:Nat) (L:Ls) (g:Gs):Prop where
 mono:L.g.J3<=g.J3
 ext:∀i c,bd L.g.I7 i=some c->bd g.I7 i=some c
 ty:g.J3<=C.I8->∀ds0 pn0 ds pn,LsT C x base ds0 pn0 k L ds pn->∃es,es≠[]/\(∀v,es.head?=some v->v=base)/\Ty C g.I7 (ds++es) pn (base+1)
theorem KB {k:Nat}(Mz:pD C rep x ins){e:Ex}(he:e.ok)(MT:lx C e.toks)(hb:C.I8<=base)(L:Ls):Mid C x base k L (eA C rep x ins k e base ⟨L.g.I7,L.g.J3,true⟩):=by
 have h:=Gr (line:=k) Mz e base ⟨L.g.I7,L.g.J3,true⟩ he MT hb
 exact⟨h.mono,h.ext,fun hm ds0 pn0 ds pn hL=>by
  obtain⟨es,e1,_,e3,e4⟩:=h.ty hm ds pn hL.ty
  exact⟨es,e1 trivial,e3,e4⟩⟩
theorem Fg {ds es hs:List Int}{k n:Nat}(Qz:1<=n)(hk:k<hs.length)(hn:ds.length=n)(h1:es≠[])(h2:∀v,es.head?=some v->v=base)(h:∀i,x.f<i->i<k->kindAt C.p i≠4->kindAt C.p i≠7->1<=atL hs i/\ds[(atL hs i).toNat]?=some base):
  ∀i,x.f<i->i<k+1->kindAt C.p i≠4->kindAt C.p i≠7->1<=atL (hs.set k (n:Int)) i/\(ds++es)[(atL (hs.set k (n:Int)) i).toNat]?=some base:=fun i g1 g2 g3 g4=>by
 rcases m7 i k with My|MS
 ·rw[fW o_];obtain⟨a,b⟩:=h i g1 My g3 g4;exact⟨a,by rw[j7 (aH b)];exact b⟩
 ·rw[show i=k by omega,fv hk];refine⟨o_,?_⟩;rw[d7,m5 o_,hn,w9]
  cases es with|nil=>exact absurd rfl h1|cons a r=>rw[e8];exact congrArg some (h2 a rfl)
theorem yD (hC:CxOk C)(hx:ScOk C x ins){e:Nat}(he:endAt C.p x.f=some e){k:Nat}(MN:k<e)(h4:kindAt C.p k≠4)(h7:kindAt C.p k≠7){i':Nat}(q1:x.f<i')(q2:i'<k)(q3:jumps C.p i')(q4:(k:Int)<=plN C.p i'):((k+1:Nat):Int)<=plN C.p i':=by
 rcases H7 q4 with h|h
 ·omega
 ·rcases Gy hC hx he q1 q2 MN q3 h.symm with h'|h'
  ·exact absurd h' h4
  ·exact absurd h' h7
theorem rO {c a d:Int}(h:c=2\/c=4\/(5<=c/\c<=9)\/c=11\/c=17):gz C ⟨c,a⟩ d=d-1:=by unfold gz;dsimp only;rw[b8 o_,c7 h]
theorem IO (hC:CxOk C)(hx:ScOk C x ins)(Mz:pD C rep x ins){e:Nat}(he:endAt C.p x.f=some e){k:Nat}{ln:LO}(hk:C.p[k]?=some ln)(hk1:x.f<k)(MN:k<e)(hb:base=C.I8\/(x.L2=false/\C.I8<=base))(h0:ln.J1≠0)(h4:ln.J1≠4)(h7:ln.J1≠7)
  (MT:lx C ln.K9) (OB:ln.J1=1->0<=dG x.J9 ln.J8/\dG x.J9 ln.J8<x.J9.length) (L:Ls):LT C x base k (k+1) L (bB C x k ln (bI C rep x ins base k ln L)):=by
 have Sx:=bc hk;have Ne:=aH hk;have PV:=hC.line _ _ hk;have O8:=qX (PV.2.2.2.2 o_);have Pi:C.I8<=base:=o_;have UN:=hx.first;have hB:bB C x k ln (bI C rep x ins base k ln L)=bI C rep x ins base k ln L:=by unfold bB;rw[b8 o_]
 rw[hB];unfold bI;rw[b8 h4,b8 h7];dsimp only;have hm:=KB (x:=x) (k:=k) Mz O8.1 (by rw[<-O8.2];exact MT) Pi L
 generalize eA C rep x ins k (exL ln.K9) base ⟨L.g.I7,L.g.J3,true⟩=g at *
 have fin:∀(L':Ls) (it:LN),L'.g=⟨g.I7++[it],g.J3,false⟩->L'.J4=L.J4.set k L.g.I7.length->(ck C x<=C.I8->g.J3<=C.I8->0<g.I7.length->OpTy C g.I7.length it (base+1))->(eH it.J2.I9->base=gz C it.J2 (base+1))->
   ((¬isJ it.J2.I9/\L'.pos=L.pos/\L'.lv=L.lv/\¬jumps C.p k)\/(it.J2.I9=10/\L'.pos=L.pos/\L'.lv=L.lv++[(g.I7.length:Int)]/\¬jumps C.p k/\x.L2=false)\/(it.J2.I9=11/\L'.pos=L.pos.set k g.I7.length/\L'.lv=L.lv/\jumps C.p k))->LT C x base k (k+1) L L':=by
  intro L' it e1 e2 Mw hf Qm
  have Wt:∀i c,bd g.I7 i=some c->bd L'.g.I7 i=some c:=fun i c h=>by
   have:=kU h;unfold bd at h⊢;rw[e1];dsimp only;rw[j7 this];exact h
  have ON:∀i c,bd L.g.I7 i=some c->bd L'.g.I7 i=some c:=fun i c h=>Wt i c (hm.ext i c h);refine⟨by rw[e1];exact hm.mono,ON,fun OR Nv ds0 pn0 ds pn hL=>?_⟩;rw[e1]at OR;obtain⟨es,f1,f2,f3⟩:=hm.ty OR ds0 pn0 ds pn hL;have ME:es++[base+1]≠[]:=s_
  have PT:∀v,(es++[base+1]).head?=some v->v=base:=fun v hv=>by
   cases es with|nil=>exact absurd rfl f1|cons a r=>exact f2 v hv
  have Mv:=f3.len;have MP:bd L'.g.I7 g.I7.length=some it.J2.I9:=by rw[e1];simp[bd]
  have PJ:(ds++(es++[base+1]))[g.I7.length]?=some (base+1):=by rw[<-j9,m5 o_,Mv];simp
  have QS:∀pn',(∀i∈pn,i∈pn')->(isJ it.J2.I9->(g.I7.length:Int)∈pn')->Ty C L'.g.I7 (ds++(es++[base+1])) pn' base:=fun pn' q1 q2=>by
   rw[e1,<-j9];exact f3.emit (Mw Nv OR f3.pos) base hf q1 (fun h=> .inl (q2 h))
  have hh:=Fg (x:=x) (C:=C) (hs:=L.J4) (k:=k) (n:=L.g.I7.length) hL.ty.pos (by rw[hL.hl];exact Ne) hL.ty.len ME PT hL.J4;rw[<-e2]at hh
  have RQ:¬jumps C.p k->∀i,i<k+1->jumps C.p i->i<k:=fun hn i h1 h2=>by
   rcases m7 i k with h|h
   ·exact h
   ·rw[show i=k by omega]at h2;exact absurd h2 hn
  rcases Qm with⟨c1,c2,c3,c4⟩|⟨c1,c2,c3,c4,c5⟩|⟨c1,c2,c3,c4⟩
  ·refine⟨es++[base+1],pn,mQ hL.pre PT,QS pn (fun _ h=>h) (fun h=>absurd h c1),hh,fun i g1 g2 g3=>?_,fun j hj=>?_,fun ho=>by rw[c3];exact hL.lvo ho,fun j hj=>?_,by rw[e2];simp[hL.hl],by rw[c2];exact hL.pl⟩
   ·rw[c2];exact(hL.pos i g1 (RQ c4 i g2 g3) g3).ext ON _
   ·rw[c3]at hj;exact(hL.lv j hj).ext ON _
   ·rcases hL.pn j hj with h|h|⟨i',q1,q2,q3,q4,q5⟩
    ·exact .inl h
    ·exact .inr (.inl (by rw[c3];exact h))
    ·exact .inr (.inr ⟨i',q1,o_,q3,yD hC hx he MN o_ o_ q1 q2 q3 q4,by rw[c2];exact q5⟩)
  ·refine⟨es++[base+1],(g.I7.length:Int)::pn,mQ hL.pre PT,QS _ (fun i h=>by simp[h]) (fun _=>s_),hh,fun i g1 g2 g3=>?_,fun j hj=>?_,fun ho=>absurd (c5.symm.trans ho) s_,fun j hj=>?_,by rw[e2];simp[hL.hl],by rw[c2];exact hL.pl⟩
   ·rw[c2];exact(hL.pos i g1 (RQ c4 i g2 g3) g3).ext ON _
   ·rw[c3,d9,t7]at hj;rcases hj with hj|rfl
    ·exact(hL.lv j hj).ext ON _
    ·exact⟨o_,10,base+1,by rw[d7,MP,c1],by rw[d7];exact PJ,.inl rfl,rfl⟩
   ·rcases d6.1 hj with rfl|hj
    ·exact .inr (.inl (by rw[c3];simp))
    ·rcases hL.pn j hj with h|h|⟨i',q1,q2,q3,q4,q5⟩
     ·exact .inl h
     ·exact .inr (.inl (by rw[c3];simp[h]))
     ·exact .inr (.inr ⟨i',q1,o_,q3,yD hC hx he MN o_ o_ q1 q2 q3 q4,by rw[c2];exact q5⟩)
  ·refine⟨es++[base+1],(g.I7.length:Int)::pn,mQ hL.pre PT,QS _ (fun i h=>by simp[h]) (fun _=>s_),hh,fun i g1 g2 g3=>?_,fun j hj=>?_,fun ho=>by rw[c3];exact hL.lvo ho,fun j hj=>?_,by rw[e2];simp[hL.hl],by rw[c2];simp[hL.pl]⟩
   ·rw[c2];rcases m7 i k with My|MS
    ·rw[fW o_];exact(hL.pos i g1 My g3).ext ON _
    ·rw[show i=k by omega,fv aaM];exact⟨o_,11,base+1,by rw[d7,MP,c1],by rw[d7];exact PJ,.inr rfl,by simp[wN]⟩
   ·rw[c3]at hj;exact(hL.lv j hj).ext ON _
   ·rcases d6.1 hj with rfl|hj
    ·refine .inr (.inr ⟨k,hk1,o_,c4,?_,by rw[c2,fv aaM]⟩);have:=(Cw hC hx he hk1 MN c4).1;omega
    ·rcases hL.pn j hj with h|h|⟨i',q1,q2,q3,q4,q5⟩
     ·exact .inl h
     ·exact .inr (.inl (by rw[c3];exact h))
     ·exact .inr (.inr ⟨i',q1,o_,q3,yD hC hx he MN o_ o_ q1 q2 q3 q4,by rw[c2,fW o_];exact q5⟩)
 have O0:∀c:Int,c≠3->c≠5->ln.J1=c->¬jumps C.p k:=fun c c3 c5 hc=>by unfold jumps;omega
 split
 ·rename_i k1;obtain⟨s1,s2⟩:=OB k1;have MZ:=nL (C:=C);have aam:cy C true=2\/cy C true=4:=by rw[MZ];split<;>omega
  refine fin _ (bM C g (base+1) (cy C true) (fq C x (base+1) (dG x.J9 ln.J8)) k x.J0) rfl rfl (fun Nv OR hp=>dw hp o_ (fun _=>⟨o_,?_⟩) (fun h=>o_) (fun h=>o_) (fun h=>o_) (fun h=>o_) (fun h=>o_) (fun h=>o_) (fun h=>o_) o_) (fun _=>?_) (.inl ⟨by unfold isJ;dsimp only[bM];omega,rfl,rfl,O0 1 o_ o_ k1⟩)
  ·unfold ck at Nv
   cases ho:x.L2 with
   | true=>
    rw[c7 ho]at Nv
    exact FJ hC ho s1 o_
   | false=>rw[b8 (by rw[ho];simp)]at Nv;exact rE ho o_ o_
  ·show base=gz C ⟨cy C true,_⟩ (base+1);rw[rO o_];omega
 split
 ·rename_i k2;refine fin _ (bM C g (base+1) 17 0 k x.J0) rfl rfl (fun Nv OR hp=>dw hp o_ (fun h=>o_) (fun h=>o_) (fun h=>o_) (fun h=>o_) (fun h=>o_) (fun h=>o_) (fun h=>o_) (fun h=>o_) o_) (fun _=>?_) (.inl ⟨by unfold isJ;dsimp only[bM];omega,rfl,rfl,O0 2 o_ o_ k2⟩);show base=gz C ⟨17,_⟩ (base+1);rw[rO o_];omega
 split
 ·rename_i k6;unfold be;dsimp only;split
  ·rename_i ho
   have WS:base=C.I8:=by
    rcases hb with h|⟨h,_⟩
    ·exact h
    ·rw[ho]at h;cases h
   split
   ·rename_i Nh;exact fin _ (bM C g (base+1) 14 C.args k x.J0) rfl rfl (fun Nv OR hp=>dw hp o_ (fun h=>o_) (fun h=>o_) (fun h=>o_) (fun h=>o_) (fun h=>o_) (fun _=>⟨Nh,rfl,o_⟩) (fun h=>o_) (fun h=>o_) o_) (fun h=>absurd rfl h.2.1) (.inl ⟨by unfold isJ;dsimp only[bM];omega,rfl,rfl,O0 6 o_ o_ k6⟩)
   ·rename_i Nh;exact fin _ (bM C g (base+1) 16 (C.args+16*C.I8) k x.J0) rfl rfl (fun Nv OR hp=>dw hp o_ (fun h=>o_) (fun h=>o_) (fun h=>o_) (fun h=>o_) (fun h=>o_) (fun h=>o_) (fun _=>⟨by simpa using Nh,rfl,o_⟩) (fun h=>o_) o_) (fun h=>absurd rfl h.2.2) (.inl ⟨by unfold isJ;dsimp only[bM];omega,rfl,rfl,O0 6 o_ o_ k6⟩)
  ·rename_i ho;rw[b8 s_];exact fin _ (bM C g (base+1) 10 0 k x.J0) rfl rfl (fun Nv OR hp=>dw hp o_ (fun h=>o_) (fun h=>o_) (fun h=>o_) (fun h=>o_) (fun h=>o_) (fun h=>o_) (fun h=>o_) (fun h=>o_) o_) (fun h=>absurd rfl h.1) (.inr (.inl ⟨rfl,rfl,rfl,O0 6 o_ o_ k6,by simpa using ho⟩))
 ·rename_i n1 n2 n6;refine fin _ (bM C g (base+1) 11 0 k x.J0) rfl rfl (fun Nv OR hp=>dw hp o_ (fun h=>o_) (fun h=>o_) (fun h=>o_) (fun h=>o_) (fun h=>o_) (fun h=>o_) (fun h=>o_) (fun h=>o_) o_) (fun _=>?_) (.inr (.inr ⟨rfl,rfl,rfl,by unfold jumps;omega⟩));show base=gz C ⟨11,_⟩ (base+1);rw[rO o_];omega
end
def nT (C:Cx):Prop:=∀(g e k:Nat) (ln:LO),bS C g->endAt C.p g=some e->g<k->k<e->C.p[k]?=some ln->ln.J1≠0/\(ln.J1≠7->lx C ln.K9)/\(ln.J1=1->0<=dG (localsOf C.p (g:Int)) ln.J8/\dG (localsOf C.p (g:Int)) ln.J8<(localsOf C.p (g:Int)).length)
section
variable {C:Cx} {x:Sc} {ins:List Nat} {rep:Sc->List Nat->Nat->Nat->Int->Gs->Gs} {base:Int}
theorem yh:∀(n k:Nat) (L:Ls),(∀i,k<=i->i<k+n->∃ln,C.p[i]?=some ln)->dI C rep x ins base (n+1) k L=dI C rep x ins base 1 (k+n) (dI C rep x ins base n k L)
 | 0,k,L,_=>rfl
 | n+1,k,L,h=>by
  obtain⟨ln,hk⟩:=h k (d8 _) o_;rw[dI,hk];dsimp only;rw[yh n (k+1) _ (fun i h1 h2=>h i o_ o_),show k+1+n=k+(n+1) by omega];rw[show dI C rep x ins base (n+1) k L=dI C rep x ins base n (k+1) (bB C x k ln (bI C rep x ins base k ln L)) by rw[dI,hk]]
theorem IC (hC:CxOk C)(hl:nT C)(hx:ScOk C x ins)(Mz:pD C rep x ins){e:Nat}(he:endAt C.p x.f=some e)(hb:base=C.I8\/(x.L2=false/\C.I8<=base)){k:Nat}{ln:LO}(hk:C.p[k]?=some ln)(hk1:x.f<k)(MN:k<e)(L:Ls):LT C x base k (k+1) L (bB C x k ln (bI C rep x ins base k ln L)):=by
 obtain⟨h0,MT,OB⟩:=hl x.f e k ln hx.fn he hk1 MN hk;have Pi:C.I8<=base:=o_;by_cases h4:ln.J1=4
 ·exact JK hC hx he hk hk1 MN Pi h4 L
 by_cases h7:ln.J1=7
 ·exact Ko hC hx he hk hk1 MN Pi h7 L
 ·exact IO hC hx Mz he hk hk1 MN hb h0 h4 h7 (MT h7) (fun h1=>by rw[hx.loc];exact OB h1) L
theorem Hz (hC:CxOk C)(hl:nT C)(hx:ScOk C x ins)(Mz:pD C rep x ins){e:Nat}(he:endAt C.p x.f=some e)(hb:base=C.I8\/(x.L2=false/\C.I8<=base)):∀(n k:Nat) (L:Ls),k+n=e->x.f<k->LT C x base k e L (dI C rep x ins base n k L)
 | 0,k,L,h1,_=>by rw[dI,<-h1];exact⟨v2 _,fun _ _ h=>h,fun _ _ _ _ ds pn h=>⟨[],pn,by rw[m6];exact h⟩⟩
 | n+1,k,L,h1,h2=>by
  obtain⟨_,_,_,_,_,M6⟩:=aN he;obtain⟨ln,hk⟩:=ae (l:=C.p) (k:=k) o_;rw[dI,hk];exact(IC hC hl hx Mz he hb hk h2 o_ L).trans (Hz hC hl hx Mz he hb n (k+1) _ o_ o_)
theorem uu (hC:CxOk C)(hl:nT C)(hx:ScOk C x ins)(Mz:pD C rep x ins)(hb:base=C.I8\/(x.L2=false/\C.I8<=base))(s:Gs):LinT C x base s (bq C rep x ins base s):=by
 obtain⟨e,he,e2,e3,e4,_⟩:=hx.endE hC;obtain⟨ln,hk,h7⟩:=bL he;have Pi:C.I8<=base:=o_;have MO:ownOf C.p e=x.f:=jZ he;obtain⟨n,hn⟩:∃n,e=x.f+1+n:=⟨e-x.f-1,o_⟩;have MD:=Hz hC hl hx Mz he hb n (x.f+1) (cu C s) o_ o_
 have Wq:bq C rep x ins base s=((be C x e true (base+1) {dI C rep x ins base n (x.f+1) (cu C s)with g:=aC C (dI C rep x ins base n (x.f+1) (cu C s)).g base 0 0 e x.J0}).g,(be C x e true (base+1) {dI C rep x ins base n (x.f+1) (cu C s)with g:=aC C (dI C rep x ins base n (x.f+1) (cu C s)).g base 0 0 e x.J0}).lv):=by
  unfold bq;rw[e4,show e-x.f=n+1 by omega,yh _ _ _ (fun i h1 h2=>ae o_),<-hn];generalize dI C rep x ins base n (x.f+1) (cu C s)=L
  have hA:bI C rep x ins base e ln L=be C x e true (base+1) {L with g:=aC C L.g base 0 0 e x.J0}:=by unfold bI;rw[b8 o_,c7 h7,c7 MO]
  have hB:∀Z,bB C x e ln Z=Z:=fun Z=>by unfold bB;rw[b8 (fun h=>h.2 MO)]
  rw[dI,hk];dsimp only;rw[dI,hB,hA]
 rw[Wq]
 generalize dI C rep x ins base n (x.f+1) (cu C s)=L at *
 have XH:(be C x e true (base+1) {L with g:=aC C L.g base 0 0 e x.J0}).lv=L.lv:=by
  unfold be;split
  ·split<;>rfl
  ·rfl
 rw[XH]
 have OR:(be C x e true (base+1) {L with g:=aC C L.g base 0 0 e x.J0}).g.J3=L.g.J3:=by
  unfold be;split
  ·split<;>rfl
  ·rfl
 have Vr:∀i c,bd L.g.I7 i=some c->bd (be C x e true (base+1) {L with g:=aC C L.g base 0 0 e x.J0}).g.I7 i=some c:=fun i c h=>by
  have h1:=eM (C:=C) (d:=base) (code:=0) (arg:=0) (line:=(e:Int)) (J0:=x.J0) i c h;unfold be;split
  ·split
   ·exact eM i c h1
   ·exact eM i c h1
  ·exact h1
 refine⟨by show s.J3<=_;rw[OR];exact MD.mono,fun i c h=>Vr i c (MD.ext i c h),fun hm Nv ds pn ht=>?_⟩;have hm:L.g.J3<=C.I8:=by rw[<-OR];exact hm
 obtain⟨es,pn1,hL⟩:=MD.ty hm Nv ds pn ds pn ⟨⟨[],s_,fun v hv=>absurd hv s_⟩,ht,fun i h1 h2=>o_,fun i h1 h2=>o_,fun j hj=>absurd hj (by simp[cu]),fun _=>rfl,fun j hj=> .inl hj,by simp[cu],by simp[cu]⟩
 have QS:∀j∈pn1,j∈pn++L.lv:=fun j hj=>by
  rcases hL.pn j hj with h|h|⟨i,q1,q2,q3,q4,_⟩
  ·simp[h]
  ·simp[h]
  ·have:=(Cw hC hx he q1 q2 q3).2;omega
 have h1:Ty C (aC C L.g base 0 0 e x.J0).I7 ((ds++es)++[base]) (pn++L.lv) (base+1):=
  hL.ty.emit (dw hL.ty.pos Pi (fun h=>o_) (fun h=>o_) (fun h=>o_) (fun h=>o_) (fun h=>o_) (fun h=>o_) (fun h=>o_) (fun h=>o_) o_) (base+1) (fun _=>by unfold gz;rw[c7 (by dsimp only[bM];omega)]) QS (fun h=>by unfold isJ at h;dsimp only[bM]at h;omega)
 have PT:∀v,(es++[base]).head?=some v->v=base:=fun v hv=>by
  obtain⟨a0,g1,g2⟩:=hL.pre;have:a0=es:=by simpa using g1.symm
  subst this
  cases a0 with|nil=>simpa using hv.symm|cons a r=>exact g2 v hv
 by_cases ho:x.L2=true
 ·have WS:base=C.I8:=by
   rcases hb with h|⟨h,_⟩
   ·exact h
   ·rw[ho]at h;cases h
  have Ud:=hL.lvo ho;refine⟨es++[base,base+1],s_,fun v hv=>PT v (by cases es with|nil=>simpa using hv|cons a r=>simpa using hv),fun j hj=>absurd hj (by rw[Ud];simp),fun _=>Ud,fun D _=>?_⟩;have e1:ds++(es++[base,base+1])=((ds++es)++[base])++[base+1]:=s_;rw[e1];unfold be;rw[c7 ho];split
  ·rename_i Nh;exact h1.emit (dw h1.pos o_ (fun h=>o_) (fun h=>o_) (fun h=>o_) (fun h=>o_) (fun h=>o_) (fun _=>⟨Nh,rfl,o_⟩) (fun h=>o_) (fun h=>o_) o_) D (fun h=>absurd rfl h.2.1) (fun i h=>h) (fun h=>by unfold isJ at h;dsimp only[bM]at h;omega)
  ·rename_i Nh;exact h1.emit (dw h1.pos o_ (fun h=>o_) (fun h=>o_) (fun h=>o_) (fun h=>o_) (fun h=>o_) (fun h=>o_) (fun _=>⟨by simpa using Nh,rfl,o_⟩) (fun h=>o_) o_) D (fun h=>absurd rfl h.2.2) (fun i h=>h) (fun h=>by unfold isJ at h;dsimp only[bM]at h;omega)
 ·have MV:x.L2=false:=by simpa using ho
  have hg:(be C x e true (base+1) {L with g:=aC C L.g base 0 0 e x.J0}).g=aC C L.g base 0 0 e x.J0:=by unfold be;rw[b8 ho,c7 rfl]
  rw[hg];refine⟨es++[base],s_,PT,fun j hj=>(hL.lv j hj).ext eM [base] |> fun h=>by rw[<-j9];exact h,fun h=>absurd h ho,fun D hD=>by rw[hD MV,<-j9];exact h1⟩
end
theorem Ia {C:Cx}(hC:CxOk C)(hl:nT C):∀(lev:Nat) {x:Sc} {ins:List Nat},ScOk C x ins->ins.length+lev=C.b.Mc.toNat+1->pD C (cK C lev) x ins
 | 0,x,ins,hx,hi,line,g,d,s,hg,hd,hr=>by
  have:=(fN hr).1;have hin:=hC.inl
  omega
 | lev+1,x,ins,hx,hi,line,g,d,s,hg,hd,hr=>by
  have hy:=jT hC hx line hg;exact Kw hC hx hg hd s fun s'=>uu hC hl hy (Ia hC hl lev hy aab) (.inr ⟨rfl,o_⟩) s'
theorem ph {C:Cx}{c a d:Int}(h:c=13\/c=15):gz C ⟨c,a⟩ d=d+a:=by unfold gz;dsimp only;rw[b8 o_,b8 o_,b8 o_,c7 h]
structure TyF (C:Cx) (l:List LN) (ds:List Int):Prop where
 len:ds.length=l.length
 pos:0<l.length
 item:∀(i:Nat) (it:LN) (d:Int),l[i]?=some it->ds[i]?=some d->OpTy C i it d
 fall:∀(i:Nat) (it:LN) (d:Int),l[i]?=some it->ds[i]?=some d->eH it.J2.I9->ds[i+1]?=some (gz C it.J2 d)
 jump:∀(i:Nat) (it:LN) (d:Int),l[i]?=some it->ds[i]?=some d->isJ it.J2.I9->1<=it.J2.J7/\ds[it.J2.J7.toNat]?=some (wN it.J2.I9 d)
theorem Jc {C:Cx}(hC:CxOk C)(hl:nT C){g:Nat}(hg:bS C g)(e5:C.args=argsN C.p g)(hm:(dH C g).J3<=C.I8):∃ds,TyF C (dH C g).I7 ds:=by
 have hS:ScOk C (bb C g) [g]:=⟨hg,rfl,⟨v2 _,by simp[bb]⟩,rfl,by simp[bb],fun _=>e5,rfl⟩;have hin:=hC.inl;have hw:=hC.I8;have hL:=uu (base:=C.I8) hC hl hS (Ia hC hl C.b.Mc.toNat hS aab) (.inl rfl) (dS C g)
 have Nv:ck C (bb C g)<=C.I8:=by have h1:=hL.mono;have h2:(bq C (cK C C.b.Mc.toNat) (bb C g) [g] C.I8 (dS C g)).1.J3<=C.I8:=hm;have h3:(dS C g).J3=(localsOf C.p (g:Int)).length-C.args:=rfl;rw[h3]at h1;unfold ck;rw[c7 (show(bb C g).L2=true from rfl)];show((localsOf C.p (g:Int)).length:Int)-C.args<=C.I8;omega
 have h0:Ty C (dS C g).I7 [0] [] C.I8:=by
  refine⟨rfl,by simp[dS,aC],fun i it d h1 h2=>?_,fun i it d h1 h2 h3=>?_,fun i it d h1 h2 h3 h4=>?_⟩
  all_goals
   have hi:i=0:=by have:=aH h2;simpa using this
   subst hi;simp only[dS,aC,t6,e8,Option.some.injEq]at h1 h2;subst h1;subst h2
  ·have hc:(bM C ⟨[],(localsOf C.p (g:Int)).length-C.args,false⟩ 0 (if C.J6=true then 13 else 15) C.I8 g []).J2.I9=13\/(bM C ⟨[],(localsOf C.p (g:Int)).length-C.args,false⟩ 0 (if C.J6=true then 13 else 15) C.I8 g []).J2.I9=15:=(by dsimp only[bM];split<;>simp);refine⟨by simp[bM],by simp[bM],⟨fun _=>rfl,fun h=>o_⟩,fun _=>⟨rfl,rfl⟩,fun h=>?_,fun h=>?_,fun h=>?_,fun h=>?_,fun h=>?_,fun h=>?_,fun h=>?_,fun _ h=>o_,fun _=>rfl⟩;all_goals(exfalso;omega)
  ·show [C.I8][0]?=some (gz C ⟨if C.J6=true then 13 else 15,C.I8⟩ 0);rw[ph (by split<;>omega)];simp
  ·have hc:(bM C ⟨[],(localsOf C.p (g:Int)).length-C.args,false⟩ 0 (if C.J6=true then 13 else 15) C.I8 g []).J2.I9=13\/(bM C ⟨[],(localsOf C.p (g:Int)).length-C.args,false⟩ 0 (if C.J6=true then 13 else 15) C.I8 g []).J2.I9=15:=(by dsimp only[bM];split<;>simp);unfold isJ at h3;exfalso;omega
 obtain⟨es,_,_,_,f4,f5⟩:=hL.ty hm Nv [0] [] h0
 have h2:∀D,Ty C (dH C g).I7 ([0]++es) [] D:=fun D=>by
  have:=f5 D (fun h=>by cases h);rw[f4 rfl,m6]at this;exact this
 generalize [0]++es=ds at *
 have both:∀{j:Nat} {v:Int},(ds++[v])[j]?=some v->(ds++[v+1])[j]?=some v->ds[j]?=some v:=fun{j v} g1 g2=>by
  rcases B1 j ds.length with hj|hj|hj
  ·rwa [j7 hj]at g1
  ·rw[hj,m5 (d8 _),w9,e8]at g2;injection g2 with g2;omega
  ·rw[e9 aab]at g1
   cases g1
 have hT:=h2 0;exact⟨ds,hT.len,hT.pos,hT.item,fun i it d h1 h3 h4=>both ((h2 _).fall i it d h1 h3 h4) ((h2 _).fall i it d h1 h3 h4),fun i it d h1 h3 h4=>⟨(hT.jump i it d h1 h3 h4 s_).1,both ((h2 _).jump i it d h1 h3 h4 s_).2 ((h2 _).jump i it d h1 h3 h4 s_).2⟩⟩
section
variable {p q:List LO} {locals:List (List UInt8)} {vals:List Int} {call:CallF}
end
theorem alike.kindAt {p q:List LO}(h:alike p q)(k:Nat):kindAt p k=kindAt q k:=by
 unfold Go.Proofs.P.kindAt
 cases hx:p[k]? with|none=>rw[h.none hx]|some x=>obtain⟨y,hy,e1,_⟩:=h.get hx;rw[hy];exact e1
theorem alike.ownN {p q:List LO}(h:alike p q)(k:Nat):∀n,ownN p k n=ownN q k n
 | 0=>rfl
 | n+1=>by rw[Go.Proofs.P.ownN,Go.Proofs.P.ownN,h.endAt,h.elseAt,alike.ownN h k n]
theorem alike.ownOf {p q:List LO}(h:alike p q)(k:Nat):ownOf p k=ownOf q k:=by unfold Go.Proofs.P.ownOf;rw[h.ownN,h.len]
theorem alike.skipAt {p q:List LO}(h:alike p q)(k:Nat):skipAt p k=skipAt q k:=by unfold Go.Proofs.P.skipAt;rw[h.elseAt,kQ,kQ,h.endAt]
theorem alike.anyE {p q:List LO}(h:alike p q)(i:Nat):∀n j,anyE p i n j=anyE q i n j
 | 0,_=>rfl
 | n+1,j=>by rw[Go.Proofs.P.anyE,Go.Proofs.P.anyE,h.elseAt,alike.anyE h i n]
theorem alike.elsesIn {p q:List LO}(h:alike p q)(k e:Nat):∀n i,elsesIn p k e n i=elsesIn q k e n i
 | 0,_=>rfl
 | n+1,i=>by
  rw[Go.Proofs.P.elsesIn,Go.Proofs.P.elsesIn]
  cases hx:p[i]? with|none=>rw[h.none hx]|some x=>obtain⟨y,hy,e1,_⟩:=h.get hx;rw[hy];dsimp only;rw[e1,h.anyE,alike.elsesIn h k e n]
theorem alike.find {p q:List LO}(h:alike p q)(s:List UInt8):Go.Proofs.P.findN p 0 s=Go.Proofs.P.findN q 0 s:=h.findN 0 s
theorem alike.nameFirst {p q:List LO}(h:alike p q)(k:Nat):nameFirst p k=nameFirst q k:=by
 unfold Go.Proofs.P.nameFirst
 cases hx:p[k]? with|none=>rw[h.none hx]|some x=>obtain⟨y,hy,_,e2,_⟩:=h.get hx;rw[hy];dsimp only;rw[e2,h.find]
theorem alike.headOk {p q:List LO}(h:alike p q):headOk p=headOk q:=by
 cases p with
 | nil=>have:=h.len;cases q with
  | nil=>rfl
  | cons=>simp at this
 | cons x p=>cases q with
  | nil=>have:=h.len;simp at this
  | cons y q=>obtain⟨z,hz,e1,e2,e3⟩:=h.get (k:=0) (x:=x) rfl;simp at hz;subst hz;unfold Go.Proofs.P.headOk;dsimp only;rw[e1,e2,e3]
theorem sn {F F':Nat->Nat->Bool}{p q:List LO}(h:alike p q)(hF:∀k e,F k e=true->F' k e=true):∀n k,bK F p n k=true->bK F' q n k=true
 | 0,k,hc=>by rw[bK]at hc⊢;rw[<-h.len];exact hc
 | n+1,k,hc=>by
  rw[bK]at hc⊢;rw[<-h.len];split
  ·rename_i hk;rw[c7 hk]at hc;split at hc
   ·rename_i x e hx he;obtain⟨y,hy,e1,_⟩:=h.get hx;rw[hy,<-h.endAt,he];dsimp only;split at hc
    ·rename_i N0;rw[c7 ⟨by rw[<-e1];exact N0.1,hF _ _ N0.2⟩];exact sn h hF n _ hc
    ·cases hc
   ·cases hc
  ·rfl
theorem Bt {x:LO}(h:cZ x=true):br x.K9=true\/x.K9=[]:=by
 unfold cZ at h;simp only[b9]at h;obtain⟨_,_,_,h⟩:=h;split at h
 ·exact .inl h
 ·exact .inr (A3.1 (B7 h))
theorem kq (x:LO):(aO x).J1=x.J1/\(aO x).J8=x.J8/\(aO x).L5=x.L5:=by unfold aO;split<;>exact⟨rfl,rfl,rfl⟩
theorem nZ {x:LO}(h:br x.K9=true\/x.K9=[]):(br x.K9=true/\(aO x).K9=lK x.K9)\/(x.K9=[]/\aO x=x):=by
 rcases h with h|h
 ·have hp:0<x.K9.length:=by unfold br at h;simp only[b9,j5]at h;exact h.2.1
  exact .inl ⟨h,by rw[aO,c7 hp]⟩
 ·exact .inr ⟨h,by rw[aO,b8 (by rw[h];simp)]⟩
theorem AS {x:LO}(h:cZ x=true):cZ (aO x)=true:=by
 obtain⟨k1,k2,k3⟩:=kq x;unfold cZ at h⊢;rw[k1,k2,k3];simp only[b9]at h⊢;obtain⟨h1,h2,h3,h4⟩:=h;refine⟨h1,h2,h3,?_⟩;split
 ·rename_i hx;rw[c7 hx]at h4;rcases nZ (.inl h4)with⟨_,e⟩|⟨e,_⟩
  ·rw[e];exact(jV h4).1
  ·rw[e]at h4;simp[br]at h4
 ·rename_i hx;rw[b8 hx]at h4;have:x.K9=[]:=A3.1 (B7 h4);rw[aO,b8 (by rw[this];simp)];exact h4
theorem wv {p q:List LO}(h:alike p q)(locals:List (List UInt8))(t:LY):cH p locals t=cH q locals t:=by
 unfold cH;rw[h.find];split
 ·rfl
 ·split
  ·split
   ·rename_i f _
    cases hx:p[f]? with|none=>rw[h.none hx]|some x=>obtain⟨y,hy,_,_,e3⟩:=h.get hx;rw[hy];dsimp only;rw[e3]
   ·rfl
  ·rfl
theorem Di {p:List LO}{locals:List (List UInt8)}{x:LO}(he:br x.K9=true\/x.K9=[])(h:eC p locals x.K9=true):eC (p.map aO) locals (aO x).K9=true:=by
 unfold eC at *
 rw[o8]at *
 intro z hz;rw[wv (eV p)];rcases nZ he with⟨h1,e⟩|⟨_,e⟩
 ·rw[e]at hz;rcases(jV h1).2 z hz with hz|⟨n,rfl⟩
  ·exact h z hz
  ·simp[cH]
 ·rw[e]at hz;exact h z hz
theorem xk {p:List LO}(hl:∀x∈p,br x.K9=true\/x.K9=[]){locals:List (List UInt8)}{e:Nat}:∀n i d,mH p locals e n i d=true->mH (p.map aO) locals e n i d=true
 | 0,_,_,_=>rfl
 | n+1,i,d,h=>by
  rw[mH]at h⊢;split
  ·rename_i hi;rw[c7 hi]at h
   cases hx:p[i]? with
   | none=>rw[hx]at h;cases h
   | some x=>
    rw[hx]at h;rw[p6,hx];dsimp only[Option.map_some]at h⊢;have hd:dep (aO x) d=dep x d:=(by unfold dep;rw[(kq x).1]);rw[(kq x).1,hd];split at h
    ·cases h
    ·rename_i h0;rw[b8 h0];split at h
     ·rename_i hc;rw[c7 ⟨hc.1,Di (hl x (c9 hx)) hc.2⟩];exact xk hl n _ _ h
     ·cases h
  ·rfl
theorem vh {p:List LO}(h:ah p=true):ah (p.map aO)=true:=by
 have ha:=eV p;unfold ah at h⊢;simp only[b9,j5]at h⊢;obtain⟨h1,h2,h3,h4,h5,h6,h7⟩:=h;have XU:ay (p.map aO)=ay p:=ha.funsF 0;have PH:=o8.1 h3;refine⟨by rw[e7];exact h1,by rw[XU];exact h2,?_,by rw[ha.headOk];exact h4,?_,?_,?_⟩
 ·rw[o8];intro x hx;obtain⟨y,hy,rfl⟩:=n7.1 hx;exact AS (PH y hy)
 ·rw[XU,o8];intro k hk;rw[ha.nameFirst];exact o8.1 h5 k hk
 ·rw[e7];refine sn (Eq.symm ha) (fun k e hf=>?_) _ _ h6;unfold tF at hf⊢;rw[b9]at hf⊢;rw[ha.localsOf];exact⟨hf.1,xk (fun x hx=>Bt (PH x hx)) _ _ _ hf.2⟩
 ·unfold tW at h7⊢;rw[ha.elsesIn,e7];exact h7
structure Rl (s s':Gs):Prop where
 len:s.I7.length=s'.I7.length
 J3:s.J3=s'.J3
 start:s.start=s'.start
structure Wd (C C':Cx):Prop where
 p:C'.p=C.p
 b:C'.b=C.b
 fr:C'.J6=C.J6
 args:C'.args=C.args
section
variable {C C':Cx} {x:Sc} {ins:List Nat} {rep NE:Sc->List Nat->Nat->Nat->Int->Gs->Gs} {line:Nat}
theorem dz {s s':Gs}(h:Rl s s')(d d' c c' a a' l l':Int)(ch YM:List Int):Rl (aC C s d c a l ch) (aC C' s' d' c' a' l' YM):=⟨by simp[aC,h.len],h.J3,rfl⟩
theorem xM (y:Sc)(ch:List Int)(l:Int):∀(n:Nat) (d d':Int) {s s':Gs},Rl s s'->Rl (cD C y ch l n d s) (cD C' y ch l n d' s')
 | 0,_,_,_,_,h=>h
 | n+1,d,d',s,s',h=>by rw[cD,cD];exact xM y ch l n _ _ (dz h ..)
theorem zQ (y:Sc)(ch:List Int)(l d d':Int):∀(n i:Nat) {s s':Gs},Rl s s'->Rl (dD C y ch l d n i s) (dD C' y ch l d' n i s')
 | 0,_,_,_,h=>h
 | n+1,i,s,s',h=>by rw[dD,dD];exact zQ y ch l d d' n (i+1) (dz (dz h ..) ..)
def CV (rep NE:Sc->List Nat->Nat->Nat->Int->Gs->Gs):Prop:=∀(x:Sc) (ins:List Nat) (line g:Nat) (d d':Int) (s s':Gs),Rl s s'->Rl (rep x ins line g d s) (NE x ins line g d' s')
theorem Ku (hw:Wd C C')(hr:CV rep NE)(t:LY)(d d':Int){s s':Gs}(h:Rl s s'):Rl (ma C rep x ins line t d s) (ma C' NE x ins line t d' s'):=by
 unfold ma;rw[hw.p];split
 ·exact dz h ..
 split
 ·exact dz h ..
 split
 ·split
  ·rename_i g hg;have hB:cL C' ins g s'.I7.length=cL C ins g s.I7.length:=(by unfold cL;rw[hw.p,hw.b,h.len]);rw[hB];split
   ·exact hr _ _ _ _ _ _ _ _ h
   ·exact dz h ..
  ·exact h
 ·exact dz h ..
mutual
theorem EN (hw:Wd C C')(hr:CV rep NE):∀(e:Ex) (d d':Int) {s s':Gs},Rl s s'->Rl (eA C rep x ins line e d s) (eA C' NE x ins line e d' s')
 | .node t es,d,d',s,s',h=>by rw[eA,eA];exact Ku hw hr t _ _ (Az hw hr es d d' h)
theorem Az (hw:Wd C C')(hr:CV rep NE):∀(es:List Ex) (d d':Int) {s s':Gs},Rl s s'->Rl (cW C rep x ins line es d s) (cW C' NE x ins line es d' s')
 | [],_,_,s,s',h=>by rw[cW,cW];exact h
 | a::es,d,d',s,s',h=>by rw[cW,cW];exact Az hw hr es _ _ (EN hw hr a d d' h)
end
theorem CD (hw:Wd C C')(x:Sc):ck C' x=ck C x:=by unfold ck;rw[hw.args]
theorem Ky (hw:Wd C C')(x:Sc)(line g:Nat)(d d':Int){s s':Gs}(h:Rl s s'):Rl (fU C x line g d s) (fU C' x line g d' s'):=by unfold fU;rw[show cf C' x line g=cf C x line g by unfold cf;rw[hw.p,CD hw],hw.p,CD hw];exact zQ _ _ _ _ _ _ _ (xM _ _ _ _ _ _ ⟨h.len,by dsimp only;rw[h.J3],h.start⟩)
theorem Hs (x:Sc)(line:Nat)(d d':Int){s s':Gs}(h:Rl s s'):Rl (dc C x line d s) (dc C' x line d' s'):=by
 unfold dc;rw[h.start];split
 ·exact dz h ..
 ·exact h
theorem Br (hw:Wd C C')(x:Sc)(k:Nat)(last:Bool)(d d':Int){L L':Ls}(h:Rl L.g L'.g):Rl (be C x k last d L).g (be C' x k last d' L').g:=by
 unfold be;rw[hw.fr];split
 ·split
  ·exact dz h ..
  ·exact dz h ..
 ·split
  ·exact h
  ·exact dz h ..
theorem Gn {s s':Gs}(h:Rl s s')(j j' v v':Int):Rl ⟨bV s.I7 j v,s.J3,s.start⟩ ⟨bV s'.I7 j' v',s'.J3,s'.start⟩:=⟨by dsimp only;rw[bO,bO,h.len],h.J3,h.start⟩
theorem HA (hw:Wd C C')(hr:CV rep NE)(b b':Int)(k:Nat)(ln:LO){L L':Ls}(h:Rl L.g L'.g):Rl (bI C rep x ins b k ln L).g (bI C' NE x ins b' k ln L').g:=by
 unfold bI;rw[hw.p];split
 ·exact Gn (dz h ..) _ _ _ _
 split
 ·split
  ·exact Br hw x k true _ _ (L:={L with g:=aC C L.g b 0 0 k x.J0}) (L':={L' with g:=aC C' L'.g b' 0 0 k x.J0}) (dz h ..)
  split
  ·exact dz h ..
  ·exact h
 ·have hg:=EN (x:=x) (ins:=ins) (line:=k) hw hr (exL ln.K9) b b' (s:=⟨L.g.I7,L.g.J3,true⟩) (s':=⟨L'.g.I7,L'.g.J3,true⟩) ⟨h.len,h.J3,rfl⟩;dsimp only;split
  ·exact dz hg ..
  split
  ·exact dz hg ..
  split
  ·exact Br hw x k false _ _ (L:={L with g:=eA C rep x ins k (exL ln.K9) b ⟨L.g.I7,L.g.J3,true⟩,J4:=L.J4.set k L.g.I7.length}) (L':={L' with g:=eA C' NE x ins k (exL ln.K9) b' ⟨L'.g.I7,L'.g.J3,true⟩,J4:=L'.J4.set k L'.g.I7.length}) hg
  ·exact dz hg ..
theorem Iu (hw:Wd C C')(k:Nat)(ln:LO){L L':Ls}(h:Rl L.g L'.g):Rl (bB C x k ln L).g (bB C' x k ln L').g:=by
 unfold bB;rw[hw.p];split
 ·exact Gn h _ _ _ _
 ·exact h
theorem Eg (hw:Wd C C')(hr:CV rep NE)(b b':Int):∀(n k:Nat) {L L':Ls},Rl L.g L'.g->Rl (dI C rep x ins b n k L).g (dI C' NE x ins b' n k L').g
 | 0,k,L,L',h=>by rw[dI,dI];exact h
 | n+1,k,L,L',h=>by
  rw[dI,dI,hw.p];split
  ·exact Eg hw hr b b' n (k+1) (Iu hw k _ (HA hw hr b b' k _ h))
  ·exact h
theorem zZ (hw:Wd C C')(hr:CV rep NE)(b b':Int){s s':Gs}(h:Rl s s'):Rl (bq C rep x ins b s).1 (bq C' NE x ins b' s').1:=by unfold bq;dsimp only;rw[hw.p];exact Eg hw hr b b' _ _ h
end
theorem DN {C C':Cx}(hw:Wd C C'):∀n,CV (cK C n) (cK C' n)
 | 0=>fun _ _ _ _ _ _ _ _ h=>h
 | n+1=>fun x ins line g d d' s s' h=>by
  show Rl (lT C (bq C (cK C n)) x ins line g d s) (lT C' (bq C' (cK C' n)) x ins line g d' s');unfold lT;dsimp only;rw[hw.p,show cf C' x line g=cf C x line g by unfold cf;rw[hw.p,CD hw]];have:=zZ (x:=cf C x line g) (ins:=ins++[g]) hw (DN hw n) (d-argsN C.p g) (d'-argsN C.p g) (Hs (C:=C) (C':=C') x line (d-argsN C.p g) (d'-argsN C.p g) (Ky hw x line g d d' h));exact⟨by dsimp only;rw[gQ,gQ,this.len],this.J3,this.start⟩
theorem HN {C C':Cx}(hw:Wd C C')(g:Nat):(dH C' g).J3=(dH C g).J3:=by
 have h0:Rl (dS C g) (dS C' g):=⟨rfl,by simp[dS,aC,hw.p,hw.args],rfl⟩;have Yk:bb C' g=bb C g:=by unfold bb;rw[hw.p]
 have:=zZ (x:=bb C g) (ins:=[g]) hw (DN hw C.b.Mc.toNat) C.I8 C'.I8 h0;unfold dH;rw[Yk,hw.b];exact this.J3.symm
theorem Cu {C:Cx}(hC:CxOk C)(h:ah C.p=true):nT C:=fun g e k ln hg he h1 h2 hk=>by
 obtain⟨y,hy,Oq⟩:=hg;obtain⟨e',g1,g2,g3,g4⟩:=hC.fn g y hy Oq;rw[he]at g1;injection g1 with g1;subst g1;obtain⟨k1,k2,_⟩:=g4 k ln h1 h2 hk;refine⟨k1,fun _=>k2,fun h1k=>?_⟩;obtain⟨i,hi⟩:=(Ib h ⟨⟨y,hy,Oq⟩,he,h1,o_⟩ hk h2).2 h1k;have:=nz hi;have hx:dG (localsOf C.p (g:Int)) ln.J8=(i:Int):=by unfold dG;exact bR hi
 rw[hx];omega
theorem Dt {p:List LO}{f:Int}{b:LF}(hs:aw 1048576 (.lst 4 (p.map LO.tr)))(h1:ah p=true)(h2:aS b=true)(h3:0<=f)(h4:f<(ay p).length):∃(g:Nat) (C:Cx) (ds:List Int),(ay p)[f.toNat]?=some g/\C.p=foldIf p b/\C.args=argsN C.p g/\C.J6=nI b.Mn f/\0<=C.args/\C.args<=4/\0<=C.I8/\C.I8<=1000/\TyF C (aA p f b) ds:=by
 obtain⟨g,C,k1,k2,k3,k4,k5,k6,k7,k8,k9⟩:=ka hs h1 h2 h3 h4
 have SU:ah C.p=true:=by
  rw[k3];unfold foldIf;split
  ·exact vh h1
  ·exact h1
 have hw:Wd (ctx (foldIf p b) f.toNat g b 0) C:=⟨by rw[k3];rfl,by rw[k4];rfl,by rw[k6];show nI b.Mn f=nI b.Mn ((f.toNat:Nat):Int);rw[E5 h3],by rw[k5,k3];rfl⟩;obtain⟨ds,PJ⟩:=Jc k2 (Cu k2 SU) k7 k5 (by rw[k9,HN hw];exact v2 _);have ha:=k2.args;have U8:=k2.I8;exact⟨g,C,ds,k1,k3,k5,k6,ha.1,ha.2,U8.1,U8.2,by rw[k8];exact PJ⟩
end Go.Proofs.P
namespace Go.Proofs.P
open Go.Sim Tryz
def kO (c:Int):Int×Int:=
 if c=0 then(-2147483648,2147483647)else if c=1\/c=2\/c=3\/c=4\/c=10\/c=11 then(-32768,32767)
 else if c=16 then(0,65535)else if c=12\/c=13\/c=14\/c=15 then(0,255)else(0,0)
def dB (c a:Int):Bool:=af c 0 17&&af a (kO c).1 (kO c).2
theorem Al (c:Int):(aX c=(4,true)/\kO c=(-2147483648,2147483647))\/(aX c=(2,true)/\kO c=(-32768,32767))\/(aX c=(2,false)/\kO c=(0,65535))\/(aX c=(1,false)/\kO c=(0,255))\/(aX c=(0,false)/\kO c=(0,0)):=by
 unfold aX kO;repeat' split
 all_goals simp
theorem zH (x:LQ):Sim.Spec prog 193 [.agg x.tr] (rB (dB x.I9 x.J7)):=by
 refine bv hΓ aG func193 rfl d_ rfl ?_;have hi:=aP x.I9 0 17;have ha:=fI x.I9;have h0:dB x.I9 x.J7=(af x.I9 0 17&&af x.J7 (kO x.I9).1 (kO x.I9).2):=rfl;rw[h0]
 cases hw:af x.I9 0 17 with
 | false=>
  rw[hw]at hi
  repeat' ((conv=>whnf);first|apply Wx|apply W6|apply oi|apply fi|intro h|refine cl ha ?_|refine cl hi ?_|exact Y7|refine e_ rfl ?_)
 | true=>
  rw[hw]at hi;rw[m9];rcases Al x.I9 with⟨e1,e2⟩|⟨e1,e2⟩|⟨e1,e2⟩|⟨e1,e2⟩|⟨e1,e2⟩
  all_goals(
   rw[Jr,e1]at ha;rw[e2];have gb:=aP x.J7 (kO x.I9).1 (kO x.I9).2;rw[e2]at gb;repeat' ((conv=>whnf);first|apply Wx|apply W6|apply oi|apply fi|intro h|refine cl ha ?_|refine cl hi ?_|refine .inl (ci gb (ai rfl (ai KW (ai KW trivial))) ?_)|exact Y7|refine e_ rfl ?_)
   skip)
def kn (a:Int)(k:Nat):UInt8:=UInt8.ofNat ((a.fdiv (2^(8*k)))%256).toNat
def iQ (a:Int)(n:Nat):List UInt8:=(List.range n).map (kn a)
def bg (x:LQ):List UInt8:=if dB x.I9 x.J7=true then UInt8.ofNat x.I9.toNat::iQ x.J7 (aX x.I9).1.toNat else []
theorem Ax (a:Int)(n:Nat):iQ a (n+1)=iQ a n++[kn a n]:=by simp[iQ,G3]
theorem eb {x:LQ}(h:dB x.I9 x.J7=true):((bg x).length:Int)=aE x.I9:=by have MY:=dQ x.I9;rw[bg,c7 h];unfold dB at h;rw[b9]at h;rw[aE,c7 h.1];simp[iQ];omega
theorem sP (x:LQ):(bg x).length<=5:=by
 have MY:=dQ x.I9;unfold bg;split
 ·simp[iQ];omega
 ·simp
theorem EZ (a:Int){k:Nat}(h:k<=4):IntKind.u8.wrap (a.fdiv (2^min (IntKind.i64.wrap (8*(k:Int))).toNat IntKind.i64.bits))=((kn a k).toNat:Int):=by
 have h8:IntKind.i64.wrap (8*(k:Int))=((8*k:Nat):Int):=by rw[c6 _ o_];rfl
 rw[h8,d7,y6 (by show 8*k<=64;omega)];unfold kn;generalize a.fdiv (2^(8*k))=z;simp[IntKind.wrap,IntKind.bits,IntKind.signed];omega
theorem tU (x:LQ):Sim.Spec prog 123 [.agg x.tr] (rS (bg x)):=by
 refine bv hΓ aG func123 rfl d_ rfl ?_;have ho:=zH x;have ha:=fI x.I9;unfold bg
 cases hw:dB x.I9 x.J7 with
 | false=>
  rw[hw]at ho
  repeat' ((conv=>whnf);first|apply Wx|apply W6|apply oi|apply fi|intro h|refine cl ho ?_|exact Y7|refine e_ rfl ?_)
 | true=>
  rw[hw]at ho;rw[c7 rfl]
  have hc:0<=x.I9/\x.I9<=17:=by unfold dB at hw;rw[b9]at hw;exact within_iff.1 hw.1
  obtain⟨n,hn⟩:∃n:Nat,(aX x.I9).1=(n:Int):=⟨(aX x.I9).1.toNat,by have:=dQ x.I9;omega⟩;have N2:n<=4:=by have:=dQ x.I9;omega
  rw[Jr,hn]at ha;rw[hn,d7];generalize OY:UInt8.ofNat x.I9.toNat=b0
  have ZT:IntKind.u8.wrap x.I9=(b0.toNat:Int):=by subst OY;simp[IntKind.wrap,IntKind.bits,IntKind.signed];omega
  repeat' ((conv=>whnf);first|apply Wx|apply W6|apply oi|apply fi|intro h|refine cl ho ?_|refine cl ha ?_|exact Y7|refine e_ rfl ?_)
  conv=>whnf
  refine⟨{k:Nat//k<=n},fun k=>⟨[(1,.r (.c (.ptr (1,0,0) 0))),(3,tI .i64 (n:Int)),(5,.r (.c (.own (19,0,0)))),(6,tI .i64 (k.1:Int))],[((19,0,0),some (.arr true 1 ((b0::iQ x.J7 k.1).map aY))),((1,0,0),some (.box [.t (.int .i64 x.I9),.t (.int .i64 x.J7)]))],[19,1]⟩,fun k=>n-k.1,⟨0,o_⟩,?_,?_⟩
  ·repeat' ((conv=>whnf);first|apply Wx|apply W6|apply oi|apply fi|intro h|exact Y7|refine e_ rfl ?_)
   all_goals try exact⟨by rw[ZT];rfl⟩
  intro⟨k,hk⟩;dsimp only;have PM:((b0::iQ x.J7 k).map aY).length=k+1:=by simp[iQ]
  by_cases My:k<n
  ·have h8:IntKind.i64.wrap (8*(k:Int))=((8*k:Nat):Int):=(by rw[c6 _ o_];rfl);have WS:=EZ x.J7 (k:=k) o_;repeat' ((conv=>whnf);first|apply Wx|apply W6|apply oi|apply fi|intro h|exact Y5|refine e_ rfl ?_)
   all_goals try exact⟨by rw[h8];omega⟩
   all_goals try exact⟨⟨by simp only[i8,d5,PM]<;>omega,by simp only[i8,d5,PM]<;>omega⟩⟩
   conv=>whnf
   refine⟨⟨k+1,o_⟩,?_,KD⟩;repeat' ((conv=>whnf);first|apply Wx|apply W6|apply oi|apply fi|intro h|exact Y8|refine e_ rfl ?_)
   all_goals try exact⟨by dsimp only;rw[Ax,WS,<-u3,u4];rfl⟩
  ·have OM:k=n:=o_;subst OM;exact Z7
theorem yu {c a:Int}(h:eW c a):dB c a=true:=by
 obtain⟨h0,h1,h2,h3,h4,h5,h6⟩:=h;unfold dB;rw[b9,within_iff,within_iff];refine⟨⟨h0,h1⟩,?_⟩;unfold kO;split
 ·have:=h2 aaj;dsimp only;omega
 split
 ·have:=h3 o_;dsimp only;omega
 split
 ·have:=h4 aaj;dsimp only;omega
 split
 ·have:=h5 o_;dsimp only;omega
 ·have:=h6 o_;dsimp only;omega
structure PlI (p:List LO) (f j:Nat) (y:LS):Prop where
 head:j=0->(y.L3.J2.I9=13\/y.L3.J2.I9=15)/\∃g ln,(ay p)[f]?=some g/\y.L3.Mh=(g:Int)/\p[g]?=some ln/\ln.J1=0
 body:0<j->y.L3.J2.I9≠13/\∃(n:Nat) (ln:LO),y.L3.Mh=(n:Int)/\p[n]?=some ln/\ln.J1≠0
 op:dB y.L3.J2.I9 y.L3.J2.J7=true
theorem zD (p:List LO)(b:LF):alike (foldIf p b) p:=by
 unfold foldIf;split
 ·exact eV p
 ·rfl
theorem gJ (st:List Int)(k:Nat)(x:LN):(cN st k x).J2.I9=x.J2.I9:=by unfold cN;split<;>rfl
theorem vp (st:List Int)(k:Nat)(x:LN):(cN st k x).Mh=x.Mh:=by unfold cN;split<;>rfl
theorem mw {p:List LO}{b:LF}{at0:Int}(hs:aw 1048576 (.lst 4 (p.map LO.tr)))(h1:ah p=true)(h2:aS b=true){f:Nat}(h:f<(ay p).length){j:Nat}{y:LS}(hy:(ik (aA p f b) at0)[j]?=some y):PlI p f j y:=by
 obtain⟨g,C,k1,k2,k3,k4,hi⟩:=qL (f:=(f:Int)) hs h1 h2 o_ o_;have Mv:=(jc (p:=p) (f:=(f:Int)) (b:=b) hs).1;have NM:=hi.jumps.2;have hj:j<(aA p (f:Int) b).length:=by have:=aH hy;rwa [dT]at this
 obtain⟨x,hx⟩:=ae hj;rw[eS hx]at hy;injection hy with hy;subst hy;rw[d7]at k1;obtain⟨Vo,ln,TS,UY⟩:=nV (c9 k1)
 generalize aA p (f:Int) b=I at *
 obtain⟨a,t,rfl,ha,ht⟩:=hi
 have Mw:¬oE x=true->eW x.J2.I9 x.J2.J7:=fun hn=>by
  rw[isJump_iff]at hn
  cases j with
  | zero=>
   simp only[e8,Option.some.injEq]at hx;subst hx;have e3:=ha.2.2
   rcases ha.1 with e|e<;>(rw[e,e3];unfold eW;omega)
  | succ j=>exact(ht x (c9 (by simpa using hx))).op hn
 refine⟨fun e=>?_,fun e=>?_,?_⟩
 ·subst e;simp only[e8,Option.some.injEq]at hx;subst hx;dsimp only;rw[gJ,vp];exact⟨ha.1,g,ln,k1,ha.2.1,TS,UY⟩
 ·obtain⟨j,rfl⟩:∃i,j=i+1:=⟨j-1,o_⟩;have hg:=ht x (c9 (by simpa using hx));dsimp only;rw[gJ,vp];refine⟨hg.enter,?_⟩;obtain⟨z,z0,z1,z2⟩:=hg.line;rw[k2]at z1;obtain⟨w,w1,w2,_⟩:=(zD p b).get z1;exact⟨x.Mh.toNat,w,o_,w1,o_⟩
 ·dsimp only;by_cases hn:oE x=true
  ·rw[cN,c7 hn];have h3:=NM x (c9 hx) hn;rw[isJump_iff]at hn;have s1:=jG (at0:=at0) (l:=a::t) (k:=x.J2.J7.toNat) o_;have s2:=jG (at0:=at0) (l:=a::t) (k:=j+1) o_;refine yu ?_;dsimp only[zk];unfold eW;omega
  ·rw[cN,b8 hn];exact yu (Mw hn)
def aj (l:List LS):List UInt8:=l.flatMap fun x=>bg x.L3.J2
theorem aJ (a b:List LS):aj (a++b)=aj a++aj b:=by simp[aj]
theorem dW (x:LS):aj [x]=bg x.L3.J2:=by simp[aj]
theorem ib:∀(l:List LS),(aj l).length<=5*l.length
 | []=>by simp[aj]
 | x::l=>by
  have h1:=ib l;have h2:=sP x.L3.J2;rw[show x::l=[x]++l from rfl,aJ,c8,c8,dW];simp only[d5,i8];omega
theorem km {l:List LN}{at0:Int}(h:∀y∈ik l at0,dB y.L3.J2.I9 y.L3.J2.J7=true):∀{k:Nat},k<=l.length->((aj ((ik l at0).take k)).length:Int)=atL (aZ at0 l) k-at0
 | 0,_=>by rw[fV];simp[aj]
 | k+1,hk=>by
  obtain⟨x,hx⟩:=ae (l:=l) (k:=k) o_;have hg:=eS (at0:=at0) hx;have ih:=km h (k:=k) o_;have he:=eb (h _ (c9 hg));dsimp only at he;rw[gJ]at he;rw[dA hg,aJ,c8,dW,gi hx];dsimp only;omega
def bD (p:List LO)(f:Nat):List UInt8:=match(ay p)[f]? with
 | some g=>(match p[g]? with|some y=>y.J8|none=>[])
 | none=>[]
def co (p:List LO):Int->List (Nat×List LS)->List LX
 | _,[]=>[]
 | at0,(f,l)::L=>⟨bD p f,at0,(aj l).length⟩::co p (at0+(aj l).length) L
theorem ss (p:List LO):∀(L:List (Nat×List LS)) (at0:Int) (x:Nat×List LS),co p at0 (L++[x])=co p at0 L++[⟨bD p x.1,at0+(aj (ax L)).length,(aj x.2).length⟩]
 | [],at0,(f,l)=>by simp[co,ax,aj]
 |(g,m)::L,at0,x=>by
  rw[u3,co,ss p L,co,u3];congr 3;have:ax ((g,m)::L)=m++ax L:=by simp[ax]
  rw[this,aJ,c8];simp only[LX.mk.injEq,true_and,and_true];omega
theorem lu (p:List LO):∀(L:List (Nat×List LS)) (at0:Int),(co p at0 L).length=L.length
 | [],_=>rfl
 |(f,l)::L,at0=>by rw[co,d5,lu p L,d5]
noncomputable def ag (p:List LO) (b:LF) (image:Int):LK:=
 if ah p=true/\aS b=true/\af image 0 1=true then⟨aj (ax (bX p b image (ay p).length 0 0)),co p 0 (bX p b image (ay p).length 0 0)⟩else⟨[],[]⟩
theorem mF {p:List LO}{b:LF}{image:Int}:∀{n f:Nat} {at0:Int} {x:Nat×List LS},x∈bX p b image n f at0->f<=x.1/\x.1<f+n
 | 0,_,_,_,h=>by cases h
 | n+1,f,at0,x,h=>by
  rw[bX]at h;split at h
  ·rcases d6.1 h with rfl|h
   ·exact⟨d8 _,g_⟩
   ·have:=mF h;omega
  ·have:=mF h;omega
theorem jR {p:List LO}{b:LF}{image:Int}(hs:aw 1048576 (.lst 4 (p.map LO.tr)))(h1:ah p=true)(h2:aS b=true):∀{n f:Nat} {at0:Int} {i:Nat} {x:Nat×List LS},f+n<=(ay p).length->(bX p b image n f at0)[i]?=some x->
  x.2=ik (aA p (x.1:Int) b) (at0+((aj (ax ((bX p b image n f at0).take i))).length:Int))/\x.1<(ay p).length/\0<x.2.length
 | 0,_,_,_,_,_,h=>by simp[bX]at h
 | n+1,f,at0,i,x,hf,h=>by
  rw[nW]at h⊢;split at h
  ·rename_i hin;rw[c7 hin]
   cases i with
   | zero=>
    simp only[e8,Option.some.injEq]at h;subst h;have:=(Ka (f:=f) hs h1 h2 o_).pos
    refine⟨by simp[ax,aj],g_,by dsimp only;rw[dT];exact this⟩
   | succ i=>
    rw[j8]at h;obtain⟨k1,k2,k3⟩:=jR hs h1 h2 o_ h;refine⟨?_,k2,k3⟩
    have hl:=km (l:=aA p (f:Int) b) (at0:=at0) (fun y hy=>by
     obtain⟨j,hj⟩:=v6.1 hy
     exact(mw hs h1 h2 o_ hj).op) (k:=(aA p (f:Int) b).length) (d8 _)
    rw[gt (by rw[dT];exact d8 _)]at hl;rw[k1,q8,show ∀(a:Nat×List LS) (l:List (Nat×List LS)),ax (a::l)=a.2++ax l from fun a l=>by simp[ax],aJ,c8];congr 1;have he:yA at0 (aA p (f:Int) b)=atL (aZ at0 (aA p (f:Int) b)) (aA p (f:Int) b).length:=rfl;dsimp only
    rw[he]at *
    omega
  ·rename_i hin;rw[b8 hin];exact jR hs h1 h2 o_ h
theorem fR {p:List LO}{b:LF}{image:Int}(hs:aw 1048576 (.lst 4 (p.map LO.tr)))(h1:ah p=true)(h2:aS b=true){i:Nat}{x:Nat×List LS}(h:(bX p b image (ay p).length 0 0)[i]?=some x){j:Nat}{y:LS}(hy:x.2[j]?=some y):
  PlI p x.1 j y/\y.Me=((aj (ax ((bX p b image (ay p).length 0 0).take i))).length:Int)+(aj (x.2.take j)).length:=by
 obtain⟨k1,k2,_⟩:=jR hs h1 h2 o_ h
 generalize hS:((aj (ax ((bX p b image (ay p).length 0 0).take i))).length:Int)=S at *
 rw[I5]at k1;rw[k1]at hy⊢;refine⟨mw hs h1 h2 k2 hy,?_⟩;have hj:j<(aA p (x.1:Int) b).length:=by have:=aH hy;rwa [dT]at this
 rw[km (fun z hz=>by
  obtain⟨j,hj⟩:=v6.1 hz
  exact(mw hs h1 h2 k2 hj).op) o_]
 obtain⟨z,hz⟩:=ae hj;rw[eS hz]at hy;injection hy with hy;subst hy;dsimp only;omega
def pX (L:List (Nat×List LS))(i j:Nat):List LS:=match L[i]? with|some x=>x.2.take j|none=>[]
def gl (L:List (Nat×List LS))(i j:Nat):List UInt8:=aj (ax (L.take i))++aj (pX L i j)
def jB (p:List LO)(L:List (Nat×List LS))(i j:Nat):List LX:=co p 0 (L.take i)++(match L[i]? with
 | some x=>if j=0 then []else [⟨bD p x.1,((aj (ax (L.take i))).length:Int),((aj (x.2.take j)).length:Int)⟩]
 | none=>[])
theorem pv (L:List (Nat×List LS))(x:Nat×List LS):ax (L++[x])=ax L++x.2:=by simp[ax]
theorem Dm {L:List (Nat×List LS)}{i:Nat}{x:Nat×List LS}(h:L[i]?=some x):gl L i x.2.length=gl L (i+1) 0:=by
 have:pX L (i+1) 0=[]:=by unfold pX;split<;>simp
 rw[gl,gl,this,dA h,pv,aJ,pX,h];simp[aj]
theorem DE {p:List LO}{L:List (Nat×List LS)}{i:Nat}{x:Nat×List LS}(h:L[i]?=some x)(h0:0<x.2.length):jB p L i x.2.length=jB p L (i+1) 0:=by
 rw[jB,jB,dA h,ss,h];dsimp only;rw[b8 o_,gt (d8 _),I5]
 cases L[i+1]?<;>simp
theorem Gc {p:List LO}{L:List (Nat×List LS)}:jB p L L.length 0=co p 0 L:=by rw[jB,gt (d8 _),e9 (d8 _)];simp
theorem Fl {L:List (Nat×List LS)}:gl L L.length 0=aj (ax L):=by rw[gl,gt (d8 _),pX,e9 (d8 _)];simp[aj]
theorem BT {L:List (Nat×List LS)}{i j:Nat}{x:Nat×List LS}{y:LS}(h:L[i]?=some x)(hy:x.2[j]?=some y):(ax L)[(ax (L.take i)).length+j]?=some y:=by
 have e:L=L.take i++x::L.drop (i+1):=by rw[<-cF h,y9]
 have e2:ax L=ax (L.take i)++(x.2++ax (L.drop (i+1))):=by
  conv=>lhs;rw[e]
  simp[ax]
 rw[e2,m5 o_,D1,j7 (aH hy),hy]
theorem HC {p:List LO}{L:List (Nat×List LS)}(Tw:∀{i:Nat} {x:Nat×List LS},L[i]?=some x->0<x.2.length){i j:Nat}{x:Nat×List LS}(hx:L[i]?=some x)(hj:j<x.2.length):∃q:Nat×Nat,q.1<=L.length/\(∀x,L[q.1]?=some x->q.2<x.2.length)/\(q.1=L.length->q.2=0)/\
  (ax (L.take q.1)).length+q.2=(ax (L.take i)).length+(j+1)/\gl L q.1 q.2=gl L i (j+1)/\jB p L q.1 q.2=jB p L i (j+1):=by
 have hi:=aH hx;by_cases hn:j+1<x.2.length
 ·exact⟨(i,j+1),g_,fun z hz=>by dsimp only at hz⊢;rw[hx]at hz;injection hz with hz;subst hz;exact hn,fun h=>by dsimp only at h;omega,rfl,rfl,rfl⟩
 ·have e:j+1=x.2.length:=o_;refine⟨(i+1,0),g_,fun z hz=>Tw hz,fun _=>rfl,?_,?_,?_⟩
  ·dsimp only;rw[dA hx,pv,c8];omega
  ·dsimp only;rw[e,Dm hx]
  ·dsimp only;rw[e,DE hx (Tw hx)]
theorem ur {p:List LO}{L:List (Nat×List LS)}{i:Nat}:jB p L i 0=co p 0 (L.take i):=by rw[jB];cases L[i]?<;>simp
theorem Cr {L:List (Nat×List LS)}{i:Nat}:gl L i 0=aj (ax (L.take i)):=by rw[gl,pX];cases L[i]?<;>simp[aj]
theorem xR {p:List LO}{L:List (Nat×List LS)}{i j:Nat}{x:Nat×List LS}(hx:L[i]?=some x):jB p L i (j+1)=co p 0 (L.take i)++[⟨bD p x.1,((aj (ax (L.take i))).length:Int),((aj (x.2.take (j+1))).length:Int)⟩]:=by rw[jB,hx];rfl
theorem Fs {L:List (Nat×List LS)}{i j:Nat}{x:Nat×List LS}{y:LS}(hx:L[i]?=some x)(hy:x.2[j]?=some y):gl L i (j+1)=gl L i j++bg y.L3.J2:=by rw[gl,gl,pX,pX,hx];dsimp only;rw[dA hy,aJ,dW,j9]
theorem Fm {L:List (Nat×List LS)}{i j:Nat}{x:Nat×List LS}(hx:L[i]?=some x):(gl L i j).length=(aj (ax (L.take i))).length+(aj (x.2.take j)).length:=by rw[gl,pX,hx,c8]
def oL {α:Type}(o:Option (List α)):List α:=match o with|some l=>l|none=>[]
def gh (off:Int)(x:LX):Bool:=af x.L4 0 1000000&&(af x.Mj 0 1000000&&(decide (x.L4<=off)&&decide (off<x.L4+x.Mj)))
def eQ (off:Int):List LX->Nat->Int
 | [],_=> -1
 | x::l,k=>if gh off x then(k:Int)else eQ off l (k+1)
def eO (l:List LX)(off:Int):Int:=eQ off l 0
theorem FB {off:Int}{l:List LX}{k:Nat}{x:LX}(hx:l[k]?=some x):eQ off (l.drop k) k=if gh off x then(k:Int)else eQ off (l.drop (k+1)) (k+1):=by rw[cF hx,eQ]
theorem qv {off:Int}:∀(l:List LX) (k:Nat),eQ off l k= -1\/((k:Int)<=eQ off l k/\eQ off l k<k+l.length)
 | [],k=> .inl (by rw[eQ])
 | x::l,k=>by
  rw[eQ];split
  ·exact .inr ⟨o_,by simp only[d5];omega⟩
  ·rcases qv l (k+1)with h|h
   ·exact .inl h
   ·exact .inr ⟨o_,by simp only[d5];omega⟩
theorem mZ (l:List LX)(off:Int):eO l off= -1\/(0<=eO l off/\eO l off<l.length):=by have:=qv (off:=off) l 0;unfold eO;omega
theorem lW (i:LK)(off:Int)(hl:i.L8.length<=1048576):Sim.Spec prog 136 [.agg i.tr,tvI off] (rI (eO i.L8 off)):=by
 refine ak hΓ aG func136 rfl d_ rfl ?_;obtain⟨code,l⟩:=i;dsimp only at hl⊢;have Mv:(l.map LX.tr).length=l.length:=s_;unfold eO;repeat' ((conv=>whnf);first|refine Or.inl ?_|apply oi|apply fi|intro h|exact Y1|refine e_ rfl ?_)
 conv=>whnf
 refine⟨{k:Nat//k<=l.length/\eQ off (l.drop k) k=eQ off l 0},fun k=>⟨[(1,tI .i64 off),(2,.r (.c (.ptr (2,0,0) 0))),(5,tI .i64 (k.1:Int))],[((2,0,0),some (.box [.t (.str code),.t (.lst 3 (l.map LX.tr))]))],[2]⟩,fun k=>l.length-k.1,⟨0,o_,by rw[B8]⟩,?_,?_⟩
 ·exact Z1
 intro⟨k,hk,hr⟩;dsimp only;by_cases My:k<l.length
 ·obtain⟨x,hx⟩:=ae My;rw[FB hx]at hr;have Nj:=aP x.L4 0 1000000;have Nd:=aP x.Mj 0 1000000;have Qq:gh off x=false->eQ off (l.drop (k+1)) (k+1)=eQ off l 0:=fun h=>by rw[h,b8 s_]at hr;exact hr
  cases Nk:af x.L4 0 1000000 with
  | false=>
   have hh:gh off x=false:=(by rw[gh,Nk];rfl);rw[Nk]at Nj;repeat' ((conv=>whnf);first|refine Or.inl ?_|apply oi|apply fi|intro h|refine⟨k,x.tr,rfl,ab hx,?_⟩|refine ci Nj (ai rfl (ai rfl (ai rfl trivial))) ?_|exact Y2|refine e_ rfl ?_)
   all_goals conv=>whnf
   all_goals refine⟨⟨k+1,o_,Qq hh⟩,?_,KD⟩
   repeat' ((conv=>whnf);first|refine Or.inl ?_|apply oi|apply fi|intro h|exact Y1|refine e_ rfl ?_)
   all_goals exact Q3
  | true=>
   rw[Nk]at Nj
   cases NS:af x.Mj 0 1000000 with
   | false=>
    have hh:gh off x=false:=(by rw[gh,Nk,NS];rfl);rw[NS]at Nd;repeat' ((conv=>whnf);first|refine Or.inl ?_|apply oi|apply fi|intro h|refine⟨k,x.tr,rfl,ab hx,?_⟩|refine ci Nj (ai rfl (ai rfl (ai rfl trivial))) ?_|refine ci Nd (ai rfl (ai rfl (ai rfl trivial))) ?_|exact Y2|refine e_ rfl ?_)
    all_goals conv=>whnf
    all_goals refine⟨⟨k+1,o_,Qq hh⟩,?_,KD⟩
    repeat' ((conv=>whnf);first|refine Or.inl ?_|apply oi|apply fi|intro h|exact Y1|refine e_ rfl ?_)
    all_goals exact Q3
   | true=>
    rw[NS]at Nd;have Px:=within_iff.1 Nk;have S2:=within_iff.1 NS;have S1:IntKind.i64.wrap (x.L4+x.Mj)=x.L4+x.Mj:=c6 _ o_
    cases hh:gh off x with
    | true=>
     rw[hh,c7 rfl]at hr;rw[gh,Nk,NS]at hh;simp only[m9,b9,j5]at hh;repeat' ((conv=>whnf);first|refine Or.inl ?_|apply oi|apply fi|intro h|refine⟨k,x.tr,rfl,ab hx,?_⟩|refine ci Nj (ai rfl (ai rfl (ai rfl trivial))) ?_|refine ci Nd (ai rfl (ai rfl (ai rfl trivial))) ?_|exact Y2|refine e_ rfl ?_)
     all_goals try exact⟨by rw[hr]⟩
     all_goals(exfalso;(try rw[S1]at h);simp only[p9]at h;omega)
    | false=>
     have WL:=Qq hh;rw[gh,Nk,NS]at hh;simp only[m9,A8,p9]at hh;repeat' ((conv=>whnf);first|refine Or.inl ?_|apply oi|apply fi|intro h|refine⟨k,x.tr,rfl,ab hx,?_⟩|refine ci Nj (ai rfl (ai rfl (ai rfl trivial))) ?_|refine ci Nd (ai rfl (ai rfl (ai rfl trivial))) ?_|exact Y2|refine e_ rfl ?_)
     all_goals try(exfalso;rw[S1]at *;simp only[j5]at *;omega)
     all_goals conv=>whnf
     all_goals refine⟨⟨k+1,o_,WL⟩,?_,KD⟩
     repeat' ((conv=>whnf);first|refine Or.inl ?_|apply oi|apply fi|intro h|exact Y1|refine e_ rfl ?_)
     all_goals exact Q3
 ·have MS:l.length<=k:=o_;rw[n9 MS,eQ]at hr;repeat' ((conv=>whnf);first|refine Or.inl ?_|apply oi|apply fi|intro h|exact Y2|refine e_ rfl ?_)
  exact⟨by rw[<-hr]⟩
def cz (s:List UInt8)(p:Nat):Nat:=match s[p]? with|some b=>b.toNat|none=>0
theorem FV (s:List UInt8)(p:Nat):cz s p<256:=by
 unfold cz;split
 ·exact UInt8.toNat_lt _
 ·omega
def aV (s:List UInt8)(p:Nat):Nat->Nat
 | 0=>0
 | k+1=>aV s p k+cz s (p+k)*256^k
theorem eZ (s:List UInt8)(p:Nat):∀k,aV s p k<256^k
 | 0=>by simp[aV]
 | k+1=>by
  have h1:=eZ s p k;have h2:=FV s (p+k);rw[aV,G7];have h3:=l9 (256^k) (show cz s (p+k)<=255 by omega);omega
def jI (c:Int)(m:Nat):Int:=if(aX c).2=true/\2^(8*(aX c).1.toNat-1)<=m then(m:Int)-2^(8*(aX c).1.toNat)else m
def bu (s:List UInt8)(p:Int):Option (LQ×Nat):=
 if 0<=p/\p<s.length then
  (
   if aE (cz s p.toNat)=0\/(s.length:Int)<p+aE (cz s p.toNat)then none
   else some (⟨cz s p.toNat,jI (cz s p.toNat) (aV s (p.toNat+1) (aX (cz s p.toNat)).1.toNat)⟩,(aE (cz s p.toNat)).toNat))
 else none
def opX (o:Option (LQ×Nat)):LQ:=match o with|some x=>x.1|none=>⟨0,0⟩
def opZ (o:Option (LQ×Nat)):Int:=match o with|some x=>x.2|none=>0
abbrev rOp (o:Option (LQ×Nat)):Res:= .tup [.agg [.t (.int .i64 (opX o).I9),.t (.int .i64 (opX o).J7)],.c (.t (.int .i64 (opZ o))),.c (.t (.bool o.isSome))]
theorem BJ (c:Int):aX c=(4,true)\/aX c=(2,true)\/aX c=(2,false)\/aX c=(1,false)\/aX c=(0,false):=by
 unfold aX;repeat' split
 all_goals simp
theorem Kp {n x k:Nat}(hn:n<256^k):n ||| x*256^k=n+x*256^k:=by
 have e:(256:Nat)^k=2^(8*k):=by rw[show(256:Nat)=2^8 from rfl,<-Nat.pow_mul]
 have:=Nat.two_pow_add_eq_or_of_lt (i:=8*k) (b:=n) (by rw[<-e];exact hn) x;rw[e,Nat.mul_comm x,Nat.or_comm,<-this];omega
theorem ya {x k:Nat}(hk:k<4)(hx:x<256):IntKind.i64.wrap ((x:Int)*2^(min (Int.toNat (IntKind.i64.wrap (8*(k:Int)))) IntKind.i64.bits))=((x*256^k:Nat):Int):=by
 rw[c6 (8*(k:Int)) o_];have:k=0\/k=1\/k=2\/k=3:=o_;rcases this with rfl|rfl|rfl|rfl
 ·show IntKind.i64.wrap ((x:Int)*1)=_;rw[c6 _ o_];simp
 ·show IntKind.i64.wrap ((x:Int)*256)=_;rw[c6 _ o_];simp
 ·show IntKind.i64.wrap ((x:Int)*65536)=_;rw[c6 _ o_];simp
 ·show IntKind.i64.wrap ((x:Int)*16777216)=_;rw[c6 _ o_];simp
theorem xH {k:Nat}(hk:k<4):256^k<=16777216:=by have:=Nat.pow_le_pow_right (n:=256) o_ (show k<=3 by omega);exact this
theorem GS {n x k:Nat}(hk:k<4)(hn:n<256^k)(hx:x<256):IntKind.i64.wrap ((BitVec.ofInt IntKind.i64.bits (n:Int) ||| BitVec.ofInt IntKind.i64.bits (IntKind.i64.wrap ((x:Int)*2^(min (Int.toNat (IntKind.i64.wrap (8*(k:Int)))) IntKind.i64.bits)))).toNat:Int)=((n+x*256^k:Nat):Int):=by
 rw[ya hk hx];have h4:=xH hk;have h5:x*256^k<=255*16777216:=A4 o_ h4
 have e:(BitVec.ofInt IntKind.i64.bits (n:Int) ||| BitVec.ofInt IntKind.i64.bits ((x*256^k:Nat):Int)).toNat=n+x*256^k:=by show(BitVec.ofInt 64 (n:Int) ||| BitVec.ofInt 64 ((x*256^k:Nat):Int)).toNat=_;rw[BitVec.toNat_or,B9,B9];have e1:((n:Int)%((2^64:Nat):Int)).toNat=n:=o_;have e2:(((x*256^k:Nat):Int)%((2^64:Nat):Int)).toNat=x*256^k:=o_;rw[e1,e2,Kp hn]
 rw[e,c6 _ o_]
theorem yd (c:Int):∃n:Nat,(aX c).1=(n:Int)/\(n=0\/n=1\/n=2\/n=4)/\((aX c).2=true->n=2\/n=4):=by
 rcases BJ c with h|h|h|h|h<;>rw[h]
 ·exact⟨4,rfl,o_,o_⟩
 ·exact⟨2,rfl,o_,o_⟩
 ·exact⟨2,rfl,o_,s_⟩
 ·exact⟨1,rfl,o_,s_⟩
 ·exact⟨0,rfl,o_,s_⟩
theorem qp {c:Int}{n m:Nat}(hn:(aX c).1=(n:Int))(hg:(aX c).2=true)(h:2^(8*n-1)<=m):jI c m=(m:Int)-2^(8*n):=by rw[jI,hn,d7,c7 ⟨hg,h⟩]
theorem nN {c:Int}{n m:Nat}(hn:(aX c).1=(n:Int))(h:¬((aX c).2=true/\2^(8*n-1)<=m)):jI c m=(m:Int):=by rw[jI,hn,d7,b8 h]
theorem V94{p:Prop}(h:p:=by
 have h1:¬aE (b.toNat:Int)=0:=fun h=>MQ (Or.inl h);unfold aE at h1⊢;split at h1
 ·rename_i SN;rw[c7 SN,hn]
 ·omega):p:=h
theorem V95{p:Prop}(h:p:=by
 rcases RM rfl with h|h<;>rw[h]
 ·exact⟨32768,65536,d_,d_,d_,d_,d_,d_⟩
 ·exact⟨2147483648,4294967296,d_,d_,d_,d_,d_,d_⟩):p:=h
theorem tL (s:List UInt8)(p:Int)(hs:s.length<=1048576)(hp:p<=9223372036854775807):Sim.Spec prog 177 [tvS s,tvI p] (rOp (bu s p)):=by
 refine ak hΓ aG func177 rfl d_ rfl ?_;have hb:=ba p 0 (IntKind.i64.wrap (s.length-1));have hw:IntKind.i64.wrap ((s.length:Int)-1)=(s.length:Int)-1:=c6 _ o_;by_cases hin:0<=p/\p<s.length
 ·obtain⟨p,rfl⟩:=j6 hin.1;have QE:af (p:Int) 0 (IntKind.i64.wrap (s.length-1))=true:=by rw[hw];exact within_iff.2 ⟨o_,o_⟩
  rw[QE]at hb;obtain⟨b,Oa⟩:=ae (l:=s) (k:=p) o_;have WM:cz s p=b.toNat:=by rw[cz,Oa]
  have hz:=wO (b.toNat:Int);have ha:=lM (b.toNat:Int);have SY:=gO (b.toNat:Int);have My:=UInt8.toNat_lt b;have WV:IntKind.i64.wrap (b.toNat:Int)=b.toNat:=c6 _ o_;rw[bu,c7 hin,d7,WM];by_cases MQ:aE (b.toNat:Int)=0\/(s.length:Int)<(p:Int)+aE (b.toNat:Int)
  ·rw[c7 MQ];repeat' ((conv=>whnf);first|refine Or.inl ?_|apply oi|apply fi|intro h|refine ci hb (ai rfl (ai rfl (ai rfl trivial))) ?_|refine⟨p,b,rfl,Oa,?_⟩|refine ci hz (ai KW trivial) ?_|exact Y1|refine e_ rfl ?_)
   all_goals(exfalso;rename_i h0;have h1:¬aE (b.toNat:Int)=0:=(by simpa using h0);rw[c6 _ o_]at h;have h':=f9 h;omega)
  ·rw[b8 MQ];repeat' ((conv=>whnf);first|refine Or.inl ?_|apply oi|apply fi|intro h|refine ci hb (ai rfl (ai rfl (ai rfl trivial))) ?_|refine⟨p,b,rfl,Oa,?_⟩|refine ci hz (ai KW trivial) ?_|refine ci ha (ai KW trivial) ?_|exact Y1|refine e_ rfl ?_)
   all_goals try(exfalso;first|(have h1:aE (b.toNat:Int)=0:=aae;omega)|(rw[c6 _ o_]at h;have h':=f0 h;omega))
   obtain⟨n,hn,WC,RM⟩:=yd (b.toNat:Int)
   have Yw:aE (b.toNat:Int)=n+1:=by exact V94
   have Ql:=fun m=>qp (m:=m) hn;have OU:=fun m=>nN (m:=m) hn;rw[hn,d7]
   generalize(aX (b.toNat:Int)).2=sg at *
   generalize hV:jI (b.toNat:Int)=V at *
   conv=>whnf
   refine⟨{k:Nat//k<=n},fun k=>⟨[(0,tS s),(1,tI .i64 (p:Int)),(4,.r (.c (.ptr (4,0,0) 0))),(7,.r (.c (.ptr (7,0,0) 0))),(8,tI .i64 (aE (b.toNat:Int))),(9,tI .i64 (n:Int)),(10,tB sg),(11,tI .i64 (k.1:Int))],[((7,0,0),some (.box [.t (.int .i64 b.toNat),.t (.int .i64 (aV s (p+1) k.1:Nat))])),((4,0,0),some (.box [.t (.int .i64 0),.t (.int .i64 0)]))],[7,4]⟩,fun k=>n-k.1,⟨0,o_⟩,?_,?_⟩
   ·repeat' ((conv=>whnf);first|refine Or.inl ?_|apply oi|apply fi|intro h|exact Y1|refine e_ rfl ?_)
    all_goals exact⟨by first|rfl|(rw[WV];done)|(rw[hn];done)⟩
   intro⟨k,hk⟩;dsimp only;by_cases Pd:k<n
   ·obtain⟨b2,Nd⟩:=ae (l:=s) (k:=p+1+k) o_;have Su:cz s (p+1+k)=b2.toNat:=(by rw[cz,Nd]);have N7:=UInt8.toNat_lt b2;have ST:=eZ s (p+1) k;have OK:IntKind.i64.wrap (IntKind.i64.wrap ((p:Int)+1)+k)=((p+1+k:Nat):Int):=(by rw[c6 ((p:Int)+1) o_,c6 _ o_];omega);have M5:aV s (p+1) (k+1)=aV s (p+1) k+b2.toNat*256^k:=(by rw[aV,Su]);have NS:IntKind.i64.wrap (b2.toNat:Int)=b2.toNat:=c6 _ o_;repeat' ((conv=>whnf);first|refine Or.inl ?_|apply oi|apply fi|intro h|refine⟨(p+1+k),b2,OK,Nd,?_⟩|exact Y12|refine e_ rfl ?_)
    conv=>whnf
    refine⟨⟨k+1,o_⟩,?_,KD⟩;repeat' ((conv=>whnf);first|refine Or.inl ?_|apply oi|apply fi|intro h|exact Y1|refine e_ rfl ?_)
    ·exact⟨by dsimp only;rw[c6 _ o_];rfl⟩
    ·refine⟨congrArg (Tr.int _) ?_⟩;dsimp only;rw[M5,NS];exact GS o_ ST N7
   ·have OM:k=n:=o_;subst OM;have ST:=eZ s (p+1) k
    cases sg with
    | false=>
     have hv:=OU (aV s (p+1) k) s_;repeat' ((conv=>whnf);first|refine Or.inl ?_|apply oi|apply fi|intro h|exact Y2|refine e_ rfl ?_)
     all_goals(refine⟨congrArg (Tr.int _) ?_⟩;simp only[opX,opZ];first|(rw[hv];done)|omega)
    | true=>
     have WQ:∃A B:Nat,2^(8*k-1)=A/\2^(8*k)=B/\B<=4294967296/\IntKind.i64.wrap (1*2^(min (Int.toNat (IntKind.i64.wrap (IntKind.i64.wrap (8*(k:Int))-1))) IntKind.i64.bits))=(A:Int)/\
       IntKind.i64.wrap (1*2^(min (Int.toNat (IntKind.i64.wrap (8*(k:Int)))) IntKind.i64.bits))=(B:Int)/\256^k=B:=by
      exact V95
     obtain⟨A,B,hA,hB,ZN,N5,Oo,Sm⟩:=WQ;rw[Sm]at ST;have SJ:(2:Int)^(8*k)=(B:Int):=(by rw[<-hB];simp);rw[hA,SJ]at Ql;rw[hA]at OU
     have P2:0<=IntKind.i64.wrap (IntKind.i64.wrap (8*(k:Int))-1):=by rcases RM rfl with h|h<;>rw[h]<;>decide
     have Qj:0<=IntKind.i64.wrap (8*(k:Int)):=by rcases RM rfl with h|h<;>rw[h]<;>decide
     by_cases MS:A<=aV s (p+1) k
     ·have hv:=Ql _ rfl MS;have OO:IntKind.i64.wrap ((aV s (p+1) k:Int)-(B:Int))=(aV s (p+1) k:Int)-B:=c6 _ o_;repeat' ((conv=>whnf);first|refine Or.inl ?_|apply oi|apply fi|intro h|exact Y2|refine e_ rfl ?_)
      all_goals try(exfalso;rw[N5]at h;have h':=f9 h;omega)
      all_goals first
       | exact⟨P2⟩
       | exact⟨Qj⟩
       |(refine⟨congrArg (Tr.int _) ?_⟩;simp only[opX,opZ];first|(rw[Oo,OO,hv];done)|omega)
     ·have hv:=OU _ (fun h=>MS h.2);repeat' ((conv=>whnf);first|refine Or.inl ?_|apply oi|apply fi|intro h|exact Y2|refine e_ rfl ?_)
      all_goals try(exfalso;rw[N5]at h;have h':=f0 h;omega)
      all_goals first
       | exact⟨P2⟩
       | exact⟨Qj⟩
       |(refine⟨congrArg (Tr.int _) ?_⟩;simp only[opX,opZ];first|(rw[hv];done)|omega)
 ·rw[bu,b8 hin]
  have QE:af p 0 (IntKind.i64.wrap (s.length-1))=false:=by
   rw[hw]
   cases h:af p 0 ((s.length:Int)-1)with|false=>rfl|true=>exact absurd (within_iff.1 h) o_
  rw[QE]at hb;repeat' ((conv=>whnf);first|refine Or.inl ?_|apply oi|apply fi|intro h|refine ci hb (ai rfl (ai rfl (ai rfl trivial))) ?_|exact Y1|refine e_ rfl ?_)
theorem lR (s:List UInt8)(p:Int)(hs:s.length<=1048576)(hp:p<=9223372036854775807):Sim.Spec prog 140 [tvS s,tvI p] (rOp (bu s p)):=by
 refine ak hΓ aG func140 rfl d_ rfl ?_;have hw:IntKind.i64.wrap ((s.length:Int)-1)=(s.length:Int)-1:=c6 _ o_;by_cases hin:0<=p/\p<s.length
 ·obtain⟨p,rfl⟩:=j6 hin.1;obtain⟨b,Oa⟩:=ae (l:=s) (k:=p) o_;have WM:cz s p=b.toNat:=by rw[cz,Oa]
  have hz:=ki (b.toNat:Int);have ha:=fI (b.toNat:Int);have SY:=gO (b.toNat:Int);have My:=UInt8.toNat_lt b;have WV:IntKind.i64.wrap (b.toNat:Int)=b.toNat:=c6 _ o_;rw[bu,c7 hin,d7,WM];by_cases MQ:aE (b.toNat:Int)=0\/(s.length:Int)<(p:Int)+aE (b.toNat:Int)
  ·rw[c7 MQ]
   have U0:IntKind.i64.wrap (IntKind.i64.wrap ((p:Int)+1)+(aX (b.toNat:Int)).1)=(p:Int)+1+(aX (b.toNat:Int)).1:=by have:=dQ (b.toNat:Int);rw[c6 ((p:Int)+1) o_,c6 _ o_]
   have To:¬aE (b.toNat:Int)=0->aE (b.toNat:Int)=(aX (b.toNat:Int)).1+1:=fun h=>by
    unfold aE at h⊢;split at h
    ·rename_i SN;rw[c7 SN]
    ·omega
   repeat' ((conv=>whnf);first|refine Or.inl ?_|apply oi|apply fi|intro h|refine⟨p,b,rfl,Oa,?_⟩|refine ci hz (ai KW trivial) ?_|refine ci ha (ai KW trivial) ?_|exact Y1|refine e_ rfl ?_)
   all_goals try(exfalso;first|(have h':=f0 h;omega))
   all_goals(exfalso;rename_i h0;have h1:¬aE (b.toNat:Int)=0:=(by simpa using h0);rw[U0]at h;have h':=f9 h;have:=To h1;omega)
  ·rw[b8 MQ]
   have U0:IntKind.i64.wrap (IntKind.i64.wrap ((p:Int)+1)+(aX (b.toNat:Int)).1)=(p:Int)+1+(aX (b.toNat:Int)).1:=by have:=dQ (b.toNat:Int);rw[c6 ((p:Int)+1) o_,c6 _ o_]
   have To:aE (b.toNat:Int)=(aX (b.toNat:Int)).1+1:=by
    have h:¬aE (b.toNat:Int)=0:=fun h=>MQ (Or.inl h);unfold aE at h⊢;split at h
    ·rename_i SN;rw[c7 SN]
    ·omega
   repeat' ((conv=>whnf);first|refine Or.inl ?_|apply oi|apply fi|intro h|refine⟨p,b,rfl,Oa,?_⟩|refine ci hz (ai KW trivial) ?_|refine ci ha (ai KW trivial) ?_|exact Y1|refine e_ rfl ?_)
   all_goals try(exfalso;first|(have h1:aE (b.toNat:Int)=0:=aae;omega)|(rw[U0]at h;have h':=f0 h;omega)|(have h':=f0 h;omega))
   clear U0;obtain⟨n,hn,WC,RM⟩:=yd (b.toNat:Int)
   have Yw:aE (b.toNat:Int)=n+1:=by exact V94
   have Ql:=fun m=>qp (m:=m) hn;have OU:=fun m=>nN (m:=m) hn;rw[hn,d7]
   generalize(aX (b.toNat:Int)).2=sg at *
   generalize hV:jI (b.toNat:Int)=V at *
   conv=>whnf
   refine⟨{k:Nat//k<=n},fun k=>⟨[(0,tS s),(1,tI .i64 (p:Int)),(4,.r (.c (.ptr (4,0,0) 0))),(7,.r (.c (.ptr (7,0,0) 0))),(8,tI .i64 (n:Int)),(9,tB sg),(10,tI .i64 (k.1:Int))],[((7,0,0),some (.box [.t (.int .i64 b.toNat),.t (.int .i64 (aV s (p+1) k.1:Nat))])),((4,0,0),some (.box [.t (.int .i64 0),.t (.int .i64 0)]))],[7,4]⟩,fun k=>n-k.1,⟨0,o_⟩,?_,?_⟩
   ·repeat' ((conv=>whnf);first|refine Or.inl ?_|apply oi|apply fi|intro h|exact Y1|refine e_ rfl ?_)
    all_goals exact⟨by first|rfl|(rw[WV];done)|(rw[hn];done)⟩
   intro⟨k,hk⟩;dsimp only;by_cases Pd:k<n
   ·obtain⟨b2,Nd⟩:=ae (l:=s) (k:=p+1+k) o_;have Su:cz s (p+1+k)=b2.toNat:=(by rw[cz,Nd]);have N7:=UInt8.toNat_lt b2;have ST:=eZ s (p+1) k;have OK:IntKind.i64.wrap (IntKind.i64.wrap ((p:Int)+1)+k)=((p+1+k:Nat):Int):=(by rw[c6 ((p:Int)+1) o_,c6 _ o_];omega);have M5:aV s (p+1) (k+1)=aV s (p+1) k+b2.toNat*256^k:=(by rw[aV,Su]);have NS:IntKind.i64.wrap (b2.toNat:Int)=b2.toNat:=c6 _ o_;repeat' ((conv=>whnf);first|refine Or.inl ?_|apply oi|apply fi|intro h|refine⟨(p+1+k),b2,OK,Nd,?_⟩|exact Y12|refine e_ rfl ?_)
    conv=>whnf
    refine⟨⟨k+1,o_⟩,?_,KD⟩;repeat' ((conv=>whnf);first|refine Or.inl ?_|apply oi|apply fi|intro h|exact Y1|refine e_ rfl ?_)
    ·exact⟨by dsimp only;rw[c6 _ o_];rfl⟩
    ·refine⟨congrArg (Tr.int _) ?_⟩;dsimp only;rw[M5,NS];rw[ya o_ N7];have h4:=xH (show k<4 by omega);have h5:b2.toNat*256^k<=255*16777216:=A4 o_ h4;rw[c6 _ o_];simp
   ·have OM:k=n:=o_;subst OM;have ST:=eZ s (p+1) k;have TB:IntKind.i64.wrap (1+(k:Int))=1+k:=c6 _ o_
    cases sg with
    | false=>
     have hv:=OU (aV s (p+1) k) s_;repeat' ((conv=>whnf);first|refine Or.inl ?_|apply oi|apply fi|intro h|exact Y2|refine e_ rfl ?_)
     all_goals(refine⟨congrArg (Tr.int _) ?_⟩;simp only[opX,opZ];first|(rw[hv];done)|(rw[TB];omega))
    | true=>
     have WQ:∃A B:Nat,2^(8*k-1)=A/\2^(8*k)=B/\B<=4294967296/\IntKind.i64.wrap (1*2^(min (Int.toNat (IntKind.i64.wrap (IntKind.i64.wrap (8*(k:Int))-1))) IntKind.i64.bits))=(A:Int)/\
       IntKind.i64.wrap (1*2^(min (Int.toNat (IntKind.i64.wrap (8*(k:Int)))) IntKind.i64.bits))=(B:Int)/\256^k=B:=by
      exact V95
     obtain⟨A,B,hA,hB,ZN,N5,Oo,Sm⟩:=WQ;rw[Sm]at ST;have SJ:(2:Int)^(8*k)=(B:Int):=(by rw[<-hB];simp);rw[hA,SJ]at Ql;rw[hA]at OU
     have P2:0<=IntKind.i64.wrap (IntKind.i64.wrap (8*(k:Int))-1):=by rcases RM rfl with h|h<;>rw[h]<;>decide
     have Qj:0<=IntKind.i64.wrap (8*(k:Int)):=by rcases RM rfl with h|h<;>rw[h]<;>decide
     by_cases MS:A<=aV s (p+1) k
     ·have hv:=Ql _ rfl MS;have OO:IntKind.i64.wrap ((aV s (p+1) k:Int)-(B:Int))=(aV s (p+1) k:Int)-B:=c6 _ o_;repeat' ((conv=>whnf);first|refine Or.inl ?_|apply oi|apply fi|intro h|exact Y2|refine e_ rfl ?_)
      all_goals try(exfalso;rw[N5]at h;have h':=f9 h;omega)
      all_goals first
       | exact⟨P2⟩
       | exact⟨Qj⟩
       |(refine⟨congrArg (Tr.int _) ?_⟩;simp only[opX,opZ];first|(rw[Oo,OO,hv];done)|(rw[TB];omega))
     ·have hv:=OU _ (fun h=>MS h.2);repeat' ((conv=>whnf);first|refine Or.inl ?_|apply oi|apply fi|intro h|exact Y2|refine e_ rfl ?_)
      all_goals try(exfalso;rw[N5]at h;have h':=f0 h;omega)
      all_goals first
       | exact⟨P2⟩
       | exact⟨Qj⟩
       |(refine⟨congrArg (Tr.int _) ?_⟩;simp only[opX,opZ];first|(rw[hv];done)|(rw[TB];omega))
 ·rw[bu,b8 hin];repeat' ((conv=>whnf);first|refine Or.inl ?_|apply oi|apply fi|intro h|exact Y1|refine e_ rfl ?_)
  all_goals(exfalso;rename_i h0;have h1:=f9 h0;have h2:=f9 h;omega)
def mf (s:List UInt8):Nat->Nat->Option (List LQ)
 | 0,p=>if p<s.length then none else some []
 | f+1,p=>if p<s.length then(match bu s (p:Int)with
   | some x=>(mf s f (p+x.2)).map (x.1::·)
   | none=>none)else some []
def fk (s:List UInt8):Option (List LQ):=mf s s.length 0
theorem il {s:List UInt8}{p:Nat}{x:LQ}{z:Nat}(h:bu s (p:Int)=some (x,z)):1<=z/\z<=5/\p+z<=s.length:=by
 unfold bu at h;split at h
 ·rename_i hin;split at h
  ·cases h
  ·rename_i MQ;injection h with h;injection h with h1 h2;rw[not_or]at MQ;have:=gO (cz s (p:Int).toNat);omega
 ·cases h
theorem se {s:List UInt8}:∀{f p:Nat},s.length-p<=f->mf s f p=mf s (s.length-p) p
 | 0,p,h=>by rw[show s.length-p=0 by omega]
 | f+1,p,h=>by
  rcases m7 p s.length with My|MS
  ·obtain⟨m,hm⟩:∃m,s.length-p=m+1:=⟨s.length-p-1,o_⟩;rw[hm,mf,mf,c7 My,c7 My]
   match hd:bu s (p:Int)with
   | none=>rfl
   | some (x,z)=>have:=il hd;dsimp only;rw[se (f:=f) (p:=p+z) o_,se (f:=m) (p:=p+z) o_]
  ·rw[mf,b8 o_,show s.length-p=0 by omega,mf,b8 o_]
theorem sj {s:List UInt8}{p:Nat}(My:p<s.length):mf s (s.length-p) p=(match bu s (p:Int)with
  | some x=>(mf s (s.length-(p+x.2)) (p+x.2)).map (x.1::·)
  | none=>none):=by
 obtain⟨m,hm⟩:∃m,s.length-p=m+1:=⟨s.length-p-1,o_⟩;rw[hm,mf,c7 My]
 match hd:bu s (p:Int)with
 | none=>rfl
 | some (x,z)=>have:=il hd;dsimp only;rw[se (f:=m) (p:=p+z) o_]
theorem we {s:List UInt8}{p:Nat}(MS:s.length<=p):mf s (s.length-p) p=some []:=by rw[show s.length-p=0 by omega,mf,b8 o_]
abbrev Kc (s:List UInt8)(R:Option (List LQ)):={q:Nat×List LQ//q.1<=s.length/\q.2.length<=q.1/\(mf s (s.length-q.1) q.1).map (q.2++·)=R}
theorem V8{p:Prop}(h:p:=by
 rw[sj My]at hr
 match hd:bu s (p:Int)with
 | none=>
  rw[hd]at hr hD;dsimp only[rOp,opX,opZ,Option.isSome]at hr hD;subst hr
  repeat' ((conv=>whnf);first|refine Or.inl ?_|apply oi|apply fi|intro h|refine ci hD (ai rfl (ai rfl trivial)) ?_|exact Y2|refine e_ rfl ?_)
 | some (x,z)=>
  rw[hd]at hr hD;have hz:=il hd;dsimp only[rOp,opX,opZ,Option.isSome]at hr hD;repeat' ((conv=>whnf);first|refine Or.inl ?_|apply oi|apply fi|intro h|refine ci hD (ai rfl (ai rfl trivial)) ?_|exact Y2|refine e_ rfl ?_)
  all_goals try exact⟨⟨by simp only[e7,d5,i8];omega,by simp only[e7,d5,i8];omega⟩⟩
  conv=>whnf
  refine⟨⟨(p+z,acc++[x]),g_,by simp;omega,?_⟩,?_,KD⟩
  ·dsimp only;rw[<-hr,Option.map_map];congr 1;funext l;simp
  repeat' ((conv=>whnf);first|refine Or.inl ?_|apply oi|apply fi|intro h|exact Y1|refine e_ rfl ?_)
  all_goals first
   |(refine⟨congrArg (Tr.int _) ?_⟩;dsimp only;rw[c6 _ o_];omega)
   |(refine⟨?_⟩;dsimp only;rw[u4];rfl)):p:=h
theorem V105{p:Prop}(h:p:=by
 have MS:s.length<=p:=o_;rw[we MS]at hr;simp only[x7,m6]at hr;subst hr
 exact Z4):p:=h
theorem pw (s:List UInt8)(hs:s.length<=1048576):Sim.Spec prog 224 [tvS s] (.tup [.c (.arr 2 ((oL (fk s)).map LQ.tr)),.c (.t (.bool (fk s).isSome))]):=by
 refine ak hΓ aG func224 rfl d_ rfl ?_;have Rw:(mf s (s.length-0) 0).map (([]:List LQ)++·)=fk s:=by simp[fk]
 generalize fk s=R at Rw⊢;repeat' ((conv=>whnf);first|refine Or.inl ?_|apply oi|apply fi|intro h|exact Y1|refine e_ rfl ?_)
 conv=>whnf
 refine⟨Kc s R,fun q=>⟨[(0,tS s),(4,.r (.c (.own (9,0,0)))),(5,tI .i64 (q.1.1:Int))],[((9,0,0),some (.arr true 2 (q.1.2.map LQ.tr)))],[9]⟩,fun q=>s.length-q.1.1,⟨(0,[]),s_,s_,Rw⟩,?_,?_⟩
 ·exact Z1
 intro⟨⟨p,acc⟩,hp,M4,hr⟩;dsimp only at hp M4 hr⊢;by_cases My:p<s.length
 ·have hD:=tL s (p:Int) hs o_;exact V8
 ·exact V105
theorem oA (s:List UInt8)(hs:s.length<=1048576):Sim.Spec prog 199 [tvS s] (.tup [.c (.arr 2 ((oL (fk s)).map LQ.tr)),.c (.t (.bool (fk s).isSome))]):=by
 refine ak hΓ aG func199 rfl d_ rfl ?_;have Rw:(mf s (s.length-0) 0).map (([]:List LQ)++·)=fk s:=by simp[fk]
 generalize fk s=R at Rw⊢;repeat' ((conv=>whnf);first|refine Or.inl ?_|apply oi|apply fi|intro h|exact Y1|refine e_ rfl ?_)
 conv=>whnf
 refine⟨Kc s R,fun q=>⟨[(0,tS s),(4,.r (.c (.own (9,0,0)))),(5,tI .i64 (q.1.1:Int))],[((9,0,0),some (.arr true 2 (q.1.2.map LQ.tr)))],[9]⟩,fun q=>s.length-q.1.1,⟨(0,[]),s_,s_,Rw⟩,?_,?_⟩
 ·exact Z1
 intro⟨⟨p,acc⟩,hp,M4,hr⟩;dsimp only at hp M4 hr⊢;by_cases My:p<s.length
 ·have hD:=lR s (p:Int) hs o_;exact V8
 ·exact V105
def fC (seen:List LX)(nm:List UInt8):Bool:=seen.any fun y=>y.J8==nm
def uF (len a:Nat)(x:LX):Bool:=x.L4==(a:Int)&&(decide (1<=x.Mj)&&(decide (x.Mj<=(len:Int)-a)&&da x.J8))
def wI (code:List UInt8)(seen:List LX)(a:Nat)(x:LX):Bool:=uF code.length a x&&(!(fC seen x.J8)&&(fk ((code.take (a+x.Mj.toNat)).drop a)).isSome)
def eU (code:List UInt8):List LX->Nat->List LX->Bool
 | _,a,[]=>a==code.length
 | seen,a,x::l=>wI code seen a x&&eU code (seen++[x]) (a+x.Mj.toNat) l
def bp (i:LK):Bool:=decide (i.I9.length<=1000000)&&eU i.I9 [] 0 i.L8
theorem GN {code:List UInt8}{l:List LX}{k a:Nat}{x:LX}(hx:l[k]?=some x):eU code (l.take k) a (l.drop k)=(wI code (l.take k) a x&&eU code (l.take (k+1)) (a+x.Mj.toNat) (l.drop (k+1))):=by rw[cF hx,eU];obtain⟨hk,rfl⟩:=x9.1 hx;rw[z6 hk]
theorem xF {l:List LX}{j:Nat}{y:LX}{nm:List UInt8}(hy:l[j]?=some y):fC (l.take (j+1)) nm=(fC (l.take j) nm||y.J8==nm):=by obtain⟨hk,rfl⟩:=x9.1 hy;rw[z6 hk,fC,List.any_append];simp[fC]
theorem BG {l:List LX}{j k:Nat}{y:LX}(hy:l[j]?=some y)(h:j<k):fC (l.take k) y.J8=true:=by rw[fC,y7];refine⟨y,?_,s_⟩;rw[v6];exact⟨j,by rw[n3,c7 h];exact hy⟩
theorem imgPre_iff {len a:Nat}{x:LX}:uF len a x=true↔x.L4=(a:Int)/\1<=x.Mj/\x.Mj<=(len:Int)-a/\da x.J8=true:=by unfold uF;rw[b9,b9,b9,w8,j5,j5]
abbrev JX (code:List UInt8)(l:List LX):={q:Nat×Nat//q.1<=l.length/\q.2<=code.length/\eU code (l.take q.1) q.2 (l.drop q.1)=eU code [] 0 l}
theorem V17{p:Prop}(h:p:=by
 rw[PJ]at hr hD;repeat' ((conv=>whnf);first|refine Or.inl ?_|apply oi|apply fi|intro h|refine ci hD (ai rfl trivial) ?_|exact Y1|refine e_ rfl ?_)
 all_goals try exact Q4
 conv=>whnf
 refine⟨⟨(j+1,a+z),g_,g_,by simpa using hr⟩,?_,KD⟩;repeat' ((conv=>whnf);first|refine Or.inl ?_|apply oi|apply fi|intro h|exact Y1|refine e_ rfl ?_)
 all_goals first
  | exact⟨by dsimp only;rw[NS]⟩
  | exact⟨by dsimp only;rw[c6 _ o_];rfl⟩):p:=h
theorem Q10{p:Prop}(h:p:=by exfalso;first|(have h':=f9 h;rw[Mv]at h';omega)|(simp at h;done)|(rw[p1]at h;simp at h;done)|(have h':=f0 h;(try rw[Nk]at h');omega)):p:=h
theorem Q21{p:Prop}(h:p:=by exfalso;have h':=f9 h;rw[Mv]at h';omega;first|done|fail):p:=h
theorem uD (i:LK)(hs:aF 1048576 i.tr):Sim.Spec prog 165 [.agg i.tr] (rB (bp i)):=by
 refine ak hΓ aG func165 rfl d_ rfl ?_;obtain⟨code,l⟩:=i;simp only[LK.tr,aF]at hs;have MT:code.length<=1048576:=by have:=hs.1;rw[aw]at this;omega
 have hl:=bE hs.2.1;have Mv:(l.map LX.tr).length=l.length:=s_;unfold bp;dsimp only;by_cases TI:code.length<=1000000
 ·rw[show decide (code.length<=1000000)=true from q9 TI,m9];repeat' ((conv=>whnf);first|refine Or.inl ?_|apply oi|apply fi|intro h|exact Y1|refine e_ rfl ?_)
  all_goals try(exfalso;have h':=f0 h;dsimp only at h';omega;done)
  conv=>whnf
  refine⟨JX code l,fun q=>⟨[(1,.r (.c (.ptr (1,0,0) 0))),(3,tI .i64 (q.1.2:Int)),(15,.r (.c (.t (.lst 3 (l.map LX.tr))))),(16,tI .i64 ((l.map LX.tr).length:Int)),(17,tI .i64 (q.1.1:Int))],[((1,0,0),some (.box [.t (.str code),.t (.lst 3 (l.map LX.tr))]))],[1]⟩,fun q=>l.length-q.1.1,⟨(0,0),s_,s_,s_⟩,?_,?_⟩
  ·exact Z1
  intro⟨⟨k,a⟩,hk,ha,hr⟩;dsimp only at hk ha hr⊢;by_cases My:k<l.length
  ·obtain⟨x,hx⟩:=ae My
   have Qr:x.J8.length<=1099511627775:=by have:=bf hs.2.1 (c9 hx);simp only[LX.tr,aF,aw]at this;omega
   have hN:=wR x.J8 Qr;rw[GN hx,wI]at hr;have Nk:IntKind.i64.wrap ((code.length:Int)-a)=(code.length:Int)-a:=c6 _ o_
   cases NQ:uF code.length a x with
   | false=>
    rw[NQ,s9,s9]at hr;repeat' ((conv=>whnf);first|refine Or.inl ?_|apply oi|apply fi|intro h|refine⟨k,x.tr,rfl,ab hx,?_⟩|refine ci hN (ai rfl trivial) ?_|exact Y1|refine e_ rfl ?_)
    all_goals try exact Q21
    all_goals try exact⟨by rw[<-hr]⟩
    all_goals(exfalso;rw[<-Bool.not_eq_true,imgPre_iff]at NQ;apply NQ;rw[Nk]at *;(simp_all)<;>omega)
   | true=>
    obtain⟨p1,p2,p3,p4⟩:=imgPre_iff.1 NQ;rw[p4]at hN;rw[NQ,m9]at hr;repeat' ((conv=>whnf);first|refine Or.inl ?_|apply oi|apply fi|intro h|refine⟨k,x.tr,rfl,ab hx,?_⟩|refine ci hN (ai rfl trivial) ?_|exact Y1|refine e_ rfl ?_)
    all_goals try exact Q10
    conv=>whnf
    refine⟨0,k,rfl,rfl,o_,by rw[Mv];omega,?_⟩;repeat' ((conv=>whnf);first|refine Or.inl ?_|apply oi|apply fi|intro h|exact Y1|refine e_ rfl ?_)
    conv=>whnf
    have Nm:(((l.map LX.tr).take k).drop 0).length=k:=(by simp;omega);refine⟨{j:Nat//j<=k/\fC (l.take j) x.J8=false},fun j=>⟨[(1,.r (.c (.ptr (1,0,0) 0))),(3,tI .i64 (a:Int)),(5,.r (.c (.ptr (5,0,0) 0))),(15,.r (.c (.t (.lst 3 (l.map LX.tr))))),(16,tI .i64 ((l.map LX.tr).length:Int)),(17,tI .i64 (k:Int)),(50,.r (.c (.t (.lst 3 (((l.map LX.tr).take k).drop 0))))),(51,tI .i64 ((((l.map LX.tr).take k).drop 0).length:Int)),(52,tI .i64 (j.1:Int))],[((1,0,0),some (.box [.t (.str code),.t (.lst 3 (l.map LX.tr))])),((5,0,0),some (.box [.t (.str x.J8),.t (.int .i64 x.L4),.t (.int .i64 x.Mj)]))],[5,1]⟩,fun j=>k-j.1,⟨0,o_,rfl⟩,?_,?_⟩
    ·exact Z1
    intro⟨j,hj,RN⟩;dsimp only;by_cases N9:j<k
    ·obtain⟨y,hy⟩:=ae (l:=l) (k:=j) o_;have UI:(((l.map LX.tr).take k).drop 0)[j]?=some y.tr:=(by rw[B8,n3,c7 N9];exact ab hy);have M5:=xF (nm:=x.J8) hy;rw[RN,C7]at M5
     cases Rd:(y.J8==x.J8)with
     | true=>
      have Ru:=BG hy N9;rw[w8.1 Rd]at Ru;rw[Ru]at hr;repeat' ((conv=>whnf);first|refine Or.inl ?_|apply oi|apply fi|intro h|refine⟨j,y.tr,rfl,UI,?_⟩|exact Y1|refine e_ rfl ?_)
      all_goals first
       |(exfalso;have h':=f9 h;rw[Nm]at h';omega)
       | exact⟨by rw[<-hr];rfl⟩
       |(exfalso;rw[Rd]at h;simp at h;done)
     | false=>
      rw[Rd]at M5;repeat' ((conv=>whnf);first|refine Or.inl ?_|apply oi|apply fi|intro h|refine⟨j,y.tr,rfl,UI,?_⟩|exact Y1|refine e_ rfl ?_)
      all_goals try(exfalso;first|(have h':=f9 h;rw[Nm]at h';omega)|(rw[Rd]at h;simp at h;done))
      conv=>whnf
      refine⟨⟨j+1,o_,M5⟩,?_,KD⟩;repeat' ((conv=>whnf);first|refine Or.inl ?_|apply oi|apply fi|intro h|exact Y1|refine e_ rfl ?_)
      all_goals exact Q3
    ·have Sp:j=k:=o_;subst Sp;obtain⟨z,hz⟩:=j6 (show 0<=x.Mj by omega);have NS:IntKind.i64.wrap ((a:Int)+x.Mj)=((a+z:Nat):Int):=(by rw[c6 _ o_,hz];rfl);rw[RN,hz,d7]at hr;have hD:=pw ((code.take (a+z)).drop a) aab;repeat' ((conv=>whnf);first|refine Or.inl ?_|apply oi|apply fi|intro h|exact Y1|refine e_ rfl ?_)
     all_goals try(exfalso;have h':=f0 h;rw[Nm]at h';omega)
     conv=>whnf
     refine⟨a,a+z,p1,NS,o_,o_,?_⟩
     cases PJ:(fk ((code.take (a+z)).drop a)).isSome with
     | false=>
      rw[PJ]at hr hD;repeat' ((conv=>whnf);first|refine Or.inl ?_|apply oi|apply fi|intro h|refine ci hD (ai rfl trivial) ?_|exact Y1|refine e_ rfl ?_)
      all_goals first
       | exact⟨by rw[<-hr];rfl⟩
       |(exfalso;simp at h;done)
     | true=>exact V17
  ·have MS:l.length<=k:=o_;rw[n9 MS,eU]at hr;repeat' ((conv=>whnf);first|refine Or.inl ?_|apply oi|apply fi|intro h|exact Y2|refine e_ rfl ?_)
   exact⟨by rw[<-hr];congr 1;rw[A0,w8,w8];omega⟩
 ·rw[show decide (code.length<=1000000)=false from D5 TI,s9];repeat' ((conv=>whnf);first|refine Or.inl ?_|apply oi|apply fi|intro h|exact Y1|refine e_ rfl ?_)
  all_goals(exfalso;have h':=f9 h;dsimp only at h';omega)
theorem wK (i:LK)(hs:aF 1048576 i.tr):Sim.Spec prog 134 [.agg i.tr] (rB (bp i)):=by
 refine ak hΓ aG func134 rfl d_ rfl ?_;obtain⟨code,l⟩:=i;simp only[LK.tr,aF]at hs;have MT:code.length<=1048576:=by have:=hs.1;rw[aw]at this;omega
 have hl:=bE hs.2.1;have Mv:(l.map LX.tr).length=l.length:=s_;unfold bp;dsimp only;repeat' ((conv=>whnf);first|refine Or.inl ?_|apply oi|apply fi|intro h|exact Y1|refine e_ rfl ?_)
 conv=>whnf
 refine⟨JX code l,fun q=>⟨[(1,.r (.c (.ptr (1,0,0) 0))),(3,tI .i64 (q.1.2:Int)),(4,tI .i64 (q.1.1:Int))],[((1,0,0),some (.box [.t (.str code),.t (.lst 3 (l.map LX.tr))]))],[1]⟩,fun q=>l.length-q.1.1,⟨(0,0),s_,s_,s_⟩,?_,?_⟩
 ·exact Z1
 intro⟨⟨k,a⟩,hk,ha,hr⟩;dsimp only at hk ha hr⊢;by_cases My:k<l.length
 ·obtain⟨x,hx⟩:=ae My
  have Qr:x.J8.length<=1099511627775:=by have:=bf hs.2.1 (c9 hx);simp only[LX.tr,aF,aw]at this;omega
  have hN:=fE x.J8 Qr;rw[GN hx,wI]at hr;have Nk:IntKind.i64.wrap ((code.length:Int)-a)=(code.length:Int)-a:=c6 _ o_
  cases NQ:uF code.length a x with
  | false=>
   rw[NQ,s9,s9]at hr;repeat' ((conv=>whnf);first|refine Or.inl ?_|apply oi|apply fi|intro h|refine⟨k,x.tr,rfl,ab hx,?_⟩|refine ci hN (ai rfl trivial) ?_|exact Y1|refine e_ rfl ?_)
   all_goals try exact Q21
   all_goals try exact KX
   all_goals try exact⟨by rw[<-hr,C9]⟩
   all_goals(exfalso;rw[<-Bool.not_eq_true,imgPre_iff]at NQ;apply NQ;rw[Nk]at *;(simp_all)<;>omega)
  | true=>
   obtain⟨p1,p2,p3,p4⟩:=imgPre_iff.1 NQ;rw[p4]at hN;rw[NQ,m9]at hr;repeat' ((conv=>whnf);first|refine Or.inl ?_|apply oi|apply fi|intro h|refine⟨k,x.tr,rfl,ab hx,?_⟩|refine ci hN (ai rfl trivial) ?_|exact Y2|refine e_ rfl ?_)
   all_goals try exact Q10
   conv=>whnf
   have Nm:(((l.map LX.tr).take k).drop 0).length=k:=(by simp;omega);refine⟨{j:Nat//j<=k/\fC (l.take j) x.J8=false},fun j=>⟨[(1,.r (.c (.ptr (1,0,0) 0))),(3,tI .i64 (a:Int)),(5,.r (.c (.ptr (5,0,0) 0))),(4,tI .i64 (k:Int)),(6,tI .i64 (j.1:Int))],[((1,0,0),some (.box [.t (.str code),.t (.lst 3 (l.map LX.tr))])),((5,0,0),some (.box [.t (.str x.J8),.t (.int .i64 x.L4),.t (.int .i64 x.Mj)]))],[5,1]⟩,fun j=>k-j.1,⟨0,o_,rfl⟩,?_,?_⟩
   ·exact Z1
   intro⟨j,hj,RN⟩;dsimp only;by_cases N9:j<k
   ·obtain⟨y,hy⟩:=ae (l:=l) (k:=j) o_;have UI:(((l.map LX.tr).take k).drop 0)[j]?=some y.tr:=(by rw[B8,n3,c7 N9];exact ab hy);have M5:=xF (nm:=x.J8) hy;rw[RN,C7]at M5
    cases Rd:(y.J8==x.J8)with
    | true=>
     have Ru:=BG hy N9;rw[w8.1 Rd]at Ru;rw[Ru]at hr;repeat' ((conv=>whnf);first|refine Or.inl ?_|apply oi|apply fi|intro h|refine⟨j,y.tr,rfl,ab hy,?_⟩|exact Y1|refine e_ rfl ?_)
     all_goals first
      |(exfalso;have h':=f9 h;omega)
      | exact⟨by rw[<-hr];simp⟩
      |(exfalso;rw[Rd]at h;simp at h;done)
    | false=>
     rw[Rd]at M5;repeat' ((conv=>whnf);first|refine Or.inl ?_|apply oi|apply fi|intro h|refine⟨j,y.tr,rfl,ab hy,?_⟩|exact Y1|refine e_ rfl ?_)
     all_goals try(exfalso;first|(have h':=f9 h;omega)|(rw[Rd]at h;simp at h;done))
     conv=>whnf
     refine⟨⟨j+1,o_,M5⟩,?_,KD⟩;repeat' ((conv=>whnf);first|refine Or.inl ?_|apply oi|apply fi|intro h|exact Y1|refine e_ rfl ?_)
     all_goals exact Q3
   ·have Sp:j=k:=o_;subst Sp;obtain⟨z,hz⟩:=j6 (show 0<=x.Mj by omega);have NS:IntKind.i64.wrap ((a:Int)+x.Mj)=((a+z:Nat):Int):=(by rw[c6 _ o_,hz];rfl);rw[RN,hz,d7]at hr;have hD:=oA ((code.take (a+z)).drop a) aab;repeat' ((conv=>whnf);first|refine Or.inl ?_|apply oi|apply fi|intro h|exact Y1|refine e_ rfl ?_)
    all_goals try(exfalso;have h':=f0 h;omega)
    conv=>whnf
    refine⟨a,a+z,rfl,NS,o_,o_,?_⟩
    cases PJ:(fk ((code.take (a+z)).drop a)).isSome with
    | false=>
     rw[PJ]at hr hD;repeat' ((conv=>whnf);first|refine Or.inl ?_|apply oi|apply fi|intro h|refine ci hD (ai rfl trivial) ?_|exact Y1|refine e_ rfl ?_)
     all_goals first
      | exact⟨by rw[<-hr];simp⟩
      |(exfalso;simp at h;done)
    | true=>exact V17
 ·have MS:l.length<=k:=o_;rw[n9 MS,eU]at hr;repeat' ((conv=>whnf);first|refine Or.inl ?_|apply oi|apply fi|intro h|exact Y2|refine e_ rfl ?_)
  ·have h9:a=code.length:=(by have:=B7 h;omega);refine⟨congrArg Tr.bool ?_⟩;rw[<-hr,h9,beq_self_eq_true,Bool.and_true];exact decide_eq_decide.2 o_
  ·have h9:(a==code.length)=false:=(by rw[B4]at h⊢;omega);refine⟨congrArg Tr.bool ?_⟩;rw[<-hr,h9,C9]
theorem dX {code:List UInt8}:∀{l:List LX} {seen:List LX} {a:Nat},eU code seen a l=true->a<=code.length->∀x∈l,(a:Int)<=x.L4/\1<=x.Mj/\x.L4+x.Mj<=code.length
 | [],_,_,_,_,x,hx=>by cases hx
 | y::l,seen,a,h,ha,x,hx=>by
  rw[eU,b9,wI,b9,imgPre_iff]at h;obtain⟨⟨⟨p1,p2,p3,_⟩,_⟩,h2⟩:=h;rcases d6.1 hx with rfl|hx
  ·omega
  ·have:=dX h2 o_ x hx;omega
theorem V86{p:Prop}(h:p:=by
 unfold gh;rw[b9,b9,b9,within_iff,within_iff,j5,j5]
 omega):p:=h
theorem uG {code:List UInt8}:∀{l:List LX} {seen:List LX} {a j k:Nat} {x:LX},eU code seen a l=true->a<=code.length->code.length<=1000000->l[k]?=some x->eQ x.L4 l j=((j+k:Nat):Int)
 | [],_,_,_,_,_,_,_,_,hx=>by simp at hx
 | y::l,seen,a,j,k,x,h,ha,hc,hx=>by
  have Oc:=dX h ha;rw[eU,b9,wI,b9,imgPre_iff]at h;obtain⟨⟨⟨p1,p2,p3,_⟩,_⟩,h2⟩:=h;rw[eQ]
  match k,hx with
  | 0,hx=>
   rw[e8]at hx;injection hx with hx;subst hx
   have hh:gh y.L4 y=true:=by exact V86
   rw[c7 hh]
   rfl
  | k+1,hx=>
   rw[j8]at hx;have h3:=dX h2 o_ x (c9 hx)
   have hh:¬gh x.L4 y=true:=by exact V86
   rw[b8 hh,uG h2 o_ hc hx];congr 1;omega
def bx (i:LK)(b e:Int):Bool:=i.L8.any fun x=>b+x.L4==e
def dF (i0 i1:LK)(b0 b1 e:Int):Int×Int:=
 if b0<=e/\e<b0+i0.I9.length then(0,e-b0)else if b1<=e/\e<b1+i1.I9.length then(1,e-b1)else(-1,-1)
def nD (i:LK)(off:Int):Bool:=decide (0<=eO i.L8 off)&&(match i.L8[(eO i.L8 off).toNat]? with|some x=>x.L4==off|none=>false)
theorem imageOk_iff {i:LK}:bp i=true↔i.I9.length<=1000000/\eU i.I9 [] 0 i.L8=true:=by rw[bp,b9,j5]
theorem tv {i:LK}(h:bp i=true){off:Int}:nD i off=true↔∃x∈i.L8,x.L4=off:=by
 obtain⟨hc,ho⟩:=imageOk_iff.1 h;unfold nD;constructor
 ·intro h1;rw[b9]at h1;split at h1
  ·rename_i x hx;exact⟨x,c9 hx,by simpa using h1.2⟩
  ·cases h1.2
 ·rintro⟨x,hx,rfl⟩;obtain⟨k,hk⟩:=v6.1 hx;have:=uG (j:=0) ho o_ hc hk;rw[u5]at this;rw[eO,this,d7,hk];simp
def Do (i0 i1:LK)(b0 b1 e:Int):Bool:=
 if(dF i0 i1 b0 b1 e).1=0 then nD i0 (dF i0 i1 b0 b1 e).2 else if(dF i0 i1 b0 b1 e).1=1 then nD i1 (dF i0 i1 b0 b1 e).2 else false
def cT (i0 i1:LK)(b0 b1:Int):Bool:=decide (0<i0.I9.length)&&(decide (0<i1.I9.length)&&(decide (b0<b1+i1.I9.length)&&decide (b1<b0+i0.I9.length)))
theorem V106{p:Prop}(h:p:=by
 intro⟨a,b,c,d⟩;rw[cT,q9 a,q9 b,q9 c,q9 d]at ho
 cases ho):p:=h
theorem Dj {i0 i1:LK}{b0 b1 e:Int}(h0:bp i0=true)(h1:bp i1=true)(ho:cT i0 i1 b0 b1=false):Do i0 i1 b0 b1 e=(bx i0 b0 e||bx i1 b1 e):=by
 have MQ:¬(0<i0.I9.length/\0<i1.I9.length/\b0<b1+i1.I9.length/\b1<b0+i0.I9.length):=by exact V106
 have m0:=dX (imageOk_iff.1 h0).2 o_;have m1:=dX (imageOk_iff.1 h1).2 o_
 have e0:∀{i:LK} {b:Int},bx i b e=true↔∃x∈i.L8,b+x.L4=e:=by intro i b;rw[bx,y7];simp only[w8]
 rw[A0,w5,e0,e0,Do,dF];by_cases c0:b0<=e/\e<b0+i0.I9.length
 ·rw[c7 c0,c7 rfl,tv h0];constructor
  ·rintro⟨x,hx,h⟩;exact .inl ⟨x,hx,by dsimp only at h;omega⟩
  ·rintro(⟨x,hx,h⟩|⟨x,hx,h⟩)
   ·exact⟨x,hx,g_⟩
   ·have:=m1 x hx;exfalso;apply MQ;omega
 ·rw[b8 c0];by_cases c1:b1<=e/\e<b1+i1.I9.length
  ·rw[c7 c1,b8 s_,c7 rfl,tv h1];constructor
   ·rintro⟨x,hx,h⟩;exact .inr ⟨x,hx,by dsimp only at h;omega⟩
   ·rintro(⟨x,hx,h⟩|⟨x,hx,h⟩)
    ·have:=m0 x hx;exfalso;apply c0;omega
    ·exact⟨x,hx,g_⟩
  ·rw[b8 c1,b8 d_,b8 d_];constructor
   ·intro h;cases h
   ·rintro(⟨x,hx,h⟩|⟨x,hx,h⟩)
    ·have:=m0 x hx;exfalso;apply c0;omega
    ·have:=m1 x hx;exfalso;apply c1;omega
def ew (i0 i1:LK)(b0 b1:Int)(es:List Int):Bool:=
 af es.length 1 6&&(bp i0&&(af b0 1 1000000&&(bp i1&&(af b1 1 1000000&&(!(cT i0 i1 b0 b1)&&es.all fun e=>bx i0 b0 e||bx i1 b1 e)))))
def ce (s:LW):Bool:=match s.Mo,s.Mq with
 | [i0,i1],[b0,b1]=>ew i0 i1 b0 b1 s.L9
 | _,_=>false
abbrev sW (i0 i1:LK)(b0 b1:Int)(es:List Int):List AC:=[.t (.lst 2 [i0.tr,i1.tr]),.t (.lst 1 [aa b0,aa b1]),.t (.lst 1 (es.map aa))]
theorem Q19{p:Prop}(h:p:=by exfalso;have h':=f9 h;omega):p:=h
theorem vQ (i0 i1:LK)(b0 b1 e:Int)(es:List Int)(h0:∀x∈i0.L8,0<=x.L4/\x.L4<=1000000)(h1:∀x∈i1.L8,0<=x.L4/\x.L4<=1000000)(OY:0<=b0/\b0<=1000000)(Nj:0<=b1/\b1<=1000000)(Um:i0.L8.length<=1048576)(PN:i1.L8.length<=1048576):Sim.Spec prog 166 [.agg (LW.mk [i0,i1] [b0,b1] es).tr,tvI e] (rB (bx i0 b0 e||bx i1 b1 e)):=by
 refine ak hΓ aG func166 rfl d_ rfl ?_;repeat' ((conv=>whnf);first|refine Or.inl ?_|apply oi|apply fi|intro h|exact Y1|refine e_ rfl ?_)
 conv=>whnf
 refine⟨{k:Nat//k<=2/\(1<=k->bx i0 b0 e=false)/\(2<=k->bx i1 b1 e=false)},fun k=>⟨[(1,tI .i64 e),(2,.r (.c (.ptr (2,0,0) 0))),(10,.r (.c (.t (.lst 2 [i0.tr,i1.tr])))),(11,tI .i64 2),(12,tI .i64 (k.1:Int))],[((2,0,0),some (.box (sW i0 i1 b0 b1 es)))],[2]⟩,fun k=>2-k.1,⟨0,o_,o_,o_⟩,?_,?_⟩
 ·exact Z1
 intro⟨k,hk,hk1,MN⟩;dsimp only;by_cases My:k<2
 ·obtain⟨i,b,hi,hb,M5,Oa,Oj,OG,MQ⟩:∃(i:LK) (b:Int),([i0.tr,i1.tr]:List (List Tr))[k]?=some i.tr/\([aa b0,aa b1]:List (List Tr))[k]?=some (aa b)/\(∀x∈i.L8,0<=x.L4/\x.L4<=1000000)/\(0<=b/\b<=1000000)/\i.L8.length<=1048576/\
    (bx i b e=true->(bx i0 b0 e||bx i1 b1 e)=true)/\(bx i b e=false->(1<=k+1->bx i0 b0 e=false)/\(2<=k+1->bx i1 b1 e=false)):=by
   have:k=0\/k=1:=o_;rcases this with rfl|rfl
   ·exact⟨i0,b0,rfl,rfl,h0,OY,Um,fun h=>by rw[h];rfl,fun h=>⟨fun _=>h,fun h2=>o_⟩⟩
   ·exact⟨i1,b1,rfl,rfl,h1,Nj,PN,fun h=>by rw[h];simp,fun h=>⟨fun _=>hk1 o_,fun _=>h⟩⟩
  have Mv:(i.L8.map LX.tr).length=i.L8.length:=s_;repeat' ((conv=>whnf);first|refine Or.inl ?_|apply oi|apply fi|intro h|refine⟨k,i.tr,rfl,hi,?_⟩|exact Y1|refine e_ rfl ?_)
  all_goals try exact Q19
  conv=>whnf
  refine⟨{j:Nat//j<=i.L8.length/\((i.L8.take j).any fun x=>b+x.L4==e)=false},fun j=>⟨[(1,tI .i64 e),(2,.r (.c (.ptr (2,0,0) 0))),(5,tI .i64 (k:Int)),(10,.r (.c (.t (.lst 2 [i0.tr,i1.tr])))),(11,tI .i64 2),(12,tI .i64 (k:Int)),(18,.r (.c (.t (.lst 3 (i.L8.map LX.tr))))),(19,tI .i64 ((i.L8.map LX.tr).length:Int)),(20,tI .i64 (j.1:Int))],[((2,0,0),some (.box (sW i0 i1 b0 b1 es)))],[2]⟩,fun j=>i.L8.length-j.1,⟨0,o_,rfl⟩,?_,?_⟩
  ·exact Z1
  intro⟨j,hj,hr⟩;dsimp only;by_cases NM:j<i.L8.length
  ·obtain⟨x,hx⟩:=ae NM;have Vq:=c9 hx;have hxs:=M5 x Vq;have Nk:IntKind.i64.wrap (b+x.L4)=b+x.L4:=c6 _ o_
   have Ng:((i.L8.take (j+1)).any fun x=>b+x.L4==e)=(b+x.L4==e):=by obtain⟨Ph,rfl⟩:=x9.1 hx;rw[z6 Ph,List.any_append,hr,C7];simp
   cases Pe:(b+x.L4==e)with
   | true=>
    have Oc:=OG (by rw[bx,y7];exact⟨x,Vq,Pe⟩);repeat' ((conv=>whnf);first|refine Or.inl ?_|apply oi|apply fi|intro h|refine⟨j,x.tr,rfl,ab hx,?_⟩|refine⟨k,aa b,rfl,hb,?_⟩|exact Y1|refine e_ rfl ?_)
    all_goals first
     |(exfalso;have h':=f9 h;rw[Mv]at h';omega)
     | exact⟨by rw[Oc]⟩
     |(exfalso;rw[Nk,Pe]at h;simp at h;done)
   | false=>
    rw[Pe]at Ng;repeat' ((conv=>whnf);first|refine Or.inl ?_|apply oi|apply fi|intro h|refine⟨j,x.tr,rfl,ab hx,?_⟩|refine⟨k,aa b,rfl,hb,?_⟩|exact Y1|refine e_ rfl ?_)
    all_goals try(exfalso;first|(have h':=f9 h;rw[Mv]at h';omega)|(rw[Nk,Pe]at h;simp at h;done))
    conv=>whnf
    refine⟨⟨j+1,o_,Ng⟩,?_,KD⟩;repeat' ((conv=>whnf);first|refine Or.inl ?_|apply oi|apply fi|intro h|exact Y1|refine e_ rfl ?_)
    all_goals exact Q3
  ·have X7:i.L8.length<=j:=o_;rw[gt X7]at hr;have WK:=MQ hr;repeat' ((conv=>whnf);first|refine Or.inl ?_|apply oi|apply fi|intro h|exact Y1|refine e_ rfl ?_)
   all_goals try(exfalso;have h':=f0 h;rw[Mv]at h';omega)
   conv=>whnf
   refine⟨⟨k+1,o_,WK⟩,?_,KD⟩;repeat' ((conv=>whnf);first|refine Or.inl ?_|apply oi|apply fi|intro h|exact Y1|refine e_ rfl ?_)
   all_goals exact Q3
 ·have O6:k=2:=o_;subst O6;repeat' ((conv=>whnf);first|refine Or.inl ?_|apply oi|apply fi|intro h|exact Y1|refine e_ rfl ?_)
  all_goals exact⟨by rw[hk1 o_,MN o_];rfl⟩
theorem V52{p:Prop}(h:p:=by
 rw[hw]at hE;repeat' ((conv=>whnf);first|refine Or.inl ?_|apply oi|apply fi|intro h|refine ci hE (ai KW (ai rfl (ai rfl trivial))) ?_|exact Y1|refine e_ rfl ?_)
 all_goals(exfalso;simp at h;done)):p:=h
theorem V31{p:Prop}(h:p:=by
 have:k=0\/k=1:=o_;rcases this with rfl|rfl
 ·exact⟨i0,b0,rfl,rfl,Rx,fun h=>by rw[<-hR,h];rfl,fun h=>by rw[<-hR,h];simp,fun h h'=>⟨fun _=>⟨h,h'⟩,fun h2=>o_⟩⟩
 ·exact⟨i1,b1,rfl,rfl,Px,fun h=>by rw[<-hR,h];simp,fun h=>by rw[<-hR,h];simp,fun h h'=>⟨fun _=>hk1 o_,fun _=>⟨h,h'⟩⟩⟩):p:=h
theorem V4{p:Prop}(h:p:=by
 cases QI:bp i with
 | false=>
  rw[QI]at hI;rw[Qz QI];repeat' ((conv=>whnf);first|refine Or.inl ?_|apply oi|apply fi|intro h|refine⟨k,i.tr,rfl,hi,?_⟩|refine ci hI (ai (ai rfl (ai rfl trivial)) trivial) ?_|exact Y1|refine e_ rfl ?_)
  all_goals(exfalso;first|(have h':=f9 h;omega)|(simp at h;done))
 | true=>
  rw[QI]at hI
  cases Vp:af b 1 1000000 with
  | false=>
   rw[Vp]at hB;rw[PQ Vp];repeat' ((conv=>whnf);first|refine Or.inl ?_|apply oi|apply fi|intro h|refine⟨k,i.tr,rfl,hi,?_⟩|refine⟨k,aa b,rfl,hb,?_⟩|refine ci hI (ai (ai rfl (ai rfl trivial)) trivial) ?_|refine ci hB (ai rfl (ai rfl (ai rfl trivial))) ?_|exact Y1|refine e_ rfl ?_)
   all_goals(exfalso;first|(have h':=f9 h;omega)|(simp at h;done))
  | true=>
   rw[Vp]at hB;repeat' ((conv=>whnf);first|refine Or.inl ?_|apply oi|apply fi|intro h|refine⟨k,i.tr,rfl,hi,?_⟩|refine⟨k,aa b,rfl,hb,?_⟩|refine ci hI (ai (ai rfl (ai rfl trivial)) trivial) ?_|refine ci hB (ai rfl (ai rfl (ai rfl trivial))) ?_|exact Y1|refine e_ rfl ?_)
   all_goals try(exfalso;first|(have h':=f9 h;omega)|(simp at h;done))
   conv=>whnf
   refine⟨⟨k+1,o_,OG QI Vp⟩,?_,KD⟩;repeat' ((conv=>whnf);first|refine Or.inl ?_|apply oi|apply fi|intro h|exact Y1|refine e_ rfl ?_)
   all_goals exact⟨by dsimp only;rw[c6 _ o_];rfl⟩):p:=h
theorem V15{p:Prop}(h:p:=by
 rw[ho]at hR;rw[cT,b9,b9,b9,j5,j5,j5,j5]at ho;obtain⟨o1,o2,o3,o4⟩:=ho;subst hR;repeat' ((conv=>whnf);first|refine Or.inl ?_|apply oi|apply fi|intro h|refine⟨0,_,rfl,rfl,?_⟩|refine⟨1,_,rfl,rfl,?_⟩|exact Y1|refine e_ rfl ?_)
 all_goals(exfalso;first|(have h':=f9 h;(try rw[x0]at h');(try rw[x1]at h');omega)|(have h':=f0 h;omega))):p:=h
theorem tR (i0 i1:LK)(b0 b1:Int)(es:List Int)(hs:aF 1048576 (LW.mk [i0,i1] [b0,b1] es).tr):Sim.Spec prog 89 [.agg (LW.mk [i0,i1] [b0,b1] es).tr] (rB (ew i0 i1 b0 b1 es)):=by
 refine ak hΓ aG func89 rfl d_ rfl ?_;have Mv:(es.map aa).length=es.length:=s_;have hE:=ba es.length 1 6;unfold ew
 cases hw:af es.length 1 6 with
 | false=>exact V52
 | true=>
  rw[hw]at hE;repeat' ((conv=>whnf);first|refine Or.inl ?_|apply oi|apply fi|intro h|refine ci hE (ai KW (ai rfl (ai rfl trivial))) ?_|exact Y1|refine e_ rfl ?_)
  all_goals try exact Q4
  have NB:=hs;simp only[LW.tr,aF]at NB;have TN:=NB.1;have Rx:aF 1048576 i0.tr:=bf TN s_;have Px:aF 1048576 i1.tr:=bf TN s_;have OP:i0.I9.length<=1048576:=by have:=Rx;simp only[LK.tr,aF,aw]at this;omega
  have N5:i1.I9.length<=1048576:=by have:=Px;simp only[LK.tr,aF,aw]at this;omega
  have SL:i0.L8.length<=1048576:=by have:=Rx;simp only[LK.tr,aF]at this;exact bE this.2.1
  have Sb:i1.L8.length<=1048576:=by have:=Px;simp only[LK.tr,aF]at this;exact bE this.2.1
  have M6:es.length<=1048576:=bE NB.2.2.1;rw[m9];generalize hR:(bp i0&&(af b0 1 1000000&&(bp i1&&(af b1 1 1000000&&(!(cT i0 i1 b0 b1)&&es.all fun e=>bx i0 b0 e||bx i1 b1 e)))))=R;conv=>whnf
  refine⟨{k:Nat//k<=2/\(1<=k->bp i0=true/\af b0 1 1000000=true)/\(2<=k->bp i1=true/\af b1 1 1000000=true)},fun k=>⟨[(1,.r (.c (.ptr (1,0,0) 0))),(27,tI .i64 2),(28,tI .i64 (k.1:Int))],[((1,0,0),some (.box (sW i0 i1 b0 b1 es)))],[1]⟩,fun k=>2-k.1,⟨0,o_,o_,o_⟩,?_,?_⟩
  ·exact Z1
  intro⟨k,hk,hk1,MN⟩;dsimp only;by_cases My:k<2
  ·obtain⟨i,b,hi,hb,VX,Qz,PQ,OG⟩:∃(i:LK) (b:Int),([i0.tr,i1.tr]:List (List Tr))[k]?=some i.tr/\([aa b0,aa b1]:List (List Tr))[k]?=some (aa b)/\aF 1048576 i.tr/\
     (bp i=false->R=false)/\(af b 1 1000000=false->R=false)/\(bp i=true->af b 1 1000000=true->(1<=k+1->bp i0=true/\af b0 1 1000000=true)/\(2<=k+1->bp i1=true/\af b1 1 1000000=true)):=by
    exact V31
   have hI:=uD i VX;have hB:=ba b 1 1000000;exact V4
  ·have O6:k=2:=o_;subst O6;obtain⟨g0,w0⟩:=hk1 o_;obtain⟨g1,w1⟩:=MN o_;have v0:=within_iff.1 w0;have v1:=within_iff.1 w1;rw[g0,g1,w0,w1,m9,m9,m9,m9]at hR;have x0:IntKind.i64.wrap (b1+(i1.I9.length:Int))=b1+i1.I9.length:=c6 _ o_;have x1:IntKind.i64.wrap (b0+(i0.I9.length:Int))=b0+i0.I9.length:=c6 _ o_
   cases ho:cT i0 i1 b0 b1 with
   | true=>exact V15
   | false=>
    rw[ho,F2,m9]at hR
    have MQ:¬(0<i0.I9.length/\0<i1.I9.length/\b0<b1+i1.I9.length/\b1<b0+i0.I9.length):=by exact V106
    have m0:=dX (imageOk_iff.1 g0).2 o_;have m1:=dX (imageOk_iff.1 g1).2 o_;have l0:=(imageOk_iff.1 g0).1;have l1:=(imageOk_iff.1 g1).1;repeat' ((conv=>whnf);first|refine Or.inl ?_|apply oi|apply fi|intro h|refine⟨0,_,rfl,rfl,?_⟩|refine⟨1,_,rfl,rfl,?_⟩|exact Y1|refine e_ rfl ?_)
    all_goals try(
     exfalso;rename_i a1 a2 a3;have c1:=f0 a1;have c2:=f0 a2;have c3:=f0 a3;have c4:=f0 h;rw[x0]at c3;rw[x1]at c4
     exact MQ ⟨o_,o_,c3,c4⟩)
    all_goals(
     conv=>whnf
     refine⟨{j:Nat//j<=es.length/\((es.drop j).all fun e=>bx i0 b0 e||bx i1 b1 e)=R},fun j=>⟨[(1,.r (.c (.ptr (1,0,0) 0))),(93,.r (.c (.t (.lst 1 (es.map aa))))),(94,tI .i64 ((es.map aa).length:Int)),(95,tI .i64 (j.1:Int))],[((1,0,0),some (.box (sW i0 i1 b0 b1 es)))],[1]⟩,fun j=>es.length-j.1,⟨0,o_,hR⟩,?_,?_⟩
     ·exact Z1
     intro⟨j,hj,hr⟩;dsimp only;by_cases NM:j<es.length
     ·obtain⟨e,he⟩:=ae NM;have SH:=vQ i0 i1 b0 b1 e es (fun x hx=>by have:=m0 x hx;omega) (fun x hx=>by have:=m1 x hx;omega) o_ o_ SL Sb;rw[cF he,E7]at hr
      cases NL:(bx i0 b0 e||bx i1 b1 e)with
      | false=>
       rw[NL]at SH hr;rw[s9]at hr;subst hr;repeat' ((conv=>whnf);first|refine Or.inl ?_|apply oi|apply fi|intro h|refine⟨j,aa e,rfl,ab he,?_⟩|refine ci SH (ai (ai rfl (ai rfl (ai rfl trivial))) (ai rfl trivial)) ?_|exact Y1|refine e_ rfl ?_)
       all_goals(exfalso;first|(have h':=f9 h;rw[Mv]at h';omega)|(simp at h;done))
      | true=>
       rw[NL]at SH hr;rw[m9]at hr;repeat' ((conv=>whnf);first|refine Or.inl ?_|apply oi|apply fi|intro h|refine⟨j,aa e,rfl,ab he,?_⟩|refine ci SH (ai (ai rfl (ai rfl (ai rfl trivial))) (ai rfl trivial)) ?_|exact Y1|refine e_ rfl ?_)
       all_goals try(exfalso;first|(have h':=f9 h;rw[Mv]at h';omega)|(simp at h;done))
       conv=>whnf
       refine⟨⟨j+1,o_,hr⟩,?_,KD⟩;repeat' ((conv=>whnf);first|refine Or.inl ?_|apply oi|apply fi|intro h|exact Y1|refine e_ rfl ?_)
       all_goals exact Q3
     ·have MS:es.length<=j:=o_;rw[n9 MS,List.all_nil]at hr;subst hr;repeat' ((conv=>whnf);first|refine Or.inl ?_|apply oi|apply fi|intro h|exact Y1|refine e_ rfl ?_)
      all_goals(exfalso;have h':=f0 h;rw[Mv]at h';omega))
theorem zB (a:Int)(k:Nat):((kn a k).toNat:Int)=(a/(2^(8*k)))%256:=by unfold kn;rw[E2 _ (Int.pow_nonneg d_)];generalize a/2^(8*k)=z;have h1:=Int.emod_nonneg z (show(256:Int)≠0 by decide);have h2:=Int.emod_lt_of_pos z (show(0:Int)<256 by decide);simp;omega
theorem wG (pre rest:List UInt8)(c:UInt8)(k:Nat)(m:List UInt8)(h:m[k]?=some c):cz (pre++m++rest) (pre.length+k)=c.toNat:=by have hk:=aH h;unfold cz;rw[j9,m5 o_,D1,j7 hk,h]
theorem Cz {a:Int}{n k:Nat}(h:k<n):(iQ a n)[k]?=some (kn a k):=by unfold iQ;rw[p6,List.getElem?_range h];rfl
theorem Gz {c a:Int}(h:dB c a=true){s:List UInt8}{p:Nat}(hb:∀k,k<(aX c).1.toNat->cz s (p+k)=(kn a k).toNat):jI c (aV s p (aX c).1.toNat)=a:=by
 unfold dB at h;rw[b9,within_iff,within_iff]at h;obtain⟨_,ha⟩:=h;have hd:∀k,k<(aX c).1.toNat->(cz s (p+k):Int)=(a/(2^(8*k)))%256:=fun k hk=>by rw[hb k hk,zB]
 have b0:0<(aX c).1.toNat->((aV s p 1:Nat):Int)=a%256:=fun h=>by
  have d0:=hd 0 h;rw[show(2:Int)^(8*0)=1 from rfl]at d0;simp only[aV,Nat.pow_zero,Nat.mul_one,u5];omega
 have b1:1<(aX c).1.toNat->((aV s p 2:Nat):Int)=a%65536:=fun h=>by
  have d0:=b0 o_;have d1:=hd 1 h;rw[show(2:Int)^(8*1)=256 from rfl]at d1;rw[aV,show(256:Nat)^1=256 from rfl];omega
 have b2:2<(aX c).1.toNat->((aV s p 3:Nat):Int)=a%16777216:=fun h=>by
  have d0:=b1 o_;have d1:=hd 2 h;rw[show(2:Int)^(8*2)=65536 from rfl]at d1;rw[aV,show(256:Nat)^2=65536 from rfl];omega
 have b3:3<(aX c).1.toNat->((aV s p 4:Nat):Int)=a%4294967296:=fun h=>by
  have d0:=b2 o_;have d1:=hd 3 h;rw[show(2:Int)^(8*3)=16777216 from rfl]at d1;rw[aV,show(256:Nat)^3=16777216 from rfl];omega
 unfold jI;rcases Al c with⟨e1,e2⟩|⟨e1,e2⟩|⟨e1,e2⟩|⟨e1,e2⟩|⟨e1,e2⟩
 ·rw[e1]at b3⊢;rw[e2]at ha;have b3:=b3 d_;have ha:-2147483648<=a/\a<=2147483647:=ha;show(if(true:Bool)=true/\(2147483648:Nat)<=aV s p 4 then((aV s p 4:Nat):Int)-((4294967296:Nat):Int)else((aV s p 4:Nat):Int))=a;split
  ·rename_i hc;have:=hc.2;omega
  ·rename_i hc;have:¬(2147483648<=aV s p 4):=fun h=>hc ⟨rfl,h⟩;omega
 ·rw[e1]at b1⊢;rw[e2]at ha;have b1:=b1 d_;have ha:-32768<=a/\a<=32767:=ha;show(if(true:Bool)=true/\(32768:Nat)<=aV s p 2 then((aV s p 2:Nat):Int)-((65536:Nat):Int)else((aV s p 2:Nat):Int))=a;split
  ·rename_i hc;have:=hc.2;omega
  ·rename_i hc;have:¬(32768<=aV s p 2):=fun h=>hc ⟨rfl,h⟩;omega
 ·rw[e1]at b1⊢;rw[e2]at ha;have b1:=b1 d_;have ha:0<=a/\a<=65535:=ha;rw[b8 s_];show((aV s p 2:Nat):Int)=a;omega
 ·rw[e1]at b0⊢;rw[e2]at ha;have b0:=b0 d_;have ha:0<=a/\a<=255:=ha;rw[b8 s_];show((aV s p 1:Nat):Int)=a;omega
 ·rw[e1];rw[e2]at ha;have ha:0<=a/\a<=0:=ha;rw[b8 s_];show((0:Nat):Int)=a;omega
theorem tn {x:LQ}(h:dB x.I9 x.J7=true):bg x=UInt8.ofNat x.I9.toNat::iQ x.J7 (aX x.I9).1.toNat:=by rw[bg,c7 h]
theorem yb {x:LQ}(h:dB x.I9 x.J7=true)(pre rest:List UInt8):bu (pre++bg x++rest) (pre.length:Int)=some (x,(aE x.I9).toNat):=by
 have hc:0<=x.I9/\x.I9<=17:=by unfold dB at h;rw[b9,within_iff,within_iff]at h;exact h.1
 have Mv:=eb h;have MY:=dQ x.I9;have hz:aE x.I9=(aX x.I9).1+1:=by rw[aE,c7 (within_iff.2 hc)]
 have OY:((cz (pre++bg x++rest) pre.length:Nat):Int)=x.I9:=by have:=wG pre rest (UInt8.ofNat x.I9.toNat) 0 (bg x) (by rw[tn h];rfl);rw[z4]at this;rw[this];simp;omega
 have WL:∀k,k<(aX x.I9).1.toNat->cz (pre++bg x++rest) (pre.length+1+k)=(kn x.J7 k).toNat:=fun k hk=>by
  have:=wG pre rest (kn x.J7 k) (k+1) (bg x) (by rw[tn h,j8];exact Cz hk);rw[show pre.length+1+k=pre.length+(k+1) by omega];exact this
 have hav:=Gz h WL;have N8:(pre++bg x++rest).length=pre.length+(bg x).length+rest.length:=by simp;omega
 generalize pre++bg x++rest=s at *
 rw[bu,c7 ⟨o_,o_⟩,d7,OY,b8 o_,hav]
theorem sR {l:List LS}(h:∀y∈l,dB y.L3.J2.I9 y.L3.J2.J7=true){k:Nat}{y:LS}(hy:l[k]?=some y)(pre rest:List UInt8):bu (pre++aj l++rest) (((pre++aj (l.take k)).length:Nat):Int)=some (y.L3.J2,(aE y.L3.J2.I9).toNat):=by
 have e:l=l.take k++(y::l.drop (k+1)):=by rw[<-cF hy,y9]
 have e2:aj l=aj (l.take k)++(bg y.L3.J2++aj (l.drop (k+1))):=by
  conv=>lhs;rw[e]
  rw[aJ,show y::l.drop (k+1)=[y]++l.drop (k+1) from rfl,aJ,dW]
 have:=yb (h y (c9 hy)) (pre++aj (l.take k)) (aj (l.drop (k+1))++rest);rw[e2];simpa [j9]using this
theorem so:∀{l:List LS} (pre:List UInt8),(∀y∈l,dB y.L3.J2.I9 y.L3.J2.J7=true)->mf (pre++aj l) ((pre++aj l).length-pre.length) pre.length=some (l.map fun y=>y.L3.J2)
 | [],pre,_=>by
  rw[show aj []=[] from rfl,m6]
  exact we (d8 _)
 | y::l,pre,h=>by
  have hy:=h y s_;have Mv:=eb hy;have MY:=dQ y.L3.J2.I9
  have hc:af y.L3.J2.I9 0 17=true:=by unfold dB at hy;rw[b9]at hy;exact hy.1
  have hz:aE y.L3.J2.I9=(aX y.L3.J2.I9).1+1:=by rw[aE,c7 hc]
  have e:aj (y::l)=bg y.L3.J2++aj l:=by rw[show y::l=[y]++l from rfl,aJ,dW]
  have ih:=so (l:=l) (pre++bg y.L3.J2) (fun z hz=>h z (by simp[hz]));have hd:=yb hy pre (aj l);rw[j9]at hd ih;have N7:(pre++(bg y.L3.J2++aj l)).length=pre.length+(bg y.L3.J2).length+(aj l).length:=by simp;omega
  have VB:(pre++bg y.L3.J2).length=pre.length+(aE y.L3.J2.I9).toNat:=by rw[c8];omega
  rw[e,sj o_,hd];dsimp only;rw[VB]at ih;rw[ih];rfl
theorem Cc {l:List LS}(h:∀y∈l,dB y.L3.J2.I9 y.L3.J2.J7=true):(fk (aj l)).isSome=true:=by
 have:=so [] h;rw[t6]at this
 have e:fk (aj l)=some (l.map fun y=>y.L3.J2):=by unfold fk;simpa using this
 rw[e];rfl
theorem qg:∀(l:List LO) (i:Nat),(funsF l i).Pairwise (·<·)
 | [],_=>by rw[funsF];exact List.Pairwise.nil
 | x::l,i=>by
  have ih:=qg l (i+1);rw[funsF];split
  ·refine List.pairwise_append.2 ⟨List.pairwise_singleton _ _,ih,fun a ha b hb=>?_⟩;rw[t7]at ha;have:=(un hb).1;omega
  ·rw[t6];exact ih
theorem Ih {p:List LO}{f g k:Nat}(hf:(ay p)[f]?=some k)(hg:(ay p)[g]?=some k):f=g:=by
 have hs:=List.pairwise_iff_getElem.1 (qg p 0);obtain⟨h1,e1⟩:=x9.1 hf;obtain⟨h2,e2⟩:=x9.1 hg;rcases B1 f g with h|h|h
 ·have:=hs f g h1 h2 h;change(ay p)[f]<(ay p)[g]at this;rw[e1,e2]at this;omega
 ·exact h
 ·have:=hs g f h2 h1 h;change(ay p)[g]<(ay p)[f]at this;rw[e1,e2]at this;omega
theorem qk {p:List LO}(h:ah p=true){f k:Nat}(hf:(ay p)[f]?=some k):∃y,p[k]?=some y/\y.J1=0/\bD p f=y.J8/\da y.J8=true/\findN p 0 y.J8=some k:=by
 unfold ah at h;simp only[b9,j5]at h;obtain⟨_,_,h3,_,h5,_⟩:=h;obtain⟨_,y,hy,h0⟩:=nV (c9 hf);have hl:=o8.1 h3 y (c9 hy);have hn:=o8.1 h5 k (c9 hf);refine⟨y,hy,h0,by rw[bD,hf];dsimp only;rw[hy],?_,?_⟩
 ·unfold cZ at hl;simp only[b9]at hl;have:=hl.2.1;rwa [c7 (.inl h0)]at this
 ·unfold nameFirst at hn;rw[hy]at hn;exact B7 hn
theorem Ci {p:List LO}(h:ah p=true){f g:Nat}(hf:f<(ay p).length)(hg:g<(ay p).length)(he:bD p f=bD p g):f=g:=by obtain⟨k,hk⟩:=ae hf;obtain⟨j,hj⟩:=ae hg;obtain⟨_,_,_,e1,_,f1⟩:=qk h hk;obtain⟨_,_,_,e2,_,f2⟩:=qk h hj;rw[e1,e2]at he;rw[he,f2]at f1;injection f1 with f1;subst f1;exact Ih hk hj
theorem wb {p:List LO}:∀(L:List (Nat×List LS)) (pre post:List UInt8) (seen:List LX),
  (∀x∈L,0<(aj x.2).length/\(∀y∈x.2,dB y.L3.J2.I9 y.L3.J2.J7=true)/\da (bD p x.1)=true)->L.Pairwise (fun x y=>bD p x.1≠bD p y.1)->(∀x∈L,∀y∈seen,y.J8≠bD p x.1)->post=[]->
  eU (pre++aj (ax L)++post) seen pre.length (co p pre.length L)=true
 | [],pre,post,seen,_,_,_,hp=>by subst hp;simp[co,eU,ax,aj]
 |(f,l)::L,pre,post,seen,h1,h2,h3,hp=>by
  subst hp;obtain⟨q1,q2,q3⟩:=h1 (f,l) s_;dsimp only at q1 q2 q3;have e:aj (ax ((f,l)::L))=aj l++aj (ax L):=by rw[show ax ((f,l)::L)=l++ax L by simp[ax],aJ]
  rw[H8]at h2;rw[e,m6,co,eU,b9];constructor
  ·unfold wI;rw[b9,b9];refine⟨imgPre_iff.2 ⟨rfl,g_,by dsimp only;simp;omega,q3⟩,?_,?_⟩
   ·rw[u9,fC,F5];intro y hy;have:=h3 (f,l) s_ y hy;simpa using this
   ·dsimp only;rw[d7]
    have e2:((pre++(aj l++aj (ax L))).take (pre.length+(aj l).length)).drop pre.length=aj l:=by rw[<-j9,List.take_left' s_,List.drop_left]
    rw[e2];exact Cc q2
  ·dsimp only;rw[d7]
   have ih:=wb L (pre++aj l) [] (seen++[⟨bD p f,(pre.length:Int),((aj l).length:Int)⟩]) (fun x hx=>h1 x aat) h2.2 (fun x hx y hy=>by
    rcases d9.1 hy with hy|hy
    ·exact h3 x aat y hy
    ·rw[t7]at hy;subst hy
     exact h2.1 x hx) rfl
   rw[m6,c8,j9]at ih;simpa using ih
theorem jY {p:List LO}{b:LF}{image:Int}:∀(n f:Nat) (at0:Int),(bX p b image n f at0).Pairwise (fun x y=>x.1<y.1)
 | 0,_,_=>by rw[bX];exact List.Pairwise.nil
 | n+1,f,at0=>by
  rw[nW];split
  ·refine H8.2 ⟨fun y hy=>?_,jY n _ _⟩;have:=(mF hy).1;dsimp only;omega
  ·exact jY n _ _
theorem cV {p:List LO}{b:LF}(hs:aw 1048576 (.lst 4 (p.map LO.tr)))(h1:ah p=true)(h2:aS b=true){image:Int}(h3:af image 0 1=true):bp (ag p b image)=true/\(ag p b image).I9.length<=75000:=by
 rw[ag,c7 ⟨h1,h2,h3⟩];obtain⟨h6,_⟩:=fF h1;have Oj:=iG p b image (ay p).length 0 0;have Qc:=fun x (hx:x∈bX p b image (ay p).length 0 0)=>(ir hs hx).1;have VM:=fun x (hx:x∈bX p b image (ay p).length 0 0)=>(mF hx).2;have Pv:=jY (p:=p) (b:=b) (image:=image) (ay p).length 0 0
 have NZ:∀x∈bX p b image (ay p).length 0 0,0<x.2.length/\∀y∈x.2,dB y.L3.J2.I9 y.L3.J2.J7=true:=fun x hx=>by
  obtain⟨i,hi⟩:=v6.1 hx;have hl:=(jR hs h1 h2 o_ hi).2.2
  have ho:∀y∈x.2,dB y.L3.J2.I9 y.L3.J2.J7=true:=fun y hy=>by
   obtain⟨j,hj⟩:=v6.1 hy;exact(fR hs h1 h2 hi hj).1.op
  exact⟨hl,ho⟩
 generalize bX p b image (ay p).length 0 0=L at *
 have M4:=kG Qc (d8 L.length);rw[gt (d8 _)]at M4;have NV:=A6 2500 (show L.length<=6 by omega);have MT:=ib (ax L);refine⟨imageOk_iff.2 ⟨g_,?_⟩,g_⟩;have:=wb (p:=p) L [] [] [] (fun x hx=>?_) ?_ (fun x hx y hy=>by cases hy) rfl
 ·simpa using this
 ·obtain⟨q1,q2⟩:=NZ x hx;obtain⟨k,hk⟩:=ae (l:=ay p) (k:=x.1) (by have:=VM x hx;omega);obtain⟨y,_,_,e,hn,_⟩:=qk h1 hk;refine⟨?_,q2,by rw[e];exact hn⟩;obtain⟨z,l',hz⟩:=List.exists_cons_of_length_pos q1;rw[hz,show z::l'=[z]++l' from rfl,aJ,dW,c8];have Mw:=q2 z (by rw[hz];simp);have:=eb Mw;have h4:=dQ z.L3.J2.I9
  have hc:af z.L3.J2.I9 0 17=true:=by unfold dB at Mw;rw[b9]at Mw;exact Mw.1
  rw[aE,c7 hc]at this;omega
 ·refine Pv.imp_of_mem fun{x y} hx hy My he=>?_;have:=Ci h1 (by have:=VM x hx;omega) (by have:=VM y hy;omega) he;omega
def kC (nm:List UInt8)(b:Int)(l:List LX):List Int:=(l.filter fun y=>y.J8==nm).map fun y=>IntKind.i64.wrap (b+y.L4)
theorem Io (nm:List UInt8)(b:Int):kC nm b []=[]:=rfl
theorem FU (nm:List UInt8)(b:Int)(l:List LX)(y:LX):kC nm b (l++[y])=kC nm b l++if(y.J8==nm)=true then [IntKind.i64.wrap (b+y.L4)]else []:=by
 unfold kC;rw[List.filter_append,u4];congr 1;split
 ·rename_i h;simp[h]
 ·rename_i h;simp[h]
theorem Ff {nm:List UInt8}{b:Int}{l:List LX}{k:Nat}{y:LX}(h:l[k]?=some y):kC nm b (l.take (k+1))=kC nm b (l.take k)++if(y.J8==nm)=true then [IntKind.i64.wrap (b+y.L4)]else []:=by rw[dA h,FU]
theorem uL (nm:List UInt8)(b:Int)(l:List LX):(kC nm b l).length<=l.length:=by unfold kC;rw[e7];exact F8 _ _
def gd (f:Nat):List (Nat×List LS)->Int->Option Int
 | [],_=>none
 | x::L,a=>if x.1=f then some a else gd f L (a+(aj x.2).length)
theorem xg {p:List LO}{nm:List UInt8}{b:Int}:∀(L:List (Nat×List LS)) (a:Int),(∀x∈L,bD p x.1≠nm)->kC nm b (co p a L)=[]
 | [],_,_=>rfl
 |(g,l)::L,a,h=>by
  have h1:=h (g,l) s_;have ih:=xg (p:=p) (nm:=nm) (b:=b) L (a+(aj l).length) (fun x hx=>h x aat);unfold kC at ih⊢;rw[co,B6,b8 aai];exact ih
theorem xW {p:List LO}{b:Int}{f:Nat}:∀(L:List (Nat×List LS)) (a:Int),(∀x∈L,bD p x.1=bD p f->x.1=f)->L.Pairwise (fun x y=>x.1<y.1)->
  kC (bD p f) b (co p a L)=match gd f L a with|some s=>[IntKind.i64.wrap (b+s)]|none=>[]
 | [],_,_,_=>rfl
 |(g,l)::L,a,h,hs=>by
  rw[H8]at hs;rw[gd];by_cases hg:g=f
  ·subst hg;rw[c7 rfl]
   have hn:=xg (p:=p) (nm:=bD p g) (b:=b) L (a+(aj l).length) (fun x hx he=>by
    have h1:=h x aat he;have h2:=hs.1 x hx;dsimp only at h2
    omega)
   unfold kC at hn⊢;rw[co,B6,c7 s_,p7,hn]
  ·rw[b8 hg];have ih:=xW (p:=p) (b:=b) (f:=f) L (a+(aj l).length) (fun x hx=>h x aat) hs.2;rw[<-ih];unfold kC;rw[co,B6,b8];simp only[w8];exact fun he=>hg (h (g,l) s_ he)
theorem lg {f:Nat}:∀{L:List (Nat×List LS)} {a:Int},(∃x∈L,x.1=f)->∃s,gd f L a=some s
 | [],_,⟨_,h,_⟩=>by cases h
 | x::L,a,⟨y,hy,he⟩=>by
  rw[gd];split
  ·exact⟨_,rfl⟩
  ·rename_i hx;rcases d6.1 hy with rfl|hy
   ·exact absurd he hx
   ·exact lg ⟨y,hy,he⟩
theorem pP {f:Nat}:∀{L:List (Nat×List LS)} {a:Int},(∀x∈L,x.1≠f)->gd f L a=none
 | [],_,_=>rfl
 | x::L,a,h=>by rw[gd,b8 (h x s_),pP fun y hy=>h y aaN]
theorem uS {f:Nat}:∀{L:List (Nat×List LS)} {a s:Int},gd f L a=some s->∃i x,L[i]?=some x/\x.1=f/\s=a+((aj (ax (L.take i))).length:Int)
 | [],_,_,h=>by rw[gd]at h;cases h
 | x::L,a,s,h=>by
  rw[gd]at h;split at h
  ·injection h with h;exact⟨0,x,rfl,by assumption,by subst h;simp[ax,aj]⟩
  ·obtain⟨i,y,h1,h2,h3⟩:=uS h;refine⟨i+1,y,by simpa using h1,h2,?_⟩;rw[q8,show ax (x::L.take i)=x.2++ax (L.take i) by simp[ax],aJ,c8];omega
theorem imgL_mem {p:List LO}{b:LF}{image:Int}:∀{n f:Nat} {at0:Int} {g:Nat},(∃x∈bX p b image n f at0,x.1=g)↔(f<=g/\g<f+n/\sU b image g=true)
 | 0,f,at0,g=>by
  rw[bX];constructor
  ·rintro⟨x,h,_⟩;cases h
  ·rintro⟨h1,h2,_⟩;omega
 | n+1,f,at0,g=>by
  rw[nW];split
  ·rename_i hin;constructor
   ·rintro⟨x,hx,he⟩;rcases d6.1 hx with rfl|hx
    ·dsimp only at he;subst he;exact⟨o_,o_,hin⟩
    ·have:=imgL_mem.1 ⟨x,hx,he⟩;exact⟨o_,o_,this.2.2⟩
   ·rintro⟨h1,h2,h3⟩;by_cases hg:g=f
    ·exact⟨_,List.mem_cons_self ..,hg.symm⟩
    ·obtain⟨x,hx,he⟩:=(imgL_mem (p:=p) (at0:=yA at0 (aA p f b)) (n:=n) (f:=f+1)).2 ⟨o_,o_,h3⟩;exact⟨x,z9 _ hx,he⟩
  ·rename_i hin;constructor
   ·intro h;have:=imgL_mem.1 h;exact⟨o_,o_,this.2.2⟩
   ·rintro⟨h1,h2,h3⟩;have hg:g≠f:=fun e=>by subst e;exact hin h3
    exact imgL_mem.2 ⟨o_,o_,h3⟩
noncomputable abbrev imL (p:List LO) (b:LF) (image:Int):List (Nat×List LS):=bX p b image (ay p).length 0 0
def bn (b:LF)(f:Nat):Int:=if b.Mr=true then(f:Int)%2 else 0
theorem rM {b:LF}{f:Nat}{image:Int}(h:image=0\/image=1):sU b image f=true↔image=bn b f:=by
 unfold sU bn;split
 ·rw[w8];omega
 ·rw[w8]
def tP (p:List LO)(b:LF)(i0 i1:LK)(first second:Int)(f:Nat):List Int:=if bn b f=1 then kC (bD p f) second i1.L8 else kC (bD p f) first i0.L8
def kr (F:Nat->List Int):Nat->List Int
 | 0=>[]
 | n+1=>kr F n++F n
noncomputable def aW (p:List LO) (b:LF) (f:Nat):Int:=(gd f (imL p b (bn b f)) 0).getD 0
noncomputable def cS (p:List LO) (b:LF) (first second:Int) (f:Nat):Int:=IntKind.i64.wrap ((if bn b f=1 then second else first)+aW p b f)
theorem fX (b:LF)(f:Nat):bn b f=0\/bn b f=1:=by unfold bn;split<;>omega
theorem oS {p:List LO}{b:LF}(h1:ah p=true)(h2:aS b=true){image:Int}(hi:image=0\/image=1){f:Nat}(hf:f<(ay p).length)(base:Int):
  kC (bD p f) base (ag p b image).L8=if bn b f=image then [IntKind.i64.wrap (base+aW p b f)]else []:=by
 have h3:af image 0 1=true:=by rw[within_iff];omega
 rw[ag,c7 ⟨h1,h2,h3⟩];dsimp only;rw[xW _ _ (fun x hx he=>Ci h1 (by have:=(mF hx).2;omega) hf he) (jY _ _ _)];by_cases he:bn b f=image
 ·subst he;obtain⟨s,hs⟩:=lg (f:=f) (a:=0) ((imgL_mem (p:=p) (b:=b) (image:=bn b f) (n:=(ay p).length) (f:=0) (at0:=0) (g:=f)).2 ⟨o_,o_,(rM hi).2 rfl⟩);rw[hs,c7 rfl,aW,show imL p b (bn b f)=bX p b (bn b f) (ay p).length 0 0 from rfl,hs];rfl
 ·rw[b8 he,pP fun x hx Pe=>?_];have:=(imgL_mem (g:=f)).1 ⟨x,hx,Pe⟩;exact he ((rM hi).1 this.2.2).symm
theorem Ji {p:List LO}{b:LF}(h1:ah p=true)(h2:aS b=true){f:Nat}(hf:f<(ay p).length)(first second:Int):tP p b (ag p b 0) (ag p b 1) first second f=[cS p b first second f]:=by
 unfold tP cS;rw[oS h1 h2 (.inr rfl) hf,oS h1 h2 (.inl rfl) hf];rcases fX b f with e|e
 ·rw[e];rfl
 ·rw[e];rfl
theorem xA {F:Nat->List Int}{G:Nat->Int}:∀{n:Nat},(∀f,f<n->F f=[G f])->kr F n=(List.range n).map G
 | 0,_=>rfl
 | n+1,h=>by rw[kr,xA fun f hf=>h f o_,h n o_,G3,u4];rfl
noncomputable def entries (p:List LO) (b:LF) (first second:Int):List Int:=(List.range (ay p).length).map (cS p b first second)
noncomputable def aQ (p:List LO) (b:LF) (first second:Int):LW:=⟨[ag p b 0,ag p b 1],[first,second],entries p b first second⟩
noncomputable def gD (p:List LO) (b:LF) (first second:Int):Option LW:=if ah p=true/\aS b=true/\ce (aQ p b first second)=true then some (aQ p b first second)else none
def oSp (o:Option LW):LW:=match o with|some s=>s|none=>⟨[],[],[]⟩
theorem qh {p:List LO}:∀(L:List (Nat×List LS)) (a:Int) (y:LX),y∈co p a L->a<=y.L4/\y.L4<=a+(aj (ax L)).length
 | [],_,_,h=>by cases h
 |(f,l)::L,a,y,h=>by
  have e:((aj (ax ((f,l)::L))).length:Int)=(aj l).length+(aj (ax L)).length:=by rw[show ax ((f,l)::L)=l++ax L by simp[ax],aJ,c8];simp
  rw[e];rw[co]at h;rcases d6.1 h with rfl|h
  ·dsimp only;omega
  ·have:=qh L _ y h;omega
theorem uo {p:List LO}{b:LF}(hs:aw 1048576 (.lst 4 (p.map LO.tr)))(h1:ah p=true)(h2:aS b=true){image:Int}(h3:af image 0 1=true){y:LX}(hy:y∈(ag p b image).L8):0<=y.L4/\y.L4<=75000:=by have hl:=(cV hs h1 h2 h3).2;rw[ag,c7 ⟨h1,h2,h3⟩]at hy hl;have:=qh _ _ y hy;dsimp only at hl;omega
theorem Aa {p:List LO}(h1:ah p=true):1<=(ay p).length/\(ay p).length<=6:=by unfold ah at h1;simp only[b9,j5]at h1;exact h1.2.1
theorem Cp {p:List LO}{b:LF}(hs:aw 1048576 (.lst 4 (p.map LO.tr)))(h1:ah p=true)(h2:aS b=true){first second:Int}(hf:1<=first/\first<=1000000)(SD:1<=second/\second<=1000000){f:Nat}(My:f<(ay p).length):
  (bn b f=0/\∃y∈(ag p b 0).L8,first+y.L4=cS p b first second f)\/(bn b f=1/\∃y∈(ag p b 1).L8,second+y.L4=cS p b first second f):=by
 have key:∀(image base:Int),(image=0\/image=1)->1<=base/\base<=1000000->bn b f=image->∃y∈(ag p b image).L8,base+y.L4=IntKind.i64.wrap (base+aW p b f):=by
  intro image base hi hb he;have hh:=oS h1 h2 hi My base;rw[c7 he]at hh;have hm:IntKind.i64.wrap (base+aW p b f)∈kC (bD p f) base (ag p b image).L8:=by rw[hh];simp
  unfold kC at hm;obtain⟨y,hy,e⟩:=n7.1 hm;have OL:=(A7.1 hy).1;have hr:=uo hs h1 h2 (by rw[within_iff];omega) OL;refine⟨y,OL,?_⟩;rw[<-e,c6 _ o_]
 unfold cS;rcases fX b f with e|e
 ·rw[e];exact .inl ⟨rfl,by simpa using key 0 first (.inl rfl) hf e⟩
 ·rw[e];exact .inr ⟨rfl,by simpa using key 1 second (.inr rfl) SD e⟩
theorem zr {p:List LO}{b:LF}(hs:aw 1048576 (.lst 4 (p.map LO.tr)))(h1:ah p=true)(h2:aS b=true){first second:Int}(hf:1<=first/\first<=1000000)(SD:1<=second/\second<=1000000)(MQ:cT (ag p b 0) (ag p b 1) first second=false):ce (aQ p b first second)=true:=by
 have a0:=cV hs h1 h2 (image:=0) d_;have a1:=cV hs h1 h2 (image:=1) d_;have hl:=Aa h1;show ew (ag p b 0) (ag p b 1) first second (entries p b first second)=true;unfold ew;simp only[b9];refine⟨by rw[within_iff];simp[entries];omega,a0.1,within_iff.2 hf,a1.1,within_iff.2 SD,by rw[MQ];rfl,?_⟩;rw[o8];intro e he;obtain⟨f,Th,rfl⟩:=n7.1 he;rw[F4]at Th;rw[w5];rcases Cp hs h1 h2 hf SD Th with⟨_,y,hy,e⟩|⟨_,y,hy,e⟩
 ·refine .inl ?_;rw[bx,y7];exact⟨y,hy,by rw[w8];exact e⟩
 ·refine .inr ?_;rw[bx,y7];exact⟨y,hy,by rw[w8];exact e⟩
theorem wh {p:List LO}{b:LF}(hs:aw 1048576 (.lst 4 (p.map LO.tr)))(h1:ah p=true)(h2:aS b=true){first second:Int}(hf:1<=first/\first<=9000)(SD:100000<=second/\second<=1000000):gD p b first second=some (aQ p b first second):=by
 have a0:=cV hs h1 h2 (image:=0) d_
 have MQ:cT (ag p b 0) (ag p b 1) first second=false:=by unfold cT;rw[show decide (second<first+((ag p b 0).I9.length:Int))=false from D5 (by have:=a0.2;omega),C9,C9,C9]
 rw[gD,c7 ⟨h1,h2,zr hs h1 h2 o_ o_ MQ⟩]
structure PsOk (P:List LS):Prop where
 at0:∀x:LS,P[0]?=some x->x.Me=0
 next:∀(k:Nat) (x y:LS),P[k]?=some x->P[k+1]?=some y->y.Me=x.Me+aE x.L3.J2.I9
 rng:∀(k:Nat) (x:LS),P[k]?=some x->0<=x.Me/\x.Me<=100000/\1<=aE x.L3.J2.I9/\aE x.L3.J2.I9<=5/\0<=x.L3.Mh/\x.L3.Mh<=59
 len:P.length<=15000
theorem my:∀{L:List (Nat×List LS)} {k:Nat} {x:LS},(ax L)[k]?=some x->∃i z j,L[i]?=some z/\z.2[j]?=some x/\k=(ax (L.take i)).length+j
 | [],k,x,h=>by simp[ax]at h
 | a::L,k,x,h=>by
  have e:ax (a::L)=a.2++ax L:=by simp[ax]
  rw[e,G2]at h;split at h
  ·exact⟨0,a,k,rfl,h,by simp[ax]⟩
  ·obtain⟨i,z,j,h1,h2,h3⟩:=my h;refine⟨i+1,z,j,by simpa using h1,h2,?_⟩;rw[q8,show ax (a::L.take i)=a.2++ax (L.take i) by simp[ax],c8];omega
theorem oM {c a:Int}(h:dB c a=true):1<=aE c/\aE c<=5:=by unfold dB at h;rw[b9]at h;have:=dQ c;rw[aE,c7 h.1];omega
theorem mj {p:List LO}{b:LF}{image:Int}(hs:aw 1048576 (.lst 4 (p.map LO.tr))):PsOk (aM p b image):=by
 by_cases hc:ah p=true/\aS b=true/\af image 0 1=true
 ·rw[aM,c7 hc];obtain⟨h1,h2,_⟩:=hc;show PsOk (ax (bX p b image (ay p).length 0 0));obtain⟨h6,QM⟩:=fF h1;have Oj:=iG p b image (ay p).length 0 0;have Qc:=fun x (hx:x∈bX p b image (ay p).length 0 0)=>(ir hs hx).1;have M4:=kG Qc (d8 _);rw[gt (d8 _)]at M4;have NV:=A6 2500 (show(bX p b image (ay p).length 0 0).length<=6 by omega)
  have key:∀(k:Nat) (x:LS),(ax (bX p b image (ay p).length 0 0))[k]?=some x->x.Me=((aj ((ax (bX p b image (ay p).length 0 0)).take k)).length:Int)/\dB x.L3.J2.I9 x.L3.J2.J7=true/\0<=x.L3.Mh/\x.L3.Mh<=59:=by
   intro k x hx;obtain⟨i,z,j,g1,g2,rfl⟩:=my hx;obtain⟨hp,ho⟩:=fR hs h1 h2 g1 g2
   have ht:(ax (bX p b image (ay p).length 0 0)).take ((ax ((bX p b image (ay p).length 0 0).take i)).length+j)=ax ((bX p b image (ay p).length 0 0).take i)++z.2.take j:=by
    generalize bX p b image (ay p).length 0 0=L at *
    have e:L=L.take i++z::L.drop (i+1):=by rw[<-cF g1,y9]
    have e2:ax L=ax (L.take i)++(z.2++ax (L.drop (i+1))):=by
     conv=>lhs;rw[e]
     simp[ax]
    rw[e2,I2,D1,gt o_,A1 (Nat.le_of_lt (aH g2))]
   refine⟨by rw[ht,aJ,c8];omega,hp.op,?_⟩;rcases v3 j with rfl|hj
   ·obtain⟨_,g,ln,k1,k2,k3,_⟩:=hp.head rfl;have:=aH k3;omega
   ·obtain⟨_,g,ln,k2,k3,_⟩:=hp.body hj;have:=aH k3;omega
  generalize ax (bX p b image (ay p).length 0 0)=P at *
  refine⟨fun x hx=>?_,fun k x y hx hy=>?_,fun k x hx=>?_,o_⟩
  ·have:=(key 0 x hx).1;simpa [aj]using this
  ·obtain⟨a1,a2,_⟩:=key k x hx;obtain⟨b1,_⟩:=key (k+1) y hy;have:=eb a2;rw[b1,a1,dA hx,aJ,c8,dW];omega
  ·obtain⟨a1,a2,a3,a4⟩:=key k x hx;have hz:=oM a2;have MT:=ib (P.take k);have Ne:=aH hx;have:(P.take k).length=k:=(by rw[l6];omega);omega
 ·rw[aM,b8 hc];exact⟨fun x h=>by simp at h,fun k x y h=>by simp at h,fun k x h=>by simp at h,s_⟩
theorem PsOk.lt {P:List LS}(h:PsOk P):∀{n k:Nat} {x y:LS},P[k]?=some x->P[k+n+1]?=some y->x.Me+aE x.L3.J2.I9<=y.Me
 | 0,k,x,y,hx,hy=>by have:=h.next k x y hx hy;omega
 | n+1,k,x,y,hx,hy=>by
  obtain⟨z,hz⟩:=ae (l:=P) (k:=k+n+1) (by have:=aH hy;omega);have h1:=h.lt hx hz;have h2:=h.next (k+n+1) z y hz (by rw[show k+n+1+1=k+(n+1)+1 by omega];exact hy);have:=(h.rng _ z hz).2.2.1;omega
end Go.Proofs.P
