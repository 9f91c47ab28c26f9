import Derived.Test.YtoglejgmjeojoaaGreatGg
set_option maxRecDepth 100000
set_option maxHeartbeats 4000000
namespace Go.Proofs.P
open Go.Sim Tryz
def plN (p:List LP)(i:Nat):Int:=if 0<fm p i then fm p i-1 else-fm p i
section
variable {C:Cx} {x:Sc} {ins:List Nat} {rep:Sc->List Nat->Nat->Nat->Int->Gs->Gs} {base:Int}
theorem Da (hC:CxOk C)(hx:ScOk C x ins){e:Nat}(he:endAt C.p x.f=some e){i:Nat}(h1:x.f<i)(h2:i<e)(hj:jumps C.p i):(i:Int)<plN C.p i/\plN C.p i<e:=by
 have Ny:i<C.p.length:=by obtain⟨_,_,_,_,_,h⟩:=aN he;omega
 obtain⟨y,hy⟩:=ae Ny;have Sw:=bc hy;unfold plN fm;by_cases h4:kindAt C.p i=4
 ·rw[c7 h4];obtain⟨o1,o2,o3,o4⟩:=hx.own4 hC he o_ o_ hy (by rw[<-Sw];exact h4);obtain⟨z,e',hz,hz3,Np,r1,r2,_⟩:=bu o1;obtain⟨m,hm,m1,m2⟩:=jo he o2 o_ hz aaC;rw[Np]at hm;injection hm with hm;subst hm;have hE:ct C.p (ownOf C.p i:Int)=(e':Int):=by rw[cw];exact bQ Np
  rw[hE,c7 o_];omega
 ·rw[b8 h4];have Yy:kindAt C.p i=3\/kindAt C.p i=5:=by unfold jumps at hj;omega
  obtain⟨m,hm,m1,m2⟩:=jo he h1 h2 hy aaC;split
  ·rename_i hc
   cases M6:elseAt C.p i with
   | none=>rw[dt,M6]at hc;simp[cM]at hc
   | some j=>obtain⟨_,e',_,_,Np,r1,r2,_⟩:=bu M6;rw[hm]at Np;injection Np with Np;subst Np;have hE:cB C.p (i:Int)=(j:Int):=(by rw[dt];exact bQ M6);rw[hE,b8 o_];omega
  ·have hE:ct C.p (i:Int)=(m:Int):=(by rw[cw];exact bQ hm);rw[hE,c7 o_];omega
theorem Hy (hC:CxOk C)(hx:ScOk C x ins){e:Nat}(he:endAt C.p x.f=some e){k i:Nat}(h1:x.f<i)(h2:i<k)(h3:k<e)(hj:jumps C.p i)(hk:kindAt C.p k=4)(hp:plN C.p i=(k:Int)):i=ownOf C.p k:=by
 unfold plN at hp;by_cases h0:0<fm C.p i
 ·rw[c7 h0]at hp;have:=(qe hC hx he (k:=k+1) o_ o_ o_ hj o_).1;rw[show k+1-1=k by omega]at this;omega
 ·rw[b8 h0]at hp;have ht:fm C.p i= -(k:Int):=o_;unfold fm at ht;have MT:=jt C.p;split at ht
  ·have:=(MT (ownOf C.p i)).1;omega
  ·split at ht
   ·rw[dt]at ht
    cases M6:elseAt C.p i with
    | none=>rw[M6]at ht;simp only[cM]at ht;omega
    | some j=>rw[M6]at ht;simp only[cM]at ht;have N9:j=k:=o_;rw[N9]at M6;exact(uy M6).symm
   ·have:=(MT i).1;omega
theorem Jr (hC:CxOk C)(hx:ScOk C x ins){e:Nat}(he:endAt C.p x.f=some e){k i:Nat}(h1:x.f<i)(h2:i<k)(h3:k<e)(hj:jumps C.p i)(hk:kindAt C.p k=7)(hp:plN C.p i=(k:Int)):i=iN C.p k:=by
 unfold plN at hp;by_cases h0:0<fm C.p i
 ·rw[c7 h0]at hp;have:=(qe hC hx he (k:=k+1) o_ o_ o_ hj o_).2.2;rw[show k+1-1=k by omega]at this;exact this.symm
 ·rw[b8 h0]at hp;have ht:fm C.p i= -(k:Int):=o_;unfold fm at ht;have MT:=jt C.p;split at ht
  ·have:=(MT (ownOf C.p i)).1;omega
  ·split at ht
   ·rw[dt]at ht
    cases M6:elseAt C.p i with
    | none=>rw[M6]at ht;simp only[cM]at ht;omega
    | some j=>rw[M6]at ht;simp only[cM]at ht;have N9:j=k:=o_;rw[N9]at M6;obtain⟨_,_,_,_,_,_,_,w,hw,w4⟩:=bu M6;rw[bc hw]at hk;omega
   ·have:=(MT i).1;omega
theorem GC (hC:CxOk C)(hx:ScOk C x ins){e:Nat}(he:endAt C.p x.f=some e){k i:Nat}(h1:x.f<i)(h2:i<k)(h3:k<e)(hj:jumps C.p i)(hp:plN C.p i=(k:Int)):kindAt C.p k=4\/kindAt C.p k=7:=by
 unfold plN at hp;by_cases h0:0<fm C.p i
 ·rw[c7 h0]at hp;have:=(qe hC hx he (k:=k+1) o_ o_ o_ hj o_).1;rw[show k+1-1=k by omega]at this;exact .inr this
 ·rw[b8 h0]at hp;have ht:fm C.p i= -(k:Int):=o_;unfold fm at ht;have MT:=jt C.p;split at ht
  ·have:=(MT (ownOf C.p i)).1;omega
  ·split at ht
   ·rw[dt]at ht
    cases M6:elseAt C.p i with
    | none=>rw[M6]at ht;simp only[cM]at ht;omega
    | some j=>rw[M6]at ht;simp only[cM]at ht;have N9:j=k:=o_;rw[N9]at M6;obtain⟨_,_,_,_,_,_,_,w,hw,w4⟩:=bu M6;exact .inl (by rw[bc hw];exact w4)
   ·have:=(MT i).1;omega
structure LsT (C:Cx) (x:Sc) (base:Int) (ds0 pn0:List Int) (k:Nat) (L:Ls) (ds pn:List Int):Prop where
 pre:∃es,ds=ds0++es/\∀v,es.head?=some v->v=base
 ty:Ty C L.g.I7 ds pn base
 J4:∀i,x.f<i->i<k->kindAt C.p i≠4->kindAt C.p i≠7->1<=atL L.J4 i/\ds[(atL L.J4 i).toNat]?=some base
 pos:∀i,x.f<i->i<k->jumps C.p i->Cd L.g.I7 ds (atL L.pos i) base
 lv:∀j∈L.lv,Cd L.g.I7 ds j (base+1)
 lvo:x.L2=true->L.lv=[]
 pn:∀j∈pn,j∈pn0\/j∈L.lv\/∃i,x.f<i/\i<k/\jumps C.p i/\(k:Int)<=plN C.p i/\j=atL L.pos i
 hl:L.J4.length=C.p.length
 pl:L.pos.length=C.p.length
theorem mI {ds0 ds es:List Int}(h:∃a0,ds=ds0++a0/\∀v,a0.head?=some v->v=base)(he:∀v,es.head?=some v->v=base):∃a0,ds++es=ds0++a0/\∀v,a0.head?=some v->v=base:=by
 obtain⟨a0,rfl,h2⟩:=h;refine⟨a0++es,by rw[j9],fun v hv=>?_⟩
 cases a0 with|nil=>exact he v hv|cons a a0=>exact h2 v hv
structure LT (C:Cx) (x:Sc) (base:Int) (k k':Nat) (L L':Ls):Prop where
 mono:L.g.J3<=L'.g.J3
 ext:∀i c,bd L.g.I7 i=some c->bd L'.g.I7 i=some c
 ty:L'.g.J3<=C.I8->ck C x<=C.I8->∀ds0 pn0 ds pn,LsT C x base ds0 pn0 k L ds pn->∃es pn',LsT C x base ds0 pn0 k' L' (ds++es) pn'
theorem LT.trans {k k' k'':Nat}{L L' L'':Ls}(h:LT C x base k k' L L')(h':LT C x base k' k'' L' L''):LT C x base k k'' L L'':=
 ⟨D4 h.mono h'.mono,fun i c g=>h'.ext i c (h.ext i c g),fun hm ht ds0 pn0 ds pn hL=>by
  obtain⟨es,pn1,h1⟩:=h.ty (D4 h'.mono hm) ht ds0 pn0 ds pn hL;obtain⟨fs,pn2,h2⟩:=h'.ty hm ht ds0 pn0 _ pn1 h1
  exact⟨es++fs,pn2,by rw[<-j9];exact h2⟩⟩
theorem eO {s:Gs}{d code arg line:Int}{chain:List Int}:∀i c,bd s.I7 i=some c->bd (aC C s d code arg line chain).I7 i=some c:=fun i c h=>by
 exact V111
theorem Fv {s:Gs}{d code arg line:Int}{chain:List Int}:bd (aC C s d code arg line chain).I7 s.I7.length=some code:=by simp[bd,aC,bL]
theorem yg {ds es:List Int}{hs:List Int}{k:Nat}(h:∀i,x.f<i->i<k->kindAt C.p i≠4->kindAt C.p i≠7->1<=atL hs i/\ds[(atL hs i).toNat]?=some base):∀i,x.f<i->i<k->kindAt C.p i≠4->kindAt C.p i≠7->1<=atL hs i/\(ds++es)[(atL hs i).toNat]?=some base:=fun i h1 h2 h3 h4=>by
 obtain⟨a,b⟩:=h i h1 h2 h3 h4;exact⟨a,by rw[j7 (aH b)];exact b⟩
theorem Jd (hC:CxOk C)(hx:ScOk C x ins){e:Nat}(he:endAt C.p x.f=some e){k:Nat}{ln:LP}(hk:C.p[k]?=some ln)(hk1:x.f<k)(MO:k<e)(hb:C.I8<=base)(h4:ln.J1=4)(L:Ls):
  LT C x base k (k+1) L (bB C x k ln (bH C rep x ins base k ln L)):=by
 have R8:=bc hk;have Nf:=aH hk;obtain⟨o1,o2,o3,o4⟩:=hx.own4 hC he hk1 o_ hk h4;obtain⟨y,_,hy,Vu,_⟩:=bu o1;have hB:bB C x k ln (bH C rep x ins base k ln L)=bH C rep x ins base k ln L:=by unfold bB;rw[b8 o_]
 rw[hB];unfold bH;rw[c7 h4];dsimp only;refine⟨v2 _,fun i c h=>by rw[dB];exact eO i c h,fun hm ht ds0 pn0 ds pn hL=>?_⟩;have hn:ds.length=L.g.I7.length:=hL.ty.len;have hJ:=hL.pos (ownOf C.p k) o2 o3 (.inl (by rw[bc hy];exact Vu))
 have h1:Ty C (aC C L.g base 10 0 k x.J0).I7 (ds++[base]) ((L.g.I7.length:Int)::pn) base:=
  hL.ty.emit (dy hL.ty.pos hb (fun h=>o_) (fun h=>o_) (fun h=>o_) (fun h=>o_) (fun h=>o_) (fun h=>o_) (fun h=>o_) (fun h=>o_) o_) base (fun h=>absurd rfl h.1) (fun i hi=>by simp[hi]) (fun _=> .inl s_)
 have YE:Cd (aC C L.g base 10 0 k x.J0).I7 (ds++[base]) (atL L.pos (ownOf C.p k)) base:=hJ.ext eO _
 generalize hj:atL L.pos (ownOf C.p k)=j at *
 have h2:=h1.patch (pn':=((L.g.I7.length:Int)::pn).filter (· !=j)) YE (fun i hi=>by
  by_cases OB:i=j
  ·exact .inl OB
  ·exact .inr (A7.2 ⟨hi,by simpa using OB⟩))
 refine⟨[base],_,mI hL.pre (fun v hv=>by simpa using hv.symm),h2,?_,fun i g1 g2 g3=>?_,fun j hj=>?_,hL.lvo,fun i hi=>?_,hL.hl,by simp[hL.pl]⟩
 ·intro i g1 g2 g3 g4;rcases m7 i k with Mz|MT
  ·exact yg hL.J4 i g1 Mz g3 g4
  ·rw[show i=k by omega]at g3;omega
 ·dsimp only;rcases m7 i k with Mz|MT
  ·rw[gr o_];exact(hL.pos i g1 Mz g3).ext (fun a c h=>by rw[dB];exact eO a c h) _
  ·have Oz:i=k:=o_;subst Oz;rw[fA aaI];exact⟨o_,10,base,by rw[dB,d7];exact Fv,by rw[d7,m5 o_,hn];simp,.inl rfl,rfl⟩
 ·exact(hL.lv j hj).ext (fun a c h=>by rw[dB];exact eO a c h) _
 ·obtain⟨hi,MF⟩:=A7.1 hi;have MF:i≠j:=by simpa using MF
  rcases d6.1 hi with rfl|hi
  ·refine .inr (.inr ⟨k,hk1,o_,.inr (.inl o_),?_,by dsimp only;rw[fA aaI]⟩);have:=(Da hC hx he hk1 MO (.inr (.inl o_))).1;omega
  ·rcases hL.pn i hi with h|h|⟨i',q1,q2,q3,q4,q5⟩
   ·exact .inl h
   ·exact .inr (.inl h)
   ·refine .inr (.inr ⟨i',q1,o_,q3,?_,by dsimp only;rw[gr o_];exact q5⟩);rcases H7 q4 with h|h
    ·omega
    ·have:=Hy hC hx he q1 q2 MO q3 o_ h.symm;rw[this,hj]at q5;exact absurd q5 MF
theorem La (hC:CxOk C)(hx:ScOk C x ins){e:Nat}(he:endAt C.p x.f=some e){k:Nat}{ln:LP}(hk:C.p[k]?=some ln)(hk1:x.f<k)(MO:k<e)(hb:C.I8<=base)(h7:ln.J1=7)(L:Ls):
  LT C x base k (k+1) L (bB C x k ln (bH C rep x ins base k ln L)):=by
 have R8:=bc hk;have Nf:=aH hk;obtain⟨k1,k2,k3,_,k5⟩:=zy hC hx he hk1 MO hk h7;obtain⟨_,⟨o1,_⟩|⟨_,o3,o4,y,hy,ho⟩⟩:=hx.own7 hC he hk1 o_ hk h7
 ·omega
 have Sw:=bc hy
 have hA:LT C x base k k L (bH C rep x ins base k ln L)/\(bH C rep x ins base k ln L).pos=L.pos/\(bH C rep x ins base k ln L).lv=L.lv/\(bH C rep x ins base k ln L).J4=L.J4:=by
  unfold bH;rw[b8 o_,c7 h7,b8 k5];split
  ·rename_i h5;refine⟨⟨v2 _,eO,fun hm ht ds0 pn0 ds pn hL=>?_⟩,rfl,rfl,rfl⟩;obtain⟨b1,b2⟩:=hL.J4 (ownOf C.p k) o3 o4 o_ o_;refine⟨[base],pn,mI hL.pre (fun v hv=>by simpa using hv.symm),?_,yg hL.J4,fun i g1 g2 g3=>(hL.pos i g1 g2 g3).ext eO _,fun j hj=>(hL.lv j hj).ext eO _,hL.lvo,hL.pn,hL.hl,hL.pl⟩;refine hL.ty.emit (dy hL.ty.pos hb (fun h=>o_) (fun h=>o_) (fun h=>o_) (fun h=>o_) (fun h=>o_) (fun h=>o_) (fun h=>o_) (fun h=>o_) o_) base (fun h=>absurd rfl h.1) (fun i hi=>hi) (fun _=> .inr ⟨b1,?_⟩);show(ds++[base])[(atL L.J4 (ownOf C.p k)).toNat]?=some base;rw[j7 (aH b2)];exact b2
  ·exact⟨⟨v2 _,fun _ _ h=>h,fun hm ht ds0 pn0 ds pn hL=>⟨[],pn,by rw[m6];exact hL⟩⟩,rfl,rfl,rfl⟩
 obtain⟨hA,ep,el,eh⟩:=hA;refine hA.trans (k':=k) ?_
 generalize bH C rep x ins base k ln L=L1 at *
 unfold bB;rw[c7 ⟨h7,k5⟩];refine⟨v2 _,fun i c h=>by dsimp only;rw[dB];exact h,fun hm ht ds0 pn0 ds pn hL=>?_⟩;have hJ:=hL.pos (iN C.p k) o_ k2 k3
 generalize hj:atL L1.pos (iN C.p k)=j at *
 refine⟨[],pn.filter (· !=j),?_⟩;rw[m6];have OQ:∀i c,bd L1.g.I7 i=some c->bd (bU L1.g.I7 j L1.g.I7.length) i=some c:=fun i c h=>by rw[dB];exact h
 have WX:¬jumps C.p k:=by unfold jumps;omega
 refine⟨hL.pre,hL.ty.patch hJ (fun i hi=>by
  by_cases OB:i=j
  ·exact .inl OB
  ·exact .inr (A7.2 ⟨hi,by simpa using OB⟩)),fun i g1 g2 g3 g4=>?_,fun i g1 g2 g3=>?_,fun i hi=>?_,hL.lvo,fun i hi=>?_,hL.hl,hL.pl⟩
 ·rcases m7 i k with Mz|MT
  ·exact hL.J4 i g1 Mz g3 g4
  ·rw[show i=k by omega]at g4;omega
 ·rcases m7 i k with Mz|MT
  ·simpa using(hL.pos i g1 Mz g3).ext OQ []
  ·rw[show i=k by omega]at g3;exact absurd g3 WX
 ·simpa using(hL.lv i hi).ext OQ []
 ·obtain⟨hi,MF⟩:=A7.1 hi;have MF:i≠j:=by simpa using MF
  rcases hL.pn i hi with h|h|⟨i',q1,q2,q3,q4,q5⟩
  ·exact .inl h
  ·exact .inr (.inl h)
  ·refine .inr (.inr ⟨i',q1,o_,q3,?_,q5⟩);rcases H7 q4 with h|h
   ·omega
   ·have:=Jr hC hx he q1 q2 MO q3 o_ h.symm;rw[this,hj]at q5;exact absurd q5 MF
structure Mid (C:Cx) (x:Sc) (base:Int) (k:Nat) (L:Ls) (g:Gs):Prop where
 mono:L.g.J3<=g.J3
 ext:∀i c,bd L.g.I7 i=some c->bd g.I7 i=some c
 ty:g.J3<=C.I8->∀ds0 pn0 ds pn,LsT C x base ds0 pn0 k L ds pn->∃es,es≠[]/\(∀v,es.head?=some v->v=base)/\Ty C g.I7 (ds++es) pn (base+1)
theorem KE {k:Nat}(MA:qI C rep x ins){e:Ex}(he:e.ok)(MV:lx C e.toks)(hb:C.I8<=base)(L:Ls):Mid C x base k L (ew C rep x ins k e base ⟨L.g.I7,L.g.J3,true⟩):=by
 have h:=Ht (line:=k) MA e base ⟨L.g.I7,L.g.J3,true⟩ he MV hb
 exact⟨h.mono,h.ext,fun hm ds0 pn0 ds pn hL=>by
  obtain⟨es,e1,_,e3,e4⟩:=h.ty hm ds pn hL.ty
  exact⟨es,e1 trivial,e3,e4⟩⟩
theorem FC {ds es hs:List Int}{k n:Nat}(QG:1<=n)(hk:k<hs.length)(hn:ds.length=n)(h1:es≠[])(h2:∀v,es.head?=some v->v=base)(h:∀i,x.f<i->i<k->kindAt C.p i≠4->kindAt C.p i≠7->1<=atL hs i/\ds[(atL hs i).toNat]?=some base):
  ∀i,x.f<i->i<k+1->kindAt C.p i≠4->kindAt C.p i≠7->1<=atL (hs.set k (n:Int)) i/\(ds++es)[(atL (hs.set k (n:Int)) i).toNat]?=some base:=fun i g1 g2 g3 g4=>by
 rcases m7 i k with Mz|MT
 ·rw[gr o_];obtain⟨a,b⟩:=h i g1 Mz g3 g4;exact⟨a,by rw[j7 (aH b)];exact b⟩
 ·rw[show i=k by omega,fA hk];refine⟨o_,?_⟩;rw[d7,m5 o_,hn,w9]
  cases es with|nil=>exact absurd rfl h1|cons a r=>rw[e8];exact congrArg some (h2 a rfl)
theorem zE (hC:CxOk C)(hx:ScOk C x ins){e:Nat}(he:endAt C.p x.f=some e){k:Nat}(MO:k<e)(h4:kindAt C.p k≠4)(h7:kindAt C.p k≠7){i':Nat}(q1:x.f<i')(q2:i'<k)(q3:jumps C.p i')(q4:(k:Int)<=plN C.p i'):((k+1:Nat):Int)<=plN C.p i':=by
 rcases H7 q4 with h|h
 ·omega
 ·rcases GC hC hx he q1 q2 MO q3 h.symm with h'|h'
  ·exact absurd h' h4
  ·exact absurd h' h7
theorem sd {c a d:Int}(h:c=2\/c=4\/(5<=c/\c<=9)\/c=11\/c=17):gA C ⟨c,a⟩ d=d-1:=by unfold gA;dsimp only;rw[b8 o_,c7 h]
theorem IM (hC:CxOk C)(hx:ScOk C x ins)(MA:qI C rep x ins){e:Nat}(he:endAt C.p x.f=some e){k:Nat}{ln:LP}(hk:C.p[k]?=some ln)(hk1:x.f<k)(MO:k<e)(hb:base=C.I8\/(x.L2=false/\C.I8<=base))(h0:ln.J1≠0)(h4:ln.J1≠4)(h7:ln.J1≠7)
  (MV:lx C ln.K9) (OJ:ln.J1=1->0<=dG x.J9 ln.J8/\dG x.J9 ln.J8<x.J9.length) (L:Ls):LT C x base k (k+1) L (bB C x k ln (bH C rep x ins base k ln L)):=by
 have R8:=bc hk;have Nf:=aH hk;have P4:=hC.line _ _ hk;have O4:=rk (P4.2.2.2.2 o_);have Ps:C.I8<=base:=o_;have Vm:=hx.first;have hB:bB C x k ln (bH C rep x ins base k ln L)=bH C rep x ins base k ln L:=by unfold bB;rw[b8 o_]
 rw[hB];unfold bH;rw[b8 h4,b8 h7];dsimp only;have hm:=KE (x:=x) (k:=k) MA O4.1 (by rw[<-O4.2];exact MV) Ps L
 generalize ew C rep x ins k (exL ln.K9) base ⟨L.g.I7,L.g.J3,true⟩=g at *
 have fin:∀(L':Ls) (it:LO),L'.g=⟨g.I7++[it],g.J3,false⟩->L'.J4=L.J4.set k L.g.I7.length->(ck C x<=C.I8->g.J3<=C.I8->0<g.I7.length->OpTy C g.I7.length it (base+1))->(eJ it.J2.I9->base=gA C it.J2 (base+1))->
   ((¬isJ it.J2.I9/\L'.pos=L.pos/\L'.lv=L.lv/\¬jumps C.p k)\/(it.J2.I9=10/\L'.pos=L.pos/\L'.lv=L.lv++[(g.I7.length:Int)]/\¬jumps C.p k/\x.L2=false)\/(it.J2.I9=11/\L'.pos=L.pos.set k g.I7.length/\L'.lv=L.lv/\jumps C.p k))->LT C x base k (k+1) L L':=by
  intro L' it e1 e2 Mx hf P3
  have Vy:∀i c,bd g.I7 i=some c->bd L'.g.I7 i=some c:=fun i c h=>by
   have:=kB h;unfold bd at h⊢;rw[e1];dsimp only;rw[j7 this];exact h
  have OQ:∀i c,bd L.g.I7 i=some c->bd L'.g.I7 i=some c:=fun i c h=>Vy i c (hm.ext i c h);refine⟨by rw[e1];exact hm.mono,OQ,fun OS Nx ds0 pn0 ds pn hL=>?_⟩;rw[e1]at OS;obtain⟨es,f1,f2,f3⟩:=hm.ty OS ds0 pn0 ds pn hL;have MF:es++[base+1]≠[]:=s_
  have PR:∀v,(es++[base+1]).head?=some v->v=base:=fun v hv=>by
   cases es with|nil=>exact absurd rfl f1|cons a r=>exact f2 v hv
  have Mw:=f3.len;have MQ:bd L'.g.I7 g.I7.length=some it.J2.I9:=by rw[e1];simp[bd]
  have Py:(ds++(es++[base+1]))[g.I7.length]?=some (base+1):=by rw[<-j9,m5 o_,Mw];simp
  have Rq:∀pn',(∀i∈pn,i∈pn')->(isJ it.J2.I9->(g.I7.length:Int)∈pn')->Ty C L'.g.I7 (ds++(es++[base+1])) pn' base:=fun pn' q1 q2=>by
   rw[e1,<-j9];exact f3.emit (Mx Nx OS f3.pos) base hf q1 (fun h=> .inl (q2 h))
  have hh:=FC (x:=x) (C:=C) (hs:=L.J4) (k:=k) (n:=L.g.I7.length) hL.ty.pos (by rw[hL.hl];exact Nf) hL.ty.len MF PR hL.J4;rw[<-e2]at hh
  have RS:¬jumps C.p k->∀i,i<k+1->jumps C.p i->i<k:=fun hn i h1 h2=>by
   rcases m7 i k with h|h
   ·exact h
   ·rw[show i=k by omega]at h2;exact absurd h2 hn
  rcases P3 with⟨c1,c2,c3,c4⟩|⟨c1,c2,c3,c4,c5⟩|⟨c1,c2,c3,c4⟩
  ·refine⟨es++[base+1],pn,mI hL.pre PR,Rq pn (fun _ h=>h) (fun h=>absurd h c1),hh,fun i g1 g2 g3=>?_,fun j hj=>?_,fun ho=>by rw[c3];exact hL.lvo ho,fun j hj=>?_,by rw[e2];simp[hL.hl],by rw[c2];exact hL.pl⟩
   ·rw[c2];exact(hL.pos i g1 (RS c4 i g2 g3) g3).ext OQ _
   ·rw[c3]at hj;exact(hL.lv j hj).ext OQ _
   ·rcases hL.pn j hj with h|h|⟨i',q1,q2,q3,q4,q5⟩
    ·exact .inl h
    ·exact .inr (.inl (by rw[c3];exact h))
    ·exact .inr (.inr ⟨i',q1,o_,q3,zE hC hx he MO o_ o_ q1 q2 q3 q4,by rw[c2];exact q5⟩)
  ·refine⟨es++[base+1],(g.I7.length:Int)::pn,mI hL.pre PR,Rq _ (fun i h=>by simp[h]) (fun _=>s_),hh,fun i g1 g2 g3=>?_,fun j hj=>?_,fun ho=>absurd (c5.symm.trans ho) s_,fun j hj=>?_,by rw[e2];simp[hL.hl],by rw[c2];exact hL.pl⟩
   ·rw[c2];exact(hL.pos i g1 (RS c4 i g2 g3) g3).ext OQ _
   ·rw[c3,d9,t7]at hj;rcases hj with hj|rfl
    ·exact(hL.lv j hj).ext OQ _
    ·exact⟨o_,10,base+1,by rw[d7,MQ,c1],by rw[d7];exact Py,.inl rfl,rfl⟩
   ·rcases d6.1 hj with rfl|hj
    ·exact .inr (.inl (by rw[c3];simp))
    ·rcases hL.pn j hj with h|h|⟨i',q1,q2,q3,q4,q5⟩
     ·exact .inl h
     ·exact .inr (.inl (by rw[c3];simp[h]))
     ·exact .inr (.inr ⟨i',q1,o_,q3,zE hC hx he MO o_ o_ q1 q2 q3 q4,by rw[c2];exact q5⟩)
  ·refine⟨es++[base+1],(g.I7.length:Int)::pn,mI hL.pre PR,Rq _ (fun i h=>by simp[h]) (fun _=>s_),hh,fun i g1 g2 g3=>?_,fun j hj=>?_,fun ho=>by rw[c3];exact hL.lvo ho,fun j hj=>?_,by rw[e2];simp[hL.hl],by rw[c2];simp[hL.pl]⟩
   ·rw[c2];rcases m7 i k with Mz|MT
    ·rw[gr o_];exact(hL.pos i g1 Mz g3).ext OQ _
    ·rw[show i=k by omega,fA aaI];exact⟨o_,11,base+1,by rw[d7,MQ,c1],by rw[d7];exact Py,.inr rfl,by simp[wR]⟩
   ·rw[c3]at hj;exact(hL.lv j hj).ext OQ _
   ·rcases d6.1 hj with rfl|hj
    ·refine .inr (.inr ⟨k,hk1,o_,c4,?_,by rw[c2,fA aaI]⟩);have:=(Da hC hx he hk1 MO c4).1;omega
    ·rcases hL.pn j hj with h|h|⟨i',q1,q2,q3,q4,q5⟩
     ·exact .inl h
     ·exact .inr (.inl (by rw[c3];exact h))
     ·exact .inr (.inr ⟨i',q1,o_,q3,zE hC hx he MO o_ o_ q1 q2 q3 q4,by rw[c2,gr o_];exact q5⟩)
 have O1:∀c:Int,c≠3->c≠5->ln.J1=c->¬jumps C.p k:=fun c c3 c5 hc=>by unfold jumps;omega
 split
 ·rename_i k1;obtain⟨s1,s2⟩:=OJ k1;have M1:=nU (C:=C);have YX:cA C true=2\/cA C true=4:=by rw[M1];split<;>omega
  refine fin _ (bL C g (base+1) (cA C true) (fu C x (base+1) (dG x.J9 ln.J8)) k x.J0) rfl rfl (fun Nx OS hp=>dy hp o_ (fun _=>⟨o_,?_⟩) (fun h=>o_) (fun h=>o_) (fun h=>o_) (fun h=>o_) (fun h=>o_) (fun h=>o_) (fun h=>o_) o_) (fun _=>?_) (.inl ⟨by unfold isJ;dsimp only[bL];omega,rfl,rfl,O1 1 o_ o_ k1⟩)
  ·unfold ck at Nx
   cases ho:x.L2 with
   | true=>
    rw[c7 ho]at Nx
    exact FI hC ho s1 o_
   | false=>rw[b8 (by rw[ho];simp)]at Nx;exact rg ho o_ o_
  ·show base=gA C ⟨cA C true,_⟩ (base+1);rw[sd o_];omega
 split
 ·rename_i k2;refine fin _ (bL C g (base+1) 17 0 k x.J0) rfl rfl (fun Nx OS hp=>dy hp o_ (fun h=>o_) (fun h=>o_) (fun h=>o_) (fun h=>o_) (fun h=>o_) (fun h=>o_) (fun h=>o_) (fun h=>o_) o_) (fun _=>?_) (.inl ⟨by unfold isJ;dsimp only[bL];omega,rfl,rfl,O1 2 o_ o_ k2⟩);show base=gA C ⟨17,_⟩ (base+1);rw[sd o_];omega
 split
 ·rename_i k6;unfold be;dsimp only;split
  ·rename_i ho
   have VN:base=C.I8:=by
    rcases hb with h|⟨h,_⟩
    ·exact h
    ·rw[ho]at h;cases h
   split
   ·rename_i Ni;exact fin _ (bL C g (base+1) 14 C.args k x.J0) rfl rfl (fun Nx OS hp=>dy hp o_ (fun h=>o_) (fun h=>o_) (fun h=>o_) (fun h=>o_) (fun h=>o_) (fun _=>⟨Ni,rfl,o_⟩) (fun h=>o_) (fun h=>o_) o_) (fun h=>absurd rfl h.2.1) (.inl ⟨by unfold isJ;dsimp only[bL];omega,rfl,rfl,O1 6 o_ o_ k6⟩)
   ·rename_i Ni;exact fin _ (bL C g (base+1) 16 (C.args+16*C.I8) k x.J0) rfl rfl (fun Nx OS hp=>dy hp o_ (fun h=>o_) (fun h=>o_) (fun h=>o_) (fun h=>o_) (fun h=>o_) (fun h=>o_) (fun _=>⟨by simpa using Ni,rfl,o_⟩) (fun h=>o_) o_) (fun h=>absurd rfl h.2.2) (.inl ⟨by unfold isJ;dsimp only[bL];omega,rfl,rfl,O1 6 o_ o_ k6⟩)
  ·rename_i ho;rw[b8 s_];exact fin _ (bL C g (base+1) 10 0 k x.J0) rfl rfl (fun Nx OS hp=>dy hp o_ (fun h=>o_) (fun h=>o_) (fun h=>o_) (fun h=>o_) (fun h=>o_) (fun h=>o_) (fun h=>o_) (fun h=>o_) o_) (fun h=>absurd rfl h.1) (.inr (.inl ⟨rfl,rfl,rfl,O1 6 o_ o_ k6,by simpa using ho⟩))
 ·rename_i n1 n2 n6;refine fin _ (bL C g (base+1) 11 0 k x.J0) rfl rfl (fun Nx OS hp=>dy hp o_ (fun h=>o_) (fun h=>o_) (fun h=>o_) (fun h=>o_) (fun h=>o_) (fun h=>o_) (fun h=>o_) (fun h=>o_) o_) (fun _=>?_) (.inr (.inr ⟨rfl,rfl,rfl,by unfold jumps;omega⟩));show base=gA C ⟨11,_⟩ (base+1);rw[sd o_];omega
end
def nX (C:Cx):Prop:=∀(g e k:Nat) (ln:LP),bT C g->endAt C.p g=some e->g<k->k<e->C.p[k]?=some ln->ln.J1≠0/\(ln.J1≠7->lx C ln.K9)/\(ln.J1=1->0<=dG (localsOf C.p (g:Int)) ln.J8/\dG (localsOf C.p (g:Int)) ln.J8<(localsOf C.p (g:Int)).length)
section
variable {C:Cx} {x:Sc} {ins:List Nat} {rep:Sc->List Nat->Nat->Nat->Int->Gs->Gs} {base:Int}
theorem xy:∀(n k:Nat) (L:Ls),(∀i,k<=i->i<k+n->∃ln,C.p[i]?=some ln)->dI C rep x ins base (n+1) k L=dI C rep x ins base 1 (k+n) (dI C rep x ins base n k L)
 | 0,k,L,_=>rfl
 | n+1,k,L,h=>by
  obtain⟨ln,hk⟩:=h k (d8 _) o_;rw[dI,hk];dsimp only;rw[xy n (k+1) _ (fun i h1 h2=>h i o_ o_),show k+1+n=k+(n+1) by omega];rw[show dI C rep x ins base (n+1) k L=dI C rep x ins base n (k+1) (bB C x k ln (bH C rep x ins base k ln L)) by rw[dI,hk]]
theorem Jq (hC:CxOk C)(hl:nX C)(hx:ScOk C x ins)(MA:qI C rep x ins){e:Nat}(he:endAt C.p x.f=some e)(hb:base=C.I8\/(x.L2=false/\C.I8<=base)){k:Nat}{ln:LP}(hk:C.p[k]?=some ln)(hk1:x.f<k)(MO:k<e)(L:Ls):LT C x base k (k+1) L (bB C x k ln (bH C rep x ins base k ln L)):=by
 obtain⟨h0,MV,OJ⟩:=hl x.f e k ln hx.fn he hk1 MO hk;have Ps:C.I8<=base:=o_;by_cases h4:ln.J1=4
 ·exact Jd hC hx he hk hk1 MO Ps h4 L
 by_cases h7:ln.J1=7
 ·exact La hC hx he hk hk1 MO Ps h7 L
 ·exact IM hC hx MA he hk hk1 MO hb h0 h4 h7 (MV h7) (fun h1=>by rw[hx.loc];exact OJ h1) L
theorem HX (hC:CxOk C)(hl:nX C)(hx:ScOk C x ins)(MA:qI C rep x ins){e:Nat}(he:endAt C.p x.f=some e)(hb:base=C.I8\/(x.L2=false/\C.I8<=base)):∀(n k:Nat) (L:Ls),k+n=e->x.f<k->LT C x base k e L (dI C rep x ins base n k L)
 | 0,k,L,h1,_=>by rw[dI,<-h1];exact⟨v2 _,fun _ _ h=>h,fun _ _ _ _ ds pn h=>⟨[],pn,by rw[m6];exact h⟩⟩
 | n+1,k,L,h1,h2=>by
  obtain⟨_,_,_,_,_,M6⟩:=aN he;obtain⟨ln,hk⟩:=ae (l:=C.p) (k:=k) o_;rw[dI,hk];exact(Jq hC hl hx MA he hb hk h2 o_ L).trans (HX hC hl hx MA he hb n (k+1) _ o_ o_)
theorem ux (hC:CxOk C)(hl:nX C)(hx:ScOk C x ins)(MA:qI C rep x ins)(hb:base=C.I8\/(x.L2=false/\C.I8<=base))(s:Gs):LinT C x base s (bq C rep x ins base s):=by
 obtain⟨e,he,e2,e3,e4,_⟩:=hx.endE hC;obtain⟨ln,hk,h7⟩:=bK he;have Ps:C.I8<=base:=o_;have MP:ownOf C.p e=x.f:=jY he;obtain⟨n,hn⟩:∃n,e=x.f+1+n:=⟨e-x.f-1,o_⟩;have ME:=HX hC hl hx MA he hb n (x.f+1) (cv C s) o_ o_
 have WB:bq C rep x ins base s=((be C x e true (base+1) {dI C rep x ins base n (x.f+1) (cv C s)with g:=aC C (dI C rep x ins base n (x.f+1) (cv C s)).g base 0 0 e x.J0}).g,(be C x e true (base+1) {dI C rep x ins base n (x.f+1) (cv C s)with g:=aC C (dI C rep x ins base n (x.f+1) (cv C s)).g base 0 0 e x.J0}).lv):=by
  unfold bq;rw[e4,show e-x.f=n+1 by omega,xy _ _ _ (fun i h1 h2=>ae o_),<-hn];generalize dI C rep x ins base n (x.f+1) (cv C s)=L
  have hA:bH C rep x ins base e ln L=be C x e true (base+1) {L with g:=aC C L.g base 0 0 e x.J0}:=by unfold bH;rw[b8 o_,c7 h7,c7 MP]
  have hB:∀Z,bB C x e ln Z=Z:=fun Z=>by unfold bB;rw[b8 (fun h=>h.2 MP)]
  rw[dI,hk];dsimp only;rw[dI,hB,hA]
 rw[WB]
 generalize dI C rep x ins base n (x.f+1) (cv C s)=L at *
 have Xr:(be C x e true (base+1) {L with g:=aC C L.g base 0 0 e x.J0}).lv=L.lv:=by
  unfold be;split
  ·split<;>rfl
  ·rfl
 rw[Xr]
 have OS:(be C x e true (base+1) {L with g:=aC C L.g base 0 0 e x.J0}).g.J3=L.g.J3:=by
  unfold be;split
  ·split<;>rfl
  ·rfl
 have WR:∀i c,bd L.g.I7 i=some c->bd (be C x e true (base+1) {L with g:=aC C L.g base 0 0 e x.J0}).g.I7 i=some c:=fun i c h=>by
  have h1:=eO (C:=C) (d:=base) (code:=0) (arg:=0) (line:=(e:Int)) (chain:=x.J0) i c h;unfold be;split
  ·split
   ·exact eO i c h1
   ·exact eO i c h1
  ·exact h1
 refine⟨by show s.J3<=_;rw[OS];exact ME.mono,fun i c h=>WR i c (ME.ext i c h),fun hm Nx ds pn ht=>?_⟩;have hm:L.g.J3<=C.I8:=by rw[<-OS];exact hm
 obtain⟨es,pn1,hL⟩:=ME.ty hm Nx ds pn ds pn ⟨⟨[],s_,fun v hv=>absurd hv s_⟩,ht,fun i h1 h2=>o_,fun i h1 h2=>o_,fun j hj=>absurd hj (by simp[cv]),fun _=>rfl,fun j hj=> .inl hj,by simp[cv],by simp[cv]⟩
 have Rq:∀j∈pn1,j∈pn++L.lv:=fun j hj=>by
  rcases hL.pn j hj with h|h|⟨i,q1,q2,q3,q4,_⟩
  ·simp[h]
  ·simp[h]
  ·have:=(Da hC hx he q1 q2 q3).2;omega
 have h1:Ty C (aC C L.g base 0 0 e x.J0).I7 ((ds++es)++[base]) (pn++L.lv) (base+1):=
  hL.ty.emit (dy hL.ty.pos Ps (fun h=>o_) (fun h=>o_) (fun h=>o_) (fun h=>o_) (fun h=>o_) (fun h=>o_) (fun h=>o_) (fun h=>o_) o_) (base+1) (fun _=>by unfold gA;rw[c7 (by dsimp only[bL];omega)]) Rq (fun h=>by unfold isJ at h;dsimp only[bL]at h;omega)
 have PR:∀v,(es++[base]).head?=some v->v=base:=fun v hv=>by
  obtain⟨a0,g1,g2⟩:=hL.pre;have:a0=es:=by simpa using g1.symm
  subst this
  cases a0 with|nil=>simpa using hv.symm|cons a r=>exact g2 v hv
 by_cases ho:x.L2=true
 ·have VN:base=C.I8:=by
   rcases hb with h|⟨h,_⟩
   ·exact h
   ·rw[ho]at h;cases h
  have Uw:=hL.lvo ho;refine⟨es++[base,base+1],s_,fun v hv=>PR v (by cases es with|nil=>simpa using hv|cons a r=>simpa using hv),fun j hj=>absurd hj (by rw[Uw];simp),fun _=>Uw,fun D _=>?_⟩;have e1:ds++(es++[base,base+1])=((ds++es)++[base])++[base+1]:=s_;rw[e1];unfold be;rw[c7 ho];split
  ·rename_i Ni;exact h1.emit (dy h1.pos o_ (fun h=>o_) (fun h=>o_) (fun h=>o_) (fun h=>o_) (fun h=>o_) (fun _=>⟨Ni,rfl,o_⟩) (fun h=>o_) (fun h=>o_) o_) D (fun h=>absurd rfl h.2.1) (fun i h=>h) (fun h=>by unfold isJ at h;dsimp only[bL]at h;omega)
  ·rename_i Ni;exact h1.emit (dy h1.pos o_ (fun h=>o_) (fun h=>o_) (fun h=>o_) (fun h=>o_) (fun h=>o_) (fun h=>o_) (fun _=>⟨by simpa using Ni,rfl,o_⟩) (fun h=>o_) o_) D (fun h=>absurd rfl h.2.2) (fun i h=>h) (fun h=>by unfold isJ at h;dsimp only[bL]at h;omega)
 ·have MX:x.L2=false:=by simpa using ho
  have hg:(be C x e true (base+1) {L with g:=aC C L.g base 0 0 e x.J0}).g=aC C L.g base 0 0 e x.J0:=by unfold be;rw[b8 ho,c7 rfl]
  rw[hg];refine⟨es++[base],s_,PR,fun j hj=>(hL.lv j hj).ext eO [base] |> fun h=>by rw[<-j9];exact h,fun h=>absurd h ho,fun D hD=>by rw[hD MX,<-j9];exact h1⟩
end
theorem Ia {C:Cx}(hC:CxOk C)(hl:nX C):∀(lev:Nat) {x:Sc} {ins:List Nat},ScOk C x ins->ins.length+lev=C.b.Md.toNat+1->qI C (cK C lev) x ins
 | 0,x,ins,hx,hi,line,g,d,s,hg,hd,hr=>by
  have:=(fN hr).1;have hin:=hC.inl
  omega
 | lev+1,x,ins,hx,hi,line,g,d,s,hg,hd,hr=>by
  have hy:=kc hC hx line hg;exact Ku hC hx hg hd s fun s'=>ux hC hl hy (Ia hC hl lev hy aab) (.inr ⟨rfl,o_⟩) s'
theorem pj {C:Cx}{c a d:Int}(h:c=13\/c=15):gA C ⟨c,a⟩ d=d+a:=by unfold gA;dsimp only;rw[b8 o_,b8 o_,b8 o_,c7 h]
structure TyF (C:Cx) (l:List LO) (ds:List Int):Prop where
 len:ds.length=l.length
 pos:0<l.length
 item:∀(i:Nat) (it:LO) (d:Int),l[i]?=some it->ds[i]?=some d->OpTy C i it d
 fall:∀(i:Nat) (it:LO) (d:Int),l[i]?=some it->ds[i]?=some d->eJ it.J2.I9->ds[i+1]?=some (gA C it.J2 d)
 jump:∀(i:Nat) (it:LO) (d:Int),l[i]?=some it->ds[i]?=some d->isJ it.J2.I9->1<=it.J2.J7/\ds[it.J2.J7.toNat]?=some (wR it.J2.I9 d)
theorem JJ {C:Cx}(hC:CxOk C)(hl:nX C){g:Nat}(hg:bT C g)(e5:C.args=argsN C.p g)(hm:(dH C g).J3<=C.I8):∃ds,TyF C (dH C g).I7 ds:=by
 have hS:ScOk C (bb C g) [g]:=⟨hg,rfl,⟨v2 _,by simp[bb]⟩,rfl,by simp[bb],fun _=>e5,rfl⟩;have hin:=hC.inl;have hw:=hC.I8;have hL:=ux (base:=C.I8) hC hl hS (Ia hC hl C.b.Md.toNat hS aab) (.inl rfl) (dQ C g)
 have Nx:ck C (bb C g)<=C.I8:=by have h1:=hL.mono;have h2:(bq C (cK C C.b.Md.toNat) (bb C g) [g] C.I8 (dQ C g)).1.J3<=C.I8:=hm;have h3:(dQ C g).J3=(localsOf C.p (g:Int)).length-C.args:=rfl;rw[h3]at h1;unfold ck;rw[c7 (show(bb C g).L2=true from rfl)];show((localsOf C.p (g:Int)).length:Int)-C.args<=C.I8;omega
 have h0:Ty C (dQ C g).I7 [0] [] C.I8:=by
  refine⟨rfl,by simp[dQ,aC],fun i it d h1 h2=>?_,fun i it d h1 h2 h3=>?_,fun i it d h1 h2 h3 h4=>?_⟩
  all_goals
   have hi:i=0:=by have:=aH h2;simpa using this
   subst hi;simp only[dQ,aC,t6,e8,Option.some.injEq]at h1 h2;subst h1;subst h2
  ·have hc:(bL C ⟨[],(localsOf C.p (g:Int)).length-C.args,false⟩ 0 (if C.J6=true then 13 else 15) C.I8 g []).J2.I9=13\/(bL C ⟨[],(localsOf C.p (g:Int)).length-C.args,false⟩ 0 (if C.J6=true then 13 else 15) C.I8 g []).J2.I9=15:=(by dsimp only[bL];split<;>simp);refine⟨by simp[bL],by simp[bL],⟨fun _=>rfl,fun h=>o_⟩,fun _=>⟨rfl,rfl⟩,fun h=>?_,fun h=>?_,fun h=>?_,fun h=>?_,fun h=>?_,fun h=>?_,fun h=>?_,fun _ h=>o_,fun _=>rfl⟩;all_goals(exfalso;omega)
  ·show [C.I8][0]?=some (gA C ⟨if C.J6=true then 13 else 15,C.I8⟩ 0);rw[pj (by split<;>omega)];simp
  ·have hc:(bL C ⟨[],(localsOf C.p (g:Int)).length-C.args,false⟩ 0 (if C.J6=true then 13 else 15) C.I8 g []).J2.I9=13\/(bL C ⟨[],(localsOf C.p (g:Int)).length-C.args,false⟩ 0 (if C.J6=true then 13 else 15) C.I8 g []).J2.I9=15:=(by dsimp only[bL];split<;>simp);unfold isJ at h3;exfalso;omega
 obtain⟨es,_,_,_,f4,f5⟩:=hL.ty hm Nx [0] [] h0
 have h2:∀D,Ty C (dH C g).I7 ([0]++es) [] D:=fun D=>by
  have:=f5 D (fun h=>by cases h);rw[f4 rfl,m6]at this;exact this
 generalize [0]++es=ds at *
 have both:∀{j:Nat} {v:Int},(ds++[v])[j]?=some v->(ds++[v+1])[j]?=some v->ds[j]?=some v:=fun{j v} g1 g2=>by
  rcases B1 j ds.length with hj|hj|hj
  ·rwa [j7 hj]at g1
  ·rw[hj,m5 (d8 _),w9,e8]at g2;injection g2 with g2;omega
  ·rw[e9 aab]at g1
   cases g1
 have hT:=h2 0;exact⟨ds,hT.len,hT.pos,hT.item,fun i it d h1 h3 h4=>both ((h2 _).fall i it d h1 h3 h4) ((h2 _).fall i it d h1 h3 h4),fun i it d h1 h3 h4=>⟨(hT.jump i it d h1 h3 h4 s_).1,both ((h2 _).jump i it d h1 h3 h4 s_).2 ((h2 _).jump i it d h1 h3 h4 s_).2⟩⟩
theorem alike.kindAt {p q:List LP}(h:alike p q)(k:Nat):kindAt p k=kindAt q k:=by
 unfold Go.Proofs.P.kindAt
 cases hx:p[k]? with|none=>rw[h.none hx]|some x=>obtain⟨y,hy,e1,_⟩:=h.get hx;rw[hy];exact e1
theorem alike.ownN {p q:List LP}(h:alike p q)(k:Nat):∀n,ownN p k n=ownN q k n
 | 0=>rfl
 | n+1=>by rw[Go.Proofs.P.ownN,Go.Proofs.P.ownN,h.endAt,h.elseAt,alike.ownN h k n]
theorem alike.ownOf {p q:List LP}(h:alike p q)(k:Nat):ownOf p k=ownOf q k:=by unfold Go.Proofs.P.ownOf;rw[h.ownN,h.len]
theorem alike.skipAt {p q:List LP}(h:alike p q)(k:Nat):skipAt p k=skipAt q k:=by unfold Go.Proofs.P.skipAt;rw[h.elseAt,kE,kE,h.endAt]
theorem alike.anyE {p q:List LP}(h:alike p q)(i:Nat):∀n j,anyE p i n j=anyE q i n j
 | 0,_=>rfl
 | n+1,j=>by rw[Go.Proofs.P.anyE,Go.Proofs.P.anyE,h.elseAt,alike.anyE h i n]
theorem alike.elsesIn {p q:List LP}(h:alike p q)(k e:Nat):∀n i,elsesIn p k e n i=elsesIn q k e n i
 | 0,_=>rfl
 | n+1,i=>by
  rw[Go.Proofs.P.elsesIn,Go.Proofs.P.elsesIn]
  cases hx:p[i]? with|none=>rw[h.none hx]|some x=>obtain⟨y,hy,e1,_⟩:=h.get hx;rw[hy];dsimp only;rw[e1,h.anyE,alike.elsesIn h k e n]
theorem alike.find {p q:List LP}(h:alike p q)(s:List UInt8):Go.Proofs.P.findN p 0 s=Go.Proofs.P.findN q 0 s:=h.findN 0 s
theorem alike.nameFirst {p q:List LP}(h:alike p q)(k:Nat):nameFirst p k=nameFirst q k:=by
 unfold Go.Proofs.P.nameFirst
 cases hx:p[k]? with|none=>rw[h.none hx]|some x=>obtain⟨y,hy,_,e2,_⟩:=h.get hx;rw[hy];dsimp only;rw[e2,h.find]
theorem alike.headOk {p q:List LP}(h:alike p q):headOk p=headOk q:=by
 cases p with
 | nil=>have:=h.len;cases q with
  | nil=>rfl
  | cons=>simp at this
 | cons x p=>cases q with
  | nil=>have:=h.len;simp at this
  | cons y q=>obtain⟨z,hz,e1,e2,e3⟩:=h.get (k:=0) (x:=x) rfl;simp at hz;subst hz;unfold Go.Proofs.P.headOk;dsimp only;rw[e1,e2,e3]
theorem sq {F F':Nat->Nat->Bool}{p q:List LP}(h:alike p q)(hF:∀k e,F k e=true->F' k e=true):∀n k,bM F p n k=true->bM F' q n k=true
 | 0,k,hc=>by rw[bM]at hc⊢;rw[<-h.len];exact hc
 | n+1,k,hc=>by
  rw[bM]at hc⊢;rw[<-h.len];split
  ·rename_i hk;rw[c7 hk]at hc;split at hc
   ·rename_i x e hx he;obtain⟨y,hy,e1,_⟩:=h.get hx;rw[hy,<-h.endAt,he];dsimp only;split at hc
    ·rename_i NZ;rw[c7 ⟨by rw[<-e1];exact NZ.1,hF _ _ NZ.2⟩];exact sq h hF n _ hc
    ·cases hc
   ·cases hc
  ·rfl
theorem zU {x:LP}(h:cY x=true):br x.K9=true\/x.K9=[]:=by
 unfold cY at h;simp only[b9]at h;obtain⟨_,_,_,h⟩:=h;split at h
 ·exact .inl h
 ·exact .inr (A3.1 (B7 h))
theorem km (x:LP):(aO x).J1=x.J1/\(aO x).J8=x.J8/\(aO x).L5=x.L5:=by unfold aO;split<;>exact⟨rfl,rfl,rfl⟩
theorem oc {x:LP}(h:br x.K9=true\/x.K9=[]):(br x.K9=true/\(aO x).K9=lK x.K9)\/(x.K9=[]/\aO x=x):=by
 rcases h with h|h
 ·have hp:0<x.K9.length:=by unfold br at h;simp only[b9,j5]at h;exact h.2.1
  exact .inl ⟨h,by rw[aO,c7 hp]⟩
 ·exact .inr ⟨h,by rw[aO,b8 (by rw[h];simp)]⟩
theorem Bb {x:LP}(h:cY x=true):cY (aO x)=true:=by
 obtain⟨k1,k2,k3⟩:=km x;unfold cY at h⊢;rw[k1,k2,k3];simp only[b9]at h⊢;obtain⟨h1,h2,h3,h4⟩:=h;refine⟨h1,h2,h3,?_⟩;split
 ·rename_i hx;rw[c7 hx]at h4;rcases oc (.inl h4)with⟨_,e⟩|⟨e,_⟩
  ·rw[e];exact(jT h4).1
  ·rw[e]at h4;simp[br]at h4
 ·rename_i hx;rw[b8 hx]at h4;have:x.K9=[]:=A3.1 (B7 h4);rw[aO,b8 (by rw[this];simp)];exact h4
theorem wB {p q:List LP}(h:alike p q)(locals:List (List UInt8))(t:LZ):cG p locals t=cG q locals t:=by
 unfold cG;rw[h.find];split
 ·rfl
 ·split
  ·split
   ·rename_i f _
    cases hx:p[f]? with|none=>rw[h.none hx]|some x=>obtain⟨y,hy,_,_,e3⟩:=h.get hx;rw[hy];dsimp only;rw[e3]
   ·rfl
  ·rfl
theorem Ds {p:List LP}{locals:List (List UInt8)}{x:LP}(he:br x.K9=true\/x.K9=[])(h:eB p locals x.K9=true):eB (p.map aO) locals (aO x).K9=true:=by
 unfold eB at *
 rw[o8]at *
 intro z hz;rw[wB (eU p)];rcases oc he with⟨h1,e⟩|⟨_,e⟩
 ·rw[e]at hz;rcases(jT h1).2 z hz with hz|⟨n,rfl⟩
  ·exact h z hz
  ·simp[cG]
 ·rw[e]at hz;exact h z hz
theorem xN {p:List LP}(hl:∀x∈p,br x.K9=true\/x.K9=[]){locals:List (List UInt8)}{e:Nat}:∀n i d,mX p locals e n i d=true->mX (p.map aO) locals e n i d=true
 | 0,_,_,_=>rfl
 | n+1,i,d,h=>by
  rw[mX]at h⊢;split
  ·rename_i hi;rw[c7 hi]at h
   cases hx:p[i]? with
   | none=>rw[hx]at h;cases h
   | some x=>
    rw[hx]at h;rw[p6,hx];dsimp only[Option.map_some]at h⊢;have hd:dep (aO x) d=dep x d:=(by unfold dep;rw[(km x).1]);rw[(km x).1,hd];split at h
    ·cases h
    ·rename_i h0;rw[b8 h0];split at h
     ·rename_i hc;rw[c7 ⟨hc.1,Ds (hl x (c9 hx)) hc.2⟩];exact xN hl n _ _ h
     ·cases h
  ·rfl
theorem uE {p:List LP}(h:ah p=true):ah (p.map aO)=true:=by
 have ha:=eU p;unfold ah at h⊢;simp only[b9,j5]at h⊢;obtain⟨h1,h2,h3,h4,h5,h6,h7⟩:=h;have Ya:ay (p.map aO)=ay p:=ha.funsF 0;have PB:=o8.1 h3;refine⟨by rw[e7];exact h1,by rw[Ya];exact h2,?_,by rw[ha.headOk];exact h4,?_,?_,?_⟩
 ·rw[o8];intro x hx;obtain⟨y,hy,rfl⟩:=n7.1 hx;exact Bb (PB y hy)
 ·rw[Ya,o8];intro k hk;rw[ha.nameFirst];exact o8.1 h5 k hk
 ·rw[e7];refine sq (Eq.symm ha) (fun k e hf=>?_) _ _ h6;unfold tP at hf⊢;rw[b9]at hf⊢;rw[ha.localsOf];exact⟨hf.1,xN (fun x hx=>zU (PB x hx)) _ _ _ hf.2⟩
 ·unfold ue at h7⊢;rw[ha.elsesIn,e7];exact h7
structure Rl (s s':Gs):Prop where
 len:s.I7.length=s'.I7.length
 J3:s.J3=s'.J3
 start:s.start=s'.start
structure Wd (C C':Cx):Prop where
 p:C'.p=C.p
 b:C'.b=C.b
 fr:C'.J6=C.J6
 args:C'.args=C.args
section
variable {C C':Cx} {x:Sc} {ins:List Nat} {rep NG:Sc->List Nat->Nat->Nat->Int->Gs->Gs} {line:Nat}
theorem dz {s s':Gs}(h:Rl s s')(d d' c c' a a' l l':Int)(ch YO:List Int):Rl (aC C s d c a l ch) (aC C' s' d' c' a' l' YO):=⟨by simp[aC,h.len],h.J3,rfl⟩
theorem xH (y:Sc)(ch:List Int)(l:Int):∀(n:Nat) (d d':Int) {s s':Gs},Rl s s'->Rl (cE C y ch l n d s) (cE C' y ch l n d' s')
 | 0,_,_,_,_,h=>h
 | n+1,d,d',s,s',h=>by rw[cE,cE];exact xH y ch l n _ _ (dz h ..)
theorem BC (y:Sc)(ch:List Int)(l d d':Int):∀(n i:Nat) {s s':Gs},Rl s s'->Rl (dD C y ch l d n i s) (dD C' y ch l d' n i s')
 | 0,_,_,_,h=>h
 | n+1,i,s,s',h=>by rw[dD,dD];exact BC y ch l d d' n (i+1) (dz (dz h ..) ..)
def Cs (rep NG:Sc->List Nat->Nat->Nat->Int->Gs->Gs):Prop:=∀(x:Sc) (ins:List Nat) (line g:Nat) (d d':Int) (s s':Gs),Rl s s'->Rl (rep x ins line g d s) (NG x ins line g d' s')
theorem KF (hw:Wd C C')(hr:Cs rep NG)(t:LZ)(d d':Int){s s':Gs}(h:Rl s s'):Rl (lZ C rep x ins line t d s) (lZ C' NG x ins line t d' s'):=by
 unfold lZ;rw[hw.p];split
 ·exact dz h ..
 split
 ·exact dz h ..
 split
 ·split
  ·rename_i g hg;have hB:cL C' ins g s'.I7.length=cL C ins g s.I7.length:=(by unfold cL;rw[hw.p,hw.b,h.len]);rw[hB];split
   ·exact hr _ _ _ _ _ _ _ _ h
   ·exact dz h ..
  ·exact h
 ·exact dz h ..
mutual
theorem DX (hw:Wd C C')(hr:Cs rep NG):∀(e:Ex) (d d':Int) {s s':Gs},Rl s s'->Rl (ew C rep x ins line e d s) (ew C' NG x ins line e d' s')
 | .node t es,d,d',s,s',h=>by rw[ew,ew];exact KF hw hr t _ _ (BW hw hr es d d' h)
theorem BW (hw:Wd C C')(hr:Cs rep NG):∀(es:List Ex) (d d':Int) {s s':Gs},Rl s s'->Rl (cW C rep x ins line es d s) (cW C' NG x ins line es d' s')
 | [],_,_,s,s',h=>by rw[cW,cW];exact h
 | a::es,d,d',s,s',h=>by rw[cW,cW];exact BW hw hr es _ _ (DX hw hr a d d' h)
end
theorem Ct (hw:Wd C C')(x:Sc):ck C' x=ck C x:=by unfold ck;rw[hw.args]
theorem Kv (hw:Wd C C')(x:Sc)(line g:Nat)(d d':Int){s s':Gs}(h:Rl s s'):Rl (fU C x line g d s) (fU C' x line g d' s'):=by unfold fU;rw[show cj C' x line g=cj C x line g by unfold cj;rw[hw.p,Ct hw],hw.p,Ct hw];exact BC _ _ _ _ _ _ _ (xH _ _ _ _ _ _ ⟨h.len,by dsimp only;rw[h.J3],h.start⟩)
theorem Il (x:Sc)(line:Nat)(d d':Int){s s':Gs}(h:Rl s s'):Rl (cZ C x line d s) (cZ C' x line d' s'):=by
 unfold cZ;rw[h.start];split
 ·exact dz h ..
 ·exact h
theorem AY (hw:Wd C C')(x:Sc)(k:Nat)(last:Bool)(d d':Int){L L':Ls}(h:Rl L.g L'.g):Rl (be C x k last d L).g (be C' x k last d' L').g:=by
 unfold be;rw[hw.fr];split
 ·split
  ·exact dz h ..
  ·exact dz h ..
 ·split
  ·exact h
  ·exact dz h ..
theorem HH {s s':Gs}(h:Rl s s')(j j' v v':Int):Rl ⟨bU s.I7 j v,s.J3,s.start⟩ ⟨bU s'.I7 j' v',s'.J3,s'.start⟩:=⟨by dsimp only;rw[bO,bO,h.len],h.J3,h.start⟩
theorem HB (hw:Wd C C')(hr:Cs rep NG)(b b':Int)(k:Nat)(ln:LP){L L':Ls}(h:Rl L.g L'.g):Rl (bH C rep x ins b k ln L).g (bH C' NG x ins b' k ln L').g:=by
 unfold bH;rw[hw.p];split
 ·exact HH (dz h ..) _ _ _ _
 split
 ·split
  ·exact AY hw x k true _ _ (L:={L with g:=aC C L.g b 0 0 k x.J0}) (L':={L' with g:=aC C' L'.g b' 0 0 k x.J0}) (dz h ..)
  split
  ·exact dz h ..
  ·exact h
 ·have hg:=DX (x:=x) (ins:=ins) (line:=k) hw hr (exL ln.K9) b b' (s:=⟨L.g.I7,L.g.J3,true⟩) (s':=⟨L'.g.I7,L'.g.J3,true⟩) ⟨h.len,h.J3,rfl⟩;dsimp only;split
  ·exact dz hg ..
  split
  ·exact dz hg ..
  split
  ·exact AY hw x k false _ _ (L:={L with g:=ew C rep x ins k (exL ln.K9) b ⟨L.g.I7,L.g.J3,true⟩,J4:=L.J4.set k L.g.I7.length}) (L':={L' with g:=ew C' NG x ins k (exL ln.K9) b' ⟨L'.g.I7,L'.g.J3,true⟩,J4:=L'.J4.set k L'.g.I7.length}) hg
  ·exact dz hg ..
theorem GW (hw:Wd C C')(k:Nat)(ln:LP){L L':Ls}(h:Rl L.g L'.g):Rl (bB C x k ln L).g (bB C' x k ln L').g:=by
 unfold bB;rw[hw.p];split
 ·exact HH h _ _ _ _
 ·exact h
theorem EM (hw:Wd C C')(hr:Cs rep NG)(b b':Int):∀(n k:Nat) {L L':Ls},Rl L.g L'.g->Rl (dI C rep x ins b n k L).g (dI C' NG x ins b' n k L').g
 | 0,k,L,L',h=>by rw[dI,dI];exact h
 | n+1,k,L,L',h=>by
  rw[dI,dI,hw.p];split
  ·exact EM hw hr b b' n (k+1) (GW hw k _ (HB hw hr b b' k _ h))
  ·exact h
theorem zG (hw:Wd C C')(hr:Cs rep NG)(b b':Int){s s':Gs}(h:Rl s s'):Rl (bq C rep x ins b s).1 (bq C' NG x ins b' s').1:=by unfold bq;dsimp only;rw[hw.p];exact EM hw hr b b' _ _ h
end
theorem EO {C C':Cx}(hw:Wd C C'):∀n,Cs (cK C n) (cK C' n)
 | 0=>fun _ _ _ _ _ _ _ _ h=>h
 | n+1=>fun x ins line g d d' s s' h=>by
  show Rl (lV C (bq C (cK C n)) x ins line g d s) (lV C' (bq C' (cK C' n)) x ins line g d' s');unfold lV;dsimp only;rw[hw.p,show cj C' x line g=cj C x line g by unfold cj;rw[hw.p,Ct hw]];have:=zG (x:=cj C x line g) (ins:=ins++[g]) hw (EO hw n) (d-argsN C.p g) (d'-argsN C.p g) (Il (C:=C) (C':=C') x line (d-argsN C.p g) (d'-argsN C.p g) (Kv hw x line g d d' h));exact⟨by dsimp only;rw[gT,gT,this.len],this.J3,this.start⟩
theorem Is {C C':Cx}(hw:Wd C C')(g:Nat):(dH C' g).J3=(dH C g).J3:=by
 have h0:Rl (dQ C g) (dQ C' g):=⟨rfl,by simp[dQ,aC,hw.p,hw.args],rfl⟩;have Yz:bb C' g=bb C g:=by unfold bb;rw[hw.p]
 have:=zG (x:=bb C g) (ins:=[g]) hw (EO hw C.b.Md.toNat) C.I8 C'.I8 h0;unfold dH;rw[Yz,hw.b];exact this.J3.symm
theorem Co {C:Cx}(hC:CxOk C)(h:ah C.p=true):nX C:=fun g e k ln hg he h1 h2 hk=>by
 obtain⟨y,hy,Ow⟩:=hg;obtain⟨e',g1,g2,g3,g4⟩:=hC.fn g y hy Ow;rw[he]at g1;injection g1 with g1;subst g1;obtain⟨k1,k2,_⟩:=g4 k ln h1 h2 hk;refine⟨k1,fun _=>k2,fun h1k=>?_⟩;obtain⟨i,hi⟩:=(Ic h ⟨⟨y,hy,Ow⟩,he,h1,o_⟩ hk h2).2 h1k;have:=nA hi;have hx:dG (localsOf C.p (g:Int)) ln.J8=(i:Int):=by unfold dG;exact bQ hi
 rw[hx];omega
theorem CL {p:List LP}{f:Int}{b:LG}(hs:aw 1048576 (.lst 4 (p.map LP.tr)))(h1:ah p=true)(h2:aS b=true)(h3:0<=f)(h4:f<(ay p).length):∃(g:Nat) (C:Cx) (ds:List Int),(ay p)[f.toNat]?=some g/\C.p=foldIf p b/\C.args=argsN C.p g/\C.J6=nu b.Mo f/\0<=C.args/\C.args<=4/\0<=C.I8/\C.I8<=1000/\TyF C (az p f b) ds:=by
 obtain⟨g,C,k1,k2,k3,k4,k5,k6,k7,k8,k9⟩:=jP hs h1 h2 h3 h4
 have S5:ah C.p=true:=by
  rw[k3];unfold foldIf;split
  ·exact uE h1
  ·exact h1
 have hw:Wd (ctx (foldIf p b) f.toNat g b 0) C:=⟨by rw[k3];rfl,by rw[k4];rfl,by rw[k6];show nu b.Mo f=nu b.Mo ((f.toNat:Nat):Int);rw[E5 h3],by rw[k5,k3];rfl⟩;obtain⟨ds,Py⟩:=JJ k2 (Co k2 S5) k7 k5 (by rw[k9,Is hw];exact v2 _);have ha:=k2.args;have Vo:=k2.I8;exact⟨g,C,ds,k1,k3,k5,k6,ha.1,ha.2,Vo.1,Vo.2,by rw[k8];exact Py⟩
end Go.Proofs.P
namespace Go.Proofs.P
open Go.Sim Tryz
def kA (c:Int):Int×Int:=
 if c=0 then(-2147483648,2147483647)else if c=1\/c=2\/c=3\/c=4\/c=10\/c=11 then(-32768,32767)
 else if c=16 then(0,65535)else if c=12\/c=13\/c=14\/c=15 then(0,255)else(0,0)
def dw (c a:Int):Bool:=af c 0 17&&af a (kA c).1 (kA c).2
theorem Ab (c:Int):(aX c=(4,true)/\kA c=(-2147483648,2147483647))\/(aX c=(2,true)/\kA c=(-32768,32767))\/(aX c=(2,false)/\kA c=(0,65535))\/(aX c=(1,false)/\kA c=(0,255))\/(aX c=(0,false)/\kA c=(0,0)):=by
 unfold aX kA;repeat' split
 all_goals simp
theorem Ah (x:LS):Sim.Spec prog 193 [.agg x.tr] (rB (dw x.I9 x.J7)):=by
 refine bv hΓ aG func193 rfl d_ rfl ?_;have hi:=aP x.I9 0 17;have ha:=fK x.I9;have h0:dw x.I9 x.J7=(af x.I9 0 17&&af x.J7 (kA x.I9).1 (kA x.I9).2):=rfl;rw[h0]
 cases hw:af x.I9 0 17 with
 | false=>
  rw[hw]at hi
  repeat' ((conv=>whnf);first|apply Wx|apply W6|apply oi|apply fi|intro h|refine cl ha ?_|refine cl hi ?_|exact Y7|refine e_ rfl ?_)
 | true=>
  rw[hw]at hi;rw[m9];rcases Ab x.I9 with⟨e1,e2⟩|⟨e1,e2⟩|⟨e1,e2⟩|⟨e1,e2⟩|⟨e1,e2⟩
  all_goals(
   rw[I_,e1]at ha;rw[e2];have gb:=aP x.J7 (kA x.I9).1 (kA x.I9).2;rw[e2]at gb;repeat' ((conv=>whnf);first|apply Wx|apply W6|apply oi|apply fi|intro h|refine cl ha ?_|refine cl hi ?_|refine .inl (ci gb (ai rfl (ai KW (ai KW trivial))) ?_)|exact Y7|refine e_ rfl ?_)
   skip)
def kn (a:Int)(k:Nat):UInt8:=UInt8.ofNat ((a.fdiv (2^(8*k)))%256).toNat
def iR (a:Int)(n:Nat):List UInt8:=(List.range n).map (kn a)
def bh (x:LS):List UInt8:=if dw x.I9 x.J7=true then UInt8.ofNat x.I9.toNat::iR x.J7 (aX x.I9).1.toNat else []
theorem Bm (a:Int)(n:Nat):iR a (n+1)=iR a n++[kn a n]:=by simp[iR,G3]
theorem ec {x:LS}(h:dw x.I9 x.J7=true):((bh x).length:Int)=aE x.I9:=by have MZ:=dP x.I9;rw[bh,c7 h];unfold dw at h;rw[b9]at h;rw[aE,c7 h.1];simp[iR];omega
theorem sA (x:LS):(bh x).length<=5:=by
 have MZ:=dP x.I9;unfold bh;split
 ·simp[iR];omega
 ·simp
theorem FD (a:Int){k:Nat}(h:k<=4):IntKind.u8.wrap (a.fdiv (2^min (IntKind.i64.wrap (8*(k:Int))).toNat IntKind.i64.bits))=((kn a k).toNat:Int):=by
 have h8:IntKind.i64.wrap (8*(k:Int))=((8*k:Nat):Int):=by rw[c6 _ o_];rfl
 rw[h8,d7,y6 (by show 8*k<=64;omega)];unfold kn;generalize a.fdiv (2^(8*k))=z;simp[IntKind.wrap,IntKind.bits,IntKind.signed];omega
theorem tx (x:LS):Sim.Spec prog 123 [.agg x.tr] (rS (bh x)):=by
 refine bv hΓ aG func123 rfl d_ rfl ?_;have ho:=Ah x;have ha:=fK x.I9;unfold bh
 cases hw:dw x.I9 x.J7 with
 | false=>
  rw[hw]at ho
  repeat' ((conv=>whnf);first|apply Wx|apply W6|apply oi|apply fi|intro h|refine cl ho ?_|exact Y7|refine e_ rfl ?_)
 | true=>
  rw[hw]at ho;rw[c7 rfl]
  have hc:0<=x.I9/\x.I9<=17:=by unfold dw at hw;rw[b9]at hw;exact within_iff.1 hw.1
  obtain⟨n,hn⟩:∃n:Nat,(aX x.I9).1=(n:Int):=⟨(aX x.I9).1.toNat,by have:=dP x.I9;omega⟩;have N2:n<=4:=by have:=dP x.I9;omega
  rw[I_,hn]at ha;rw[hn,d7];generalize O3:UInt8.ofNat x.I9.toNat=b0
  have ZZ:IntKind.u8.wrap x.I9=(b0.toNat:Int):=by subst O3;simp[IntKind.wrap,IntKind.bits,IntKind.signed];omega
  repeat' ((conv=>whnf);first|apply Wx|apply W6|apply oi|apply fi|intro h|refine cl ho ?_|refine cl ha ?_|exact Y7|refine e_ rfl ?_)
  conv=>whnf
  refine⟨{k:Nat//k<=n},fun k=>⟨[(1,.r (.c (.ptr (1,0,0) 0))),(3,tI .i64 (n:Int)),(5,.r (.c (.own (19,0,0)))),(6,tI .i64 (k.1:Int))],[((19,0,0),some (.arr true 1 ((b0::iR x.J7 k.1).map aY))),((1,0,0),some (.box [.t (.int .i64 x.I9),.t (.int .i64 x.J7)]))],[19,1]⟩,fun k=>n-k.1,⟨0,o_⟩,?_,?_⟩
  ·repeat' ((conv=>whnf);first|apply Wx|apply W6|apply oi|apply fi|intro h|exact Y7|refine e_ rfl ?_)
   all_goals try exact⟨by rw[ZZ];rfl⟩
  intro⟨k,hk⟩;dsimp only;have PM:((b0::iR x.J7 k).map aY).length=k+1:=by simp[iR]
  by_cases Mz:k<n
  ·have h8:IntKind.i64.wrap (8*(k:Int))=((8*k:Nat):Int):=(by rw[c6 _ o_];rfl);have VN:=FD x.J7 (k:=k) o_;repeat' ((conv=>whnf);first|apply Wx|apply W6|apply oi|apply fi|intro h|exact Y5|refine e_ rfl ?_)
   all_goals try exact⟨by rw[h8];omega⟩
   all_goals try exact⟨⟨by simp only[i8,d5,PM]<;>omega,by simp only[i8,d5,PM]<;>omega⟩⟩
   conv=>whnf
   refine⟨⟨k+1,o_⟩,?_,KD⟩;repeat' ((conv=>whnf);first|apply Wx|apply W6|apply oi|apply fi|intro h|exact Y8|refine e_ rfl ?_)
   all_goals try exact⟨by dsimp only;rw[Bm,VN,<-u3,u4];rfl⟩
  ·have OL:k=n:=o_;subst OL;exact Z7
theorem yj {c a:Int}(h:eP c a):dw c a=true:=by
 obtain⟨h0,h1,h2,h3,h4,h5,h6⟩:=h;unfold dw;rw[b9,within_iff,within_iff];refine⟨⟨h0,h1⟩,?_⟩;unfold kA;split
 ·have:=h2 aaj;dsimp only;omega
 split
 ·have:=h3 o_;dsimp only;omega
 split
 ·have:=h4 aaj;dsimp only;omega
 split
 ·have:=h5 o_;dsimp only;omega
 ·have:=h6 o_;dsimp only;omega
structure PlI (p:List LP) (f j:Nat) (y:LU):Prop where
 head:j=0->(y.L3.J2.I9=13\/y.L3.J2.I9=15)/\∃g ln,(ay p)[f]?=some g/\y.L3.Mi=(g:Int)/\p[g]?=some ln/\ln.J1=0
 body:0<j->y.L3.J2.I9≠13/\∃(n:Nat) (ln:LP),y.L3.Mi=(n:Int)/\p[n]?=some ln/\ln.J1≠0
 op:dw y.L3.J2.I9 y.L3.J2.J7=true
theorem yQ (p:List LP)(b:LG):alike (foldIf p b) p:=by
 unfold foldIf;split
 ·exact eU p
 ·rfl
theorem gR (st:List Int)(k:Nat)(x:LO):(cN st k x).J2.I9=x.J2.I9:=by unfold cN;split<;>rfl
theorem vd (st:List Int)(k:Nat)(x:LO):(cN st k x).Mi=x.Mi:=by unfold cN;split<;>rfl
theorem mr {p:List LP}{b:LG}{at0:Int}(hs:aw 1048576 (.lst 4 (p.map LP.tr)))(h1:ah p=true)(h2:aS b=true){f:Nat}(h:f<(ay p).length){j:Nat}{y:LU}(hy:(il (az p f b) at0)[j]?=some y):PlI p f j y:=by
 obtain⟨g,C,k1,k2,k3,k4,hi⟩:=pS (f:=(f:Int)) hs h1 h2 o_ o_;have Mw:=(jf (p:=p) (f:=(f:Int)) (b:=b) hs).1;have NP:=hi.jumps.2;have hj:j<(az p (f:Int) b).length:=by have:=aH hy;rwa [dV]at this
 obtain⟨x,hx⟩:=ae hj;rw[eM hx]at hy;injection hy with hy;subst hy;rw[d7]at k1;obtain⟨U4,ln,Uc,U6⟩:=nV (c9 k1)
 generalize az p (f:Int) b=I at *
 obtain⟨a,t,rfl,ha,ht⟩:=hi
 have Mx:¬oM x=true->eP x.J2.I9 x.J2.J7:=fun hn=>by
  rw[isJump_iff]at hn
  cases j with
  | zero=>
   simp only[e8,Option.some.injEq]at hx;subst hx;have e3:=ha.2.2
   rcases ha.1 with e|e<;>(rw[e,e3];unfold eP;omega)
  | succ j=>exact(ht x (c9 (by simpa using hx))).op hn
 refine⟨fun e=>?_,fun e=>?_,?_⟩
 ·subst e;simp only[e8,Option.some.injEq]at hx;subst hx;dsimp only;rw[gR,vd];exact⟨ha.1,g,ln,k1,ha.2.1,Uc,U6⟩
 ·obtain⟨j,rfl⟩:∃i,j=i+1:=⟨j-1,o_⟩;have hg:=ht x (c9 (by simpa using hx));dsimp only;rw[gR,vd];refine⟨hg.enter,?_⟩;obtain⟨z,z0,z1,z2⟩:=hg.line;rw[k2]at z1;obtain⟨w,w1,w2,_⟩:=(yQ p b).get z1;exact⟨x.Mi.toNat,w,o_,w1,o_⟩
 ·dsimp only;by_cases hn:oM x=true
  ·rw[cN,c7 hn];have h3:=NP x (c9 hx) hn;rw[isJump_iff]at hn;have s1:=ju (at0:=at0) (l:=a::t) (k:=x.J2.J7.toNat) o_;have s2:=ju (at0:=at0) (l:=a::t) (k:=j+1) o_;refine yj ?_;dsimp only[yP];unfold eP;omega
  ·rw[cN,b8 hn];exact yj (Mx hn)
def aj (l:List LU):List UInt8:=l.flatMap fun x=>bh x.L3.J2
theorem aJ (a b:List LU):aj (a++b)=aj a++aj b:=by simp[aj]
theorem dZ (x:LU):aj [x]=bh x.L3.J2:=by simp[aj]
theorem ib:∀(l:List LU),(aj l).length<=5*l.length
 | []=>by simp[aj]
 | x::l=>by
  have h1:=ib l;have h2:=sA x.L3.J2;rw[show x::l=[x]++l from rfl,aJ,c8,c8,dZ];simp only[d5,i8];omega
theorem kw {l:List LO}{at0:Int}(h:∀y∈il l at0,dw y.L3.J2.I9 y.L3.J2.J7=true):∀{k:Nat},k<=l.length->((aj ((il l at0).take k)).length:Int)=atL (aZ at0 l) k-at0
 | 0,_=>by rw[gg];simp[aj]
 | k+1,hk=>by
  obtain⟨x,hx⟩:=ae (l:=l) (k:=k) o_;have hg:=eM (at0:=at0) hx;have ih:=kw h (k:=k) o_;have he:=ec (h _ (c9 hg));dsimp only at he;rw[gR]at he;rw[dx hg,aJ,c8,dZ,fY hx];dsimp only;omega
def bD (p:List LP)(f:Nat):List UInt8:=match(ay p)[f]? with
 | some g=>(match p[g]? with|some y=>y.J8|none=>[])
 | none=>[]
def co (p:List LP):Int->List (Nat×List LU)->List LY
 | _,[]=>[]
 | at0,(f,l)::L=>⟨bD p f,at0,(aj l).length⟩::co p (at0+(aj l).length) L
theorem tn (p:List LP):∀(L:List (Nat×List LU)) (at0:Int) (x:Nat×List LU),co p at0 (L++[x])=co p at0 L++[⟨bD p x.1,at0+(aj (ax L)).length,(aj x.2).length⟩]
 | [],at0,(f,l)=>by simp[co,ax,aj]
 |(g,m)::L,at0,x=>by
  rw[u3,co,tn p L,co,u3];congr 3;have:ax ((g,m)::L)=m++ax L:=by simp[ax]
  rw[this,aJ,c8];simp only[LY.mk.injEq,true_and,and_true];omega
theorem lF (p:List LP):∀(L:List (Nat×List LU)) (at0:Int),(co p at0 L).length=L.length
 | [],_=>rfl
 |(f,l)::L,at0=>by rw[co,d5,lF p L,d5]
noncomputable def ag (p:List LP) (b:LG) (image:Int):LM:=
 if ah p=true/\aS b=true/\af image 0 1=true then⟨aj (ax (bV p b image (ay p).length 0 0)),co p 0 (bV p b image (ay p).length 0 0)⟩else⟨[],[]⟩
theorem mV {p:List LP}{b:LG}{image:Int}:∀{n f:Nat} {at0:Int} {x:Nat×List LU},x∈bV p b image n f at0->f<=x.1/\x.1<f+n
 | 0,_,_,_,h=>by cases h
 | n+1,f,at0,x,h=>by
  rw[bV]at h;split at h
  ·rcases d6.1 h with rfl|h
   ·exact⟨d8 _,g_⟩
   ·have:=mV h;omega
  ·have:=mV h;omega
theorem jW {p:List LP}{b:LG}{image:Int}(hs:aw 1048576 (.lst 4 (p.map LP.tr)))(h1:ah p=true)(h2:aS b=true):∀{n f:Nat} {at0:Int} {i:Nat} {x:Nat×List LU},f+n<=(ay p).length->(bV p b image n f at0)[i]?=some x->
  x.2=il (az p (x.1:Int) b) (at0+((aj (ax ((bV p b image n f at0).take i))).length:Int))/\x.1<(ay p).length/\0<x.2.length
 | 0,_,_,_,_,_,h=>by simp[bV]at h
 | n+1,f,at0,i,x,hf,h=>by
  rw[nI]at h⊢;split at h
  ·rename_i hin;rw[c7 hin]
   cases i with
   | zero=>
    simp only[e8,Option.some.injEq]at h;subst h;have:=(JY (f:=f) hs h1 h2 o_).pos
    refine⟨by simp[ax,aj],g_,by dsimp only;rw[dV];exact this⟩
   | succ i=>
    rw[j8]at h;obtain⟨k1,k2,k3⟩:=jW hs h1 h2 o_ h;refine⟨?_,k2,k3⟩
    have hl:=kw (l:=az p (f:Int) b) (at0:=at0) (fun y hy=>by
     obtain⟨j,hj⟩:=v6.1 hy
     exact(mr hs h1 h2 o_ hj).op) (k:=(az p (f:Int) b).length) (d8 _)
    rw[gt (by rw[dV];exact d8 _)]at hl;rw[k1,q8,show ∀(a:Nat×List LU) (l:List (Nat×List LU)),ax (a::l)=a.2++ax l from fun a l=>by simp[ax],aJ,c8];congr 1;have he:zD at0 (az p (f:Int) b)=atL (aZ at0 (az p (f:Int) b)) (az p (f:Int) b).length:=rfl;dsimp only
    rw[he]at *
    omega
  ·rename_i hin;rw[b8 hin];exact jW hs h1 h2 o_ h
theorem fR {p:List LP}{b:LG}{image:Int}(hs:aw 1048576 (.lst 4 (p.map LP.tr)))(h1:ah p=true)(h2:aS b=true){i:Nat}{x:Nat×List LU}(h:(bV p b image (ay p).length 0 0)[i]?=some x){j:Nat}{y:LU}(hy:x.2[j]?=some y):
  PlI p x.1 j y/\y.Mf=((aj (ax ((bV p b image (ay p).length 0 0).take i))).length:Int)+(aj (x.2.take j)).length:=by
 obtain⟨k1,k2,_⟩:=jW hs h1 h2 o_ h
 generalize hS:((aj (ax ((bV p b image (ay p).length 0 0).take i))).length:Int)=S at *
 rw[I5]at k1;rw[k1]at hy⊢;refine⟨mr hs h1 h2 k2 hy,?_⟩;have hj:j<(az p (x.1:Int) b).length:=by have:=aH hy;rwa [dV]at this
 rw[kw (fun z hz=>by
  obtain⟨j,hj⟩:=v6.1 hz
  exact(mr hs h1 h2 k2 hj).op) o_]
 obtain⟨z,hz⟩:=ae hj;rw[eM hz]at hy;injection hy with hy;subst hy;dsimp only;omega
def qv (L:List (Nat×List LU))(i j:Nat):List LU:=match L[i]? with|some x=>x.2.take j|none=>[]
def gw (L:List (Nat×List LU))(i j:Nat):List UInt8:=aj (ax (L.take i))++aj (qv L i j)
def jE (p:List LP)(L:List (Nat×List LU))(i j:Nat):List LY:=co p 0 (L.take i)++(match L[i]? with
 | some x=>if j=0 then []else [⟨bD p x.1,((aj (ax (L.take i))).length:Int),((aj (x.2.take j)).length:Int)⟩]
 | none=>[])
theorem oQ (L:List (Nat×List LU))(x:Nat×List LU):ax (L++[x])=ax L++x.2:=by simp[ax]
theorem CA {L:List (Nat×List LU)}{i:Nat}{x:Nat×List LU}(h:L[i]?=some x):gw L i x.2.length=gw L (i+1) 0:=by
 have:qv L (i+1) 0=[]:=by unfold qv;split<;>simp
 rw[gw,gw,this,dx h,oQ,aJ,qv,h];simp[aj]
theorem CN {p:List LP}{L:List (Nat×List LU)}{i:Nat}{x:Nat×List LU}(h:L[i]?=some x)(h0:0<x.2.length):jE p L i x.2.length=jE p L (i+1) 0:=by
 rw[jE,jE,dx h,tn,h];dsimp only;rw[b8 o_,gt (d8 _),I5]
 cases L[i+1]?<;>simp
theorem FK {p:List LP}{L:List (Nat×List LU)}:jE p L L.length 0=co p 0 L:=by rw[jE,gt (d8 _),e9 (d8 _)];simp
theorem Gb {L:List (Nat×List LU)}:gw L L.length 0=aj (ax L):=by rw[gw,gt (d8 _),qv,e9 (d8 _)];simp[aj]
theorem Au {L:List (Nat×List LU)}{i j:Nat}{x:Nat×List LU}{y:LU}(h:L[i]?=some x)(hy:x.2[j]?=some y):(ax L)[(ax (L.take i)).length+j]?=some y:=by
 have e:L=L.take i++x::L.drop (i+1):=by rw[<-cF h,y9]
 have e2:ax L=ax (L.take i)++(x.2++ax (L.drop (i+1))):=by
  conv=>lhs;rw[e]
  simp[ax]
 rw[e2,m5 o_,D1,j7 (aH hy),hy]
theorem HD {p:List LP}{L:List (Nat×List LU)}(UK:∀{i:Nat} {x:Nat×List LU},L[i]?=some x->0<x.2.length){i j:Nat}{x:Nat×List LU}(hx:L[i]?=some x)(hj:j<x.2.length):∃q:Nat×Nat,q.1<=L.length/\(∀x,L[q.1]?=some x->q.2<x.2.length)/\(q.1=L.length->q.2=0)/\
  (ax (L.take q.1)).length+q.2=(ax (L.take i)).length+(j+1)/\gw L q.1 q.2=gw L i (j+1)/\jE p L q.1 q.2=jE p L i (j+1):=by
 have hi:=aH hx;by_cases hn:j+1<x.2.length
 ·exact⟨(i,j+1),g_,fun z hz=>by dsimp only at hz⊢;rw[hx]at hz;injection hz with hz;subst hz;exact hn,fun h=>by dsimp only at h;omega,rfl,rfl,rfl⟩
 ·have e:j+1=x.2.length:=o_;refine⟨(i+1,0),g_,fun z hz=>UK hz,fun _=>rfl,?_,?_,?_⟩
  ·dsimp only;rw[dx hx,oQ,c8];omega
  ·dsimp only;rw[e,CA hx]
  ·dsimp only;rw[e,CN hx (UK hx)]
theorem wa {p:List LP}{L:List (Nat×List LU)}{i:Nat}:jE p L i 0=co p 0 (L.take i):=by rw[jE];cases L[i]?<;>simp
theorem Cn {L:List (Nat×List LU)}{i:Nat}:gw L i 0=aj (ax (L.take i)):=by rw[gw,qv];cases L[i]?<;>simp[aj]
theorem yi {p:List LP}{L:List (Nat×List LU)}{i j:Nat}{x:Nat×List LU}(hx:L[i]?=some x):jE p L i (j+1)=co p 0 (L.take i)++[⟨bD p x.1,((aj (ax (L.take i))).length:Int),((aj (x.2.take (j+1))).length:Int)⟩]:=by rw[jE,hx];rfl
theorem Fz {L:List (Nat×List LU)}{i j:Nat}{x:Nat×List LU}{y:LU}(hx:L[i]?=some x)(hy:x.2[j]?=some y):gw L i (j+1)=gw L i j++bh y.L3.J2:=by rw[gw,gw,qv,qv,hx];dsimp only;rw[dx hy,aJ,dZ,j9]
theorem FB {L:List (Nat×List LU)}{i j:Nat}{x:Nat×List LU}(hx:L[i]?=some x):(gw L i j).length=(aj (ax (L.take i))).length+(aj (x.2.take j)).length:=by rw[gw,qv,hx,c8]
def oL {α:Type}(o:Option (List α)):List α:=match o with|some l=>l|none=>[]
def gv (off:Int)(x:LY):Bool:=af x.L4 0 1000000&&(af x.Mk 0 1000000&&(decide (x.L4<=off)&&decide (off<x.L4+x.Mk)))
def eW (off:Int):List LY->Nat->Int
 | [],_=> -1
 | x::l,k=>if gv off x then(k:Int)else eW off l (k+1)
def eR (l:List LY)(off:Int):Int:=eW off l 0
theorem FN {off:Int}{l:List LY}{k:Nat}{x:LY}(hx:l[k]?=some x):eW off (l.drop k) k=if gv off x then(k:Int)else eW off (l.drop (k+1)) (k+1):=by rw[cF hx,eW]
theorem qq {off:Int}:∀(l:List LY) (k:Nat),eW off l k= -1\/((k:Int)<=eW off l k/\eW off l k<k+l.length)
 | [],k=> .inl (by rw[eW])
 | x::l,k=>by
  rw[eW];split
  ·exact .inr ⟨o_,by simp only[d5];omega⟩
  ·rcases qq l (k+1)with h|h
   ·exact .inl h
   ·exact .inr ⟨o_,by simp only[d5];omega⟩
theorem mQ (l:List LY)(off:Int):eR l off= -1\/(0<=eR l off/\eR l off<l.length):=by have:=qq (off:=off) l 0;unfold eR;omega
theorem lL (i:LM)(off:Int)(hl:i.L8.length<=1048576):Sim.Spec prog 136 [.agg i.tr,tvI off] (rI (eR i.L8 off)):=by
 refine ak hΓ aG func136 rfl d_ rfl ?_;obtain⟨code,l⟩:=i;dsimp only at hl⊢;have Mw:(l.map LY.tr).length=l.length:=s_;unfold eR;repeat' ((conv=>whnf);first|refine Or.inl ?_|apply oi|apply fi|intro h|exact Y1|refine e_ rfl ?_)
 conv=>whnf
 refine⟨{k:Nat//k<=l.length/\eW off (l.drop k) k=eW off l 0},fun k=>⟨[(1,tI .i64 off),(2,.r (.c (.ptr (2,0,0) 0))),(5,tI .i64 (k.1:Int))],[((2,0,0),some (.box [.t (.str code),.t (.lst 3 (l.map LY.tr))]))],[2]⟩,fun k=>l.length-k.1,⟨0,o_,by rw[B8]⟩,?_,?_⟩
 ·exact Z1
 intro⟨k,hk,hr⟩;dsimp only;by_cases Mz:k<l.length
 ·obtain⟨x,hx⟩:=ae Mz;rw[FN hx]at hr;have Nk:=aP x.L4 0 1000000;have Nc:=aP x.Mk 0 1000000;have Qm:gv off x=false->eW off (l.drop (k+1)) (k+1)=eW off l 0:=fun h=>by rw[h,b8 s_]at hr;exact hr
  cases Nl:af x.L4 0 1000000 with
  | false=>
   have hh:gv off x=false:=(by rw[gv,Nl];rfl);rw[Nl]at Nk;repeat' ((conv=>whnf);first|refine Or.inl ?_|apply oi|apply fi|intro h|refine⟨k,x.tr,rfl,ab hx,?_⟩|refine ci Nk (ai rfl (ai rfl (ai rfl trivial))) ?_|exact Y2|refine e_ rfl ?_)
   all_goals conv=>whnf
   all_goals refine⟨⟨k+1,o_,Qm hh⟩,?_,KD⟩
   repeat' ((conv=>whnf);first|refine Or.inl ?_|apply oi|apply fi|intro h|exact Y1|refine e_ rfl ?_)
   all_goals exact Q3
  | true=>
   rw[Nl]at Nk
   cases NT:af x.Mk 0 1000000 with
   | false=>
    have hh:gv off x=false:=(by rw[gv,Nl,NT];rfl);rw[NT]at Nc;repeat' ((conv=>whnf);first|refine Or.inl ?_|apply oi|apply fi|intro h|refine⟨k,x.tr,rfl,ab hx,?_⟩|refine ci Nk (ai rfl (ai rfl (ai rfl trivial))) ?_|refine ci Nc (ai rfl (ai rfl (ai rfl trivial))) ?_|exact Y2|refine e_ rfl ?_)
    all_goals conv=>whnf
    all_goals refine⟨⟨k+1,o_,Qm hh⟩,?_,KD⟩
    repeat' ((conv=>whnf);first|refine Or.inl ?_|apply oi|apply fi|intro h|exact Y1|refine e_ rfl ?_)
    all_goals exact Q3
   | true=>
    rw[NT]at Nc;have PE:=within_iff.1 Nl;have Tl:=within_iff.1 NT;have SY:IntKind.i64.wrap (x.L4+x.Mk)=x.L4+x.Mk:=c6 _ o_
    cases hh:gv off x with
    | true=>
     rw[hh,c7 rfl]at hr;rw[gv,Nl,NT]at hh;simp only[m9,b9,j5]at hh;repeat' ((conv=>whnf);first|refine Or.inl ?_|apply oi|apply fi|intro h|refine⟨k,x.tr,rfl,ab hx,?_⟩|refine ci Nk (ai rfl (ai rfl (ai rfl trivial))) ?_|refine ci Nc (ai rfl (ai rfl (ai rfl trivial))) ?_|exact Y2|refine e_ rfl ?_)
     all_goals try exact⟨by rw[hr]⟩
     all_goals(exfalso;(try rw[SY]at h);simp only[p9]at h;omega)
    | false=>
     have Wq:=Qm hh;rw[gv,Nl,NT]at hh;simp only[m9,A8,p9]at hh;repeat' ((conv=>whnf);first|refine Or.inl ?_|apply oi|apply fi|intro h|refine⟨k,x.tr,rfl,ab hx,?_⟩|refine ci Nk (ai rfl (ai rfl (ai rfl trivial))) ?_|refine ci Nc (ai rfl (ai rfl (ai rfl trivial))) ?_|exact Y2|refine e_ rfl ?_)
     all_goals try(exfalso;rw[SY]at *;simp only[j5]at *;omega)
     all_goals conv=>whnf
     all_goals refine⟨⟨k+1,o_,Wq⟩,?_,KD⟩
     repeat' ((conv=>whnf);first|refine Or.inl ?_|apply oi|apply fi|intro h|exact Y1|refine e_ rfl ?_)
     all_goals exact Q3
 ·have MT:l.length<=k:=o_;rw[n9 MT,eW]at hr;repeat' ((conv=>whnf);first|refine Or.inl ?_|apply oi|apply fi|intro h|exact Y2|refine e_ rfl ?_)
  exact⟨by rw[<-hr]⟩
def cy (s:List UInt8)(p:Nat):Nat:=match s[p]? with|some b=>b.toNat|none=>0
theorem Fy (s:List UInt8)(p:Nat):cy s p<256:=by
 unfold cy;split
 ·exact UInt8.toNat_lt _
 ·omega
def aV (s:List UInt8)(p:Nat):Nat->Nat
 | 0=>0
 | k+1=>aV s p k+cy s (p+k)*256^k
theorem eZ (s:List UInt8)(p:Nat):∀k,aV s p k<256^k
 | 0=>by simp[aV]
 | k+1=>by
  have h1:=eZ s p k;have h2:=Fy s (p+k);rw[aV,G7];have h3:=l9 (256^k) (show cy s (p+k)<=255 by omega);omega
def jI (c:Int)(m:Nat):Int:=if(aX c).2=true/\2^(8*(aX c).1.toNat-1)<=m then(m:Int)-2^(8*(aX c).1.toNat)else m
def bt (s:List UInt8)(p:Int):Option (LS×Nat):=
 if 0<=p/\p<s.length then
  (
   if aE (cy s p.toNat)=0\/(s.length:Int)<p+aE (cy s p.toNat)then none
   else some (⟨cy s p.toNat,jI (cy s p.toNat) (aV s (p.toNat+1) (aX (cy s p.toNat)).1.toNat)⟩,(aE (cy s p.toNat)).toNat))
 else none
def opX (o:Option (LS×Nat)):LS:=match o with|some x=>x.1|none=>⟨0,0⟩
def opZ (o:Option (LS×Nat)):Int:=match o with|some x=>x.2|none=>0
abbrev rOp (o:Option (LS×Nat)):Res:= .tup [.agg [.t (.int .i64 (opX o).I9),.t (.int .i64 (opX o).J7)],.c (.t (.int .i64 (opZ o))),.c (.t (.bool o.isSome))]
theorem Ao (c:Int):aX c=(4,true)\/aX c=(2,true)\/aX c=(2,false)\/aX c=(1,false)\/aX c=(0,false):=by
 unfold aX;repeat' split
 all_goals simp
theorem KM {n x k:Nat}(hn:n<256^k):n ||| x*256^k=n+x*256^k:=by
 have e:(256:Nat)^k=2^(8*k):=by rw[show(256:Nat)=2^8 from rfl,<-Nat.pow_mul]
 have:=Nat.two_pow_add_eq_or_of_lt (i:=8*k) (b:=n) (by rw[<-e];exact hn) x;rw[e,Nat.mul_comm x,Nat.or_comm,<-this];omega
theorem yb {x k:Nat}(hk:k<4)(hx:x<256):IntKind.i64.wrap ((x:Int)*2^(min (Int.toNat (IntKind.i64.wrap (8*(k:Int)))) IntKind.i64.bits))=((x*256^k:Nat):Int):=by
 rw[c6 (8*(k:Int)) o_];have:k=0\/k=1\/k=2\/k=3:=o_;rcases this with rfl|rfl|rfl|rfl
 ·show IntKind.i64.wrap ((x:Int)*1)=_;rw[c6 _ o_];simp
 ·show IntKind.i64.wrap ((x:Int)*256)=_;rw[c6 _ o_];simp
 ·show IntKind.i64.wrap ((x:Int)*65536)=_;rw[c6 _ o_];simp
 ·show IntKind.i64.wrap ((x:Int)*16777216)=_;rw[c6 _ o_];simp
theorem xr {k:Nat}(hk:k<4):256^k<=16777216:=by have:=Nat.pow_le_pow_right (n:=256) o_ (show k<=3 by omega);exact this
theorem GL {n x k:Nat}(hk:k<4)(hn:n<256^k)(hx:x<256):IntKind.i64.wrap ((BitVec.ofInt IntKind.i64.bits (n:Int) ||| BitVec.ofInt IntKind.i64.bits (IntKind.i64.wrap ((x:Int)*2^(min (Int.toNat (IntKind.i64.wrap (8*(k:Int)))) IntKind.i64.bits)))).toNat:Int)=((n+x*256^k:Nat):Int):=by
 rw[yb hk hx];have h4:=xr hk;have h5:x*256^k<=255*16777216:=A4 o_ h4
 have e:(BitVec.ofInt IntKind.i64.bits (n:Int) ||| BitVec.ofInt IntKind.i64.bits ((x*256^k:Nat):Int)).toNat=n+x*256^k:=by show(BitVec.ofInt 64 (n:Int) ||| BitVec.ofInt 64 ((x*256^k:Nat):Int)).toNat=_;rw[BitVec.toNat_or,B9,B9];have e1:((n:Int)%((2^64:Nat):Int)).toNat=n:=o_;have e2:(((x*256^k:Nat):Int)%((2^64:Nat):Int)).toNat=x*256^k:=o_;rw[e1,e2,KM hn]
 rw[e,c6 _ o_]
theorem ym (c:Int):∃n:Nat,(aX c).1=(n:Int)/\(n=0\/n=1\/n=2\/n=4)/\((aX c).2=true->n=2\/n=4):=by
 rcases Ao c with h|h|h|h|h<;>rw[h]
 ·exact⟨4,rfl,o_,o_⟩
 ·exact⟨2,rfl,o_,o_⟩
 ·exact⟨2,rfl,o_,s_⟩
 ·exact⟨1,rfl,o_,s_⟩
 ·exact⟨0,rfl,o_,s_⟩
theorem qJ {c:Int}{n m:Nat}(hn:(aX c).1=(n:Int))(hg:(aX c).2=true)(h:2^(8*n-1)<=m):jI c m=(m:Int)-2^(8*n):=by rw[jI,hn,d7,c7 ⟨hg,h⟩]
theorem nJ {c:Int}{n m:Nat}(hn:(aX c).1=(n:Int))(h:¬((aX c).2=true/\2^(8*n-1)<=m)):jI c m=(m:Int):=by rw[jI,hn,d7,b8 h]
theorem V94{p:Prop}(h:p:=by
 have h1:¬aE (b.toNat:Int)=0:=fun h=>MR (Or.inl h);unfold aE at h1⊢;split at h1
 ·rename_i Se;rw[c7 Se,hn]
 ·omega):p:=h
theorem V95{p:Prop}(h:p:=by
 rcases RL rfl with h|h<;>rw[h]
 ·exact⟨32768,65536,d_,d_,d_,d_,d_,d_⟩
 ·exact⟨2147483648,4294967296,d_,d_,d_,d_,d_,d_⟩):p:=h
theorem tz (s:List UInt8)(p:Int)(hs:s.length<=1048576)(hp:p<=9223372036854775807):Sim.Spec prog 177 [tvS s,tvI p] (rOp (bt s p)):=by
 refine ak hΓ aG func177 rfl d_ rfl ?_;have hb:=ba p 0 (IntKind.i64.wrap (s.length-1));have hw:IntKind.i64.wrap ((s.length:Int)-1)=(s.length:Int)-1:=c6 _ o_;by_cases hin:0<=p/\p<s.length
 ·obtain⟨p,rfl⟩:=j6 hin.1;have QH:af (p:Int) 0 (IntKind.i64.wrap (s.length-1))=true:=by rw[hw];exact within_iff.2 ⟨o_,o_⟩
  rw[QH]at hb;obtain⟨b,Ob⟩:=ae (l:=s) (k:=p) o_;have Wp:cy s p=b.toNat:=by rw[cy,Ob]
  have hz:=wS (b.toNat:Int);have ha:=lY (b.toNat:Int);have Te:=gQ (b.toNat:Int);have Mz:=UInt8.toNat_lt b;have VU:IntKind.i64.wrap (b.toNat:Int)=b.toNat:=c6 _ o_;rw[bt,c7 hin,d7,Wp];by_cases MR:aE (b.toNat:Int)=0\/(s.length:Int)<(p:Int)+aE (b.toNat:Int)
  ·rw[c7 MR];repeat' ((conv=>whnf);first|refine Or.inl ?_|apply oi|apply fi|intro h|refine ci hb (ai rfl (ai rfl (ai rfl trivial))) ?_|refine⟨p,b,rfl,Ob,?_⟩|refine ci hz (ai KW trivial) ?_|exact Y1|refine e_ rfl ?_)
   all_goals(exfalso;rename_i h0;have h1:¬aE (b.toNat:Int)=0:=(by simpa using h0);rw[c6 _ o_]at h;have h':=f9 h;omega)
  ·rw[b8 MR];repeat' ((conv=>whnf);first|refine Or.inl ?_|apply oi|apply fi|intro h|refine ci hb (ai rfl (ai rfl (ai rfl trivial))) ?_|refine⟨p,b,rfl,Ob,?_⟩|refine ci hz (ai KW trivial) ?_|refine ci ha (ai KW trivial) ?_|exact Y1|refine e_ rfl ?_)
   all_goals try(exfalso;first|(have h1:aE (b.toNat:Int)=0:=aad;omega)|(rw[c6 _ o_]at h;have h':=f0 h;omega))
   obtain⟨n,hn,WL,RL⟩:=ym (b.toNat:Int)
   have Zq:aE (b.toNat:Int)=n+1:=by exact V94
   have Qc:=fun m=>qJ (m:=m) hn;have Pa:=fun m=>nJ (m:=m) hn;rw[hn,d7]
   generalize(aX (b.toNat:Int)).2=sg at *
   generalize hV:jI (b.toNat:Int)=V at *
   conv=>whnf
   refine⟨{k:Nat//k<=n},fun k=>⟨[(0,tS s),(1,tI .i64 (p:Int)),(4,.r (.c (.ptr (4,0,0) 0))),(7,.r (.c (.ptr (7,0,0) 0))),(8,tI .i64 (aE (b.toNat:Int))),(9,tI .i64 (n:Int)),(10,tB sg),(11,tI .i64 (k.1:Int))],[((7,0,0),some (.box [.t (.int .i64 b.toNat),.t (.int .i64 (aV s (p+1) k.1:Nat))])),((4,0,0),some (.box [.t (.int .i64 0),.t (.int .i64 0)]))],[7,4]⟩,fun k=>n-k.1,⟨0,o_⟩,?_,?_⟩
   ·repeat' ((conv=>whnf);first|refine Or.inl ?_|apply oi|apply fi|intro h|exact Y1|refine e_ rfl ?_)
    all_goals exact⟨by first|rfl|(rw[VU];done)|(rw[hn];done)⟩
   intro⟨k,hk⟩;dsimp only;by_cases O8:k<n
   ·obtain⟨b2,Nc⟩:=ae (l:=s) (k:=p+1+k) o_;have SH:cy s (p+1+k)=b2.toNat:=(by rw[cy,Nc]);have Oa:=UInt8.toNat_lt b2;have Tg:=eZ s (p+1) k;have OU:IntKind.i64.wrap (IntKind.i64.wrap ((p:Int)+1)+k)=((p+1+k:Nat):Int):=(by rw[c6 ((p:Int)+1) o_,c6 _ o_];omega);have Na:aV s (p+1) (k+1)=aV s (p+1) k+b2.toNat*256^k:=(by rw[aV,SH]);have NT:IntKind.i64.wrap (b2.toNat:Int)=b2.toNat:=c6 _ o_;repeat' ((conv=>whnf);first|refine Or.inl ?_|apply oi|apply fi|intro h|refine⟨(p+1+k),b2,OU,Nc,?_⟩|exact Y12|refine e_ rfl ?_)
    conv=>whnf
    refine⟨⟨k+1,o_⟩,?_,KD⟩;repeat' ((conv=>whnf);first|refine Or.inl ?_|apply oi|apply fi|intro h|exact Y1|refine e_ rfl ?_)
    ·exact⟨by dsimp only;rw[c6 _ o_];rfl⟩
    ·refine⟨congrArg (Tr.int _) ?_⟩;dsimp only;rw[Na,NT];exact GL o_ Tg Oa
   ·have OL:k=n:=o_;subst OL;have Tg:=eZ s (p+1) k
    cases sg with
    | false=>
     have hv:=Pa (aV s (p+1) k) s_;repeat' ((conv=>whnf);first|refine Or.inl ?_|apply oi|apply fi|intro h|exact Y2|refine e_ rfl ?_)
     all_goals(refine⟨congrArg (Tr.int _) ?_⟩;simp only[opX,opZ];first|(rw[hv];done)|omega)
    | true=>
     have Wu:∃A B:Nat,2^(8*k-1)=A/\2^(8*k)=B/\B<=4294967296/\IntKind.i64.wrap (1*2^(min (Int.toNat (IntKind.i64.wrap (IntKind.i64.wrap (8*(k:Int))-1))) IntKind.i64.bits))=(A:Int)/\
       IntKind.i64.wrap (1*2^(min (Int.toNat (IntKind.i64.wrap (8*(k:Int)))) IntKind.i64.bits))=(B:Int)/\256^k=B:=by
      exact V95
     obtain⟨A,B,hA,hB,Z8,N7,Oq,Si⟩:=Wu;rw[Si]at Tg;have Sa:(2:Int)^(8*k)=(B:Int):=(by rw[<-hB];simp);rw[hA,Sa]at Qc;rw[hA]at Pa
     have P5:0<=IntKind.i64.wrap (IntKind.i64.wrap (8*(k:Int))-1):=by rcases RL rfl with h|h<;>rw[h]<;>decide
     have Qx:0<=IntKind.i64.wrap (8*(k:Int)):=by rcases RL rfl with h|h<;>rw[h]<;>decide
     by_cases MT:A<=aV s (p+1) k
     ·have hv:=Qc _ rfl MT;have OM:IntKind.i64.wrap ((aV s (p+1) k:Int)-(B:Int))=(aV s (p+1) k:Int)-B:=c6 _ o_;repeat' ((conv=>whnf);first|refine Or.inl ?_|apply oi|apply fi|intro h|exact Y2|refine e_ rfl ?_)
      all_goals try(exfalso;rw[N7]at h;have h':=f9 h;omega)
      all_goals first
       | exact⟨P5⟩
       | exact⟨Qx⟩
       |(refine⟨congrArg (Tr.int _) ?_⟩;simp only[opX,opZ];first|(rw[Oq,OM,hv];done)|omega)
     ·have hv:=Pa _ (fun h=>MT h.2);repeat' ((conv=>whnf);first|refine Or.inl ?_|apply oi|apply fi|intro h|exact Y2|refine e_ rfl ?_)
      all_goals try(exfalso;rw[N7]at h;have h':=f0 h;omega)
      all_goals first
       | exact⟨P5⟩
       | exact⟨Qx⟩
       |(refine⟨congrArg (Tr.int _) ?_⟩;simp only[opX,opZ];first|(rw[hv];done)|omega)
 ·rw[bt,b8 hin]
  have QH:af p 0 (IntKind.i64.wrap (s.length-1))=false:=by
   rw[hw]
   cases h:af p 0 ((s.length:Int)-1)with|false=>rfl|true=>exact absurd (within_iff.1 h) o_
  rw[QH]at hb;repeat' ((conv=>whnf);first|refine Or.inl ?_|apply oi|apply fi|intro h|refine ci hb (ai rfl (ai rfl (ai rfl trivial))) ?_|exact Y1|refine e_ rfl ?_)
theorem lS (s:List UInt8)(p:Int)(hs:s.length<=1048576)(hp:p<=9223372036854775807):Sim.Spec prog 140 [tvS s,tvI p] (rOp (bt s p)):=by
 refine ak hΓ aG func140 rfl d_ rfl ?_;have hw:IntKind.i64.wrap ((s.length:Int)-1)=(s.length:Int)-1:=c6 _ o_;by_cases hin:0<=p/\p<s.length
 ·obtain⟨p,rfl⟩:=j6 hin.1;obtain⟨b,Ob⟩:=ae (l:=s) (k:=p) o_;have Wp:cy s p=b.toNat:=by rw[cy,Ob]
  have hz:=ki (b.toNat:Int);have ha:=fK (b.toNat:Int);have Te:=gQ (b.toNat:Int);have Mz:=UInt8.toNat_lt b;have VU:IntKind.i64.wrap (b.toNat:Int)=b.toNat:=c6 _ o_;rw[bt,c7 hin,d7,Wp];by_cases MR:aE (b.toNat:Int)=0\/(s.length:Int)<(p:Int)+aE (b.toNat:Int)
  ·rw[c7 MR]
   have Vi:IntKind.i64.wrap (IntKind.i64.wrap ((p:Int)+1)+(aX (b.toNat:Int)).1)=(p:Int)+1+(aX (b.toNat:Int)).1:=by have:=dP (b.toNat:Int);rw[c6 ((p:Int)+1) o_,c6 _ o_]
   have Un:¬aE (b.toNat:Int)=0->aE (b.toNat:Int)=(aX (b.toNat:Int)).1+1:=fun h=>by
    unfold aE at h⊢;split at h
    ·rename_i Se;rw[c7 Se]
    ·omega
   repeat' ((conv=>whnf);first|refine Or.inl ?_|apply oi|apply fi|intro h|refine⟨p,b,rfl,Ob,?_⟩|refine ci hz (ai KW trivial) ?_|refine ci ha (ai KW trivial) ?_|exact Y1|refine e_ rfl ?_)
   all_goals try(exfalso;first|(have h':=f0 h;omega))
   all_goals(exfalso;rename_i h0;have h1:¬aE (b.toNat:Int)=0:=(by simpa using h0);rw[Vi]at h;have h':=f9 h;have:=Un h1;omega)
  ·rw[b8 MR]
   have Vi:IntKind.i64.wrap (IntKind.i64.wrap ((p:Int)+1)+(aX (b.toNat:Int)).1)=(p:Int)+1+(aX (b.toNat:Int)).1:=by have:=dP (b.toNat:Int);rw[c6 ((p:Int)+1) o_,c6 _ o_]
   have Un:aE (b.toNat:Int)=(aX (b.toNat:Int)).1+1:=by
    have h:¬aE (b.toNat:Int)=0:=fun h=>MR (Or.inl h);unfold aE at h⊢;split at h
    ·rename_i Se;rw[c7 Se]
    ·omega
   repeat' ((conv=>whnf);first|refine Or.inl ?_|apply oi|apply fi|intro h|refine⟨p,b,rfl,Ob,?_⟩|refine ci hz (ai KW trivial) ?_|refine ci ha (ai KW trivial) ?_|exact Y1|refine e_ rfl ?_)
   all_goals try(exfalso;first|(have h1:aE (b.toNat:Int)=0:=aad;omega)|(rw[Vi]at h;have h':=f0 h;omega)|(have h':=f0 h;omega))
   clear Vi;obtain⟨n,hn,WL,RL⟩:=ym (b.toNat:Int)
   have Zq:aE (b.toNat:Int)=n+1:=by exact V94
   have Qc:=fun m=>qJ (m:=m) hn;have Pa:=fun m=>nJ (m:=m) hn;rw[hn,d7]
   generalize(aX (b.toNat:Int)).2=sg at *
   generalize hV:jI (b.toNat:Int)=V at *
   conv=>whnf
   refine⟨{k:Nat//k<=n},fun k=>⟨[(0,tS s),(1,tI .i64 (p:Int)),(4,.r (.c (.ptr (4,0,0) 0))),(7,.r (.c (.ptr (7,0,0) 0))),(8,tI .i64 (n:Int)),(9,tB sg),(10,tI .i64 (k.1:Int))],[((7,0,0),some (.box [.t (.int .i64 b.toNat),.t (.int .i64 (aV s (p+1) k.1:Nat))])),((4,0,0),some (.box [.t (.int .i64 0),.t (.int .i64 0)]))],[7,4]⟩,fun k=>n-k.1,⟨0,o_⟩,?_,?_⟩
   ·repeat' ((conv=>whnf);first|refine Or.inl ?_|apply oi|apply fi|intro h|exact Y1|refine e_ rfl ?_)
    all_goals exact⟨by first|rfl|(rw[VU];done)|(rw[hn];done)⟩
   intro⟨k,hk⟩;dsimp only;by_cases O8:k<n
   ·obtain⟨b2,Nc⟩:=ae (l:=s) (k:=p+1+k) o_;have SH:cy s (p+1+k)=b2.toNat:=(by rw[cy,Nc]);have Oa:=UInt8.toNat_lt b2;have Tg:=eZ s (p+1) k;have OU:IntKind.i64.wrap (IntKind.i64.wrap ((p:Int)+1)+k)=((p+1+k:Nat):Int):=(by rw[c6 ((p:Int)+1) o_,c6 _ o_];omega);have Na:aV s (p+1) (k+1)=aV s (p+1) k+b2.toNat*256^k:=(by rw[aV,SH]);have NT:IntKind.i64.wrap (b2.toNat:Int)=b2.toNat:=c6 _ o_;repeat' ((conv=>whnf);first|refine Or.inl ?_|apply oi|apply fi|intro h|refine⟨(p+1+k),b2,OU,Nc,?_⟩|exact Y12|refine e_ rfl ?_)
    conv=>whnf
    refine⟨⟨k+1,o_⟩,?_,KD⟩;repeat' ((conv=>whnf);first|refine Or.inl ?_|apply oi|apply fi|intro h|exact Y1|refine e_ rfl ?_)
    ·exact⟨by dsimp only;rw[c6 _ o_];rfl⟩
    ·refine⟨congrArg (Tr.int _) ?_⟩;dsimp only;rw[Na,NT];rw[yb o_ Oa];have h4:=xr (show k<4 by omega);have h5:b2.toNat*256^k<=255*16777216:=A4 o_ h4;rw[c6 _ o_];simp
   ·have OL:k=n:=o_;subst OL;have Tg:=eZ s (p+1) k;have Ul:IntKind.i64.wrap (1+(k:Int))=1+k:=c6 _ o_
    cases sg with
    | false=>
     have hv:=Pa (aV s (p+1) k) s_;repeat' ((conv=>whnf);first|refine Or.inl ?_|apply oi|apply fi|intro h|exact Y2|refine e_ rfl ?_)
     all_goals(refine⟨congrArg (Tr.int _) ?_⟩;simp only[opX,opZ];first|(rw[hv];done)|(rw[Ul];omega))
    | true=>
     have Wu:∃A B:Nat,2^(8*k-1)=A/\2^(8*k)=B/\B<=4294967296/\IntKind.i64.wrap (1*2^(min (Int.toNat (IntKind.i64.wrap (IntKind.i64.wrap (8*(k:Int))-1))) IntKind.i64.bits))=(A:Int)/\
       IntKind.i64.wrap (1*2^(min (Int.toNat (IntKind.i64.wrap (8*(k:Int)))) IntKind.i64.bits))=(B:Int)/\256^k=B:=by
      exact V95
     obtain⟨A,B,hA,hB,Z8,N7,Oq,Si⟩:=Wu;rw[Si]at Tg;have Sa:(2:Int)^(8*k)=(B:Int):=(by rw[<-hB];simp);rw[hA,Sa]at Qc;rw[hA]at Pa
     have P5:0<=IntKind.i64.wrap (IntKind.i64.wrap (8*(k:Int))-1):=by rcases RL rfl with h|h<;>rw[h]<;>decide
     have Qx:0<=IntKind.i64.wrap (8*(k:Int)):=by rcases RL rfl with h|h<;>rw[h]<;>decide
     by_cases MT:A<=aV s (p+1) k
     ·have hv:=Qc _ rfl MT;have OM:IntKind.i64.wrap ((aV s (p+1) k:Int)-(B:Int))=(aV s (p+1) k:Int)-B:=c6 _ o_;repeat' ((conv=>whnf);first|refine Or.inl ?_|apply oi|apply fi|intro h|exact Y2|refine e_ rfl ?_)
      all_goals try(exfalso;rw[N7]at h;have h':=f9 h;omega)
      all_goals first
       | exact⟨P5⟩
       | exact⟨Qx⟩
       |(refine⟨congrArg (Tr.int _) ?_⟩;simp only[opX,opZ];first|(rw[Oq,OM,hv];done)|(rw[Ul];omega))
     ·have hv:=Pa _ (fun h=>MT h.2);repeat' ((conv=>whnf);first|refine Or.inl ?_|apply oi|apply fi|intro h|exact Y2|refine e_ rfl ?_)
      all_goals try(exfalso;rw[N7]at h;have h':=f0 h;omega)
      all_goals first
       | exact⟨P5⟩
       | exact⟨Qx⟩
       |(refine⟨congrArg (Tr.int _) ?_⟩;simp only[opX,opZ];first|(rw[hv];done)|(rw[Ul];omega))
 ·rw[bt,b8 hin];repeat' ((conv=>whnf);first|refine Or.inl ?_|apply oi|apply fi|intro h|exact Y1|refine e_ rfl ?_)
  all_goals(exfalso;rename_i h0;have h1:=f9 h0;have h2:=f9 h;omega)
def mJ (s:List UInt8):Nat->Nat->Option (List LS)
 | 0,p=>if p<s.length then none else some []
 | f+1,p=>if p<s.length then(match bt s (p:Int)with
   | some x=>(mJ s f (p+x.2)).map (x.1::·)
   | none=>none)else some []
def fq (s:List UInt8):Option (List LS):=mJ s s.length 0
theorem iq {s:List UInt8}{p:Nat}{x:LS}{z:Nat}(h:bt s (p:Int)=some (x,z)):1<=z/\z<=5/\p+z<=s.length:=by
 unfold bt at h;split at h
 ·rename_i hin;split at h
  ·cases h
  ·rename_i MR;injection h with h;injection h with h1 h2;rw[not_or]at MR;have:=gQ (cy s (p:Int).toNat);omega
 ·cases h
theorem qW {s:List UInt8}:∀{f p:Nat},s.length-p<=f->mJ s f p=mJ s (s.length-p) p
 | 0,p,h=>by rw[show s.length-p=0 by omega]
 | f+1,p,h=>by
  rcases m7 p s.length with Mz|MT
  ·obtain⟨m,hm⟩:∃m,s.length-p=m+1:=⟨s.length-p-1,o_⟩;rw[hm,mJ,mJ,c7 Mz,c7 Mz]
   match hd:bt s (p:Int)with
   | none=>rfl
   | some (x,z)=>have:=iq hd;dsimp only;rw[qW (f:=f) (p:=p+z) o_,qW (f:=m) (p:=p+z) o_]
  ·rw[mJ,b8 o_,show s.length-p=0 by omega,mJ,b8 o_]
theorem rW {s:List UInt8}{p:Nat}(Mz:p<s.length):mJ s (s.length-p) p=(match bt s (p:Int)with
  | some x=>(mJ s (s.length-(p+x.2)) (p+x.2)).map (x.1::·)
  | none=>none):=by
 obtain⟨m,hm⟩:∃m,s.length-p=m+1:=⟨s.length-p-1,o_⟩;rw[hm,mJ,c7 Mz]
 match hd:bt s (p:Int)with
 | none=>rfl
 | some (x,z)=>have:=iq hd;dsimp only;rw[qW (f:=m) (p:=p+z) o_]
theorem uA {s:List UInt8}{p:Nat}(MT:s.length<=p):mJ s (s.length-p) p=some []:=by rw[show s.length-p=0 by omega,mJ,b8 o_]
abbrev Ka (s:List UInt8)(R:Option (List LS)):={q:Nat×List LS//q.1<=s.length/\q.2.length<=q.1/\(mJ s (s.length-q.1) q.1).map (q.2++·)=R}
theorem V8{p:Prop}(h:p:=by
 rw[rW Mz]at hr
 match hd:bt s (p:Int)with
 | none=>
  rw[hd]at hr hD;dsimp only[rOp,opX,opZ,Option.isSome]at hr hD;subst hr
  repeat' ((conv=>whnf);first|refine Or.inl ?_|apply oi|apply fi|intro h|refine ci hD (ai rfl (ai rfl trivial)) ?_|exact Y2|refine e_ rfl ?_)
 | some (x,z)=>
  rw[hd]at hr hD;have hz:=iq hd;dsimp only[rOp,opX,opZ,Option.isSome]at hr hD;repeat' ((conv=>whnf);first|refine Or.inl ?_|apply oi|apply fi|intro h|refine ci hD (ai rfl (ai rfl trivial)) ?_|exact Y2|refine e_ rfl ?_)
  all_goals try exact⟨⟨by simp only[e7,d5,i8];omega,by simp only[e7,d5,i8];omega⟩⟩
  conv=>whnf
  refine⟨⟨(p+z,acc++[x]),g_,by simp;omega,?_⟩,?_,KD⟩
  ·dsimp only;rw[<-hr,Option.map_map];congr 1;funext l;simp
  repeat' ((conv=>whnf);first|refine Or.inl ?_|apply oi|apply fi|intro h|exact Y1|refine e_ rfl ?_)
  all_goals first
   |(refine⟨congrArg (Tr.int _) ?_⟩;dsimp only;rw[c6 _ o_];omega)
   |(refine⟨?_⟩;dsimp only;rw[u4];rfl)):p:=h
theorem V105{p:Prop}(h:p:=by
 have MT:s.length<=p:=o_;rw[uA MT]at hr;simp only[x7,m6]at hr;subst hr
 exact Z4):p:=h
theorem oB (s:List UInt8)(hs:s.length<=1048576):Sim.Spec prog 224 [tvS s] (.tup [.c (.arr 2 ((oL (fq s)).map LS.tr)),.c (.t (.bool (fq s).isSome))]):=by
 refine ak hΓ aG func224 rfl d_ rfl ?_;have RK:(mJ s (s.length-0) 0).map (([]:List LS)++·)=fq s:=by simp[fq]
 generalize fq s=R at RK⊢;repeat' ((conv=>whnf);first|refine Or.inl ?_|apply oi|apply fi|intro h|exact Y1|refine e_ rfl ?_)
 conv=>whnf
 refine⟨Ka s R,fun q=>⟨[(0,tS s),(4,.r (.c (.own (9,0,0)))),(5,tI .i64 (q.1.1:Int))],[((9,0,0),some (.arr true 2 (q.1.2.map LS.tr)))],[9]⟩,fun q=>s.length-q.1.1,⟨(0,[]),s_,s_,RK⟩,?_,?_⟩
 ·exact Z1
 intro⟨⟨p,acc⟩,hp,M5,hr⟩;dsimp only at hp M5 hr⊢;by_cases Mz:p<s.length
 ·have hD:=tz s (p:Int) hs o_;exact V8
 ·exact V105
theorem px (s:List UInt8)(hs:s.length<=1048576):Sim.Spec prog 199 [tvS s] (.tup [.c (.arr 2 ((oL (fq s)).map LS.tr)),.c (.t (.bool (fq s).isSome))]):=by
 refine ak hΓ aG func199 rfl d_ rfl ?_;have RK:(mJ s (s.length-0) 0).map (([]:List LS)++·)=fq s:=by simp[fq]
 generalize fq s=R at RK⊢;repeat' ((conv=>whnf);first|refine Or.inl ?_|apply oi|apply fi|intro h|exact Y1|refine e_ rfl ?_)
 conv=>whnf
 refine⟨Ka s R,fun q=>⟨[(0,tS s),(4,.r (.c (.own (9,0,0)))),(5,tI .i64 (q.1.1:Int))],[((9,0,0),some (.arr true 2 (q.1.2.map LS.tr)))],[9]⟩,fun q=>s.length-q.1.1,⟨(0,[]),s_,s_,RK⟩,?_,?_⟩
 ·exact Z1
 intro⟨⟨p,acc⟩,hp,M5,hr⟩;dsimp only at hp M5 hr⊢;by_cases Mz:p<s.length
 ·have hD:=lS s (p:Int) hs o_;exact V8
 ·exact V105
def fE (seen:List LY)(nm:List UInt8):Bool:=seen.any fun y=>y.J8==nm
def vu (len a:Nat)(x:LY):Bool:=x.L4==(a:Int)&&(decide (1<=x.Mk)&&(decide (x.Mk<=(len:Int)-a)&&db x.J8))
def uD (code:List UInt8)(seen:List LY)(a:Nat)(x:LY):Bool:=vu code.length a x&&(!(fE seen x.J8)&&(fq ((code.take (a+x.Mk.toNat)).drop a)).isSome)
def eS (code:List UInt8):List LY->Nat->List LY->Bool
 | _,a,[]=>a==code.length
 | seen,a,x::l=>uD code seen a x&&eS code (seen++[x]) (a+x.Mk.toNat) l
def bp (i:LM):Bool:=decide (i.I9.length<=1000000)&&eS i.I9 [] 0 i.L8
theorem Ix {code:List UInt8}{l:List LY}{k a:Nat}{x:LY}(hx:l[k]?=some x):eS code (l.take k) a (l.drop k)=(uD code (l.take k) a x&&eS code (l.take (k+1)) (a+x.Mk.toNat) (l.drop (k+1))):=by rw[cF hx,eS];obtain⟨hk,rfl⟩:=x9.1 hx;rw[z6 hk]
theorem yp {l:List LY}{j:Nat}{y:LY}{nm:List UInt8}(hy:l[j]?=some y):fE (l.take (j+1)) nm=(fE (l.take j) nm||y.J8==nm):=by obtain⟨hk,rfl⟩:=x9.1 hy;rw[z6 hk,fE,List.any_append];simp[fE]
theorem Bt {l:List LY}{j k:Nat}{y:LY}(hy:l[j]?=some y)(h:j<k):fE (l.take k) y.J8=true:=by rw[fE,y7];refine⟨y,?_,s_⟩;rw[v6];exact⟨j,by rw[n3,c7 h];exact hy⟩
theorem imgPre_iff {len a:Nat}{x:LY}:vu len a x=true↔x.L4=(a:Int)/\1<=x.Mk/\x.Mk<=(len:Int)-a/\db x.J8=true:=by unfold vu;rw[b9,b9,b9,w8,j5,j5]
abbrev JZ (code:List UInt8)(l:List LY):={q:Nat×Nat//q.1<=l.length/\q.2<=code.length/\eS code (l.take q.1) q.2 (l.drop q.1)=eS code [] 0 l}
theorem V17{p:Prop}(h:p:=by
 rw[Py]at hr hD;repeat' ((conv=>whnf);first|refine Or.inl ?_|apply oi|apply fi|intro h|refine ci hD (ai rfl trivial) ?_|exact Y1|refine e_ rfl ?_)
 all_goals try exact Q4
 conv=>whnf
 refine⟨⟨(j+1,a+z),g_,g_,by simpa using hr⟩,?_,KD⟩;repeat' ((conv=>whnf);first|refine Or.inl ?_|apply oi|apply fi|intro h|exact Y1|refine e_ rfl ?_)
 all_goals first
  | exact⟨by dsimp only;rw[NT]⟩
  | exact⟨by dsimp only;rw[c6 _ o_];rfl⟩):p:=h
theorem Q11{p:Prop}(h:p:=by exfalso;first|(have h':=f9 h;rw[Mw]at h';omega)|(simp at h;done)|(rw[p1]at h;simp at h;done)|(have h':=f0 h;(try rw[Nl]at h');omega)):p:=h
theorem Q21{p:Prop}(h:p:=by exfalso;have h':=f9 h;rw[Mw]at h';omega;first|done|fail):p:=h
theorem uu (i:LM)(hs:aF 1048576 i.tr):Sim.Spec prog 165 [.agg i.tr] (rB (bp i)):=by
 refine ak hΓ aG func165 rfl d_ rfl ?_;obtain⟨code,l⟩:=i;simp only[LM.tr,aF]at hs;have MV:code.length<=1048576:=by have:=hs.1;rw[aw]at this;omega
 have hl:=bE hs.2.1;have Mw:(l.map LY.tr).length=l.length:=s_;unfold bp;dsimp only;by_cases TU:code.length<=1000000
 ·rw[show decide (code.length<=1000000)=true from q9 TU,m9];repeat' ((conv=>whnf);first|refine Or.inl ?_|apply oi|apply fi|intro h|exact Y1|refine e_ rfl ?_)
  all_goals try(exfalso;have h':=f0 h;dsimp only at h';omega;done)
  conv=>whnf
  refine⟨JZ code l,fun q=>⟨[(1,.r (.c (.ptr (1,0,0) 0))),(3,tI .i64 (q.1.2:Int)),(15,.r (.c (.t (.lst 3 (l.map LY.tr))))),(16,tI .i64 ((l.map LY.tr).length:Int)),(17,tI .i64 (q.1.1:Int))],[((1,0,0),some (.box [.t (.str code),.t (.lst 3 (l.map LY.tr))]))],[1]⟩,fun q=>l.length-q.1.1,⟨(0,0),s_,s_,s_⟩,?_,?_⟩
  ·exact Z1
  intro⟨⟨k,a⟩,hk,ha,hr⟩;dsimp only at hk ha hr⊢;by_cases Mz:k<l.length
  ·obtain⟨x,hx⟩:=ae Mz
   have Qa:x.J8.length<=1099511627775:=by have:=bg hs.2.1 (c9 hx);simp only[LY.tr,aF,aw]at this;omega
   have hN:=wZ x.J8 Qa;rw[Ix hx,uD]at hr;have Nl:IntKind.i64.wrap ((code.length:Int)-a)=(code.length:Int)-a:=c6 _ o_
   cases NR:vu code.length a x with
   | false=>
    rw[NR,s9,s9]at hr;repeat' ((conv=>whnf);first|refine Or.inl ?_|apply oi|apply fi|intro h|refine⟨k,x.tr,rfl,ab hx,?_⟩|refine ci hN (ai rfl trivial) ?_|exact Y1|refine e_ rfl ?_)
    all_goals try exact Q21
    all_goals try exact⟨by rw[<-hr]⟩
    all_goals(exfalso;rw[<-Bool.not_eq_true,imgPre_iff]at NR;apply NR;rw[Nl]at *;(simp_all)<;>omega)
   | true=>
    obtain⟨p1,p2,p3,p4⟩:=imgPre_iff.1 NR;rw[p4]at hN;rw[NR,m9]at hr;repeat' ((conv=>whnf);first|refine Or.inl ?_|apply oi|apply fi|intro h|refine⟨k,x.tr,rfl,ab hx,?_⟩|refine ci hN (ai rfl trivial) ?_|exact Y1|refine e_ rfl ?_)
    all_goals try exact Q11
    conv=>whnf
    refine⟨0,k,rfl,rfl,o_,by rw[Mw];omega,?_⟩;repeat' ((conv=>whnf);first|refine Or.inl ?_|apply oi|apply fi|intro h|exact Y1|refine e_ rfl ?_)
    conv=>whnf
    have Nn:(((l.map LY.tr).take k).drop 0).length=k:=(by simp;omega);refine⟨{j:Nat//j<=k/\fE (l.take j) x.J8=false},fun j=>⟨[(1,.r (.c (.ptr (1,0,0) 0))),(3,tI .i64 (a:Int)),(5,.r (.c (.ptr (5,0,0) 0))),(15,.r (.c (.t (.lst 3 (l.map LY.tr))))),(16,tI .i64 ((l.map LY.tr).length:Int)),(17,tI .i64 (k:Int)),(50,.r (.c (.t (.lst 3 (((l.map LY.tr).take k).drop 0))))),(51,tI .i64 ((((l.map LY.tr).take k).drop 0).length:Int)),(52,tI .i64 (j.1:Int))],[((1,0,0),some (.box [.t (.str code),.t (.lst 3 (l.map LY.tr))])),((5,0,0),some (.box [.t (.str x.J8),.t (.int .i64 x.L4),.t (.int .i64 x.Mk)]))],[5,1]⟩,fun j=>k-j.1,⟨0,o_,rfl⟩,?_,?_⟩
    ·exact Z1
    intro⟨j,hj,R7⟩;dsimp only;by_cases N9:j<k
    ·obtain⟨y,hy⟩:=ae (l:=l) (k:=j) o_;have TF:(((l.map LY.tr).take k).drop 0)[j]?=some y.tr:=(by rw[B8,n3,c7 N9];exact ab hy);have Na:=yp (nm:=x.J8) hy;rw[R7,C7]at Na
     cases Rt:(y.J8==x.J8)with
     | true=>
      have Rs:=Bt hy N9;rw[w8.1 Rt]at Rs;rw[Rs]at hr;repeat' ((conv=>whnf);first|refine Or.inl ?_|apply oi|apply fi|intro h|refine⟨j,y.tr,rfl,TF,?_⟩|exact Y1|refine e_ rfl ?_)
      all_goals first
       |(exfalso;have h':=f9 h;rw[Nn]at h';omega)
       | exact⟨by rw[<-hr];rfl⟩
       |(exfalso;rw[Rt]at h;simp at h;done)
     | false=>
      rw[Rt]at Na;repeat' ((conv=>whnf);first|refine Or.inl ?_|apply oi|apply fi|intro h|refine⟨j,y.tr,rfl,TF,?_⟩|exact Y1|refine e_ rfl ?_)
      all_goals try(exfalso;first|(have h':=f9 h;rw[Nn]at h';omega)|(rw[Rt]at h;simp at h;done))
      conv=>whnf
      refine⟨⟨j+1,o_,Na⟩,?_,KD⟩;repeat' ((conv=>whnf);first|refine Or.inl ?_|apply oi|apply fi|intro h|exact Y1|refine e_ rfl ?_)
      all_goals exact Q3
    ·have Sd:j=k:=o_;subst Sd;obtain⟨z,hz⟩:=j6 (show 0<=x.Mk by omega);have NT:IntKind.i64.wrap ((a:Int)+x.Mk)=((a+z:Nat):Int):=(by rw[c6 _ o_,hz];rfl);rw[R7,hz,d7]at hr;have hD:=oB ((code.take (a+z)).drop a) aab;repeat' ((conv=>whnf);first|refine Or.inl ?_|apply oi|apply fi|intro h|exact Y1|refine e_ rfl ?_)
     all_goals try(exfalso;have h':=f0 h;rw[Nn]at h';omega)
     conv=>whnf
     refine⟨a,a+z,p1,NT,o_,o_,?_⟩
     cases Py:(fq ((code.take (a+z)).drop a)).isSome with
     | false=>
      rw[Py]at hr hD;repeat' ((conv=>whnf);first|refine Or.inl ?_|apply oi|apply fi|intro h|refine ci hD (ai rfl trivial) ?_|exact Y1|refine e_ rfl ?_)
      all_goals first
       | exact⟨by rw[<-hr];rfl⟩
       |(exfalso;simp at h;done)
     | true=>exact V17
  ·have MT:l.length<=k:=o_;rw[n9 MT,eS]at hr;repeat' ((conv=>whnf);first|refine Or.inl ?_|apply oi|apply fi|intro h|exact Y2|refine e_ rfl ?_)
   exact⟨by rw[<-hr];congr 1;rw[A0,w8,w8];omega⟩
 ·rw[show decide (code.length<=1000000)=false from D5 TU,s9];repeat' ((conv=>whnf);first|refine Or.inl ?_|apply oi|apply fi|intro h|exact Y1|refine e_ rfl ?_)
  all_goals(exfalso;have h':=f9 h;dsimp only at h';omega)
theorem vQ (i:LM)(hs:aF 1048576 i.tr):Sim.Spec prog 134 [.agg i.tr] (rB (bp i)):=by
 refine ak hΓ aG func134 rfl d_ rfl ?_;obtain⟨code,l⟩:=i;simp only[LM.tr,aF]at hs;have MV:code.length<=1048576:=by have:=hs.1;rw[aw]at this;omega
 have hl:=bE hs.2.1;have Mw:(l.map LY.tr).length=l.length:=s_;unfold bp;dsimp only;repeat' ((conv=>whnf);first|refine Or.inl ?_|apply oi|apply fi|intro h|exact Y1|refine e_ rfl ?_)
 conv=>whnf
 refine⟨JZ code l,fun q=>⟨[(1,.r (.c (.ptr (1,0,0) 0))),(3,tI .i64 (q.1.2:Int)),(4,tI .i64 (q.1.1:Int))],[((1,0,0),some (.box [.t (.str code),.t (.lst 3 (l.map LY.tr))]))],[1]⟩,fun q=>l.length-q.1.1,⟨(0,0),s_,s_,s_⟩,?_,?_⟩
 ·exact Z1
 intro⟨⟨k,a⟩,hk,ha,hr⟩;dsimp only at hk ha hr⊢;by_cases Mz:k<l.length
 ·obtain⟨x,hx⟩:=ae Mz
  have Qa:x.J8.length<=1099511627775:=by have:=bg hs.2.1 (c9 hx);simp only[LY.tr,aF,aw]at this;omega
  have hN:=fC x.J8 Qa;rw[Ix hx,uD]at hr;have Nl:IntKind.i64.wrap ((code.length:Int)-a)=(code.length:Int)-a:=c6 _ o_
  cases NR:vu code.length a x with
  | false=>
   rw[NR,s9,s9]at hr;repeat' ((conv=>whnf);first|refine Or.inl ?_|apply oi|apply fi|intro h|refine⟨k,x.tr,rfl,ab hx,?_⟩|refine ci hN (ai rfl trivial) ?_|exact Y1|refine e_ rfl ?_)
   all_goals try exact Q21
   all_goals try exact KX
   all_goals try exact⟨by rw[<-hr,C9]⟩
   all_goals(exfalso;rw[<-Bool.not_eq_true,imgPre_iff]at NR;apply NR;rw[Nl]at *;(simp_all)<;>omega)
  | true=>
   obtain⟨p1,p2,p3,p4⟩:=imgPre_iff.1 NR;rw[p4]at hN;rw[NR,m9]at hr;repeat' ((conv=>whnf);first|refine Or.inl ?_|apply oi|apply fi|intro h|refine⟨k,x.tr,rfl,ab hx,?_⟩|refine ci hN (ai rfl trivial) ?_|exact Y2|refine e_ rfl ?_)
   all_goals try exact Q11
   conv=>whnf
   have Nn:(((l.map LY.tr).take k).drop 0).length=k:=(by simp;omega);refine⟨{j:Nat//j<=k/\fE (l.take j) x.J8=false},fun j=>⟨[(1,.r (.c (.ptr (1,0,0) 0))),(3,tI .i64 (a:Int)),(5,.r (.c (.ptr (5,0,0) 0))),(4,tI .i64 (k:Int)),(6,tI .i64 (j.1:Int))],[((1,0,0),some (.box [.t (.str code),.t (.lst 3 (l.map LY.tr))])),((5,0,0),some (.box [.t (.str x.J8),.t (.int .i64 x.L4),.t (.int .i64 x.Mk)]))],[5,1]⟩,fun j=>k-j.1,⟨0,o_,rfl⟩,?_,?_⟩
   ·exact Z1
   intro⟨j,hj,R7⟩;dsimp only;by_cases N9:j<k
   ·obtain⟨y,hy⟩:=ae (l:=l) (k:=j) o_;have TF:(((l.map LY.tr).take k).drop 0)[j]?=some y.tr:=(by rw[B8,n3,c7 N9];exact ab hy);have Na:=yp (nm:=x.J8) hy;rw[R7,C7]at Na
    cases Rt:(y.J8==x.J8)with
    | true=>
     have Rs:=Bt hy N9;rw[w8.1 Rt]at Rs;rw[Rs]at hr;repeat' ((conv=>whnf);first|refine Or.inl ?_|apply oi|apply fi|intro h|refine⟨j,y.tr,rfl,ab hy,?_⟩|exact Y1|refine e_ rfl ?_)
     all_goals first
      |(exfalso;have h':=f9 h;omega)
      | exact⟨by rw[<-hr];simp⟩
      |(exfalso;rw[Rt]at h;simp at h;done)
    | false=>
     rw[Rt]at Na;repeat' ((conv=>whnf);first|refine Or.inl ?_|apply oi|apply fi|intro h|refine⟨j,y.tr,rfl,ab hy,?_⟩|exact Y1|refine e_ rfl ?_)
     all_goals try(exfalso;first|(have h':=f9 h;omega)|(rw[Rt]at h;simp at h;done))
     conv=>whnf
     refine⟨⟨j+1,o_,Na⟩,?_,KD⟩;repeat' ((conv=>whnf);first|refine Or.inl ?_|apply oi|apply fi|intro h|exact Y1|refine e_ rfl ?_)
     all_goals exact Q3
   ·have Sd:j=k:=o_;subst Sd;obtain⟨z,hz⟩:=j6 (show 0<=x.Mk by omega);have NT:IntKind.i64.wrap ((a:Int)+x.Mk)=((a+z:Nat):Int):=(by rw[c6 _ o_,hz];rfl);rw[R7,hz,d7]at hr;have hD:=px ((code.take (a+z)).drop a) aab;repeat' ((conv=>whnf);first|refine Or.inl ?_|apply oi|apply fi|intro h|exact Y1|refine e_ rfl ?_)
    all_goals try(exfalso;have h':=f0 h;omega)
    conv=>whnf
    refine⟨a,a+z,rfl,NT,o_,o_,?_⟩
    cases Py:(fq ((code.take (a+z)).drop a)).isSome with
    | false=>
     rw[Py]at hr hD;repeat' ((conv=>whnf);first|refine Or.inl ?_|apply oi|apply fi|intro h|refine ci hD (ai rfl trivial) ?_|exact Y1|refine e_ rfl ?_)
     all_goals first
      | exact⟨by rw[<-hr];simp⟩
      |(exfalso;simp at h;done)
    | true=>exact V17
 ·have MT:l.length<=k:=o_;rw[n9 MT,eS]at hr;repeat' ((conv=>whnf);first|refine Or.inl ?_|apply oi|apply fi|intro h|exact Y2|refine e_ rfl ?_)
  ·have h9:a=code.length:=(by have:=B7 h;omega);refine⟨congrArg Tr.bool ?_⟩;rw[<-hr,h9,beq_self_eq_true,Bool.and_true];exact decide_eq_decide.2 o_
  ·have h9:(a==code.length)=false:=(by rw[B4]at h⊢;omega);refine⟨congrArg Tr.bool ?_⟩;rw[<-hr,h9,C9]
theorem dW {code:List UInt8}:∀{l:List LY} {seen:List LY} {a:Nat},eS code seen a l=true->a<=code.length->∀x∈l,(a:Int)<=x.L4/\1<=x.Mk/\x.L4+x.Mk<=code.length
 | [],_,_,_,_,x,hx=>by cases hx
 | y::l,seen,a,h,ha,x,hx=>by
  rw[eS,b9,uD,b9,imgPre_iff]at h;obtain⟨⟨⟨p1,p2,p3,_⟩,_⟩,h2⟩:=h;rcases d6.1 hx with rfl|hx
  ·omega
  ·have:=dW h2 o_ x hx;omega
theorem V86{p:Prop}(h:p:=by
 unfold gv;rw[b9,b9,b9,within_iff,within_iff,j5,j5]
 omega):p:=h
theorem vZ {code:List UInt8}:∀{l:List LY} {seen:List LY} {a j k:Nat} {x:LY},eS code seen a l=true->a<=code.length->code.length<=1000000->l[k]?=some x->eW x.L4 l j=((j+k:Nat):Int)
 | [],_,_,_,_,_,_,_,_,hx=>by simp at hx
 | y::l,seen,a,j,k,x,h,ha,hc,hx=>by
  have Of:=dW h ha;rw[eS,b9,uD,b9,imgPre_iff]at h;obtain⟨⟨⟨p1,p2,p3,_⟩,_⟩,h2⟩:=h;rw[eW]
  match k,hx with
  | 0,hx=>
   rw[e8]at hx;injection hx with hx;subst hx
   have hh:gv y.L4 y=true:=by exact V86
   rw[c7 hh]
   rfl
  | k+1,hx=>
   rw[j8]at hx;have h3:=dW h2 o_ x (c9 hx)
   have hh:¬gv x.L4 y=true:=by exact V86
   rw[b8 hh,vZ h2 o_ hc hx];congr 1;omega
def bx (i:LM)(b e:Int):Bool:=i.L8.any fun x=>b+x.L4==e
def dF (i0 i1:LM)(b0 b1 e:Int):Int×Int:=
 if b0<=e/\e<b0+i0.I9.length then(0,e-b0)else if b1<=e/\e<b1+i1.I9.length then(1,e-b1)else(-1,-1)
def nt (i:LM)(off:Int):Bool:=decide (0<=eR i.L8 off)&&(match i.L8[(eR i.L8 off).toNat]? with|some x=>x.L4==off|none=>false)
theorem imageOk_iff {i:LM}:bp i=true↔i.I9.length<=1000000/\eS i.I9 [] 0 i.L8=true:=by rw[bp,b9,j5]
theorem sR {i:LM}(h:bp i=true){off:Int}:nt i off=true↔∃x∈i.L8,x.L4=off:=by
 obtain⟨hc,ho⟩:=imageOk_iff.1 h;unfold nt;constructor
 ·intro h1;rw[b9]at h1;split at h1
  ·rename_i x hx;exact⟨x,c9 hx,by simpa using h1.2⟩
  ·cases h1.2
 ·rintro⟨x,hx,rfl⟩;obtain⟨k,hk⟩:=v6.1 hx;have:=vZ (j:=0) ho o_ hc hk;rw[u5]at this;rw[eR,this,d7,hk];simp
def CX (i0 i1:LM)(b0 b1 e:Int):Bool:=
 if(dF i0 i1 b0 b1 e).1=0 then nt i0 (dF i0 i1 b0 b1 e).2 else if(dF i0 i1 b0 b1 e).1=1 then nt i1 (dF i0 i1 b0 b1 e).2 else false
def cU (i0 i1:LM)(b0 b1:Int):Bool:=decide (0<i0.I9.length)&&(decide (0<i1.I9.length)&&(decide (b0<b1+i1.I9.length)&&decide (b1<b0+i0.I9.length)))
theorem V106{p:Prop}(h:p:=by
 intro⟨a,b,c,d⟩;rw[cU,q9 a,q9 b,q9 c,q9 d]at ho
 cases ho):p:=h
theorem CK {i0 i1:LM}{b0 b1 e:Int}(h0:bp i0=true)(h1:bp i1=true)(ho:cU i0 i1 b0 b1=false):CX i0 i1 b0 b1 e=(bx i0 b0 e||bx i1 b1 e):=by
 have MR:¬(0<i0.I9.length/\0<i1.I9.length/\b0<b1+i1.I9.length/\b1<b0+i0.I9.length):=by exact V106
 have m0:=dW (imageOk_iff.1 h0).2 o_;have m1:=dW (imageOk_iff.1 h1).2 o_
 have e0:∀{i:LM} {b:Int},bx i b e=true↔∃x∈i.L8,b+x.L4=e:=by intro i b;rw[bx,y7];simp only[w8]
 rw[A0,w5,e0,e0,CX,dF];by_cases c0:b0<=e/\e<b0+i0.I9.length
 ·rw[c7 c0,c7 rfl,sR h0];constructor
  ·rintro⟨x,hx,h⟩;exact .inl ⟨x,hx,by dsimp only at h;omega⟩
  ·rintro(⟨x,hx,h⟩|⟨x,hx,h⟩)
   ·exact⟨x,hx,g_⟩
   ·have:=m1 x hx;exfalso;apply MR;omega
 ·rw[b8 c0];by_cases c1:b1<=e/\e<b1+i1.I9.length
  ·rw[c7 c1,b8 s_,c7 rfl,sR h1];constructor
   ·rintro⟨x,hx,h⟩;exact .inr ⟨x,hx,by dsimp only at h;omega⟩
   ·rintro(⟨x,hx,h⟩|⟨x,hx,h⟩)
    ·have:=m0 x hx;exfalso;apply c0;omega
    ·exact⟨x,hx,g_⟩
  ·rw[b8 c1,b8 d_,b8 d_];constructor
   ·intro h;cases h
   ·rintro(⟨x,hx,h⟩|⟨x,hx,h⟩)
    ·have:=m0 x hx;exfalso;apply c0;omega
    ·have:=m1 x hx;exfalso;apply c1;omega
def eu (i0 i1:LM)(b0 b1:Int)(es:List Int):Bool:=
 af es.length 1 6&&(bp i0&&(af b0 1 1000000&&(bp i1&&(af b1 1 1000000&&(!(cU i0 i1 b0 b1)&&es.all fun e=>bx i0 b0 e||bx i1 b1 e)))))
def ce (s:LX):Bool:=match s.Mp,s.Mr with
 | [i0,i1],[b0,b1]=>eu i0 i1 b0 b1 s.L9
 | _,_=>false
abbrev ta (i0 i1:LM)(b0 b1:Int)(es:List Int):List AC:=[.t (.lst 2 [i0.tr,i1.tr]),.t (.lst 1 [aa b0,aa b1]),.t (.lst 1 (es.map aa))]
theorem Q19{p:Prop}(h:p:=by exfalso;have h':=f9 h;omega):p:=h
theorem vS (i0 i1:LM)(b0 b1 e:Int)(es:List Int)(h0:∀x∈i0.L8,0<=x.L4/\x.L4<=1000000)(h1:∀x∈i1.L8,0<=x.L4/\x.L4<=1000000)(O3:0<=b0/\b0<=1000000)(Nk:0<=b1/\b1<=1000000)(T4:i0.L8.length<=1048576)(PP:i1.L8.length<=1048576):Sim.Spec prog 166 [.agg (LX.mk [i0,i1] [b0,b1] es).tr,tvI e] (rB (bx i0 b0 e||bx i1 b1 e)):=by
 refine ak hΓ aG func166 rfl d_ rfl ?_;repeat' ((conv=>whnf);first|refine Or.inl ?_|apply oi|apply fi|intro h|exact Y1|refine e_ rfl ?_)
 conv=>whnf
 refine⟨{k:Nat//k<=2/\(1<=k->bx i0 b0 e=false)/\(2<=k->bx i1 b1 e=false)},fun k=>⟨[(1,tI .i64 e),(2,.r (.c (.ptr (2,0,0) 0))),(10,.r (.c (.t (.lst 2 [i0.tr,i1.tr])))),(11,tI .i64 2),(12,tI .i64 (k.1:Int))],[((2,0,0),some (.box (ta i0 i1 b0 b1 es)))],[2]⟩,fun k=>2-k.1,⟨0,o_,o_,o_⟩,?_,?_⟩
 ·exact Z1
 intro⟨k,hk,hk1,MO⟩;dsimp only;by_cases Mz:k<2
 ·obtain⟨i,b,hi,hb,Na,Ob,Oh,OE,MR⟩:∃(i:LM) (b:Int),([i0.tr,i1.tr]:List (List Tr))[k]?=some i.tr/\([aa b0,aa b1]:List (List Tr))[k]?=some (aa b)/\(∀x∈i.L8,0<=x.L4/\x.L4<=1000000)/\(0<=b/\b<=1000000)/\i.L8.length<=1048576/\
    (bx i b e=true->(bx i0 b0 e||bx i1 b1 e)=true)/\(bx i b e=false->(1<=k+1->bx i0 b0 e=false)/\(2<=k+1->bx i1 b1 e=false)):=by
   have:k=0\/k=1:=o_;rcases this with rfl|rfl
   ·exact⟨i0,b0,rfl,rfl,h0,O3,T4,fun h=>by rw[h];rfl,fun h=>⟨fun _=>h,fun h2=>o_⟩⟩
   ·exact⟨i1,b1,rfl,rfl,h1,Nk,PP,fun h=>by rw[h];simp,fun h=>⟨fun _=>hk1 o_,fun _=>h⟩⟩
  have Mw:(i.L8.map LY.tr).length=i.L8.length:=s_;repeat' ((conv=>whnf);first|refine Or.inl ?_|apply oi|apply fi|intro h|refine⟨k,i.tr,rfl,hi,?_⟩|exact Y1|refine e_ rfl ?_)
  all_goals try exact Q19
  conv=>whnf
  refine⟨{j:Nat//j<=i.L8.length/\((i.L8.take j).any fun x=>b+x.L4==e)=false},fun j=>⟨[(1,tI .i64 e),(2,.r (.c (.ptr (2,0,0) 0))),(5,tI .i64 (k:Int)),(10,.r (.c (.t (.lst 2 [i0.tr,i1.tr])))),(11,tI .i64 2),(12,tI .i64 (k:Int)),(18,.r (.c (.t (.lst 3 (i.L8.map LY.tr))))),(19,tI .i64 ((i.L8.map LY.tr).length:Int)),(20,tI .i64 (j.1:Int))],[((2,0,0),some (.box (ta i0 i1 b0 b1 es)))],[2]⟩,fun j=>i.L8.length-j.1,⟨0,o_,rfl⟩,?_,?_⟩
  ·exact Z1
  intro⟨j,hj,hr⟩;dsimp only;by_cases NP:j<i.L8.length
  ·obtain⟨x,hx⟩:=ae NP;have VB:=c9 hx;have hxs:=Na x VB;have Nl:IntKind.i64.wrap (b+x.L4)=b+x.L4:=c6 _ o_
   have Nh:((i.L8.take (j+1)).any fun x=>b+x.L4==e)=(b+x.L4==e):=by obtain⟨Pr,rfl⟩:=x9.1 hx;rw[z6 Pr,List.any_append,hr,C7];simp
   cases Pe:(b+x.L4==e)with
   | true=>
    have Of:=OE (by rw[bx,y7];exact⟨x,VB,Pe⟩);repeat' ((conv=>whnf);first|refine Or.inl ?_|apply oi|apply fi|intro h|refine⟨j,x.tr,rfl,ab hx,?_⟩|refine⟨k,aa b,rfl,hb,?_⟩|exact Y1|refine e_ rfl ?_)
    all_goals first
     |(exfalso;have h':=f9 h;rw[Mw]at h';omega)
     | exact⟨by rw[Of]⟩
     |(exfalso;rw[Nl,Pe]at h;simp at h;done)
   | false=>
    rw[Pe]at Nh;repeat' ((conv=>whnf);first|refine Or.inl ?_|apply oi|apply fi|intro h|refine⟨j,x.tr,rfl,ab hx,?_⟩|refine⟨k,aa b,rfl,hb,?_⟩|exact Y1|refine e_ rfl ?_)
    all_goals try(exfalso;first|(have h':=f9 h;rw[Mw]at h';omega)|(rw[Nl,Pe]at h;simp at h;done))
    conv=>whnf
    refine⟨⟨j+1,o_,Nh⟩,?_,KD⟩;repeat' ((conv=>whnf);first|refine Or.inl ?_|apply oi|apply fi|intro h|exact Y1|refine e_ rfl ?_)
    all_goals exact Q3
  ·have XA:i.L8.length<=j:=o_;rw[gt XA]at hr;have Wj:=MR hr;repeat' ((conv=>whnf);first|refine Or.inl ?_|apply oi|apply fi|intro h|exact Y1|refine e_ rfl ?_)
   all_goals try(exfalso;have h':=f0 h;rw[Mw]at h';omega)
   conv=>whnf
   refine⟨⟨k+1,o_,Wj⟩,?_,KD⟩;repeat' ((conv=>whnf);first|refine Or.inl ?_|apply oi|apply fi|intro h|exact Y1|refine e_ rfl ?_)
   all_goals exact Q3
 ·have O7:k=2:=o_;subst O7;repeat' ((conv=>whnf);first|refine Or.inl ?_|apply oi|apply fi|intro h|exact Y1|refine e_ rfl ?_)
  all_goals exact⟨by rw[hk1 o_,MO o_];rfl⟩
theorem V52{p:Prop}(h:p:=by
 rw[hw]at hE;repeat' ((conv=>whnf);first|refine Or.inl ?_|apply oi|apply fi|intro h|refine ci hE (ai KW (ai rfl (ai rfl trivial))) ?_|exact Y1|refine e_ rfl ?_)
 all_goals(exfalso;simp at h;done)):p:=h
theorem V31{p:Prop}(h:p:=by
 have:k=0\/k=1:=o_;rcases this with rfl|rfl
 ·exact⟨i0,b0,rfl,rfl,RX,fun h=>by rw[<-hR,h];rfl,fun h=>by rw[<-hR,h];simp,fun h h'=>⟨fun _=>⟨h,h'⟩,fun h2=>o_⟩⟩
 ·exact⟨i1,b1,rfl,rfl,PE,fun h=>by rw[<-hR,h];simp,fun h=>by rw[<-hR,h];simp,fun h h'=>⟨fun _=>hk1 o_,fun _=>⟨h,h'⟩⟩⟩):p:=h
theorem V4{p:Prop}(h:p:=by
 cases QB:bp i with
 | false=>
  rw[QB]at hI;rw[QG QB];repeat' ((conv=>whnf);first|refine Or.inl ?_|apply oi|apply fi|intro h|refine⟨k,i.tr,rfl,hi,?_⟩|refine ci hI (ai (ai rfl (ai rfl trivial)) trivial) ?_|exact Y1|refine e_ rfl ?_)
  all_goals(exfalso;first|(have h':=f9 h;omega)|(simp at h;done))
 | true=>
  rw[QB]at hI
  cases UX:af b 1 1000000 with
  | false=>
   rw[UX]at hB;rw[PU UX];repeat' ((conv=>whnf);first|refine Or.inl ?_|apply oi|apply fi|intro h|refine⟨k,i.tr,rfl,hi,?_⟩|refine⟨k,aa b,rfl,hb,?_⟩|refine ci hI (ai (ai rfl (ai rfl trivial)) trivial) ?_|refine ci hB (ai rfl (ai rfl (ai rfl trivial))) ?_|exact Y1|refine e_ rfl ?_)
   all_goals(exfalso;first|(have h':=f9 h;omega)|(simp at h;done))
  | true=>
   rw[UX]at hB;repeat' ((conv=>whnf);first|refine Or.inl ?_|apply oi|apply fi|intro h|refine⟨k,i.tr,rfl,hi,?_⟩|refine⟨k,aa b,rfl,hb,?_⟩|refine ci hI (ai (ai rfl (ai rfl trivial)) trivial) ?_|refine ci hB (ai rfl (ai rfl (ai rfl trivial))) ?_|exact Y1|refine e_ rfl ?_)
   all_goals try(exfalso;first|(have h':=f9 h;omega)|(simp at h;done))
   conv=>whnf
   refine⟨⟨k+1,o_,OE QB UX⟩,?_,KD⟩;repeat' ((conv=>whnf);first|refine Or.inl ?_|apply oi|apply fi|intro h|exact Y1|refine e_ rfl ?_)
   all_goals exact⟨by dsimp only;rw[c6 _ o_];rfl⟩):p:=h
theorem V15{p:Prop}(h:p:=by
 rw[ho]at hR;rw[cU,b9,b9,b9,j5,j5,j5,j5]at ho;obtain⟨o1,o2,o3,o4⟩:=ho;subst hR;repeat' ((conv=>whnf);first|refine Or.inl ?_|apply oi|apply fi|intro h|refine⟨0,_,rfl,rfl,?_⟩|refine⟨1,_,rfl,rfl,?_⟩|exact Y1|refine e_ rfl ?_)
 all_goals(exfalso;first|(have h':=f9 h;(try rw[x0]at h');(try rw[x1]at h');omega)|(have h':=f0 h;omega))):p:=h
theorem tN (i0 i1:LM)(b0 b1:Int)(es:List Int)(hs:aF 1048576 (LX.mk [i0,i1] [b0,b1] es).tr):Sim.Spec prog 89 [.agg (LX.mk [i0,i1] [b0,b1] es).tr] (rB (eu i0 i1 b0 b1 es)):=by
 refine ak hΓ aG func89 rfl d_ rfl ?_;have Mw:(es.map aa).length=es.length:=s_;have hE:=ba es.length 1 6;unfold eu
 cases hw:af es.length 1 6 with
 | false=>exact V52
 | true=>
  rw[hw]at hE;repeat' ((conv=>whnf);first|refine Or.inl ?_|apply oi|apply fi|intro h|refine ci hE (ai KW (ai rfl (ai rfl trivial))) ?_|exact Y1|refine e_ rfl ?_)
  all_goals try exact Q4
  have NC:=hs;simp only[LX.tr,aF]at NC;have TE:=NC.1;have RX:aF 1048576 i0.tr:=bg TE s_;have PE:aF 1048576 i1.tr:=bg TE s_;have OP:i0.I9.length<=1048576:=by have:=RX;simp only[LM.tr,aF,aw]at this;omega
  have N7:i1.I9.length<=1048576:=by have:=PE;simp only[LM.tr,aF,aw]at this;omega
  have Sj:i0.L8.length<=1048576:=by have:=RX;simp only[LM.tr,aF]at this;exact bE this.2.1
  have Sp:i1.L8.length<=1048576:=by have:=PE;simp only[LM.tr,aF]at this;exact bE this.2.1
  have M6:es.length<=1048576:=bE NC.2.2.1;rw[m9];generalize hR:(bp i0&&(af b0 1 1000000&&(bp i1&&(af b1 1 1000000&&(!(cU i0 i1 b0 b1)&&es.all fun e=>bx i0 b0 e||bx i1 b1 e)))))=R;conv=>whnf
  refine⟨{k:Nat//k<=2/\(1<=k->bp i0=true/\af b0 1 1000000=true)/\(2<=k->bp i1=true/\af b1 1 1000000=true)},fun k=>⟨[(1,.r (.c (.ptr (1,0,0) 0))),(27,tI .i64 2),(28,tI .i64 (k.1:Int))],[((1,0,0),some (.box (ta i0 i1 b0 b1 es)))],[1]⟩,fun k=>2-k.1,⟨0,o_,o_,o_⟩,?_,?_⟩
  ·exact Z1
  intro⟨k,hk,hk1,MO⟩;dsimp only;by_cases Mz:k<2
  ·obtain⟨i,b,hi,hb,WS,QG,PU,OE⟩:∃(i:LM) (b:Int),([i0.tr,i1.tr]:List (List Tr))[k]?=some i.tr/\([aa b0,aa b1]:List (List Tr))[k]?=some (aa b)/\aF 1048576 i.tr/\
     (bp i=false->R=false)/\(af b 1 1000000=false->R=false)/\(bp i=true->af b 1 1000000=true->(1<=k+1->bp i0=true/\af b0 1 1000000=true)/\(2<=k+1->bp i1=true/\af b1 1 1000000=true)):=by
    exact V31
   have hI:=uu i WS;have hB:=ba b 1 1000000;exact V4
  ·have O7:k=2:=o_;subst O7;obtain⟨g0,w0⟩:=hk1 o_;obtain⟨g1,w1⟩:=MO o_;have v0:=within_iff.1 w0;have v1:=within_iff.1 w1;rw[g0,g1,w0,w1,m9,m9,m9,m9]at hR;have x0:IntKind.i64.wrap (b1+(i1.I9.length:Int))=b1+i1.I9.length:=c6 _ o_;have x1:IntKind.i64.wrap (b0+(i0.I9.length:Int))=b0+i0.I9.length:=c6 _ o_
   cases ho:cU i0 i1 b0 b1 with
   | true=>exact V15
   | false=>
    rw[ho,F2,m9]at hR
    have MR:¬(0<i0.I9.length/\0<i1.I9.length/\b0<b1+i1.I9.length/\b1<b0+i0.I9.length):=by exact V106
    have m0:=dW (imageOk_iff.1 g0).2 o_;have m1:=dW (imageOk_iff.1 g1).2 o_;have l0:=(imageOk_iff.1 g0).1;have l1:=(imageOk_iff.1 g1).1;repeat' ((conv=>whnf);first|refine Or.inl ?_|apply oi|apply fi|intro h|refine⟨0,_,rfl,rfl,?_⟩|refine⟨1,_,rfl,rfl,?_⟩|exact Y1|refine e_ rfl ?_)
    all_goals try(
     exfalso;rename_i a1 a2 a3;have c1:=f0 a1;have c2:=f0 a2;have c3:=f0 a3;have c4:=f0 h;rw[x0]at c3;rw[x1]at c4
     exact MR ⟨o_,o_,c3,c4⟩)
    all_goals(
     conv=>whnf
     refine⟨{j:Nat//j<=es.length/\((es.drop j).all fun e=>bx i0 b0 e||bx i1 b1 e)=R},fun j=>⟨[(1,.r (.c (.ptr (1,0,0) 0))),(93,.r (.c (.t (.lst 1 (es.map aa))))),(94,tI .i64 ((es.map aa).length:Int)),(95,tI .i64 (j.1:Int))],[((1,0,0),some (.box (ta i0 i1 b0 b1 es)))],[1]⟩,fun j=>es.length-j.1,⟨0,o_,hR⟩,?_,?_⟩
     ·exact Z1
     intro⟨j,hj,hr⟩;dsimp only;by_cases NP:j<es.length
     ·obtain⟨e,he⟩:=ae NP;have SK:=vS i0 i1 b0 b1 e es (fun x hx=>by have:=m0 x hx;omega) (fun x hx=>by have:=m1 x hx;omega) o_ o_ Sj Sp;rw[cF he,E7]at hr
      cases NL:(bx i0 b0 e||bx i1 b1 e)with
      | false=>
       rw[NL]at SK hr;rw[s9]at hr;subst hr;repeat' ((conv=>whnf);first|refine Or.inl ?_|apply oi|apply fi|intro h|refine⟨j,aa e,rfl,ab he,?_⟩|refine ci SK (ai (ai rfl (ai rfl (ai rfl trivial))) (ai rfl trivial)) ?_|exact Y1|refine e_ rfl ?_)
       all_goals(exfalso;first|(have h':=f9 h;rw[Mw]at h';omega)|(simp at h;done))
      | true=>
       rw[NL]at SK hr;rw[m9]at hr;repeat' ((conv=>whnf);first|refine Or.inl ?_|apply oi|apply fi|intro h|refine⟨j,aa e,rfl,ab he,?_⟩|refine ci SK (ai (ai rfl (ai rfl (ai rfl trivial))) (ai rfl trivial)) ?_|exact Y1|refine e_ rfl ?_)
       all_goals try(exfalso;first|(have h':=f9 h;rw[Mw]at h';omega)|(simp at h;done))
       conv=>whnf
       refine⟨⟨j+1,o_,hr⟩,?_,KD⟩;repeat' ((conv=>whnf);first|refine Or.inl ?_|apply oi|apply fi|intro h|exact Y1|refine e_ rfl ?_)
       all_goals exact Q3
     ·have MT:es.length<=j:=o_;rw[n9 MT,List.all_nil]at hr;subst hr;repeat' ((conv=>whnf);first|refine Or.inl ?_|apply oi|apply fi|intro h|exact Y1|refine e_ rfl ?_)
      all_goals(exfalso;have h':=f0 h;rw[Mw]at h';omega))
theorem yM (a:Int)(k:Nat):((kn a k).toNat:Int)=(a/(2^(8*k)))%256:=by unfold kn;rw[E2 _ (Int.pow_nonneg d_)];generalize a/2^(8*k)=z;have h1:=Int.emod_nonneg z (show(256:Int)≠0 by decide);have h2:=Int.emod_lt_of_pos z (show(0:Int)<256 by decide);simp;omega
theorem ul (pre rest:List UInt8)(c:UInt8)(k:Nat)(m:List UInt8)(h:m[k]?=some c):cy (pre++m++rest) (pre.length+k)=c.toNat:=by have hk:=aH h;unfold cy;rw[j9,m5 o_,D1,j7 hk,h]
theorem CE {a:Int}{n k:Nat}(h:k<n):(iR a n)[k]?=some (kn a k):=by unfold iR;rw[p6,List.getElem?_range h];rfl
theorem Iy {c a:Int}(h:dw c a=true){s:List UInt8}{p:Nat}(hb:∀k,k<(aX c).1.toNat->cy s (p+k)=(kn a k).toNat):jI c (aV s p (aX c).1.toNat)=a:=by
 unfold dw at h;rw[b9,within_iff,within_iff]at h;obtain⟨_,ha⟩:=h;have hd:∀k,k<(aX c).1.toNat->(cy s (p+k):Int)=(a/(2^(8*k)))%256:=fun k hk=>by rw[hb k hk,yM]
 have b0:0<(aX c).1.toNat->((aV s p 1:Nat):Int)=a%256:=fun h=>by
  have d0:=hd 0 h;rw[show(2:Int)^(8*0)=1 from rfl]at d0;simp only[aV,Nat.pow_zero,Nat.mul_one,u5];omega
 have b1:1<(aX c).1.toNat->((aV s p 2:Nat):Int)=a%65536:=fun h=>by
  have d0:=b0 o_;have d1:=hd 1 h;rw[show(2:Int)^(8*1)=256 from rfl]at d1;rw[aV,show(256:Nat)^1=256 from rfl];omega
 have b2:2<(aX c).1.toNat->((aV s p 3:Nat):Int)=a%16777216:=fun h=>by
  have d0:=b1 o_;have d1:=hd 2 h;rw[show(2:Int)^(8*2)=65536 from rfl]at d1;rw[aV,show(256:Nat)^2=65536 from rfl];omega
 have b3:3<(aX c).1.toNat->((aV s p 4:Nat):Int)=a%4294967296:=fun h=>by
  have d0:=b2 o_;have d1:=hd 3 h;rw[show(2:Int)^(8*3)=16777216 from rfl]at d1;rw[aV,show(256:Nat)^3=16777216 from rfl];omega
 unfold jI;rcases Ab c with⟨e1,e2⟩|⟨e1,e2⟩|⟨e1,e2⟩|⟨e1,e2⟩|⟨e1,e2⟩
 ·rw[e1]at b3⊢;rw[e2]at ha;have b3:=b3 d_;have ha:-2147483648<=a/\a<=2147483647:=ha;show(if(true:Bool)=true/\(2147483648:Nat)<=aV s p 4 then((aV s p 4:Nat):Int)-((4294967296:Nat):Int)else((aV s p 4:Nat):Int))=a;split
  ·rename_i hc;have:=hc.2;omega
  ·rename_i hc;have:¬(2147483648<=aV s p 4):=fun h=>hc ⟨rfl,h⟩;omega
 ·rw[e1]at b1⊢;rw[e2]at ha;have b1:=b1 d_;have ha:-32768<=a/\a<=32767:=ha;show(if(true:Bool)=true/\(32768:Nat)<=aV s p 2 then((aV s p 2:Nat):Int)-((65536:Nat):Int)else((aV s p 2:Nat):Int))=a;split
  ·rename_i hc;have:=hc.2;omega
  ·rename_i hc;have:¬(32768<=aV s p 2):=fun h=>hc ⟨rfl,h⟩;omega
 ·rw[e1]at b1⊢;rw[e2]at ha;have b1:=b1 d_;have ha:0<=a/\a<=65535:=ha;rw[b8 s_];show((aV s p 2:Nat):Int)=a;omega
 ·rw[e1]at b0⊢;rw[e2]at ha;have b0:=b0 d_;have ha:0<=a/\a<=255:=ha;rw[b8 s_];show((aV s p 1:Nat):Int)=a;omega
 ·rw[e1];rw[e2]at ha;have ha:0<=a/\a<=0:=ha;rw[b8 s_];show((0:Nat):Int)=a;omega
theorem tp {x:LS}(h:dw x.I9 x.J7=true):bh x=UInt8.ofNat x.I9.toNat::iR x.J7 (aX x.I9).1.toNat:=by rw[bh,c7 h]
theorem xR {x:LS}(h:dw x.I9 x.J7=true)(pre rest:List UInt8):bt (pre++bh x++rest) (pre.length:Int)=some (x,(aE x.I9).toNat):=by
 have hc:0<=x.I9/\x.I9<=17:=by unfold dw at h;rw[b9,within_iff,within_iff]at h;exact h.1
 have Mw:=ec h;have MZ:=dP x.I9;have hz:aE x.I9=(aX x.I9).1+1:=by rw[aE,c7 (within_iff.2 hc)]
 have O3:((cy (pre++bh x++rest) pre.length:Nat):Int)=x.I9:=by have:=ul pre rest (UInt8.ofNat x.I9.toNat) 0 (bh x) (by rw[tp h];rfl);rw[z4]at this;rw[this];simp;omega
 have Wq:∀k,k<(aX x.I9).1.toNat->cy (pre++bh x++rest) (pre.length+1+k)=(kn x.J7 k).toNat:=fun k hk=>by
  have:=ul pre rest (kn x.J7 k) (k+1) (bh x) (by rw[tp h,j8];exact CE hk);rw[show pre.length+1+k=pre.length+(k+1) by omega];exact this
 have Z9:=Iy h Wq;have N8:(pre++bh x++rest).length=pre.length+(bh x).length+rest.length:=by simp;omega
 generalize pre++bh x++rest=s at *
 rw[bt,c7 ⟨o_,o_⟩,d7,O3,b8 o_,Z9]
theorem sQ {l:List LU}(h:∀y∈l,dw y.L3.J2.I9 y.L3.J2.J7=true){k:Nat}{y:LU}(hy:l[k]?=some y)(pre rest:List UInt8):bt (pre++aj l++rest) (((pre++aj (l.take k)).length:Nat):Int)=some (y.L3.J2,(aE y.L3.J2.I9).toNat):=by
 have e:l=l.take k++(y::l.drop (k+1)):=by rw[<-cF hy,y9]
 have e2:aj l=aj (l.take k)++(bh y.L3.J2++aj (l.drop (k+1))):=by
  conv=>lhs;rw[e]
  rw[aJ,show y::l.drop (k+1)=[y]++l.drop (k+1) from rfl,aJ,dZ]
 have:=xR (h y (c9 hy)) (pre++aj (l.take k)) (aj (l.drop (k+1))++rest);rw[e2];simpa [j9]using this
theorem sU:∀{l:List LU} (pre:List UInt8),(∀y∈l,dw y.L3.J2.I9 y.L3.J2.J7=true)->mJ (pre++aj l) ((pre++aj l).length-pre.length) pre.length=some (l.map fun y=>y.L3.J2)
 | [],pre,_=>by
  rw[show aj []=[] from rfl,m6]
  exact uA (d8 _)
 | y::l,pre,h=>by
  have hy:=h y s_;have Mw:=ec hy;have MZ:=dP y.L3.J2.I9
  have hc:af y.L3.J2.I9 0 17=true:=by unfold dw at hy;rw[b9]at hy;exact hy.1
  have hz:aE y.L3.J2.I9=(aX y.L3.J2.I9).1+1:=by rw[aE,c7 hc]
  have e:aj (y::l)=bh y.L3.J2++aj l:=by rw[show y::l=[y]++l from rfl,aJ,dZ]
  have ih:=sU (l:=l) (pre++bh y.L3.J2) (fun z hz=>h z (by simp[hz]));have hd:=xR hy pre (aj l);rw[j9]at hd ih;have Oa:(pre++(bh y.L3.J2++aj l)).length=pre.length+(bh y.L3.J2).length+(aj l).length:=by simp;omega
  have Wb:(pre++bh y.L3.J2).length=pre.length+(aE y.L3.J2.I9).toNat:=by rw[c8];omega
  rw[e,rW o_,hd];dsimp only;rw[Wb]at ih;rw[ih];rfl
theorem zJ {l:List LU}(h:∀y∈l,dw y.L3.J2.I9 y.L3.J2.J7=true):(fq (aj l)).isSome=true:=by
 have:=sU [] h;rw[t6]at this
 have e:fq (aj l)=some (l.map fun y=>y.L3.J2):=by unfold fq;simpa using this
 rw[e];rfl
theorem pY:∀(l:List LP) (i:Nat),(funsF l i).Pairwise (·<·)
 | [],_=>by rw[funsF];exact List.Pairwise.nil
 | x::l,i=>by
  have ih:=pY l (i+1);rw[funsF];split
  ·refine List.pairwise_append.2 ⟨List.pairwise_singleton _ _,ih,fun a ha b hb=>?_⟩;rw[t7]at ha;have:=(vA hb).1;omega
  ·rw[t6];exact ih
theorem GR {p:List LP}{f g k:Nat}(hf:(ay p)[f]?=some k)(hg:(ay p)[g]?=some k):f=g:=by
 have hs:=List.pairwise_iff_getElem.1 (pY p 0);obtain⟨h1,e1⟩:=x9.1 hf;obtain⟨h2,e2⟩:=x9.1 hg;rcases B1 f g with h|h|h
 ·have:=hs f g h1 h2 h;change(ay p)[f]<(ay p)[g]at this;rw[e1,e2]at this;omega
 ·exact h
 ·have:=hs g f h2 h1 h;change(ay p)[g]<(ay p)[f]at this;rw[e1,e2]at this;omega
theorem qp {p:List LP}(h:ah p=true){f k:Nat}(hf:(ay p)[f]?=some k):∃y,p[k]?=some y/\y.J1=0/\bD p f=y.J8/\db y.J8=true/\findN p 0 y.J8=some k:=by
 unfold ah at h;simp only[b9,j5]at h;obtain⟨_,_,h3,_,h5,_⟩:=h;obtain⟨_,y,hy,h0⟩:=nV (c9 hf);have hl:=o8.1 h3 y (c9 hy);have hn:=o8.1 h5 k (c9 hf);refine⟨y,hy,h0,by rw[bD,hf];dsimp only;rw[hy],?_,?_⟩
 ·unfold cY at hl;simp only[b9]at hl;have:=hl.2.1;rwa [c7 (.inl h0)]at this
 ·unfold nameFirst at hn;rw[hy]at hn;exact B7 hn
theorem AU {p:List LP}(h:ah p=true){f g:Nat}(hf:f<(ay p).length)(hg:g<(ay p).length)(he:bD p f=bD p g):f=g:=by obtain⟨k,hk⟩:=ae hf;obtain⟨j,hj⟩:=ae hg;obtain⟨_,_,_,e1,_,f1⟩:=qp h hk;obtain⟨_,_,_,e2,_,f2⟩:=qp h hj;rw[e1,e2]at he;rw[he,f2]at f1;injection f1 with f1;subst f1;exact GR hk hj
theorem vO {p:List LP}:∀(L:List (Nat×List LU)) (pre post:List UInt8) (seen:List LY),
  (∀x∈L,0<(aj x.2).length/\(∀y∈x.2,dw y.L3.J2.I9 y.L3.J2.J7=true)/\db (bD p x.1)=true)->L.Pairwise (fun x y=>bD p x.1≠bD p y.1)->(∀x∈L,∀y∈seen,y.J8≠bD p x.1)->post=[]->
  eS (pre++aj (ax L)++post) seen pre.length (co p pre.length L)=true
 | [],pre,post,seen,_,_,_,hp=>by subst hp;simp[co,eS,ax,aj]
 |(f,l)::L,pre,post,seen,h1,h2,h3,hp=>by
  subst hp;obtain⟨q1,q2,q3⟩:=h1 (f,l) s_;dsimp only at q1 q2 q3;have e:aj (ax ((f,l)::L))=aj l++aj (ax L):=by rw[show ax ((f,l)::L)=l++ax L by simp[ax],aJ]
  rw[H8]at h2;rw[e,m6,co,eS,b9];constructor
  ·unfold uD;rw[b9,b9];refine⟨imgPre_iff.2 ⟨rfl,g_,by dsimp only;simp;omega,q3⟩,?_,?_⟩
   ·rw[u9,fE,F5];intro y hy;have:=h3 (f,l) s_ y hy;simpa using this
   ·dsimp only;rw[d7]
    have e2:((pre++(aj l++aj (ax L))).take (pre.length+(aj l).length)).drop pre.length=aj l:=by rw[<-j9,List.take_left' s_,List.drop_left]
    rw[e2];exact zJ q2
  ·dsimp only;rw[d7]
   have ih:=vO L (pre++aj l) [] (seen++[⟨bD p f,(pre.length:Int),((aj l).length:Int)⟩]) (fun x hx=>h1 x aap) h2.2 (fun x hx y hy=>by
    rcases d9.1 hy with hy|hy
    ·exact h3 x aap y hy
    ·rw[t7]at hy;subst hy
     exact h2.1 x hx) rfl
   rw[m6,c8,j9]at ih;simpa using ih
theorem jX {p:List LP}{b:LG}{image:Int}:∀(n f:Nat) (at0:Int),(bV p b image n f at0).Pairwise (fun x y=>x.1<y.1)
 | 0,_,_=>by rw[bV];exact List.Pairwise.nil
 | n+1,f,at0=>by
  rw[nI];split
  ·refine H8.2 ⟨fun y hy=>?_,jX n _ _⟩;have:=(mV hy).1;dsimp only;omega
  ·exact jX n _ _
theorem cV {p:List LP}{b:LG}(hs:aw 1048576 (.lst 4 (p.map LP.tr)))(h1:ah p=true)(h2:aS b=true){image:Int}(h3:af image 0 1=true):bp (ag p b image)=true/\(ag p b image).I9.length<=75000:=by
 rw[ag,c7 ⟨h1,h2,h3⟩];obtain⟨h6,_⟩:=fB h1;have Oh:=iz p b image (ay p).length 0 0;have Qw:=fun x (hx:x∈bV p b image (ay p).length 0 0)=>(iD hs hx).1;have Wk:=fun x (hx:x∈bV p b image (ay p).length 0 0)=>(mV hx).2;have PF:=jX (p:=p) (b:=b) (image:=image) (ay p).length 0 0
 have N0:∀x∈bV p b image (ay p).length 0 0,0<x.2.length/\∀y∈x.2,dw y.L3.J2.I9 y.L3.J2.J7=true:=fun x hx=>by
  obtain⟨i,hi⟩:=v6.1 hx;have hl:=(jW hs h1 h2 o_ hi).2.2
  have ho:∀y∈x.2,dw y.L3.J2.I9 y.L3.J2.J7=true:=fun y hy=>by
   obtain⟨j,hj⟩:=v6.1 hy;exact(fR hs h1 h2 hi hj).1.op
  exact⟨hl,ho⟩
 generalize bV p b image (ay p).length 0 0=L at *
 have M5:=kU Qw (d8 L.length);rw[gt (d8 _)]at M5;have NW:=A6 2500 (show L.length<=6 by omega);have MV:=ib (ax L);refine⟨imageOk_iff.2 ⟨g_,?_⟩,g_⟩;have:=vO (p:=p) L [] [] [] (fun x hx=>?_) ?_ (fun x hx y hy=>by cases hy) rfl
 ·simpa using this
 ·obtain⟨q1,q2⟩:=N0 x hx;obtain⟨k,hk⟩:=ae (l:=ay p) (k:=x.1) (by have:=Wk x hx;omega);obtain⟨y,_,_,e,hn,_⟩:=qp h1 hk;refine⟨?_,q2,by rw[e];exact hn⟩;obtain⟨z,l',hz⟩:=List.exists_cons_of_length_pos q1;rw[hz,show z::l'=[z]++l' from rfl,aJ,dZ,c8];have Mx:=q2 z (by rw[hz];simp);have:=ec Mx;have h4:=dP z.L3.J2.I9
  have hc:af z.L3.J2.I9 0 17=true:=by unfold dw at Mx;rw[b9]at Mx;exact Mx.1
  rw[aE,c7 hc]at this;omega
 ·refine PF.imp_of_mem fun{x y} hx hy Mz he=>?_;have:=AU h1 (by have:=Wk x hx;omega) (by have:=Wk y hy;omega) he;omega
def kz (nm:List UInt8)(b:Int)(l:List LY):List Int:=(l.filter fun y=>y.J8==nm).map fun y=>IntKind.i64.wrap (b+y.L4)
theorem Ii (nm:List UInt8)(b:Int):kz nm b []=[]:=rfl
theorem FV (nm:List UInt8)(b:Int)(l:List LY)(y:LY):kz nm b (l++[y])=kz nm b l++if(y.J8==nm)=true then [IntKind.i64.wrap (b+y.L4)]else []:=by
 unfold kz;rw[List.filter_append,u4];congr 1;split
 ·rename_i h;simp[h]
 ·rename_i h;simp[h]
theorem Gf {nm:List UInt8}{b:Int}{l:List LY}{k:Nat}{y:LY}(h:l[k]?=some y):kz nm b (l.take (k+1))=kz nm b (l.take k)++if(y.J8==nm)=true then [IntKind.i64.wrap (b+y.L4)]else []:=by rw[dx h,FV]
theorem wx (nm:List UInt8)(b:Int)(l:List LY):(kz nm b l).length<=l.length:=by unfold kz;rw[e7];exact F8 _ _
def gl (f:Nat):List (Nat×List LU)->Int->Option Int
 | [],_=>none
 | x::L,a=>if x.1=f then some a else gl f L (a+(aj x.2).length)
theorem yc {p:List LP}{nm:List UInt8}{b:Int}:∀(L:List (Nat×List LU)) (a:Int),(∀x∈L,bD p x.1≠nm)->kz nm b (co p a L)=[]
 | [],_,_=>rfl
 |(g,l)::L,a,h=>by
  have h1:=h (g,l) s_;have ih:=yc (p:=p) (nm:=nm) (b:=b) L (a+(aj l).length) (fun x hx=>h x aap);unfold kz at ih⊢;rw[co,B6,b8 aai];exact ih
theorem xu {p:List LP}{b:Int}{f:Nat}:∀(L:List (Nat×List LU)) (a:Int),(∀x∈L,bD p x.1=bD p f->x.1=f)->L.Pairwise (fun x y=>x.1<y.1)->
  kz (bD p f) b (co p a L)=match gl f L a with|some s=>[IntKind.i64.wrap (b+s)]|none=>[]
 | [],_,_,_=>rfl
 |(g,l)::L,a,h,hs=>by
  rw[H8]at hs;rw[gl];by_cases hg:g=f
  ·subst hg;rw[c7 rfl]
   have hn:=yc (p:=p) (nm:=bD p g) (b:=b) L (a+(aj l).length) (fun x hx he=>by
    have h1:=h x aap he;have h2:=hs.1 x hx;dsimp only at h2
    omega)
   unfold kz at hn⊢;rw[co,B6,c7 s_,p7,hn]
  ·rw[b8 hg];have ih:=xu (p:=p) (b:=b) (f:=f) L (a+(aj l).length) (fun x hx=>h x aap) hs.2;rw[<-ih];unfold kz;rw[co,B6,b8];simp only[w8];exact fun he=>hg (h (g,l) s_ he)
theorem lu {f:Nat}:∀{L:List (Nat×List LU)} {a:Int},(∃x∈L,x.1=f)->∃s,gl f L a=some s
 | [],_,⟨_,h,_⟩=>by cases h
 | x::L,a,⟨y,hy,he⟩=>by
  rw[gl];split
  ·exact⟨_,rfl⟩
  ·rename_i hx;rcases d6.1 hy with rfl|hy
   ·exact absurd he hx
   ·exact lu ⟨y,hy,he⟩
theorem qx {f:Nat}:∀{L:List (Nat×List LU)} {a:Int},(∀x∈L,x.1≠f)->gl f L a=none
 | [],_,_=>rfl
 | x::L,a,h=>by rw[gl,b8 (h x s_),qx fun y hy=>h y aaJ]
theorem wi {f:Nat}:∀{L:List (Nat×List LU)} {a s:Int},gl f L a=some s->∃i x,L[i]?=some x/\x.1=f/\s=a+((aj (ax (L.take i))).length:Int)
 | [],_,_,h=>by rw[gl]at h;cases h
 | x::L,a,s,h=>by
  rw[gl]at h;split at h
  ·injection h with h;exact⟨0,x,rfl,by assumption,by subst h;simp[ax,aj]⟩
  ·obtain⟨i,y,h1,h2,h3⟩:=wi h;refine⟨i+1,y,by simpa using h1,h2,?_⟩;rw[q8,show ax (x::L.take i)=x.2++ax (L.take i) by simp[ax],aJ,c8];omega
theorem imgL_mem {p:List LP}{b:LG}{image:Int}:∀{n f:Nat} {at0:Int} {g:Nat},(∃x∈bV p b image n f at0,x.1=g)↔(f<=g/\g<f+n/\sl b image g=true)
 | 0,f,at0,g=>by
  rw[bV];constructor
  ·rintro⟨x,h,_⟩;cases h
  ·rintro⟨h1,h2,_⟩;omega
 | n+1,f,at0,g=>by
  rw[nI];split
  ·rename_i hin;constructor
   ·rintro⟨x,hx,he⟩;rcases d6.1 hx with rfl|hx
    ·dsimp only at he;subst he;exact⟨o_,o_,hin⟩
    ·have:=imgL_mem.1 ⟨x,hx,he⟩;exact⟨o_,o_,this.2.2⟩
   ·rintro⟨h1,h2,h3⟩;by_cases hg:g=f
    ·exact⟨_,List.mem_cons_self ..,hg.symm⟩
    ·obtain⟨x,hx,he⟩:=(imgL_mem (p:=p) (at0:=zD at0 (az p f b)) (n:=n) (f:=f+1)).2 ⟨o_,o_,h3⟩;exact⟨x,z9 _ hx,he⟩
  ·rename_i hin;constructor
   ·intro h;have:=imgL_mem.1 h;exact⟨o_,o_,this.2.2⟩
   ·rintro⟨h1,h2,h3⟩;have hg:g≠f:=fun e=>by subst e;exact hin h3
    exact imgL_mem.2 ⟨o_,o_,h3⟩
noncomputable abbrev imL (p:List LP) (b:LG) (image:Int):List (Nat×List LU):=bV p b image (ay p).length 0 0
def bn (b:LG)(f:Nat):Int:=if b.Mt=true then(f:Int)%2 else 0
theorem rD {b:LG}{f:Nat}{image:Int}(h:image=0\/image=1):sl b image f=true↔image=bn b f:=by
 unfold sl bn;split
 ·rw[w8];omega
 ·rw[w8]
def tU (p:List LP)(b:LG)(i0 i1:LM)(first second:Int)(f:Nat):List Int:=if bn b f=1 then kz (bD p f) second i1.L8 else kz (bD p f) first i0.L8
def kl (F:Nat->List Int):Nat->List Int
 | 0=>[]
 | n+1=>kl F n++F n
noncomputable def aW (p:List LP) (b:LG) (f:Nat):Int:=(gl f (imL p b (bn b f)) 0).getD 0
noncomputable def cS (p:List LP) (b:LG) (first second:Int) (f:Nat):Int:=IntKind.i64.wrap ((if bn b f=1 then second else first)+aW p b f)
theorem ga (b:LG)(f:Nat):bn b f=0\/bn b f=1:=by unfold bn;split<;>omega
theorem pb {p:List LP}{b:LG}(h1:ah p=true)(h2:aS b=true){image:Int}(hi:image=0\/image=1){f:Nat}(hf:f<(ay p).length)(base:Int):
  kz (bD p f) base (ag p b image).L8=if bn b f=image then [IntKind.i64.wrap (base+aW p b f)]else []:=by
 have h3:af image 0 1=true:=by rw[within_iff];omega
 rw[ag,c7 ⟨h1,h2,h3⟩];dsimp only;rw[xu _ _ (fun x hx he=>AU h1 (by have:=(mV hx).2;omega) hf he) (jX _ _ _)];by_cases he:bn b f=image
 ·subst he;obtain⟨s,hs⟩:=lu (f:=f) (a:=0) ((imgL_mem (p:=p) (b:=b) (image:=bn b f) (n:=(ay p).length) (f:=0) (at0:=0) (g:=f)).2 ⟨o_,o_,(rD hi).2 rfl⟩);rw[hs,c7 rfl,aW,show imL p b (bn b f)=bV p b (bn b f) (ay p).length 0 0 from rfl,hs];rfl
 ·rw[b8 he,qx fun x hx Pe=>?_];have:=(imgL_mem (g:=f)).1 ⟨x,hx,Pe⟩;exact he ((rD hi).1 this.2.2).symm
theorem IK {p:List LP}{b:LG}(h1:ah p=true)(h2:aS b=true){f:Nat}(hf:f<(ay p).length)(first second:Int):tU p b (ag p b 0) (ag p b 1) first second f=[cS p b first second f]:=by
 unfold tU cS;rw[pb h1 h2 (.inr rfl) hf,pb h1 h2 (.inl rfl) hf];rcases ga b f with e|e
 ·rw[e];rfl
 ·rw[e];rfl
theorem xK {F:Nat->List Int}{G:Nat->Int}:∀{n:Nat},(∀f,f<n->F f=[G f])->kl F n=(List.range n).map G
 | 0,_=>rfl
 | n+1,h=>by rw[kl,xK fun f hf=>h f o_,h n o_,G3,u4];rfl
noncomputable def entries (p:List LP) (b:LG) (first second:Int):List Int:=(List.range (ay p).length).map (cS p b first second)
noncomputable def aQ (p:List LP) (b:LG) (first second:Int):LX:=⟨[ag p b 0,ag p b 1],[first,second],entries p b first second⟩
noncomputable def gB (p:List LP) (b:LG) (first second:Int):Option LX:=if ah p=true/\aS b=true/\ce (aQ p b first second)=true then some (aQ p b first second)else none
def oSp (o:Option LX):LX:=match o with|some s=>s|none=>⟨[],[],[]⟩
theorem qi {p:List LP}:∀(L:List (Nat×List LU)) (a:Int) (y:LY),y∈co p a L->a<=y.L4/\y.L4<=a+(aj (ax L)).length
 | [],_,_,h=>by cases h
 |(f,l)::L,a,y,h=>by
  have e:((aj (ax ((f,l)::L))).length:Int)=(aj l).length+(aj (ax L)).length:=by rw[show ax ((f,l)::L)=l++ax L by simp[ax],aJ,c8];simp
  rw[e];rw[co]at h;rcases d6.1 h with rfl|h
  ·dsimp only;omega
  ·have:=qi L _ y h;omega
theorem ww {p:List LP}{b:LG}(hs:aw 1048576 (.lst 4 (p.map LP.tr)))(h1:ah p=true)(h2:aS b=true){image:Int}(h3:af image 0 1=true){y:LY}(hy:y∈(ag p b image).L8):0<=y.L4/\y.L4<=75000:=by have hl:=(cV hs h1 h2 h3).2;rw[ag,c7 ⟨h1,h2,h3⟩]at hy hl;have:=qi _ _ y hy;dsimp only at hl;omega
theorem Aj {p:List LP}(h1:ah p=true):1<=(ay p).length/\(ay p).length<=6:=by unfold ah at h1;simp only[b9,j5]at h1;exact h1.2.1
theorem Do {p:List LP}{b:LG}(hs:aw 1048576 (.lst 4 (p.map LP.tr)))(h1:ah p=true)(h2:aS b=true){first second:Int}(hf:1<=first/\first<=1000000)(SO:1<=second/\second<=1000000){f:Nat}(Mz:f<(ay p).length):
  (bn b f=0/\∃y∈(ag p b 0).L8,first+y.L4=cS p b first second f)\/(bn b f=1/\∃y∈(ag p b 1).L8,second+y.L4=cS p b first second f):=by
 have key:∀(image base:Int),(image=0\/image=1)->1<=base/\base<=1000000->bn b f=image->∃y∈(ag p b image).L8,base+y.L4=IntKind.i64.wrap (base+aW p b f):=by
  intro image base hi hb he;have hh:=pb h1 h2 hi Mz base;rw[c7 he]at hh;have hm:IntKind.i64.wrap (base+aW p b f)∈kz (bD p f) base (ag p b image).L8:=by rw[hh];simp
  unfold kz at hm;obtain⟨y,hy,e⟩:=n7.1 hm;have OO:=(A7.1 hy).1;have hr:=ww hs h1 h2 (by rw[within_iff];omega) OO;refine⟨y,OO,?_⟩;rw[<-e,c6 _ o_]
 unfold cS;rcases ga b f with e|e
 ·rw[e];exact .inl ⟨rfl,by simpa using key 0 first (.inl rfl) hf e⟩
 ·rw[e];exact .inr ⟨rfl,by simpa using key 1 second (.inr rfl) SO e⟩
theorem zk {p:List LP}{b:LG}(hs:aw 1048576 (.lst 4 (p.map LP.tr)))(h1:ah p=true)(h2:aS b=true){first second:Int}(hf:1<=first/\first<=1000000)(SO:1<=second/\second<=1000000)(MR:cU (ag p b 0) (ag p b 1) first second=false):ce (aQ p b first second)=true:=by
 have a0:=cV hs h1 h2 (image:=0) d_;have a1:=cV hs h1 h2 (image:=1) d_;have hl:=Aj h1;show eu (ag p b 0) (ag p b 1) first second (entries p b first second)=true;unfold eu;simp only[b9];refine⟨by rw[within_iff];simp[entries];omega,a0.1,within_iff.2 hf,a1.1,within_iff.2 SO,by rw[MR];rfl,?_⟩;rw[o8];intro e he;obtain⟨f,S9,rfl⟩:=n7.1 he;rw[F4]at S9;rw[w5];rcases Do hs h1 h2 hf SO S9 with⟨_,y,hy,e⟩|⟨_,y,hy,e⟩
 ·refine .inl ?_;rw[bx,y7];exact⟨y,hy,by rw[w8];exact e⟩
 ·refine .inr ?_;rw[bx,y7];exact⟨y,hy,by rw[w8];exact e⟩
theorem uB {p:List LP}{b:LG}(hs:aw 1048576 (.lst 4 (p.map LP.tr)))(h1:ah p=true)(h2:aS b=true){first second:Int}(hf:1<=first/\first<=9000)(SO:100000<=second/\second<=1000000):gB p b first second=some (aQ p b first second):=by
 have a0:=cV hs h1 h2 (image:=0) d_
 have MR:cU (ag p b 0) (ag p b 1) first second=false:=by unfold cU;rw[show decide (second<first+((ag p b 0).I9.length:Int))=false from D5 (by have:=a0.2;omega),C9,C9,C9]
 rw[gB,c7 ⟨h1,h2,zk hs h1 h2 o_ o_ MR⟩]
structure PsOk (P:List LU):Prop where
 at0:∀x:LU,P[0]?=some x->x.Mf=0
 next:∀(k:Nat) (x y:LU),P[k]?=some x->P[k+1]?=some y->y.Mf=x.Mf+aE x.L3.J2.I9
 rng:∀(k:Nat) (x:LU),P[k]?=some x->0<=x.Mf/\x.Mf<=100000/\1<=aE x.L3.J2.I9/\aE x.L3.J2.I9<=5/\0<=x.L3.Mi/\x.L3.Mi<=59
 len:P.length<=15000
theorem nl:∀{L:List (Nat×List LU)} {k:Nat} {x:LU},(ax L)[k]?=some x->∃i z j,L[i]?=some z/\z.2[j]?=some x/\k=(ax (L.take i)).length+j
 | [],k,x,h=>by simp[ax]at h
 | a::L,k,x,h=>by
  have e:ax (a::L)=a.2++ax L:=by simp[ax]
  rw[e,G2]at h;split at h
  ·exact⟨0,a,k,rfl,h,by simp[ax]⟩
  ·obtain⟨i,z,j,h1,h2,h3⟩:=nl h;refine⟨i+1,z,j,by simpa using h1,h2,?_⟩;rw[q8,show ax (a::L.take i)=a.2++ax (L.take i) by simp[ax],c8];omega
theorem pm {c a:Int}(h:dw c a=true):1<=aE c/\aE c<=5:=by unfold dw at h;rw[b9]at h;have:=dP c;rw[aE,c7 h.1];omega
theorem mj {p:List LP}{b:LG}{image:Int}(hs:aw 1048576 (.lst 4 (p.map LP.tr))):PsOk (aM p b image):=by
 by_cases hc:ah p=true/\aS b=true/\af image 0 1=true
 ·rw[aM,c7 hc];obtain⟨h1,h2,_⟩:=hc;show PsOk (ax (bV p b image (ay p).length 0 0));obtain⟨h6,QJ⟩:=fB h1;have Oh:=iz p b image (ay p).length 0 0;have Qw:=fun x (hx:x∈bV p b image (ay p).length 0 0)=>(iD hs hx).1;have M5:=kU Qw (d8 _);rw[gt (d8 _)]at M5;have NW:=A6 2500 (show(bV p b image (ay p).length 0 0).length<=6 by omega)
  have key:∀(k:Nat) (x:LU),(ax (bV p b image (ay p).length 0 0))[k]?=some x->x.Mf=((aj ((ax (bV p b image (ay p).length 0 0)).take k)).length:Int)/\dw x.L3.J2.I9 x.L3.J2.J7=true/\0<=x.L3.Mi/\x.L3.Mi<=59:=by
   intro k x hx;obtain⟨i,z,j,g1,g2,rfl⟩:=nl hx;obtain⟨hp,ho⟩:=fR hs h1 h2 g1 g2
   have ht:(ax (bV p b image (ay p).length 0 0)).take ((ax ((bV p b image (ay p).length 0 0).take i)).length+j)=ax ((bV p b image (ay p).length 0 0).take i)++z.2.take j:=by
    generalize bV p b image (ay p).length 0 0=L at *
    have e:L=L.take i++z::L.drop (i+1):=by rw[<-cF g1,y9]
    have e2:ax L=ax (L.take i)++(z.2++ax (L.drop (i+1))):=by
     conv=>lhs;rw[e]
     simp[ax]
    rw[e2,I2,D1,gt o_,A1 (Nat.le_of_lt (aH g2))]
   refine⟨by rw[ht,aJ,c8];omega,hp.op,?_⟩;rcases v3 j with rfl|hj
   ·obtain⟨_,g,ln,k1,k2,k3,_⟩:=hp.head rfl;have:=aH k3;omega
   ·obtain⟨_,g,ln,k2,k3,_⟩:=hp.body hj;have:=aH k3;omega
  generalize ax (bV p b image (ay p).length 0 0)=P at *
  refine⟨fun x hx=>?_,fun k x y hx hy=>?_,fun k x hx=>?_,o_⟩
  ·have:=(key 0 x hx).1;simpa [aj]using this
  ·obtain⟨a1,a2,_⟩:=key k x hx;obtain⟨b1,_⟩:=key (k+1) y hy;have:=ec a2;rw[b1,a1,dx hx,aJ,c8,dZ];omega
  ·obtain⟨a1,a2,a3,a4⟩:=key k x hx;have hz:=pm a2;have MV:=ib (P.take k);have Nf:=aH hx;have:(P.take k).length=k:=(by rw[l6];omega);omega
 ·rw[aM,b8 hc];exact⟨fun x h=>by simp at h,fun k x y h=>by simp at h,fun k x h=>by simp at h,s_⟩
theorem PsOk.lt {P:List LU}(h:PsOk P):∀{n k:Nat} {x y:LU},P[k]?=some x->P[k+n+1]?=some y->x.Mf+aE x.L3.J2.I9<=y.Mf
 | 0,k,x,y,hx,hy=>by have:=h.next k x y hx hy;omega
 | n+1,k,x,y,hx,hy=>by
  obtain⟨z,hz⟩:=ae (l:=P) (k:=k+n+1) (by have:=aH hy;omega);have h1:=h.lt hx hz;have h2:=h.next (k+n+1) z y hz (by rw[show k+n+1+1=k+(n+1)+1 by omega];exact hy);have:=(h.rng _ z hz).2.2.1;omega
end Go.Proofs.P
