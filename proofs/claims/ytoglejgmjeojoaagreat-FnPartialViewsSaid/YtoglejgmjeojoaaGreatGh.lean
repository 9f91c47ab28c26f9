import Derived.Test.YtoglejgmjeojoaaGreatGg
set_option maxRecDepth 100000
set_option maxHeartbeats 4000000
namespace Go.Proofs.P
open Go.Sim Tryz
def plN (p:List Mq)(i:Nat):Int:=if 0<fv p i then fv p i-1 else-fv p i
section
variable {C:Cx} {x:Sc} {ins:List Nat} {rep:Sc->List Nat->Nat->Nat->Int->Gs->Gs} {base:Int}
theorem CU (hC:CxOk C)(hx:ScOk C x ins){e:Nat}(he:endAt C.p x.f=some e){i:Nat}(h1:x.f<i)(h2:i<e)(hj:jumps C.p i):(i:Int)<plN C.p i/\plN C.p i<e:=by
 have N6:i<C.p.length:=by obtain⟨_,_,_,_,_,h⟩:=aN he;omega
 obtain⟨y,hy⟩:=ae N6;have Tv:=be hy;unfold plN fv;by_cases h4:kindAt C.p i=4
 ·rw[c7 h4];obtain⟨o1,o2,o3,o4⟩:=hx.own4 hC he o_ o_ hy (by rw[<-Tv];exact h4);obtain⟨z,e',hz,hz3,NV,r1,r2,_⟩:=bA o1;obtain⟨m,hm,m1,m2⟩:=jx he o2 o_ hz aaJ;rw[NV]at hm;injection hm with hm;subst hm;have hE:cB C.p (ownOf C.p i:Int)=(e':Int):=by rw[cD];exact bY NV
  rw[hE,c7 o_];omega
 ·rw[b8 h4];have aae:kindAt C.p i=3\/kindAt C.p i=5:=by unfold jumps at hj;omega
  obtain⟨m,hm,m1,m2⟩:=jx he h1 h2 hy aaJ;split
  ·rename_i hc
   cases NC:elseAt C.p i with
   | none=>rw[dw,NC]at hc;simp[cS]at hc
   | some j=>obtain⟨_,e',_,_,NV,r1,r2,_⟩:=bA NC;rw[hm]at NV;injection NV with NV;subst NV;have hE:cG C.p (i:Int)=(j:Int):=(by rw[dw];exact bY NC);rw[hE,b8 o_];omega
  ·have hE:cB C.p (i:Int)=(m:Int):=(by rw[cD];exact bY hm);rw[hE,c7 o_];omega
theorem Ir (hC:CxOk C)(hx:ScOk C x ins){e:Nat}(he:endAt C.p x.f=some e){k i:Nat}(h1:x.f<i)(h2:i<k)(h3:k<e)(hj:jumps C.p i)(hk:kindAt C.p k=4)(hp:plN C.p i=(k:Int)):i=ownOf C.p k:=by
 unfold plN at hp;by_cases h0:0<fv C.p i
 ·rw[c7 h0]at hp;have:=(qf hC hx he (k:=k+1) o_ o_ o_ hj o_).1;rw[show k+1-1=k by omega]at this;omega
 ·rw[b8 h0]at hp;have ht:fv C.p i= -(k:Int):=o_;unfold fv at ht;have Nk:=jJ C.p;split at ht
  ·have:=(Nk (ownOf C.p i)).1;omega
  ·split at ht
   ·rw[dw]at ht
    cases NC:elseAt C.p i with
    | none=>rw[NC]at ht;simp only[cS]at ht;omega
    | some j=>rw[NC]at ht;simp only[cS]at ht;have OH:j=k:=o_;rw[OH]at NC;exact(vC NC).symm
   ·have:=(Nk i).1;omega
theorem JY (hC:CxOk C)(hx:ScOk C x ins){e:Nat}(he:endAt C.p x.f=some e){k i:Nat}(h1:x.f<i)(h2:i<k)(h3:k<e)(hj:jumps C.p i)(hk:kindAt C.p k=7)(hp:plN C.p i=(k:Int)):i=iT C.p k:=by
 unfold plN at hp;by_cases h0:0<fv C.p i
 ·rw[c7 h0]at hp;have:=(qf hC hx he (k:=k+1) o_ o_ o_ hj o_).2.2;rw[show k+1-1=k by omega]at this;exact this.symm
 ·rw[b8 h0]at hp;have ht:fv C.p i= -(k:Int):=o_;unfold fv at ht;have Nk:=jJ C.p;split at ht
  ·have:=(Nk (ownOf C.p i)).1;omega
  ·split at ht
   ·rw[dw]at ht
    cases NC:elseAt C.p i with
    | none=>rw[NC]at ht;simp only[cS]at ht;omega
    | some j=>rw[NC]at ht;simp only[cS]at ht;have OH:j=k:=o_;rw[OH]at NC;obtain⟨_,_,_,_,_,_,_,w,hw,w4⟩:=bA NC;rw[be hw]at hk;omega
   ·have:=(Nk i).1;omega
theorem IV (hC:CxOk C)(hx:ScOk C x ins){e:Nat}(he:endAt C.p x.f=some e){k i:Nat}(h1:x.f<i)(h2:i<k)(h3:k<e)(hj:jumps C.p i)(hp:plN C.p i=(k:Int)):kindAt C.p k=4\/kindAt C.p k=7:=by
 unfold plN at hp;by_cases h0:0<fv C.p i
 ·rw[c7 h0]at hp;have:=(qf hC hx he (k:=k+1) o_ o_ o_ hj o_).1;rw[show k+1-1=k by omega]at this;exact .inr this
 ·rw[b8 h0]at hp;have ht:fv C.p i= -(k:Int):=o_;unfold fv at ht;have Nk:=jJ C.p;split at ht
  ·have:=(Nk (ownOf C.p i)).1;omega
  ·split at ht
   ·rw[dw]at ht
    cases NC:elseAt C.p i with
    | none=>rw[NC]at ht;simp only[cS]at ht;omega
    | some j=>rw[NC]at ht;simp only[cS]at ht;have OH:j=k:=o_;rw[OH]at NC;obtain⟨_,_,_,_,_,_,_,w,hw,w4⟩:=bA NC;exact .inl (by rw[be hw];exact w4)
   ·have:=(Nk i).1;omega
structure LsT (C:Cx) (x:Sc) (base:Int) (ds0 pn0:List Int) (k:Nat) (L:Ls) (ds pn:List Int):Prop where
 pre:∃es,ds=ds0++es/\∀v,es.head?=some v->v=base
 ty:Ty C L.g.J1 ds pn base
 J9:∀i,x.f<i->i<k->kindAt C.p i≠4->kindAt C.p i≠7->1<=atL L.J9 i/\ds[(atL L.J9 i).toNat]?=some base
 pos:∀i,x.f<i->i<k->jumps C.p i->Cd L.g.J1 ds (atL L.pos i) base
 lv:∀j∈L.lv,Cd L.g.J1 ds j (base+1)
 lvo:x.L6=true->L.lv=[]
 pn:∀j∈pn,j∈pn0\/j∈L.lv\/∃i,x.f<i/\i<k/\jumps C.p i/\(k:Int)<=plN C.p i/\j=atL L.pos i
 hl:L.J9.length=C.p.length
 pl:L.pos.length=C.p.length
theorem nA {ds0 ds es:List Int}(h:∃a0,ds=ds0++a0/\∀v,a0.head?=some v->v=base)(he:∀v,es.head?=some v->v=base):∃a0,ds++es=ds0++a0/\∀v,a0.head?=some v->v=base:=by
 obtain⟨a0,rfl,h2⟩:=h;refine⟨a0++es,by rw[j9],fun v hv=>?_⟩
 cases a0 with|nil=>exact he v hv|cons a a0=>exact h2 v hv
structure LT (C:Cx) (x:Sc) (base:Int) (k k':Nat) (L L':Ls):Prop where
 mono:L.g.J8<=L'.g.J8
 ext:∀i c,bf L.g.J1 i=some c->bf L'.g.J1 i=some c
 ty:L'.g.J8<=C.J2->ct C x<=C.J2->∀ds0 pn0 ds pn,LsT C x base ds0 pn0 k L ds pn->∃es pn',LsT C x base ds0 pn0 k' L' (ds++es) pn'
theorem LT.trans {k k' k'':Nat}{L L' L'':Ls}(h:LT C x base k k' L L')(h':LT C x base k' k'' L' L''):LT C x base k k'' L L'':=
 ⟨D8 h.mono h'.mono,fun i c g=>h'.ext i c (h.ext i c g),fun hm ht ds0 pn0 ds pn hL=>by
  obtain⟨es,pn1,h1⟩:=h.ty (D8 h'.mono hm) ht ds0 pn0 ds pn hL;obtain⟨fs,pn2,h2⟩:=h'.ty hm ht ds0 pn0 _ pn1 h1
  exact⟨es++fs,pn2,by rw[<-j9];exact h2⟩⟩
theorem eT {s:Gs}{d code arg line:Int}{chain:List Int}:∀i c,bf s.J1 i=some c->bf (aF C s d code arg line chain).J1 i=some c:=fun i c h=>by
 exact V122
theorem GN {s:Gs}{d code arg line:Int}{chain:List Int}:bf (aF C s d code arg line chain).J1 s.J1.length=some code:=by simp[bf,aF,bS]
theorem yB {ds es:List Int}{hs:List Int}{k:Nat}(h:∀i,x.f<i->i<k->kindAt C.p i≠4->kindAt C.p i≠7->1<=atL hs i/\ds[(atL hs i).toNat]?=some base):∀i,x.f<i->i<k->kindAt C.p i≠4->kindAt C.p i≠7->1<=atL hs i/\(ds++es)[(atL hs i).toNat]?=some base:=fun i h1 h2 h3 h4=>by
 obtain⟨a,b⟩:=h i h1 h2 h3 h4;exact⟨a,by rw[j7 (aI b)];exact b⟩
theorem JJ (hC:CxOk C)(hx:ScOk C x ins){e:Nat}(he:endAt C.p x.f=some e){k:Nat}{ln:Mq}(hk:C.p[k]?=some ln)(hk1:x.f<k)(Ni:k<e)(hb:C.J2<=base)(h4:ln.J5=4)(L:Ls):
  LT C x base k (k+1) L (bH C x k ln (bQ C rep x ins base k ln L)):=by
 have Tf:=be hk;have NL:=aI hk;obtain⟨o1,o2,o3,o4⟩:=hx.own4 hC he hk1 o_ hk h4;obtain⟨y,_,hy,WT,_⟩:=bA o1;have hB:bH C x k ln (bQ C rep x ins base k ln L)=bQ C rep x ins base k ln L:=by unfold bH;rw[b8 o_]
 rw[hB];unfold bQ;rw[c7 h4];dsimp only;refine⟨u4 _,fun i c h=>by rw[dE];exact eT i c h,fun hm ht ds0 pn0 ds pn hL=>?_⟩;have hn:ds.length=L.g.J1.length:=hL.ty.len;have hJ:=hL.pos (ownOf C.p k) o2 o3 (.inl (by rw[be hy];exact WT))
 have h1:Ty C (aF C L.g base 10 0 k x.J4).J1 (ds++[base]) ((L.g.J1.length:Int)::pn) base:=
  hL.ty.emit (dC hL.ty.pos hb (fun h=>o_) (fun h=>o_) (fun h=>o_) (fun h=>o_) (fun h=>o_) (fun h=>o_) (fun h=>o_) (fun h=>o_) o_) base (fun h=>absurd rfl h.1) (fun i hi=>by simp[hi]) (fun _=> .inl s_)
 have Zy:Cd (aF C L.g base 10 0 k x.J4).J1 (ds++[base]) (atL L.pos (ownOf C.p k)) base:=hJ.ext eT _
 generalize hj:atL L.pos (ownOf C.p k)=j at *
 have h2:=h1.patch (pn':=((L.g.J1.length:Int)::pn).filter (· !=j)) Zy (fun i hi=>by
  by_cases Pk:i=j
  ·exact .inl Pk
  ·exact .inr (B0.2 ⟨hi,by simpa using Pk⟩))
 refine⟨[base],_,nA hL.pre (fun v hv=>by simpa using hv.symm),h2,?_,fun i g1 g2 g3=>?_,fun j hj=>?_,hL.lvo,fun i hi=>?_,hL.hl,by simp[hL.pl]⟩
 ·intro i g1 g2 g3 g4;rcases m5 i k with M3|Nk
  ·exact yB hL.J9 i g1 M3 g3 g4
  ·rw[show i=k by omega]at g3;omega
 ·dsimp only;rcases m5 i k with M3|Nk
  ·rw[gu o_];exact(hL.pos i g1 M3 g3).ext (fun a c h=>by rw[dE];exact eT a c h) _
  ·have O9:i=k:=o_;subst O9;rw[fH aaQ];exact⟨o_,10,base,by rw[dE,d6];exact GN,by rw[d6,m6 o_,hn];simp,.inl rfl,rfl⟩
 ·exact(hL.lv j hj).ext (fun a c h=>by rw[dE];exact eT a c h) _
 ·obtain⟨hi,M9⟩:=B0.1 hi;have M9:i≠j:=by simpa using M9
  rcases d7.1 hi with rfl|hi
  ·refine .inr (.inr ⟨k,hk1,o_,.inr (.inl o_),?_,by dsimp only;rw[fH aaQ]⟩);have:=(CU hC hx he hk1 Ni (.inr (.inl o_))).1;omega
  ·rcases hL.pn i hi with h|h|⟨i',q1,q2,q3,q4,q5⟩
   ·exact .inl h
   ·exact .inr (.inl h)
   ·refine .inr (.inr ⟨i',q1,o_,q3,?_,by dsimp only;rw[gu o_];exact q5⟩);rcases H8 q4 with h|h
    ·omega
    ·have:=Ir hC hx he q1 q2 Ni q3 o_ h.symm;rw[this,hj]at q5;exact absurd q5 M9
theorem LA (hC:CxOk C)(hx:ScOk C x ins){e:Nat}(he:endAt C.p x.f=some e){k:Nat}{ln:Mq}(hk:C.p[k]?=some ln)(hk1:x.f<k)(Ni:k<e)(hb:C.J2<=base)(h7:ln.J5=7)(L:Ls):
  LT C x base k (k+1) L (bH C x k ln (bQ C rep x ins base k ln L)):=by
 have Tf:=be hk;have NL:=aI hk;obtain⟨k1,k2,k3,_,k5⟩:=zx hC hx he hk1 Ni hk h7;obtain⟨_,⟨o1,_⟩|⟨_,o3,o4,y,hy,ho⟩⟩:=hx.own7 hC he hk1 o_ hk h7
 ·omega
 have Tv:=be hy
 have hA:LT C x base k k L (bQ C rep x ins base k ln L)/\(bQ C rep x ins base k ln L).pos=L.pos/\(bQ C rep x ins base k ln L).lv=L.lv/\(bQ C rep x ins base k ln L).J9=L.J9:=by
  unfold bQ;rw[b8 o_,c7 h7,b8 k5];split
  ·rename_i h5;refine⟨⟨u4 _,eT,fun hm ht ds0 pn0 ds pn hL=>?_⟩,rfl,rfl,rfl⟩;obtain⟨b1,b2⟩:=hL.J9 (ownOf C.p k) o3 o4 o_ o_;refine⟨[base],pn,nA hL.pre (fun v hv=>by simpa using hv.symm),?_,yB hL.J9,fun i g1 g2 g3=>(hL.pos i g1 g2 g3).ext eT _,fun j hj=>(hL.lv j hj).ext eT _,hL.lvo,hL.pn,hL.hl,hL.pl⟩;refine hL.ty.emit (dC hL.ty.pos hb (fun h=>o_) (fun h=>o_) (fun h=>o_) (fun h=>o_) (fun h=>o_) (fun h=>o_) (fun h=>o_) (fun h=>o_) o_) base (fun h=>absurd rfl h.1) (fun i hi=>hi) (fun _=> .inr ⟨b1,?_⟩);show(ds++[base])[(atL L.J9 (ownOf C.p k)).toNat]?=some base;rw[j7 (aI b2)];exact b2
  ·exact⟨⟨u4 _,fun _ _ h=>h,fun hm ht ds0 pn0 ds pn hL=>⟨[],pn,by rw[m7];exact hL⟩⟩,rfl,rfl,rfl⟩
 obtain⟨hA,ep,el,eh⟩:=hA;refine hA.trans (k':=k) ?_
 generalize bQ C rep x ins base k ln L=L1 at *
 unfold bH;rw[c7 ⟨h7,k5⟩];refine⟨u4 _,fun i c h=>by dsimp only;rw[dE];exact h,fun hm ht ds0 pn0 ds pn hL=>?_⟩;have hJ:=hL.pos (iT C.p k) o_ k2 k3
 generalize hj:atL L1.pos (iT C.p k)=j at *
 refine⟨[],pn.filter (· !=j),?_⟩;rw[m7];have Pn:∀i c,bf L1.g.J1 i=some c->bf (cf L1.g.J1 j L1.g.J1.length) i=some c:=fun i c h=>by rw[dE];exact h
 have XD:¬jumps C.p k:=by unfold jumps;omega
 refine⟨hL.pre,hL.ty.patch hJ (fun i hi=>by
  by_cases Pk:i=j
  ·exact .inl Pk
  ·exact .inr (B0.2 ⟨hi,by simpa using Pk⟩)),fun i g1 g2 g3 g4=>?_,fun i g1 g2 g3=>?_,fun i hi=>?_,hL.lvo,fun i hi=>?_,hL.hl,hL.pl⟩
 ·rcases m5 i k with M3|Nk
  ·exact hL.J9 i g1 M3 g3 g4
  ·rw[show i=k by omega]at g4;omega
 ·rcases m5 i k with M3|Nk
  ·simpa using(hL.pos i g1 M3 g3).ext Pn []
  ·rw[show i=k by omega]at g3;exact absurd g3 XD
 ·simpa using(hL.lv i hi).ext Pn []
 ·obtain⟨hi,M9⟩:=B0.1 hi;have M9:i≠j:=by simpa using M9
  rcases hL.pn i hi with h|h|⟨i',q1,q2,q3,q4,q5⟩
  ·exact .inl h
  ·exact .inr (.inl h)
  ·refine .inr (.inr ⟨i',q1,o_,q3,?_,q5⟩);rcases H8 q4 with h|h
   ·omega
   ·have:=JY hC hx he q1 q2 Ni q3 o_ h.symm;rw[this,hj]at q5;exact absurd q5 M9
structure Mid (C:Cx) (x:Sc) (base:Int) (k:Nat) (L:Ls) (g:Gs):Prop where
 mono:L.g.J8<=g.J8
 ext:∀i c,bf L.g.J1 i=some c->bf g.J1 i=some c
 ty:g.J8<=C.J2->∀ds0 pn0 ds pn,LsT C x base ds0 pn0 k L ds pn->∃es,es≠[]/\(∀v,es.head?=some v->v=base)/\Ty C g.J1 (ds++es) pn (base+1)
theorem Le {k:Nat}(M4:qI C rep x ins){e:Ex}(he:e.ok)(Np:lk C e.toks)(hb:C.J2<=base)(L:Ls):Mid C x base k L (eA C rep x ins k e base ⟨L.g.J1,L.g.J8,true⟩):=by
 have h:=GZ (line:=k) M4 e base ⟨L.g.J1,L.g.J8,true⟩ he Np hb
 exact⟨h.mono,h.ext,fun hm ds0 pn0 ds pn hL=>by
  obtain⟨es,e1,_,e3,e4⟩:=h.ty hm ds pn hL.ty
  exact⟨es,e1 trivial,e3,e4⟩⟩
theorem GI {ds es hs:List Int}{k n:Nat}(Rq:1<=n)(hk:k<hs.length)(hn:ds.length=n)(h1:es≠[])(h2:∀v,es.head?=some v->v=base)(h:∀i,x.f<i->i<k->kindAt C.p i≠4->kindAt C.p i≠7->1<=atL hs i/\ds[(atL hs i).toNat]?=some base):
  ∀i,x.f<i->i<k+1->kindAt C.p i≠4->kindAt C.p i≠7->1<=atL (hs.set k (n:Int)) i/\(ds++es)[(atL (hs.set k (n:Int)) i).toNat]?=some base:=fun i g1 g2 g3 g4=>by
 rcases m5 i k with M3|Nk
 ·rw[gu o_];obtain⟨a,b⟩:=h i g1 M3 g3 g4;exact⟨a,by rw[j7 (aI b)];exact b⟩
 ·rw[show i=k by omega,fH hk];refine⟨o_,?_⟩;rw[d6,m6 o_,hn,x6]
  cases es with|nil=>exact absurd rfl h1|cons a r=>rw[f9];exact congrArg some (h2 a rfl)
theorem zZ (hC:CxOk C)(hx:ScOk C x ins){e:Nat}(he:endAt C.p x.f=some e){k:Nat}(Ni:k<e)(h4:kindAt C.p k≠4)(h7:kindAt C.p k≠7){i':Nat}(q1:x.f<i')(q2:i'<k)(q3:jumps C.p i')(q4:(k:Int)<=plN C.p i'):((k+1:Nat):Int)<=plN C.p i':=by
 rcases H8 q4 with h|h
 ·omega
 ·rcases IV hC hx he q1 q2 Ni q3 h.symm with h'|h'
  ·exact absurd h' h4
  ·exact absurd h' h7
theorem sG {c a d:Int}(h:c=2\/c=4\/(5<=c/\c<=9)\/c=11\/c=17):gM C ⟨c,a⟩ d=d-1:=by unfold gM;dsimp only;rw[b8 o_,c7 h]
theorem JO (hC:CxOk C)(hx:ScOk C x ins)(M4:qI C rep x ins){e:Nat}(he:endAt C.p x.f=some e){k:Nat}{ln:Mq}(hk:C.p[k]?=some ln)(hk1:x.f<k)(Ni:k<e)(hb:base=C.J2\/(x.L6=false/\C.J2<=base))(h0:ln.J5≠0)(h4:ln.J5≠4)(h7:ln.J5≠7)
  (Np:lk C ln.L5) (Pf:ln.J5=1->0<=dJ x.L2 ln.L0/\dJ x.L2 ln.L0<x.L2.length) (L:Ls):LT C x base k (k+1) L (bH C x k ln (bQ C rep x ins base k ln L)):=by
 have Tf:=be hk;have NL:=aI hk;have QU:=hC.line _ _ hk;have Py:=rt (QU.2.2.2.2 o_);have P0:C.J2<=base:=o_;have VW:=hx.first;have hB:bH C x k ln (bQ C rep x ins base k ln L)=bQ C rep x ins base k ln L:=by unfold bH;rw[b8 o_]
 rw[hB];unfold bQ;rw[b8 h4,b8 h7];dsimp only;have hm:=Le (x:=x) (k:=k) M4 Py.1 (by rw[<-Py.2];exact Np) P0 L
 generalize eA C rep x ins k (exL ln.L5) base ⟨L.g.J1,L.g.J8,true⟩=g at *
 have fin:∀(L':Ls) (it:Mp),L'.g=⟨g.J1++[it],g.J8,false⟩->L'.J9=L.J9.set k L.g.J1.length->(ct C x<=C.J2->g.J8<=C.J2->0<g.J1.length->OpTy C g.J1.length it (base+1))->(eP it.J7.J3->base=gM C it.J7 (base+1))->
   ((¬isJ it.J7.J3/\L'.pos=L.pos/\L'.lv=L.lv/\¬jumps C.p k)\/(it.J7.J3=10/\L'.pos=L.pos/\L'.lv=L.lv++[(g.J1.length:Int)]/\¬jumps C.p k/\x.L6=false)\/(it.J7.J3=11/\L'.pos=L.pos.set k g.J1.length/\L'.lv=L.lv/\jumps C.p k))->LT C x base k (k+1) L L':=by
  intro L' it e1 e2 M1 hf Q0
  have Xk:∀i c,bf g.J1 i=some c->bf L'.g.J1 i=some c:=fun i c h=>by
   have:=kS h;unfold bf at h⊢;rw[e1];dsimp only;rw[j7 this];exact h
  have Pn:∀i c,bf L.g.J1 i=some c->bf L'.g.J1 i=some c:=fun i c h=>Xk i c (hm.ext i c h);refine⟨by rw[e1];exact hm.mono,Pn,fun OO N3 ds0 pn0 ds pn hL=>?_⟩;rw[e1]at OO;obtain⟨es,f1,f2,f3⟩:=hm.ty OO ds0 pn0 ds pn hL;have M9:es++[base+1]≠[]:=s_
  have Qm:∀v,(es++[base+1]).head?=some v->v=base:=fun v hv=>by
   cases es with|nil=>exact absurd rfl f1|cons a r=>exact f2 v hv
  have M0:=f3.len;have Nl:bf L'.g.J1 g.J1.length=some it.J7.J3:=by rw[e1];simp[bf]
  have Qg:(ds++(es++[base+1]))[g.J1.length]?=some (base+1):=by rw[<-j9,m6 o_,M0];simp
  have RH:∀pn',(∀i∈pn,i∈pn')->(isJ it.J7.J3->(g.J1.length:Int)∈pn')->Ty C L'.g.J1 (ds++(es++[base+1])) pn' base:=fun pn' q1 q2=>by
   rw[e1,<-j9];exact f3.emit (M1 N3 OO f3.pos) base hf q1 (fun h=> .inl (q2 h))
  have hh:=GI (x:=x) (C:=C) (hs:=L.J9) (k:=k) (n:=L.g.J1.length) hL.ty.pos (by rw[hL.hl];exact NL) hL.ty.len M9 Qm hL.J9;rw[<-e2]at hh
  have SG:¬jumps C.p k->∀i,i<k+1->jumps C.p i->i<k:=fun hn i h1 h2=>by
   rcases m5 i k with h|h
   ·exact h
   ·rw[show i=k by omega]at h2;exact absurd h2 hn
  rcases Q0 with⟨c1,c2,c3,c4⟩|⟨c1,c2,c3,c4,c5⟩|⟨c1,c2,c3,c4⟩
  ·refine⟨es++[base+1],pn,nA hL.pre Qm,RH pn (fun _ h=>h) (fun h=>absurd h c1),hh,fun i g1 g2 g3=>?_,fun j hj=>?_,fun ho=>by rw[c3];exact hL.lvo ho,fun j hj=>?_,by rw[e2];simp[hL.hl],by rw[c2];exact hL.pl⟩
   ·rw[c2];exact(hL.pos i g1 (SG c4 i g2 g3) g3).ext Pn _
   ·rw[c3]at hj;exact(hL.lv j hj).ext Pn _
   ·rcases hL.pn j hj with h|h|⟨i',q1,q2,q3,q4,q5⟩
    ·exact .inl h
    ·exact .inr (.inl (by rw[c3];exact h))
    ·exact .inr (.inr ⟨i',q1,o_,q3,zZ hC hx he Ni o_ o_ q1 q2 q3 q4,by rw[c2];exact q5⟩)
  ·refine⟨es++[base+1],(g.J1.length:Int)::pn,nA hL.pre Qm,RH _ (fun i h=>by simp[h]) (fun _=>s_),hh,fun i g1 g2 g3=>?_,fun j hj=>?_,fun ho=>absurd (c5.symm.trans ho) s_,fun j hj=>?_,by rw[e2];simp[hL.hl],by rw[c2];exact hL.pl⟩
   ·rw[c2];exact(hL.pos i g1 (SG c4 i g2 g3) g3).ext Pn _
   ·rw[c3,f0,t8]at hj;rcases hj with hj|rfl
    ·exact(hL.lv j hj).ext Pn _
    ·exact⟨o_,10,base+1,by rw[d6,Nl,c1],by rw[d6];exact Qg,.inl rfl,rfl⟩
   ·rcases d7.1 hj with rfl|hj
    ·exact .inr (.inl (by rw[c3];simp))
    ·rcases hL.pn j hj with h|h|⟨i',q1,q2,q3,q4,q5⟩
     ·exact .inl h
     ·exact .inr (.inl (by rw[c3];simp[h]))
     ·exact .inr (.inr ⟨i',q1,o_,q3,zZ hC hx he Ni o_ o_ q1 q2 q3 q4,by rw[c2];exact q5⟩)
  ·refine⟨es++[base+1],(g.J1.length:Int)::pn,nA hL.pre Qm,RH _ (fun i h=>by simp[h]) (fun _=>s_),hh,fun i g1 g2 g3=>?_,fun j hj=>?_,fun ho=>by rw[c3];exact hL.lvo ho,fun j hj=>?_,by rw[e2];simp[hL.hl],by rw[c2];simp[hL.pl]⟩
   ·rw[c2];rcases m5 i k with M3|Nk
    ·rw[gu o_];exact(hL.pos i g1 M3 g3).ext Pn _
    ·rw[show i=k by omega,fH aaQ];exact⟨o_,11,base+1,by rw[d6,Nl,c1],by rw[d6];exact Qg,.inr rfl,by simp[xq]⟩
   ·rw[c3]at hj;exact(hL.lv j hj).ext Pn _
   ·rcases d7.1 hj with rfl|hj
    ·refine .inr (.inr ⟨k,hk1,o_,c4,?_,by rw[c2,fH aaQ]⟩);have:=(CU hC hx he hk1 Ni c4).1;omega
    ·rcases hL.pn j hj with h|h|⟨i',q1,q2,q3,q4,q5⟩
     ·exact .inl h
     ·exact .inr (.inl (by rw[c3];exact h))
     ·exact .inr (.inr ⟨i',q1,o_,q3,zZ hC hx he Ni o_ o_ q1 q2 q3 q4,by rw[c2,gu o_];exact q5⟩)
 have PM:∀c:Int,c≠3->c≠5->ln.J5=c->¬jumps C.p k:=fun c c3 c5 hc=>by unfold jumps;omega
 split
 ·rename_i k1;obtain⟨s1,s2⟩:=Pf k1;have Nt:=nK (C:=C);have aa4:cH C true=2\/cH C true=4:=by rw[Nt];split<;>omega
  refine fin _ (bS C g (base+1) (cH C true) (fA C x (base+1) (dJ x.L2 ln.L0)) k x.J4) rfl rfl (fun N3 OO hp=>dC hp o_ (fun _=>⟨o_,?_⟩) (fun h=>o_) (fun h=>o_) (fun h=>o_) (fun h=>o_) (fun h=>o_) (fun h=>o_) (fun h=>o_) o_) (fun _=>?_) (.inl ⟨by unfold isJ;dsimp only[bS];omega,rfl,rfl,PM 1 o_ o_ k1⟩)
  ·unfold ct at N3
   cases ho:x.L6 with
   | true=>
    rw[c7 ho]at N3
    exact Gt hC ho s1 o_
   | false=>rw[b8 (by rw[ho];simp)]at N3;exact sA ho o_ o_
  ·show base=gM C ⟨cH C true,_⟩ (base+1);rw[sG o_];omega
 split
 ·rename_i k2;refine fin _ (bS C g (base+1) 17 0 k x.J4) rfl rfl (fun N3 OO hp=>dC hp o_ (fun h=>o_) (fun h=>o_) (fun h=>o_) (fun h=>o_) (fun h=>o_) (fun h=>o_) (fun h=>o_) (fun h=>o_) o_) (fun _=>?_) (.inl ⟨by unfold isJ;dsimp only[bS];omega,rfl,rfl,PM 2 o_ o_ k2⟩);show base=gM C ⟨17,_⟩ (base+1);rw[sG o_];omega
 split
 ·rename_i k6;unfold bg;dsimp only;split
  ·rename_i ho
   have XG:base=C.J2:=by
    rcases hb with h|⟨h,_⟩
    ·exact h
    ·rw[ho]at h;cases h
   split
   ·rename_i NF;exact fin _ (bS C g (base+1) 14 C.args k x.J4) rfl rfl (fun N3 OO hp=>dC hp o_ (fun h=>o_) (fun h=>o_) (fun h=>o_) (fun h=>o_) (fun h=>o_) (fun _=>⟨NF,rfl,o_⟩) (fun h=>o_) (fun h=>o_) o_) (fun h=>absurd rfl h.2.1) (.inl ⟨by unfold isJ;dsimp only[bS];omega,rfl,rfl,PM 6 o_ o_ k6⟩)
   ·rename_i NF;exact fin _ (bS C g (base+1) 16 (C.args+16*C.J2) k x.J4) rfl rfl (fun N3 OO hp=>dC hp o_ (fun h=>o_) (fun h=>o_) (fun h=>o_) (fun h=>o_) (fun h=>o_) (fun h=>o_) (fun _=>⟨by simpa using NF,rfl,o_⟩) (fun h=>o_) o_) (fun h=>absurd rfl h.2.2) (.inl ⟨by unfold isJ;dsimp only[bS];omega,rfl,rfl,PM 6 o_ o_ k6⟩)
  ·rename_i ho;rw[b8 s_];exact fin _ (bS C g (base+1) 10 0 k x.J4) rfl rfl (fun N3 OO hp=>dC hp o_ (fun h=>o_) (fun h=>o_) (fun h=>o_) (fun h=>o_) (fun h=>o_) (fun h=>o_) (fun h=>o_) (fun h=>o_) o_) (fun h=>absurd rfl h.1) (.inr (.inl ⟨rfl,rfl,rfl,PM 6 o_ o_ k6,by simpa using ho⟩))
 ·rename_i n1 n2 n6;refine fin _ (bS C g (base+1) 11 0 k x.J4) rfl rfl (fun N3 OO hp=>dC hp o_ (fun h=>o_) (fun h=>o_) (fun h=>o_) (fun h=>o_) (fun h=>o_) (fun h=>o_) (fun h=>o_) (fun h=>o_) o_) (fun _=>?_) (.inr (.inr ⟨rfl,rfl,rfl,by unfold jumps;omega⟩));show base=gM C ⟨11,_⟩ (base+1);rw[sG o_];omega
end
def nL (C:Cx):Prop:=∀(g e k:Nat) (ln:Mq),ca C g->endAt C.p g=some e->g<k->k<e->C.p[k]?=some ln->ln.J5≠0/\(ln.J5≠7->lk C ln.L5)/\(ln.J5=1->0<=dJ (localsOf C.p (g:Int)) ln.L0/\dJ (localsOf C.p (g:Int)) ln.L0<(localsOf C.p (g:Int)).length)
section
variable {C:Cx} {x:Sc} {ins:List Nat} {rep:Sc->List Nat->Nat->Nat->Int->Gs->Gs} {base:Int}
theorem xO:∀(n k:Nat) (L:Ls),(∀i,k<=i->i<k+n->∃ln,C.p[i]?=some ln)->dL C rep x ins base (n+1) k L=dL C rep x ins base 1 (k+n) (dL C rep x ins base n k L)
 | 0,k,L,_=>rfl
 | n+1,k,L,h=>by
  obtain⟨ln,hk⟩:=h k (d8 _) o_;rw[dL,hk];dsimp only;rw[xO n (k+1) _ (fun i h1 h2=>h i o_ o_),show k+1+n=k+(n+1) by omega];rw[show dL C rep x ins base (n+1) k L=dL C rep x ins base n (k+1) (bH C x k ln (bQ C rep x ins base k ln L)) by rw[dL,hk]]
theorem Km (hC:CxOk C)(hl:nL C)(hx:ScOk C x ins)(M4:qI C rep x ins){e:Nat}(he:endAt C.p x.f=some e)(hb:base=C.J2\/(x.L6=false/\C.J2<=base)){k:Nat}{ln:Mq}(hk:C.p[k]?=some ln)(hk1:x.f<k)(Ni:k<e)(L:Ls):LT C x base k (k+1) L (bH C x k ln (bQ C rep x ins base k ln L)):=by
 obtain⟨h0,Np,Pf⟩:=hl x.f e k ln hx.fn he hk1 Ni hk;have P0:C.J2<=base:=o_;by_cases h4:ln.J5=4
 ·exact JJ hC hx he hk hk1 Ni P0 h4 L
 by_cases h7:ln.J5=7
 ·exact LA hC hx he hk hk1 Ni P0 h7 L
 ·exact JO hC hx M4 he hk hk1 Ni hb h0 h4 h7 (Np h7) (fun h1=>by rw[hx.loc];exact Pf h1) L
theorem In (hC:CxOk C)(hl:nL C)(hx:ScOk C x ins)(M4:qI C rep x ins){e:Nat}(he:endAt C.p x.f=some e)(hb:base=C.J2\/(x.L6=false/\C.J2<=base)):∀(n k:Nat) (L:Ls),k+n=e->x.f<k->LT C x base k e L (dL C rep x ins base n k L)
 | 0,k,L,h1,_=>by rw[dL,<-h1];exact⟨u4 _,fun _ _ h=>h,fun _ _ _ _ ds pn h=>⟨[],pn,by rw[m7];exact h⟩⟩
 | n+1,k,L,h1,h2=>by
  obtain⟨_,_,_,_,_,NC⟩:=aN he;obtain⟨ln,hk⟩:=ae (l:=C.p) (k:=k) o_;rw[dL,hk];exact(Km hC hl hx M4 he hb hk h2 o_ L).trans (In hC hl hx M4 he hb n (k+1) _ o_ o_)
theorem vF (hC:CxOk C)(hl:nL C)(hx:ScOk C x ins)(M4:qI C rep x ins)(hb:base=C.J2\/(x.L6=false/\C.J2<=base))(s:Gs):LinT C x base s (bx C rep x ins base s):=by
 obtain⟨e,he,e2,e3,e4,_⟩:=hx.endE hC;obtain⟨ln,hk,h7⟩:=bR he;have P0:C.J2<=base:=o_;have Nj:ownOf C.p e=x.f:=ko he;obtain⟨n,hn⟩:∃n,e=x.f+1+n:=⟨e-x.f-1,o_⟩;have M8:=In hC hl hx M4 he hb n (x.f+1) (cC C s) o_ o_
 have Xa:bx C rep x ins base s=((bg C x e true (base+1) {dL C rep x ins base n (x.f+1) (cC C s)with g:=aF C (dL C rep x ins base n (x.f+1) (cC C s)).g base 0 0 e x.J4}).g,(bg C x e true (base+1) {dL C rep x ins base n (x.f+1) (cC C s)with g:=aF C (dL C rep x ins base n (x.f+1) (cC C s)).g base 0 0 e x.J4}).lv):=by
  unfold bx;rw[e4,show e-x.f=n+1 by omega,xO _ _ _ (fun i h1 h2=>ae o_),<-hn];generalize dL C rep x ins base n (x.f+1) (cC C s)=L
  have hA:bQ C rep x ins base e ln L=bg C x e true (base+1) {L with g:=aF C L.g base 0 0 e x.J4}:=by unfold bQ;rw[b8 o_,c7 h7,c7 Nj]
  have hB:∀Z,bH C x e ln Z=Z:=fun Z=>by unfold bH;rw[b8 (fun h=>h.2 Nj)]
  rw[dL,hk];dsimp only;rw[dL,hB,hA]
 rw[Xa]
 generalize dL C rep x ins base n (x.f+1) (cC C s)=L at *
 have YM:(bg C x e true (base+1) {L with g:=aF C L.g base 0 0 e x.J4}).lv=L.lv:=by
  unfold bg;split
  ·split<;>rfl
  ·rfl
 rw[YM]
 have OO:(bg C x e true (base+1) {L with g:=aF C L.g base 0 0 e x.J4}).g.J8=L.g.J8:=by
  unfold bg;split
  ·split<;>rfl
  ·rfl
 have WC:∀i c,bf L.g.J1 i=some c->bf (bg C x e true (base+1) {L with g:=aF C L.g base 0 0 e x.J4}).g.J1 i=some c:=fun i c h=>by
  have h1:=eT (C:=C) (d:=base) (code:=0) (arg:=0) (line:=(e:Int)) (chain:=x.J4) i c h;unfold bg;split
  ·split
   ·exact eT i c h1
   ·exact eT i c h1
  ·exact h1
 refine⟨by show s.J8<=_;rw[OO];exact M8.mono,fun i c h=>WC i c (M8.ext i c h),fun hm N3 ds pn ht=>?_⟩;have hm:L.g.J8<=C.J2:=by rw[<-OO];exact hm
 obtain⟨es,pn1,hL⟩:=M8.ty hm N3 ds pn ds pn ⟨⟨[],s_,fun v hv=>absurd hv s_⟩,ht,fun i h1 h2=>o_,fun i h1 h2=>o_,fun j hj=>absurd hj (by simp[cC]),fun _=>rfl,fun j hj=> .inl hj,by simp[cC],by simp[cC]⟩
 have RH:∀j∈pn1,j∈pn++L.lv:=fun j hj=>by
  rcases hL.pn j hj with h|h|⟨i,q1,q2,q3,q4,_⟩
  ·simp[h]
  ·simp[h]
  ·have:=(CU hC hx he q1 q2 q3).2;omega
 have h1:Ty C (aF C L.g base 0 0 e x.J4).J1 ((ds++es)++[base]) (pn++L.lv) (base+1):=
  hL.ty.emit (dC hL.ty.pos P0 (fun h=>o_) (fun h=>o_) (fun h=>o_) (fun h=>o_) (fun h=>o_) (fun h=>o_) (fun h=>o_) (fun h=>o_) o_) (base+1) (fun _=>by unfold gM;rw[c7 (by dsimp only[bS];omega)]) RH (fun h=>by unfold isJ at h;dsimp only[bS]at h;omega)
 have Qm:∀v,(es++[base]).head?=some v->v=base:=fun v hv=>by
  obtain⟨a0,g1,g2⟩:=hL.pre;have:a0=es:=by simpa using g1.symm
  subst this
  cases a0 with|nil=>simpa using hv.symm|cons a r=>exact g2 v hv
 by_cases ho:x.L6=true
 ·have XG:base=C.J2:=by
   rcases hb with h|⟨h,_⟩
   ·exact h
   ·rw[ho]at h;cases h
  have U2:=hL.lvo ho;refine⟨es++[base,base+1],s_,fun v hv=>Qm v (by cases es with|nil=>simpa using hv|cons a r=>simpa using hv),fun j hj=>absurd hj (by rw[U2];simp),fun _=>U2,fun D _=>?_⟩;have e1:ds++(es++[base,base+1])=((ds++es)++[base])++[base+1]:=s_;rw[e1];unfold bg;rw[c7 ho];split
  ·rename_i NF;exact h1.emit (dC h1.pos o_ (fun h=>o_) (fun h=>o_) (fun h=>o_) (fun h=>o_) (fun h=>o_) (fun _=>⟨NF,rfl,o_⟩) (fun h=>o_) (fun h=>o_) o_) D (fun h=>absurd rfl h.2.1) (fun i h=>h) (fun h=>by unfold isJ at h;dsimp only[bS]at h;omega)
  ·rename_i NF;exact h1.emit (dC h1.pos o_ (fun h=>o_) (fun h=>o_) (fun h=>o_) (fun h=>o_) (fun h=>o_) (fun h=>o_) (fun _=>⟨by simpa using NF,rfl,o_⟩) (fun h=>o_) o_) D (fun h=>absurd rfl h.2.2) (fun i h=>h) (fun h=>by unfold isJ at h;dsimp only[bS]at h;omega)
 ·have Nr:x.L6=false:=by simpa using ho
  have hg:(bg C x e true (base+1) {L with g:=aF C L.g base 0 0 e x.J4}).g=aF C L.g base 0 0 e x.J4:=by unfold bg;rw[b8 ho,c7 rfl]
  rw[hg];refine⟨es++[base],s_,Qm,fun j hj=>(hL.lv j hj).ext eT [base] |> fun h=>by rw[<-j9];exact h,fun h=>absurd h ho,fun D hD=>by rw[hD Nr,<-j9];exact h1⟩
end
theorem Iv {C:Cx}(hC:CxOk C)(hl:nL C):∀(lev:Nat) {x:Sc} {ins:List Nat},ScOk C x ins->ins.length+lev=C.b.MJ.toNat+1->qI C (cQ C lev) x ins
 | 0,x,ins,hx,hi,line,g,d,s,hg,hd,hr=>by
  have:=(fQ hr).1;have hin:=hC.inl
  omega
 | lev+1,x,ins,hx,hi,line,g,d,s,hg,hd,hr=>by
  have hy:=kn hC hx line hg;exact Lb hC hx hg hd s fun s'=>vF hC hl hy (Iv hC hl lev hy aab) (.inr ⟨rfl,o_⟩) s'
theorem pi {C:Cx}{c a d:Int}(h:c=13\/c=15):gM C ⟨c,a⟩ d=d+a:=by unfold gM;dsimp only;rw[b8 o_,b8 o_,b8 o_,c7 h]
structure TyF (C:Cx) (l:List Mp) (ds:List Int):Prop where
 len:ds.length=l.length
 pos:0<l.length
 item:∀(i:Nat) (it:Mp) (d:Int),l[i]?=some it->ds[i]?=some d->OpTy C i it d
 fall:∀(i:Nat) (it:Mp) (d:Int),l[i]?=some it->ds[i]?=some d->eP it.J7.J3->ds[i+1]?=some (gM C it.J7 d)
 jump:∀(i:Nat) (it:Mp) (d:Int),l[i]?=some it->ds[i]?=some d->isJ it.J7.J3->1<=it.J7.K9/\ds[it.J7.K9.toNat]?=some (xq it.J7.J3 d)
theorem Kc {C:Cx}(hC:CxOk C)(hl:nL C){g:Nat}(hg:ca C g)(e5:C.args=argsN C.p g)(hm:(dK C g).J8<=C.J2):∃ds,TyF C (dK C g).J1 ds:=by
 have hS:ScOk C (bd C g) [g]:=⟨hg,rfl,⟨u4 _,by simp[bd]⟩,rfl,by simp[bd],fun _=>e5,rfl⟩;have hin:=hC.inl;have hw:=hC.J2;have hL:=vF (base:=C.J2) hC hl hS (Iv hC hl C.b.MJ.toNat hS aab) (.inl rfl) (dV C g)
 have N3:ct C (bd C g)<=C.J2:=by have h1:=hL.mono;have h2:(bx C (cQ C C.b.MJ.toNat) (bd C g) [g] C.J2 (dV C g)).1.J8<=C.J2:=hm;have h3:(dV C g).J8=(localsOf C.p (g:Int)).length-C.args:=rfl;rw[h3]at h1;unfold ct;rw[c7 (show(bd C g).L6=true from rfl)];show((localsOf C.p (g:Int)).length:Int)-C.args<=C.J2;omega
 have h0:Ty C (dV C g).J1 [0] [] C.J2:=by
  refine⟨rfl,by simp[dV,aF],fun i it d h1 h2=>?_,fun i it d h1 h2 h3=>?_,fun i it d h1 h2 h3 h4=>?_⟩
  all_goals
   have hi:i=0:=by have:=aI h2;simpa using this
   subst hi;simp only[dV,aF,t7,f9,Option.some.injEq]at h1 h2;subst h1;subst h2
  ·have hc:(bS C ⟨[],(localsOf C.p (g:Int)).length-C.args,false⟩ 0 (if C.K0=true then 13 else 15) C.J2 g []).J7.J3=13\/(bS C ⟨[],(localsOf C.p (g:Int)).length-C.args,false⟩ 0 (if C.K0=true then 13 else 15) C.J2 g []).J7.J3=15:=(by dsimp only[bS];split<;>simp);refine⟨by simp[bS],by simp[bS],⟨fun _=>rfl,fun h=>o_⟩,fun _=>⟨rfl,rfl⟩,fun h=>?_,fun h=>?_,fun h=>?_,fun h=>?_,fun h=>?_,fun h=>?_,fun h=>?_,fun _ h=>o_,fun _=>rfl⟩;all_goals(exfalso;omega)
  ·show [C.J2][0]?=some (gM C ⟨if C.K0=true then 13 else 15,C.J2⟩ 0);rw[pi (by split<;>omega)];simp
  ·have hc:(bS C ⟨[],(localsOf C.p (g:Int)).length-C.args,false⟩ 0 (if C.K0=true then 13 else 15) C.J2 g []).J7.J3=13\/(bS C ⟨[],(localsOf C.p (g:Int)).length-C.args,false⟩ 0 (if C.K0=true then 13 else 15) C.J2 g []).J7.J3=15:=(by dsimp only[bS];split<;>simp);unfold isJ at h3;exfalso;omega
 obtain⟨es,_,_,_,f4,f5⟩:=hL.ty hm N3 [0] [] h0
 have h2:∀D,Ty C (dK C g).J1 ([0]++es) [] D:=fun D=>by
  have:=f5 D (fun h=>by cases h);rw[f4 rfl,m7]at this;exact this
 generalize [0]++es=ds at *
 have both:∀{j:Nat} {v:Int},(ds++[v])[j]?=some v->(ds++[v+1])[j]?=some v->ds[j]?=some v:=fun{j v} g1 g2=>by
  rcases B4 j ds.length with hj|hj|hj
  ·rwa [j7 hj]at g1
  ·rw[hj,m6 (d8 _),x6,f9]at g2;injection g2 with g2;omega
  ·rw[e9 aab]at g1
   cases g1
 have hT:=h2 0;exact⟨ds,hT.len,hT.pos,hT.item,fun i it d h1 h3 h4=>both ((h2 _).fall i it d h1 h3 h4) ((h2 _).fall i it d h1 h3 h4),fun i it d h1 h3 h4=>⟨(hT.jump i it d h1 h3 h4 s_).1,both ((h2 _).jump i it d h1 h3 h4 s_).2 ((h2 _).jump i it d h1 h3 h4 s_).2⟩⟩
section
variable {p q:List Mq} {locals:List (List UInt8)} {vals:List Int} {call:CallF}
end
theorem alike.kindAt {p q:List Mq}(h:alike p q)(k:Nat):kindAt p k=kindAt q k:=by
 unfold Go.Proofs.P.kindAt
 cases hx:p[k]? with|none=>rw[h.none hx]|some x=>obtain⟨y,hy,e1,_⟩:=h.get hx;rw[hy];exact e1
theorem alike.ownN {p q:List Mq}(h:alike p q)(k:Nat):∀n,ownN p k n=ownN q k n
 | 0=>rfl
 | n+1=>by rw[Go.Proofs.P.ownN,Go.Proofs.P.ownN,h.endAt,h.elseAt,alike.ownN h k n]
theorem alike.ownOf {p q:List Mq}(h:alike p q)(k:Nat):ownOf p k=ownOf q k:=by unfold Go.Proofs.P.ownOf;rw[h.ownN,h.len]
theorem alike.skipAt {p q:List Mq}(h:alike p q)(k:Nat):skipAt p k=skipAt q k:=by unfold Go.Proofs.P.skipAt;rw[h.elseAt,lc,lc,h.endAt]
theorem alike.anyE {p q:List Mq}(h:alike p q)(i:Nat):∀n j,anyE p i n j=anyE q i n j
 | 0,_=>rfl
 | n+1,j=>by rw[Go.Proofs.P.anyE,Go.Proofs.P.anyE,h.elseAt,alike.anyE h i n]
theorem alike.elsesIn {p q:List Mq}(h:alike p q)(k e:Nat):∀n i,elsesIn p k e n i=elsesIn q k e n i
 | 0,_=>rfl
 | n+1,i=>by
  rw[Go.Proofs.P.elsesIn,Go.Proofs.P.elsesIn]
  cases hx:p[i]? with|none=>rw[h.none hx]|some x=>obtain⟨y,hy,e1,_⟩:=h.get hx;rw[hy];dsimp only;rw[e1,h.anyE,alike.elsesIn h k e n]
theorem alike.find {p q:List Mq}(h:alike p q)(s:List UInt8):Go.Proofs.P.findN p 0 s=Go.Proofs.P.findN q 0 s:=h.findN 0 s
theorem alike.nameFirst {p q:List Mq}(h:alike p q)(k:Nat):nameFirst p k=nameFirst q k:=by
 unfold Go.Proofs.P.nameFirst
 cases hx:p[k]? with|none=>rw[h.none hx]|some x=>obtain⟨y,hy,_,e2,_⟩:=h.get hx;rw[hy];dsimp only;rw[e2,h.find]
theorem alike.headOk {p q:List Mq}(h:alike p q):headOk p=headOk q:=by
 cases p with
 | nil=>have:=h.len;cases q with
  | nil=>rfl
  | cons=>simp at this
 | cons x p=>cases q with
  | nil=>have:=h.len;simp at this
  | cons y q=>obtain⟨z,hz,e1,e2,e3⟩:=h.get (k:=0) (x:=x) rfl;simp at hz;subst hz;unfold Go.Proofs.P.headOk;dsimp only;rw[e1,e2,e3]
theorem tN {F F':Nat->Nat->Bool}{p q:List Mq}(h:alike p q)(hF:∀k e,F k e=true->F' k e=true):∀n k,bT F p n k=true->bT F' q n k=true
 | 0,k,hc=>by rw[bT]at hc⊢;rw[<-h.len];exact hc
 | n+1,k,hc=>by
  rw[bT]at hc⊢;rw[<-h.len];split
  ·rename_i hk;rw[c7 hk]at hc;split at hc
   ·rename_i x e hx he;obtain⟨y,hy,e1,_⟩:=h.get hx;rw[hy,<-h.endAt,he];dsimp only;split at hc
    ·rename_i Oy;rw[c7 ⟨by rw[<-e1];exact Oy.1,hF _ _ Oy.2⟩];exact tN h hF n _ hc
    ·cases hc
   ·cases hc
  ·rfl
theorem AK {x:Mq}(h:dh x=true):bz x.L5=true\/x.L5=[]:=by
 unfold dh at h;simp only[b9]at h;obtain⟨_,_,_,h⟩:=h;split at h
 ·exact .inl h
 ·exact .inr (A5.1 (B2 h))
theorem kB (x:Mq):(aO x).J5=x.J5/\(aO x).L0=x.L0/\(aO x).L9=x.L9:=by unfold aO;split<;>exact⟨rfl,rfl,rfl⟩
theorem oQ {x:Mq}(h:bz x.L5=true\/x.L5=[]):(bz x.L5=true/\(aO x).L5=lW x.L5)\/(x.L5=[]/\aO x=x):=by
 rcases h with h|h
 ·have hp:0<x.L5.length:=by unfold bz at h;simp only[b9,j6]at h;exact h.2.1
  exact .inl ⟨h,by rw[aO,c7 hp]⟩
 ·exact .inr ⟨h,by rw[aO,b8 (by rw[h];simp)]⟩
theorem BV {x:Mq}(h:dh x=true):dh (aO x)=true:=by
 obtain⟨k1,k2,k3⟩:=kB x;unfold dh at h⊢;rw[k1,k2,k3];simp only[b9]at h⊢;obtain⟨h1,h2,h3,h4⟩:=h;refine⟨h1,h2,h3,?_⟩;split
 ·rename_i hx;rw[c7 hx]at h4;rcases oQ (.inl h4)with⟨_,e⟩|⟨e,_⟩
  ·rw[e];exact(jY h4).1
  ·rw[e]at h4;simp[bz]at h4
 ·rename_i hx;rw[b8 hx]at h4;have:x.L5=[]:=A5.1 (B2 h4);rw[aO,b8 (by rw[this];simp)];exact h4
theorem xc {p q:List Mq}(h:alike p q)(locals:List (List UInt8))(t:Mz):cO p locals t=cO q locals t:=by
 unfold cO;rw[h.find];split
 ·rfl
 ·split
  ·split
   ·rename_i f _
    cases hx:p[f]? with|none=>rw[h.none hx]|some x=>obtain⟨y,hy,_,_,e3⟩:=h.get hx;rw[hy];dsimp only;rw[e3]
   ·rfl
  ·rfl
theorem DQ {p:List Mq}{locals:List (List UInt8)}{x:Mq}(he:bz x.L5=true\/x.L5=[])(h:eF p locals x.L5=true):eF (p.map aO) locals (aO x).L5=true:=by
 unfold eF at *
 rw[o8]at *
 intro z hz;rw[xc (fd p)];rcases oQ he with⟨h1,e⟩|⟨_,e⟩
 ·rw[e]at hz;rcases(jY h1).2 z hz with hz|⟨n,rfl⟩
  ·exact h z hz
  ·simp[cO]
 ·rw[e]at hz;exact h z hz
theorem yO {p:List Mq}(hl:∀x∈p,bz x.L5=true\/x.L5=[]){locals:List (List UInt8)}{e:Nat}:∀n i d,mP p locals e n i d=true->mP (p.map aO) locals e n i d=true
 | 0,_,_,_=>rfl
 | n+1,i,d,h=>by
  rw[mP]at h⊢;split
  ·rename_i hi;rw[c7 hi]at h
   cases hx:p[i]? with
   | none=>rw[hx]at h;cases h
   | some x=>
    rw[hx]at h;rw[p6,hx];dsimp only[Option.map_some]at h⊢;have hd:dep (aO x) d=dep x d:=(by unfold dep;rw[(kB x).1]);rw[(kB x).1,hd];split at h
    ·cases h
    ·rename_i h0;rw[b8 h0];split at h
     ·rename_i hc;rw[c7 ⟨hc.1,DQ (hl x (c9 hx)) hc.2⟩];exact yO hl n _ _ h
     ·cases h
  ·rfl
theorem wL {p:List Mq}(h:aj p=true):aj (p.map aO)=true:=by
 have ha:=fd p;unfold aj at h⊢;simp only[b9,j6]at h⊢;obtain⟨h1,h2,h3,h4,h5,h6,h7⟩:=h;have YN:aA (p.map aO)=aA p:=ha.funsF 0;have P2:=o8.1 h3;refine⟨by rw[e7];exact h1,by rw[YN];exact h2,?_,by rw[ha.headOk];exact h4,?_,?_,?_⟩
 ·rw[o8];intro x hx;obtain⟨y,hy,rfl⟩:=n9.1 hx;exact BV (P2 y hy)
 ·rw[YN,o8];intro k hk;rw[ha.nameFirst];exact o8.1 h5 k hk
 ·rw[e7];refine tN (Eq.symm ha) (fun k e hf=>?_) _ _ h6;unfold tY at hf⊢;rw[b9]at hf⊢;rw[ha.localsOf];exact⟨hf.1,yO (fun x hx=>AK (P2 x hx)) _ _ _ hf.2⟩
 ·unfold uD at h7⊢;rw[ha.elsesIn,e7];exact h7
structure Rl (s s':Gs):Prop where
 len:s.J1.length=s'.J1.length
 J8:s.J8=s'.J8
 start:s.start=s'.start
structure Wd (C C':Cx):Prop where
 p:C'.p=C.p
 b:C'.b=C.b
 fr:C'.K0=C.K0
 args:C'.args=C.args
section
variable {C C':Cx} {x:Sc} {ins:List Nat} {rep Od:Sc->List Nat->Nat->Nat->Int->Gs->Gs} {line:Nat}
theorem dB {s s':Gs}(h:Rl s s')(d d' c c' a a' l l':Int)(ch ZJ:List Int):Rl (aF C s d c a l ch) (aF C' s' d' c' a' l' ZJ):=⟨by simp[aF,h.len],h.J8,rfl⟩
theorem yq (y:Sc)(ch:List Int)(l:Int):∀(n:Nat) (d d':Int) {s s':Gs},Rl s s'->Rl (cK C y ch l n d s) (cK C' y ch l n d' s')
 | 0,_,_,_,_,h=>h
 | n+1,d,d',s,s',h=>by rw[cK,cK];exact yq y ch l n _ _ (dB h ..)
theorem Ca (y:Sc)(ch:List Int)(l d d':Int):∀(n i:Nat) {s s':Gs},Rl s s'->Rl (dH C y ch l d n i s) (dH C' y ch l d' n i s')
 | 0,_,_,_,h=>h
 | n+1,i,s,s',h=>by rw[dH,dH];exact Ca y ch l d d' n (i+1) (dB (dB h ..) ..)
def Dy (rep Od:Sc->List Nat->Nat->Nat->Int->Gs->Gs):Prop:=∀(x:Sc) (ins:List Nat) (line g:Nat) (d d':Int) (s s':Gs),Rl s s'->Rl (rep x ins line g d s) (Od x ins line g d' s')
theorem KH (hw:Wd C C')(hr:Dy rep Od)(t:Mz)(d d':Int){s s':Gs}(h:Rl s s'):Rl (mm C rep x ins line t d s) (mm C' Od x ins line t d' s'):=by
 unfold mm;rw[hw.p];split
 ·exact dB h ..
 split
 ·exact dB h ..
 split
 ·split
  ·rename_i g hg;have hB:cU C' ins g s'.J1.length=cU C ins g s.J1.length:=(by unfold cU;rw[hw.p,hw.b,h.len]);rw[hB];split
   ·exact hr _ _ _ _ _ _ _ _ h
   ·exact dB h ..
  ·exact h
 ·exact dB h ..
mutual
theorem EJ (hw:Wd C C')(hr:Dy rep Od):∀(e:Ex) (d d':Int) {s s':Gs},Rl s s'->Rl (eA C rep x ins line e d s) (eA C' Od x ins line e d' s')
 | .node t es,d,d',s,s',h=>by rw[eA,eA];exact KH hw hr t _ _ (An hw hr es d d' h)
theorem An (hw:Wd C C')(hr:Dy rep Od):∀(es:List Ex) (d d':Int) {s s':Gs},Rl s s'->Rl (cZ C rep x ins line es d s) (cZ C' Od x ins line es d' s')
 | [],_,_,s,s',h=>by rw[cZ,cZ];exact h
 | a::es,d,d',s,s',h=>by rw[cZ,cZ];exact An hw hr es _ _ (EJ hw hr a d d' h)
end
theorem DV (hw:Wd C C')(x:Sc):ct C' x=ct C x:=by unfold ct;rw[hw.args]
theorem KQ (hw:Wd C C')(x:Sc)(line g:Nat)(d d':Int){s s':Gs}(h:Rl s s'):Rl (fY C x line g d s) (fY C' x line g d' s'):=by unfold fY;rw[show cr C' x line g=cr C x line g by unfold cr;rw[hw.p,DV hw],hw.p,DV hw];exact Ca _ _ _ _ _ _ _ (yq _ _ _ _ _ _ ⟨h.len,by dsimp only;rw[h.J8],h.start⟩)
theorem IF (x:Sc)(line:Nat)(d d':Int){s s':Gs}(h:Rl s s'):Rl (dk C x line d s) (dk C' x line d' s'):=by
 unfold dk;rw[h.start];split
 ·exact dB h ..
 ·exact h
theorem AL (hw:Wd C C')(x:Sc)(k:Nat)(last:Bool)(d d':Int){L L':Ls}(h:Rl L.g L'.g):Rl (bg C x k last d L).g (bg C' x k last d' L').g:=by
 unfold bg;rw[hw.fr];split
 ·split
  ·exact dB h ..
  ·exact dB h ..
 ·split
  ·exact h
  ·exact dB h ..
theorem IQ {s s':Gs}(h:Rl s s')(j j' v v':Int):Rl ⟨cf s.J1 j v,s.J8,s.start⟩ ⟨cf s'.J1 j' v',s'.J8,s'.start⟩:=⟨by dsimp only;rw[bU,bU,h.len],h.J8,h.start⟩
theorem HZ (hw:Wd C C')(hr:Dy rep Od)(b b':Int)(k:Nat)(ln:Mq){L L':Ls}(h:Rl L.g L'.g):Rl (bQ C rep x ins b k ln L).g (bQ C' Od x ins b' k ln L').g:=by
 unfold bQ;rw[hw.p];split
 ·exact IQ (dB h ..) _ _ _ _
 split
 ·split
  ·exact AL hw x k true _ _ (L:={L with g:=aF C L.g b 0 0 k x.J4}) (L':={L' with g:=aF C' L'.g b' 0 0 k x.J4}) (dB h ..)
  split
  ·exact dB h ..
  ·exact h
 ·have hg:=EJ (x:=x) (ins:=ins) (line:=k) hw hr (exL ln.L5) b b' (s:=⟨L.g.J1,L.g.J8,true⟩) (s':=⟨L'.g.J1,L'.g.J8,true⟩) ⟨h.len,h.J8,rfl⟩;dsimp only;split
  ·exact dB hg ..
  split
  ·exact dB hg ..
  split
  ·exact AL hw x k false _ _ (L:={L with g:=eA C rep x ins k (exL ln.L5) b ⟨L.g.J1,L.g.J8,true⟩,J9:=L.J9.set k L.g.J1.length}) (L':={L' with g:=eA C' Od x ins k (exL ln.L5) b' ⟨L'.g.J1,L'.g.J8,true⟩,J9:=L'.J9.set k L'.g.J1.length}) hg
  ·exact dB hg ..
theorem HA (hw:Wd C C')(k:Nat)(ln:Mq){L L':Ls}(h:Rl L.g L'.g):Rl (bH C x k ln L).g (bH C' x k ln L').g:=by
 unfold bH;rw[hw.p];split
 ·exact IQ h _ _ _ _
 ·exact h
theorem EK (hw:Wd C C')(hr:Dy rep Od)(b b':Int):∀(n k:Nat) {L L':Ls},Rl L.g L'.g->Rl (dL C rep x ins b n k L).g (dL C' Od x ins b' n k L').g
 | 0,k,L,L',h=>by rw[dL,dL];exact h
 | n+1,k,L,L',h=>by
  rw[dL,dL,hw.p];split
  ·exact EK hw hr b b' n (k+1) (HA hw k _ (HZ hw hr b b' k _ h))
  ·exact h
theorem Aj (hw:Wd C C')(hr:Dy rep Od)(b b':Int){s s':Gs}(h:Rl s s'):Rl (bx C rep x ins b s).1 (bx C' Od x ins b' s').1:=by unfold bx;dsimp only;rw[hw.p];exact EK hw hr b b' _ _ h
end
theorem Ez {C C':Cx}(hw:Wd C C'):∀n,Dy (cQ C n) (cQ C' n)
 | 0=>fun _ _ _ _ _ _ _ _ h=>h
 | n+1=>fun x ins line g d d' s s' h=>by
  show Rl (lZ C (bx C (cQ C n)) x ins line g d s) (lZ C' (bx C' (cQ C' n)) x ins line g d' s');unfold lZ;dsimp only;rw[hw.p,show cr C' x line g=cr C x line g by unfold cr;rw[hw.p,DV hw]];have:=Aj (x:=cr C x line g) (ins:=ins++[g]) hw (Ez hw n) (d-argsN C.p g) (d'-argsN C.p g) (IF (C:=C) (C':=C') x line (d-argsN C.p g) (d'-argsN C.p g) (KQ hw x line g d d' h));exact⟨by dsimp only;rw[iq,iq,this.len],this.J8,this.start⟩
theorem Jb {C C':Cx}(hw:Wd C C')(g:Nat):(dK C' g).J8=(dK C g).J8:=by
 have h0:Rl (dV C g) (dV C' g):=⟨rfl,by simp[dV,aF,hw.p,hw.args],rfl⟩;have hsc:bd C' g=bd C g:=by unfold bd;rw[hw.p]
 have:=Aj (x:=bd C g) (ins:=[g]) hw (Ez hw C.b.MJ.toNat) C.J2 C'.J2 h0;unfold dK;rw[hsc,hw.b];exact this.J8.symm
theorem CZ {C:Cx}(hC:CxOk C)(h:aj C.p=true):nL C:=fun g e k ln hg he h1 h2 hk=>by
 obtain⟨y,hy,Pa⟩:=hg;obtain⟨e',g1,g2,g3,g4⟩:=hC.fn g y hy Pa;rw[he]at g1;injection g1 with g1;subst g1;obtain⟨k1,k2,_⟩:=g4 k ln h1 h2 hk;refine⟨k1,fun _=>k2,fun h1k=>?_⟩;obtain⟨i,hi⟩:=(GS h ⟨⟨y,hy,Pa⟩,he,h1,o_⟩ hk h2).2 h1k;have:=nH hi;have hx:dJ (localsOf C.p (g:Int)) ln.L0=(i:Int):=by unfold dJ;exact bY hi
 rw[hx];omega
theorem Eh {p:List Mq}{f:Int}{b:Mi}(hs:ao 1048576 (.lst 4 (p.map Mq.tr)))(h1:aj p=true)(h2:aS b=true)(h3:0<=f)(h4:f<(aA p).length):∃(g:Nat) (C:Cx) (ds:List Int),(aA p)[f.toNat]?=some g/\C.p=foldIf p b/\C.args=argsN C.p g/\C.K0=oc b.MS f/\0<=C.args/\C.args<=4/\0<=C.J2/\C.J2<=1000/\TyF C (aC p f b) ds:=by
 obtain⟨g,C,k1,k2,k3,k4,k5,k6,k7,k8,k9⟩:=kq hs h1 h2 h3 h4
 have TL:aj C.p=true:=by
  rw[k3];unfold foldIf;split
  ·exact wL h1
  ·exact h1
 have hw:Wd (ctx (foldIf p b) f.toNat g b 0) C:=⟨by rw[k3];rfl,by rw[k4];rfl,by rw[k6];show oc b.MS f=oc b.MS ((f.toNat:Nat):Int);rw[D0 h3],by rw[k5,k3];rfl⟩;obtain⟨ds,Qg⟩:=Kc k2 (CZ k2 TL) k7 k5 (by rw[k9,Jb hw];exact u4 _);have ha:=k2.args;have VT:=k2.J2;exact⟨g,C,ds,k1,k3,k5,k6,ha.1,ha.2,VT.1,VT.2,by rw[k8];exact Qg⟩
end Go.Proofs.P
namespace Go.Proofs.P
open Go.Sim Tryz
def kR (c:Int):Int×Int:=
 if c=0 then(-2147483648,2147483647)else if c=1\/c=2\/c=3\/c=4\/c=10\/c=11 then(-32768,32767)
 else if c=16 then(0,65535)else if c=12\/c=13\/c=14\/c=15 then(0,255)else(0,0)
def dz (c a:Int):Bool:=af c 0 17&&af a (kR c).1 (kR c).2
theorem AJ (c:Int):(ba c=(4,true)/\kR c=(-2147483648,2147483647))\/(ba c=(2,true)/\kR c=(-32768,32767))\/(ba c=(2,false)/\kR c=(0,65535))\/(ba c=(1,false)/\kR c=(0,255))\/(ba c=(0,false)/\kR c=(0,0)):=by
 unfold ba kR;repeat' split
 all_goals simp
theorem CD (x:Mt):Sim.Spec prog 193 [.agg x.tr] (rB (dz x.J3 x.K9)):=by
 refine bI hΓ aE func193 rfl d_ rfl ?_;have hi:=aJ x.J3 0 17;have ha:=fM x.J3;have h0:dz x.J3 x.K9=(af x.J3 0 17&&af x.K9 (kR x.J3).1 (kR x.J3).2):=rfl;rw[h0]
 cases hw:af x.J3 0 17 with
 | false=>
  rw[hw]at hi
  repeat' ((conv=>whnf);first|apply Wx|apply W6|apply oi|apply fi|intro h|refine cl ha ?_|refine cl hi ?_|exact Y7|refine e_ rfl ?_)
 | true=>
  rw[hw]at hi;rw[n7];rcases AJ x.J3 with⟨e1,e2⟩|⟨e1,e2⟩|⟨e1,e2⟩|⟨e1,e2⟩|⟨e1,e2⟩
  all_goals(
   rw[Ki,e1]at ha;rw[e2];have gb:=aJ x.K9 (kR x.J3).1 (kR x.J3).2;rw[e2]at gb;repeat' ((conv=>whnf);first|apply Wx|apply W6|apply oi|apply fi|intro h|refine cl ha ?_|refine cl hi ?_|refine .inl (ci gb (ai rfl (ai KW (ai KW trivial))) ?_)|exact Y7|refine e_ rfl ?_)
   skip)
def kH (a:Int)(k:Nat):UInt8:=UInt8.ofNat ((a.fdiv (2^(8*k)))%256).toNat
def iZ (a:Int)(n:Nat):List UInt8:=(List.range n).map (kH a)
def bk (x:Mt):List UInt8:=if dz x.J3 x.K9=true then UInt8.ofNat x.J3.toNat::iZ x.K9 (ba x.J3).1.toNat else []
theorem Bq (a:Int)(n:Nat):iZ a (n+1)=iZ a n++[kH a n]:=by simp[iZ,G4]
theorem ew {x:Mt}(h:dz x.J3 x.K9=true):((bk x).length:Int)=aH x.J3:=by have Nu:=dR x.J3;rw[bk,c7 h];unfold dz at h;rw[b9]at h;rw[aH,c7 h.1];simp[iZ];omega
theorem sU (x:Mt):(bk x).length<=5:=by
 have Nu:=dR x.J3;unfold bk;split
 ·simp[iZ];omega
 ·simp
theorem FQ (a:Int){k:Nat}(h:k<=4):IntKind.u8.wrap (a.fdiv (2^min (IntKind.i64.wrap (8*(k:Int))).toNat IntKind.i64.bits))=((kH a k).toNat:Int):=by
 have h8:IntKind.i64.wrap (8*(k:Int))=((8*k:Nat):Int):=by rw[c6 _ o_];rfl
 rw[h8,d6,y8 (by show 8*k<=64;omega)];unfold kH;generalize a.fdiv (2^(8*k))=z;simp[IntKind.wrap,IntKind.bits,IntKind.signed];omega
theorem tZ (x:Mt):Sim.Spec prog 123 [.agg x.tr] (rS (bk x)):=by
 refine bI hΓ aE func123 rfl d_ rfl ?_;have ho:=CD x;have ha:=fM x.J3;unfold bk
 cases hw:dz x.J3 x.K9 with
 | false=>
  rw[hw]at ho
  repeat' ((conv=>whnf);first|apply Wx|apply W6|apply oi|apply fi|intro h|refine cl ho ?_|exact Y7|refine e_ rfl ?_)
 | true=>
  rw[hw]at ho;rw[c7 rfl]
  have hc:0<=x.J3/\x.J3<=17:=by unfold dz at hw;rw[b9]at hw;exact within_iff.1 hw.1
  obtain⟨n,hn⟩:∃n:Nat,(ba x.J3).1=(n:Int):=⟨(ba x.J3).1.toNat,by have:=dR x.J3;omega⟩;have Ox:n<=4:=by have:=dR x.J3;omega
  rw[Ki,hn]at ha;rw[hn,d6];generalize Pu:UInt8.ofNat x.J3.toNat=b0
  have hbc:IntKind.u8.wrap x.J3=(b0.toNat:Int):=by subst Pu;simp[IntKind.wrap,IntKind.bits,IntKind.signed];omega
  repeat' ((conv=>whnf);first|apply Wx|apply W6|apply oi|apply fi|intro h|refine cl ho ?_|refine cl ha ?_|exact Y7|refine e_ rfl ?_)
  conv=>whnf
  refine⟨{k:Nat//k<=n},fun k=>⟨[(1,.r (.c (.ptr (1,0,0) 0))),(3,tI .i64 (n:Int)),(5,.r (.c (.own (19,0,0)))),(6,tI .i64 (k.1:Int))],[((19,0,0),some (.arr true 1 ((b0::iZ x.K9 k.1).map aT))),((1,0,0),some (.box [.t (.int .i64 x.J3),.t (.int .i64 x.K9)]))],[19,1]⟩,fun k=>n-k.1,⟨0,o_⟩,?_,?_⟩
  ·repeat' ((conv=>whnf);first|apply Wx|apply W6|apply oi|apply fi|intro h|exact Y7|refine e_ rfl ?_)
   all_goals try exact⟨by rw[hbc];rfl⟩
  intro⟨k,hk⟩;dsimp only;have P4:((b0::iZ x.K9 k).map aT).length=k+1:=by simp[iZ]
  by_cases M3:k<n
  ·have h8:IntKind.i64.wrap (8*(k:Int))=((8*k:Nat):Int):=(by rw[c6 _ o_];rfl);have XG:=FQ x.K9 (k:=k) o_;repeat' ((conv=>whnf);first|apply Wx|apply W6|apply oi|apply fi|intro h|exact Y5|refine e_ rfl ?_)
   all_goals try exact⟨by rw[h8];omega⟩
   all_goals try exact⟨⟨by simp only[i9,d5,P4]<;>omega,by simp only[i9,d5,P4]<;>omega⟩⟩
   conv=>whnf
   refine⟨⟨k+1,o_⟩,?_,KD⟩;repeat' ((conv=>whnf);first|apply Wx|apply W6|apply oi|apply fi|intro h|exact Y8|refine e_ rfl ?_)
   all_goals try exact⟨by dsimp only;rw[Bq,XG,<-u3,u5];rfl⟩
  ·have Pr:k=n:=o_;subst Pr;exact Z7
theorem ym {c a:Int}(h:eQ c a):dz c a=true:=by
 obtain⟨h0,h1,h2,h3,h4,h5,h6⟩:=h;unfold dz;rw[b9,within_iff,within_iff];refine⟨⟨h0,h1⟩,?_⟩;unfold kR;split
 ·have:=h2 aak;dsimp only;omega
 split
 ·have:=h3 o_;dsimp only;omega
 split
 ·have:=h4 aak;dsimp only;omega
 split
 ·have:=h5 o_;dsimp only;omega
 ·have:=h6 o_;dsimp only;omega
structure PlI (p:List Mq) (f j:Nat) (y:Mu):Prop where
 head:j=0->(y.L7.J7.J3=13\/y.L7.J7.J3=15)/\∃g ln,(aA p)[f]?=some g/\y.L7.MM=(g:Int)/\p[g]?=some ln/\ln.J5=0
 body:0<j->y.L7.J7.J3≠13/\∃(n:Nat) (ln:Mq),y.L7.MM=(n:Int)/\p[n]?=some ln/\ln.J5≠0
 op:dz y.L7.J7.J3 y.L7.J7.K9=true
theorem Ab (p:List Mq)(b:Mi):alike (foldIf p b) p:=by
 unfold foldIf;split
 ·exact fd p
 ·rfl
theorem ip (st:List Int)(k:Nat)(x:Mp):(cT st k x).J7.J3=x.J7.J3:=by unfold cT;split<;>rfl
theorem wW (st:List Int)(k:Nat)(x:Mp):(cT st k x).MM=x.MM:=by unfold cT;split<;>rfl
theorem mB {p:List Mq}{b:Mi}{at0:Int}(hs:ao 1048576 (.lst 4 (p.map Mq.tr)))(h1:aj p=true)(h2:aS b=true){f:Nat}(h:f<(aA p).length){j:Nat}{y:Mu}(hy:(iB (aC p f b) at0)[j]?=some y):PlI p f j y:=by
 obtain⟨g,C,k1,k2,k3,k4,hi⟩:=pZ (f:=(f:Int)) hs h1 h2 o_ o_;have M0:=(jh (p:=p) (f:=(f:Int)) (b:=b) hs).1;have Ol:=hi.jumps.2;have hj:j<(aC p (f:Int) b).length:=by have:=aI hy;rwa [dY]at this
 obtain⟨x,hx⟩:=ae hj;rw[eV hx]at hy;injection hy with hy;subst hy;rw[d6]at k1;obtain⟨VR,ln,UG,Wi⟩:=nU (c9 k1)
 generalize aC p (f:Int) b=I at *
 obtain⟨a,t,rfl,ha,ht⟩:=hi
 have M1:¬pE x=true->eQ x.J7.J3 x.J7.K9:=fun hn=>by
  rw[isJump_iff]at hn
  cases j with
  | zero=>
   simp only[f9,Option.some.injEq]at hx;subst hx;have e3:=ha.2.2
   rcases ha.1 with e|e<;>(rw[e,e3];unfold eQ;omega)
  | succ j=>exact(ht x (c9 (by simpa using hx))).op hn
 refine⟨fun e=>?_,fun e=>?_,?_⟩
 ·subst e;simp only[f9,Option.some.injEq]at hx;subst hx;dsimp only;rw[ip,wW];exact⟨ha.1,g,ln,k1,ha.2.1,UG,Wi⟩
 ·obtain⟨j,rfl⟩:∃i,j=i+1:=⟨j-1,o_⟩;have hg:=ht x (c9 (by simpa using hx));dsimp only;rw[ip,wW];refine⟨hg.enter,?_⟩;obtain⟨z,z0,z1,z2⟩:=hg.line;rw[k2]at z1;obtain⟨w,w1,w2,_⟩:=(Ab p b).get z1;exact⟨x.MM.toNat,w,o_,w1,o_⟩
 ·dsimp only;by_cases hn:pE x=true
  ·rw[cT,c7 hn];have h3:=Ol x (c9 hx) hn;rw[isJump_iff]at hn;have s1:=jL (at0:=at0) (l:=a::t) (k:=x.J7.K9.toNat) o_;have s2:=jL (at0:=at0) (l:=a::t) (k:=j+1) o_;refine ym ?_;dsimp only[zM];unfold eQ;omega
  ·rw[cT,b8 hn];exact ym (M1 hn)
def ak (l:List Mu):List UInt8:=l.flatMap fun x=>bk x.L7.J7
theorem aK (a b:List Mu):ak (a++b)=ak a++ak b:=by simp[ak]
theorem eb (x:Mu):ak [x]=bk x.L7.J7:=by simp[ak]
theorem gU:∀(l:List Mu),(ak l).length<=5*l.length
 | []=>by simp[ak]
 | x::l=>by
  have h1:=gU l;have h2:=sU x.L7.J7;rw[show x::l=[x]++l from rfl,aK,c8,c8,eb];simp only[d5,i9];omega
theorem kI {l:List Mp}{at0:Int}(h:∀y∈iB l at0,dz y.L7.J7.J3 y.L7.J7.K9=true):∀{k:Nat},k<=l.length->((ak ((iB l at0).take k)).length:Int)=atL (bb at0 l) k-at0
 | 0,_=>by rw[gC];simp[ak]
 | k+1,hk=>by
  obtain⟨x,hx⟩:=ae (l:=l) (k:=k) o_;have hg:=eV (at0:=at0) hx;have ih:=kI h (k:=k) o_;have he:=ew (h _ (c9 hg));dsimp only at he;rw[ip]at he;rw[dA hg,aK,c8,eb,gn hx];dsimp only;omega
def bK (p:List Mq)(f:Nat):List UInt8:=match(aA p)[f]? with
 | some g=>(match p[g]? with|some y=>y.L0|none=>[])
 | none=>[]
def cu (p:List Mq):Int->List (Nat×List Mu)->List My
 | _,[]=>[]
 | at0,(f,l)::L=>⟨bK p f,at0,(ak l).length⟩::cu p (at0+(ak l).length) L
theorem tA (p:List Mq):∀(L:List (Nat×List Mu)) (at0:Int) (x:Nat×List Mu),cu p at0 (L++[x])=cu p at0 L++[⟨bK p x.1,at0+(ak (ay L)).length,(ak x.2).length⟩]
 | [],at0,(f,l)=>by simp[cu,ay,ak]
 |(g,m)::L,at0,x=>by
  rw[u3,cu,tA p L,cu,u3];congr 3;have:ay ((g,m)::L)=m++ay L:=by simp[ay]
  rw[this,aK,c8];simp only[My.mk.injEq,true_and,and_true];omega
theorem lm (p:List Mq):∀(L:List (Nat×List Mu)) (at0:Int),(cu p at0 L).length=L.length
 | [],_=>rfl
 |(f,l)::L,at0=>by rw[cu,d5,lm p L,d5]
noncomputable def ah (p:List Mq) (b:Mi) (image:Int):Mn:=
 if aj p=true/\aS b=true/\af image 0 1=true then⟨ak (ay (cj p b image (aA p).length 0 0)),cu p 0 (cj p b image (aA p).length 0 0)⟩else⟨[],[]⟩
theorem mY {p:List Mq}{b:Mi}{image:Int}:∀{n f:Nat} {at0:Int} {x:Nat×List Mu},x∈cj p b image n f at0->f<=x.1/\x.1<f+n
 | 0,_,_,_,h=>by cases h
 | n+1,f,at0,x,h=>by
  rw[cj]at h;split at h
  ·rcases d7.1 h with rfl|h
   ·exact⟨d8 _,g_⟩
   ·have:=mY h;omega
  ·have:=mY h;omega
theorem kl {p:List Mq}{b:Mi}{image:Int}(hs:ao 1048576 (.lst 4 (p.map Mq.tr)))(h1:aj p=true)(h2:aS b=true):∀{n f:Nat} {at0:Int} {i:Nat} {x:Nat×List Mu},f+n<=(aA p).length->(cj p b image n f at0)[i]?=some x->
  x.2=iB (aC p (x.1:Int) b) (at0+((ak (ay ((cj p b image n f at0).take i))).length:Int))/\x.1<(aA p).length/\0<x.2.length
 | 0,_,_,_,_,_,h=>by simp[cj]at h
 | n+1,f,at0,i,x,hf,h=>by
  rw[nZ]at h⊢;split at h
  ·rename_i hin;rw[c7 hin]
   cases i with
   | zero=>
    simp only[f9,Option.some.injEq]at h;subst h;have:=(Kr (f:=f) hs h1 h2 o_).pos
    refine⟨by simp[ay,ak],g_,by dsimp only;rw[dY];exact this⟩
   | succ i=>
    rw[l4]at h;obtain⟨k1,k2,k3⟩:=kl hs h1 h2 o_ h;refine⟨?_,k2,k3⟩
    have hl:=kI (l:=aC p (f:Int) b) (at0:=at0) (fun y hy=>by
     obtain⟨j,hj⟩:=v7.1 hy
     exact(mB hs h1 h2 o_ hj).op) (k:=(aC p (f:Int) b).length) (d8 _)
    rw[i7 (by rw[dY];exact d8 _)]at hl;rw[k1,q9,show ∀(a:Nat×List Mu) (l:List (Nat×List Mu)),ay (a::l)=a.2++ay l from fun a l=>by simp[ay],aK,c8];congr 1;have he:zW at0 (aC p (f:Int) b)=atL (bb at0 (aC p (f:Int) b)) (aC p (f:Int) b).length:=rfl;dsimp only
    rw[he]at *
    omega
  ·rename_i hin;rw[b8 hin];exact kl hs h1 h2 o_ h
theorem fV {p:List Mq}{b:Mi}{image:Int}(hs:ao 1048576 (.lst 4 (p.map Mq.tr)))(h1:aj p=true)(h2:aS b=true){i:Nat}{x:Nat×List Mu}(h:(cj p b image (aA p).length 0 0)[i]?=some x){j:Nat}{y:Mu}(hy:x.2[j]?=some y):
  PlI p x.1 j y/\y.MK=((ak (ay ((cj p b image (aA p).length 0 0).take i))).length:Int)+(ak (x.2.take j)).length:=by
 obtain⟨k1,k2,_⟩:=kl hs h1 h2 o_ h
 generalize hS:((ak (ay ((cj p b image (aA p).length 0 0).take i))).length:Int)=S at *
 rw[I9]at k1;rw[k1]at hy⊢;refine⟨mB hs h1 h2 k2 hy,?_⟩;have hj:j<(aC p (x.1:Int) b).length:=by have:=aI hy;rwa [dY]at this
 rw[kI (fun z hz=>by
  obtain⟨j,hj⟩:=v7.1 hz
  exact(mB hs h1 h2 k2 hj).op) o_]
 obtain⟨z,hz⟩:=ae hj;rw[eV hz]at hy;injection hy with hy;subst hy;dsimp only;omega
def qk (L:List (Nat×List Mu))(i j:Nat):List Mu:=match L[i]? with|some x=>x.2.take j|none=>[]
def gx (L:List (Nat×List Mu))(i j:Nat):List UInt8:=ak (ay (L.take i))++ak (qk L i j)
def jN (p:List Mq)(L:List (Nat×List Mu))(i j:Nat):List My:=cu p 0 (L.take i)++(match L[i]? with
 | some x=>if j=0 then []else [⟨bK p x.1,((ak (ay (L.take i))).length:Int),((ak (x.2.take j)).length:Int)⟩]
 | none=>[])
theorem px (L:List (Nat×List Mu))(x:Nat×List Mu):ay (L++[x])=ay L++x.2:=by simp[ay]
theorem DE {L:List (Nat×List Mu)}{i:Nat}{x:Nat×List Mu}(h:L[i]?=some x):gx L i x.2.length=gx L (i+1) 0:=by
 have:qk L (i+1) 0=[]:=by unfold qk;split<;>simp
 rw[gx,gx,this,dA h,px,aK,qk,h];simp[ak]
theorem DA {p:List Mq}{L:List (Nat×List Mu)}{i:Nat}{x:Nat×List Mu}(h:L[i]?=some x)(h0:0<x.2.length):jN p L i x.2.length=jN p L (i+1) 0:=by
 rw[jN,jN,dA h,tA,h];dsimp only;rw[b8 o_,i7 (d8 _),I9]
 cases L[i+1]?<;>simp
theorem GJ {p:List Mq}{L:List (Nat×List Mu)}:jN p L L.length 0=cu p 0 L:=by rw[jN,i7 (d8 _),e9 (d8 _)];simp
theorem Ga {L:List (Nat×List Mu)}:gx L L.length 0=ak (ay L):=by rw[gx,i7 (d8 _),qk,e9 (d8 _)];simp[ak]
theorem BK {L:List (Nat×List Mu)}{i j:Nat}{x:Nat×List Mu}{y:Mu}(h:L[i]?=some x)(hy:x.2[j]?=some y):(ay L)[(ay (L.take i)).length+j]?=some y:=by
 have e:L=L.take i++x::L.drop (i+1):=by rw[<-cJ h,z4]
 have e2:ay L=ay (L.take i)++(x.2++ay (L.drop (i+1))):=by
  conv=>lhs;rw[e]
  simp[ay]
 rw[e2,m6 o_,D5,j7 (aI hy),hy]
theorem He {p:List Mq}{L:List (Nat×List Mu)}(Vd:∀{i:Nat} {x:Nat×List Mu},L[i]?=some x->0<x.2.length){i j:Nat}{x:Nat×List Mu}(hx:L[i]?=some x)(hj:j<x.2.length):∃q:Nat×Nat,q.1<=L.length/\(∀x,L[q.1]?=some x->q.2<x.2.length)/\(q.1=L.length->q.2=0)/\
  (ay (L.take q.1)).length+q.2=(ay (L.take i)).length+(j+1)/\gx L q.1 q.2=gx L i (j+1)/\jN p L q.1 q.2=jN p L i (j+1):=by
 have hi:=aI hx;by_cases hn:j+1<x.2.length
 ·exact⟨(i,j+1),g_,fun z hz=>by dsimp only at hz⊢;rw[hx]at hz;injection hz with hz;subst hz;exact hn,fun h=>by dsimp only at h;omega,rfl,rfl,rfl⟩
 ·have e:j+1=x.2.length:=o_;refine⟨(i+1,0),g_,fun z hz=>Vd hz,fun _=>rfl,?_,?_,?_⟩
  ·dsimp only;rw[dA hx,px,c8];omega
  ·dsimp only;rw[e,DE hx]
  ·dsimp only;rw[e,DA hx (Vd hx)]
theorem uV {p:List Mq}{L:List (Nat×List Mu)}{i:Nat}:jN p L i 0=cu p 0 (L.take i):=by rw[jN];cases L[i]?<;>simp
theorem DS {L:List (Nat×List Mu)}{i:Nat}:gx L i 0=ak (ay (L.take i)):=by rw[gx,qk];cases L[i]?<;>simp[ak]
theorem yk {p:List Mq}{L:List (Nat×List Mu)}{i j:Nat}{x:Nat×List Mu}(hx:L[i]?=some x):jN p L i (j+1)=cu p 0 (L.take i)++[⟨bK p x.1,((ak (ay (L.take i))).length:Int),((ak (x.2.take (j+1))).length:Int)⟩]:=by rw[jN,hx];rfl
theorem FN {L:List (Nat×List Mu)}{i j:Nat}{x:Nat×List Mu}{y:Mu}(hx:L[i]?=some x)(hy:x.2[j]?=some y):gx L i (j+1)=gx L i j++bk y.L7.J7:=by rw[gx,gx,qk,qk,hx];dsimp only;rw[dA hy,aK,eb,j9]
theorem Gl {L:List (Nat×List Mu)}{i j:Nat}{x:Nat×List Mu}(hx:L[i]?=some x):(gx L i j).length=(ak (ay (L.take i))).length+(ak (x.2.take j)).length:=by rw[gx,qk,hx,c8]
def oL {α:Type}(o:Option (List α)):List α:=match o with|some l=>l|none=>[]
def gi (off:Int)(x:My):Bool:=af x.L8 0 1000000&&(af x.MO 0 1000000&&(decide (x.L8<=off)&&decide (off<x.L8+x.MO)))
def eU (off:Int):List My->Nat->Int
 | [],_=> -1
 | x::l,k=>if gi off x then(k:Int)else eU off l (k+1)
def eR (l:List My)(off:Int):Int:=eU off l 0
theorem FW {off:Int}{l:List My}{k:Nat}{x:My}(hx:l[k]?=some x):eU off (l.drop k) k=if gi off x then(k:Int)else eU off (l.drop (k+1)) (k+1):=by rw[cJ hx,eU]
theorem qD {off:Int}:∀(l:List My) (k:Nat),eU off l k= -1\/((k:Int)<=eU off l k/\eU off l k<k+l.length)
 | [],k=> .inl (by rw[eU])
 | x::l,k=>by
  rw[eU];split
  ·exact .inr ⟨o_,by simp only[d5];omega⟩
  ·rcases qD l (k+1)with h|h
   ·exact .inl h
   ·exact .inr ⟨o_,by simp only[d5];omega⟩
theorem na (l:List My)(off:Int):eR l off= -1\/(0<=eR l off/\eR l off<l.length):=by have:=qD (off:=off) l 0;unfold eR;omega
theorem lX (i:Mn)(off:Int)(hl:i.ME.length<=1048576):Sim.Spec prog 136 [.agg i.tr,tvI off] (rI (eR i.ME off)):=by
 refine ag hΓ aE func136 rfl d_ rfl ?_;obtain⟨code,l⟩:=i;dsimp only at hl⊢;have M0:(l.map My.tr).length=l.length:=s_;unfold eR;repeat' ((conv=>whnf);first|refine Or.inl ?_|apply oi|apply fi|intro h|exact Y1|refine e_ rfl ?_)
 conv=>whnf
 refine⟨{k:Nat//k<=l.length/\eU off (l.drop k) k=eU off l 0},fun k=>⟨[(1,tI .i64 off),(2,.r (.c (.ptr (2,0,0) 0))),(5,tI .i64 (k.1:Int))],[((2,0,0),some (.box [.t (.str code),.t (.lst 3 (l.map My.tr))]))],[2]⟩,fun k=>l.length-k.1,⟨0,o_,by rw[C2]⟩,?_,?_⟩
 ·exact Z1
 intro⟨k,hk,hr⟩;dsimp only;by_cases M3:k<l.length
 ·obtain⟨x,hx⟩:=ae M3;rw[FW hx]at hr;have NP:=aJ x.L8 0 1000000;have NG:=aJ x.MO 0 1000000;have QD:gi off x=false->eU off (l.drop (k+1)) (k+1)=eU off l 0:=fun h=>by rw[h,b8 s_]at hr;exact hr
  cases NT:af x.L8 0 1000000 with
  | false=>
   have hh:gi off x=false:=(by rw[gi,NT];rfl);rw[NT]at NP;repeat' ((conv=>whnf);first|refine Or.inl ?_|apply oi|apply fi|intro h|refine⟨k,x.tr,rfl,ab hx,?_⟩|refine ci NP (ai rfl (ai rfl (ai rfl trivial))) ?_|exact Y2|refine e_ rfl ?_)
   all_goals conv=>whnf
   all_goals refine⟨⟨k+1,o_,QD hh⟩,?_,KD⟩
   repeat' ((conv=>whnf);first|refine Or.inl ?_|apply oi|apply fi|intro h|exact Y1|refine e_ rfl ?_)
   all_goals exact Q4
  | true=>
   rw[NT]at NP
   cases Ow:af x.MO 0 1000000 with
   | false=>
    have hh:gi off x=false:=(by rw[gi,NT,Ow];rfl);rw[Ow]at NG;repeat' ((conv=>whnf);first|refine Or.inl ?_|apply oi|apply fi|intro h|refine⟨k,x.tr,rfl,ab hx,?_⟩|refine ci NP (ai rfl (ai rfl (ai rfl trivial))) ?_|refine ci NG (ai rfl (ai rfl (ai rfl trivial))) ?_|exact Y2|refine e_ rfl ?_)
    all_goals conv=>whnf
    all_goals refine⟨⟨k+1,o_,QD hh⟩,?_,KD⟩
    repeat' ((conv=>whnf);first|refine Or.inl ?_|apply oi|apply fi|intro h|exact Y1|refine e_ rfl ?_)
    all_goals exact Q4
   | true=>
    rw[Ow]at NG;have Qa:=within_iff.1 NT;have TO:=within_iff.1 Ow;have TD:IntKind.i64.wrap (x.L8+x.MO)=x.L8+x.MO:=c6 _ o_
    cases hh:gi off x with
    | true=>
     rw[hh,c7 rfl]at hr;rw[gi,NT,Ow]at hh;simp only[n7,b9,j6]at hh;repeat' ((conv=>whnf);first|refine Or.inl ?_|apply oi|apply fi|intro h|refine⟨k,x.tr,rfl,ab hx,?_⟩|refine ci NP (ai rfl (ai rfl (ai rfl trivial))) ?_|refine ci NG (ai rfl (ai rfl (ai rfl trivial))) ?_|exact Y2|refine e_ rfl ?_)
     all_goals try exact⟨by rw[hr]⟩
     all_goals(exfalso;(try rw[TD]at h);simp only[p9]at h;omega)
    | false=>
     have Xi:=QD hh;rw[gi,NT,Ow]at hh;simp only[n7,B1,p9]at hh;repeat' ((conv=>whnf);first|refine Or.inl ?_|apply oi|apply fi|intro h|refine⟨k,x.tr,rfl,ab hx,?_⟩|refine ci NP (ai rfl (ai rfl (ai rfl trivial))) ?_|refine ci NG (ai rfl (ai rfl (ai rfl trivial))) ?_|exact Y2|refine e_ rfl ?_)
     all_goals try(exfalso;rw[TD]at *;simp only[j6]at *;omega)
     all_goals conv=>whnf
     all_goals refine⟨⟨k+1,o_,Xi⟩,?_,KD⟩
     repeat' ((conv=>whnf);first|refine Or.inl ?_|apply oi|apply fi|intro h|exact Y1|refine e_ rfl ?_)
     all_goals exact Q4
 ·have Nk:l.length<=k:=o_;rw[m9 Nk,eU]at hr;repeat' ((conv=>whnf);first|refine Or.inl ?_|apply oi|apply fi|intro h|exact Y2|refine e_ rfl ?_)
  exact⟨by rw[<-hr]⟩
def cF (s:List UInt8)(p:Nat):Nat:=match s[p]? with|some b=>b.toNat|none=>0
theorem GC (s:List UInt8)(p:Nat):cF s p<256:=by
 unfold cF;split
 ·exact UInt8.toNat_lt _
 ·omega
def aX (s:List UInt8)(p:Nat):Nat->Nat
 | 0=>0
 | k+1=>aX s p k+cF s (p+k)*256^k
theorem fo (s:List UInt8)(p:Nat):∀k,aX s p k<256^k
 | 0=>by simp[aX]
 | k+1=>by
  have h1:=fo s p k;have h2:=GC s (p+k);rw[aX,G8];have h3:=l8 (256^k) (show cF s (p+k)<=255 by omega);omega
def jV (c:Int)(m:Nat):Int:=if(ba c).2=true/\2^(8*(ba c).1.toNat-1)<=m then(m:Int)-2^(8*(ba c).1.toNat)else m
def bB (s:List UInt8)(p:Int):Option (Mt×Nat):=
 if 0<=p/\p<s.length then
  (
   if aH (cF s p.toNat)=0\/(s.length:Int)<p+aH (cF s p.toNat)then none
   else some (⟨cF s p.toNat,jV (cF s p.toNat) (aX s (p.toNat+1) (ba (cF s p.toNat)).1.toNat)⟩,(aH (cF s p.toNat)).toNat))
 else none
def opX (o:Option (Mt×Nat)):Mt:=match o with|some x=>x.1|none=>⟨0,0⟩
def opZ (o:Option (Mt×Nat)):Int:=match o with|some x=>x.2|none=>0
abbrev rOp (o:Option (Mt×Nat)):Res:= .tup [.agg [.t (.int .i64 (opX o).J3),.t (.int .i64 (opX o).K9)],.c (.t (.int .i64 (opZ o))),.c (.t (.bool o.isSome))]
theorem Cm (c:Int):ba c=(4,true)\/ba c=(2,true)\/ba c=(2,false)\/ba c=(1,false)\/ba c=(0,false):=by
 unfold ba;repeat' split
 all_goals simp
theorem Lc {n x k:Nat}(hn:n<256^k):n ||| x*256^k=n+x*256^k:=by
 have e:(256:Nat)^k=2^(8*k):=by rw[show(256:Nat)=2^8 from rfl,<-Nat.pow_mul]
 have:=Nat.two_pow_add_eq_or_of_lt (i:=8*k) (b:=n) (by rw[<-e];exact hn) x;rw[e,Nat.mul_comm x,Nat.or_comm,<-this];omega
theorem yb {x k:Nat}(hk:k<4)(hx:x<256):IntKind.i64.wrap ((x:Int)*2^(min (Int.toNat (IntKind.i64.wrap (8*(k:Int)))) IntKind.i64.bits))=((x*256^k:Nat):Int):=by
 rw[c6 (8*(k:Int)) o_];have:k=0\/k=1\/k=2\/k=3:=o_;rcases this with rfl|rfl|rfl|rfl
 ·show IntKind.i64.wrap ((x:Int)*1)=_;rw[c6 _ o_];simp
 ·show IntKind.i64.wrap ((x:Int)*256)=_;rw[c6 _ o_];simp
 ·show IntKind.i64.wrap ((x:Int)*65536)=_;rw[c6 _ o_];simp
 ·show IntKind.i64.wrap ((x:Int)*16777216)=_;rw[c6 _ o_];simp
theorem yo {k:Nat}(hk:k<4):256^k<=16777216:=by have:=Nat.pow_le_pow_right (n:=256) o_ (show k<=3 by omega);exact this
theorem HL {n x k:Nat}(hk:k<4)(hn:n<256^k)(hx:x<256):IntKind.i64.wrap ((BitVec.ofInt IntKind.i64.bits (n:Int) ||| BitVec.ofInt IntKind.i64.bits (IntKind.i64.wrap ((x:Int)*2^(min (Int.toNat (IntKind.i64.wrap (8*(k:Int)))) IntKind.i64.bits)))).toNat:Int)=((n+x*256^k:Nat):Int):=by
 rw[yb hk hx];have h4:=yo hk;have h5:x*256^k<=255*16777216:=A7 o_ h4
 have e:(BitVec.ofInt IntKind.i64.bits (n:Int) ||| BitVec.ofInt IntKind.i64.bits ((x*256^k:Nat):Int)).toNat=n+x*256^k:=by show(BitVec.ofInt 64 (n:Int) ||| BitVec.ofInt 64 ((x*256^k:Nat):Int)).toNat=_;rw[BitVec.toNat_or,C3,C3];have e1:((n:Int)%((2^64:Nat):Int)).toNat=n:=o_;have e2:(((x*256^k:Nat):Int)%((2^64:Nat):Int)).toNat=x*256^k:=o_;rw[e1,e2,Lc hn]
 rw[e,c6 _ o_]
theorem yQ (c:Int):∃n:Nat,(ba c).1=(n:Int)/\(n=0\/n=1\/n=2\/n=4)/\((ba c).2=true->n=2\/n=4):=by
 rcases Cm c with h|h|h|h|h<;>rw[h]
 ·exact⟨4,rfl,o_,o_⟩
 ·exact⟨2,rfl,o_,o_⟩
 ·exact⟨2,rfl,o_,s_⟩
 ·exact⟨1,rfl,o_,s_⟩
 ·exact⟨0,rfl,o_,s_⟩
theorem qm {c:Int}{n m:Nat}(hn:(ba c).1=(n:Int))(hg:(ba c).2=true)(h:2^(8*n-1)<=m):jV c m=(m:Int)-2^(8*n):=by rw[jV,hn,d6,c7 ⟨hg,h⟩]
theorem nS {c:Int}{n m:Nat}(hn:(ba c).1=(n:Int))(h:¬((ba c).2=true/\2^(8*n-1)<=m)):jV c m=(m:Int):=by rw[jV,hn,d6,b8 h]
theorem V105{p:Prop}(h:p:=by
 have h1:¬aH (b.toNat:Int)=0:=fun h=>Nm (Or.inl h);unfold aH at h1⊢;split at h1
 ·rename_i S9;rw[c7 S9,hn]
 ·omega):p:=h
theorem V106{p:Prop}(h:p:=by
 rcases Sq rfl with h|h<;>rw[h]
 ·exact⟨32768,65536,d_,d_,d_,d_,d_,d_⟩
 ·exact⟨2147483648,4294967296,d_,d_,d_,d_,d_,d_⟩):p:=h
theorem tV (s:List UInt8)(p:Int)(hs:s.length<=1048576)(hp:p<=9223372036854775807):Sim.Spec prog 177 [tvS s,tvI p] (rOp (bB s p)):=by
 refine ag hΓ aE func177 rfl d_ rfl ?_;have hb:=aW p 0 (IntKind.i64.wrap (s.length-1));have hw:IntKind.i64.wrap ((s.length:Int)-1)=(s.length:Int)-1:=c6 _ o_;by_cases hin:0<=p/\p<s.length
 ·obtain⟨p,rfl⟩:=gt hin.1;have Ri:af (p:Int) 0 (IntKind.i64.wrap (s.length-1))=true:=by rw[hw];exact within_iff.2 ⟨o_,o_⟩
  rw[Ri]at hb;obtain⟨b,OL⟩:=ae (l:=s) (k:=p) o_;have Xn:cF s p=b.toNat:=by rw[cF,OL]
  have hz:=xp (b.toNat:Int);have ha:=me (b.toNat:Int);have Ua:=gW (b.toNat:Int);have M3:=UInt8.toNat_lt b;have Wz:IntKind.i64.wrap (b.toNat:Int)=b.toNat:=c6 _ o_;rw[bB,c7 hin,d6,Xn];by_cases Nm:aH (b.toNat:Int)=0\/(s.length:Int)<(p:Int)+aH (b.toNat:Int)
  ·rw[c7 Nm];repeat' ((conv=>whnf);first|refine Or.inl ?_|apply oi|apply fi|intro h|refine ci hb (ai rfl (ai rfl (ai rfl trivial))) ?_|refine⟨p,b,rfl,OL,?_⟩|refine ci hz (ai KW trivial) ?_|exact Y1|refine e_ rfl ?_)
   all_goals(exfalso;rename_i h0;have h1:¬aH (b.toNat:Int)=0:=(by simpa using h0);rw[c6 _ o_]at h;have h':=e8 h;omega)
  ·rw[b8 Nm];repeat' ((conv=>whnf);first|refine Or.inl ?_|apply oi|apply fi|intro h|refine ci hb (ai rfl (ai rfl (ai rfl trivial))) ?_|refine⟨p,b,rfl,OL,?_⟩|refine ci hz (ai KW trivial) ?_|refine ci ha (ai KW trivial) ?_|exact Y1|refine e_ rfl ?_)
   all_goals try(exfalso;first|(have h1:aH (b.toNat:Int)=0:=aaf;omega)|(rw[c6 _ o_]at h;have h':=d9 h;omega))
   obtain⟨n,hn,Xr,Sq⟩:=yQ (b.toNat:Int)
   have hos:aH (b.toNat:Int)=n+1:=by exact V105
   have Rb:=fun m=>qm (m:=m) hn;have PF:=fun m=>nS (m:=m) hn;rw[hn,d6]
   generalize(ba (b.toNat:Int)).2=sg at *
   generalize hV:jV (b.toNat:Int)=V at *
   conv=>whnf
   refine⟨{k:Nat//k<=n},fun k=>⟨[(0,tS s),(1,tI .i64 (p:Int)),(4,.r (.c (.ptr (4,0,0) 0))),(7,.r (.c (.ptr (7,0,0) 0))),(8,tI .i64 (aH (b.toNat:Int))),(9,tI .i64 (n:Int)),(10,tB sg),(11,tI .i64 (k.1:Int))],[((7,0,0),some (.box [.t (.int .i64 b.toNat),.t (.int .i64 (aX s (p+1) k.1:Nat))])),((4,0,0),some (.box [.t (.int .i64 0),.t (.int .i64 0)]))],[7,4]⟩,fun k=>n-k.1,⟨0,o_⟩,?_,?_⟩
   ·repeat' ((conv=>whnf);first|refine Or.inl ?_|apply oi|apply fi|intro h|exact Y1|refine e_ rfl ?_)
    all_goals exact⟨by first|rfl|(rw[Wz];done)|(rw[hn];done)⟩
   intro⟨k,hk⟩;dsimp only;by_cases PG:k<n
   ·obtain⟨b2,NG⟩:=ae (l:=s) (k:=p+1+k) o_;have Tb:cF s (p+1+k)=b2.toNat:=(by rw[cF,NG]);have OQ:=UInt8.toNat_lt b2;have TY:=fo s (p+1) k;have PZ:IntKind.i64.wrap (IntKind.i64.wrap ((p:Int)+1)+k)=((p+1+k:Nat):Int):=(by rw[c6 ((p:Int)+1) o_,c6 _ o_];omega);have Nw:aX s (p+1) (k+1)=aX s (p+1) k+b2.toNat*256^k:=(by rw[aX,Tb]);have Ow:IntKind.i64.wrap (b2.toNat:Int)=b2.toNat:=c6 _ o_;repeat' ((conv=>whnf);first|refine Or.inl ?_|apply oi|apply fi|intro h|refine⟨(p+1+k),b2,PZ,NG,?_⟩|exact Y12|refine e_ rfl ?_)
    conv=>whnf
    refine⟨⟨k+1,o_⟩,?_,KD⟩;repeat' ((conv=>whnf);first|refine Or.inl ?_|apply oi|apply fi|intro h|exact Y1|refine e_ rfl ?_)
    ·exact⟨by dsimp only;rw[c6 _ o_];rfl⟩
    ·refine⟨congrArg (Tr.int _) ?_⟩;dsimp only;rw[Nw,Ow];exact HL o_ TY OQ
   ·have Pr:k=n:=o_;subst Pr;have TY:=fo s (p+1) k
    cases sg with
    | false=>
     have hv:=PF (aX s (p+1) k) s_;repeat' ((conv=>whnf);first|refine Or.inl ?_|apply oi|apply fi|intro h|exact Y2|refine e_ rfl ?_)
     all_goals(refine⟨congrArg (Tr.int _) ?_⟩;simp only[opX,opZ];first|(rw[hv];done)|omega)
    | true=>
     have XZ:∃A B:Nat,2^(8*k-1)=A/\2^(8*k)=B/\B<=4294967296/\IntKind.i64.wrap (1*2^(min (Int.toNat (IntKind.i64.wrap (IntKind.i64.wrap (8*(k:Int))-1))) IntKind.i64.bits))=(A:Int)/\
       IntKind.i64.wrap (1*2^(min (Int.toNat (IntKind.i64.wrap (8*(k:Int)))) IntKind.i64.bits))=(B:Int)/\256^k=B:=by
      exact V106
     obtain⟨A,B,hA,hB,hBl,OD,RA,SQ⟩:=XZ;rw[SQ]at TY;have Tq:(2:Int)^(8*k)=(B:Int):=(by rw[<-hB];simp);rw[hA,Tq]at Rb;rw[hA]at PF
     have QX:0<=IntKind.i64.wrap (IntKind.i64.wrap (8*(k:Int))-1):=by rcases Sq rfl with h|h<;>rw[h]<;>decide
     have Rd:0<=IntKind.i64.wrap (8*(k:Int)):=by rcases Sq rfl with h|h<;>rw[h]<;>decide
     by_cases Nk:A<=aX s (p+1) k
     ·have hv:=Rb _ rfl Nk;have O2:IntKind.i64.wrap ((aX s (p+1) k:Int)-(B:Int))=(aX s (p+1) k:Int)-B:=c6 _ o_;repeat' ((conv=>whnf);first|refine Or.inl ?_|apply oi|apply fi|intro h|exact Y2|refine e_ rfl ?_)
      all_goals try(exfalso;rw[OD]at h;have h':=e8 h;omega)
      all_goals first
       | exact⟨QX⟩
       | exact⟨Rd⟩
       |(refine⟨congrArg (Tr.int _) ?_⟩;simp only[opX,opZ];first|(rw[RA,O2,hv];done)|omega)
     ·have hv:=PF _ (fun h=>Nk h.2);repeat' ((conv=>whnf);first|refine Or.inl ?_|apply oi|apply fi|intro h|exact Y2|refine e_ rfl ?_)
      all_goals try(exfalso;rw[OD]at h;have h':=d9 h;omega)
      all_goals first
       | exact⟨QX⟩
       | exact⟨Rd⟩
       |(refine⟨congrArg (Tr.int _) ?_⟩;simp only[opX,opZ];first|(rw[hv];done)|omega)
 ·rw[bB,b8 hin]
  have Ri:af p 0 (IntKind.i64.wrap (s.length-1))=false:=by
   rw[hw]
   cases h:af p 0 ((s.length:Int)-1)with|false=>rfl|true=>exact absurd (within_iff.1 h) o_
  rw[Ri]at hb;repeat' ((conv=>whnf);first|refine Or.inl ?_|apply oi|apply fi|intro h|refine ci hb (ai rfl (ai rfl (ai rfl trivial))) ?_|exact Y1|refine e_ rfl ?_)
theorem mj (s:List UInt8)(p:Int)(hs:s.length<=1048576)(hp:p<=9223372036854775807):Sim.Spec prog 140 [tvS s,tvI p] (rOp (bB s p)):=by
 refine ag hΓ aE func140 rfl d_ rfl ?_;have hw:IntKind.i64.wrap ((s.length:Int)-1)=(s.length:Int)-1:=c6 _ o_;by_cases hin:0<=p/\p<s.length
 ·obtain⟨p,rfl⟩:=gt hin.1;obtain⟨b,OL⟩:=ae (l:=s) (k:=p) o_;have Xn:cF s p=b.toNat:=by rw[cF,OL]
  have hz:=ku (b.toNat:Int);have ha:=fM (b.toNat:Int);have Ua:=gW (b.toNat:Int);have M3:=UInt8.toNat_lt b;have Wz:IntKind.i64.wrap (b.toNat:Int)=b.toNat:=c6 _ o_;rw[bB,c7 hin,d6,Xn];by_cases Nm:aH (b.toNat:Int)=0\/(s.length:Int)<(p:Int)+aH (b.toNat:Int)
  ·rw[c7 Nm]
   have VK:IntKind.i64.wrap (IntKind.i64.wrap ((p:Int)+1)+(ba (b.toNat:Int)).1)=(p:Int)+1+(ba (b.toNat:Int)).1:=by have:=dR (b.toNat:Int);rw[c6 ((p:Int)+1) o_,c6 _ o_]
   have UL:¬aH (b.toNat:Int)=0->aH (b.toNat:Int)=(ba (b.toNat:Int)).1+1:=fun h=>by
    unfold aH at h⊢;split at h
    ·rename_i S9;rw[c7 S9]
    ·omega
   repeat' ((conv=>whnf);first|refine Or.inl ?_|apply oi|apply fi|intro h|refine⟨p,b,rfl,OL,?_⟩|refine ci hz (ai KW trivial) ?_|refine ci ha (ai KW trivial) ?_|exact Y1|refine e_ rfl ?_)
   all_goals try(exfalso;first|(have h':=d9 h;omega))
   all_goals(exfalso;rename_i h0;have h1:¬aH (b.toNat:Int)=0:=(by simpa using h0);rw[VK]at h;have h':=e8 h;have:=UL h1;omega)
  ·rw[b8 Nm]
   have VK:IntKind.i64.wrap (IntKind.i64.wrap ((p:Int)+1)+(ba (b.toNat:Int)).1)=(p:Int)+1+(ba (b.toNat:Int)).1:=by have:=dR (b.toNat:Int);rw[c6 ((p:Int)+1) o_,c6 _ o_]
   have UL:aH (b.toNat:Int)=(ba (b.toNat:Int)).1+1:=by
    have h:¬aH (b.toNat:Int)=0:=fun h=>Nm (Or.inl h);unfold aH at h⊢;split at h
    ·rename_i S9;rw[c7 S9]
    ·omega
   repeat' ((conv=>whnf);first|refine Or.inl ?_|apply oi|apply fi|intro h|refine⟨p,b,rfl,OL,?_⟩|refine ci hz (ai KW trivial) ?_|refine ci ha (ai KW trivial) ?_|exact Y1|refine e_ rfl ?_)
   all_goals try(exfalso;first|(have h1:aH (b.toNat:Int)=0:=aaf;omega)|(rw[VK]at h;have h':=d9 h;omega)|(have h':=d9 h;omega))
   clear VK;obtain⟨n,hn,Xr,Sq⟩:=yQ (b.toNat:Int)
   have hos:aH (b.toNat:Int)=n+1:=by exact V105
   have Rb:=fun m=>qm (m:=m) hn;have PF:=fun m=>nS (m:=m) hn;rw[hn,d6]
   generalize(ba (b.toNat:Int)).2=sg at *
   generalize hV:jV (b.toNat:Int)=V at *
   conv=>whnf
   refine⟨{k:Nat//k<=n},fun k=>⟨[(0,tS s),(1,tI .i64 (p:Int)),(4,.r (.c (.ptr (4,0,0) 0))),(7,.r (.c (.ptr (7,0,0) 0))),(8,tI .i64 (n:Int)),(9,tB sg),(10,tI .i64 (k.1:Int))],[((7,0,0),some (.box [.t (.int .i64 b.toNat),.t (.int .i64 (aX s (p+1) k.1:Nat))])),((4,0,0),some (.box [.t (.int .i64 0),.t (.int .i64 0)]))],[7,4]⟩,fun k=>n-k.1,⟨0,o_⟩,?_,?_⟩
   ·repeat' ((conv=>whnf);first|refine Or.inl ?_|apply oi|apply fi|intro h|exact Y1|refine e_ rfl ?_)
    all_goals exact⟨by first|rfl|(rw[Wz];done)|(rw[hn];done)⟩
   intro⟨k,hk⟩;dsimp only;by_cases PG:k<n
   ·obtain⟨b2,NG⟩:=ae (l:=s) (k:=p+1+k) o_;have Tb:cF s (p+1+k)=b2.toNat:=(by rw[cF,NG]);have OQ:=UInt8.toNat_lt b2;have TY:=fo s (p+1) k;have PZ:IntKind.i64.wrap (IntKind.i64.wrap ((p:Int)+1)+k)=((p+1+k:Nat):Int):=(by rw[c6 ((p:Int)+1) o_,c6 _ o_];omega);have Nw:aX s (p+1) (k+1)=aX s (p+1) k+b2.toNat*256^k:=(by rw[aX,Tb]);have Ow:IntKind.i64.wrap (b2.toNat:Int)=b2.toNat:=c6 _ o_;repeat' ((conv=>whnf);first|refine Or.inl ?_|apply oi|apply fi|intro h|refine⟨(p+1+k),b2,PZ,NG,?_⟩|exact Y12|refine e_ rfl ?_)
    conv=>whnf
    refine⟨⟨k+1,o_⟩,?_,KD⟩;repeat' ((conv=>whnf);first|refine Or.inl ?_|apply oi|apply fi|intro h|exact Y1|refine e_ rfl ?_)
    ·exact⟨by dsimp only;rw[c6 _ o_];rfl⟩
    ·refine⟨congrArg (Tr.int _) ?_⟩;dsimp only;rw[Nw,Ow];rw[yb o_ OQ];have h4:=yo (show k<4 by omega);have h5:b2.toNat*256^k<=255*16777216:=A7 o_ h4;rw[c6 _ o_];simp
   ·have Pr:k=n:=o_;subst Pr;have TY:=fo s (p+1) k;have XS:IntKind.i64.wrap (1+(k:Int))=1+k:=c6 _ o_
    cases sg with
    | false=>
     have hv:=PF (aX s (p+1) k) s_;repeat' ((conv=>whnf);first|refine Or.inl ?_|apply oi|apply fi|intro h|exact Y2|refine e_ rfl ?_)
     all_goals(refine⟨congrArg (Tr.int _) ?_⟩;simp only[opX,opZ];first|(rw[hv];done)|(rw[XS];omega))
    | true=>
     have XZ:∃A B:Nat,2^(8*k-1)=A/\2^(8*k)=B/\B<=4294967296/\IntKind.i64.wrap (1*2^(min (Int.toNat (IntKind.i64.wrap (IntKind.i64.wrap (8*(k:Int))-1))) IntKind.i64.bits))=(A:Int)/\
       IntKind.i64.wrap (1*2^(min (Int.toNat (IntKind.i64.wrap (8*(k:Int)))) IntKind.i64.bits))=(B:Int)/\256^k=B:=by
      exact V106
     obtain⟨A,B,hA,hB,hBl,OD,RA,SQ⟩:=XZ;rw[SQ]at TY;have Tq:(2:Int)^(8*k)=(B:Int):=(by rw[<-hB];simp);rw[hA,Tq]at Rb;rw[hA]at PF
     have QX:0<=IntKind.i64.wrap (IntKind.i64.wrap (8*(k:Int))-1):=by rcases Sq rfl with h|h<;>rw[h]<;>decide
     have Rd:0<=IntKind.i64.wrap (8*(k:Int)):=by rcases Sq rfl with h|h<;>rw[h]<;>decide
     by_cases Nk:A<=aX s (p+1) k
     ·have hv:=Rb _ rfl Nk;have O2:IntKind.i64.wrap ((aX s (p+1) k:Int)-(B:Int))=(aX s (p+1) k:Int)-B:=c6 _ o_;repeat' ((conv=>whnf);first|refine Or.inl ?_|apply oi|apply fi|intro h|exact Y2|refine e_ rfl ?_)
      all_goals try(exfalso;rw[OD]at h;have h':=e8 h;omega)
      all_goals first
       | exact⟨QX⟩
       | exact⟨Rd⟩
       |(refine⟨congrArg (Tr.int _) ?_⟩;simp only[opX,opZ];first|(rw[RA,O2,hv];done)|(rw[XS];omega))
     ·have hv:=PF _ (fun h=>Nk h.2);repeat' ((conv=>whnf);first|refine Or.inl ?_|apply oi|apply fi|intro h|exact Y2|refine e_ rfl ?_)
      all_goals try(exfalso;rw[OD]at h;have h':=d9 h;omega)
      all_goals first
       | exact⟨QX⟩
       | exact⟨Rd⟩
       |(refine⟨congrArg (Tr.int _) ?_⟩;simp only[opX,opZ];first|(rw[hv];done)|(rw[XS];omega))
 ·rw[bB,b8 hin];repeat' ((conv=>whnf);first|refine Or.inl ?_|apply oi|apply fi|intro h|exact Y1|refine e_ rfl ?_)
  all_goals(exfalso;rename_i h0;have h1:=e8 h0;have h2:=e8 h;omega)
def mF (s:List UInt8):Nat->Nat->Option (List Mt)
 | 0,p=>if p<s.length then none else some []
 | f+1,p=>if p<s.length then(match bB s (p:Int)with
   | some x=>(mF s f (p+x.2)).map (x.1::·)
   | none=>none)else some []
def fy (s:List UInt8):Option (List Mt):=mF s s.length 0
theorem iC {s:List UInt8}{p:Nat}{x:Mt}{z:Nat}(h:bB s (p:Int)=some (x,z)):1<=z/\z<=5/\p+z<=s.length:=by
 unfold bB at h;split at h
 ·rename_i hin;split at h
  ·cases h
  ·rename_i Nm;injection h with h;injection h with h1 h2;rw[not_or]at Nm;have:=gW (cF s (p:Int).toNat);omega
 ·cases h
theorem su {s:List UInt8}:∀{f p:Nat},s.length-p<=f->mF s f p=mF s (s.length-p) p
 | 0,p,h=>by rw[show s.length-p=0 by omega]
 | f+1,p,h=>by
  rcases m5 p s.length with M3|Nk
  ·obtain⟨m,hm⟩:∃m,s.length-p=m+1:=⟨s.length-p-1,o_⟩;rw[hm,mF,mF,c7 M3,c7 M3]
   match hd:bB s (p:Int)with
   | none=>rfl
   | some (x,z)=>have:=iC hd;dsimp only;rw[su (f:=f) (p:=p+z) o_,su (f:=m) (p:=p+z) o_]
  ·rw[mF,b8 o_,show s.length-p=0 by omega,mF,b8 o_]
theorem rX {s:List UInt8}{p:Nat}(M3:p<s.length):mF s (s.length-p) p=(match bB s (p:Int)with
  | some x=>(mF s (s.length-(p+x.2)) (p+x.2)).map (x.1::·)
  | none=>none):=by
 obtain⟨m,hm⟩:∃m,s.length-p=m+1:=⟨s.length-p-1,o_⟩;rw[hm,mF,c7 M3]
 match hd:bB s (p:Int)with
 | none=>rfl
 | some (x,z)=>have:=iC hd;dsimp only;rw[su (f:=m) (p:=p+z) o_]
theorem wg {s:List UInt8}{p:Nat}(Nk:s.length<=p):mF s (s.length-p) p=some []:=by rw[show s.length-p=0 by omega,mF,b8 o_]
abbrev Kx (s:List UInt8)(R:Option (List Mt)):={q:Nat×List Mt//q.1<=s.length/\q.2.length<=q.1/\(mF s (s.length-q.1) q.1).map (q.2++·)=R}
theorem V10{p:Prop}(h:p:=by
 rw[rX M3]at hr
 match hd:bB s (p:Int)with
 | none=>
  rw[hd]at hr hD;dsimp only[rOp,opX,opZ,Option.isSome]at hr hD;subst hr
  repeat' ((conv=>whnf);first|refine Or.inl ?_|apply oi|apply fi|intro h|refine ci hD (ai rfl (ai rfl trivial)) ?_|exact Y2|refine e_ rfl ?_)
 | some (x,z)=>
  rw[hd]at hr hD;have hz:=iC hd;dsimp only[rOp,opX,opZ,Option.isSome]at hr hD;repeat' ((conv=>whnf);first|refine Or.inl ?_|apply oi|apply fi|intro h|refine ci hD (ai rfl (ai rfl trivial)) ?_|exact Y2|refine e_ rfl ?_)
  all_goals try exact⟨⟨by simp only[e7,d5,i9];omega,by simp only[e7,d5,i9];omega⟩⟩
  conv=>whnf
  refine⟨⟨(p+z,acc++[x]),g_,by simp;omega,?_⟩,?_,KD⟩
  ·dsimp only;rw[<-hr,Option.map_map];congr 1;funext l;simp
  repeat' ((conv=>whnf);first|refine Or.inl ?_|apply oi|apply fi|intro h|exact Y1|refine e_ rfl ?_)
  all_goals first
   |(refine⟨congrArg (Tr.int _) ?_⟩;dsimp only;rw[c6 _ o_];omega)
   |(refine⟨?_⟩;dsimp only;rw[u5];rfl)):p:=h
theorem V116{p:Prop}(h:p:=by
 have Nk:s.length<=p:=o_;rw[wg Nk]at hr;simp only[x9,m7]at hr;subst hr
 exact Z3):p:=h
theorem oZ (s:List UInt8)(hs:s.length<=1048576):Sim.Spec prog 224 [tvS s] (.tup [.c (.arr 2 ((oL (fy s)).map Mt.tr)),.c (.t (.bool (fy s).isSome))]):=by
 refine ag hΓ aE func224 rfl d_ rfl ?_;have Rw:(mF s (s.length-0) 0).map (([]:List Mt)++·)=fy s:=by simp[fy]
 generalize fy s=R at Rw⊢;repeat' ((conv=>whnf);first|refine Or.inl ?_|apply oi|apply fi|intro h|exact Y1|refine e_ rfl ?_)
 conv=>whnf
 refine⟨Kx s R,fun q=>⟨[(0,tS s),(4,.r (.c (.own (9,0,0)))),(5,tI .i64 (q.1.1:Int))],[((9,0,0),some (.arr true 2 (q.1.2.map Mt.tr)))],[9]⟩,fun q=>s.length-q.1.1,⟨(0,[]),s_,s_,Rw⟩,?_,?_⟩
 ·exact Z1
 intro⟨⟨p,acc⟩,hp,NA,hr⟩;dsimp only at hp NA hr⊢;by_cases M3:p<s.length
 ·have hD:=tV s (p:Int) hs o_;exact V10
 ·exact V116
theorem pm (s:List UInt8)(hs:s.length<=1048576):Sim.Spec prog 199 [tvS s] (.tup [.c (.arr 2 ((oL (fy s)).map Mt.tr)),.c (.t (.bool (fy s).isSome))]):=by
 refine ag hΓ aE func199 rfl d_ rfl ?_;have Rw:(mF s (s.length-0) 0).map (([]:List Mt)++·)=fy s:=by simp[fy]
 generalize fy s=R at Rw⊢;repeat' ((conv=>whnf);first|refine Or.inl ?_|apply oi|apply fi|intro h|exact Y1|refine e_ rfl ?_)
 conv=>whnf
 refine⟨Kx s R,fun q=>⟨[(0,tS s),(4,.r (.c (.own (9,0,0)))),(5,tI .i64 (q.1.1:Int))],[((9,0,0),some (.arr true 2 (q.1.2.map Mt.tr)))],[9]⟩,fun q=>s.length-q.1.1,⟨(0,[]),s_,s_,Rw⟩,?_,?_⟩
 ·exact Z1
 intro⟨⟨p,acc⟩,hp,NA,hr⟩;dsimp only at hp NA hr⊢;by_cases M3:p<s.length
 ·have hD:=mj s (p:Int) hs o_;exact V10
 ·exact V116
def fG (seen:List My)(nm:List UInt8):Bool:=seen.any fun y=>y.L0==nm
def xg (len a:Nat)(x:My):Bool:=x.L8==(a:Int)&&(decide (1<=x.MO)&&(decide (x.MO<=(len:Int)-a)&&db x.L0))
def vn (code:List UInt8)(seen:List My)(a:Nat)(x:My):Bool:=xg code.length a x&&(!(fG seen x.L0)&&(fy ((code.take (a+x.MO.toNat)).drop a)).isSome)
def eS (code:List UInt8):List My->Nat->List My->Bool
 | _,a,[]=>a==code.length
 | seen,a,x::l=>vn code seen a x&&eS code (seen++[x]) (a+x.MO.toNat) l
def bu (i:Mn):Bool:=decide (i.J3.length<=1000000)&&eS i.J3 [] 0 i.ME
theorem Hy {code:List UInt8}{l:List My}{k a:Nat}{x:My}(hx:l[k]?=some x):eS code (l.take k) a (l.drop k)=(vn code (l.take k) a x&&eS code (l.take (k+1)) (a+x.MO.toNat) (l.drop (k+1))):=by rw[cJ hx,eS];obtain⟨hk,rfl⟩:=y0.1 hx;rw[z6 hk]
theorem xI {l:List My}{j:Nat}{y:My}{nm:List UInt8}(hy:l[j]?=some y):fG (l.take (j+1)) nm=(fG (l.take j) nm||y.L0==nm):=by obtain⟨hk,rfl⟩:=y0.1 hy;rw[z6 hk,fG,List.any_append];simp[fG]
theorem BB {l:List My}{j k:Nat}{y:My}(hy:l[j]?=some y)(h:j<k):fG (l.take k) y.L0=true:=by rw[fG,y9];refine⟨y,?_,s_⟩;rw[v7];exact⟨j,by rw[n3,c7 h];exact hy⟩
theorem imgPre_iff {len a:Nat}{x:My}:xg len a x=true↔x.L8=(a:Int)/\1<=x.MO/\x.MO<=(len:Int)-a/\db x.L0=true:=by unfold xg;rw[b9,b9,b9,w9,j6,j6]
abbrev Ky (code:List UInt8)(l:List My):={q:Nat×Nat//q.1<=l.length/\q.2<=code.length/\eS code (l.take q.1) q.2 (l.drop q.1)=eS code [] 0 l}
theorem V22{p:Prop}(h:p:=by
 rw[Qg]at hr hD;repeat' ((conv=>whnf);first|refine Or.inl ?_|apply oi|apply fi|intro h|refine ci hD (ai rfl trivial) ?_|exact Y1|refine e_ rfl ?_)
 all_goals try exact Q5
 conv=>whnf
 refine⟨⟨(j+1,a+z),g_,g_,by simpa using hr⟩,?_,KD⟩;repeat' ((conv=>whnf);first|refine Or.inl ?_|apply oi|apply fi|intro h|exact Y1|refine e_ rfl ?_)
 all_goals first
  | exact⟨by dsimp only;rw[Ow]⟩
  | exact⟨by dsimp only;rw[c6 _ o_];rfl⟩):p:=h
theorem Q8{p:Prop}(h:p:=by exfalso;first|(have h':=e8 h;rw[M0]at h';omega)|(simp at h;done)|(rw[p1]at h;simp at h;done)|(have h':=d9 h;(try rw[NT]at h');omega)):p:=h
theorem Q22{p:Prop}(h:p:=by exfalso;have h':=e8 h;rw[M0]at h';omega;first|done|fail):p:=h
theorem xa (i:Mn)(hs:az 1048576 i.tr):Sim.Spec prog 165 [.agg i.tr] (rB (bu i)):=by
 refine ag hΓ aE func165 rfl d_ rfl ?_;obtain⟨code,l⟩:=i;simp only[Mn.tr,az]at hs;have Np:code.length<=1048576:=by have:=hs.1;rw[ao]at this;omega
 have hl:=bi hs.2.1;have M0:(l.map My.tr).length=l.length:=s_;unfold bu;dsimp only;by_cases Vm:code.length<=1000000
 ·rw[show decide (code.length<=1000000)=true from q7 Vm,n7];repeat' ((conv=>whnf);first|refine Or.inl ?_|apply oi|apply fi|intro h|exact Y1|refine e_ rfl ?_)
  all_goals try(exfalso;have h':=d9 h;dsimp only at h';omega;done)
  conv=>whnf
  refine⟨Ky code l,fun q=>⟨[(1,.r (.c (.ptr (1,0,0) 0))),(3,tI .i64 (q.1.2:Int)),(15,.r (.c (.t (.lst 3 (l.map My.tr))))),(16,tI .i64 ((l.map My.tr).length:Int)),(17,tI .i64 (q.1.1:Int))],[((1,0,0),some (.box [.t (.str code),.t (.lst 3 (l.map My.tr))]))],[1]⟩,fun q=>l.length-q.1.1,⟨(0,0),s_,s_,s_⟩,?_,?_⟩
  ·exact Z1
  intro⟨⟨k,a⟩,hk,ha,hr⟩;dsimp only at hk ha hr⊢;by_cases M3:k<l.length
  ·obtain⟨x,hx⟩:=ae M3
   have QB:x.L0.length<=1099511627775:=by have:=aZ hs.2.1 (c9 hx);simp only[My.tr,az,ao]at this;omega
   have hN:=xv x.L0 QB;rw[Hy hx,vn]at hr;have NT:IntKind.i64.wrap ((code.length:Int)-a)=(code.length:Int)-a:=c6 _ o_
   cases NQ:xg code.length a x with
   | false=>
    rw[NQ,t6,t6]at hr;repeat' ((conv=>whnf);first|refine Or.inl ?_|apply oi|apply fi|intro h|refine⟨k,x.tr,rfl,ab hx,?_⟩|refine ci hN (ai rfl trivial) ?_|exact Y1|refine e_ rfl ?_)
    all_goals try exact Q22
    all_goals try exact⟨by rw[<-hr]⟩
    all_goals(exfalso;rw[<-Bool.not_eq_true,imgPre_iff]at NQ;apply NQ;rw[NT]at *;(simp_all)<;>omega)
   | true=>
    obtain⟨p1,p2,p3,p4⟩:=imgPre_iff.1 NQ;rw[p4]at hN;rw[NQ,n7]at hr;repeat' ((conv=>whnf);first|refine Or.inl ?_|apply oi|apply fi|intro h|refine⟨k,x.tr,rfl,ab hx,?_⟩|refine ci hN (ai rfl trivial) ?_|exact Y1|refine e_ rfl ?_)
    all_goals try exact Q8
    conv=>whnf
    refine⟨0,k,rfl,rfl,o_,by rw[M0];omega,?_⟩;repeat' ((conv=>whnf);first|refine Or.inl ?_|apply oi|apply fi|intro h|exact Y1|refine e_ rfl ?_)
    conv=>whnf
    have N7:(((l.map My.tr).take k).drop 0).length=k:=(by simp;omega);refine⟨{j:Nat//j<=k/\fG (l.take j) x.L0=false},fun j=>⟨[(1,.r (.c (.ptr (1,0,0) 0))),(3,tI .i64 (a:Int)),(5,.r (.c (.ptr (5,0,0) 0))),(15,.r (.c (.t (.lst 3 (l.map My.tr))))),(16,tI .i64 ((l.map My.tr).length:Int)),(17,tI .i64 (k:Int)),(50,.r (.c (.t (.lst 3 (((l.map My.tr).take k).drop 0))))),(51,tI .i64 ((((l.map My.tr).take k).drop 0).length:Int)),(52,tI .i64 (j.1:Int))],[((1,0,0),some (.box [.t (.str code),.t (.lst 3 (l.map My.tr))])),((5,0,0),some (.box [.t (.str x.L0),.t (.int .i64 x.L8),.t (.int .i64 x.MO)]))],[5,1]⟩,fun j=>k-j.1,⟨0,o_,rfl⟩,?_,?_⟩
    ·exact Z1
    intro⟨j,hj,SI⟩;dsimp only;by_cases OH:j<k
    ·obtain⟨y,hy⟩:=ae (l:=l) (k:=j) o_;have Uz:(((l.map My.tr).take k).drop 0)[j]?=some y.tr:=(by rw[C2,n3,c7 OH];exact ab hy);have Nw:=xI (nm:=x.L0) hy;rw[SI,C9]at Nw
     cases R9:(y.L0==x.L0)with
     | true=>
      have Rs:=BB hy OH;rw[w9.1 R9]at Rs;rw[Rs]at hr;repeat' ((conv=>whnf);first|refine Or.inl ?_|apply oi|apply fi|intro h|refine⟨j,y.tr,rfl,Uz,?_⟩|exact Y1|refine e_ rfl ?_)
      all_goals first
       |(exfalso;have h':=e8 h;rw[N7]at h';omega)
       | exact⟨by rw[<-hr];rfl⟩
       |(exfalso;rw[R9]at h;simp at h;done)
     | false=>
      rw[R9]at Nw;repeat' ((conv=>whnf);first|refine Or.inl ?_|apply oi|apply fi|intro h|refine⟨j,y.tr,rfl,Uz,?_⟩|exact Y1|refine e_ rfl ?_)
      all_goals try(exfalso;first|(have h':=e8 h;rw[N7]at h';omega)|(rw[R9]at h;simp at h;done))
      conv=>whnf
      refine⟨⟨j+1,o_,Nw⟩,?_,KD⟩;repeat' ((conv=>whnf);first|refine Or.inl ?_|apply oi|apply fi|intro h|exact Y1|refine e_ rfl ?_)
      all_goals exact Q4
    ·have SP:j=k:=o_;subst SP;obtain⟨z,hz⟩:=gt (show 0<=x.MO by omega);have Ow:IntKind.i64.wrap ((a:Int)+x.MO)=((a+z:Nat):Int):=(by rw[c6 _ o_,hz];rfl);rw[SI,hz,d6]at hr;have hD:=oZ ((code.take (a+z)).drop a) aab;repeat' ((conv=>whnf);first|refine Or.inl ?_|apply oi|apply fi|intro h|exact Y1|refine e_ rfl ?_)
     all_goals try(exfalso;have h':=d9 h;rw[N7]at h';omega)
     conv=>whnf
     refine⟨a,a+z,p1,Ow,o_,o_,?_⟩
     cases Qg:(fy ((code.take (a+z)).drop a)).isSome with
     | false=>
      rw[Qg]at hr hD;repeat' ((conv=>whnf);first|refine Or.inl ?_|apply oi|apply fi|intro h|refine ci hD (ai rfl trivial) ?_|exact Y1|refine e_ rfl ?_)
      all_goals first
       | exact⟨by rw[<-hr];rfl⟩
       |(exfalso;simp at h;done)
     | true=>exact V22
  ·have Nk:l.length<=k:=o_;rw[m9 Nk,eS]at hr;repeat' ((conv=>whnf);first|refine Or.inl ?_|apply oi|apply fi|intro h|exact Y2|refine e_ rfl ?_)
   exact⟨by rw[<-hr];congr 1;rw[A0,w9,w9];omega⟩
 ·rw[show decide (code.length<=1000000)=false from B6 Vm,t6];repeat' ((conv=>whnf);first|refine Or.inl ?_|apply oi|apply fi|intro h|exact Y1|refine e_ rfl ?_)
  all_goals(exfalso;have h':=e8 h;dsimp only at h';omega)
theorem xf (i:Mn)(hs:az 1048576 i.tr):Sim.Spec prog 134 [.agg i.tr] (rB (bu i)):=by
 refine ag hΓ aE func134 rfl d_ rfl ?_;obtain⟨code,l⟩:=i;simp only[Mn.tr,az]at hs;have Np:code.length<=1048576:=by have:=hs.1;rw[ao]at this;omega
 have hl:=bi hs.2.1;have M0:(l.map My.tr).length=l.length:=s_;unfold bu;dsimp only;repeat' ((conv=>whnf);first|refine Or.inl ?_|apply oi|apply fi|intro h|exact Y1|refine e_ rfl ?_)
 conv=>whnf
 refine⟨Ky code l,fun q=>⟨[(1,.r (.c (.ptr (1,0,0) 0))),(3,tI .i64 (q.1.2:Int)),(4,tI .i64 (q.1.1:Int))],[((1,0,0),some (.box [.t (.str code),.t (.lst 3 (l.map My.tr))]))],[1]⟩,fun q=>l.length-q.1.1,⟨(0,0),s_,s_,s_⟩,?_,?_⟩
 ·exact Z1
 intro⟨⟨k,a⟩,hk,ha,hr⟩;dsimp only at hk ha hr⊢;by_cases M3:k<l.length
 ·obtain⟨x,hx⟩:=ae M3
  have QB:x.L0.length<=1099511627775:=by have:=aZ hs.2.1 (c9 hx);simp only[My.tr,az,ao]at this;omega
  have hN:=fI x.L0 QB;rw[Hy hx,vn]at hr;have NT:IntKind.i64.wrap ((code.length:Int)-a)=(code.length:Int)-a:=c6 _ o_
  cases NQ:xg code.length a x with
  | false=>
   rw[NQ,t6,t6]at hr;repeat' ((conv=>whnf);first|refine Or.inl ?_|apply oi|apply fi|intro h|refine⟨k,x.tr,rfl,ab hx,?_⟩|refine ci hN (ai rfl trivial) ?_|exact Y1|refine e_ rfl ?_)
   all_goals try exact Q22
   all_goals try exact KX
   all_goals try exact⟨by rw[<-hr,D2]⟩
   all_goals(exfalso;rw[<-Bool.not_eq_true,imgPre_iff]at NQ;apply NQ;rw[NT]at *;(simp_all)<;>omega)
  | true=>
   obtain⟨p1,p2,p3,p4⟩:=imgPre_iff.1 NQ;rw[p4]at hN;rw[NQ,n7]at hr;repeat' ((conv=>whnf);first|refine Or.inl ?_|apply oi|apply fi|intro h|refine⟨k,x.tr,rfl,ab hx,?_⟩|refine ci hN (ai rfl trivial) ?_|exact Y2|refine e_ rfl ?_)
   all_goals try exact Q8
   conv=>whnf
   have N7:(((l.map My.tr).take k).drop 0).length=k:=(by simp;omega);refine⟨{j:Nat//j<=k/\fG (l.take j) x.L0=false},fun j=>⟨[(1,.r (.c (.ptr (1,0,0) 0))),(3,tI .i64 (a:Int)),(5,.r (.c (.ptr (5,0,0) 0))),(4,tI .i64 (k:Int)),(6,tI .i64 (j.1:Int))],[((1,0,0),some (.box [.t (.str code),.t (.lst 3 (l.map My.tr))])),((5,0,0),some (.box [.t (.str x.L0),.t (.int .i64 x.L8),.t (.int .i64 x.MO)]))],[5,1]⟩,fun j=>k-j.1,⟨0,o_,rfl⟩,?_,?_⟩
   ·exact Z1
   intro⟨j,hj,SI⟩;dsimp only;by_cases OH:j<k
   ·obtain⟨y,hy⟩:=ae (l:=l) (k:=j) o_;have Uz:(((l.map My.tr).take k).drop 0)[j]?=some y.tr:=(by rw[C2,n3,c7 OH];exact ab hy);have Nw:=xI (nm:=x.L0) hy;rw[SI,C9]at Nw
    cases R9:(y.L0==x.L0)with
    | true=>
     have Rs:=BB hy OH;rw[w9.1 R9]at Rs;rw[Rs]at hr;repeat' ((conv=>whnf);first|refine Or.inl ?_|apply oi|apply fi|intro h|refine⟨j,y.tr,rfl,ab hy,?_⟩|exact Y1|refine e_ rfl ?_)
     all_goals first
      |(exfalso;have h':=e8 h;omega)
      | exact⟨by rw[<-hr];simp⟩
      |(exfalso;rw[R9]at h;simp at h;done)
    | false=>
     rw[R9]at Nw;repeat' ((conv=>whnf);first|refine Or.inl ?_|apply oi|apply fi|intro h|refine⟨j,y.tr,rfl,ab hy,?_⟩|exact Y1|refine e_ rfl ?_)
     all_goals try(exfalso;first|(have h':=e8 h;omega)|(rw[R9]at h;simp at h;done))
     conv=>whnf
     refine⟨⟨j+1,o_,Nw⟩,?_,KD⟩;repeat' ((conv=>whnf);first|refine Or.inl ?_|apply oi|apply fi|intro h|exact Y1|refine e_ rfl ?_)
     all_goals exact Q4
   ·have SP:j=k:=o_;subst SP;obtain⟨z,hz⟩:=gt (show 0<=x.MO by omega);have Ow:IntKind.i64.wrap ((a:Int)+x.MO)=((a+z:Nat):Int):=(by rw[c6 _ o_,hz];rfl);rw[SI,hz,d6]at hr;have hD:=pm ((code.take (a+z)).drop a) aab;repeat' ((conv=>whnf);first|refine Or.inl ?_|apply oi|apply fi|intro h|exact Y1|refine e_ rfl ?_)
    all_goals try(exfalso;have h':=d9 h;omega)
    conv=>whnf
    refine⟨a,a+z,rfl,Ow,o_,o_,?_⟩
    cases Qg:(fy ((code.take (a+z)).drop a)).isSome with
    | false=>
     rw[Qg]at hr hD;repeat' ((conv=>whnf);first|refine Or.inl ?_|apply oi|apply fi|intro h|refine ci hD (ai rfl trivial) ?_|exact Y1|refine e_ rfl ?_)
     all_goals first
      | exact⟨by rw[<-hr];simp⟩
      |(exfalso;simp at h;done)
    | true=>exact V22
 ·have Nk:l.length<=k:=o_;rw[m9 Nk,eS]at hr;repeat' ((conv=>whnf);first|refine Or.inl ?_|apply oi|apply fi|intro h|exact Y2|refine e_ rfl ?_)
  ·have h9:a=code.length:=(by have:=B2 h;omega);refine⟨congrArg Tr.bool ?_⟩;rw[<-hr,h9,I7,Bool.and_true];exact decide_eq_decide.2 o_
  ·have h9:(a==code.length)=false:=(by rw[A2]at h⊢;omega);refine⟨congrArg Tr.bool ?_⟩;rw[<-hr,h9,D2]
theorem er {code:List UInt8}:∀{l:List My} {seen:List My} {a:Nat},eS code seen a l=true->a<=code.length->∀x∈l,(a:Int)<=x.L8/\1<=x.MO/\x.L8+x.MO<=code.length
 | [],_,_,_,_,x,hx=>by cases hx
 | y::l,seen,a,h,ha,x,hx=>by
  rw[eS,b9,vn,b9,imgPre_iff]at h;obtain⟨⟨⟨p1,p2,p3,_⟩,_⟩,h2⟩:=h;rcases d7.1 hx with rfl|hx
  ·omega
  ·have:=er h2 o_ x hx;omega
theorem V96{p:Prop}(h:p:=by
 unfold gi;rw[b9,b9,b9,within_iff,within_iff,j6,j6]
 omega):p:=h
theorem wC {code:List UInt8}:∀{l:List My} {seen:List My} {a j k:Nat} {x:My},eS code seen a l=true->a<=code.length->code.length<=1000000->l[k]?=some x->eU x.L8 l j=((j+k:Nat):Int)
 | [],_,_,_,_,_,_,_,_,hx=>by simp at hx
 | y::l,seen,a,j,k,x,h,ha,hc,hx=>by
  have ON:=er h ha;rw[eS,b9,vn,b9,imgPre_iff]at h;obtain⟨⟨⟨p1,p2,p3,_⟩,_⟩,h2⟩:=h;rw[eU]
  match k,hx with
  | 0,hx=>
   rw[f9]at hx;injection hx with hx;subst hx
   have hh:gi y.L8 y=true:=by exact V96
   rw[c7 hh]
   rfl
  | k+1,hx=>
   rw[l4]at hx;have h3:=er h2 o_ x (c9 hx)
   have hh:¬gi x.L8 y=true:=by exact V96
   rw[b8 hh,wC h2 o_ hc hx];congr 1;omega
def bC (i:Mn)(b e:Int):Bool:=i.ME.any fun x=>b+x.L8==e
def cM (i0 i1:Mn)(b0 b1 e:Int):Int×Int:=
 if b0<=e/\e<b0+i0.J3.length then(0,e-b0)else if b1<=e/\e<b1+i1.J3.length then(1,e-b1)else(-1,-1)
def nP (i:Mn)(off:Int):Bool:=decide (0<=eR i.ME off)&&(match i.ME[(eR i.ME off).toNat]? with|some x=>x.L8==off|none=>false)
theorem imageOk_iff {i:Mn}:bu i=true↔i.J3.length<=1000000/\eS i.J3 [] 0 i.ME=true:=by rw[bu,b9,j6]
theorem sY {i:Mn}(h:bu i=true){off:Int}:nP i off=true↔∃x∈i.ME,x.L8=off:=by
 obtain⟨hc,ho⟩:=imageOk_iff.1 h;unfold nP;constructor
 ·intro h1;rw[b9]at h1;split at h1
  ·rename_i x hx;exact⟨x,c9 hx,by simpa using h1.2⟩
  ·cases h1.2
 ·rintro⟨x,hx,rfl⟩;obtain⟨k,hk⟩:=v7.1 hx;have:=wC (j:=0) ho o_ hc hk;rw[u6]at this;rw[eR,this,d6,hk];simp
def Eg (i0 i1:Mn)(b0 b1 e:Int):Bool:=
 if(cM i0 i1 b0 b1 e).1=0 then nP i0 (cM i0 i1 b0 b1 e).2 else if(cM i0 i1 b0 b1 e).1=1 then nP i1 (cM i0 i1 b0 b1 e).2 else false
def cX (i0 i1:Mn)(b0 b1:Int):Bool:=decide (0<i0.J3.length)&&(decide (0<i1.J3.length)&&(decide (b0<b1+i1.J3.length)&&decide (b1<b0+i0.J3.length)))
theorem V117{p:Prop}(h:p:=by
 intro⟨a,b,c,d⟩;rw[cX,q7 a,q7 b,q7 c,q7 d]at ho
 cases ho):p:=h
theorem Dh {i0 i1:Mn}{b0 b1 e:Int}(h0:bu i0=true)(h1:bu i1=true)(ho:cX i0 i1 b0 b1=false):Eg i0 i1 b0 b1 e=(bC i0 b0 e||bC i1 b1 e):=by
 have Nm:¬(0<i0.J3.length/\0<i1.J3.length/\b0<b1+i1.J3.length/\b1<b0+i0.J3.length):=by exact V117
 have m0:=er (imageOk_iff.1 h0).2 o_;have m1:=er (imageOk_iff.1 h1).2 o_
 have e0:∀{i:Mn} {b:Int},bC i b e=true↔∃x∈i.ME,b+x.L8=e:=by intro i b;rw[bC,y9];simp only[w9]
 rw[A0,w5,e0,e0,Eg,cM];by_cases c0:b0<=e/\e<b0+i0.J3.length
 ·rw[c7 c0,c7 rfl,sY h0];constructor
  ·rintro⟨x,hx,h⟩;exact .inl ⟨x,hx,by dsimp only at h;omega⟩
  ·rintro(⟨x,hx,h⟩|⟨x,hx,h⟩)
   ·exact⟨x,hx,g_⟩
   ·have:=m1 x hx;exfalso;apply Nm;omega
 ·rw[b8 c0];by_cases c1:b1<=e/\e<b1+i1.J3.length
  ·rw[c7 c1,b8 s_,c7 rfl,sY h1];constructor
   ·rintro⟨x,hx,h⟩;exact .inr ⟨x,hx,by dsimp only at h;omega⟩
   ·rintro(⟨x,hx,h⟩|⟨x,hx,h⟩)
    ·have:=m0 x hx;exfalso;apply c0;omega
    ·exact⟨x,hx,g_⟩
  ·rw[b8 c1,b8 d_,b8 d_];constructor
   ·intro h;cases h
   ·rintro(⟨x,hx,h⟩|⟨x,hx,h⟩)
    ·have:=m0 x hx;exfalso;apply c0;omega
    ·have:=m1 x hx;exfalso;apply c1;omega
def eD (i0 i1:Mn)(b0 b1:Int)(es:List Int):Bool:=
 af es.length 1 6&&(bu i0&&(af b0 1 1000000&&(bu i1&&(af b1 1 1000000&&(!(cX i0 i1 b0 b1)&&es.all fun e=>bC i0 b0 e||bC i1 b1 e)))))
def bF (s:Mx):Bool:=match s.MT,s.MV with
 | [i0,i1],[b0,b1]=>eD i0 i1 b0 b1 s.MF
 | _,_=>false
abbrev th (i0 i1:Mn)(b0 b1:Int)(es:List Int):List AC:=[.t (.lst 2 [i0.tr,i1.tr]),.t (.lst 1 [aa b0,aa b1]),.t (.lst 1 (es.map aa))]
theorem Q17{p:Prop}(h:p:=by exfalso;have h':=e8 h;omega):p:=h
theorem uZ (i0 i1:Mn)(b0 b1 e:Int)(es:List Int)(h0:∀x∈i0.ME,0<=x.L8/\x.L8<=1000000)(h1:∀x∈i1.ME,0<=x.L8/\x.L8<=1000000)(Pu:0<=b0/\b0<=1000000)(NP:0<=b1/\b1<=1000000)(Up:i0.ME.length<=1048576)(RF:i1.ME.length<=1048576):Sim.Spec prog 166 [.agg (Mx.mk [i0,i1] [b0,b1] es).tr,tvI e] (rB (bC i0 b0 e||bC i1 b1 e)):=by
 refine ag hΓ aE func166 rfl d_ rfl ?_;repeat' ((conv=>whnf);first|refine Or.inl ?_|apply oi|apply fi|intro h|exact Y1|refine e_ rfl ?_)
 conv=>whnf
 refine⟨{k:Nat//k<=2/\(1<=k->bC i0 b0 e=false)/\(2<=k->bC i1 b1 e=false)},fun k=>⟨[(1,tI .i64 e),(2,.r (.c (.ptr (2,0,0) 0))),(10,.r (.c (.t (.lst 2 [i0.tr,i1.tr])))),(11,tI .i64 2),(12,tI .i64 (k.1:Int))],[((2,0,0),some (.box (th i0 i1 b0 b1 es)))],[2]⟩,fun k=>2-k.1,⟨0,o_,o_,o_⟩,?_,?_⟩
 ·exact Z1
 intro⟨k,hk,hk1,Ni⟩;dsimp only;by_cases M3:k<2
 ·obtain⟨i,b,hi,hb,Nw,OL,OS,Pj,Nm⟩:∃(i:Mn) (b:Int),([i0.tr,i1.tr]:List (List Tr))[k]?=some i.tr/\([aa b0,aa b1]:List (List Tr))[k]?=some (aa b)/\(∀x∈i.ME,0<=x.L8/\x.L8<=1000000)/\(0<=b/\b<=1000000)/\i.ME.length<=1048576/\
    (bC i b e=true->(bC i0 b0 e||bC i1 b1 e)=true)/\(bC i b e=false->(1<=k+1->bC i0 b0 e=false)/\(2<=k+1->bC i1 b1 e=false)):=by
   have:k=0\/k=1:=o_;rcases this with rfl|rfl
   ·exact⟨i0,b0,rfl,rfl,h0,Pu,Up,fun h=>by rw[h];rfl,fun h=>⟨fun _=>h,fun h2=>o_⟩⟩
   ·exact⟨i1,b1,rfl,rfl,h1,NP,RF,fun h=>by rw[h];simp,fun h=>⟨fun _=>hk1 o_,fun _=>h⟩⟩
  have M0:(i.ME.map My.tr).length=i.ME.length:=s_;repeat' ((conv=>whnf);first|refine Or.inl ?_|apply oi|apply fi|intro h|refine⟨k,i.tr,rfl,hi,?_⟩|exact Y1|refine e_ rfl ?_)
  all_goals try exact Q17
  conv=>whnf
  refine⟨{j:Nat//j<=i.ME.length/\((i.ME.take j).any fun x=>b+x.L8==e)=false},fun j=>⟨[(1,tI .i64 e),(2,.r (.c (.ptr (2,0,0) 0))),(5,tI .i64 (k:Int)),(10,.r (.c (.t (.lst 2 [i0.tr,i1.tr])))),(11,tI .i64 2),(12,tI .i64 (k:Int)),(18,.r (.c (.t (.lst 3 (i.ME.map My.tr))))),(19,tI .i64 ((i.ME.map My.tr).length:Int)),(20,tI .i64 (j.1:Int))],[((2,0,0),some (.box (th i0 i1 b0 b1 es)))],[2]⟩,fun j=>i.ME.length-j.1,⟨0,o_,rfl⟩,?_,?_⟩
  ·exact Z1
  intro⟨j,hj,hr⟩;dsimp only;by_cases Ol:j<i.ME.length
  ·obtain⟨x,hx⟩:=ae Ol;have XU:=c9 hx;have hxs:=Nw x XU;have NT:IntKind.i64.wrap (b+x.L8)=b+x.L8:=c6 _ o_
   have NO:((i.ME.take (j+1)).any fun x=>b+x.L8==e)=(b+x.L8==e):=by obtain⟨PR,rfl⟩:=y0.1 hx;rw[z6 PR,List.any_append,hr,C9];simp
   cases PA:(b+x.L8==e)with
   | true=>
    have ON:=Pj (by rw[bC,y9];exact⟨x,XU,PA⟩);repeat' ((conv=>whnf);first|refine Or.inl ?_|apply oi|apply fi|intro h|refine⟨j,x.tr,rfl,ab hx,?_⟩|refine⟨k,aa b,rfl,hb,?_⟩|exact Y1|refine e_ rfl ?_)
    all_goals first
     |(exfalso;have h':=e8 h;rw[M0]at h';omega)
     | exact⟨by rw[ON]⟩
     |(exfalso;rw[NT,PA]at h;simp at h;done)
   | false=>
    rw[PA]at NO;repeat' ((conv=>whnf);first|refine Or.inl ?_|apply oi|apply fi|intro h|refine⟨j,x.tr,rfl,ab hx,?_⟩|refine⟨k,aa b,rfl,hb,?_⟩|exact Y1|refine e_ rfl ?_)
    all_goals try(exfalso;first|(have h':=e8 h;rw[M0]at h';omega)|(rw[NT,PA]at h;simp at h;done))
    conv=>whnf
    refine⟨⟨j+1,o_,NO⟩,?_,KD⟩;repeat' ((conv=>whnf);first|refine Or.inl ?_|apply oi|apply fi|intro h|exact Y1|refine e_ rfl ?_)
    all_goals exact Q4
  ·have Yo:i.ME.length<=j:=o_;rw[i7 Yo]at hr;have Vo:=Nm hr;repeat' ((conv=>whnf);first|refine Or.inl ?_|apply oi|apply fi|intro h|exact Y1|refine e_ rfl ?_)
   all_goals try(exfalso;have h':=d9 h;rw[M0]at h';omega)
   conv=>whnf
   refine⟨⟨k+1,o_,Vo⟩,?_,KD⟩;repeat' ((conv=>whnf);first|refine Or.inl ?_|apply oi|apply fi|intro h|exact Y1|refine e_ rfl ?_)
   all_goals exact Q4
 ·have PN:k=2:=o_;subst PN;repeat' ((conv=>whnf);first|refine Or.inl ?_|apply oi|apply fi|intro h|exact Y1|refine e_ rfl ?_)
  all_goals exact⟨by rw[hk1 o_,Ni o_];rfl⟩
theorem V60{p:Prop}(h:p:=by
 rw[hw]at hE;repeat' ((conv=>whnf);first|refine Or.inl ?_|apply oi|apply fi|intro h|refine ci hE (ai KW (ai rfl (ai rfl trivial))) ?_|exact Y1|refine e_ rfl ?_)
 all_goals(exfalso;simp at h;done)):p:=h
theorem V36{p:Prop}(h:p:=by
 have:k=0\/k=1:=o_;rcases this with rfl|rfl
 ·exact⟨i0,b0,rfl,rfl,SE,fun h=>by rw[<-hR,h];rfl,fun h=>by rw[<-hR,h];simp,fun h h'=>⟨fun _=>⟨h,h'⟩,fun h2=>o_⟩⟩
 ·exact⟨i1,b1,rfl,rfl,Qa,fun h=>by rw[<-hR,h];simp,fun h=>by rw[<-hR,h];simp,fun h h'=>⟨fun _=>hk1 o_,fun _=>⟨h,h'⟩⟩⟩):p:=h
theorem V6{p:Prop}(h:p:=by
 cases RB:bu i with
 | false=>
  rw[RB]at hI;rw[Rq RB];repeat' ((conv=>whnf);first|refine Or.inl ?_|apply oi|apply fi|intro h|refine⟨k,i.tr,rfl,hi,?_⟩|refine ci hI (ai (ai rfl (ai rfl trivial)) trivial) ?_|exact Y1|refine e_ rfl ?_)
  all_goals(exfalso;first|(have h':=e8 h;omega)|(simp at h;done))
 | true=>
  rw[RB]at hI
  cases Vw:af b 1 1000000 with
  | false=>
   rw[Vw]at hB;rw[Qf Vw];repeat' ((conv=>whnf);first|refine Or.inl ?_|apply oi|apply fi|intro h|refine⟨k,i.tr,rfl,hi,?_⟩|refine⟨k,aa b,rfl,hb,?_⟩|refine ci hI (ai (ai rfl (ai rfl trivial)) trivial) ?_|refine ci hB (ai rfl (ai rfl (ai rfl trivial))) ?_|exact Y1|refine e_ rfl ?_)
   all_goals(exfalso;first|(have h':=e8 h;omega)|(simp at h;done))
  | true=>
   rw[Vw]at hB;repeat' ((conv=>whnf);first|refine Or.inl ?_|apply oi|apply fi|intro h|refine⟨k,i.tr,rfl,hi,?_⟩|refine⟨k,aa b,rfl,hb,?_⟩|refine ci hI (ai (ai rfl (ai rfl trivial)) trivial) ?_|refine ci hB (ai rfl (ai rfl (ai rfl trivial))) ?_|exact Y1|refine e_ rfl ?_)
   all_goals try(exfalso;first|(have h':=e8 h;omega)|(simp at h;done))
   conv=>whnf
   refine⟨⟨k+1,o_,Pj RB Vw⟩,?_,KD⟩;repeat' ((conv=>whnf);first|refine Or.inl ?_|apply oi|apply fi|intro h|exact Y1|refine e_ rfl ?_)
   all_goals exact⟨by dsimp only;rw[c6 _ o_];rfl⟩):p:=h
theorem V20{p:Prop}(h:p:=by
 rw[ho]at hR;rw[cX,b9,b9,b9,j6,j6,j6,j6]at ho;obtain⟨o1,o2,o3,o4⟩:=ho;subst hR;repeat' ((conv=>whnf);first|refine Or.inl ?_|apply oi|apply fi|intro h|refine⟨0,_,rfl,rfl,?_⟩|refine⟨1,_,rfl,rfl,?_⟩|exact Y1|refine e_ rfl ?_)
 all_goals(exfalso;first|(have h':=e8 h;(try rw[x0]at h');(try rw[x1]at h');omega)|(have h':=d9 h;omega))):p:=h
theorem ui (i0 i1:Mn)(b0 b1:Int)(es:List Int)(hs:az 1048576 (Mx.mk [i0,i1] [b0,b1] es).tr):Sim.Spec prog 89 [.agg (Mx.mk [i0,i1] [b0,b1] es).tr] (rB (eD i0 i1 b0 b1 es)):=by
 refine ag hΓ aE func89 rfl d_ rfl ?_;have M0:(es.map aa).length=es.length:=s_;have hE:=aW es.length 1 6;unfold eD
 cases hw:af es.length 1 6 with
 | false=>exact V60
 | true=>
  rw[hw]at hE;repeat' ((conv=>whnf);first|refine Or.inl ?_|apply oi|apply fi|intro h|refine ci hE (ai KW (ai rfl (ai rfl trivial))) ?_|exact Y1|refine e_ rfl ?_)
  all_goals try exact Q5
  have NY:=hs;simp only[Mx.tr,az]at NY;have Uj:=NY.1;have SE:az 1048576 i0.tr:=aZ Uj s_;have Qa:az 1048576 i1.tr:=aZ Uj s_;have Po:i0.J3.length<=1048576:=by have:=SE;simp only[Mn.tr,az,ao]at this;omega
  have OD:i1.J3.length<=1048576:=by have:=Qa;simp only[Mn.tr,az,ao]at this;omega
  have S4:i0.ME.length<=1048576:=by have:=SE;simp only[Mn.tr,az]at this;exact bi this.2.1
  have S7:i1.ME.length<=1048576:=by have:=Qa;simp only[Mn.tr,az]at this;exact bi this.2.1
  have NC:es.length<=1048576:=bi NY.2.2.1;rw[n7];generalize hR:(bu i0&&(af b0 1 1000000&&(bu i1&&(af b1 1 1000000&&(!(cX i0 i1 b0 b1)&&es.all fun e=>bC i0 b0 e||bC i1 b1 e)))))=R;conv=>whnf
  refine⟨{k:Nat//k<=2/\(1<=k->bu i0=true/\af b0 1 1000000=true)/\(2<=k->bu i1=true/\af b1 1 1000000=true)},fun k=>⟨[(1,.r (.c (.ptr (1,0,0) 0))),(27,tI .i64 2),(28,tI .i64 (k.1:Int))],[((1,0,0),some (.box (th i0 i1 b0 b1 es)))],[1]⟩,fun k=>2-k.1,⟨0,o_,o_,o_⟩,?_,?_⟩
  ·exact Z1
  intro⟨k,hk,hk1,Ni⟩;dsimp only;by_cases M3:k<2
  ·obtain⟨i,b,hi,hb,XA,Rq,Qf,Pj⟩:∃(i:Mn) (b:Int),([i0.tr,i1.tr]:List (List Tr))[k]?=some i.tr/\([aa b0,aa b1]:List (List Tr))[k]?=some (aa b)/\az 1048576 i.tr/\
     (bu i=false->R=false)/\(af b 1 1000000=false->R=false)/\(bu i=true->af b 1 1000000=true->(1<=k+1->bu i0=true/\af b0 1 1000000=true)/\(2<=k+1->bu i1=true/\af b1 1 1000000=true)):=by
    exact V36
   have hI:=xa i XA;have hB:=aW b 1 1000000;exact V6
  ·have PN:k=2:=o_;subst PN;obtain⟨g0,w0⟩:=hk1 o_;obtain⟨g1,w1⟩:=Ni o_;have v0:=within_iff.1 w0;have v1:=within_iff.1 w1;rw[g0,g1,w0,w1,n7,n7,n7,n7]at hR;have x0:IntKind.i64.wrap (b1+(i1.J3.length:Int))=b1+i1.J3.length:=c6 _ o_;have x1:IntKind.i64.wrap (b0+(i0.J3.length:Int))=b0+i0.J3.length:=c6 _ o_
   cases ho:cX i0 i1 b0 b1 with
   | true=>exact V20
   | false=>
    rw[ho,F5,n7]at hR
    have Nm:¬(0<i0.J3.length/\0<i1.J3.length/\b0<b1+i1.J3.length/\b1<b0+i0.J3.length):=by exact V117
    have m0:=er (imageOk_iff.1 g0).2 o_;have m1:=er (imageOk_iff.1 g1).2 o_;have l0:=(imageOk_iff.1 g0).1;have l1:=(imageOk_iff.1 g1).1;repeat' ((conv=>whnf);first|refine Or.inl ?_|apply oi|apply fi|intro h|refine⟨0,_,rfl,rfl,?_⟩|refine⟨1,_,rfl,rfl,?_⟩|exact Y1|refine e_ rfl ?_)
    all_goals try(
     exfalso;rename_i a1 a2 a3;have c1:=d9 a1;have c2:=d9 a2;have c3:=d9 a3;have c4:=d9 h;rw[x0]at c3;rw[x1]at c4
     exact Nm ⟨o_,o_,c3,c4⟩)
    all_goals(
     conv=>whnf
     refine⟨{j:Nat//j<=es.length/\((es.drop j).all fun e=>bC i0 b0 e||bC i1 b1 e)=R},fun j=>⟨[(1,.r (.c (.ptr (1,0,0) 0))),(93,.r (.c (.t (.lst 1 (es.map aa))))),(94,tI .i64 ((es.map aa).length:Int)),(95,tI .i64 (j.1:Int))],[((1,0,0),some (.box (th i0 i1 b0 b1 es)))],[1]⟩,fun j=>es.length-j.1,⟨0,o_,hR⟩,?_,?_⟩
     ·exact Z1
     intro⟨j,hj,hr⟩;dsimp only;by_cases Ol:j<es.length
     ·obtain⟨e,he⟩:=ae Ol;have SX:=uZ i0 i1 b0 b1 e es (fun x hx=>by have:=m0 x hx;omega) (fun x hx=>by have:=m1 x hx;omega) o_ o_ S4 S7;rw[cJ he,E9]at hr
      cases Oi:(bC i0 b0 e||bC i1 b1 e)with
      | false=>
       rw[Oi]at SX hr;rw[t6]at hr;subst hr;repeat' ((conv=>whnf);first|refine Or.inl ?_|apply oi|apply fi|intro h|refine⟨j,aa e,rfl,ab he,?_⟩|refine ci SX (ai (ai rfl (ai rfl (ai rfl trivial))) (ai rfl trivial)) ?_|exact Y1|refine e_ rfl ?_)
       all_goals(exfalso;first|(have h':=e8 h;rw[M0]at h';omega)|(simp at h;done))
      | true=>
       rw[Oi]at SX hr;rw[n7]at hr;repeat' ((conv=>whnf);first|refine Or.inl ?_|apply oi|apply fi|intro h|refine⟨j,aa e,rfl,ab he,?_⟩|refine ci SX (ai (ai rfl (ai rfl (ai rfl trivial))) (ai rfl trivial)) ?_|exact Y1|refine e_ rfl ?_)
       all_goals try(exfalso;first|(have h':=e8 h;rw[M0]at h';omega)|(simp at h;done))
       conv=>whnf
       refine⟨⟨j+1,o_,hr⟩,?_,KD⟩;repeat' ((conv=>whnf);first|refine Or.inl ?_|apply oi|apply fi|intro h|exact Y1|refine e_ rfl ?_)
       all_goals exact Q4
     ·have Nk:es.length<=j:=o_;rw[m9 Nk,List.all_nil]at hr;subst hr;repeat' ((conv=>whnf);first|refine Or.inl ?_|apply oi|apply fi|intro h|exact Y1|refine e_ rfl ?_)
      all_goals(exfalso;have h':=d9 h;rw[M0]at h';omega))
theorem zV (a:Int)(k:Nat):((kH a k).toNat:Int)=(a/(2^(8*k)))%256:=by unfold kH;rw[E5 _ (Int.pow_nonneg d_)];generalize a/2^(8*k)=z;have h1:=Int.emod_nonneg z (show(256:Int)≠0 by decide);have h2:=Int.emod_lt_of_pos z (show(0:Int)<256 by decide);simp;omega
theorem wH (pre rest:List UInt8)(c:UInt8)(k:Nat)(m:List UInt8)(h:m[k]?=some c):cF (pre++m++rest) (pre.length+k)=c.toNat:=by have hk:=aI h;unfold cF;rw[j9,m6 o_,D5,j7 hk,h]
theorem DB {a:Int}{n k:Nat}(h:k<n):(iZ a n)[k]?=some (kH a k):=by unfold iZ;rw[p6,List.getElem?_range h];rfl
theorem IL {c a:Int}(h:dz c a=true){s:List UInt8}{p:Nat}(hb:∀k,k<(ba c).1.toNat->cF s (p+k)=(kH a k).toNat):jV c (aX s p (ba c).1.toNat)=a:=by
 unfold dz at h;rw[b9,within_iff,within_iff]at h;obtain⟨_,ha⟩:=h;have hd:∀k,k<(ba c).1.toNat->(cF s (p+k):Int)=(a/(2^(8*k)))%256:=fun k hk=>by rw[hb k hk,zV]
 have b0:0<(ba c).1.toNat->((aX s p 1:Nat):Int)=a%256:=fun h=>by
  have d0:=hd 0 h;rw[show(2:Int)^(8*0)=1 from rfl]at d0;simp only[aX,Nat.pow_zero,Nat.mul_one,u6];omega
 have b1:1<(ba c).1.toNat->((aX s p 2:Nat):Int)=a%65536:=fun h=>by
  have d0:=b0 o_;have d1:=hd 1 h;rw[show(2:Int)^(8*1)=256 from rfl]at d1;rw[aX,show(256:Nat)^1=256 from rfl];omega
 have b2:2<(ba c).1.toNat->((aX s p 3:Nat):Int)=a%16777216:=fun h=>by
  have d0:=b1 o_;have d1:=hd 2 h;rw[show(2:Int)^(8*2)=65536 from rfl]at d1;rw[aX,show(256:Nat)^2=65536 from rfl];omega
 have b3:3<(ba c).1.toNat->((aX s p 4:Nat):Int)=a%4294967296:=fun h=>by
  have d0:=b2 o_;have d1:=hd 3 h;rw[show(2:Int)^(8*3)=16777216 from rfl]at d1;rw[aX,show(256:Nat)^3=16777216 from rfl];omega
 unfold jV;rcases AJ c with⟨e1,e2⟩|⟨e1,e2⟩|⟨e1,e2⟩|⟨e1,e2⟩|⟨e1,e2⟩
 ·rw[e1]at b3⊢;rw[e2]at ha;have b3:=b3 d_;have ha:-2147483648<=a/\a<=2147483647:=ha;show(if(true:Bool)=true/\(2147483648:Nat)<=aX s p 4 then((aX s p 4:Nat):Int)-((4294967296:Nat):Int)else((aX s p 4:Nat):Int))=a;split
  ·rename_i hc;have:=hc.2;omega
  ·rename_i hc;have:¬(2147483648<=aX s p 4):=fun h=>hc ⟨rfl,h⟩;omega
 ·rw[e1]at b1⊢;rw[e2]at ha;have b1:=b1 d_;have ha:-32768<=a/\a<=32767:=ha;show(if(true:Bool)=true/\(32768:Nat)<=aX s p 2 then((aX s p 2:Nat):Int)-((65536:Nat):Int)else((aX s p 2:Nat):Int))=a;split
  ·rename_i hc;have:=hc.2;omega
  ·rename_i hc;have:¬(32768<=aX s p 2):=fun h=>hc ⟨rfl,h⟩;omega
 ·rw[e1]at b1⊢;rw[e2]at ha;have b1:=b1 d_;have ha:0<=a/\a<=65535:=ha;rw[b8 s_];show((aX s p 2:Nat):Int)=a;omega
 ·rw[e1]at b0⊢;rw[e2]at ha;have b0:=b0 d_;have ha:0<=a/\a<=255:=ha;rw[b8 s_];show((aX s p 1:Nat):Int)=a;omega
 ·rw[e1];rw[e2]at ha;have ha:0<=a/\a<=0:=ha;rw[b8 s_];show((0:Nat):Int)=a;omega
theorem tD {x:Mt}(h:dz x.J3 x.K9=true):bk x=UInt8.ofNat x.J3.toNat::iZ x.K9 (ba x.J3).1.toNat:=by rw[bk,c7 h]
theorem xG {x:Mt}(h:dz x.J3 x.K9=true)(pre rest:List UInt8):bB (pre++bk x++rest) (pre.length:Int)=some (x,(aH x.J3).toNat):=by
 have hc:0<=x.J3/\x.J3<=17:=by unfold dz at h;rw[b9,within_iff,within_iff]at h;exact h.1
 have M0:=ew h;have Nu:=dR x.J3;have hz:aH x.J3=(ba x.J3).1+1:=by rw[aH,c7 (within_iff.2 hc)]
 have Pu:((cF (pre++bk x++rest) pre.length:Nat):Int)=x.J3:=by have:=wH pre rest (UInt8.ofNat x.J3.toNat) 0 (bk x) (by rw[tD h];rfl);rw[y6]at this;rw[this];simp;omega
 have Xi:∀k,k<(ba x.J3).1.toNat->cF (pre++bk x++rest) (pre.length+1+k)=(kH x.K9 k).toNat:=fun k hk=>by
  have:=wH pre rest (kH x.K9 k) (k+1) (bk x) (by rw[tD h,l4];exact DB hk);rw[show pre.length+1+k=pre.length+(k+1) by omega];exact this
 have ZT:=IL h Xi;have OC:(pre++bk x++rest).length=pre.length+(bk x).length+rest.length:=by simp;omega
 generalize pre++bk x++rest=s at *
 rw[bB,c7 ⟨o_,o_⟩,d6,Pu,b8 o_,ZT]
theorem tw {l:List Mu}(h:∀y∈l,dz y.L7.J7.J3 y.L7.J7.K9=true){k:Nat}{y:Mu}(hy:l[k]?=some y)(pre rest:List UInt8):bB (pre++ak l++rest) (((pre++ak (l.take k)).length:Nat):Int)=some (y.L7.J7,(aH y.L7.J7.J3).toNat):=by
 have e:l=l.take k++(y::l.drop (k+1)):=by rw[<-cJ hy,z4]
 have e2:ak l=ak (l.take k)++(bk y.L7.J7++ak (l.drop (k+1))):=by
  conv=>lhs;rw[e]
  rw[aK,show y::l.drop (k+1)=[y]++l.drop (k+1) from rfl,aK,eb]
 have:=xG (h y (c9 hy)) (pre++ak (l.take k)) (ak (l.drop (k+1))++rest);rw[e2];simpa [j9]using this
theorem tq:∀{l:List Mu} (pre:List UInt8),(∀y∈l,dz y.L7.J7.J3 y.L7.J7.K9=true)->mF (pre++ak l) ((pre++ak l).length-pre.length) pre.length=some (l.map fun y=>y.L7.J7)
 | [],pre,_=>by
  rw[show ak []=[] from rfl,m7]
  exact wg (d8 _)
 | y::l,pre,h=>by
  have hy:=h y s_;have M0:=ew hy;have Nu:=dR y.L7.J7.J3
  have hc:af y.L7.J7.J3 0 17=true:=by unfold dz at hy;rw[b9]at hy;exact hy.1
  have hz:aH y.L7.J7.J3=(ba y.L7.J7.J3).1+1:=by rw[aH,c7 hc]
  have e:ak (y::l)=bk y.L7.J7++ak l:=by rw[show y::l=[y]++l from rfl,aK,eb]
  have ih:=tq (l:=l) (pre++bk y.L7.J7) (fun z hz=>h z (by simp[hz]));have hd:=xG hy pre (ak l);rw[j9]at hd ih;have OQ:(pre++(bk y.L7.J7++ak l)).length=pre.length+(bk y.L7.J7).length+(ak l).length:=by simp;omega
  have WG:(pre++bk y.L7.J7).length=pre.length+(aH y.L7.J7.J3).toNat:=by rw[c8];omega
  rw[e,rX o_,hd];dsimp only;rw[WG]at ih;rw[ih];rfl
theorem Bi {l:List Mu}(h:∀y∈l,dz y.L7.J7.J3 y.L7.J7.K9=true):(fy (ak l)).isSome=true:=by
 have:=tq [] h;rw[t7]at this
 have e:fy (ak l)=some (l.map fun y=>y.L7.J7):=by unfold fy;simpa using this
 rw[e];rfl
theorem ql:∀(l:List Mq) (i:Nat),(funsF l i).Pairwise (·<·)
 | [],_=>by rw[funsF];exact List.Pairwise.nil
 | x::l,i=>by
  have ih:=ql l (i+1);rw[funsF];split
  ·refine List.pairwise_append.2 ⟨List.pairwise_singleton _ _,ih,fun a ha b hb=>?_⟩;rw[t8]at ha;have:=(vk hb).1;omega
  ·rw[t7];exact ih
theorem Hn {p:List Mq}{f g k:Nat}(hf:(aA p)[f]?=some k)(hg:(aA p)[g]?=some k):f=g:=by
 have hs:=List.pairwise_iff_getElem.1 (ql p 0);obtain⟨h1,e1⟩:=y0.1 hf;obtain⟨h2,e2⟩:=y0.1 hg;rcases B4 f g with h|h|h
 ·have:=hs f g h1 h2 h;change(aA p)[f]<(aA p)[g]at this;rw[e1,e2]at this;omega
 ·exact h
 ·have:=hs g f h2 h1 h;change(aA p)[g]<(aA p)[f]at this;rw[e1,e2]at this;omega
theorem qJ {p:List Mq}(h:aj p=true){f k:Nat}(hf:(aA p)[f]?=some k):∃y,p[k]?=some y/\y.J5=0/\bK p f=y.L0/\db y.L0=true/\findN p 0 y.L0=some k:=by
 unfold aj at h;simp only[b9,j6]at h;obtain⟨_,_,h3,_,h5,_⟩:=h;obtain⟨_,y,hy,h0⟩:=nU (c9 hf);have hl:=o8.1 h3 y (c9 hy);have hn:=o8.1 h5 k (c9 hf);refine⟨y,hy,h0,by rw[bK,hf];dsimp only;rw[hy],?_,?_⟩
 ·unfold dh at hl;simp only[b9]at hl;have:=hl.2.1;rwa [c7 (.inl h0)]at this
 ·unfold nameFirst at hn;rw[hy]at hn;exact B2 hn
theorem BE {p:List Mq}(h:aj p=true){f g:Nat}(hf:f<(aA p).length)(hg:g<(aA p).length)(he:bK p f=bK p g):f=g:=by obtain⟨k,hk⟩:=ae hf;obtain⟨j,hj⟩:=ae hg;obtain⟨_,_,_,e1,_,f1⟩:=qJ h hk;obtain⟨_,_,_,e2,_,f2⟩:=qJ h hj;rw[e1,e2]at he;rw[he,f2]at f1;injection f1 with f1;subst f1;exact Hn hk hj
theorem wt {p:List Mq}:∀(L:List (Nat×List Mu)) (pre post:List UInt8) (seen:List My),
  (∀x∈L,0<(ak x.2).length/\(∀y∈x.2,dz y.L7.J7.J3 y.L7.J7.K9=true)/\db (bK p x.1)=true)->L.Pairwise (fun x y=>bK p x.1≠bK p y.1)->(∀x∈L,∀y∈seen,y.L0≠bK p x.1)->post=[]->
  eS (pre++ak (ay L)++post) seen pre.length (cu p pre.length L)=true
 | [],pre,post,seen,_,_,_,hp=>by subst hp;simp[cu,eS,ay,ak]
 |(f,l)::L,pre,post,seen,h1,h2,h3,hp=>by
  subst hp;obtain⟨q1,q2,q3⟩:=h1 (f,l) s_;dsimp only at q1 q2 q3;have e:ak (ay ((f,l)::L))=ak l++ak (ay L):=by rw[show ay ((f,l)::L)=l++ay L by simp[ay],aK]
  rw[H9]at h2;rw[e,m7,cu,eS,b9];constructor
  ·unfold vn;rw[b9,b9];refine⟨imgPre_iff.2 ⟨rfl,g_,by dsimp only;simp;omega,q3⟩,?_,?_⟩
   ·rw[v2,fG,F8];intro y hy;have:=h3 (f,l) s_ y hy;simpa using this
   ·dsimp only;rw[d6]
    have e2:((pre++(ak l++ak (ay L))).take (pre.length+(ak l).length)).drop pre.length=ak l:=by rw[<-j9,List.take_left' s_,List.drop_left]
    rw[e2];exact Bi q2
  ·dsimp only;rw[d6]
   have ih:=wt L (pre++ak l) [] (seen++[⟨bK p f,(pre.length:Int),((ak l).length:Int)⟩]) (fun x hx=>h1 x aap) h2.2 (fun x hx y hy=>by
    rcases f0.1 hy with hy|hy
    ·exact h3 x aap y hy
    ·rw[t8]at hy;subst hy
     exact h2.1 x hx) rfl
   rw[m7,c8,j9]at ih;simpa using ih
theorem kb {p:List Mq}{b:Mi}{image:Int}:∀(n f:Nat) (at0:Int),(cj p b image n f at0).Pairwise (fun x y=>x.1<y.1)
 | 0,_,_=>by rw[cj];exact List.Pairwise.nil
 | n+1,f,at0=>by
  rw[nZ];split
  ·refine H9.2 ⟨fun y hy=>?_,kb n _ _⟩;have:=(mY hy).1;dsimp only;omega
  ·exact kb n _ _
theorem dZ {p:List Mq}{b:Mi}(hs:ao 1048576 (.lst 4 (p.map Mq.tr)))(h1:aj p=true)(h2:aS b=true){image:Int}(h3:af image 0 1=true):bu (ah p b image)=true/\(ah p b image).J3.length<=75000:=by
 rw[ah,c7 ⟨h1,h2,h3⟩];obtain⟨h6,_⟩:=iH h1;have OS:=iO p b image (aA p).length 0 0;have QM:=fun x (hx:x∈cj p b image (aA p).length 0 0)=>(iG hs hx).1;have Xd:=fun x (hx:x∈cj p b image (aA p).length 0 0)=>(mY hx).2;have OI:=kb (p:=p) (b:=b) (image:=image) (aA p).length 0 0
 have OA:∀x∈cj p b image (aA p).length 0 0,0<x.2.length/\∀y∈x.2,dz y.L7.J7.J3 y.L7.J7.K9=true:=fun x hx=>by
  obtain⟨i,hi⟩:=v7.1 hx;have hl:=(kl hs h1 h2 o_ hi).2.2
  have ho:∀y∈x.2,dz y.L7.J7.J3 y.L7.J7.K9=true:=fun y hy=>by
   obtain⟨j,hj⟩:=v7.1 hy;exact(fV hs h1 h2 hi hj).1.op
  exact⟨hl,ho⟩
 generalize cj p b image (aA p).length 0 0=L at *
 have NA:=kV QM (d8 L.length);rw[i7 (d8 _)]at NA;have N8:=A9 2500 (show L.length<=6 by omega);have Np:=gU (ay L);refine⟨imageOk_iff.2 ⟨g_,?_⟩,g_⟩;have:=wt (p:=p) L [] [] [] (fun x hx=>?_) ?_ (fun x hx y hy=>by cases hy) rfl
 ·simpa using this
 ·obtain⟨q1,q2⟩:=OA x hx;obtain⟨k,hk⟩:=ae (l:=aA p) (k:=x.1) (by have:=Xd x hx;omega);obtain⟨y,_,_,e,hn,_⟩:=qJ h1 hk;refine⟨?_,q2,by rw[e];exact hn⟩;obtain⟨z,l',hz⟩:=List.exists_cons_of_length_pos q1;rw[hz,show z::l'=[z]++l' from rfl,aK,eb,c8];have M1:=q2 z (by rw[hz];simp);have:=ew M1;have h4:=dR z.L7.J7.J3
  have hc:af z.L7.J7.J3 0 17=true:=by unfold dz at M1;rw[b9]at M1;exact M1.1
  rw[aH,c7 hc]at this;omega
 ·refine OI.imp_of_mem fun{x y} hx hy M3 he=>?_;have:=BE h1 (by have:=Xd x hx;omega) (by have:=Xd y hy;omega) he;omega
def kT (nm:List UInt8)(b:Int)(l:List My):List Int:=(l.filter fun y=>y.L0==nm).map fun y=>IntKind.i64.wrap (b+y.L8)
theorem Ie (nm:List UInt8)(b:Int):kT nm b []=[]:=rfl
theorem FR (nm:List UInt8)(b:Int)(l:List My)(y:My):kT nm b (l++[y])=kT nm b l++if(y.L0==nm)=true then [IntKind.i64.wrap (b+y.L8)]else []:=by
 unfold kT;rw[List.filter_append,u5];congr 1;split
 ·rename_i h;simp[h]
 ·rename_i h;simp[h]
theorem FA {nm:List UInt8}{b:Int}{l:List My}{k:Nat}{y:My}(h:l[k]?=some y):kT nm b (l.take (k+1))=kT nm b (l.take k)++if(y.L0==nm)=true then [IntKind.i64.wrap (b+y.L8)]else []:=by rw[dA h,FR]
theorem wj (nm:List UInt8)(b:Int)(l:List My):(kT nm b l).length<=l.length:=by unfold kT;rw[e7];exact G1 _ _
def ga (f:Nat):List (Nat×List Mu)->Int->Option Int
 | [],_=>none
 | x::L,a=>if x.1=f then some a else ga f L (a+(ak x.2).length)
theorem yy {p:List Mq}{nm:List UInt8}{b:Int}:∀(L:List (Nat×List Mu)) (a:Int),(∀x∈L,bK p x.1≠nm)->kT nm b (cu p a L)=[]
 | [],_,_=>rfl
 |(g,l)::L,a,h=>by
  have h1:=h (g,l) s_;have ih:=yy (p:=p) (nm:=nm) (b:=b) L (a+(ak l).length) (fun x hx=>h x aap);unfold kT at ih⊢;rw[cu,B9,b8 aaj];exact ih
theorem xJ {p:List Mq}{b:Int}{f:Nat}:∀(L:List (Nat×List Mu)) (a:Int),(∀x∈L,bK p x.1=bK p f->x.1=f)->L.Pairwise (fun x y=>x.1<y.1)->
  kT (bK p f) b (cu p a L)=match ga f L a with|some s=>[IntKind.i64.wrap (b+s)]|none=>[]
 | [],_,_,_=>rfl
 |(g,l)::L,a,h,hs=>by
  rw[H9]at hs;rw[ga];by_cases hg:g=f
  ·subst hg;rw[c7 rfl]
   have hn:=yy (p:=p) (nm:=bK p g) (b:=b) L (a+(ak l).length) (fun x hx he=>by
    have h1:=h x aap he;have h2:=hs.1 x hx;dsimp only at h2
    omega)
   unfold kT at hn⊢;rw[cu,B9,c7 s_,p7,hn]
  ·rw[b8 hg];have ih:=xJ (p:=p) (b:=b) (f:=f) L (a+(ak l).length) (fun x hx=>h x aap) hs.2;rw[<-ih];unfold kT;rw[cu,B9,b8];simp only[w9];exact fun he=>hg (h (g,l) s_ he)
theorem lN {f:Nat}:∀{L:List (Nat×List Mu)} {a:Int},(∃x∈L,x.1=f)->∃s,ga f L a=some s
 | [],_,⟨_,h,_⟩=>by cases h
 | x::L,a,⟨y,hy,he⟩=>by
  rw[ga];split
  ·exact⟨_,rfl⟩
  ·rename_i hx;rcases d7.1 hy with rfl|hy
   ·exact absurd he hx
   ·exact lN ⟨y,hy,he⟩
theorem qF {f:Nat}:∀{L:List (Nat×List Mu)} {a:Int},(∀x∈L,x.1≠f)->ga f L a=none
 | [],_,_=>rfl
 | x::L,a,h=>by rw[ga,b8 (h x s_),qF fun y hy=>h y aaS]
theorem wZ {f:Nat}:∀{L:List (Nat×List Mu)} {a s:Int},ga f L a=some s->∃i x,L[i]?=some x/\x.1=f/\s=a+((ak (ay (L.take i))).length:Int)
 | [],_,_,h=>by rw[ga]at h;cases h
 | x::L,a,s,h=>by
  rw[ga]at h;split at h
  ·injection h with h;exact⟨0,x,rfl,by assumption,by subst h;simp[ay,ak]⟩
  ·obtain⟨i,y,h1,h2,h3⟩:=wZ h;refine⟨i+1,y,by simpa using h1,h2,?_⟩;rw[q9,show ay (x::L.take i)=x.2++ay (L.take i) by simp[ay],aK,c8];omega
theorem imgL_mem {p:List Mq}{b:Mi}{image:Int}:∀{n f:Nat} {at0:Int} {g:Nat},(∃x∈cj p b image n f at0,x.1=g)↔(f<=g/\g<f+n/\sQ b image g=true)
 | 0,f,at0,g=>by
  rw[cj];constructor
  ·rintro⟨x,h,_⟩;cases h
  ·rintro⟨h1,h2,_⟩;omega
 | n+1,f,at0,g=>by
  rw[nZ];split
  ·rename_i hin;constructor
   ·rintro⟨x,hx,he⟩;rcases d7.1 hx with rfl|hx
    ·dsimp only at he;subst he;exact⟨o_,o_,hin⟩
    ·have:=imgL_mem.1 ⟨x,hx,he⟩;exact⟨o_,o_,this.2.2⟩
   ·rintro⟨h1,h2,h3⟩;by_cases hg:g=f
    ·exact⟨_,List.mem_cons_self ..,hg.symm⟩
    ·obtain⟨x,hx,he⟩:=(imgL_mem (p:=p) (at0:=zW at0 (aC p f b)) (n:=n) (f:=f+1)).2 ⟨o_,o_,h3⟩;exact⟨x,z9 _ hx,he⟩
  ·rename_i hin;constructor
   ·intro h;have:=imgL_mem.1 h;exact⟨o_,o_,this.2.2⟩
   ·rintro⟨h1,h2,h3⟩;have hg:g≠f:=fun e=>by subst e;exact hin h3
    exact imgL_mem.2 ⟨o_,o_,h3⟩
noncomputable abbrev imL (p:List Mq) (b:Mi) (image:Int):List (Nat×List Mu):=cj p b image (aA p).length 0 0
def br (b:Mi)(f:Nat):Int:=if b.MX=true then(f:Int)%2 else 0
theorem sF {b:Mi}{f:Nat}{image:Int}(h:image=0\/image=1):sQ b image f=true↔image=br b f:=by
 unfold sQ br;split
 ·rw[w9];omega
 ·rw[w9]
def uj (p:List Mq)(b:Mi)(i0 i1:Mn)(first second:Int)(f:Nat):List Int:=if br b f=1 then kT (bK p f) second i1.ME else kT (bK p f) first i0.ME
def kC (F:Nat->List Int):Nat->List Int
 | 0=>[]
 | n+1=>kC F n++F n
noncomputable def aY (p:List Mq) (b:Mi) (f:Nat):Int:=(ga f (imL p b (br b f)) 0).getD 0
noncomputable def cW (p:List Mq) (b:Mi) (first second:Int) (f:Nat):Int:=IntKind.i64.wrap ((if br b f=1 then second else first)+aY p b f)
theorem gz (b:Mi)(f:Nat):br b f=0\/br b f=1:=by unfold br;split<;>omega
theorem pG {p:List Mq}{b:Mi}(h1:aj p=true)(h2:aS b=true){image:Int}(hi:image=0\/image=1){f:Nat}(hf:f<(aA p).length)(base:Int):
  kT (bK p f) base (ah p b image).ME=if br b f=image then [IntKind.i64.wrap (base+aY p b f)]else []:=by
 have h3:af image 0 1=true:=by rw[within_iff];omega
 rw[ah,c7 ⟨h1,h2,h3⟩];dsimp only;rw[xJ _ _ (fun x hx he=>BE h1 (by have:=(mY hx).2;omega) hf he) (kb _ _ _)];by_cases he:br b f=image
 ·subst he;obtain⟨s,hs⟩:=lN (f:=f) (a:=0) ((imgL_mem (p:=p) (b:=b) (image:=br b f) (n:=(aA p).length) (f:=0) (at0:=0) (g:=f)).2 ⟨o_,o_,(sF hi).2 rfl⟩);rw[hs,c7 rfl,aY,show imL p b (br b f)=cj p b (br b f) (aA p).length 0 0 from rfl,hs];rfl
 ·rw[b8 he,qF fun x hx PA=>?_];have:=(imgL_mem (g:=f)).1 ⟨x,hx,PA⟩;exact he ((sF hi).1 this.2.2).symm
theorem JZ {p:List Mq}{b:Mi}(h1:aj p=true)(h2:aS b=true){f:Nat}(hf:f<(aA p).length)(first second:Int):uj p b (ah p b 0) (ah p b 1) first second f=[cW p b first second f]:=by
 unfold uj cW;rw[pG h1 h2 (.inr rfl) hf,pG h1 h2 (.inl rfl) hf];rcases gz b f with e|e
 ·rw[e];rfl
 ·rw[e];rfl
theorem ya {F:Nat->List Int}{G:Nat->Int}:∀{n:Nat},(∀f,f<n->F f=[G f])->kC F n=(List.range n).map G
 | 0,_=>rfl
 | n+1,h=>by rw[kC,ya fun f hf=>h f o_,h n o_,G4,u5];rfl
noncomputable def entries (p:List Mq) (b:Mi) (first second:Int):List Int:=(List.range (aA p).length).map (cW p b first second)
noncomputable def aP (p:List Mq) (b:Mi) (first second:Int):Mx:=⟨[ah p b 0,ah p b 1],[first,second],entries p b first second⟩
noncomputable def gQ (p:List Mq) (b:Mi) (first second:Int):Option Mx:=if aj p=true/\aS b=true/\bF (aP p b first second)=true then some (aP p b first second)else none
def oSp (o:Option Mx):Mx:=match o with|some s=>s|none=>⟨[],[],[]⟩
theorem qR {p:List Mq}:∀(L:List (Nat×List Mu)) (a:Int) (y:My),y∈cu p a L->a<=y.L8/\y.L8<=a+(ak (ay L)).length
 | [],_,_,h=>by cases h
 |(f,l)::L,a,y,h=>by
  have e:((ak (ay ((f,l)::L))).length:Int)=(ak l).length+(ak (ay L)).length:=by rw[show ay ((f,l)::L)=l++ay L by simp[ay],aK,c8];simp
  rw[e];rw[cu]at h;rcases d7.1 h with rfl|h
  ·dsimp only;omega
  ·have:=qR L _ y h;omega
theorem vE {p:List Mq}{b:Mi}(hs:ao 1048576 (.lst 4 (p.map Mq.tr)))(h1:aj p=true)(h2:aS b=true){image:Int}(h3:af image 0 1=true){y:My}(hy:y∈(ah p b image).ME):0<=y.L8/\y.L8<=75000:=by have hl:=(dZ hs h1 h2 h3).2;rw[ah,c7 ⟨h1,h2,h3⟩]at hy hl;have:=qR _ _ y hy;dsimp only at hl;omega
theorem Ck {p:List Mq}(h1:aj p=true):1<=(aA p).length/\(aA p).length<=6:=by unfold aj at h1;simp only[b9,j6]at h1;exact h1.2.1
theorem DP {p:List Mq}{b:Mi}(hs:ao 1048576 (.lst 4 (p.map Mq.tr)))(h1:aj p=true)(h2:aS b=true){first second:Int}(hf:1<=first/\first<=1000000)(Tu:1<=second/\second<=1000000){f:Nat}(M3:f<(aA p).length):
  (br b f=0/\∃y∈(ah p b 0).ME,first+y.L8=cW p b first second f)\/(br b f=1/\∃y∈(ah p b 1).ME,second+y.L8=cW p b first second f):=by
 have key:∀(image base:Int),(image=0\/image=1)->1<=base/\base<=1000000->br b f=image->∃y∈(ah p b image).ME,base+y.L8=IntKind.i64.wrap (base+aY p b f):=by
  intro image base hi hb he;have hh:=pG h1 h2 hi M3 base;rw[c7 he]at hh;have hm:IntKind.i64.wrap (base+aY p b f)∈kT (bK p f) base (ah p b image).ME:=by rw[hh];simp
  unfold kT at hm;obtain⟨y,hy,e⟩:=n9.1 hm;have Pl:=(B0.1 hy).1;have hr:=vE hs h1 h2 (by rw[within_iff];omega) Pl;refine⟨y,Pl,?_⟩;rw[<-e,c6 _ o_]
 unfold cW;rcases gz b f with e|e
 ·rw[e];exact .inl ⟨rfl,by simpa using key 0 first (.inl rfl) hf e⟩
 ·rw[e];exact .inr ⟨rfl,by simpa using key 1 second (.inr rfl) Tu e⟩
theorem Ad {p:List Mq}{b:Mi}(hs:ao 1048576 (.lst 4 (p.map Mq.tr)))(h1:aj p=true)(h2:aS b=true){first second:Int}(hf:1<=first/\first<=1000000)(Tu:1<=second/\second<=1000000)(Nm:cX (ah p b 0) (ah p b 1) first second=false):bF (aP p b first second)=true:=by
 have a0:=dZ hs h1 h2 (image:=0) d_;have a1:=dZ hs h1 h2 (image:=1) d_;have hl:=Ck h1;show eD (ah p b 0) (ah p b 1) first second (entries p b first second)=true;unfold eD;simp only[b9];refine⟨by rw[within_iff];simp[entries];omega,a0.1,within_iff.2 hf,a1.1,within_iff.2 Tu,by rw[Nm];rfl,?_⟩;rw[o8];intro e he;obtain⟨f,TB,rfl⟩:=n9.1 he;rw[F7]at TB;rw[w5];rcases DP hs h1 h2 hf Tu TB with⟨_,y,hy,e⟩|⟨_,y,hy,e⟩
 ·refine .inl ?_;rw[bC,y9];exact⟨y,hy,by rw[w9];exact e⟩
 ·refine .inr ?_;rw[bC,y9];exact⟨y,hy,by rw[w9];exact e⟩
theorem wh {p:List Mq}{b:Mi}(hs:ao 1048576 (.lst 4 (p.map Mq.tr)))(h1:aj p=true)(h2:aS b=true){first second:Int}(hf:1<=first/\first<=9000)(Tu:100000<=second/\second<=1000000):gQ p b first second=some (aP p b first second):=by
 have a0:=dZ hs h1 h2 (image:=0) d_
 have Nm:cX (ah p b 0) (ah p b 1) first second=false:=by unfold cX;rw[show decide (second<first+((ah p b 0).J3.length:Int))=false from B6 (by have:=a0.2;omega),D2,D2,D2]
 rw[gQ,c7 ⟨h1,h2,Ad hs h1 h2 o_ o_ Nm⟩]
structure PsOk (P:List Mu):Prop where
 at0:∀x:Mu,P[0]?=some x->x.MK=0
 next:∀(k:Nat) (x y:Mu),P[k]?=some x->P[k+1]?=some y->y.MK=x.MK+aH x.L7.J7.J3
 rng:∀(k:Nat) (x:Mu),P[k]?=some x->0<=x.MK/\x.MK<=100000/\1<=aH x.L7.J7.J3/\aH x.L7.J7.J3<=5/\0<=x.L7.MM/\x.L7.MM<=59
 len:P.length<=15000
theorem mN:∀{L:List (Nat×List Mu)} {k:Nat} {x:Mu},(ay L)[k]?=some x->∃i z j,L[i]?=some z/\z.2[j]?=some x/\k=(ay (L.take i)).length+j
 | [],k,x,h=>by simp[ay]at h
 | a::L,k,x,h=>by
  have e:ay (a::L)=a.2++ay L:=by simp[ay]
  rw[e,G3]at h;split at h
  ·exact⟨0,a,k,rfl,h,by simp[ay]⟩
  ·obtain⟨i,z,j,h1,h2,h3⟩:=mN h;refine⟨i+1,z,j,by simpa using h1,h2,?_⟩;rw[q9,show ay (a::L.take i)=a.2++ay (L.take i) by simp[ay],c8];omega
theorem pM {c a:Int}(h:dz c a=true):1<=aH c/\aH c<=5:=by unfold dz at h;rw[b9]at h;have:=dR c;rw[aH,c7 h.1];omega
theorem nc {p:List Mq}{b:Mi}{image:Int}(hs:ao 1048576 (.lst 4 (p.map Mq.tr))):PsOk (bv p b image):=by
 by_cases hc:aj p=true/\aS b=true/\af image 0 1=true
 ·rw[bv,c7 hc];obtain⟨h1,h2,_⟩:=hc;show PsOk (ay (cj p b image (aA p).length 0 0));obtain⟨h6,RK⟩:=iH h1;have OS:=iO p b image (aA p).length 0 0;have QM:=fun x (hx:x∈cj p b image (aA p).length 0 0)=>(iG hs hx).1;have NA:=kV QM (d8 _);rw[i7 (d8 _)]at NA;have N8:=A9 2500 (show(cj p b image (aA p).length 0 0).length<=6 by omega)
  have key:∀(k:Nat) (x:Mu),(ay (cj p b image (aA p).length 0 0))[k]?=some x->x.MK=((ak ((ay (cj p b image (aA p).length 0 0)).take k)).length:Int)/\dz x.L7.J7.J3 x.L7.J7.K9=true/\0<=x.L7.MM/\x.L7.MM<=59:=by
   intro k x hx;obtain⟨i,z,j,g1,g2,rfl⟩:=mN hx;obtain⟨hp,ho⟩:=fV hs h1 h2 g1 g2
   have ht:(ay (cj p b image (aA p).length 0 0)).take ((ay ((cj p b image (aA p).length 0 0).take i)).length+j)=ay ((cj p b image (aA p).length 0 0).take i)++z.2.take j:=by
    generalize cj p b image (aA p).length 0 0=L at *
    have e:L=L.take i++z::L.drop (i+1):=by rw[<-cJ g1,z4]
    have e2:ay L=ay (L.take i)++(z.2++ay (L.drop (i+1))):=by
     conv=>lhs;rw[e]
     simp[ay]
    rw[e2,I4,D5,i7 o_,A3 (Nat.le_of_lt (aI g2))]
   refine⟨by rw[ht,aK,c8];omega,hp.op,?_⟩;rcases v4 j with rfl|hj
   ·obtain⟨_,g,ln,k1,k2,k3,_⟩:=hp.head rfl;have:=aI k3;omega
   ·obtain⟨_,g,ln,k2,k3,_⟩:=hp.body hj;have:=aI k3;omega
  generalize ay (cj p b image (aA p).length 0 0)=P at *
  refine⟨fun x hx=>?_,fun k x y hx hy=>?_,fun k x hx=>?_,o_⟩
  ·have:=(key 0 x hx).1;simpa [ak]using this
  ·obtain⟨a1,a2,_⟩:=key k x hx;obtain⟨b1,_⟩:=key (k+1) y hy;have:=ew a2;rw[b1,a1,dA hx,aK,c8,eb];omega
  ·obtain⟨a1,a2,a3,a4⟩:=key k x hx;have hz:=pM a2;have Np:=gU (P.take k);have NL:=aI hx;have:(P.take k).length=k:=(by rw[j8];omega);omega
 ·rw[bv,b8 hc];exact⟨fun x h=>by simp at h,fun k x y h=>by simp at h,fun k x h=>by simp at h,s_⟩
theorem PsOk.lt {P:List Mu}(h:PsOk P):∀{n k:Nat} {x y:Mu},P[k]?=some x->P[k+n+1]?=some y->x.MK+aH x.L7.J7.J3<=y.MK
 | 0,k,x,y,hx,hy=>by have:=h.next k x y hx hy;omega
 | n+1,k,x,y,hx,hy=>by
  obtain⟨z,hz⟩:=ae (l:=P) (k:=k+n+1) (by have:=aI hy;omega);have h1:=h.lt hx hz;have h2:=h.next (k+n+1) z y hz (by rw[show k+n+1+1=k+(n+1)+1 by omega];exact hy);have:=(h.rng _ z hz).2.2.1;omega
end Go.Proofs.P
