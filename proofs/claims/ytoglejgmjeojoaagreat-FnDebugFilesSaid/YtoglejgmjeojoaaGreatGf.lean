import Derived.Test.YtoglejgmjeojoaaGreatGe
set_option maxRecDepth 100000
set_option maxHeartbeats 4000000
namespace Go.Proofs.P
open Go.Sim Tryz
def pW (l:List Oj)(i:Nat):Nat->Nat->Bool
 | 0,_=>false
 | n+1,j=>(elseAt l j==some i)||pW l i n (j+1)
theorem oM {l:List Oj}{i:Nat}:∀{n j:Nat},pW l i n j=true↔∃k,j<=k/\k<j+n/\elseAt l k=some i
 | 0,j=>by
  rw[pW]
  exact⟨fun h=>aaC,fun⟨k,h1,h2,_⟩=>o_⟩
 | n+1,j=>by
  rw[pW,w7,oM,x7];constructor
  ·rintro(h|⟨k,h1,h2,h3⟩)
   ·exact⟨j,o_,o_,h⟩
   ·exact⟨k,o_,o_,h3⟩
  ·rintro⟨k,h1,h2,h3⟩;by_cases hk:k=j
   ·subst hk;exact .inl h3
   ·exact .inr ⟨k,o_,o_,h3⟩
def eD (l:List Oj)(k e:Nat):Nat->Nat->Bool
 | 0,_=>true
 | n+1,i=>if i<e then(match l[i]? with
  | some x=>(if x.I6=4 then pW l i (i-k) k else true)&&eD l k e n (i+1)
  | none=>true)else true
theorem jm {l:List Oj}{k e:Nat}:∀{n i:Nat},e-i<=n->(eD l k e n i=true↔∀j x,i<=j->j<e->l[j]?=some x->x.I6=4->pW l j (j-k) k=true)
 | 0,i,h=>⟨fun _ j x h1 h2=>o_,fun _=>rfl⟩
 | n+1,i,h=>by
  rw[eD];by_cases hi:i<e
  ·rw[d5 hi]
   cases hx:l[i]? with
   | none=>
    refine⟨fun _ j x h1 h2 hj=>?_,fun _=>rfl⟩;have:l.length<=i:=List.getElem?_eq_none_iff.1 hx;rw[e9 o_]at hj
    cases hj
   | some x=>
    dsimp only;rw[c9,jm o_];constructor
    ·rintro⟨h1,h2⟩ j y Xl Ua hy hk;by_cases he:j=i
     ·subst he;rw[hx]at hy;injection hy with hy;subst hy;rw[d5 hk]at h1;exact h1
     ·exact h2 j y o_ Ua hy hk
    ·intro H;refine⟨?_,fun j y Xl Ua hy hk=>H j y o_ Ua hy hk⟩;split
     ·exact H i x (d7 _) hi hx aag
     ·rfl
  ·rw[c8 hi];exact⟨fun _ j x h1 h2=>o_,fun _=>rfl⟩
def nL (l:List Oj)(locals:List (List UInt8))(k e:Nat):Nat->Nat->Nat->Bool
 | 0,_,_=>true
 | n+1,i,d=>if i<e then(match l[i]? with
  | some x=>if x.I6=0 then false else if x.I6=4/\pW l i (i-k) k=false then false else
   if dep x d<=4/\bX l locals x.J5=true then nL l locals k e n (i+1) (dep x d)else false
  | none=>false)else true
theorem FR {l:List Oj}{locals:List (List UInt8)}{k e i d:Nat}{x:Oj}(hi:i<e)(hx:l[i]?=some x):nL l locals k e (e-i) i d=if x.I6=0 then false else if x.I6=4/\pW l i (i-k) k=false then false else if dep x d<=4/\bX l locals x.J5=true then nL l locals k e (e-(i+1)) (i+1) (dep x d)else false:=by rw[show e-i=(e-(i+1))+1 by omega,nL,d5 hi,hx]
theorem II {l:List Oj}{locals:List (List UInt8)}{k e i d n:Nat}(hi:e<=i):nL l locals k e n i d=true:=by cases n with|zero=>rfl|succ n=>rw[nL,c8 o_]
theorem CG {l:List Oj}{locals:List (List UInt8)}{k e:Nat}:∀{n i d:Nat},nL l locals k e n i d=(kE l locals e n i d&&eD l k e n i)
 | 0,i,d=>rfl
 | n+1,i,d=>by
  rw[nL,kE,eD];by_cases hi:i<e
  ·rw[d5 hi,d5 hi,d5 hi]
   cases hx:l[i]? with
   | none=>rfl
   | some x=>
    dsimp only;by_cases h0:x.I6=0
    ·rw[d5 h0,d5 h0];rfl
    ·rw[c8 h0,c8 h0];rw[CG];by_cases h4:x.I6=4
     ·rw[d5 h4]
      cases ha:pW l i (i-k) k with
      | false=>rw[d5 ⟨h4,rfl⟩];simp
      | true=>rw[c8 s_];split<;>simp_all
     ·rw[c8 (by simp[h4]),c8 h4];split<;>simp_all
  ·rw[c8 hi,c8 hi,c8 hi];rfl
def lc (l:List Oj)(k e:Nat):Bool:=decide ((localsOf l (k:Int)).length<=8)&&kE l (localsOf l (k:Int)) e (e-(k+1)) (k+1) 0
def pi (l:List Oj)(k e:Nat):Bool:=decide ((localsOf l (k:Int)).length<=8)&&nL l (localsOf l (k:Int)) k e (e-(k+1)) (k+1) 0
theorem yP {l:List Oj}{k e:Nat}:pi l k e=(lc l k e&&eD l k e (e-(k+1)) (k+1)):=by rw[pi,lc,CG,Bool.and_assoc]
theorem yV {l:List Oj}{k e:Nat}(h:lc l k e=true)(he:e<=l.length):∀i x,k<i->i<e->l[i]?=some x->x.I6≠0:=by
 rw[lc,c9]at h
 have key:∀(n i d:Nat),e-i<=n->kE l (localsOf l (k:Int)) e n i d=true->∀j x,i<=j->j<e->l[j]?=some x->x.I6≠0:=by
  intro n
  induction n with
  | zero=>intro i d hn _ j x h1 h2;omega
  | succ n ih=>
   intro i d hn hb j x h1 h2 hx;rw[kE,d5 o_]at hb;obtain⟨y,hy⟩:=ab (l:=l) (k:=i) o_;rw[hy]at hb;dsimp only at hb;split at hb
   ·cases hb
   ·rename_i h0;split at hb
    ·by_cases hj:j=i
     ·subst hj;rw[hy]at hx;injection hx with hx;subst hx;exact h0
     ·exact ih (i+1) _ o_ hb j x o_ h2 hx
    ·cases hb
 exact fun i x h1 h2 hx=>key _ _ _ (d7 _) h.2 i x o_ h2 hx
def cm (F:Nat->Nat->Bool)(l:List Oj):Nat->Nat->Bool
 | 0,k=>decide (l.length<=k)
 | n+1,k=>if k<l.length then(match l[k]?,endAt l k with
  | some x,some e=>if x.I6=0/\F k e=true then cm F l n (e+1)else false
  | _,_=>false)else true
theorem lL {F:Nat->Nat->Bool}{l:List Oj}{k n:Nat}{x:Oj}(hx:l[k]?=some x)(hn:l.length-k<=n):cm F l n k=match endAt l k with|some e=>if x.I6=0/\F k e=true then cm F l (l.length-(e+1)) (e+1)else false|none=>false:=by
 have more:∀(n m k:Nat),l.length-k<=n->l.length-k<=m->cm F l n k=cm F l m k:=by
  intro n
  induction n with
  | zero=>
   intro m k h1 h2;rw[cm,r7 o_]
   cases m with|zero=>rw[cm,r7 o_]|succ m=>rw[cm,c8 o_]
  | succ n ih=>
   intro m k h1 h2
   cases m with
   | zero=>rw[cm,cm,c8 o_,r7 o_]
   | succ m=>
    rw[cm,cm];split
    ·split
     ·rename_i x e hx he;obtain⟨_,_,_,_,h3,_⟩:=aL he;split
      ·exact ih m (e+1) o_ o_
      ·rfl
     ·rfl
    ·rfl
 have hk:k<l.length:=by exact V140
 obtain⟨m,rfl⟩:∃m,n=m+1:=⟨n-1,o_⟩;rw[cm,d5 hk,hx]
 cases he:endAt l k with
 | none=>rfl
 | some e=>
  obtain⟨_,_,_,_,h3,_⟩:=aL he;dsimp only;split
  ·exact more _ _ _ o_ o_
  ·rfl
theorem qJ {F:Nat->Nat->Bool}{l:List Oj}{k n:Nat}(hk:l.length<=k):cm F l n k=true:=by cases n with|zero=>rw[cm,r7 hk]|succ n=>rw[cm,c8 o_]
def ls (l:List Oj):Bool:=eD l 0 l.length l.length 0
def bC (l:List Oj)(k:Nat):Bool:=match l[k]? with|some x=>findN l 0 x.J0==some k|none=>false
def iV (l:List Oj):List Nat->Nat->Bool
 | [],next=>ls l&&(next==l.length)
 | k::fs,next=>match endAt l k with
  | some e=>if k=next/\bC l k=true/\lc l k e=true then iV l fs (e+1)else false
  | none=>false
theorem zk {l:List Oj}{i e:Nat}:∀(n:Nat),e-i<=n->i<=e->e<=l.length->(∀j x,i<=j->j<e->l[j]?=some x->x.I6≠0)->funsF (l.drop i) i=funsF (l.drop e) e
 | n,hn,hi,he,h=>by
  by_cases hx:i=e
  ·subst hx;rfl
  obtain⟨x,S7⟩:=ab (l:=l) (k:=i) o_
  cases n with
  | zero=>omega
  | succ n=>rw[my S7,c8 (h i x (d7 _) o_ S7),p8];exact zk n o_ o_ he fun j y h1 h2=>h j y o_ h2
theorem Ap {l:List Oj}:∀(n i:Nat),l.length-i<=n->i<=l.length->iV l (funsF (l.drop i) i) i=((funsF (l.drop i) i).all (bC l)&&cm (lc l) l (l.length-i) i&&ls l)
 | n,i,hn,hi=>by
  by_cases N2:i<l.length
  ·obtain⟨x,hx⟩:=ab N2;rw[lL hx (d7 _)];by_cases h0:x.I6=0
   ·rw[my hx,d5 h0,p0,p8,iV,G3]
    cases he:endAt l i with
    | none=>simp
    | some e=>
     dsimp only;obtain⟨_,_,_,_,h3,h4⟩:=aL he
     cases hf:lc l i e with
     | false=>simp
     | true=>
      have WZ:=yV hf o_
      have Qp:funsF (l.drop (i+1)) (i+1)=funsF (l.drop (e+1)) (e+1):=by
       refine zk _ (d7 _) o_ o_ fun j y h5 h6 hy=>?_;by_cases RF:j=e
       ·subst RF;obtain⟨z,hz,Uy⟩:=bG he;rw[hy]at hz;injection hz with hz;subst hz;omega
       ·exact WZ j y o_ o_ hy
      cases n with
      | zero=>omega
      | succ n=>
       have ih:=Ap (l:=l) n (e+1) o_ o_;rw[Qp]
       cases Pm:bC l i with
       | false=>simp
       | true=>rw[d5 ⟨rfl,rfl,rfl⟩,d5 ⟨h0,rfl⟩,ih];simp
   ·have hc:(match endAt l i with|some e=>if x.I6=0/\lc l i e=true then cm (lc l) l (l.length-(e+1)) (e+1)else false|none=>false)=false:=by cases endAt l i with|none=>rfl|some e=>dsimp only;rw[c8 (by simp[h0])]
    rw[hc,F8,q9];rw[my hx,c8 h0,p8]
    cases QH:funsF (l.drop (i+1)) (i+1)with
    | nil=>
     rw[iV];have:(i==l.length)=false:=by rw[x5];omega
     rw[this,F8]
    | cons k fs=>
     have hk:k∈funsF (l.drop (i+1)) (i+1):=(by rw[QH];simp);have:=(rK hk).1;rw[iV]
     cases endAt l k with|none=>rfl|some e=>dsimp only;rw[c8 o_]
  ·have:i=l.length:=o_;subst this;rw[d8 (d7 _),funsF,iV,qJ (d7 _)];simp
theorem Af {l:List Oj}:∀(n k:Nat),l.length-k<=n->k<=l.length->(∀j m,j<k->endAt l j=some m->m<k)->
  (cm (pi l) l (l.length-k) k=(cm (lc l) l (l.length-k) k&&eD l 0 l.length (l.length-k) k))
 | n,k,hn,hk,hP=>by
  by_cases N2:k<l.length
  ·obtain⟨x,hx⟩:=ab N2;rw[lL hx (d7 _),lL hx (d7 _)]
   cases he:endAt l k with
   | none=>simp
   | some e=>
    dsimp only;obtain⟨_,QF,ho,_,h3,h4⟩:=aL he;obtain⟨z,hz,Uy⟩:=bG he;by_cases h0:x.I6=0
    ·have hP':∀j m,j<e+1->endAt l j=some m->m<e+1:=by
      intro j m hj hm;rcases D8 j k with Qq|Qq|Qq
      ·have:=hP j m Qq hm;omega
      ·subst Qq;rw[he]at hm;injection hm with hm;omega
      ·obtain⟨y,hy,XB,_⟩:=aL hm;by_cases RF:j=e
       ·subst RF;rw[hz]at hy;injection hy with hy;subst hy;rw[opensK_iff]at XB;omega
       ·obtain⟨m',Rj,_,h5⟩:=pb he Qq o_ hy XB;rw[hm]at Rj;injection Rj with Rj;omega
     cases n with
     | zero=>omega
     | succ n=>
      have ih:=Af (l:=l) n (e+1) o_ o_ hP'
      have YB:eD l 0 l.length (l.length-k) k=(eD l k e (e-(k+1)) (k+1)&&eD l 0 l.length (l.length-(e+1)) (e+1)):=by
       rw[u7,c9,jm (d7 _),jm (d7 _),jm (d7 _)];constructor
       ·intro H;refine⟨fun j y h5 h6 hy h7=>?_,fun j y h5 h6 hy h7=>H j y o_ h6 hy h7⟩;have:=H j y o_ o_ hy h7;rw[oM]at this⊢;obtain⟨i,h8,h9,Zt⟩:=this;refine⟨i,?_,o_,Zt⟩;rcases l9 i k with Wg|Wg
        ·obtain⟨_,m,_,_,h12,_,h13,_⟩:=bn Zt;have:=hP i m Wg h12;omega
        ·exact Wg
       ·rintro⟨H1,H2⟩ j y h5 h6 hy h7;rcases l9 e j with h8|h8
        ·exact H2 j y h8 h6 hy h7
        ·have RF:j≠e:=fun h=>by
          subst h;rw[hz]at hy;injection hy with hy;subst hy;omega
         have Qq:j≠k:=fun h=>by
          subst h;rw[hx]at hy;injection hy with hy;subst hy;omega
         have:=H1 j y o_ o_ hy h7;rw[oM]at this⊢;obtain⟨i,h9,Zt,Wg⟩:=this;exact⟨i,o_,o_,Wg⟩
      rw[YB,ih,yP]
      cases lc l k e<;>cases eD l k e (e-(k+1)) (k+1)<;>simp[h0]
    ·rw[c8 (by simp[h0]),c8 (by simp[h0])];rfl
  ·have:k=l.length:=o_;subst this;rw[qJ (d7 _),qJ (d7 _)];rw[y7];rfl
def ji:List UInt8:=[109,97,105,110]
def nB (l:List Oj):Bool:=match l with
 | []=>false
 | x::_=>x.I6==0&&(x.J0==ji&&x.K0.length==0)
def aj (l:List Oj):Bool:=decide (l.length<=60)&&(decide (1<=(az l).length/\(az l).length<=6)&&(l.all cF&&(nB l&&((az l).all (bC l)&&(cm (lc l) l l.length 0&&ls l)))))
theorem FY (l:List Oj):iV l (az l) 0=((az l).all (bC l)&&(cm (lc l) l l.length 0&&ls l)):=by have:=Ap (l:=l) _ 0 (d7 _) o_;rw[v6]at this;rw[az,this,v3,Bool.and_assoc]
theorem yY (l:List Oj):cm (pi l) l l.length 0=(cm (lc l) l l.length 0&&ls l):=by have:=Af (l:=l) _ 0 (d7 _) o_ (fun j m h=>o_);rw[v3]at this;exact this
def StkOk (l:List Oj)(e:Nat):Nat->List Nat->Prop
 | i,[]=>endN (l.drop i) i 1=some e
 | i,m::es=>i<=m/\endN (l.drop i) i 1=some m/\StkOk l e (m+1) es
theorem StkOk.push {l:List Oj}{e i:Nat}{es:List Nat}{x:Oj}(h:StkOk l e i es)(hx:l[i]?=some x)(ho:cQ x.I6=true):∃m,endAt l i=some m/\i<m/\StkOk l e (i+1) (m::es):=by
 have key:∀m',endN (l.drop i) i 1=some m'->∃m,endAt l i=some m/\i<m/\endN (l.drop (i+1)) (i+1) 1=some m/\endN (l.drop (m+1)) (m+1) 1=some m':=by
  intro m' hm;rw[ep hx,d5 ho,oT _ (d7 _) (d7 1) (d7 1)]at hm
  cases h1:endN (l.drop (i+1)) (i+1) 1 with
  | none=>rw[h1]at hm;cases hm
  | some m=>rw[h1]at hm;have:=jX h1;exact⟨m,by rw[su hx ho];exact h1,o_,rfl,hm⟩
 cases es with
 | nil=>
  obtain⟨m,h1,h2,h3,h4⟩:=key e h
  exact⟨m,h1,h2,o_,h3,h4⟩
 | cons m' es=>obtain⟨g1,g2,g3⟩:=h;obtain⟨m,h1,h2,h3,h4⟩:=key m' g2;have:=jX h4;exact⟨m,h1,h2,o_,h3,o_,h4,g3⟩
theorem StkOk.other {l:List Oj}{e i:Nat}{es:List Nat}{x:Oj}(h:StkOk l e i es)(hx:l[i]?=some x)(ho:cQ x.I6=false)(h7:x.I6≠7):StkOk l e (i+1) es:=by
 have key:∀m',endN (l.drop i) i 1=some m'->endN (l.drop (i+1)) (i+1) 1=some m':=by intro m' hm;rw[ep hx,c8 aae,c8 h7]at hm;exact hm
 cases es with
 | nil=>exact key e h
 | cons m' es=>obtain⟨g1,g2,g3⟩:=h;have:=jX (key m' g2);exact⟨o_,key m' g2,g3⟩
theorem StkOk.pop {l:List Oj}{e i:Nat}{es:List Nat}{x:Oj}(h:StkOk l e i es)(hx:l[i]?=some x)(h7:x.I6=7):(es=[]/\i=e)\/∃Pu,es=i::Pu/\StkOk l e (i+1) Pu:=by
 have ho:¬cQ x.I6=true:=by rw[opensK_iff];omega
 cases es with
 | nil=>
  unfold StkOk at h;rw[ep hx,c8 ho,d5 h7,d5 rfl]at h;injection h with h
  exact .inl ⟨rfl,h⟩
 | cons m' es=>obtain⟨g1,g2,g3⟩:=h;rw[ep hx,c8 ho,d5 h7,d5 rfl]at g2;injection g2 with g2;subst g2;exact .inr ⟨es,rfl,g3⟩
theorem StkOk.le {l:List Oj}{e:Nat}:∀{i:Nat} {es:List Nat},StkOk l e i es->i<=e
 | i,[],h=>(jX h).1
 | i,m::es,h=>by
  have:=StkOk.le h.2.2;have:=h.1;omega
inductive Ex where
 | node (t:Ou) (es:List Ex)
mutual
def Ex.toks:Ex->List Ou
 | .node t es=>t::ao es
def ao:List Ex->List Ou
 | []=>[]
 | a::es=>a.toks++ao es
end
mutual
def Ex.ok:Ex->Prop
 | .node t es=>fv t=true/\es.length=ar t/\jL es
def jL:List Ex->Prop
 | []=>True
 | a::es=>a.ok/\jL es
end
theorem Ex.toks_pos (e:Ex):0<e.toks.length:=by cases e;simp[Ex.toks]
theorem fU:∀(a b:List Ex),ao (a++b)=ao a++ao b
 | [],b=>by rw[p8,ao,p8]
 | x::a,b=>by rw[p0,ao,ao,fU a b,j9]
theorem wG:∀{l:List Ex} (n:Nat),jL l->jL (l.take n)
 | [],n,h=>by rw[List.take_nil];exact h
 | x::l,0,h=>by rw[F9];trivial
 | x::l,n+1,h=>by rw[r8];exact⟨h.1,wG n h.2⟩
theorem yl:∀{l:List Ex} (n:Nat),jL l->jL (l.drop n)
 | [],n,h=>by rw[List.drop_nil];exact h
 | x::l,0,h=>h
 | x::l,n+1,h=>by rw[List.drop_succ_cons];exact yl n h.2
theorem yC:∀{l:List Ou} {p n e:Nat},endL l p n=some e->∃es:List Ex,es.length=n/\jL es/\∃rest,l=ao es++rest/\p+(ao es).length=e
 | l,p,0,e,h=>by
  have h:some p=some e:=by cases l<;>exact h
  injection h with h
  exact⟨[],rfl,trivial,l,rfl,by simp[ao];omega⟩
 | [],_,_+1,_,h=>by rw[endL]at h;cases h
 | t::l,p,n+1,e,h=>by
  rw[endL]at h;split at h
  ·rename_i N7;obtain⟨es,h1,h2,rest,h3,h4⟩:=yC h;refine⟨.node t (es.take (ar t))::es.drop (ar t),by simp;omega,⟨⟨N7,by simp;omega,wG _ h2⟩,yl _ h2⟩,rest,?_,?_⟩
   ·rw[ao,Ex.toks,p0,<-fU,z9,p0,<-h3]
   ·rw[ao,Ex.toks,p0,<-fU,z9,c7];omega
  ·cases h
mutual
theorem Ex.endL:∀(e:Ex),e.ok->∀(r:List Ou) (p n:Nat),Go.Proofs.P.endL (e.toks++r) p (n+1)=Go.Proofs.P.endL r (p+e.toks.length) n
 | .node t es,h,r,p,n=>by
  rw[Ex.toks,p0,Go.Proofs.P.endL,d5 h.1,show n+ar t=n+es.length by rw[h.2.1],EN es h.2.2,c7];congr 1;omega
theorem EN:∀(es:List Ex),jL es->∀(r:List Ou) (p n:Nat),Go.Proofs.P.endL (ao es++r) p (n+es.length)=Go.Proofs.P.endL r (p+(ao es).length) n
 | [],_,r,p,n=>by rw[ao];simp
 | a::es,h,r,p,n=>by
  rw[ao,j9,c7,show n+(es.length+1)=(n+es.length)+1 by omega,Ex.endL a h.1,EN es h.2,b8];congr 1;omega
end
theorem kc {l:List Ou}(h:bF l=true):∃e:Ex,e.ok/\l=e.toks:=by
 unfold bF at h;simp only[c9,j7,x7]at h;obtain⟨_,h1,h2⟩:=h;rw[ec,d5 o_]at h2;show ∃e:Ex,e.ok/\l=e.toks
 cases he:Go.Proofs.P.endL (l.drop (0:Int).toNat) (0:Int).toNat 1 with
 | none=>rw[he]at h2;simp only[cX]at h2;omega
 | some e=>
  rw[he]at h2;simp only[cX]at h2;obtain⟨es,g1,g2,rest,g3,g4⟩:=yC he
  match es,g1 with
  | [a],_=>
   rw[ao,ao,i9]at g3 g4;have e0:l.drop (0:Int).toNat=l:=rfl;rw[e0]at g3
   have:rest=[]:=by have:=congrArg List.length g3;rw[b8]at this;have e1:(0:Int).toNat=0:=rfl;rw[e1]at g4;exact A8.1 o_
   subst this;exact⟨a,g2.1,by rw[g3,i9]⟩
def ik (l:List Ou)(p:Nat)(e:Ex):Prop:=∃r,l.drop p=e.toks++r
def kS (l:List Ou)(p:Nat)(es:List Ex):Prop:=∃r,l.drop p=ao es++r
theorem kp {l:List Ou}{p:Nat}{e:Ex}(h:ik l p e)(ho:e.ok):ec l (p:Int)=((p+e.toks.length:Nat):Int):=by
 obtain⟨r,h⟩:=h;rw[ec,d5 o_,e8,h,show(1:Nat)=0+1 from rfl,Ex.endL e ho]
 cases r<;>rfl
theorem iO {l:List Ou}{p:Nat}{t:Ou}{es:List Ex}(h:ik l p (.node t es)):l[p]?=some t/\kS l (p+1) es:=by
 obtain⟨r,h⟩:=h;rw[Ex.toks,p0]at h;refine⟨?_,r,?_⟩
 ·have:=congrArg (·[0]?) h;simpa [r9]using this
 ·have:=congrArg (·.drop 1) h;simpa [y9]using this
theorem eU {l:List Ou}{p:Nat}{a:Ex}{es:List Ex}(h:kS l p (a::es)):ik l p a/\kS l (p+a.toks.length) es:=by obtain⟨r,h⟩:=h;rw[ao,j9]at h;refine⟨⟨_,h⟩,r,?_⟩;rw[<-y9,h,A6]
def ig:Nat->List Ex->List Nat
 | _,[]=>[]
 | p,a::es=>p::ig (p+a.toks.length) es
theorem th:∀(p:Nat) (es:List Ex),(ig p es).length=es.length
 | _,[]=>rfl
 | p,a::es=>by rw[ig,c7,th,c7]
theorem wv:∀{l:List Ou} {p:Nat} {es:List Ex} {k:Nat} {a:Ex},kS l p es->es[k]?=some a->∃q,(ig p es)[k]?=some q/\ik l q a
 | _,_,[],_,_,_,h=>by simp at h
 | l,p,b::es,0,a,hs,h=>by
  rw[i8]at h;injection h with h;subst h
  exact⟨p,by rw[ig,i8],(eU hs).1⟩
 | l,p,b::es,k+1,a,hs,h=>by
  rw[m5]at h;obtain⟨q,h1,h2⟩:=wv (eU hs).2 h;exact⟨q,by rw[ig,m5];exact h1,h2⟩
theorem Ai {t:Ou}(h:fv t=true):t.I6=0\/t.I6=1\/t.I6=7\/(2<=t.I6/\t.I6<=6):=by
 unfold fv at h;split at h
 ·omega
 ·split at h
  ·omega
  ·split at h
   ·omega
   ·simp only[c9,within_iff]at h;omega
theorem HK {t:Ou}(h:fv t=true):((t.I6=0\/t.I6=1)->ar t=0)/\(t.I6=7->(ar t:Int)=t.L3)/\(2<=t.I6->t.I6<=6->ar t=2):=by
 obtain⟨e1,_⟩:=rD h;unfold nP at e1;rw[c8 aaI]at e1;refine⟨fun h0=>?_,fun h7=>?_,fun h2 h6=>?_⟩
 ·rw[c8 o_,d5 h0]at e1;omega
 ·rw[d5 h7]at e1;omega
 ·rw[c8 o_,c8 o_]at e1;omega
theorem uR:∀{l:List Ou} {p:Nat} {es:List Ex} {j:Nat} {a:Ex},kS l p es->es[j]?=some a->ik l (p+(ao (es.take j)).length) a
 | _,_,[],_,_,_,h=>by simp at h
 | l,p,b::es,0,a,hs,h=>by
  rw[i8]at h;injection h with h;subst h
  simpa [ao]using(eU hs).1
 | l,p,b::es,j+1,a,hs,h=>by
  rw[m5]at h;have:=uR (eU hs).2 h;rw[r8,ao,b8,<-C4];exact this
end Go.Proofs.P
namespace Go.Proofs.P
noncomputable section
open Go.Sim Tryz
structure Cx where
 p:List Oj
 b:Oa
 L0:Bool
 J2:Int
 args:Int
structure Sc where
 f:Nat
 I5:List Int
 I7:List (List UInt8)
 first:Int
 L2:Bool
structure Gs where
 I4:List Oi
 J1:Int
 start:Bool
def lS (C:Cx)(s:Gs)(depth code arg line:Int)(chain:List Int):Oi:=⟨⟨code,arg⟩,line,s.start,chain,if C.L0=true/\0<s.I4.length then 0 else depth,C.L0&&decide (0<s.I4.length)⟩
def aA (C:Cx)(s:Gs)(depth code arg line:Int)(chain:List Int):Gs:=⟨s.I4++[lS C s depth code arg line chain],s.J1,false⟩
def mf (C:Cx)(x:Sc)(i:Int):Bool:=x.L2&&decide (i<C.args)
def fP (C:Cx)(x:Sc)(i:Int):Int:=if x.L2=true then i-C.args else x.first+i
def cH (C:Cx)(store:Bool):Int:=(if C.L0=true then 1 else 3)+(if store=true then 1 else 0)
def db (C:Cx)(x:Sc)(depth i:Int):Int:=
 if C.L0=true then(if mf C x i=true then 1+(C.args-i)else -1-fP C x i)
 else(if mf C x i=true then depth+(C.args-i)else depth-1-fP C x i)
def Hs (C:Cx)(x:Sc)(s:Gs)(depth i line:Int):Gs:=aA C s depth (cH C false) (db C x depth i) line x.I5
def eE (C:Cx)(x:Sc)(s:Gs)(depth i line:Int)(chain:List Int):Gs:=aA C s depth (cH C true) (db C x depth i) line chain
def cf (C:Cx)(y:Sc)(chain:List Int)(line:Int):Nat->Int->Gs->Gs
 | 0,_,s=>s
 | n+1,d,s=>cf C y chain line n (d-1) (eE C y s d n line chain)
def cR (C:Cx)(y:Sc)(chain:List Int)(line d:Int):Nat->Nat->Gs->Gs
 | 0,_,s=>s
 | n+1,i,s=>cR C y chain line d n (i+1) (eE C y (aA C s d 0 0 line chain) (d+1) i line chain)
def bI (l:List Oi)(j:Int)(v:Int):List Oi:=if 0<=j then(match l[j.toNat]? with
 | some x=>l.set j.toNat ⟨⟨x.J6.J4,v⟩,x.J9,x.J8,x.J3,x.L9,x.M7⟩
 | none=>l)else l
def cB (l:List Oi)(v:Int):List Int->List Oi
 | []=>l
 | j::js=>cB (bI l j v) v js
def nQ (p:List Oj)(g:Nat):Nat:=((p.take g).filter fun x=>x.I6==0).length
def cw (C:Cx)(inside:List Nat)(g:Nat)(n:Nat):Bool:=decide ((inside.length:Int)<=C.b.L4)&&(decide (bB C.p (g:Int)-g<=9)&&(decide (n<200)&&!inside.contains g))
def iB (C:Cx)(rep:Sc->List Nat->Nat->Nat->Int->Gs->Gs)(x:Sc)(inside:List Nat)(line:Nat)(t:Ou)(d:Int)(s:Gs):Gs:=
 if t.I6=0 then aA C s d 0 t.L3 line x.I5
 else if t.I6=1 then Hs C x s d (dJ x.I7 t.J0) line
 else if t.I6=7 then(match findN C.p 0 t.J0 with
  | some g=>if cw C inside g s.I4.length=true then rep x inside line g d s else aA C s d 12 (nQ C.p g) line x.I5
  | none=>s)
 else aA C s d (5+t.I6-2) 0 line x.I5
mutual
def dx (C:Cx)(rep:Sc->List Nat->Nat->Nat->Int->Gs->Gs)(x:Sc)(inside:List Nat)(line:Nat):Ex->Int->Gs->Gs
 | .node t es,d,s=>iB C rep x inside line t (d+es.length) (cO C rep x inside line es d s)
def cO (C:Cx)(rep:Sc->List Nat->Nat->Nat->Int->Gs->Gs)(x:Sc)(inside:List Nat)(line:Nat):List Ex->Int->Gs->Gs
 | [],_,s=>s
 | a::es,d,s=>cO C rep x inside line es (d+1) (dx C rep x inside line a d s)
end
def bK (C:Cx)(x:Sc):Int:=if x.L2=true then(x.I7.length:Int)-C.args else x.first+x.I7.length
def argsN (p:List Oj)(g:Nat):Nat:=match p[g]? with|some l=>l.K0.length|none=>0
def bN (C:Cx)(x:Sc)(line g:Nat):Sc:=⟨g,x.I5++[(line:Int)],localsOf C.p (g:Int),bK C x,false⟩
def dB (C:Cx)(x:Sc)(line g:Nat)(d:Int)(s:Gs):Gs:=
 cR C (bN C x line g) x.I5 line (d-argsN C.p g) ((localsOf C.p (g:Int)).length-argsN C.p g) (argsN C.p g)
  (cf C (bN C x line g) x.I5 line (argsN C.p g) d ⟨s.I4,max s.J1 (bK C x+(localsOf C.p (g:Int)).length),s.start⟩)
def bA (C:Cx)(x:Sc)(line:Nat)(d:Int)(s:Gs):Gs:=if s.start=true then aA C s d 15 0 line x.I5 else s
def jp (C:Cx)(lines:Sc->List Nat->Int->Gs->Gs×List Int)(x:Sc)(inside:List Nat)(line g:Nat)(d:Int)(s:Gs):Gs:=
 let r:=lines (bN C x line g) (inside++[g]) (d-argsN C.p g) (bA C x line (d-argsN C.p g) (dB C x line g d s))
 ⟨cB r.1.I4 r.1.I4.length r.2,r.1.J1,r.1.start⟩
def Fs (p:List Oj)(k:Nat):Nat->Option Nat
 | 0=>none
 | n+1=>if endAt p n=some k\/elseAt p n=some k then some n else Fs p k n
def aQ (p:List Oj)(k:Nat):Nat:=(Fs p k p.length).getD 0
def cK (p:List Oj)(k:Nat):Int:=match p[k]? with|some x=>x.I6|none=> -1
structure Ls where
 g:Gs
 I9:List Int
 pos:List Int
 lv:List Int
def exL (l:List Ou):Ex:=if h:bF l=true then Classical.choose (kc h)else .node ⟨0,0,[]⟩ []
theorem rl {l:List Ou}(h:bF l=true):(exL l).ok/\l=(exL l).toks:=by rw[exL,dif_pos h];exact t9 (kc h)
def atL (l:List Int)(k:Nat):Int:=l[k]?.getD 0
def aU (C:Cx)(x:Sc)(k:Nat)(last:Bool)(d:Int)(L:Ls):Ls:=
 if x.L2=true then(if C.L0=true then{L with g:=aA C L.g d 14 C.args k x.I5} else{L with g:=aA C L.g d 16 (C.args+16*C.J2) k x.I5})
 else if last=true then L
 else{L with g:=aA C L.g d 10 0 k x.I5,lv:=L.lv++[(L.g.I4.length:Int)]}
def dq (C:Cx)(rep:Sc->List Nat->Nat->Nat->Int->Gs->Gs)(x:Sc)(inside:List Nat)(base:Int)(k:Nat)(ln:Oj)(L:Ls):Ls:=
 if ln.I6=4 then
  let g:=aA C L.g base 10 0 k x.I5
  {L with g:=⟨bI g.I4 (atL L.pos (aQ C.p k)) g.I4.length,g.J1,g.start⟩,pos:=L.pos.set k L.g.I4.length}
 else if ln.I6=7 then
  if aQ C.p k=x.f then aU C x k true (base+1) {L with g:=aA C L.g base 0 0 k x.I5}
  else if cK C.p (aQ C.p k)=5 then{L with g:=aA C L.g base 10 (atL L.I9 (aQ C.p k)) k x.I5}
  else L
 else
  let L1:Ls:={L with g:=dx C rep x inside k (exL ln.J5) base ⟨L.g.I4,L.g.J1,true⟩,I9:=L.I9.set k L.g.I4.length}
  if ln.I6=1 then{L1 with g:=eE C x L1.g (base+1) (dJ x.I7 ln.J0) k x.I5}
  else if ln.I6=2 then{L1 with g:=aA C L1.g (base+1) 17 0 k x.I5}
  else if ln.I6=6 then aU C x k false (base+1) L1
  else{L1 with g:=aA C L1.g (base+1) 11 0 k x.I5,pos:=L1.pos.set k L1.g.I4.length}
def jG (p:List Oj)(k:Nat):Nat:=match elseAt p (aQ p k)with|some j=>j|none=>aQ p k
def bc (C:Cx)(x:Sc)(k:Nat)(ln:Oj)(L:Ls):Ls:=
 if ln.I6=7/\aQ C.p k≠x.f then{L with g:=⟨bI L.g.I4 (atL L.pos (jG C.p k)) L.g.I4.length,L.g.J1,L.g.start⟩} else L
def gD (C:Cx)(rep:Sc->List Nat->Nat->Nat->Int->Gs->Gs)(x:Sc)(inside:List Nat)(base:Int):Nat->Nat->Ls->Ls
 | 0,_,L=>L
 | n+1,k,L=>match C.p[k]? with
  | some ln=>gD C rep x inside base n (k+1) (bc C x k ln (dq C rep x inside base k ln L))
  | none=>L
def cq (C:Cx)(s:Gs):Ls:=⟨s,List.replicate C.p.length 0,List.replicate C.p.length 0,[]⟩
def jK (p:List Oj)(f:Nat):Nat:=(endAt p f).getD 0
def aV (C:Cx)(rep:Sc->List Nat->Nat->Nat->Int->Gs->Gs)(x:Sc)(inside:List Nat)(base:Int)(s:Gs):Gs×List Int:=
 let L:=gD C rep x inside base (jK C.p x.f-x.f) (x.f+1) (cq C s)
 (L.g,L.lv)
def bf (C:Cx):Nat->Sc->List Nat->Nat->Nat->Int->Gs->Gs
 | 0=>fun _ _ _ _ _ s=>s
 | n+1=>jp C (aV C (bf C n))
def eK (C:Cx)(f:Nat):Gs:=aA C ⟨[],(localsOf C.p (f:Int)).length-C.args,false⟩ 0 (if C.L0=true then 13 else 15) C.J2 f []
def bg (C:Cx)(f:Nat):Sc:=⟨f,[],localsOf C.p (f:Int),0,true⟩
def dt (C:Cx)(f:Nat):Gs:=(aV C (bf C C.b.L4.toNat) (bg C f) [f] C.J2 (eK C f)).1
end
end Go.Proofs.P
namespace Go.Proofs.P
open Go.Sim Tryz
theorem aw {α:Type}{l:List α}{k:Nat}{x:α}(h:l[k]?=some x):k<l.length:=by
 rcases l9 k l.length with h'|h'
 ·exact h'
 ·rw[e9 h']at h;cases h
theorem Ay {l:List Oj}{i j e:Nat}(hi:endAt l i=some e)(hj:endAt l j=some e):i=j:=by
 have key:∀{i j:Nat},endAt l i=some e->endAt l j=some e->i<j->False:=by intro i j hi hj N2;obtain⟨x,hx,ho,_,h1,_⟩:=aL hj;obtain⟨m,hm,_,h2⟩:=pb hi N2 h1 hx ho;rw[hj]at hm;injection hm with hm;omega
 rcases D8 i j with h|h|h
 ·exact(key hi hj h).elim
 ·exact h
 ·exact(key hj hi h).elim
theorem pL {l:List Oj}{e:Nat}:∀{n i j:Nat},elseN l e n i=some j->∀k x m,i<=k->k<j->l[k]?=some x->(x.I6=3\/x.I6=5)->endAt l k=some m->m<j
 | 0,_,_,h=>by rw[elseN]at h;cases h
 | n+1,i,j,h=>by
  intro k x m h1 h2 hx h3 hm;rw[elseN]at h;split at h
  ·split at h
   ·rename_i y hy;split at h
    ·injection h with h;omega
    ·split at h
     ·split at h
      ·rename_i m' Rj;have hin:=oG h;obtain⟨_,_,_,_,g1,_⟩:=aL Rj;by_cases hk:k=i
       ·subst hk;rw[Rj]at hm;injection hm with hm;omega
       ·by_cases Pb:k<=m'
        ·by_cases hk3:k=m'
         ·subst hk3;obtain⟨z,hz,h7⟩:=bG Rj;rw[hx]at hz;injection hz with hz;subst hz;omega
         ·obtain⟨m2,Sq,_,g2⟩:=pb Rj o_ o_ hx (by rw[opensK_iff];omega);rw[hm]at Sq;injection Sq with Sq;omega
        ·exact pL h k x m o_ h2 hx h3 hm
      ·rename_i Px;by_cases hk:k=i
       ·subst hk;rw[Px]at hm
        cases hm
       ·exact pL h k x m o_ h2 hx h3 hm
     ·by_cases hk:k=i
      ·subst hk;rw[hx]at hy;injection hy with hy;subst hy;rename_i Ow;exact absurd h3 Ow
      ·exact pL h k x m o_ h2 hx h3 hm
   ·cases h
  ·cases h
theorem mI {l:List Oj}{i j k:Nat}(hi:elseAt l i=some k)(hj:elseAt l j=some k):i=j:=by
 have key:∀{i j:Nat},elseAt l i=some k->elseAt l j=some k->i<j->False:=by
  intro i j hi hj N2;obtain⟨y,ej,hy,h3,Vb,h4,h5,_⟩:=bn hj;unfold elseAt at hi;split at hi
  ·split at hi
   ·have:=pL hi j y ej o_ h4 hy (.inl h3) Vb;omega
   ·cases hi
  ·cases hi
 rcases D8 i j with h|h|h
 ·exact(key hi hj h).elim
 ·exact h
 ·exact(key hj hi h).elim
theorem ug {p:List Oj}{k i:Nat}:∀{n:Nat},Fs p k n=some i->i<n/\(endAt p i=some k\/elseAt p i=some k)
 | 0,h=>by rw[Fs]at h;cases h
 | n+1,h=>by
  rw[Fs]at h;split at h
  ·injection h with h;subst h;exact⟨o_,by assumption⟩
  ·have:=ug h;exact⟨o_,this.2⟩
theorem xt {p:List Oj}{k i:Nat}(hi:endAt p i=some k\/elseAt p i=some k):∀{n:Nat},i<n->∃j,Fs p k n=some j
 | 0,h=>o_
 | n+1,h=>by
  rw[Fs];split
  ·exact⟨_,rfl⟩
  ·by_cases he:i=n
   ·subst he;exact absurd hi aag
   ·exact xt hi o_
theorem jU {p:List Oj}{k i:Nat}(h:endAt p i=some k):aQ p k=i:=by
 obtain⟨x,hx,_,_,_,_⟩:=aL h;obtain⟨j,hj⟩:=xt (.inl h) (aw hx);rw[aQ,hj];obtain⟨_,h1|h1⟩:=ug hj
 ·exact Ay h1 h
 ·obtain⟨_,_,_,_,_,_,_,y,hy,h4⟩:=bn h1;obtain⟨z,hz,h7⟩:=bG h;rw[hy]at hz;injection hz with hz;subst hz;omega
theorem sP {p:List Oj}{k i:Nat}(h:elseAt p i=some k):aQ p k=i:=by
 obtain⟨x,e,hx,_,_,_,_,y,hy,h4⟩:=bn h;obtain⟨j,hj⟩:=xt (.inr h) (aw hx);rw[aQ,hj];obtain⟨_,h1|h1⟩:=ug hj
 ·obtain⟨z,hz,h7⟩:=bG h1;rw[hy]at hz;injection hz with hz;subst hz;omega
 ·exact mI h1 h
theorem nk {l:List Oj}{i:Nat}{x:Oj}(hx:l[i]?=some x)(h7:x.I6=7):∀(n s o e:Nat),i-s<=n->s<=i->1<=o->endN (l.drop s) s o=some e->i<=e->(∃k,s<=k/\k<i/\endAt l k=some i)\/∃j,1<=j/\j<=o/\endN (l.drop s) s j=some i
 | n,s,o,e,hn,hs,ho,h,hi=>by
  have Px:¬cQ x.I6=true:=by rw[opensK_iff];omega
  by_cases he:s=i
  ·subst he;exact .inr ⟨1,d7 _,ho,by rw[ep hx,c8 Px,d5 h7,d5 rfl]⟩
  obtain⟨m,rfl⟩:∃m,n=m+1:=⟨n-1,o_⟩;have hl:=jX h;obtain⟨y,hy⟩:=ab (l:=l) (k:=s) o_;rw[ep hy]at h;by_cases N4:cQ y.I6=true
  ·rw[d5 N4]at h;rcases nk hx h7 m (s+1) (o+1) e o_ o_ o_ h hi with⟨k,h1,h2,h3⟩|⟨j,h1,h2,h3⟩
   ·exact .inl ⟨k,o_,h2,h3⟩
   ·by_cases hj:j=1
    ·subst hj;exact .inl ⟨s,d7 _,o_,by rw[su hy N4];exact h3⟩
    ·exact .inr ⟨j-1,o_,o_,by rw[ep hy,d5 N4,show j-1+1=j by omega];exact h3⟩
  ·rw[c8 N4]at h;by_cases X2:y.I6=7
   ·rw[d5 X2]at h;by_cases ZQ:o=1
    ·rw[d5 ZQ]at h;injection h with h;omega
    ·rw[c8 ZQ]at h;rcases nk hx h7 m (s+1) (o-1) e o_ o_ o_ h hi with⟨k,h1,h2,h3⟩|⟨j,h1,h2,h3⟩
     ·exact .inl ⟨k,o_,h2,h3⟩
     ·exact .inr ⟨j+1,o_,o_,by rw[ep hy,c8 N4,d5 X2,c8 o_,show j+1-1=j by omega];exact h3⟩
   ·rw[c8 X2]at h;rcases nk hx h7 m (s+1) o e o_ o_ ho h hi with⟨k,h1,h2,h3⟩|⟨j,h1,h2,h3⟩
    ·exact .inl ⟨k,o_,h2,h3⟩
    ·exact .inr ⟨j,h1,h2,by rw[ep hy,c8 N4,c8 X2];exact h3⟩
structure CxOk (C:Cx):Prop where
 len:C.p.length<=60
 small:aE 1048576 (.lst 4 (C.p.map Oj.tr))
 line:∀(k:Nat) (ln:Oj),C.p[k]?=some ln->0<=ln.I6/\ln.I6<=7/\ln.K0.length<=4/\ln.J5.length<=20/\((ln.I6=1\/ln.I6=2\/ln.I6=3\/ln.I6=5\/ln.I6=6)->bF ln.J5=true)
 fn:∀(g:Nat) (ln:Oj),C.p[g]?=some ln->ln.I6=0->∃e,endAt C.p g=some e/\(localsOf C.p (g:Int)).length<=8/\ln.K0.length<=(localsOf C.p (g:Int)).length/\∀(k:Nat) (y:Oj),g<k->k<e->C.p[k]?=some y->y.I6≠0/\(∀t∈y.J5,t.I6=7->∃f,findN C.p 0 t.J0=some f/\(argsN C.p f:Int)=t.L3)/\(y.I6=4->∃i,g<=i/\i<k/\elseAt C.p i=some k)
 args:0<=C.args/\C.args<=4
 J2:0<=C.J2/\C.J2<=1000
 inl:0<=C.b.L4/\C.b.L4<=3
structure ScOk (C:Cx) (x:Sc) (ins:List Nat):Prop where
 fn:∃ln,C.p[x.f]?=some ln/\ln.I6=0
 loc:x.I7=localsOf C.p (x.f:Int)
 first:0<=x.first/\x.first<=8*ins.length
 I5:x.I5.length+1=ins.length
 out:x.L2=true↔x.I5=[]
 args:x.L2=true->C.args=argsN C.p x.f
 mem:ins.getLast?=some x.f
section
variable {C:Cx} {x:Sc} {ins:List Nat}
theorem CxOk.argsN (h:CxOk C)(g:Nat):argsN C.p g<=4:=by
 unfold Go.Proofs.P.argsN;split
 ·rename_i l hl;have:=h.line _ _ hl;omega
 ·omega
theorem ScOk.endE (hC:CxOk C)(hx:ScOk C x ins):∃e,endAt C.p x.f=some e/\x.f<e/\e<C.p.length/\jK C.p x.f=e/\x.I7.length<=8:=by obtain⟨ln,h1,h2⟩:=hx.fn;obtain⟨e,h3,h4,h5,_⟩:=hC.fn _ _ h1 h2;obtain⟨_,_,_,_,h6,h7⟩:=aL h3;exact⟨e,h3,h6,h7,by rw[jK,h3];rfl,by rw[hx.loc];exact h4⟩
theorem ScOk.argLe (hC:CxOk C)(hx:ScOk C x ins):argsN C.p x.f<=x.I7.length:=by obtain⟨ln,h1,h2⟩:=hx.fn;obtain⟨e,h3,h4,h5,_⟩:=hC.fn _ _ h1 h2;rw[hx.loc,Go.Proofs.P.argsN,h1];exact h5
theorem ScOk.own7 (hC:CxOk C)(hx:ScOk C x ins){e k:Nat}{ln:Oj}(he:endAt C.p x.f=some e)(h1:x.f<k)(h2:k<=e)(hk:C.p[k]?=some ln)(h7:ln.I6=7):
  endAt C.p (aQ C.p k)=some k/\((k=e/\aQ C.p k=x.f)\/(k<e/\x.f<aQ C.p k/\aQ C.p k<k/\∃y,C.p[aQ C.p k]?=some y/\(y.I6=3\/y.I6=5))):=by
 obtain⟨l0,g1,g2⟩:=hx.fn;obtain⟨e',g3,_,_,g4⟩:=hC.fn _ _ g1 g2;rw[he]at g3;injection g3 with g3;subst g3;by_cases Pr:k=e
 ·subst Pr;rw[jU he];exact⟨he,.inl ⟨rfl,rfl⟩⟩
 ·obtain⟨z,hz,Sd,Z0,_,_⟩:=aL he;rcases nk hk h7 _ (x.f+1) 1 e (d7 _) o_ (d7 _) Z0 h2 with⟨i,k1,k2,k3⟩|⟨j,k1,k2,k3⟩
  ·rw[jU k3];obtain⟨y,hy,XB,_⟩:=aL k3;have:=(g4 i y o_ o_ hy).1;rw[opensK_iff]at XB;exact⟨k3,.inr ⟨o_,o_,k2,y,hy,o_⟩⟩
  ·have:j=1:=o_;subst this;rw[Z0]at k3;injection k3 with k3;omega
theorem ScOk.own4 (hC:CxOk C)(hx:ScOk C x ins){e k:Nat}{ln:Oj}(he:endAt C.p x.f=some e)(h1:x.f<k)(h2:k<=e)(hk:C.p[k]?=some ln)(h4:ln.I6=4):
  elseAt C.p (aQ C.p k)=some k/\x.f<aQ C.p k/\aQ C.p k<k/\k<e:=by
 obtain⟨l0,g1,g2⟩:=hx.fn;obtain⟨e',g3,_,_,g4⟩:=hC.fn _ _ g1 g2;rw[he]at g3;injection g3 with g3;subst g3
 have Pr:k≠e:=fun h=>by
  subst h;obtain⟨y,hy,h7⟩:=bG he;rw[hk]at hy;injection hy with hy;subst hy;omega
 obtain⟨i,k1,k2,k3⟩:=(g4 k ln h1 o_ hk).2.2 h4;rw[sP k3];obtain⟨y,_,hy,h3,_⟩:=bn k3
 have:i≠x.f:=fun h=>by
  subst h;rw[g1]at hy;injection hy with hy;subst hy;omega
 exact⟨k3,o_,k2,o_⟩
end
abbrev tvP (l:List Oj):TV:=tvL 4 (l.map Oj.tr)
abbrev vP (l:List Oj):AV:= .r (.c (.t (.lst 4 (l.map Oj.tr))))
theorem V71{p:Prop}(h:p:=by
 unfold cQ;repeat' ((conv=>whnf);first|refine Or.inl ?_|apply oi|apply fi|intro h|exact Y1|refine e_ rfl ?_)
 all_goals(refine⟨congrArg Tr.bool ?_⟩;simp_all;(try(rw[u7];simp;omega)))):p:=h
theorem rT (k:Int):Sim.Spec prog 214 [tvI k] (rB (cQ k)):=by refine ag hΓ ay func214 rfl d_ rfl ?_;exact V71
theorem nM (k:Int):Sim.Spec prog 192 [tvI k] (rB (cQ k)):=by refine ag hΓ ay func192 rfl d_ rfl ?_;exact V71
abbrev KR (l:List Oj)(k:Nat)(R:Int):={q:Nat×Nat//q.1<=l.length/\q.2<=q.1/\(q.2=0->q.1=k)/\cX (endN (l.drop q.1) q.1 q.2)=R}
theorem xG {l:List Oj}{k:Nat}{x:Oj}(hx:l[k]?=some x)(ho:cQ x.I6=true):endN (l.drop k) k 0=endAt l k:=by rw[ep hx,d5 ho,su hx ho]
theorem Q9{p:Prop}(h:p:=by exact⟨by dsimp only;rw[c6 _ o_];rfl⟩):p:=h
theorem V3{p:Prop}(h:p:=by
 rw[ep hy]at hr
 cases U2:cQ y.I6 with
 | true=>
  rw[U2]at UB;rw[d5 U2]at hr;have h7:y.I6≠7:=by rw[opensK_iff]at U2;omega
  repeat' ((conv=>whnf);first|refine Or.inl ?_|apply oi|apply fi|intro h|refine⟨i,y.tr,rfl,aa hy,?_⟩|refine ci UB (ai rfl trivial) ?_|exact Y3|refine e_ rfl ?_)
  all_goals try exact Q1
  all_goals try exact K3
  conv=>whnf
  refine⟨⟨(i+1,o+1),g_,g_,fun h=>o_,hr⟩,?_,KD⟩;repeat' ((conv=>whnf);first|refine Or.inl ?_|apply oi|apply fi|intro h|exact Y2|refine e_ rfl ?_)
  all_goals exact Q9
 | false=>
  rw[U2]at UB;rw[c8 (by simp[U2])]at hr
  have Ow:o≠0:=fun h=>by
   have:=hs h;subst this;rw[hx]at hy;injection hy with hy;subst hy;rw[ho]at U2
   cases U2
  by_cases h7:y.I6=7
  ·rw[d5 h7]at hr;by_cases h1:o=1
   ·rw[d5 h1]at hr;subst hr;subst h1;repeat' ((conv=>whnf);first|refine Or.inl ?_|apply oi|apply fi|intro h|refine⟨i,y.tr,rfl,aa hy,?_⟩|refine ci UB (ai rfl trivial) ?_|exact Y3|refine e_ rfl ?_)
    all_goals try exact Q1
   ·rw[c8 h1]at hr;repeat' ((conv=>whnf);first|refine Or.inl ?_|apply oi|apply fi|intro h|refine⟨i,y.tr,rfl,aa hy,?_⟩|refine ci UB (ai rfl trivial) ?_|exact Y3|refine e_ rfl ?_)
    all_goals try exact Q1
    all_goals try exact K3
    conv=>whnf
    refine⟨⟨(i+1,o-1),g_,g_,fun h=>o_,hr⟩,?_,KD⟩;repeat' ((conv=>whnf);first|refine Or.inl ?_|apply oi|apply fi|intro h|exact Y2|refine e_ rfl ?_)
    all_goals exact Q21
  ·rw[c8 h7]at hr;repeat' ((conv=>whnf);first|refine Or.inl ?_|apply oi|apply fi|intro h|refine⟨i,y.tr,rfl,aa hy,?_⟩|refine ci UB (ai rfl trivial) ?_|exact Y3|refine e_ rfl ?_)
   all_goals try exact Q1
   all_goals try exact K4
   conv=>whnf
   refine⟨⟨(i+1,o),g_,g_,fun h=>o_,hr⟩,?_,KD⟩
   exact Z3):p:=h
theorem dC (l:List Oj)(k:Int)(hl:l.length<=1048576):Sim.Spec prog 152 [tvP l,tvI k] (rI (bB l k)):=by
 refine ag hΓ ay func152 rfl d_ rfl ?_;have N1:(l.map Oj.tr).length=l.length:=s_;by_cases hin:0<=k/\k<l.length
 ·obtain⟨h0,h1⟩:=hin;obtain⟨k,rfl⟩:=j8 h0;obtain⟨x,hx⟩:=ab (l:=l) (k:=k) o_;have hO:=rT x.I6;have hw:IntKind.i64.wrap (((l.map Oj.tr).length:Int)-1)=(l.length:Int)-1:=by rw[c6 _ o_];omega
  have hb:=ak (k:Int) 0 (IntKind.i64.wrap (((l.map Oj.tr).length:Int)-1));rw[within_iff.2 ⟨h0,by rw[hw];omega⟩]at hb
  cases ho:cQ x.I6 with
  | false=>
   rw[ho]at hO;have:bB l (k:Int)= -1:=(by rw[bu,endAt,hx];dsimp only;rw[c8 aae];rfl);rw[this]
   repeat' ((conv=>whnf);first|refine Or.inl ?_|apply oi|apply fi|intro h|refine ci hb (ai rfl (ai rfl (ai rfl trivial))) ?_|refine⟨k,x.tr,rfl,aa hx,?_⟩|refine ci hO (ai rfl trivial) ?_|exact Y3|refine e_ rfl ?_)
  | true=>
   rw[ho]at hO;obtain⟨R,hR⟩:∃R,bB l (k:Int)=R:=⟨_,rfl⟩;rw[hR];rw[bu,<-xG hx ho]at hR;repeat' ((conv=>whnf);first|refine Or.inl ?_|apply oi|apply fi|intro h|refine ci hb (ai rfl (ai rfl (ai rfl trivial))) ?_|refine⟨k,x.tr,rfl,aa hx,?_⟩|refine ci hO (ai rfl trivial) ?_|exact Y3|refine e_ rfl ?_)
   conv=>whnf
   refine⟨KR l k R,fun q=>⟨[(0,vP l),(5,tI .i64 (q.1.2:Int)),(6,tI .i64 (q.1.1:Int))],[],[]⟩,fun q=>l.length-q.1.1,⟨(k,0),g_,o_,fun _=>rfl,hR⟩,?_,?_⟩
   ·exact Z1
   intro⟨⟨i,o⟩,hi,Vx,hs,hr⟩;dsimp only at hi Vx hs hr⊢;by_cases N2:i<l.length
   ·obtain⟨y,hy⟩:=ab N2;have UB:=rT y.I6;exact V3
   ·rw[lh o_]at hr;subst hr;exact Z4
 ·have:bB l k= -1:=by
   rw[bB];split
   ·rw[endAt,e9 o_];rfl
   ·rfl
  rw[this];have hb:=ak k 0 (IntKind.i64.wrap (((l.map Oj.tr).length:Int)-1));have hw:IntKind.i64.wrap (((l.map Oj.tr).length:Int)-1)=(l.length:Int)-1:=by rw[c6 _ o_];omega
  have hf:af k 0 (IntKind.i64.wrap (((l.map Oj.tr).length:Int)-1))=false:=by cases hx:af k 0 (IntKind.i64.wrap (((l.map Oj.tr).length:Int)-1))with|false=>rfl|true=>have:=within_iff.1 hx;rw[hw]at this;exact absurd ⟨this.1,o_⟩ hin
  rw[hf]at hb;repeat' ((conv=>whnf);first|refine Or.inl ?_|apply oi|apply fi|intro h|refine ci hb (ai rfl (ai rfl (ai rfl trivial))) ?_|exact Y3|refine e_ rfl ?_)
theorem dw (l:List Oj)(k:Int)(hl:l.length<=1048576):Sim.Spec prog 121 [tvP l,tvI k] (rI (bB l k)):=by
 refine ag hΓ ay func121 rfl d_ rfl ?_;have N1:(l.map Oj.tr).length=l.length:=s_;by_cases hin:0<=k/\k<l.length
 ·obtain⟨h0,h1⟩:=hin;obtain⟨k,rfl⟩:=j8 h0;obtain⟨x,hx⟩:=ab (l:=l) (k:=k) o_;have hO:=nM x.I6
  skip
  cases ho:cQ x.I6 with
  | false=>
   rw[ho]at hO;have:bB l (k:Int)= -1:=(by rw[bu,endAt,hx];dsimp only;rw[c8 aae];rfl);rw[this]
   repeat' ((conv=>whnf);first|refine Or.inl ?_|apply oi|apply fi|intro h|refine⟨k,x.tr,rfl,aa hx,?_⟩|refine ci hO (ai rfl trivial) ?_|exact Y3|refine e_ rfl ?_)
  | true=>
   rw[ho]at hO;obtain⟨R,hR⟩:∃R,bB l (k:Int)=R:=⟨_,rfl⟩;rw[hR];rw[bu,<-xG hx ho]at hR;repeat' ((conv=>whnf);first|refine Or.inl ?_|apply oi|apply fi|intro h|refine⟨k,x.tr,rfl,aa hx,?_⟩|refine ci hO (ai rfl trivial) ?_|exact Y3|refine e_ rfl ?_)
   conv=>whnf
   refine⟨KR l k R,fun q=>⟨[(0,vP l),(5,tI .i64 (q.1.2:Int)),(6,tI .i64 (q.1.1:Int))],[],[]⟩,fun q=>l.length-q.1.1,⟨(k,0),g_,o_,fun _=>rfl,hR⟩,?_,?_⟩
   ·exact Z1
   intro⟨⟨i,o⟩,hi,Vx,hs,hr⟩;dsimp only at hi Vx hs hr⊢;by_cases N2:i<l.length
   ·obtain⟨y,hy⟩:=ab N2;have UB:=nM y.I6;exact V3
   ·rw[lh o_]at hr;subst hr;exact Z4
 ·have:bB l k= -1:=by
   rw[bB];split
   ·rw[endAt,e9 o_];rfl
   ·rfl
  rw[this];exact Z4
end Go.Proofs.P
namespace Go.Proofs.P
open Go.Sim Tryz
set_option maxRecDepth 100000
theorem LK {α:Type}{D t:List α}{r:α}{n:Nat}(h:D.length=n):(D++r::t)[n]?=some r:=by subst h;simp
theorem Mk {α:Type}{D t:List α}{r r':α}{n:Nat}(h:D.length=n):(D++r::t).set n r'=D++r'::t:=by subst h;simp
theorem jE (a b:List (List Tr)):aq (a++b)=aq a++aq b:=by simp[aq]
theorem di (a:List (List Tr)):(aq a).length=a.length:=by simp[aq]
theorem ka {l:List (List Tr)}{k:Nat}{r:List Tr}(h:l[k]?=some r):(aq l)[k]?=some (r.map .d):=by simp[aq,h]
theorem rU (l:List (List Tr))(k:Nat)(r:List Tr):(aq l).set k (r.map .d)=aq (l.set k r):=by simp[aq,E4]
theorem aM {A:Prop}{Q:(ι:Type)->(ι->St)->Prop}(h:A):A\/∃(ι:Type) (S:ι->St),Q ι S:=Or.inl h
theorem xU {α:Type}{g:α->List Tr}(l:List α)(h:∀x,∀c∈g x,∀sz rs,c≠.lst sz rs):flat (l.map g):=by intro row hr c hc sz rs;obtain⟨x,_,rfl⟩:=p6.1 hr;exact h x c hc sz rs
theorem gy (l:List Int):flat (l.map ae):=xU _ (by intro x c hc sz rs e;subst e;simp[ae]at hc)
end Go.Proofs.P
namespace Go.Proofs.P
open Go.Sim Tryz
theorem fD (l:List (List UInt8)):flat (l.map ah):=xU _ (by intro x c hc sz rs e;subst e;simp[ah]at hc)
theorem wZ {l:List Oj}{k:Nat}{x:Oj}(hx:l[k]?=some x)(h:x.I6≠3\/endAt l k=none):elseAt l k=none:=by
 unfold elseAt;rw[hx]
 cases he:endAt l k with
 | none=>rfl
 | some e=>
  dsimp only;rw[c8];rcases h with h|h
  ·exact h
  ·rw[he]at h;cases h
theorem V42{p:Prop}(h:p:=by
 have h1:bB l k= -1:=by rw[bB,he];split<;>rfl
 have h2:bv l k= -1:=by
  rw[bv];split
  ·unfold elseAt;rw[he];cases l[k.toNat]?<;>rfl
  ·rfl
 rw[h1]at hE;rw[h2]
 repeat' ((conv=>whnf);first|refine Or.inl ?_|apply oi|apply fi|intro h|refine ci hE (ai rfl (ai rfl trivial)) ?_|exact Y3|refine e_ rfl ?_)):p:=h
theorem V4{p:Prop}(h:p:=by
 by_cases h4:y.I6=4
 ·rw[d5 h4]at hr;subst hr;repeat' ((conv=>whnf);first|refine Or.inl ?_|apply oi|apply fi|intro h|refine ci Wf (ai rfl (ai rfl trivial)) ?_|refine⟨i,y.tr,rfl,aa hy,?_⟩|exact Y3|refine e_ rfl ?_)
  all_goals try exact Q1
 ·rw[c8 h4]at hr;by_cases h5:y.I6=3\/y.I6=5
  ·rw[d5 h5]at hr;obtain⟨m,hm,Tb,Sq⟩:=pb he (i:=i) QZ N2 hy (opensK_iff.2 o_);rw[hm]at hr;dsimp only at hr;rw[bu,br hm]at Wf;repeat' ((conv=>whnf);first|refine Or.inl ?_|apply oi|apply fi|intro h|refine ci Wf (ai rfl (ai rfl trivial)) ?_|refine⟨i,y.tr,rfl,aa hy,?_⟩|exact Y3|refine e_ rfl ?_)
   all_goals try exact Q1
   all_goals
    conv=>whnf
    refine⟨⟨m+1,o_,o_,hr⟩,?_,KD⟩;repeat' ((conv=>whnf);first|refine Or.inl ?_|apply oi|apply fi|intro h|exact Y2|refine e_ rfl ?_)
    all_goals exact Q9
  ·rw[c8 h5]at hr;repeat' ((conv=>whnf);first|refine Or.inl ?_|apply oi|apply fi|intro h|refine ci Wf (ai rfl (ai rfl trivial)) ?_|refine⟨i,y.tr,rfl,aa hy,?_⟩|exact Y3|refine e_ rfl ?_)
   all_goals try exact Q1
   all_goals try exact Q3
   conv=>whnf
   refine⟨⟨i+1,o_,o_,hr⟩,?_,KD⟩;repeat' ((conv=>whnf);first|refine Or.inl ?_|apply oi|apply fi|intro h|exact Y2|refine e_ rfl ?_)
   all_goals exact⟨by dsimp only;rw[c6 _ o_];rfl⟩):p:=h
theorem V39{p:Prop}(h:p:=by
 have h2:bv l (k:Int)= -1:=by rw[bv,d5 h0,e8,wZ hx (.inl h3)];rfl
 rw[h2];repeat' ((conv=>whnf);first|refine Or.inl ?_|apply oi|apply fi|intro h|refine ci hE (ai rfl (ai rfl trivial)) ?_|refine⟨k,x.tr,rfl,aa hx,?_⟩|exact Y3|refine e_ rfl ?_)
 all_goals try(exfalso;(try simp_all[af]);(try omega);done)):p:=h
theorem V58{p:Prop}(h:p:=by
 have h1:bB l k= -1:=by rw[bB,c8 h0]
 have h2:bv l k= -1:=by rw[bv,c8 h0]
 rw[h1]at hE;rw[h2]
 repeat' ((conv=>whnf);first|refine Or.inl ?_|apply oi|apply fi|intro h|refine ci hE (ai rfl (ai rfl trivial)) ?_|exact Y3|refine e_ rfl ?_)):p:=h
theorem qw (l:List Oj)(k:Int)(hl:l.length<=1048576):Sim.Spec prog 155 [tvP l,tvI k] (rI (bv l k)):=by
 refine ag hΓ ay func155 rfl d_ rfl ?_;have N1:(l.map Oj.tr).length=l.length:=s_;have hE:=dC l k hl
 cases he:endAt l k.toNat with
 | none=>exact V42
 | some e=>
  obtain⟨x,hx,ho,_,Pr,Pq⟩:=aL he;by_cases h0:0<=k
  ·obtain⟨k,rfl⟩:=j8 h0;rw[e8]at he hx Pr;rw[bu,br he]at hE;by_cases h3:x.I6=3
   ·obtain⟨R,hR⟩:∃R,bv l (k:Int)=R:=⟨_,rfl⟩;rw[hR]
    have hR:cX (elseN l e (e-(k+1)) (k+1))=R:=by rw[bv,d5 h0,e8,elseAt,hx,he]at hR;dsimp only at hR;rw[d5 h3]at hR;exact hR
    repeat' ((conv=>whnf);first|refine Or.inl ?_|apply oi|apply fi|intro h|refine ci hE (ai rfl (ai rfl trivial)) ?_|refine⟨k,x.tr,rfl,aa hx,?_⟩|exact Y3|refine e_ rfl ?_)
    all_goals try exact Q1
    conv=>whnf
    refine⟨{i:Nat//k<i/\i<=e/\cX (elseN l e (e-i) i)=R},fun q=>⟨[(0,vP l),(5,tI .i64 (e:Int)),(6,tI .i64 (q.1:Int))],[],[]⟩,fun q=>e-q.1,⟨k+1,o_,o_,hR⟩,?_,?_⟩
    ·repeat' ((conv=>whnf);first|refine Or.inl ?_|apply oi|apply fi|intro h|exact Y1|refine e_ rfl ?_)
     all_goals exact Q9
    intro⟨i,QZ,hi,hr⟩;dsimp only at QZ hi hr⊢;by_cases N2:i<e
    ·obtain⟨y,hy⟩:=ab (l:=l) (k:=i) o_;rw[xI N2 hy]at hr;have Wf:=dC l (i:Int) hl;exact V4
    ·rw[zJ o_]at hr;subst hr;exact Z4
   ·exact V39
  ·exact V58
theorem lN (l:List Oj)(k:Int)(hl:l.length<=1048576):Sim.Spec prog 173 [tvP l,tvI k] (rI (bv l k)):=by
 refine ag hΓ ay func173 rfl d_ rfl ?_;have N1:(l.map Oj.tr).length=l.length:=s_;have hE:=dw l k hl
 cases he:endAt l k.toNat with
 | none=>exact V42
 | some e=>
  obtain⟨x,hx,ho,_,Pr,Pq⟩:=aL he;by_cases h0:0<=k
  ·obtain⟨k,rfl⟩:=j8 h0;rw[e8]at he hx Pr;rw[bu,br he]at hE;by_cases h3:x.I6=3
   ·obtain⟨R,hR⟩:∃R,bv l (k:Int)=R:=⟨_,rfl⟩;rw[hR]
    have hR:cX (elseN l e (e-(k+1)) (k+1))=R:=by rw[bv,d5 h0,e8,elseAt,hx,he]at hR;dsimp only at hR;rw[d5 h3]at hR;exact hR
    repeat' ((conv=>whnf);first|refine Or.inl ?_|apply oi|apply fi|intro h|refine ci hE (ai rfl (ai rfl trivial)) ?_|refine⟨k,x.tr,rfl,aa hx,?_⟩|exact Y3|refine e_ rfl ?_)
    all_goals try exact Q1
    conv=>whnf
    refine⟨{i:Nat//k<i/\i<=e/\cX (elseN l e (e-i) i)=R},fun q=>⟨[(0,vP l),(5,tI .i64 (e:Int)),(6,tI .i64 (q.1:Int))],[],[]⟩,fun q=>e-q.1,⟨k+1,o_,o_,hR⟩,?_,?_⟩
    ·repeat' ((conv=>whnf);first|refine Or.inl ?_|apply oi|apply fi|intro h|exact Y1|refine e_ rfl ?_)
     all_goals exact Q9
    intro⟨i,QZ,hi,hr⟩;dsimp only at QZ hi hr⊢;by_cases N2:i<e
    ·obtain⟨y,hy⟩:=ab (l:=l) (k:=i) o_;rw[xI N2 hy]at hr;have Wf:=dw l (i:Int) hl;exact V4
    ·rw[zJ o_]at hr;subst hr;exact Z4
   ·exact V39
  ·exact V58
theorem V9{p:Prop}(h:p:=by
 obtain⟨x,hx⟩:=ab N2;rw[my hx]at hr;by_cases h0:x.I6=0
 ·rw[d5 h0]at hr;repeat' ((conv=>whnf);first|refine Or.inl ?_|apply oi|apply fi|intro h|refine⟨k,x.tr,rfl,aa hx,?_⟩|exact Y3|refine e_ rfl ?_)
  all_goals try exact Q1
  all_goals try exact Q11
  conv=>whnf
  refine⟨⟨(k+1,acc++[k]),g_,by simp;omega,by rw[<-hr];simp⟩,?_,KD⟩;repeat' ((conv=>whnf);first|refine Or.inl ?_|apply oi|apply fi|intro h|exact Y2|refine e_ rfl ?_)
  all_goals exact⟨by simp[ae]⟩
 ·rw[c8 h0,p8]at hr;repeat' ((conv=>whnf);first|refine Or.inl ?_|apply oi|apply fi|intro h|refine⟨k,x.tr,rfl,aa hx,?_⟩|exact Y3|refine e_ rfl ?_)
  all_goals try exact Q1
  conv=>whnf
  refine⟨⟨(k+1,acc),g_,g_,hr⟩,?_,KD⟩
  exact Z3):p:=h
theorem cy (l:List Oj)(hl:l.length<=1048576):Sim.Spec prog 88 [tvP l] (rL 1 ((az l).map fun n:Nat=>ae n)):=by
 refine ag hΓ ay func88 rfl d_ rfl ?_;have N1:(l.map Oj.tr).length=l.length:=s_;obtain⟨R,hR⟩:∃R,az l=R:=⟨_,rfl⟩;rw[hR];repeat' ((conv=>whnf);first|refine Or.inl ?_|apply oi|apply fi|intro h|exact Y1|refine e_ rfl ?_)
 conv=>whnf
 refine⟨{q:Nat×List Nat//q.1<=l.length/\q.2.length<=q.1/\q.2++funsF (l.drop q.1) q.1=R},fun q=>⟨[(0,vP l),(3,.r (.c (.own (6,0,0)))),(7,vP l),(8,tI .i64 ((l.map Oj.tr).length:Int)),(9,tI .i64 (q.1.1:Int))],[((6,0,0),some (.arr true 1 (q.1.2.map fun n:Nat=>ae n)))],[6]⟩,fun q=>l.length-q.1.1,⟨(0,[]),s_,s_,by simpa [az]using hR⟩,?_,?_⟩
 ·exact Z1
 intro⟨⟨k,acc⟩,hk,OC,hr⟩;dsimp only at hk OC hr⊢;have RM:(acc.map fun n:Nat=>ae n).length=acc.length:=s_;by_cases N2:k<l.length
 ·exact V9
 ·rw[d8 o_,funsF,i9]at hr;subst hr;exact Z4
theorem er (l:List Oj)(hl:l.length<=1048576):Sim.Spec prog 62 [tvP l] (rL 1 ((az l).map fun n:Nat=>ae n)):=by
 refine ag hΓ ay func62 rfl d_ rfl ?_;have N1:(l.map Oj.tr).length=l.length:=s_;obtain⟨R,hR⟩:∃R,az l=R:=⟨_,rfl⟩;rw[hR];repeat' ((conv=>whnf);first|refine Or.inl ?_|apply oi|apply fi|intro h|exact Y1|refine e_ rfl ?_)
 conv=>whnf
 refine⟨{q:Nat×List Nat//q.1<=l.length/\q.2.length<=q.1/\q.2++funsF (l.drop q.1) q.1=R},fun q=>⟨[(0,vP l),(3,.r (.c (.own (5,0,0)))),(4,tI .i64 (q.1.1:Int))],[((5,0,0),some (.arr true 1 (q.1.2.map fun n:Nat=>ae n)))],[5]⟩,fun q=>l.length-q.1.1,⟨(0,[]),s_,s_,by simpa [az]using hR⟩,?_,?_⟩
 ·exact Z1
 intro⟨⟨k,acc⟩,hk,OC,hr⟩;dsimp only at hk OC hr⊢;have RM:(acc.map fun n:Nat=>ae n).length=acc.length:=s_;by_cases N2:k<l.length
 ·exact V9
 ·rw[d8 o_,funsF,i9]at hr;subst hr;exact Z4
theorem V17{p:Prop}(h:p:=by
 obtain⟨x,hx⟩:=ab N2;rw[Em hx]at hr;by_cases h0:x.I6=0/\x.J0=s
 ·rw[d5 h0]at hr;obtain⟨h1,h2⟩:=h0;subst h2;subst hr;repeat' ((conv=>whnf);first|refine Or.inl ?_|apply oi|apply fi|intro h|refine⟨k,x.tr,rfl,aa hx,?_⟩|exact Y3|refine e_ rfl ?_)
  all_goals try exact Q1
 ·rw[c8 h0]at hr;repeat' ((conv=>whnf);first|refine Or.inl ?_|apply oi|apply fi|intro h|refine⟨k,x.tr,rfl,aa hx,?_⟩|exact Y3|refine e_ rfl ?_)
  all_goals try(exfalso;apply h0;simp_all;done)
  all_goals
   conv=>whnf
   refine⟨⟨k+1,o_,hr⟩,?_,KD⟩
   exact Z3):p:=h
theorem fS (l:List Oj)(s:List UInt8)(hl:l.length<=1048576):Sim.Spec prog 153 [tvP l,tvS s] (rI (fY l s)):=by
 refine ag hΓ ay func153 rfl d_ rfl ?_;have N1:(l.map Oj.tr).length=l.length:=s_;obtain⟨R,hR⟩:∃R,fY l s=R:=⟨_,rfl⟩;rw[hR];repeat' ((conv=>whnf);first|refine Or.inl ?_|apply oi|apply fi|intro h|exact Y1|refine e_ rfl ?_)
 conv=>whnf
 refine⟨{k:Nat//k<=l.length/\cX (findN (l.drop k) k s)=R},fun q=>⟨[(0,vP l),(1,tS s),(7,vP l),(8,tI .i64 ((l.map Oj.tr).length:Int)),(9,tI .i64 (q.1:Int))],[],[]⟩,fun q=>l.length-q.1,⟨0,o_,hR⟩,?_,?_⟩
 ·exact Z1
 intro⟨k,hk,hr⟩;dsimp only at hk hr⊢;by_cases N2:k<l.length
 ·exact V17
 ·rw[d8 o_,findN]at hr;subst hr;exact Z4
theorem eC (l:List Oj)(s:List UInt8)(hl:l.length<=1048576):Sim.Spec prog 120 [tvP l,tvS s] (rI (fY l s)):=by
 refine ag hΓ ay func120 rfl d_ rfl ?_;have N1:(l.map Oj.tr).length=l.length:=s_;obtain⟨R,hR⟩:∃R,fY l s=R:=⟨_,rfl⟩;rw[hR];repeat' ((conv=>whnf);first|refine Or.inl ?_|apply oi|apply fi|intro h|exact Y1|refine e_ rfl ?_)
 conv=>whnf
 refine⟨{k:Nat//k<=l.length/\cX (findN (l.drop k) k s)=R},fun q=>⟨[(0,vP l),(1,tS s),(5,tI .i64 (q.1:Int))],[],[]⟩,fun q=>l.length-q.1,⟨0,o_,hR⟩,?_,?_⟩
 ·exact Z1
 intro⟨k,hk,hr⟩;dsimp only at hk hr⊢;by_cases N2:k<l.length
 ·exact V17
 ·rw[d8 o_,findN]at hr;subst hr;exact Z4
abbrev rN (l:List (List UInt8)):Res:=rL 1 (l.map ah)
theorem vw {l:List Oj}{k e:Nat}{x:Oj}(hx:l[k]?=some x)(he:endAt l k=some e)(h0:x.I6=0):localsOf l (k:Int)=locN l e (e-k) k x.K0:=by rw[localsOf,d5 o_,e8,hx,he];dsimp only;rw[d5 h0]
theorem iT {l:List Oj}{k:Int}(h:∀e x,endAt l k.toNat=some e->l[k.toNat]?=some x->0<=k->x.I6≠0):localsOf l k=[]:=by
 rw[localsOf];split
 ·split
  ·rename_i x e hx he;rw[c8 (h e x he hx aag)]
  ·rfl
 ·rfl
theorem zL {l:List Oj}{k:Int}(hl:l.length<=1048576)(hs:∀x∈l,aX 1048576 x.tr):(localsOf l k).length<=2097152/\True:=by
 refine⟨?_,trivial⟩;rw[localsOf];split
 ·split
  ·rename_i x e hx he;obtain⟨_,_,_,_,h1,h2⟩:=aL he;have:=(dg (hs x (b9 hx))).2.1;split
   ·have:=Eh (l:=l) (e:=e) (e-k.toNat) k.toNat x.K0;omega
   ·simp
  ·simp
 ·simp
theorem gf (l:List (List UInt8))(s:List UInt8)(hl:l.length<=2097152):Sim.Spec prog 176 [tvL 1 (l.map ah),tvS s] (rI (dJ l s)):=by
 refine ag hΓ ay func176 rfl d_ rfl ?_;have N1:(l.map ah).length=l.length:=s_;obtain⟨R,hR⟩:∃R,dJ l s=R:=⟨_,rfl⟩;rw[hR];repeat' ((conv=>whnf);first|refine Or.inl ?_|apply oi|apply fi|intro h|exact Y1|refine e_ rfl ?_)
 conv=>whnf
 refine⟨{k:Nat//k<=l.length/\cX (lM (l.drop k) k s)=R},fun k=>⟨[(0,.r (.c (.t (.lst 1 (l.map ah))))),(1,tS s),(5,tI .i64 (k.1:Int))],[],[]⟩,fun k=>l.length-k.1,⟨0,o_,hR⟩,?_,?_⟩
 ·exact Z1
 intro⟨k,hk,hr⟩;dsimp only at hk hr⊢;by_cases N2:k<l.length
 ·exact V16
 ·rw[d8 o_,lM]at hr;subst hr;exact Z4
theorem V64{p:Prop}(h:p:=by
 rw[km he]at hE;rw[iT (fun e x h1 _ _=>by rw[e8,he]at h1;cases h1)]
 repeat' ((conv=>whnf);first|refine Or.inl ?_|apply oi|apply fi|intro h|refine ci hE (ai rfl (ai rfl trivial)) ?_|exact Y3|refine e_ rfl ?_)):p:=h
theorem V41{p:Prop}(h:p:=by
 rw[d5 rfl]at hr;repeat' ((conv=>whnf);first|refine Or.inl ?_|apply oi|apply fi|intro h|refine ci hC (ai rfl (ai rfl trivial)) ?_|refine⟨i,y.tr,rfl,aa hy,?_⟩|exact Y3|refine e_ rfl ?_)
 all_goals try exact Q1
 all_goals
  conv=>whnf
  refine⟨⟨(i+1,acc),g_,g_,g_,hr⟩,?_,KD⟩
  exact Z3):p:=h
theorem V19{p:Prop}(h:p:=by
 rw[c8 s_]at hr;repeat' ((conv=>whnf);first|refine Or.inl ?_|apply oi|apply fi|intro h|refine ci hC (ai rfl (ai rfl trivial)) ?_|refine⟨i,y.tr,rfl,aa hy,?_⟩|exact Y3|refine e_ rfl ?_)
 all_goals try exact Q1
 all_goals try exact Q11
 all_goals
  conv=>whnf
  refine⟨⟨(i+1,acc++[y.J0]),g_,g_,by simp;omega,hr⟩,?_,KD⟩;repeat' ((conv=>whnf);first|refine Or.inl ?_|apply oi|apply fi|intro h|exact Y2|refine e_ rfl ?_)
  all_goals exact⟨by simp[ah]⟩):p:=h
theorem V36{p:Prop}(h:p:=by
 rw[c8 h1]at hr;repeat' ((conv=>whnf);first|refine Or.inl ?_|apply oi|apply fi|intro h|refine ci hC (ai rfl (ai rfl trivial)) ?_|refine⟨i,y.tr,rfl,aa hy,?_⟩|exact Y3|refine e_ rfl ?_)
 all_goals try exact Q1
 all_goals try exact Q3
 conv=>whnf
 refine⟨⟨(i+1,acc),g_,g_,g_,hr⟩,?_,KD⟩
 exact Z3):p:=h
theorem V102{p:Prop}(h:p:=by
 rw[Ew o_]at hr;subst hr;repeat' ((conv=>whnf);first|refine Or.inl ?_|apply oi|apply fi|intro h|exact Y3|refine e_ rfl ?_)
 all_goals exact⟨⟨rfl,fD _⟩⟩):p:=h
theorem V38{p:Prop}(h:p:=by
 rw[iT (fun e x' h1 h2 _=>by rw[e8,hx]at h2;injection h2 with h2;subst h2;exact O6)];repeat' ((conv=>whnf);first|refine Or.inl ?_|apply oi|apply fi|intro h|refine ci hE (ai rfl (ai rfl trivial)) ?_|refine⟨k,x.tr,rfl,aa hx,?_⟩|exact Y3|refine e_ rfl ?_)
 all_goals try(exfalso;(try simp_all[af]);(try omega);done)):p:=h
theorem V62{p:Prop}(h:p:=by
 have h1:bB l k= -1:=by rw[bB,c8 h0]
 rw[h1]at hE;rw[iT (fun e x _ _ h=>absurd h h0)]
 repeat' ((conv=>whnf);first|refine Or.inl ?_|apply oi|apply fi|intro h|refine ci hE (ai rfl (ai rfl trivial)) ?_|exact Y3|refine e_ rfl ?_)):p:=h
theorem jC (l:List Oj)(k:Int)(hl:l.length<=1048576)(hs:∀x∈l,aX 1048576 x.tr):Sim.Spec prog 215 [tvP l,tvI k] (rN (localsOf l k)):=by
 refine ag hΓ ay func215 rfl d_ rfl ?_;have N1:(l.map Oj.tr).length=l.length:=s_;have hE:=dC l k hl;by_cases h0:0<=k
 ·obtain⟨k,rfl⟩:=j8 h0;rw[bu]at hE
  cases he:endAt l k with
  | none=>exact V64
  | some e=>
   rw[br he]at hE;obtain⟨x,hx,ho,_,Pr,Pq⟩:=aL he;by_cases O6:x.I6=0
   ·have TF:=dg (hs x (b9 hx));rw[vw hx he O6];obtain⟨R,hR⟩:∃R,locN l e (e-k) k x.K0=R:=⟨_,rfl⟩;rw[hR];have OC:(x.K0.map ah).length=x.K0.length:=s_;repeat' ((conv=>whnf);first|refine Or.inl ?_|apply oi|apply fi|intro h|refine ci hE (ai rfl (ai rfl trivial)) ?_|refine⟨k,x.tr,rfl,aa hx,?_⟩|exact Y3|refine e_ rfl ?_)
    all_goals try exact Q1
    all_goals try exact Q11
    conv=>whnf
    refine⟨{q:Nat×List (List UInt8)//k<=q.1/\q.1<=e/\q.2.length<=1048576+q.1/\locN l e (e-q.1) q.1 q.2=R},fun q=>⟨[(0,vP l),(5,tI .i64 (e:Int)),(6,.r (.c (.own (6,0,0)))),(7,tI .i64 (q.1.1:Int))],[((6,0,0),some (.arr false 1 (q.1.2.map ah)))],[6]⟩,fun q=>e-q.1.1,⟨(k,x.K0),g_,g_,g_,hR⟩,?_,?_⟩
    ·repeat' ((conv=>whnf);first|refine Or.inl ?_|apply oi|apply fi|intro h|exact Y1|refine e_ rfl ?_)
     all_goals exact⟨s_⟩
    intro⟨⟨i,acc⟩,QZ,hi,QP,hr⟩;dsimp only at QZ hi QP hr⊢;have PT:(acc.map ah).length=acc.length:=s_;by_cases N2:i<e
    ·obtain⟨y,hy⟩:=ab (l:=l) (k:=i) o_;rw[Bd N2 hy]at hr;have hC:=go acc y.J0 o_;by_cases h1:y.I6=1
     ·rw[d5 h1]at hr;unfold lk at hr
      cases hc:acc.contains y.J0 with
      | true=>
       rw[hc]at hC hr
       exact V41
      | false=>rw[hc]at hC hr;exact V19
     ·exact V36
    ·exact V102
   ·exact V38
 ·exact V62
theorem jz (l:List Oj)(k:Int)(hl:l.length<=1048576)(hs:∀x∈l,aX 1048576 x.tr):Sim.Spec prog 172 [tvP l,tvI k] (rN (localsOf l k)):=by
 refine ag hΓ ay func172 rfl d_ rfl ?_;have N1:(l.map Oj.tr).length=l.length:=s_;have hE:=dw l k hl;by_cases h0:0<=k
 ·obtain⟨k,rfl⟩:=j8 h0;rw[bu]at hE
  cases he:endAt l k with
  | none=>exact V64
  | some e=>
   rw[br he]at hE;obtain⟨x,hx,ho,_,Pr,Pq⟩:=aL he;by_cases O6:x.I6=0
   ·have TF:=dg (hs x (b9 hx));rw[vw hx he O6];obtain⟨R,hR⟩:∃R,locN l e (e-k) k x.K0=R:=⟨_,rfl⟩;rw[hR];have OC:(x.K0.map ah).length=x.K0.length:=s_;repeat' ((conv=>whnf);first|refine Or.inl ?_|apply oi|apply fi|intro h|refine ci hE (ai rfl (ai rfl trivial)) ?_|refine⟨k,x.tr,rfl,aa hx,?_⟩|exact Y3|refine e_ rfl ?_)
    all_goals try exact Q1
    all_goals try exact Q11
    conv=>whnf
    refine⟨{q:Nat×List (List UInt8)//k<=q.1/\q.1<=e/\q.2.length<=1048576+q.1/\locN l e (e-q.1) q.1 q.2=R},fun q=>⟨[(0,vP l),(5,tI .i64 (e:Int)),(6,.r (.c (.own (6,0,0)))),(7,tI .i64 (q.1.1:Int))],[((6,0,0),some (.arr false 1 (q.1.2.map ah)))],[6]⟩,fun q=>e-q.1.1,⟨(k,x.K0),g_,g_,g_,hR⟩,?_,?_⟩
    ·repeat' ((conv=>whnf);first|refine Or.inl ?_|apply oi|apply fi|intro h|exact Y1|refine e_ rfl ?_)
     all_goals exact⟨s_⟩
    intro⟨⟨i,acc⟩,QZ,hi,QP,hr⟩;dsimp only at QZ hi QP hr⊢;have PT:(acc.map ah).length=acc.length:=s_;by_cases N2:i<e
    ·obtain⟨y,hy⟩:=ab (l:=l) (k:=i) o_;rw[Bd N2 hy]at hr;have hC:=gf acc y.J0 o_;by_cases h1:y.I6=1
     ·rw[d5 h1]at hr;have Rp:=pU (l:=acc) (s:=y.J0)
      generalize dJ acc y.J0=ix at *
      unfold lk at hr
      cases hc:acc.contains y.J0 with
      | true=>
       rw[hc]at Rp hr
       exact V41
      | false=>rw[hc]at Rp hr;exact V19
     ·exact V36
    ·exact V102
   ·exact V38
 ·exact V62
abbrev vN (l:List (List UInt8)):AV:= .r (.c (.t (.lst 1 (l.map ah))))
theorem Gc {α:Type}{f:α->Bool}{l:List α}{k:Nat}{x:α}(hx:l[k]?=some x):(l.drop k).all f=(f x&&(l.drop (k+1)).all f):=by rw[aP hx,G3]
theorem V48{p:Prop}(h:p:=by
 repeat' ((conv=>whnf);first|refine Or.inl ?_|apply oi|apply fi|intro h|refine⟨k,t.tr,rfl,aa ht,?_⟩|refine ci hC (ai rfl (ai rfl trivial)) ?_|refine ci hF (ai rfl (ai rfl trivial)) ?_|exact Y3|refine e_ rfl ?_)
 all_goals try(exfalso;(try simp_all[af]);(try omega);done)):p:=h
theorem V35{p:Prop}(h:p:=by
 repeat' ((conv=>whnf);first|refine Or.inl ?_|apply oi|apply fi|intro h|refine⟨k,t.tr,rfl,aa ht,?_⟩|refine ci hC (ai rfl (ai rfl trivial)) ?_|refine ci hF (ai rfl (ai rfl trivial)) ?_|exact Y3|refine e_ rfl ?_)
 all_goals try exact Q1
 all_goals try exact Q3
 conv=>whnf
 refine⟨⟨k+1,o_,hr⟩,?_,KD⟩
 exact Z3):p:=h
theorem uv (l:List Oj)(loc:List (List UInt8))(ts:List Ou)(hl:l.length<=1048576)(SF:loc.length<=4194304)(Qv:ts.length<=1048576):Sim.Spec prog 216 [tvP l,tvL 1 (loc.map ah),tvL 3 (ts.map Ou.tr)] (rB (bX l loc ts)):=by
 refine ag hΓ ay func216 rfl d_ rfl ?_;have N1:(ts.map Ou.tr).length=ts.length:=s_;have aaj:(l.map Oj.tr).length=l.length:=s_;obtain⟨R,hR⟩:∃R,bX l loc ts=R:=⟨_,rfl⟩;rw[hR];repeat' ((conv=>whnf);first|refine Or.inl ?_|apply oi|apply fi|intro h|exact Y1|refine e_ rfl ?_)
 conv=>whnf
 refine⟨{k:Nat//k<=ts.length/\(ts.drop k).all (cv l loc)=R},fun q=>⟨[(0,vP l),(1,vN loc),(10,.r (.c (.t (.lst 3 (ts.map Ou.tr))))),(11,tI .i64 ((ts.map Ou.tr).length:Int)),(12,tI .i64 (q.1:Int))],[],[]⟩,fun q=>ts.length-q.1,⟨0,o_,hR⟩,?_,?_⟩
 ·exact Z1
 intro⟨k,hk,hr⟩;dsimp only at hk hr⊢;by_cases N2:k<ts.length
 ·obtain⟨t,ht⟩:=ab N2;rw[Gc ht]at hr;have hC:=go loc t.J0 SF;have hF:=fS l t.J0 hl;by_cases h1:t.I6=1
  ·have e1:cv l loc t=loc.contains t.J0:=(by unfold cv;rw[d5 h1]);rw[e1]at hr
   cases hc:loc.contains t.J0 with
   | false=>
    rw[hc]at hC hr;rw[q9]at hr;subst hr
    exact V48
   | true=>rw[hc]at hC hr;rw[m7]at hr;exact V35
  ·by_cases h7:t.I6=7
   ·cases hf:findN l 0 t.J0 with
    | none=>
     have e1:cv l loc t=false:=(by unfold cv;rw[c8 h1,d5 h7,hf]);rw[e1,q9]at hr;subst hr;rw[show fY l t.J0= -1 from km hf]at hF
     exact V48
    | some f=>
     obtain⟨OA,x,hx,QR,_⟩:=eV hf;have e1:cv l loc t=((x.K0.length:Int)==t.L3):=(by unfold cv;rw[c8 h1,d5 h7,hf];dsimp only;rw[hx]);rw[e1]at hr;rw[show fY l t.J0=(f:Int) from br hf]at hF;have Rv:(x.K0.map ah).length=x.K0.length:=s_;by_cases hn:(x.K0.length:Int)=t.L3
     ·rw[x7.2 hn,m7]at hr;repeat' ((conv=>whnf);first|refine Or.inl ?_|apply oi|apply fi|intro h|refine⟨k,t.tr,rfl,aa ht,?_⟩|refine⟨f,x.tr,rfl,aa hx,?_⟩|refine ci hC (ai rfl (ai rfl trivial)) ?_|refine ci hF (ai rfl (ai rfl trivial)) ?_|exact Y3|refine e_ rfl ?_)
      all_goals try exact Q1
      all_goals try exact Q3
      conv=>whnf
      refine⟨⟨k+1,o_,hr⟩,?_,KD⟩;exact Z3
     ·rw[x5.2 hn,q9]at hr;subst hr;repeat' ((conv=>whnf);first|refine Or.inl ?_|apply oi|apply fi|intro h|refine⟨k,t.tr,rfl,aa ht,?_⟩|refine⟨f,x.tr,rfl,aa hx,?_⟩|refine ci hC (ai rfl (ai rfl trivial)) ?_|refine ci hF (ai rfl (ai rfl trivial)) ?_|exact Y3|refine e_ rfl ?_)
      all_goals try exact Q1
      all_goals try exact Q3
   ·have e1:cv l loc t=true:=(by unfold cv;rw[c8 h1,c8 h7]);rw[e1,m7]at hr;exact V35
 ·rw[d8 o_,List.all_nil]at hr;subst hr;exact Z4
def eQ (n:Nat):List Tr:=ae n
theorem qn {x:Oj}(h:cF x=true)(hk:x.I6=7):x.J5=[]:=by unfold cF at h;simp only[c9]at h;have h3:=h.2.2.2;rw[c8 (by rw[hk];decide)]at h3;exact A8.1 (B6 h3)
def NN (i:Nat)(st es:List Nat):Prop:=st=es\/st=(i-1)::es
theorem md (m:Nat)(r:List Nat):((m::r).reverse.map eQ)[r.length]?=some (eQ m):=s_
theorem StkOk.top {l:List Oj}{e i m:Nat}{r:List Nat}(h:StkOk l e i (m::r)):i<=m:=h.1
theorem V32{p:Prop}(h:p:=by
 rw[PQ]at hX g4;rw[c8 s_]at g4;subst g4;repeat' ((conv=>whnf);first|refine Or.inl ?_|apply oi|apply fi|intro h|refine ci hE (ai rfl (ai rfl trivial)) ?_|refine ci hX (ai rfl (ai rfl (ai rfl trivial))) ?_|refine⟨i,y.tr,rfl,aa hy,?_⟩|exact Y3|refine e_ rfl ?_)
 all_goals try exact Q1
 all_goals try(exfalso;simp_all;done)):p:=h
theorem V149{p:Prop}(h:p:=by
 cases hh:cQ y.I6 with
 | false=>rfl
 | true=>rw[opensK_iff]at hh;omega):p:=h
theorem V25{p:Prop}(h:p:=by
 rw[PQ]at hX g4;rw[c8 s_]at g4;subst g4;repeat' ((conv=>whnf);first|refine Or.inl ?_|apply oi|apply fi|intro h|refine⟨r.length,hw,aap,?_⟩|refine⟨(eQ m),(md m r),?_⟩|refine ci hE (ai rfl (ai rfl trivial)) ?_|refine ci hX (ai rfl (ai rfl (ai rfl trivial))) ?_|refine⟨i,y.tr,rfl,aa hy,?_⟩|exact Y3|refine e_ rfl ?_)
 all_goals try exact Q1
 all_goals try(exfalso;simp_all;done)):p:=h
theorem Q2{p:Prop}(h:p:=by exact⟨⟨by simp<;>omega,by simp<;>omega⟩⟩):p:=h
theorem Q13{p:Prop}(h:p:=by exfalso;simp at h;omega):p:=h
theorem sr (l:List Oj)(k e:Nat)(hl:l.length<=60)(hs:∀x∈l,aX 1048576 x.tr)(N7:∀x∈l,cF x=true)(he:endAt l k=some e):Sim.Spec prog 154 [tvP l,tvI k,tvI e] (rB (lc l k e)):=by
 refine ag hΓ ay func154 rfl d_ rfl ?_;have N1:(l.map Oj.tr).length=l.length:=s_;have hL:=jC l k o_ hs;obtain⟨Wu,Ww⟩:=zL (l:=l) (k:=(k:Int)) o_ hs;have Vi:=(aL he);obtain⟨x0,QR,ho0,Vc,Pr,Pq⟩:=Vi;unfold lc
 generalize localsOf l (k:Int)=loc at *
 have PO:(loc.map ah).length=loc.length:=s_;by_cases h8:loc.length<=8
 ·rw[r7 h8,m7];obtain⟨R,hR⟩:∃R,kE l loc e (e-(k+1)) (k+1) 0=R:=⟨_,rfl⟩;rw[hR];repeat' ((conv=>whnf);first|refine Or.inl ?_|apply oi|apply fi|intro h|refine ci hL (ai rfl (ai rfl trivial)) ?_|exact Y3|refine e_ rfl ?_)
  conv=>whnf
  refine⟨{q:Nat×List Nat×List Nat//k<q.1/\q.1<=e+1/\q.2.1.length<=5/\(q.1=e+1->R=true)/\(q.1<=e->StkOk l e q.1 q.2.2/\q.2.2.length<=4/\NN q.1 q.2.1 q.2.2/\kE l loc e (e-q.1) q.1 q.2.2.length=R)},fun q=>⟨[(0,vP l),(2,tI .i64 (e:Int)),(7,.r (.c (.own (7,0,0)))),(8,.r (.c (.own (8,0,0)))),(9,tI .i64 (q.1.1:Int))],[((7,0,0),some (.arr true 1 (loc.map ah))),((8,0,0),some (.arr false 1 (q.1.2.1.reverse.map eQ)))],[7,8]⟩,fun q=>e+1-q.1.1,⟨(k+1,[],[]),g_,g_,s_,fun h=>by dsimp only at h;omega,fun _=>⟨Vc,s_,.inl rfl,hR⟩⟩,?_,?_⟩
  ·repeat' ((conv=>whnf);first|refine Or.inl ?_|apply oi|apply fi|intro h|exact Y2|refine e_ rfl ?_)
   all_goals exact⟨s_⟩
  intro⟨⟨i,st,es⟩,q1,q2,q3,q4,q5⟩;dsimp only at q1 q2 q3 q4 q5⊢;by_cases PZ:i<=e
  ·obtain⟨y,hy⟩:=ab (l:=l) (k:=i) o_;obtain⟨g1,g2,g3,g4⟩:=q5 PZ;have hE:=dC l (i:Int) o_;have hX:=uv l loc y.J5 o_ o_ (by have:=(dg (hs y (b9 hy))).2.2.2.1;omega);repeat' ((conv=>whnf);first|refine Or.inl ?_|apply oi|apply fi|intro h|exact Y3|refine e_ rfl ?_)
   conv=>whnf
   refine⟨{u:List Nat//NN i u es},fun q=>⟨[(0,vP l),(2,tI .i64 (e:Int)),(7,.r (.c (.own (7,0,0)))),(8,.r (.c (.own (8,0,0)))),(9,tI .i64 (i:Int))],[((7,0,0),some (.arr true 1 (loc.map ah))),((8,0,0),some (.arr false 1 (q.1.reverse.map eQ)))],[7,8]⟩,fun q=>q.1.length,⟨st,g3⟩,?_,?_⟩
   ·exact Z1
   intro⟨u,hu⟩;dsimp only at hu⊢;have P8:(u.reverse.map eQ).length=u.length:=s_
   cases u with
   | nil=>
    have YG:es=[]:=by
     rcases hu with h|h
     ·exact h.symm
     ·cases h
    subst YG;by_cases N2:i<e
    ·rw[xW N2 hy]at g4;by_cases h0:y.I6=0
     ·rw[d5 h0]at g4;subst g4;repeat' ((conv=>whnf);first|refine Or.inl ?_|apply oi|apply fi|intro h|refine ci hE (ai rfl (ai rfl trivial)) ?_|refine ci hX (ai rfl (ai rfl (ai rfl trivial))) ?_|refine⟨i,y.tr,rfl,aa hy,?_⟩|exact Y3|refine e_ rfl ?_)
      all_goals try exact Q1
     ·rw[c8 h0]at g4;by_cases RU:y.I6=3\/y.I6=5
      ·have hd:dep y ([]:List Nat).length=([]:List Nat).length+1:=(by unfold dep;rw[d5 RU]);rw[hd]at g4;obtain⟨m',Rj,ZE,Pc⟩:=g1.push hy (opensK_iff.2 o_);rw[bu,br Rj]at hE;by_cases hc:([]:List Nat).length+1<=4/\bX l loc y.J5=true
       ·obtain⟨c1,c2⟩:=hc;rw[d5 ⟨c1,c2⟩]at g4;rw[c2]at hX;repeat' ((conv=>whnf);first|refine Or.inl ?_|apply oi|apply fi|intro h|refine ci hE (ai rfl (ai rfl trivial)) ?_|refine ci hX (ai rfl (ai rfl (ai rfl trivial))) ?_|refine⟨i,y.tr,rfl,aa hy,?_⟩|exact Y3|refine e_ rfl ?_)
        all_goals try exact Q1
        all_goals try exact Q13
        all_goals try exact Q2
        all_goals try exact Q3
        all_goals
         conv=>whnf
         refine⟨⟨(i+1,m'::([]:List Nat),m'::([]:List Nat)),g_,g_,by simp only[c7]at *;omega,fun h=>by dsimp only at h;omega,fun _=>⟨Pc,by simp only[c7]at *;omega,.inl rfl,g4⟩⟩,?_,KD⟩;repeat' ((conv=>whnf);first|refine Or.inl ?_|apply oi|apply fi|intro h|exact Y2|refine e_ rfl ?_)
         all_goals exact⟨by simp[eQ,ae]⟩
       ·rw[c8 hc]at g4;subst g4
        cases PQ:bX l loc y.J5 with
        | true=>
         rw[PQ]at hX hc;repeat' ((conv=>whnf);first|refine Or.inl ?_|apply oi|apply fi|intro h|refine ci hE (ai rfl (ai rfl trivial)) ?_|refine ci hX (ai rfl (ai rfl (ai rfl trivial))) ?_|refine⟨i,y.tr,rfl,aa hy,?_⟩|exact Y3|refine e_ rfl ?_)
         all_goals try exact Q1
         all_goals try exact Q2
         all_goals try(exfalso;apply hc;refine⟨?_,rfl⟩;simp at h;omega)
         all_goals try exact Q3
        | false=>
         rw[PQ]at hX hc;repeat' ((conv=>whnf);first|refine Or.inl ?_|apply oi|apply fi|intro h|refine ci hE (ai rfl (ai rfl trivial)) ?_|refine ci hX (ai rfl (ai rfl (ai rfl trivial))) ?_|refine⟨i,y.tr,rfl,aa hy,?_⟩|exact Y3|refine e_ rfl ?_)
         all_goals try exact Q1
         all_goals try exact Q2
         all_goals try exact Q3
      ·by_cases h7:y.I6=7
       ·rcases g1.pop hy h7 with⟨_,h'⟩|⟨Pu,Rs,Pc⟩
        ·omega
        have hd:dep y ([]:List Nat).length=Pu.length:=(by unfold dep;rw[c8 RU,d5 h7,Rs];simp);have VC:Pu.length<=4:=(by rw[Rs]at g2;simp at g2;omega);rw[hd]at g4
        cases PQ:bX l loc y.J5 with
        | true=>
         rw[PQ]at hX g4;rw[d5 ⟨VC,rfl⟩]at g4;repeat' ((conv=>whnf);first|refine Or.inl ?_|apply oi|apply fi|intro h|refine ci hE (ai rfl (ai rfl trivial)) ?_|refine ci hX (ai rfl (ai rfl (ai rfl trivial))) ?_|refine⟨i,y.tr,rfl,aa hy,?_⟩|exact Y3|refine e_ rfl ?_)
         all_goals try exact Q1
         all_goals try exact Q13
         all_goals try exact Q3
         all_goals
          conv=>whnf
          refine⟨⟨(i+1,[],Pu),g_,g_,g_,fun h=>by dsimp only at h;omega,fun _=>⟨Pc,VC,.inr (by dsimp only;rw[Rs];rfl),g4⟩⟩,?_,KD⟩
          exact Z3
        | false=>exact V32
       ·have hd:dep y ([]:List Nat).length=([]:List Nat).length:=by unfold dep;rw[c8 RU,c8 h7]
        have ho:cQ y.I6=false:=by exact V149
        have Pc:=g1.other hy ho h7;rw[hd]at g4
        cases PQ:bX l loc y.J5 with
        | true=>
         rw[PQ]at hX g4;rw[d5 ⟨g2,rfl⟩]at g4;repeat' ((conv=>whnf);first|refine Or.inl ?_|apply oi|apply fi|intro h|refine ci hE (ai rfl (ai rfl trivial)) ?_|refine ci hX (ai rfl (ai rfl (ai rfl trivial))) ?_|refine⟨i,y.tr,rfl,aa hy,?_⟩|exact Y3|refine e_ rfl ?_)
         all_goals try exact Q1
         all_goals try exact Q13
         all_goals try exact Q3
         all_goals
          conv=>whnf
          refine⟨⟨(i+1,[],[]),g_,g_,g_,fun h=>by dsimp only at h;omega,fun _=>⟨Pc,g2,.inl rfl,g4⟩⟩,?_,KD⟩
          exact Z3
        | false=>exact V32
    ·have U6:i=e:=o_;obtain⟨z,hz,Uy⟩:=bG he;rw[<-U6,hy]at hz;injection hz with hz;subst hz;rw[Bf o_]at g4;have PQ:bX l loc y.J5=true:=(by rw[qn (N7 y (b9 hy)) Uy];rfl);rw[PQ]at hX;repeat' ((conv=>whnf);first|refine Or.inl ?_|apply oi|apply fi|intro h|refine ci hE (ai rfl (ai rfl trivial)) ?_|refine ci hX (ai rfl (ai rfl (ai rfl trivial))) ?_|refine⟨i,y.tr,rfl,aa hy,?_⟩|exact Y3|refine e_ rfl ?_)
     all_goals try exact Q1
     all_goals try exact Q13
     all_goals try exact Q3
     all_goals
      conv=>whnf
      refine⟨⟨(i+1,[],[]),g_,g_,g_,fun _=>g4.symm,fun h=>by dsimp only at h;omega⟩,?_,KD⟩
      exact Z3
   | cons m r=>
    have Pz:((m::r).reverse.map eQ).length=r.length+1:=s_
    have Pl:r.length<=5:=by
     rcases hu with h|h
     ·rw[<-h]at g2;simp only[c7]at g2;omega
     ·injection h with h1 h2;rw[h2];omega
    have hw:IntKind.i64.wrap ((((m::r).reverse.map eQ).length:Int)-1)=(r.length:Int):=(by rw[Pz,c6 _ o_];omega);by_cases hm:m<i
    ·have hr:r=es:=by
      rcases hu with h|h
      ·subst h;have:=g1.top;omega
      ·injection h
     subst hr;repeat' ((conv=>whnf);first|refine Or.inl ?_|apply oi|apply fi|intro h|refine⟨r.length,hw,aap,?_⟩|refine⟨(eQ m),(md m r),?_⟩|exact Y3|refine e_ rfl ?_)
     conv=>whnf
     refine⟨⟨r,.inl rfl⟩,?_,by dsimp only;simp⟩;repeat' ((conv=>whnf);first|refine Or.inl ?_|apply oi|apply fi|intro h|exact Y5|refine e_ rfl ?_)
    ·have hr:es=m::r:=by
      rcases hu with h|h
      ·exact h.symm
      ·injection h with h1 h2;omega
     subst hr;have XU:=0;by_cases N2:i<e
     ·rw[xW N2 hy]at g4;by_cases h0:y.I6=0
      ·rw[d5 h0]at g4;subst g4;repeat' ((conv=>whnf);first|refine Or.inl ?_|apply oi|apply fi|intro h|refine⟨r.length,hw,aap,?_⟩|refine⟨(eQ m),(md m r),?_⟩|refine ci hE (ai rfl (ai rfl trivial)) ?_|refine ci hX (ai rfl (ai rfl (ai rfl trivial))) ?_|refine⟨i,y.tr,rfl,aa hy,?_⟩|exact Y3|refine e_ rfl ?_)
       all_goals try exact Q1
      ·rw[c8 h0]at g4;by_cases RU:y.I6=3\/y.I6=5
       ·have hd:dep y (m::r).length=(m::r).length+1:=(by unfold dep;rw[d5 RU]);rw[hd]at g4;obtain⟨m',Rj,ZE,Pc⟩:=g1.push hy (opensK_iff.2 o_);rw[bu,br Rj]at hE;by_cases hc:(m::r).length+1<=4/\bX l loc y.J5=true
        ·obtain⟨c1,c2⟩:=hc;rw[d5 ⟨c1,c2⟩]at g4;rw[c2]at hX;repeat' ((conv=>whnf);first|refine Or.inl ?_|apply oi|apply fi|intro h|refine⟨r.length,hw,aap,?_⟩|refine⟨(eQ m),(md m r),?_⟩|refine ci hE (ai rfl (ai rfl trivial)) ?_|refine ci hX (ai rfl (ai rfl (ai rfl trivial))) ?_|refine⟨i,y.tr,rfl,aa hy,?_⟩|exact Y3|refine e_ rfl ?_)
         all_goals try exact Q1
         all_goals try exact Q13
         all_goals try exact Q2
         all_goals try exact Q3
         all_goals
          conv=>whnf
          refine⟨⟨(i+1,m'::(m::r),m'::(m::r)),g_,g_,by simp only[c7]at *;omega,fun h=>by dsimp only at h;omega,fun _=>⟨Pc,by simp only[c7]at *;omega,.inl rfl,g4⟩⟩,?_,KD⟩;repeat' ((conv=>whnf);first|refine Or.inl ?_|apply oi|apply fi|intro h|exact Y2|refine e_ rfl ?_)
          all_goals exact⟨by simp[eQ,ae]⟩
        ·rw[c8 hc]at g4;subst g4
         cases PQ:bX l loc y.J5 with
         | true=>
          rw[PQ]at hX hc;repeat' ((conv=>whnf);first|refine Or.inl ?_|apply oi|apply fi|intro h|refine⟨r.length,hw,aap,?_⟩|refine⟨(eQ m),(md m r),?_⟩|refine ci hE (ai rfl (ai rfl trivial)) ?_|refine ci hX (ai rfl (ai rfl (ai rfl trivial))) ?_|refine⟨i,y.tr,rfl,aa hy,?_⟩|exact Y3|refine e_ rfl ?_)
          all_goals try exact Q1
          all_goals try exact Q2
          all_goals try(exfalso;apply hc;refine⟨?_,rfl⟩;simp at h;omega)
          all_goals try exact Q3
         | false=>
          rw[PQ]at hX hc;repeat' ((conv=>whnf);first|refine Or.inl ?_|apply oi|apply fi|intro h|refine⟨r.length,hw,aap,?_⟩|refine⟨(eQ m),(md m r),?_⟩|refine ci hE (ai rfl (ai rfl trivial)) ?_|refine ci hX (ai rfl (ai rfl (ai rfl trivial))) ?_|refine⟨i,y.tr,rfl,aa hy,?_⟩|exact Y3|refine e_ rfl ?_)
          all_goals try exact Q1
          all_goals try exact Q2
          all_goals try exact Q3
       ·by_cases h7:y.I6=7
        ·rcases g1.pop hy h7 with⟨_,h'⟩|⟨Pu,Rs,Pc⟩
         ·omega
         have hd:dep y (m::r).length=Pu.length:=(by unfold dep;rw[c8 RU,d5 h7,Rs];simp);have VC:Pu.length<=4:=(by rw[Rs]at g2;simp at g2;omega);rw[hd]at g4
         cases PQ:bX l loc y.J5 with
         | true=>
          rw[PQ]at hX g4;rw[d5 ⟨VC,rfl⟩]at g4;repeat' ((conv=>whnf);first|refine Or.inl ?_|apply oi|apply fi|intro h|refine⟨r.length,hw,aap,?_⟩|refine⟨(eQ m),(md m r),?_⟩|refine ci hE (ai rfl (ai rfl trivial)) ?_|refine ci hX (ai rfl (ai rfl (ai rfl trivial))) ?_|refine⟨i,y.tr,rfl,aa hy,?_⟩|exact Y3|refine e_ rfl ?_)
          all_goals try exact Q1
          all_goals try exact Q13
          all_goals try exact Q3
          all_goals
           conv=>whnf
           refine⟨⟨(i+1,(m::r),Pu),g_,g_,g_,fun h=>by dsimp only at h;omega,fun _=>⟨Pc,VC,.inr (by dsimp only;rw[Rs];rfl),g4⟩⟩,?_,KD⟩
           exact Z3
         | false=>exact V25
        ·have hd:dep y (m::r).length=(m::r).length:=by unfold dep;rw[c8 RU,c8 h7]
         have ho:cQ y.I6=false:=by exact V149
         have Pc:=g1.other hy ho h7;rw[hd]at g4
         cases PQ:bX l loc y.J5 with
         | true=>
          rw[PQ]at hX g4;rw[d5 ⟨g2,rfl⟩]at g4;repeat' ((conv=>whnf);first|refine Or.inl ?_|apply oi|apply fi|intro h|refine⟨r.length,hw,aap,?_⟩|refine⟨(eQ m),(md m r),?_⟩|refine ci hE (ai rfl (ai rfl trivial)) ?_|refine ci hX (ai rfl (ai rfl (ai rfl trivial))) ?_|refine⟨i,y.tr,rfl,aa hy,?_⟩|exact Y3|refine e_ rfl ?_)
          all_goals try exact Q1
          all_goals try exact Q13
          all_goals try exact Q3
          all_goals
           conv=>whnf
           refine⟨⟨(i+1,(m::r),(m::r)),g_,g_,g_,fun h=>by dsimp only at h;omega,fun _=>⟨Pc,g2,.inl rfl,g4⟩⟩,?_,KD⟩
           exact Z3
         | false=>exact V25
     ·have U6:i=e:=o_;obtain⟨z,hz,Uy⟩:=bG he;rw[<-U6,hy]at hz;injection hz with hz;subst hz;rw[Bf o_]at g4;have PQ:bX l loc y.J5=true:=(by rw[qn (N7 y (b9 hy)) Uy];rfl);rw[PQ]at hX;repeat' ((conv=>whnf);first|refine Or.inl ?_|apply oi|apply fi|intro h|refine⟨r.length,hw,aap,?_⟩|refine⟨(eQ m),(md m r),?_⟩|refine ci hE (ai rfl (ai rfl trivial)) ?_|refine ci hX (ai rfl (ai rfl (ai rfl trivial))) ?_|refine⟨i,y.tr,rfl,aa hy,?_⟩|exact Y3|refine e_ rfl ?_)
      all_goals try exact Q1
      all_goals try exact Q13
      all_goals try exact Q3
      all_goals
       conv=>whnf
       refine⟨⟨(i+1,(m::r),(m::r)),g_,g_,g_,fun _=>g4.symm,fun h=>by dsimp only at h;omega⟩,?_,KD⟩;exact Z3
  ·rw[q4 o_];exact Z4
 ·rw[y5 h8,q9];repeat' ((conv=>whnf);first|refine Or.inl ?_|apply oi|apply fi|intro h|refine ci hL (ai rfl (ai rfl trivial)) ?_|exact Y3|refine e_ rfl ?_)
abbrev nR (n:Nat):List Tr:=ae n
theorem EJ {l:List Oj}{k:Nat}{fs:List Nat}{next:Nat}:iV l (k::fs) next=match endAt l k with|some e=>if k=next/\bC l k=true/\lc l k e=true then iV l fs (e+1)else false|none=>false:=by rw[iV]<;>(cases endAt l k<;>rfl)
theorem tU {l:List Oj}{x:Oj}(hx:l[0]?=some x):nB l=(x.I6==0&&(x.J0==ji&&x.K0.length==0)):=by
 cases l with
 | nil=>cases hx
 | cons y r=>rw[i8]at hx;injection hx with hx;subst hx;rfl
theorem BU {l:List Oj}{k e i:Nat}{x:Oj}(hi:i<e)(hx:l[i]?=some x):eD l k e (e-i) i=((if x.I6=4 then pW l i (i-k) k else true)&&eD l k e (e-(i+1)) (i+1)):=by rw[show e-i=(e-(i+1))+1 by omega,eD,d5 hi,hx]
theorem IJ {l:List Oj}{i:Nat}(hi:i<l.length):((List.range l.length).map fun j:Nat=>bv l (j:Int)).contains (i:Int)=pW l i i 0:=by
 rw[u7,oM,G1,p6];constructor
 ·rintro⟨j,hj,he⟩;rw[bv,d5 o_,e8]at he
  cases hx:elseAt l j with
  | none=>rw[hx]at he;simp only[cX]at he;omega
  | some m=>rw[hx]at he;simp only[cX]at he;have:m=i:=o_;subst this;obtain⟨_,_,_,_,_,h1,_⟩:=bn hx;exact⟨j,o_,o_,hx⟩
 ·rintro⟨j,_,hj,he⟩;refine⟨j,by rw[F5];omega,?_⟩;rw[bv,d5 o_,e8,he];rfl
theorem V46{p:Prop}(h:p:=by
 repeat' ((conv=>whnf);first|refine Or.inl ?_|apply oi|apply fi|intro h|refine⟨k,x.tr,rfl,aa hx,?_⟩|refine ci hC (ai rfl (ai rfl trivial)) ?_|exact Y3|refine e_ rfl ?_)
 all_goals try exact Q1
 conv=>whnf
 refine⟨⟨k+1,o_,hq⟩,?_,KD⟩
 exact Z3):p:=h
theorem Q26{p:Prop}(h:p:=by exfalso;simp_all[ji];first|done|fail):p:=h
theorem dG (l:List Oj)(TF:aE 1048576 (.lst 4 (l.map Oj.tr))):Sim.Spec prog 77 [tvP l] (rB (aj l)):=by
 refine ag hΓ ay func77 rfl d_ rfl ?_;have hl:=cu TF;have hs:∀x∈l,aX 1048576 x.tr:=fun x hx=>bx TF hx;have N1:(l.map Oj.tr).length=l.length:=s_;have hF:=cy l hl;have OA:((az l).map fun n:Nat=>ae n).length=(az l).length:=s_;have abk:(az l).length<=l.length:=pH l 0;have hB:=ak (((az l).map fun n:Nat=>ae n).length:Int) 1 6;by_cases c1:l.length<=60/\(1<=(az l).length/\(az l).length<=6)
 ·obtain⟨c1,c2,c3⟩:=c1;rw[within_iff.2 ⟨by rw[OA];omega,by rw[OA];omega⟩]at hB;unfold aj;rw[r7 c1,r7 (show 1<=(az l).length/\(az l).length<=6 from⟨c2,c3⟩),m7,m7]
  cases QO:l.all cF with
  | false=>
   rw[q9];repeat' ((conv=>whnf);first|refine Or.inl ?_|apply oi|apply fi|intro h|refine ci hF (ai rfl trivial) ?_|refine ci hB (ai rfl (ai rfl (ai rfl trivial))) ?_|exact Y3|refine e_ rfl ?_)
   all_goals try exact Q1
   conv=>whnf
   refine⟨{k:Nat//k<=l.length/\(l.drop k).all cF=false},fun q=>⟨[(0,vP l),(3,.r (.c (.own (3,0,0)))),(25,vP l),(26,tI .i64 ((l.map Oj.tr).length:Int)),(27,tI .i64 (q.1:Int))],[((3,0,0),some (.arr true 1 ((az l).map fun n:Nat=>ae n)))],[3]⟩,fun q=>l.length-q.1,⟨0,o_,QO⟩,?_,?_⟩
   ·exact Z1
   intro⟨k,hk,hr⟩;dsimp only at hk hr⊢;by_cases N2:k<l.length
   ·obtain⟨x,hx⟩:=ab N2;rw[Gc hx]at hr;have hL:=qt x (hs x (b9 hx))
    cases ho:cF x with
    | false=>
     rw[ho]at hL;repeat' ((conv=>whnf);first|refine Or.inl ?_|apply oi|apply fi|intro h|refine⟨k,x.tr,rfl,aa hx,?_⟩|refine ci hL (ai (ai rfl (ai rfl (ai rfl (ai rfl trivial)))) trivial) ?_|exact Y3|refine e_ rfl ?_)
     all_goals try exact Q1
    | true=>
     rw[ho]at hL hr;rw[m7]at hr;repeat' ((conv=>whnf);first|refine Or.inl ?_|apply oi|apply fi|intro h|refine⟨k,x.tr,rfl,aa hx,?_⟩|refine ci hL (ai (ai rfl (ai rfl (ai rfl (ai rfl trivial)))) trivial) ?_|exact Y3|refine e_ rfl ?_)
     all_goals try exact Q1
     conv=>whnf
     refine⟨⟨k+1,o_,hr⟩,?_,KD⟩;exact Z3
   ·rw[d8 o_]at hr
    cases hr
  | true=>
   have N7:∀x∈l,cF x=true:=q7.1 QO;rw[m7];repeat' ((conv=>whnf);first|refine Or.inl ?_|apply oi|apply fi|intro h|refine ci hF (ai rfl trivial) ?_|refine ci hB (ai rfl (ai rfl (ai rfl trivial))) ?_|exact Y3|refine e_ rfl ?_)
   all_goals try exact Q1
   conv=>whnf
   refine⟨{k:Nat//k<=l.length},fun q=>⟨[(0,vP l),(3,.r (.c (.own (3,0,0)))),(25,vP l),(26,tI .i64 ((l.map Oj.tr).length:Int)),(27,tI .i64 (q.1:Int))],[((3,0,0),some (.arr true 1 ((az l).map fun n:Nat=>ae n)))],[3]⟩,fun q=>l.length-q.1,⟨0,o_⟩,?_,?_⟩
   ·exact Z1
   intro⟨k,hk⟩;dsimp only at hk⊢;by_cases N2:k<l.length
   ·obtain⟨x,hx⟩:=ab N2;have hL:=qt x (hs x (b9 hx));rw[N7 x (b9 hx)]at hL;repeat' ((conv=>whnf);first|refine Or.inl ?_|apply oi|apply fi|intro h|refine⟨k,x.tr,rfl,aa hx,?_⟩|refine ci hL (ai (ai rfl (ai rfl (ai rfl (ai rfl trivial)))) trivial) ?_|exact Y3|refine e_ rfl ?_)
    all_goals try exact Q1
    conv=>whnf
    refine⟨⟨k+1,o_⟩,?_,KD⟩;exact Z3
   ·clear hB hF;have Pp:0<l.length:=o_;obtain⟨x0,QR⟩:=ab Pp;have OC:(x0.K0.map ah).length=x0.K0.length:=s_
    cases hho:nB l with
    | false=>
     rw[q9];rw[tU QR]at hho;repeat' ((conv=>whnf);first|refine Or.inl ?_|apply oi|apply fi|intro h|refine⟨0,x0.tr,rfl,aa QR,?_⟩|exact Y3|refine e_ rfl ?_)
     all_goals try exact Q1
     all_goals try exact Q26
    | true=>
     rw[m7];obtain⟨R,hR⟩:∃R,iV l (az l) 0=R:=⟨_,rfl⟩;rw[<-FY,hR];rw[tU QR]at hho;repeat' ((conv=>whnf);first|refine Or.inl ?_|apply oi|apply fi|intro h|refine⟨0,x0.tr,rfl,aa QR,?_⟩|exact Y3|refine e_ rfl ?_)
     all_goals try exact Q1
     all_goals try exact Q26
     conv=>whnf
     refine⟨{q:Nat×Nat//q.1<=(az l).length/\q.2<=l.length/\iV l ((az l).drop q.1) q.2=R},fun q=>⟨[(0,vP l),(6,tI .i64 (q.1.2:Int)),(55,.r (.c (.own (3,0,0)))),(56,tI .i64 (((az l).map fun n:Nat=>ae n).length:Int)),(57,tI .i64 (q.1.1:Int))],[((3,0,0),some (.arr true 1 ((az l).map fun n:Nat=>ae n)))],[3]⟩,fun q=>(az l).length-q.1.1,⟨(0,0),g_,g_,hR⟩,?_,?_⟩
     ·exact Z1
     intro⟨⟨j,next⟩,hj,Zi,hr⟩;dsimp only at hj Zi hr⊢;by_cases Pg:j<(az l).length
     ·obtain⟨f,hf⟩:=ab Pg;obtain⟨Qy,x,hx,aaS⟩:=jW (b9 hf);rw[aP hf,EJ]at hr;have hE:=dC l (f:Int) hl;have hN:=fS l x.J0 hl;have UU:j<((az l).map fun n:Nat=>ae n).length:=by rw[OA];exact Pg
      cases he:endAt l f with
      | none=>
       rw[bu,km he]at hE;rw[he]at hr;subst hr
       generalize fY l x.J0=ff at *
       repeat' ((conv=>whnf);first|refine aM ?_|apply aB|apply oi|apply fi|intro h|refine⟨j,rfl,UU,?_⟩|refine⟨(nR f),(aa hf),?_⟩|refine⟨f,x.tr,rfl,aa hx,?_⟩|refine cl hE ?_|refine cl hN ?_|exact Y3|refine e_ rfl ?_)
       all_goals try exact Q1
      | some e=>
       obtain⟨_,_,_,_,Pr,Pq⟩:=aL he;rw[bu,br he]at hE;rw[he]at hr;dsimp only at hr;have hK:=sr l f e c1 hs N7 he;have WZ:bC l f=(findN l 0 x.J0==some f):=by unfold bC;rw[hx]
       have SR:(fY l x.J0==(f:Int))=bC l f:=by
        rw[WZ,fY]
        cases findN l 0 x.J0 with|none=>simp[cX]|some m=>rw[u7];simp[cX];omega
       generalize fY l x.J0=ff at *
       by_cases hc:f=next/\bC l f=true/\lc l f e=true
       ·rw[d5 hc]at hr;obtain⟨d1,d2,d3⟩:=hc;rw[d2]at SR;have hff:=B6 SR;subst hff;rw[d3]at hK;repeat' ((conv=>whnf);first|refine aM ?_|apply aB|apply oi|apply fi|intro h|refine⟨j,rfl,UU,?_⟩|refine⟨(nR f),(aa hf),?_⟩|refine⟨f,x.tr,rfl,aa hx,?_⟩|refine cl hE ?_|refine cl hN ?_|refine cl hK ?_|exact Y3|refine e_ rfl ?_)
        all_goals try exact Q1
        all_goals try exact Q3
        conv=>whnf
        refine⟨⟨(j+1,e+1),g_,g_,hr⟩,?_,KD⟩;repeat' ((conv=>whnf);first|refine aM ?_|apply aB|apply oi|apply fi|intro h|exact Y2|refine e_ rfl ?_)
       ·rw[c8 hc]at hr;subst hr
        have RW:∀b1 b2:Bool,lc l f e=b2->(ff==(f:Int))=b1->f=next->b1=true->b2=true->False:=by intro b1 b2 h1 h2 h3 h4 h5;subst h4;subst h5;exact hc ⟨h3,by rw[<-SR];exact h2,h1⟩
        cases Zz:lc l f e with
        | true=>
         rw[Zz]at hK;repeat' ((conv=>whnf);first|refine aM ?_|apply aB|apply oi|apply fi|intro h|refine⟨j,rfl,UU,?_⟩|refine⟨(nR f),(aa hf),?_⟩|refine⟨f,x.tr,rfl,aa hx,?_⟩|refine cl hE ?_|refine cl hN ?_|refine cl hK ?_|exact Y3|refine e_ rfl ?_)
         all_goals try exact Q1
         all_goals(exfalso;refine RW true true Zz ?_ ?_ rfl rfl<;>simp_all<;>omega)
        | false=>
         rw[Zz]at hK;repeat' ((conv=>whnf);first|refine aM ?_|apply aB|apply oi|apply fi|intro h|refine⟨j,rfl,UU,?_⟩|refine⟨(nR f),(aa hf),?_⟩|refine⟨f,x.tr,rfl,aa hx,?_⟩|refine cl hE ?_|refine cl hN ?_|refine cl hK ?_|exact Y3|refine e_ rfl ?_)
         all_goals try exact Q1
     ·rw[d8 o_,iV]at hr;repeat' ((conv=>whnf);first|refine Or.inl ?_|apply oi|apply fi|intro h|exact Y3|refine e_ rfl ?_)
      conv=>whnf
      refine⟨{k:Nat//k<=l.length},fun q=>⟨[(0,vP l),(6,tI .i64 (next:Int)),(10,.r (.c (.own (10,0,0)))),(94,tI .i64 ((l.map Oj.tr).length:Int)),(95,tI .i64 (q.1:Int))],[((10,0,0),some (.arr true 1 (((List.range q.1).map fun j:Nat=>bv l (j:Int)).map ae)))],[10]⟩,fun q=>l.length-q.1,⟨0,o_⟩,?_,?_⟩
      ·exact Z1
      intro⟨k,hk⟩;dsimp only at hk⊢;have abg:(((List.range k).map fun j:Nat=>bv l (j:Int)).map ae).length=k:=s_;by_cases N2:k<l.length
      ·have hS:=qw l (k:Int) hl;repeat' ((conv=>whnf);first|refine aM ?_|apply aB|apply oi|apply fi|intro h|refine cl hS ?_|exact Y3|refine e_ rfl ?_)
       all_goals try exact Q2
       conv=>whnf
       refine⟨⟨k+1,o_⟩,?_,KD⟩;repeat' ((conv=>whnf);first|refine aM ?_|apply aB|apply oi|apply fi|intro h|exact Y2|refine e_ rfl ?_)
       all_goals exact⟨by simp[G7,ae]⟩
      ·have OZ:k=l.length:=o_;subst OZ;obtain⟨Q,hQ⟩:∃Q,ls l=Q:=⟨_,rfl⟩;rw[hQ]at hr;rw[ls]at hQ;repeat' ((conv=>whnf);first|refine Or.inl ?_|apply oi|apply fi|intro h|exact Y3|refine e_ rfl ?_)
       conv=>whnf
       refine⟨{k:Nat//k<=l.length/\eD l 0 l.length (l.length-k) k=Q},fun q=>⟨[(0,vP l),(6,tI .i64 (next:Int)),(10,.r (.c (.own (10,0,0)))),(105,vP l),(106,tI .i64 ((l.map Oj.tr).length:Int)),(107,tI .i64 (q.1:Int))],[((10,0,0),some (.arr true 1 (((List.range l.length).map fun j:Nat=>bv l (j:Int)).map ae)))],[10]⟩,fun q=>l.length-q.1,⟨0,o_,by rw[v3];exact hQ⟩,?_,?_⟩
       ·exact Z1
       intro⟨k,hk,hq⟩;dsimp only at hk hq⊢;by_cases N2:k<l.length
       ·obtain⟨x,hx⟩:=ab N2;rw[BU N2 hx]at hq;have hC:=kC ((List.range l.length).map fun j:Nat=>bv l (j:Int)) (k:Int) aab;rw[IJ N2]at hC;by_cases h4:x.I6=4
        ·rw[d5 h4,v3]at hq
         cases ha:pW l k k 0 with
         | false=>
          rw[ha]at hC hq;rw[q9]at hq;subst hq;rw[q9]at hr;subst hr;repeat' ((conv=>whnf);first|refine Or.inl ?_|apply oi|apply fi|intro h|refine⟨k,x.tr,rfl,aa hx,?_⟩|refine ci hC (ai rfl (ai rfl trivial)) ?_|exact Y3|refine e_ rfl ?_)
          all_goals try exact Q1
         | true=>rw[ha]at hC hq;rw[m7]at hq;exact V46
        ·rw[c8 h4,m7]at hq;exact V46
       ·rw[show l.length-k=0 by omega]at hq;have hq:true=Q:=hq;subst hq;rw[m7]at hr;subst hr;repeat' ((conv=>whnf);first|refine Or.inl ?_|apply oi|apply fi|intro h|exact Y3|refine e_ rfl ?_)
        all_goals(refine⟨congrArg Tr.bool ?_⟩;rw[N1,u7];simp;omega)
 ·have:aj l=false:=by
   unfold aj;by_cases PW:l.length<=60
   ·rw[y5 (show ¬(1<=(az l).length/\(az l).length<=6) from fun h=>c1 ⟨PW,h⟩)];simp
   ·rw[y5 PW,q9]
  rw[this];by_cases PW:l.length<=60
  ·have hw:af (((az l).map fun n:Nat=>ae n).length:Int) 1 6=false:=by cases hx:af (((az l).map fun n:Nat=>ae n).length:Int) 1 6 with|false=>rfl|true=>have:=within_iff.1 hx;rw[OA]at this;exact absurd ⟨PW,o_,o_⟩ c1
   rw[hw]at hB;repeat' ((conv=>whnf);first|refine Or.inl ?_|apply oi|apply fi|intro h|refine ci hF (ai rfl trivial) ?_|refine ci hB (ai rfl (ai rfl (ai rfl trivial))) ?_|exact Y3|refine e_ rfl ?_)
   all_goals try exact Q1
  ·repeat' ((conv=>whnf);first|refine Or.inl ?_|apply oi|apply fi|intro h|refine ci hF (ai rfl trivial) ?_|refine ci hB (ai rfl (ai rfl (ai rfl trivial))) ?_|exact Y3|refine e_ rfl ?_)
   all_goals try exact Q1
theorem Gu {p q:Prop}[Decidable p][Decidable q]{α:Type}{a b:α}{r:α}(hp:p):((if p/\q then a else b)=r)=((if q then a else b)=r):=by
 by_cases hq:q
 ·rw[d5 ⟨hp,hq⟩,d5 hq]
 ·rw[c8 (fun h=>hq h.2),c8 hq]
theorem LI {l:List Oj}{j i:Nat}:(bv l (j:Int)==(i:Int))=(elseAt l j==some i):=by
 rw[bv,d5 o_,e8]
 cases elseAt l j with|none=>simp[cX]|some m=>rw[u7];simp[cX];omega
theorem V54{p:Prop}(h:p:=by
 repeat' ((conv=>whnf);first|apply Wx|apply W6|apply oi|apply fi|intro h|refine⟨i,y.tr,rfl,aa hy,?_⟩|refine⟨j,t.tr,rfl,aa ht,?_⟩|refine cl hI ?_|refine cl hF ?_|exact Y6|refine e_ rfl ?_)
 all_goals try(exfalso;(try simp_all[af]);(try omega);done)):p:=h
theorem V37{p:Prop}(h:p:=by
 repeat' ((conv=>whnf);first|apply Wx|apply W6|apply oi|apply fi|intro h|refine⟨i,y.tr,rfl,aa hy,?_⟩|refine⟨j,t.tr,rfl,aa ht,?_⟩|refine cl hI ?_|refine cl hF ?_|exact Y6|refine e_ rfl ?_)
 all_goals try exact Q1
 all_goals try exact Q3
 conv=>whnf
 refine⟨⟨j+1,o_,Pb⟩,?_,KD⟩
 exact Z7):p:=h
theorem Q22{p:Prop}(h:p:=by exfalso;have h':=m6 h;rw[SN]at h';omega):p:=h
theorem Q27{p:Prop}(h:p:=by exfalso;simp only[n7,j7]at h;omega):p:=h
theorem wQ (l:List Oj)(k e:Nat)(hl:l.length<=60)(hs:∀x∈l,aX 1048576 x.tr)(he:endAt l k=some e):Sim.Spec prog 122 [tvP l,tvI k,tvI e] (rB (pi l k e)):=by
 refine aI hΓ ay func122 rfl d_ rfl ?_;have N1:(l.map Oj.tr).length=l.length:=s_;have hL:=jz l k o_ hs;obtain⟨Wu,Ww⟩:=zL (l:=l) (k:=(k:Int)) o_ hs;have Vi:=(aL he);obtain⟨x0,QR,ho0,Vc,Pr,Pq⟩:=Vi;unfold pi
 generalize localsOf l (k:Int)=loc at *
 have PO:(loc.map ah).length=loc.length:=s_;by_cases h8:loc.length<=8
 ·rw[r7 h8,m7];obtain⟨R,hR⟩:∃R,nL l loc k e (e-(k+1)) (k+1) 0=R:=⟨_,rfl⟩;rw[hR];repeat' ((conv=>whnf);first|apply Wx|apply W6|apply oi|apply fi|intro h|refine cl hL ?_|exact Y6|refine e_ rfl ?_)
  conv=>whnf
  refine⟨{q:Nat×List Nat//k<q.1/\q.1<=e/\StkOk l e q.1 q.2/\q.2.length<=4/\nL l loc k e (e-q.1) q.1 q.2.length=R},fun q=>⟨[(0,vP l),(1,tI .i64 (k:Int)),(2,tI .i64 (e:Int)),(7,.r (.c (.own (7,0,0)))),(8,tI .i64 ((q.1.2.length:Nat):Int)),(9,tI .i64 (q.1.1:Int))],[((7,0,0),some (.arr true 1 (loc.map ah)))],[7]⟩,fun q=>e-q.1.1,⟨(k+1,[]),g_,g_,Vc,s_,hR⟩,?_,?_⟩
  ·exact Z7
  intro⟨⟨i,es⟩,q1,q2,g1,g2,g4⟩;dsimp only at q1 q2 g1 g2 g4⊢;by_cases N2:i<e
  ·obtain⟨y,hy⟩:=ab (l:=l) (k:=i) o_;have SN:(y.J5.map Ou.tr).length=y.J5.length:=s_;have abb:=(dg (hs y (b9 hy))).2.2.2.1;obtain⟨K,hK⟩:∃K,bX l loc y.J5=K:=⟨_,rfl⟩;rw[FR N2 hy,hK]at g4;by_cases h0:y.I6=0
   ·rw[d5 h0]at g4;subst g4;repeat' ((conv=>whnf);first|apply Wx|apply W6|apply oi|apply fi|intro h|refine⟨i,y.tr,rfl,aa hy,?_⟩|exact Y6|refine e_ rfl ?_)
    all_goals try exact Q3
   ·rw[c8 h0]at g4;repeat' ((conv=>whnf);first|(with_reducible apply W1;fail_if_success (with_reducible show Wo _ _ _ _ (Code.seq (Code.region 8 _ _) _) _ _))|(with_reducible first|apply W2|apply W3|apply W4|apply W5|apply W6|apply W7|apply W8|apply W9)|apply aB|apply oi|apply fi|intro h|refine⟨i,y.tr,rfl,aa hy,?_⟩|exact Y6|refine e_ rfl ?_)
    refine mv {q:Nat×List Nat//StkOk l e (i+1) q.2/\q.1=q.2.length/\q.1<=60/\(if q.1<=4/\K=true then nL l loc k e (e-(i+1)) (i+1) q.1 else false)=R} (fun q=>⟨[(0,vP l),(1,tI .i64 (k:Int)),(2,tI .i64 (e:Int)),(7,.r (.c (.own (7,0,0)))),(8,tI .i64 ((q.1.1:Nat):Int)),(9,tI .i64 (i:Int))],[((7,0,0),some (.arr true 1 (loc.map ah)))],[7]⟩) ?_ ?_
    ·by_cases RU:y.I6=3\/y.I6=5
     ·rw[c8 (fun h=>o_)]at g4;have hd:dep y es.length=es.length+1:=(by unfold dep;rw[d5 RU]);rw[hd]at g4;obtain⟨m',Rj,ZE,Pc⟩:=g1.push hy (opensK_iff.2 o_);have XE:IntKind.i64.wrap ((es.length:Int)+1)=((es.length+1:Nat):Int):=(by rw[c6 _ o_];omega);repeat' ((conv=>whnf);first|apply Wx|apply W6|apply oi|apply fi|intro h|refine⟨i,y.tr,rfl,aa hy,?_⟩|exact Y6|refine e_ rfl ?_)
      all_goals try exact Q3
      all_goals
       conv=>whnf
       refine⟨⟨(es.length+1,m'::es),Pc,rfl,g_,g4⟩,?_⟩;repeat' ((conv=>whnf);first|apply Wx|apply W6|apply oi|apply fi|intro h|exact Y8|refine e_ rfl ?_)
       all_goals try exact⟨by dsimp only;rw[XE]⟩
     ·by_cases X3:y.I6=7
      ·rw[c8 (fun h=>o_)]at g4;rcases g1.pop hy X3 with⟨_,h'⟩|⟨Pu,Rs,Pc⟩
       ·omega
       have hd:dep y es.length=Pu.length:=(by unfold dep;rw[c8 RU,d5 X3,Rs];simp);have VC:es.length=Pu.length+1:=(by rw[Rs];rfl);rw[hd]at g4;have XE:IntKind.i64.wrap ((es.length:Int)-1)=(Pu.length:Int):=(by rw[c6 _ o_];omega);repeat' ((conv=>whnf);first|apply Wx|apply W6|apply oi|apply fi|intro h|refine⟨i,y.tr,rfl,aa hy,?_⟩|exact Y6|refine e_ rfl ?_)
       all_goals try exact Q3
       conv=>whnf
       refine⟨⟨(Pu.length,Pu),Pc,rfl,g_,g4⟩,?_⟩;repeat' ((conv=>whnf);first|apply Wx|apply W6|apply oi|apply fi|intro h|exact Y8|refine e_ rfl ?_)
       all_goals try exact⟨by dsimp only;rw[XE]⟩
      ·have hd:dep y es.length=es.length:=by unfold dep;rw[c8 RU,c8 X3]
       have ho:cQ y.I6=false:=by exact V149
       have Pc:=g1.other hy ho X3;rw[hd]at g4;by_cases h4:y.I6=4
       ·obtain⟨Av,hA⟩:∃Av,pW l i (i-k) k=Av:=⟨_,rfl⟩;rw[hA]at g4;repeat' ((conv=>whnf);first|apply Wx|apply W6|apply oi|apply fi|intro h|refine⟨i,y.tr,rfl,aa hy,?_⟩|exact Y6|refine e_ rfl ?_)
        all_goals try exact Q3
        conv=>whnf
        refine⟨{q:Nat×Bool//q.1<=i/\(q.2||pW l i (i-q.1) q.1)=Av},fun q=>⟨[(0,vP l),(1,tI .i64 (k:Int)),(2,tI .i64 (e:Int)),(7,.r (.c (.own (7,0,0)))),(8,tI .i64 ((es.length:Nat):Int)),(9,tI .i64 (i:Int)),(10,tB q.1.2),(11,tI .i64 (q.1.1:Int))],[((7,0,0),some (.arr true 1 (loc.map ah)))],[7]⟩,fun q=>i-q.1.1,⟨(k,false),g_,by simpa using hA⟩,?_,?_⟩
        ·exact Z2
        intro⟨⟨j,b⟩,hj,hb⟩;dsimp only at hj hb⊢;by_cases PU:j<i
        ·obtain⟨n,hn⟩:∃n,i-j=n+1:=⟨i-j-1,o_⟩;have SM:i-(j+1)=n:=o_;rw[hn,pW,<-LI]at hb;have hS:=lN l (j:Int) o_
         generalize bv l (j:Int)=ee at *
         cases b with
         | true=>
          repeat' ((conv=>whnf);first|apply Wx|apply W6|apply oi|apply fi|intro h|refine cl hS ?_|exact Y6|refine e_ rfl ?_)
          conv=>whnf
          refine⟨⟨(j+1,true),g_,by simpa using hb⟩,?_,KD⟩
          exact Z7
         | false=>
          repeat' ((conv=>whnf);first|apply Wx|apply W6|apply oi|apply fi|intro h|refine cl hS ?_|exact Y6|refine e_ rfl ?_)
          conv=>whnf
          refine⟨⟨(j+1,(ee==(i:Int))),g_,by dsimp only;rw[SM];simpa using hb⟩,?_,KD⟩;exact Z7
        ·rw[show i-j=0 by omega,pW,Bool.or_false]at hb;subst hb
         cases b with
         | false=>
          rw[d5 ⟨h4,rfl⟩]at g4;subst g4
          exact Z6
         | true=>
          rw[c8 s_]at g4;repeat' ((conv=>whnf);first|apply Wx|apply W6|apply oi|apply fi|intro h|exact Y6|refine e_ rfl ?_)
          conv=>whnf
          refine⟨⟨(es.length,es),Pc,rfl,g_,g4⟩,?_⟩;exact Z2
       ·rw[c8 (fun h=>h4 h.1)]at g4;repeat' ((conv=>whnf);first|apply Wx|apply W6|apply oi|apply fi|intro h|refine⟨i,y.tr,rfl,aa hy,?_⟩|exact Y6|refine e_ rfl ?_)
        all_goals try exact Q3
        conv=>whnf
        refine⟨⟨(es.length,es),Pc,rfl,g_,g4⟩,?_⟩;exact Z2
    clear g4 g1;intro⟨⟨d,Pu⟩,Pc,QY,YE,g4⟩;dsimp only at Pc QY YE g4⊢;have XE:(d:Int)=(d:Int):=rfl;by_cases Z8:(d)<=4
    ·rw[Gu Z8]at g4;repeat' ((conv=>whnf);first|apply Wx|apply W6|apply oi|apply fi|intro h|refine⟨i,y.tr,rfl,aa hy,?_⟩|exact Y6|refine e_ rfl ?_)
     all_goals try exact Q27
     conv=>whnf
     refine⟨{j:Nat//j<=y.J5.length/\(y.J5.drop j).all (cv l loc)=K},fun q=>⟨[(0,vP l),(1,tI .i64 (k:Int)),(2,tI .i64 (e:Int)),(7,.r (.c (.own (7,0,0)))),(8,tI .i64 (d:Int)),(9,tI .i64 (i:Int)),(12,tI .i64 (q.1:Int))],[((7,0,0),some (.arr true 1 (loc.map ah)))],[7]⟩,fun q=>y.J5.length-q.1,⟨0,o_,hK⟩,?_,?_⟩
     ·exact Z2
     intro⟨j,hj,Pb⟩;dsimp only at hj Pb⊢;by_cases Pg:j<y.J5.length
     ·obtain⟨t,ht⟩:=ab Pg;rw[Gc ht]at Pb;have hI:=gf loc t.J0 o_;have hF:=eC l t.J0 o_;by_cases h1:t.I6=1
      ·have e1:cv l loc t=loc.contains t.J0:=(by unfold cv;rw[d5 h1]);rw[e1]at Pb;have Rp:=pU (l:=loc) (s:=t.J0)
       generalize dJ loc t.J0=ix at *
       generalize fY l t.J0=ff at *
       cases hc:loc.contains t.J0 with
       | false=>
        rw[hc]at Rp Pb;rw[q9]at Pb;subst Pb;rw[c8 s_]at g4;subst g4
        exact V54
       | true=>rw[hc]at Rp Pb;rw[m7]at Pb;exact V37
      ·by_cases h7:t.I6=7
       ·cases hf:findN l 0 t.J0 with
        | none=>
         have e1:cv l loc t=false:=(by unfold cv;rw[c8 h1,d5 h7,hf]);rw[e1,q9]at Pb;subst Pb;rw[c8 s_]at g4;subst g4;rw[show fY l t.J0= -1 from km hf]at hF
         exact V54
        | some f=>
         obtain⟨OA,x,hx,QR,_⟩:=eV hf;have e1:cv l loc t=((x.K0.length:Int)==t.L3):=(by unfold cv;rw[c8 h1,d5 h7,hf];dsimp only;rw[hx]);rw[e1]at Pb;rw[show fY l t.J0=(f:Int) from br hf]at hF;have Rv:(x.K0.map ah).length=x.K0.length:=s_;by_cases hn:(x.K0.length:Int)=t.L3
         ·rw[x7.2 hn,m7]at Pb;repeat' ((conv=>whnf);first|apply Wx|apply W6|apply oi|apply fi|intro h|refine⟨i,y.tr,rfl,aa hy,?_⟩|refine⟨j,t.tr,rfl,aa ht,?_⟩|refine⟨f,x.tr,rfl,aa hx,?_⟩|refine cl hI ?_|refine cl hF ?_|exact Y6|refine e_ rfl ?_)
          all_goals try exact Q1
          all_goals try exact Q3
          conv=>whnf
          refine⟨⟨j+1,o_,Pb⟩,?_,KD⟩;exact Z7
         ·rw[x5.2 hn,q9]at Pb;subst Pb;rw[c8 s_]at g4;subst g4;repeat' ((conv=>whnf);first|apply Wx|apply W6|apply oi|apply fi|intro h|refine⟨i,y.tr,rfl,aa hy,?_⟩|refine⟨j,t.tr,rfl,aa ht,?_⟩|refine⟨f,x.tr,rfl,aa hx,?_⟩|refine cl hI ?_|refine cl hF ?_|exact Y6|refine e_ rfl ?_)
          all_goals try exact Q1
          all_goals try exact Q3
       ·have e1:cv l loc t=true:=(by unfold cv;rw[c8 h1,c8 h7]);rw[e1,m7]at Pb;exact V37
     ·rw[d8 o_,List.all_nil]at Pb;subst Pb;rw[d5 rfl]at g4;repeat' ((conv=>whnf);first|apply Wx|apply W6|apply oi|apply fi|intro h|refine⟨i,y.tr,rfl,aa hy,?_⟩|exact Y8|refine e_ rfl ?_)
      all_goals try exact Q22
      conv=>whnf
      refine⟨⟨(i+1,Pu),g_,g_,Pc,g_,by dsimp only;rw[<-QY];exact g4⟩,?_,KD⟩;repeat' ((conv=>whnf);first|apply Wx|apply W6|apply oi|apply fi|intro h|exact Y8|refine e_ rfl ?_)
      all_goals try exact⟨by dsimp only;rw[QY]⟩
      all_goals try exact⟨K1⟩
    ·rw[c8 (fun h=>Z8 h.1)]at g4;subst g4;repeat' ((conv=>whnf);first|apply Wx|apply W6|apply oi|apply fi|intro h|refine⟨i,y.tr,rfl,aa hy,?_⟩|exact Y6|refine e_ rfl ?_)
     all_goals try exact Q27
  ·rw[II o_]at g4;subst g4;exact Z6
 ·rw[y5 h8,q9];repeat' ((conv=>whnf);first|apply Wx|apply W6|apply oi|apply fi|intro h|refine cl hL ?_|exact Y6|refine e_ rfl ?_)
theorem KT {l:List Oj}:(az l).all (bC l)=true↔∀k x,l[k]?=some x->x.I6=0->bC l k=true:=by
 rw[q7];constructor
 ·intro H k x hx h0;refine H k ?_
  have key:∀(n i:Nat),l.length-i<=n->i<=k->k∈funsF (l.drop i) i:=by
   have OZ:k<l.length:=by exact V140
   intro n
   induction n with
   | zero=>intro i h1 h2;omega
   | succ n ih=>
    intro i h1 h2;obtain⟨y,hy⟩:=ab (l:=l) (k:=i) o_;rw[my hy,f0];by_cases Ph:i=k
    ·subst Ph;rw[hx]at hy;injection hy with hy;subst hy;rw[d5 h0];exact .inl s_
    ·exact .inr (ih (i+1) o_ o_)
  have:=key l.length 0 o_ o_;rwa [v6]at this
 ·intro H k hk;obtain⟨_,x,hx,h0⟩:=jW hk;exact H k x hx h0
def ok1 (l:List Oj)(k:Nat)(x:Oj):Bool:=cF x&&(if x.I6=0 then bC l k else true)
def okN (l:List Oj):Nat->Nat->Bool
 | 0,_=>true
 | n+1,k=>match l[k]? with
  | some x=>ok1 l k x&&okN l n (k+1)
  | none=>true
theorem Ea {l:List Oj}{k:Nat}{x:Oj}(hx:l[k]?=some x):okN l (l.length-k) k=(ok1 l k x&&okN l (l.length-(k+1)) (k+1)):=by
 have hk:k<l.length:=by exact V140
 rw[show l.length-k=(l.length-(k+1))+1 by omega,okN,hx]
theorem Bz {l:List Oj}:∀(n k:Nat),l.length-k<=n->(okN l (l.length-k) k=true↔∀j x,k<=j->l[j]?=some x->ok1 l j x=true)
 | n,k,hn=>by
  by_cases hk:k<l.length
  ·obtain⟨x,hx⟩:=ab hk
   cases n with
   | zero=>omega
   | succ n=>
    rw[Ea hx,c9,Bz n (k+1) o_];constructor
    ·rintro⟨h1,h2⟩ j y hj hy;by_cases Qq:j=k
     ·subst Qq;rw[hx]at hy;injection hy with hy;subst hy;exact h1
     ·exact h2 j y o_ hy
    ·intro H;exact⟨H k x (d7 _) hx,fun j y hj hy=>H j y o_ hy⟩
  ·rw[show l.length-k=0 by omega];refine⟨fun _ j x hj hx=>?_,fun _=>rfl⟩;rw[e9 o_]at hx
   cases hx
theorem LG (l:List Oj):okN l l.length 0=(l.all cF&&(az l).all (bC l)):=by
 have h0:=Bz (l:=l) l.length 0 o_;rw[v3]at h0;rw[u7,h0,c9,KT,q7];constructor
 ·intro H;refine⟨fun x hx=>?_,fun k x hx h0=>?_⟩
  ·obtain⟨k,hk⟩:=B7 hx;have:=H k x o_ hk;rw[ok1,c9]at this;exact this.1
  ·have:=H k x o_ hx;rw[ok1,c9,d5 h0]at this;exact this.2
 ·rintro⟨H1,H2⟩ j x _ hx;rw[ok1,c9];refine⟨H1 x (b9 hx),?_⟩;split
  ·exact H2 j x hx aag
  ·rfl
theorem uD {l:List Oj}:aj l=(decide (l.length<=60)&&(decide ((az l).length<=6)&&(nB l&&(okN l l.length 0&&cm (pi l) l l.length 0)))):=by
 unfold aj;rw[LG,yY]
 cases hh:nB l with
 | false=>simp
 | true=>
  have h1:1<=(az l).length:=by
   cases l with
   | nil=>cases hh
   | cons x r=>
    have:x.I6=0:=by unfold nB at hh;simp only[c9,x7]at hh;exact hh.1
    rw[az,funsF,d5 this];simp
  have e:(decide (1<=(az l).length/\(az l).length<=6))=decide ((az l).length<=6):=by rw[decide_eq_decide];omega
  rw[e];generalize decide (l.length<=60)=b1;generalize decide ((az l).length<=6)=b2;generalize l.all cF=b3;generalize(az l).all (bC l)=b4;generalize ls l=b5;generalize cm (lc l) l l.length 0=b6
  cases b1<;>cases b2<;>cases b3<;>cases b4<;>cases b5<;>cases b6<;>rfl
theorem V77{p:Prop}(h:p:=by
 repeat' ((conv=>whnf);first|apply Wx|apply W6|apply oi|apply fi|intro h|refine cl hF ?_|refine⟨0,x0.tr,rfl,aa QR,?_⟩|exact Y6|refine e_ rfl ?_)
 all_goals try(exfalso;simp_all[ji];done)):p:=h
theorem V128{p:Prop}(h:p:=by
 unfold bC;rw[hx,fY];dsimp only
 cases findN l 0 x.J0 with
 | none=>simp[cX]
 | some m=>rw[u7];simp[cX];omega):p:=h
theorem V50{p:Prop}(h:p:=by
 repeat' ((conv=>whnf);first|apply Wx|apply W6|apply oi|apply fi|intro h|refine cl hL ?_|refine cl hN ?_|refine⟨k,x.tr,rfl,aa hx,?_⟩|exact Y6|refine e_ rfl ?_)
 all_goals try exact Q3
 all_goals
  conv=>whnf
  refine⟨⟨k+1,o_,by simp_all⟩,?_,KD⟩
  exact Z7):p:=h
theorem V51{p:Prop}(h:p:=by
 repeat' ((conv=>whnf);first|apply Wx|apply W6|apply oi|apply fi|intro h|refine cl hL ?_|refine cl hN ?_|refine⟨k,x.tr,rfl,aa hx,?_⟩|exact Y6|refine e_ rfl ?_)
 all_goals try exact Q3
 all_goals
  conv=>whnf
  refine⟨⟨k+1,o_⟩,?_,KD⟩
  exact Z7):p:=h
theorem eF (l:List Oj)(TF:aE 1048576 (.lst 4 (l.map Oj.tr))):Sim.Spec prog 47 [tvP l] (rB (aj l)):=by
 refine aI hΓ ay func47 rfl d_ rfl ?_;have hl:=cu TF;have hs:∀x∈l,aX 1048576 x.tr:=fun x hx=>bx TF hx;have N1:(l.map Oj.tr).length=l.length:=s_;have hF:=er l hl;have OA:((az l).map fun n:Nat=>ae n).length=(az l).length:=s_;rw[uD];by_cases c1:l.length<=60
 ·rw[r7 c1,m7];by_cases Pp:0<l.length
  ·obtain⟨x0,QR⟩:=ab Pp;have OC:(x0.K0.map ah).length=x0.K0.length:=s_;have X5:=tU QR;by_cases c2:(az l).length<=6
   ·rw[r7 c2,m7]
    cases hh:nB l with
    | false=>
     rw[hh]at X5;rw[q9]
     exact V77
    | true=>
     rw[hh]at X5;rw[m7]
     cases N7:okN l l.length 0 with
     | false=>
      rw[q9];repeat' ((conv=>whnf);first|apply Wx|apply W6|apply oi|apply fi|intro h|refine cl hF ?_|refine⟨0,x0.tr,rfl,aa QR,?_⟩|exact Y6|refine e_ rfl ?_)
      all_goals try exact Q26
      conv=>whnf
      refine⟨{k:Nat//k<=l.length/\okN l (l.length-k) k=false},fun q=>⟨[(0,vP l),(3,tI .i64 (q.1:Int))],[],[]⟩,fun q=>l.length-q.1,⟨0,o_,by rw[v3];exact N7⟩,?_,?_⟩
      ·exact Z2
      intro⟨k,hk,hr⟩;dsimp only at hk hr⊢;by_cases N2:k<l.length
      ·obtain⟨x,hx⟩:=ab N2;rw[Ea hx,ok1]at hr;have hL:=qm x (hs x (b9 hx));have hN:=eC l x.J0 hl
       have SR:(fY l x.J0==(k:Int))=bC l k:=by exact V128
       generalize fY l x.J0=ff at *
       generalize cF x=lo at *
       generalize bC l k=nf at *
       by_cases h0:x.I6=0
       ·rw[d5 h0]at hr;exact V50
       ·rw[c8 h0,Bool.and_true]at hr;exact V50
      ·rw[show l.length-k=0 by omega]at hr
       cases hr
     | true=>
      rw[m7];obtain⟨R,hR⟩:∃R,cm (pi l) l l.length 0=R:=⟨_,rfl⟩;rw[hR];have SE:=(Bz (l:=l) l.length 0 o_);rw[v3]at SE;have SE:=SE.1 N7;repeat' ((conv=>whnf);first|apply Wx|apply W6|apply oi|apply fi|intro h|refine cl hF ?_|refine⟨0,x0.tr,rfl,aa QR,?_⟩|exact Y6|refine e_ rfl ?_)
      all_goals try exact Q26
      conv=>whnf
      refine⟨{k:Nat//k<=l.length},fun q=>⟨[(0,vP l),(3,tI .i64 (q.1:Int))],[],[]⟩,fun q=>l.length-q.1,⟨0,o_⟩,?_,?_⟩
      ·exact Z2
      intro⟨k,hk⟩;dsimp only at hk⊢;by_cases N2:k<l.length
      ·obtain⟨x,hx⟩:=ab N2;have hr:=SE k x o_ hx;rw[ok1]at hr;have hL:=qm x (hs x (b9 hx));have hN:=eC l x.J0 hl
       have SR:(fY l x.J0==(k:Int))=bC l k:=by exact V128
       clear SE N7
       generalize fY l x.J0=ff at *
       generalize cF x=lo at *
       generalize bC l k=nf at *
       by_cases h0:x.I6=0
       ·rw[d5 h0]at hr;exact V51
       ·rw[c8 h0,Bool.and_true]at hr;exact V51
      ·repeat' ((conv=>whnf);first|apply Wx|apply W6|apply oi|apply fi|intro h|exact Y6|refine e_ rfl ?_)
       conv=>whnf
       refine⟨{k:Nat//k<=l.length/\cm (pi l) l (l.length-k) k=R},fun q=>⟨[(0,vP l),(4,tI .i64 (q.1:Int))],[],[]⟩,fun q=>l.length-q.1,⟨0,o_,by rw[v3];exact hR⟩,?_,?_⟩
       ·exact Z2
       intro⟨k,hk,hr⟩;dsimp only at hk hr⊢;by_cases N2:k<l.length
       ·obtain⟨x,hx⟩:=ab N2;rw[lL hx (d7 _)]at hr;have hE:=dw l (k:Int) hl
        cases he:endAt l k with
        | none=>
         rw[bu,km he]at hE;rw[he]at hr;subst hr;repeat' ((conv=>whnf);first|apply Wx|apply W6|apply oi|apply fi|intro h|refine cl hE ?_|refine⟨k,x.tr,rfl,aa hx,?_⟩|exact Y6|refine e_ rfl ?_)
         all_goals try exact Q3
        | some e=>
         obtain⟨_,_,_,_,Pr,Pq⟩:=aL he;rw[bu,br he]at hE;rw[he]at hr;dsimp only at hr;have hK:=wQ l k e c1 hs he
         generalize pi l k e=fb at *
         by_cases hc:x.I6=0/\fb=true
         ·rw[d5 hc]at hr;obtain⟨d1,d2⟩:=hc;subst d2;repeat' ((conv=>whnf);first|apply Wx|apply W6|apply oi|apply fi|intro h|refine cl hE ?_|refine cl hK ?_|refine⟨k,x.tr,rfl,aa hx,?_⟩|exact Y6|refine e_ rfl ?_)
          all_goals try exact Q3
          conv=>whnf
          refine⟨⟨e+1,o_,hr⟩,?_,KD⟩;exact Z7
         ·rw[c8 hc]at hr;subst hr;repeat' ((conv=>whnf);first|apply Wx|apply W6|apply oi|apply fi|intro h|refine cl hE ?_|refine cl hK ?_|refine⟨k,x.tr,rfl,aa hx,?_⟩|exact Y6|refine e_ rfl ?_)
          all_goals try exact Q3
       ·rw[show l.length-k=0 by omega,cm,r7 o_]at hr;subst hr;exact Z6
   ·rw[y5 c2,q9];exact V77
  ·have Yv:l=[]:=A8.1 o_;subst Yv;rw[show nB ([]:List Oj)=false from rfl,q9,F8];repeat' ((conv=>whnf);first|apply Wx|apply W6|apply oi|apply fi|intro h|refine cl hF ?_|exact Y6|refine e_ rfl ?_)
 ·rw[y5 c1,q9];repeat' ((conv=>whnf);first|apply Wx|apply W6|apply oi|apply fi|intro h|refine cl hF ?_|exact Y6|refine e_ rfl ?_)
  all_goals try exact Q3
end Go.Proofs.P
