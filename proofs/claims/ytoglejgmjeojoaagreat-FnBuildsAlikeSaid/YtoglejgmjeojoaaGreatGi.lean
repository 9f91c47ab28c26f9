import Derived.Test.YtoglejgmjeojoaaGreatGh
set_option maxRecDepth 100000
set_option maxHeartbeats 0
namespace Go.Proofs.P
open Go.Sim Tryz
theorem BT {c a:Int}(h:fY c a):dH c a=true:=by
 obtain⟨h0,h1,h2,h3,h4,h5,h6⟩:=h;unfold dH;rw[d5,within_iff,within_iff];refine⟨⟨h0,h1⟩,?_⟩;unfold jR;split
 ·have:=h2 aav;dsimp only;omega
 split
 ·have:=h3 o_;dsimp only;omega
 split
 ·have:=h4 aav;dsimp only;omega
 split
 ·have:=h5 o_;dsimp only;omega
 ·have:=h6 o_;dsimp only;omega
structure PlI (p:List Qt) (f j:Nat) (y:Qw):Prop where
 head:j=0->(y.L5.K0.J5=13\/y.L5.K0.J5=15)/\∃g ln,(aq p)[f]?=some g/\y.L5.M8=(g:Int)/\p[g]?=some ln/\ln.J0=0
 body:0<j->y.L5.K0.J5≠13/\∃(n:Nat) (ln:Qt),y.L5.M8=(n:Int)/\p[n]?=some ln/\ln.J0≠0
 op:dH y.L5.K0.J5 y.L5.K0.L2=true
theorem CO (p:List Qt)(b:Ql):alike (foldIf p b) p:=by
 unfold foldIf;split
 ·exact dW p
 ·rfl
theorem nM (st:List Int)(k:Nat)(x:Qs):(dN st k x).K0.J5=x.K0.J5:=by unfold dN;split<;>rfl
theorem zu (st:List Int)(k:Nat)(x:Qs):(dN st k x).M8=x.M8:=by unfold dN;split<;>rfl
theorem pk {p:List Qt}{b:Ql}{at0:Int}(hs:aK 1048576 (.lst 4 (p.map Qt.tr)))(h1:ak p=true)(h2:aY b=true){f:Nat}(h:f<(aq p).length){j:Nat}{y:Qw}(hy:(dK (aG p f b) at0)[j]?=some y):PlI p f j y:=by
 obtain⟨g,C,k1,k2,k3,k4,hi⟩:=sP (f:=(f:Int)) hs h1 h2 o_ o_;have O2:=(iX (p:=p) (f:=(f:Int)) (b:=b) hs).1;have Q0:=hi.jumps.2;have hj:j<(aG p (f:Int) b).length:=by have:=aE hy;rwa [dM]at this
 obtain⟨x,hx⟩:=ae hj;rw[eF hx]at hy;injection hy with hy;subst hy;rw[e7]at k1;obtain⟨X9,ln,UP,XL⟩:=kN (c9 k1)
 generalize aG p (f:Int) b=I at *
 obtain⟨a,t,rfl,ha,ht⟩:=hi
 have O3:¬pm x=true->fY x.K0.J5 x.K0.L2:=fun hn=>by
  rw[isJump_iff]at hn
  cases j with
  | zero=>
   simp only[f9,Option.some.injEq]at hx;subst hx;have e3:=ha.2.2
   rcases ha.1 with e|e<;>(rw[e,e3];unfold fY;omega)
  | succ j=>exact(ht x (c9 (by simpa using hx))).op hn
 refine⟨fun e=>?_,fun e=>?_,?_⟩
 ·subst e;simp only[f9,Option.some.injEq]at hx;subst hx;dsimp only;rw[nM,zu];exact⟨ha.1,g,ln,k1,ha.2.1,UP,XL⟩
 ·obtain⟨j,rfl⟩:∃i,j=i+1:=⟨j-1,o_⟩;have hg:=ht x (c9 (by simpa using hx));dsimp only;rw[nM,zu];refine⟨hg.enter,?_⟩;obtain⟨z,z0,z1,z2⟩:=hg.line;rw[k2]at z1;obtain⟨w,w1,w2,_⟩:=(CO p b).get z1;exact⟨x.M8.toNat,w,o_,w1,o_⟩
 ·dsimp only;by_cases hn:pm x=true
  ·rw[dN,b9 hn];have h3:=Q0 x (c9 hx) hn;rw[isJump_iff]at hn;have s1:=iw (at0:=at0) (l:=a::t) (k:=x.K0.L2.toNat) o_;have s2:=iw (at0:=at0) (l:=a::t) (k:=j+1) o_;refine BT ?_;dsimp only[pU];unfold fY;omega
  ·rw[dN,b8 hn];exact BT (O3 hn)
def aA (l:List Qw):List UInt8:=l.flatMap fun x=>bt x.L5.K0
theorem aR (a b:List Qw):aA (a++b)=aA a++aA b:=by simp[aA]
theorem eK (x:Qw):aA [x]=bt x.L5.K0:=by simp[aA]
theorem fm:∀(l:List Qw),(aA l).length<=5*l.length
 | []=>by simp[aA]
 | x::l=>by
  have h1:=fm l;have h2:=oZ x.L5.K0;rw[show x::l=[x]++l from rfl,aR,c7,c7,eK];simp only[d6,e8];omega
theorem mC {l:List Qs}{at0:Int}(h:∀y∈dK l at0,dH y.L5.K0.J5 y.L5.K0.L2=true):∀{k:Nat},k<=l.length->((aA ((dK l at0).take k)).length:Int)=atL (bY at0 l) k-at0
 | 0,_=>by rw[gq];simp[aA]
 | k+1,hk=>by
  obtain⟨x,hx⟩:=ae (l:=l) (k:=k) o_;have hg:=eF (at0:=at0) hx;have ih:=mC h (k:=k) o_;have he:=eY (h _ (c9 hg));dsimp only at he;rw[nM]at he;rw[cH hg,aR,c7,eK,fg hx];dsimp only;omega
def bM (p:List Qt)(f:Nat):List UInt8:=match(aq p)[f]? with
 | some g=>(match p[g]? with|some y=>y.J7|none=>[])
 | none=>[]
def cA (p:List Qt):Int->List (Nat×List Qw)->List QB
 | _,[]=>[]
 | at0,(f,l)::L=>⟨bM p f,at0,(aA l).length⟩::cA p (at0+(aA l).length) L
theorem pz (p:List Qt):∀(L:List (Nat×List Qw)) (at0:Int) (x:Nat×List Qw),cA p at0 (L++[x])=cA p at0 L++[⟨bM p x.1,at0+(aA (aH L)).length,(aA x.2).length⟩]
 | [],at0,(f,l)=>by simp[cA,aH,aA]
 |(g,m)::L,at0,x=>by
  rw[p9,cA,pz p L,cA,p9];congr 3;have:aH ((g,m)::L)=m++aH L:=by simp[aH]
  rw[this,aR,c7];simp only[QB.mk.injEq,true_and,and_true];omega
theorem lf (p:List Qt):∀(L:List (Nat×List Qw)) (at0:Int),(cA p at0 L).length=L.length
 | [],_=>rfl
 |(f,l)::L,at0=>by rw[cA,d6,lf p L,d6]
noncomputable def ay (p:List Qt) (b:Ql) (image:Int):Qq:=
 if ak p=true/\aY b=true/\af image 0 1=true then⟨aA (aH (co p b image (aq p).length 0 0)),cA p 0 (co p b image (aq p).length 0 0)⟩else⟨[],[]⟩
theorem mX {p:List Qt}{b:Ql}{image:Int}:∀{n f:Nat} {at0:Int} {x:Nat×List Qw},x∈co p b image n f at0->f<=x.1/\x.1<f+n
 | 0,_,_,_,h=>by cases h
 | n+1,f,at0,x,h=>by
  rw[co]at h;split at h
  ·rcases d8.1 h with rfl|h
   ·exact⟨d7 _,g_⟩
   ·have:=mX h;omega
  ·have:=mX h;omega
theorem mb {p:List Qt}{b:Ql}{image:Int}(hs:aK 1048576 (.lst 4 (p.map Qt.tr)))(h1:ak p=true)(h2:aY b=true):∀{n f:Nat} {at0:Int} {i:Nat} {x:Nat×List Qw},f+n<=(aq p).length->(co p b image n f at0)[i]?=some x->
  x.2=dK (aG p (x.1:Int) b) (at0+((aA (aH ((co p b image n f at0).take i))).length:Int))/\x.1<(aq p).length/\0<x.2.length
 | 0,_,_,_,_,_,h=>by simp[co]at h
 | n+1,f,at0,i,x,hf,h=>by
  rw[mM]at h⊢;split at h
  ·rename_i hin;rw[b9 hin]
   cases i with
   | zero=>
    simp only[f9,Option.some.injEq]at h;subst h;have:=(My (f:=f) hs h1 h2 o_).pos
    refine⟨by simp[aH,aA],g_,by dsimp only;rw[dM];exact this⟩
   | succ i=>
    rw[j8]at h;obtain⟨k1,k2,k3⟩:=mb hs h1 h2 o_ h;refine⟨?_,k2,k3⟩
    have hl:=mC (l:=aG p (f:Int) b) (at0:=at0) (fun y hy=>by
     obtain⟨j,hj⟩:=u3.1 hy
     exact(pk hs h1 h2 o_ hj).op) (k:=(aG p (f:Int) b).length) (d7 _)
    rw[gt (by rw[dM];exact d7 _)]at hl;rw[k1,s5,show ∀(a:Nat×List Qw) (l:List (Nat×List Qw)),aH (a::l)=a.2++aH l from fun a l=>by simp[aH],aR,c7];congr 1;have he:wY at0 (aG p (f:Int) b)=atL (bY at0 (aG p (f:Int) b)) (aG p (f:Int) b).length:=rfl;dsimp only
    rw[he]at *
    omega
  ·rename_i hin;rw[b8 hin];exact mb hs h1 h2 o_ h
theorem iy {p:List Qt}{b:Ql}{image:Int}(hs:aK 1048576 (.lst 4 (p.map Qt.tr)))(h1:ak p=true)(h2:aY b=true){i:Nat}{x:Nat×List Qw}(h:(co p b image (aq p).length 0 0)[i]?=some x){j:Nat}{y:Qw}(hy:x.2[j]?=some y):
  PlI p x.1 j y/\y.M7=((aA (aH ((co p b image (aq p).length 0 0).take i))).length:Int)+(aA (x.2.take j)).length:=by
 obtain⟨k1,k2,_⟩:=mb hs h1 h2 o_ h
 generalize hS:((aA (aH ((co p b image (aq p).length 0 0).take i))).length:Int)=S at *
 rw[G6]at k1;rw[k1]at hy⊢;refine⟨pk hs h1 h2 k2 hy,?_⟩;have hj:j<(aG p (x.1:Int) b).length:=by have:=aE hy;rwa [dM]at this
 rw[mC (fun z hz=>by
  obtain⟨j,hj⟩:=u3.1 hz
  exact(pk hs h1 h2 k2 hj).op) o_]
 obtain⟨z,hz⟩:=ae hj;rw[eF hz]at hy;injection hy with hy;subst hy;dsimp only;omega
def sD (L:List (Nat×List Qw))(i j:Nat):List Qw:=match L[i]? with|some x=>x.2.take j|none=>[]
def iQ (L:List (Nat×List Qw))(i j:Nat):List UInt8:=aA (aH (L.take i))++aA (sD L i j)
def lH (p:List Qt)(L:List (Nat×List Qw))(i j:Nat):List QB:=cA p 0 (L.take i)++(match L[i]? with
 | some x=>if j=0 then []else [⟨bM p x.1,((aA (aH (L.take i))).length:Int),((aA (x.2.take j)).length:Int)⟩]
 | none=>[])
theorem nt (L:List (Nat×List Qw))(x:Nat×List Qw):aH (L++[x])=aH L++x.2:=by simp[aH]
theorem Ht {L:List (Nat×List Qw)}{i:Nat}{x:Nat×List Qw}(h:L[i]?=some x):iQ L i x.2.length=iQ L (i+1) 0:=by
 have:sD L (i+1) 0=[]:=by unfold sD;split<;>simp
 rw[iQ,iQ,this,cH h,nt,aR,sD,h];simp[aA]
theorem HN {p:List Qt}{L:List (Nat×List Qw)}{i:Nat}{x:Nat×List Qw}(h:L[i]?=some x)(h0:0<x.2.length):lH p L i x.2.length=lH p L (i+1) 0:=by
 rw[lH,lH,cH h,pz,h];dsimp only;rw[b8 o_,gt (d7 _),G6]
 cases L[i+1]?<;>simp
theorem Kw {p:List Qt}{L:List (Nat×List Qw)}:lH p L L.length 0=cA p 0 L:=by rw[lH,gt (d7 _),e9 (d7 _)];simp
theorem Km {L:List (Nat×List Qw)}:iQ L L.length 0=aA (aH L):=by rw[iQ,gt (d7 _),sD,e9 (d7 _)];simp[aA]
theorem GK {L:List (Nat×List Qw)}{i j:Nat}{x:Nat×List Qw}{y:Qw}(h:L[i]?=some x)(hy:x.2[j]?=some y):(aH L)[(aH (L.take i)).length+j]?=some y:=by
 have e:L=L.take i++x::L.drop (i+1):=by rw[<-dX h,x5]
 have e2:aH L=aH (L.take i)++(x.2++aH (L.drop (i+1))):=by
  conv=>lhs;rw[e]
  simp[aH]
 rw[e2,m9 o_,D2,l8 (aE hy),hy]
theorem Ld {p:List Qt}{L:List (Nat×List Qw)}(ZR:∀{i:Nat} {x:Nat×List Qw},L[i]?=some x->0<x.2.length){i j:Nat}{x:Nat×List Qw}(hx:L[i]?=some x)(hj:j<x.2.length):∃q:Nat×Nat,q.1<=L.length/\(∀x,L[q.1]?=some x->q.2<x.2.length)/\(q.1=L.length->q.2=0)/\
  (aH (L.take q.1)).length+q.2=(aH (L.take i)).length+(j+1)/\iQ L q.1 q.2=iQ L i (j+1)/\lH p L q.1 q.2=lH p L i (j+1):=by
 have hi:=aE hx;by_cases hn:j+1<x.2.length
 ·exact⟨(i,j+1),g_,fun z hz=>by dsimp only at hz⊢;rw[hx]at hz;injection hz with hz;subst hz;exact hn,fun h=>by dsimp only at h;omega,rfl,rfl,rfl⟩
 ·have e:j+1=x.2.length:=o_;refine⟨(i+1,0),g_,fun z hz=>ZR hz,fun _=>rfl,?_,?_,?_⟩
  ·dsimp only;rw[cH hx,nt,c7];omega
  ·dsimp only;rw[e,Ht hx]
  ·dsimp only;rw[e,HN hx (ZR hx)]
theorem Ab {p:List Qt}{L:List (Nat×List Qw)}{i:Nat}:lH p L i 0=cA p 0 (L.take i):=by rw[lH];cases L[i]?<;>simp
theorem Hx {L:List (Nat×List Qw)}{i:Nat}:iQ L i 0=aA (aH (L.take i)):=by rw[iQ,sD];cases L[i]?<;>simp[aA]
theorem BU {p:List Qt}{L:List (Nat×List Qw)}{i j:Nat}{x:Nat×List Qw}(hx:L[i]?=some x):lH p L i (j+1)=cA p 0 (L.take i)++[⟨bM p x.1,((aA (aH (L.take i))).length:Int),((aA (x.2.take (j+1))).length:Int)⟩]:=by rw[lH,hx];rfl
theorem Kv {L:List (Nat×List Qw)}{i j:Nat}{x:Nat×List Qw}{y:Qw}(hx:L[i]?=some x)(hy:x.2[j]?=some y):iQ L i (j+1)=iQ L i j++bt y.L5.K0:=by rw[iQ,iQ,sD,sD,hx];dsimp only;rw[cH hy,aR,eK,l9]
theorem Kr {L:List (Nat×List Qw)}{i j:Nat}{x:Nat×List Qw}(hx:L[i]?=some x):(iQ L i j).length=(aA (aH (L.take i))).length+(aA (x.2.take j)).length:=by rw[iQ,sD,hx,c7]
def oL {α:Type}(o:Option (List α)):List α:=match o with|some l=>l|none=>[]
def iR (off:Int)(x:QB):Bool:=af x.L7 0 1000000&&(af x.M9 0 1000000&&(decide (x.L7<=off)&&decide (off<x.L7+x.M9)))
def fT (off:Int):List QB->Nat->Int
 | [],_=> -1
 | x::l,k=>if iR off x then(k:Int)else fT off l (k+1)
def fZ (l:List QB)(off:Int):Int:=fT off l 0
theorem Kx {off:Int}{l:List QB}{k:Nat}{x:QB}(hx:l[k]?=some x):fT off (l.drop k) k=if iR off x then(k:Int)else fT off (l.drop (k+1)) (k+1):=by rw[dX hx,fT]
theorem tO {off:Int}:∀(l:List QB) (k:Nat),fT off l k= -1\/((k:Int)<=fT off l k/\fT off l k<k+l.length)
 | [],k=> .inl (by rw[fT])
 | x::l,k=>by
  rw[fT];split
  ·exact .inr ⟨o_,by simp only[d6];omega⟩
  ·rcases tO l (k+1)with h|h
   ·exact .inl h
   ·exact .inr ⟨o_,by simp only[d6];omega⟩
theorem oP (l:List QB)(off:Int):fZ l off= -1\/(0<=fZ l off/\fZ l off<l.length):=by have:=tO (off:=off) l 0;unfold fZ;omega
theorem ob (i:Qq)(off:Int)(hl:i.L4.length<=1048576):Sim.Spec prog 136 [.agg i.tr,tvI off] (rI (fZ i.L4 off)):=by
 refine az hΓ aF func136 rfl d_ rfl ?_;obtain⟨code,l⟩:=i;dsimp only at hl⊢;have O2:(l.map QB.tr).length=l.length:=s_;unfold fZ;repeat' ((conv=>whnf);first|refine Or.inl ?_|apply oi|apply fi|intro h|exact Y1|refine e_ rfl ?_)
 conv=>whnf
 refine⟨{k:Nat//k<=l.length/\fT off (l.drop k) k=fT off l 0},fun k=>⟨[(1,tI .i64 off),(2,.r (.c (.ptr (2,0,0) 0))),(5,tI .i64 (k.1:Int))],[((2,0,0),some (.box [.t (.str code),.t (.lst 3 (l.map QB.tr))]))],[2]⟩,fun k=>l.length-k.1,⟨0,o_,by rw[A1]⟩,?_,?_⟩
 ·exact Z1
 intro⟨k,hk,hr⟩;dsimp only;by_cases O4:k<l.length
 ·obtain⟨x,hx⟩:=ae O4;rw[Kx hx]at hr;have Sg:=bz x.L7 0 1000000;have Rb:=bz x.M9 0 1000000;have Vn:iR off x=false->fT off (l.drop (k+1)) (k+1)=fT off l 0:=fun h=>by rw[h,b8 s_]at hr;exact hr
  cases RI:af x.L7 0 1000000 with
  | false=>
   have hh:iR off x=false:=(by rw[iR,RI];rfl);rw[RI]at Sg;repeat' ((conv=>whnf);first|refine Or.inl ?_|apply oi|apply fi|intro h|refine⟨k,x.tr,rfl,ab hx,?_⟩|refine ci Sg (ai rfl (ai rfl (ai rfl trivial))) ?_|exact Y2|refine e_ rfl ?_)
   all_goals conv=>whnf
   all_goals refine⟨⟨k+1,o_,Vn hh⟩,?_,KD⟩
   repeat' ((conv=>whnf);first|refine Or.inl ?_|apply oi|apply fi|intro h|exact Y1|refine e_ rfl ?_)
   all_goals exact Q5
  | true=>
   rw[RI]at Sg
   cases Sr:af x.M9 0 1000000 with
   | false=>
    have hh:iR off x=false:=(by rw[iR,RI,Sr];rfl);rw[Sr]at Rb;repeat' ((conv=>whnf);first|refine Or.inl ?_|apply oi|apply fi|intro h|refine⟨k,x.tr,rfl,ab hx,?_⟩|refine ci Sg (ai rfl (ai rfl (ai rfl trivial))) ?_|refine ci Rb (ai rfl (ai rfl (ai rfl trivial))) ?_|exact Y2|refine e_ rfl ?_)
    all_goals conv=>whnf
    all_goals refine⟨⟨k+1,o_,Vn hh⟩,?_,KD⟩
    repeat' ((conv=>whnf);first|refine Or.inl ?_|apply oi|apply fi|intro h|exact Y1|refine e_ rfl ?_)
    all_goals exact Q5
   | true=>
    rw[Sr]at Rb;have UJ:=within_iff.1 RI;have UX:=within_iff.1 Sr;have Zb:IntKind.i64.wrap (x.L7+x.M9)=x.L7+x.M9:=c8 _ o_
    cases hh:iR off x with
    | true=>
     rw[hh,b9 rfl]at hr;rw[iR,RI,Sr]at hh;simp only[l6,d5,i8]at hh;repeat' ((conv=>whnf);first|refine Or.inl ?_|apply oi|apply fi|intro h|refine⟨k,x.tr,rfl,ab hx,?_⟩|refine ci Sg (ai rfl (ai rfl (ai rfl trivial))) ?_|refine ci Rb (ai rfl (ai rfl (ai rfl trivial))) ?_|exact Y2|refine e_ rfl ?_)
     all_goals try exact⟨by rw[hr]⟩
     all_goals(exfalso;(try rw[Zb]at h);simp only[p6]at h;omega)
    | false=>
     have hbk:=Vn hh;rw[iR,RI,Sr]at hh;simp only[l6,A9,p6]at hh;repeat' ((conv=>whnf);first|refine Or.inl ?_|apply oi|apply fi|intro h|refine⟨k,x.tr,rfl,ab hx,?_⟩|refine ci Sg (ai rfl (ai rfl (ai rfl trivial))) ?_|refine ci Rb (ai rfl (ai rfl (ai rfl trivial))) ?_|exact Y2|refine e_ rfl ?_)
     all_goals try(exfalso;rw[Zb]at *;simp only[i8]at *;omega)
     all_goals conv=>whnf
     all_goals refine⟨⟨k+1,o_,hbk⟩,?_,KD⟩
     repeat' ((conv=>whnf);first|refine Or.inl ?_|apply oi|apply fi|intro h|exact Y1|refine e_ rfl ?_)
     all_goals exact Q5
 ·have QY:l.length<=k:=o_;rw[m6 QY,fT]at hr;repeat' ((conv=>whnf);first|refine Or.inl ?_|apply oi|apply fi|intro h|exact Y2|refine e_ rfl ?_)
  exact⟨by rw[<-hr]⟩
def dy (s:List UInt8)(p:Nat):Nat:=match s[p]? with|some b=>b.toNat|none=>0
theorem JD (s:List UInt8)(p:Nat):dy s p<256:=by
 unfold dy;split
 ·exact UInt8.toNat_lt _
 ·omega
def bp (s:List UInt8)(p:Nat):Nat->Nat
 | 0=>0
 | k+1=>bp s p k+dy s (p+k)*256^k
theorem gr (s:List UInt8)(p:Nat):∀k,bp s p k<256^k
 | 0=>by simp[bp]
 | k+1=>by
  have h1:=gr s p k;have h2:=JD s (p+k);rw[bp,Nat.pow_succ];have h3:=m5 (256^k) (show dy s (p+k)<=255 by omega);omega
def lO (c:Int)(m:Nat):Int:=if(br c).2=true/\2^(8*(br c).1.toNat-1)<=m then(m:Int)-2^(8*(br c).1.toNat)else m
def bP (s:List UInt8)(p:Int):Option (Qv×Nat):=
 if 0<=p/\p<s.length then
  (
   if aQ (dy s p.toNat)=0\/(s.length:Int)<p+aQ (dy s p.toNat)then none
   else some (⟨dy s p.toNat,lO (dy s p.toNat) (bp s (p.toNat+1) (br (dy s p.toNat)).1.toNat)⟩,(aQ (dy s p.toNat)).toNat))
 else none
def opX (o:Option (Qv×Nat)):Qv:=match o with|some x=>x.1|none=>⟨0,0⟩
def opZ (o:Option (Qv×Nat)):Int:=match o with|some x=>x.2|none=>0
abbrev rOp (o:Option (Qv×Nat)):Res:= .tup [.agg [.t (.int .i64 (opX o).J5),.t (.int .i64 (opX o).L2)],.c (.t (.int .i64 (opZ o))),.c (.t (.bool o.isSome))]
theorem EL (c:Int):br c=(4,true)\/br c=(2,true)\/br c=(2,false)\/br c=(1,false)\/br c=(0,false):=by
 unfold br;repeat' split
 all_goals simp
theorem PA {n x k:Nat}(hn:n<256^k):n ||| x*256^k=n+x*256^k:=by
 have e:(256:Nat)^k=2^(8*k):=by rw[show(256:Nat)=2^8 from rfl,<-Nat.pow_mul]
 have:=Nat.two_pow_add_eq_or_of_lt (i:=8*k) (b:=n) (by rw[<-e];exact hn) x;rw[e,Nat.mul_comm x,Nat.or_comm,<-this];omega
theorem Ca {x k:Nat}(hk:k<4)(hx:x<256):IntKind.i64.wrap ((x:Int)*2^(min (Int.toNat (IntKind.i64.wrap (8*(k:Int)))) IntKind.i64.bits))=((x*256^k:Nat):Int):=by
 rw[c8 (8*(k:Int)) o_];have:k=0\/k=1\/k=2\/k=3:=o_;rcases this with rfl|rfl|rfl|rfl
 ·show IntKind.i64.wrap ((x:Int)*1)=_;rw[c8 _ o_];simp
 ·show IntKind.i64.wrap ((x:Int)*256)=_;rw[c8 _ o_];simp
 ·show IntKind.i64.wrap ((x:Int)*65536)=_;rw[c8 _ o_];simp
 ·show IntKind.i64.wrap ((x:Int)*16777216)=_;rw[c8 _ o_];simp
theorem Bi {k:Nat}(hk:k<4):256^k<=16777216:=by have:=Nat.pow_le_pow_right (n:=256) o_ (show k<=3 by omega);exact this
theorem Mu {n x k:Nat}(hk:k<4)(hn:n<256^k)(hx:x<256):IntKind.i64.wrap ((BitVec.ofInt IntKind.i64.bits (n:Int) ||| BitVec.ofInt IntKind.i64.bits (IntKind.i64.wrap ((x:Int)*2^(min (Int.toNat (IntKind.i64.wrap (8*(k:Int)))) IntKind.i64.bits)))).toNat:Int)=((n+x*256^k:Nat):Int):=by
 rw[Ca hk hx];have h4:=Bi hk;have h5:x*256^k<=255*16777216:=A2 o_ h4
 have e:(BitVec.ofInt IntKind.i64.bits (n:Int) ||| BitVec.ofInt IntKind.i64.bits ((x*256^k:Nat):Int)).toNat=n+x*256^k:=by show(BitVec.ofInt 64 (n:Int) ||| BitVec.ofInt 64 ((x*256^k:Nat):Int)).toNat=_;rw[BitVec.toNat_or,H9,H9];have e1:((n:Int)%((2^64:Nat):Int)).toNat=n:=o_;have e2:(((x*256^k:Nat):Int)%((2^64:Nat):Int)).toNat=x*256^k:=o_;rw[e1,e2,PA hn]
 rw[e,c8 _ o_]
theorem Bb (c:Int):∃n:Nat,(br c).1=(n:Int)/\(n=0\/n=1\/n=2\/n=4)/\((br c).2=true->n=2\/n=4):=by
 rcases EL c with h|h|h|h|h<;>rw[h]
 ·exact⟨4,rfl,o_,o_⟩
 ·exact⟨2,rfl,o_,o_⟩
 ·exact⟨2,rfl,o_,s_⟩
 ·exact⟨1,rfl,o_,s_⟩
 ·exact⟨0,rfl,o_,s_⟩
theorem th {c:Int}{n m:Nat}(hn:(br c).1=(n:Int))(hg:(br c).2=true)(h:2^(8*n-1)<=m):lO c m=(m:Int)-2^(8*n):=by rw[lO,hn,e7,b9 ⟨hg,h⟩]
theorem pW {c:Int}{n m:Nat}(hn:(br c).1=(n:Int))(h:¬((br c).2=true/\2^(8*n-1)<=m)):lO c m=(m:Int):=by rw[lO,hn,e7,b8 h]
theorem V129{p:Prop}(h:p:=by
 have h1:¬aQ (b.toNat:Int)=0:=fun h=>QR (Or.inl h);unfold aQ at h1⊢;split at h1
 ·rename_i YH;rw[b9 YH,hn]
 ·omega):p:=h
theorem V130{p:Prop}(h:p:=by
 rcases XT rfl with h|h<;>rw[h]
 ·exact⟨32768,65536,d_,d_,d_,d_,d_,d_⟩
 ·exact⟨2147483648,4294967296,d_,d_,d_,d_,d_,d_⟩):p:=h
theorem od (s:List UInt8)(p:Int)(hs:s.length<=1048576)(hp:p<=9223372036854775807):Sim.Spec prog 177 [tvS s,tvI p] (rOp (bP s p)):=by
 refine az hΓ aF func177 rfl d_ rfl ?_;have hb:=aN p 0 (IntKind.i64.wrap (s.length-1));have hw:IntKind.i64.wrap ((s.length:Int)-1)=(s.length:Int)-1:=c8 _ o_;by_cases hin:0<=p/\p<s.length
 ·obtain⟨p,rfl⟩:=i7 hin.1;have Wf:af (p:Int) 0 (IntKind.i64.wrap (s.length-1))=true:=by rw[hw];exact within_iff.2 ⟨o_,o_⟩
  rw[Wf]at hb;obtain⟨b,SS⟩:=ae (l:=s) (k:=p) o_;have hba:dy s p=b.toNat:=by rw[dy,SS]
  have hz:=jN (b.toNat:Int);have ha:=ij (b.toNat:Int);have YQ:=iF (b.toNat:Int);have O4:=UInt8.toNat_lt b;have hwb:IntKind.i64.wrap (b.toNat:Int)=b.toNat:=c8 _ o_;rw[bP,b9 hin,e7,hba];by_cases QR:aQ (b.toNat:Int)=0\/(s.length:Int)<(p:Int)+aQ (b.toNat:Int)
  ·rw[b9 QR];repeat' ((conv=>whnf);first|refine Or.inl ?_|apply oi|apply fi|intro h|refine ci hb (ai rfl (ai rfl (ai rfl trivial))) ?_|refine⟨p,b,rfl,SS,?_⟩|refine ci hz (ai KW trivial) ?_|exact Y1|refine e_ rfl ?_)
   all_goals(exfalso;rename_i h0;have h1:¬aQ (b.toNat:Int)=0:=abf;rw[c8 _ o_]at h;have h':=j6 h;omega)
  ·rw[b8 QR];repeat' ((conv=>whnf);first|refine Or.inl ?_|apply oi|apply fi|intro h|refine ci hb (ai rfl (ai rfl (ai rfl trivial))) ?_|refine⟨p,b,rfl,SS,?_⟩|refine ci hz (ai KW trivial) ?_|refine ci ha (ai KW trivial) ?_|exact Y1|refine e_ rfl ?_)
   all_goals try(exfalso;first|(have h1:aQ (b.toNat:Int)=0:=aap;omega)|(rw[c8 _ o_]at h;have h':=j5 h;omega))
   obtain⟨n,hn,Xy,XT⟩:=Bb (b.toNat:Int)
   have hos:aQ (b.toNat:Int)=n+1:=by exact V129
   have Vi:=fun m=>th (m:=m) hn;have Un:=fun m=>pW (m:=m) hn;rw[hn,e7]
   generalize(br (b.toNat:Int)).2=sg at *
   generalize hV:lO (b.toNat:Int)=V at *
   conv=>whnf
   refine⟨{k:Nat//k<=n},fun k=>⟨[(0,tS s),(1,tI .i64 (p:Int)),(4,.r (.c (.ptr (4,0,0) 0))),(7,.r (.c (.ptr (7,0,0) 0))),(8,tI .i64 (aQ (b.toNat:Int))),(9,tI .i64 (n:Int)),(10,tB sg),(11,tI .i64 (k.1:Int))],[((7,0,0),some (.box [.t (.int .i64 b.toNat),.t (.int .i64 (bp s (p+1) k.1:Nat))])),((4,0,0),some (.box [.t (.int .i64 0),.t (.int .i64 0)]))],[7,4]⟩,fun k=>n-k.1,⟨0,o_⟩,?_,?_⟩
   ·repeat' ((conv=>whnf);first|refine Or.inl ?_|apply oi|apply fi|intro h|exact Y1|refine e_ rfl ?_)
    all_goals exact⟨by first|rfl|(rw[hwb];done)|(rw[hn];done)⟩
   intro⟨k,hk⟩;dsimp only;by_cases T9:k<n
   ·obtain⟨b2,Rb⟩:=ae (l:=s) (k:=p+1+k) o_;have Yi:dy s (p+1+k)=b2.toNat:=(by rw[dy,Rb]);have SR:=UInt8.toNat_lt b2;have Zw:=gr s (p+1) k;have S3:IntKind.i64.wrap (IntKind.i64.wrap ((p:Int)+1)+k)=((p+1+k:Nat):Int):=(by rw[c8 ((p:Int)+1) o_,c8 _ o_];omega);have QJ:bp s (p+1) (k+1)=bp s (p+1) k+b2.toNat*256^k:=(by rw[bp,Yi]);have Sr:IntKind.i64.wrap (b2.toNat:Int)=b2.toNat:=c8 _ o_;repeat' ((conv=>whnf);first|refine Or.inl ?_|apply oi|apply fi|intro h|refine⟨(p+1+k),b2,S3,Rb,?_⟩|exact Y14|refine e_ rfl ?_)
    conv=>whnf
    refine⟨⟨k+1,o_⟩,?_,KD⟩;repeat' ((conv=>whnf);first|refine Or.inl ?_|apply oi|apply fi|intro h|exact Y1|refine e_ rfl ?_)
    ·exact⟨by dsimp only;rw[c8 _ o_];rfl⟩
    ·refine⟨congrArg (Tr.int _) ?_⟩;dsimp only;rw[QJ,Sr];exact Mu o_ Zw SR
   ·have Rn:k=n:=o_;subst Rn;have Zw:=gr s (p+1) k
    cases sg with
    | false=>
     have hv:=Un (bp s (p+1) k) s_;repeat' ((conv=>whnf);first|refine Or.inl ?_|apply oi|apply fi|intro h|exact Y2|refine e_ rfl ?_)
     all_goals(refine⟨congrArg (Tr.int _) ?_⟩;simp only[opX,opZ];first|(rw[hv];done)|omega)
    | true=>
     have hAB:∃A B:Nat,2^(8*k-1)=A/\2^(8*k)=B/\B<=4294967296/\IntKind.i64.wrap (1*2^(min (Int.toNat (IntKind.i64.wrap (IntKind.i64.wrap (8*(k:Int))-1))) IntKind.i64.bits))=(A:Int)/\
       IntKind.i64.wrap (1*2^(min (Int.toNat (IntKind.i64.wrap (8*(k:Int)))) IntKind.i64.bits))=(B:Int)/\256^k=B:=by
      exact V130
     obtain⟨A,B,hA,hB,hBl,ST,VJ,Yn⟩:=hAB;rw[Yn]at Zw;have hB':(2:Int)^(8*k)=(B:Int):=(by rw[<-hB];simp);rw[hA,hB']at Vi;rw[hA]at Un
     have Vr:0<=IntKind.i64.wrap (IntKind.i64.wrap (8*(k:Int))-1):=by rcases XT rfl with h|h<;>rw[h]<;>decide
     have VI:0<=IntKind.i64.wrap (8*(k:Int)):=by rcases XT rfl with h|h<;>rw[h]<;>decide
     by_cases QY:A<=bp s (p+1) k
     ·have hv:=Vi _ rfl QY;have TM:IntKind.i64.wrap ((bp s (p+1) k:Int)-(B:Int))=(bp s (p+1) k:Int)-B:=c8 _ o_;repeat' ((conv=>whnf);first|refine Or.inl ?_|apply oi|apply fi|intro h|exact Y2|refine e_ rfl ?_)
      all_goals try(exfalso;rw[ST]at h;have h':=j6 h;omega)
      all_goals first
       | exact⟨Vr⟩
       | exact⟨VI⟩
       |(refine⟨congrArg (Tr.int _) ?_⟩;simp only[opX,opZ];first|(rw[VJ,TM,hv];done)|omega)
     ·have hv:=Un _ (fun h=>QY h.2);repeat' ((conv=>whnf);first|refine Or.inl ?_|apply oi|apply fi|intro h|exact Y2|refine e_ rfl ?_)
      all_goals try(exfalso;rw[ST]at h;have h':=j5 h;omega)
      all_goals first
       | exact⟨Vr⟩
       | exact⟨VI⟩
       |(refine⟨congrArg (Tr.int _) ?_⟩;simp only[opX,opZ];first|(rw[hv];done)|omega)
 ·rw[bP,b8 hin]
  have Wf:af p 0 (IntKind.i64.wrap (s.length-1))=false:=by
   rw[hw]
   cases h:af p 0 ((s.length:Int)-1)with|false=>rfl|true=>exact absurd (within_iff.1 h) o_
  rw[Wf]at hb;repeat' ((conv=>whnf);first|refine Or.inl ?_|apply oi|apply fi|intro h|refine ci hb (ai rfl (ai rfl (ai rfl trivial))) ?_|exact Y1|refine e_ rfl ?_)
theorem xm (s:List UInt8)(p:Int)(hs:s.length<=1048576)(hp:p<=9223372036854775807):Sim.Spec prog 140 [tvS s,tvI p] (rOp (bP s p)):=by
 refine az hΓ aF func140 rfl d_ rfl ?_;have hw:IntKind.i64.wrap ((s.length:Int)-1)=(s.length:Int)-1:=c8 _ o_;by_cases hin:0<=p/\p<s.length
 ·obtain⟨p,rfl⟩:=i7 hin.1;obtain⟨b,SS⟩:=ae (l:=s) (k:=p) o_;have hba:dy s p=b.toNat:=by rw[dy,SS]
  have hz:=qY (b.toNat:Int);have ha:=ig (b.toNat:Int);have YQ:=iF (b.toNat:Int);have O4:=UInt8.toNat_lt b;have hwb:IntKind.i64.wrap (b.toNat:Int)=b.toNat:=c8 _ o_;rw[bP,b9 hin,e7,hba];by_cases QR:aQ (b.toNat:Int)=0\/(s.length:Int)<(p:Int)+aQ (b.toNat:Int)
  ·rw[b9 QR]
   have hw6:IntKind.i64.wrap (IntKind.i64.wrap ((p:Int)+1)+(br (b.toNat:Int)).1)=(p:Int)+1+(br (b.toNat:Int)).1:=by have:=dI (b.toNat:Int);rw[c8 ((p:Int)+1) o_,c8 _ o_]
   have aah:¬aQ (b.toNat:Int)=0->aQ (b.toNat:Int)=(br (b.toNat:Int)).1+1:=fun h=>by
    unfold aQ at h⊢;split at h
    ·rename_i YH;rw[b9 YH]
    ·omega
   repeat' ((conv=>whnf);first|refine Or.inl ?_|apply oi|apply fi|intro h|refine⟨p,b,rfl,SS,?_⟩|refine ci hz (ai KW trivial) ?_|refine ci ha (ai KW trivial) ?_|exact Y1|refine e_ rfl ?_)
   all_goals try(exfalso;first|(have h':=j5 h;omega))
   all_goals(exfalso;rename_i h0;have h1:¬aQ (b.toNat:Int)=0:=abf;rw[hw6]at h;have h':=j6 h;have:=aah h1;omega)
  ·rw[b8 QR]
   have hw6:IntKind.i64.wrap (IntKind.i64.wrap ((p:Int)+1)+(br (b.toNat:Int)).1)=(p:Int)+1+(br (b.toNat:Int)).1:=by have:=dI (b.toNat:Int);rw[c8 ((p:Int)+1) o_,c8 _ o_]
   have aah:aQ (b.toNat:Int)=(br (b.toNat:Int)).1+1:=by
    have h:¬aQ (b.toNat:Int)=0:=fun h=>QR (Or.inl h);unfold aQ at h⊢;split at h
    ·rename_i YH;rw[b9 YH]
    ·omega
   repeat' ((conv=>whnf);first|refine Or.inl ?_|apply oi|apply fi|intro h|refine⟨p,b,rfl,SS,?_⟩|refine ci hz (ai KW trivial) ?_|refine ci ha (ai KW trivial) ?_|exact Y1|refine e_ rfl ?_)
   all_goals try(exfalso;first|(have h1:aQ (b.toNat:Int)=0:=aap;omega)|(rw[hw6]at h;have h':=j5 h;omega)|(have h':=j5 h;omega))
   clear hw6;obtain⟨n,hn,Xy,XT⟩:=Bb (b.toNat:Int)
   have hos:aQ (b.toNat:Int)=n+1:=by exact V129
   have Vi:=fun m=>th (m:=m) hn;have Un:=fun m=>pW (m:=m) hn;rw[hn,e7]
   generalize(br (b.toNat:Int)).2=sg at *
   generalize hV:lO (b.toNat:Int)=V at *
   conv=>whnf
   refine⟨{k:Nat//k<=n},fun k=>⟨[(0,tS s),(1,tI .i64 (p:Int)),(4,.r (.c (.ptr (4,0,0) 0))),(7,.r (.c (.ptr (7,0,0) 0))),(8,tI .i64 (n:Int)),(9,tB sg),(10,tI .i64 (k.1:Int))],[((7,0,0),some (.box [.t (.int .i64 b.toNat),.t (.int .i64 (bp s (p+1) k.1:Nat))])),((4,0,0),some (.box [.t (.int .i64 0),.t (.int .i64 0)]))],[7,4]⟩,fun k=>n-k.1,⟨0,o_⟩,?_,?_⟩
   ·repeat' ((conv=>whnf);first|refine Or.inl ?_|apply oi|apply fi|intro h|exact Y1|refine e_ rfl ?_)
    all_goals exact⟨by first|rfl|(rw[hwb];done)|(rw[hn];done)⟩
   intro⟨k,hk⟩;dsimp only;by_cases T9:k<n
   ·obtain⟨b2,Rb⟩:=ae (l:=s) (k:=p+1+k) o_;have Yi:dy s (p+1+k)=b2.toNat:=(by rw[dy,Rb]);have SR:=UInt8.toNat_lt b2;have Zw:=gr s (p+1) k;have S3:IntKind.i64.wrap (IntKind.i64.wrap ((p:Int)+1)+k)=((p+1+k:Nat):Int):=(by rw[c8 ((p:Int)+1) o_,c8 _ o_];omega);have QJ:bp s (p+1) (k+1)=bp s (p+1) k+b2.toNat*256^k:=(by rw[bp,Yi]);have Sr:IntKind.i64.wrap (b2.toNat:Int)=b2.toNat:=c8 _ o_;repeat' ((conv=>whnf);first|refine Or.inl ?_|apply oi|apply fi|intro h|refine⟨(p+1+k),b2,S3,Rb,?_⟩|exact Y14|refine e_ rfl ?_)
    conv=>whnf
    refine⟨⟨k+1,o_⟩,?_,KD⟩;repeat' ((conv=>whnf);first|refine Or.inl ?_|apply oi|apply fi|intro h|exact Y1|refine e_ rfl ?_)
    ·exact⟨by dsimp only;rw[c8 _ o_];rfl⟩
    ·refine⟨congrArg (Tr.int _) ?_⟩;dsimp only;rw[QJ,Sr];rw[Ca o_ SR];have h4:=Bi (show k<4 by omega);have h5:b2.toNat*256^k<=255*16777216:=A2 o_ h4;rw[c8 _ o_];simp
   ·have Rn:k=n:=o_;subst Rn;have Zw:=gr s (p+1) k;have hwz:IntKind.i64.wrap (1+(k:Int))=1+k:=c8 _ o_
    cases sg with
    | false=>
     have hv:=Un (bp s (p+1) k) s_;repeat' ((conv=>whnf);first|refine Or.inl ?_|apply oi|apply fi|intro h|exact Y2|refine e_ rfl ?_)
     all_goals(refine⟨congrArg (Tr.int _) ?_⟩;simp only[opX,opZ];first|(rw[hv];done)|(rw[hwz];omega))
    | true=>
     have hAB:∃A B:Nat,2^(8*k-1)=A/\2^(8*k)=B/\B<=4294967296/\IntKind.i64.wrap (1*2^(min (Int.toNat (IntKind.i64.wrap (IntKind.i64.wrap (8*(k:Int))-1))) IntKind.i64.bits))=(A:Int)/\
       IntKind.i64.wrap (1*2^(min (Int.toNat (IntKind.i64.wrap (8*(k:Int)))) IntKind.i64.bits))=(B:Int)/\256^k=B:=by
      exact V130
     obtain⟨A,B,hA,hB,hBl,ST,VJ,Yn⟩:=hAB;rw[Yn]at Zw;have hB':(2:Int)^(8*k)=(B:Int):=(by rw[<-hB];simp);rw[hA,hB']at Vi;rw[hA]at Un
     have Vr:0<=IntKind.i64.wrap (IntKind.i64.wrap (8*(k:Int))-1):=by rcases XT rfl with h|h<;>rw[h]<;>decide
     have VI:0<=IntKind.i64.wrap (8*(k:Int)):=by rcases XT rfl with h|h<;>rw[h]<;>decide
     by_cases QY:A<=bp s (p+1) k
     ·have hv:=Vi _ rfl QY;have TM:IntKind.i64.wrap ((bp s (p+1) k:Int)-(B:Int))=(bp s (p+1) k:Int)-B:=c8 _ o_;repeat' ((conv=>whnf);first|refine Or.inl ?_|apply oi|apply fi|intro h|exact Y2|refine e_ rfl ?_)
      all_goals try(exfalso;rw[ST]at h;have h':=j6 h;omega)
      all_goals first
       | exact⟨Vr⟩
       | exact⟨VI⟩
       |(refine⟨congrArg (Tr.int _) ?_⟩;simp only[opX,opZ];first|(rw[VJ,TM,hv];done)|(rw[hwz];omega))
     ·have hv:=Un _ (fun h=>QY h.2);repeat' ((conv=>whnf);first|refine Or.inl ?_|apply oi|apply fi|intro h|exact Y2|refine e_ rfl ?_)
      all_goals try(exfalso;rw[ST]at h;have h':=j5 h;omega)
      all_goals first
       | exact⟨Vr⟩
       | exact⟨VI⟩
       |(refine⟨congrArg (Tr.int _) ?_⟩;simp only[opX,opZ];first|(rw[hv];done)|(rw[hwz];omega))
 ·rw[bP,b8 hin];repeat' ((conv=>whnf);first|refine Or.inl ?_|apply oi|apply fi|intro h|exact Y1|refine e_ rfl ?_)
  all_goals(exfalso;rename_i h0;have h1:=j6 h0;have h2:=j6 h;omega)
def pp (s:List UInt8):Nat->Nat->Option (List Qv)
 | 0,p=>if p<s.length then none else some []
 | f+1,p=>if p<s.length then(match bP s (p:Int)with
   | some x=>(pp s f (p+x.2)).map (x.1::·)
   | none=>none)else some []
def gy (s:List UInt8):Option (List Qv):=pp s s.length 0
theorem jG {s:List UInt8}{p:Nat}{x:Qv}{z:Nat}(h:bP s (p:Int)=some (x,z)):1<=z/\z<=5/\p+z<=s.length:=by
 unfold bP at h;split at h
 ·rename_i hin;split at h
  ·cases h
  ·rename_i QR;injection h with h;injection h with h1 h2;rw[not_or]at QR;have:=iF (dy s (p:Int).toNat);omega
 ·cases h
theorem vz {s:List UInt8}:∀{f p:Nat},s.length-p<=f->pp s f p=pp s (s.length-p) p
 | 0,p,h=>by rw[show s.length-p=0 by omega]
 | f+1,p,h=>by
  rcases n5 p s.length with O4|QY
  ·obtain⟨m,hm⟩:∃m,s.length-p=m+1:=⟨s.length-p-1,o_⟩;rw[hm,pp,pp,b9 O4,b9 O4]
   match hd:bP s (p:Int)with
   | none=>rfl
   | some (x,z)=>have:=jG hd;dsimp only;rw[vz (f:=f) (p:=p+z) o_,vz (f:=m) (p:=p+z) o_]
  ·rw[pp,b8 o_,show s.length-p=0 by omega,pp,b8 o_]
theorem vE {s:List UInt8}{p:Nat}(O4:p<s.length):pp s (s.length-p) p=(match bP s (p:Int)with
  | some x=>(pp s (s.length-(p+x.2)) (p+x.2)).map (x.1::·)
  | none=>none):=by
 obtain⟨m,hm⟩:∃m,s.length-p=m+1:=⟨s.length-p-1,o_⟩;rw[hm,pp,b9 O4]
 match hd:bP s (p:Int)with
 | none=>rfl
 | some (x,z)=>have:=jG hd;dsimp only;rw[vz (f:=m) (p:=p+z) o_]
theorem yg {s:List UInt8}{p:Nat}(QY:s.length<=p):pp s (s.length-p) p=some []:=by rw[show s.length-p=0 by omega,pp,b8 o_]
abbrev OP (s:List UInt8)(R:Option (List Qv)):={q:Nat×List Qv//q.1<=s.length/\q.2.length<=q.1/\(pp s (s.length-q.1) q.1).map (q.2++·)=R}
theorem V9{p:Prop}(h:p:=by
 rw[vE O4]at hr
 match hd:bP s (p:Int)with
 | none=>
  rw[hd]at hr hD;dsimp only[rOp,opX,opZ,Option.isSome]at hr hD;subst hr
  repeat' ((conv=>whnf);first|refine Or.inl ?_|apply oi|apply fi|intro h|refine ci hD (ai rfl (ai rfl trivial)) ?_|exact Y2|refine e_ rfl ?_)
 | some (x,z)=>
  rw[hd]at hr hD;have hz:=jG hd;dsimp only[rOp,opX,opZ,Option.isSome]at hr hD;repeat' ((conv=>whnf);first|refine Or.inl ?_|apply oi|apply fi|intro h|refine ci hD (ai rfl (ai rfl trivial)) ?_|exact Y2|refine e_ rfl ?_)
  all_goals try exact⟨⟨by simp only[d9,d6,e8];omega,by simp only[d9,d6,e8];omega⟩⟩
  conv=>whnf
  refine⟨⟨(p+z,acc++[x]),g_,by simp;omega,?_⟩,?_,KD⟩
  ·dsimp only;rw[<-hr,Option.map_map];congr 1;funext l;simp
  repeat' ((conv=>whnf);first|refine Or.inl ?_|apply oi|apply fi|intro h|exact Y1|refine e_ rfl ?_)
  all_goals first
   |(refine⟨congrArg (Tr.int _) ?_⟩;dsimp only;rw[c8 _ o_];omega)
   |(refine⟨?_⟩;dsimp only;rw[q8];rfl)):p:=h
theorem V141{p:Prop}(h:p:=by
 have QY:s.length<=p:=o_;rw[yg QY]at hr;simp only[v5,m7]at hr;subst hr
 exact Z4):p:=h
theorem rR (s:List UInt8)(hs:s.length<=1048576):Sim.Spec prog 224 [tvS s] (.tup [.c (.arr 2 ((oL (gy s)).map Qv.tr)),.c (.t (.bool (gy s).isSome))]):=by
 refine az hΓ aF func224 rfl d_ rfl ?_;have ZO:(pp s (s.length-0) 0).map (([]:List Qv)++·)=gy s:=by simp[gy]
 generalize gy s=R at ZO⊢;repeat' ((conv=>whnf);first|refine Or.inl ?_|apply oi|apply fi|intro h|exact Y1|refine e_ rfl ?_)
 conv=>whnf
 refine⟨OP s R,fun q=>⟨[(0,tS s),(4,.r (.c (.own (9,0,0)))),(5,tI .i64 (q.1.1:Int))],[((9,0,0),some (.arr true 2 (q.1.2.map Qv.tr)))],[9]⟩,fun q=>s.length-q.1.1,⟨(0,[]),s_,s_,ZO⟩,?_,?_⟩
 ·exact Z1
 intro⟨⟨p,acc⟩,hp,QZ,hr⟩;dsimp only at hp QZ hr⊢;by_cases O4:p<s.length
 ·have hD:=od s (p:Int) hs o_;exact V9
 ·exact V141
theorem sd (s:List UInt8)(hs:s.length<=1048576):Sim.Spec prog 199 [tvS s] (.tup [.c (.arr 2 ((oL (gy s)).map Qv.tr)),.c (.t (.bool (gy s).isSome))]):=by
 refine az hΓ aF func199 rfl d_ rfl ?_;have ZO:(pp s (s.length-0) 0).map (([]:List Qv)++·)=gy s:=by simp[gy]
 generalize gy s=R at ZO⊢;repeat' ((conv=>whnf);first|refine Or.inl ?_|apply oi|apply fi|intro h|exact Y1|refine e_ rfl ?_)
 conv=>whnf
 refine⟨OP s R,fun q=>⟨[(0,tS s),(4,.r (.c (.own (9,0,0)))),(5,tI .i64 (q.1.1:Int))],[((9,0,0),some (.arr true 2 (q.1.2.map Qv.tr)))],[9]⟩,fun q=>s.length-q.1.1,⟨(0,[]),s_,s_,ZO⟩,?_,?_⟩
 ·exact Z1
 intro⟨⟨p,acc⟩,hp,QZ,hr⟩;dsimp only at hp QZ hr⊢;by_cases O4:p<s.length
 ·have hD:=xm s (p:Int) hs o_;exact V9
 ·exact V141
def gJ (seen:List QB)(nm:List UInt8):Bool:=seen.any fun y=>y.J7==nm
def Ar (len a:Nat)(x:QB):Bool:=x.L7==(a:Int)&&(decide (1<=x.M9)&&(decide (x.M9<=(len:Int)-a)&&dD x.J7))
def xY (code:List UInt8)(seen:List QB)(a:Nat)(x:QB):Bool:=Ar code.length a x&&(!(gJ seen x.J7)&&(gy ((code.take (a+x.M9.toNat)).drop a)).isSome)
def fO (code:List UInt8):List QB->Nat->List QB->Bool
 | _,a,[]=>a==code.length
 | seen,a,x::l=>xY code seen a x&&fO code (seen++[x]) (a+x.M9.toNat) l
def bO (i:Qq):Bool:=decide (i.J5.length<=1000000)&&fO i.J5 [] 0 i.L4
theorem KE {code:List UInt8}{l:List QB}{k a:Nat}{x:QB}(hx:l[k]?=some x):fO code (l.take k) a (l.drop k)=(xY code (l.take k) a x&&fO code (l.take (k+1)) (a+x.M9.toNat) (l.drop (k+1))):=by rw[dX hx,fO];obtain⟨hk,rfl⟩:=z6.1 hx;rw[z9 hk]
theorem Bm {l:List QB}{j:Nat}{y:QB}{nm:List UInt8}(hy:l[j]?=some y):gJ (l.take (j+1)) nm=(gJ (l.take j) nm||y.J7==nm):=by obtain⟨hk,rfl⟩:=z6.1 hy;rw[z9 hk,gJ,List.any_append];simp[gJ]
theorem GG {l:List QB}{j k:Nat}{y:QB}(hy:l[j]?=some y)(h:j<k):gJ (l.take k) y.J7=true:=by rw[gJ,A6];refine⟨y,?_,s_⟩;rw[u3];exact⟨j,by rw[n7,b9 h];exact hy⟩
theorem imgPre_iff {len a:Nat}{x:QB}:Ar len a x=true↔x.L7=(a:Int)/\1<=x.M9/\x.M9<=(len:Int)-a/\dD x.J7=true:=by unfold Ar;rw[d5,d5,d5,w5,i8,i8]
abbrev OS (code:List UInt8)(l:List QB):={q:Nat×Nat//q.1<=l.length/\q.2<=code.length/\fO code (l.take q.1) q.2 (l.drop q.1)=fO code [] 0 l}
theorem V26{p:Prop}(h:p:=by
 rw[XA]at hr hD;repeat' ((conv=>whnf);first|refine Or.inl ?_|apply oi|apply fi|intro h|refine ci hD (ai rfl trivial) ?_|exact Y1|refine e_ rfl ?_)
 all_goals try exact Q6
 conv=>whnf
 refine⟨⟨(j+1,a+z),g_,g_,by simpa using hr⟩,?_,KD⟩;repeat' ((conv=>whnf);first|refine Or.inl ?_|apply oi|apply fi|intro h|exact Y1|refine e_ rfl ?_)
 all_goals first
  | exact⟨by dsimp only;rw[Sr]⟩
  | exact⟨by dsimp only;rw[c8 _ o_];rfl⟩):p:=h
theorem Q11{p:Prop}(h:p:=by exfalso;first|(have h':=j6 h;rw[O2]at h';omega)|(simp at h;done)|(rw[p1]at h;simp at h;done)|(have h':=j5 h;(try rw[RI]at h');omega)):p:=h
theorem Q27{p:Prop}(h:p:=by exfalso;have h':=j6 h;rw[O2]at h';omega;first|done|fail):p:=h
theorem yY (i:Qq)(hs:aS 1048576 i.tr):Sim.Spec prog 165 [.agg i.tr] (rB (bO i)):=by
 refine az hΓ aF func165 rfl d_ rfl ?_;obtain⟨code,l⟩:=i;simp only[Qq.tr,aS]at hs;have QK:code.length<=1048576:=by have:=hs.1;rw[aK]at this;omega
 have hl:=cP hs.2.1;have O2:(l.map QB.tr).length=l.length:=s_;unfold bO;dsimp only;by_cases aaT:code.length<=1000000
 ·rw[show decide (code.length<=1000000)=true from q9 aaT,l6];repeat' ((conv=>whnf);first|refine Or.inl ?_|apply oi|apply fi|intro h|exact Y1|refine e_ rfl ?_)
  all_goals try(exfalso;have h':=j5 h;dsimp only at h';omega;done)
  conv=>whnf
  refine⟨OS code l,fun q=>⟨[(1,.r (.c (.ptr (1,0,0) 0))),(3,tI .i64 (q.1.2:Int)),(15,.r (.c (.t (.lst 3 (l.map QB.tr))))),(16,tI .i64 ((l.map QB.tr).length:Int)),(17,tI .i64 (q.1.1:Int))],[((1,0,0),some (.box [.t (.str code),.t (.lst 3 (l.map QB.tr))]))],[1]⟩,fun q=>l.length-q.1.1,⟨(0,0),s_,s_,s_⟩,?_,?_⟩
  ·exact Z1
  intro⟨⟨k,a⟩,hk,ha,hr⟩;dsimp only at hk ha hr⊢;by_cases O4:k<l.length
  ·obtain⟨x,hx⟩:=ae O4
   have U7:x.J7.length<=1099511627775:=by have:=bk hs.2.1 (c9 hx);simp only[QB.tr,aS,aK]at this;omega
   have hN:=jJ x.J7 U7;rw[KE hx,xY]at hr;have RI:IntKind.i64.wrap ((code.length:Int)-a)=(code.length:Int)-a:=c8 _ o_
   cases RG:Ar code.length a x with
   | false=>
    rw[RG,n4,n4]at hr;repeat' ((conv=>whnf);first|refine Or.inl ?_|apply oi|apply fi|intro h|refine⟨k,x.tr,rfl,ab hx,?_⟩|refine ci hN (ai rfl trivial) ?_|exact Y1|refine e_ rfl ?_)
    all_goals try exact Q27
    all_goals try exact⟨by rw[<-hr]⟩
    all_goals(exfalso;rw[<-Bool.not_eq_true,imgPre_iff]at RG;apply RG;rw[RI]at *;(simp_all)<;>omega)
   | true=>
    obtain⟨p1,p2,p3,p4⟩:=imgPre_iff.1 RG;rw[p4]at hN;rw[RG,l6]at hr;repeat' ((conv=>whnf);first|refine Or.inl ?_|apply oi|apply fi|intro h|refine⟨k,x.tr,rfl,ab hx,?_⟩|refine ci hN (ai rfl trivial) ?_|exact Y1|refine e_ rfl ?_)
    all_goals try exact Q11
    conv=>whnf
    refine⟨0,k,rfl,rfl,o_,by rw[O2];omega,?_⟩;repeat' ((conv=>whnf);first|refine Or.inl ?_|apply oi|apply fi|intro h|exact Y1|refine e_ rfl ?_)
    conv=>whnf
    have RM:(((l.map QB.tr).take k).drop 0).length=k:=(by simp;omega);refine⟨{j:Nat//j<=k/\gJ (l.take j) x.J7=false},fun j=>⟨[(1,.r (.c (.ptr (1,0,0) 0))),(3,tI .i64 (a:Int)),(5,.r (.c (.ptr (5,0,0) 0))),(15,.r (.c (.t (.lst 3 (l.map QB.tr))))),(16,tI .i64 ((l.map QB.tr).length:Int)),(17,tI .i64 (k:Int)),(50,.r (.c (.t (.lst 3 (((l.map QB.tr).take k).drop 0))))),(51,tI .i64 ((((l.map QB.tr).take k).drop 0).length:Int)),(52,tI .i64 (j.1:Int))],[((1,0,0),some (.box [.t (.str code),.t (.lst 3 (l.map QB.tr))])),((5,0,0),some (.box [.t (.str x.J7),.t (.int .i64 x.L7),.t (.int .i64 x.M9)]))],[5,1]⟩,fun j=>k-j.1,⟨0,o_,rfl⟩,?_,?_⟩
    ·exact Z1
    intro⟨j,hj,Uu⟩;dsimp only;by_cases SN:j<k
    ·obtain⟨y,hy⟩:=ae (l:=l) (k:=j) o_;have ZL:(((l.map QB.tr).take k).drop 0)[j]?=some y.tr:=(by rw[A1,n7,b9 SN];exact ab hy);have QJ:=Bm (nm:=x.J7) hy;rw[Uu,A8]at QJ
     cases Xq:(y.J7==x.J7)with
     | true=>
      have hs2:=GG hy SN;rw[w5.1 Xq]at hs2;rw[hs2]at hr;repeat' ((conv=>whnf);first|refine Or.inl ?_|apply oi|apply fi|intro h|refine⟨j,y.tr,rfl,ZL,?_⟩|exact Y1|refine e_ rfl ?_)
      all_goals first
       |(exfalso;have h':=j6 h;rw[RM]at h';omega)
       | exact⟨by rw[<-hr];rfl⟩
       |(exfalso;rw[Xq]at h;simp at h;done)
     | false=>
      rw[Xq]at QJ;repeat' ((conv=>whnf);first|refine Or.inl ?_|apply oi|apply fi|intro h|refine⟨j,y.tr,rfl,ZL,?_⟩|exact Y1|refine e_ rfl ?_)
      all_goals try(exfalso;first|(have h':=j6 h;rw[RM]at h';omega)|(rw[Xq]at h;simp at h;done))
      conv=>whnf
      refine⟨⟨j+1,o_,QJ⟩,?_,KD⟩;repeat' ((conv=>whnf);first|refine Or.inl ?_|apply oi|apply fi|intro h|exact Y1|refine e_ rfl ?_)
      all_goals exact Q5
    ·have YX:j=k:=o_;subst YX;obtain⟨z,hz⟩:=i7 (show 0<=x.M9 by omega);have Sr:IntKind.i64.wrap ((a:Int)+x.M9)=((a+z:Nat):Int):=(by rw[c8 _ o_,hz];rfl);rw[Uu,hz,e7]at hr;have hD:=rR ((code.take (a+z)).drop a) aad;repeat' ((conv=>whnf);first|refine Or.inl ?_|apply oi|apply fi|intro h|exact Y1|refine e_ rfl ?_)
     all_goals try(exfalso;have h':=j5 h;rw[RM]at h';omega)
     conv=>whnf
     refine⟨a,a+z,p1,Sr,o_,o_,?_⟩
     cases XA:(gy ((code.take (a+z)).drop a)).isSome with
     | false=>
      rw[XA]at hr hD;repeat' ((conv=>whnf);first|refine Or.inl ?_|apply oi|apply fi|intro h|refine ci hD (ai rfl trivial) ?_|exact Y1|refine e_ rfl ?_)
      all_goals first
       | exact⟨by rw[<-hr];rfl⟩
       |(exfalso;simp at h;done)
     | true=>exact V26
  ·have QY:l.length<=k:=o_;rw[m6 QY,fO]at hr;repeat' ((conv=>whnf);first|refine Or.inl ?_|apply oi|apply fi|intro h|exact Y2|refine e_ rfl ?_)
   exact⟨by rw[<-hr];congr 1;rw[u0,w5,w5];omega⟩
 ·rw[show decide (code.length<=1000000)=false from A5 aaT,n4];repeat' ((conv=>whnf);first|refine Or.inl ?_|apply oi|apply fi|intro h|exact Y1|refine e_ rfl ?_)
  all_goals(exfalso;have h':=j6 h;dsimp only at h';omega)
theorem Q21{p:Prop}(h:p:=by exfalso;have h':=j5 h;omega):p:=h
theorem Ac (i:Qq)(hs:aS 1048576 i.tr):Sim.Spec prog 134 [.agg i.tr] (rB (bO i)):=by
 refine az hΓ aF func134 rfl d_ rfl ?_;obtain⟨code,l⟩:=i;simp only[Qq.tr,aS]at hs;have QK:code.length<=1048576:=by have:=hs.1;rw[aK]at this;omega
 have hl:=cP hs.2.1;have O2:(l.map QB.tr).length=l.length:=s_;unfold bO;dsimp only;repeat' ((conv=>whnf);first|refine Or.inl ?_|apply oi|apply fi|intro h|exact Y1|refine e_ rfl ?_)
 conv=>whnf
 refine⟨OS code l,fun q=>⟨[(1,.r (.c (.ptr (1,0,0) 0))),(3,tI .i64 (q.1.2:Int)),(4,tI .i64 (q.1.1:Int))],[((1,0,0),some (.box [.t (.str code),.t (.lst 3 (l.map QB.tr))]))],[1]⟩,fun q=>l.length-q.1.1,⟨(0,0),s_,s_,s_⟩,?_,?_⟩
 ·exact Z1
 intro⟨⟨k,a⟩,hk,ha,hr⟩;dsimp only at hk ha hr⊢;by_cases O4:k<l.length
 ·obtain⟨x,hx⟩:=ae O4
  have U7:x.J7.length<=1099511627775:=by have:=bk hs.2.1 (c9 hx);simp only[QB.tr,aS,aK]at this;omega
  have hN:=gT x.J7 U7;rw[KE hx,xY]at hr;have RI:IntKind.i64.wrap ((code.length:Int)-a)=(code.length:Int)-a:=c8 _ o_
  cases RG:Ar code.length a x with
  | false=>
   rw[RG,n4,n4]at hr;repeat' ((conv=>whnf);first|refine Or.inl ?_|apply oi|apply fi|intro h|refine⟨k,x.tr,rfl,ab hx,?_⟩|refine ci hN (ai rfl trivial) ?_|exact Y1|refine e_ rfl ?_)
   all_goals try exact Q27
   all_goals try exact KX
   all_goals try exact⟨by rw[<-hr,E9]⟩
   all_goals(exfalso;rw[<-Bool.not_eq_true,imgPre_iff]at RG;apply RG;rw[RI]at *;(simp_all)<;>omega)
  | true=>
   obtain⟨p1,p2,p3,p4⟩:=imgPre_iff.1 RG;rw[p4]at hN;rw[RG,l6]at hr;repeat' ((conv=>whnf);first|refine Or.inl ?_|apply oi|apply fi|intro h|refine⟨k,x.tr,rfl,ab hx,?_⟩|refine ci hN (ai rfl trivial) ?_|exact Y2|refine e_ rfl ?_)
   all_goals try exact Q11
   conv=>whnf
   have RM:(((l.map QB.tr).take k).drop 0).length=k:=(by simp;omega);refine⟨{j:Nat//j<=k/\gJ (l.take j) x.J7=false},fun j=>⟨[(1,.r (.c (.ptr (1,0,0) 0))),(3,tI .i64 (a:Int)),(5,.r (.c (.ptr (5,0,0) 0))),(4,tI .i64 (k:Int)),(6,tI .i64 (j.1:Int))],[((1,0,0),some (.box [.t (.str code),.t (.lst 3 (l.map QB.tr))])),((5,0,0),some (.box [.t (.str x.J7),.t (.int .i64 x.L7),.t (.int .i64 x.M9)]))],[5,1]⟩,fun j=>k-j.1,⟨0,o_,rfl⟩,?_,?_⟩
   ·exact Z1
   intro⟨j,hj,Uu⟩;dsimp only;by_cases SN:j<k
   ·obtain⟨y,hy⟩:=ae (l:=l) (k:=j) o_;have ZL:(((l.map QB.tr).take k).drop 0)[j]?=some y.tr:=(by rw[A1,n7,b9 SN];exact ab hy);have QJ:=Bm (nm:=x.J7) hy;rw[Uu,A8]at QJ
    cases Xq:(y.J7==x.J7)with
    | true=>
     have hs2:=GG hy SN;rw[w5.1 Xq]at hs2;rw[hs2]at hr;repeat' ((conv=>whnf);first|refine Or.inl ?_|apply oi|apply fi|intro h|refine⟨j,y.tr,rfl,ab hy,?_⟩|exact Y1|refine e_ rfl ?_)
     all_goals first
      |(exfalso;have h':=j6 h;omega)
      | exact⟨by rw[<-hr];simp⟩
      |(exfalso;rw[Xq]at h;simp at h;done)
    | false=>
     rw[Xq]at QJ;repeat' ((conv=>whnf);first|refine Or.inl ?_|apply oi|apply fi|intro h|refine⟨j,y.tr,rfl,ab hy,?_⟩|exact Y1|refine e_ rfl ?_)
     all_goals try(exfalso;first|(have h':=j6 h;omega)|(rw[Xq]at h;simp at h;done))
     conv=>whnf
     refine⟨⟨j+1,o_,QJ⟩,?_,KD⟩;repeat' ((conv=>whnf);first|refine Or.inl ?_|apply oi|apply fi|intro h|exact Y1|refine e_ rfl ?_)
     all_goals exact Q5
   ·have YX:j=k:=o_;subst YX;obtain⟨z,hz⟩:=i7 (show 0<=x.M9 by omega);have Sr:IntKind.i64.wrap ((a:Int)+x.M9)=((a+z:Nat):Int):=(by rw[c8 _ o_,hz];rfl);rw[Uu,hz,e7]at hr;have hD:=sd ((code.take (a+z)).drop a) aad;repeat' ((conv=>whnf);first|refine Or.inl ?_|apply oi|apply fi|intro h|exact Y1|refine e_ rfl ?_)
    all_goals try exact Q21
    conv=>whnf
    refine⟨a,a+z,rfl,Sr,o_,o_,?_⟩
    cases XA:(gy ((code.take (a+z)).drop a)).isSome with
    | false=>
     rw[XA]at hr hD;repeat' ((conv=>whnf);first|refine Or.inl ?_|apply oi|apply fi|intro h|refine ci hD (ai rfl trivial) ?_|exact Y1|refine e_ rfl ?_)
     all_goals first
      | exact⟨by rw[<-hr];simp⟩
      |(exfalso;simp at h;done)
    | true=>exact V26
 ·have QY:l.length<=k:=o_;rw[m6 QY,fO]at hr;repeat' ((conv=>whnf);first|refine Or.inl ?_|apply oi|apply fi|intro h|exact Y2|refine e_ rfl ?_)
  ·have h9:a=code.length:=(by have:=z8 h;omega);refine⟨congrArg Tr.bool ?_⟩;rw[<-hr,h9,H0,Bool.and_true];exact decide_eq_decide.2 o_
  ·have h9:(a==code.length)=false:=(by rw[w3]at h⊢;omega);refine⟨congrArg Tr.bool ?_⟩;rw[<-hr,h9,E9]
theorem fj {code:List UInt8}:∀{l:List QB} {seen:List QB} {a:Nat},fO code seen a l=true->a<=code.length->∀x∈l,(a:Int)<=x.L7/\1<=x.M9/\x.L7+x.M9<=code.length
 | [],_,_,_,_,x,hx=>by cases hx
 | y::l,seen,a,h,ha,x,hx=>by
  rw[fO,d5,xY,d5,imgPre_iff]at h;obtain⟨⟨⟨p1,p2,p3,_⟩,_⟩,h2⟩:=h;rcases d8.1 hx with rfl|hx
  ·omega
  ·have:=fj h2 o_ x hx;omega
theorem V119{p:Prop}(h:p:=by
 unfold iR;rw[d5,d5,d5,within_iff,within_iff,i8,i8]
 omega):p:=h
theorem zN {code:List UInt8}:∀{l:List QB} {seen:List QB} {a j k:Nat} {x:QB},fO code seen a l=true->a<=code.length->code.length<=1000000->l[k]?=some x->fT x.L7 l j=((j+k:Nat):Int)
 | [],_,_,_,_,_,_,_,_,hx=>by simp at hx
 | y::l,seen,a,j,k,x,h,ha,hc,hx=>by
  have Ss:=fj h ha;rw[fO,d5,xY,d5,imgPre_iff]at h;obtain⟨⟨⟨p1,p2,p3,_⟩,_⟩,h2⟩:=h;rw[fT]
  match k,hx with
  | 0,hx=>
   rw[f9]at hx;injection hx with hx;subst hx
   have hh:iR y.L7 y=true:=by exact V119
   rw[b9 hh]
   rfl
  | k+1,hx=>
   rw[j8]at hx;have h3:=fj h2 o_ x (c9 hx)
   have hh:¬iR x.L7 y=true:=by exact V119
   rw[b8 hh,zN h2 o_ hc hx];congr 1;omega
def cf (i:Qq)(b e:Int):Bool:=i.L4.any fun x=>b+x.L7==e
def go (i0 i1:Qq)(b0 b1 e:Int):Int×Int:=
 if b0<=e/\e<b0+i0.J5.length then(0,e-b0)else if b1<=e/\e<b1+i1.J5.length then(1,e-b1)else(-1,-1)
def pX (i:Qq)(off:Int):Bool:=decide (0<=fZ i.L4 off)&&(match i.L4[(fZ i.L4 off).toNat]? with|some x=>x.L7==off|none=>false)
theorem imageOk_iff {i:Qq}:bO i=true↔i.J5.length<=1000000/\fO i.J5 [] 0 i.L4=true:=by rw[bO,d5,i8]
theorem vX {i:Qq}(h:bO i=true){off:Int}:pX i off=true↔∃x∈i.L4,x.L7=off:=by
 obtain⟨hc,ho⟩:=imageOk_iff.1 h;unfold pX;constructor
 ·intro h1;rw[d5]at h1;split at h1
  ·rename_i x hx;exact⟨x,c9 hx,by simpa using h1.2⟩
  ·cases h1.2
 ·rintro⟨x,hx,rfl⟩;obtain⟨k,hk⟩:=u3.1 hx;have:=zN (j:=0) ho o_ hc hk;rw[s7]at this;rw[fZ,this,e7,hk];simp
def Hz (i0 i1:Qq)(b0 b1 e:Int):Bool:=
 if(go i0 i1 b0 b1 e).1=0 then pX i0 (go i0 i1 b0 b1 e).2 else if(go i0 i1 b0 b1 e).1=1 then pX i1 (go i0 i1 b0 b1 e).2 else false
def eP (i0 i1:Qq)(b0 b1:Int):Bool:=decide (0<i0.J5.length)&&(decide (0<i1.J5.length)&&(decide (b0<b1+i1.J5.length)&&decide (b1<b0+i0.J5.length)))
theorem V142{p:Prop}(h:p:=by
 intro⟨a,b,c,d⟩;rw[eP,q9 a,q9 b,q9 c,q9 d]at ho
 cases ho):p:=h
theorem GR {i0 i1:Qq}{b0 b1 e:Int}(h0:bO i0=true)(h1:bO i1=true)(ho:eP i0 i1 b0 b1=false):Hz i0 i1 b0 b1 e=(cf i0 b0 e||cf i1 b1 e):=by
 have QR:¬(0<i0.J5.length/\0<i1.J5.length/\b0<b1+i1.J5.length/\b1<b0+i0.J5.length):=by exact V142
 have m0:=fj (imageOk_iff.1 h0).2 o_;have m1:=fj (imageOk_iff.1 h1).2 o_
 have e0:∀{i:Qq} {b:Int},cf i b e=true↔∃x∈i.L4,b+x.L7=e:=by intro i b;rw[cf,A6];simp only[w5]
 rw[u0,x9,e0,e0,Hz,go];by_cases c0:b0<=e/\e<b0+i0.J5.length
 ·rw[b9 c0,b9 rfl,vX h0];constructor
  ·rintro⟨x,hx,h⟩;exact .inl ⟨x,hx,by dsimp only at h;omega⟩
  ·rintro(⟨x,hx,h⟩|⟨x,hx,h⟩)
   ·exact⟨x,hx,g_⟩
   ·have:=m1 x hx;exfalso;apply QR;omega
 ·rw[b8 c0];by_cases c1:b1<=e/\e<b1+i1.J5.length
  ·rw[b9 c1,b8 s_,b9 rfl,vX h1];constructor
   ·rintro⟨x,hx,h⟩;exact .inr ⟨x,hx,by dsimp only at h;omega⟩
   ·rintro(⟨x,hx,h⟩|⟨x,hx,h⟩)
    ·have:=m0 x hx;exfalso;apply c0;omega
    ·exact⟨x,hx,g_⟩
  ·rw[b8 c1,b8 d_,b8 d_];constructor
   ·intro h;cases h
   ·rintro(⟨x,hx,h⟩|⟨x,hx,h⟩)
    ·have:=m0 x hx;exfalso;apply c0;omega
    ·have:=m1 x hx;exfalso;apply c1;omega
def gQ (i0 i1:Qq)(b0 b1:Int)(es:List Int):Bool:=
 af es.length 1 6&&(bO i0&&(af b0 1 1000000&&(bO i1&&(af b1 1 1000000&&(!(eP i0 i1 b0 b1)&&es.all fun e=>cf i0 b0 e||cf i1 b1 e)))))
def dt (s:QA):Bool:=match s.N6,s.O0 with
 | [i0,i1],[b0,b1]=>gQ i0 i1 b0 b1 s.M2
 | _,_=>false
abbrev wK (i0 i1:Qq)(b0 b1:Int)(es:List Int):List AC:=[.t (.lst 2 [i0.tr,i1.tr]),.t (.lst 1 [aa b0,aa b1]),.t (.lst 1 (es.map aa))]
theorem Q19{p:Prop}(h:p:=by exfalso;have h':=j6 h;omega):p:=h
theorem zq (i0 i1:Qq)(b0 b1 e:Int)(es:List Int)(h0:∀x∈i0.L4,0<=x.L7/\x.L7<=1000000)(h1:∀x∈i1.L4,0<=x.L7/\x.L7<=1000000)(Vb:0<=b0/\b0<=1000000)(Sg:0<=b1/\b1<=1000000)(hl0:i0.L4.length<=1048576)(UE:i1.L4.length<=1048576):Sim.Spec prog 166 [.agg (QA.mk [i0,i1] [b0,b1] es).tr,tvI e] (rB (cf i0 b0 e||cf i1 b1 e)):=by
 refine az hΓ aF func166 rfl d_ rfl ?_;repeat' ((conv=>whnf);first|refine Or.inl ?_|apply oi|apply fi|intro h|exact Y1|refine e_ rfl ?_)
 conv=>whnf
 refine⟨{k:Nat//k<=2/\(1<=k->cf i0 b0 e=false)/\(2<=k->cf i1 b1 e=false)},fun k=>⟨[(1,tI .i64 e),(2,.r (.c (.ptr (2,0,0) 0))),(10,.r (.c (.t (.lst 2 [i0.tr,i1.tr])))),(11,tI .i64 2),(12,tI .i64 (k.1:Int))],[((2,0,0),some (.box (wK i0 i1 b0 b1 es)))],[2]⟩,fun k=>2-k.1,⟨0,o_,o_,o_⟩,?_,?_⟩
 ·exact Z1
 intro⟨k,hk,Rh,Rf⟩;dsimp only;by_cases O4:k<2
 ·obtain⟨i,b,hi,hb,QJ,SS,Sk,TJ,QR⟩:∃(i:Qq) (b:Int),([i0.tr,i1.tr]:List (List Tr))[k]?=some i.tr/\([aa b0,aa b1]:List (List Tr))[k]?=some (aa b)/\(∀x∈i.L4,0<=x.L7/\x.L7<=1000000)/\(0<=b/\b<=1000000)/\i.L4.length<=1048576/\
    (cf i b e=true->(cf i0 b0 e||cf i1 b1 e)=true)/\(cf i b e=false->(1<=k+1->cf i0 b0 e=false)/\(2<=k+1->cf i1 b1 e=false)):=by
   have:k=0\/k=1:=o_;rcases this with rfl|rfl
   ·exact⟨i0,b0,rfl,rfl,h0,Vb,hl0,fun h=>by rw[h];rfl,fun h=>⟨fun _=>h,fun h2=>o_⟩⟩
   ·exact⟨i1,b1,rfl,rfl,h1,Sg,UE,fun h=>by rw[h];simp,fun h=>⟨fun _=>Rh o_,fun _=>h⟩⟩
  have O2:(i.L4.map QB.tr).length=i.L4.length:=s_;repeat' ((conv=>whnf);first|refine Or.inl ?_|apply oi|apply fi|intro h|refine⟨k,i.tr,rfl,hi,?_⟩|exact Y1|refine e_ rfl ?_)
  all_goals try exact Q19
  conv=>whnf
  refine⟨{j:Nat//j<=i.L4.length/\((i.L4.take j).any fun x=>b+x.L7==e)=false},fun j=>⟨[(1,tI .i64 e),(2,.r (.c (.ptr (2,0,0) 0))),(5,tI .i64 (k:Int)),(10,.r (.c (.t (.lst 2 [i0.tr,i1.tr])))),(11,tI .i64 2),(12,tI .i64 (k:Int)),(18,.r (.c (.t (.lst 3 (i.L4.map QB.tr))))),(19,tI .i64 ((i.L4.map QB.tr).length:Int)),(20,tI .i64 (j.1:Int))],[((2,0,0),some (.box (wK i0 i1 b0 b1 es)))],[2]⟩,fun j=>i.L4.length-j.1,⟨0,o_,rfl⟩,?_,?_⟩
  ·exact Z1
  intro⟨j,hj,hr⟩;dsimp only;by_cases Q0:j<i.L4.length
  ·obtain⟨x,hx⟩:=ae Q0;have hxm:=c9 hx;have hxs:=QJ x hxm;have RI:IntKind.i64.wrap (b+x.L7)=b+x.L7:=c8 _ o_
   have QW:((i.L4.take (j+1)).any fun x=>b+x.L7==e)=(b+x.L7==e):=by obtain⟨SG,rfl⟩:=z6.1 hx;rw[z9 SG,List.any_append,hr,A8];simp
   cases T7:(b+x.L7==e)with
   | true=>
    have Ss:=TJ (by rw[cf,A6];exact⟨x,hxm,T7⟩);repeat' ((conv=>whnf);first|refine Or.inl ?_|apply oi|apply fi|intro h|refine⟨j,x.tr,rfl,ab hx,?_⟩|refine⟨k,aa b,rfl,hb,?_⟩|exact Y1|refine e_ rfl ?_)
    all_goals first
     |(exfalso;have h':=j6 h;rw[O2]at h';omega)
     | exact⟨by rw[Ss]⟩
     |(exfalso;rw[RI,T7]at h;simp at h;done)
   | false=>
    rw[T7]at QW;repeat' ((conv=>whnf);first|refine Or.inl ?_|apply oi|apply fi|intro h|refine⟨j,x.tr,rfl,ab hx,?_⟩|refine⟨k,aa b,rfl,hb,?_⟩|exact Y1|refine e_ rfl ?_)
    all_goals try(exfalso;first|(have h':=j6 h;rw[O2]at h';omega)|(rw[RI,T7]at h;simp at h;done))
    conv=>whnf
    refine⟨⟨j+1,o_,QW⟩,?_,KD⟩;repeat' ((conv=>whnf);first|refine Or.inl ?_|apply oi|apply fi|intro h|exact Y1|refine e_ rfl ?_)
    all_goals exact Q5
  ·have VQ:i.L4.length<=j:=o_;rw[gt VQ]at hr;have Sb:=QR hr;repeat' ((conv=>whnf);first|refine Or.inl ?_|apply oi|apply fi|intro h|exact Y1|refine e_ rfl ?_)
   all_goals try(exfalso;have h':=j5 h;rw[O2]at h';omega)
   conv=>whnf
   refine⟨⟨k+1,o_,Sb⟩,?_,KD⟩;repeat' ((conv=>whnf);first|refine Or.inl ?_|apply oi|apply fi|intro h|exact Y1|refine e_ rfl ?_)
   all_goals exact Q5
 ·have Ue:k=2:=o_;subst Ue;repeat' ((conv=>whnf);first|refine Or.inl ?_|apply oi|apply fi|intro h|exact Y1|refine e_ rfl ?_)
  all_goals exact⟨by rw[Rh o_,Rf o_];rfl⟩
theorem V77{p:Prop}(h:p:=by
 rw[hw]at hE;repeat' ((conv=>whnf);first|refine Or.inl ?_|apply oi|apply fi|intro h|refine ci hE (ai KW (ai rfl (ai rfl trivial))) ?_|exact Y1|refine e_ rfl ?_)
 all_goals(exfalso;simp at h;done)):p:=h
theorem V50{p:Prop}(h:p:=by
 have:k=0\/k=1:=o_;rcases this with rfl|rfl
 ·exact⟨i0,b0,rfl,rfl,Xx,fun h=>by rw[<-hR,h];rfl,fun h=>by rw[<-hR,h];simp,fun h h'=>⟨fun _=>⟨h,h'⟩,fun h2=>o_⟩⟩
 ·exact⟨i1,b1,rfl,rfl,UJ,fun h=>by rw[<-hR,h];simp,fun h=>by rw[<-hR,h];simp,fun h h'=>⟨fun _=>Rh o_,fun _=>⟨h,h'⟩⟩⟩):p:=h
theorem V6{p:Prop}(h:p:=by
 cases S4:bO i with
 | false=>
  rw[S4]at hI;rw[Wi S4];repeat' ((conv=>whnf);first|refine Or.inl ?_|apply oi|apply fi|intro h|refine⟨k,i.tr,rfl,hi,?_⟩|refine ci hI (ai (ai rfl (ai rfl trivial)) trivial) ?_|exact Y1|refine e_ rfl ?_)
  all_goals(exfalso;first|(have h':=j6 h;omega)|(simp at h;done))
 | true=>
  rw[S4]at hI
  cases hbo:af b 1 1000000 with
  | false=>
   rw[hbo]at hB;rw[TI hbo];repeat' ((conv=>whnf);first|refine Or.inl ?_|apply oi|apply fi|intro h|refine⟨k,i.tr,rfl,hi,?_⟩|refine⟨k,aa b,rfl,hb,?_⟩|refine ci hI (ai (ai rfl (ai rfl trivial)) trivial) ?_|refine ci hB (ai rfl (ai rfl (ai rfl trivial))) ?_|exact Y1|refine e_ rfl ?_)
   all_goals(exfalso;first|(have h':=j6 h;omega)|(simp at h;done))
  | true=>
   rw[hbo]at hB;repeat' ((conv=>whnf);first|refine Or.inl ?_|apply oi|apply fi|intro h|refine⟨k,i.tr,rfl,hi,?_⟩|refine⟨k,aa b,rfl,hb,?_⟩|refine ci hI (ai (ai rfl (ai rfl trivial)) trivial) ?_|refine ci hB (ai rfl (ai rfl (ai rfl trivial))) ?_|exact Y1|refine e_ rfl ?_)
   all_goals try(exfalso;first|(have h':=j6 h;omega)|(simp at h;done))
   conv=>whnf
   refine⟨⟨k+1,o_,TJ S4 hbo⟩,?_,KD⟩;repeat' ((conv=>whnf);first|refine Or.inl ?_|apply oi|apply fi|intro h|exact Y1|refine e_ rfl ?_)
   all_goals exact⟨by dsimp only;rw[c8 _ o_];rfl⟩):p:=h
theorem V24{p:Prop}(h:p:=by
 rw[ho]at hR;rw[eP,d5,d5,d5,i8,i8,i8,i8]at ho;obtain⟨o1,o2,o3,o4⟩:=ho;subst hR;repeat' ((conv=>whnf);first|refine Or.inl ?_|apply oi|apply fi|intro h|refine⟨0,_,rfl,rfl,?_⟩|refine⟨1,_,rfl,rfl,?_⟩|exact Y1|refine e_ rfl ?_)
 all_goals(exfalso;first|(have h':=j6 h;(try rw[x0]at h');(try rw[x1]at h');omega)|(have h':=j5 h;omega))):p:=h
theorem wZ (i0 i1:Qq)(b0 b1:Int)(es:List Int)(hs:aS 1048576 (QA.mk [i0,i1] [b0,b1] es).tr):Sim.Spec prog 89 [.agg (QA.mk [i0,i1] [b0,b1] es).tr] (rB (gQ i0 i1 b0 b1 es)):=by
 refine az hΓ aF func89 rfl d_ rfl ?_;have O2:(es.map aa).length=es.length:=s_;have hE:=aN es.length 1 6;unfold gQ
 cases hw:af es.length 1 6 with
 | false=>exact V77
 | true=>
  rw[hw]at hE;repeat' ((conv=>whnf);first|refine Or.inl ?_|apply oi|apply fi|intro h|refine ci hE (ai KW (ai rfl (ai rfl trivial))) ?_|exact Y1|refine e_ rfl ?_)
  all_goals try exact Q6
  have QM:=hs;simp only[QA.tr,aS]at QM;have Zz:=QM.1;have Xx:aS 1048576 i0.tr:=bk Zz s_;have UJ:aS 1048576 i1.tr:=bk Zz s_;have Tw:i0.J5.length<=1048576:=by have:=Xx;simp only[Qq.tr,aS,aK]at this;omega
  have ST:i1.J5.length<=1048576:=by have:=UJ;simp only[Qq.tr,aS,aK]at this;omega
  have Ye:i0.L4.length<=1048576:=by have:=Xx;simp only[Qq.tr,aS]at this;exact cP this.2.1
  have Yu:i1.L4.length<=1048576:=by have:=UJ;simp only[Qq.tr,aS]at this;exact cP this.2.1
  have QP:es.length<=1048576:=cP QM.2.2.1;rw[l6];generalize hR:(bO i0&&(af b0 1 1000000&&(bO i1&&(af b1 1 1000000&&(!(eP i0 i1 b0 b1)&&es.all fun e=>cf i0 b0 e||cf i1 b1 e)))))=R;conv=>whnf
  refine⟨{k:Nat//k<=2/\(1<=k->bO i0=true/\af b0 1 1000000=true)/\(2<=k->bO i1=true/\af b1 1 1000000=true)},fun k=>⟨[(1,.r (.c (.ptr (1,0,0) 0))),(27,tI .i64 2),(28,tI .i64 (k.1:Int))],[((1,0,0),some (.box (wK i0 i1 b0 b1 es)))],[1]⟩,fun k=>2-k.1,⟨0,o_,o_,o_⟩,?_,?_⟩
  ·exact Z1
  intro⟨k,hk,Rh,Rf⟩;dsimp only;by_cases O4:k<2
  ·obtain⟨i,b,hi,hb,hsi,Wi,TI,TJ⟩:∃(i:Qq) (b:Int),([i0.tr,i1.tr]:List (List Tr))[k]?=some i.tr/\([aa b0,aa b1]:List (List Tr))[k]?=some (aa b)/\aS 1048576 i.tr/\
     (bO i=false->R=false)/\(af b 1 1000000=false->R=false)/\(bO i=true->af b 1 1000000=true->(1<=k+1->bO i0=true/\af b0 1 1000000=true)/\(2<=k+1->bO i1=true/\af b1 1 1000000=true)):=by
    exact V50
   have hI:=yY i hsi;have hB:=aN b 1 1000000;exact V6
  ·have Ue:k=2:=o_;subst Ue;obtain⟨g0,w0⟩:=Rh o_;obtain⟨g1,w1⟩:=Rf o_;have v0:=within_iff.1 w0;have v1:=within_iff.1 w1;rw[g0,g1,w0,w1,l6,l6,l6,l6]at hR;have x0:IntKind.i64.wrap (b1+(i1.J5.length:Int))=b1+i1.J5.length:=c8 _ o_;have x1:IntKind.i64.wrap (b0+(i0.J5.length:Int))=b0+i0.J5.length:=c8 _ o_
   cases ho:eP i0 i1 b0 b1 with
   | true=>exact V24
   | false=>
    rw[ho,E6,l6]at hR
    have QR:¬(0<i0.J5.length/\0<i1.J5.length/\b0<b1+i1.J5.length/\b1<b0+i0.J5.length):=by exact V142
    have m0:=fj (imageOk_iff.1 g0).2 o_;have m1:=fj (imageOk_iff.1 g1).2 o_;have l0:=(imageOk_iff.1 g0).1;have l1:=(imageOk_iff.1 g1).1;repeat' ((conv=>whnf);first|refine Or.inl ?_|apply oi|apply fi|intro h|refine⟨0,_,rfl,rfl,?_⟩|refine⟨1,_,rfl,rfl,?_⟩|exact Y1|refine e_ rfl ?_)
    all_goals try(
     exfalso;rename_i a1 a2 a3;have c1:=j5 a1;have c2:=j5 a2;have c3:=j5 a3;have c4:=j5 h;rw[x0]at c3;rw[x1]at c4
     exact QR ⟨o_,o_,c3,c4⟩)
    all_goals(
     conv=>whnf
     refine⟨{j:Nat//j<=es.length/\((es.drop j).all fun e=>cf i0 b0 e||cf i1 b1 e)=R},fun j=>⟨[(1,.r (.c (.ptr (1,0,0) 0))),(93,.r (.c (.t (.lst 1 (es.map aa))))),(94,tI .i64 ((es.map aa).length:Int)),(95,tI .i64 (j.1:Int))],[((1,0,0),some (.box (wK i0 i1 b0 b1 es)))],[1]⟩,fun j=>es.length-j.1,⟨0,o_,hR⟩,?_,?_⟩
     ·exact Z1
     intro⟨j,hj,hr⟩;dsimp only;by_cases Q0:j<es.length
     ·obtain⟨e,he⟩:=ae Q0;have Wh:=zq i0 i1 b0 b1 e es (fun x hx=>by have:=m0 x hx;omega) (fun x hx=>by have:=m1 x hx;omega) o_ o_ Ye Yu;rw[dX he,F3]at hr
      cases RX:(cf i0 b0 e||cf i1 b1 e)with
      | false=>
       rw[RX]at Wh hr;rw[n4]at hr;subst hr;repeat' ((conv=>whnf);first|refine Or.inl ?_|apply oi|apply fi|intro h|refine⟨j,aa e,rfl,ab he,?_⟩|refine ci Wh (ai (ai rfl (ai rfl (ai rfl trivial))) (ai rfl trivial)) ?_|exact Y1|refine e_ rfl ?_)
       all_goals(exfalso;first|(have h':=j6 h;rw[O2]at h';omega)|(simp at h;done))
      | true=>
       rw[RX]at Wh hr;rw[l6]at hr;repeat' ((conv=>whnf);first|refine Or.inl ?_|apply oi|apply fi|intro h|refine⟨j,aa e,rfl,ab he,?_⟩|refine ci Wh (ai (ai rfl (ai rfl (ai rfl trivial))) (ai rfl trivial)) ?_|exact Y1|refine e_ rfl ?_)
       all_goals try(exfalso;first|(have h':=j6 h;rw[O2]at h';omega)|(simp at h;done))
       conv=>whnf
       refine⟨⟨j+1,o_,hr⟩,?_,KD⟩;repeat' ((conv=>whnf);first|refine Or.inl ?_|apply oi|apply fi|intro h|exact Y1|refine e_ rfl ?_)
       all_goals exact Q5
     ·have QY:es.length<=j:=o_;rw[m6 QY,I7]at hr;subst hr;repeat' ((conv=>whnf);first|refine Or.inl ?_|apply oi|apply fi|intro h|exact Y1|refine e_ rfl ?_)
      all_goals(exfalso;have h':=j5 h;rw[O2]at h';omega))
theorem CH (a:Int)(k:Nat):((mB a k).toNat:Int)=(a/(2^(8*k)))%256:=by unfold mB;rw[Int.fdiv_eq_ediv_of_nonneg _ (Int.pow_nonneg d_)];generalize a/2^(8*k)=z;have h1:=Int.emod_nonneg z (show(256:Int)≠0 by decide);have h2:=Int.emod_lt_of_pos z (show(0:Int)<256 by decide);simp;omega
theorem yX (pre rest:List UInt8)(c:UInt8)(k:Nat)(m:List UInt8)(h:m[k]?=some c):dy (pre++m++rest) (pre.length+k)=c.toNat:=by have hk:=aE h;unfold dy;rw[l9,m9 o_,D2,l8 hk,h]
theorem Hh {a:Int}{n k:Nat}(h:k<n):(iq a n)[k]?=some (mB a k):=by unfold iq;rw[j9,List.getElem?_range h];rfl
theorem Ns {c a:Int}(h:dH c a=true){s:List UInt8}{p:Nat}(hb:∀k,k<(br c).1.toNat->dy s (p+k)=(mB a k).toNat):lO c (bp s p (br c).1.toNat)=a:=by
 unfold dH at h;rw[d5,within_iff,within_iff]at h;obtain⟨_,ha⟩:=h;have hd:∀k,k<(br c).1.toNat->(dy s (p+k):Int)=(a/(2^(8*k)))%256:=fun k hk=>by rw[hb k hk,CH]
 have b0:0<(br c).1.toNat->((bp s p 1:Nat):Int)=a%256:=fun h=>by
  have d0:=hd 0 h;rw[show(2:Int)^(8*0)=1 from rfl]at d0;simp only[bp,Nat.pow_zero,Nat.mul_one,s7];omega
 have b1:1<(br c).1.toNat->((bp s p 2:Nat):Int)=a%65536:=fun h=>by
  have d0:=b0 o_;have d1:=hd 1 h;rw[show(2:Int)^(8*1)=256 from rfl]at d1;rw[bp,show(256:Nat)^1=256 from rfl];omega
 have b2:2<(br c).1.toNat->((bp s p 3:Nat):Int)=a%16777216:=fun h=>by
  have d0:=b1 o_;have d1:=hd 2 h;rw[show(2:Int)^(8*2)=65536 from rfl]at d1;rw[bp,show(256:Nat)^2=65536 from rfl];omega
 have b3:3<(br c).1.toNat->((bp s p 4:Nat):Int)=a%4294967296:=fun h=>by
  have d0:=b2 o_;have d1:=hd 3 h;rw[show(2:Int)^(8*3)=16777216 from rfl]at d1;rw[bp,show(256:Nat)^3=16777216 from rfl];omega
 unfold lO;rcases yF c with⟨e1,e2⟩|⟨e1,e2⟩|⟨e1,e2⟩|⟨e1,e2⟩|⟨e1,e2⟩
 ·rw[e1]at b3⊢;rw[e2]at ha;have b3:=b3 d_;have ha:-2147483648<=a/\a<=2147483647:=ha;show(if(true:Bool)=true/\(2147483648:Nat)<=bp s p 4 then((bp s p 4:Nat):Int)-((4294967296:Nat):Int)else((bp s p 4:Nat):Int))=a;split
  ·rename_i hc;have:=hc.2;omega
  ·rename_i hc;have:¬(2147483648<=bp s p 4):=fun h=>hc ⟨rfl,h⟩;omega
 ·rw[e1]at b1⊢;rw[e2]at ha;have b1:=b1 d_;have ha:-32768<=a/\a<=32767:=ha;show(if(true:Bool)=true/\(32768:Nat)<=bp s p 2 then((bp s p 2:Nat):Int)-((65536:Nat):Int)else((bp s p 2:Nat):Int))=a;split
  ·rename_i hc;have:=hc.2;omega
  ·rename_i hc;have:¬(32768<=bp s p 2):=fun h=>hc ⟨rfl,h⟩;omega
 ·rw[e1]at b1⊢;rw[e2]at ha;have b1:=b1 d_;have ha:0<=a/\a<=65535:=ha;rw[b8 s_];show((bp s p 2:Nat):Int)=a;omega
 ·rw[e1]at b0⊢;rw[e2]at ha;have b0:=b0 d_;have ha:0<=a/\a<=255:=ha;rw[b8 s_];show((bp s p 1:Nat):Int)=a;omega
 ·rw[e1];rw[e2]at ha;have ha:0<=a/\a<=0:=ha;rw[b8 s_];show((0:Nat):Int)=a;omega
theorem wA {x:Qv}(h:dH x.J5 x.L2=true):bt x=UInt8.ofNat x.J5.toNat::iq x.L2 (br x.J5).1.toNat:=by rw[bt,b9 h]
theorem AJ {x:Qv}(h:dH x.J5 x.L2=true)(pre rest:List UInt8):bP (pre++bt x++rest) (pre.length:Int)=some (x,(aQ x.J5).toNat):=by
 have hc:0<=x.J5/\x.J5<=17:=by unfold dH at h;rw[d5,within_iff,within_iff]at h;exact h.1
 have O2:=eY h;have P6:=dI x.J5;have hz:aQ x.J5=(br x.J5).1+1:=by rw[aQ,b9 (within_iff.2 hc)]
 have Vb:((dy (pre++bt x++rest) pre.length:Nat):Int)=x.J5:=by have:=yX pre rest (UInt8.ofNat x.J5.toNat) 0 (bt x) (by rw[wA h];rfl);rw[y5]at this;rw[this];simp;omega
 have hbk:∀k,k<(br x.J5).1.toNat->dy (pre++bt x++rest) (pre.length+1+k)=(mB x.L2 k).toNat:=fun k hk=>by
  have:=yX pre rest (mB x.L2 k) (k+1) (bt x) (by rw[wA h,j8];exact Hh hk);rw[show pre.length+1+k=pre.length+(k+1) by omega];exact this
 have U8:=Ns h hbk;have Su:(pre++bt x++rest).length=pre.length+(bt x).length+rest.length:=by simp;omega
 generalize pre++bt x++rest=s at *
 rw[bP,b9 ⟨o_,o_⟩,e7,Vb,b8 o_,U8]
theorem wz {l:List Qw}(h:∀y∈l,dH y.L5.K0.J5 y.L5.K0.L2=true){k:Nat}{y:Qw}(hy:l[k]?=some y)(pre rest:List UInt8):bP (pre++aA l++rest) (((pre++aA (l.take k)).length:Nat):Int)=some (y.L5.K0,(aQ y.L5.K0.J5).toNat):=by
 have e:l=l.take k++(y::l.drop (k+1)):=by rw[<-dX hy,x5]
 have e2:aA l=aA (l.take k)++(bt y.L5.K0++aA (l.drop (k+1))):=by
  conv=>lhs;rw[e]
  rw[aR,show y::l.drop (k+1)=[y]++l.drop (k+1) from rfl,aR,eK]
 have:=AJ (h y (c9 hy)) (pre++aA (l.take k)) (aA (l.drop (k+1))++rest);rw[e2];simpa [l9]using this
theorem wm:∀{l:List Qw} (pre:List UInt8),(∀y∈l,dH y.L5.K0.J5 y.L5.K0.L2=true)->pp (pre++aA l) ((pre++aA l).length-pre.length) pre.length=some (l.map fun y=>y.L5.K0)
 | [],pre,_=>by
  rw[show aA []=[] from rfl,m7]
  exact yg (d7 _)
 | y::l,pre,h=>by
  have hy:=h y s_;have O2:=eY hy;have P6:=dI y.L5.K0.J5
  have hc:af y.L5.K0.J5 0 17=true:=by unfold dH at hy;rw[d5]at hy;exact hy.1
  have hz:aQ y.L5.K0.J5=(br y.L5.K0.J5).1+1:=by rw[aQ,b9 hc]
  have e:aA (y::l)=bt y.L5.K0++aA l:=by rw[show y::l=[y]++l from rfl,aR,eK]
  have ih:=wm (l:=l) (pre++bt y.L5.K0) (fun z hz=>h z (by simp[hz]));have hd:=AJ hy pre (aA l);rw[l9]at hd ih;have SR:(pre++(bt y.L5.K0++aA l)).length=pre.length+(bt y.L5.K0).length+(aA l).length:=by simp;omega
  have hl3:(pre++bt y.L5.K0).length=pre.length+(aQ y.L5.K0.J5).toNat:=by rw[c7];omega
  rw[e,vE o_,hd];dsimp only;rw[hl3]at ih;rw[ih];rfl
theorem Gd {l:List Qw}(h:∀y∈l,dH y.L5.K0.J5 y.L5.K0.L2=true):(gy (aA l)).isSome=true:=by
 have:=wm [] h;rw[r9]at this
 have e:gy (aA l)=some (l.map fun y=>y.L5.K0):=by unfold gy;simpa using this
 rw[e];rfl
theorem tG:∀(l:List Qt) (i:Nat),(funsF l i).Pairwise (·<·)
 | [],_=>by rw[funsF];exact List.Pairwise.nil
 | x::l,i=>by
  have ih:=tG l (i+1);rw[funsF];split
  ·refine List.pairwise_append.2 ⟨List.pairwise_singleton _ _,ih,fun a ha b hb=>?_⟩;rw[t6]at ha;have:=(uu hb).1;omega
  ·rw[r9];exact ih
theorem Lq {p:List Qt}{f g k:Nat}(hf:(aq p)[f]?=some k)(hg:(aq p)[g]?=some k):f=g:=by
 have hs:=List.pairwise_iff_getElem.1 (tG p 0);obtain⟨h1,e1⟩:=z6.1 hf;obtain⟨h2,e2⟩:=z6.1 hg;rcases y7 f g with h|h|h
 ·have:=hs f g h1 h2 h;change(aq p)[f]<(aq p)[g]at this;rw[e1,e2]at this;omega
 ·exact h
 ·have:=hs g f h2 h1 h;change(aq p)[g]<(aq p)[f]at this;rw[e1,e2]at this;omega
theorem pi {p:List Qt}(h:ak p=true){f k:Nat}(hf:(aq p)[f]?=some k):∃y,p[k]?=some y/\y.J0=0/\bM p f=y.J7/\dD y.J7=true/\findN p 0 y.J7=some k:=by
 unfold ak at h;simp only[d5,i8]at h;obtain⟨_,_,h3,_,h5,_⟩:=h;obtain⟨_,y,hy,h0⟩:=kN (c9 hf);have hl:=n9.1 h3 y (c9 hy);have hn:=n9.1 h5 k (c9 hf);refine⟨y,hy,h0,by rw[bM,hf];dsimp only;rw[hy],?_,?_⟩
 ·unfold cF at hl;simp only[d5]at hl;have:=hl.2.1;rwa [b9 (.inl h0)]at this
 ·unfold nameFirst at hn;rw[hy]at hn;exact z8 hn
theorem Ep {p:List Qt}(h:ak p=true){f g:Nat}(hf:f<(aq p).length)(hg:g<(aq p).length)(he:bM p f=bM p g):f=g:=by obtain⟨k,hk⟩:=ae hf;obtain⟨j,hj⟩:=ae hg;obtain⟨_,_,_,e1,_,f1⟩:=pi h hk;obtain⟨_,_,_,e2,_,f2⟩:=pi h hj;rw[e1,e2]at he;rw[he,f2]at f1;injection f1 with f1;subst f1;exact Lq hk hj
theorem yf {p:List Qt}:∀(L:List (Nat×List Qw)) (pre post:List UInt8) (seen:List QB),
  (∀x∈L,0<(aA x.2).length/\(∀y∈x.2,dH y.L5.K0.J5 y.L5.K0.L2=true)/\dD (bM p x.1)=true)->L.Pairwise (fun x y=>bM p x.1≠bM p y.1)->(∀x∈L,∀y∈seen,y.J7≠bM p x.1)->post=[]->
  fO (pre++aA (aH L)++post) seen pre.length (cA p pre.length L)=true
 | [],pre,post,seen,_,_,_,hp=>by subst hp;simp[cA,fO,aH,aA]
 |(f,l)::L,pre,post,seen,h1,h2,h3,hp=>by
  subst hp;obtain⟨q1,q2,q3⟩:=h1 (f,l) s_;dsimp only at q1 q2 q3;have e:aA (aH ((f,l)::L))=aA l++aA (aH L):=by rw[show aH ((f,l)::L)=l++aH L by simp[aH],aR]
  rw[I0]at h2;rw[e,m7,cA,fO,d5];constructor
  ·unfold xY;rw[d5,d5];refine⟨imgPre_iff.2 ⟨rfl,g_,by dsimp only;simp;omega,q3⟩,?_,?_⟩
   ·rw[v4,gJ,G5];intro y hy;have:=h3 (f,l) s_ y hy;simpa using this
   ·dsimp only;rw[e7]
    have e2:((pre++(aA l++aA (aH L))).take (pre.length+(aA l).length)).drop pre.length=aA l:=by rw[<-l9,List.take_left' s_,List.drop_left]
    rw[e2];exact Gd q2
  ·dsimp only;rw[e7]
   have ih:=yf L (pre++aA l) [] (seen++[⟨bM p f,(pre.length:Int),((aA l).length:Int)⟩]) (fun x hx=>h1 x aaS) h2.2 (fun x hx y hy=>by
    rcases f0.1 hy with hy|hy
    ·exact h3 x aaS y hy
    ·rw[t6]at hy;subst hy
     exact h2.1 x hx) rfl
   rw[m7,c7,l9]at ih;simpa using ih
theorem ma {p:List Qt}{b:Ql}{image:Int}:∀(n f:Nat) (at0:Int),(co p b image n f at0).Pairwise (fun x y=>x.1<y.1)
 | 0,_,_=>by rw[co];exact List.Pairwise.nil
 | n+1,f,at0=>by
  rw[mM];split
  ·refine I0.2 ⟨fun y hy=>?_,ma n _ _⟩;have:=(mX hy).1;dsimp only;omega
  ·exact ma n _ _
theorem lV {p:List Qt}{b:Ql}(hs:aK 1048576 (.lst 4 (p.map Qt.tr)))(h1:ak p=true)(h2:aY b=true){image:Int}(h3:af image 0 1=true):bO (ay p b image)=true/\(ay p b image).J5.length<=75000:=by
 rw[ay,b9 ⟨h1,h2,h3⟩];obtain⟨h6,_⟩:=gD h1;have Sk:=jX p b image (aq p).length 0 0;have Vy:=fun x (hx:x∈co p b image (aq p).length 0 0)=>(ki hs hx).1;have ZV:=fun x (hx:x∈co p b image (aq p).length 0 0)=>(mX hx).2;have U5:=ma (p:=p) (b:=b) (image:=image) (aq p).length 0 0
 have SV:∀x∈co p b image (aq p).length 0 0,0<x.2.length/\∀y∈x.2,dH y.L5.K0.J5 y.L5.K0.L2=true:=fun x hx=>by
  obtain⟨i,hi⟩:=u3.1 hx;have hl:=(mb hs h1 h2 o_ hi).2.2
  have ho:∀y∈x.2,dH y.L5.K0.J5 y.L5.K0.L2=true:=fun y hy=>by
   obtain⟨j,hj⟩:=u3.1 hy;exact(iy hs h1 h2 hi hj).1.op
  exact⟨hl,ho⟩
 generalize co p b image (aq p).length 0 0=L at *
 have QZ:=mY Vy (d7 L.length);rw[gt (d7 _)]at QZ;have Ub:=B5 2500 (show L.length<=6 by omega);have QK:=fm (aH L);refine⟨imageOk_iff.2 ⟨g_,?_⟩,g_⟩;have:=yf (p:=p) L [] [] [] (fun x hx=>?_) ?_ (fun x hx y hy=>by cases hy) rfl
 ·simpa using this
 ·obtain⟨q1,q2⟩:=SV x hx;obtain⟨k,hk⟩:=ae (l:=aq p) (k:=x.1) (by have:=ZV x hx;omega);obtain⟨y,_,_,e,hn,_⟩:=pi h1 hk;refine⟨?_,q2,by rw[e];exact hn⟩;obtain⟨z,l',hz⟩:=List.exists_cons_of_length_pos q1;rw[hz,show z::l'=[z]++l' from rfl,aR,eK,c7];have O3:=q2 z (by rw[hz];simp);have:=eY O3;have h4:=dI z.L5.K0.J5
  have hc:af z.L5.K0.J5 0 17=true:=by unfold dH at O3;rw[d5]at O3;exact O3.1
  rw[aQ,b9 hc]at this;omega
 ·refine U5.imp_of_mem fun{x y} hx hy O4 he=>?_;have:=Ep h1 (by have:=ZV x hx;omega) (by have:=ZV y hy;omega) he;omega
def gA (nm:List UInt8)(b:Int)(l:List QB):List Int:=(l.filter fun y=>y.J7==nm).map fun y=>IntKind.i64.wrap (b+y.L7)
theorem EU (nm:List UInt8)(b:Int):gA nm b []=[]:=rfl
theorem JK (nm:List UInt8)(b:Int)(l:List QB)(y:QB):gA nm b (l++[y])=gA nm b l++if(y.J7==nm)=true then [IntKind.i64.wrap (b+y.L7)]else []:=by
 unfold gA;rw[F9,q8];congr 1;split
 ·rename_i h;simp[h]
 ·rename_i h;simp[h]
theorem Cn {nm:List UInt8}{b:Int}{l:List QB}{k:Nat}{y:QB}(h:l[k]?=some y):gA nm b (l.take (k+1))=gA nm b (l.take k)++if(y.J7==nm)=true then [IntKind.i64.wrap (b+y.L7)]else []:=by rw[cH h,JK]
theorem lB (nm:List UInt8)(b:Int)(l:List QB):(gA nm b l).length<=l.length:=by unfold gA;rw[d9];exact E1 _ _
def iT (f:Nat):List (Nat×List Qw)->Int->Option Int
 | [],_=>none
 | x::L,a=>if x.1=f then some a else iT f L (a+(aA x.2).length)
theorem Cp {p:List Qt}{nm:List UInt8}{b:Int}:∀(L:List (Nat×List Qw)) (a:Int),(∀x∈L,bM p x.1≠nm)->gA nm b (cA p a L)=[]
 | [],_,_=>rfl
 |(g,l)::L,a,h=>by
  have h1:=h (g,l) s_;have ih:=Cp (p:=p) (nm:=nm) (b:=b) L (a+(aA l).length) (fun x hx=>h x aaS);unfold gA at ih⊢;rw[cA,B7,b8 aaw];exact ih
theorem BH {p:List Qt}{b:Int}{f:Nat}:∀(L:List (Nat×List Qw)) (a:Int),(∀x∈L,bM p x.1=bM p f->x.1=f)->L.Pairwise (fun x y=>x.1<y.1)->
  gA (bM p f) b (cA p a L)=match iT f L a with|some s=>[IntKind.i64.wrap (b+s)]|none=>[]
 | [],_,_,_=>rfl
 |(g,l)::L,a,h,hs=>by
  rw[I0]at hs;rw[iT];by_cases hg:g=f
  ·subst hg;rw[b9 rfl]
   have hn:=Cp (p:=p) (nm:=bM p g) (b:=b) L (a+(aA l).length) (fun x hx he=>by
    have h1:=h x aaS he;have h2:=hs.1 x hx;dsimp only at h2
    omega)
   unfold gA at hn⊢;rw[cA,B7,b9 s_,p7,hn]
  ·rw[b8 hg];have ih:=BH (p:=p) (b:=b) (f:=f) L (a+(aA l).length) (fun x hx=>h x aaS) hs.2;rw[<-ih];unfold gA;rw[cA,B7,b8];simp only[w5];exact fun he=>hg (h (g,l) s_ he)
theorem nJ {f:Nat}:∀{L:List (Nat×List Qw)} {a:Int},(∃x∈L,x.1=f)->∃s,iT f L a=some s
 | [],_,⟨_,h,_⟩=>by cases h
 | x::L,a,⟨y,hy,he⟩=>by
  rw[iT];split
  ·exact⟨_,rfl⟩
  ·rename_i hx;rcases d8.1 hy with rfl|hy
   ·exact absurd he hx
   ·exact nJ ⟨y,hy,he⟩
theorem tT {f:Nat}:∀{L:List (Nat×List Qw)} {a:Int},(∀x∈L,x.1≠f)->iT f L a=none
 | [],_,_=>rfl
 | x::L,a,h=>by rw[iT,b8 (h x s_),tT fun y hy=>h y aba]
theorem Al {f:Nat}:∀{L:List (Nat×List Qw)} {a s:Int},iT f L a=some s->∃i x,L[i]?=some x/\x.1=f/\s=a+((aA (aH (L.take i))).length:Int)
 | [],_,_,h=>by rw[iT]at h;cases h
 | x::L,a,s,h=>by
  rw[iT]at h;split at h
  ·injection h with h;exact⟨0,x,rfl,by assumption,by subst h;simp[aH,aA]⟩
  ·obtain⟨i,y,h1,h2,h3⟩:=Al h;refine⟨i+1,y,by simpa using h1,h2,?_⟩;rw[s5,show aH (x::L.take i)=x.2++aH (L.take i) by simp[aH],aR,c7];omega
theorem imgL_mem {p:List Qt}{b:Ql}{image:Int}:∀{n f:Nat} {at0:Int} {g:Nat},(∃x∈co p b image n f at0,x.1=g)↔(f<=g/\g<f+n/\oJ b image g=true)
 | 0,f,at0,g=>by
  rw[co];constructor
  ·rintro⟨x,h,_⟩;cases h
  ·rintro⟨h1,h2,_⟩;omega
 | n+1,f,at0,g=>by
  rw[mM];split
  ·rename_i hin;constructor
   ·rintro⟨x,hx,he⟩;rcases d8.1 hx with rfl|hx
    ·dsimp only at he;subst he;exact⟨o_,o_,hin⟩
    ·have:=imgL_mem.1 ⟨x,hx,he⟩;exact⟨o_,o_,this.2.2⟩
   ·rintro⟨h1,h2,h3⟩;by_cases hg:g=f
    ·exact⟨_,List.mem_cons_self ..,hg.symm⟩
    ·obtain⟨x,hx,he⟩:=(imgL_mem (p:=p) (at0:=wY at0 (aG p f b)) (n:=n) (f:=f+1)).2 ⟨o_,o_,h3⟩;exact⟨x,w6 _ hx,he⟩
  ·rename_i hin;constructor
   ·intro h;have:=imgL_mem.1 h;exact⟨o_,o_,this.2.2⟩
   ·rintro⟨h1,h2,h3⟩;have hg:g≠f:=fun e=>by subst e;exact hin h3
    exact imgL_mem.2 ⟨o_,o_,h3⟩
noncomputable abbrev imL (p:List Qt) (b:Ql) (image:Int):List (Nat×List Qw):=co p b image (aq p).length 0 0
def bS (b:Ql)(f:Nat):Int:=if b.N4=true then(f:Int)%2 else 0
theorem uW {b:Ql}{f:Nat}{image:Int}(h:image=0\/image=1):oJ b image f=true↔image=bS b f:=by
 unfold oJ bS;split
 ·rw[w5];omega
 ·rw[w5]
def qI (p:List Qt)(b:Ql)(i0 i1:Qq)(first second:Int)(f:Nat):List Int:=gA (bM p f) first i0.L4++gA (bM p f) second i1.L4
def xk (p:List Qt)(b:Ql)(i0 i1:Qq)(first second:Int)(f:Nat):List Int:=if bS b f=1 then gA (bM p f) second i1.L4 else gA (bM p f) first i0.L4
def eZ (F:Nat->List Int):Nat->List Int
 | 0=>[]
 | n+1=>eZ F n++F n
noncomputable def cy (p:List Qt) (b:Ql) (f:Nat):Int:=(iT f (imL p b (bS b f)) 0).getD 0
noncomputable def dF (p:List Qt) (b:Ql) (first second:Int) (f:Nat):Int:=IntKind.i64.wrap ((if bS b f=1 then second else first)+cy p b f)
theorem iO (b:Ql)(f:Nat):bS b f=0\/bS b f=1:=by unfold bS;split<;>omega
theorem nH {p:List Qt}{b:Ql}(h1:ak p=true)(h2:aY b=true){image:Int}(hi:image=0\/image=1){f:Nat}(hf:f<(aq p).length)(base:Int):
  gA (bM p f) base (ay p b image).L4=if bS b f=image then [IntKind.i64.wrap (base+cy p b f)]else []:=by
 have h3:af image 0 1=true:=by rw[within_iff];omega
 rw[ay,b9 ⟨h1,h2,h3⟩];dsimp only;rw[BH _ _ (fun x hx he=>Ep h1 (by have:=(mX hx).2;omega) hf he) (ma _ _ _)];by_cases he:bS b f=image
 ·subst he;obtain⟨s,hs⟩:=nJ (f:=f) (a:=0) ((imgL_mem (p:=p) (b:=b) (image:=bS b f) (n:=(aq p).length) (f:=0) (at0:=0) (g:=f)).2 ⟨o_,o_,(uW hi).2 rfl⟩);rw[hs,b9 rfl,cy,show imL p b (bS b f)=co p b (bS b f) (aq p).length 0 0 from rfl,hs];rfl
 ·rw[b8 he,tT fun x hx T7=>?_];have:=(imgL_mem (g:=f)).1 ⟨x,hx,T7⟩;exact he ((uW hi).1 this.2.2).symm
theorem NZ {p:List Qt}{b:Ql}(h1:ak p=true)(h2:aY b=true){f:Nat}(hf:f<(aq p).length)(first second:Int):xk p b (ay p b 0) (ay p b 1) first second f=[dF p b first second f]:=by
 unfold xk dF;rw[nH h1 h2 (.inr rfl) hf,nH h1 h2 (.inl rfl) hf];rcases iO b f with e|e
 ·rw[e];rfl
 ·rw[e];rfl
theorem NK {p:List Qt}{b:Ql}(h1:ak p=true)(h2:aY b=true){f:Nat}(hf:f<(aq p).length)(first second:Int):qI p b (ay p b 0) (ay p b 1) first second f=[dF p b first second f]:=by
 unfold qI dF;rw[nH h1 h2 (.inr rfl) hf,nH h1 h2 (.inl rfl) hf];rcases iO b f with e|e
 ·rw[e];rfl
 ·rw[e];rfl
theorem vK {F:Nat->List Int}{G:Nat->Int}:∀{n:Nat},(∀f,f<n->F f=[G f])->eZ F n=(List.range n).map G
 | 0,_=>rfl
 | n+1,h=>by rw[eZ,vK fun f hf=>h f o_,h n o_,D6,q8];rfl
noncomputable def entries (p:List Qt) (b:Ql) (first second:Int):List Int:=(List.range (aq p).length).map (dF p b first second)
noncomputable def aJ (p:List Qt) (b:Ql) (first second:Int):QA:=⟨[ay p b 0,ay p b 1],[first,second],entries p b first second⟩
noncomputable def fV (p:List Qt) (b:Ql) (first second:Int):Option QA:=if ak p=true/\aY b=true/\dt (aJ p b first second)=true then some (aJ p b first second)else none
def oSp (o:Option QA):QA:=match o with|some s=>s|none=>⟨[],[],[]⟩
structure PsOk (P:List Qw):Prop where
 at0:∀x:Qw,P[0]?=some x->x.M7=0
 next:∀(k:Nat) (x y:Qw),P[k]?=some x->P[k+1]?=some y->y.M7=x.M7+aQ x.L5.K0.J5
 rng:∀(k:Nat) (x:Qw),P[k]?=some x->0<=x.M7/\x.M7<=100000/\1<=aQ x.L5.K0.J5/\aQ x.L5.K0.J5<=5/\0<=x.L5.M8/\x.L5.M8<=59
 len:P.length<=15000
theorem pM:∀{L:List (Nat×List Qw)} {k:Nat} {x:Qw},(aH L)[k]?=some x->∃i z j,L[i]?=some z/\z.2[j]?=some x/\k=(aH (L.take i)).length+j
 | [],k,x,h=>by simp[aH]at h
 | a::L,k,x,h=>by
  have e:aH (a::L)=a.2++aH L:=by simp[aH]
  rw[e,H3]at h;split at h
  ·exact⟨0,a,k,rfl,h,by simp[aH]⟩
  ·obtain⟨i,z,j,h1,h2,h3⟩:=pM h;refine⟨i+1,z,j,by simpa using h1,h2,?_⟩;rw[s5,show aH (a::L.take i)=a.2++aH (L.take i) by simp[aH],c7];omega
theorem rK {c a:Int}(h:dH c a=true):1<=aQ c/\aQ c<=5:=by unfold dH at h;rw[d5]at h;have:=dI c;rw[aQ,b9 h.1];omega
theorem Gp {p:List Qt}{b:Ql}{image:Int}(hs:aK 1048576 (.lst 4 (p.map Qt.tr))):PsOk (cR p b image):=by
 by_cases hc:ak p=true/\aY b=true/\af image 0 1=true
 ·rw[cR,b9 hc];obtain⟨h1,h2,_⟩:=hc;show PsOk (aH (co p b image (aq p).length 0 0));obtain⟨h6,SA⟩:=gD h1;have Sk:=jX p b image (aq p).length 0 0;have Vy:=fun x (hx:x∈co p b image (aq p).length 0 0)=>(ki hs hx).1;have QZ:=mY Vy (d7 _);rw[gt (d7 _)]at QZ;have Ub:=B5 2500 (show(co p b image (aq p).length 0 0).length<=6 by omega)
  have key:∀(k:Nat) (x:Qw),(aH (co p b image (aq p).length 0 0))[k]?=some x->x.M7=((aA ((aH (co p b image (aq p).length 0 0)).take k)).length:Int)/\dH x.L5.K0.J5 x.L5.K0.L2=true/\0<=x.L5.M8/\x.L5.M8<=59:=by
   intro k x hx;obtain⟨i,z,j,g1,g2,rfl⟩:=pM hx;obtain⟨hp,ho⟩:=iy hs h1 h2 g1 g2
   have ht:(aH (co p b image (aq p).length 0 0)).take ((aH ((co p b image (aq p).length 0 0).take i)).length+j)=aH ((co p b image (aq p).length 0 0).take i)++z.2.take j:=by
    generalize co p b image (aq p).length 0 0=L at *
    have e:L=L.take i++z::L.drop (i+1):=by rw[<-dX g1,x5]
    have e2:aH L=aH (L.take i)++(z.2++aH (L.drop (i+1))):=by
     conv=>lhs;rw[e]
     simp[aH]
    rw[e2,I3,D2,gt o_,x6 (Nat.le_of_lt (aE g2))]
   refine⟨by rw[ht,aR,c7];omega,hp.op,?_⟩;rcases B8 j with rfl|hj
   ·obtain⟨_,g,ln,k1,k2,k3,_⟩:=hp.head rfl;have:=aE k3;omega
   ·obtain⟨_,g,ln,k2,k3,_⟩:=hp.body hj;have:=aE k3;omega
  generalize aH (co p b image (aq p).length 0 0)=P at *
  refine⟨fun x hx=>?_,fun k x y hx hy=>?_,fun k x hx=>?_,o_⟩
  ·have:=(key 0 x hx).1;simpa [aA]using this
  ·obtain⟨a1,a2,_⟩:=key k x hx;obtain⟨b1,_⟩:=key (k+1) y hy;have:=eY a2;rw[b1,a1,cH hx,aR,c7,eK];omega
  ·obtain⟨a1,a2,a3,a4⟩:=key k x hx;have hz:=rK a2;have QK:=fm (P.take k);have QV:=aE hx;have:(P.take k).length=k:=(by rw[k0];omega);omega
 ·rw[cR,b8 hc];exact⟨fun x h=>by simp at h,fun k x y h=>by simp at h,fun k x h=>by simp at h,s_⟩
theorem PsOk.lt {P:List Qw}(h:PsOk P):∀{n k:Nat} {x y:Qw},P[k]?=some x->P[k+n+1]?=some y->x.M7+aQ x.L5.K0.J5<=y.M7
 | 0,k,x,y,hx,hy=>by have:=h.next k x y hx hy;omega
 | n+1,k,x,y,hx,hy=>by
  obtain⟨z,hz⟩:=ae (l:=P) (k:=k+n+1) (by have:=aE hy;omega);have h1:=h.lt hx hz;have h2:=h.next (k+n+1) z y hz (by rw[show k+n+1+1=k+(n+1)+1 by omega];exact hy);have:=(h.rng _ z hz).2.2.1;omega
abbrev PV (x:Int×Int):Res:= .tup [.c (.t (.int .i64 x.1)),.c (.t (.int .i64 x.2))]
theorem V58{p:Prop}(h:p:=by
 have:k=0\/k=1:=o_;rcases this with rfl|rfl
 ·exact⟨i0,b0,rfl,rfl,Vb,hl0,fun h=>by rw[<-hR,go,b9 h];rfl,fun h=>⟨fun _=>h,fun h2=>o_⟩⟩
 ·exact⟨i1,b1,rfl,rfl,Sg,UE,fun h=>by rw[<-hR,go,b8 (Rh o_),b9 h];rfl,fun h=>⟨fun _=>Rh o_,fun _=>h⟩⟩):p:=h
theorem V135{p:Prop}(h:p:=by
 have Ue:k=2:=o_;subst Ue;have UM:R=(-1,-1):=by rw[<-hR,go,b8 (Rh o_),b8 (Rf o_)]
 subst UM
 exact Z1):p:=h
theorem AH (i0 i1:Qq)(b0 b1 e:Int)(es:List Int)(Vb:0<=b0/\b0<=1000000)(Sg:0<=b1/\b1<=1000000)(hl0:i0.J5.length<=1048576)(UE:i1.J5.length<=1048576):Sim.Spec prog 137 [.agg (QA.mk [i0,i1] [b0,b1] es).tr,tvI e] (PV (go i0 i1 b0 b1 e)):=by
 refine az hΓ aF func137 rfl d_ rfl ?_;generalize hR:go i0 i1 b0 b1 e=R;repeat' ((conv=>whnf);first|refine Or.inl ?_|apply oi|apply fi|intro h|exact Y1|refine e_ rfl ?_)
 conv=>whnf
 refine⟨{k:Nat//k<=2/\(1<=k->¬(b0<=e/\e<b0+i0.J5.length))/\(2<=k->¬(b1<=e/\e<b1+i1.J5.length))},fun k=>⟨[(1,tI .i64 e),(2,.r (.c (.ptr (2,0,0) 0))),(9,.r (.c (.t (.lst 2 [i0.tr,i1.tr])))),(10,tI .i64 2),(11,tI .i64 (k.1:Int))],[((2,0,0),some (.box (wK i0 i1 b0 b1 es)))],[2]⟩,fun k=>2-k.1,⟨0,o_,o_,o_⟩,?_,?_⟩
 ·exact Z1
 intro⟨k,hk,Rh,Rf⟩;dsimp only;by_cases O4:k<2
 ·obtain⟨i,b,hi,hb,SS,Sk,TJ,QR⟩:∃(i:Qq) (b:Int),([i0.tr,i1.tr]:List (List Tr))[k]?=some i.tr/\([aa b0,aa b1]:List (List Tr))[k]?=some (aa b)/\(0<=b/\b<=1000000)/\i.J5.length<=1048576/\
    (b<=e/\e<b+i.J5.length->R=((k:Int),e-b))/\(¬(b<=e/\e<b+i.J5.length)->(1<=k+1->¬(b0<=e/\e<b0+i0.J5.length))/\(2<=k+1->¬(b1<=e/\e<b1+i1.J5.length))):=by
   exact V58
  by_cases hin:b<=e/\e<b+i.J5.length
  ·have UM:=TJ hin;have TM:IntKind.i64.wrap (e-b)=e-b:=c8 _ o_;have hB:=aN e b (b+i.J5.length-1);rw[within_iff.2 ⟨hin.1,o_⟩]at hB;subst UM;repeat' ((conv=>whnf);first|refine Or.inl ?_|apply oi|apply fi|intro h|refine⟨k,i.tr,rfl,hi,?_⟩|refine⟨k,aa b,rfl,hb,?_⟩|refine ci hB (ai rfl (ai rfl (ai KW trivial))) ?_|exact Y1|refine e_ rfl ?_)
   all_goals first
    |(exfalso;have h':=j6 h;omega)
    |(refine⟨congrArg (Tr.int _) ?_⟩;rw[TM])
  ·have hB:=aN e b (b+i.J5.length-1)
   have hwf:af e b (b+i.J5.length-1)=false:=by cases hw:af e b (b+i.J5.length-1)with|false=>rfl|true=>have:=within_iff.1 hw;exact absurd ⟨this.1,o_⟩ hin
   rw[hwf]at hB;repeat' ((conv=>whnf);first|refine Or.inl ?_|apply oi|apply fi|intro h|refine⟨k,i.tr,rfl,hi,?_⟩|refine⟨k,aa b,rfl,hb,?_⟩|refine ci hB (ai rfl (ai rfl (ai KW trivial))) ?_|exact Y1|refine e_ rfl ?_)
   all_goals try exact Q19
   all_goals conv=>whnf
   all_goals refine⟨⟨k+1,o_,QR hin⟩,?_,KD⟩
   repeat' ((conv=>whnf);first|refine Or.inl ?_|apply oi|apply fi|intro h|exact Y1|refine e_ rfl ?_)
   all_goals exact Q5
 ·exact V135
theorem vm (i0 i1:Qq)(b0 b1 e:Int)(es:List Int)(Vb:0<=b0/\b0<=1000000)(Sg:0<=b1/\b1<=1000000)(hl0:i0.J5.length<=1048576)(UE:i1.J5.length<=1048576):Sim.Spec prog 135 [.agg (QA.mk [i0,i1] [b0,b1] es).tr,tvI e] (PV (go i0 i1 b0 b1 e)):=by
 refine az hΓ aF func135 rfl d_ rfl ?_;have h2:([i0.tr,i1.tr]:List (List Tr)).length=2:=rfl;generalize hR:go i0 i1 b0 b1 e=R;repeat' ((conv=>whnf);first|refine Or.inl ?_|apply oi|apply fi|intro h|exact Y1|refine e_ rfl ?_)
 conv=>whnf
 refine⟨{k:Nat//k<=2/\(1<=k->¬(b0<=e/\e<b0+i0.J5.length))/\(2<=k->¬(b1<=e/\e<b1+i1.J5.length))},fun k=>⟨[(1,tI .i64 e),(2,.r (.c (.ptr (2,0,0) 0))),(6,tI .i64 (k.1:Int))],[((2,0,0),some (.box (wK i0 i1 b0 b1 es)))],[2]⟩,fun k=>2-k.1,⟨0,o_,o_,o_⟩,?_,?_⟩
 ·exact Z1
 intro⟨k,hk,Rh,Rf⟩;dsimp only;by_cases O4:k<2
 ·obtain⟨i,b,hi,hb,SS,Sk,TJ,QR⟩:∃(i:Qq) (b:Int),([i0.tr,i1.tr]:List (List Tr))[k]?=some i.tr/\([aa b0,aa b1]:List (List Tr))[k]?=some (aa b)/\(0<=b/\b<=1000000)/\i.J5.length<=1048576/\
    (b<=e/\e<b+i.J5.length->R=((k:Int),e-b))/\(¬(b<=e/\e<b+i.J5.length)->(1<=k+1->¬(b0<=e/\e<b0+i0.J5.length))/\(2<=k+1->¬(b1<=e/\e<b1+i1.J5.length))):=by
   exact V58
  by_cases hin:b<=e/\e<b+i.J5.length
  ·have UM:=TJ hin;have TM:IntKind.i64.wrap (e-b)=e-b:=c8 _ o_;have Zb:IntKind.i64.wrap (b+(i.J5.length:Int))=b+i.J5.length:=c8 _ o_;subst UM;repeat' ((conv=>whnf);first|refine Or.inl ?_|apply oi|apply fi|intro h|refine⟨k,i.tr,rfl,hi,?_⟩|refine⟨k,aa b,rfl,hb,?_⟩|exact Y1|refine e_ rfl ?_)
   all_goals first
    |(exfalso;have h':=j6 h;(try rw[Zb]at h');(try rw[h2]at h');omega)
    |(refine⟨congrArg (Tr.int _) ?_⟩;rw[TM])
  ·have Zb:IntKind.i64.wrap (b+(i.J5.length:Int))=b+i.J5.length:=c8 _ o_;repeat' ((conv=>whnf);first|refine Or.inl ?_|apply oi|apply fi|intro h|refine⟨k,i.tr,rfl,hi,?_⟩|refine⟨k,aa b,rfl,hb,?_⟩|exact Y1|refine e_ rfl ?_)
   all_goals try(exfalso;first|(have h':=j6 h;rw[h2]at h';omega)|(rename_i a1;have c1:=j5 a1;have c2:=j5 h;rw[Zb]at c2;exact hin ⟨c1,c2⟩))
   all_goals conv=>whnf
   all_goals refine⟨⟨k+1,o_,QR hin⟩,?_,KD⟩
   repeat' ((conv=>whnf);first|refine Or.inl ?_|apply oi|apply fi|intro h|exact Y1|refine e_ rfl ?_)
   all_goals exact Q5
 ·exact V135
theorem pL {s:QA}:(∃i0 i1 b0 b1,s=⟨[i0,i1],[b0,b1],s.M2⟩)\/(dt s=false/\¬(s.N6.length=2/\s.O0.length=2)):=by
 obtain⟨im,bs,es⟩:=s
 match im,bs with|[i0,i1],[b0,b1]=>exact .inl ⟨i0,i1,b0,b1,rfl⟩|[],_=>exact .inr ⟨rfl,s_⟩|[_],_=>exact .inr ⟨rfl,s_⟩|_::_::_::_,_=>exact .inr ⟨rfl,s_⟩|[_,_],[]=>exact .inr ⟨rfl,s_⟩|[_,_],[_]=>exact .inr ⟨rfl,s_⟩|[_,_],_::_::_::_=>exact .inr ⟨rfl,s_⟩
theorem ly (s:QA)(hs:aS 1048576 s.tr):Sim.Spec prog 89 [.agg s.tr] (rB (dt s)):=by
 rcases pL (s:=s)with⟨i0,i1,b0,b1,h⟩|⟨h,hn⟩
 ·rw[h]at hs⊢;exact wZ i0 i1 b0 b1 s.M2 hs
 ·rw[h];have l1:(s.N6.map Qq.tr).length=s.N6.length:=s_;have l2:(s.O0.map aa).length=s.O0.length:=s_;refine az hΓ aF func89 rfl d_ rfl ?_;repeat' ((conv=>whnf);first|refine Or.inl ?_|apply oi|apply fi|intro h|refine ci (aN _ _ _) (ai rfl (ai rfl (ai rfl trivial))) ?_|exact Y1|refine e_ rfl ?_)
  all_goals(exfalso;apply hn;(simp_all)<;>(constructor<;>omega))
theorem Q12{p:Prop}(h:p:=by exfalso;first|(have h':=j6 h;rw[O2]at h';omega)|(have h':=j5 h;omega)|(simp only[bne,T7]at h;simp at h;first|done|fail)):p:=h
theorem xd (i0 i1:Qq)(b0 b1:Int)(es:List Int)(hs:aS 1048576 (QA.mk [i0,i1] [b0,b1] es).tr):Sim.Spec prog 65 [.agg (QA.mk [i0,i1] [b0,b1] es).tr] (rB (gQ i0 i1 b0 b1 es)):=by
 refine az hΓ aF func65 rfl d_ rfl ?_;have O2:(es.map aa).length=es.length:=s_;have hE:=bz es.length 1 6;unfold gQ
 cases hw:af es.length 1 6 with
 | false=>exact V77
 | true=>
  rw[hw]at hE;repeat' ((conv=>whnf);first|refine Or.inl ?_|apply oi|apply fi|intro h|refine ci hE (ai KW (ai rfl (ai rfl trivial))) ?_|exact Y1|refine e_ rfl ?_)
  all_goals try exact Q6
  have QM:=hs;simp only[QA.tr,aS]at QM;have Zz:=QM.1;have Xx:aS 1048576 i0.tr:=bk Zz s_;have UJ:aS 1048576 i1.tr:=bk Zz s_;have Tw:i0.J5.length<=1048576:=by have:=Xx;simp only[Qq.tr,aS,aK]at this;omega
  have ST:i1.J5.length<=1048576:=by have:=UJ;simp only[Qq.tr,aS,aK]at this;omega
  have Ye:i0.L4.length<=1048576:=by have:=Xx;simp only[Qq.tr,aS]at this;exact cP this.2.1
  have Yu:i1.L4.length<=1048576:=by have:=UJ;simp only[Qq.tr,aS]at this;exact cP this.2.1
  have QP:es.length<=1048576:=cP QM.2.2.1;rw[l6];generalize hR:(bO i0&&(af b0 1 1000000&&(bO i1&&(af b1 1 1000000&&(!(eP i0 i1 b0 b1)&&es.all fun e=>cf i0 b0 e||cf i1 b1 e)))))=R;conv=>whnf
  refine⟨{k:Nat//k<=2/\(1<=k->bO i0=true/\af b0 1 1000000=true)/\(2<=k->bO i1=true/\af b1 1 1000000=true)},fun k=>⟨[(1,.r (.c (.ptr (1,0,0) 0))),(3,tI .i64 (k.1:Int))],[((1,0,0),some (.box (wK i0 i1 b0 b1 es)))],[1]⟩,fun k=>2-k.1,⟨0,o_,o_,o_⟩,?_,?_⟩
  ·exact Z1
  intro⟨k,hk,Rh,Rf⟩;dsimp only;by_cases O4:k<2
  ·obtain⟨i,b,hi,hb,hsi,Wi,TI,TJ⟩:∃(i:Qq) (b:Int),([i0.tr,i1.tr]:List (List Tr))[k]?=some i.tr/\([aa b0,aa b1]:List (List Tr))[k]?=some (aa b)/\aS 1048576 i.tr/\
     (bO i=false->R=false)/\(af b 1 1000000=false->R=false)/\(bO i=true->af b 1 1000000=true->(1<=k+1->bO i0=true/\af b0 1 1000000=true)/\(2<=k+1->bO i1=true/\af b1 1 1000000=true)):=by
    exact V50
   have hI:=Ac i hsi;have hB:=bz b 1 1000000;exact V6
  ·have Ue:k=2:=o_;subst Ue;obtain⟨g0,w0⟩:=Rh o_;obtain⟨g1,w1⟩:=Rf o_;have v0:=within_iff.1 w0;have v1:=within_iff.1 w1;rw[g0,g1,w0,w1,l6,l6,l6,l6]at hR;have x0:IntKind.i64.wrap (b1+(i1.J5.length:Int))=b1+i1.J5.length:=c8 _ o_;have x1:IntKind.i64.wrap (b0+(i0.J5.length:Int))=b0+i0.J5.length:=c8 _ o_
   cases ho:eP i0 i1 b0 b1 with
   | true=>exact V24
   | false=>
    rw[ho,E6,l6]at hR
    have QR:¬(0<i0.J5.length/\0<i1.J5.length/\b0<b1+i1.J5.length/\b1<b0+i0.J5.length):=by exact V142
    have m0:=fj (imageOk_iff.1 g0).2 o_;have m1:=fj (imageOk_iff.1 g1).2 o_;have l0:=(imageOk_iff.1 g0).1;have l1:=(imageOk_iff.1 g1).1;repeat' ((conv=>whnf);first|refine Or.inl ?_|apply oi|apply fi|intro h|refine⟨0,_,rfl,rfl,?_⟩|refine⟨1,_,rfl,rfl,?_⟩|exact Y1|refine e_ rfl ?_)
    all_goals try(
     exfalso;rename_i a1 a2 a3;have c1:=j5 a1;have c2:=j5 a2;have c3:=j5 a3;have c4:=j5 h;rw[x0]at c3;rw[x1]at c4
     exact QR ⟨o_,o_,c3,c4⟩)
    all_goals(
     conv=>whnf
     refine⟨{j:Nat//j<=es.length/\((es.drop j).all fun e=>cf i0 b0 e||cf i1 b1 e)=R},fun j=>⟨[(1,.r (.c (.ptr (1,0,0) 0))),(6,tI .i64 (j.1:Int))],[((1,0,0),some (.box (wK i0 i1 b0 b1 es)))],[1]⟩,fun j=>es.length-j.1,⟨0,o_,hR⟩,?_,?_⟩
     ·exact Z1
     intro⟨j,hj,hr⟩;dsimp only;by_cases Q0:j<es.length
     ·obtain⟨e,he⟩:=ae Q0;have S7:=vm i0 i1 b0 b1 e es o_ o_ Tw ST;rw[dX he,F3,<-GR g0 g1 ho,Hz]at hr;by_cases c0:b0<=e/\e<b0+i0.J5.length
      ·have SR:go i0 i1 b0 b1 e=(0,e-b0):=(by rw[go,b9 c0]);rw[SR]at S7 hr;rw[b9 rfl]at hr;have hS:=ob i0 (e-b0) Ye;have hrg:=oP i0.L4 (e-b0);dsimp only at hr;rw[pX]at hr
       generalize fZ i0.L4 (e-b0)=K at *
       rcases hrg with rfl|⟨q0,q1⟩
       ·rw[show decide ((0:Int)<=-1)=false from rfl,n4,n4]at hr;subst hr;repeat' ((conv=>whnf);first|refine Or.inl ?_|apply oi|apply fi|intro h|refine⟨j,aa e,rfl,ab he,?_⟩|refine ci S7 (ai (ai rfl (ai rfl (ai rfl trivial))) (ai rfl trivial)) ?_|refine⟨0,i0.tr,rfl,rfl,?_⟩|refine ci hS (ai (ai rfl (ai rfl trivial)) (ai rfl trivial)) ?_|exact Y1|refine e_ rfl ?_)
        all_goals(exfalso;first|(have h':=j6 h;rw[O2]at h';omega)|(simp at h;done)|(have h':=j5 h;omega))
       ·obtain⟨n,rfl⟩:=i7 q0;obtain⟨x,hx⟩:=ae (l:=i0.L4) (k:=n) o_;rw[e7,hx,q9 q0,l6]at hr;dsimp only at hr
        cases T7:(x.L7==e-b0)with
        | false=>
         rw[T7,n4]at hr;subst hr;repeat' ((conv=>whnf);first|refine Or.inl ?_|apply oi|apply fi|intro h|refine⟨j,aa e,rfl,ab he,?_⟩|refine ci S7 (ai (ai rfl (ai rfl (ai rfl trivial))) (ai rfl trivial)) ?_|refine⟨0,i0.tr,rfl,rfl,?_⟩|refine ci hS (ai (ai rfl (ai rfl trivial)) (ai rfl trivial)) ?_|refine⟨n,x.tr,rfl,ab hx,?_⟩|exact Y1|refine e_ rfl ?_)
         all_goals(exfalso;first|(have h':=j6 h;rw[O2]at h';omega)|(have h':=j5 h;omega)|(simp only[bne,T7]at h;simp at h;done))
        | true=>
         rw[T7,l6]at hr;repeat' ((conv=>whnf);first|refine Or.inl ?_|apply oi|apply fi|intro h|refine⟨j,aa e,rfl,ab he,?_⟩|refine ci S7 (ai (ai rfl (ai rfl (ai rfl trivial))) (ai rfl trivial)) ?_|refine⟨0,i0.tr,rfl,rfl,?_⟩|refine ci hS (ai (ai rfl (ai rfl trivial)) (ai rfl trivial)) ?_|refine⟨n,x.tr,rfl,ab hx,?_⟩|exact Y1|refine e_ rfl ?_)
         all_goals try exact Q12
         conv=>whnf
         refine⟨⟨j+1,o_,hr⟩,?_,KD⟩;repeat' ((conv=>whnf);first|refine Or.inl ?_|apply oi|apply fi|intro h|exact Y1|refine e_ rfl ?_)
         all_goals exact Q5
      ·by_cases c1:b1<=e/\e<b1+i1.J5.length
       ·have SR:go i0 i1 b0 b1 e=(1,e-b1):=(by rw[go,b8 c0,b9 c1]);rw[SR]at S7 hr;rw[b8 s_,b9 rfl]at hr;have hS:=ob i1 (e-b1) Yu;have hrg:=oP i1.L4 (e-b1);dsimp only at hr;rw[pX]at hr
        generalize fZ i1.L4 (e-b1)=K at *
        rcases hrg with rfl|⟨q0,q1⟩
        ·rw[show decide ((0:Int)<=-1)=false from rfl,n4,n4]at hr;subst hr;repeat' ((conv=>whnf);first|refine Or.inl ?_|apply oi|apply fi|intro h|refine⟨j,aa e,rfl,ab he,?_⟩|refine ci S7 (ai (ai rfl (ai rfl (ai rfl trivial))) (ai rfl trivial)) ?_|refine⟨1,i1.tr,rfl,rfl,?_⟩|refine ci hS (ai (ai rfl (ai rfl trivial)) (ai rfl trivial)) ?_|exact Y1|refine e_ rfl ?_)
         all_goals(exfalso;first|(have h':=j6 h;rw[O2]at h';omega)|(simp at h;done)|(have h':=j5 h;omega))
        ·obtain⟨n,rfl⟩:=i7 q0;obtain⟨x,hx⟩:=ae (l:=i1.L4) (k:=n) o_;rw[e7,hx,q9 q0,l6]at hr;dsimp only at hr
         cases T7:(x.L7==e-b1)with
         | false=>
          rw[T7,n4]at hr;subst hr;repeat' ((conv=>whnf);first|refine Or.inl ?_|apply oi|apply fi|intro h|refine⟨j,aa e,rfl,ab he,?_⟩|refine ci S7 (ai (ai rfl (ai rfl (ai rfl trivial))) (ai rfl trivial)) ?_|refine⟨1,i1.tr,rfl,rfl,?_⟩|refine ci hS (ai (ai rfl (ai rfl trivial)) (ai rfl trivial)) ?_|refine⟨n,x.tr,rfl,ab hx,?_⟩|exact Y1|refine e_ rfl ?_)
          all_goals(exfalso;first|(have h':=j6 h;rw[O2]at h';omega)|(have h':=j5 h;omega)|(simp only[bne,T7]at h;simp at h;done))
         | true=>
          rw[T7,l6]at hr;repeat' ((conv=>whnf);first|refine Or.inl ?_|apply oi|apply fi|intro h|refine⟨j,aa e,rfl,ab he,?_⟩|refine ci S7 (ai (ai rfl (ai rfl (ai rfl trivial))) (ai rfl trivial)) ?_|refine⟨1,i1.tr,rfl,rfl,?_⟩|refine ci hS (ai (ai rfl (ai rfl trivial)) (ai rfl trivial)) ?_|refine⟨n,x.tr,rfl,ab hx,?_⟩|exact Y1|refine e_ rfl ?_)
          all_goals try exact Q12
          conv=>whnf
          refine⟨⟨j+1,o_,hr⟩,?_,KD⟩;repeat' ((conv=>whnf);first|refine Or.inl ?_|apply oi|apply fi|intro h|exact Y1|refine e_ rfl ?_)
          all_goals exact Q5
       ·have SR:go i0 i1 b0 b1 e=(-1,-1):=(by rw[go,b8 c0,b8 c1]);rw[SR]at S7 hr;rw[b8 s_,b8 s_,n4]at hr;subst hr;repeat' ((conv=>whnf);first|refine Or.inl ?_|apply oi|apply fi|intro h|refine⟨j,aa e,rfl,ab he,?_⟩|refine ci S7 (ai (ai rfl (ai rfl (ai rfl trivial))) (ai rfl trivial)) ?_|exact Y1|refine e_ rfl ?_)
        all_goals(exfalso;first|(have h':=j6 h;rw[O2]at h';omega)|(simp at h;done))
     ·have QY:es.length<=j:=o_;rw[m6 QY,I7]at hr;subst hr;repeat' ((conv=>whnf);first|refine Or.inl ?_|apply oi|apply fi|intro h|exact Y1|refine e_ rfl ?_)
      all_goals(exfalso;have h':=j5 h;rw[O2]at h';omega))
theorem ym (s:QA)(hs:aS 1048576 s.tr):Sim.Spec prog 65 [.agg s.tr] (rB (dt s)):=by
 rcases pL (s:=s)with⟨i0,i1,b0,b1,h⟩|⟨h,hn⟩
 ·rw[h]at hs⊢;exact xd i0 i1 b0 b1 s.M2 hs
 ·rw[h];have l1:(s.N6.map Qq.tr).length=s.N6.length:=s_;have l2:(s.O0.map aa).length=s.O0.length:=s_;refine az hΓ aF func65 rfl d_ rfl ?_;repeat' ((conv=>whnf);first|refine Or.inl ?_|apply oi|apply fi|intro h|refine ci (bz _ _ _) (ai rfl (ai rfl (ai rfl trivial))) ?_|exact Y1|refine e_ rfl ?_)
  all_goals(exfalso;apply hn;(simp_all)<;>(constructor<;>omega))
theorem vR {s:QA}(h:dt s=true):∃i0 i1 b0 b1,s=⟨[i0,i1],[b0,b1],s.M2⟩/\(1<=s.M2.length/\s.M2.length<=6)/\(bO i0=true/\1<=b0/\b0<=1000000)/\(bO i1=true/\1<=b1/\b1<=1000000)/\eP i0 i1 b0 b1=false/\∀e∈s.M2,(cf i0 b0 e||cf i1 b1 e)=true:=by
 rcases pL (s:=s)with⟨i0,i1,b0,b1,hs⟩|⟨h',_⟩
 ·refine⟨i0,i1,b0,b1,hs,?_⟩;rw[hs,dt]at h;dsimp only at h;rw[gQ,d5,d5,d5,d5,d5,d5,within_iff,within_iff,within_iff,n9,v4]at h;obtain⟨h1,h2,h3,h4,h5,h6,h7⟩:=h;exact⟨o_,⟨h2,h3⟩,⟨h4,h5⟩,h6,h7⟩
 ·rw[h']at h;cases h
def PM:Qu:=⟨0,0,0,[],[],0,0⟩
def oo (s:QA):Qu:=if dt s then⟨s.M2.headD 0,1199,1200,List.replicate 1200 0,[],0,0⟩else PM
theorem sY (s:QA)(hs:aS 1048576 s.tr):Sim.Spec prog 41 [.agg s.tr] (.tup [.agg ((oo s).tr.map xn),.c (.t (.bool (dt s)))]):=by
 refine az hΓ aF func41 rfl d_ rfl ?_;have hS:=ly s hs;unfold oo
 cases O7:dt s with
 | false=>
  rw[O7]at hS
  repeat' ((conv=>whnf);first|refine Or.inl ?_|apply oi|apply fi|intro h|refine ci hS (ai (ai rfl (ai rfl (ai rfl trivial))) trivial) ?_|exact Y1|refine e_ rfl ?_)
 | true=>
  rw[O7]at hS;obtain⟨i0,i1,b0,b1,_,⟨hl,_⟩,_⟩:=vR O7
  match he:s.M2,hl with
  | e::es,_=>
   rw[b9 rfl];repeat' ((conv=>whnf);first|refine Or.inl ?_|apply oi|apply fi|intro h|refine ci hS (ai (ai rfl (ai rfl (ai rfl trivial))) trivial) ?_|refine⟨0,aa e,rfl,(by rw[he];rfl),?_⟩|exact Y1|refine e_ rfl ?_)
   all_goals try exact Q6
def CU (s:QA)(a:Int):Int×Int:=match s.N6,s.O0 with
 | [i0,i1],[b0,b1]=>go i0 i1 b0 b1 a
 | _,_=>(-1,-1)
def Nx (rules:List (List Qy))(x:Int×Int):Option Qy:=
 if x.1<0 then none else match rules[x.1.toNat]? with
  | some rl=>if tK rl x.2<0 then none else rl[(tK rl x.2).toNat]?
  | none=>none
theorem HP (i0 i1:Qq)(b0 b1 a:Int):go i0 i1 b0 b1 a=(-1,-1)\/∃(i:Nat) (off:Int),i<2/\go i0 i1 b0 b1 a=((i:Int),off):=by
 unfold go;split
 ·exact .inr ⟨0,_,o_,rfl⟩
 ·split
  ·exact .inr ⟨1,_,o_,rfl⟩
  ·exact .inl rfl
theorem Iy:∀f:Fin 101,IntKind.i64.wrap (BitVec.ofInt IntKind.i64.bits (f.val:Int) &&& BitVec.ofInt IntKind.i64.bits 1).toNat=(f.val:Int)%2:=d_
theorem tF (f:Nat)(b:Ql)(image:Int)(hf:f<=100):Sim.Spec prog 63 [.agg b.tr,tvI (f:Int),tvI image] (rB (oJ b image f)):=by
 refine aW hΓ aF func63 rfl d_ rfl ?_;unfold oJ;have hm:=Iy ⟨f,o_⟩;dsimp only at hm;repeat' ((conv=>whnf);first|apply Wx|apply W6|apply oi|apply fi|intro h|exact Y8|refine e_ rfl ?_)
 all_goals first|exact⟨by rw[h,hm];rfl⟩|exact⟨by rw[h];rfl⟩
theorem Ao:∀{L:List (Nat×List Qw)},(∀x∈L,x.2.length<=2500)->(aH L).length<=2500*L.length
 | L,h=>by
  have:=mY h (d7 L.length);rwa [gt (d7 _)]at this
theorem V16{p:Prop}(h:p:=by
 rw[TE]
 cases h1:ak p with
 | false=>
  rw[h1]at hP
  repeat' ((conv=>whnf);first|apply Wx|apply W6|apply oi|apply fi|intro h|refine cl hP ?_|refine cl hB ?_|refine cl gb ?_|exact Y6|refine e_ rfl ?_)
 | true=>
  rw[h1]at hP
  cases h2:aY b with
  | false=>
   rw[h2]at hB
   repeat' ((conv=>whnf);first|apply Wx|apply W6|apply oi|apply fi|intro h|refine cl hP ?_|refine cl hB ?_|refine cl gb ?_|exact Y6|refine e_ rfl ?_)
  | true=>
   rw[h2]at hB
   cases h3:af image 0 1 with
   | true=>exact absurd ⟨h1,h2,h3⟩ hc
   | false=>
    rw[h3]at gb
    repeat' ((conv=>whnf);first|apply Wx|apply W6|apply oi|apply fi|intro h|refine cl hP ?_|refine cl hB ?_|refine cl gb ?_|exact Y6|refine e_ rfl ?_)):p:=h
theorem Q18{p:Prop}(h:p:=by exact⟨⟨by simp only[e8,d6,Tk]<;>omega,by simp only[e8,d6,Tk]<;>omega⟩⟩):p:=h
theorem Q33{p:Prop}(h:p:=by exact⟨congrArg (Tr.int .i64) (by rw[Tg,c8 _ o_])⟩):p:=h
theorem wV (p:List Qt)(b:Ql)(image:Int)(hs:aK 1048576 (.lst 4 (p.map Qt.tr))):Sim.Spec prog 12 [tvP p,.agg b.tr,tvI image] (rL 8 ((cR p b image).map Qw.tr)):=by
 refine aW hΓ aF func12 rfl d_ rfl ?_;have hP:=dz p hs;have hB:=lz b;have gb:=bz image 0 1;by_cases hc:ak p=true/\aY b=true/\af image 0 1=true
 ·have TE:cR p b image=aH (co p b image (aq p).length 0 0):=by rw[cR,b9 hc];rfl
  rw[TE];obtain⟨h1,h2,h3⟩:=hc;rw[h1]at hP;rw[h2]at hB;rw[h3]at gb;obtain⟨h6,SA⟩:=gD h1;have gF:=dC p o_;have P7:((aq p).map fun n:Nat=>aa n).length=(aq p).length:=s_;have Vy:=fun x (hx:x∈co p b image (aq p).length 0 0)=>(ki hs hx).1;repeat' ((conv=>whnf);first|apply Wx|apply W6|apply oi|apply fi|intro h|refine cl hP ?_|refine cl hB ?_|refine cl gb ?_|exact Y8|refine e_ rfl ?_)
  conv=>whnf
  refine⟨OH p b image,fun q=>⟨[(0,vP p),(2,tI .i64 image),(4,.r (.c (.ptr (4,0,0) 0))),(7,.r (.c (.own (15,0,0)))),(8,tI .i64 q.1.2.1),(9,tI .i64 (q.1.1:Int))],[((15,0,0),some (.arr true 8 ((aH q.1.2.2).map Qw.tr))),((4,0,0),some (.box [.t (.int .i64 b.N3),.t (.int .i64 b.M0),.t (.bool b.N9),.t (.bool b.N4)]))],[15,4]⟩,fun q=>(aq p).length-q.1.1,⟨(0,0,[]),s_,s_,s_,s_⟩,?_,?_⟩
  ·exact Z2
  intro⟨⟨f,at0,acc⟩,hk,ha,QZ,hr⟩;dsimp only at hk ha QZ hr⊢;have hac:(aH acc).length<=2500*acc.length:=Ao fun x hx=>Vy x (by rw[<-hr];exact f0.2 (.inl hx));by_cases O4:f<(aq p).length
  ·obtain⟨n,hn⟩:∃n,(aq p).length-f=n+1:=⟨(aq p).length-f-1,o_⟩;have hi:=tF f b image o_;rw[hn,mM]at hr
   cases hin:oJ b image f with
   | false=>
    rw[hin]at hi hr;rw[b8 s_]at hr;repeat' ((conv=>whnf);first|apply Wx|apply W6|apply oi|apply fi|intro h|refine cl gF ?_|refine cl hi ?_|exact Y6|refine e_ rfl ?_)
    conv=>whnf
    refine⟨⟨(f+1,at0,acc),g_,g_,g_,by dsimp only;rw[show(aq p).length-(f+1)=n by omega];exact hr⟩,?_,KD⟩
    exact Z5
   | true=>
    rw[hin]at hi hr;rw[b9 rfl]at hr;have Ug:=nN p (f:Int) b hs;obtain⟨f1,f2,f3⟩:=My (f:=f) hs h1 h2 O4;have Rx:=(iX (p:=p) (f:=(f:Int)) (b:=b) hs).2
    generalize aG p (f:Int) b=I at *
    repeat' ((conv=>whnf);first|apply Wx|apply W6|apply oi|apply fi|intro h|refine cl gF ?_|refine cl hi ?_|refine cl Ug ?_|exact Y6|refine e_ rfl ?_)
    have O2:(I.map Qs.tr).length=I.length:=s_;have Su:=oM at0 I;have P6:=fun k (h:k<=I.length)=>iw (at0:=at0) h;have SU:=gq at0 I;have hsu:=fun k x (h:I[k]?=some x)=>fg (at0:=at0) h;have hpf:∀(k:Nat) (x:Qs),I[k]?=some x->(dK I at0)[k]?=some (Qw.mk (atL (bY at0 I) k) (dN (bY at0 I) k x)):=fun k x h=>eF h;have Tv:=dM I at0;have UT:wY at0 I=atL (bY at0 I) I.length:=rfl;have ye:=Ij (l:=I) (at0:=at0)
    generalize bY at0 I=S at *
    generalize dK I at0=F at *
    generalize wY at0 I=E at *
    conv=>whnf
    refine⟨{k:Nat//k<=I.length},fun k=>⟨[(0,vP p),(2,tI .i64 image),(4,.r (.c (.ptr (4,0,0) 0))),(7,.r (.c (.own (15,0,0)))),(8,tI .i64 (atL S k.1)),(9,tI .i64 (f:Int)),(10,.r (.c (.own (45,0,0)))),(11,.r (.c (.own (46,0,0)))),(12,tI .i64 (k.1:Int))],[((46,0,0),some (.arr true 1 ((S.take k.1).map aa))),((45,0,0),some (.arr true 7 (I.map Qs.tr))),((15,0,0),some (.arr true 8 ((aH acc).map Qw.tr))),((4,0,0),some (.box [.t (.int .i64 b.N3),.t (.int .i64 b.M0),.t (.bool b.N9),.t (.bool b.N4)]))],[46,45,15,4]⟩,fun k=>I.length-k.1,⟨0,o_⟩,?_,?_⟩
    ·repeat' ((conv=>whnf);first|apply Wx|apply W6|apply oi|apply fi|intro h|exact Y8|refine e_ rfl ?_)
     all_goals try exact⟨by rw[SU]⟩
    intro⟨k,hk⟩;dsimp only;have Wt:=P6 k hk;by_cases T9:k<I.length
    ·obtain⟨x,hx⟩:=ae T9;have hz:=iF x.K0.J5;have ho:=qY x.K0.J5;have Tg:=hsu k x hx;have hg:S[k]?=some (atL S k):=pZ o_;have TP:k<(I.map Qs.tr).length:=o_;have Zm:(I.map Qs.tr)[k]?=some x.tr:=ab hx;repeat' ((conv=>whnf);first|apply Wx|apply W6|apply oi|apply fi|intro h|refine⟨k,rfl,TP,?_⟩|refine⟨_,Zm,?_⟩|refine cl ho ?_|exact Y6|refine e_ rfl ?_)
     all_goals try exact Q2
     conv=>whnf
     refine⟨⟨k+1,o_⟩,?_,KD⟩;repeat' ((conv=>whnf);first|apply Wx|apply W6|apply oi|apply fi|intro h|exact Y9|refine e_ rfl ?_)
     all_goals try exact⟨by rw[cH hg,q8];rfl⟩
     all_goals try exact Q33
    ·have QV:k=I.length:=o_;subst QV;have hg:S[I.length]?=some (atL S I.length):=pZ o_;repeat' ((conv=>whnf);first|apply Wx|apply W6|apply oi|apply fi|intro h|exact Y6|refine e_ rfl ?_)
     all_goals try exact Q2
     conv=>whnf
     refine⟨{k:Nat//k<=I.length},fun k=>⟨[(0,vP p),(2,tI .i64 image),(4,.r (.c (.ptr (4,0,0) 0))),(7,.r (.c (.own (15,0,0)))),(8,tI .i64 (atL S I.length)),(9,tI .i64 (f:Int)),(10,.r (.c (.own (45,0,0)))),(11,.r (.c (.own (69,0,0)))),(13,tI .i64 (k.1:Int))],[((69,0,0),some (.arr true 1 (S.map aa))),((45,0,0),some (.arr true 7 (I.map Qs.tr))),((15,0,0),some (.arr true 8 ((aH acc++F.take k.1).map Qw.tr))),((4,0,0),some (.box [.t (.int .i64 b.N3),.t (.int .i64 b.M0),.t (.bool b.N9),.t (.bool b.N4)]))],[69,45,15,4]⟩,fun k=>I.length-k.1,⟨0,o_⟩,?_,?_⟩
     ·repeat' ((conv=>whnf);first|apply Wx|apply W6|apply oi|apply fi|intro h|exact Y8|refine e_ rfl ?_)
      all_goals try exact⟨by rw[show [[Tr.int .i64 (atL S I.length)]]=[atL S I.length].map aa from rfl,<-q8,<-cH hg,gt o_]⟩
      all_goals try exact⟨s_⟩
     intro⟨k,hk⟩;dsimp only;have Tk:((aH acc++F.take k).map Qw.tr).length=(aH acc).length+k:=(by rw[d9,c7,k0];omega);have Zg:(S.map aa).length=I.length+1:=(by rw[d9];exact Su);have mg:∀j,j<=I.length->(S.map aa)[j]?=some (aa (atL S j)):=fun j hj=>by rw[j9,pZ o_];rfl
     by_cases T9:k<I.length
     ·obtain⟨x,hx⟩:=ae T9;have Ti:=hpf k x hx;have Uu:(aH acc++F.take (k+1)).map Qw.tr=(aH acc++F.take k).map Qw.tr++[(Qw.mk (atL S k) (dN S k x)).tr]:=(by rw[cH Ti,<-l9,q8];rfl);have TP:k<(I.map Qs.tr).length:=o_;have Zm:(I.map Qs.tr)[k]?=some x.tr:=ab hx;have RI:IntKind.i64.wrap ((k:Int)+1)=((k+1:Nat):Int):=(by rw[c8 _ o_];rfl);have S9:k<(S.map aa).length:=o_;have Rh:k+1<(S.map aa).length:=o_;have m0:=mg k o_;have m1:=mg (k+1) o_;have b1:=P6 (k+1) o_
      cases SQ:pm x with
      | true=>
       obtain⟨ja,jb⟩:=f3 x (c9 hx) SQ;have hwa:x.K0.L2=((x.K0.L2.toNat:Nat):Int):=(C9 ja).symm;have Ub:x.K0.L2.toNat<(S.map aa).length:=o_;have m2:=mg x.K0.L2.toNat o_;have b2:=P6 x.K0.L2.toNat o_;have R7:dN S k x=pU x (IntKind.i64.wrap (atL S x.K0.L2.toNat-atL S (k+1))):=(by rw[dN,b9 SQ,c8 _ o_]);rw[isJump_iff]at SQ;repeat' ((conv=>whnf);first|apply Wx|apply W6|apply oi|apply fi|intro h|refine⟨k,rfl,TP,?_⟩|refine⟨_,Zm,?_⟩|refine⟨k,rfl,S9,?_⟩|refine⟨k+1,RI,Rh,?_⟩|refine⟨_,hwa,Ub,?_⟩|refine⟨_,m0,?_⟩|refine⟨_,m1,?_⟩|refine⟨_,m2,?_⟩|exact Y11|refine e_ rfl ?_)
       all_goals try exact Q18
       all_goals(
        conv=>whnf
        refine⟨⟨k+1,o_⟩,?_,KD⟩;repeat' ((conv=>whnf);first|apply Wx|apply W6|apply oi|apply fi|intro h|exact Y9|refine e_ rfl ?_)
        all_goals try exact⟨by dsimp only;rw[Uu,R7];rfl⟩)
      | false=>
       have R7:dN S k x=x:=(by rw[dN,b8 (by rw[SQ];simp)]);have VQ:¬(x.K0.J5=10\/x.K0.J5=11):=(by rw[<-isJump_iff,SQ];simp);repeat' ((conv=>whnf);first|apply Wx|apply W6|apply oi|apply fi|intro h|refine⟨k,rfl,TP,?_⟩|refine⟨_,Zm,?_⟩|refine⟨k,rfl,S9,?_⟩|refine⟨_,m0,?_⟩|exact Y11|refine e_ rfl ?_)
       all_goals try exact Q18
       all_goals(
        conv=>whnf
        refine⟨⟨k+1,o_⟩,?_,KD⟩;repeat' ((conv=>whnf);first|apply Wx|apply W6|apply oi|apply fi|intro h|exact Y9|refine e_ rfl ?_)
        all_goals try exact⟨by dsimp only;rw[Uu,R7];rfl⟩)
     ·have QV:k=I.length:=o_;subst QV;repeat' ((conv=>whnf);first|apply Wx|apply W6|apply oi|apply fi|intro h|exact Y6|refine e_ rfl ?_)
      conv=>whnf
      refine⟨⟨(f+1,E,acc++[(f,F)]),g_,g_,by simp;omega,by dsimp only;rw[l9,show(aq p).length-(f+1)=n by omega];exact hr⟩,?_,KD⟩;repeat' ((conv=>whnf);first|apply Wx|apply W6|apply oi|apply fi|intro h|exact Y9|refine e_ rfl ?_)
      all_goals try exact⟨by rw[UT]⟩
      all_goals try exact⟨by rw[nt,gt o_]⟩
  ·rw[show(aq p).length-f=0 by omega]at hr;have Rk:acc=co p b image (aq p).length 0 0:=(by rw[<-hr];simp[co]);repeat' ((conv=>whnf);first|apply Wx|apply W6|apply oi|apply fi|intro h|refine cl gF ?_|exact Y6|refine e_ rfl ?_)
   all_goals exact⟨by rw[Rk]⟩
 ·have TE:cR p b image=[]:=by rw[cR,b8 hc]
  exact V16
theorem jT (p:List Qt)(b:Ql)(image:Int)(hs:aK 1048576 (.lst 4 (p.map Qt.tr))):Sim.Spec prog 48 [tvP p,.agg b.tr,tvI image] (.r (.agg ((ay p b image).tr.map xn))):=by
 refine aW hΓ aF func48 rfl d_ rfl ?_;have hP:=wV p b image hs;by_cases hc:ak p=true/\aY b=true/\af image 0 1=true
 ·have TE:ay p b image=⟨aA (aH (co p b image (aq p).length 0 0)),cA p 0 (co p b image (aq p).length 0 0)⟩:=by rw[ay,b9 hc]
  have hpf:cR p b image=aH (co p b image (aq p).length 0 0):=by rw[cR,b9 hc];rfl
  rw[TE];rw[hpf]at hP;obtain⟨h1,h2,h3⟩:=hc;obtain⟨h6,SA⟩:=gD h1;have Sk:=jX p b image (aq p).length 0 0;have Vy:=fun x (hx:x∈co p b image (aq p).length 0 0)=>(ki hs hx).1;have ZC:=fun{i:Nat} {x:Nat×List Qw} {j:Nat} {y:Qw} (h:(co p b image (aq p).length 0 0)[i]?=some x) (hy:x.2[j]?=some y)=>iy hs h1 h2 h hy;have ZR:=fun{i:Nat} {x:Nat×List Qw} (h:(co p b image (aq p).length 0 0)[i]?=some x)=>(mb hs h1 h2 o_ h).2
  generalize co p b image (aq p).length 0 0=L at *
  repeat' ((conv=>whnf);first|apply Wx|apply W6|apply oi|apply fi|intro h|refine cl hP ?_|exact Y8|refine e_ rfl ?_)
  conv=>whnf
  refine⟨{q:Nat×Nat//q.1<=L.length/\(∀x,L[q.1]?=some x->q.2<x.2.length)/\(q.1=L.length->q.2=0)},fun q=>⟨[(0,vP p),(6,.r (.c (.ptr (6,0,0) 0))),(7,.r (.c (.ptr (7,0,0) 0))),(8,.r (.c (.own (15,0,0)))),(9,tI .i64 (((aH (L.take q.1.1)).length+q.1.2:Nat):Int))],[((6,0,0),some (.box [.t (.str []),.nils 0])),((7,0,0),some (.box [.t (.str (iQ L q.1.1 q.1.2)),.own (7,0,1)])),((7,0,1),some (.arr true 3 ((lH p L q.1.1 q.1.2).map QB.tr))),((15,0,0),some (.arr true 8 ((aH L).map Qw.tr)))],[15,7,6]⟩,fun q=>(aH L).length+1-((aH (L.take q.1.1)).length+q.1.2),⟨(0,0),g_,by intro x hx;exact(ZR hx).2,fun _=>rfl⟩,?_,?_⟩
  ·repeat' ((conv=>whnf);first|apply Wx|apply W6|apply oi|apply fi|intro h|exact Y8|refine e_ rfl ?_)
   all_goals try exact⟨by rw[Hx];rfl⟩
   all_goals try exact⟨by rw[Ab];rfl⟩
  intro⟨⟨i,j⟩,hi,hj,he⟩;dsimp only at hi hj he⊢;by_cases O4:i<L.length
  ·obtain⟨x,hx⟩:=ae O4;have SQ:=hj x hx;obtain⟨y,hy⟩:=ae SQ;obtain⟨hPI,SM⟩:=ZC hx hy;have SV:=GK hx hy;have QV:=aE SV;have QZ:=Ao Vy;have Ub:=B5 2500 (show L.length<=6 by omega);have hkm:(aH (L.take i)).length+j<((aH L).map Qw.tr).length:=(by rw[d9];exact QV);have hgm:((aH L).map Qw.tr)[(aH (L.take i)).length+j]?=some y.tr:=ab SV;have hE:=wT y.L5.K0;have hE5:=oZ y.L5.K0;obtain⟨⟨i',j'⟩,q1,q2,q3,q4,q5,q6⟩:=Ld (p:=p) (fun{i x} h=>(ZR (i:=i) h).2) hx SQ;dsimp only at q1 q2 q3 q4 q5 q6;rw[Kv hx hy]at q5;rw[BU hx]at q6;have QK:=Kr (j:=j) hx;have aeA:=fm (aH (L.take i));have agb:=fm (x.2.take j);have afK:(aH (L.take i)).length<=(aH L).length:=o_;have afY:(x.2.take j).length<=2500:=(by have:=Vy x (c9 hx);rw[k0];omega);have ac1:aA (x.2.take (j+1))=aA (x.2.take j)++bt y.L5.K0:=(by rw[cH hy,aR,eK]);rw[ac1,c7]at q6;have SU:(cA p 0 (L.take i)).length=i:=(by rw[lf,k0];omega);rcases B8 j with rfl|ZZ
   ·obtain⟨Ro,g,ln,Wl,WV,hf3,hf4⟩:=hPI.head rfl;have Sp:bM p x.1=ln.J7:=(by rw[bM,Wl];dsimp only;rw[hf3]);rw[Ab];have WD:aA (x.2.take 0)=[]:=(by simp[aA]);rw[WD]at q6 QK SM;rw[e8]at QK SM
    generalize iQ L i 0=C at *
    generalize cA p 0 (L.take i)=S0 at *
    generalize bt y.L5.K0=EB at *
    generalize aA (aH (L.take i))=C0 at *
    have S3:IntKind.i64.wrap (((S0.map QB.tr++[[Tr.str ln.J7,Tr.int .i64 y.M7,Tr.int .i64 0]]).length:Int)-1)=(i:Int):=by rw[c7,d9,SU];simp only[d6,e8];rw[c8 _ o_];omega
    have Rw:i<(S0.map QB.tr++[[Tr.str ln.J7,Tr.int .i64 y.M7,Tr.int .i64 0]]).length:=by rw[c7,d9,SU];simp
    have hig:(S0.map QB.tr++[[Tr.str ln.J7,Tr.int .i64 y.M7,Tr.int .i64 0]])[i]?=some [Tr.str ln.J7,Tr.int .i64 y.M7,Tr.int .i64 0]:=by rw[m9 (by rw[d9,SU];exact d7 _),d9,SU];simp
    have fin:∀(KK:List (List Tr)),KK=(S0.map QB.tr++[[Tr.str ln.J7,Tr.int .i64 y.M7,Tr.int .i64 0]]).set i [Tr.str ln.J7,Tr.int .i64 y.M7,Tr.int .i64 (IntKind.i64.wrap (((C++EB).length:Int)-y.M7))]->KK=(lH p L i' j').map QB.tr:=fun KK h=>by
     rw[h,q6,Sp,D8 _ _ (by rw[d9,SU];exact d7 _),d9,SU,v6,q8,c7,c8 _ o_];simp only[D3,p7,D5,QB.tr];congr 6<;>(simp only[e8];omega)
    rcases Ro with Ro|Ro
    all_goals(
     repeat' ((conv=>whnf);first|apply Wx|apply W6|apply oi|apply fi|intro h|refine⟨_,rfl,hkm,?_⟩|refine⟨_,hgm,?_⟩|refine cl hE ?_|refine⟨g,ln.tr,WV,ab hf3,?_⟩|refine⟨_,S3,Rw,?_⟩|refine⟨_,hig,?_⟩|exact Y15|refine e_ rfl ?_)
     all_goals try exact⟨o_⟩
     all_goals try exact⟨⟨by simp only[e8,d6,d9,SU]<;>omega,by simp only[e8,d6,d9,SU]<;>omega⟩⟩
     all_goals(
      conv=>whnf
      refine⟨⟨(i',j'),q1,q2,q3⟩,?_,KD⟩;repeat' ((conv=>whnf);first|apply Wx|apply W6|apply oi|apply fi|intro h|exact Y9|refine e_ rfl ?_)
      all_goals try exact⟨by rw[q5]⟩
      all_goals try exact⟨fin _ rfl⟩
      all_goals exact⟨congrArg (Tr.int _) (by dsimp only;rw[c8 _ o_];omega)⟩))
   ·obtain⟨j,rfl⟩:∃j0,j=j0+1:=⟨j-1,o_⟩;obtain⟨Ro,m,ln,WV,hf3,hf4⟩:=hPI.body ZZ;rw[BU hx]
    generalize iQ L i (j+1)=C at *
    generalize cA p 0 (L.take i)=S0 at *
    generalize bt y.L5.K0=EB at *
    generalize aA (aH (L.take i))=C0 at *
    generalize aA (x.2.take (j+1))=C1 at *
    have S3:IntKind.i64.wrap ((((S0++[(⟨bM p x.1,(C0.length:Int),(C1.length:Int)⟩:QB)]).map QB.tr).length:Int)-1)=(i:Int):=by rw[d9,c7,SU];simp only[d6,e8];rw[c8 _ o_];omega
    have Rw:i<((S0++[(⟨bM p x.1,(C0.length:Int),(C1.length:Int)⟩:QB)]).map QB.tr).length:=by rw[d9,c7,SU];simp
    have hig:((S0++[(⟨bM p x.1,(C0.length:Int),(C1.length:Int)⟩:QB)]).map QB.tr)[i]?=some [Tr.str (bM p x.1),Tr.int .i64 (C0.length:Int),Tr.int .i64 (C1.length:Int)]:=by rw[j9,m9 (by rw[SU];exact d7 _),SU];simp[QB.tr]
    have fin:∀(KK:List (List Tr)),KK=((S0++[(⟨bM p x.1,(C0.length:Int),(C1.length:Int)⟩:QB)]).map QB.tr).set i [Tr.str (bM p x.1),Tr.int .i64 (C0.length:Int),Tr.int .i64 (IntKind.i64.wrap (((C++EB).length:Int)-(C0.length:Int)))]->KK=(lH p L i' j').map QB.tr:=fun KK h=>by
     rw[h,q6,q8,D8 _ _ (by rw[d9,SU];exact d7 _),d9,SU,v6,q8,c7,c8 _ o_];simp only[D3,p7,D5,QB.tr];congr 6;omega
    repeat' ((conv=>whnf);first|apply Wx|apply W6|apply oi|apply fi|intro h|refine⟨_,rfl,hkm,?_⟩|refine⟨_,hgm,?_⟩|refine cl hE ?_|refine⟨m,ln.tr,WV,ab hf3,?_⟩|refine⟨_,S3,Rw,?_⟩|refine⟨_,hig,?_⟩|exact Y15|refine e_ rfl ?_)
    all_goals try exact⟨o_⟩
    all_goals(
     conv=>whnf
     refine⟨⟨(i',j'),q1,q2,q3⟩,?_,KD⟩;repeat' ((conv=>whnf);first|apply Wx|apply W6|apply oi|apply fi|intro h|exact Y9|refine e_ rfl ?_)
     all_goals try exact⟨by rw[q5]⟩
     all_goals try exact⟨fin _ rfl⟩
     all_goals exact⟨congrArg (Tr.int _) (by dsimp only;rw[c8 _ o_];omega)⟩)
  ·have Rw:i=L.length:=o_;subst Rw;have ZZ:=he rfl;subst ZZ;rw[Km,Kw,gt (d7 _)];repeat' ((conv=>whnf);first|apply Wx|apply W6|apply oi|apply fi|intro h|exact Y8|refine e_ rfl ?_)
   all_goals try(exfalso;simp only[d9,i8]at h;omega)
 ·have TE:ay p b image=⟨[],[]⟩:=by rw[ay,b8 hc]
  have hpf:cR p b image=[]:=by rw[cR,b8 hc]
  rw[TE];rw[hpf]at hP;repeat' ((conv=>whnf);first|apply Wx|apply W6|apply oi|apply fi|intro h|refine cl hP ?_|exact Y8|refine e_ rfl ?_)
  conv=>whnf
  refine⟨Unit,fun _=>⟨[(0,vP p),(6,.r (.c (.ptr (6,0,0) 0))),(7,.r (.c (.ptr (7,0,0) 0))),(8,.r (.c (.own (15,0,0)))),(9,tI .i64 0)],[((6,0,0),some (.box [.t (.str []),.nils 0])),((7,0,0),some (.box [.t (.str []),.own (7,0,1)])),((7,0,1),some (.arr true 3 [])),((15,0,0),some (.arr true 8 []))],[15,7,6]⟩,fun _=>0,(),?_,?_⟩
  ·exact Z2
  intro _;repeat' ((conv=>whnf);first|apply Wx|apply W6|apply oi|apply fi|intro h|exact Y8|refine e_ rfl ?_)
  all_goals try exact Q6
theorem DN {p:List Qt}(hs:aK 1048576 (.lst 4 (p.map Qt.tr)))(f:Nat):(bM p f).length<=1048576:=by
 unfold bM;split
 ·split
  ·rename_i g _ y hy;have:=bk hs (c9 hy);simp only[Qt.tr,aS,aK]at this;omega
  ·simp
 ·simp
theorem tL {p:List Qt}(hs:aK 1048576 (.lst 4 (p.map Qt.tr))):∀(L:List (Nat×List Qw)) (at0:Int) (x:QB),x∈cA p at0 L->x.J7.length<=1048576
 | [],_,_,h=>by cases h
 |(f,l)::L,at0,x,h=>by
  rw[cA]at h;rcases d8.1 h with rfl|h
  ·exact DN hs f
  ·exact tL hs L _ x h
theorem pE {p:List Qt}{b:Ql}{image:Int}(hs:aK 1048576 (.lst 4 (p.map Qt.tr))):aS 1048576 (ay p b image).tr:=by
 rw[ay];split
 ·rename_i hc;obtain⟨h1,h2,h3⟩:=hc;obtain⟨h6,_⟩:=gD h1;have Sk:=jX p b image (aq p).length 0 0;have QZ:=Ao fun x (hx:x∈co p b image (aq p).length 0 0)=>(ki hs hx).1;have QK:=fm (aH (co p b image (aq p).length 0 0));have Ub:=B5 2500 (show(co p b image (aq p).length 0 0).length<=6 by omega);refine⟨by simp only[aK];omega,?_,trivial⟩
  exact lc (by rw[lf];omega) fun x hx=>by
   have:=tL hs _ _ x hx;simp only[QB.tr,aS,aK];exact⟨o_,trivial,trivial,trivial⟩
 ·simp[Qq.tr,aS,aK,iZ]
end Go.Proofs.P
