import Derived.Test.YtoglejgmjeojoaaGreatGg
set_option maxRecDepth 100000
set_option maxHeartbeats 0
namespace Go.Proofs.P
open Go.Sim Tryz
def bY:Int->List Qs->List Int
 | at0,[]=>[at0]
 | at0,x::l=>at0::bY (at0+aQ x.K0.J5) l
def wY (at0:Int)(l:List Qs):Int:=atL (bY at0 l) l.length
def pU (x:Qs)(a:Int):Qs:=⟨⟨x.K0.J5,a⟩,x.M8,x.L7,x.N0,x.M6,x.N2⟩
def pm (x:Qs):Bool:=x.K0.J5==10||x.K0.J5==11
def dN (st:List Int)(k:Nat)(x:Qs):Qs:=if pm x=true then pU x (atL st x.K0.L2.toNat-atL st (k+1))else x
def pS (st:List Int):Nat->List Qs->List Qw
 | _,[]=>[]
 | k,x::l=>⟨atL st k,dN st k x⟩::pS st (k+1) l
def dK (l:List Qs)(at0:Int):List Qw:=pS (bY at0 l) 0 l
theorem oM:∀(at0:Int) (l:List Qs),(bY at0 l).length=l.length+1
 | _,[]=>rfl
 | at0,x::l=>by rw[bY,d6,oM,d6]
theorem gq (at0:Int)(l:List Qs):atL (bY at0 l) 0=at0:=by cases l<;>rfl
theorem zK (a:Int)(l:List Int)(k:Nat):atL (a::l) (k+1)=atL l k:=by simp[atL]
theorem fg:∀{at0:Int} {l:List Qs} {k:Nat} {x:Qs},l[k]?=some x->atL (bY at0 l) (k+1)=atL (bY at0 l) k+aQ x.K0.J5
 | _,[],_,_,h=>by simp at h
 | at0,y::l,0,x,h=>by
  rw[f9]at h;injection h with h;subst h;rw[bY,zK,gq]
  rfl
 | at0,y::l,k+1,x,h=>by
  rw[j8]at h;rw[bY,zK,zK,fg h]
theorem iw {at0:Int}{l:List Qs}:∀{k:Nat},k<=l.length->at0<=atL (bY at0 l) k/\atL (bY at0 l) k<=at0+5*k
 | 0,_=>by rw[gq];omega
 | k+1,h=>by
  obtain⟨x,hx⟩:=ae (l:=l) (k:=k) o_;have:=iw (at0:=at0) (l:=l) (k:=k) o_;have:=iF x.K0.J5;rw[fg hx];omega
theorem pZ {l:List Int}{k:Nat}(h:k<l.length):l[k]?=some (atL l k):=by obtain⟨x,hx⟩:=ae h;rw[atL,hx];rfl
theorem cH {α:Type}{l:List α}{k:Nat}{x:α}(h:l[k]?=some x):l.take (k+1)=l.take k++[x]:=by rw[A0,h];rfl
theorem wC (st:List Int):∀(k:Nat) (l:List Qs),(pS st k l).length=l.length
 | _,[]=>rfl
 | k,x::l=>by rw[pS,d6,wC,d6]
theorem wE (st:List Int):∀{l:List Qs} {j k:Nat} {x:Qs},l[j]?=some x->(pS st k l)[j]?=some ⟨atL st (k+j),dN st (k+j) x⟩
 | [],_,_,_,h=>by simp at h
 | y::l,0,k,x,h=>by
  rw[f9]at h;injection h with h;subst h
  rfl
 | y::l,j+1,k,x,h=>by
  rw[j8]at h;rw[pS,j8,wE st h,show k+1+j=k+(j+1) by omega]
theorem dM (l:List Qs)(at0:Int):(dK l at0).length=l.length:=wC _ _ _
theorem eF {l:List Qs}{at0:Int}{j:Nat}{x:Qs}(h:l[j]?=some x):(dK l at0)[j]?=some ⟨atL (bY at0 l) j,dN (bY at0 l) j x⟩:=by have:=wE (bY at0 l) (k:=0) h;rwa [s7]at this
def Di (l:List Qs):Prop:=∀x∈l,pm x=true->0<=x.K0.L2/\x.K0.L2<=l.length
theorem isJump_iff {x:Qs}:pm x=true↔x.K0.J5=10\/x.K0.J5=11:=by simp[pm]
def oJ (b:Ql)(image:Int)(f:Nat):Bool:=if b.N4=true then(f:Int)%2==image else image==0
noncomputable def co (p:List Qt) (b:Ql) (image:Int):Nat->Nat->Int->List (Nat×List Qw)
 | 0,_,_=>[]
 | n+1,f,at0=>if oJ b image f=true then(f,dK (aG p f b) at0)::co p b image n (f+1) (wY at0 (aG p f b))else co p b image n (f+1) at0
noncomputable def cR (p:List Qt) (b:Ql) (image:Int):List Qw:=
 if ak p=true/\aY b=true/\af image 0 1=true then((co p b image (aq p).length 0 0).map Prod.snd).flatten else []
structure FnOk (p:List Qt) (b:Ql) (f:Nat):Prop where
 pos:0<(aG p f b).length
 len:(aG p f b).length<=2500
 jmp:Di (aG p f b)
theorem InvI.jumps {C:Cx}{g:Nat}{l:List Qs}(h:InvI C g l):0<l.length/\Di l:=by
 obtain⟨a,t,rfl,h2,h3⟩:=h;refine⟨s_,fun x hx hj=>?_⟩;rw[isJump_iff]at hj;rcases d8.1 hx with rfl|hx
 ·have:=h2.1;omega
 ·exact(h3 x hx).jump hj
theorem My {p:List Qt}{b:Ql}(hs:aK 1048576 (.lst 4 (p.map Qt.tr)))(h1:ak p=true)(h2:aY b=true){f:Nat}(h:f<(aq p).length):FnOk p b f:=by obtain⟨g,C,_,_,_,_,hi⟩:=sP (f:=(f:Int)) hs h1 h2 o_ o_;exact⟨hi.jumps.1,(iX hs).1,hi.jumps.2⟩
theorem gD {p:List Qt}(h1:ak p=true):(aq p).length<=6/\p.length<=60:=by rw[wj]at h1;simp only[d5,i8]at h1;exact⟨h1.2.1,h1.1⟩
theorem CM {l:List Qs}{at0:Int}(h:0<l.length):∃x:Qw,(dK l at0)[l.length-1]?=some x/\x.M7+aQ x.L5.K0.J5=wY at0 l/\at0<=x.M7/\x.M7<=at0+5*l.length:=by
 obtain⟨y,hy⟩:=ae (l:=l) (k:=l.length-1) o_;refine⟨_,eF hy,?_,?_⟩
 ·have h1:=fg (at0:=at0) hy;have hc:(dN (bY at0 l) (l.length-1) y).K0.J5=y.K0.J5:=by unfold dN;split<;>rfl
  rw[hc,<-h1,wY];congr 1;omega
 ·have:=iw (at0:=at0) (l:=l) (k:=l.length-1) o_;dsimp only;omega
theorem Ij {l:List Qs}{at0:Int}:at0<=wY at0 l/\wY at0 l<=at0+5*l.length:=iw (d7 _)
theorem mM {p:List Qt}{b:Ql}{image:Int}{n f:Nat}{at0:Int}:co p b image (n+1) f at0=if oJ b image f=true then(f,dK (aG p f b) at0)::co p b image n (f+1) (wY at0 (aG p f b))else co p b image n (f+1) at0:=rfl
abbrev OH (p:List Qt)(b:Ql)(image:Int):={q:Nat×Int×List (Nat×List Qw)//q.1<=(aq p).length/\(0<=q.2.1/\q.2.1<=12500*q.1)/\q.2.2.length<=q.1/\q.2.2++co p b image ((aq p).length-q.1) q.1 q.2.1=co p b image (aq p).length 0 0}
def fJ (L:List (Nat×List Qw)):List (List Tr):=L.map fun x=>aa (x.1:Int)
def eN (L:List (Nat×List Qw)):List (List Tr):=L.map fun x=>[.lst 8 (x.2.map Qw.tr)]
theorem jX (p:List Qt)(b:Ql)(image:Int):∀(n f:Nat) (at0:Int),(co p b image n f at0).length<=n
 | 0,_,_=>d7 _
 | n+1,f,at0=>by
  rw[co];split
  ·have:=jX p b image n (f+1) (wY at0 (aG p f b));rw[d6];omega
  ·have:=jX p b image n (f+1) at0;omega
theorem ki {p:List Qt}{b:Ql}(hs:aK 1048576 (.lst 4 (p.map Qt.tr))){image:Int}:∀{n f:Nat} {at0:Int} {x:Nat×List Qw},x∈co p b image n f at0->x.2.length<=2500/\∀y∈x.2,y.L5.N0.length<=4
 | 0,_,_,_,h=>by cases h
 | n+1,f,at0,x,h=>by
  rw[co]at h;split at h
  ·rcases d8.1 h with rfl|h
   ·obtain⟨c1,c2⟩:=iX (p:=p) (f:=(f:Int)) (b:=b) hs;refine⟨by rw[dM];exact c1,fun y hy=>?_⟩;obtain⟨j,hj⟩:=C4 hy;have Q0:=aE hj;rw[dM]at Q0;obtain⟨z,hz⟩:=ae Q0;rw[eF hz]at hj;injection hj with hj;subst hj;have:(dN (bY at0 (aG p f b)) j z).N0=z.N0:=(by unfold dN;split<;>rfl);rw[this];exact c2 z (c9 hz)
   ·exact ki hs h
  ·exact ki hs h
def aH (L:List (Nat×List Qw)):List Qw:=(L.map Prod.snd).flatten
theorem HT {L:List (Nat×List Qw)}{k:Nat}{x:Nat×List Qw}(h:L[k]?=some x):aH (L.take (k+1))=aH (L.take k)++x.2:=by rw[cH h];simp[aH]
theorem mY {L:List (Nat×List Qw)}(h:∀x∈L,x.2.length<=2500):∀{k:Nat},k<=L.length->(aH (L.take k)).length<=2500*k
 | 0,_=>by simp[aH]
 | k+1,hk=>by
  obtain⟨x,hx⟩:=ae (l:=L) (k:=k) o_;have:=mY h (k:=k) o_;have:=h x (c9 hx);rw[HT hx,c7];omega
def DI (it:Qs):Prop:=0<=it.M6/\it.M6<=1200/\(it.N2=true->it.M6=0)
def Dp (a b:Gs):Prop:=(∀it∈a.I8,DI it)->∀it∈b.I8,DI it
theorem Dp.refl (s:Gs):Dp s s:=id
theorem Dp.trans {a b c:Gs}(h:Dp a b)(h':Dp b c):Dp a c:=fun x=>h' (h x)
theorem Dp.same {a b b':Gs}(h:Dp a b)(e:b'.I8=b.I8):Dp a b':=fun x=>by rw[e];exact h x
theorem dZ {C:Cx}{s:Gs}{d code arg line:Int}{chain:List Int}(h:0<=d/\d<=1200):Dp s (aB C s d code arg line chain):=by
 intro hs it Ry;simp only[aB,f0,t6]at Ry;rcases Ry with Ry|rfl
 ·exact hs it Ry
 ·unfold kw DI;dsimp only;by_cases hf:C.J8=true/\0<s.I8.length
  ·rw[b9 hf];exact⟨o_,o_,fun _=>rfl⟩
  ·rw[b8 hf];refine⟨h.1,h.2,fun e=>?_⟩;rw[d5,i8]at e;exact absurd e hf
theorem vl {l:List Qs}(j v:Int)(h:∀it∈l,DI it):∀it∈bv l j v,DI it:=by
 unfold bv;split
 ·split
  ·rename_i x hx;intro it Ry;rcases u9 Ry with Ry|rfl
   ·exact h it Ry
   ·exact h x (c9 hx)
  ·exact h
 ·exact h
theorem AU (v:Int):∀(js:List Int) {l:List Qs},(∀it∈l,DI it)->∀it∈patchL l v js,DI it
 | [],_,h=>h
 | j::js,_,h=>AU v js (vl j v h)
section
variable {C:Cx} {x:Sc} {ins:List Nat} {rep:Sc->List Nat->Nat->Nat->Int->Gs->Gs} {line:Nat}
theorem BW {y:Sc}{chain:List Int}{line:Int}:∀(n:Nat) (d:Int) (s:Gs),0<=d-n->d<=1200->Dp s (bD C y chain line n d s)
 | 0,d,s,_,_=>Dp.refl s
 | n+1,d,s,h1,h2=>by
  rw[bD];exact(dZ o_).trans (BW n (d-1) _ o_ o_)
theorem FC {y:Sc}{chain:List Int}{line d:Int}(hd:0<=d/\d<=1199):∀(n i:Nat) (s:Gs),Dp s (cj C y chain line d n i s)
 | 0,i,s=>Dp.refl s
 | n+1,i,s=>by
  rw[cj];exact((dZ o_).trans (dZ o_)).trans (FC hd n (i+1) _)
def HE (C:Cx)(rep:Sc->List Nat->Nat->Nat->Int->Gs->Gs)(x:Sc)(ins:List Nat):Prop:=
 ∀(line g:Nat) (d:Int) (s:Gs),bI C g->(b_ C.p g:Int)<=d->d<=1000+30*ins.length+21->cv C ins g s.I8.length=true->Dp s (rep x ins line g d s)
def CX (C:Cx)(l:List QC):Prop:=∀t∈l,t.J0=7->∃f,findN C.p 0 t.J7=some f/\(b_ C.p f:Int)=t.M1
theorem Pf (hi:ins.length<=4)(O6:HE C rep x ins){t:QC}{d:Int}(h1:0<=d)(h2:d<=1000+30*ins.length+21)(hc:t.J0=7->t.M1<=d/\∃f,findN C.p 0 t.J7=some f/\(b_ C.p f:Int)=t.M1)(s:Gs):Dp s (fW C rep x ins line t d s):=by
 unfold fW;split
 ·exact dZ o_
 split
 ·exact dZ o_
 split
 ·rename_i h7;obtain⟨hn,f,hf,ha⟩:=hc h7;split
  ·rename_i g hg;rw[hf]at hg;injection hg with hg;subst hg;obtain⟨_,ln,k1,k2,_⟩:=dR hf;split
   ·rename_i hr;exact O6 line f d s ⟨ln,k1,k2⟩ o_ h2 hr
   ·exact dZ o_
  ·exact Dp.refl s
 ·exact dZ o_
mutual
theorem IB (hi:ins.length<=4)(O6:HE C rep x ins):∀(e:Ex) (d:Int) (s:Gs),e.ok->CX C e.toks->0<=d->d+e.toks.length<=1000+30*ins.length+21->Dp s (dk C rep x ins line e d s)
 | .node t es,d,s,h,hc,h1,h2=>by
  rw[Ex.toks,d6]at h2;rw[dk];have P6:=xO es;refine(FY hi O6 es d s h.2.2 (fun u hu=>hc u (by rw[Ex.toks];simp[hu])) h1 o_).trans (Pf hi O6 o_ o_ (fun h7=>⟨?_,hc t (by rw[Ex.toks];simp) h7⟩) _);have X0:=h.2.1;have ht:=h.1;have ha:nX t=t.M1:=by simp[nX,ht,h7]
  unfold fI at ht;rw[b8 (by omega:¬t.J0=0),b9 h7]at ht;simp only[d5,within_iff]at ht;unfold ar at X0;rw[ha]at X0;omega
theorem FY (hi:ins.length<=4)(O6:HE C rep x ins):∀(es:List Ex) (d:Int) (s:Gs),jd es->CX C (ao es)->0<=d->d+(ao es).length<=1000+30*ins.length+21->Dp s (ce C rep x ins line es d s)
 | [],d,s,_,_,_,_=>by rw[ce];exact Dp.refl s
 | a::es,d,s,h,hc,h1,h2=>by
  rw[ao,c7]at h2;rw[ce];have hp:=a.toks_pos;exact(IB hi O6 a d s h.1 (fun u hu=>hc u abn) h1 o_).trans (FY hi O6 es (d+1) _ h.2 (fun u hu=>hc u abn) o_ o_)
end
theorem Lm (x:Sc){d:Int}(h:0<=d/\d<=1200)(s:Gs):Dp s (bu C x line d s):=by
 unfold bu;split
 ·exact dZ h
 ·exact Dp.refl s
theorem Pz {g:Nat}{d:Int}(h1:(b_ C.p g:Int)<=d)(h2:d<=1199)(s:Gs):Dp s (di C x line g d s):=by unfold di;exact((show Dp s ⟨s.I8,max s.J4 (ba C x+(a_ C.p (g:Int)).length),s.start⟩ from id).trans (BW _ d _ o_ o_)).trans (FC o_ _ _ _)
theorem FB (k:Nat)(last:Bool){d:Int}(h:0<=d/\d<=1200)(L:Ls):Dp L.g (be C x k last d L).g:=by
 unfold be;split
 ·split
  ·exact dZ h
  ·exact dZ h
 split
 ·exact Dp.refl _
 ·exact dZ h
theorem Mn (hC:CxOk C)(hi:ins.length<=4)(O6:HE C rep x ins){k:Nat}{ln:Qt}(hk:C.p[k]?=some ln)(h0:ln.J0≠0)(QK:ln.J0≠7->CX C ln.L0){base:Int}(Sg:0<=base)(Rb:base<=1000+30*ins.length)(L:Ls):Dp L.g (dn C rep x ins base k ln L).g:=by
 unfold dn;split
 ·intro h;exact vl _ _ (dZ (C:=C) o_ h)
 rename_i h4;split
 ·split
  ·exact Dp.trans (b:=aB C L.g base 0 0 k x.I9) (dZ o_) (FB k true (d:=base+1) o_ {L with g:=aB C L.g base 0 0 k x.I9})
  split
  ·exact dZ o_
  ·exact Dp.refl _
 ·rename_i h7;have Wt:=hC.line _ _ hk;have X7:=mA (Wt.2.2.2.2 o_);have RZ:=Wt.2.2.2.1;have QK:=QK h7;rw[X7.2]at RZ QK;have tg:Dp L.g (dk C rep x ins k (exL ln.L0) base ⟨L.g.I8,L.g.J4,true⟩):=IB hi O6 (exL ln.L0) base ⟨L.g.I8,L.g.J4,true⟩ X7.1 QK Sg o_;dsimp only;split
  ·exact tg.trans (dZ o_)
  split
  ·exact tg.trans (dZ o_)
  split
  ·exact tg.trans (FB k false (d:=base+1) o_ {L with g:=dk C rep x ins k (exL ln.L0) base ⟨L.g.I8,L.g.J4,true⟩,J6:=L.J6.set k L.g.I8.length})
  ·exact tg.trans (dZ o_)
theorem Ng (k:Nat)(ln:Qt)(L:Ls):Dp L.g (bf C x k ln L).g:=by
 unfold bf;split
 ·exact fun h=>vl _ _ h
 ·exact Dp.refl _
theorem Jj (hC:CxOk C)(hi:ins.length<=4)(O6:HE C rep x ins){base:Int}(Sg:0<=base)(Rb:base<=1000+30*ins.length):∀(n k:Nat) (L:Ls),(∀(i:Nat) (y:Qt),k<=i->i<k+n->C.p[i]?=some y->y.J0≠0/\(y.J0≠7->CX C y.L0))->Dp L.g (fh C rep x ins base n k L).g
 | 0,k,L,_=>by rw[fh];exact Dp.refl _
 | n+1,k,L,h=>by
  rw[fh];split
  ·rename_i ln hk;obtain⟨a1,a2⟩:=h k ln (d7 _) o_ hk;exact((Mn hC hi O6 hk a1 a2 Sg Rb L).trans (Ng k ln _)).trans (Jj hC hi O6 Sg Rb n (k+1) _ fun i y h1 h2=>h i y o_ o_)
  ·exact Dp.refl _
theorem Cf (hC:CxOk C)(hx:ScOk C x ins)(hi:ins.length<=4)(O6:HE C rep x ins){base:Int}(Sg:0<=base)(Rb:base<=1000+30*ins.length)(s:Gs):Dp s (aZ C rep x ins base s).1:=by
 obtain⟨ln,h1,h2⟩:=hx.fn;obtain⟨e,h3,_,_,h4⟩:=hC.fn _ _ h1 h2;obtain⟨e',g3,g4,Yz,g5,_⟩:=hx.endE hC;rw[h3]at g3;injection g3 with g3;subst g3;unfold aZ;rw[g5];refine Jj hC hi O6 Sg Rb (e-x.f) (x.f+1) (cz C s) fun i y k1 k2 hy=>?_;by_cases Sv:i=e
 ·subst Sv;obtain⟨z,hz,h7⟩:=bn h3;rw[hy]at hz;injection hz with hz;subst hz;exact⟨o_,fun hn=>absurd h7 hn⟩
 ·obtain⟨b1,b2,_⟩:=h4 i y o_ o_ hy;exact⟨b1,fun _=>b2⟩
end
theorem Jd {C:Cx}(hC:CxOk C):∀(lev:Nat) {x:Sc} {ins:List Nat},ScOk C x ins->HE C (bg C lev) x ins
 | 0,x,ins,hx,line,g,d,s,_,_,_,_=>Dp.refl s
 | lev+1,x,ins,hx,line,g,d,s,hg,h1,h2,hr=>by
  obtain⟨r1,r2,r3,_⟩:=eM hr;have hin:=hC.inl;have hy:=jg hC hx line hg;have Rw:(ins++[g]).length=ins.length+1:=s_;have t1:=Pz (x:=x) (line:=line) h1 o_ s;have t2:=Lm (C:=C) (line:=line) x (d:=d-b_ C.p g) o_ (di C x line g d s);have t3:=Cf hC hy o_ (Jd hC lev hy) (base:=d-b_ C.p g) o_ o_ (bu C x line (d-b_ C.p g) (di C x line g d s));intro h;exact AU _ _ (((t1.trans t2).trans t3) h)
structure IS where
 out:List Int
 J2:List (List Int)
inductive Rr (α:Type) where
 | ok (a:α) (s:IS)
 | stop (c:Int) (s:IS)
 | fuel
def Rr.bnd {α β:Type}(r:Rr α)(f:α->IS->Rr β):Rr β:=match r with
 | .ok a s=>f a s
 | .stop c s=> .stop c s
 | .fuel=> .fuel
theorem Rr.bnd_ok {α β:Type}(a:α)(s:IS)(f:α->IS->Rr β):(Rr.ok a s).bnd f=f a s:=rfl
theorem Rr.bnd_stop {α β:Type}(c:Int)(s:IS)(f:α->IS->Rr β):(Rr.stop c s:Rr α).bnd f= .stop c s:=rfl
abbrev jm:=Nat->List Int->IS->Rr Int
def Mf (locals:List (List UInt8))(vals:List Int)(nm:List UInt8):Int:=match eQ locals 0 nm with
 | some i=>atL vals i
 | none=>0
section
variable (p:List Qt) (locals:List (List UInt8)) (vals:List Int) (call:jm)
def iU (t:QC)(av:List Int)(s:IS):Rr Int:=
 if t.J0=0 then .ok t.M1 s
 else if t.J0=1 then .ok (Mf locals vals t.J7) s
 else if t.J0=7 then call ((findN p 0 t.J7).getD 0) av s
 else .ok (cG t.J0 (atL av 0) (atL av 1)) s
mutual
def evE:Ex->IS->Rr Int
 | .node t es,s=>(bG es s).bnd fun av s'=>iU p locals vals call t av s'
def bG:List Ex->IS->Rr (List Int)
 | [],s=> .ok [] s
 | a::es,s=>(evE a s).bnd fun v s'=>(bG es s').bnd fun vs s''=> .ok (v::vs) s''
end
end
def eB (n:Nat)(l:List Int):List Int:=l++List.replicate (n-l.length) 0
def skipAt (p:List Qt)(k:Nat):Nat:=match i_ p k with
 | some j=>j
 | none=>dq p k
def ou (locals:List (List UInt8))(ln:Qt)(vals:List Int)(v:Int):List Int:=if ln.J0=1 then(match eQ locals 0 ln.J7 with
 | some i=>vals.set i v
 | none=>vals)else vals
def ke (ln:Qt)(s:IS)(v:Int):IS:=if ln.J0=2 then⟨s.out++[v],s.J2⟩else s
def eD (p:List Qt)(ln:Qt)(k:Nat)(v:Int):Nat:=if(ln.J0=3\/ln.J0=5)/\v=0 then skipAt p k+1 else k+1
noncomputable def bd (p:List Qt) (lim:Int):Nat->List Int->Nat->Nat->List Int->IS->Rr Int
 | 0,_,_,_,_,_=> .fuel
 | n+1,calls,f,k,vals,s=>match p[k]? with
  | none=> .ok 0 s
  | some ln=>
   if ln.J0=7 then
    if f_ p k=f then .ok 0 s
    else bd p lim n calls f (if j_ p (f_ p k)=5 then f_ p k else k+1) vals s
   else if ln.J0=4 then bd p lim n calls f (dq p (f_ p k)+1) vals s
   else if(s.J2.length:Int)=lim then .stop 1 s
   else(evE p (a_ p (f:Int)) vals (fun g av s'=>if calls.length=6 then .stop 2 s' else bd p lim n (calls++[(k:Int)]) g (g+1) (eB (a_ p (g:Int)).length av) s')
     (exL ln.L0) ⟨s.out,s.J2++[calls++[(k:Int)]]⟩).bnd fun v s'=>
    if ln.J0=6 then .ok v s'
    else bd p lim n calls f (eD p ln k v) (ou (a_ p (f:Int)) ln vals v) (ke ln s' v)
noncomputable def bE (p:List Qt) (lim:Int) (n:Nat) (calls:List Int) (k:Nat):jm:=fun g av s'=>if calls.length=6 then .stop 2 s' else bd p lim n (calls++[(k:Int)]) g (g+1) (eB (a_ p (g:Int)).length av) s'
theorem iB {p:List Qt}{lim:Int}{n:Nat}{calls:List Int}{f k:Nat}{vals:List Int}{s:IS}(hk:p[k]?=none):bd p lim (n+1) calls f k vals s= .ok 0 s:=by rw[bd,hk]
theorem dw {p:List Qt}{lim:Int}{n:Nat}{calls:List Int}{f k:Nat}{vals:List Int}{s:IS}{ln:Qt}(hk:p[k]?=some ln)(h:ln.J0=7):
  bd p lim (n+1) calls f k vals s=if f_ p k=f then .ok 0 s else bd p lim n calls f (if j_ p (f_ p k)=5 then f_ p k else k+1) vals s:=by
 rw[bd,hk];dsimp only;rw[b9 h]
theorem eA {p:List Qt}{lim:Int}{n:Nat}{calls:List Int}{f k:Nat}{vals:List Int}{s:IS}{ln:Qt}(hk:p[k]?=some ln)(h:ln.J0=4):
  bd p lim (n+1) calls f k vals s=bd p lim n calls f (dq p (f_ p k)+1) vals s:=by
 rw[bd,hk];dsimp only;rw[b8 o_,b9 h]
theorem eu {p:List Qt}{lim:Int}{n:Nat}{calls:List Int}{f k:Nat}{vals:List Int}{s:IS}{ln:Qt}(hk:p[k]?=some ln)(h7:ln.J0≠7)(h4:ln.J0≠4)(hv:(s.J2.length:Int)=lim):
  bd p lim (n+1) calls f k vals s= .stop 1 s:=by
 rw[bd,hk];dsimp only;rw[b8 h7,b8 h4,b9 hv]
theorem eR {p:List Qt}{lim:Int}{n:Nat}{calls:List Int}{f k:Nat}{vals:List Int}{s:IS}{ln:Qt}(hk:p[k]?=some ln)(h7:ln.J0≠7)(h4:ln.J0≠4)(hv:(s.J2.length:Int)≠lim):
  bd p lim (n+1) calls f k vals s=(evE p (a_ p (f:Int)) vals (bE p lim n calls k) (exL ln.L0) ⟨s.out,s.J2++[calls++[(k:Int)]]⟩).bnd fun v s'=>
    if ln.J0=6 then .ok v s'
    else bd p lim n calls f (eD p ln k v) (ou (a_ p (f:Int)) ln vals v) (ke ln s' v):=by
 rw[bd,hk];dsimp only;rw[b8 h7,b8 h4,b8 hv];rfl
theorem qo {p:List Qt}{locals:List (List UInt8)}{vals:List Int}{call:jm}:∀(es:List Ex) (a:Ex) (s:IS),
  bG p locals vals call (es++[a]) s=(bG p locals vals call es s).bnd fun vs s'=>(evE p locals vals call a s').bnd fun v s''=> .ok (vs++[v]) s''
 | [],a,s=>by
  rw[r9,bG,bG];simp only[Rr.bnd_ok]
  cases evE p locals vals call a s with|ok v s1=>simp[Rr.bnd,bG]|stop c s1=>rfl|fuel=>rfl
 | b::es,a,s=>by
  rw[p9,bG,bG]
  cases evE p locals vals call b s with
  | ok v s1=>
   simp only[Rr.bnd_ok];rw[qo es a s1]
   cases bG p locals vals call es s1 with
   | ok vs s2=>
    simp only[Rr.bnd_ok]
    cases evE p locals vals call a s2 with|ok w s3=>simp[Rr.bnd]|stop c s3=>rfl|fuel=>rfl
   | stop c s2=>rfl
   | fuel=>rfl
  | stop c s1=>rfl
  | fuel=>rfl
theorem JB {p:List Qt}{locals:List (List UInt8)}{vals:List Int}{call:jm}{es:List Ex}{j:Nat}{a:Ex}(s:IS)(h:es[j]?=some a):
  bG p locals vals call (es.take (j+1)) s=(bG p locals vals call (es.take j) s).bnd fun vs s'=>(evE p locals vals call a s').bnd fun v s''=> .ok (vs++[v]) s'':=by
 rw[A0,h];exact qo _ _ _
theorem pf {p:List Qt}{locals:List (List UInt8)}{vals:List Int}{call:jm}:∀{es:List Ex} {s:IS} {vs:List Int} {s':IS},bG p locals vals call es s= .ok vs s'->vs.length=es.length
 | [],s,vs,s',h=>by rw[bG]at h;injection h with h1 h2;subst h1;rfl
 | a::es,s,vs,s',h=>by
  rw[bG]at h
  cases h1:evE p locals vals call a s with
  | ok v s1=>
   rw[h1,Rr.bnd_ok]at h
   cases h2:bG p locals vals call es s1 with
   | ok ws s2=>
    rw[h2,Rr.bnd_ok]at h;injection h with h3 h4;subst h3
    rw[d6,d6,pf h2]
   | stop c s2=>rw[h2]at h;cases h
   | fuel=>rw[h2]at h;cases h
  | stop c s1=>rw[h1]at h;cases h
  | fuel=>rw[h1]at h;cases h
theorem V95{p:Prop}(h:p:=by
 intro b
 induction b with
 | nil=>intro a h;rw[m7];exact h
 | cons x b ih=>
  intro a h;rw[show a++x::b=(a++[x])++b by simp];refine ih _ ?_;rw[qo,h]
  rfl):p:=h
theorem Jx {p:List Qt}{locals:List (List UInt8)}{vals:List Int}{call:jm}{es:List Ex}{j:Nat}{s:IS}{c:Int}{s':IS}(h:bG p locals vals call (es.take j) s= .stop c s'):bG p locals vals call es s= .stop c s':=by
 have key:∀(b a:List Ex),bG p locals vals call a s= .stop c s'->bG p locals vals call (a++b) s= .stop c s':=by exact V95
 have:=key (es.drop j) (es.take j) h;rwa [x5]at this
theorem JI {p:List Qt}{locals:List (List UInt8)}{vals:List Int}{call:jm}{es:List Ex}{j:Nat}{s:IS}(h:bG p locals vals call (es.take j) s= .fuel):bG p locals vals call es s= .fuel:=by
 have key:∀(b a:List Ex),bG p locals vals call a s= .fuel->bG p locals vals call (a++b) s= .fuel:=by exact V95
 have:=key (es.drop j) (es.take j) h;rwa [x5]at this
section
variable {p:List Qt} {locals:List (List UInt8)} {vals:List Int} {call Tc:jm}
theorem JE (h:∀g av s,call g av s≠.fuel->Tc g av s=call g av s){t:QC}{av:List Int}{s:IS}(hf:iU p locals vals call t av s≠.fuel):iU p locals vals Tc t av s=iU p locals vals call t av s:=by
 unfold iU at *
 split
 ·rfl
 ·split
  ·rfl
  ·split
   ·rename_i h0 h1 h7;rw[b8 h0,b8 h1,b9 h7]at hf;exact h _ _ _ hf
   ·rfl
mutual
theorem tU (h:∀g av s,call g av s≠.fuel->Tc g av s=call g av s):∀(e:Ex) (s:IS),evE p locals vals call e s≠.fuel->evE p locals vals Tc e s=evE p locals vals call e s
 | .node t es,s,hf=>by
  rw[evE]at hf⊢;rw[evE,qt h es s (fun e=>hf (by rw[e];rfl))]
  cases hr:bG p locals vals call es s with
  | ok av s1=>
   rw[hr,Rr.bnd_ok]at hf;rw[Rr.bnd_ok,Rr.bnd_ok]
   exact JE h hf
  | stop c s1=>rfl
  | fuel=>rfl
theorem qt (h:∀g av s,call g av s≠.fuel->Tc g av s=call g av s):∀(es:List Ex) (s:IS),bG p locals vals call es s≠.fuel->bG p locals vals Tc es s=bG p locals vals call es s
 | [],s,_=>by rw[bG,bG]
 | a::es,s,hf=>by
  rw[bG]at hf⊢;rw[bG,tU h a s (fun e=>hf (by rw[e];rfl))]
  cases hr:evE p locals vals call a s with
  | ok v s1=>
   rw[hr,Rr.bnd_ok]at hf
   rw[Rr.bnd_ok,Rr.bnd_ok,qt h es s1 (fun e=>hf (by rw[e];rfl))]
  | stop c s1=>rfl
  | fuel=>rfl
end
end
section
variable {p:List Qt} {lim:Int}
theorem iW:∀(n:Nat) (calls:List Int) (f k:Nat) (vals:List Int) (s:IS),bd p lim n calls f k vals s≠.fuel->bd p lim (n+1) calls f k vals s=bd p lim n calls f k vals s
 | 0,_,_,_,_,_,h=>absurd rfl h
 | n+1,calls,f,k,vals,s,h=>by
  cases hk:p[k]? with
  | none=>rw[iB hk,iB hk]
  | some ln=>
   by_cases h7:ln.J0=7
   ·rw[dw hk h7]at h⊢;rw[dw hk h7];by_cases ho:f_ p k=f
    ·rw[b9 ho,b9 ho]
    ·rw[b8 ho]at h;rw[b8 ho,b8 ho];exact iW n _ _ _ _ _ h
   by_cases h4:ln.J0=4
   ·rw[eA hk h4]at h⊢;rw[eA hk h4];exact iW n _ _ _ _ _ h
   by_cases hv:(s.J2.length:Int)=lim
   ·rw[eu hk h7 h4 hv,eu hk h7 h4 hv]
   ·rw[eR hk h7 h4 hv]at h⊢;rw[eR hk h7 h4 hv]
    have hc:∀g av s,bE p lim n calls k g av s≠.fuel->bE p lim (n+1) calls k g av s=bE p lim n calls k g av s:=by
     intro g av s' hf
     unfold bE at *
     split
     ·rfl
     ·rename_i h6;rw[b8 h6]at hf;exact iW n _ _ _ _ _ hf
    rw[tU hc _ _ (fun e=>h (by rw[e];rfl))]
    cases hr:evE p (a_ p (f:Int)) vals (bE p lim n calls k) (exL ln.L0) ⟨s.out,s.J2++[calls++[(k:Int)]]⟩with
    | ok v s1=>
     rw[hr,Rr.bnd_ok]at h;rw[Rr.bnd_ok,Rr.bnd_ok];by_cases h6:ln.J0=6
     ·rw[b9 h6,b9 h6]
     ·rw[b8 h6]at h;rw[b8 h6,b8 h6]
      exact iW n _ _ _ _ _ h
    | stop c s1=>rfl
    | fuel=>rfl
theorem mj {n m:Nat}{calls:List Int}{f k:Nat}{vals:List Int}{s:IS}(h:bd p lim n calls f k vals s≠.fuel)(hm:n<=m):bd p lim m calls f k vals s=bd p lim n calls f k vals s:=by
 obtain⟨d,rfl⟩:=Nat.exists_eq_add_of_le hm;clear hm
 induction d with
 | zero=>rfl
 | succ d ih=>rw[show n+(d+1)=(n+d)+1 by omega,iW (n+d) _ _ _ _ _ (by rw[ih];exact h),ih]
theorem lK {n m:Nat}{calls:List Int}{k:Nat}(hm:n<=m):∀g av s,bE p lim n calls k g av s≠.fuel->bE p lim m calls k g av s=bE p lim n calls k g av s:=by
 intro g av s h
 unfold bE at *
 split
 ·rfl
 ·rename_i h6;rw[b8 h6]at h;exact mj h hm
end
structure Ext (lim:Int) (s s':IS):Prop where
 out:s.out <+:s'.out
 vis:s.J2 <+:s'.J2
 le:(s.J2.length:Int)<=lim->(s'.J2.length:Int)<=lim
 ol:s'.out.length+s.J2.length<=s'.J2.length+s.out.length
theorem Ext.refl (lim:Int)(s:IS):Ext lim s s:=⟨I4 _,I4 _,id,o_⟩
theorem Ext.trans {lim:Int}{a b c:IS}(h:Ext lim a b)(h':Ext lim b c):Ext lim a c:=⟨h.out.trans h'.out,h.vis.trans h'.vis,fun x=>h'.le (h.le x),by have:=h.ol;have:=h'.ol;omega⟩
def ExtR (lim:Int)(s:IS){α:Type}(r:Rr α):Prop:=match r with
 | .ok _ s'=>Ext lim s s'
 | .stop c s'=>Ext lim s s'/\(c=1\/c=2)
 | .fuel=>True
theorem ExtR.trans {lim:Int}{a b:IS}{α:Type}{r:Rr α}(h:Ext lim a b)(h':ExtR lim b r):ExtR lim a r:=by cases r with|ok v s=>exact Ext.trans h h'|stop c s=>exact⟨Ext.trans h h'.1,h'.2⟩|fuel=>trivial
section
variable {p:List Qt} {locals:List (List UInt8)} {vals:List Int} {call:jm} {lim:Int}
theorem MO (h:∀g av s,ExtR lim s (call g av s))(t:QC)(av:List Int)(s:IS):ExtR lim s (iU p locals vals call t av s):=by
 unfold iU;split
 ·exact Ext.refl _ _
 ·split
  ·exact Ext.refl _ _
  ·split
   ·exact h _ _ _
   ·exact Ext.refl _ _
mutual
theorem tP (h:∀g av s,ExtR lim s (call g av s)):∀(e:Ex) (s:IS),ExtR lim s (evE p locals vals call e s)
 | .node t es,s=>by
  have hs:=po h es s;rw[evE]
  cases hr:bG p locals vals call es s with
  | ok av s1=>
   rw[hr]at hs;rw[Rr.bnd_ok]
   exact ExtR.trans hs (MO h t av s1)
  | stop c s1=>rw[hr]at hs;exact hs
  | fuel=>trivial
theorem po (h:∀g av s,ExtR lim s (call g av s)):∀(es:List Ex) (s:IS),ExtR lim s (bG p locals vals call es s)
 | [],s=>by rw[bG];exact Ext.refl _ _
 | a::es,s=>by
  have h1:=tP h a s;rw[bG]
  cases hr:evE p locals vals call a s with
  | ok v s1=>
   rw[hr]at h1;rw[Rr.bnd_ok];have h2:=po h es s1
   cases Rk:bG p locals vals call es s1 with|ok vs s2=>rw[Rk]at h2;exact Ext.trans h1 h2|stop c s2=>rw[Rk]at h2;exact⟨Ext.trans h1 h2.1,h2.2⟩|fuel=>trivial
  | stop c s1=>rw[hr]at h1;exact h1
  | fuel=>trivial
end
theorem qy {s:IS}(hv:(s.J2.length:Int)≠lim)(row:List Int):Ext lim s ⟨s.out,s.J2++[row]⟩:=⟨I4 _,List.prefix_append _ _,fun h=>by rw[c7];simp only[d6,e8];omega,by simp;omega⟩
theorem Cy {ln:Qt}{s s':IS}{row:List Int}{v:Int}(hv:(s.J2.length:Int)≠lim)(h:Ext lim ⟨s.out,s.J2++[row]⟩ s'):Ext lim s (ke ln s' v):=by
 have h0:=(qy hv row).trans h;have Tk:=h.ol;simp only[c7,d6,e8]at Tk;unfold ke;split
 ·exact⟨h0.out.trans (List.prefix_append _ _),h0.vis,h0.le,by simp only[c7,d6,e8];omega⟩
 ·exact h0
theorem fU:∀(n:Nat) (calls:List Int) (f k:Nat) (vals:List Int) (s:IS),ExtR lim s (bd p lim n calls f k vals s)
 | 0,_,_,_,_,_=>trivial
 | n+1,calls,f,k,vals,s=>by
  cases hk:p[k]? with
  | none=>rw[iB hk];exact Ext.refl _ _
  | some ln=>
   by_cases h7:ln.J0=7
   ·rw[dw hk h7];split
    ·exact Ext.refl _ _
    ·exact fU n _ _ _ _ _
   by_cases h4:ln.J0=4
   ·rw[eA hk h4];exact fU n _ _ _ _ _
   by_cases hv:(s.J2.length:Int)=lim
   ·rw[eu hk h7 h4 hv];exact⟨Ext.refl _ _,.inl rfl⟩
   ·rw[eR hk h7 h4 hv]
    have hc:∀g av s,ExtR lim s (bE p lim n calls k g av s):=by
     intro g av s';unfold bE;split
     ·exact⟨Ext.refl _ _,.inr rfl⟩
     ·exact fU n _ _ _ _ _
    have he:=tP (p:=p) (locals:=a_ p (f:Int)) (vals:=vals) hc (exL ln.L0) ⟨s.out,s.J2++[calls++[(k:Int)]]⟩
    cases hr:evE p (a_ p (f:Int)) vals (bE p lim n calls k) (exL ln.L0) ⟨s.out,s.J2++[calls++[(k:Int)]]⟩with
    | ok v s1=>
     rw[hr]at he;rw[Rr.bnd_ok];split
     ·exact(qy hv _).trans he
     ·exact ExtR.trans (Cy hv he) (fU n _ _ _ _ _)
    | stop c s1=>rw[hr]at he;exact⟨(qy hv _).trans he.1,he.2⟩
    | fuel=>trivial
theorem kU (n:Nat)(calls:List Int)(k:Nat):∀g av s,ExtR lim s (bE p lim n calls k g av s):=by
 intro g av s';unfold bE;split
 ·exact⟨Ext.refl _ _,.inr rfl⟩
 ·exact fU n _ _ _ _ _
end
section
variable {p:List Qt} {locals:List (List UInt8)} {vals:List Int} {lim:Int} {calls:List Int} {k:Nat}
def na (p:List Qt)(l:List QC):Prop:=∀t∈l,t.J0=7->∃f,findN p 0 t.J7=some f
mutual
theorem Ba (hc:∀g av (s:IS),(s.J2.length:Int)<=lim->(∃y,p[g]?=some y/\y.J0=0)->∃n,bE p lim n calls k g av s≠.fuel):∀(e:Ex) (s:IS),(s.J2.length:Int)<=lim->na p e.toks->∃n,evE p locals vals (bE p lim n calls k) e s≠.fuel
 | .node t es,s,hs,hk=>by
  have SG:na p (ao es):=fun t' ht=>hk t' (by rw[Ex.toks];exact w6 _ ht);obtain⟨n,hn⟩:=yM hc es s hs SG;have hx:=po (p:=p) (locals:=locals) (vals:=vals) (kU (p:=p) (lim:=lim) n calls k) es s
  cases hr:bG p locals vals (bE p lim n calls k) es s with
  | ok av s1=>
   rw[hr]at hx;by_cases h7:t.J0=7
   ·obtain⟨f,hf⟩:=hk t (by rw[Ex.toks];exact List.mem_cons_self ..) h7;obtain⟨_,y,hy,h0,_⟩:=dR hf;obtain⟨m,hm⟩:=hc f av s1 (hx.le hs) ⟨y,hy,h0⟩;refine⟨max n m,?_⟩;rw[evE,qt (lK (Nat.le_max_left n m)) es s hn,hr,Rr.bnd_ok,iU,b8 o_,b8 o_,b9 h7,hf,A7,lK (I5 n m) _ _ _ hm];exact hm
   ·refine⟨n,?_⟩;rw[evE,hr,Rr.bnd_ok,iU,b8 h7];split
    ·exact fun e=>by cases e
    ·split
     ·exact fun e=>by cases e
     ·exact fun e=>by cases e
  | stop c s1=>exact⟨n,by rw[evE,hr];exact fun e=>by cases e⟩
  | fuel=>exact absurd hr hn
theorem yM (hc:∀g av (s:IS),(s.J2.length:Int)<=lim->(∃y,p[g]?=some y/\y.J0=0)->∃n,bE p lim n calls k g av s≠.fuel):∀(es:List Ex) (s:IS),(s.J2.length:Int)<=lim->na p (ao es)->∃n,bG p locals vals (bE p lim n calls k) es s≠.fuel
 | [],s,_,_=>⟨0,by rw[bG];exact fun e=>by cases e⟩
 | a::es,s,hs,hk=>by
  obtain⟨n,hn⟩:=Ba hc a s hs (fun t ht=>hk t (by rw[ao];exact f0.2 (.inl ht)));have hx:=tP (p:=p) (locals:=locals) (vals:=vals) (kU (p:=p) (lim:=lim) n calls k) a s
  cases hr:evE p locals vals (bE p lim n calls k) a s with
  | ok v s1=>
   rw[hr]at hx;obtain⟨m,hm⟩:=yM hc es s1 (hx.le hs) (fun t ht=>hk t (by rw[ao];exact f0.2 (.inr ht)));refine⟨max n m,?_⟩;rw[bG,tU (lK (Nat.le_max_left n m)) a s hn,hr,Rr.bnd_ok,qt (lK (I5 n m)) es s1 hm]
   cases Rk:bG p locals vals (bE p lim m calls k) es s1 with
   | ok vs s2=>exact fun e=>by cases e
   | stop c s2=>exact fun e=>by cases e
   | fuel=>exact absurd Rk hm
  | stop c s1=>exact⟨n,by rw[bG,hr];exact fun e=>by cases e⟩
  | fuel=>exact absurd hr hn
end
end
structure InF (p:List Qt) (f e k:Nat):Prop where
 fn:∃y,p[f]?=some y/\y.J0=0
 en:h_ p f=some e
 lo:f<k
 hi:k<=e
section
variable {p:List Qt} {f e k:Nat} {ln:Qt}
abbrev cx0 (p:List Qt)(f:Nat):Cx:=⟨p,⟨0,0,false,false⟩,false,0,b_ p f⟩
theorem PgOk.cx0 (hp:PgOk p)(h:∃y,p[f]?=some y/\y.J0=0):CxOk (cx0 p f):=by obtain⟨y,hy,_⟩:=h;refine hp.cx ?_ o_ s_;have:=(hp.line f y hy).2.2.1;show(0:Int)<=(b_ p f:Int)/\(b_ p f:Int)<=4;rw[b_,hy];dsimp only;omega
theorem HS (h:∃y,p[f]?=some y/\y.J0=0):ScOk (cx0 p f) (aO (cx0 p f) f) [f]:=⟨h,rfl,⟨u6 _,by simp[aO]⟩,rfl,by simp[aO],fun _=>rfl,rfl⟩
theorem InF.own7 (hp:PgOk p)(h:InF p f e k)(hk:p[k]?=some ln)(h7:ln.J0=7):h_ p (f_ p k)=some k/\((k=e/\f_ p k=f)\/(k<e/\f<f_ p k/\f_ p k<k/\∃y,p[f_ p k]?=some y/\(y.J0=3\/y.J0=5))):=
 ScOk.own7 (hp.cx0 h.fn) (HS h.fn) h.en h.lo h.hi hk h7
theorem InF.own4 (hp:PgOk p)(h:InF p f e k)(hk:p[k]?=some ln)(h4:ln.J0=4):i_ p (f_ p k)=some k/\f<f_ p k/\f_ p k<k/\k<e:=
 ScOk.own4 (hp.cx0 h.fn) (HS h.fn) h.en h.lo h.hi hk h4
theorem InF.kind (hp:PgOk p)(h:InF p f e k)(hk:p[k]?=some ln):ln.J0≠0:=fQ (hp.cx0 h.fn) (HS h.fn) h.en h.lo h.hi hk
theorem InF.line (hp:PgOk p)(h:InF p f e k):∃ln,p[k]?=some ln/\1<=ln.J0/\ln.J0<=7/\(ln.J0=7\/k<e):=by
 have he:=aI h.en;obtain⟨_,_,_,_,_,hl⟩:=he;obtain⟨ln,hk⟩:=ae (l:=p) (k:=k) (by have:=h.hi;omega);have h1:=h.kind hp hk;have h2:=hp.line k ln hk;refine⟨ln,hk,o_,h2.2.1,?_⟩;by_cases QI:k=e
 ·subst QI;obtain⟨y,hy,h7⟩:=bn h.en;rw[hk]at hy;injection hy with hy;subst hy;exact .inl h7
 ·have:=h.hi;exact .inr o_
theorem InF.at (h:InF p f e k){j:Nat}(h1:f<j)(h2:j<=e):InF p f e j:=⟨h.fn,h.en,h1,h2⟩
theorem InF.skip (hp:PgOk p)(h:InF p f e k)(hk:p[k]?=some ln)(TY:ln.J0=3\/ln.J0=5)(QI:k<e):k<skipAt p k/\skipAt p k<e:=by
 obtain⟨m,hm,m1,m2⟩:=dE h.en h.lo QI hk aak;unfold skipAt;split
 ·rename_i j hj;obtain⟨_,e',_,_,Rd,q1,q2,_⟩:=aP hj;rw[hm]at Rd;injection Rd with Rd;subst Rd;omega
 ·rw[dq,hm];exact⟨m1,m2⟩
theorem InF.elseNext (hp:PgOk p)(h:InF p f e k)(hk:p[k]?=some ln)(h4:ln.J0=4):k<dq p (f_ p k)/\dq p (f_ p k)<e:=by obtain⟨q1,q2,q3,q4⟩:=h.own4 hp hk h4;obtain⟨x,e',hx,h3,Rd,r1,r2,_⟩:=aP q1;obtain⟨m,hm,m1,m2⟩:=dE h.en q2 o_ hx aak;rw[Rd]at hm;injection hm with hm;subst hm;rw[dq,Rd];exact⟨r2,m2⟩
theorem InF.next (hp:PgOk p)(h:InF p f e k)(hk:p[k]?=some ln)(h7:ln.J0≠7)(v:Int):InF p f e (eD p ln k v)/\k<eD p ln k v:=by
 have QI:k<e:=by obtain⟨l,hl,_,_,h5⟩:=h.line hp;rw[hk]at hl;injection hl with hl;subst hl;omega
 have TQ:=h.lo;unfold eD;split
 ·rename_i hc;have:=h.skip hp hk hc.1 QI;exact⟨h.at o_ o_,o_⟩
 ·exact⟨h.at o_ o_,o_⟩
theorem InF.start (hp:PgOk p){g:Nat}(h:∃y,p[g]?=some y/\y.J0=0):∃e,InF p g e (g+1):=by obtain⟨y,hy,h0⟩:=h;obtain⟨e,he,_⟩:=hp.fn g y hy h0;obtain⟨_,_,_,_,h1,_⟩:=aI he;exact⟨e,⟨⟨y,hy,h0⟩,he,o_,o_⟩⟩
theorem InF.known (hp:PgOk p)(h:InF p f e k)(hk:p[k]?=some ln)(h7:ln.J0≠7)(h4:ln.J0≠4):bq ln.L0=true/\(exL ln.L0).ok/\ln.L0=(exL ln.L0).toks/\na p (exL ln.L0).toks:=by obtain⟨l,hl,h1,h2,h5⟩:=h.line hp;rw[hk]at hl;injection hl with hl;subst hl;have he:=(hp.line k ln hk).2.2.2.2 o_;obtain⟨e1,e2⟩:=mA he;refine⟨he,e1,e2,?_⟩;rw[<-e2];obtain⟨y,hy,h0⟩:=h.fn;obtain⟨e',g1,_,_,g2⟩:=hp.fn f y hy h0;rw[h.en]at g1;injection g1 with g1;subst g1;intro t ht ht7;obtain⟨q,hq,_⟩:=(g2 k ln h.lo o_ hk).2.1 t ht ht7;exact⟨q,hq⟩
end
section
variable {p:List Qt} {lim:Int}
theorem yy (hp:PgOk p)(calls:List Int)(QS:∀(k g:Nat) (av:List Int) (s:IS),(s.J2.length:Int)<=lim->(∃y,p[g]?=some y/\y.J0=0)->∃n,bE p lim n calls k g av s≠.fuel):
  ∀(m:Nat) (s:IS),(s.J2.length:Int)<=lim->lim-s.J2.length<m->∀(c f e k:Nat) (vals:List Int),InF p f e k->e-k<=c->∃n,bd p lim n calls f k vals s≠.fuel
 | 0,s,h1,h2,_,_,_,_,_,_,_=>o_
 | m+1,s,h1,h2,c,f,e,k,vals,hI,hc=>by
  have vis:∀(k:Nat) (ln:Qt),InF p f e k->p[k]?=some ln->ln.J0≠7->ln.J0≠4->∃n,bd p lim n calls f k vals s≠.fuel:=by
   intro k ln hI hk h7 h4;by_cases hv:(s.J2.length:Int)=lim
   ·exact⟨1,by rw[eu hk h7 h4 hv];exact fun e=>by cases e⟩
   obtain⟨_,e1,e2,e3⟩:=hI.known hp hk h7 h4;have UE:(((⟨s.out,s.J2++[calls++[(k:Int)]]⟩:IS).J2.length:Nat):Int)<=lim:=(by simp only[c7,d6,e8];omega);obtain⟨n,hn⟩:=Ba (locals:=a_ p (f:Int)) (vals:=vals) (QS k) (exL ln.L0) ⟨s.out,s.J2++[calls++[(k:Int)]]⟩ UE e3;have hx:=tP (p:=p) (locals:=a_ p (f:Int)) (vals:=vals) (kU (p:=p) (lim:=lim) n calls k) (exL ln.L0) ⟨s.out,s.J2++[calls++[(k:Int)]]⟩
   cases hr:evE p (a_ p (f:Int)) vals (bE p lim n calls k) (exL ln.L0) ⟨s.out,s.J2++[calls++[(k:Int)]]⟩with
   | fuel=>exact absurd hr hn
   | stop c s1=>exact⟨n+1,by rw[eR hk h7 h4 hv,hr];exact fun e=>by cases e⟩
   | ok v s1=>
    rw[hr]at hx;by_cases h6:ln.J0=6
    ·exact⟨n+1,by rw[eR hk h7 h4 hv,hr,Rr.bnd_ok,b9 h6];exact fun e=>by cases e⟩
    have hx2:=Cy (ln:=ln) (v:=v) hv hx
    have O2:s.J2.length+1<=(ke ln s1 v).J2.length:=by have:=hx.vis.length_le;simp only[c7,d6,e8]at this;have e:(ke ln s1 v).J2=s1.J2:=(by unfold ke;split<;>rfl);rw[e];exact this
    obtain⟨n2,TI⟩:=yy hp calls QS m (ke ln s1 v) (hx2.le h1) o_ _ f e (eD p ln k v) (ou (a_ p (f:Int)) ln vals v) (hI.next hp hk h7 v).1 (d7 _);refine⟨max n n2+1,?_⟩;rw[eR hk h7 h4 hv,tU (lK (Nat.le_max_left n n2)) _ _ hn,hr,Rr.bnd_ok,b8 h6,mj TI (I5 n n2)];exact TI
  have pos:∀(c k:Nat),InF p f e k->e-k<=c->∃n,bd p lim n calls f k vals s≠.fuel:=by
   intro c
   induction c with
   | zero=>
    intro k hI hc;obtain⟨ln,hk,_,_,h7⟩:=hI.line hp;have h7:ln.J0=7:=o_;have QI:k=e:=(by have:=hI.hi;omega);obtain⟨_,h|h⟩:=hI.own7 hp hk h7
    ·exact⟨1,by rw[dw hk h7,b9 h.2];exact fun e=>by cases e⟩
    ·omega
   | succ c ih=>
    intro k hI hc;obtain⟨ln,hk,_,_,QI⟩:=hI.line hp;by_cases h7:ln.J0=7
    ·obtain⟨_,h|⟨q1,q2,q3,y,hy,q4⟩⟩:=hI.own7 hp hk h7
     ·exact⟨1,by rw[dw hk h7,b9 h.2];exact fun e=>by cases e⟩
     ·have P2:f_ p k≠f:=o_;by_cases h5:y.J0=5
      ·have hI2:InF p f e (f_ p k):=hI.at q2 o_;obtain⟨n,hn⟩:=vis (f_ p k) y hI2 hy o_ o_;exact⟨n+1,by rw[dw hk h7,b8 P2,aL hy,b9 h5];exact hn⟩
      ·obtain⟨n,hn⟩:=ih (k+1) (hI.at abh o_) o_;exact⟨n+1,by rw[dw hk h7,b8 P2,aL hy,b8 h5];exact hn⟩
    ·by_cases h4:ln.J0=4
     ·have Xy:=hI.elseNext hp hk h4;obtain⟨n,hn⟩:=ih (dq p (f_ p k)+1) (hI.at abh o_) o_;exact⟨n+1,by rw[eA hk h4];exact hn⟩
     ·exact vis k ln hI hk h7 h4
  exact pos c k hI hc
theorem tH (hp:PgOk p):∀(d:Nat) (calls:List Int),calls.length+d=6->∀(f e k:Nat) (vals:List Int) (s:IS),(s.J2.length:Int)<=lim->InF p f e k->∃n,bd p lim n calls f k vals s≠.fuel
 | 0,calls,QK,f,e,k,vals,s,hs,hI=>yy hp calls (fun k g av s _ _=>⟨0,by unfold bE;rw[b9 o_];exact fun e=>by cases e⟩) ((lim-s.J2.length).toNat+1) s hs o_ _ f e k vals hI (d7 _)
 | d+1,calls,QK,f,e,k,vals,s,hs,hI=>
  yy hp calls (fun k g av s hs hg=>by
   obtain⟨e,he⟩:=InF.start hp hg;obtain⟨n,hn⟩:=tH hp d (calls++[(k:Int)]) (by rw[c7];simp;omega) g e (g+1) (eB (a_ p (g:Int)).length av) s hs he
   exact⟨n,by unfold bE;split;exact(fun e=>by cases e);exact hn⟩) ((lim-s.J2.length).toNat+1) s hs o_ _ f e k vals hI (d7 _)
end
def jk (p:List Qt)(f k i:Nat):Bool:=decide (f<i/\i<k/\j_ p i=5/\∃e,h_ p i=some e/\k<=e)
def aT (p:List Qt)(f k:Nat):List Nat:=(List.range p.length).filter (jk p f k)
theorem rH {P P':Nat->Bool}{k:Nat}(h1:∀i,i<k->P' i=P i)(h2:P' k=true)(h3:∀i,k<=i->P i=false)(h4:∀i,k<i->P' i=false):∀n,k<n->(List.range n).filter P'=(List.range n).filter P++[k]
 | 0,h=>o_
 | n+1,h=>by
  rw[D6,F9,F9];by_cases hk:k=n
  ·subst hk;have e:(List.range k).filter P'=(List.range k).filter P:=G4 fun i hi=>h1 i (E7.1 hi);rw[e];simp[h2,h3 k (d7 _)]
  ·rw[rH h1 h2 h3 h4 n o_];simp[h4 n o_,h3 n o_]
theorem openW_iff {p:List Qt}{f k i:Nat}:jk p f k i=true↔f<i/\i<k/\j_ p i=5/\∃e,h_ p i=some e/\k<=e:=by unfold jk;rw[i8]
theorem uq {p:List Qt}{f k i:Nat}(h:¬(f<i/\i<k/\j_ p i=5/\∃e,h_ p i=some e/\k<=e)):jk p f k i=false:=by unfold jk;rw[A5 h]
theorem qv {p:List Qt}{f k k':Nat}(h:∀i,jk p f k i=true↔jk p f k' i=true):aT p f k=aT p f k':=by
 unfold aT;refine G4 fun i _=>?_;have:=h i
 cases h1:jk p f k i<;>cases h2:jk p f k' i<;>simp_all
theorem sl (p:List Qt)(f k:Nat):(aT p f k).length<=p.length:=by unfold aT;have:=E1 (jk p f k) (List.range p.length);rwa [List.length_range]at this
theorem zP {p:List Qt}{f k i:Nat}(h:i∈aT p f k):f<i/\i<k/\j_ p i=5/\∃e,h_ p i=some e/\k<=e:=by unfold aT at h;exact openW_iff.1 (F6.1 h).2
section
variable {p:List Qt} {f e k:Nat} {ln:Qt}
theorem qp {i:Nat}{c:Int}(h:j_ p i=c)(hc:0<=c):∃x,p[i]?=some x/\x.J0=c:=by
 unfold j_ at h;split at h
 ·exact⟨_,by assumption,h⟩
 ·omega
theorem zH {i m:Nat}(h:h_ p i=some m)(hk:p[k]?=some ln)(h7:ln.J0≠7):m≠k:=fun he=>by
 subst he;obtain⟨y,hy,Zx⟩:=bn h;rw[hk]at hy;injection hy with hy;subst hy;exact h7 Zx
theorem DP (hI:InF p f e (f+1)):aT p f (f+1)=[]:=by unfold aT;rw[List.filter_eq_nil_iff];intro i _ h;have:=openW_iff.1 h;omega
theorem oC (hk:p[k]?=some ln)(h5:ln.J0≠5)(h7:ln.J0≠7):aT p f (k+1)=aT p f k:=by
 refine qv fun i=>?_;rw[openW_iff,openW_iff];constructor
 ·rintro⟨a,b,c,m,hm,P6⟩;have:i≠k:=fun he=>by subst he;rw[aL hk]at c;exact h5 c
  exact⟨a,o_,c,m,hm,o_⟩
 ·rintro⟨a,b,c,m,hm,P6⟩;have:=zH hm hk h7;exact⟨a,o_,c,m,hm,o_⟩
theorem FV (hp:PgOk p)(hI:InF p f e k)(QI:k<e)(hk:p[k]?=some ln)(h5:ln.J0=5):aT p f (k+1)=aT p f k++[k]:=by
 obtain⟨m,hm,m1,m2⟩:=dE hI.en hI.lo QI hk aak;unfold aT;refine rH (fun i hi=>?_) (openW_iff.2 ⟨hI.lo,o_,by rw[aL hk];exact h5,m,hm,m1⟩) (fun i hi=>uq fun h=>o_) (fun i hi=>uq fun h=>o_) _ (aE hk)
 have:jk p f (k+1) i=true↔jk p f k i=true:=by
  rw[openW_iff,openW_iff];constructor
  ·rintro⟨a,b,c,m,hm,P6⟩;exact⟨a,hi,c,m,hm,o_⟩
  ·rintro⟨a,b,c,m,hm,P6⟩;have:=zH hm hk o_;exact⟨a,o_,c,m,hm,o_⟩
 cases h1:jk p f (k+1) i<;>cases h2:jk p f k i<;>simp_all
theorem uF {i o m mo:Nat}{y:Qt}(hm:h_ p i=some m)(h1:i<o)(h2:o<=m)(hy:p[o]?=some y)(ho:cU y.J0=true)(hmo:h_ p o=some mo):mo<m:=by have P2:=zH hm hy (by rw[opensK_iff]at ho;omega);obtain⟨m',Sh,_,h3⟩:=dE hm h1 o_ hy ho;rw[hmo]at Sh;injection Sh with Sh;omega
theorem Hl (hf:f<k){o:Nat}{y:Qt}(O7:h_ p o=some k)(Tn:f<o)(hy:p[o]?=some y)(h5:y.J0=5):aT p f k=aT p f o++[o]:=by
 obtain⟨_,_,_,_,O4,_⟩:=aI O7;unfold aT;refine rH (fun i hi=>?_) (openW_iff.2 ⟨Tn,O4,by rw[aL hy];exact h5,k,O7,d7 _⟩) (fun i hi=>uq fun h=>o_) (fun i hi=>uq ?_) _ (aE hy)
 ·have:jk p f k i=true↔jk p f o i=true:=by
   rw[openW_iff,openW_iff];constructor
   ·rintro⟨a,b,c,m,hm,P6⟩;exact⟨a,hi,c,m,hm,o_⟩
   ·rintro⟨a,b,c,m,hm,P6⟩;have:=uF hm hi P6 hy aak O7;exact⟨a,o_,c,m,hm,o_⟩
  cases h1:jk p f k i<;>cases h2:jk p f o i<;>simp_all
 ·rintro⟨a,b,c,m,hm,P6⟩;obtain⟨x,hx,hx5⟩:=qp c o_;obtain⟨m',Sh,_,h3⟩:=dE O7 hi b hx aak;rw[hm]at Sh;injection Sh with Sh;omega
theorem Kq {o:Nat}{y:Qt}(hk:p[k]?=some ln)(h7:ln.J0=7)(O7:h_ p o=some k)(hy:p[o]?=some y)(h3:y.J0=3):aT p f (k+1)=aT p f k/\∀i∈aT p f k,h_ p i≠some k:=by
 have P2:∀i,j_ p i=5->h_ p i≠some k:=fun i c h=>by
  have:=uT h O7;subst this;rw[aL hy]at c;omega
 refine⟨qv fun i=>?_,fun i hi=>P2 i (zP hi).2.2.1⟩;rw[openW_iff,openW_iff];constructor
 ·rintro⟨a,b,c,m,hm,P6⟩;have:i≠k:=fun he=>by subst he;rw[aL hk]at c;omega
  exact⟨a,o_,c,m,hm,o_⟩
 ·rintro⟨a,b,c,m,hm,P6⟩;have:m≠k:=fun he=>by subst he;exact P2 i c hm
  exact⟨a,o_,c,m,hm,o_⟩
theorem wG (hp:PgOk p)(hI:InF p f e k)(QI:k<e)(hk:p[k]?=some ln)(TY:ln.J0=3\/ln.J0=5):aT p f (skipAt p k+1)=aT p f k:=by
 obtain⟨m,hm,m1,m2⟩:=dE hI.en hI.lo QI hk aak
 have hj:k<skipAt p k/\skipAt p k<=m/\∀i x mi,k<i->i<=skipAt p k->p[i]?=some x->x.J0=5->h_ p i=some mi->mi<skipAt p k:=by
  unfold skipAt;split
  ·rename_i j hj;obtain⟨x,e',hx,h3,Rd,q1,q2,y,hy,hy4⟩:=aP hj;rw[hm]at Rd;injection Rd with Rd;subst Rd;refine⟨q1,o_,fun i z mi h1 h2 hz h5 Tt=>?_⟩;have SP:i≠j:=fun he=>by subst he;rw[hz]at hy;injection hy with hy;subst hy;omega
   unfold i_ at hj;rw[hx,hm]at hj;dsimp only at hj;rw[b9 h3]at hj;exact kZ hj i z mi o_ o_ hz (.inr h5) Tt
  ·rw[dq,hm];refine⟨m1,d7 _,fun i z mi h1 h2 hz h5 Tt=>?_⟩;have:=zH hm hz o_;have h2:i<=m:=h2;obtain⟨m',Sh,_,h3⟩:=dE hm h1 o_ hz aak;rw[Tt]at Sh;injection Sh with Sh;subst Sh;exact h3
 obtain⟨j1,j2,j3⟩:=hj
 have h5s:ln.J0=5->skipAt p k=m:=fun h5=>by
  unfold skipAt;rw[rW (by rw[aL hk];omega),dq,hm];rfl
 generalize skipAt p k=j at *
 refine qv fun i=>?_;rw[openW_iff,openW_iff];constructor
 ·rintro⟨a,b,c,mi,Tt,P6⟩;obtain⟨x,hx,hx5⟩:=qp c o_;rcases y7 i k with h|h|h
  ·exact⟨a,h,c,mi,Tt,o_⟩
  ·subst h;rw[hk]at hx;injection hx with hx;subst hx;rw[hm]at Tt;injection Tt with Tt;have:=h5s hx5;omega
  ·have:=j3 i x mi h o_ hx hx5 Tt;omega
 ·rintro⟨a,b,c,mi,Tt,P6⟩;have:=uF Tt b P6 hk aak hm;exact⟨a,o_,c,mi,Tt,o_⟩
theorem GH (hp:PgOk p)(hI:InF p f e k)(hk:p[k]?=some ln)(h4:ln.J0=4):aT p f (dq p (f_ p k)+1)=aT p f k:=by
 obtain⟨q1,q2,q3,q4⟩:=hI.own4 hp hk h4;obtain⟨x,E,hx,h3,hE,r1,r2,y,hy,hy4⟩:=aP q1;have hq:=q1;unfold i_ at hq;rw[hx,hE]at hq;dsimp only at hq;rw[b9 h3]at hq;rw[dq,hE]
 generalize f_ p k=o at *
 show aT p f (E+1)=_;refine qv fun i=>?_;rw[openW_iff,openW_iff];constructor
 ·rintro⟨a,b,c,mi,Tt,P6⟩;obtain⟨z,hz,hz5⟩:=qp c o_;rcases y7 i o with h|h|h
  ·exact⟨a,o_,c,mi,Tt,o_⟩
  ·subst h;rw[hx]at hz;injection hz with hz;subst hz;omega
  ·have:=zH hE hz o_;obtain⟨m',Sh,_,h5⟩:=dE hE h o_ hz aak;rw[Tt]at Sh;injection Sh with Sh;omega
 ·rintro⟨a,b,c,mi,Tt,P6⟩;obtain⟨z,hz,hz5⟩:=qp c o_;rcases y7 i o with h|h|h
  ·have:=uF Tt h o_ hx aak hE;exact⟨a,o_,c,mi,Tt,o_⟩
  ·subst h;rw[hx]at hz;injection hz with hz;subst hz;omega
  ·have:=kZ hq i z mi o_ b hz (.inr hz5) Tt;omega
end
structure Known (p:List Qt) (locals:List (List UInt8)) (l:List QC):Prop where
 var:∀t∈l,t.J0=1->∃i,eQ locals 0 t.J7=some i
 call:∀t∈l,t.J0=7->∃g,findN p 0 t.J7=some g/\(b_ p g:Int)=t.M1
theorem EP (acc:List (List UInt8))(s:List UInt8):s∈gZ acc s:=by
 unfold gZ;split
 ·rename_i h;exact A4.1 h
 ·simp
theorem FW {acc:List (List UInt8)}{s z:List UInt8}(h:z∈acc):z∈gZ acc s:=by
 unfold gZ;split
 ·exact h
 ·simp[h]
theorem FT {l:List Qt}{e:Nat}{z:List UInt8}:∀(n i:Nat) (acc:List (List UInt8)),z∈acc->z∈locN l e n i acc
 | 0,_,_,h=>by rw[locN];exact h
 | n+1,i,acc,h=>by
  rw[locN];split
  ·split
   ·refine FT n _ _ ?_;split
    ·exact FW h
    ·exact h
   ·exact h
  ·exact h
theorem Eu {l:List Qt}{e k:Nat}{x:Qt}(hx:l[k]?=some x)(h1:x.J0=1)(QI:k<e):∀(n i:Nat) (acc:List (List UInt8)),i<=k->e-i<=n->(∀j,j<e->j<l.length)->x.J7∈locN l e n i acc
 | 0,i,acc,h,hn,_=>o_
 | n+1,i,acc,h,hn,hl=>by
  rw[locN,b9 o_];obtain⟨y,hy⟩:=ae (hl i o_);rw[hy];dsimp only;by_cases RB:i=k
  ·subst RB;rw[hx]at hy;injection hy with hy;subst hy;rw[b9 h1];exact FT n _ _ (EP _ _)
  ·exact Eu hx h1 QI n (i+1) _ o_ o_ hl
theorem wP {l:List (List UInt8)}{s:List UInt8}(h:s∈l):∃i,eQ l 0 s=some i:=by
 have:(eQ l 0 s).isSome=true:=by rw[yC];exact A4.2 h
 exact F2.1 this
theorem Ev {p:List Qt}(h:ak p=true){f e k:Nat}{ln:Qt}(hI:InF p f e k)(hk:p[k]?=some ln)(QI:k<e):Known p (a_ p (f:Int)) ln.L0/\(ln.J0=1->∃i,eQ (a_ p (f:Int)) 0 ln.J7=some i):=by
 have h0:=h;unfold ak at h;simp only[d5,i8]at h;obtain⟨_,_,h2,_,_,h3,h4⟩:=h;have hS:=rx p;rw[h3,h4]at hS;have O4:∀k e,h_ p k=some e->e<=p.length:=fun k e he=>by obtain⟨_,_,_,_,_,h⟩:=aI he;omega
 have hF:∀k e,h_ p k=some e->om p k e=true->∀i x,k<i->i<e->p[i]?=some x->x.J0≠0:=fun k e he hf=>by
  rw[pG,d5]at hf;exact sr hf.1 (O4 k e he)
 obtain⟨y,hy,RF⟩:=hI.fn;obtain⟨e',Rd,hf⟩:=sn hF p.length 0 hS f y (v9 _) hy RF;rw[hI.en]at Rd;injection Rd with Rd;subst Rd;rw[pG,d5]at hf;have Wl:=hf.1;rw[kL,d5,i8]at Wl;have Rn:=sy (e-(f+1)) (f+1) 0 (d7 _) (O4 f e hI.en) Wl.2 k ln abh QI hk;unfold bQ at Rn;have Rn:=n9.1 Rn;refine⟨⟨fun t ht h1=>?_,fun t ht h7=>?_⟩,fun h1=>?_⟩
 ·have:=Rn t ht;unfold bR at this;rw[b9 h1]at this;exact wP (A4.1 this)
 ·have:=Rn t ht;unfold bR at this;rw[b8 o_,b9 h7]at this;split at this
  ·rename_i g hg;refine⟨g,hg,?_⟩;unfold b_;split at this
   ·rename_i x hx
    (try rw[hx])
    exact z8 this
   ·cases this
  ·cases this
 ·refine wP ?_;unfold a_;rw[b9 o_,e7,hy,hI.en];dsimp only;rw[b9 RF];exact Eu hk h1 QI _ _ _ abh (d7 _) (fun j hj=>by have:=O4 f e hI.en;omega)
def Nu (c:Int):Prop:=c≠10/\c≠14/\c≠16
def isJ (c:Int):Prop:=c=10\/c=11
def Pj (p:List Qt)(a:Int):Int:=match(aq p)[a.toNat]? with|some g=>(b_ p g:Int)|none=>0
def Pe (C:Cx)(o:Qv)(d:Int):Int:=
 if o.J5=0\/o.J5=1\/o.J5=3 then d+1
 else if o.J5=2\/o.J5=4\/(5<=o.J5/\o.J5<=9)\/o.J5=11\/o.J5=17 then d-1
 else if o.J5=12 then d-Pj C.p o.L2+1
 else if o.J5=13\/o.J5=15 then d+o.L2 else d
def Pn (c d:Int):Int:=if c=11 then d-1 else d
def StA (C:Cx)(c a d:Int):Prop:=(c=2/\C.J8=true/\((-C.J1<=a/\a<=-1)\/(2<=a/\a<=1+C.args)))\/(c=4/\C.J8=false/\((d-C.J1<=a/\a<=d-1)\/(d+1<=a/\a<=d+C.args)))
structure OpTy (C:Cx) (i:Nat) (it:Qs) (d:Int):Prop where
 dep:it.M6=(if C.J8=true/\0<i then 0 else d)
 ent:it.N2=(C.J8&&decide (0<i))
 lo:(i=0->d=0)/\(0<i->C.J1<=d)
 head:i=0->it.K0.J5=(if C.J8=true then 13 else 15)/\it.K0.L2=C.J1
 st:it.K0.J5=2\/it.K0.J5=4->C.J1+1<=d/\StA C it.K0.J5 it.K0.L2 d
 ld:(it.K0.J5=1->C.J8=true)
 ar:5<=it.K0.J5/\it.K0.J5<=9->C.J1+2<=d
 one:it.K0.J5=11\/it.K0.J5=17->C.J1+1<=d
 call:it.K0.J5=12->0<=it.K0.L2/\∃g,(aq C.p)[it.K0.L2.toNat]?=some g/\C.J1+b_ C.p g<=d
 leave:it.K0.J5=14->C.J8=true/\it.K0.L2=C.args/\C.J1+1<=d
 ret:it.K0.J5=16->C.J8=false/\it.K0.L2=C.args+16*C.J1/\d=C.J1+1
 sp:it.K0.J5=15->0<i->it.K0.L2=0
 ent13:it.K0.J5=13->i=0
structure Ty (C:Cx) (l:List Qs) (ds:List Int) (pn:List Int) (D:Int):Prop where
 len:ds.length=l.length
 pos:0<l.length
 item:∀(i:Nat) (it:Qs) (d:Int),l[i]?=some it->ds[i]?=some d->OpTy C i it d
 fall:∀(i:Nat) (it:Qs) (d:Int),l[i]?=some it->ds[i]?=some d->Nu it.K0.J5->(ds++[D])[i+1]?=some (Pe C it.K0 d)
 jump:∀(i:Nat) (it:Qs) (d:Int),l[i]?=some it->ds[i]?=some d->isJ it.K0.J5->(i:Int)∉pn->1<=it.K0.L2/\(ds++[D])[it.K0.L2.toNat]?=some (Pn it.K0.J5 d)
def Cd (l:List Qs)(ds:List Int)(j e:Int):Prop:=0<=j/\∃c d,dS l j.toNat=some c/\ds[j.toNat]?=some d/\isJ c/\e=Pn c d
section
variable {C:Cx} {l l':List Qs} {ds ds' pn pn':List Int} {d D D' e:Int}
theorem yQ {ds:List Int}{d D':Int}{j:Nat}{e:Int}(h:(ds++[d])[j]?=some e):((ds++[d])++[D'])[j]?=some e:=by rw[l8 (aE h)];exact h
theorem Cd.ext {j:Int}(h:Cd l ds j e)(h1:∀i c,dS l i=some c->dS l' i=some c)(es:List Int):Cd l' (ds++es) j e:=by obtain⟨h0,c,d,k1,k2,k3,k4⟩:=h;exact⟨h0,c,d,h1 _ _ k1,by rw[l8 (aE k2)];exact k2,k3,k4⟩
theorem Ty.emit (h:Ty C l ds pn d){it:Qs}(ho:OpTy C l.length it d)(D':Int)(hf:Nu it.K0.J5->D'=Pe C it.K0 d)(hpn:∀i∈pn,i∈pn')
  (hj:isJ it.K0.J5->(l.length:Int)∈pn'\/(1<=it.K0.L2/\(ds++[d])[it.K0.L2.toNat]?=some (Pn it.K0.J5 d))):Ty C (l++[it]) (ds++[d]) pn' D':=by
 have hl:=h.len
 have key:∀(i:Nat) (SE:Qs) (d':Int),(l++[it])[i]?=some SE->(ds++[d])[i]?=some d'->(l[i]?=some SE/\ds[i]?=some d')\/(i=l.length/\SE=it/\d'=d):=fun i SE d' h1 h2=>by
  rcases y7 i l.length with hi|hi|hi
  ·rw[l8 hi]at h1;rw[l8 o_]at h2;exact .inl ⟨h1,h2⟩
  ·subst hi;rw[m9 (d7 _),v6,f9]at h1;rw[m9 o_,hl,v6,f9]at h2;injection h1 with h1;injection h2 with h2;exact .inr ⟨rfl,h1.symm,h2.symm⟩
  ·rw[e9 aad]at h1
   cases h1
 refine⟨by simp[hl],s_,fun i SE d' h1 h2=>?_,fun i SE d' h1 h2 h3=>?_,fun i SE d' h1 h2 h3 h4=>?_⟩
 ·rcases key i SE d' h1 h2 with⟨k1,k2⟩|⟨rfl,rfl,rfl⟩
  ·exact h.item i SE d' k1 k2
  ·exact ho
 ·rcases key i SE d' h1 h2 with⟨k1,k2⟩|⟨rfl,rfl,rfl⟩
  ·exact yQ (h.fall i SE d' k1 k2 h3)
  ·rw[m9 (by simp[hl])];simp[hl,hf h3]
 ·rcases key i SE d' h1 h2 with⟨k1,k2⟩|⟨rfl,rfl,rfl⟩
  ·obtain⟨g1,g2⟩:=h.jump i SE d' k1 k2 h3 (fun hm=>h4 (hpn _ hm));exact⟨g1,yQ g2⟩
  ·rcases hj h3 with g|⟨g1,g2⟩
   ·exact absurd g h4
   ·exact⟨g1,yQ g2⟩
theorem ss {l:List Qs}{j v:Int}{i:Nat}{it:Qs}(h:(bv l j v)[i]?=some it):∃it0,l[i]?=some it0/\((it=it0/\¬(j=(i:Int)))\/(j=(i:Int)/\it=⟨⟨it0.K0.J5,v⟩,it0.M8,it0.L7,it0.N0,it0.M6,it0.N2⟩)):=by
 unfold bv at h;by_cases h0:0<=j
 ·rw[b9 h0]at h
  cases hx:l[j.toNat]? with
  | none=>
   rw[hx]at h;refine⟨it,h,.inl ⟨rfl,fun e=>?_⟩⟩;rw[show j.toNat=i by omega]at hx
   rw[hx]at h;cases h
  | some x=>
   rw[hx]at h;dsimp only at h;by_cases R7:j.toNat=i
   ·subst R7;rw[s6 (aE hx)]at h;injection h with h;exact⟨x,hx,.inr ⟨o_,h.symm⟩⟩
   ·rw[y6 R7]at h;exact⟨it,h,.inl ⟨rfl,fun e=>R7 o_⟩⟩
 ·rw[b8 h0]at h;exact⟨it,h,.inl ⟨rfl,fun e=>h0 o_⟩⟩
theorem Ni {i:Nat}{it:Qs}{v:Int}(h:OpTy C i it d)(hj:isJ it.K0.J5):OpTy C i ⟨⟨it.K0.J5,v⟩,it.M8,it.L7,it.N0,it.M6,it.N2⟩ d:=by
 unfold isJ at hj;refine⟨h.dep,h.ent,h.lo,fun k=>?_,fun k=>?_,h.ld,h.ar,h.one,fun k=>?_,fun k=>?_,fun k=>?_,fun k=>?_,h.ent13⟩
 ·have:=(h.head k).1;split at this<;>omega
 all_goals(dsimp only at k;omega)
theorem Ty.patch (h:Ty C l ds pn D){j:Int}(hj:Cd l ds j D)(hpn:∀i∈pn,i=j\/i∈pn'):Ty C (bv l j l.length) ds pn' D:=by
 obtain⟨h0,c,d,k1,k2,k3,k4⟩:=hj;have hl:=h.len
 have Ro:∀(i:Nat) (it:Qs) (d':Int),l[i]?=some it->ds[i]?=some d'->j=(i:Int)->it.K0.J5=c/\d'=d:=fun i it d' g1 g2 e=>by
  rw[show j.toNat=i by omega]at k1 k2;rw[dS,g1]at k1;rw[g2]at k2;injection k1 with k1;injection k2 with k2;exact⟨k1,k2⟩
 refine⟨by rw[bB];exact hl,by rw[bB];exact h.pos,fun i SE d' h1 h2=>?_,fun i SE d' h1 h2 h3=>?_,fun i SE d' h1 h2 h3 h4=>?_⟩
 ·obtain⟨it0,g1,⟨rfl,_⟩|⟨e,rfl⟩⟩:=ss h1
  ·exact h.item i _ d' g1 h2
  ·exact Ni (h.item i it0 d' g1 h2) (by rw[(Ro i it0 d' g1 h2 e).1];exact k3)
 ·obtain⟨it0,g1,⟨rfl,_⟩|⟨e,rfl⟩⟩:=ss h1
  ·exact h.fall i _ d' g1 h2 h3
  ·have hc:=(Ro i it0 d' g1 h2 e).1;dsimp only at h3⊢;have:=h.fall i it0 d' g1 h2 h3;rw[this];unfold Nu at h3;unfold isJ at k3;unfold Pe;dsimp only;rw[hc];rw[show c=11 by omega];simp
 ·obtain⟨it0,g1,⟨rfl,P2⟩|⟨e,rfl⟩⟩:=ss h1
  ·exact h.jump i _ d' g1 h2 h3 (fun hm=>by
    rcases hpn _ hm with hm|hm
    ·exact P2 hm.symm
    ·exact h4 hm)
  ·obtain⟨hc,hd⟩:=Ro i it0 d' g1 h2 e;dsimp only at h3⊢;have hp1:=h.pos;refine⟨o_,?_⟩;rw[e7,<-hl,m9 (d7 _),v6,f9,hc,hd,k4]
theorem Ty.patchL (pn':List Int):∀(js:List Int) {l:List Qs} {pn:List Int},Ty C l ds pn D->(∀j∈js,Cd l ds j D)->(∀i∈pn,i∈js\/i∈pn')->Ty C (patchL l l.length js) ds pn' D
 | [],l,pn,h,_,hp=>⟨h.len,h.pos,h.item,h.fall,fun i it d h1 h2 h3 h4=>h.jump i it d h1 h2 h3 fun hm=>by
   rcases hp _ hm with h'|h'
   ·cases h'
   ·exact h4 h'⟩
 | j::js,l,pn,h,hj,hp=>by
  have h1:=h.patch (pn':=js++pn') (hj j s_) (fun i hi=>by
   rcases hp i hi with h'|h'
   ·rcases d8.1 h' with h'|h'
    ·exact .inl h'
    ·exact .inr (f0.2 (.inl h'))
   ·exact .inr (f0.2 (.inr h')))
  have h2:=Ty.patchL pn' js h1 (fun i hi=>by
   have:=(hj i (by simp[hi])).ext (l':=bv l j l.length) (fun i c h=>by rw[wg];exact h) []
   simpa using this) (fun i hi=>by simpa using hi)
  rw[bB]at h2;exact h2
end
structure T (C:Cx) (d D:Int) (ne:Prop) (s s':Gs):Prop where
 mono:s.J4<=s'.J4
 ext:∀i c,dS s.I8 i=some c->dS s'.I8 i=some c
 ty:s'.J4<=C.J1->∀ds pn,Ty C s.I8 ds pn d->∃es,(ne->es≠[])/\(es=[]->D=d)/\(∀x,es.head?=some x->x=d)/\Ty C s'.I8 (ds++es) pn D
section
variable {C:Cx} {d D E:Int} {a b c:Gs} {ne ne':Prop}
theorem T.refl (s:Gs):T C d d False s s:=⟨u6 _,fun _ _ h=>h,fun _ ds pn h=>⟨[],fun h=>h.elim,fun _=>rfl,fun x hx=>absurd hx s_,by rw[m7];exact h⟩⟩
theorem T.trans (h:T C d D ne a b)(h':T C D E ne' b c):T C d E (ne\/ne') a c:=by
 refine⟨B0 h.mono h'.mono,fun i v x=>h'.ext i v (h.ext i v x),fun hm ds pn ht=>?_⟩;obtain⟨es,e1,e2,e3,e4⟩:=h.ty (B0 h'.mono hm) ds pn ht;obtain⟨fs,f1,f2,f3,f4⟩:=h'.ty hm _ pn e4;refine⟨es++fs,fun hn=>?_,fun hn=>?_,fun x hx=>?_,by rw[<-l9];exact f4⟩
 ·rcases hn with hn|hn
  ·have:=e1 hn;intro h0;simp at h0;exact this h0.1
  ·have:=f1 hn;intro h0;simp at h0;exact this h0.2
 ·simp only[List.append_eq_nil_iff]at hn;rw[f2 hn.2,e2 hn.1]
 ·cases es with|nil=>rw[r9]at hx;rw[f3 x hx,e2 rfl]|cons y ys=>exact e3 x hx
end
def uw (p:List Qt)(k:Nat)(l:List Int):List Int:=
 let l1:=match h_ p k with|some e=>l.set e k|none=>l
 match i_ p k with|some e=>l1.set e k|none=>l1
def mx (p:List Qt):Nat->List Int
 | 0=>List.replicate p.length 0
 | n+1=>uw p n (mx p n)
theorem sJ (p:List Qt):∀n,(mx p n).length=p.length
 | 0=>by simp[mx]
 | n+1=>by
  rw[mx,uw];have:=sJ p n
  cases h_ p n<;>cases i_ p n<;>simp[this]
theorem Eg {p:List Qt}{i k:Nat}(h:h_ p i=some k\/i_ p i=some k)(hk:k<p.length):∀n,i<n->(mx p n)[k]?=some (i:Int)
 | 0,hn=>o_
 | n+1,hn=>by
  have hl:=sJ p n;rw[mx,uw];by_cases hin:i=n
  ·subst hin;rcases h with h|h
   ·rw[h];dsimp only
    cases he:i_ p i with
    | none=>dsimp only;rw[s6 o_]
    | some m=>
     dsimp only;by_cases hm:m=k
     ·subst hm;rw[s6 aad]
     ·rw[y6 hm,s6 o_]
   ·rw[h];dsimp only;rw[s6 (by cases h_ p i<;>simp<;>omega)]
  ·have ih:=Eg h hk n o_
   have own:∀m,(h_ p n=some m\/i_ p n=some m)->m≠k:=by intro m hm e;subst e;have h1:f_ p m=i:=(by rcases h with h|h;exact jK h;exact oT h);have h2:f_ p m=n:=(by rcases hm with h|h;exact jK h;exact oT h);exact hin (h1.symm.trans h2)
   have key:((match h_ p n with|some e=>(mx p n).set e (n:Int)|none=>mx p n):List Int)[k]?=some (i:Int):=by cases he:h_ p n with|none=>exact ih|some m=>dsimp only;rw[y6 (own m (.inl he))];exact ih
   cases he:i_ p n with|none=>exact key|some m=>dsimp only;rw[y6 (own m (.inr he))];exact key
theorem Q38{p:Prop}(h:p:=by exfalso;simp[cn]at h;first|done|fail):p:=h
theorem AE (p:List Qt)(SA:p.length<=60):Sim.Spec prog 267 [tvP p] (rL 1 ((mx p p.length).map aa)):=by
 refine aW hΓ aF func267 rfl d_ rfl ?_;have Se:(p.map Qt.tr).length=p.length:=s_;have Wa:(((p.map Qt.tr).length:Nat):Int)=(p.length:Int):=by rw[Se]
 have U2:p.length<=9223372036854775807:=o_;have hm3:p.length*8<=140737488355328:=o_;repeat' ((conv=>whnf);first|apply Wx|apply W6|apply oi|apply fi|intro h|refine⟨p.length,Wa,Wa,U2,hm3,?_⟩|exact Y8|refine e_ rfl ?_)
 conv=>whnf
 refine⟨{k:Nat//k<=p.length},fun q=>⟨[(0,vP p),(3,.r (.c (.own (3,0,0)))),(11,tI .i64 ((p.map Qt.tr).length:Int)),(12,tI .i64 (q.1:Int))],[((3,0,0),some (.arr true 1 ((mx p q.1).map aa)))],[3]⟩,fun q=>p.length-q.1,⟨0,o_⟩,?_,?_⟩
 ·repeat' ((conv=>whnf);first|apply Wx|apply W6|apply oi|apply fi|intro h|exact Y8|refine e_ rfl ?_)
  all_goals exact⟨by simp[mx,aa]⟩
 intro⟨k,hk⟩;dsimp only at hk⊢;by_cases O4:k<p.length
 ·have gE:=dL p (k:Int) o_;have gL:=qM p (k:Int) o_;have Tk:=sJ p k;have Zg:((mx p k).map aa).length=p.length:=by rw[d9,Tk]
  rw[bc]at gE;rw[bZ]at gL;have QJ:mx p (k+1)=uw p k (mx p k):=rfl;have cI:∀{l:List Int} {e:Nat},e<l.length->∃v,(l.map aa)[e]?=some (aa v):=fun{l e} he=>⟨l[e],by rw[j9,i9 he];rfl⟩;have SF:∀(l:List Int) (e:Nat),(l.map aa).set e [.int .i64 (k:Int)]=(l.set e (k:Int)).map aa:=fun l e=>by simp[C7,aa]
  rw[uw]at QJ
  cases he:h_ p k with
  | none=>
   rw[he]at gE QJ
   cases hl:i_ p k with
   | none=>
    rw[hl]at gL QJ;dsimp only at QJ;repeat' ((conv=>whnf);first|apply Wx|apply W6|apply oi|apply fi|intro h|refine cl gE ?_|refine cl gL ?_|exact Y6|refine e_ rfl ?_)
    all_goals try exact Q38
    conv=>whnf
    refine⟨⟨k+1,o_⟩,?_,KD⟩;repeat' ((conv=>whnf);first|apply Wx|apply W6|apply oi|apply fi|intro h|exact Y9|refine e_ rfl ?_)
    all_goals exact⟨by dsimp only;rw[QJ]⟩
   | some m=>obtain⟨_,_,_,_,h,_⟩:=aP hl;rw[he]at h;cases h
  | some e=>
   obtain⟨_,_,_,_,_,QP⟩:=aI he;have Ud:e<((mx p k).map aa).length:=o_;obtain⟨v,hv⟩:=cI (l:=mx p k) (e:=e) o_;rw[he]at gE QJ
   cases hl:i_ p k with
   | none=>
    rw[hl]at gL QJ;dsimp only at QJ;repeat' ((conv=>whnf);first|apply Wx|apply W6|apply oi|apply fi|intro h|refine cl gE ?_|refine cl gL ?_|refine⟨e,rfl,Ud,?_⟩|refine⟨_,hv,?_⟩|exact Y6|refine e_ rfl ?_)
    all_goals try exact Q38
    all_goals try(exfalso;rename_i h0;simp[cn]at h0;done)
    conv=>whnf
    refine⟨⟨k+1,o_⟩,?_,KD⟩;repeat' ((conv=>whnf);first|apply Wx|apply W6|apply oi|apply fi|intro h|exact Y9|refine e_ rfl ?_)
    all_goals exact⟨by dsimp only;rw[QJ,SF]⟩
   | some m=>
    obtain⟨_,_,_,_,_,_,hmm,z,hz,_⟩:=aP hl;have agq:=aE hz;have aaI:m<(((mx p k).set e (k:Int)).map aa).length:=(by simp;omega);obtain⟨v2,XY⟩:=cI (l:=(mx p k).set e (k:Int)) (e:=m) aad;rw[<-SF]at aaI XY;rw[hl]at gL QJ;dsimp only at QJ;repeat' ((conv=>whnf);first|apply Wx|apply W6|apply oi|apply fi|intro h|refine cl gE ?_|refine cl gL ?_|refine⟨e,rfl,Ud,?_⟩|refine⟨_,hv,?_⟩|refine⟨m,rfl,aaI,?_⟩|refine⟨_,XY,?_⟩|exact Y6|refine e_ rfl ?_)
    all_goals try exact Q38
    all_goals try(exfalso;rename_i h0;simp[cn]at h0;done)
    conv=>whnf
    refine⟨⟨k+1,o_⟩,?_,KD⟩;repeat' ((conv=>whnf);first|apply Wx|apply W6|apply oi|apply fi|intro h|exact Y9|refine e_ rfl ?_)
    all_goals exact⟨by dsimp only;rw[QJ,SF,SF]⟩
 ·have QI:k=p.length:=o_;subst QI;exact Z6
theorem li (b:Ql):Sim.Spec prog 78 [.agg b.tr] (rB (aY b)):=by
 refine aW hΓ aF func78 rfl d_ rfl ?_;have h1:=aN b.N3 0 63;have h2:=aN b.M0 0 3;unfold aY
 generalize af b.N3 0 63=x at *
 generalize af b.M0 0 3=y at *
 cases x
 ·repeat' ((conv=>whnf);first|apply Wx|apply W6|apply oi|apply fi|intro h|refine cl h1 ?_|refine cl h2 ?_|exact Y6|refine e_ rfl ?_)
 ·cases y
  ·repeat' ((conv=>whnf);first|apply Wx|apply W6|apply oi|apply fi|intro h|refine cl h1 ?_|refine cl h2 ?_|exact Y6|refine e_ rfl ?_)
  ·repeat' ((conv=>whnf);first|apply Wx|apply W6|apply oi|apply fi|intro h|refine cl h1 ?_|refine cl h2 ?_|exact Y6|refine e_ rfl ?_)
abbrev xH (a:Ex):List Tr:=[.lst 3 (a.toks.map QC.tr)]
theorem V30{p:Prop}(h:p:=by
 generalize cG t.J0 a.M1 b.M1=ap at *
 repeat' ((conv=>whnf);first|apply Wx|apply W6|apply oi|apply fi|intro h|refine cl hB ?_|refine⟨0,rfl,h0l,?_⟩|refine⟨[Tr.lst 3 [a.tr]],rfl,?_⟩|refine⟨1,rfl,h1l,?_⟩|refine⟨2,rfl,ZM,?_⟩|refine⟨a.tr,rfl,?_⟩|refine⟨b.tr,rfl,?_⟩|refine cl YG ?_|refine cl Vp ?_|exact Y6|refine e_ rfl ?_)
 all_goals try exact Q31
 all_goals try(exfalso;simp_all;done)):p:=h
theorem qQ:∀(n:Nat) (e:Ex),e.toks.length<=n->∀(l:List QC) (p:Nat),l.length<=1048576->ep l->e.ok->iv l p e->Sim.Spec prog 266 [tvL 3 (l.map QC.tr),tvI p] (rL 3 (e.fold.toks.map QC.tr))
 | 0,e,hn,_,_,_,_,_,_=>by have:=e.toks_pos;omega
 | n+1,.node t es,hn,l,p,hl,Tz,ho,hs=>by
  refine aW hΓ aF func266 rfl d_ rfl ?_;have O2:(l.map QC.tr).length=l.length:=s_;have P6:=gj hs;obtain⟨ht,TZ⟩:=ip hs;have hO:=oc l p t es hl Tz ho hs;have Se:((iS (p+1) es).map nR).length=es.length:=by rw[d9,tw]
  rw[Ex.toks,d6]at hn P6;rw[Ex.fold];have Xf:=qB es;obtain⟨e1,e2⟩:=rg ho.1;have QP:es.length=ar t:=ho.2.1;repeat' ((conv=>whnf);first|apply Wx|apply W6|apply oi|apply fi|intro h|refine cl hO ?_|refine⟨p,t.tr,rfl,ab ht,?_⟩|exact Y8|refine e_ rfl ?_)
  conv=>whnf
  refine⟨{j:Nat//j<=es.length},fun q=>⟨[(0,.r (.c (.t (.lst 3 (l.map QC.tr))))),(1,tI .i64 (p:Int)),(5,.r (.c (.ptr (5,0,0) 0))),(6,.r (.c (.own (21,0,1)))),(7,.r (.c (.own (21,0,2)))),(21,.r (.c (.own (21,0,0)))),(22,tI .i64 (((iS (p+1) es).map nR).length:Int)),(23,tI .i64 (q.1:Int))],
   [((5,0,0),some (.box (t.tr.map .t))),((21,0,1),some (.arr false 3 ((t::ao (bx (es.take q.1))).map QC.tr))),((21,0,2),some (.arr false 1 ((bx (es.take q.1)).map xH))),((21,0,0),some (.arr true 1 ((iS (p+1) es).map nR)))],[21,5]⟩,fun q=>es.length-q.1,⟨0,o_⟩,?_,?_⟩
  ·repeat' ((conv=>whnf);first|apply Wx|apply W6|apply oi|apply fi|intro h|exact Y8|refine e_ rfl ?_)
   all_goals first|exact⟨by simp[bx,ao];rfl⟩|exact⟨by simp[bx]⟩
  intro⟨j,hj⟩;dsimp only at hj⊢;by_cases O4:j<es.length
  ·obtain⟨a,ha⟩:=ae O4;obtain⟨q,hq,hqs⟩:=xP TZ ha;have QZ:=jw ha;have hR:=qQ n a o_ l q hl Tz (iD ho.2.2 ha) hqs;have Q0:j<((iS (p+1) es).map nR).length:=(by rw[Se];exact O4);have ZC:=a.fold_le;have X8:=cV (bx es) j;rw[oG]at X8;have YO:((t::ao (bx (es.take j))).map QC.tr).length=1+(ao (bx (es.take j))).length:=(by simp;omega);have Tv:(a.fold.toks.map QC.tr).length=a.fold.toks.length:=s_;repeat' ((conv=>whnf);first|(with_reducible apply W1;fail_if_success (with_reducible show Wo _ _ _ _ (Code.region 8 _ _) _ _))|(with_reducible first|apply W2|apply W3|apply W4|apply W5|apply W6|apply W7|apply W8|apply W9)|apply au|apply oi|apply fi|intro h|refine cl hR ?_|refine⟨j,rfl,Q0,?_⟩|refine⟨(nR q),(ab hq),?_⟩|exact Y6|refine e_ rfl ?_)
   conv=>whnf
   refine lC ⟨[(0,.r (.c (.t (.lst 3 (l.map QC.tr))))),(1,tI .i64 (p:Int)),(5,.r (.c (.ptr (5,0,0) 0))),(6,.r (.c (.own (21,0,1)))),(7,.r (.c (.own (21,0,2)))),(10,.r (.c (.t (.lst 3 (a.fold.toks.map QC.tr))))),(21,.r (.c (.own (21,0,0)))),(22,tI .i64 (((iS (p+1) es).map nR).length:Int)),(23,tI .i64 (j:Int))],
    [((5,0,0),some (.box (t.tr.map .t))),((21,0,1),some (.arr false 3 ((t::ao (bx (es.take j))).map QC.tr))),((21,0,2),some (.arr false 1 ((bx (es.take j)).map xH))),((21,0,0),some (.arr true 1 ((iS (p+1) es).map nR)))],_⟩ ?_ ?_ rfl ?_
   ·refine⟨.inl rfl,.inl rfl,.inl rfl,.inl rfl,.inl rfl,.inr (.inl ⟨_,_,rfl,rfl,.inr (.inr ⟨_,rfl,rfl,?_⟩)⟩),.inl rfl,.inl rfl,.inl rfl,trivial⟩;exact V147
   ·exact⟨.inr (.inl rfl),.inr (.inl rfl),.inr (.inl rfl),.inr (.inl rfl),trivial⟩
   have aam:((bx (es.take j)).map xH).length=j:=(by rw[d9,lx,k0];omega);repeat' ((conv=>whnf);first|apply Wx|apply W6|apply oi|apply fi|intro h|exact Y8|refine e_ rfl ?_)
   all_goals try exact⟨⟨by rw[aam];simp<;>omega,by rw[aam];simp<;>omega⟩⟩
   all_goals try exact Q22
   conv=>whnf
   refine⟨⟨j+1,o_⟩,?_,KD⟩;repeat' ((conv=>whnf);first|apply Wx|apply W6|apply oi|apply fi|intro h|exact Y9|refine e_ rfl ?_)
   all_goals first|exact⟨by rw[nd ha,gM,nq];simp⟩|exact⟨by rw[nd ha];simp⟩
  ·have Ut:j=es.length:=o_;subst Ut;rw[A3];have hB:=aN t.J0 2 6;have hFl:=lx es;have Sq:((t::ao (bx es)).map QC.tr).length=1+(ao (bx es)).length:=by simp;omega
   generalize bx es=F at *
   cases hk:af t.J0 2 6 with
   | false=>
    rw[hk]at hB;rw[nP (.inr hk),Ex.toks];repeat' ((conv=>whnf);first|apply Wx|apply W6|apply oi|apply fi|intro h|refine cl hB ?_|exact Y6|refine e_ rfl ?_)
    all_goals exact Q31
   | true=>
    rw[hk]at hB;by_cases h2:(ao F).length=2
    ·obtain⟨f1,f2,rfl⟩:=Li (hFl.trans (QP.trans (Nv ho.1 hk)));rw[ao,nq,c7]at h2;have p1:=f1.toks_pos;have p2:=f2.toks_pos;obtain⟨a,rfl⟩:=xJ (f:=f1) o_;obtain⟨b,rfl⟩:=xJ (f:=f2) o_;have e3:t::ao [Ex.node a [],Ex.node b []]=[t,a,b]:=(by simp[ao,Ex.toks]);have e4:(Ex.node t [Ex.node a [],Ex.node b []]).toks=[t,a,b]:=(by rw[Ex.toks];exact e3);have e6:([Ex.node a [],Ex.node b []].map xH)=[[.lst 3 [a.tr]],[.lst 3 [b.tr]]]:=(by simp[Ex.toks,ao]);rw[e3,e6];have h1l:1<([t,a,b].map QC.tr).length:=s_;have ZM:2<([t,a,b].map QC.tr).length:=s_;have h0l:0<[[Tr.lst 3 [a.tr]],[Tr.lst 3 [b.tr]]].length:=s_;have YG:=sQ t.J0 a.M1 b.M1;have Vp:=aN (cG t.J0 a.M1 b.M1) 0 999;rw[Gu];by_cases hc:Kl t a b
     ·rw[b9 hc];obtain⟨_,c1,c2,c3⟩:=hc;rw[c3]at Vp;have e5:(At (cG t.J0 a.M1 b.M1)).toks=[⟨0,cG t.J0 a.M1 b.M1,[]⟩]:=(by simp[At,Ex.toks,ao]);rw[e5]
      generalize cG t.J0 a.M1 b.M1=ap at *
      repeat' ((conv=>whnf);first|apply Wx|apply W6|apply oi|apply fi|intro h|refine cl hB ?_|refine⟨0,rfl,h0l,?_⟩|refine⟨[Tr.lst 3 [a.tr]],rfl,?_⟩|refine⟨1,rfl,h1l,?_⟩|refine⟨2,rfl,ZM,?_⟩|refine⟨a.tr,rfl,?_⟩|refine⟨b.tr,rfl,?_⟩|refine cl YG ?_|refine cl Vp ?_|exact Y6|refine e_ rfl ?_)
      all_goals try exact Q3
     ·rw[b8 hc,e4];have VJ:∀w,af (cG t.J0 a.M1 b.M1) 0 999=w->a.J0=0->b.J0=0->w=true->False:=fun w h1 h2 h3 h4=>hc ⟨hk,h2,h3,h1.trans h4⟩
      cases hw:af (cG t.J0 a.M1 b.M1) 0 999 with
      | true=>
       rw[hw]at Vp;have hc3:=VJ true hw
       exact V30
      | false=>rw[hw]at Vp;exact V30
    ·rw[nP (.inl h2),Ex.toks];repeat' ((conv=>whnf);first|apply Wx|apply W6|apply oi|apply fi|intro h|refine cl hB ?_|exact Y6|refine e_ rfl ?_)
     all_goals try exact Q31
     all_goals try(exfalso;rw[Sq]at *;simp at *;omega)
theorem xr (l:List QC)(hl:l.length<=1048576)(hn:ep l):Sim.Spec prog 250 [tvL 3 (l.map QC.tr)] (rL 3 ((lr l).map QC.tr)):=by
 refine aW hΓ aF func250 rfl d_ rfl ?_;have hE:=qR l hl hn
 cases h:bq l with
 | false=>exact V111
 | true=>rw[h]at hE;obtain⟨e,h1,h2,h3⟩:=oW h;have hF:=qQ e.toks.length e (d7 _) l 0 hl hn h1 ⟨[],by rw[A1,m7];exact h2⟩;exact V94
theorem xe (x:Qt)(hs:aS 1048576 x.tr):Sim.Spec prog 249 [.agg x.tr] (.r (.agg (x.tr.map xn))):=by
 refine aW hΓ aF func249 rfl d_ rfl ?_;obtain⟨h1,h2,h3,h4,h5⟩:=dv hs;repeat' ((conv=>whnf);first|apply Wx|apply W6|apply oi|apply fi|intro h|exact Y8|refine e_ rfl ?_)
 all_goals try exact Q2
 all_goals try exact⟨⟨rfl,gf _⟩⟩
 all_goals try exact Q31
theorem sm (l:List Qt)(hs:aK 1048576 (.lst 4 (l.map Qt.tr))):Sim.Spec prog 218 [tvP l] (rL 4 ((eE l).map Qt.tr)):=by
 refine aW hΓ aF func218 rfl d_ rfl ?_;have hl:=cP hs;have hP:=gg l hs;have O2:(l.map Qt.tr).length=l.length:=s_
 cases Si:ak l with
 | false=>exact V84
 | true=>
  rw[Si]at hP;have:eE l=l.map aC:=by rw[eE,b9 Si]
  rw[this];repeat' ((conv=>whnf);first|apply Wx|apply W6|apply oi|apply fi|intro h|refine cl hP ?_|exact Y6|refine e_ rfl ?_)
  conv=>whnf
  refine⟨{k:Nat//k<=l.length},fun q=>⟨[(0,vP l),(3,.r (.c (.own (10,0,0)))),(11,vP l),(12,tI .i64 ((l.map Qt.tr).length:Int)),(13,tI .i64 (q.1:Int))],[((10,0,0),some (.dar 4 (aw (((l.take q.1).map aC).map Qt.tr)) none))],[10]⟩,fun q=>l.length-q.1,⟨0,o_⟩,?_,?_⟩
  ·exact Z2
  intro⟨k,hk⟩;dsimp only at hk⊢;have Tj:(aw (((l.take k).map aC).map Qt.tr)).length=k:=by rw[bX,d9,d9,k0];omega
  by_cases O4:k<l.length
  ·obtain⟨x,hx⟩:=ae O4;have hsx:=bk hs (c9 hx);obtain⟨h1,h2,h3,h4,h5⟩:=dv hsx;have hF:=xr x.L0 h4 (fun y hy=>by have:=h5 y hy;omega);have hC:=xe x hsx;have Vz:(x.L0.map QC.tr).length=x.L0.length:=s_;have Wj:=zE aC l k x hx;by_cases Rq:0<x.L0.length
   ·have P7:aC x=⟨x.J0,x.J7,x.L3,lr x.L0⟩:=(by rw[aC,b9 Rq]);repeat' ((conv=>whnf);first|apply Wx|apply W6|apply oi|apply fi|intro h|refine⟨k,x.tr,rfl,ab hx,?_⟩|refine cl hC ?_|refine cl hF ?_|exact Y6|refine e_ rfl ?_)
    all_goals try exact Q17
    all_goals try exact⟨gf _⟩
    all_goals try exact Q13
    all_goals try(exfalso;have h':=j6 h;rw[Vz]at h';omega)
    conv=>whnf
    refine⟨⟨k+1,o_⟩,?_,KD⟩;repeat' ((conv=>whnf);first|apply Wx|apply W6|apply oi|apply fi|intro h|exact Y9|refine e_ rfl ?_)
    all_goals(refine⟨?_⟩;dsimp only;rw[Wj,P7];simp[aw,Qt.tr])
   ·have P7:aC x=x:=(by rw[aC,b8 Rq]);repeat' ((conv=>whnf);first|apply Wx|apply W6|apply oi|apply fi|intro h|refine⟨k,x.tr,rfl,ab hx,?_⟩|refine cl hC ?_|exact Y6|refine e_ rfl ?_)
    all_goals try exact Q17
    all_goals try exact⟨gf _⟩
    all_goals try exact Q13
    all_goals try exact Q23
    conv=>whnf
    refine⟨⟨k+1,o_⟩,?_,KD⟩;repeat' ((conv=>whnf);first|apply Wx|apply W6|apply oi|apply fi|intro h|exact Y9|refine e_ rfl ?_)
    all_goals(refine⟨?_⟩;dsimp only;rw[Wj,P7];simp[aw,Qt.tr])
  ·have QI:k=l.length:=o_;subst QI;rw[A3];exact Z6
def Gy (x:Qs):Qs:=⟨x.K0,x.M8,false,x.N0,x.M6,x.N2⟩
def lT (pend:List Nat)(i:Nat)(x:Qs):Qs:=if pend.contains i=true then Gy x else x
def tc (pend:List Nat):Nat->List Qs->List Qs
 | _,[]=>[]
 | i,x::l=>lT pend i x::tc pend (i+1) l
def clr (pend:List Nat)(l:List Qs):List Qs:=tc pend 0 l
theorem GA (pend:List Nat):∀(l:List Qs) (i:Nat),(tc pend i l).length=l.length
 | [],_=>rfl
 | x::l,i=>by rw[tc,d6,d6,GA pend l]
theorem qg (pend:List Nat)(l:List Qs):(clr pend l).length=l.length:=GA pend l 0
theorem Gm (pend:List Nat):∀(l:List Qs) (i j:Nat),(tc pend i l)[j]?=(l[j]?).map (lT pend (i+j))
 | [],i,j=>by simp[tc]
 | x::l,i,0=>by simp[tc]
 | x::l,i,j+1=>by
  rw[tc,j8,Gm pend l,j8,show i+1+j=i+(j+1) by omega]
theorem gY (pend:List Nat)(l:List Qs)(j:Nat):(clr pend l)[j]?=(l[j]?).map (lT pend j):=by rw[clr,Gm,s7]
theorem wL (pend:List Nat):∀(a b:List Qs) (i:Nat),tc pend i (a++b)=tc pend i a++tc pend (i+a.length) b
 | [],b,i=>by simp[tc]
 | x::a,b,i=>by
  rw[p9,tc,tc,wL pend a b,p9,d6,show i+1+a.length=i+(a.length+1) by omega]
theorem MJ (pend:List Nat)(l:List Qs)(x:Qs):clr pend (l++[x])=clr pend l++[lT pend l.length x]:=by rw[clr,wL,s7];rfl
theorem Lk {x:Qs}(h:x.L7=false):Gy x=x:=by obtain⟨a,b,c,d,e,f⟩:=x;simp only at h;subst h;rfl
theorem Ol (pend:List Nat)(l:List Qs)(j:Nat)(x:Qs):clr pend (l.set j x)=(clr pend l).set j (lT pend j x):=by
 apply B4;intro i;rw[gY,E4,E4,qg,gY];by_cases h:j=i
 ·subst h;rw[b9 rfl,b9 rfl];split<;>rfl
 ·rw[b8 h,b8 h]
theorem rZ (pend:List Nat)(l:List Qs)(j v:Int):clr pend (bv l j v)=bv (clr pend l) j v:=by
 unfold bv;split
 ·rw[gY]
  cases hx:l[j.toNat]? with
  | none=>rfl
  | some x=>dsimp only[Option.map_some];rw[Ol];congr 1;unfold lT;split<;>rfl
 ·rfl
theorem Cu (l:List Qs):clr [] l=l:=by
 apply B4;intro i;rw[gY]
 cases l[i]?<;>rfl
def Beg (b:Nat)(s:Gs):Prop:=b<=s.I8.length/\(s.start=true↔s.I8.length=b)
theorem Beg.emit {b:Nat}{s:Gs}(h:Beg b s)(C:Cx)(d code arg line:Int)(chain:List Int):Beg b (aB C s d code arg line chain):=by obtain⟨h1,h2⟩:=h;refine⟨by simp only[aB,c7,d6,e8];omega,?_⟩;simp only[aB,c7,d6,e8];exact⟨fun h=>aa4,fun h=>o_⟩
theorem Beg.off {b:Nat}{s s':Gs}(h:Beg b s)(h1:s.I8.length<s'.I8.length)(h2:s'.start=false):Beg b s':=by have:=h.1;exact⟨o_,by rw[h2];exact⟨fun h=>aa4,fun h=>o_⟩⟩
theorem pr {b:Nat}{C:Cx}(y:Sc)(chain:List Int)(line:Int):∀(n:Nat) (d:Int) (s:Gs),Beg b s->Beg b (bD C y chain line n d s)
 | 0,d,s,h=>h
 | n+1,d,s,h=>by rw[bD];exact pr y chain line n (d-1) _ (h.emit ..)
theorem rG {b:Nat}{C:Cx}(y:Sc)(chain:List Int)(line d:Int):∀(n i:Nat) (s:Gs),Beg b s->Beg b (cj C y chain line d n i s)
 | 0,i,s,h=>h
 | n+1,i,s,h=>by rw[cj];exact rG y chain line d n (i+1) _ ((h.emit ..).emit ..)
theorem zU {C:Cx}{x:Sc}{k:Nat}{last:Bool}{d:Int}{L:Ls}(h:L.g.start=false\/(x.J9=true\/last=false)):(be C x k last d L).g.start=false:=by
 unfold be;split
 ·split<;>rfl
 ·split
  ·rename_i h1 h2;rcases h with h|h|h
   ·exact h
   ·exact absurd h h1
   ·rw[h2]at h;cases h
  ·rfl
theorem Cs {C:Cx}{rep:Sc->List Nat->Nat->Nat->Int->Gs->Gs}{x:Sc}{ins:List Nat}{base:Int}{k:Nat}{ln:Qt}{L:Ls}(h:L.g.start=false):(dn C rep x ins base k ln L).g.start=false:=by
 unfold dn;split
 ·rfl
 ·split
  ·split
   ·exact zU (.inl rfl)
   ·split
    ·rfl
    ·exact h
  ·dsimp only;split
   ·rfl
   ·split
    ·rfl
    ·split
     ·exact zU (.inr (.inr rfl))
     ·rfl
theorem JG {C:Cx}{x:Sc}{k:Nat}{ln:Qt}{L:Ls}(h:L.g.start=false):(bf C x k ln L).g.start=false:=by unfold bf;split<;>exact h
theorem FH {C:Cx}{rep:Sc->List Nat->Nat->Nat->Int->Gs->Gs}{x:Sc}{ins:List Nat}{base:Int}:∀(n k:Nat) (L:Ls),L.g.start=false->(fh C rep x ins base n k L).g.start=false
 | 0,k,L,h=>h
 | n+1,k,L,h=>by
  rw[fh];split
  ·exact FH n (k+1) _ (JG (Cs h))
  ·exact h
theorem zG {C:Cx}{rep:Sc->List Nat->Nat->Nat->Int->Gs->Gs}{x:Sc}{ins:List Nat}{base:Int}{s:Gs}(h:s.start=false):(aZ C rep x ins base s).1.start=false:=FH _ _ _ h
theorem rF {b:Nat}{C:Cx}{x:Sc}{line:Nat}{d:Int}{s:Gs}(h:Beg b s):Beg b (bu C x line d s)/\(bu C x line d s).start=false:=by
 unfold bu;split
 ·exact⟨h.emit ..,rfl⟩
 ·rename_i hn;exact⟨h,by simpa using hn⟩
theorem Ef {C:Cx}(hC:CxOk C):∀(lev:Nat) {x:Sc} {ins:List Nat} {b:Nat} (line g:Nat) (d:Int) (s:Gs),ScOk C x ins->bI C g->cv C ins g s.I8.length=true->Beg b s->Beg b (bg C lev x ins line g d s)
 | 0,x,ins,b,line,g,d,s,hx,hg,hr,h=>h
 | lev+1,x,ins,b,line,g,d,s,hx,hg,hr,h=>by
  have hy:=jg hC hx line hg
  have h1:Beg b (di C x line g d s):=by unfold di;exact rG _ _ _ _ _ _ _ (pr _ _ _ _ _ _ ⟨h.1,h.2⟩)
  obtain⟨h2,h3⟩:=rF (C:=C) (x:=x) (line:=line) (d:=d-b_ C.p g) h1;have hG:=kj (lev:=lev) (rep:=bg C lev) (fun line g d s hg hr=>dQ hC lev line g d s hy hg hr) hC hy (d-b_ C.p g) (bu C x line (d-b_ C.p g) (di C x line g d s));have SM:=zG (C:=C) (rep:=bg C lev) (x:=bF C x line g) (ins:=ins++[g]) (base:=d-b_ C.p g) h3;show Beg b (fH C (aZ C (bg C lev)) x ins line g d s);unfold fH;have hb:=h2.2;rw[h3]at hb;have P2:(bu C x line (d-b_ C.p g) (di C x line g d s)).I8.length≠b:=fun e=>by have:=hb.2 e;cases this
  have P6:=h2.1;have QY:=hG.ge;refine⟨by dsimp only;rw[eH];omega,?_⟩;dsimp only;rw[eH,SM];exact⟨fun h=>aa4,fun h=>o_⟩
section
variable {C:Cx} {x:Sc} {ins:List Nat} {rep:Sc->List Nat->Nat->Nat->Int->Gs->Gs} {line b:Nat}
theorem KL (O6:∀g d s,bI C g->cv C ins g s.I8.length=true->Beg b s->Beg b (rep x ins line g d s))(t:QC)(d:Int){s:Gs}(h:Beg b s):Beg b (fW C rep x ins line t d s):=by
 unfold fW;split
 ·exact h.emit ..
 ·split
  ·exact h.emit ..
  ·split
   ·split
    ·rename_i g hg;split
     ·rename_i hr;obtain⟨_,ln,h1,h2,_⟩:=dR hg;exact O6 g d s ⟨ln,h1,h2⟩ hr h
     ·exact h.emit ..
    ·exact h
   ·exact h.emit ..
mutual
theorem LA (O6:∀g d s,bI C g->cv C ins g s.I8.length=true->Beg b s->Beg b (rep x ins line g d s)):∀(e:Ex) (d:Int) {s:Gs},Beg b s->Beg b (dk C rep x ins line e d s)
 | .node t es,d,s,h=>by
  rw[dk];exact KL O6 t _ (qH O6 es d h)
theorem qH (O6:∀g d s,bI C g->cv C ins g s.I8.length=true->Beg b s->Beg b (rep x ins line g d s)):∀(es:List Ex) (d:Int) {s:Gs},Beg b s->Beg b (ce C rep x ins line es d s)
 | [],d,s,h=>h
 | a::es,d,s,h=>by
  rw[ce];exact qH O6 es (d+1) (LA O6 a d h)
end
end
def Keep (s s':Gs):Prop:=∀(j:Nat) (it:Qs),s.I8[j]?=some it->∃SE,s'.I8[j]?=some SE/\SE.L7=it.L7
theorem Keep.refl (s:Gs):Keep s s:=fun _ it h=>⟨it,h,rfl⟩
theorem Keep.trans {a b c:Gs}(h:Keep a b)(h':Keep b c):Keep a c:=fun j it hj=>by
 obtain⟨it1,h1,e1⟩:=h j it hj;obtain⟨it2,h2,e2⟩:=h' j it1 h1;exact⟨it2,h2,e2.trans e1⟩
theorem Keep.emit (C:Cx)(s:Gs)(d code arg line:Int)(chain:List Int):Keep s (aB C s d code arg line chain):=fun j it hj=>by
 refine⟨it,?_,rfl⟩;show(s.I8++_)[j]?=_;rw[l8 (aE hj)];exact hj
theorem oU {l:List Qs}{j v:Int}{i:Nat}{it:Qs}(h:l[i]?=some it):∃SE,(bv l j v)[i]?=some SE/\SE.L7=it.L7:=by
 unfold bv;split
 ·split
  ·rename_i x hx;by_cases SP:j.toNat=i
   ·subst SP;rw[hx]at h;injection h with h;subst h;exact⟨_,s6 (aE hx),rfl⟩
   ·exact⟨it,by rw[y6 SP];exact h,rfl⟩
  ·exact⟨it,h,rfl⟩
 ·exact⟨it,h,rfl⟩
theorem pa {v:Int}:∀{js:List Int} {l:List Qs} {i:Nat} {it:Qs},l[i]?=some it->∃SE,(patchL l v js)[i]?=some SE/\SE.L7=it.L7
 | [],l,i,it,h=>⟨it,h,rfl⟩
 | j::js,l,i,it,h=>by
  obtain⟨it1,h1,e1⟩:=oU (j:=j) (v:=v) h;obtain⟨it2,h2,e2⟩:=pa (v:=v) (js:=js) h1;exact⟨it2,by rw[patchL];exact h2,e2.trans e1⟩
theorem tD {C:Cx}(y:Sc)(chain:List Int)(line:Int):∀(n:Nat) (d:Int) (s:Gs),Keep s (bD C y chain line n d s)
 | 0,d,s=>Keep.refl s
 | n+1,d,s=>by rw[bD];exact(Keep.emit C s d _ _ _ _).trans (tD y chain line n (d-1) _)
theorem wn {C:Cx}(y:Sc)(chain:List Int)(line d:Int):∀(n i:Nat) (s:Gs),Keep s (cj C y chain line d n i s)
 | 0,i,s=>Keep.refl s
 | n+1,i,s=>by rw[cj];exact((Keep.emit C s d _ _ _ _).trans (Keep.emit C _ (d+1) _ _ _ _)).trans (wn y chain line d n (i+1) _)
theorem wh {C:Cx}{x:Sc}(k:Nat)(last:Bool)(d:Int)(L:Ls):Keep L.g (be C x k last d L).g:=by
 unfold be;split
 ·split
  ·exact Keep.emit _ _ _ _ _ _ _
  ·exact Keep.emit _ _ _ _ _ _ _
 ·split
  ·exact Keep.refl _
  ·exact Keep.emit _ _ _ _ _ _ _
section
variable {C:Cx} {rep:Sc->List Nat->Nat->Nat->Int->Gs->Gs}
theorem Kc (O6:∀x ins line g d s,Keep s (rep x ins line g d s))(x:Sc)(ins:List Nat)(line:Nat)(t:QC)(d:Int)(s:Gs):Keep s (fW C rep x ins line t d s):=by
 unfold fW;repeat' split
 all_goals first|exact Keep.emit _ _ _ _ _ _ _|exact O6 _ _ _ _ _ _|exact Keep.refl _
mutual
theorem BS (O6:∀x ins line g d s,Keep s (rep x ins line g d s))(x:Sc)(ins:List Nat)(line:Nat):∀(e:Ex) (d:Int) (s:Gs),Keep s (dk C rep x ins line e d s)
 | .node t es,d,s=>by rw[dk];exact(Ap O6 x ins line es d s).trans (Kc O6 x ins line t _ _)
theorem Ap (O6:∀x ins line g d s,Keep s (rep x ins line g d s))(x:Sc)(ins:List Nat)(line:Nat):∀(es:List Ex) (d:Int) (s:Gs),Keep s (ce C rep x ins line es d s)
 | [],d,s=>Keep.refl s
 | a::es,d,s=>by rw[ce];exact(BS O6 x ins line a d s).trans (Ap O6 x ins line es (d+1) _)
end
theorem HV (O6:∀x ins line g d s,Keep s (rep x ins line g d s))(x:Sc)(ins:List Nat)(base:Int)(k:Nat)(ln:Qt)(L:Ls):Keep L.g (dn C rep x ins base k ln L).g:=by
 unfold dn;split
 ·intro j it hj;obtain⟨it1,h1,e1⟩:=Keep.emit C L.g base 10 0 k x.I9 j it hj;obtain⟨it2,h2,e2⟩:=oU (j:=atL L.pos (f_ C.p k)) (v:=((aB C L.g base 10 0 k x.I9).I8.length:Int)) h1;exact⟨it2,h2,e2.trans e1⟩
 ·split
  ·split
   ·exact(Keep.emit C L.g base 0 0 k x.I9).trans (wh k true (base+1) {L with g:=aB C L.g base 0 0 k x.I9})
   ·split
    ·exact Keep.emit _ _ _ _ _ _ _
    ·exact Keep.refl _
  ·have RZ:Keep L.g (dk C rep x ins k (exL ln.L0) base ⟨L.g.I8,L.g.J4,true⟩):=fun j it hj=>BS O6 x ins k (exL ln.L0) base ⟨L.g.I8,L.g.J4,true⟩ j it hj;dsimp only;split
   ·exact RZ.trans (Keep.emit _ _ _ _ _ _ _)
   ·split
    ·exact RZ.trans (Keep.emit _ _ _ _ _ _ _)
    ·split
     ·exact RZ.trans (wh k false (base+1) {L with g:=dk C rep x ins k (exL ln.L0) base ⟨L.g.I8,L.g.J4,true⟩,J6:=L.J6.set k L.g.I8.length})
     ·exact RZ.trans (Keep.emit _ _ _ _ _ _ _)
theorem HF (x:Sc)(k:Nat)(ln:Qt)(L:Ls):Keep L.g (bf C x k ln L).g:=by
 unfold bf;split
 ·exact fun j it hj=>oU hj
 ·exact Keep.refl _
theorem uQ (O6:∀x ins line g d s,Keep s (rep x ins line g d s))(x:Sc)(ins:List Nat)(base:Int):∀(n k:Nat) (L:Ls),Keep L.g (fh C rep x ins base n k L).g
 | 0,k,L=>Keep.refl _
 | n+1,k,L=>by
  rw[fh];split
  ·rename_i ln _;exact((HV O6 x ins base k ln L).trans (HF x k ln _)).trans (uQ O6 x ins base n (k+1) _)
  ·exact Keep.refl _
end
theorem Ct {C:Cx}:∀(lev:Nat) (x:Sc) (ins:List Nat) (line g:Nat) (d:Int) (s:Gs),Keep s (bg C lev x ins line g d s)
 | 0,x,ins,line,g,d,s=>Keep.refl s
 | lev+1,x,ins,line,g,d,s=>by
  show Keep s (fH C (aZ C (bg C lev)) x ins line g d s);unfold fH
  have h1:Keep s (di C x line g d s):=by unfold di;exact fun j it hj=>((tD _ _ _ _ _ _).trans (wn _ _ _ _ _ _ _)) j it hj
  have h2:Keep (di C x line g d s) (bu C x line (d-b_ C.p g) (di C x line g d s)):=by
   unfold bu;split
   ·exact Keep.emit _ _ _ _ _ _ _
   ·exact Keep.refl _
  have h3:Keep (bu C x line (d-b_ C.p g) (di C x line g d s)) (aZ C (bg C lev) (bF C x line g) (ins++[g]) (d-b_ C.p g) (bu C x line (d-b_ C.p g) (di C x line g d s))).1:=uQ (fun x ins line g d s=>Ct lev x ins line g d s) _ _ _ _ _ (cz C _);intro j it hj;obtain⟨it1,k1,e1⟩:=((h1.trans h2).trans h3) j it hj;obtain⟨it2,k2,e2⟩:=pa (v:=((aZ C (bg C lev) (bF C x line g) (ins++[g]) (d-b_ C.p g) (bu C x line (d-b_ C.p g) (di C x line g d s))).1.I8.length:Int)) (js:=(aZ C (bg C lev) (bF C x line g) (ins++[g]) (d-b_ C.p g) (bu C x line (d-b_ C.p g) (di C x line g d s))).2) k1;exact⟨it2,k2,e2.trans e1⟩
def Mark (b:Nat)(s:Gs):Prop:=(s.start=true/\s.I8.length=b)\/∃it,s.I8[b]?=some it/\it.L7=true
theorem Mark.keep {b:Nat}{s s':Gs}(h:∃it,s.I8[b]?=some it/\it.L7=true)(hk:Keep s s'):∃it,s'.I8[b]?=some it/\it.L7=true:=by obtain⟨it,h1,h2⟩:=h;obtain⟨SE,h3,h4⟩:=hk b it h1;exact⟨SE,h3,h4.trans h2⟩
theorem Mark.emit {b:Nat}{s:Gs}(h:Mark b s)(C:Cx)(d code arg line:Int)(chain:List Int):Mark b (aB C s d code arg line chain):=by
 rcases h with⟨h1,h2⟩|h
 ·refine .inr ⟨kw C s d code arg line chain,?_,h1⟩;show(s.I8++[_])[b]?=_;rw[<-h2];simp
 ·exact .inr (Mark.keep h (Keep.emit _ _ _ _ _ _ _))
theorem sM {b:Nat}{C:Cx}(y:Sc)(chain:List Int)(line:Int):∀(n:Nat) (d:Int) (s:Gs),Mark b s->Mark b (bD C y chain line n d s)
 | 0,d,s,h=>h
 | n+1,d,s,h=>by rw[bD];exact sM y chain line n (d-1) _ (h.emit ..)
theorem vU {b:Nat}{C:Cx}(y:Sc)(chain:List Int)(line d:Int):∀(n i:Nat) (s:Gs),Mark b s->Mark b (cj C y chain line d n i s)
 | 0,i,s,h=>h
 | n+1,i,s,h=>by rw[cj];exact vU y chain line d n (i+1) _ ((h.emit ..).emit ..)
theorem JU {C:Cx}:∀(lev:Nat) {b:Nat} (x:Sc) (ins:List Nat) (line g:Nat) (d:Int) (s:Gs),Mark b s->Mark b (bg C lev x ins line g d s)
 | 0,b,x,ins,line,g,d,s,h=>h
 | lev+1,b,x,ins,line,g,d,s,h=>by
  show Mark b (fH C (aZ C (bg C lev)) x ins line g d s);unfold fH
  have h1:Mark b (di C x line g d s):=by unfold di;exact vU _ _ _ _ _ _ _ (sM _ _ _ _ _ _ h)
  have h2:∃it,(bu C x line (d-b_ C.p g) (di C x line g d s)).I8[b]?=some it/\it.L7=true:=by
   unfold bu;split
   ·rcases Mark.emit h1 C (d-b_ C.p g) 15 0 line x.I9 with⟨k,_⟩|k
    ·cases k
    ·exact k
   ·rename_i hn;rcases h1 with⟨k,_⟩|k
    ·exact absurd k hn
    ·exact k
  have h3:=Mark.keep h2 (uQ (C:=C) (rep:=bg C lev) (fun x ins line g d s=>Ct lev x ins line g d s) (bF C x line g) (ins++[g]) (d-b_ C.p g) (dq C.p g-g) (g+1) (cz C _));obtain⟨it,k1,k2⟩:=h3;obtain⟨it2,k3,e2⟩:=pa (v:=((aZ C (bg C lev) (bF C x line g) (ins++[g]) (d-b_ C.p g) (bu C x line (d-b_ C.p g) (di C x line g d s))).1.I8.length:Int)) (js:=(aZ C (bg C lev) (bF C x line g) (ins++[g]) (d-b_ C.p g) (bu C x line (d-b_ C.p g) (di C x line g d s))).2) k1;exact .inr ⟨it2,k3,e2.trans k2⟩
section
variable {C:Cx} {rep:Sc->List Nat->Nat->Nat->Int->Gs->Gs} {b:Nat}
theorem JH (O6:∀x ins line g d s,Mark b s->Mark b (rep x ins line g d s))(x:Sc)(ins:List Nat)(line:Nat)(t:QC)(d:Int)(s:Gs)(h:Mark b s):Mark b (fW C rep x ins line t d s):=by
 unfold fW;repeat' split
 all_goals first|exact Mark.emit h ..|exact O6 _ _ _ _ _ _ h|exact h
mutual
theorem AK (O6:∀x ins line g d s,Mark b s->Mark b (rep x ins line g d s))(x:Sc)(ins:List Nat)(line:Nat):∀(e:Ex) (d:Int) (s:Gs),Mark b s->Mark b (dk C rep x ins line e d s)
 | .node t es,d,s,h=>by rw[dk];exact JH O6 x ins line t _ _ (Aj O6 x ins line es d s h)
theorem Aj (O6:∀x ins line g d s,Mark b s->Mark b (rep x ins line g d s))(x:Sc)(ins:List Nat)(line:Nat):∀(es:List Ex) (d:Int) (s:Gs),Mark b s->Mark b (ce C rep x ins line es d s)
 | [],d,s,h=>h
 | a::es,d,s,h=>by rw[ce];exact Aj O6 x ins line es (d+1) _ (AK O6 x ins line a d s h)
end
end
theorem Mp {C:Cx}{lev:Nat}{x:Sc}{ins:List Nat}{line g:Nat}{d:Int}{s:Gs}{b:Nat}(h:Beg b s):(bg C (lev+1) x ins line g d s).start=false:=by
 show(fH C (aZ C (bg C lev)) x ins line g d s).start=false;unfold fH
 have h1:Beg b (di C x line g d s):=by unfold di;exact rG _ _ _ _ _ _ _ (pr _ _ _ _ _ _ ⟨h.1,h.2⟩)
 exact zG (rF (C:=C) (x:=x) (line:=line) (d:=d-b_ C.p g) h1).2
structure Ib where
 f:Int
 e:Int
 J3:List (List UInt8)
 args:Int
 first:Int
 I9:List Int
 base:Int
abbrev ibB (q:Ib)(j:Sim.Id):AO:= .box [.t (.int .i64 q.f),.t (.int .i64 q.e),.t (.lst 1 (q.J3.map ah)),.t (.int .i64 q.args),.t (.int .i64 q.first),.t (.lst 1 (q.I9.map aa)),.t (.int .i64 q.base),.own j]
abbrev yn (C:Cx)(s:Gs)(d:Int)(i1 i2:Sim.Id):AO:= .box [.t (.lst 4 (C.p.map Qt.tr)),.t (.int .i64 C.b.N3),.t (.int .i64 C.b.M0),.t (.bool C.b.N9),.t (.bool C.b.N4),.t (.bool C.J8),.t (.int .i64 C.J1),.t (.int .i64 s.J4),.own i1,.t (.int .i64 d),.own i2]
abbrev nS (ins:List Nat):List (List Tr):=ins.map fun n:Nat=>aa (n:Int)
abbrev kK (i1 i2 j:Sim.Id)(C:Cx)(pd:List Nat)(s:Gs)(d:Int)(ins:List Nat)(q:Ib)(lv:List Int):List (Sim.Id×AO):=
 [((0,0,0),yn C s d i1 i2),(i1,.dar 7 (itR (clr pd s.I8)) none),(i2,.arr false 1 (nS ins)),((0,1,0),ibB q j),(j,.arr false 1 (lv.map aa))]
abbrev ibP:AV:= .r (.c (.ptr (0,1,0) 0))
structure IbOk (C:Cx) (x:Sc) (q:Ib):Prop where
 I9:q.I9=x.I9
 first:q.first=x.first
 J3:q.J3=x.J3
 args:x.J9=true->q.args=C.args
 out:x.J9=true↔x.I9=[]
 zero:x.J9=true->x.first=0
theorem LS {C:Cx}{pd:List Nat}{s:Gs}{d code arg line:Int}{chain:List Int}(h:s.start=true->s.I8.length∈pd):clr pd (aB C s d code arg line chain).I8=clr pd s.I8++[Gy (kw C s d code arg line chain)]:=by
 show clr pd (s.I8++[_])=_;rw[MJ];congr 2;unfold lT
 cases hs:s.start with
 | true=>rw[b9 (A4.2 (h hs))]
 | false=>
  split
  ·rfl
  ·exact(Lk (by show s.start=false;exact hs)).symm
theorem cp (pd:List Nat)(l:List Qs):(itR (clr pd l)).length=l.length:=by rw[kP,qg]
theorem cB (C:Cx)(pd:List Nat)(s:Gs)(d:Int)(ins:List Nat)(q:Ib)(lv:List Int)(line code arg change:Int)(h1:ca s)(h2:q.I9.length<=100)(h3:s.start=true->s.I8.length∈pd)(h4:-2000<=d/\d<=2000)(h5:-100<=change/\change<=1000):
  bh prog 251 [dP,ibP,tI .i64 line,tI .i64 code,tI .i64 arg,tI .i64 change] (kK (0,0,1) (0,0,2) (0,1,1) C pd s d ins q lv) (.tup []) (kK (1,0,1) (0,0,2) (0,1,1) C pd (aB C s d code arg line q.I9) (d+change) ins q lv):=by
 refine ax hΓ aF func251 rfl d_ rfl rfl ?_;unfold ca at h1;have O2:=cp pd s.I8;have QK:(q.I9.map aa).length=q.I9.length:=s_;have P7:=dh q.I9;have hem:=LS (C:=C) (pd:=pd) (s:=s) (d:=d) (code:=code) (arg:=arg) (line:=line) (chain:=q.I9) h3;repeat' ((conv=>whnf);first|apply Wx|apply W6|apply oi|apply fi|intro h|exact Y8|refine e_ rfl ?_)
 all_goals try exact Q26
 all_goals try exact Q2
 all_goals try exact⟨by simpa using P7⟩
 all_goals try exact Q15
 all_goals(refine⟨?_⟩;rw[hem,EF];(try rw[O2]at *);congr 1;simp_all[kw,Qs.tr,Gy])
theorem ww (C:Cx)(pd:List Nat)(s:Gs)(d:Int)(ins:List Nat)(q:Ib)(lv:List Int)(y:Sc)(line i:Int)(hy:y.J9=false)(hf:q.first=y.first)(h1:ca s)(h2:q.I9.length<=100)(h3:s.start=true->s.I8.length∈pd)(h4:-1000<=d/\d<=2000)(h5:0<=y.first/\y.first<=1000)(h6:-2<=i/\i<=100):
  bh prog 276 [dP,ibP,tI .i64 line,tI .i64 i] (kK (0,0,1) (0,0,2) (0,1,1) C pd s d ins q lv) (.tup []) (kK (1,0,1) (0,0,2) (0,1,1) C pd (cX C y s d i line q.I9) (d-1) ins q lv):=by
 refine ax hΓ aF func276 rfl d_ rfl rfl ?_;have g1:=cB C pd s d ins q lv line (bL C true) (bU C y d i) (-1) h1 h2 h3 o_ o_;have Zd:jl C y i=false:=by unfold jl;rw[hy];rfl
 have hy3:eI C y i=y.first+i:=by unfold eI;rw[b8 aba]
 have e1:IntKind.i64.wrap (q.first+i)=y.first+i:=by rw[hf,c8 _ o_]
 unfold cX
 cases TN:C.J8 with
 | true=>
  have e2:bL C true=2:=by unfold bL;rw[b9 TN];rfl
  have e3:bU C y d i=IntKind.i64.wrap (-1-IntKind.i64.wrap (q.first+i)):=by unfold bU;rw[b9 TN,b8 (by simp[Zd]),hy3,e1,c8 _ o_]
  rw[e2,e3]at g1;rw[e2,e3];repeat' ((conv=>whnf);first|apply Wx|apply W6|refine cg g1 ?_|apply oi|apply fi|intro h|exact Y8|refine e_ rfl ?_)
  all_goals try exact Q8
  all_goals try exact Q15
 | false=>
  have e2:bL C true=4:=by unfold bL;rw[b8 (by simp[TN])];rfl
  have e3:bU C y d i=IntKind.i64.wrap (IntKind.i64.wrap (d-1)-IntKind.i64.wrap (q.first+i)):=by unfold bU;rw[b8 (by simp[TN]),b8 (by simp[Zd]),hy3,e1];simp(disch:=omega)only[c8]
  rw[e2,e3]at g1;rw[e2,e3];repeat' ((conv=>whnf);first|apply Wx|apply W6|refine cg g1 ?_|apply oi|apply fi|intro h|exact Y8|refine e_ rfl ?_)
  all_goals try exact Q8
  all_goals try exact Q15
theorem Q4{p:Prop}(h:p:=by exact⟨congrArg (Tr.int .i64) (by(try subst Rx);(try unfold bL);(try unfold bU jl eI);(try simp(disch:=omega)only[c8]);simp_all<;>omega)⟩):p:=h
theorem qX (C:Cx)(hC:CxOk C)(pd:List Nat)(s:Gs)(d:Int)(ins:List Nat)(q:Ib)(lv:List Int)(x:Sc)(hq:IbOk C x q)(line i chg:Int)(store:Bool)(Rx:chg=if store=true then -1 else 1)(h1:ca s)(h2:x.I9.length<=100)(h3:s.start=true->s.I8.length∈pd)(h4:-1000<=d/\d<=1999)(h5:0<=x.first/\x.first<=1000)(h6:-2<=i/\i<=100):
  bh prog 269 [dP,ibP,tI .i64 line,tI .i64 i,tB store] (kK (0,0,1) (0,0,2) (0,1,1) C pd s d ins q lv) (.tup []) (kK (1,0,1) (0,0,2) (0,1,1) C pd (aB C s d (bL C store) (bU C x d i) line x.I9) (d+chg) ins q lv):=by
 refine ax hΓ aF func269 rfl d_ rfl rfl ?_;obtain⟨a1,a2⟩:=hC.args;obtain⟨qf,qe,ql,qa,qi,qc,qb⟩:=q;obtain⟨xf,xc,xl,xi,xo⟩:=x;obtain⟨q1,q2,q3,q4,q5,q6⟩:=hq;dsimp only at q1 q2 q3 q4 q5 q6 h2 h5;subst q1;subst q2;subst q3;have g1:=cB C pd s d ins ⟨qf,qe,ql,qa,qi,qc,qb⟩ lv line (bL C store) (bU C ⟨xf,qc,ql,qi,xo⟩ d i) chg h1 h2 h3 o_ (by subst Rx;split<;>omega)
 cases xo with
 | true=>
  have e1:qc=[]:=q5.1 rfl;have e2:=q4 rfl;have e3:=q6 rfl;subst e1;subst e2;subst e3
  cases store
  all_goals cases TN:C.J8
  all_goals skip
  ·repeat' ((conv=>whnf);first|apply Wx|apply W6|refine cg g1 ?_|apply oi|apply fi|intro h|exact Y8|refine e_ rfl ?_)
   all_goals try exact Q8
   all_goals try exact K1
   all_goals try exact Q4
  ·repeat' ((conv=>whnf);first|apply Wx|apply W6|refine cg g1 ?_|apply oi|apply fi|intro h|exact Y8|refine e_ rfl ?_)
   all_goals try exact Q8
   all_goals try exact K1
   all_goals try exact Q4
  ·repeat' ((conv=>whnf);first|apply Wx|apply W6|refine cg g1 ?_|apply oi|apply fi|intro h|exact Y8|refine e_ rfl ?_)
   all_goals try exact Q8
   all_goals try exact K1
   all_goals try exact Q4
  ·repeat' ((conv=>whnf);first|apply Wx|apply W6|refine cg g1 ?_|apply oi|apply fi|intro h|exact Y8|refine e_ rfl ?_)
   all_goals try exact Q8
   all_goals try exact K1
   all_goals try exact Q4
 | false=>
  have P2:qc≠[]:=fun e=>by have:=q5.2 e;cases this
  obtain⟨c,cs,rfl⟩:∃c cs,qc=c::cs:=by cases qc with|nil=>exact absurd rfl P2|cons c cs=>exact⟨c,cs,rfl⟩
  have QK:(((c::cs).map aa).length:Int)=(cs.length:Int)+1:=s_
  cases store
  all_goals cases TN:C.J8
  all_goals skip
  ·repeat' ((conv=>whnf);first|apply Wx|apply W6|refine cg g1 ?_|apply oi|apply fi|intro h|exact Y8|refine e_ rfl ?_)
   all_goals try exact Q8
   all_goals try exact K1
   all_goals try exact Q4
  ·repeat' ((conv=>whnf);first|apply Wx|apply W6|refine cg g1 ?_|apply oi|apply fi|intro h|exact Y8|refine e_ rfl ?_)
   all_goals try exact Q8
   all_goals try exact K1
   all_goals try exact Q4
  ·repeat' ((conv=>whnf);first|apply Wx|apply W6|refine cg g1 ?_|apply oi|apply fi|intro h|exact Y8|refine e_ rfl ?_)
   all_goals try exact Q8
   all_goals try exact K1
   all_goals try exact Q4
  ·repeat' ((conv=>whnf);first|apply Wx|apply W6|refine cg g1 ?_|apply oi|apply fi|intro h|exact Y8|refine e_ rfl ?_)
   all_goals try exact Q8
   all_goals try exact K1
   all_goals try exact Q4
theorem V32{p:Prop}(h:p:=by
 rw[e]
 cases last
 all_goals skip
 ·repeat' ((conv=>whnf);first|apply Wx|apply W6|refine cg g1 ?_|apply oi|apply fi|intro h|exact Y9|refine e_ rfl ?_)
  all_goals try exact Q8
 ·repeat' ((conv=>whnf);first|apply Wx|apply W6|refine cg g1 ?_|apply oi|apply fi|intro h|exact Y9|refine e_ rfl ?_)
  all_goals try(exfalso;rw[TN]at h;cases h;done)):p:=h
theorem sS (C:Cx)(hC:CxOk C)(pd:List Nat)(s:Gs)(d:Int)(ins:List Nat)(q:Ib)(lv:List Int)(x:Sc)(hq:IbOk C x q)(k:Nat)(last:Bool)(h1:ca s)(h2:x.I9.length<=100)(h3:s.start=true->s.I8.length∈pd)(h4:-1000<=d/\d<=1999)(Zc:lv.length<=68719476736)(hd p:List Int):
  bh prog 270 [dP,ibP,tI .i64 (k:Int),tB last] (kK (0,0,1) (0,0,2) (0,1,1) C pd s d ins q lv) (.tup []) (kK (1,0,1) (0,0,2) (1,1,1) C pd (be C x k last d ⟨s,hd,p,lv⟩).g (if x.J9=false/\last=true then d else d-1) ins q (be C x k last d ⟨s,hd,p,lv⟩).lv):=by
 refine ax hΓ aF func270 rfl d_ rfl rfl ?_;obtain⟨a1,a2⟩:=hC.args;obtain⟨a3,a4⟩:=hC.J1;obtain⟨qf,qe,ql,qa,qi,qc,qb⟩:=q;obtain⟨xf,xc,xl,xi,xo⟩:=x;obtain⟨q1,q2,q3,q4,q5,q6⟩:=hq;dsimp only at q1 q2 q3 q4 q5 q6 h2;subst q1;subst q2;subst q3;have O2:=cp pd s.I8;have Sk:(lv.map aa).length=lv.length:=s_
 cases xo with
 | true=>
  have e1:qc=[]:=q5.1 rfl;have e2:=q4 rfl;subst e1;subst e2;rw[b8 s_];have e4:IntKind.i64.wrap (C.args+IntKind.i64.wrap (16*C.J1))=C.args+16*C.J1:=by simp(disch:=omega)only[c8]
  cases TN:C.J8 with
  | true=>
   have g1:=cB C pd s d ins ⟨qf,qe,ql,C.args,qi,[],qb⟩ lv k 14 C.args (-1) h1 h2 h3 o_ o_;have e:be C ⟨xf,[],ql,qi,true⟩ k last d ⟨s,hd,p,lv⟩=⟨aB C s d 14 C.args k [],hd,p,lv⟩:=by simp[be,TN]
   exact V32
  | false=>
   have g1:=cB C pd s d ins ⟨qf,qe,ql,C.args,qi,[],qb⟩ lv k 16 (C.args+16*C.J1) (-1) h1 h2 h3 o_ o_;have e:be C ⟨xf,[],ql,qi,true⟩ k last d ⟨s,hd,p,lv⟩=⟨aB C s d 16 (IntKind.i64.wrap (C.args+IntKind.i64.wrap (16*C.J1))) k [],hd,p,lv⟩:=(by simp[be,TN,e4]);rw[<-e4]at g1
   exact V32
 | false=>
  have P2:qc≠[]:=fun e=>by have:=q5.2 e;cases this
  obtain⟨c,cs,rfl⟩:∃c cs,qc=c::cs:=by cases qc with|nil=>exact absurd rfl P2|cons c cs=>exact⟨c,cs,rfl⟩
  have QK:(((c::cs).map aa).length:Int)=(cs.length:Int)+1:=s_
  cases last with
  | true=>
   have e:be C ⟨xf,c::cs,ql,qi,false⟩ k true d ⟨s,hd,p,lv⟩=⟨s,hd,p,lv⟩:=(by simp[be]);rw[e,b9 ⟨rfl,rfl⟩]
   repeat' ((conv=>whnf);first|apply Wx|apply W6|apply oi|apply fi|intro h|exact Y13|refine e_ rfl ?_)
  | false=>
   have e:be C ⟨xf,c::cs,ql,qi,false⟩ k false d ⟨s,hd,p,lv⟩=⟨aB C s d 10 0 k (c::cs),hd,p,lv++[(s.I8.length:Int)]⟩:=(by simp[be]);rw[e,b8 s_];have g1:=cB C pd s d ins ⟨qf,qe,ql,qa,qi,c::cs,qb⟩ (lv++[(s.I8.length:Int)]) k 10 0 (-1) h1 h2 h3 o_ o_;have UC:lv.map aa++[[Tr.int .i64 ((itR (clr pd s.I8)).length:Int)]]=(lv++[(s.I8.length:Int)]).map aa:=(by rw[O2];simp[aa]);repeat' ((conv=>whnf);first|apply Wx|apply W6|refine cg g1 ?_|apply oi|apply fi|intro h|exact Y9|refine e_ rfl ?_)
   all_goals try exact⟨⟨by rw[Sk];(try dsimp only);simp only[d6,e8];omega,by rw[Sk];(try dsimp only);simp only[d6,e8];omega⟩⟩
   all_goals try exact⟨UC⟩
   all_goals try exact KN
abbrev OL (i1 i2:Sim.Id)(C:Cx)(pd:List Nat)(s:Gs)(d:Int)(ins:List Nat):List (Sim.Id×AO):=[((0,0,0),yn C s d i1 i2),(i1,.dar 7 (itR (clr pd s.I8)) none),(i2,.arr false 1 (nS ins))]
theorem BD {g:Nat}:∀{l:List Qt} {i j:Nat} {x:Qt},i<=g->l[g-i]?=some x->x.J0=0->eQ ((funsF l i).map fun n:Nat=>(n:Int)) j (g:Int)=some (j+((l.take (g-i)).filter fun x=>x.J0==0).length)
 | [],i,j,x,h,hx,_=>by simp at hx
 | y::l,i,j,x,h,hx,h0=>by
  rw[funsF];by_cases Wq:g=i
  ·subst Wq;rw[v6,f9]at hx;injection hx with hx;subst hx;rw[b9 h0,q8,p7,p9,eQ,b9 s_,v6];simp
  ·have hs:g-i=(g-(i+1))+1:=o_;rw[hs,j8]at hx;have ih:=fun j=>BD (g:=g) (l:=l) (i:=i+1) (j:=j) o_ hx h0;rw[hs,s5];by_cases hy:y.J0=0
   ·rw[b9 hy,q8,p7,D5,p9,r9,eQ,b8 aad,ih,B7,b9 aba,d6];congr 1;omega
   ·rw[b8 hy,r9,ih,B7,b8 aba]
theorem Fl {C:Cx}{g:Nat}(hg:bI C g):cN ((aq C.p).map fun n:Nat=>(n:Int)) (g:Int)=(iH C.p g:Int):=by obtain⟨x,hx,h0⟩:=hg;have:=BD (l:=C.p) (i:=0) (j:=0) (x:=x) (v9 g) (by simpa using hx) h0;unfold cN aq;rw[this];simp[cn,iH]
theorem wX (C:Cx)(hC:CxOk C)(pd:List Nat)(s:Gs)(d:Int)(ins:List Nat)(g:Nat)(hg:bI C g):
  bh prog 275 [dP,tI .i64 (g:Int)] (OL (0,0,1) (0,0,2) C pd s d ins) (tI .i64 (iH C.p g:Int)) (OL (0,0,1) (0,0,2) C pd s d ins):=by
 refine ax hΓ aF func275 rfl d_ rfl rfl ?_;have SA:=hC.len;have gF:=ct C.p o_;have P7:=pP C.p 0;have gI:=og ((aq C.p).map fun n:Nat=>(n:Int)) (g:Int) (by unfold aq;rw[d9];omega);rw[Fl hg,F0]at gI;repeat' ((conv=>whnf);first|apply Wx|apply W6|apply oi|apply fi|intro h|refine cl gF ?_|refine cl gI ?_|exact Y8|refine e_ rfl ?_)
theorem Nf (ins:List Nat)(g:Nat):(ins.map fun n:Nat=>(n:Int)).contains (g:Int)=ins.contains g:=by
 induction ins with
 | nil=>rfl
 | cons a l ih=>rw[p7,B9,B9,ih];congr 1;rw[u0];simp;omega
theorem wW (C:Cx)(hC:CxOk C)(pd:List Nat)(s:Gs)(d:Int)(ins:List Nat)(q:Ib)(lv:List Int)(g:Nat)(h1:ca s)(hS:q.I9.length+1=ins.length)(hi:ins.length<=100)(hg:g<C.p.length):
  bh prog 273 [dP,ibP,tI .i64 (g:Int)] (kK (0,0,1) (0,0,2) (0,1,1) C pd s d ins q lv) (tB (cv C ins g s.I8.length)) (kK (0,0,1) (0,0,2) (0,1,1) C pd s d ins q lv):=by
 refine ax hΓ aF func273 rfl d_ rfl rfl ?_;unfold ca at h1;have O2:=cp pd s.I8;have SA:=hC.len;have hin:=hC.inl;have hE:=dL C.p (g:Int) o_;have gC:=lq (ins.map fun n:Nat=>(n:Int)) (g:Int) (by rw[d9];omega);rw[Nf,F0]at gC;have RX:=gG C.p g;have hql:((q.I9.map aa).length:Int)=(ins.length:Int)-1:=by rw[d9];omega
 have Sr:IntKind.i64.wrap (bA C.p (g:Int)-(g:Int))=bA C.p (g:Int)-g:=by rw[c8 _ o_]
 have hr:cv C ins g s.I8.length=(decide ((ins.length:Int)<=C.b.M0)&&(decide (bA C.p (g:Int)-g<=9)&&(decide (s.I8.length<200)&&!ins.contains g))):=rfl;rw[hr]
 generalize bA C.p (g:Int)=eg at *
 cases Zo:ins.contains g with
 | true=>
  rw[Zo]at gC;repeat' ((conv=>whnf);first|apply Wx|apply W6|apply oi|apply fi|intro h|refine cl gC ?_|refine cl hE ?_|exact Y8|refine e_ rfl ?_)
  all_goals exact⟨s_⟩
 | false=>
  rw[Zo]at gC;repeat' ((conv=>whnf);first|apply Wx|apply W6|apply oi|apply fi|intro h|refine cl gC ?_|refine cl hE ?_|exact Y8|refine e_ rfl ?_)
  all_goals(refine⟨congrArg Tr.bool ?_⟩;(try rw[O2]);rw[u0];simp only[d5,i8,E6,and_true,w9];clear hr Zo gC hE;simp only[Sr,hql,i8,p6]at *;first|omega|exact iff_of_false id o_)
section
variable {C:Cx} {x y:Sc} {ins:List Nat} {rep:Sc->List Nat->Nat->Nat->Int->Gs->Gs} {line:Nat}
theorem EY {α:Type}[BEq α][LawfulBEq α]:∀{l:List α} {i k:Nat} {s:α},eQ l i s=some k->l[k-i]?=some s
 | [],i,k,s,h=>by rw[eQ]at h;cases h
 | a::l,i,k,s,h=>by
  rw[eQ]at h;split at h
  ·rename_i he;injection h with h;subst h;simp[z8 he]
  ·have h2:=EY h;have h3:=(jp h).1;rw[show k-i=(k-(i+1))+1 by omega,j8];exact h2
theorem Fz {g:Nat}(hg:bI C g):(aq C.p)[iH C.p g]?=some g:=by
 have h:=Fl hg;unfold cN at h
 cases hi:eQ ((aq C.p).map fun n:Nat=>(n:Int)) 0 (g:Int)with
 | none=>rw[hi]at h;simp only[cn]at h;omega
 | some k=>
  rw[hi]at h;simp only[cn]at h;have h2:=EY hi;rw[u7,show k=iH C.p g by omega,j9]at h2
  cases hx:(aq C.p)[iH C.p g]? with
  | none=>rw[hx]at h2;cases h2
  | some v=>rw[hx]at h2;simp only[v5,Option.some.injEq]at h2;congr 1;omega
end
def plN (p:List Qt)(i:Nat):Int:=if 0<eV p i then eV p i-1 else-eV p i
section
variable {C:Cx} {x:Sc} {ins:List Nat} {rep:Sc->List Nat->Nat->Nat->Int->Gs->Gs} {base:Int}
theorem LV (hC:CxOk C)(hx:ScOk C x ins){e:Nat}(he:h_ C.p x.f=some e){i:Nat}(h1:x.f<i)(h2:i<e)(hj:jumps C.p i):(i:Int)<plN C.p i/\plN C.p i<e:=by
 have Rw:i<C.p.length:=by obtain⟨_,_,_,_,_,h⟩:=aI he;omega
 obtain⟨y,hy⟩:=ae Rw;have Vm:=aL hy;unfold plN eV;by_cases h4:j_ C.p i=4
 ·rw[b9 h4];obtain⟨o1,o2,o3,o4⟩:=hx.own4 hC he o_ o_ hy (by rw[<-Vm];exact h4);obtain⟨z,e',hz,hz3,Rd,r1,r2,_⟩:=aP o1;obtain⟨m,hm,m1,m2⟩:=dE he o2 o_ hz aak;rw[Rd]at hm;injection hm with hm;subst hm;have hE:bA C.p (f_ C.p i:Int)=(e':Int):=by rw[bc];exact aU Rd
  rw[hE,b9 o_];omega
 ·rw[b8 h4];have afh:j_ C.p i=3\/j_ C.p i=5:=by unfold jumps at hj;omega
  obtain⟨m,hm,m1,m2⟩:=dE he h1 h2 hy aak;split
  ·rename_i hc
   cases QP:i_ C.p i with
   | none=>rw[bZ,QP]at hc;simp[cn]at hc
   | some j=>obtain⟨_,e',_,_,Rd,r1,r2,_⟩:=aP QP;rw[hm]at Rd;injection Rd with Rd;subst Rd;have hE:bi C.p (i:Int)=(j:Int):=(by rw[bZ];exact aU QP);rw[hE,b8 o_];omega
  ·have hE:bA C.p (i:Int)=(m:Int):=(by rw[bc];exact aU hm);rw[hE,b9 o_];omega
theorem ME (hC:CxOk C)(hx:ScOk C x ins){e:Nat}(he:h_ C.p x.f=some e){k i:Nat}(h1:x.f<i)(h2:i<k)(h3:k<e)(hj:jumps C.p i)(hk:j_ C.p k=4)(hp:plN C.p i=(k:Int)):i=f_ C.p k:=by
 unfold plN at hp;by_cases h0:0<eV C.p i
 ·rw[b9 h0]at hp;have:=(tj hC hx he (k:=k+1) o_ o_ o_ hj o_).1;rw[show k+1-1=k by omega]at this;omega
 ·rw[b8 h0]at hp;have ht:eV C.p i= -(k:Int):=o_;unfold eV at ht;have QY:=gG C.p;split at ht
  ·have:=(QY (f_ C.p i)).1;omega
  ·split at ht
   ·rw[bZ]at ht
    cases QP:i_ C.p i with
    | none=>rw[QP]at ht;simp only[cn]at ht;omega
    | some j=>rw[QP]at ht;simp only[cn]at ht;have SN:j=k:=o_;rw[SN]at QP;exact(oT QP).symm
   ·have:=(QY i).1;omega
theorem Oy (hC:CxOk C)(hx:ScOk C x ins){e:Nat}(he:h_ C.p x.f=some e){k i:Nat}(h1:x.f<i)(h2:i<k)(h3:k<e)(hj:jumps C.p i)(hk:j_ C.p k=7)(hp:plN C.p i=(k:Int)):i=eU C.p k:=by
 unfold plN at hp;by_cases h0:0<eV C.p i
 ·rw[b9 h0]at hp;have:=(tj hC hx he (k:=k+1) o_ o_ o_ hj o_).2.2;rw[show k+1-1=k by omega]at this;exact this.symm
 ·rw[b8 h0]at hp;have ht:eV C.p i= -(k:Int):=o_;unfold eV at ht;have QY:=gG C.p;split at ht
  ·have:=(QY (f_ C.p i)).1;omega
  ·split at ht
   ·rw[bZ]at ht
    cases QP:i_ C.p i with
    | none=>rw[QP]at ht;simp only[cn]at ht;omega
    | some j=>rw[QP]at ht;simp only[cn]at ht;have SN:j=k:=o_;rw[SN]at QP;obtain⟨_,_,_,_,_,_,_,w,hw,w4⟩:=aP QP;rw[aL hw]at hk;omega
   ·have:=(QY i).1;omega
theorem ML (hC:CxOk C)(hx:ScOk C x ins){e:Nat}(he:h_ C.p x.f=some e){k i:Nat}(h1:x.f<i)(h2:i<k)(h3:k<e)(hj:jumps C.p i)(hp:plN C.p i=(k:Int)):j_ C.p k=4\/j_ C.p k=7:=by
 unfold plN at hp;by_cases h0:0<eV C.p i
 ·rw[b9 h0]at hp;have:=(tj hC hx he (k:=k+1) o_ o_ o_ hj o_).1;rw[show k+1-1=k by omega]at this;exact .inr this
 ·rw[b8 h0]at hp;have ht:eV C.p i= -(k:Int):=o_;unfold eV at ht;have QY:=gG C.p;split at ht
  ·have:=(QY (f_ C.p i)).1;omega
  ·split at ht
   ·rw[bZ]at ht
    cases QP:i_ C.p i with
    | none=>rw[QP]at ht;simp only[cn]at ht;omega
    | some j=>rw[QP]at ht;simp only[cn]at ht;have SN:j=k:=o_;rw[SN]at QP;obtain⟨_,_,_,_,_,_,_,w,hw,w4⟩:=aP QP;exact .inl (by rw[aL hw];exact w4)
   ·have:=(QY i).1;omega
structure LsT (C:Cx) (x:Sc) (base:Int) (ds0 pn0:List Int) (k:Nat) (L:Ls) (ds pn:List Int):Prop where
 pre:∃es,ds=ds0++es/\∀v,es.head?=some v->v=base
 ty:Ty C L.g.I8 ds pn base
 J6:∀i,x.f<i->i<k->j_ C.p i≠4->j_ C.p i≠7->1<=atL L.J6 i/\ds[(atL L.J6 i).toNat]?=some base
 pos:∀i,x.f<i->i<k->jumps C.p i->Cd L.g.I8 ds (atL L.pos i) base
 lv:∀j∈L.lv,Cd L.g.I8 ds j (base+1)
 lvo:x.J9=true->L.lv=[]
 pn:∀j∈pn,j∈pn0\/j∈L.lv\/∃i,x.f<i/\i<k/\jumps C.p i/\(k:Int)<=plN C.p i/\j=atL L.pos i
 hl:L.J6.length=C.p.length
 pl:L.pos.length=C.p.length
structure LT (C:Cx) (x:Sc) (base:Int) (k k':Nat) (L L':Ls):Prop where
 mono:L.g.J4<=L'.g.J4
 ext:∀i c,dS L.g.I8 i=some c->dS L'.g.I8 i=some c
 ty:L'.g.J4<=C.J1->ba C x<=C.J1->∀ds0 pn0 ds pn,LsT C x base ds0 pn0 k L ds pn->∃es pn',LsT C x base ds0 pn0 k' L' (ds++es) pn'
theorem LT.trans {k k' k'':Nat}{L L' L'':Ls}(h:LT C x base k k' L L')(h':LT C x base k' k'' L' L''):LT C x base k k'' L L'':=
 ⟨B0 h.mono h'.mono,fun i c g=>h'.ext i c (h.ext i c g),fun hm ht ds0 pn0 ds pn hL=>by
  obtain⟨es,pn1,h1⟩:=h.ty (B0 h'.mono hm) ht ds0 pn0 ds pn hL;obtain⟨fs,pn2,h2⟩:=h'.ty hm ht ds0 pn0 _ pn1 h1
  exact⟨es++fs,pn2,by rw[<-l9];exact h2⟩⟩
end
section
variable {C:Cx} {x:Sc} {ins:List Nat} {rep:Sc->List Nat->Nat->Nat->Int->Gs->Gs} {base:Int}
theorem AY:∀(n k:Nat) (L:Ls),(∀i,k<=i->i<k+n->∃ln,C.p[i]?=some ln)->fh C rep x ins base (n+1) k L=fh C rep x ins base 1 (k+n) (fh C rep x ins base n k L)
 | 0,k,L,_=>rfl
 | n+1,k,L,h=>by
  obtain⟨ln,hk⟩:=h k (d7 _) o_;rw[fh,hk];dsimp only;rw[AY n (k+1) _ (fun i h1 h2=>h i o_ o_),show k+1+n=k+(n+1) by omega];rw[show fh C rep x ins base (n+1) k L=fh C rep x ins base n (k+1) (bf C x k ln (dn C rep x ins base k ln L)) by rw[fh,hk]]
end
mutual
theorem Ex.toks_inj:∀(a b:Ex) (r r':List QC),a.ok->b.ok->a.toks++r=b.toks++r'->a=b/\r=r'
 | .node t es,.node u fs,r,r',ha,hb,h=>by
  rw[Ex.toks,Ex.toks,p9,p9]at h;injection h with h1 h2;subst h1;obtain⟨e1,e2⟩:=yA es fs r r' (by rw[ha.2.1,hb.2.1]) ha.2.2 hb.2.2 h2;exact⟨by rw[e1],e2⟩
theorem yA:∀(a b:List Ex) (r r':List QC),a.length=b.length->jd a->jd b->ao a++r=ao b++r'->a=b/\r=r'
 | [],[],r,r',_,_,_,h=>⟨rfl,by simpa [ao]using h⟩
 | x::a,y::b,r,r',hl,ha,hb,h=>by
  rw[ao,ao,l9,l9]at h;obtain⟨e1,h2⟩:=Ex.toks_inj x y _ _ ha.1 hb.1 h;obtain⟨e2,h3⟩:=yA a b r r' aaZ ha.2 hb.2 h2
  exact⟨by rw[e1,e2],h3⟩
 | [],_::_,_,_,hl,_,_,_=>by simp at hl
 | _::_,[],_,_,hl,_,_,_=>by simp at hl
end
theorem Mm {e:Ex}(h:e.ok)(hl:bq e.toks=true):exL e.toks=e:=by obtain⟨h1,h2⟩:=mA hl;exact(Ex.toks_inj (exL e.toks) e [] [] h1 h (by rw[m7,m7];exact h2.symm)).1
theorem Mz {l:List QC}(h:bq l=true):exL (lr l)=(exL l).fold:=by
 obtain⟨e,h1,h2,h3⟩:=oW h;have h4:=(kc h).1;rw[h3]at h4⊢
 have he:exL l=e:=by have h5:=h;rw[h2]at h5⊢;exact Mm h1 h5
 rw[Mm (e.fold_ok h1) h4,he]
section
variable {p q:List Qt} {locals:List (List UInt8)} {vals:List Int} {call:jm}
theorem NI (t:QC)(fs:List Ex)(s:IS):evE p locals vals call (xa t fs) s=evE p locals vals call (.node t fs) s:=by
 unfold xa;split
 ·rename_i a b;split
  ·rename_i hc;obtain⟨c1,c2,c3,c4⟩:=hc;have c1:=within_iff.1 c1
   have e0:∀(x:QC) (s:IS),x.J0=0->evE p locals vals call (.node x []) s= .ok x.M1 s:=fun x s hx=>by
    rw[evE,bG,Rr.bnd_ok,iU,b9 hx]
   rw[At,e0 _ s rfl,evE,bG,e0 a s c2,Rr.bnd_ok,bG,e0 b s c3,Rr.bnd_ok,bG,Rr.bnd_ok,Rr.bnd_ok,Rr.bnd_ok,iU,b8 o_,b8 o_,b8 o_];rfl
  ·rfl
 ·rfl
mutual
theorem EV:∀(e:Ex) (s:IS),evE p locals vals call e.fold s=evE p locals vals call e s
 | .node t es,s=>by
  rw[Ex.fold,NI,evE,evE,Bv es s]
theorem Bv:∀(es:List Ex) (s:IS),bG p locals vals call (bx es) s=bG p locals vals call es s
 | [],s=>by rw[bx]
 | a::es,s=>by
  rw[bx,bG,bG,EV a s]
  cases evE p locals vals call a s with|ok v s1=>rw[Rr.bnd_ok,Rr.bnd_ok,Bv es s1]|stop c s1=>rfl|fuel=>rfl
end
mutual
theorem Bt (hf:∀nm,findN p 0 nm=findN q 0 nm):∀(e:Ex) (s:IS),evE p locals vals call e s=evE q locals vals call e s
 | .node t es,s=>by
  rw[evE,evE,yE hf es s];congr 1;funext av s';unfold iU;rw[hf]
theorem yE (hf:∀nm,findN p 0 nm=findN q 0 nm):∀(es:List Ex) (s:IS),bG p locals vals call es s=bG q locals vals call es s
 | [],s=>by rw[bG,bG]
 | a::es,s=>by
  rw[bG,bG,Bt hf a s]
  cases evE q locals vals call a s with|ok v s1=>rw[Rr.bnd_ok,Rr.bnd_ok,yE hf es s1]|stop c s1=>rfl|fuel=>rfl
end
end
theorem alike.j_ {p q:List Qt}(h:alike p q)(k:Nat):j_ p k=j_ q k:=by
 unfold Go.Proofs.P.j_
 cases hx:p[k]? with|none=>rw[h.none hx]|some x=>obtain⟨y,hy,e1,_⟩:=h.get hx;rw[hy];exact e1
theorem alike.ownN {p q:List Qt}(h:alike p q)(k:Nat):∀n,ownN p k n=ownN q k n
 | 0=>rfl
 | n+1=>by rw[Go.Proofs.P.ownN,Go.Proofs.P.ownN,h.h_,h.i_,alike.ownN h k n]
theorem alike.f_ {p q:List Qt}(h:alike p q)(k:Nat):f_ p k=f_ q k:=by unfold Go.Proofs.P.f_;rw[h.ownN,h.len]
theorem alike.skipAt {p q:List Qt}(h:alike p q)(k:Nat):skipAt p k=skipAt q k:=by unfold Go.Proofs.P.skipAt;rw[h.i_,dq,dq,h.h_]
theorem alike.anyE {p q:List Qt}(h:alike p q)(i:Nat):∀n j,anyE p i n j=anyE q i n j
 | 0,_=>rfl
 | n+1,j=>by rw[Go.Proofs.P.anyE,Go.Proofs.P.anyE,h.i_,alike.anyE h i n]
theorem alike.elsesIn {p q:List Qt}(h:alike p q)(k e:Nat):∀n i,elsesIn p k e n i=elsesIn q k e n i
 | 0,_=>rfl
 | n+1,i=>by
  rw[Go.Proofs.P.elsesIn,Go.Proofs.P.elsesIn]
  cases hx:p[i]? with|none=>rw[h.none hx]|some x=>obtain⟨y,hy,e1,_⟩:=h.get hx;rw[hy];dsimp only;rw[e1,h.anyE,alike.elsesIn h k e n]
theorem alike.find {p q:List Qt}(h:alike p q)(s:List UInt8):Go.Proofs.P.findN p 0 s=Go.Proofs.P.findN q 0 s:=h.findN 0 s
theorem alike.nameFirst {p q:List Qt}(h:alike p q)(k:Nat):nameFirst p k=nameFirst q k:=by
 unfold Go.Proofs.P.nameFirst
 cases hx:p[k]? with|none=>rw[h.none hx]|some x=>obtain⟨y,hy,_,e2,_⟩:=h.get hx;rw[hy];dsimp only;rw[e2,h.find]
theorem alike.headOk {p q:List Qt}(h:alike p q):headOk p=headOk q:=by
 cases p with
 | nil=>have:=h.len;cases q with
  | nil=>rfl
  | cons=>simp at this
 | cons x p=>cases q with
  | nil=>have:=h.len;simp at this
  | cons y q=>obtain⟨z,hz,e1,e2,e3⟩:=h.get (k:=0) (x:=x) rfl;simp at hz;subst hz;unfold Go.Proofs.P.headOk;dsimp only;rw[e1,e2,e3]
theorem wD {F F':Nat->Nat->Bool}{p q:List Qt}(h:alike p q)(hF:∀k e,F k e=true->F' k e=true):∀n k,ck F p n k=true->ck F' q n k=true
 | 0,k,hc=>by rw[ck]at hc⊢;rw[<-h.len];exact hc
 | n+1,k,hc=>by
  rw[ck]at hc⊢;rw[<-h.len];split
  ·rename_i hk;rw[b9 hk]at hc;split at hc
   ·rename_i x e hx he;obtain⟨y,hy,e1,_⟩:=h.get hx;rw[hy,<-h.h_,he];dsimp only;split at hc
    ·rename_i Tx;rw[b9 ⟨by rw[<-e1];exact Tx.1,hF _ _ Tx.2⟩];exact wD h hF n _ hc
    ·cases hc
   ·cases hc
  ·rfl
theorem vS {x:Qt}(h:cF x=true):bq x.L0=true\/x.L0=[]:=by
 unfold cF at h;simp only[d5]at h;obtain⟨_,_,_,h⟩:=h;split at h
 ·exact .inl h
 ·exact .inr (z4.1 (z8 h))
theorem jH (x:Qt):(aC x).J0=x.J0/\(aC x).J7=x.J7/\(aC x).L3=x.L3:=by unfold aC;split<;>exact⟨rfl,rfl,rfl⟩
theorem my {x:Qt}(h:bq x.L0=true\/x.L0=[]):(bq x.L0=true/\(aC x).L0=lr x.L0)\/(x.L0=[]/\aC x=x):=by
 rcases h with h|h
 ·have hp:0<x.L0.length:=by unfold bq at h;simp only[d5,i8]at h;exact h.2.1
  exact .inl ⟨h,by rw[aC,b9 hp]⟩
 ·exact .inr ⟨h,by rw[aC,b8 (by rw[h];simp)]⟩
theorem FN {x:Qt}(h:cF x=true):cF (aC x)=true:=by
 obtain⟨k1,k2,k3⟩:=jH x;unfold cF at h⊢;rw[k1,k2,k3];simp only[d5]at h⊢;obtain⟨h1,h2,h3,h4⟩:=h;refine⟨h1,h2,h3,?_⟩;split
 ·rename_i hx;rw[b9 hx]at h4;rcases my (.inl h4)with⟨_,e⟩|⟨e,_⟩
  ·rw[e];exact(kc h4).1
  ·rw[e]at h4;simp[bq]at h4
 ·rename_i hx;rw[b8 hx]at h4;have:x.L0=[]:=z4.1 (z8 h4);rw[aC,b8 (by rw[this];simp)];exact h4
theorem zS {p q:List Qt}(h:alike p q)(locals:List (List UInt8))(t:QC):bR p locals t=bR q locals t:=by
 unfold bR;rw[h.find];split
 ·rfl
 ·split
  ·split
   ·rename_i f _
    cases hx:p[f]? with|none=>rw[h.none hx]|some x=>obtain⟨y,hy,_,_,e3⟩:=h.get hx;rw[hy];dsimp only;rw[e3]
   ·rfl
  ·rfl
theorem HU {p:List Qt}{locals:List (List UInt8)}{x:Qt}(he:bq x.L0=true\/x.L0=[])(h:bQ p locals x.L0=true):bQ (p.map aC) locals (aC x).L0=true:=by
 unfold bQ at *
 rw[n9]at *
 intro z hz;rw[zS (dW p)];rcases my he with⟨h1,e⟩|⟨_,e⟩
 ·rw[e]at hz;rcases(kc h1).2 z hz with hz|⟨n,rfl⟩
  ·exact h z hz
  ·simp[bR]
 ·rw[e]at hz;exact h z hz
theorem AL {p:List Qt}(hl:∀x∈p,bq x.L0=true\/x.L0=[]){locals:List (List UInt8)}{e:Nat}:∀n i d,jo p locals e n i d=true->jo (p.map aC) locals e n i d=true
 | 0,_,_,_=>rfl
 | n+1,i,d,h=>by
  rw[jo]at h⊢;split
  ·rename_i hi;rw[b9 hi]at h
   cases hx:p[i]? with
   | none=>rw[hx]at h;cases h
   | some x=>
    rw[hx]at h;rw[j9,hx];dsimp only[Option.map_some]at h⊢;have hd:dep (aC x) d=dep x d:=(by unfold dep;rw[(jH x).1]);rw[(jH x).1,hd];split at h
    ·cases h
    ·rename_i h0;rw[b8 h0];split at h
     ·rename_i hc;rw[b9 ⟨hc.1,HU (hl x (c9 hx)) hc.2⟩];exact AL hl n _ _ h
     ·cases h
  ·rfl
theorem yw {p:List Qt}(h:ak p=true):ak (p.map aC)=true:=by
 have ha:=dW p;unfold ak at h⊢;simp only[d5,i8]at h⊢;obtain⟨h1,h2,h3,h4,h5,h6,h7⟩:=h;have hfu:aq (p.map aC)=aq p:=ha.funsF 0;have UL:=n9.1 h3;refine⟨by rw[d9];exact h1,by rw[hfu];exact h2,?_,by rw[ha.headOk];exact h4,?_,?_,?_⟩
 ·rw[n9];intro x hx;obtain⟨y,hy,rfl⟩:=q7.1 hx;exact FN (UL y hy)
 ·rw[hfu,n9];intro k hk;rw[ha.nameFirst];exact n9.1 h5 k hk
 ·rw[d9];refine wD (Eq.symm ha) (fun k e hf=>?_) _ _ h6;unfold kL at hf⊢;rw[d5]at hf⊢;rw[ha.a_];exact⟨hf.1,AL (fun x hx=>vS (UL x hx)) _ _ _ hf.2⟩
 ·unfold kH at h7⊢;rw[ha.elsesIn,d9];exact h7
theorem jZ {p:List Qt}(hl:∀x∈p,bq x.L0=true\/x.L0=[]){lim:Int}:∀(n:Nat) (calls:List Int) (f k:Nat) (vals:List Int) (s:IS),bd (p.map aC) lim n calls f k vals s=bd p lim n calls f k vals s
 | 0,_,_,_,_,_=>rfl
 | n+1,calls,f,k,vals,s=>by
  have ha:=dW p
  cases hk:p[k]? with
  | none=>rw[iB hk,iB (by rw[j9,hk];rfl)]
  | some ln=>
   have SG:(p.map aC)[k]?=some (aC ln):=(by rw[j9,hk];rfl);obtain⟨k1,k2,k3⟩:=jH ln;by_cases h7:ln.J0=7
   ·rw[dw hk h7,dw SG (by rw[k1];exact h7),ha.f_,ha.j_,jZ hl n]
   by_cases h4:ln.J0=4
   ·rw[eA hk h4,eA SG (by rw[k1];exact h4),ha.f_,dq,dq,ha.h_,jZ hl n]
   by_cases hv:(s.J2.length:Int)=lim
   ·rw[eu hk h7 h4 hv,eu SG (by rw[k1];exact h7) (by rw[k1];exact h4) hv]
   ·rw[eR hk h7 h4 hv,eR SG (by rw[k1];exact h7) (by rw[k1];exact h4) hv]
    have hc:bE (p.map aC) lim n calls k=bE p lim n calls k:=by funext g av s';unfold bE;rw[jZ hl n,ha.a_]
    have he:∀s1,evE (p.map aC) (a_ (p.map aC) (f:Int)) vals (bE (p.map aC) lim n calls k) (exL (aC ln).L0) s1=evE p (a_ p (f:Int)) vals (bE p lim n calls k) (exL ln.L0) s1:=by
     intro s1;rw[hc,ha.a_,Bt (q:=p) ha.find];rcases my (hl ln (c9 hk))with⟨h1,e⟩|⟨_,e⟩
     ·rw[e,Mz h1,EV]
     ·rw[e]
    rw[he];congr 1;funext v s';have e1:eD (p.map aC) (aC ln) k v=eD p ln k v:=(by unfold eD;rw[k1,ha.skipAt]);have e2:ou (a_ (p.map aC) (f:Int)) (aC ln) vals v=ou (a_ p (f:Int)) ln vals v:=(by unfold ou;rw[k1,k2,ha.a_]);have e3:ke (aC ln) s' v=ke ln s' v:=(by unfold ke;rw[k1]);rw[k1,e1,e2,e3,jZ hl n]
structure Rl (s s':Gs):Prop where
 len:s.I8.length=s'.I8.length
 J4:s.J4=s'.J4
 start:s.start=s'.start
structure Wd (C C':Cx):Prop where
 p:C'.p=C.p
 b:C'.b=C.b
 fr:C'.J8=C.J8
 args:C'.args=C.args
section
variable {C C':Cx} {x:Sc} {ins:List Nat} {rep Sl:Sc->List Nat->Nat->Nat->Int->Gs->Gs} {line:Nat}
theorem eC {s s':Gs}(h:Rl s s')(d d' c c' a a' l l':Int)(ch ch':List Int):Rl (aB C s d c a l ch) (aB C' s' d' c' a' l' ch'):=⟨by simp[aB,h.len],h.J4,rfl⟩
theorem AX (y:Sc)(ch:List Int)(l:Int):∀(n:Nat) (d d':Int) {s s':Gs},Rl s s'->Rl (bD C y ch l n d s) (bD C' y ch l n d' s')
 | 0,_,_,_,_,h=>h
 | n+1,d,d',s,s',h=>by rw[bD,bD];exact AX y ch l n _ _ (eC h ..)
theorem Fe (y:Sc)(ch:List Int)(l d d':Int):∀(n i:Nat) {s s':Gs},Rl s s'->Rl (cj C y ch l d n i s) (cj C' y ch l d' n i s')
 | 0,_,_,_,h=>h
 | n+1,i,s,s',h=>by rw[cj,cj];exact Fe y ch l d d' n (i+1) (eC (eC h ..) ..)
def GT (rep Sl:Sc->List Nat->Nat->Nat->Int->Gs->Gs):Prop:=∀(x:Sc) (ins:List Nat) (line g:Nat) (d d':Int) (s s':Gs),Rl s s'->Rl (rep x ins line g d s) (Sl x ins line g d' s')
theorem Pd (hw:Wd C C')(hr:GT rep Sl)(t:QC)(d d':Int){s s':Gs}(h:Rl s s'):Rl (fW C rep x ins line t d s) (fW C' Sl x ins line t d' s'):=by
 unfold fW;rw[hw.p];split
 ·exact eC h ..
 split
 ·exact eC h ..
 split
 ·split
  ·rename_i g hg;have hB:cv C' ins g s'.I8.length=cv C ins g s.I8.length:=(by unfold cv;rw[hw.p,hw.b,h.len]);rw[hB];split
   ·exact hr _ _ _ _ _ _ _ _ h
   ·exact eC h ..
  ·exact h
 ·exact eC h ..
mutual
theorem Ja (hw:Wd C C')(hr:GT rep Sl):∀(e:Ex) (d d':Int) {s s':Gs},Rl s s'->Rl (dk C rep x ins line e d s) (dk C' Sl x ins line e d' s')
 | .node t es,d,d',s,s',h=>by rw[dk,dk];exact Pd hw hr t _ _ (Eb hw hr es d d' h)
theorem Eb (hw:Wd C C')(hr:GT rep Sl):∀(es:List Ex) (d d':Int) {s s':Gs},Rl s s'->Rl (ce C rep x ins line es d s) (ce C' Sl x ins line es d' s')
 | [],_,_,s,s',h=>by rw[ce,ce];exact h
 | a::es,d,d',s,s',h=>by rw[ce,ce];exact Eb hw hr es _ _ (Ja hw hr a d d' h)
end
theorem He (hw:Wd C C')(x:Sc):ba C' x=ba C x:=by unfold ba;rw[hw.args]
theorem PD (hw:Wd C C')(x:Sc)(line g:Nat)(d d':Int){s s':Gs}(h:Rl s s'):Rl (di C x line g d s) (di C' x line g d' s'):=by unfold di;rw[show bF C' x line g=bF C x line g by unfold bF;rw[hw.p,He hw],hw.p,He hw];exact Fe _ _ _ _ _ _ _ (AX _ _ _ _ _ _ ⟨h.len,by dsimp only;rw[h.J4],h.start⟩)
theorem LF (x:Sc)(line:Nat)(d d':Int){s s':Gs}(h:Rl s s'):Rl (bu C x line d s) (bu C' x line d' s'):=by
 unfold bu;rw[h.start];split
 ·exact eC h ..
 ·exact h
theorem EO (hw:Wd C C')(x:Sc)(k:Nat)(last:Bool)(d d':Int){L L':Ls}(h:Rl L.g L'.g):Rl (be C x k last d L).g (be C' x k last d' L').g:=by
 unfold be;rw[hw.fr];split
 ·split
  ·exact eC h ..
  ·exact eC h ..
 ·split
  ·exact h
  ·exact eC h ..
theorem LO {s s':Gs}(h:Rl s s')(j j' v v':Int):Rl ⟨bv s.I8 j v,s.J4,s.start⟩ ⟨bv s'.I8 j' v',s'.J4,s'.start⟩:=⟨by dsimp only;rw[bB,bB,h.len],h.J4,h.start⟩
theorem Mc (hw:Wd C C')(hr:GT rep Sl)(b b':Int)(k:Nat)(ln:Qt){L L':Ls}(h:Rl L.g L'.g):Rl (dn C rep x ins b k ln L).g (dn C' Sl x ins b' k ln L').g:=by
 unfold dn;rw[hw.p];split
 ·exact LO (eC h ..) _ _ _ _
 split
 ·split
  ·exact EO hw x k true _ _ (L:={L with g:=aB C L.g b 0 0 k x.I9}) (L':={L' with g:=aB C' L'.g b' 0 0 k x.I9}) (eC h ..)
  split
  ·exact eC h ..
  ·exact h
 ·have hg:=Ja (x:=x) (ins:=ins) (line:=k) hw hr (exL ln.L0) b b' (s:=⟨L.g.I8,L.g.J4,true⟩) (s':=⟨L'.g.I8,L'.g.J4,true⟩) ⟨h.len,h.J4,rfl⟩;dsimp only;split
  ·exact eC hg ..
  split
  ·exact eC hg ..
  split
  ·exact EO hw x k false _ _ (L:={L with g:=dk C rep x ins k (exL ln.L0) b ⟨L.g.I8,L.g.J4,true⟩,J6:=L.J6.set k L.g.I8.length}) (L':={L' with g:=dk C' Sl x ins k (exL ln.L0) b' ⟨L'.g.I8,L'.g.J4,true⟩,J6:=L'.J6.set k L'.g.I8.length}) hg
  ·exact eC hg ..
theorem Lu (hw:Wd C C')(k:Nat)(ln:Qt){L L':Ls}(h:Rl L.g L'.g):Rl (bf C x k ln L).g (bf C' x k ln L').g:=by
 unfold bf;rw[hw.p];split
 ·exact LO h _ _ _ _
 ·exact h
theorem Iq (hw:Wd C C')(hr:GT rep Sl)(b b':Int):∀(n k:Nat) {L L':Ls},Rl L.g L'.g->Rl (fh C rep x ins b n k L).g (fh C' Sl x ins b' n k L').g
 | 0,k,L,L',h=>by rw[fh,fh];exact h
 | n+1,k,L,L',h=>by
  rw[fh,fh,hw.p];split
  ·exact Iq hw hr b b' n (k+1) (Lu hw k _ (Mc hw hr b b' k _ h))
  ·exact h
theorem Fo (hw:Wd C C')(hr:GT rep Sl)(b b':Int){s s':Gs}(h:Rl s s'):Rl (aZ C rep x ins b s).1 (aZ C' Sl x ins b' s').1:=by unfold aZ;dsimp only;rw[hw.p];exact Iq hw hr b b' _ _ h
end
theorem Ji {C C':Cx}(hw:Wd C C'):∀n,GT (bg C n) (bg C' n)
 | 0=>fun _ _ _ _ _ _ _ _ h=>h
 | n+1=>fun x ins line g d d' s s' h=>by
  show Rl (fH C (aZ C (bg C n)) x ins line g d s) (fH C' (aZ C' (bg C' n)) x ins line g d' s');unfold fH;dsimp only;rw[hw.p,show bF C' x line g=bF C x line g by unfold bF;rw[hw.p,He hw]];have:=Fo (x:=bF C x line g) (ins:=ins++[g]) hw (Ji hw n) (d-b_ C.p g) (d'-b_ C.p g) (LF (C:=C) (C':=C') x line (d-b_ C.p g) (d'-b_ C.p g) (PD hw x line g d d' h));exact⟨by dsimp only;rw[eH,eH,this.len],this.J4,this.start⟩
theorem Nw {C C':Cx}(hw:Wd C C')(g:Nat):(cJ C' g).J4=(cJ C g).J4:=by
 have h0:Rl (db C g) (db C' g):=⟨rfl,by simp[db,aB,hw.p,hw.args],rfl⟩;have hsc:aO C' g=aO C g:=by unfold aO;rw[hw.p]
 have:=Fo (x:=aO C g) (ins:=[g]) hw (Ji hw C.b.M0.toNat) C.J1 C'.J1 h0;unfold cJ;rw[hsc,hw.b];exact this.J4.symm
def jR (c:Int):Int×Int:=
 if c=0 then(-2147483648,2147483647)else if c=1\/c=2\/c=3\/c=4\/c=10\/c=11 then(-32768,32767)
 else if c=16 then(0,65535)else if c=12\/c=13\/c=14\/c=15 then(0,255)else(0,0)
def dH (c a:Int):Bool:=af c 0 17&&af a (jR c).1 (jR c).2
theorem yF (c:Int):(br c=(4,true)/\jR c=(-2147483648,2147483647))\/(br c=(2,true)/\jR c=(-32768,32767))\/(br c=(2,false)/\jR c=(0,65535))\/(br c=(1,false)/\jR c=(0,255))\/(br c=(0,false)/\jR c=(0,0)):=by
 unfold br jR;repeat' split
 all_goals simp
theorem Gj {c:Int}:(aQ c==0)= !af c 0 17:=by
 have:=dI c;unfold aQ
 cases af c 0 17 with|false=>rfl|true=>simp;omega
theorem EN (x:Qv):Sim.Spec prog 223 [.agg x.tr] (rB (dH x.J5 x.L2)):=by
 refine aW hΓ aF func223 rfl d_ rfl ?_;have ho:=jN x.J5;have hz:=Gj (c:=x.J5);have ha:=ij x.J5;have h0:dH x.J5 x.L2=(af x.J5 0 17&&af x.L2 (jR x.J5).1 (jR x.J5).2):=rfl;rw[h0]
 cases hw:af x.J5 0 17 with
 | false=>
  rw[hw]at hz;repeat' ((conv=>whnf);first|apply Wx|apply W6|apply oi|apply fi|intro h|refine cl ho ?_|exact Y8|refine e_ rfl ?_)
  all_goals try(exfalso;rw[hz]at h;cases h;done)
 | true=>
  rw[hw]at hz;rw[l6];rcases yF x.J5 with⟨e1,e2⟩|⟨e1,e2⟩|⟨e1,e2⟩|⟨e1,e2⟩|⟨e1,e2⟩
  all_goals(
   rw[Kg,e1]at ha;rw[e2];have gb:=aN x.L2 (jR x.J5).1 (jR x.J5).2;rw[e2]at gb;repeat' ((conv=>whnf);first|apply Wx|apply W6|apply oi|apply fi|intro h|refine cl ho ?_|refine cl ha ?_|refine .inl (ci gb (ai rfl (ai KW (ai KW trivial))) ?_)|exact Y8|refine e_ rfl ?_)
   all_goals try(exfalso;rw[hz]at h;cases h;done))
theorem Gq (x:Qv):Sim.Spec prog 193 [.agg x.tr] (rB (dH x.J5 x.L2)):=by
 refine aW hΓ aF func193 rfl d_ rfl ?_;have hi:=bz x.J5 0 17;have ha:=ig x.J5;have h0:dH x.J5 x.L2=(af x.J5 0 17&&af x.L2 (jR x.J5).1 (jR x.J5).2):=rfl;rw[h0]
 cases hw:af x.J5 0 17 with
 | false=>
  rw[hw]at hi
  repeat' ((conv=>whnf);first|apply Wx|apply W6|apply oi|apply fi|intro h|refine cl ha ?_|refine cl hi ?_|exact Y8|refine e_ rfl ?_)
 | true=>
  rw[hw]at hi;rw[l6];rcases yF x.J5 with⟨e1,e2⟩|⟨e1,e2⟩|⟨e1,e2⟩|⟨e1,e2⟩|⟨e1,e2⟩
  all_goals(
   rw[Kg,e1]at ha;rw[e2];have gb:=bz x.L2 (jR x.J5).1 (jR x.J5).2;rw[e2]at gb;repeat' ((conv=>whnf);first|apply Wx|apply W6|apply oi|apply fi|intro h|refine cl ha ?_|refine cl hi ?_|refine .inl (ci gb (ai rfl (ai KW (ai KW trivial))) ?_)|exact Y8|refine e_ rfl ?_)
   skip)
def mB (a:Int)(k:Nat):UInt8:=UInt8.ofNat ((a.fdiv (2^(8*k)))%256).toNat
def iq (a:Int)(n:Nat):List UInt8:=(List.range n).map (mB a)
def bt (x:Qv):List UInt8:=if dH x.J5 x.L2=true then UInt8.ofNat x.J5.toNat::iq x.L2 (br x.J5).1.toNat else []
theorem vW (a:Int)(n:Nat):iq a (n+1)=iq a n++[mB a n]:=by simp[iq,D6]
theorem eY {x:Qv}(h:dH x.J5 x.L2=true):((bt x).length:Int)=aQ x.J5:=by have P6:=dI x.J5;rw[bt,b9 h];unfold dH at h;rw[d5]at h;rw[aQ,b9 h.1];simp[iq];omega
theorem oZ (x:Qv):(bt x).length<=5:=by
 have P6:=dI x.J5;unfold bt;split
 ·simp[iq];omega
 ·simp
theorem AS (a:Int){k:Nat}(h:k<=4):IntKind.u8.wrap (a.fdiv (2^min (IntKind.i64.wrap (8*(k:Int))).toNat IntKind.i64.bits))=((mB a k).toNat:Int):=by
 have h8:IntKind.i64.wrap (8*(k:Int))=((8*k:Nat):Int):=by rw[c8 _ o_];rfl
 rw[h8,e7,z7 (by show 8*k<=64;omega)];unfold mB;generalize a.fdiv (2^(8*k))=z;simp[IntKind.wrap,IntKind.bits,IntKind.signed];omega
theorem V3{p:Prop}(h:p:=by
 unfold bt
 cases hw:dH x.J5 x.L2 with
 | false=>
  rw[hw]at ho
  repeat' ((conv=>whnf);first|apply Wx|apply W6|apply oi|apply fi|intro h|refine cl ho ?_|exact Y8|refine e_ rfl ?_)
 | true=>
  rw[hw]at ho;rw[b9 rfl]
  have hc:0<=x.J5/\x.J5<=17:=by unfold dH at hw;rw[d5]at hw;exact within_iff.1 hw.1
  obtain⟨n,hn⟩:∃n:Nat,(br x.J5).1=(n:Int):=⟨(br x.J5).1.toNat,by have:=dI x.J5;omega⟩;have RQ:n<=4:=by have:=dI x.J5;omega
  rw[Kg,hn]at ha;rw[hn,e7];generalize Vb:UInt8.ofNat x.J5.toNat=b0
  have hbc:IntKind.u8.wrap x.J5=(b0.toNat:Int):=by subst Vb;simp[IntKind.wrap,IntKind.bits,IntKind.signed];omega
  repeat' ((conv=>whnf);first|apply Wx|apply W6|apply oi|apply fi|intro h|refine cl ho ?_|refine cl ha ?_|exact Y8|refine e_ rfl ?_)
  conv=>whnf
  refine⟨{k:Nat//k<=n},fun k=>⟨[(1,.r (.c (.ptr (1,0,0) 0))),(3,tI .i64 (n:Int)),(5,.r (.c (.own (19,0,0)))),(6,tI .i64 (k.1:Int))],[((19,0,0),some (.arr true 1 ((b0::iq x.L2 k.1).map bo))),((1,0,0),some (.box [.t (.int .i64 x.J5),.t (.int .i64 x.L2)]))],[19,1]⟩,fun k=>n-k.1,⟨0,o_⟩,?_,?_⟩
  ·repeat' ((conv=>whnf);first|apply Wx|apply W6|apply oi|apply fi|intro h|exact Y8|refine e_ rfl ?_)
   all_goals try exact⟨by rw[hbc];rfl⟩
  intro⟨k,hk⟩;dsimp only;have U0:((b0::iq x.L2 k).map bo).length=k+1:=by simp[iq]
  by_cases O4:k<n
  ·have h8:IntKind.i64.wrap (8*(k:Int))=((8*k:Nat):Int):=(by rw[c8 _ o_];rfl);have hbe:=AS x.L2 (k:=k) o_;repeat' ((conv=>whnf);first|apply Wx|apply W6|apply oi|apply fi|intro h|exact Y6|refine e_ rfl ?_)
   all_goals try exact⟨by rw[h8];omega⟩
   all_goals try exact⟨⟨by simp only[e8,d6,U0]<;>omega,by simp only[e8,d6,U0]<;>omega⟩⟩
   conv=>whnf
   refine⟨⟨k+1,o_⟩,?_,KD⟩;repeat' ((conv=>whnf);first|apply Wx|apply W6|apply oi|apply fi|intro h|exact Y9|refine e_ rfl ?_)
   all_goals try exact⟨by dsimp only;rw[vW,hbe,<-p9,q8];rfl⟩
  ·have Rn:k=n:=o_;subst Rn
   exact Z6):p:=h
theorem wR (x:Qv):Sim.Spec prog 164 [.agg x.tr] (rS (bt x)):=by refine aW hΓ aF func164 rfl d_ rfl ?_;have ho:=EN x;have ha:=ij x.J5;exact V3
theorem wT (x:Qv):Sim.Spec prog 123 [.agg x.tr] (rS (bt x)):=by refine aW hΓ aF func123 rfl d_ rfl ?_;have ho:=Gq x;have ha:=ig x.J5;exact V3
end Go.Proofs.P
