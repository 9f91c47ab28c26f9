import Derived.Test.YtoglejgmjeojoaaGe
namespace Go.Proofs.Ytoglejgmjeojoaa
open Go.Sim
set_option maxRecDepth 100000
set_option maxHeartbeats 4000000
def w32 (n:Int):Int:=IntKind.i32.wrap n
theorem oe (n:Int):IntKind.i32.wrap n=if n%4294967296≥2147483648 then n%4294967296-4294967296 else n%4294967296:=by simp[IntKind.wrap,IntKind.bits,IntKind.signed]
theorem HS (n:Int):IntKind.u32.wrap n=n%4294967296:=by simp[IntKind.wrap,IntKind.bits,IntKind.signed]
theorem jD (n:Int):-2147483648<=w32 n/\w32 n<=2147483647:=by unfold w32;rw[oe];split<;>omega
theorem CZ (n:Int):Sim.Spec Try.prog 74 [tvI n] (rI (w32 n)):=by
 refine aG hΓ aK Try.func74 rfl d_ rfl ?_;repeat' ((conv=>whnf);first|refine Or.inl ?_|apply oi|apply fi|intro h|refine⟨_,rfl,?_⟩|exact Y1|fail)
 all_goals(refine⟨congrArg (Tr.int _) ?_⟩;have:=jD n;unfold w32 at *;rw[oe]at *;rw[oe,HS,c9 _ (by split<;>omega)];simp)
theorem Jl (n:Int):((BitVec.ofInt IntKind.i64.bits n &&& BitVec.ofInt IntKind.i64.bits 4294967295).toNat:Int)=n%4294967296:=by show((BitVec.ofInt 64 n &&& BitVec.ofInt 64 4294967295).toNat:Int)=_;have e:(BitVec.ofInt 64 4294967295).toNat=2^32-1:=d_;rw[I5,e,D0,B6];have:((2^64:Nat):Int)=18446744073709551616:=d_;omega
theorem Cf (n:Int):Sim.Spec Try.prog 73 [tvI n] (rI (w32 n)):=by
 refine aG hΓ aK Try.func73 rfl d_ rfl ?_
 have Sh:IntKind.i64.wrap ((BitVec.ofInt IntKind.i64.bits n &&& BitVec.ofInt IntKind.i64.bits 4294967295).toNat:Int)=n%4294967296:=by rw[Jl,c9 _ o_]
 unfold w32;rw[oe];repeat' ((conv=>whnf);first|refine Or.inl ?_|apply oi|apply fi|intro h|refine⟨_,rfl,?_⟩|exact Y1|fail)
 all_goals(refine⟨congrArg (Tr.int _) ?_⟩;rw[Sh]at h⊢)
 ·have h':=f9 h;rw[b9 o_,c9 _ o_]
 ·have h':=f0 h;rw[b8 o_]
theorem yu {x y:Int}(hx:-2147483648<=x/\x<=2147483647)(hy:-2147483648<=y/\y<=2147483647):-4611686018427387904<=x*y/\x*y<=4611686018427387904:=by
 have h:(x*y).natAbs<=2147483648*2147483648:=by rw[Int.natAbs_mul];exact A1 o_ o_
 omega
def cW (k a b:Int):Int:=
 if k=2 then w32 (w32 a+w32 b)else if k=3 then w32 (w32 a-w32 b)else if k=4 then w32 (w32 a*w32 b)
 else if(k=5/\w32 a<w32 b)\/(k=6/\w32 a=w32 b)then 1 else 0
theorem An (k a b:Int):Sim.Spec Try.prog 61 [tvI k,tvI a,tvI b] (rI (cW k a b)):=by
 refine aG hΓ aK Try.func61 rfl d_ rfl ?_;have ha:=jD a;have hb:=jD b;have hm:=yu ha hb;have e1:IntKind.i64.wrap (w32 a+w32 b)=w32 a+w32 b:=c9 _ o_;have e2:IntKind.i64.wrap (w32 a-w32 b)=w32 a-w32 b:=c9 _ o_;have e3:IntKind.i64.wrap (w32 a*w32 b)=w32 a*w32 b:=c9 _ o_;unfold cW;repeat' ((conv=>whnf);first|refine Or.inl ?_|apply oi|apply fi|intro h|refine ci (CZ _) (ai rfl trivial) ?_|refine⟨_,rfl,?_⟩|exact Y1|fail)
 all_goals(refine⟨congrArg (Tr.int _) ?_⟩;simp_all;try omega)
theorem qO (k a b:Int):Sim.Spec Try.prog 52 [tvI k,tvI a,tvI b] (rI (cW k a b)):=by
 refine aG hΓ aK Try.func52 rfl d_ rfl ?_;have ha:=jD a;have hb:=jD b;have hm:=yu ha hb;have e1:IntKind.i64.wrap (w32 a+w32 b)=w32 a+w32 b:=c9 _ o_;have e2:IntKind.i64.wrap (w32 a-w32 b)=w32 a-w32 b:=c9 _ o_;have e3:IntKind.i64.wrap (w32 a*w32 b)=w32 a*w32 b:=c9 _ o_;unfold cW;repeat' ((conv=>whnf);first|refine Or.inl ?_|apply oi|apply fi|intro h|refine ci (Cf _) (ai rfl trivial) ?_|refine⟨_,rfl,?_⟩|exact Y1|fail)
 all_goals(refine⟨congrArg (Tr.int _) ?_⟩;simp_all;try omega)
def Bm (n:Int):Ex:= .node ⟨0,n,[]⟩ []
def JI (t a b:Og):Prop:=af t.faa 2 6=true/\a.faa=0/\b.faa=0/\af (cW t.faa a.far b.far) 0 999=true
instance (t a b:Og):Decidable (JI t a b):=by unfold JI;infer_instance
def uH (t:Og):List Ex->Ex
 | [.node a [],.node b []]=>if JI t a b then Bm (cW t.faa a.far b.far)else .node t [.node a [],.node b []]
 | fs=> .node t fs
mutual
def Ex.fold:Ex->Ex
 | .node t es=>uH t (bQ es)
def bQ:List Ex->List Ex
 | []=>[]
 | a::es=>a.fold::bQ es
end
theorem aW (l:List Og):flat (l.map Og.tr):=qZ _ (by intro x c hc sz rs e;subst e;simp[Og.tr]at hc)
theorem ph:∀es:List Ex,(bQ es).length=es.length
 | []=>rfl
 | a::es=>by rw[bQ,d5,ph,d5]
theorem tO:∀(es:List Ex) (j:Nat),(bQ es).take j=bQ (es.take j)
 | [],j=>by simp[bQ]
 | a::es,0=>by rw[C9,C9,bQ]
 | a::es,j+1=>by rw[bQ,q7,q7,bQ,tO es j]
theorem xV:∀{es:List Ex} {j:Nat} {a:Ex},es[j]?=some a->bQ (es.take (j+1))=bQ (es.take j)++[a.fold]
 | [],_,_,h=>by simp at h
 | b::es,0,a,h=>by
  rw[e9]at h;injection h with h;subst h
  rfl
 | b::es,j+1,a,h=>by
  rw[j6]at h;rw[q7,bQ,q7,bQ,xV h,p9]
theorem xH (a:Ex):ak [a]=a.toks:=by rw[ak,ak,m9]
theorem FO {f:Ex}(h:f.toks.length=1):∃a,f= .node a []:=by
 cases f with
 | node a es=>
  rw[Ex.toks,d5]at h
  cases es with
  | nil=>exact⟨a,rfl⟩
  | cons b es=>rw[ak,c7]at h;have:=b.toks_pos;omega
theorem wA {t:Og}{fs:List Ex}(h:(ak fs).length≠2\/af t.faa 2 6=false):uH t fs= .node t fs:=by
 unfold uH;split
 ·rename_i a b;rw[b8];intro hc;rcases h with h|h
  ·exact h (by simp[ak,Ex.toks])
  ·rw[hc.1]at h;cases h
 ·rfl
theorem IE (t a b:Og):uH t [.node a [],.node b []]=if JI t a b then Bm (cW t.faa a.far b.far)else .node t [.node a [],.node b []]:=rfl
theorem LR (t:Og)(fs:List Ex):(uH t fs).toks.length<=1+(ak fs).length:=by
 unfold uH;split
 ·split
  ·simp[Bm,Ex.toks,ak]
  ·simp[Ex.toks,ak]
 ·rw[Ex.toks,d5];omega
mutual
theorem Ex.fold_le:∀e:Ex,e.fold.toks.length<=e.toks.length
 | .node t es=>by
  rw[Ex.fold,Ex.toks,d5];have h1:=LR t (bQ es);have h2:=sd es;omega
theorem sd:∀es:List Ex,(ak (bQ es)).length<=(ak es).length
 | []=>d6 _
 | a::es=>by
  rw[bQ,ak,ak,c7,c7];have h1:=Ex.fold_le a;have h2:=sd es;omega
end
theorem dY:∀(es:List Ex) (j:Nat),(ak (es.take j)).length<=(ak es).length
 | [],j=>by rw[List.take_nil];omega
 | a::es,0=>by rw[C9,ak];simp
 | a::es,j+1=>by
  have:=dY es j;rw[q7,ak,ak,c7,c7];omega
theorem lZ:∀{es:List Ex} {j:Nat} {a:Ex},es[j]?=some a->a.toks.length<=(ak es).length
 | [],_,_,h=>by simp at h
 | b::es,0,a,h=>by
  rw[e9]at h;injection h with h;subst h
  rw[ak,c7];omega
 | b::es,j+1,a,h=>by
  rw[j6]at h;have:=lZ h;rw[ak,c7];omega
theorem jK:∀{es:List Ex} {j:Nat} {a:Ex},ig es->es[j]?=some a->a.ok
 | [],_,_,_,h=>by simp at h
 | b::es,0,a,ho,h=>by
  rw[e9]at h;injection h with h;subst h
  exact ho.1
 | b::es,j+1,a,ho,h=>by
  rw[j6]at h;exact jK ho.2 h
theorem Nl {t:Og}(ho:fZ t=true)(hk:af t.faa 2 6=true):ar t=2:=by have:=within_iff.1 hk;unfold ar oY;rw[b8 (by simp[ho]),b8 o_,b8 o_];rfl
theorem Mu {α:Type}{l:List α}(h:l.length=2):∃a b,l=[a,b]:=by
 match l,h with
 | [a,b],_=>exact⟨a,b,rfl⟩
theorem V21{p:Prop}(h:p:=by
 generalize cW t.faa a.far b.far=ap at *
 repeat' ((conv=>whnf);first|apply Wx|apply W6|apply oi|apply fi|intro h|refine⟨p,t.tr,rfl,ab ht,?_⟩|refine cl hB ?_|refine⟨1,rfl,Zf,?_⟩|refine⟨2,rfl,YY,?_⟩|refine⟨a.tr,rfl,?_⟩|refine⟨b.tr,rfl,?_⟩|refine cl Ww ?_|refine cl VL ?_|refine⟨_,rfl,?_⟩|exact Y5|fail)
 all_goals try exact⟨⟨rfl,aW _⟩⟩
 all_goals try(exfalso;simp_all;done)):p:=h
theorem nJ:∀(n:Nat) (e:Ex),e.toks.length<=n->∀(l:List Og) (p:Nat),l.length<=1048576->iv l->e.ok->jO l p e->Sim.Spec Try.prog 90 [tvL 3 (l.map Og.tr),tvI p] (rL 3 (e.fold.toks.map Og.tr))
 | 0,e,hn,_,_,_,_,_,_=>by have:=e.toks_pos;omega
 | n+1,.node t es,hn,l,p,hl,R9,ho,hs=>by
  refine bF hΓ aK Try.func90 rfl d_ rfl ?_;have J0:(l.map Og.tr).length=l.length:=s_;have L3:=lC hs;obtain⟨ht,TI⟩:=mr hs;have hO:=uz l p t es hl R9 ho hs;have PQ:((rp (p+1) es).map nR).length=es.length:=by rw[e8,Co]
  rw[Ex.toks,d5]at hn L3;rw[Ex.fold];have Ul:=sd es;obtain⟨e1,e2⟩:=zn ho.1;have N1:es.length=ar t:=ho.2.1;repeat' ((conv=>whnf);first|apply Wx|apply W6|apply oi|apply fi|intro h|refine cl hO ?_|refine⟨p,t.tr,rfl,ab ht,?_⟩|refine⟨_,rfl,?_⟩|exact Y7|fail)
  conv=>whnf
  refine⟨{j:Nat//j<=es.length},fun q=>⟨[(0,.r (.c (.t (.lst 3 (l.map Og.tr))))),(1,tI .i64 (p:Int)),(5,.r (.c (.own (5,0,0)))),(6,.r (.c (.own (6,0,0)))),(7,tI .i64 (q.1:Int))],[((5,0,0),some (.arr false 3 ((t::ak (bQ (es.take q.1))).map Og.tr))),((6,0,0),some (.arr true 1 ((rp (p+1) es).map nR)))],[5,6]⟩,fun q=>es.length-q.1,⟨0,o_⟩,?_,?_⟩
  ·repeat' ((conv=>whnf);first|apply Wx|apply W6|apply oi|apply fi|intro h|refine⟨_,rfl,?_⟩|exact Y7|fail)
   all_goals try exact⟨by simp[bQ,ak];rfl⟩
  intro⟨j,hj⟩;dsimp only at hj⊢;by_cases J3:j<es.length
  ·obtain⟨a,ha⟩:=ae J3;obtain⟨q,hq,hqs⟩:=Ga TI ha;have Ow:=lZ ha;have hR:=nJ n a o_ l q hl R9 (jK ho.2.2 ha) hqs;have OM:j<((rp (p+1) es).map nR).length:=by rw[PQ];exact J3
   have XE:=a.fold_le;have UT:=dY (bQ es) j;rw[tO]at UT;have Vd:((t::ak (bQ (es.take j))).map Og.tr).length=1+(ak (bQ (es.take j))).length:=by simp;omega
   have RH:(a.fold.toks.map Og.tr).length=a.fold.toks.length:=s_;repeat' ((conv=>whnf);first|apply Wx|apply W6|apply oi|apply fi|intro h|refine cl hR ?_|refine⟨j,rfl,OM,?_⟩|refine⟨(nR q),(ab hq),?_⟩|refine⟨_,rfl,?_⟩|exact Y5|fail)
   all_goals try exact⟨⟨by rw[Vd,RH];(try dsimp only);omega,by rw[Vd,RH];(try dsimp only);omega⟩⟩
   conv=>whnf
   refine⟨⟨j+1,o_⟩,?_,KD⟩;repeat' ((conv=>whnf);first|apply Wx|apply W6|apply oi|apply fi|intro h|refine⟨_,rfl,?_⟩|exact Y6|fail)
   all_goals exact⟨by rw[xV ha,iJ,xH];simp⟩
  ·have Uv:j=es.length:=o_;subst Uv;rw[D1];have hB:=bd t.faa 2 6;have hFl:=ph es;have Pd:((t::ak (bQ es)).map Og.tr).length=1+(ak (bQ es)).length:=by simp;omega
   generalize bQ es=F at *
   cases hk:af t.faa 2 6 with
   | false=>
    rw[hk]at hB;rw[wA (.inr hk),Ex.toks];repeat' ((conv=>whnf);first|apply Wx|apply W6|apply oi|apply fi|intro h|refine⟨p,t.tr,rfl,ab ht,?_⟩|refine cl hB ?_|refine⟨_,rfl,?_⟩|exact Y5|fail)
    all_goals exact⟨⟨rfl,aW _⟩⟩
   | true=>
    rw[hk]at hB;by_cases h2:(ak F).length=2
    ·obtain⟨f1,f2,rfl⟩:=Mu (hFl.trans (N1.trans (Nl ho.1 hk)));rw[ak,xH,c7]at h2;have p1:=f1.toks_pos;have p2:=f2.toks_pos;obtain⟨a,rfl⟩:=FO (f:=f1) o_;obtain⟨b,rfl⟩:=FO (f:=f2) o_;have e3:t::ak [Ex.node a [],Ex.node b []]=[t,a,b]:=by simp[ak,Ex.toks]
     have e4:(Ex.node t [Ex.node a [],Ex.node b []]).toks=[t,a,b]:=by rw[Ex.toks];exact e3
     rw[e3];have Zf:1<([t,a,b].map Og.tr).length:=s_;have YY:2<([t,a,b].map Og.tr).length:=s_;have Ww:=qO t.faa a.far b.far;have VL:=bd (cW t.faa a.far b.far) 0 999;rw[IE];by_cases hc:JI t a b
     ·rw[b9 hc];obtain⟨_,c1,c2,c3⟩:=hc;rw[c3]at VL;have e5:(Bm (cW t.faa a.far b.far)).toks=[⟨0,cW t.faa a.far b.far,[]⟩]:=by simp[Bm,Ex.toks,ak]
      rw[e5]
      generalize cW t.faa a.far b.far=ap at *
      repeat' ((conv=>whnf);first|apply Wx|apply W6|apply oi|apply fi|intro h|refine⟨p,t.tr,rfl,ab ht,?_⟩|refine cl hB ?_|refine⟨1,rfl,Zf,?_⟩|refine⟨2,rfl,YY,?_⟩|refine⟨a.tr,rfl,?_⟩|refine⟨b.tr,rfl,?_⟩|refine cl Ww ?_|refine cl VL ?_|refine⟨_,rfl,?_⟩|exact Y5|fail)
      all_goals try(exfalso;simp_all;done)
     ·rw[b8 hc,e4];have S3:∀w,af (cW t.faa a.far b.far) 0 999=w->a.faa=0->b.faa=0->w=true->False:=fun w h1 h2 h3 h4=>hc ⟨hk,h2,h3,h1.trans h4⟩
      cases hw:af (cW t.faa a.far b.far) 0 999 with
      | true=>
       rw[hw]at VL;have hc3:=S3 true hw
       exact V21
      | false=>rw[hw]at VL;exact V21
    ·rw[wA (.inl h2),Ex.toks];repeat' ((conv=>whnf);first|apply Wx|apply W6|apply oi|apply fi|intro h|refine⟨p,t.tr,rfl,ab ht,?_⟩|refine cl hB ?_|refine⟨_,rfl,?_⟩|exact Y5|fail)
     all_goals try exact⟨⟨rfl,aW _⟩⟩
     all_goals try(exfalso;rw[Pd]at *;simp at *;omega)
end Go.Proofs.Ytoglejgmjeojoaa
namespace Go.Proofs.Ytoglejgmjeojoaa
open Go.Sim
set_option maxRecDepth 100000
set_option maxHeartbeats 4000000
structure Grow (n:Nat) (s s':Gs):Prop where
 ge:s.items.length<=s'.items.length
 le:s'.items.length<=s.items.length+n
 most:s.most<=s'.most
 cap:s.most<=1000->s'.most<=1000
theorem Grow.refl (s:Gs):Grow 0 s s:=⟨d6 _,d6 _,u9 _,id⟩
theorem Grow.trans {n m:Nat}{a b c:Gs}(h:Grow n a b)(h':Grow m b c):Grow (n+m) a c:=⟨t7 h.ge h'.ge,by have:=h.le;have:=h'.le;omega,A5 h.most h'.most,fun x=>h'.cap (h.cap x)⟩
theorem Grow.mono {n m:Nat}{a b:Gs}(h:Grow n a b)(hn:n<=m):Grow m a b:=⟨h.ge,by have:=h.le;omega,h.most,h.cap⟩
theorem bo (C:Cx)(s:Gs)(d code arg line:Int)(chain:List Int):Grow 1 s (aI C s d code arg line chain):=⟨by simp[aI],by simp[aI],u9 _,id⟩
theorem be (l:List NW)(j v:Int):(bD l j v).length=l.length:=by
 unfold bD;split
 ·split
  ·rw[o8]
  ·rfl
 ·rfl
theorem fY (v:Int):∀(js:List Int) (l:List NW),(patchL l v js).length=l.length
 | [],_=>rfl
 | j::js,l=>by rw[patchL,fY v js,be]
def dx:Nat->Nat
 | 0=>1
 | n+1=>30+9*(20*dx n+3)
theorem Dj:∀n,1<=dx n
 | 0=>d6 _
 | n+1=>by rw[dx];omega
theorem LF:∀{n m:Nat},n<=m->dx n<=dx m:=by
 intro n m h
 induction h with
 | refl=>exact d6 _
 | step _ ih=>rw[dx];omega
theorem Fl {n:Nat}(h:n<=3):dx n<=8679837:=t7 (LF h) (by simp[dx])
def bP (C:Cx)(g:Nat):Prop:=∃ln,C.p[g]?=some ln/\ln.faa=0
section
variable {C:Cx} {x:Sc} {ins:List Nat} {rep:Sc->List Nat->Nat->Nat->Int->Gs->Gs} {line:Nat} {lev:Nat}
theorem qs (y:Sc)(chain:List Int)(line:Int):∀(n:Nat) (d:Int) (s:Gs),Grow n s (bR C y chain line n d s)
 | 0,d,s=>Grow.refl s
 | n+1,d,s=>by
  rw[bR];exact((bo C s d _ _ _ _).trans (qs y chain line n (d-1) _)).mono o_
theorem uh (y:Sc)(chain:List Int)(line d:Int):∀(n i:Nat) (s:Gs),Grow (2*n) s (cL C y chain line d n i s)
 | 0,i,s=>Grow.refl s
 | n+1,i,s=>by
  rw[cL];exact(((bo C s d _ _ _ _).trans (bo C _ (d+1) _ _ _ _)).trans (uh y chain line d n (i+1) _)).mono o_
theorem Hq (J4:∀g d s,bP C g->cK C ins g s.items.length=true->Grow (dx lev) s (rep x ins line g d s))(t:Og)(d:Int)(s:Gs):Grow (dx lev) s (jv C rep x ins line t d s):=by
 have hp:=Dj lev;unfold jv;split
 ·exact(bo ..).mono hp
 ·split
  ·exact(bo ..).mono hp
  ·split
   ·split
    ·rename_i g hg;split
     ·rename_i hr;obtain⟨_,ln,h1,h2,_⟩:=eL hg;exact J4 g d s ⟨ln,h1,h2⟩ hr
     ·exact(bo ..).mono hp
    ·exact(Grow.refl s).mono o_
   ·exact(bo ..).mono hp
mutual
theorem yE (J4:∀g d s,bP C g->cK C ins g s.items.length=true->Grow (dx lev) s (rep x ins line g d s)):∀(e:Ex) (d:Int) (s:Gs),Grow (e.toks.length*dx lev) s (dJ C rep x ins line e d s)
 | .node t es,d,s=>by
  rw[dJ,Ex.toks,d5];exact((pt J4 es d s).trans (Hq J4 t _ _)).mono (by rw[o9];omega)
theorem pt (J4:∀g d s,bP C g->cK C ins g s.items.length=true->Grow (dx lev) s (rep x ins line g d s)):∀(es:List Ex) (d:Int) (s:Gs),Grow ((ak es).length*dx lev) s (cp C rep x ins line es d s)
 | [],d,s=>by rw[cp,ak];exact(Grow.refl s).mono o_
 | a::es,d,s=>by
  rw[cp,ak,c7,o9];exact(yE J4 a d s).trans (pt J4 es (d+1) _)
end
theorem wP (C:Cx)(rep:Sc->List Nat->Nat->Nat->Int->Gs->Gs)(x:Sc)(ins:List Nat)(line:Nat):∀{es:List Ex} {j:Nat} {a:Ex} (d:Int) (s:Gs),es[j]?=some a->cp C rep x ins line (es.take (j+1)) d s=dJ C rep x ins line a (d+j) (cp C rep x ins line (es.take j) d s)
 | [],_,_,_,_,h=>by simp at h
 | b::es,0,a,d,s,h=>by
  rw[e9]at h;injection h with h;subst h
  simp[cp]
 | b::es,j+1,a,d,s,h=>by
  rw[j6]at h;rw[q7,cp,wP C rep x ins line (d+1) _ h,q7,cp];congr 1;omega
theorem fR:∀{es:List Ex} {j:Nat} {a:Ex},es[j]?=some a->(ak (es.take (j+1))).length=(ak (es.take j)).length+a.toks.length
 | [],_,_,h=>by simp at h
 | b::es,0,a,h=>by
  rw[e9]at h;injection h with h;subst h
  simp[ak]
 | b::es,j+1,a,h=>by
  rw[j6]at h;rw[q7,ak,c7,fR h,q7,ak,c7];omega
theorem jz (hC:CxOk C)(hx:ScOk C x ins)(line:Nat){g:Nat}(hg:bP C g):ScOk C (bS C x line g) (ins++[g]):=by
 obtain⟨e,_,_,_,_,h8⟩:=hx.endE hC;have L3:=hx.argLe hC;refine⟨hg,rfl,?_,?_,?_,?_,by simp[bS]⟩
 ·simp only[bS,bz,c7,d5,gt];have:=hx.first;split
  ·rename_i ho;rw[hx.args ho];omega
  ·omega
 ·simp only[bS,c7,d5,gt];have:=hx.chain;omega
 ·simp[bS]
 ·simp[bS]
theorem nN (hC:CxOk C)(hx:ScOk C x ins):0<=bz C x/\bz C x<=8*ins.length+8:=by
 obtain⟨e,_,_,_,_,h8⟩:=hx.endE hC;have L3:=hx.argLe hC;have:=hx.first;unfold bz;split
 ·rename_i ho;rw[hx.args ho];omega
 ·omega
theorem cX (hC:CxOk C){g:Nat}(hg:bP C g):(localsOf C.p (g:Int)).length<=8/\argsN C.p g<=(localsOf C.p (g:Int)).length:=by obtain⟨ln,h1,h2⟩:=hg;obtain⟨e,h3,h4,h5,_⟩:=hC.fn _ _ h1 h2;rw[argsN,h1];exact⟨h4,h5⟩
theorem zo (hC:CxOk C)(hx:ScOk C x ins)(hi:ins.length<=10)(line:Nat){g:Nat}(hg:bP C g)(d:Int)(s:Gs):Grow 16 s (eS C x line g d s):=by obtain⟨h1,h2⟩:=cX hC hg;have ht:=nN hC hx;have h0:Grow 0 s ⟨s.items,max s.most (bz C x+(localsOf C.p (g:Int)).length),s.start⟩:=⟨d6 _,d6 _,g_,fun h=>by dsimp only;omega⟩;unfold eS;exact((h0.trans (qs _ _ _ _ _ _)).trans (uh _ _ _ _ _ _ _)).mono o_
theorem tF (x:Sc)(line:Nat)(d:Int)(s:Gs):Grow 1 s (ck C x line d s):=by
 unfold ck;split
 ·exact bo ..
 ·exact(Grow.refl s).mono o_
theorem mS (x:Sc)(k:Nat)(last:Bool)(d:Int)(L:Ls):Grow 1 L.g (bM C x k last d L).g:=by
 unfold bM;split
 ·split
  ·exact bo ..
  ·exact bo ..
 ·split
  ·exact(Grow.refl _).mono o_
  ·exact bo ..
theorem Grow.set {n:Nat}{a b:Gs}{l:List NW}(h:Grow n a b)(hl:l.length=b.items.length):Grow n a ⟨l,b.most,b.start⟩:=⟨by have:=h.ge;simp only[hl];omega,by have:=h.le;simp only[hl];omega,h.most,h.cap⟩
theorem pP (J4:∀g d s,bP C g->cK C ins g s.items.length=true->Grow (dx lev) s (rep x ins line g d s))(hC:CxOk C){k:Nat}{ln:NX}(hk:C.p[k]?=some ln)(he:bh ln.fae=true)(d:Int)(s:Gs):Grow (20*dx lev) s (dJ C rep x ins line (exL ln.fae) d s):=by have h1:=(nF he).2;have h2:=(hC.line _ _ hk).2.2.2.1;rw[h1]at h2;exact(yE J4 _ d s).mono (l6 _ h2)
theorem pW (J4:∀line g d s,bP C g->cK C ins g s.items.length=true->Grow (dx lev) s (rep x ins line g d s))(hC:CxOk C){k:Nat}{ln:NX}(hk:C.p[k]?=some ln)(h0:ln.faa≠0)(base:Int)(L:Ls):Grow (20*dx lev+2) L.g (cZ C rep x ins base k ln L).g:=by
 unfold cZ;split
 ·exact((bo ..).set (be _ _ _)).mono o_
 ·split
  ·split
   ·refine Grow.mono (n:=1+1) ?_ o_;exact(bo ..).trans (mS x k true (base+1) {L with g:=aI C L.g base 0 0 k x.chain})
   ·split
    ·exact(bo ..).mono o_
    ·exact(Grow.refl _).mono o_
  ·rename_i h4 h7;have hl:=hC.line _ _ hk
   have Pk:Grow (20*dx lev) L.g (dJ C rep x ins k (exL ln.fae) base ⟨L.g.items,L.g.most,true⟩):=by have:=pP (fun g d s=>J4 k g d s) hC hk (hl.2.2.2.2 o_) base ⟨L.g.items,L.g.most,true⟩;exact⟨this.ge,this.le,this.most,this.cap⟩
   split
   ·exact(Pk.trans (bo ..)).mono o_
   ·split
    ·exact(Pk.trans (bo ..)).mono o_
    ·split
     ·refine Grow.mono (n:=20*dx lev+1) ?_ o_;exact Pk.trans (mS x k false (base+1) {L with g:=dJ C rep x ins k (exL ln.fae) base ⟨L.g.items,L.g.most,true⟩,heads:=L.heads.set k L.g.items.length})
     ·exact(Pk.trans (bo ..)).mono o_
theorem vK (k:Nat)(ln:NX)(L:Ls):Grow 0 L.g (bJ C x k ln L).g:=by
 unfold bJ;split
 ·exact(Grow.refl _).set (be _ _ _)
 ·exact Grow.refl _
theorem zq (J4:∀line g d s,bP C g->cK C ins g s.items.length=true->Grow (dx lev) s (rep x ins line g d s))(hC:CxOk C)(base:Int):∀(n k:Nat) (L:Ls),(∀i y,k<=i->i<k+n->C.p[i]?=some y->y.faa≠0)->Grow (n*(20*dx lev+3)) L.g (fF C rep x ins base n k L).g
 | 0,k,L,_=>(Grow.refl _).mono o_
 | n+1,k,L,h=>by
  rw[fF];split
  ·rename_i ln hk;exact(((pW J4 hC hk (h k ln (d6 _) o_ hk) base L).trans (vK k ln _)).trans (zq J4 hC base n (k+1) _ fun i y h1 h2 hy=>h i y o_ o_ hy)).mono (by rw[o9];omega)
  ·exact(Grow.refl _).mono o_
theorem V77{p:Prop}(h:p:=by
 by_cases Pi:i=e
 ·subst Pi;obtain⟨z,hz,h7⟩:=bp h3;rw[hy]at hz;injection hz with hz;subst hz;omega
 ·exact(h4 i y o_ o_ hy).1):p:=h
theorem nC (J4:∀line g d s,bP C g->cK C ins g s.items.length=true->Grow (dx lev) s (rep x ins line g d s))(hC:CxOk C)(hx:ScOk C x ins)(base:Int)(s:Gs):Grow ((cO C.p x.f-x.f)*(20*dx lev+3)) s (bv C rep x ins base s).1:=by unfold bv;obtain⟨ln,h1,h2⟩:=hx.fn;obtain⟨e,h3,_,_,h4⟩:=hC.fn _ _ h1 h2;obtain⟨e',g3,_,_,g5,_⟩:=hx.endE hC;rw[h3]at g3;injection g3 with g3;subst g3;rw[g5];refine zq J4 hC base (e-x.f) (x.f+1) (dc C s) fun i y k1 k2 hy=>?_;exact V77
end
theorem fW {C:Cx}{ins:List Nat}{g n:Nat}(h:cK C ins g n=true):(ins.length:Int)<=C.b.faq/\bT C.p (g:Int)-g<=9/\n<200/\g∉ins:=by unfold cK at h;simp only[c8,i7,u7,List.contains_eq_mem,p8]at h;exact⟨h.1,h.2.1,h.2.2.1,h.2.2.2⟩
theorem ir {C:Cx}(hC:CxOk C):∀(lev:Nat) {x:Sc} {ins:List Nat} (line g:Nat) (d:Int) (s:Gs),ScOk C x ins->bP C g->cK C ins g s.items.length=true->Grow (dx lev) s (bY C lev x ins line g d s)
 | 0,x,ins,line,g,d,s,hx,hg,hr=>(Grow.refl s).mono o_
 | lev+1,x,ins,line,g,d,s,hx,hg,hr=>by
  obtain⟨r1,r2,_,_⟩:=fW hr;have hin:=hC.inl;have hy:=jz hC hx line hg;have h1:=zo hC hx o_ line hg d s;have h2:=tF (C:=C) x line (d-argsN C.p g) (eS C x line g d s);have h3:=nC (lev:=lev) (rep:=bY C lev) (fun line g d s hg hr=>ir hC lev line g d s hy hg hr) hC hy (d-argsN C.p g) (ck C x line (d-argsN C.p g) (eS C x line g d s));obtain⟨e,e1,e2,e3,e4,_⟩:=hy.endE hC;have e5:bT C.p (g:Int)=(e:Int):=by rw[bA];exact aZ e1
  have e6:cO C.p (bS C x line g).f-(bS C x line g).f<=9:=by rw[e4];show e-g<=9;omega
  have h4:=((h1.trans h2).trans h3).mono (m:=dx (lev+1)) (by
   rw[dx];have:=l6 (20*dx lev+3) e6
   omega)
  show Grow _ s (kO C (bv C (bY C lev)) x ins line g d s);unfold kO;exact h4.set (fY _ _ _)
def lvOk (L:Ls):Prop:=L.lv.length<=L.g.items.length/\∀j∈L.lv,0<=j/\j<L.g.items.length
section
variable {C:Cx} {x:Sc} {ins:List Nat} {rep:Sc->List Nat->Nat->Nat->Int->Gs->Gs} {lev:Nat}
theorem lvOk.grow {n:Nat}{L L':Ls}(h:lvOk L)(hl:L'.lv=L.lv)(hg:Grow n L.g L'.g):lvOk L':=⟨by rw[hl];exact t7 h.1 hg.ge,fun j hj=>by
 rw[hl]at hj;have:=h.2 j hj;have:=hg.ge
 omega⟩
theorem yH {L:Ls}(h:lvOk L)(k:Nat)(last:Bool)(d:Int):lvOk (bM C x k last d L):=by
 have hg:=mS (C:=C) x k last d L;unfold bM at hg⊢;split
 ·rename_i ho;rw[b9 ho]at hg;split
  ·rename_i hf;rw[b9 hf]at hg;exact h.grow rfl hg
  ·rename_i hf;rw[b8 hf]at hg;exact h.grow rfl hg
 ·split
  ·exact h
  ·refine⟨by have:=h.1;simp only[aI,c7,d5,gt];omega,?_⟩;intro j hj;simp only[e7,d7,l8,or_false]at hj;simp only[aI,c7,d5,gt];rcases hj with hj|rfl
   ·have:=h.2 j hj;omega
   ·omega
theorem Ca (J4:∀line g d s,bP C g->cK C ins g s.items.length=true->Grow (dx lev) s (rep x ins line g d s))(hC:CxOk C){k:Nat}{ln:NX}(hk:C.p[k]?=some ln)(h0:ln.faa≠0)(base:Int){L:Ls}(h:lvOk L):lvOk (cZ C rep x ins base k ln L):=by
 have hg:=pW (x:=x) (ins:=ins) (rep:=rep) (lev:=lev) J4 hC hk h0 base L;unfold cZ at hg⊢;split
 ·rename_i h4;rw[b9 h4]at hg;exact h.grow rfl hg
 ·rename_i h4;rw[b8 h4]at hg;split
  ·rename_i h7;rw[b9 h7]at hg;split
   ·exact yH (h.grow (L':={L with g:=aI C L.g base 0 0 k x.chain}) rfl (bo ..)) _ _ _
   ·rename_i ho;rw[b8 ho]at hg;split
    ·rename_i h5;rw[b9 h5]at hg;exact h.grow rfl hg
    ·exact h
  ·rename_i h7;have hl:=hC.line _ _ hk;have Pk:=pP (x:=x) (ins:=ins) (rep:=rep) (line:=k) (lev:=lev) (fun g d s=>J4 k g d s) hC hk (hl.2.2.2.2 o_) base ⟨L.g.items,L.g.most,true⟩;have Sw:lvOk {L with g:=dJ C rep x ins k (exL ln.fae) base ⟨L.g.items,L.g.most,true⟩,heads:=L.heads.set k L.g.items.length}:=h.grow rfl ⟨Pk.ge,Pk.le,Pk.most,Pk.cap⟩;split
   ·exact Sw.grow rfl (bo ..)
   ·split
    ·exact Sw.grow rfl (bo ..)
    ·split
     ·exact yH Sw _ _ _
     ·exact Sw.grow rfl (bo ..)
theorem Bl (k:Nat)(ln:NX){L:Ls}(h:lvOk L):lvOk (bJ C x k ln L):=by
 have hg:=vK (C:=C) (x:=x) k ln L;unfold bJ at hg⊢;split
 ·rename_i h1;rw[b9 h1]at hg;exact h.grow rfl hg
 ·exact h
theorem Ge (J4:∀line g d s,bP C g->cK C ins g s.items.length=true->Grow (dx lev) s (rep x ins line g d s))(hC:CxOk C)(base:Int):∀(n k:Nat) (L:Ls),(∀i y,k<=i->i<k+n->C.p[i]?=some y->y.faa≠0)->lvOk L->lvOk (fF C rep x ins base n k L)
 | 0,k,L,_,h=>h
 | n+1,k,L,hf,h=>by
  rw[fF];split
  ·rename_i ln hk;exact Ge J4 hC base n (k+1) _ (fun i y h1 h2 hy=>hf i y o_ o_ hy) (Bl k ln (Ca J4 hC hk (hf k ln (d6 _) o_ hk) base h))
  ·exact h
theorem ga (hC:CxOk C)(hx:ScOk C x ins){e:Nat}(he:endAt C.p x.f=some e){i:Nat}{y:NX}(h1:x.f+1<=i)(h2:i<=e)(hy:C.p[i]?=some y):y.faa≠0:=by
 obtain⟨ln,g1,g2⟩:=hx.fn;obtain⟨e',h3,_,_,h4⟩:=hC.fn _ _ g1 g2;rw[he]at h3;injection h3 with h3;subst h3;by_cases Pi:i=e
 ·subst Pi;obtain⟨z,hz,h7⟩:=bp he;rw[hy]at hz;injection hz with hz;subst hz;omega
 ·exact(h4 i y o_ o_ hy).1
theorem GC (J4:∀line g d s,bP C g->cK C ins g s.items.length=true->Grow (dx lev) s (rep x ins line g d s))(hC:CxOk C)(hx:ScOk C x ins)(base:Int)(s:Gs):(bv C rep x ins base s).2.length<=(bv C rep x ins base s).1.items.length/\∀j∈(bv C rep x ins base s).2,0<=j/\j<((bv C rep x ins base s).1.items.length:Int):=by unfold bv;obtain⟨e,g3,g4,_,g5,_⟩:=hx.endE hC;rw[g5];exact Ge J4 hC base (e-x.f) (x.f+1) (dc C s) (fun i y k1 k2 hy=>ga hC hx g3 k1 o_ hy) ⟨by simp[dc],by intro j hj;simp[dc]at hj⟩
end
theorem tQ (v j:Int):∀(js:List Int) (l:List NW),patchL l v (js++[j])=bD (patchL l v js) j v
 | [],l=>by rw[s8,patchL,patchL,patchL]
 | a::js,l=>by rw[p9,patchL,tQ v j js,patchL]
end Go.Proofs.Ytoglejgmjeojoaa
namespace Go.Proofs.Ytoglejgmjeojoaa
open Go.Sim
set_option maxRecDepth 100000
set_option maxHeartbeats 4000000
def dk (l:List NW)(v to:Int):List (Int×Int)->List NW
 | []=>l
 | e::r=>dk (if e.1=to then bD l e.2 v else l) v to r
theorem wq (v to:Int):∀(E:List (Int×Int)) (l:List NW),(dk l v to E).length=l.length
 | [],l=>rfl
 | e::r,l=>by
  rw[dk,wq v to r];split
  ·rw[be]
  ·rfl
theorem li (v to:Int):∀(A B:List (Int×Int)) (l:List NW),dk l v to (A++B)=dk (dk l v to A) v to B
 | [],B,l=>rfl
 | a::A,B,l=>by rw[p9,dk,li v to A B,dk]
theorem CT (v to:Int)(e:Int×Int)(E:List (Int×Int))(l:List NW):dk l v to (E++[e])=if e.1=to then bD (dk l v to E) e.2 v else dk l v to E:=by rw[li];rfl
def jumps (p:List NX)(i:Nat):Prop:=kindAt p i=3\/kindAt p i=4\/kindAt p i=5
instance (p:List NX) (i:Nat):Decidable (jumps p i):=by unfold jumps;infer_instance
def dZ (p:List NX)(i:Nat):Int:=if kindAt p i=4 then bT p (ownOf p i:Int)+1 else if kindAt p i=3/\0<=bE p (i:Int)then-bE p (i:Int)else bT p (i:Int)+1
def entry (p:List NX)(pos:List Int)(i:Nat):List (Int×Int):=if jumps p i then [(dZ p i,atL pos i)]else []
def bq (p:List NX)(pos:List Int)(f:Nat):Nat->List (Int×Int)
 | 0=>[]
 | n+1=>bq p pos f n++entry p pos (f+n)
theorem pB (p:List NX)(pos:List Int)(f:Nat):∀n,(bq p pos f n).length<=n
 | 0=>d6 _
 | n+1=>by
  have:=pB p pos f n;rw[bq,c7,entry];split<;>simp<;>omega
theorem jt {l:List Int}{k i:Nat}{v:Int}(h:i≠k):atL (l.set k v) i=atL l i:=by unfold atL;rw[A7 (fun e=>h e.symm)]
theorem iW {l:List Int}{k:Nat}{v:Int}(h:k<l.length):atL (l.set k v) k=v:=by unfold atL;rw[v6 h];rfl
theorem wn (p:List NX)(pos:List Int)(f k:Nat)(v:Int):∀n,f+n<=k->bq p (pos.set k v) f n=bq p pos f n
 | 0,_=>rfl
 | n+1,h=>by
  rw[bq,bq,wn p pos f k v n o_,entry,entry,jt o_]
theorem ma {p:List NX}{pos:List Int}{f k:Nat}(h:f+1<=k)(hj:¬jumps p k):bq p pos (f+1) (k+1-(f+1))=bq p pos (f+1) (k-(f+1)):=by rw[show k+1-(f+1)=(k-(f+1))+1 by omega,bq,show f+1+(k-(f+1))=k by omega,entry,b8 hj,m9]
theorem xq {p:List NX}{pos:List Int}{f k:Nat}(h:f+1<=k)(hj:jumps p k)(hk:k<pos.length)(v:Int):bq p pos (f+1) (k-(f+1))++[(dZ p k,v)]=bq p (pos.set k v) (f+1) (k+1-(f+1)):=by rw[show k+1-(f+1)=(k-(f+1))+1 by omega,bq,wn _ _ _ _ _ _ o_,show f+1+(k-(f+1))=k by omega,entry,b9 hj,iW hk]
theorem my {p:List NX}{pos:List Int}{f:Nat}:∀{n:Nat} {e:Int×Int},e∈bq p pos f n->∃i,f<=i/\i<f+n/\jumps p i/\e=(dZ p i,atL pos i)
 | 0,e,h=>by simp[bq]at h
 | n+1,e,h=>by
  rw[bq,e7]at h;rcases h with h|h
  ·obtain⟨i,h1,h2,h3⟩:=my h;exact⟨i,h1,o_,h3⟩
  ·rw[entry]at h;split at h
   ·rename_i hj;simp only[d7,l8,or_false]at h;exact⟨f+n,o_,o_,hj,h⟩
   ·cases h
theorem kR {v to:Int}:∀{E:List (Int×Int)} {l:List NW},(∀e∈E,e.1≠to)->dk l v to E=l
 | [],_,_=>rfl
 | e::r,l,h=>by rw[dk,b8 (h e s_),kR fun x hx=>h x (by simp[hx])]
theorem sG {p:List NX}{pos:List Int}{f i0:Nat}{v to:Int}(hj:jumps p i0)(ht:dZ p i0=to):∀{n:Nat} {l:List NW},f<=i0->i0<f+n->(∀i,f<=i->i<f+n->jumps p i->dZ p i=to->i=i0)->dk l v to (bq p pos f n)=bD l (atL pos i0) v
 | 0,l,h1,h2,_=>o_
 | n+1,l,h1,h2,hu=>by
  rw[bq,li];by_cases h:i0=f+n
  ·subst h
   rw[kR (E:=bq p pos f n) (fun e he=>by
    obtain⟨i,k1,k2,k3,rfl⟩:=my he;intro hh;have:=hu i k1 o_ k3 hh
    omega)]
   rw[entry,b9 hj];show(if(dZ p (f+n),atL pos (f+n)).1=to then _ else _)=_;rw[b9 ht]
  ·rw[sG hj ht h1 o_ fun i k1 k2 k3 k4=>hu i k1 o_ k3 k4];refine kR fun e he=>?_;rw[entry]at he;split at he
   ·rename_i QE;simp only[d7,l8,or_false]at he;subst he;intro hh;exact h (hu (f+n) o_ o_ QE hh).symm
   ·cases he
theorem aL {p:List NX}{k:Nat}{ln:NX}(h:p[k]?=some ln):kindAt p k=ln.faa:=by rw[kindAt,h]
theorem pK {p:List NX}{i:Nat}{m:Int}(h:bT p (i:Int)=m)(h0:0<=m):endAt p i=some m.toNat:=by
 rw[bA]at h
 cases he:endAt p i with
 | none=>rw[he]at h;simp only[cA]at h;omega
 | some e=>rw[he]at h;simp only[cA]at h;congr 1;omega
theorem gJ (p:List NX)(i:Nat):-1<=bT p (i:Int)/\bT p (i:Int)<=p.length:=by
 rw[bA]
 cases he:endAt p i with
 | none=>simp only[cA];omega
 | some e=>obtain⟨_,_,_,_,_,h⟩:=aM he;simp only[cA];omega
theorem bI {p:List NX}{i:Nat}:bE p (i:Int)=cA (elseAt p i):=by rw[bE,b9 o_,d9]
theorem pU {p:List NX}{i:Nat}(h:kindAt p i≠3):elseAt p i=none:=by
 cases he:elseAt p i with
 | none=>rfl
 | some j=>obtain⟨y,_,hy,h3,_⟩:=aV he;exact absurd (by rw[aL hy];exact h3) h
section
variable {C:Cx} {x:Sc} {ins:List Nat}
theorem qo (hC:CxOk C)(hx:ScOk C x ins){e:Nat}(he:endAt C.p x.f=some e){k i:Nat}(h1:x.f+1<=i)(h2:i<k)(h3:k<=e)(hj:jumps C.p i)(ht:dZ C.p i=(k:Int)):kindAt C.p (k-1)=7/\ownOf C.p (k-1)≠x.f/\fj C.p (k-1)=i:=by
 have OH:i<C.p.length:=by obtain⟨_,_,_,_,_,h⟩:=aM he;omega
 obtain⟨y,hy⟩:=ae OH;have Tu:=aL hy;unfold dZ at ht;by_cases h4:kindAt C.p i=4
 ·rw[b9 h4]at ht;obtain⟨o1,o2,o3,o4⟩:=hx.own4 hC he o_ o_ hy (by rw[<-Tu];exact h4);have O4:=pK (show bT C.p (ownOf C.p i:Int)=((k-1:Nat):Int) by omega) o_;rw[d9]at O4;obtain⟨z,hz,h7⟩:=bp O4;rw[kJ O4,aL hz];refine⟨h7,o_,?_⟩;rw[fj,kJ O4,o1]
 ·rw[b8 h4]at ht;split at ht
  ·omega
  ·rename_i hn;have O4:=pK (show bT C.p (i:Int)=((k-1:Nat):Int) by omega) o_;rw[d9]at O4;obtain⟨z,hz,h7⟩:=bp O4;rw[kJ O4,aL hz];refine⟨h7,o_,?_⟩;rw[fj,kJ O4]
   have:elseAt C.p i=none:=by
    by_cases Q3:kindAt C.p i=3
    ·cases N1:elseAt C.p i with
     | none=>rfl
     | some j=>exact absurd ⟨Q3,by rw[bI,N1];simp[cA]⟩ hn
    ·exact pU Q3
   rw[this]
theorem Ai (hC:CxOk C)(hx:ScOk C x ins){e:Nat}(he:endAt C.p x.f=some e){j:Nat}{ln:NX}(h1:x.f<j)(h2:j<e)(hl:C.p[j]?=some ln)(h7:ln.faa=7):x.f+1<=fj C.p j/\fj C.p j<j/\jumps C.p (fj C.p j)/\dZ C.p (fj C.p j)=((j+1:Nat):Int)/\ownOf C.p j≠x.f:=by
 obtain⟨o1,o2⟩:=hx.own7 hC he h1 o_ hl h7;rcases o2 with⟨o2,_⟩|⟨_,o3,o4,y,hy,ho⟩
 ·omega
 have Tu:=aL hy;have Q9:bT C.p (ownOf C.p j:Int)=(j:Int):=by rw[bA];exact aZ o1
 unfold fj
 cases N1:elseAt C.p (ownOf C.p j)with
 | none=>
  dsimp only;refine⟨o_,o4,by unfold jumps;omega,?_,o_⟩;unfold dZ;rw[b8 o_,b8 (by rw[bI,N1];simp[cA]),Q9]
  omega
 | some m=>obtain⟨z,m1,hz,z3,TC,k1,k2,w,hw,w4⟩:=aV N1;rw[o1]at TC;injection TC with TC;have hkw:=aL hw;refine⟨g_,g_,by unfold jumps;dsimp only;omega,?_,o_⟩;unfold dZ;dsimp only;rw[b9 o_,wl N1,Q9];omega
structure LInv (C:Cx) (lev:Nat) (x:Sc) (ins:List Nat) (d:Int) (e:Nat) (R:Ls) (k:Nat) (L:Ls):Prop where
 lo:x.f+1<=k
 hi:k<=e+1
 heads:L.heads.length=C.p.length
 pos:L.pos.length=C.p.length
 at_:∀i,x.f<i->i<k->jumps C.p i->0<=atL L.pos i/\atL L.pos i<L.g.items.length
 lv:lvOk L
 room:L.g.items.length+(e+1-k)*(20*dx lev+3)<=68719476736
 fin:fF C (bY C lev) x ins d (e+1-k) k L=R
theorem Fm (rep:Sc->List Nat->Nat->Nat->Int->Gs->Gs)(base:Int)(k:Nat)(ln:NX)(L:Ls):(cZ C rep x ins base k ln L).heads.length=L.heads.length/\(cZ C rep x ins base k ln L).pos.length=L.pos.length:=by
 unfold cZ bM;repeat' split
 all_goals simp
theorem xl (k:Nat)(ln:NX)(L:Ls):(bJ C x k ln L).heads=L.heads/\(bJ C x k ln L).pos=L.pos/\(bJ C x k ln L).lv=L.lv/\(bJ C x k ln L).g.items.length=L.g.items.length/\(bJ C x k ln L).g.most=L.g.most/\(bJ C x k ln L).g.start=L.g.start:=by
 unfold bJ;split
 ·exact⟨rfl,rfl,rfl,be _ _ _,rfl,rfl⟩
 ·exact⟨rfl,rfl,rfl,rfl,rfl,rfl⟩
theorem Jo (rep:Sc->List Nat->Nat->Nat->Int->Gs->Gs)(base:Int)(k:Nat)(ln:NX)(L:Ls)(hp:k<L.pos.length)(i:Nat):
  (i≠k->atL (cZ C rep x ins base k ln L).pos i=atL L.pos i)/\((ln.faa=3\/ln.faa=4\/ln.faa=5)->0<=atL (cZ C rep x ins base k ln L).pos k/\atL (cZ C rep x ins base k ln L).pos k<(cZ C rep x ins base k ln L).g.items.length):=by
 unfold cZ;by_cases h4:ln.faa=4
 ·rw[b9 h4];refine⟨fun hi=>jt hi,fun _=>?_⟩;simp only[iW hp,be,aI,c7,d5,gt];omega
 ·rw[b8 h4];by_cases h7:ln.faa=7
  ·rw[b9 h7];refine⟨fun _=>?_,fun h=>by omega⟩;unfold bM;repeat' split
   all_goals rfl
  ·rw[b8 h7];by_cases h1:ln.faa=1
   ·rw[b9 h1];exact⟨fun _=>rfl,fun h=>by omega⟩
   ·rw[b8 h1];by_cases h2:ln.faa=2
    ·rw[b9 h2];exact⟨fun _=>rfl,fun h=>by omega⟩
    ·rw[b8 h2];by_cases h6:ln.faa=6
     ·rw[b9 h6];refine⟨fun _=>?_,fun h=>by omega⟩;unfold bM;repeat' split
      all_goals rfl
     ·rw[b8 h6];refine⟨fun hi=>jt hi,fun _=>?_⟩;simp only[iW hp,aI,c7,d5,gt];omega
theorem LInv.next (hC:CxOk C)(hx:ScOk C x ins){lev e k:Nat}{d:Int}{R L:Ls}{ln:NX}(he:endAt C.p x.f=some e)(h:LInv C lev x ins d e R k L)(hk:k<=e)(hl:C.p[k]?=some ln):LInv C lev x ins d e R (k+1) (bJ C x k ln (cZ C (bY C lev) x ins d k ln L)):=by
 have h0:=ga hC hx he h.lo hk hl;have J4:∀line g d s,bP C g->cK C ins g s.items.length=true->Grow (dx lev) s (bY C lev x ins line g d s):=fun line g d s hg hr=>ir hC lev line g d s hx hg hr;have hA:=pW (lev:=lev) (rep:=bY C lev) J4 hC hl h0 d L;obtain⟨b1,b2,b3,b4,b5,b6⟩:=xl (C:=C) (x:=x) k ln (cZ C (bY C lev) x ins d k ln L);obtain⟨a1,a2⟩:=Fm (C:=C) (x:=x) (ins:=ins) (bY C lev) d k ln L;have N2:=hA.ge;have L3:=hA.le;have hr:=h.room;refine⟨by have:=h.lo;omega,o_,by rw[b1,a1];exact h.heads,by rw[b2,a2];exact h.pos,fun i h1 h2 hj=>?_,Bl k ln (Ca (lev:=lev) J4 hC hl h0 d h.lv),?_,?_⟩
 ·rw[b2,b4];obtain⟨p1,p2⟩:=Jo (C:=C) (x:=x) (ins:=ins) (bY C lev) d k ln L (by rw[h.pos];exact aJ hl) i;by_cases Po:i=k
  ·subst Po;refine p2 ?_;unfold jumps at hj;rw[aL hl]at hj;exact hj
  ·rw[p1 Po];have:=h.at_ i h1 o_ hj;omega
 ·rw[b4];obtain⟨n,hn⟩:∃n,e+1-k=n+1:=⟨e-k,o_⟩;rw[hn,o9]at hr;rw[show e+1-(k+1)=n by omega];omega
 ·have hf:=h.fin;obtain⟨n,hn⟩:∃n,e+1-k=n+1:=⟨e-k,o_⟩;rw[hn,fF,hl]at hf;rw[show e+1-(k+1)=n by omega];exact hf
theorem EK (hC:CxOk C)(hx:ScOk C x ins){e k:Nat}{ln:NX}(he:endAt C.p x.f=some e)(h1:x.f+1<=k)(hk:k<=e)(hl:C.p[k]?=some ln)(A:Ls):
  (k+1<=e->dk A.g.items A.g.items.length ((k+1:Nat):Int) (bq C.p A.pos (x.f+1) (k+1-(x.f+1)))=(bJ C x k ln A).g.items)/\(k=e->A.g.items=(bJ C x k ln A).g.items):=by
 constructor
 ·intro M9;unfold bJ;by_cases h7:ln.faa=7
  ·obtain⟨q1,q2,q3,q4,q5⟩:=Ai hC hx he o_ o_ hl h7;rw[b9 ⟨h7,q5⟩];refine sG q3 q4 q1 o_ fun i k1 k2 k3 k4=>?_;obtain⟨_,_,t3⟩:=qo hC hx he (k:=k+1) k1 o_ M9 k3 k4;rw[F5]at t3;exact t3.symm
  ·rw[b8 o_];refine kR fun z hz=>?_;obtain⟨i,k1,k2,k3,rfl⟩:=my hz;intro hh;obtain⟨t1,_⟩:=qo hC hx he (k:=k+1) k1 o_ M9 k3 hh;rw[F5,aL hl]at t1;exact h7 t1
 ·rintro rfl;unfold bJ;rw[b8];rintro⟨_,h⟩;exact h (kJ he)
theorem Ei (hC:CxOk C)(hx:ScOk C x ins){e k:Nat}{ln:NX}(he:endAt C.p x.f=some e)(h1:x.f+1<=k)(hk:k<=e)(hl:C.p[k]?=some ln)(h4:ln.faa=4)(pos:List Int)(l:List NW)(v:Int):
  dk l v (-(k:Int)) (bq C.p pos (x.f+1) (k+1-(x.f+1)))=bD l (atL pos (ownOf C.p k)) v:=by
 obtain⟨o1,o2,o3,o4⟩:=hx.own4 hC he h1 hk hl h4;obtain⟨y,m,hy,y3,hm,_,_,_⟩:=aV o1;have Tu:=aL hy;have N1:bE C.p (ownOf C.p k:Int)=(k:Int):=by rw[bI];exact aZ o1
 refine sG (by unfold jumps;omega) (by unfold dZ;rw[b8 o_,b9 ⟨o_,o_⟩,N1]) o_ o_ fun i k1 k2 k3 k4=>?_;unfold dZ at k4;by_cases ZL:kindAt C.p i=4
 ·rw[b9 ZL]at k4;have:=gJ C.p (ownOf C.p i);omega
 ·rw[b8 ZL]at k4;split at k4
  ·rename_i h3;have Pb:bE C.p (i:Int)=(k:Int):=o_;rw[bI]at Pb
   cases Pi:elseAt C.p i with
   | none=>rw[Pi]at Pb;simp only[cA]at Pb;omega
   | some j=>rw[Pi]at Pb;simp only[cA]at Pb;have:j=k:=o_;subst this;exact lV Pi o1
  ·have:=gJ C.p i;omega
end
theorem qc (l:List Og)(hl:l.length<=1048576):Sim.Spec Try.prog 96 [tvL 3 (l.map Og.tr)] (rL 3 (l.map Og.tr)):=by
 refine bF hΓ aK Try.func96 rfl d_ rfl ?_;repeat' ((conv=>whnf);first|apply Wx|apply W6|apply oi|apply fi|intro h|refine⟨_,rfl,?_⟩|exact Y7|fail)
 all_goals try exact⟨⟨by simp<;>omega,by simp<;>omega⟩⟩
 all_goals try exact⟨⟨rfl,aW _⟩⟩
theorem wt (x:NX)(hs:aR 1048576 x.tr):Sim.Spec Try.prog 89 [.agg x.tr] (.r (.agg (x.tr.map EO))):=by
 refine bF hΓ aK Try.func89 rfl d_ rfl ?_;obtain⟨h1,h2,h3,h4,h5⟩:=eY hs;have hT:=qc x.fae h4;repeat' ((conv=>whnf);first|apply Wx|apply W6|apply oi|apply fi|intro h|refine cl hT ?_|refine⟨_,rfl,?_⟩|exact Y7|fail)
 all_goals try exact⟨⟨by simp<;>omega,by simp<;>omega⟩⟩
 all_goals try exact⟨⟨rfl,ls _⟩⟩
theorem Dm {α β:Type}(f:α->β)(l:List α)(k:Nat)(x:α)(hx:l[k]?=some x):(l.take (k+1)).map f=(l.take k).map f++[f x]:=by rw[z9,hx,u4];rfl
theorem qP (l:List NX)(hs:aH 1048576 (.lst 4 (l.map NX.tr))):bf Try.prog 85 [vP l] [] (.r (.c (.own (1,0,0)))) [((1,0,0),.dar 4 (aC (l.map NX.tr)) none)]:=by
 refine aw hΓ aK Try.func85 rfl d_ rfl rfl ?_;have hl:=cQ hs;have J0:(l.map NX.tr).length=l.length:=s_;repeat' ((conv=>whnf);first|apply Wx|apply W6|apply oi|apply fi|intro h|refine⟨_,rfl,?_⟩|exact Y7|fail)
 conv=>whnf
 refine⟨{k:Nat//k<=l.length},fun q=>⟨[(0,vP l),(3,.r (.c (.own (3,0,0)))),(4,tI .i64 (q.1:Int))],[((3,0,0),some (.dar 4 (aC ((l.take q.1).map NX.tr)) none))],[3,0]⟩,fun q=>l.length-q.1,⟨0,o_⟩,?_,?_⟩
 ·exact Z1
 intro⟨k,hk⟩;dsimp only at hk⊢;by_cases J3:k<l.length
 ·obtain⟨x,hx⟩:=ae J3;have QS:(aC ((l.take k).map NX.tr)).length=k:=by rw[cS,e8,j9];omega
  have hC:=wt x (bi hs (d4 hx));repeat' ((conv=>whnf);first|apply Wx|apply W6|apply oi|apply fi|intro h|refine⟨k,x.tr,rfl,ab hx,?_⟩|refine cl hC ?_|refine⟨_,rfl,?_⟩|exact Y5|fail)
  all_goals try exact⟨aW _⟩
  all_goals try exact⟨ls _⟩
  all_goals try exact⟨⟨by rw[QS];(try dsimp only);simp<;>omega,by rw[QS];(try dsimp only);simp<;>omega⟩⟩
  repeat' ((conv=>whnf);first|apply Wx|apply W6|apply oi|apply fi|intro h|refine⟨_,rfl,?_⟩|exact Y7|fail)
  conv=>whnf
  refine⟨⟨k+1,o_⟩,?_,KD⟩;repeat' ((conv=>whnf);first|apply Wx|apply W6|apply oi|apply fi|intro h|refine⟨_,rfl,?_⟩|exact Y6|fail)
  all_goals exact⟨by rw[Dm NX.tr l k x hx];simp[aC,NX.tr]⟩
 ·repeat' ((conv=>whnf);first|apply Wx|apply W6|apply oi|apply fi|intro h|refine⟨_,rfl,?_⟩|exact Y5|fail)
  all_goals exact⟨by rw[j5 o_]⟩
noncomputable def lE (l:List Og):List Og:=if h:bh l=true then(Classical.choose (jC h)).fold.toks else []
theorem rG {l:List Og}(h:bh l=true):∃e:Ex,e.ok/\l=e.toks/\lE l=e.fold.toks:=by have hc:=r9 (jC h);exact⟨_,hc.1,hc.2,by rw[lE,dif_pos h]⟩
theorem xN {l:List Og}(h:bh l=false):lE l=[]:=by rw[lE,dif_neg (by simp[h])]
theorem yQ (l:List Og):(lE l).length<=l.length:=by
 cases h:bh l with
 | false=>rw[xN h];simp
 | true=>obtain⟨e,_,h1,h2⟩:=rG h;rw[h2,h1];exact e.fold_le
theorem uI (l:List Og)(hl:l.length<=1048576)(hn:iv l):Sim.Spec Try.prog 86 [tvL 3 (l.map Og.tr)] (rL 3 ((lE l).map Og.tr)):=by
 refine bF hΓ aK Try.func86 rfl d_ rfl ?_;have hE:=oP l hl hn
 cases h:bh l with
 | false=>
  rw[h]at hE;rw[xN h]
  repeat' ((conv=>whnf);first|apply Wx|apply W6|apply oi|apply fi|intro h|refine cl hE ?_|refine⟨_,rfl,?_⟩|exact Y5|fail)
 | true=>
  rw[h]at hE;obtain⟨e,h1,h2,h3⟩:=rG h;have hF:=nJ e.toks.length e (d6 _) l 0 hl hn h1 ⟨[],by rw[A8,m9];exact h2⟩;rw[h3]
  generalize e.fold.toks=r at *
  repeat' ((conv=>whnf);first|apply Wx|apply W6|apply oi|apply fi|intro h|refine cl hE ?_|refine cl hF ?_|refine⟨_,rfl,?_⟩|exact Y5|fail)
noncomputable def aA (x:NX):NX:=if 0<x.fae.length then⟨x.faa,x.fac,x.faj,lE x.fae⟩else x
noncomputable def fU (l:List NX) (k:Nat):List NX:=(l.take k).map aA++l.drop k
theorem DG (l:List NX)(k:Nat):(fU l k).length=l.length:=by simp[fU];omega
theorem mW {l:List NX}{k:Nat}{x:NX}(hx:l[k]?=some x):(fU l k)[k]?=some x:=by
 have hk:k<l.length:=by exact V104
 rw[fU,m5 (by simp;omega)];simp only[e8,j9];rw[y8 o_,v5,v9];exact hx
theorem qh {l:List NX}{k:Nat}{x:NX}(hx:l[k]?=some x):fU l (k+1)=(fU l k).set k (aA x):=by
 have hk:k<l.length:=by exact V104
 rw[fU,fU,Dm aA l k x hx,dD hx,D8 _ _ (by simp;omega)];simp only[e8,j9];rw[y8 o_,v5,D3,k0];rfl
noncomputable def jP (l:List NX):List NX:=if ah l=true then l.map aA else []
theorem qd (l:List NX)(hs:aH 1048576 (.lst 4 (l.map NX.tr))):Sim.Spec Try.prog 82 [tvP l] (rL 4 ((jP l).map NX.tr)):=by
 refine bF hΓ aK Try.func82 rfl d_ rfl ?_;have hl:=cQ hs;have hP:=cF l hs;have hC:=qP l hs
 cases PN:ah l with
 | false=>
  rw[PN]at hP;have:jP l=[]:=by rw[jP,b8 (by simp[PN])]
  rw[this]
  repeat' ((conv=>whnf);first|apply Wx|apply W6|apply oi|apply fi|intro h|refine cl hP ?_|refine⟨_,rfl,?_⟩|exact Y5|fail)
 | true=>
  rw[PN]at hP;have:jP l=l.map aA:=by rw[jP,b9 PN]
  rw[this];repeat' ((conv=>whnf);first|apply Wx|apply W6|refine cg hC ?_|apply oi|apply fi|intro h|refine cl hP ?_|refine⟨_,rfl,?_⟩|exact Y5|fail)
  conv=>whnf
  refine⟨{k:Nat//k<=l.length},fun q=>⟨[(3,.r (.c (.own (3,0,0)))),(4,tI .i64 (q.1:Int))],[((3,0,0),some (.dar 4 (aC ((fU l q.1).map NX.tr)) none))],[3]⟩,fun q=>l.length-q.1,⟨0,o_⟩,?_,?_⟩
  ·exact Z1
  intro⟨k,hk⟩;dsimp only at hk⊢;have QS:(aC ((fU l k).map NX.tr)).length=l.length:=by rw[cS,e8,DG]
  by_cases J3:k<l.length
  ·obtain⟨x,hx⟩:=ae J3;obtain⟨h1,h2,h3,h4,h5⟩:=eY (bi hs (d4 hx));have hF:=uI x.fae h4 (fun y hy=>by have:=h5 y hy;omega);have Om:k<(aC ((fU l k).map NX.tr)).length:=by rw[QS];exact J3
   have SZ:(x.fae.map Og.tr).length=x.fae.length:=s_;by_cases OP:0<x.fae.length
   ·have L8:aA x=⟨x.faa,x.fac,x.faj,lE x.fae⟩:=by rw[aA,b9 OP]
    repeat' ((conv=>whnf);first|apply Wx|apply W6|apply oi|apply fi|intro h|refine⟨k,rfl,Om,?_⟩|refine⟨k,rfl,(by simpa using Om),?_⟩|refine⟨_,jB (ab (mW hx)),?_⟩|refine⟨_,(v6 (by simpa using Om)),?_⟩|refine cl hF ?_|refine⟨_,rfl,?_⟩|exact Y7|fail)
    all_goals try exact⟨aW _⟩
    all_goals try(exfalso;have h':=f0 h;rw[QS]at h';omega)
    all_goals try(exfalso;have h':=f0 h;rw[SZ]at h';omega)
    conv=>whnf
    refine⟨⟨k+1,o_⟩,?_,KD⟩;repeat' ((conv=>whnf);first|apply Wx|apply W6|apply oi|apply fi|intro h|refine⟨_,rfl,?_⟩|exact Y7|fail)
    all_goals try exact⟨aW _⟩
    all_goals try exact⟨K2⟩
    all_goals(refine⟨?_⟩;(try dsimp only);rw[qh hx,E8,<-qD,L8];simp[NX.tr])
   ·have L8:aA x=x:=by rw[aA,b8 OP]
    repeat' ((conv=>whnf);first|apply Wx|apply W6|apply oi|apply fi|intro h|refine⟨k,rfl,Om,?_⟩|refine⟨k,rfl,(by simpa using Om),?_⟩|refine⟨_,jB (ab (mW hx)),?_⟩|refine⟨_,(v6 (by simpa using Om)),?_⟩|refine cl hF ?_|refine⟨_,rfl,?_⟩|exact Y7|fail)
    all_goals try exact⟨aW _⟩
    all_goals try(exfalso;have h':=f0 h;rw[QS]at h';omega)
    all_goals try(exfalso;have h':=f9 h;rw[SZ]at h';omega)
    conv=>whnf
    refine⟨⟨k+1,o_⟩,?_,KD⟩;repeat' ((conv=>whnf);first|apply Wx|apply W6|apply oi|apply fi|intro h|refine⟨k,rfl,Om,?_⟩|refine⟨k,rfl,(by simpa using Om),?_⟩|refine⟨_,jB (ab (mW hx)),?_⟩|refine⟨_,(v6 (by simpa using Om)),?_⟩|refine⟨_,rfl,?_⟩|exact Y7|fail)
    all_goals try exact⟨aW _⟩
    all_goals try exact⟨K2⟩
    all_goals(refine⟨?_⟩;(try dsimp only);rw[qh hx,E8,<-qD,L8];simp[NX.tr])
  ·repeat' ((conv=>whnf);first|apply Wx|apply W6|apply oi|apply fi|intro h|refine⟨_,rfl,?_⟩|exact Y5|fail)
   all_goals exact⟨by rw[fU,j5 o_,q8 o_,m9]⟩
structure PgOk (p:List NX):Prop where
 len:p.length<=60
 small:aH 1048576 (.lst 4 (p.map NX.tr))
 line:∀(k:Nat) (ln:NX),p[k]?=some ln->0<=ln.faa/\ln.faa<=7/\ln.faj.length<=4/\ln.fae.length<=20/\((ln.faa=1\/ln.faa=2\/ln.faa=3\/ln.faa=5\/ln.faa=6)->bh ln.fae=true)
 fn:∀(g:Nat) (ln:NX),p[g]?=some ln->ln.faa=0->∃e,endAt p g=some e/\(localsOf p (g:Int)).length<=8/\ln.faj.length<=(localsOf p (g:Int)).length/\∀(k:Nat) (y:NX),g<k->k<e->p[k]?=some y->y.faa≠0/\(∀t∈y.fae,t.faa=7->∃f,findN p 0 t.fac=some f/\(argsN p f:Int)=t.far)/\(y.faa=4->∃i,g<=i/\i<k/\elseAt p i=some k)
theorem PgOk.cx {p:List NX}(h:PgOk p){b:NP}{framed:Bool}{words args:Int}(ha:0<=args/\args<=4)(hw:0<=words/\words<=1000)(hi:0<=b.faq/\b.faq<=3):CxOk ⟨p,b,framed,words,args⟩:=
 ⟨h.len,h.small,h.line,h.fn,ha,hw,hi⟩
theorem pD {F:Nat->Nat->Bool}{l:List NX}(hF:∀k e,endAt l k=some e->F k e=true->∀i x,k<i->i<e->l[i]?=some x->x.faa≠0):∀(n k:Nat),bU F l n k=true->∀g x,k<=g->l[g]?=some x->x.faa=0->∃e,endAt l g=some e/\F g e=true
 | 0,k,h,g,x,hk,hg,_=>by
  rw[bU,i7]at h;have:=aJ hg
  omega
 | n+1,k,h,g,x,hk,hg,h0=>by
  rw[bU,b9 (by have:=aJ hg;omega)]at h;split at h
  ·rename_i y e hy he;split at h
   ·rename_i hc;by_cases hgk:g=k
    ·subst hgk;exact⟨e,he,hc.2⟩
    ·by_cases N2:g<=e
     ·by_cases YB:g=e
      ·subst YB;obtain⟨z,hz,h7⟩:=bp he;rw[hg]at hz;injection hz with hz;subst hz;omega
      ·exact absurd h0 (hF k e he hc.2 g x o_ o_ hg)
     ·exact pD hF n (e+1) h g x o_ hg h0
   ·cases h
  ·cases h
theorem pg {l:List NX}{locals:List (List UInt8)}{e:Nat}:∀(n i d:Nat),e-i<=n->e<=l.length->np l locals e n i d=true->∀j x,i<=j->j<e->l[j]?=some x->eN l locals x.fae=true
 | 0,i,d,hn,_,_,j,x,h1,h2,_=>o_
 | n+1,i,d,hn,he,hb,j,x,h1,h2,hx=>by
  rw[np,b9 o_]at hb;obtain⟨y,hy⟩:=ae (l:=l) (k:=i) o_;rw[hy]at hb;dsimp only at hb;split at hb
  ·cases hb
  ·split at hb
   ·rename_i hk;by_cases hj:j=i
    ·subst hj;rw[hy]at hx;injection hx with hx;subst hx;exact hk.2
    ·exact pg n (i+1) _ o_ he hb j x o_ h2 hx
   ·cases hb
theorem Ej (acc:List (List UInt8))(s:List UInt8):acc.length<=(gw acc s).length:=by unfold gw;split<;>simp
theorem FQ {l:List NX}{e:Nat}:∀(n i:Nat) (acc:List (List UInt8)),acc.length<=(locN l e n i acc).length
 | 0,_,_=>by simp[locN]
 | n+1,i,acc=>by
  rw[locN];split
  ·split
   ·refine t7 ?_ (FQ n _ _);split
    ·exact Ej _ _
    ·exact d6 _
   ·exact d6 _
  ·exact d6 _
theorem hasExpr_iff {k:Int}:jp k=true↔(k=1\/k=2\/k=3\/k=5\/k=6):=by unfold jp;simp
theorem Ao {x:NX}(h:dl x=true):0<=x.faa/\x.faa<=7/\x.faj.length<=4/\x.fae.length<=20/\((x.faa=1\/x.faa=2\/x.faa=3\/x.faa=5\/x.faa=6)->bh x.fae=true):=by
 have h4:x.faj.length<=4:=by
  rcases m6 4 x.faj.length with h'|h'
  ·rw[un h']at h;cases h
  ·exact h'
 unfold dl at h;simp only[c8,within_iff]at h;obtain⟨⟨h1,h2⟩,_,_,h3⟩:=h;refine⟨h1,h2,h4,?_,fun hk=>by rw[b9 (hasExpr_iff.2 hk)]at h3;exact h3⟩;split at h3
 ·unfold bh at h3;simp only[c8,i7]at h3;exact h3.1
 ·have:=A3 h3;omega
theorem nW {p:List NX}(hs:aH 1048576 (.lst 4 (p.map NX.tr)))(h:ah p=true):PgOk p:=by
 unfold ah at h;simp only[c8,i7]at h;obtain⟨h1,_,h2,_,_,h3,h4⟩:=h;have hS:=pC p;rw[h3,h4]at hS;have Um:∀(k:Nat) (ln:NX),p[k]?=some ln->0<=ln.faa/\ln.faa<=7/\ln.faj.length<=4/\ln.fae.length<=20/\((ln.faa=1\/ln.faa=2\/ln.faa=3\/ln.faa=5\/ln.faa=6)->bh ln.fae=true):=fun k ln hk=>Ao (n7.1 h2 ln (d4 hk));have J3:∀k e,endAt p k=some e->e<=p.length:=fun k e he=>by obtain⟨_,_,_,_,_,h⟩:=aM he;omega
 have hF:∀k e,endAt p k=some e->mC p k e=true->∀i x,k<i->i<e->p[i]?=some x->x.faa≠0:=fun k e he hf=>by
  rw[nk,c8]at hf;exact xJ hf.1 (J3 k e he)
 refine⟨h1,hs,Um,fun g ln hg h0=>?_⟩;obtain⟨e,he,hf⟩:=pD hF p.length 0 hS g ln (v4 _) hg h0;have P2:=hf;rw[nk,c8]at P2;obtain⟨Sl,Ta⟩:=P2;have VH:=Sl;rw[uP,c8,i7]at VH;obtain⟨hl8,We⟩:=VH;refine⟨e,he,hl8,?_,fun k y Oy N7 hy=>⟨hF g e he hf k y Oy N7 hy,fun t ht h7=>?_,fun Q0=>?_⟩⟩
 ·unfold localsOf;rw[b9 o_,d9,hg,he];dsimp only;rw[b9 h0];exact FQ _ _ _
 ·have O5:=pg (e-(g+1)) (g+1) 0 (d6 _) (J3 g e he) We k y o_ N7 hy;unfold eN at O5;have:=n7.1 O5 t ht;unfold cI at this;rw[b8 o_,b9 h7]at this;split at this
  ·rename_i f PZ;refine⟨f,PZ,?_⟩;unfold argsN;split at this
   ·rename_i x hx
    (try rw[hx])
    exact A3 this
   ·cases this
  ·cases this
 ·have:=(iZ (d6 _)).1 Ta k y o_ N7 hy Q0;rw[qy]at this;obtain⟨i,i1,i2,i3⟩:=this;exact⟨i,i1,o_,i3⟩
def alike (p q:List NX):Prop:=p.map (fun x=>(x.faa,x.fac,x.faj))=q.map (fun x=>(x.faa,x.fac,x.faj))
theorem alike.len {p q:List NX}(h:alike p q):p.length=q.length:=by simpa using congrArg List.length h
theorem alike.get {p q:List NX}(h:alike p q){k:Nat}{x:NX}(hx:p[k]?=some x):∃y,q[k]?=some y/\x.faa=y.faa/\x.fac=y.fac/\x.faj=y.faj:=by
 have:=congrArg (·[k]?) h;simp only[l9,hx,x7]at this
 cases hy:q[k]? with
 | none=>rw[hy]at this;cases this
 | some y=>rw[hy]at this;simp only[x7,Option.some.injEq,Prod.mk.injEq]at this;exact⟨y,rfl,this.1,this.2.1,this.2.2⟩
theorem alike.none {p q:List NX}(h:alike p q){k:Nat}(hx:p[k]?=none):q[k]?=none:=by rw[E9]at hx⊢;have:=h.len;omega
theorem alike.symm {p q:List NX}(h:alike p q):alike q p:=Eq.symm h
theorem alike.drop {p q:List NX}(h:alike p q)(n:Nat):alike (p.drop n) (q.drop n):=by
 unfold alike at *
 rw[C6,C6,h]
theorem alike.endN:∀{p q:List NX},alike p q->∀(i o:Nat),endN p i o=endN q i o
 | [],[],_,_,_=>rfl
 | x::p,y::q,h,i,o=>by
  simp only[alike,p7,List.cons.injEq,Prod.mk.injEq]at h;have ih:=alike.endN (p:=p) (q:=q) h.2
  rw[Go.Proofs.Ytoglejgmjeojoaa.endN,Go.Proofs.Ytoglejgmjeojoaa.endN,h.1.1,ih,ih,ih]
 | [],_::_,h,_,_=>by simp[alike]at h
 | _::_,[],h,_,_=>by simp[alike]at h
theorem alike.endAt {p q:List NX}(h:alike p q)(k:Nat):endAt p k=endAt q k:=by
 unfold Go.Proofs.Ytoglejgmjeojoaa.endAt
 cases hx:p[k]? with
 | none=>rw[h.none hx]
 | some x=>obtain⟨y,hy,e1,_⟩:=h.get hx;rw[hy];dsimp only;rw[e1,(h.drop (k+1)).endN]
theorem alike.elseN {p q:List NX}(h:alike p q){e:Nat}:∀(n i:Nat),elseN p e n i=elseN q e n i
 | 0,_=>rfl
 | n+1,i=>by
  rw[Go.Proofs.Ytoglejgmjeojoaa.elseN,Go.Proofs.Ytoglejgmjeojoaa.elseN]
  cases hx:p[i]? with
  | none=>rw[h.none hx]
  | some x=>
   obtain⟨y,hy,e1,_⟩:=h.get hx;rw[hy];dsimp only;rw[e1,h.endAt i]
   cases Go.Proofs.Ytoglejgmjeojoaa.endAt q i with
   | none=>dsimp only;rw[alike.elseN h n]
   | some m=>dsimp only;rw[alike.elseN h n,alike.elseN h n]
theorem alike.elseAt {p q:List NX}(h:alike p q)(k:Nat):elseAt p k=elseAt q k:=by
 unfold Go.Proofs.Ytoglejgmjeojoaa.elseAt;rw[h.endAt k]
 cases hx:p[k]? with
 | none=>rw[h.none hx]
 | some x=>
  obtain⟨y,hy,e1,_⟩:=h.get hx;rw[hy]
  cases Go.Proofs.Ytoglejgmjeojoaa.endAt q k with
  | none=>rfl
  | some e=>dsimp only;rw[e1,h.elseN]
theorem alike.findN:∀{p q:List NX},alike p q->∀(i:Nat) (s:List UInt8),findN p i s=findN q i s
 | [],[],_,_,_=>rfl
 | x::p,y::q,h,i,s=>by
  simp only[alike,p7,List.cons.injEq,Prod.mk.injEq]at h;have ih:=alike.findN (p:=p) (q:=q) h.2
  rw[Go.Proofs.Ytoglejgmjeojoaa.findN,Go.Proofs.Ytoglejgmjeojoaa.findN,h.1.1,h.1.2.1,ih]
 | [],_::_,h,_,_=>by simp[alike]at h
 | _::_,[],h,_,_=>by simp[alike]at h
theorem alike.locN {p q:List NX}(h:alike p q){e:Nat}:∀(n i:Nat) (acc:List (List UInt8)),locN p e n i acc=locN q e n i acc
 | 0,_,_=>rfl
 | n+1,i,acc=>by
  rw[Go.Proofs.Ytoglejgmjeojoaa.locN,Go.Proofs.Ytoglejgmjeojoaa.locN]
  cases hx:p[i]? with
  | none=>rw[h.none hx]
  | some x=>obtain⟨y,hy,e1,e2,_⟩:=h.get hx;rw[hy];dsimp only;rw[e1,e2,alike.locN h n]
theorem alike.localsOf {p q:List NX}(h:alike p q)(k:Int):localsOf p k=localsOf q k:=by
 unfold Go.Proofs.Ytoglejgmjeojoaa.localsOf;rw[h.endAt]
 cases hx:p[k.toNat]? with
 | none=>rw[h.none hx]
 | some x=>
  obtain⟨y,hy,e1,_,e3⟩:=h.get hx;rw[hy]
  cases Go.Proofs.Ytoglejgmjeojoaa.endAt q k.toNat with
  | none=>rfl
  | some e=>dsimp only;rw[e1,e3,h.locN]
theorem alike.argsN {p q:List NX}(h:alike p q)(g:Nat):argsN p g=argsN q g:=by
 unfold Go.Proofs.Ytoglejgmjeojoaa.argsN
 cases hx:p[g]? with
 | none=>rw[h.none hx]
 | some x=>obtain⟨y,hy,_,_,e3⟩:=h.get hx;rw[hy];dsimp only;rw[e3]
theorem dh (p:List NX):alike (p.map aA) p:=by unfold alike;rw[H4];refine List.map_congr_left fun x _=>?_;simp only[Function.comp,aA];split<;>rfl
theorem MF (v:Int):ar ⟨0,v,[]⟩=0:=by unfold ar oY;split<;>simp
theorem LP {v:Int}(h:af v 0 999=true):(Bm v).ok:=⟨by simp[fZ,h],by rw[MF];rfl,trivial⟩
theorem KZ {t:Og}{fs:List Ex}(h1:fZ t=true)(h2:fs.length=ar t)(h3:ig fs):(uH t fs).ok:=by
 unfold uH;split
 ·split
  ·rename_i hc;exact LP hc.2.2.2
  ·exact⟨h1,h2,h3⟩
 ·exact⟨h1,h2,h3⟩
mutual
theorem Ex.fold_ok:∀e:Ex,e.ok->e.fold.ok
 | .node t es,h=>by rw[Ex.fold];exact KZ h.1 (by rw[ph];exact h.2.1) (zh es h.2.2)
theorem zh:∀es:List Ex,ig es->ig (bQ es)
 | [],_=>by rw[bQ];trivial
 | a::es,h=>by rw[bQ];exact⟨a.fold_ok h.1,zh es h.2⟩
end
theorem IX {t:Og}{fs:List Ex}{z:Og}(h:z∈(uH t fs).toks):z=t\/z∈ak fs\/∃n,z=⟨0,n,[]⟩:=by
 unfold uH at h;split at h
 ·split at h
  ·simp only[Bm,Ex.toks,ak,d7,l8,or_false]at h;exact .inr (.inr ⟨_,h⟩)
  ·rw[Ex.toks,d7]at h;exact h.imp id .inl
 ·rw[Ex.toks,d7]at h;exact h.imp id .inl
mutual
theorem Ex.fold_mem:∀(e:Ex) {z:Og},z∈e.fold.toks->z∈e.toks\/∃n,z=⟨0,n,[]⟩
 | .node t es,z,h=>by
  rw[Ex.fold]at h;rw[Ex.toks,d7];rcases IX h with h|h|h
  ·exact .inl (.inl h)
  ·rcases xd es h with h|h
   ·exact .inl (.inr h)
   ·exact .inr h
  ·exact .inr h
theorem xd:∀(es:List Ex) {z:Og},z∈ak (bQ es)->z∈ak es\/∃n,z=⟨0,n,[]⟩
 | [],z,h=>by rw[bQ]at h;exact .inl h
 | a::es,z,h=>by
  rw[bQ,ak,e7]at h;rw[ak,e7];rcases h with h|h
  ·exact(a.fold_mem h).imp .inl id
  ·exact(xd es h).imp .inr id
end
theorem Hz {e:Ex}(ho:e.ok)(hl:e.toks.length<=20):bh e.toks=true:=by have h:=pk (l:=e.toks) (p:=0) ⟨[],by rw[A8,m9]⟩ ho;have hp:=e.toks_pos;unfold bh;rw[s6 hl,s6 hp,show gW e.toks 0=_ from h];simp
theorem iT {l:List Og}(h:bh l=true):bh (lE l)=true/\∀z∈lE l,z∈l\/∃n,z=⟨0,n,[]⟩:=by
 obtain⟨e,h1,h2,h3⟩:=rG h;have hl:=yQ l
 have Pk:l.length<=20:=by unfold bh at h;simp only[c8,i7]at h;exact h.1
 rw[h3]at hl⊢;refine⟨Hz (e.fold_ok h1) o_,fun z hz=>?_⟩;rw[h2];exact e.fold_mem hz
theorem ny {L:Int}:∀{rows:List (List Tr)},(∀r∈rows,aR L r)->gR L rows
 | [],_=>by rw[gR];trivial
 | r::rs,h=>by rw[gR];exact⟨h r s_,ny fun x hx=>h x (by simp[hx])⟩
theorem xx {x:NX}(hs:aR 1048576 x.tr)(he:(x.faa=1\/x.faa=2\/x.faa=3\/x.faa=5\/x.faa=6)->bh x.fae=true)(Pk:x.fae.length<=20):
  (aA x).faa=x.faa/\(aA x).faj=x.faj/\(aA x).fae.length<=20/\((x.faa=1\/x.faa=2\/x.faa=3\/x.faa=5\/x.faa=6)->bh (aA x).fae=true)/\(∀z∈(aA x).fae,z∈x.fae\/∃n,z=⟨0,n,[]⟩)/\aR 1048576 (aA x).tr:=by
 unfold aA;split
 ·rename_i OP;have hl:=yQ x.fae
  have hz:∀z∈lE x.fae,z∈x.fae\/∃n,z=⟨0,n,[]⟩:=by
   cases hx:bh x.fae with
   | true=>exact(iT hx).2
   | false=>rw[xN hx];intro z hz;cases hz
  refine⟨rfl,rfl,g_,fun hk=>(iT (he hk)).1,hz,?_⟩;simp only[NX.tr,aR]at hs⊢;obtain⟨q0,q1,q2,q3,q4⟩:=hs;refine⟨q0,q1,q2,?_,q4⟩;have Pf:=oc q3;rw[aH];refine⟨by rw[e8];omega,ny fun r hr=>?_⟩;obtain⟨z,WI,rfl⟩:=p6.1 hr;rcases hz z WI with h|⟨n,rfl⟩
  ·exact bi q3 h
  ·simp[Og.tr,aR,aH]
 ·exact⟨rfl,rfl,Pk,he,fun z hz=> .inl hz,hs⟩
theorem PgOk.fold {p:List NX}(h:PgOk p):PgOk (p.map aA):=by
 have ha:=dh p
 have co:∀{k:Nat} {y:NX},(p.map aA)[k]?=some y->∃x,p[k]?=some x/\y=aA x:=fun{k y} hy=>by
  rw[l9]at hy
  cases hx:p[k]? with
  | none=>rw[hx]at hy;cases hy
  | some x=>rw[hx]at hy;injection hy with hy;exact⟨x,rfl,hy.symm⟩
 have hf:∀{k:Nat} {x:NX},p[k]?=some x->_:=fun{k x} hx=>xx (bi h.small (d4 hx)) (h.line k x hx).2.2.2.2 (h.line k x hx).2.2.2.1;refine⟨by rw[e8];exact h.len,?_,fun k y hy=>?_,fun g y hy h0=>?_⟩
 ·rw[aH];refine⟨by have:=h.len;simp;omega,ny fun r hr=>?_⟩;obtain⟨y,hy,rfl⟩:=p6.1 hr;obtain⟨x,hx,rfl⟩:=p6.1 hy;obtain⟨k,hk,T5⟩:=List.mem_iff_getElem.1 hx;exact(hf (k:=k) (x:=x) (by rw[i8 hk,T5])).2.2.2.2.2
 ·obtain⟨x,hx,rfl⟩:=co hy;obtain⟨f1,f2,f3,f4,_⟩:=hf hx;obtain⟨l1,l2,l3,_⟩:=h.line k x hx;rw[f1,f2];exact⟨l1,l2,l3,f3,f4⟩
 ·obtain⟨x,hx,rfl⟩:=co hy;obtain⟨f1,f2,_⟩:=hf hx;rw[f1]at h0;obtain⟨e,he,q1,q2,q3⟩:=h.fn g x hx h0;refine⟨e,by rw[ha.endAt];exact he,by rw[ha.localsOf];exact q1,by rw[ha.localsOf,f2];exact q2,fun k y Oy N7 hy=>?_⟩;obtain⟨z,hz,rfl⟩:=co hy;obtain⟨g1,_,_,_,g5,_⟩:=hf hz;obtain⟨r1,r2,r3⟩:=q3 k z Oy N7 hz;refine⟨by rw[g1];exact r1,fun t ht h7=>?_,fun h4=>?_⟩
  ·rcases g5 t ht with h'|⟨n,rfl⟩
   ·obtain⟨f,Sl,Ta⟩:=r2 t h' h7;exact⟨f,by rw[ha.findN];exact Sl,by rw[ha.argsN];exact Ta⟩
   ·exact absurd h7 (show ¬(0:Int)=7 by decide)
  ·rw[g1]at h4;obtain⟨i,i1,i2,i3⟩:=r3 h4;exact⟨i,i1,i2,by rw[ha.elseAt];exact i3⟩
end Go.Proofs.Ytoglejgmjeojoaa
namespace Go.Proofs.Ytoglejgmjeojoaa
open Go.Sim
set_option maxRecDepth 100000
set_option maxHeartbeats 4000000
abbrev lJ (x:Sc)(lv:List Int):List DC:=[.d (.int .i64 (x.f:Int)),.t (.lst 1 (x.chain.map aa)),.t (.lst 1 (x.locals.map ax)),.d (.int .i64 x.first),.d (.bool x.outer),.d (.lst (if x.outer=true then 0 else 1) (lv.map aa))]
abbrev scV (x:Sc):AV:= .r (.agg [.t (.int .i64 (x.f:Int)),.t (.lst 1 (x.chain.map aa)),.t (.lst 1 (x.locals.map ax)),.t (.int .i64 x.first),.t (.bool x.outer),.opq])
abbrev yn (l:List Int):AV:= .r (.c (.t (.lst 1 (l.map aa))))
abbrev itR (l:List NW):List (List DC):=aC (l.map NW.tr)
abbrev pL (C:Cx)(s:Gs)(d:Int)(i1 i2:Sim.Id):AO:= .box [.t (.lst 4 (C.p.map NX.tr)),.t (.int .i64 C.b.faC),.t (.int .i64 C.b.faq),.t (.bool C.b.faG),.t (.bool C.b.faF),.t (.bool C.framed),.t (.int .i64 C.words),.t (.int .i64 s.most),.t (.int .i64 C.args),.t (.int .i64 d),.own i1,.own i2,.t (.bool s.start)]
abbrev iy (i1 i2:Sim.Id)(C:Cx)(s:Gs)(d:Int)(S:List (List DC)):List (Sim.Id×AO):=[((0,0,0),pL C s d i1 i2),(i1,.dar 7 (itR s.items) none),(i2,.dar 6 S none)]
abbrev iC:AV:= .r (.c (.ptr (0,0,0) 0))
theorem kU (l:List NW):(itR l).length=l.length:=by rw[itR,cS,e8]
theorem IP (l:List NW)(x:NW):itR (l++[x])=itR l++[x.tr.map .d]:=by simp[itR,aC]
def dS (s:Gs):Prop:=s.items.length<=68719476736
theorem bV (C:Cx)(s:Gs)(d:Int)(S:List (List DC))(code arg line:Int)(chain:List Int)(h1:dS s)(h2:chain.length<=100):bf Try.prog 87 [iC,tI .i64 code,tI .i64 arg,tI .i64 line,yn chain] (iy (0,0,1) (0,0,2) C s d S) (.tup []) (iy (1,0,1) (0,0,2) C (aI C s d code arg line chain) d S):=by
 refine aw hΓ aK Try.func87 rfl d_ rfl rfl ?_;unfold dS at h1;have J0:=kU s.items;have M6:(chain.map aa).length=chain.length:=s_;have L8:=da chain;repeat' ((conv=>whnf);first|apply Wx|apply W6|apply oi|apply fi|intro h|refine⟨_,rfl,?_⟩|exact Y7|fail)
 all_goals try exact⟨⟨by rw[J0];(try dsimp only);omega,by rw[J0];(try dsimp only);omega⟩⟩
 all_goals try exact⟨⟨by simp<;>omega,by simp<;>omega⟩⟩
 all_goals try exact⟨by simpa using L8⟩
 all_goals(refine⟨?_⟩;(try rw[J0]at *);rw[aI,IP];congr 1;simp_all[la,NW.tr])
theorem qQ (C:Cx)(hC:CxOk C)(s:Gs)(d:Int)(S:List (List DC))(x:Sc)(i:Int)(store:Bool)(hd:-2000<=d/\d<=2000)(hx:0<=x.first/\x.first<=1000)(hi:-2<=i/\i<=100):bf Try.prog 101 [iC,scV x,tI .i64 i,tB store] (iy (0,0,1) (0,0,2) C s d S) (.tup [.c (.t (.int .i64 (cM C store))),.c (.t (.int .i64 (db C x d i)))]) (iy (0,0,1) (0,0,2) C s d S):=by
 refine aw hΓ aK Try.func101 rfl d_ rfl rfl ?_;obtain⟨a1,a2⟩:=hC.args;repeat' ((conv=>whnf);first|apply Wx|apply W6|apply oi|apply fi|intro h|refine⟨_,rfl,?_⟩|exact Y7|fail)
 all_goals try(exfalso;simp_all;done)
 all_goals(refine⟨congrArg (Tr.int _) ?_⟩;(try unfold cM);(try unfold db tZ kq);(try simp(disch:=omega)only[c9]);simp_all<;>omega)
theorem V32{p:Prop}(h:p:=by
 repeat' ((conv=>whnf);first|apply Wx|apply W6|apply oi|apply fi|intro h|refine⟨_,rfl,?_⟩|exact Y7|fail)
 refine cg (g1) ?_;repeat' ((conv=>whnf);first|apply Wx|apply W6|apply oi|apply fi|intro h|refine⟨_,rfl,?_⟩|exact Y7|fail)
 refine cg (g2) ?_
 exact Z7):p:=h
theorem CW (C:Cx)(hC:CxOk C)(s:Gs)(d:Int)(S:List (List DC))(x:Sc)(i line:Int)(h1:dS s)(h2:x.chain.length<=100)(hd:-1000<=d/\d<=1999)(hx:0<=x.first/\x.first<=1000)(hi:-2<=i/\i<=100):bf Try.prog 98 [iC,scV x,tI .i64 i,tI .i64 line] (iy (0,0,1) (0,0,2) C s d S) (.tup []) (iy (1,0,1) (0,0,2) C (FP C x s d i line) (d+1) S):=by refine aw hΓ aK Try.func98 rfl d_ rfl rfl ?_;have g1:=qQ C hC s d S x i false o_ hx hi;have g2:=bV C s d S (cM C false) (db C x d i) line x.chain h1 h2;exact V32
theorem mb (C:Cx)(hC:CxOk C)(s:Gs)(d:Int)(S:List (List DC))(x:Sc)(i line:Int)(chain:List Int)(h1:dS s)(h2:chain.length<=100)(hd:-1000<=d/\d<=2000)(hx:0<=x.first/\x.first<=1000)(hi:-2<=i/\i<=100):bf Try.prog 95 [iC,scV x,tI .i64 i,tI .i64 line,yn chain] (iy (0,0,1) (0,0,2) C s d S) (.tup []) (iy (1,0,1) (0,0,2) C (dL C x s d i line chain) (d-1) S):=by refine aw hΓ aK Try.func95 rfl d_ rfl rfl ?_;have g1:=qQ C hC s d S x i true o_ hx hi;have g2:=bV C s d S (cM C true) (db C x d i) line chain h1 h2;exact V32
theorem lf (C:Cx)(s:Gs)(d:Int)(S:List (List DC))(v line:Int)(chain:List Int)(h1:dS s)(h2:chain.length<=100)(hd:-1000<=d/\d<=1999):bf Try.prog 92 [iC,tI .i64 v,tI .i64 line,yn chain] (iy (0,0,1) (0,0,2) C s d S) (.tup []) (iy (1,0,1) (0,0,2) C (aI C s d 0 v line chain) (d+1) S):=by
 refine aw hΓ aK Try.func92 rfl d_ rfl rfl ?_;have g2:=bV C s d S 0 v line chain h1 h2;repeat' ((conv=>whnf);first|apply Wx|apply W6|apply oi|apply fi|intro h|refine⟨_,rfl,?_⟩|exact Y7|fail)
 refine cg (g2) ?_;exact Z7
abbrev scH (l:List (Sc×List Int)):List (List DC):=l.map fun y=>lJ y.1 y.2
theorem qX (C:Cx)(hC:CxOk C)(s:Gs)(d:Int)(S:List (Sc×List Int))(x:Sc)(lv:List Int)(k:Nat)(last:Bool)(h1:dS s)(h2:x.chain.length<=100)(hd:-1000<=d/\d<=2000)(hS:S.length<=100)(hlv:lv.length<=68719476736)(hd p:List Int):
  bf Try.prog 93 [iC,tI .i64 (k:Int),tB last] (iy (0,0,1) (0,0,2) C s d (scH (S++[(x,lv)]))) (.tup []) (iy (1,0,1) (1,0,2) C (bM C x k last d ⟨s,hd,p,lv⟩).g (d-1) (scH (S++[(x,(bM C x k last d ⟨s,hd,p,lv⟩).lv)]))):=by
 refine aw hΓ aK Try.func93 rfl d_ rfl rfl ?_;obtain⟨f,chain,locals,first,outer⟩:=x;have J0:=kU s.items;have Pf:(scH (S++[(⟨f,chain,locals,first,outer⟩,lv)])).length=S.length+1:=s_;have L2:(scH (S++[(⟨f,chain,locals,first,outer⟩,lv)]))[S.length]?=some (lJ ⟨f,chain,locals,first,outer⟩ lv):=s_;have hw:IntKind.i64.wrap (((scH (S++[(⟨f,chain,locals,first,outer⟩,lv)])).length:Int)-1)=(S.length:Int):=by rw[Pf,c9 _ o_];omega
 have L8:=da lv;have RH:=da (lv++[(s.items.length:Int)]);have J3:S.length<(scH (S++[(⟨f,chain,locals,first,outer⟩,lv)])).length:=o_;have PF:(lv.map aa).length=lv.length:=s_;unfold dS at h1
 cases outer with
 | false=>
  cases last with
  | true=>
   have e:bM C ⟨f,chain,locals,first,false⟩ k true d ⟨s,hd,p,lv⟩=⟨s,hd,p,lv⟩:=by simp[bM]
   rw[e];repeat' ((conv=>whnf);first|apply Wx|apply W6|apply oi|apply fi|intro h|refine⟨S.length,hw,J3,?_⟩|refine⟨_,L2,?_⟩|refine⟨_,rfl,?_⟩|exact Y8|fail)
   all_goals(exfalso;simp_all;done)
  | false=>
   have e:bM C ⟨f,chain,locals,first,false⟩ k false d ⟨s,hd,p,lv⟩=⟨aI C s d 10 0 k chain,hd,p,lv++[(s.items.length:Int)]⟩:=by simp[bM]
   rw[e];have g:=bV C s d ((scH (S++[(⟨f,chain,locals,first,false⟩,lv)])).set S.length [.d (.int .i64 (f:Int)),.t (.lst 1 (chain.map aa)),.t (.lst 1 (locals.map ax)),.d (.int .i64 first),.d (.bool false),.d (.lst 1 (lv.map aa++[[.int .i64 ((itR s.items).length:Int)]]))]) 10 0 k chain h1 h2;repeat' ((conv=>whnf);first|apply Wx|apply W6|refine cg g ?_|apply oi|apply fi|intro h|refine⟨S.length,hw,J3,?_⟩|refine⟨_,L2,?_⟩|refine⟨_,(v6 J3),?_⟩|refine⟨_,rfl,?_⟩|exact Y7|fail)
   all_goals try exact⟨L8⟩
   all_goals try exact⟨⟨by rw[PF];(try dsimp only);simp<;>omega,by rw[PF];(try dsimp only);simp<;>omega⟩⟩
   all_goals try exact⟨by rw[J0];first|(simp[aa];done)|simpa [aa]using RH⟩
   all_goals try exact⟨KW⟩
   all_goals try(exfalso;simp_all;done)
   all_goals(refine⟨?_⟩;rw[J0];simp[List.set_append,aa])
 | true=>
  have g1:=bV C s d (scH (S++[(⟨f,chain,locals,first,true⟩,lv)])) 14 C.args k chain h1 h2;have g2:=bV C s d (scH (S++[(⟨f,chain,locals,first,true⟩,lv)])) 16 (C.args+16*C.words) k chain h1 h2;obtain⟨a1,a2⟩:=hC.args;obtain⟨a3,a4⟩:=hC.words;have e2:IntKind.i64.wrap (C.args+IntKind.i64.wrap (16*C.words))=C.args+16*C.words:=by simp(disch:=omega)only[c9]
  rw[<-e2]at g2
  cases hf:C.framed with
  | true=>
   have e:bM C ⟨f,chain,locals,first,true⟩ k last d ⟨s,hd,p,lv⟩=⟨aI C s d 14 C.args k chain,hd,p,lv⟩:=by simp[bM,hf]
   rw[e];repeat' ((conv=>whnf);first|apply Wx|apply W6|refine cg g1 ?_|apply oi|apply fi|intro h|refine⟨S.length,hw,J3,?_⟩|refine⟨_,L2,?_⟩|refine⟨_,rfl,?_⟩|exact Y8|fail)
   all_goals(exfalso;simp_all;done)
  | false=>
   have e:bM C ⟨f,chain,locals,first,true⟩ k last d ⟨s,hd,p,lv⟩=⟨aI C s d 16 (IntKind.i64.wrap (C.args+IntKind.i64.wrap (16*C.words))) k chain,hd,p,lv⟩:=by simp[bM,hf,e2]
   rw[e];repeat' ((conv=>whnf);first|apply Wx|apply W6|refine cg g2 ?_|apply oi|apply fi|intro h|refine⟨S.length,hw,J3,?_⟩|refine⟨_,L2,?_⟩|refine⟨_,rfl,?_⟩|exact Y8|fail)
   all_goals(exfalso;simp_all;done)
abbrev ni (e:Int×Int):List Tr:=[.int .i64 e.1,.int .i64 e.2]
theorem GJ {l:List NW}{j:Nat}{x:NW}(h:l[j]?=some x)(v:Int):bD l (j:Int) v=l.set j ⟨⟨x.fad.fab,v⟩,x.fav,x.fak,x.fay,x.fau,x.faz⟩:=by rw[bD,b9 o_,d9,h]
theorem xh {l:List NW}{j:Nat}{x:NW}(h:l[j]?=some x)(v:Int):itR (bD l (j:Int) v)=(itR l).set j [.d (.int .i64 x.fad.fab),.d (.int .i64 v),.d (.int .i64 x.fav),.d (.bool x.fak),.d (.lst 1 (x.fay.map aa)),.d (.int .i64 x.fau),.d (.bool x.faz)]:=by rw[GJ h];simp[aC,E8,NW.tr]
theorem Gc {l:List NW}{j:Nat}{x:NW}(h:l[j]?=some x):(itR l)[j]?=some (x.tr.map .d):=jB (ab h)
theorem qJ (C:Cx)(s:Gs)(d:Int)(S:List (List DC))(E:List (Int×Int))(to:Int)(h1:dS s)(hE:E.length<=100)(hin:∀e∈E,0<=e.2/\e.2<s.items.length):
  bf Try.prog 91 [iC,.r (.c (.own (0,1,0))),tI .i64 to] (iy (0,0,1) (0,0,2) C s d S++[((0,1,0),.arr false 2 (E.map ni))]) (.tup []) (iy (0,0,1) (0,0,2) C ⟨dk s.items s.items.length to E,s.most,s.start⟩ d S++[((0,1,0),.arr false 2 (E.map ni))]):=by
 refine aw hΓ aK Try.func91 rfl d_ rfl rfl ?_;have RZ:(E.map ni).length=E.length:=s_;unfold dS at h1;repeat' ((conv=>whnf);first|apply Wx|apply W6|apply oi|apply fi|intro h|refine⟨_,rfl,?_⟩|exact Y7|fail)
 conv=>whnf
 refine⟨{k:Nat//k<=E.length},fun q=>⟨[(0,iC),(1,.r (.c (.own (0,1,0)))),(2,tI .i64 to),(6,tI .i64 (q.1:Int))],[((0,0,0),some (pL C s d (0,0,1) (0,0,2))),((0,0,1),some (.dar 7 (itR (dk s.items s.items.length to (E.take q.1))) none)),((0,0,2),some (.dar 6 S none)),((0,1,0),some (.arr false 2 (E.map ni)))],[0]⟩,fun q=>E.length-q.1,⟨0,o_⟩,?_,?_⟩
 ·exact Z1
 intro⟨k,hk⟩;dsimp only at hk⊢;have PQ:=wq s.items.length to (E.take k) s.items;have OH:(itR (dk s.items s.items.length to (E.take k))).length=s.items.length:=by rw[kU,PQ]
 by_cases J3:k<E.length
 ·obtain⟨e,he⟩:=ae J3;obtain⟨i1,i2⟩:=hin e (d4 he);obtain⟨j,hj⟩:=j8 i1;have OM:j<(itR (dk s.items s.items.length to (E.take k))).length:=by rw[OH];omega
  obtain⟨x,hx⟩:=ae (l:=dk s.items s.items.length to (E.take k)) (k:=j) (by rw[PQ];omega);have Om:k<(E.map ni).length:=by rw[RZ];exact J3
  have Ox:E.take (k+1)=E.take k++[e]:=by rw[z9,he];rfl
  have UU:=CT s.items.length to e (E.take k) s.items;repeat' ((conv=>whnf);first|apply Wx|apply W6|apply oi|apply fi|intro h|refine⟨k,rfl,Om,?_⟩|refine⟨ni e,(ab he),?_⟩|refine⟨j,hj,OM,?_⟩|refine⟨_,(Gc hx),?_⟩|refine⟨_,rfl,?_⟩|exact Y5|fail)
  all_goals(conv=>whnf)
  all_goals(refine⟨⟨k+1,o_⟩,?_,KD⟩)
  repeat' ((conv=>whnf);first|apply Wx|apply W6|apply oi|apply fi|intro h|refine⟨_,rfl,?_⟩|exact Y8|fail)
  all_goals(refine⟨?_⟩;(try rw[OH]);rw[Ox,UU])
  ·rw[b9 (by simpa using h),hj,xh hx];rfl
  ·rw[b8 (by simpa using h)]
 ·repeat' ((conv=>whnf);first|apply Wx|apply W6|apply oi|apply fi|intro h|refine⟨_,rfl,?_⟩|exact Y5|fail)
  all_goals(refine⟨?_⟩;rw[j5 o_])
abbrev bZ (S:List (Sc×List Int)):List Nat:=S.map fun y=>y.1.f
theorem uN (C:Cx)(hC:CxOk C)(s:Gs)(d:Int)(S:List (Sc×List Int))(g:Nat)(h1:dS s)(hS:1<=S.length/\S.length<=100)(hg:g<C.p.length):
  bf Try.prog 99 [iC,tI .i64 (g:Int)] (iy (0,0,1) (0,0,2) C s d (scH S)) (tB (cK C (bZ S) g s.items.length)) (iy (0,0,1) (0,0,2) C s d (scH S)):=by
 refine aw hΓ aK Try.func99 rfl d_ rfl rfl ?_;unfold dS at h1;have J0:=kU s.items;have Pf:(scH S).length=S.length:=s_;have PQ:(C.p.map NX.tr).length=C.p.length:=s_;have hE:=bB C.p (g:Int) (by have:=hC.len;omega);have OH:(bZ S).length=S.length:=s_;have Rb:=hC.len;have hin:=hC.inl
 have O4:-1<=bT C.p (g:Int)/\bT C.p (g:Int)<=60:=by
  rw[bA]
  cases he:endAt C.p g with
  | none=>simp[cA]
  | some e=>have:=aM he;obtain⟨_,_,_,_,_,h⟩:=this;simp only[cA];omega
 unfold cK;rw[OH]
 generalize bT C.p (g:Int)=eg at *
 have OB:IntKind.i64.wrap (((scH S).length:Int)-1)=(S.length:Int)-1:=by rw[Pf,c9 _ o_]
 have Pe:IntKind.i64.wrap (eg-(g:Int))=eg-g:=by rw[c9 _ o_]
 repeat' ((conv=>whnf);first|apply Wx|apply W6|apply oi|apply fi|intro h|refine cl hE ?_|refine⟨_,rfl,?_⟩|exact Y7|fail)
 all_goals try(refine⟨congrArg Tr.bool ?_⟩;(try rw[OB]at h);(try rw[Pe]at h);(try rw[J0]at h);simp only[i7]at h;symm;simp only[A4,p8];omega)
 conv=>whnf
 refine⟨{k:Nat//k<=S.length/\((bZ S).take k).contains g=false},fun q=>⟨[(0,iC),(1,tI .i64 (g:Int)),(5,tI .i64 (q.1:Int))],(iy (0,0,1) (0,0,2) C s d (scH S)).map (fun p=>(p.1,some p.2)),[0]⟩,fun q=>S.length-q.1,⟨0,o_,s_⟩,?_,?_⟩
 ·exact Z1
 rename_i ha hb;rw[OB]at ha;rw[Pe]at hb;rw[J0]at h;simp only[p8]at ha hb h
 have Ov:∀c:Bool,(decide ((S.length:Int)<=C.b.faq)&&(decide (eg-(g:Int)<=9)&&(decide (s.items.length<200)&&!c)))= !c:=fun c=>by
  rw[s6 o_,s6 o_,s6 o_];rfl
 rw[Ov];clear Ov;intro⟨k,hk,M1⟩;dsimp only at hk M1⊢;by_cases J3:k<S.length
 ·obtain⟨y,hy⟩:=ae J3;have U6:(scH S)[k]?=some (lJ y.1 y.2):=by simp[hy]
  have Om:k<(scH S).length:=o_;have Ox:(bZ S).take (k+1)=(bZ S).take k++[y.1.f]:=by rw[z9,l9,hy];rfl
  have OT:y.1.f∈bZ S:=p6.2 ⟨y,d4 hy,rfl⟩;repeat' ((conv=>whnf);first|apply Wx|apply W6|apply oi|apply fi|intro h|refine⟨k,rfl,Om,?_⟩|refine⟨_,U6,?_⟩|refine⟨_,rfl,?_⟩|exact Y5|fail)
  ·refine⟨congrArg Tr.bool ?_⟩;have e:y.1.f=g:=by have:=A3 h;omega
   rw[<-e,B7.2 OT];rfl
  ·conv=>whnf
   refine⟨⟨k+1,o_,?_⟩,?_,KD⟩
   ·have e:g≠y.1.f:=fun e=>by rw[<-e]at h;simp at h
    rw[Ox,List.contains_eq_any_beq,List.any_append,<-List.contains_eq_any_beq,M1];simp[e]
   exact Z7
 ·repeat' ((conv=>whnf);first|apply Wx|apply W6|apply oi|apply fi|intro h|refine⟨_,rfl,?_⟩|exact Y5|fail)
  rw[j5 o_]at M1;exact⟨by rw[M1];rfl⟩
def zI (C:Cx)(l:List Og):Prop:=∀t∈l,t.faa=7->∃f,findN C.p 0 t.fac=some f/\(argsN C.p f:Int)=t.far
structure Rm (C:Cx) (lev n:Nat) (S:Nat) (s:Gs) (d:Int):Prop where
 room:s.items.length+n*dx lev<=68719476736
 depth:((lev+S:Nat):Int)=C.b.faq
 low:0<=d
 high:d+(n:Int)+100*(lev:Int)<=1900
def NF (C:Cx)(lev:Nat):Prop:=∀(e:Ex) (x:Sc) (S:List (Sc×List Int)) (lv:List Int) (k p:Nat) (ln:NX) (s:Gs) (d:Int),e.ok->ScOk C x (bZ (S++[(x,lv)]))->C.p[k]?=some ln->jO ln.fae p e->zI C ln.fae->Rm C lev e.toks.length S.length s d->
 bf Try.prog 94 [iC,tI .i64 (k:Int),tI .i64 (p:Int)] (iy (0,0,1) (0,0,2) C s d (scH (S++[(x,lv)]))) (tI .i64 ((p+e.toks.length:Nat):Int)) (iy (1,0,1) (1,0,2) C (dJ C (bY C lev) x (bZ (S++[(x,lv)])) k e d s) (d+1) (scH (S++[(x,lv)])))
def Ju (C:Cx)(lev:Nat):Prop:=∀(x:Sc) (S:List (Sc×List Int)) (lv:List Int) (k g:Nat) (s:Gs) (d:Int),ScOk C x (bZ (S++[(x,lv)]))->k<C.p.length->bP C g->cK C (bZ (S++[(x,lv)])) g s.items.length=true->Rm C lev 1 S.length s (d-argsN C.p g)->
 bf Try.prog 100 [iC,tI .i64 (g:Int),tI .i64 (k:Int),scV x] (iy (0,0,1) (0,0,2) C s d (scH (S++[(x,lv)]))) (.tup []) (iy (1,0,1) (1,0,2) C (bY C lev x (bZ (S++[(x,lv)])) k g d s) (d-argsN C.p g+1) (scH (S++[(x,lv)])))
theorem rC {α:Type}[BEq α](l:List α)(s:α):-1<=dy l s/\dy l s<=l.length:=by
 unfold dy
 cases h:eQ l 0 s with
 | none=>simp only[cA];omega
 | some k=>have:=il h;simp only[cA];omega
theorem xP {C:Cx}(hC:CxOk C){k:Nat}{ln:NX}(hk:C.p[k]?=some ln):iv ln.fae/\ln.fac.length<=1048576:=by obtain⟨h1,_,_,_,h5⟩:=eY (bi hC.small (d4 hk));exact⟨fun t ht=>by have:=h5 t ht;omega,h1⟩
theorem CP (p:List NX)(g:Nat):iV p g<=g:=by unfold iV;have h1:=E1 (fun x:NX=>x.faa==0) (p.take g);have h2:=List.length_take_le g p;omega
theorem Ee {p:List NX}{i:Nat}{x:NX}(hx:p[i]?=some x):iV p (i+1)=iV p i+if x.faa=0 then 1 else 0:=by
 unfold iV;rw[z9,hx,F6,c7];by_cases h:x.faa=0
 ·simp[h]
 ·simp[h]
theorem V90{p:Prop}(h:p:=by
 repeat' ((conv=>whnf);first|apply Wx|apply W6|refine cg g1 ?_|apply oi|apply fi|intro h|refine⟨_,rfl,?_⟩|exact Y9|fail)):p:=h
theorem Dh {C:Cx}(hC:CxOk C){lev:Nat}(hR:Ju C lev):∀(n:Nat) (e:Ex),e.toks.length<=n->∀(x:Sc) (S:List (Sc×List Int)) (lv:List Int) (k p:Nat) (ln:NX) (s:Gs) (d:Int),e.ok->ScOk C x (bZ (S++[(x,lv)]))->C.p[k]?=some ln->jO ln.fae p e->zI C ln.fae->Rm C lev e.toks.length S.length s d->
  bf Try.prog 94 [iC,tI .i64 (k:Int),tI .i64 (p:Int)] (iy (0,0,1) (0,0,2) C s d (scH (S++[(x,lv)]))) (tI .i64 ((p+e.toks.length:Nat):Int)) (iy (1,0,1) (1,0,2) C (dJ C (bY C lev) x (bZ (S++[(x,lv)])) k e d s) (d+1) (scH (S++[(x,lv)])))
 | 0,e,hn,_,_,_,_,_,_,_,_,_,_,_,_,_,_=>by have:=e.toks_pos;omega
 | n+1,.node t es,hn,x,S,lv,k,p,ln,s,d,ho,hx,hk,hs,hca,hr=>by
  refine aw hΓ aK Try.func94 rfl d_ rfl rfl ?_;obtain⟨R9,Pn⟩:=xP hC hk;have L3:=lC hs;obtain⟨ht,TI⟩:=mr hs;obtain⟨e1,e2⟩:=zn ho.1;have N1:es.length=ar t:=ho.2.1;have hA:=jA t (R9 t (d4 ht));rw[e1,<-N1]at hA;have Rb:=hC.len;have Pk:=(hC.line _ _ hk).2.2.2.1;have Pf:(scH (S++[(x,lv)])).length=S.length+1:=s_;have L2:(scH (S++[(x,lv)]))[S.length]?=some (lJ x lv):=s_;have J3:S.length<(scH (S++[(x,lv)])).length:=o_;have O7:=hr.room;have Ou:=hr.depth;have hr3:=hr.low;have hr4:=hr.high;have hin:=hC.inl;have hw:IntKind.i64.wrap (((scH (S++[(x,lv)])).length:Int)-1)=(S.length:Int):=by rw[Pf,c9 _ o_];omega
  have htp:=Dj lev;rw[Ex.toks,d5]at hn L3 O7 hr4;rw[dJ];repeat' ((conv=>whnf);first|apply Wx|apply W6|apply oi|apply fi|intro h|refine⟨S.length,hw,J3,?_⟩|refine⟨_,L2,?_⟩|refine⟨k,ln.tr,rfl,ab hk,?_⟩|refine⟨p,t.tr,rfl,ab ht,?_⟩|refine cl hA ?_|refine⟨_,rfl,?_⟩|exact Y7|fail)
  conv=>whnf
  refine⟨{j:Nat//j<=es.length},fun q=>⟨[(0,iC),(1,tI .i64 (k:Int)),(2,tI .i64 ((p+1+(ak (es.take q.1)).length:Nat):Int)),(9,tI .i64 ((es.length-q.1:Nat):Int)),(7,.r (.c (.ptr (7,0,0) 0))),(8,.r (.c (.ptr (8,0,0) 0)))],
   [(
    (0,0,0),some (pL C (cp C (bY C lev) x (bZ (S++[(x,lv)])) k (es.take q.1) d s) (d+q.1) (7,0,1) (7,0,2))),((7,0,1),some (.dar 7 (itR (cp C (bY C lev) x (bZ (S++[(x,lv)])) k (es.take q.1) d s).items) none)),((7,0,2),some (.dar 6 (scH (S++[(x,lv)])) none)),
    ((7,0,0),some (.box [.t (.int .i64 (x.f:Int)),.t (.lst 1 (x.chain.map aa)),.t (.lst 1 (x.locals.map ax)),.t (.int .i64 x.first),.t (.bool x.outer),.opq])),((8,0,0),some (.box (t.tr.map .t)))],[8,7,0]⟩,fun q=>es.length-q.1,⟨0,o_⟩,?_,?_⟩
  ·repeat' ((conv=>whnf);first|apply Wx|apply W6|apply oi|apply fi|intro h|refine⟨_,rfl,?_⟩|exact Y7|fail)
   ·exact⟨congrArg (Tr.int _) (by rw[c9 _ o_];simp[ak])⟩
   ·exact⟨congrArg (Tr.int _) s_⟩
  intro⟨j,hj⟩;dsimp only at hj⊢;have hgr:=pt (C:=C) (x:=x) (ins:=bZ (S++[(x,lv)])) (line:=k) (lev:=lev) (fun g d s hg hr=>ir hC lev k g d s hx hg hr) (es.take j) d s;have U5:=hgr.le;have Vn:=dY es j;obtain⟨s1,UI⟩:∃s1,cp C (bY C lev) x (bZ (S++[(x,lv)])) k (es.take j) d s=s1:=⟨_,rfl⟩;rw[UI]at hgr U5⊢;by_cases WR:j<es.length
  ·obtain⟨a,ha⟩:=ae WR;have ZT:=fR ha;have Wq:=dY es (j+1);have Ow:=lZ ha
   have hjt:j<=(ak (es.take j)).length:=by
    have:∀(l:List Ex),l.length<=(ak l).length:=by
     intro l
     induction l with
     | nil=>simp
     | cons b l ih=>have:=b.toks_pos;rw[ak,c7,d5];omega
    have h2:=this (es.take j);rw[j9]at h2;omega
   have hm:=l6 (dx lev) (show(ak (es.take j)).length+a.toks.length<=(ak es).length+1 by omega);rw[o9]at hm;have hI:=Dh hC hR n a o_ x S lv k (p+1+(ak (es.take j)).length) ln s1 (d+j) (jK ho.2.2 ha) hx hk (jd TI ha) hca ⟨o_,Ou,o_,o_⟩;have Ox:=wP C (bY C lev) x (bZ (S++[(x,lv)])) k d s ha;rw[UI]at Ox;repeat' ((conv=>whnf);first|apply Wx|apply W6|apply oi|apply fi|intro h|refine⟨_,rfl,?_⟩|exact Y5|fail)
   refine cg (hI) ?_;repeat' ((conv=>whnf);first|apply Wx|apply W6|apply oi|apply fi|intro h|refine⟨_,rfl,?_⟩|exact Y7|fail)
   conv=>whnf
   refine⟨⟨j+1,o_⟩,?_,KD⟩;repeat' ((conv=>whnf);first|apply Wx|apply W6|apply oi|apply fi|intro h|refine⟨_,rfl,?_⟩|exact Y7|fail)
   all_goals try exact⟨by dsimp only;rw[Ox]⟩
   all_goals try exact⟨KW⟩
  ·have Uv:j=es.length:=o_;subst Uv;rw[D1]at UI U5 Vn⊢;have hT:(Ex.node t es).toks.length=(ak es).length+1:=by rw[Ex.toks,d5]
   rw[UI]
   have M2:s1.items.length+dx lev<=68719476736:=by
    have:((ak es).length+1)*dx lev=(ak es).length*dx lev+dx lev:=by rw[o9];omega
    omega
   have O0:x.chain.length<=100:=by have:=hx.chain;rw[show(bZ (S++[(x,lv)])).length=S.length+1 by simp]at this;omega
   have Q6:dS s1:=by unfold dS;omega
   obtain⟨k1,k2,k3⟩:=Ba ho.1;have Ym:=R9 t (d4 ht)
   have Vw:0<=x.first/\x.first<=1000:=by have:=hx.first;rw[show(bZ (S++[(x,lv)])).length=S.length+1 by simp]at this;omega
   obtain⟨ee,_,_,_,_,PF⟩:=hx.endE hC;rcases tk ho.1 with QR|Oy|Rf|VK
   ·have g1:=lf C s1 (d+es.length) (scH (S++[(x,lv)])) t.far k x.chain Q6 O0 o_;have hz:=k1 (.inl QR);unfold jv;rw[b9 QR];exact V90
   ·have g1:=CW C hC s1 (d+es.length) (scH (S++[(x,lv)])) x (dy x.locals t.fac) k Q6 O0 o_ Vw (by have:=rC x.locals t.fac;omega);have gI:=dA x.locals t.fac o_;have hz:=k1 (.inr Oy);unfold jv;rw[b8 o_,b9 Oy]
    generalize dy x.locals t.fac=ix at *
    repeat' ((conv=>whnf);first|apply Wx|apply W6|refine cg g1 ?_|apply oi|apply fi|intro h|refine cl gI ?_|refine⟨_,rfl,?_⟩|exact Y9|fail)
   ·obtain⟨f,hf,XE⟩:=hca t (d4 ht) Rf;obtain⟨L8,y,hy,Pa,_⟩:=eL hf;have Ps:bP C f:=⟨y,hy,Pa⟩;have Su:=k2 Rf;have gF:=cU C.p t.fac o_;rw[show kC C.p t.fac=(f:Int) from aZ hf]at gF;have g1:=uN C hC s1 (d+es.length) (S++[(x,lv)]) f Q6 (by simp;omega) L8;unfold jv;rw[b8 o_,b8 o_,b9 Rf,hf];dsimp only
    cases Uu:cK C (bZ (S++[(x,lv)])) f s1.items.length with
    | true=>
     have g2:=hR x S lv k f s1 (d+es.length) hx (aJ hk) Ps Uu ⟨o_,Ou,o_,o_⟩;rw[Uu]at g1;rw[b9 rfl]
     repeat' ((conv=>whnf);first|apply Wx|apply W6|refine cg g1 ?_|refine cg g2 ?_|apply oi|apply fi|intro h|refine cl gF ?_|refine⟨_,rfl,?_⟩|exact Y9|fail)
    | false=>
     rw[Uu]at g1;rw[b8 s_];have g2:=bV C s1 (d+es.length) (scH (S++[(x,lv)])) 12 (iV C.p f) k x.chain Q6 O0;repeat' ((conv=>whnf);first|apply Wx|apply W6|refine cg g1 ?_|apply oi|apply fi|intro h|refine cl gF ?_|refine⟨_,rfl,?_⟩|exact Y10|fail)
     conv=>whnf
     refine⟨{i:Nat//i<=f},fun q=>⟨[(0,iC),(1,tI .i64 (k:Int)),(2,tI .i64 ((p+1+(ak es).length:Nat):Int)),(10,tI .i64 (f:Int)),(11,tI .i64 (iV C.p q.1:Int)),(12,tI .i64 (q.1:Int)),(7,.r (.c (.ptr (7,0,0) 0))),(8,.r (.c (.ptr (8,0,0) 0)))],
      [(
       (0,0,0),some (pL C s1 (d+es.length) (7,0,1) (7,0,2))),((7,0,1),some (.dar 7 (itR s1.items) none)),((7,0,2),some (.dar 6 (scH (S++[(x,lv)])) none)),
       ((7,0,0),some (.box [.t (.int .i64 (x.f:Int)),.t (.lst 1 (x.chain.map aa)),.t (.lst 1 (x.locals.map ax)),.t (.int .i64 x.first),.t (.bool x.outer),.opq])),((8,0,0),some (.box (t.tr.map .t)))],[8,7,0]⟩,fun q=>f-q.1,⟨0,o_⟩,?_,?_⟩
     ·exact Z1
     intro⟨i,hi⟩;dsimp only at hi⊢;have Pp:=CP C.p i;by_cases hif:i<f
     ·obtain⟨z,hz⟩:=ae (l:=C.p) (k:=i) o_;have TO:=Ee hz;repeat' ((conv=>whnf);first|apply Wx|apply W6|apply oi|apply fi|intro h|refine⟨i,z.tr,rfl,ab hz,?_⟩|refine⟨_,rfl,?_⟩|exact Y5|fail)
      all_goals(conv=>whnf)
      all_goals(refine⟨⟨i+1,o_⟩,?_,KD⟩)
      repeat' ((conv=>whnf);first|apply Wx|apply W6|apply oi|apply fi|intro h|refine⟨_,rfl,?_⟩|exact Y8|fail)
      ·rw[b9 (by simpa using h)]at TO;all_goals try exact⟨KW⟩
      ·rw[b8 (by simpa using h)]at TO;all_goals try exact⟨KW⟩
     ·have Pi:i=f:=o_;subst Pi;repeat' ((conv=>whnf);first|apply Wx|apply W6|refine cg g2 ?_|apply oi|apply fi|intro h|refine⟨_,rfl,?_⟩|exact Y11|fail)
   ·have g1:=bV C s1 (d+es.length) (scH (S++[(x,lv)])) (5+t.faa-2) 0 k x.chain Q6 O0;have Zp:IntKind.i64.wrap (IntKind.i64.wrap (5+t.faa)-2)=5+t.faa-2:=by simp(disch:=omega)only[c9]
    rw[<-Zp]at g1;have hz:=k3 VK.1 VK.2;unfold jv;rw[b8 o_,b8 o_,b8 o_,<-Zp];exact V90
def Bi (C:Cx)(lev:Nat):Prop:=∀(x:Sc) (S:List (Sc×List Int)) (s:Gs) (d:Int),ScOk C x (bZ (S++[(x,[])]))->s.items.length+(cO C.p x.f-x.f)*(20*dx lev+3)<=68719476736->((lev+S.length:Nat):Int)=C.b.faq->0<=d->d+30+100*(lev:Int)<=1900->
 bf Try.prog 88 [iC] (iy (0,0,1) (0,0,2) C s d (scH (S++[(x,[])]))) (.tup []) (iy (1,0,1) (1,0,2) C (bv C (bY C lev) x (bZ (S++[(x,[])])) d s).1 d (scH (S++[(x,(bv C (bY C lev) x (bZ (S++[(x,[])])) d s).2)])))
theorem jY (S:List (Sc×List Int))(y:Sc×List Int):bZ (S++[y])=bZ S++[y.1.f]:=s_
theorem KF {C:Cx}(hC:CxOk C){lev:Nat}(hL:Bi C lev):Ju C (lev+1):=by
 intro x S lv k g s d hx hk hg Uu hr;refine aw hΓ aK Try.func100 rfl d_ rfl rfl ?_;obtain⟨r1,r2,r3,r4⟩:=fW Uu;obtain⟨y,hy,Pa⟩:=hg;have Rb:=hC.len;have hin:=hC.inl;have OC:=cX hC ⟨y,hy,Pa⟩;have hA:argsN C.p g=y.faj.length:=by rw[argsN,hy]
 have Xs:=fP C.p (g:Int) o_ (fun z hz=>bi hC.small hz);have Ql:=nN hC hx;have OH:(bZ (S++[(x,lv)])).length=S.length+1:=s_;rw[OH]at Ql r1;have RN:x.locals.length<=8:=by obtain⟨_,_,_,_,_,h⟩:=hx.endE hC;exact h
 have Vw:=hx.first;rw[OH]at Vw;have ha:=hC.args;have O0:=hx.chain;rw[OH]at O0;obtain⟨q1,q2,q3,q4⟩:=hr;have L8:=da (x.chain++[(k:Int)]);have UG:(y.faj.map ax).length=y.faj.length:=s_;have YI:(x.locals.map ax).length=x.locals.length:=s_;have M6:(x.chain.map aa).length=x.chain.length:=s_;have e1:IntKind.i64.wrap ((x.locals.length:Int)-C.args)=(x.locals.length:Int)-C.args:=by rw[c9 _ o_]
 have e2:IntKind.i64.wrap (x.first+(x.locals.length:Int))=x.first+x.locals.length:=by rw[c9 _ o_]
 repeat' ((conv=>whnf);first|(with_reducible apply W1;fail_if_success (with_reducible show Wo _ _ _ _ (Code.seq (Code.region 3 _ _) _) _ _))|(with_reducible first|apply W2|apply W3|apply W4|apply W5|apply W6|apply W7|apply W8|apply W9)|apply aq|apply oi|apply fi|intro h|refine⟨g,y.tr,rfl,ab hy,?_⟩|refine⟨_,rfl,?_⟩|exact Y7|fail)
 refine ou Unit (fun _=>⟨[(0,iC),(1,tI .i64 (g:Int)),(2,tI .i64 (k:Int)),(7,.r (.c (.ptr (7,0,0) 0))),(8,tI .i64 (argsN C.p g:Int)),(9,tI .i64 (bz C x))],
  [(
   (0,0,0),some (pL C s d (0,0,1) (0,0,2))),((0,0,1),some (.dar 7 (itR s.items) none)),((0,0,2),some (.dar 6 (scH (S++[(x,lv)])) none)),
   ((7,0,0),some (.box [.t (.int .i64 (x.f:Int)),.t (.lst 1 (x.chain.map aa)),.t (.lst 1 (x.locals.map ax)),.t (.int .i64 x.first),.t (.bool x.outer),.opq]))],[7,0]⟩) ?_ ?_
 ·repeat' ((conv=>whnf);first|apply Wx|apply W6|apply oi|apply fi|intro h|refine⟨_,rfl,?_⟩|exact Y7|fail)
  all_goals(conv=>whnf)
  all_goals(refine⟨(),?_⟩)
  repeat' ((conv=>whnf);first|apply Wx|apply W6|apply oi|apply fi|intro h|refine⟨_,rfl,?_⟩|exact Y7|fail)
  all_goals(refine⟨congrArg (Tr.int _) ?_⟩)
  all_goals try(rw[UG,hA];done)
  all_goals(unfold bz;rw[YI])
  all_goals first|(rw[b9 (by assumption)];exact e1)|(rw[b8 (by simp_all)];exact e2)
 intro _;repeat' ((conv=>whnf);first|(with_reducible apply W1;fail_if_success (with_reducible show Wo _ _ _ _ (Code.region 7 _ _) _ _))|(with_reducible first|apply W2|apply W3|apply W4|apply W5|apply W6|apply W7|apply W8|apply W9)|apply aq|apply oi|apply fi|intro h|refine cl Xs ?_|refine⟨_,rfl,?_⟩|exact Y7|fail)
 all_goals try exact⟨⟨by simp<;>omega,by simp<;>omega⟩⟩
 conv=>whnf
 refine wE ⟨[(0,iC),(1,tI .i64 (g:Int)),(2,tI .i64 (k:Int)),(7,.r (.c (.ptr (7,0,0) 0))),(8,tI .i64 (argsN C.p g:Int)),(9,tI .i64 (bz C x)),(10,.r (.c (.ptr (10,0,0) 0)))],
  [(
   (0,0,0),some (pL C s d (0,0,1) (0,0,2))),((0,0,1),some (.dar 7 (itR s.items) none)),((0,0,2),some (.dar 6 (scH (S++[(x,lv)])) none)),
   ((7,0,0),some (.box [.t (.int .i64 (x.f:Int)),.t (.lst 1 (x.chain.map aa)),.t (.lst 1 (x.locals.map ax)),.t (.int .i64 x.first),.t (.bool x.outer),.opq])),
   ((10,0,0),some (.box [.t (.int .i64 (g:Int)),.t (.lst 1 ((x.chain++[(k:Int)]).map aa)),.t (.lst 1 ((localsOf C.p (g:Int)).map ax)),.t (.int .i64 (bz C x)),.t (.bool false),.nils 1]))],_⟩ ?_ ?_ rfl ?_
 ·exact⟨.inl rfl,.inl rfl,.inl rfl,.inl rfl,.inl rfl,.inl rfl,.inl rfl,trivial⟩
 ·refine⟨.inr (.inl rfl),.inr (.inl rfl),.inr (.inl rfl),.inr (.inl rfl),.inr (.inr (.inl ⟨_,_,rfl,rfl,.inl rfl,.inr (.inr ⟨_,rfl,?_,?_⟩),.inr (.inr ⟨_,rfl,rfl,?_⟩),.inl rfl,.inl rfl,.inr (.inl ⟨_,_,rfl,rfl⟩),trivial⟩)),trivial⟩
  ·show Tr.lst 1 _=Tr.lst 1 ([]++List.map aa x.chain++[[Tr.int .i64 (k:Int)]]);simp[aa]
  all_goals(intro q hq;simp only[AC.ids,d7,l8,or_false]at hq;subst hq;rfl)
 have PF:((localsOf C.p (g:Int)).map ax).length=(localsOf C.p (g:Int)).length:=s_;have em:IntKind.i64.wrap (bz C x+(((localsOf C.p (g:Int)).map ax).length:Int))=bz C x+((localsOf C.p (g:Int)).length:Int):=by rw[PF,c9 _ o_]
 obtain⟨s0,Wv⟩:∃s0:Gs,(⟨s.items,max s.most (bz C x+(localsOf C.p (g:Int)).length),s.start⟩:Gs)=s0:=⟨_,rfl⟩;have z1:s.items=s0.items:=by rw[<-Wv]
 have z2:max s.most (bz C x+(localsOf C.p (g:Int)).length)=s0.most:=by rw[<-Wv]
 have z3:s.start=s0.start:=by rw[<-Wv]
 obtain⟨Y,hY⟩:∃Y,bS C x k g=Y:=⟨_,rfl⟩;obtain⟨T1,hT1⟩:∃T1,bR C (bS C x k g) x.chain k (argsN C.p g) d s0=T1:=⟨_,rfl⟩;repeat' ((conv=>whnf);first|apply Wx|apply W6|apply oi|apply fi|intro h|refine⟨_,rfl,?_⟩|exact Y7|fail)
 conv=>whnf
 refine⟨{q:Nat×Gs//q.1<=argsN C.p g/\bR C (bS C x k g) x.chain k q.1 (d-((argsN C.p g-q.1:Nat):Int)) q.2=T1/\q.2.items.length<=300-q.1},fun q=>⟨[(0,iC),(1,tI .i64 (g:Int)),(2,tI .i64 (k:Int)),(7,.r (.c (.ptr (7,0,0) 0))),(8,tI .i64 (argsN C.p g:Int)),(10,.r (.c (.ptr (10,0,0) 0))),(11,tI .i64 ((q.1.1:Int)-1))],
  [(
   (0,0,0),some (pL C q.1.2 (d-((argsN C.p g-q.1.1:Nat):Int)) (7,0,1) (7,0,2))),((7,0,1),some (.dar 7 (itR q.1.2.items) none)),((7,0,2),some (.dar 6 (scH (S++[(x,lv)])) none)),
   ((7,0,0),some (.box [.t (.int .i64 (x.f:Int)),.t (.lst 1 (x.chain.map aa)),.t (.lst 1 (x.locals.map ax)),.t (.int .i64 x.first),.t (.bool x.outer),.opq])),
   ((10,0,0),some (.box [.t (.int .i64 (g:Int)),.t (.lst 1 ((x.chain++[(k:Int)]).map aa)),.t (.lst 1 ((localsOf C.p (g:Int)).map ax)),.t (.int .i64 (bz C x)),.t (.bool false),.nils 1]))],[10,7,0]⟩,fun q=>q.1.1,⟨(argsN C.p g,s0),g_,by rw[<-hT1];simp,by dsimp only;rw[<-z1];omega⟩,?_,?_⟩
 ·repeat' ((conv=>whnf);first|apply Wx|apply W6|apply oi|apply fi|intro h|refine⟨_,rfl,?_⟩|exact Y7|fail)
  all_goals try exact⟨by rw[z1]⟩
  all_goals try exact⟨by rw[z3]⟩
  all_goals try exact⟨congrArg itR z1⟩
  all_goals try exact⟨congrArg (Tr.int _) (by rw[em];exact z2)⟩
  all_goals try exact⟨KW⟩
 intro⟨⟨m,t⟩,hm,ht,Ym⟩;dsimp only at hm ht Ym⊢
 cases m with
 | succ m=>
  have g1:=mb C hC t (d-((argsN C.p g-(m+1):Nat):Int)) (scH (S++[(x,lv)])) (bS C x k g) m k x.chain (by unfold dS;omega) o_ o_ (by show 0<=bz C x/\bz C x<=1000;omega) o_;rw[bR]at ht;rw[show((m+1:Nat):Int)-1=(m:Int) by omega];repeat' ((conv=>whnf);first|apply Wx|apply W6|refine cg g1 ?_|apply oi|apply fi|intro h|refine⟨_,rfl,?_⟩|exact Y5|fail)
  conv=>whnf
  refine⟨⟨(m,dL C (bS C x k g) t (d-((argsN C.p g-(m+1):Nat):Int)) m k x.chain),g_,by rw[<-ht];dsimp only;congr 1;omega,by dsimp only;simp only[dL,aI,c7,d5,gt];omega⟩,?_,KD⟩
  exact Z7
 | zero=>
  have e0:t=T1:=by rw[<-ht];rfl
  subst e0;have ed:d-((argsN C.p g-0:Nat):Int)=d-argsN C.p g:=by rw[x5]
  rw[ed];obtain⟨T2,ZH⟩:∃T2,cL C (bS C x k g) x.chain k (d-argsN C.p g) ((localsOf C.p (g:Int)).length-argsN C.p g) (argsN C.p g) t=T2:=⟨_,rfl⟩;repeat' ((conv=>whnf);first|apply Wx|apply W6|apply oi|apply fi|intro h|refine⟨_,rfl,?_⟩|exact Y5|fail)
  conv=>whnf
  refine⟨{q:Nat×Gs//q.1<=(localsOf C.p (g:Int)).length/\cL C (bS C x k g) x.chain k (d-argsN C.p g) ((localsOf C.p (g:Int)).length-q.1) q.1 q.2=T2/\q.2.items.length<=400-2*((localsOf C.p (g:Int)).length-q.1)},fun q=>⟨[(0,iC),(1,tI .i64 (g:Int)),(2,tI .i64 (k:Int)),(7,.r (.c (.ptr (7,0,0) 0))),(10,.r (.c (.ptr (10,0,0) 0))),(12,tI .i64 (q.1.1:Int))],
   [(
    (0,0,0),some (pL C q.1.2 (d-argsN C.p g) (7,0,1) (7,0,2))),((7,0,1),some (.dar 7 (itR q.1.2.items) none)),((7,0,2),some (.dar 6 (scH (S++[(x,lv)])) none)),
    ((7,0,0),some (.box [.t (.int .i64 (x.f:Int)),.t (.lst 1 (x.chain.map aa)),.t (.lst 1 (x.locals.map ax)),.t (.int .i64 x.first),.t (.bool x.outer),.opq])),
    ((10,0,0),some (.box [.t (.int .i64 (g:Int)),.t (.lst 1 ((x.chain++[(k:Int)]).map aa)),.t (.lst 1 ((localsOf C.p (g:Int)).map ax)),.t (.int .i64 (bz C x)),.t (.bool false),.nils 1]))],[10,7,0]⟩,fun q=>(localsOf C.p (g:Int)).length-q.1.1,⟨(argsN C.p g,t),g_,ZH,g_⟩,?_,?_⟩
  ·exact Z1
  intro⟨⟨i,u⟩,hi,hu,Vk⟩;dsimp only at hi hu Vk⊢;by_cases aa1:i<(localsOf C.p (g:Int)).length
  ·obtain⟨c,hc⟩:∃c,(localsOf C.p (g:Int)).length-i=c+1:=⟨(localsOf C.p (g:Int)).length-i-1,o_⟩;rw[hc,cL]at hu;have g1:=lf C u (d-argsN C.p g) (scH (S++[(x,lv)])) 0 k x.chain (by unfold dS;omega) o_ o_;have g2:=mb C hC (aI C u (d-argsN C.p g) 0 0 k x.chain) (d-argsN C.p g+1) (scH (S++[(x,lv)])) (bS C x k g) i k x.chain (by unfold dS aI;simp only[c7,d5,gt];omega) o_ o_ (by show 0<=bz C x/\bz C x<=1000;omega) o_;repeat' ((conv=>whnf);first|apply Wx|apply W6|refine cg g1 ?_|refine cg g2 ?_|apply oi|apply fi|intro h|refine⟨_,rfl,?_⟩|exact Y5|fail)
   conv=>whnf
   refine⟨⟨(i+1,dL C (bS C x k g) (aI C u (d-argsN C.p g) 0 0 k x.chain) (d-argsN C.p g+1) i k x.chain),g_,by rw[<-hu];dsimp only;rw[show(localsOf C.p (g:Int)).length-(i+1)=c by omega],by dsimp only;simp only[dL,aI,c7,d5,gt];omega⟩,?_,KD⟩;exact Z7
  ·have Pi:i=(localsOf C.p (g:Int)).length:=o_;subst Pi;rw[v5,cL]at hu;subst hu;have OJ:eS C x k g d s=u:=by rw[eS,Wv,hT1,ZH]
   repeat' ((conv=>whnf);first|(with_reducible apply W1;fail_if_success (with_reducible show Wo _ _ _ _ (Code.seq (Code.region 17 _ _) _) _ _))|(with_reducible first|apply W2|apply W3|apply W4|apply W5|apply W6|apply W7|apply W8|apply W9)|apply aq|apply oi|apply fi|intro h|refine⟨_,rfl,?_⟩|exact Y5|fail)
   obtain⟨v,hv⟩:∃v,ck C x k (d-argsN C.p g) u=v:=⟨_,rfl⟩;have OK:v.items.length<=500:=by rw[<-hv,ck];split<;>first|(simp[aI];omega)|omega
   refine ou Unit (fun _=>⟨[(0,iC),(1,tI .i64 (g:Int)),(2,tI .i64 (k:Int)),(7,.r (.c (.ptr (7,0,0) 0))),(10,.r (.c (.ptr (10,0,0) 0)))],
    [(
     (0,0,0),some (pL C v (d-argsN C.p g) (7,0,1) (7,0,2))),((7,0,1),some (.dar 7 (itR v.items) none)),((7,0,2),some (.dar 6 (scH (S++[(x,lv)])) none)),
     ((10,0,0),some (.box [.t (.int .i64 (g:Int)),.t (.lst 1 ((x.chain++[(k:Int)]).map aa)),.t (.lst 1 ((localsOf C.p (g:Int)).map ax)),.t (.int .i64 (bz C x)),.t (.bool false),.own (10,0,1)])),((10,0,1),some (.arr true 1 []))],[10,7,0]⟩) ?_ ?_
   ·have g3:=bV C u (d-argsN C.p g) (scH (S++[(x,lv)])) 15 0 k x.chain (by unfold dS;omega) o_;unfold ck at hv
    cases N8:u.start with
    | true=>
     rw[b9 N8]at hv;subst hv;repeat' ((conv=>whnf);first|apply Wx|apply W6|refine cg g3 ?_|apply oi|apply fi|intro h|refine⟨_,rfl,?_⟩|exact Y7|fail)
     ·conv=>whnf
      refine⟨(),?_⟩;exact Z1
     ·exfalso;simp_all
    | false=>
     rw[b8 (by simp[N8])]at hv;subst hv;repeat' ((conv=>whnf);first|apply Wx|apply W6|refine cg g3 ?_|apply oi|apply fi|intro h|refine⟨_,rfl,?_⟩|exact Y7|fail)
     ·exfalso;simp_all
     ·conv=>whnf
      refine⟨(),?_⟩;exact Z1
   intro _;have UR:ScOk C (bS C x k g) (bZ ((S++[(x,lv)])++[(bS C x k g,[])])):=by rw[jY];exact jz hC hx k ⟨y,hy,Pa⟩
   obtain⟨ye,ye1,ye2,ye3,ye4,_⟩:=UR.endE hC
   have hye:cO C.p (bS C x k g).f-(bS C x k g).f<=9:=by
    rw[ye4];have:bT C.p (g:Int)=(ye:Int):=by rw[bA];exact aZ ye1
    show ye-g<=9;omega
   have h3:=Fl (n:=lev) o_
   have hgL:=hL (bS C x k g) (S++[(x,lv)]) v (d-argsN C.p g) UR (by
    have:=A1 hye (show 20*dx lev+3<=20*8679837+3 by omega)
    omega) (by simp only[c7,d5,gt];omega) q3 o_
   have Pf:(scH (S++[(x,lv)])).length=S.length+1:=s_;obtain⟨r,hr⟩:∃r,bv C (bY C lev) (bS C x k g) (bZ ((S++[(x,lv)])++[(bS C x k g,[])])) (d-argsN C.p g) v=r:=⟨_,rfl⟩;rw[hr]at hgL;have Rw:(scH ((S++[(x,lv)])++[(bS C x k g,r.2)])).length=S.length+2:=s_;have Pe:IntKind.i64.wrap (((scH ((S++[(x,lv)])++[(bS C x k g,r.2)])).length:Int)-1)=((S.length+1:Nat):Int):=by rw[Rw,c9 _ o_];omega
   have Qv:S.length+1<(scH ((S++[(x,lv)])++[(bS C x k g,r.2)])).length:=o_;have Tf:(scH ((S++[(x,lv)])++[(bS C x k g,r.2)]))[S.length+1]?=some (lJ (bS C x k g) r.2):=s_;have Yx:=da r.2;repeat' ((conv=>whnf);first|(with_reducible apply W1;fail_if_success (with_reducible show Wo _ _ _ _ (Code.region 23 _ _) _ _))|(with_reducible first|apply W2|apply W3|apply W4|apply W5|apply W6|apply W7|apply W8|apply W9)|apply aq|refine cg hgL ?_|apply oi|apply fi|intro h|refine⟨S.length+1,Pe,Qv,?_⟩|refine⟨_,Tf,?_⟩|refine⟨_,rfl,?_⟩|exact Y7|fail)
   all_goals try exact⟨⟨by rw[Pf];simp<;>omega,by rw[Pf];simp<;>omega⟩⟩
   all_goals try exact⟨Yx⟩
   all_goals try exact⟨by simp[bS,aa]⟩
   conv=>whnf
   refine wE ⟨[(0,iC),(13,tI .i64 (d-argsN C.p g)),(14,.r (.c (.t (.lst 1 (r.2.map aa)))))],
    [((0,0,0),some (pL C r.1 (d-argsN C.p g) (127,0,1) (127,0,2))),((127,0,1),some (.dar 7 (itR r.1.items) none)),((127,0,2),some (.dar 6 ((scH ((S++[(x,lv)])++[(bS C x k g,r.2)])).set (S.length+1) ((lJ (bS C x k g) r.2).set 5 (.t (.lst 1 (r.2.map aa))))) none))],_⟩ ?_ ?_ rfl ?_
   ·refine⟨.inl rfl,.inl rfl,.inr (.inl ⟨_,_,rfl,rfl,.inr (.inr ⟨_,rfl,rfl,?_⟩)⟩),trivial⟩;intro q hq;simp only[AC.ids,d7,l8,or_false]at hq;subst hq;rfl
   ·exact⟨.inr (.inl rfl),.inr (.inl rfl),.inr (.inr (.inr ⟨_,_,_,_,_,_,_,rfl,Tf,d_,rfl,rfl,rfl⟩)),trivial⟩
   have XY:((scH ((S++[(x,lv)])++[(bS C x k g,r.2)])).set (S.length+1) ((lJ (bS C x k g) r.2).set 5 (.t (.lst 1 (r.2.map aa))))).length=S.length+2:=by rw[o8];exact Rw
   have hw4:IntKind.i64.wrap ((((scH ((S++[(x,lv)])++[(bS C x k g,r.2)])).set (S.length+1) ((lJ (bS C x k g) r.2).set 5 (.t (.lst 1 (r.2.map aa))))).length:Int)-1)=((S.length+1:Nat):Int):=by rw[XY,c9 _ o_];omega
   have VU:S.length+1<=((scH ((S++[(x,lv)])++[(bS C x k g,r.2)])).set (S.length+1) ((lJ (bS C x k g) r.2).set 5 (.t (.lst 1 (r.2.map aa))))).length:=o_
   have L7:((scH ((S++[(x,lv)])++[(bS C x k g,r.2)])).set (S.length+1) ((lJ (bS C x k g) r.2).set 5 (.t (.lst 1 (r.2.map aa))))).take (S.length+1)=scH (S++[(x,lv)]):=by rw[G9 (d6 _),<-x9,List.take_left' s_]
   have OY:(r.2.map aa).length=r.2.length:=s_;have SP:=GC (lev:=lev) (rep:=bY C lev) (fun line g d s hg hr=>ir hC lev line g d s UR hg hr) hC UR (d-argsN C.p g) v;have Wp:=nC (lev:=lev) (rep:=bY C lev) (fun line g d s hg hr=>ir hC lev line g d s UR hg hr) hC UR (d-argsN C.p g) v;rw[hr]at SP Wp;have abz:=Wp.le;obtain⟨Yi,SP⟩:=SP;have Uz:=A1 hye (show 20*dx lev+3<=20*8679837+3 by omega);repeat' ((conv=>whnf);first|apply Wx|apply W6|apply oi|apply fi|intro h|refine⟨S.length+1,hw4,VU,?_⟩|refine⟨_,rfl,?_⟩|exact Y7|fail)
   conv=>whnf
   refine⟨{i:Nat//i<=r.2.length},fun q=>⟨[(0,iC),(13,tI .i64 (d-argsN C.p g)),(14,.r (.c (.t (.lst 1 (r.2.map aa))))),(15,tI .i64 (q.1:Int))],
    [((0,0,0),some (pL C r.1 (d-argsN C.p g) (127,0,1) (127,0,2))),((127,0,1),some (.dar 7 (itR (patchL r.1.items r.1.items.length (r.2.take q.1))) none)),((127,0,2),some (.dar 6 (scH (S++[(x,lv)])) none))],[127,0]⟩,fun q=>r.2.length-q.1,⟨0,o_⟩,?_,?_⟩
   ·repeat' ((conv=>whnf);first|apply Wx|apply W6|apply oi|apply fi|intro h|refine⟨_,rfl,?_⟩|exact Y7|fail)
    all_goals first|exact⟨VU⟩|exact⟨L7⟩
   intro⟨i,hi3⟩;dsimp only at hi3⊢;have PQ:=fY (r.1.items.length:Int) (r.2.take i) r.1.items;have VG:(itR (patchL r.1.items r.1.items.length (r.2.take i))).length=r.1.items.length:=by rw[kU,PQ]
   by_cases UJ:i<r.2.length
   ·obtain⟨j,hj⟩:=ae UJ;obtain⟨j1,j2⟩:=SP j (d4 hj);obtain⟨jn,rfl⟩:=j8 j1;have OM:jn<(itR (patchL r.1.items r.1.items.length (r.2.take i))).length:=by rw[VG];omega
    obtain⟨it,OS⟩:=ae (l:=patchL r.1.items r.1.items.length (r.2.take i)) (k:=jn) (by rw[PQ];omega);have Ox:r.2.take (i+1)=r.2.take i++[(jn:Int)]:=by rw[z9,hj];rfl
    have UU:=tQ r.1.items.length (jn:Int) (r.2.take i) r.1.items;repeat' ((conv=>whnf);first|apply Wx|apply W6|apply oi|apply fi|intro h|refine⟨i,(aa jn),rfl,ab hj,?_⟩|refine⟨jn,rfl,OM,?_⟩|refine⟨_,(Gc OS),?_⟩|refine⟨_,rfl,?_⟩|exact Y5|fail)
    conv=>whnf
    refine⟨⟨i+1,o_⟩,?_,KD⟩;repeat' ((conv=>whnf);first|apply Wx|apply W6|apply oi|apply fi|intro h|refine⟨_,rfl,?_⟩|exact Y8|fail)
    all_goals(refine⟨?_⟩;rw[VG];dsimp only;rw[Ox,UU,xh OS];rfl)
   ·have Pi:i=r.2.length:=o_;subst Pi;have QN:bv C (bY C lev) (bS C x k g) (bZ (S++[(x,lv)])++[g]) (d-argsN C.p g) v=r:=(congrArg (fun l=>bv C (bY C lev) (bS C x k g) l (d-argsN C.p g) v) (by simp[bS])).trans hr
    have Ov:bY C (lev+1) x (bZ (S++[(x,lv)])) k g d s=⟨patchL r.1.items r.1.items.length r.2,r.1.most,r.1.start⟩:=by show kO C (bv C (bY C lev)) x (bZ (S++[(x,lv)])) k g d s=_;unfold kO;rw[OJ,hv,QN]
    rw[Ov];rw[D1];repeat' ((conv=>whnf);first|apply Wx|apply W6|apply oi|apply fi|intro h|refine⟨_,rfl,?_⟩|exact Y5|fail)
    all_goals try exact⟨congrArg (fun z:Gs=>Tr.bool z.start) Ov.symm⟩
    all_goals try exact⟨congrArg (fun z:Gs=>itR z.items) Ov.symm⟩
    all_goals try exact⟨congrArg (fun z:Gs=>Tr.int .i64 z.most) Ov.symm⟩
    all_goals try exact⟨KW⟩
theorem V15{p:Prop}(h:p:=by
 repeat' ((conv=>whnf);first|apply Wx|apply W6|refine cg gEm ?_|apply oi|apply fi|intro h|refine cl gEn ?_|refine⟨(ownOf C.p k),y.tr,rfl,ab hy,?_⟩|refine⟨ownOf C.p k,rfl,P5,?_⟩|refine⟨_,UO,?_⟩|refine⟨_,rfl,?_⟩|exact Y10|fail)
 all_goals try(exfalso;simp at h;done)
 conv=>whnf
 refine⟨⟨ownOf C.p k+1,o_,o_⟩,?_,KD⟩;repeat' ((conv=>whnf);first|apply Wx|apply W6|apply oi|apply fi|intro h|refine⟨_,rfl,?_⟩|exact Y8|fail)
 all_goals(refine⟨?_⟩;dsimp only;rw[b9 o_,a1])):p:=h
theorem HH {C:Cx}(hC:CxOk C){lev:Nat}(hE:NF C lev):Bi C lev:=by
 intro x S s d hx M2 PB SL VE;refine aw hΓ aK Try.func88 rfl d_ rfl rfl ?_;rw[jY]at hx;rw[jY];dsimp only at hx⊢;obtain⟨e,he,Ul,N1,P4,PF⟩:=hx.endE hC;have Rb:=hC.len;have hin:=hC.inl;have Pf:∀lv:List Int,(scH (S++[(x,lv)])).length=S.length+1:=fun lv=>s_;have L2:∀lv:List Int,(scH (S++[(x,lv)]))[S.length]?=some (lJ x lv):=fun lv=>s_;have J3:∀lv:List Int,S.length<(scH (S++[(x,lv)])).length:=fun lv=>by rw[Pf];omega
 have hw:∀lv:List Int,IntKind.i64.wrap (((scH (S++[(x,lv)])).length:Int)-1)=(S.length:Int):=fun lv=>by rw[Pf,c9 _ o_];omega
 have gE:=bB C.p (x.f:Int) o_;rw[show bT C.p (x.f:Int)=(e:Int) by rw[bA];exact aZ he]at gE;have PQ:(C.p.map NX.tr).length=C.p.length:=s_;have TC:(((C.p.map NX.tr).length:Nat):Int)=(C.p.length:Int):=by rw[PQ]
 have Sv:C.p.length<=9223372036854775807:=o_;have hm3:C.p.length*8<=140737488355328:=o_;have h3:=Fl (n:=lev) o_
 have O0:x.chain.length<=100:=by have:=hx.chain;rw[c7,e8]at this;simp only[d5,gt]at this;omega
 have Vw:0<=x.first/\x.first<=1000:=by have:=hx.first;rw[c7,e8]at this;simp only[d5,gt]at this;omega
 obtain⟨R,hR⟩:∃R,fF C (bY C lev) x (bZ S++[x.f]) d (e+1-(x.f+1)) (x.f+1) (dc C s)=R:=⟨_,rfl⟩
 have Ov:bv C (bY C lev) x (bZ S++[x.f]) d s=(R.g,R.lv):=by unfold bv;rw[P4,show e-x.f=e+1-(x.f+1) by omega,hR]
 rw[Ov];rw[P4]at M2;have R6:LInv C lev x (bZ S++[x.f]) d e R (x.f+1) (dc C s):=⟨d6 _,o_,by simp[dc],by simp[dc],fun i h1 h2=>by omega,⟨by simp[dc],fun j hj=>by simp[dc]at hj⟩,by rw[show e+1-(x.f+1)=e-x.f by omega];exact M2,hR⟩;repeat' ((conv=>whnf);first|apply Wx|apply W6|apply oi|apply fi|intro h|refine⟨S.length,hw [],J3 [],?_⟩|refine⟨_,L2 [],?_⟩|refine cl gE ?_|refine⟨C.p.length,TC,TC,Sv,hm3,?_⟩|refine⟨_,rfl,?_⟩|exact Y7|fail)
 conv=>whnf
 refine⟨{q:Nat×Ls×List NW//LInv C lev x (bZ S++[x.f]) d e R q.1 q.2.1/\q.2.2.length=q.2.1.g.items.length/\(q.1<=e->dk q.2.2 q.2.2.length (q.1:Int) (bq C.p q.2.1.pos (x.f+1) (q.1-(x.f+1)))=q.2.1.g.items)/\(q.1=e+1->q.2.2=q.2.1.g.items)},
  fun q=>⟨[(0,iC),(2,tI .i64 (x.f:Int)),(3,yn x.chain),(4,tI .i64 (e:Int)),(5,.r (.c (.own (5,0,0)))),(6,.r (.c (.own (6,0,0)))),(7,tI .i64 (q.1.1:Int))],
   [((0,0,0),some (pL C ⟨q.1.2.2,q.1.2.1.g.most,q.1.2.1.g.start⟩ d (5,0,1) (5,0,2))),((5,0,1),some (.dar 7 (itR q.1.2.2) none)),((5,0,2),some (.dar 6 (scH (S++[(x,q.1.2.1.lv)])) none)),((5,0,0),some (.arr false 1 (q.1.2.1.heads.map aa))),((6,0,0),some (.arr false 2 ((bq C.p q.1.2.1.pos (x.f+1) (q.1.1-(x.f+1))).map ni)))],[6,5,0]⟩,
  fun q=>e+1-q.1.1,⟨(x.f+1,dc C s,s.items),R6,rfl,fun _=>by rw[v5];rfl,fun _=>rfl⟩,?_,?_⟩
 ·repeat' ((conv=>whnf);first|apply Wx|apply W6|apply oi|apply fi|intro h|refine⟨_,rfl,?_⟩|exact Y8|fail)
  ·exact⟨by simp[dc,aa]⟩
  ·exact⟨by dsimp only;rw[v5];rfl⟩
 intro⟨⟨k,L,u⟩,hI,Vk,Vq,TR⟩;dsimp only at hI Vk Vq TR⊢;by_cases M9:k<=e
 ·obtain⟨ln,hl⟩:=ae (l:=C.p) (k:=k) o_;have h0:=ga hC hx he hI.lo M9 hl;obtain⟨QR,Rf,_,Pk,SY⟩:=hC.line _ _ hl;obtain⟨R9,Pn⟩:=xP hC hl;have Tm:=hI.lo;have hIr:=hI.room;have hIh:=hI.heads;have hIp:=hI.pos;have Yi:=hI.lv.1
  have XR:L.g.items.length+20*dx lev+3<=68719476736:=by obtain⟨n,hn⟩:∃n,e+1-k=n+1:=⟨e-k,o_⟩;rw[hn,o9]at hIr;omega
  have RZ:=pB C.p L.pos (x.f+1) (k-(x.f+1))
  have VN:∀z∈bq C.p L.pos (x.f+1) (k-(x.f+1)),0<=z.2/\z.2<(L.g.items.length:Int):=fun z hz=>by
   obtain⟨i,i1,i2,i3,rfl⟩:=my hz;exact hI.at_ i o_ o_ i3
  have gP:=qJ C ⟨u,L.g.most,L.g.start⟩ d (scH (S++[(x,L.lv)])) (bq C.p L.pos (x.f+1) (k-(x.f+1))) k (by unfold dS;dsimp only;omega) o_ (by dsimp only;rw[Vk];exact VN);rw[Vq M9]at gP;obtain⟨A,hA⟩:∃A,cZ C (bY C lev) x (bZ S++[x.f]) d k ln L=A:=⟨_,rfl⟩;have hN:=LInv.next hC hx he hI M9 hl;rw[hA]at hN;obtain⟨Ux,TW⟩:=EK hC hx he Tm M9 hl A;obtain⟨b1,b2,b3,b4,b5,b6⟩:=xl (C:=C) (x:=x) k ln A;have hQ:LInv C lev x (bZ S++[x.f]) d e R (k+1) (bJ C x k ln A)/\A.g.items.length=(bJ C x k ln A).g.items.length/\(k+1<=e->dk A.g.items A.g.items.length ((k+1:Nat):Int) (bq C.p (bJ C x k ln A).pos (x.f+1) (k+1-(x.f+1)))=(bJ C x k ln A).g.items)/\(k+1=e+1->A.g.items=(bJ C x k ln A).g.items):=⟨hN,b4.symm,fun h=>by rw[b2];exact Ux h,fun h=>TW o_⟩;have WJ:k<(L.heads.map aa).length:=by rw[e8,hIh];omega
  have Q6:dS L.g:=by unfold dS;omega
  have Ra:=kU L.g.items
  have YO:ln.faa≠7->k<e:=fun h=>by
   rcases Nat.lt_or_eq_of_le M9 with h'|h'
   ·exact h'
   ·subst h';obtain⟨z,hz,hz7⟩:=bp he;rw[hl]at hz;injection hz with hz;subst hz;exact absurd hz7 h
  have OQ:ln.faa≠7->zI C ln.fae:=fun h=>by
   obtain⟨l0,q1,q2⟩:=hx.fn;obtain⟨e',q3,_,_,q4⟩:=hC.fn _ _ q1 q2;rw[he]at q3;injection q3 with q3;subst q3;exact(q4 k ln o_ (YO h) hl).2.1
  obtain⟨g1,SV⟩:∃g1,dJ C (bY C lev) x (bZ S++[x.f]) k (exL ln.fae) d ⟨L.g.items,L.g.most,true⟩=g1:=⟨_,rfl⟩
  have hX:bh ln.fae=true->ln.faa≠7->bf Try.prog 94 [iC,tI .i64 (k:Int),tI .i64 (0:Int)] (iy (0,0,1) (0,0,2) C ⟨L.g.items,L.g.most,true⟩ d (scH (S++[(x,L.lv)]))) (tI .i64 ((0+(exL ln.fae).toks.length:Nat):Int)) (iy (1,0,1) (1,0,2) C g1 (d+1) (scH (S++[(x,L.lv)]))):=fun Qs hx7=>by
   obtain⟨eo,et⟩:=nF Qs;have Yy:(exL ln.fae).toks.length<=20:=by rw[<-et];exact Pk
   have hmu:=l6 (dx lev) Yy;have:=hE (exL ln.fae) x S L.lv k 0 ln ⟨L.g.items,L.g.most,true⟩ d eo (by rw[jY];exact hx) hl ⟨[],by rw[A8,m9];exact et⟩ (OQ hx7) ⟨g_,PB,SL,o_⟩;rw[jY]at this;dsimp only at this;rw[SV]at this;exact this
  have hG:bh ln.fae=true->g1.items.length<=L.g.items.length+20*dx lev:=fun Qs=>by
   have:=(pP (x:=x) (ins:=bZ S++[x.f]) (rep:=bY C lev) (line:=k) (lev:=lev) (fun g d s hg hr=>ir hC lev k g d s hx hg hr) hC hl Qs d ⟨L.g.items,L.g.most,true⟩).le;rw[SV]at this;exact this
  have WG:(L.heads.map aa)[k]?=some (aa (atL L.heads k)):=by rw[l9];have:k<L.heads.length:=o_;rw[i8 this,atL,i8 this];rfl
  have Xm:∀v:Int,(L.heads.map aa).set k [.int .i64 v]=(L.heads.set k v).map aa:=fun v=>by simp[E8,aa]
  unfold cZ at hA;rw[SV]at hA;dsimp only at hA;have Vs:ln.faa=4\/ln.faa=7\/ln.faa=1\/ln.faa=2\/ln.faa=6\/(ln.faa=3\/ln.faa=5):=o_;rcases Vs with h4|h7|h1|h2|h6|Ue
  ·
   rw[b9 h4]at hA;have a1:A.g.items=bD (aI C L.g d 10 0 k x.chain).items (atL L.pos (ownOf C.p k)) (aI C L.g d 10 0 k x.chain).items.length:=by rw[<-hA]
   have a2:A.g.most=L.g.most:=by rw[<-hA];rfl
   have a3:A.g.start=false:=by rw[<-hA];rfl
   have a4:A.heads=L.heads:=by rw[<-hA]
   have a5:A.pos=L.pos.set k L.g.items.length:=by rw[<-hA]
   have a6:A.lv=L.lv:=by rw[<-hA]
   obtain⟨o1,o2,o3,o4⟩:=hx.own4 hC he o_ M9 hl h4;obtain⟨y,m,hy,y3,hm,_⟩:=aV o1;have Su:=aL hl;have R7:dZ C.p k=bT C.p (ownOf C.p k:Int)+1:=by unfold dZ;rw[b9 o_]
   have N2:=gJ C.p (ownOf C.p k);have Sm:bq C.p L.pos (x.f+1) (k-(x.f+1))++[(dZ C.p k,(L.g.items.length:Int))]=bq C.p (L.pos.set k L.g.items.length) (x.f+1) (k+1-(x.f+1)):=xq Tm (by unfold jumps;omega) (by rw[hIp];omega) _;have gEm:=bV C L.g d (scH (S++[(x,L.lv)])) 10 0 k x.chain Q6 O0
   have gP2:=qJ C (aI C L.g d 10 0 k x.chain) d (scH (S++[(x,L.lv)])) (bq C.p (L.pos.set k L.g.items.length) (x.f+1) (k+1-(x.f+1))) (-(k:Int)) (by unfold dS aI;simp only[c7,d5,gt];omega) (by have:=pB C.p (L.pos.set k L.g.items.length) (x.f+1) (k+1-(x.f+1));omega) (fun z hz=>by
    rw[<-Sm,e7]at hz;simp only[aI,c7,d5,gt];rcases hz with hz|hz
    ·have:=VN z hz;omega
    ·simp only[d7,l8,or_false]at hz;subst hz;dsimp only
     omega)
   rw[Ei hC hx he Tm M9 hl h4,jt o_]at gP2;have TK:IntKind.i64.wrap (0-(k:Int))= -(k:Int):=by rw[c9 _ o_];omega
   rw[<-TK]at gP2;repeat' ((conv=>whnf);first|apply Wx|apply W6|refine cg gP ?_|apply oi|apply fi|intro h|refine⟨k,ln.tr,rfl,ab hl,?_⟩|refine⟨_,rfl,?_⟩|exact Y10|fail)
   conv=>whnf
   refine⟨{i:Nat//x.f<=i/\i<=k},fun q=>⟨[(0,iC),(2,tI .i64 (x.f:Int)),(3,yn x.chain),(4,tI .i64 (e:Int)),(5,.r (.c (.own (5,0,0)))),(6,.r (.c (.own (6,0,0)))),(7,tI .i64 (k:Int)),(9,tI .i64 (q.1:Int))],
    [((0,0,0),some (pL C L.g d (5,0,1) (5,0,2))),((5,0,1),some (.dar 7 (itR L.g.items) none)),((5,0,2),some (.dar 6 (scH (S++[(x,L.lv)])) none)),((5,0,0),some (.arr false 1 (L.heads.map aa))),((6,0,0),some (.arr false 2 ((bq C.p L.pos (x.f+1) (k-(x.f+1))++(if ownOf C.p k<q.1 then [(dZ C.p k,(L.g.items.length:Int))]else [])).map ni)))],[6,5,0]⟩,
    fun q=>k-q.1,⟨x.f,o_,o_⟩,?_,?_⟩
   ·repeat' ((conv=>whnf);first|apply Wx|apply W6|apply oi|apply fi|intro h|refine⟨_,rfl,?_⟩|exact Y7|fail)
    all_goals exact⟨by rw[b8 g_];simp⟩
   intro⟨i,QU,Rp⟩;dsimp only at QU Rp⊢;by_cases Po:i<k
   ·have gEl:=fJ C.p (i:Int) o_;by_cases Qu:i=ownOf C.p k
    ·subst Qu;rw[show bE C.p (ownOf C.p k:Int)=(k:Int) by rw[bI];exact aZ o1]at gEl;have gEn:=bB C.p (ownOf C.p k:Int) o_;rw[b8 o_,m9];have UY:((bq C.p L.pos (x.f+1) (k-(x.f+1))).map ni).length=(bq C.p L.pos (x.f+1) (k-(x.f+1))).length:=s_;have Ra:=kU L.g.items;repeat' ((conv=>whnf);first|apply Wx|apply W6|apply oi|apply fi|intro h|refine cl gEl ?_|refine cl gEn ?_|refine⟨_,rfl,?_⟩|exact Y5|fail)
     all_goals try(exfalso;simp at h;done)
     all_goals try exact⟨⟨by rw[UY];simp<;>omega,by rw[UY];simp<;>omega⟩⟩
     conv=>whnf
     refine⟨⟨ownOf C.p k+1,o_,o_⟩,?_,KD⟩;repeat' ((conv=>whnf);first|apply Wx|apply W6|apply oi|apply fi|intro h|refine⟨_,rfl,?_⟩|exact Y8|fail)
     all_goals(refine⟨?_⟩;dsimp only;rw[b9 o_,R7,Ra,c9 _ o_];simp)
    ·have K0:bE C.p (i:Int)≠(k:Int):=fun hh=>by
      rw[bI]at hh
      cases hz:elseAt C.p i with
      | none=>rw[hz]at hh;simp only[cA]at hh;omega
      | some j=>rw[hz]at hh;simp only[cA]at hh;have:j=k:=o_;subst this;exact Qu (lV hz o1)
     generalize bE C.p (i:Int)=el at *
     repeat' ((conv=>whnf);first|apply Wx|apply W6|apply oi|apply fi|intro h|refine cl gEl ?_|refine⟨_,rfl,?_⟩|exact Y5|fail)
     ·exact absurd (A3 h) K0
     ·conv=>whnf
      refine⟨⟨i+1,o_,o_⟩,?_,KD⟩;repeat' ((conv=>whnf);first|apply Wx|apply W6|apply oi|apply fi|intro h|refine⟨_,rfl,?_⟩|exact Y8|fail)
      all_goals(refine⟨?_⟩;dsimp only;congr 2)
      all_goals(by_cases hh:ownOf C.p k<i)
      all_goals first|rw[b9 hh,b9 o_]|rw[b8 hh,b8 o_]
   ·have Pi:i=k:=o_;subst Pi;rw[b9 o3,Sm];repeat' ((conv=>whnf);first|apply Wx|apply W6|refine cg gEm ?_|refine cg gP2 ?_|apply oi|apply fi|intro h|refine⟨_,rfl,?_⟩|exact Y5|fail)
    conv=>whnf
    refine⟨⟨(i+1,bJ C x i ln A,A.g.items),hQ⟩,?_,KD⟩;repeat' ((conv=>whnf);first|apply Wx|apply W6|apply oi|apply fi|intro h|refine⟨_,rfl,?_⟩|exact Y8|fail)
    all_goals(refine⟨?_⟩;dsimp only;simp only[b1,b2,b3,b5,b6,a1,a2,a3,a4,a5,a6];try rfl)
  ·
   rw[b8 o_,b9 h7]at hA;obtain⟨o1,o2⟩:=hx.own7 hC he o_ M9 hl h7;have O4:bq C.p L.pos (x.f+1) (k+1-(x.f+1))=bq C.p L.pos (x.f+1) (k-(x.f+1)):=ma Tm (by unfold jumps;rw[aL hl,h7];decide);rcases o2 with⟨o2,o3⟩|⟨o2,o3,o4,y,hy,o5⟩
   ·subst o2;rw[b9 o3]at hA;have gN:=lf C L.g d (scH (S++[(x,L.lv)])) 0 k x.chain Q6 O0 o_;have gL:=qX C hC (aI C L.g d 0 0 k x.chain) (d+1) S x L.lv k true (by unfold dS aI;simp only[c7,d5,gt];omega) O0 o_ o_ o_ L.heads L.pos;rw[show bM C x k true (d+1) ⟨aI C L.g d 0 0 k x.chain,L.heads,L.pos,L.lv⟩=A from hA,H9]at gL;have a4:A.heads=L.heads:=by rw[<-hA];unfold bM;(repeat' split)<;>rfl
    have a5:A.pos=L.pos:=by rw[<-hA];unfold bM;(repeat' split)<;>rfl
    repeat' ((conv=>whnf);first|apply Wx|apply W6|refine cg gP ?_|refine cg gN ?_|refine cg gL ?_|apply oi|apply fi|intro h|refine⟨k,ln.tr,rfl,ab hl,?_⟩|refine⟨_,rfl,?_⟩|exact Y10|fail)
    all_goals try(exfalso;simp at h;done)
    conv=>whnf
    refine⟨⟨(k+1,bJ C x k ln A,A.g.items),hQ⟩,?_,KD⟩;repeat' ((conv=>whnf);first|apply Wx|apply W6|apply oi|apply fi|intro h|refine⟨_,rfl,?_⟩|exact Y8|fail)
    all_goals(refine⟨?_⟩;dsimp only;simp only[b1,b2,b3,b5,b6,a4,a5,O4];try rfl)
   ·rw[b8 o_]at hA;have Tu:=aL hy;have gEm:=bV C L.g d (scH (S++[(x,L.lv)])) 10 (atL L.heads (ownOf C.p k)) k x.chain Q6 O0;have a4:A.heads=L.heads:=by rw[<-hA];split<;>rfl
    have a5:A.pos=L.pos:=by rw[<-hA];split<;>rfl
    have a6:A.lv=L.lv:=by rw[<-hA];split<;>rfl
    have a1:A.g=if kindAt C.p (ownOf C.p k)=5 then aI C L.g d 10 (atL L.heads (ownOf C.p k)) k x.chain else L.g:=by rw[<-hA];split<;>rfl
    have Q9:bT C.p (ownOf C.p k:Int)=(k:Int):=by rw[bA];exact aZ o1
    have UO:(L.heads.map aa)[ownOf C.p k]?=some (aa (atL L.heads (ownOf C.p k))):=by rw[l9];have:ownOf C.p k<L.heads.length:=o_;rw[i8 this,atL,i8 this];rfl
    have P5:ownOf C.p k<(L.heads.map aa).length:=by rw[e8];omega
    repeat' ((conv=>whnf);first|apply Wx|apply W6|refine cg gP ?_|apply oi|apply fi|intro h|refine⟨k,ln.tr,rfl,ab hl,?_⟩|refine⟨_,rfl,?_⟩|exact Y10|fail)
    conv=>whnf
    refine⟨{i:Nat//x.f+1<=i/\i<=k},fun q=>⟨[(0,iC),(2,tI .i64 (x.f:Int)),(3,yn x.chain),(4,tI .i64 (e:Int)),(5,.r (.c (.own (5,0,0)))),(6,.r (.c (.own (6,0,0)))),(7,tI .i64 (k:Int)),(11,tI .i64 (q.1:Int))],
     [((0,0,0),some (pL C (if ownOf C.p k<q.1 then A.g else L.g) d (5,0,1) (5,0,2))),((5,0,1),some (.dar 7 (itR (if ownOf C.p k<q.1 then A.g else L.g).items) none)),((5,0,2),some (.dar 6 (scH (S++[(x,L.lv)])) none)),((5,0,0),some (.arr false 1 (L.heads.map aa))),((6,0,0),some (.arr false 2 ((bq C.p L.pos (x.f+1) (k-(x.f+1))).map ni)))],[6,5,0]⟩,
     fun q=>k-q.1,⟨x.f+1,o_,o_⟩,?_,?_⟩
    ·repeat' ((conv=>whnf);first|apply Wx|apply W6|apply oi|apply fi|intro h|refine⟨_,rfl,?_⟩|exact Y7|fail)
     all_goals try(refine⟨?_⟩;dsimp only;rw[b8 o_];done)
     all_goals try exact⟨KW⟩
    intro⟨i,QU,Rp⟩;dsimp only at QU Rp⊢;by_cases Po:i<k
    ·have gEn:=bB C.p (i:Int) o_;obtain⟨z,hz⟩:=ae (l:=C.p) (k:=i) o_;by_cases Qu:i=ownOf C.p k
     ·subst Qu;rw[Q9]at gEn;rw[hy]at hz;injection hz with hz;subst hz;rw[b8 o_];by_cases h5:y.faa=5
      ·rw[b9 o_]at a1;exact V15
      ·rw[b8 o_]at a1;exact V15
     ·have K0:bT C.p (i:Int)≠(k:Int):=fun hh=>by
       have h':=pK hh o_;rw[d9]at h';exact Qu (sT h' o1)
      generalize bT C.p (i:Int)=en at *
      repeat' ((conv=>whnf);first|apply Wx|apply W6|apply oi|apply fi|intro h|refine cl gEn ?_|refine⟨i,z.tr,rfl,ab hz,?_⟩|refine⟨_,rfl,?_⟩|exact Y5|fail)
      all_goals try(exfalso;exact K0 (A3 (by assumption)))
      conv=>whnf
      refine⟨⟨i+1,o_,o_⟩,?_,KD⟩
      have SH:(if ownOf C.p k<i+1 then A.g else L.g)=if ownOf C.p k<i then A.g else L.g:=by
       by_cases hh:ownOf C.p k<i
       ·rw[b9 hh,b9 o_]
       ·rw[b8 hh,b8 o_]
      dsimp only;rw[SH];exact Z7
    ·have Pi:i=k:=o_;subst Pi;rw[b9 o4];repeat' ((conv=>whnf);first|apply Wx|apply W6|apply oi|apply fi|intro h|refine⟨_,rfl,?_⟩|exact Y5|fail)
     conv=>whnf
     refine⟨⟨(i+1,bJ C x i ln A,A.g.items),hQ⟩,?_,KD⟩;repeat' ((conv=>whnf);first|apply Wx|apply W6|apply oi|apply fi|intro h|refine⟨_,rfl,?_⟩|exact Y8|fail)
     all_goals(refine⟨?_⟩;dsimp only;simp only[b1,b2,b3,b5,b6,a4,a5,a6,O4];try rfl)
  ·
   rw[b8 o_,b8 o_,b9 h1]at hA;have Qs:=SY (.inl h1);have gX:=hX Qs o_;have XZ:=hG Qs;have PS:=rC x.locals ln.fac;have gI:=dA x.locals ln.fac o_;have gS:=mb C hC g1 (d+1) (scH (S++[(x,L.lv)])) x (dy x.locals ln.fac) k x.chain (by unfold dS;omega) O0 o_ Vw o_;rw[H9]at gS;have a1:A.g=dL C x g1 (d+1) (dy x.locals ln.fac) k x.chain:=by rw[<-hA]
   have a4:A.heads=L.heads.set k L.g.items.length:=by rw[<-hA]
   have a5:A.pos=L.pos:=by rw[<-hA]
   have a6:A.lv=L.lv:=by rw[<-hA]
   have O4:bq C.p L.pos (x.f+1) (k+1-(x.f+1))=bq C.p L.pos (x.f+1) (k-(x.f+1)):=ma Tm (by unfold jumps;rw[aL hl,h1];decide)
   generalize dy x.locals ln.fac=ix at *
   repeat' ((conv=>whnf);first|apply Wx|apply W6|refine cg gP ?_|refine cg gX ?_|refine cg gS ?_|apply oi|apply fi|intro h|refine⟨k,ln.tr,rfl,ab hl,?_⟩|refine⟨k,rfl,WJ,?_⟩|refine⟨_,WG,?_⟩|refine⟨S.length,hw L.lv,J3 L.lv,?_⟩|refine⟨_,L2 L.lv,?_⟩|refine cl gI ?_|refine⟨_,rfl,?_⟩|exact Y10|fail)
   conv=>whnf
   refine⟨⟨(k+1,bJ C x k ln A,A.g.items),hQ⟩,?_,KD⟩;repeat' ((conv=>whnf);first|apply Wx|apply W6|apply oi|apply fi|intro h|refine⟨_,rfl,?_⟩|exact Y8|fail)
   all_goals(refine⟨?_⟩;dsimp only;simp only[b1,b2,b3,b5,b6,a1,a4,a5,a6,O4,Ra,<-Xm];try rfl)
  ·
   rw[b8 o_,b8 o_,b8 o_,b9 h2]at hA;have Qs:=SY (.inr (.inl h2));have gX:=hX Qs o_;have XZ:=hG Qs;have gS:=bV C g1 (d+1) (scH (S++[(x,L.lv)])) 17 0 k x.chain (by unfold dS;omega) O0;have a1:A.g=aI C g1 (d+1) 17 0 k x.chain:=by rw[<-hA]
   have a4:A.heads=L.heads.set k L.g.items.length:=by rw[<-hA]
   have a5:A.pos=L.pos:=by rw[<-hA]
   have a6:A.lv=L.lv:=by rw[<-hA]
   have O4:bq C.p L.pos (x.f+1) (k+1-(x.f+1))=bq C.p L.pos (x.f+1) (k-(x.f+1)):=ma Tm (by unfold jumps;rw[aL hl,h2];decide);repeat' ((conv=>whnf);first|apply Wx|apply W6|refine cg gP ?_|refine cg gX ?_|refine cg gS ?_|apply oi|apply fi|intro h|refine⟨k,ln.tr,rfl,ab hl,?_⟩|refine⟨k,rfl,WJ,?_⟩|refine⟨_,WG,?_⟩|refine⟨_,rfl,?_⟩|exact Y10|fail)
   conv=>whnf
   refine⟨⟨(k+1,bJ C x k ln A,A.g.items),hQ⟩,?_,KD⟩;repeat' ((conv=>whnf);first|apply Wx|apply W6|apply oi|apply fi|intro h|refine⟨_,rfl,?_⟩|exact Y8|fail)
   all_goals(refine⟨?_⟩;dsimp only;simp only[b1,b2,b3,b5,b6,a1,a4,a5,a6,O4,Ra,<-Xm];try rfl)
  ·
   rw[b8 o_,b8 o_,b8 o_,b8 o_,b9 h6]at hA;have Qs:=SY (.inr (.inr (.inr (.inr h6))));have gX:=hX Qs o_;have XZ:=hG Qs;have gS:=qX C hC g1 (d+1) S x L.lv k false (by unfold dS;omega) O0 o_ o_ o_ (L.heads.set k L.g.items.length) L.pos;rw[hA,H9]at gS;have a4:A.heads=L.heads.set k L.g.items.length:=by rw[<-hA];unfold bM;(repeat' split)<;>rfl
   have a5:A.pos=L.pos:=by rw[<-hA];unfold bM;(repeat' split)<;>rfl
   have O4:bq C.p L.pos (x.f+1) (k+1-(x.f+1))=bq C.p L.pos (x.f+1) (k-(x.f+1)):=ma Tm (by unfold jumps;rw[aL hl,h6];decide);repeat' ((conv=>whnf);first|apply Wx|apply W6|refine cg gP ?_|refine cg gX ?_|refine cg gS ?_|apply oi|apply fi|intro h|refine⟨k,ln.tr,rfl,ab hl,?_⟩|refine⟨k,rfl,WJ,?_⟩|refine⟨_,WG,?_⟩|refine⟨_,rfl,?_⟩|exact Y10|fail)
   conv=>whnf
   refine⟨⟨(k+1,bJ C x k ln A,A.g.items),hQ⟩,?_,KD⟩;repeat' ((conv=>whnf);first|apply Wx|apply W6|apply oi|apply fi|intro h|refine⟨_,rfl,?_⟩|exact Y8|fail)
   all_goals(refine⟨?_⟩;dsimp only;simp only[b1,b2,b3,b5,b6,a4,a5,O4,Ra,<-Xm];try rfl)
  ·
   rw[b8 o_,b8 o_,b8 o_,b8 o_,b8 o_]at hA;have Qs:=SY o_;have gX:=hX Qs o_;have XZ:=hG Qs;have gS:=bV C g1 (d+1) (scH (S++[(x,L.lv)])) 11 0 k x.chain (by unfold dS;omega) O0;have a1:A.g=aI C g1 (d+1) 11 0 k x.chain:=by rw[<-hA]
   have a4:A.heads=L.heads.set k L.g.items.length:=by rw[<-hA]
   have a5:A.pos=L.pos.set k g1.items.length:=by rw[<-hA]
   have a6:A.lv=L.lv:=by rw[<-hA]
   have Su:=aL hl;have O4:=xq (pos:=L.pos) (p:=C.p) (f:=x.f) (k:=k) Tm (by unfold jumps;omega) (by rw[hIp];omega) (g1.items.length:Int);have gEn:=bB C.p (k:Int) o_;have gEl:=fJ C.p (k:Int) o_;have N2:=gJ C.p k
   have U0:-1<=bE C.p (k:Int)/\bE C.p (k:Int)<=C.p.length:=by
    rw[bI]
    cases hz:elseAt C.p k with
    | none=>simp only[cA];omega
    | some j=>obtain⟨_,_,_,_,_,_,_,w,hw,_⟩:=aV hz;have:=aJ hw;simp only[cA];omega
   have R7:dZ C.p k=if ln.faa=3/\0<=bE C.p (k:Int)then-bE C.p (k:Int)else bT C.p (k:Int)+1:=by unfold dZ;rw[b8 o_,Su]
   have UY:((bq C.p L.pos (x.f+1) (k-(x.f+1))).map ni).length=(bq C.p L.pos (x.f+1) (k-(x.f+1))).length:=s_;have YT:=kU g1.items
   generalize dZ C.p k=to at *
   generalize bT C.p (k:Int)=en at *
   generalize bE C.p (k:Int)=el at *
   have OB:IntKind.i64.wrap (en+1)=en+1:=by rw[c9 _ o_]
   have Pe:IntKind.i64.wrap (0-el)= - el:=by rw[c9 _ o_];omega
   repeat' ((conv=>whnf);first|apply Wx|apply W6|refine cg gP ?_|refine cg gX ?_|refine cg gS ?_|apply oi|apply fi|intro h|refine⟨k,ln.tr,rfl,ab hl,?_⟩|refine⟨k,rfl,WJ,?_⟩|refine⟨_,WG,?_⟩|refine cl gEn ?_|refine cl gEl ?_|refine⟨_,rfl,?_⟩|exact Y10|fail)
   all_goals try exact⟨⟨by rw[UY];simp<;>omega,by rw[UY];simp<;>omega⟩⟩
   all_goals(conv=>whnf)
   all_goals(refine⟨⟨(k+1,bJ C x k ln A,A.g.items),hQ⟩,?_,KD⟩)
   repeat' ((conv=>whnf);first|apply Wx|apply W6|apply oi|apply fi|intro h|refine⟨_,rfl,?_⟩|exact Y8|fail)
   all_goals(refine⟨?_⟩;dsimp only;simp only[b1,b2,b3,b5,b6,a1,a4,a5,a6,<-O4,Ra,YT,<-Xm,OB,Pe];try rfl)
   all_goals first
    |(rw[R7,b9 ⟨A3 (by assumption),f9 (by assumption)⟩];simp)
    |(rw[R7,b8 (fun hh=>absurd hh.2 (f0 (by assumption)))];simp)
    |(rw[R7,b8 (fun hh=>by
                     have h9:(ln.faa==3)=false:=by assumption
                     rw[hh.1]at h9;cases h9)];simp)
 ·have Oy:k=e+1:=by have:=hI.hi;omega
  subst Oy;have hf:=hI.fin;rw[v5,fF]at hf;subst hf;rw[TR rfl];exact Z5
structure NQ where
 b:List UInt8
 i:Nat
 h:Int
def NQ.ok (c:NQ):Prop:=c.i<=c.b.length/\c.b.length<=1048576
abbrev fC (c:NQ):List (Sim.Id×AO):=[((0,0,0),.box [.t (.lst 1 (c.b.map ba)),.t (.int .i64 c.i),.t (.int .i64 c.h)])]
abbrev gZ:AV:= .r (.c (.ptr (0,0,0) 0))
theorem Nq (z:Int):∃x:Nat,x<256/\IntKind.i64.wrap ((BitVec.ofInt IntKind.i64.bits z &&& BitVec.ofInt IntKind.i64.bits 255).toNat:Int)=(x:Int):=by
 have e:(BitVec.ofInt 64 255).toNat=2^8-1:=d_
 have h:(BitVec.ofInt IntKind.i64.bits z &&& BitVec.ofInt IntKind.i64.bits 255).toNat<256:=by show(BitVec.ofInt 64 z &&& BitVec.ofInt 64 255).toNat<256;rw[I5,e,D0];omega
 generalize(BitVec.ofInt IntKind.i64.bits z &&& BitVec.ofInt IntKind.i64.bits 255).toNat=n at *
 exact⟨n,h,c9 _ o_⟩
def iX (h:Int):Int:=IntKind.i64.wrap (IntKind.i64.wrap (h*6364136223846793005)+1442695040888963407)
theorem V44{p:Prop}(h:p:=by
 refine aw hΓ aK Try.func46 rfl d_ rfl rfl ?_;repeat' ((conv=>whnf);first|apply Wx|apply W6|apply oi|apply fi|intro h|refine⟨_,rfl,?_⟩|exact Y5|fail)
 all_goals try exact⟨congrArg (Tr.int _) Te⟩
 all_goals exact⟨rfl⟩):p:=h
theorem gq (c:NQ)(hc:c.ok):∃(x:Nat) (c':NQ),x<256/\c'.b=c.b/\c'.ok/\bf Try.prog 46 [gZ] (fC c) (tI .i64 x) (fC c'):=by
 obtain⟨hi,hl⟩:=hc;have Rg:(c.b.map ba).length=c.b.length:=s_;obtain⟨x0,QQ,Te⟩:=Nq (IntKind.i64.wrap ((BitVec.ofInt IntKind.i64.bits ((iX c.h).fdiv (2^min (Int.toNat 33) IntKind.i64.bits)) ^^^ BitVec.ofInt IntKind.i64.bits ((iX c.h).fdiv (2^min (Int.toNat 45) IntKind.i64.bits))).toNat:Int));unfold iX at Te;by_cases J3:c.i<c.b.length
 ·obtain⟨u,hu⟩:=ae J3;obtain⟨x,hx,he⟩:=Nq (IntKind.i64.wrap ((x0:Int)+IntKind.i64.wrap (u.toNat:Int)));rw[<-Te]at he;refine⟨x,⟨c.b,c.i+1,iX c.h⟩,hx,rfl,⟨g_,hl⟩,?_⟩;refine aw hΓ aK Try.func46 rfl d_ rfl rfl ?_;repeat' ((conv=>whnf);first|apply Wx|apply W6|apply oi|apply fi|intro h|refine⟨c.i,(ba u),rfl,ab hu,?_⟩|refine⟨_,rfl,?_⟩|exact Y5|fail)
  all_goals try exact⟨congrArg (Tr.int _) he⟩
  all_goals try exact⟨K5⟩
  all_goals exact⟨rfl⟩
 ·refine⟨x0,⟨c.b,c.i,iX c.h⟩,QQ,rfl,⟨hi,hl⟩,?_⟩;exact V44
theorem pA {x:Nat}{n:Int}(h:0<n):∃y:Nat,(y:Int)<n/\(x:Int).tmod n=(y:Int):=by have h1:=Int.tmod_nonneg n (Int.natCast_nonneg x);have h2:=Int.tmod_lt_of_pos (x:Int) h;obtain⟨y,hy⟩:=j8 h1;exact⟨y,o_,hy⟩
theorem V5{p:Prop}(h:p:=by
 refine aw hΓ aK Try.func24 rfl d_ rfl rfl ?_;repeat' ((conv=>whnf);first|apply Wx|apply W6|apply oi|apply fi|intro h|refine⟨_,rfl,?_⟩|exact Y5|fail)
 refine cg (g1) ?_;repeat' ((conv=>whnf);first|apply Wx|apply W6|apply oi|apply fi|intro h|refine⟨_,rfl,?_⟩|exact Y7|fail)
 refine cg (g2) ?_;repeat' ((conv=>whnf);first|apply Wx|apply W6|apply oi|apply fi|intro h|refine⟨_,rfl,?_⟩|exact Y7|fail)
 refine cg (g3) ?_;repeat' ((conv=>whnf);first|apply Wx|apply W6|apply oi|apply fi|intro h|refine⟨_,rfl,?_⟩|exact Y7|fail)
 refine cg (g4) ?_;repeat' ((conv=>whnf);first|apply Wx|apply W6|apply oi|apply fi|intro h|refine⟨_,rfl,?_⟩|exact Y7|fail)
 all_goals try exact⟨o_⟩
 all_goals(
  have hw:IntKind.i64.wrap (IntKind.i64.wrap (IntKind.i64.wrap (IntKind.i64.wrap ((x1:Int)*16777216)+IntKind.i64.wrap ((x2:Int)*65536))+IntKind.i64.wrap ((x3:Int)*256))+(x4:Int))=((x1*16777216+x2*65536+x3*256+x4:Nat):Int):=by rw[c9 ((x1:Int)*16777216) o_,c9 ((x2:Int)*65536) o_,c9 ((x3:Int)*256) o_,c9 ((x1:Int)*16777216+(x2:Int)*65536) o_,c9 ((x1:Int)*16777216+(x2:Int)*65536+(x3:Int)*256) o_,c9 _ o_];omega
  exact⟨by rw[hw,hm]⟩)):p:=h
theorem bO (c:NQ)(n:Int)(hc:c.ok):∃(x:Nat) (c':NQ),(0<n->(x:Int)<n)/\(n<=0->x=0)/\c'.b=c.b/\c'.ok/\bf Try.prog 24 [gZ,tI .i64 n] (fC c) (tI .i64 x) (fC c'):=by
 by_cases h0:n<=0
 ·refine⟨0,c,o_,fun _=>rfl,rfl,hc,?_⟩;refine aw hΓ aK Try.func24 rfl d_ rfl rfl ?_;exact Z5
 ·obtain⟨x1,c1,k1,b1,o1,g1⟩:=gq c hc;by_cases h2:n<=256
  ·obtain⟨y,hy,hm⟩:=pA (x:=x1) (n:=n) o_;refine⟨y,c1,fun _=>hy,o_,b1,o1,?_⟩;refine aw hΓ aK Try.func24 rfl d_ rfl rfl ?_;repeat' ((conv=>whnf);first|apply Wx|apply W6|refine cg g1 ?_|apply oi|apply fi|intro h|refine⟨_,rfl,?_⟩|exact Y5|fail)
   all_goals try exact⟨o_⟩
   all_goals exact⟨congrArg (Tr.int _) hm⟩
  ·obtain⟨x2,c2,k2,b2,o2,g2⟩:=gq c1 o1;obtain⟨x3,c3,k3,b3,o3,g3⟩:=gq c2 o2;obtain⟨x4,c4,k4,b4,o4,g4⟩:=gq c3 o3;obtain⟨y,hy,hm⟩:=pA (x:=x1*16777216+x2*65536+x3*256+x4) (n:=n) o_;refine⟨y,c4,fun _=>hy,o_,((b4.trans b3).trans b2).trans b1,o4,?_⟩;exact V5
theorem dU (c:NQ)(n:Int)(hc:c.ok):∃(x:Bool) (c':NQ),c'.b=c.b/\c'.ok/\bf Try.prog 42 [gZ,tI .i64 n] (fC c) (tB x) (fC c'):=by obtain⟨x,c',_,_,b1,o1,g1⟩:=bO c n hc;refine⟨(x:Int)==0,c',b1,o1,?_⟩;refine aw hΓ aK Try.func42 rfl d_ rfl rfl ?_;repeat' ((conv=>whnf);first|apply Wx|apply W6|refine cg g1 ?_|apply oi|apply fi|intro h|refine⟨_,rfl,?_⟩|exact Y7|fail)
theorem ki (c:NQ)(ns:List Int)(hc:c.ok)(hp:0<ns.length)(hl:ns.length<=1048576):∃(v:Int) (c':NQ),v∈ns/\c'.b=c.b/\c'.ok/\bf Try.prog 23 [gZ,.r (.c (.own (0,0,1)))] (fC c++[((0,0,1),.arr false 1 (ns.map aa))]) (tI .i64 v) (fC c'++[((0,0,1),.arr false 1 (ns.map aa))]):=by
 have J0:(ns.map aa).length=ns.length:=s_;obtain⟨x,c',h1,_,b1,o1,g1⟩:=bO c ((ns.map aa).length:Int) hc;rw[J0]at h1;obtain⟨v,hv⟩:=ae (l:=ns) (k:=x) o_;have RN:x<(ns.map aa).length:=by rw[J0];omega
 refine⟨v,c',d4 hv,b1,o1,?_⟩;refine aw hΓ aK Try.func23 rfl d_ rfl rfl ?_;repeat' ((conv=>whnf);first|apply Wx|apply W6|refine cg g1 ?_|apply oi|apply fi|intro h|refine⟨x,rfl,RN,?_⟩|refine⟨(aa v),ab hv,?_⟩|refine⟨_,rfl,?_⟩|exact Y7|fail)
def aY (b:NP):Bool:=af b.faC 0 63&&af b.faq 0 3
theorem jZ (b:NP):Sim.Spec Try.prog 43 [.agg b.tr] (rB (aY b)):=by
 refine bF hΓ aK Try.func43 rfl d_ rfl ?_;have h1:=bd b.faC 0 63;have h2:=bd b.faq 0 3;unfold aY
 generalize af b.faC 0 63=w1 at *
 generalize af b.faq 0 3=w2 at *
 repeat' ((conv=>whnf);first|apply Wx|apply W6|apply oi|apply fi|intro h|refine cl h1 ?_|refine cl h2 ?_|refine⟨_,rfl,?_⟩|exact Y7|fail)
 all_goals(refine⟨congrArg Tr.bool ?_⟩;simp_all)
theorem uD (c:NQ)(hc:c.ok):∃(b:NP) (c':NQ),aY b=true/\c'.b=c.b/\c'.ok/\bf Try.prog 21 [gZ] (fC c) (.r (.agg (b.tr.map .t))) (fC c'):=by
 obtain⟨f,c1,k1,_,b1,o1,g1⟩:=bO c 64 hc;obtain⟨v,c2,hv,b2,o2,g2⟩:=ki c1 [0,1,2,3] o1 d_ d_;obtain⟨x,c3,b3,o3,g3⟩:=dU c2 2 o2;obtain⟨y,c4,b4,o4,g4⟩:=dU c3 2 o3;refine⟨⟨f,v,x,y⟩,c4,?_,((b4.trans b3).trans b2).trans b1,o4,?_⟩
 ·have:=k1 o_;simp only[d7,l8,or_false]at hv;unfold aY;rw[within_iff.2 ⟨g_,g_⟩,within_iff.2 ⟨g_,g_⟩];rfl
 ·refine aw hΓ aK Try.func21 rfl d_ rfl rfl ?_;repeat' ((conv=>whnf);first|apply Wx|apply W6|apply oi|apply fi|intro h|refine⟨_,rfl,?_⟩|exact Y7|fail)
  refine cg (g1) ?_;repeat' ((conv=>whnf);first|apply Wx|apply W6|apply oi|apply fi|intro h|refine⟨_,rfl,?_⟩|exact Y7|fail)
  refine cg (g2) ?_;repeat' ((conv=>whnf);first|apply Wx|apply W6|apply oi|apply fi|intro h|refine⟨_,rfl,?_⟩|exact Y7|fail)
  refine cg (g3) ?_;repeat' ((conv=>whnf);first|apply Wx|apply W6|apply oi|apply fi|intro h|refine⟨_,rfl,?_⟩|exact Y7|fail)
  refine cg (g4) ?_;exact Z1
end Go.Proofs.Ytoglejgmjeojoaa
