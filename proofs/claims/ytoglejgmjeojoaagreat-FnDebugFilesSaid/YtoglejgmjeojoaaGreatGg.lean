import Derived.Test.YtoglejgmjeojoaaGreatGf
set_option maxRecDepth 100000
set_option maxHeartbeats 4000000
namespace Go.Proofs.P
open Go.Sim Tryz
theorem gz {l:List Ou}{p:Nat}{e:Ex}(h:ik l p e):p+e.toks.length<=l.length:=by obtain⟨r,h⟩:=h;have h1:=congrArg List.length h;rw[t8,b8]at h1;have:=e.toks_pos;omega
theorem V85{p:Prop}(h:p:=by
 rw[ig,i9]at h1;subst h1;repeat' ((conv=>whnf);first|apply Wx|apply W6|apply oi|apply fi|intro h|exact Y6|refine e_ rfl ?_)
 all_goals try(exfalso;simp at h;done)):p:=h
theorem Q8{p:Prop}(h:p:=by exfalso;simp at h;first|done|fail):p:=h
theorem V12{p:Prop}(h:p:=by
 rw[kp g1 h3.1]at YK;have Qs:=gz g1;have OA:(a::fs).length=fs.length+1:=rfl;repeat' ((conv=>whnf);first|apply Wx|apply W6|apply oi|apply fi|intro h|refine cl YK ?_|exact Y6|refine e_ rfl ?_)
 all_goals try exact Q8
 all_goals try exact Q2
 conv=>whnf
 refine⟨⟨(q+a.toks.length,acc++[q],fs),by dsimp only;rw[<-h1,ig];simp,g2,h3.2,by simp only[b8,c7,e7]at *;omega,g_⟩,?_,by dsimp only;simp⟩;repeat' ((conv=>whnf);first|apply Wx|apply W6|apply oi|apply fi|intro h|exact Y8|refine e_ rfl ?_)
 all_goals try exact⟨by dsimp only;rw[OA,c6 _ o_];congr 1;omega⟩
 all_goals exact⟨by simp[ae]⟩):p:=h
theorem nK (l:List Ou)(p:Nat)(t:Ou)(es:List Ex)(hl:l.length<=1048576)(hn:eG l)(ho:(Ex.node t es).ok)(hs:ik l p (.node t es)):Sim.Spec prog 272 [tvL 3 (l.map Ou.tr),tvI p] (rL 1 ((ig (p+1) es).map nR)):=by
 refine aI hΓ ay func272 rfl d_ rfl ?_;have N1:(l.map Ou.tr).length=l.length:=s_;have OH:=gz hs;obtain⟨ht,RL⟩:=iO hs;have hX:=kw l p hl hn;rw[kp hs ho]at hX;have Ym:=hn t (b9 ht);have hA:=sn t Ym;obtain⟨e1,e2⟩:=rD ho.1;have Pq:es.length=ar t:=ho.2.1;rw[e1,<-Pq]at hA;obtain⟨R,hR⟩:∃R,ig (p+1) es=R:=⟨_,rfl⟩;rw[hR]
 have Pw:p<l.length:=by have:=(Ex.node t es).toks_pos;omega
 generalize p+(Ex.node t es).toks.length=pe at *
 repeat' ((conv=>whnf);first|apply Wx|apply W6|apply oi|apply fi|intro h|refine cl hX ?_|refine⟨p,t.tr,rfl,aa ht,?_⟩|refine cl hA ?_|exact Y6|refine e_ rfl ?_)
 conv=>whnf
 refine⟨{q:Nat×List Nat×List Ex//q.2.1++ig q.1 q.2.2=R/\kS l q.1 q.2.2/\jL q.2.2/\q.2.1.length+q.2.2.length<=4/\q.1<=1048577},fun q=>⟨[(0,.r (.c (.t (.lst 3 (l.map Ou.tr))))),(5,.r (.c (.own (5,0,0)))),(6,tI .i64 (q.1.1:Int)),(7,tI .i64 (q.1.2.2.length:Int))],[((5,0,0),some (.arr true 1 (q.1.2.1.map nR)))],[5]⟩,fun q=>q.1.2.2.length,⟨(p+1,[],es),hR,RL,ho.2.2,by simp;omega,g_⟩,?_,?_⟩
 ·exact Z7
 intro⟨⟨q,acc,fs⟩,h1,h2,h3,h4,h5⟩;dsimp only at h1 h2 h3 h4 h5⊢
 cases fs with
 | nil=>exact V85
 | cons a fs=>obtain⟨g1,g2⟩:=eU h2;have YK:=kw l q hl hn;exact V12
theorem vR (l:List Ou)(p:Nat)(t:Ou)(es:List Ex)(hl:l.length<=1048576)(hn:eG l)(ho:(Ex.node t es).ok)(hs:ik l p (.node t es)):Sim.Spec prog 258 [tvL 3 (l.map Ou.tr),tvI p] (rL 1 ((ig (p+1) es).map nR)):=by
 refine aI hΓ ay func258 rfl d_ rfl ?_;have N1:(l.map Ou.tr).length=l.length:=s_;have OH:=gz hs;obtain⟨ht,RL⟩:=iO hs;have hX:=kJ l p hl hn;rw[kp hs ho]at hX;have Ym:=hn t (b9 ht);have hA:=nu t Ym;obtain⟨e1,e2⟩:=rD ho.1;have Pq:es.length=ar t:=ho.2.1;rw[e1,<-Pq]at hA;obtain⟨R,hR⟩:∃R,ig (p+1) es=R:=⟨_,rfl⟩;rw[hR]
 have Pw:p<l.length:=by have:=(Ex.node t es).toks_pos;omega
 generalize p+(Ex.node t es).toks.length=pe at *
 repeat' ((conv=>whnf);first|apply Wx|apply W6|apply oi|apply fi|intro h|refine cl hX ?_|refine⟨p,t.tr,rfl,aa ht,?_⟩|refine cl hA ?_|exact Y6|refine e_ rfl ?_)
 conv=>whnf
 refine⟨{q:Nat×List Nat×List Ex//q.2.1++ig q.1 q.2.2=R/\kS l q.1 q.2.2/\jL q.2.2/\q.2.1.length+q.2.2.length<=4/\q.1<=1048577},fun q=>⟨[(0,.r (.c (.t (.lst 3 (l.map Ou.tr))))),(5,.r (.c (.own (5,0,0)))),(6,tI .i64 (q.1.1:Int)),(7,tI .i64 (q.1.2.2.length:Int))],[((5,0,0),some (.arr true 1 (q.1.2.1.map nR)))],[5]⟩,fun q=>q.1.2.2.length,⟨(p+1,[],es),hR,RL,ho.2.2,by simp;omega,g_⟩,?_,?_⟩
 ·exact Z7
 intro⟨⟨q,acc,fs⟩,h1,h2,h3,h4,h5⟩;dsimp only at h1 h2 h3 h4 h5⊢
 cases fs with
 | nil=>exact V85
 | cons a fs=>obtain⟨g1,g2⟩:=eU h2;have YK:=kJ l q hl hn;exact V12
def w32 (n:Int):Int:=IntKind.i32.wrap n
theorem pG (n:Int):IntKind.i32.wrap n=if n%4294967296≥2147483648 then n%4294967296-4294967296 else n%4294967296:=by simp[IntKind.wrap,IntKind.bits,IntKind.signed]
theorem Ie (n:Int):IntKind.u32.wrap n=n%4294967296:=by simp[IntKind.wrap,IntKind.bits,IntKind.signed]
theorem me (n:Int):-2147483648<=w32 n/\w32 n<=2147483647:=by unfold w32;rw[pG];split<;>omega
theorem Do (n:Int):Sim.Spec prog 256 [tvI n] (rI (w32 n)):=by
 refine ag hΓ ay func256 rfl d_ rfl ?_;repeat' ((conv=>whnf);first|refine Or.inl ?_|apply oi|apply fi|intro h|exact Y1|refine e_ rfl ?_)
 all_goals(refine⟨congrArg (Tr.int _) ?_⟩;have:=me n;unfold w32 at *;rw[pG]at *;rw[pG,Ie,c6 _ (by split<;>omega)];simp)
theorem JV (n:Int):((BitVec.ofInt IntKind.i64.bits n &&& BitVec.ofInt IntKind.i64.bits 4294967295).toNat:Int)=n%4294967296:=by show((BitVec.ofInt 64 n &&& BitVec.ofInt 64 4294967295).toNat:Int)=_;have e:(BitVec.ofInt 64 4294967295).toNat=2^32-1:=d_;rw[I1,e,C8,A3];have:((2^64:Nat):Int)=18446744073709551616:=d_;omega
theorem Dl (n:Int):Sim.Spec prog 246 [tvI n] (rI (w32 n)):=by
 refine ag hΓ ay func246 rfl d_ rfl ?_
 have YS:IntKind.i64.wrap ((BitVec.ofInt IntKind.i64.bits n &&& BitVec.ofInt IntKind.i64.bits 4294967295).toNat:Int)=n%4294967296:=by rw[JV,c6 _ o_]
 unfold w32;rw[pG];repeat' ((conv=>whnf);first|refine Or.inl ?_|apply oi|apply fi|intro h|exact Y1|refine e_ rfl ?_)
 all_goals(refine⟨congrArg (Tr.int _) ?_⟩;rw[YS]at h⊢)
 ·have h':=m6 h;rw[d5 o_,c6 _ o_]
 ·have h':=n6 h;rw[c8 o_]
theorem zQ {x y:Int}(hx:-2147483648<=x/\x<=2147483647)(hy:-2147483648<=y/\y<=2147483647):-4611686018427387904<=x*y/\x*y<=4611686018427387904:=by
 have h:(x*y).natAbs<=2147483648*2147483648:=by rw[Int.natAbs_mul];exact A1 o_ o_
 omega
def dH (k a b:Int):Int:=
 if k=2 then w32 (w32 a+w32 b)else if k=3 then w32 (w32 a-w32 b)else if k=4 then w32 (w32 a*w32 b)
 else if(k=5/\w32 a<w32 b)\/(k=6/\w32 a=w32 b)then 1 else 0
theorem Cu (k a b:Int):Sim.Spec prog 233 [tvI k,tvI a,tvI b] (rI (dH k a b)):=by
 refine ag hΓ ay func233 rfl d_ rfl ?_;have ha:=me a;have hb:=me b;have hm:=zQ ha hb;have e1:IntKind.i64.wrap (w32 a+w32 b)=w32 a+w32 b:=c6 _ o_;have e2:IntKind.i64.wrap (w32 a-w32 b)=w32 a-w32 b:=c6 _ o_;have e3:IntKind.i64.wrap (w32 a*w32 b)=w32 a*w32 b:=c6 _ o_;unfold dH;repeat' ((conv=>whnf);first|refine Or.inl ?_|apply oi|apply fi|intro h|refine ci (Do _) (ai rfl trivial) ?_|exact Y1|refine e_ rfl ?_)
 all_goals(refine⟨congrArg (Tr.int _) ?_⟩;simp_all;try omega)
theorem BG (k a b:Int):Sim.Spec prog 206 [tvI k,tvI a,tvI b] (rI (dH k a b)):=by
 refine ag hΓ ay func206 rfl d_ rfl ?_;have ha:=me a;have hb:=me b;have hm:=zQ ha hb;have e1:IntKind.i64.wrap (w32 a+w32 b)=w32 a+w32 b:=c6 _ o_;have e2:IntKind.i64.wrap (w32 a-w32 b)=w32 a-w32 b:=c6 _ o_;have e3:IntKind.i64.wrap (w32 a*w32 b)=w32 a*w32 b:=c6 _ o_;unfold dH;repeat' ((conv=>whnf);first|refine Or.inl ?_|apply oi|apply fi|intro h|refine ci (Dl _) (ai rfl trivial) ?_|exact Y1|refine e_ rfl ?_)
 all_goals(refine⟨congrArg (Tr.int _) ?_⟩;simp_all;try omega)
def CA (n:Int):Ex:= .node ⟨0,n,[]⟩ []
def HQ (t a b:Ou):Prop:=af t.I6 2 6=true/\a.I6=0/\b.I6=0/\af (dH t.I6 a.L3 b.L3) 0 999=true
instance (t a b:Ou):Decidable (HQ t a b):=by unfold HQ;infer_instance
def zp (t:Ou):List Ex->Ex
 | [.node a [],.node b []]=>if HQ t a b then CA (dH t.I6 a.L3 b.L3)else .node t [.node a [],.node b []]
 | fs=> .node t fs
mutual
def Ex.fold:Ex->Ex
 | .node t es=>zp t (bm es)
def bm:List Ex->List Ex
 | []=>[]
 | a::es=>a.fold::bm es
end
theorem aO (l:List Ou):flat (l.map Ou.tr):=xU _ (by intro x c hc sz rs e;subst e;simp[Ou.tr]at hc)
theorem kU:∀es:List Ex,(bm es).length=es.length
 | []=>rfl
 | a::es=>by rw[bm,c7,kU,c7]
theorem oJ:∀(es:List Ex) (j:Nat),(bm es).take j=bm (es.take j)
 | [],j=>by simp[bm]
 | a::es,0=>by rw[F9,F9,bm]
 | a::es,j+1=>by rw[bm,r8,r8,bm,oJ es j]
theorem nz:∀{es:List Ex} {j:Nat} {a:Ex},es[j]?=some a->bm (es.take (j+1))=bm (es.take j)++[a.fold]
 | [],_,_,h=>by simp at h
 | b::es,0,a,h=>by
  rw[i8]at h;injection h with h;subst h
  rfl
 | b::es,j+1,a,h=>by
  rw[m5]at h;rw[r8,bm,r8,bm,nz h,p0]
theorem mT (a:Ex):ao [a]=a.toks:=by rw[ao,ao,i9]
theorem wB {f:Ex}(h:f.toks.length=1):∃a,f= .node a []:=by
 cases f with
 | node a es=>
  rw[Ex.toks,c7]at h
  cases es with
  | nil=>exact⟨a,rfl⟩
  | cons b es=>rw[ao,b8]at h;have:=b.toks_pos;omega
theorem ng {t:Ou}{fs:List Ex}(h:(ao fs).length≠2\/af t.I6 2 6=false):zp t fs= .node t fs:=by
 unfold zp;split
 ·rename_i a b;rw[c8];intro hc;rcases h with h|h
  ·exact h (by simp[ao,Ex.toks])
  ·rw[hc.1]at h;cases h
 ·rfl
theorem Da (t a b:Ou):zp t [.node a [],.node b []]=if HQ t a b then CA (dH t.I6 a.L3 b.L3)else .node t [.node a [],.node b []]:=rfl
theorem Mm (t:Ou)(fs:List Ex):(zp t fs).toks.length<=1+(ao fs).length:=by
 unfold zp;split
 ·split
  ·simp[CA,Ex.toks,ao]
  ·simp[Ex.toks,ao]
 ·rw[Ex.toks,c7];omega
mutual
theorem Ex.fold_le:∀e:Ex,e.fold.toks.length<=e.toks.length
 | .node t es=>by
  rw[Ex.fold,Ex.toks,c7];have h1:=Mm t (bm es);have h2:=pP es;omega
theorem pP:∀es:List Ex,(ao (bm es)).length<=(ao es).length
 | []=>d7 _
 | a::es=>by
  rw[bm,ao,ao,b8,b8];have h1:=Ex.fold_le a;have h2:=pP es;omega
end
theorem dL:∀(es:List Ex) (j:Nat),(ao (es.take j)).length<=(ao es).length
 | [],j=>by rw[List.take_nil];omega
 | a::es,0=>by rw[F9,ao];simp
 | a::es,j+1=>by
  have:=dL es j;rw[r8,ao,ao,b8,b8];omega
theorem kH:∀{es:List Ex} {j:Nat} {a:Ex},es[j]?=some a->a.toks.length<=(ao es).length
 | [],_,_,h=>by simp at h
 | b::es,0,a,h=>by
  rw[i8]at h;injection h with h;subst h
  rw[ao,b8];omega
 | b::es,j+1,a,h=>by
  rw[m5]at h;have:=kH h;rw[ao,b8];omega
theorem mz:∀{es:List Ex} {j:Nat} {a:Ex},jL es->es[j]?=some a->a.ok
 | [],_,_,_,h=>by simp at h
 | b::es,0,a,ho,h=>by
  rw[i8]at h;injection h with h;subst h
  exact ho.1
 | b::es,j+1,a,ho,h=>by
  rw[m5]at h;exact mz ho.2 h
theorem KI {t:Ou}(ho:fv t=true)(hk:af t.I6 2 6=true):ar t=2:=by have:=within_iff.1 hk;unfold ar nP;rw[c8 aae,c8 o_,c8 o_];rfl
theorem JO {α:Type}{l:List α}(h:l.length=2):∃a b,l=[a,b]:=by
 match l,h with
 | [a,b],_=>exact⟨a,b,rfl⟩
theorem Q28{p:Prop}(h:p:=by exact⟨⟨rfl,aO _⟩⟩):p:=h
theorem V31{p:Prop}(h:p:=by
 generalize dH t.I6 a.L3 b.L3=ap at *
 repeat' ((conv=>whnf);first|apply Wx|apply W6|apply oi|apply fi|intro h|refine⟨p,t.tr,rfl,aa ht,?_⟩|refine cl hB ?_|refine⟨1,rfl,VQ,?_⟩|refine⟨2,rfl,VV,?_⟩|refine⟨a.tr,rfl,?_⟩|refine⟨b.tr,rfl,?_⟩|refine cl Wp ?_|refine cl SL ?_|exact Y6|refine e_ rfl ?_)
 all_goals try exact Q28
 all_goals try(exfalso;simp_all;done)):p:=h
theorem Q19{p:Prop}(h:p:=by exact⟨⟨by rw[Vh,Qy];(try dsimp only);omega,by rw[Vh,Qy];(try dsimp only);omega⟩⟩):p:=h
theorem nZ:∀(n:Nat) (e:Ex),e.toks.length<=n->∀(l:List Ou) (p:Nat),l.length<=1048576->eG l->e.ok->ik l p e->Sim.Spec prog 240 [tvL 3 (l.map Ou.tr),tvI p] (rL 3 (e.fold.toks.map Ou.tr))
 | 0,e,hn,_,_,_,_,_,_=>by have:=e.toks_pos;omega
 | n+1,.node t es,hn,l,p,hl,RX,ho,hs=>by
  refine aI hΓ ay func240 rfl d_ rfl ?_;have N1:(l.map Ou.tr).length=l.length:=s_;have OH:=gz hs;obtain⟨ht,RL⟩:=iO hs;have hO:=vR l p t es hl RX ho hs;have Pw:((ig (p+1) es).map nR).length=es.length:=by rw[d9,th]
  rw[Ex.toks,c7]at hn OH;rw[Ex.fold];have Zf:=pP es;obtain⟨e1,e2⟩:=rD ho.1;have Pq:es.length=ar t:=ho.2.1;repeat' ((conv=>whnf);first|apply Wx|apply W6|apply oi|apply fi|intro h|refine cl hO ?_|refine⟨p,t.tr,rfl,aa ht,?_⟩|exact Y8|refine e_ rfl ?_)
  conv=>whnf
  refine⟨{j:Nat//j<=es.length},fun q=>⟨[(0,.r (.c (.t (.lst 3 (l.map Ou.tr))))),(1,tI .i64 (p:Int)),(5,.r (.c (.own (5,0,0)))),(6,.r (.c (.own (6,0,0)))),(7,tI .i64 (q.1:Int))],[((5,0,0),some (.arr false 3 ((t::ao (bm (es.take q.1))).map Ou.tr))),((6,0,0),some (.arr true 1 ((ig (p+1) es).map nR)))],[5,6]⟩,fun q=>es.length-q.1,⟨0,o_⟩,?_,?_⟩
  ·repeat' ((conv=>whnf);first|apply Wx|apply W6|apply oi|apply fi|intro h|exact Y8|refine e_ rfl ?_)
   all_goals try exact⟨by simp[bm,ao];rfl⟩
  intro⟨j,hj⟩;dsimp only at hj⊢;by_cases N2:j<es.length
  ·obtain⟨a,ha⟩:=ab N2;obtain⟨q,hq,YZ⟩:=wv RL ha;have OC:=kH ha;have hR:=nZ n a o_ l q hl RX (mz ho.2.2 ha) YZ;have Pg:j<((ig (p+1) es).map nR).length:=(by rw[Pw];exact N2);have WL:=a.fold_le;have UG:=dL (bm es) j;rw[oJ]at UG;have Vh:((t::ao (bm (es.take j))).map Ou.tr).length=1+(ao (bm (es.take j))).length:=(by simp;omega);have Qy:(a.fold.toks.map Ou.tr).length=a.fold.toks.length:=s_;repeat' ((conv=>whnf);first|apply Wx|apply W6|apply oi|apply fi|intro h|refine cl hR ?_|refine⟨j,rfl,Pg,?_⟩|refine⟨(nR q),(aa hq),?_⟩|exact Y6|refine e_ rfl ?_)
   all_goals try exact Q19
   conv=>whnf
   refine⟨⟨j+1,o_⟩,?_,KD⟩;repeat' ((conv=>whnf);first|apply Wx|apply W6|apply oi|apply fi|intro h|exact Y7|refine e_ rfl ?_)
   all_goals exact⟨by rw[nz ha,fU,mT];simp⟩
  ·have RF:j=es.length:=o_;subst RF;rw[B3];have hB:=cC t.I6 2 6;have Vw:=kU es;have Vj:((t::ao (bm es)).map Ou.tr).length=1+(ao (bm es)).length:=by simp;omega
   generalize bm es=F at *
   cases hk:af t.I6 2 6 with
   | false=>
    rw[hk]at hB;rw[ng (.inr hk),Ex.toks];repeat' ((conv=>whnf);first|apply Wx|apply W6|apply oi|apply fi|intro h|refine⟨p,t.tr,rfl,aa ht,?_⟩|refine cl hB ?_|exact Y6|refine e_ rfl ?_)
    all_goals exact Q28
   | true=>
    rw[hk]at hB;by_cases h2:(ao F).length=2
    ·obtain⟨f1,f2,rfl⟩:=JO (Vw.trans (Pq.trans (KI ho.1 hk)));rw[ao,mT,b8]at h2;have p1:=f1.toks_pos;have p2:=f2.toks_pos;obtain⟨a,rfl⟩:=wB (f:=f1) o_;obtain⟨b,rfl⟩:=wB (f:=f2) o_;have e3:t::ao [Ex.node a [],Ex.node b []]=[t,a,b]:=(by simp[ao,Ex.toks]);have e4:(Ex.node t [Ex.node a [],Ex.node b []]).toks=[t,a,b]:=(by rw[Ex.toks];exact e3);rw[e3];have VQ:1<([t,a,b].map Ou.tr).length:=s_;have VV:2<([t,a,b].map Ou.tr).length:=s_;have Wp:=BG t.I6 a.L3 b.L3;have SL:=cC (dH t.I6 a.L3 b.L3) 0 999;rw[Da];by_cases hc:HQ t a b
     ·rw[d5 hc];obtain⟨_,c1,c2,c3⟩:=hc;rw[c3]at SL;have e5:(CA (dH t.I6 a.L3 b.L3)).toks=[⟨0,dH t.I6 a.L3 b.L3,[]⟩]:=(by simp[CA,Ex.toks,ao]);rw[e5]
      generalize dH t.I6 a.L3 b.L3=ap at *
      repeat' ((conv=>whnf);first|apply Wx|apply W6|apply oi|apply fi|intro h|refine⟨p,t.tr,rfl,aa ht,?_⟩|refine cl hB ?_|refine⟨1,rfl,VQ,?_⟩|refine⟨2,rfl,VV,?_⟩|refine⟨a.tr,rfl,?_⟩|refine⟨b.tr,rfl,?_⟩|refine cl Wp ?_|refine cl SL ?_|exact Y6|refine e_ rfl ?_)
      all_goals try exact Q3
     ·rw[c8 hc,e4];have Ur:∀w,af (dH t.I6 a.L3 b.L3) 0 999=w->a.I6=0->b.I6=0->w=true->False:=fun w h1 h2 h3 h4=>hc ⟨hk,h2,h3,h1.trans h4⟩
      cases hw:af (dH t.I6 a.L3 b.L3) 0 999 with
      | true=>
       rw[hw]at SL;have XJ:=Ur true hw
       exact V31
      | false=>rw[hw]at SL;exact V31
    ·rw[ng (.inl h2),Ex.toks];repeat' ((conv=>whnf);first|apply Wx|apply W6|apply oi|apply fi|intro h|refine⟨p,t.tr,rfl,aa ht,?_⟩|refine cl hB ?_|exact Y6|refine e_ rfl ?_)
     all_goals try exact Q28
     all_goals try(exfalso;rw[Vj]at *;simp at *;omega)
end Go.Proofs.P
namespace Go.Proofs.P
open Go.Sim Tryz
structure Grow (n:Nat) (s s':Gs):Prop where
 ge:s.I4.length<=s'.I4.length
 le:s'.I4.length<=s.I4.length+n
 J1:s.J1<=s'.J1
 cap:s.J1<=1000->s'.J1<=1000
theorem Grow.refl (s:Gs):Grow 0 s s:=⟨d7 _,d7 _,v7 _,id⟩
theorem Grow.trans {n m:Nat}{a b c:Gs}(h:Grow n a b)(h':Grow m b c):Grow (n+m) a c:=⟨t7 h.ge h'.ge,by have:=h.le;have:=h'.le;omega,Int.le_trans h.J1 h'.J1,fun x=>h'.cap (h.cap x)⟩
theorem Grow.mono {n m:Nat}{a b:Gs}(h:Grow n a b)(hn:n<=m):Grow m a b:=⟨h.ge,by have:=h.le;omega,h.J1,h.cap⟩
theorem bo (C:Cx)(s:Gs)(d code arg line:Int)(chain:List Int):Grow 1 s (aA C s d code arg line chain):=⟨by simp[aA],by simp[aA],v7 _,id⟩
theorem eh (l:List Oi)(j v:Int):(bI l j v).length=l.length:=by
 unfold bI;split
 ·split
  ·rw[s7]
  ·rfl
 ·rfl
theorem gw (v:Int):∀(js:List Int) (l:List Oi),(cB l v js).length=l.length
 | [],_=>rfl
 | j::js,l=>by rw[cB,gw v js,eh]
def cE:Nat->Nat
 | 0=>1
 | n+1=>30+9*(20*cE n+3)
theorem wM:∀n,1<=cE n
 | 0=>d7 _
 | n+1=>by rw[cE];omega
theorem LZ:∀{n m:Nat},n<=m->cE n<=cE m:=by
 intro n m h
 induction h with
 | refl=>exact d7 _
 | step _ ih=>rw[cE];omega
theorem ur {n:Nat}(h:n<=3):cE n<=8679837:=t7 (LZ h) (by simp[cE])
def bO (C:Cx)(g:Nat):Prop:=∃ln,C.p[g]?=some ln/\ln.I6=0
section
variable {C:Cx} {x:Sc} {ins:List Nat} {rep:Sc->List Nat->Nat->Nat->Int->Gs->Gs} {line:Nat} {lev:Nat}
theorem sd (y:Sc)(chain:List Int)(line:Int):∀(n:Nat) (d:Int) (s:Gs),Grow n s (cf C y chain line n d s)
 | 0,d,s=>Grow.refl s
 | n+1,d,s=>by
  rw[cf];exact((bo C s d _ _ _ _).trans (sd y chain line n (d-1) _)).mono o_
theorem vc (y:Sc)(chain:List Int)(line d:Int):∀(n i:Nat) (s:Gs),Grow (2*n) s (cR C y chain line d n i s)
 | 0,i,s=>Grow.refl s
 | n+1,i,s=>by
  rw[cR];exact(((bo C s d _ _ _ _).trans (bo C _ (d+1) _ _ _ _)).trans (vc y chain line d n (i+1) _)).mono o_
theorem Ia (N3:∀g d s,bO C g->cw C ins g s.I4.length=true->Grow (cE lev) s (rep x ins line g d s))(t:Ou)(d:Int)(s:Gs):Grow (cE lev) s (iB C rep x ins line t d s):=by
 have hp:=wM lev;unfold iB;split
 ·exact(bo ..).mono hp
 ·split
  ·exact(bo ..).mono hp
  ·split
   ·split
    ·rename_i g hg;split
     ·rename_i hr;obtain⟨_,ln,h1,h2,_⟩:=eV hg;exact N3 g d s ⟨ln,h1,h2⟩ hr
     ·exact(bo ..).mono hp
    ·exact(Grow.refl s).mono o_
   ·exact(bo ..).mono hp
mutual
theorem AB (N3:∀g d s,bO C g->cw C ins g s.I4.length=true->Grow (cE lev) s (rep x ins line g d s)):∀(e:Ex) (d:Int) (s:Gs),Grow (e.toks.length*cE lev) s (dx C rep x ins line e d s)
 | .node t es,d,s=>by
  rw[dx,Ex.toks,c7];exact((mU N3 es d s).trans (Ia N3 t _ _)).mono (by rw[o8];omega)
theorem mU (N3:∀g d s,bO C g->cw C ins g s.I4.length=true->Grow (cE lev) s (rep x ins line g d s)):∀(es:List Ex) (d:Int) (s:Gs),Grow ((ao es).length*cE lev) s (cO C rep x ins line es d s)
 | [],d,s=>by rw[cO,ao];exact(Grow.refl s).mono o_
 | a::es,d,s=>by
  rw[cO,ao,b8,o8];exact(AB N3 a d s).trans (mU N3 es (d+1) _)
end
theorem rj (C:Cx)(rep:Sc->List Nat->Nat->Nat->Int->Gs->Gs)(x:Sc)(ins:List Nat)(line:Nat):∀{es:List Ex} {j:Nat} {a:Ex} (d:Int) (s:Gs),es[j]?=some a->cO C rep x ins line (es.take (j+1)) d s=dx C rep x ins line a (d+j) (cO C rep x ins line (es.take j) d s)
 | [],_,_,_,_,h=>by simp at h
 | b::es,0,a,d,s,h=>by
  rw[i8]at h;injection h with h;subst h
  simp[cO]
 | b::es,j+1,a,d,s,h=>by
  rw[m5]at h;rw[r8,cO,rj C rep x ins line (d+1) _ h,r8,cO];congr 1;omega
theorem jF:∀{es:List Ex} {j:Nat} {a:Ex},es[j]?=some a->(ao (es.take (j+1))).length=(ao (es.take j)).length+a.toks.length
 | [],_,_,h=>by simp at h
 | b::es,0,a,h=>by
  rw[i8]at h;injection h with h;subst h
  simp[ao]
 | b::es,j+1,a,h=>by
  rw[m5]at h;rw[r8,ao,b8,jF h,r8,ao,b8];omega
theorem jR (hC:CxOk C)(hx:ScOk C x ins)(line:Nat){g:Nat}(hg:bO C g):ScOk C (bN C x line g) (ins++[g]):=by
 obtain⟨e,_,_,_,_,h8⟩:=hx.endE hC;have OH:=hx.argLe hC;refine⟨hg,rfl,?_,?_,?_,?_,by simp[bN]⟩
 ·simp only[bN,bK,b8,c7,e7];have:=hx.first;split
  ·rename_i ho;rw[hx.args ho];omega
  ·omega
 ·simp only[bN,b8,c7,e7];have:=hx.I5;omega
 ·simp[bN]
 ·simp[bN]
theorem tm (hC:CxOk C)(hx:ScOk C x ins):0<=bK C x/\bK C x<=8*ins.length+8:=by
 obtain⟨e,_,_,_,_,h8⟩:=hx.endE hC;have OH:=hx.argLe hC;have:=hx.first;unfold bK;split
 ·rename_i ho;rw[hx.args ho];omega
 ·omega
theorem dz (hC:CxOk C){g:Nat}(hg:bO C g):(localsOf C.p (g:Int)).length<=8/\argsN C.p g<=(localsOf C.p (g:Int)).length:=by obtain⟨ln,h1,h2⟩:=hg;obtain⟨e,h3,h4,h5,_⟩:=hC.fn _ _ h1 h2;rw[argsN,h1];exact⟨h4,h5⟩
theorem Ab (hC:CxOk C)(hx:ScOk C x ins)(hi:ins.length<=10)(line:Nat){g:Nat}(hg:bO C g)(d:Int)(s:Gs):Grow 16 s (dB C x line g d s):=by obtain⟨h1,h2⟩:=dz hC hg;have ht:=tm hC hx;have h0:Grow 0 s ⟨s.I4,max s.J1 (bK C x+(localsOf C.p (g:Int)).length),s.start⟩:=⟨d7 _,d7 _,g_,fun h=>g_⟩;unfold dB;exact((h0.trans (sd _ _ _ _ _ _)).trans (vc _ _ _ _ _ _ _)).mono o_
theorem uK (x:Sc)(line:Nat)(d:Int)(s:Gs):Grow 1 s (bA C x line d s):=by
 unfold bA;split
 ·exact bo ..
 ·exact(Grow.refl s).mono o_
theorem oF (x:Sc)(k:Nat)(last:Bool)(d:Int)(L:Ls):Grow 1 L.g (aU C x k last d L).g:=by
 unfold aU;split
 ·split
  ·exact bo ..
  ·exact bo ..
 ·split
  ·exact(Grow.refl _).mono o_
  ·exact bo ..
theorem Grow.set {n:Nat}{a b:Gs}{l:List Oi}(h:Grow n a b)(hl:l.length=b.I4.length):Grow n a ⟨l,b.J1,b.start⟩:=⟨by have:=h.ge;simp only[hl];omega,by have:=h.le;simp only[hl];omega,h.J1,h.cap⟩
theorem ni (N3:∀g d s,bO C g->cw C ins g s.I4.length=true->Grow (cE lev) s (rep x ins line g d s))(hC:CxOk C){k:Nat}{ln:Oj}(hk:C.p[k]?=some ln)(he:bF ln.J5=true)(d:Int)(s:Gs):Grow (20*cE lev) s (dx C rep x ins line (exL ln.J5) d s):=by have h1:=(rl he).2;have h2:=(hC.line _ _ hk).2.2.2.1;rw[h1]at h2;exact(AB N3 _ d s).mono (l8 _ h2)
theorem mM (N3:∀line g d s,bO C g->cw C ins g s.I4.length=true->Grow (cE lev) s (rep x ins line g d s))(hC:CxOk C){k:Nat}{ln:Oj}(hk:C.p[k]?=some ln)(h0:ln.I6≠0)(base:Int)(L:Ls):Grow (20*cE lev+2) L.g (dq C rep x ins base k ln L).g:=by
 unfold dq;split
 ·exact((bo ..).set (eh _ _ _)).mono o_
 ·split
  ·split
   ·refine Grow.mono (n:=1+1) ?_ o_;exact(bo ..).trans (oF x k true (base+1) {L with g:=aA C L.g base 0 0 k x.I5})
   ·split
    ·exact(bo ..).mono o_
    ·exact(Grow.refl _).mono o_
  ·rename_i h4 h7;have hl:=hC.line _ _ hk
   have Py:Grow (20*cE lev) L.g (dx C rep x ins k (exL ln.J5) base ⟨L.g.I4,L.g.J1,true⟩):=by have:=ni (fun g d s=>N3 k g d s) hC hk (hl.2.2.2.2 o_) base ⟨L.g.I4,L.g.J1,true⟩;exact⟨this.ge,this.le,this.J1,this.cap⟩
   split
   ·exact(Py.trans (bo ..)).mono o_
   ·split
    ·exact(Py.trans (bo ..)).mono o_
    ·split
     ·refine Grow.mono (n:=20*cE lev+1) ?_ o_;exact Py.trans (oF x k false (base+1) {L with g:=dx C rep x ins k (exL ln.J5) base ⟨L.g.I4,L.g.J1,true⟩,I9:=L.I9.set k L.g.I4.length})
     ·exact(Py.trans (bo ..)).mono o_
theorem xM (k:Nat)(ln:Oj)(L:Ls):Grow 0 L.g (bc C x k ln L).g:=by
 unfold bc;split
 ·exact(Grow.refl _).set (eh _ _ _)
 ·exact Grow.refl _
theorem zU (N3:∀line g d s,bO C g->cw C ins g s.I4.length=true->Grow (cE lev) s (rep x ins line g d s))(hC:CxOk C)(base:Int):∀(n k:Nat) (L:Ls),(∀i y,k<=i->i<k+n->C.p[i]?=some y->y.I6≠0)->Grow (n*(20*cE lev+3)) L.g (gD C rep x ins base n k L).g
 | 0,k,L,_=>(Grow.refl _).mono o_
 | n+1,k,L,h=>by
  rw[gD];split
  ·rename_i ln hk;exact(((mM N3 hC hk (h k ln (d7 _) o_ hk) base L).trans (xM k ln _)).trans (zU N3 hC base n (k+1) _ fun i y h1 h2 hy=>h i y o_ o_ hy)).mono (by rw[o8];omega)
  ·exact(Grow.refl _).mono o_
theorem V117{p:Prop}(h:p:=by
 by_cases PZ:i=e
 ·subst PZ;obtain⟨z,hz,h7⟩:=bG h3;rw[hy]at hz;injection hz with hz;subst hz;omega
 ·exact(h4 i y o_ o_ hy).1):p:=h
theorem je (N3:∀line g d s,bO C g->cw C ins g s.I4.length=true->Grow (cE lev) s (rep x ins line g d s))(hC:CxOk C)(hx:ScOk C x ins)(base:Int)(s:Gs):Grow ((jK C.p x.f-x.f)*(20*cE lev+3)) s (aV C rep x ins base s).1:=by unfold aV;obtain⟨ln,h1,h2⟩:=hx.fn;obtain⟨e,h3,_,_,h4⟩:=hC.fn _ _ h1 h2;obtain⟨e',g3,_,_,g5,_⟩:=hx.endE hC;rw[h3]at g3;injection g3 with g3;subst g3;rw[g5];refine zU N3 hC base (e-x.f) (x.f+1) (cq C s) fun i y k1 k2 hy=>?_;exact V117
end
theorem eA {C:Cx}{ins:List Nat}{g n:Nat}(h:cw C ins g n=true):(ins.length:Int)<=C.b.L4/\bB C.p (g:Int)-g<=9/\n<200/\g∉ins:=by unfold cw at h;simp only[c9,j7,u9,List.contains_eq_mem,n7]at h;exact⟨h.1,h.2.1,h.2.2.1,h.2.2.2⟩
theorem dF {C:Cx}(hC:CxOk C):∀(lev:Nat) {x:Sc} {ins:List Nat} (line g:Nat) (d:Int) (s:Gs),ScOk C x ins->bO C g->cw C ins g s.I4.length=true->Grow (cE lev) s (bf C lev x ins line g d s)
 | 0,x,ins,line,g,d,s,hx,hg,hr=>(Grow.refl s).mono o_
 | lev+1,x,ins,line,g,d,s,hx,hg,hr=>by
  obtain⟨r1,r2,_,_⟩:=eA hr;have hin:=hC.inl;have hy:=jR hC hx line hg;have h1:=Ab hC hx o_ line hg d s;have h2:=uK (C:=C) x line (d-argsN C.p g) (dB C x line g d s);have h3:=je (lev:=lev) (rep:=bf C lev) (fun line g d s hg hr=>dF hC lev line g d s hy hg hr) hC hy (d-argsN C.p g) (bA C x line (d-argsN C.p g) (dB C x line g d s));obtain⟨e,e1,e2,e3,e4,_⟩:=hy.endE hC;have e5:bB C.p (g:Int)=(e:Int):=by rw[bu];exact br e1
  have e6:jK C.p (bN C x line g).f-(bN C x line g).f<=9:=by rw[e4];show e-g<=9;omega
  have h4:=((h1.trans h2).trans h3).mono (m:=cE (lev+1)) (by
   rw[cE];have:=l8 (20*cE lev+3) e6
   omega)
  show Grow _ s (jp C (aV C (bf C lev)) x ins line g d s);unfold jp;exact h4.set (gw _ _ _)
def lvOk (L:Ls):Prop:=L.lv.length<=L.g.I4.length/\∀j∈L.lv,0<=j/\j<L.g.I4.length
section
variable {C:Cx} {x:Sc} {ins:List Nat} {rep:Sc->List Nat->Nat->Nat->Int->Gs->Gs} {lev:Nat}
theorem lvOk.grow {n:Nat}{L L':Ls}(h:lvOk L)(hl:L'.lv=L.lv)(hg:Grow n L.g L'.g):lvOk L':=⟨by rw[hl];exact t7 h.1 hg.ge,fun j hj=>by
 rw[hl]at hj;have:=h.2 j hj;have:=hg.ge
 omega⟩
theorem Ba {L:Ls}(h:lvOk L)(k:Nat)(last:Bool)(d:Int):lvOk (aU C x k last d L):=by
 have hg:=oF (C:=C) x k last d L;unfold aU at hg⊢;split
 ·rename_i ho;rw[d5 ho]at hg;split
  ·rename_i hf;rw[d5 hf]at hg;exact h.grow rfl hg
  ·rename_i hf;rw[c8 hf]at hg;exact h.grow rfl hg
 ·split
  ·exact h
  ·refine⟨by have:=h.1;simp only[aA,b8,c7,e7];omega,?_⟩;intro j hj;simp only[f0,d6,j6,or_false]at hj;simp only[aA,b8,c7,e7];rcases hj with hj|rfl
   ·have:=h.2 j hj;omega
   ·omega
theorem CJ (N3:∀line g d s,bO C g->cw C ins g s.I4.length=true->Grow (cE lev) s (rep x ins line g d s))(hC:CxOk C){k:Nat}{ln:Oj}(hk:C.p[k]?=some ln)(h0:ln.I6≠0)(base:Int){L:Ls}(h:lvOk L):lvOk (dq C rep x ins base k ln L):=by
 have hg:=mM (x:=x) (ins:=ins) (rep:=rep) (lev:=lev) N3 hC hk h0 base L;unfold dq at hg⊢;split
 ·rename_i h4;rw[d5 h4]at hg;exact h.grow rfl hg
 ·rename_i h4;rw[c8 h4]at hg;split
  ·rename_i h7;rw[d5 h7]at hg;split
   ·exact Ba (h.grow (L':={L with g:=aA C L.g base 0 0 k x.I5}) rfl (bo ..)) _ _ _
   ·rename_i ho;rw[c8 ho]at hg;split
    ·rename_i h5;rw[d5 h5]at hg;exact h.grow rfl hg
    ·exact h
  ·rename_i h7;have hl:=hC.line _ _ hk;have Py:=ni (x:=x) (ins:=ins) (rep:=rep) (line:=k) (lev:=lev) (fun g d s=>N3 k g d s) hC hk (hl.2.2.2.2 o_) base ⟨L.g.I4,L.g.J1,true⟩;have Tn:lvOk {L with g:=dx C rep x ins k (exL ln.J5) base ⟨L.g.I4,L.g.J1,true⟩,I9:=L.I9.set k L.g.I4.length}:=h.grow rfl ⟨Py.ge,Py.le,Py.J1,Py.cap⟩;split
   ·exact Tn.grow rfl (bo ..)
   ·split
    ·exact Tn.grow rfl (bo ..)
    ·split
     ·exact Ba Tn _ _ _
     ·exact Tn.grow rfl (bo ..)
theorem Ep (k:Nat)(ln:Oj){L:Ls}(h:lvOk L):lvOk (bc C x k ln L):=by
 have hg:=xM (C:=C) (x:=x) k ln L;unfold bc at hg⊢;split
 ·rename_i h1;rw[d5 h1]at hg;exact h.grow rfl hg
 ·exact h
theorem HA (N3:∀line g d s,bO C g->cw C ins g s.I4.length=true->Grow (cE lev) s (rep x ins line g d s))(hC:CxOk C)(base:Int):∀(n k:Nat) (L:Ls),(∀i y,k<=i->i<k+n->C.p[i]?=some y->y.I6≠0)->lvOk L->lvOk (gD C rep x ins base n k L)
 | 0,k,L,_,h=>h
 | n+1,k,L,hf,h=>by
  rw[gD];split
  ·rename_i ln hk;exact HA N3 hC base n (k+1) _ (fun i y h1 h2 hy=>hf i y o_ o_ hy) (Ep k ln (CJ N3 hC hk (hf k ln (d7 _) o_ hk) base h))
  ·exact h
theorem lp (hC:CxOk C)(hx:ScOk C x ins){e:Nat}(he:endAt C.p x.f=some e){i:Nat}{y:Oj}(h1:x.f+1<=i)(h2:i<=e)(hy:C.p[i]?=some y):y.I6≠0:=by
 obtain⟨ln,g1,g2⟩:=hx.fn;obtain⟨e',h3,_,_,h4⟩:=hC.fn _ _ g1 g2;rw[he]at h3;injection h3 with h3;subst h3;by_cases PZ:i=e
 ·subst PZ;obtain⟨z,hz,h7⟩:=bG he;rw[hy]at hz;injection hz with hz;subst hz;omega
 ·exact(h4 i y o_ o_ hy).1
theorem AH (N3:∀line g d s,bO C g->cw C ins g s.I4.length=true->Grow (cE lev) s (rep x ins line g d s))(hC:CxOk C)(hx:ScOk C x ins)(base:Int)(s:Gs):(aV C rep x ins base s).2.length<=(aV C rep x ins base s).1.I4.length/\∀j∈(aV C rep x ins base s).2,0<=j/\j<((aV C rep x ins base s).1.I4.length:Int):=by unfold aV;obtain⟨e,g3,g4,_,g5,_⟩:=hx.endE hC;rw[g5];exact HA N3 hC base (e-x.f) (x.f+1) (cq C s) (fun i y k1 k2 hy=>lp hC hx g3 k1 o_ hy) ⟨by simp[cq],by intro j hj;simp[cq]at hj⟩
end
theorem oy (v j:Int):∀(js:List Int) (l:List Oi),cB l v (js++[j])=bI (cB l v js) j v
 | [],l=>by rw[p8,cB,cB,cB]
 | a::js,l=>by rw[p0,cB,oy v j js,cB]
end Go.Proofs.P
namespace Go.Proofs.P
open Go.Sim Tryz
def dM (l:List Oi)(v to:Int):List (Int×Int)->List Oi
 | []=>l
 | e::r=>dM (if e.1=to then bI l e.2 v else l) v to r
theorem yX (v to:Int):∀(E:List (Int×Int)) (l:List Oi),(dM l v to E).length=l.length
 | [],l=>rfl
 | e::r,l=>by
  rw[dM,yX v to r];split
  ·rw[eh]
  ·rfl
theorem ma (v to:Int):∀(A B:List (Int×Int)) (l:List Oi),dM l v to (A++B)=dM (dM l v to A) v to B
 | [],B,l=>rfl
 | a::A,B,l=>by rw[p0,dM,ma v to A B,dM]
theorem DG (v to:Int)(e:Int×Int)(E:List (Int×Int))(l:List Oi):dM l v to (E++[e])=if e.1=to then bI (dM l v to E) e.2 v else dM l v to E:=by rw[ma];rfl
def jumps (p:List Oj)(i:Nat):Prop:=cK p i=3\/cK p i=4\/cK p i=5
instance (p:List Oj) (i:Nat):Decidable (jumps p i):=by unfold jumps;infer_instance
def mj (p:List Oj)(i:Nat):Int:=if cK p i=4 then bB p (aQ p i:Int)+1 else if cK p i=3/\0<=bv p (i:Int)then-bv p (i:Int)else bB p (i:Int)+1
def sV (p:List Oj)(pos:List Int)(i:Nat):List (Int×Int):=if jumps p i then [(mj p i,atL pos i)]else []
def bq (p:List Oj)(pos:List Int)(f:Nat):Nat->List (Int×Int)
 | 0=>[]
 | n+1=>bq p pos f n++sV p pos (f+n)
theorem qY (p:List Oj)(pos:List Int)(f:Nat):∀n,(bq p pos f n).length<=n
 | 0=>d7 _
 | n+1=>by
  have:=qY p pos f n;rw[bq,b8,sV];split<;>simp<;>omega
theorem fN {l:List Int}{k i:Nat}{v:Int}(h:i≠k):atL (l.set k v) i=atL l i:=by unfold atL;rw[A0 (fun e=>h e.symm)]
theorem jx {l:List Int}{k:Nat}{v:Int}(h:k<l.length):atL (l.set k v) k=v:=by unfold atL;rw[u4 h];rfl
theorem xp (p:List Oj)(pos:List Int)(f k:Nat)(v:Int):∀n,f+n<=k->bq p (pos.set k v) f n=bq p pos f n
 | 0,_=>rfl
 | n+1,h=>by
  rw[bq,bq,xp p pos f k v n o_,sV,sV,fN o_]
theorem nA {p:List Oj}{pos:List Int}{f k:Nat}(h:f+1<=k)(hj:¬jumps p k):bq p pos (f+1) (k+1-(f+1))=bq p pos (f+1) (k-(f+1)):=by rw[show k+1-(f+1)=(k-(f+1))+1 by omega,bq,show f+1+(k-(f+1))=k by omega,sV,c8 hj,i9]
theorem wO {p:List Oj}{pos:List Int}{f k:Nat}(h:f+1<=k)(hj:jumps p k)(hk:k<pos.length)(v:Int):bq p pos (f+1) (k-(f+1))++[(mj p k,v)]=bq p (pos.set k v) (f+1) (k+1-(f+1)):=by rw[show k+1-(f+1)=(k-(f+1))+1 by omega,bq,xp _ _ _ _ _ _ o_,show f+1+(k-(f+1))=k by omega,sV,d5 hj,jx hk]
theorem nl {p:List Oj}{pos:List Int}{f:Nat}:∀{n:Nat} {e:Int×Int},e∈bq p pos f n->∃i,f<=i/\i<f+n/\jumps p i/\e=(mj p i,atL pos i)
 | 0,e,h=>by simp[bq]at h
 | n+1,e,h=>by
  rw[bq,f0]at h;rcases h with h|h
  ·obtain⟨i,h1,h2,h3⟩:=nl h;exact⟨i,h1,o_,h3⟩
  ·rw[sV]at h;split at h
   ·rename_i hj;simp only[d6,j6,or_false]at h;exact⟨f+n,o_,o_,hj,h⟩
   ·cases h
theorem lj {v to:Int}:∀{E:List (Int×Int)} {l:List Oi},(∀e∈E,e.1≠to)->dM l v to E=l
 | [],_,_=>rfl
 | e::r,l,h=>by rw[dM,c8 (h e s_),lj fun x hx=>h x aat]
theorem ui {p:List Oj}{pos:List Int}{f i0:Nat}{v to:Int}(hj:jumps p i0)(ht:mj p i0=to):∀{n:Nat} {l:List Oi},f<=i0->i0<f+n->(∀i,f<=i->i<f+n->jumps p i->mj p i=to->i=i0)->dM l v to (bq p pos f n)=bI l (atL pos i0) v
 | 0,l,h1,h2,_=>o_
 | n+1,l,h1,h2,hu=>by
  rw[bq,ma];by_cases h:i0=f+n
  ·subst h
   rw[lj (E:=bq p pos f n) (fun e he=>by
    obtain⟨i,k1,k2,k3,rfl⟩:=nl he;intro hh;have:=hu i k1 o_ k3 hh
    omega)]
   rw[sV,d5 hj];show(if(mj p (f+n),atL pos (f+n)).1=to then _ else _)=_;rw[d5 ht]
  ·rw[ui hj ht h1 o_ fun i k1 k2 k3 k4=>hu i k1 o_ k3 k4];refine lj fun e he=>?_;rw[sV]at he;split at he
   ·rename_i Ua;simp only[d6,j6,or_false]at he;subst he;intro hh;exact h (hu (f+n) o_ o_ Ua hh).symm
   ·cases he
theorem bE {p:List Oj}{k:Nat}{ln:Oj}(h:p[k]?=some ln):cK p k=ln.I6:=by rw[cK,h]
theorem rA {p:List Oj}{i:Nat}{m:Int}(h:bB p (i:Int)=m)(h0:0<=m):endAt p i=some m.toNat:=by
 rw[bu]at h
 cases he:endAt p i with|none=>rw[he]at h;simp only[cX]at h;omega|some e=>rw[he]at h;simp only[cX]at h;congr 1;omega
theorem pq (p:List Oj)(i:Nat):-1<=bB p (i:Int)/\bB p (i:Int)<=p.length:=by
 rw[bu]
 cases he:endAt p i with|none=>simp only[cX];omega|some e=>obtain⟨_,_,_,_,_,h⟩:=aL he;simp only[cX];omega
theorem gA {p:List Oj}{i:Nat}:bv p (i:Int)=cX (elseAt p i):=by rw[bv,d5 o_,e8]
theorem Fr {p:List Oj}{i:Nat}(h:cK p i≠3):elseAt p i=none:=by
 cases he:elseAt p i with
 | none=>rfl
 | some j=>obtain⟨y,_,hy,h3,_⟩:=bn he;exact absurd (by rw[bE hy];exact h3) h
section
variable {C:Cx} {x:Sc} {ins:List Nat}
theorem GY (hC:CxOk C)(hx:ScOk C x ins){e:Nat}(he:endAt C.p x.f=some e){k i:Nat}(h1:x.f+1<=i)(h2:i<k)(h3:k<=e)(hj:jumps C.p i)(ht:mj C.p i=(k:Int)):cK C.p (k-1)=7/\aQ C.p (k-1)≠x.f/\jG C.p (k-1)=i:=by
 have O3:i<C.p.length:=by obtain⟨_,_,_,_,_,h⟩:=aL he;omega
 obtain⟨y,hy⟩:=ab O3;have UN:=bE hy;unfold mj at ht;by_cases h4:cK C.p i=4
 ·rw[d5 h4]at ht;obtain⟨o1,o2,o3,o4⟩:=hx.own4 hC he o_ o_ hy (by rw[<-UN];exact h4);have PP:=rA (show bB C.p (aQ C.p i:Int)=((k-1:Nat):Int) by omega) o_;rw[e8]at PP;obtain⟨z,hz,h7⟩:=bG PP;rw[jU PP,bE hz];refine⟨h7,o_,?_⟩;rw[jG,jU PP,o1]
 ·rw[c8 h4]at ht;split at ht
  ·omega
  ·rename_i hn;have PP:=rA (show bB C.p (i:Int)=((k-1:Nat):Int) by omega) o_;rw[e8]at PP;obtain⟨z,hz,h7⟩:=bG PP;rw[jU PP,bE hz];refine⟨h7,o_,?_⟩;rw[jG,jU PP]
   have:elseAt C.p i=none:=by
    by_cases Tj:cK C.p i=3
    ·cases Pq:elseAt C.p i with|none=>rfl|some j=>exact absurd ⟨Tj,by rw[gA,Pq];simp[cX]⟩ hn
    ·exact Fr Tj
   rw[this]
theorem Cn (hC:CxOk C)(hx:ScOk C x ins){e:Nat}(he:endAt C.p x.f=some e){j:Nat}{ln:Oj}(h1:x.f<j)(h2:j<e)(hl:C.p[j]?=some ln)(h7:ln.I6=7):x.f+1<=jG C.p j/\jG C.p j<j/\jumps C.p (jG C.p j)/\mj C.p (jG C.p j)=((j+1:Nat):Int)/\aQ C.p j≠x.f:=by
 obtain⟨o1,o2⟩:=hx.own7 hC he h1 o_ hl h7;rcases o2 with⟨o2,_⟩|⟨_,o3,o4,y,hy,ho⟩
 ·omega
 have UN:=bE hy;have Qb:bB C.p (aQ C.p j:Int)=(j:Int):=by rw[bu];exact br o1
 unfold jG
 cases Pq:elseAt C.p (aQ C.p j)with
 | none=>
  dsimp only;refine⟨o_,o4,by unfold jumps;omega,?_,o_⟩;unfold mj;rw[c8 o_,c8 (by rw[gA,Pq];simp[cX]),Qb]
  omega
 | some m=>obtain⟨z,m1,hz,z3,Tb,k1,k2,w,hw,w4⟩:=bn Pq;rw[o1]at Tb;injection Tb with Tb;have hkw:=bE hw;refine⟨g_,g_,by unfold jumps;dsimp only;omega,?_,o_⟩;unfold mj;dsimp only;rw[d5 o_,sP Pq,Qb];omega
structure LInv (C:Cx) (lev:Nat) (x:Sc) (ins:List Nat) (d:Int) (e:Nat) (R:Ls) (k:Nat) (L:Ls):Prop where
 lo:x.f+1<=k
 hi:k<=e+1
 I9:L.I9.length=C.p.length
 pos:L.pos.length=C.p.length
 at_:∀i,x.f<i->i<k->jumps C.p i->0<=atL L.pos i/\atL L.pos i<L.g.I4.length
 lv:lvOk L
 room:L.g.I4.length+(e+1-k)*(20*cE lev+3)<=68719476736
 fin:gD C (bf C lev) x ins d (e+1-k) k L=R
theorem FN (rep:Sc->List Nat->Nat->Nat->Int->Gs->Gs)(base:Int)(k:Nat)(ln:Oj)(L:Ls):(dq C rep x ins base k ln L).I9.length=L.I9.length/\(dq C rep x ins base k ln L).pos.length=L.pos.length:=by
 unfold dq aU;repeat' split
 all_goals simp
theorem rt (k:Nat)(ln:Oj)(L:Ls):(bc C x k ln L).I9=L.I9/\(bc C x k ln L).pos=L.pos/\(bc C x k ln L).lv=L.lv/\(bc C x k ln L).g.I4.length=L.g.I4.length/\(bc C x k ln L).g.J1=L.g.J1/\(bc C x k ln L).g.start=L.g.start:=by
 unfold bc;split
 ·exact⟨rfl,rfl,rfl,eh _ _ _,rfl,rfl⟩
 ·exact⟨rfl,rfl,rfl,rfl,rfl,rfl⟩
theorem KY (rep:Sc->List Nat->Nat->Nat->Int->Gs->Gs)(base:Int)(k:Nat)(ln:Oj)(L:Ls)(hp:k<L.pos.length)(i:Nat):
  (i≠k->atL (dq C rep x ins base k ln L).pos i=atL L.pos i)/\((ln.I6=3\/ln.I6=4\/ln.I6=5)->0<=atL (dq C rep x ins base k ln L).pos k/\atL (dq C rep x ins base k ln L).pos k<(dq C rep x ins base k ln L).g.I4.length):=by
 unfold dq;by_cases h4:ln.I6=4
 ·rw[d5 h4];refine⟨fun hi=>fN hi,fun _=>?_⟩;simp only[jx hp,eh,aA,b8,c7,e7];omega
 ·rw[c8 h4];by_cases h7:ln.I6=7
  ·rw[d5 h7];refine⟨fun _=>?_,fun h=>o_⟩;unfold aU;repeat' split
   all_goals rfl
  ·rw[c8 h7];by_cases h1:ln.I6=1
   ·rw[d5 h1];exact⟨fun _=>rfl,fun h=>o_⟩
   ·rw[c8 h1];by_cases h2:ln.I6=2
    ·rw[d5 h2];exact⟨fun _=>rfl,fun h=>o_⟩
    ·rw[c8 h2];by_cases h6:ln.I6=6
     ·rw[d5 h6];refine⟨fun _=>?_,fun h=>o_⟩;unfold aU;repeat' split
      all_goals rfl
     ·rw[c8 h6];refine⟨fun hi=>fN hi,fun _=>?_⟩;simp only[jx hp,aA,b8,c7,e7];omega
theorem LInv.next (hC:CxOk C)(hx:ScOk C x ins){lev e k:Nat}{d:Int}{R L:Ls}{ln:Oj}(he:endAt C.p x.f=some e)(h:LInv C lev x ins d e R k L)(hk:k<=e)(hl:C.p[k]?=some ln):LInv C lev x ins d e R (k+1) (bc C x k ln (dq C (bf C lev) x ins d k ln L)):=by
 have h0:=lp hC hx he h.lo hk hl;have N3:∀line g d s,bO C g->cw C ins g s.I4.length=true->Grow (cE lev) s (bf C lev x ins line g d s):=fun line g d s hg hr=>dF hC lev line g d s hx hg hr;have hA:=mM (lev:=lev) (rep:=bf C lev) N3 hC hl h0 d L;obtain⟨b1,b2,b3,b4,b5,b6⟩:=rt (C:=C) (x:=x) k ln (dq C (bf C lev) x ins d k ln L);obtain⟨a1,a2⟩:=FN (C:=C) (x:=x) (ins:=ins) (bf C lev) d k ln L;have OK:=hA.ge;have OH:=hA.le;have hr:=h.room;refine⟨by have:=h.lo;omega,o_,by rw[b1,a1];exact h.I9,by rw[b2,a2];exact h.pos,fun i h1 h2 hj=>?_,Ep k ln (CJ (lev:=lev) N3 hC hl h0 d h.lv),?_,?_⟩
 ·rw[b2,b4];obtain⟨p1,p2⟩:=KY (C:=C) (x:=x) (ins:=ins) (bf C lev) d k ln L (by rw[h.pos];exact aw hl) i;by_cases Ph:i=k
  ·subst Ph;refine p2 ?_;unfold jumps at hj;rw[bE hl]at hj;exact hj
  ·rw[p1 Ph];have:=h.at_ i h1 o_ hj;omega
 ·rw[b4];obtain⟨n,hn⟩:∃n,e+1-k=n+1:=⟨e-k,o_⟩;rw[hn,o8]at hr;rw[show e+1-(k+1)=n by omega];omega
 ·have hf:=h.fin;obtain⟨n,hn⟩:∃n,e+1-k=n+1:=⟨e-k,o_⟩;rw[hn,gD,hl]at hf;rw[show e+1-(k+1)=n by omega];exact hf
theorem FU (hC:CxOk C)(hx:ScOk C x ins){e k:Nat}{ln:Oj}(he:endAt C.p x.f=some e)(h1:x.f+1<=k)(hk:k<=e)(hl:C.p[k]?=some ln)(A:Ls):
  (k+1<=e->dM A.g.I4 A.g.I4.length ((k+1:Nat):Int) (bq C.p A.pos (x.f+1) (k+1-(x.f+1)))=(bc C x k ln A).g.I4)/\(k=e->A.g.I4=(bc C x k ln A).g.I4):=by
 constructor
 ·intro Pr;unfold bc;by_cases h7:ln.I6=7
  ·obtain⟨q1,q2,q3,q4,q5⟩:=Cn hC hx he o_ o_ hl h7;rw[d5 ⟨h7,q5⟩];refine ui q3 q4 q1 o_ fun i k1 k2 k3 k4=>?_;obtain⟨_,_,t3⟩:=GY hC hx he (k:=k+1) k1 o_ Pr k3 k4;rw[E7]at t3;exact t3.symm
  ·rw[c8 o_];refine lj fun z hz=>?_;obtain⟨i,k1,k2,k3,rfl⟩:=nl hz;intro hh;obtain⟨t1,_⟩:=GY hC hx he (k:=k+1) k1 o_ Pr k3 hh;rw[E7,bE hl]at t1;exact h7 t1
 ·rintro rfl;unfold bc;rw[c8];rintro⟨_,h⟩;exact h (jU he)
theorem FL (hC:CxOk C)(hx:ScOk C x ins){e k:Nat}{ln:Oj}(he:endAt C.p x.f=some e)(h1:x.f+1<=k)(hk:k<=e)(hl:C.p[k]?=some ln)(h4:ln.I6=4)(pos:List Int)(l:List Oi)(v:Int):
  dM l v (-(k:Int)) (bq C.p pos (x.f+1) (k+1-(x.f+1)))=bI l (atL pos (aQ C.p k)) v:=by
 obtain⟨o1,o2,o3,o4⟩:=hx.own4 hC he h1 hk hl h4;obtain⟨y,m,hy,y3,hm,_,_,_⟩:=bn o1;have UN:=bE hy;have Pq:bv C.p (aQ C.p k:Int)=(k:Int):=by rw[gA];exact br o1
 refine ui aaN (by unfold mj;rw[c8 o_,d5 ⟨o_,o_⟩,Pq]) o_ o_ fun i k1 k2 k3 k4=>?_;unfold mj at k4;by_cases ZZ:cK C.p i=4
 ·rw[d5 ZZ]at k4;have:=pq C.p (aQ C.p i);omega
 ·rw[c8 ZZ]at k4;split at k4
  ·rename_i h3;have Sa:bv C.p (i:Int)=(k:Int):=o_;rw[gA]at Sa
   cases PZ:elseAt C.p i with
   | none=>rw[PZ]at Sa;simp only[cX]at Sa;omega
   | some j=>rw[PZ]at Sa;simp only[cX]at Sa;have:j=k:=o_;subst this;exact mI PZ o1
  ·have:=pq C.p i;omega
end
theorem ry (l:List Ou)(hl:l.length<=1048576):Sim.Spec prog 257 [tvL 3 (l.map Ou.tr)] (rL 3 (l.map Ou.tr)):=by
 refine aI hΓ ay func257 rfl d_ rfl ?_;repeat' ((conv=>whnf);first|apply Wx|apply W6|apply oi|apply fi|intro h|exact Y8|refine e_ rfl ?_)
 all_goals try exact Q2
 all_goals try exact Q28
theorem xv (x:Oj)(hs:aX 1048576 x.tr):Sim.Spec prog 239 [.agg x.tr] (.r (.agg (x.tr.map IU))):=by
 refine aI hΓ ay func239 rfl d_ rfl ?_;obtain⟨h1,h2,h3,h4,h5⟩:=dg hs;have hT:=ry x.J5 h4;repeat' ((conv=>whnf);first|apply Wx|apply W6|apply oi|apply fi|intro h|refine cl hT ?_|exact Y8|refine e_ rfl ?_)
 all_goals try exact Q2
 all_goals try exact⟨⟨rfl,fD _⟩⟩
theorem zj {α β:Type}(f:α->β)(l:List α)(k:Nat)(x:α)(hx:l[k]?=some x):(l.take (k+1)).map f=(l.take k).map f++[f x]:=by rw[z7,hx,ne];rfl
theorem Q12{p:Prop}(h:p:=by exact⟨⟨by rw[QY];(try dsimp only);simp<;>omega,by rw[QY];(try dsimp only);simp<;>omega⟩⟩):p:=h
theorem Q16{p:Prop}(h:p:=by exact⟨aO _⟩):p:=h
theorem sJ (l:List Oj)(hs:aE 1048576 (.lst 4 (l.map Oj.tr))):bd prog 195 [vP l] [] (.r (.c (.own (1,0,0)))) [((1,0,0),.dar 4 (aq (l.map Oj.tr)) none)]:=by
 refine au hΓ ay func195 rfl d_ rfl rfl ?_;have hl:=cu hs;have N1:(l.map Oj.tr).length=l.length:=s_;repeat' ((conv=>whnf);first|apply Wx|apply W6|apply oi|apply fi|intro h|exact Y8|refine e_ rfl ?_)
 conv=>whnf
 refine⟨{k:Nat//k<=l.length},fun q=>⟨[(0,vP l),(3,.r (.c (.own (3,0,0)))),(4,tI .i64 (q.1:Int))],[((3,0,0),some (.dar 4 (aq ((l.take q.1).map Oj.tr)) none))],[3,0]⟩,fun q=>l.length-q.1,⟨0,o_⟩,?_,?_⟩
 ·exact Z2
 intro⟨k,hk⟩;dsimp only at hk⊢;by_cases N2:k<l.length
 ·obtain⟨x,hx⟩:=ab N2;have QY:(aq ((l.take k).map Oj.tr)).length=k:=by rw[di,d9,j5];omega
  have hC:=xv x (bx hs (b9 hx));repeat' ((conv=>whnf);first|apply Wx|apply W6|apply oi|apply fi|intro h|refine⟨k,x.tr,rfl,aa hx,?_⟩|refine cl hC ?_|exact Y6|refine e_ rfl ?_)
  all_goals try exact Q16
  all_goals try exact⟨fD _⟩
  all_goals try exact Q12
  repeat' ((conv=>whnf);first|apply Wx|apply W6|apply oi|apply fi|intro h|exact Y8|refine e_ rfl ?_)
  conv=>whnf
  refine⟨⟨k+1,o_⟩,?_,KD⟩;repeat' ((conv=>whnf);first|apply Wx|apply W6|apply oi|apply fi|intro h|exact Y7|refine e_ rfl ?_)
  all_goals exact⟨by rw[zj Oj.tr l k x hx];simp[aq,Oj.tr]⟩
 ·repeat' ((conv=>whnf);first|apply Wx|apply W6|apply oi|apply fi|intro h|exact Y6|refine e_ rfl ?_)
  all_goals exact⟨by rw[gt o_]⟩
noncomputable def mn (l:List Ou):List Ou:=if h:bF l=true then(Classical.choose (kc h)).fold.toks else []
theorem rH {l:List Ou}(h:bF l=true):∃e:Ex,e.ok/\l=e.toks/\mn l=e.fold.toks:=by have hc:=t9 (kc h);exact⟨_,hc.1,hc.2,by rw[mn,dif_pos h]⟩
theorem rW {l:List Ou}(h:bF l=false):mn l=[]:=by rw[mn,dif_neg aaI]
theorem zY (l:List Ou):(mn l).length<=l.length:=by
 cases h:bF l with
 | false=>rw[rW h];simp
 | true=>obtain⟨e,_,h1,h2⟩:=rH h;rw[h2,h1];exact e.fold_le
theorem V110{p:Prop}(h:p:=by
 rw[h]at hE;rw[rW h]
 repeat' ((conv=>whnf);first|apply Wx|apply W6|apply oi|apply fi|intro h|refine cl hE ?_|exact Y6|refine e_ rfl ?_)):p:=h
theorem V89{p:Prop}(h:p:=by
 rw[h3]
 generalize e.fold.toks=r at *
 repeat' ((conv=>whnf);first|apply Wx|apply W6|apply oi|apply fi|intro h|refine cl hE ?_|refine cl hF ?_|exact Y6|refine e_ rfl ?_)):p:=h
theorem vS (l:List Ou)(hl:l.length<=1048576)(hn:eG l):Sim.Spec prog 196 [tvL 3 (l.map Ou.tr)] (rL 3 ((mn l).map Ou.tr)):=by
 refine aI hΓ ay func196 rfl d_ rfl ?_;have hE:=pZ l hl hn
 cases h:bF l with
 | false=>exact V110
 | true=>rw[h]at hE;obtain⟨e,h1,h2,h3⟩:=rH h;have hF:=nZ e.toks.length e (d7 _) l 0 hl hn h1 ⟨[],by rw[v6,i9];exact h2⟩;exact V89
noncomputable def ba (x:Oj):Oj:=if 0<x.J5.length then⟨x.I6,x.J0,x.K0,mn x.J5⟩else x
noncomputable def gl (l:List Oj) (k:Nat):List Oj:=(l.take k).map ba++l.drop k
theorem Eg (l:List Oj)(k:Nat):(gl l k).length=l.length:=by simp[gl];omega
theorem oU {l:List Oj}{k:Nat}{x:Oj}(hx:l[k]?=some x):(gl l k)[k]?=some x:=by
 have hk:k<l.length:=by exact V140
 rw[gl,u3 aab];simp only[d9,j5];rw[x6 o_,y7,r9];exact hx
theorem sM {l:List Oj}{k:Nat}{x:Oj}(hx:l[k]?=some x):gl l (k+1)=(gl l k).set k (ba x):=by
 have hk:k<l.length:=by exact V140
 rw[gl,gl,zj ba l k x hx,aP hx,D2 _ _ aab];simp only[d9,j5];rw[x6 o_,y7,C9,j9];rfl
noncomputable def dY (l:List Oj):List Oj:=if aj l=true then l.map ba else []
theorem V80{p:Prop}(h:p:=by
 rw[R6]at hP;have:dY l=[]:=by rw[dY,c8 (by simp[R6])]
 rw[this]
 repeat' ((conv=>whnf);first|apply Wx|apply W6|apply oi|apply fi|intro h|refine cl hP ?_|exact Y6|refine e_ rfl ?_)):p:=h
theorem qT (l:List Oj)(hs:aE 1048576 (.lst 4 (l.map Oj.tr))):Sim.Spec prog 132 [tvP l] (rL 4 ((dY l).map Oj.tr)):=by
 refine aI hΓ ay func132 rfl d_ rfl ?_;have hl:=cu hs;have hP:=eF l hs;have hC:=sJ l hs
 cases R6:aj l with
 | false=>exact V80
 | true=>
  rw[R6]at hP;have:dY l=l.map ba:=by rw[dY,d5 R6]
  rw[this];repeat' ((conv=>whnf);first|apply Wx|apply W6|refine cg hC ?_|apply oi|apply fi|intro h|refine cl hP ?_|exact Y6|refine e_ rfl ?_)
  conv=>whnf
  refine⟨{k:Nat//k<=l.length},fun q=>⟨[(3,.r (.c (.own (3,0,0)))),(4,tI .i64 (q.1:Int))],[((3,0,0),some (.dar 4 (aq ((gl l q.1).map Oj.tr)) none))],[3]⟩,fun q=>l.length-q.1,⟨0,o_⟩,?_,?_⟩
  ·exact Z2
  intro⟨k,hk⟩;dsimp only at hk⊢;have QY:(aq ((gl l k).map Oj.tr)).length=l.length:=by rw[di,d9,Eg]
  by_cases N2:k<l.length
  ·obtain⟨x,hx⟩:=ab N2;obtain⟨h1,h2,h3,h4,h5⟩:=dg (bx hs (b9 hx));have hF:=vS x.J5 h4 (fun y hy=>by have:=h5 y hy;omega);have OZ:k<(aq ((gl l k).map Oj.tr)).length:=(by rw[QY];exact N2);have SN:(x.J5.map Ou.tr).length=x.J5.length:=s_;by_cases Pp:0<x.J5.length
   ·have OA:ba x=⟨x.I6,x.J0,x.K0,mn x.J5⟩:=(by rw[ba,d5 Pp]);repeat' ((conv=>whnf);first|apply Wx|apply W6|apply oi|apply fi|intro h|refine⟨k,rfl,OZ,?_⟩|refine⟨k,rfl,aaA,?_⟩|refine⟨_,ka (aa (oU hx)),?_⟩|refine⟨_,(u4 aaA),?_⟩|refine cl hF ?_|exact Y8|refine e_ rfl ?_)
    all_goals try exact Q16
    all_goals try(exfalso;have h':=n6 h;rw[QY]at h';omega)
    all_goals try(exfalso;have h':=n6 h;rw[SN]at h';omega)
    conv=>whnf
    refine⟨⟨k+1,o_⟩,?_,KD⟩;repeat' ((conv=>whnf);first|apply Wx|apply W6|apply oi|apply fi|intro h|exact Y8|refine e_ rfl ?_)
    all_goals try exact Q16
    all_goals try exact⟨K1⟩
    all_goals(refine⟨?_⟩;(try dsimp only);rw[sM hx,E4,<-rU,OA];simp[Oj.tr])
   ·have OA:ba x=x:=(by rw[ba,c8 Pp]);repeat' ((conv=>whnf);first|apply Wx|apply W6|apply oi|apply fi|intro h|refine⟨k,rfl,OZ,?_⟩|refine⟨k,rfl,aaA,?_⟩|refine⟨_,ka (aa (oU hx)),?_⟩|refine⟨_,(u4 aaA),?_⟩|refine cl hF ?_|exact Y8|refine e_ rfl ?_)
    all_goals try exact Q16
    all_goals try(exfalso;have h':=n6 h;rw[QY]at h';omega)
    all_goals try exact Q22
    conv=>whnf
    refine⟨⟨k+1,o_⟩,?_,KD⟩;repeat' ((conv=>whnf);first|apply Wx|apply W6|apply oi|apply fi|intro h|refine⟨k,rfl,OZ,?_⟩|refine⟨k,rfl,aaA,?_⟩|refine⟨_,ka (aa (oU hx)),?_⟩|refine⟨_,(u4 aaA),?_⟩|exact Y8|refine e_ rfl ?_)
    all_goals try exact Q16
    all_goals try exact⟨K1⟩
    all_goals(refine⟨?_⟩;(try dsimp only);rw[sM hx,E4,<-rU,OA];simp[Oj.tr])
  ·repeat' ((conv=>whnf);first|apply Wx|apply W6|apply oi|apply fi|intro h|exact Y6|refine e_ rfl ?_)
   all_goals exact⟨by rw[gl,gt o_,d8 o_,i9]⟩
structure PgOk (p:List Oj):Prop where
 len:p.length<=60
 small:aE 1048576 (.lst 4 (p.map Oj.tr))
 line:∀(k:Nat) (ln:Oj),p[k]?=some ln->0<=ln.I6/\ln.I6<=7/\ln.K0.length<=4/\ln.J5.length<=20/\((ln.I6=1\/ln.I6=2\/ln.I6=3\/ln.I6=5\/ln.I6=6)->bF ln.J5=true)
 fn:∀(g:Nat) (ln:Oj),p[g]?=some ln->ln.I6=0->∃e,endAt p g=some e/\(localsOf p (g:Int)).length<=8/\ln.K0.length<=(localsOf p (g:Int)).length/\∀(k:Nat) (y:Oj),g<k->k<e->p[k]?=some y->y.I6≠0/\(∀t∈y.J5,t.I6=7->∃f,findN p 0 t.J0=some f/\(argsN p f:Int)=t.L3)/\(y.I6=4->∃i,g<=i/\i<k/\elseAt p i=some k)
theorem PgOk.cx {p:List Oj}(h:PgOk p){b:Oa}{framed:Bool}{words args:Int}(ha:0<=args/\args<=4)(hw:0<=words/\words<=1000)(hi:0<=b.L4/\b.L4<=3):CxOk ⟨p,b,framed,words,args⟩:=
 ⟨h.len,h.small,h.line,h.fn,ha,hw,hi⟩
theorem xe {F:Nat->Nat->Bool}{l:List Oj}(hF:∀k e,endAt l k=some e->F k e=true->∀i x,k<i->i<e->l[i]?=some x->x.I6≠0):∀(n k:Nat),cm F l n k=true->∀g x,k<=g->l[g]?=some x->x.I6=0->∃e,endAt l g=some e/\F g e=true
 | 0,k,h,g,x,hk,hg,_=>by
  rw[cm,j7]at h;have:=aw hg
  omega
 | n+1,k,h,g,x,hk,hg,h0=>by
  rw[cm,d5 (by have:=aw hg;omega)]at h;split at h
  ·rename_i y e hy he;split at h
   ·rename_i hc;by_cases hgk:g=k
    ·subst hgk;exact⟨e,he,hc.2⟩
    ·by_cases OK:g<=e
     ·by_cases YL:g=e
      ·subst YL;obtain⟨z,hz,h7⟩:=bG he;rw[hg]at hz;injection hz with hz;subst hz;omega
      ·exact absurd h0 (hF k e he hc.2 g x o_ o_ hg)
     ·exact xe hF n (e+1) h g x o_ hg h0
   ·cases h
  ·cases h
theorem xL {l:List Oj}{locals:List (List UInt8)}{e:Nat}:∀(n i d:Nat),e-i<=n->e<=l.length->kE l locals e n i d=true->∀j x,i<=j->j<e->l[j]?=some x->bX l locals x.J5=true
 | 0,i,d,hn,_,_,j,x,h1,h2,_=>o_
 | n+1,i,d,hn,he,hb,j,x,h1,h2,hx=>by
  rw[kE,d5 o_]at hb;obtain⟨y,hy⟩:=ab (l:=l) (k:=i) o_;rw[hy]at hb;dsimp only at hb;split at hb
  ·cases hb
  ·split at hb
   ·rename_i hk;by_cases hj:j=i
    ·subst hj;rw[hy]at hx;injection hx with hx;subst hx;exact hk.2
    ·exact xL n (i+1) _ o_ he hb j x o_ h2 hx
   ·cases hb
theorem FV (acc:List (List UInt8))(s:List UInt8):acc.length<=(lk acc s).length:=by unfold lk;split<;>simp
theorem Hj {l:List Oj}{e:Nat}:∀(n i:Nat) (acc:List (List UInt8)),acc.length<=(locN l e n i acc).length
 | 0,_,_=>by simp[locN]
 | n+1,i,acc=>by
  rw[locN];split
  ·split
   ·refine t7 ?_ (Hj n _ _);split
    ·exact FV _ _
    ·exact d7 _
   ·exact d7 _
  ·exact d7 _
theorem hasExpr_iff {k:Int}:dQ k=true↔(k=1\/k=2\/k=3\/k=5\/k=6):=by unfold dQ;simp
theorem Ce {x:Oj}(h:cF x=true):0<=x.I6/\x.I6<=7/\x.K0.length<=4/\x.J5.length<=20/\((x.I6=1\/x.I6=2\/x.I6=3\/x.I6=5\/x.I6=6)->bF x.J5=true):=by
 have h4:x.K0.length<=4:=by
  rcases l9 4 x.K0.length with h'|h'
  ·rw[vl h']at h;cases h
  ·exact h'
 unfold cF at h;simp only[c9,within_iff]at h;obtain⟨⟨h1,h2⟩,_,_,h3⟩:=h;refine⟨h1,h2,h4,?_,fun hk=>by rw[d5 (hasExpr_iff.2 hk)]at h3;exact h3⟩;split at h3
 ·unfold bF at h3;simp only[c9,j7]at h3;exact h3.1
 ·have:=B6 h3;omega
theorem sC {p:List Oj}(hs:aE 1048576 (.lst 4 (p.map Oj.tr)))(h:aj p=true):PgOk p:=by
 unfold aj at h;simp only[c9,j7]at h;obtain⟨h1,_,h2,_,_,h3,h4⟩:=h;have hS:=yY p;rw[h3,h4]at hS;have Ve:∀(k:Nat) (ln:Oj),p[k]?=some ln->0<=ln.I6/\ln.I6<=7/\ln.K0.length<=4/\ln.J5.length<=20/\((ln.I6=1\/ln.I6=2\/ln.I6=3\/ln.I6=5\/ln.I6=6)->bF ln.J5=true):=fun k ln hk=>Ce (q7.1 h2 ln (b9 hk));have N2:∀k e,endAt p k=some e->e<=p.length:=fun k e he=>by obtain⟨_,_,_,_,_,h⟩:=aL he;omega
 have hF:∀k e,endAt p k=some e->pi p k e=true->∀i x,k<i->i<e->p[i]?=some x->x.I6≠0:=fun k e he hf=>by
  rw[yP,c9]at hf;exact yV hf.1 (N2 k e he)
 refine⟨h1,hs,Ve,fun g ln hg h0=>?_⟩;obtain⟨e,he,hf⟩:=xe hF p.length 0 hS g ln (v4 _) hg h0;have QC:=hf;rw[yP,c9]at QC;obtain⟨UI,UH⟩:=QC;have VZ:=UI;rw[lc,c9,j7]at VZ;obtain⟨hl8,Wb⟩:=VZ;refine⟨e,he,hl8,?_,fun k y Pk Pb hy=>⟨hF g e he hf k y Pk Pb hy,fun t ht h7=>?_,fun Tk=>?_⟩⟩
 ·unfold localsOf;rw[d5 o_,e8,hg,he];dsimp only;rw[d5 h0];exact Hj _ _ _
 ·have PQ:=xL (e-(g+1)) (g+1) 0 (d7 _) (N2 g e he) Wb k y o_ Pb hy;unfold bX at PQ;have:=q7.1 PQ t ht;unfold cv at this;rw[c8 o_,d5 h7]at this;split at this
  ·rename_i f ZD;refine⟨f,ZD,?_⟩;unfold argsN;split at this
   ·rename_i x hx
    (try rw[hx])
    exact B6 this
   ·cases this
  ·cases this
 ·have:=(jm (d7 _)).1 UH k y o_ Pb hy Tk;rw[oM]at this;obtain⟨i,i1,i2,i3⟩:=this;exact⟨i,i1,o_,i3⟩
def alike (p q:List Oj):Prop:=p.map (fun x=>(x.I6,x.J0,x.K0))=q.map (fun x=>(x.I6,x.J0,x.K0))
theorem alike.len {p q:List Oj}(h:alike p q):p.length=q.length:=by simpa using congrArg List.length h
theorem alike.get {p q:List Oj}(h:alike p q){k:Nat}{x:Oj}(hx:p[k]?=some x):∃y,q[k]?=some y/\x.I6=y.I6/\x.J0=y.J0/\x.K0=y.K0:=by
 have:=congrArg (·[k]?) h;simp only[l6,hx,s6]at this
 cases hy:q[k]? with
 | none=>rw[hy]at this;cases this
 | some y=>rw[hy]at this;simp only[s6,Option.some.injEq,Prod.mk.injEq]at this;exact⟨y,rfl,this.1,this.2.1,this.2.2⟩
theorem alike.none {p q:List Oj}(h:alike p q){k:Nat}(hx:p[k]?=none):q[k]?=none:=by rw[List.getElem?_eq_none_iff]at hx⊢;have:=h.len;omega
theorem alike.symm {p q:List Oj}(h:alike p q):alike q p:=Eq.symm h
theorem alike.drop {p q:List Oj}(h:alike p q)(n:Nat):alike (p.drop n) (q.drop n):=by
 unfold alike at *
 rw[C6,C6,h]
theorem alike.endN:∀{p q:List Oj},alike p q->∀(i o:Nat),endN p i o=endN q i o
 | [],[],_,_,_=>rfl
 | x::p,y::q,h,i,o=>by
  simp only[alike,n9,List.cons.injEq,Prod.mk.injEq]at h;have ih:=alike.endN (p:=p) (q:=q) h.2
  rw[Go.Proofs.P.endN,Go.Proofs.P.endN,h.1.1,ih,ih,ih]
 | [],_::_,h,_,_=>by simp[alike]at h
 | _::_,[],h,_,_=>by simp[alike]at h
theorem alike.endAt {p q:List Oj}(h:alike p q)(k:Nat):endAt p k=endAt q k:=by
 unfold Go.Proofs.P.endAt
 cases hx:p[k]? with
 | none=>rw[h.none hx]
 | some x=>obtain⟨y,hy,e1,_⟩:=h.get hx;rw[hy];dsimp only;rw[e1,(h.drop (k+1)).endN]
theorem alike.elseN {p q:List Oj}(h:alike p q){e:Nat}:∀(n i:Nat),elseN p e n i=elseN q e n i
 | 0,_=>rfl
 | n+1,i=>by
  rw[Go.Proofs.P.elseN,Go.Proofs.P.elseN]
  cases hx:p[i]? with
  | none=>rw[h.none hx]
  | some x=>
   obtain⟨y,hy,e1,_⟩:=h.get hx;rw[hy];dsimp only;rw[e1,h.endAt i]
   cases Go.Proofs.P.endAt q i with|none=>dsimp only;rw[alike.elseN h n]|some m=>dsimp only;rw[alike.elseN h n,alike.elseN h n]
theorem alike.elseAt {p q:List Oj}(h:alike p q)(k:Nat):elseAt p k=elseAt q k:=by
 unfold Go.Proofs.P.elseAt;rw[h.endAt k]
 cases hx:p[k]? with
 | none=>rw[h.none hx]
 | some x=>
  obtain⟨y,hy,e1,_⟩:=h.get hx;rw[hy]
  cases Go.Proofs.P.endAt q k with|none=>rfl|some e=>dsimp only;rw[e1,h.elseN]
theorem alike.findN:∀{p q:List Oj},alike p q->∀(i:Nat) (s:List UInt8),findN p i s=findN q i s
 | [],[],_,_,_=>rfl
 | x::p,y::q,h,i,s=>by
  simp only[alike,n9,List.cons.injEq,Prod.mk.injEq]at h;have ih:=alike.findN (p:=p) (q:=q) h.2
  rw[Go.Proofs.P.findN,Go.Proofs.P.findN,h.1.1,h.1.2.1,ih]
 | [],_::_,h,_,_=>by simp[alike]at h
 | _::_,[],h,_,_=>by simp[alike]at h
theorem alike.locN {p q:List Oj}(h:alike p q){e:Nat}:∀(n i:Nat) (acc:List (List UInt8)),locN p e n i acc=locN q e n i acc
 | 0,_,_=>rfl
 | n+1,i,acc=>by
  rw[Go.Proofs.P.locN,Go.Proofs.P.locN]
  cases hx:p[i]? with
  | none=>rw[h.none hx]
  | some x=>obtain⟨y,hy,e1,e2,_⟩:=h.get hx;rw[hy];dsimp only;rw[e1,e2,alike.locN h n]
theorem alike.localsOf {p q:List Oj}(h:alike p q)(k:Int):localsOf p k=localsOf q k:=by
 unfold Go.Proofs.P.localsOf;rw[h.endAt]
 cases hx:p[k.toNat]? with
 | none=>rw[h.none hx]
 | some x=>
  obtain⟨y,hy,e1,_,e3⟩:=h.get hx;rw[hy]
  cases Go.Proofs.P.endAt q k.toNat with|none=>rfl|some e=>dsimp only;rw[e1,e3,h.locN]
theorem alike.argsN {p q:List Oj}(h:alike p q)(g:Nat):argsN p g=argsN q g:=by
 unfold Go.Proofs.P.argsN
 cases hx:p[g]? with
 | none=>rw[h.none hx]
 | some x=>obtain⟨y,hy,_,_,e3⟩:=h.get hx;rw[hy];dsimp only;rw[e3]
theorem kn (p:List Oj):alike (p.map ba) p:=by unfold alike;rw[E3];refine List.map_congr_left fun x _=>?_;simp only[Function.comp,ba];split<;>rfl
theorem MN (v:Int):ar ⟨0,v,[]⟩=0:=by unfold ar nP;split<;>simp
theorem LU {v:Int}(h:af v 0 999=true):(CA v).ok:=⟨by simp[fv,h],by rw[MN];rfl,trivial⟩
theorem LX {t:Ou}{fs:List Ex}(h1:fv t=true)(h2:fs.length=ar t)(h3:jL fs):(zp t fs).ok:=by
 unfold zp;split
 ·split
  ·rename_i hc;exact LU hc.2.2.2
  ·exact⟨h1,h2,h3⟩
 ·exact⟨h1,h2,h3⟩
mutual
theorem Ex.fold_ok:∀e:Ex,e.ok->e.fold.ok
 | .node t es,h=>by rw[Ex.fold];exact LX h.1 (by rw[kU];exact h.2.1) (Ak es h.2.2)
theorem Ak:∀es:List Ex,jL es->jL (bm es)
 | [],_=>by rw[bm];trivial
 | a::es,h=>by rw[bm];exact⟨a.fold_ok h.1,Ak es h.2⟩
end
theorem Lm {t:Ou}{fs:List Ex}{z:Ou}(h:z∈(zp t fs).toks):z=t\/z∈ao fs\/∃n,z=⟨0,n,[]⟩:=by
 unfold zp at h;split at h
 ·split at h
  ·simp only[CA,Ex.toks,ao,d6,j6,or_false]at h;exact .inr (.inr ⟨_,h⟩)
  ·rw[Ex.toks,d6]at h;exact h.imp id .inl
 ·rw[Ex.toks,d6]at h;exact h.imp id .inl
mutual
theorem Ex.fold_mem:∀(e:Ex) {z:Ou},z∈e.fold.toks->z∈e.toks\/∃n,z=⟨0,n,[]⟩
 | .node t es,z,h=>by
  rw[Ex.fold]at h;rw[Ex.toks,d6];rcases Lm h with h|h|h
  ·exact .inl (.inl h)
  ·rcases zg es h with h|h
   ·exact .inl (.inr h)
   ·exact .inr h
  ·exact .inr h
theorem zg:∀(es:List Ex) {z:Ou},z∈ao (bm es)->z∈ao es\/∃n,z=⟨0,n,[]⟩
 | [],z,h=>by rw[bm]at h;exact .inl h
 | a::es,z,h=>by
  rw[bm,ao,f0]at h;rw[ao,f0];rcases h with h|h
  ·exact(a.fold_mem h).imp .inl id
  ·exact(zg es h).imp .inr id
end
theorem It {e:Ex}(ho:e.ok)(hl:e.toks.length<=20):bF e.toks=true:=by have h:=kp (l:=e.toks) (p:=0) ⟨[],by rw[v6,i9]⟩ ho;have hp:=e.toks_pos;unfold bF;rw[r7 hl,r7 hp,show ec e.toks 0=_ from h];simp
theorem vB {l:List Ou}(h:bF l=true):bF (mn l)=true/\∀z∈mn l,z∈l\/∃n,z=⟨0,n,[]⟩:=by
 obtain⟨e,h1,h2,h3⟩:=rH h;have hl:=zY l
 have Py:l.length<=20:=by unfold bF at h;simp only[c9,j7]at h;exact h.1
 rw[h3]at hl⊢;refine⟨It (e.fold_ok h1) o_,fun z hz=>?_⟩;rw[h2];exact e.fold_mem hz
theorem ot {L:Int}:∀{rows:List (List Tr)},(∀r∈rows,aX L r)->eB L rows
 | [],_=>by rw[eB];trivial
 | r::rs,h=>by rw[eB];exact⟨h r s_,ot fun x hx=>h x aat⟩
theorem yG {x:Oj}(hs:aX 1048576 x.tr)(he:(x.I6=1\/x.I6=2\/x.I6=3\/x.I6=5\/x.I6=6)->bF x.J5=true)(Py:x.J5.length<=20):
  (ba x).I6=x.I6/\(ba x).K0=x.K0/\(ba x).J5.length<=20/\((x.I6=1\/x.I6=2\/x.I6=3\/x.I6=5\/x.I6=6)->bF (ba x).J5=true)/\(∀z∈(ba x).J5,z∈x.J5\/∃n,z=⟨0,n,[]⟩)/\aX 1048576 (ba x).tr:=by
 unfold ba;split
 ·rename_i Pp;have hl:=zY x.J5
  have hz:∀z∈mn x.J5,z∈x.J5\/∃n,z=⟨0,n,[]⟩:=by
   cases hx:bF x.J5 with
   | true=>exact(vB hx).2
   | false=>rw[rW hx];intro z hz;cases hz
  refine⟨rfl,rfl,g_,fun hk=>(vB (he hk)).1,hz,?_⟩;simp only[Oj.tr,aX]at hs⊢;obtain⟨q0,q1,q2,q3,q4⟩:=hs;refine⟨q0,q1,q2,?_,q4⟩;have PN:=mC q3;rw[aE];refine⟨by rw[d9];omega,ot fun r hr=>?_⟩;obtain⟨z,UZ,rfl⟩:=p6.1 hr;rcases hz z UZ with h|⟨n,rfl⟩
  ·exact bx q3 h
  ·simp[Ou.tr,aX,aE]
 ·exact⟨rfl,rfl,Py,he,fun z hz=> .inl hz,hs⟩
theorem PgOk.fold {p:List Oj}(h:PgOk p):PgOk (p.map ba):=by
 have ha:=kn p
 have ct:∀{k:Nat} {y:Oj},(p.map ba)[k]?=some y->∃x,p[k]?=some x/\y=ba x:=fun{k y} hy=>by
  rw[l6]at hy
  cases hx:p[k]? with
  | none=>rw[hx]at hy;cases hy
  | some x=>rw[hx]at hy;injection hy with hy;exact⟨x,rfl,hy.symm⟩
 have hf:∀{k:Nat} {x:Oj},p[k]?=some x->_:=fun{k x} hx=>yG (bx h.small (b9 hx)) (h.line k x hx).2.2.2.2 (h.line k x hx).2.2.2.1;refine⟨by rw[d9];exact h.len,?_,fun k y hy=>?_,fun g y hy h0=>?_⟩
 ·rw[aE];refine⟨by have:=h.len;simp;omega,ot fun r hr=>?_⟩;obtain⟨y,hy,rfl⟩:=p6.1 hr;obtain⟨x,hx,rfl⟩:=p6.1 hy;obtain⟨k,hk,Va⟩:=List.mem_iff_getElem.1 hx;exact(hf (k:=k) (x:=x) (by rw[f9 hk,Va])).2.2.2.2.2
 ·obtain⟨x,hx,rfl⟩:=ct hy;obtain⟨f1,f2,f3,f4,_⟩:=hf hx;obtain⟨l1,l2,l3,_⟩:=h.line k x hx;rw[f1,f2];exact⟨l1,l2,l3,f3,f4⟩
 ·obtain⟨x,hx,rfl⟩:=ct hy;obtain⟨f1,f2,_⟩:=hf hx;rw[f1]at h0;obtain⟨e,he,q1,q2,q3⟩:=h.fn g x hx h0;refine⟨e,by rw[ha.endAt];exact he,by rw[ha.localsOf];exact q1,by rw[ha.localsOf,f2];exact q2,fun k y Pk Pb hy=>?_⟩;obtain⟨z,hz,rfl⟩:=ct hy;obtain⟨g1,_,_,_,g5,_⟩:=hf hz;obtain⟨r1,r2,r3⟩:=q3 k z Pk Pb hz;refine⟨by rw[g1];exact r1,fun t ht h7=>?_,fun h4=>?_⟩
  ·rcases g5 t ht with h'|⟨n,rfl⟩
   ·obtain⟨f,UI,UH⟩:=r2 t h' h7;exact⟨f,by rw[ha.findN];exact UI,by rw[ha.argsN];exact UH⟩
   ·exact absurd h7 (show ¬(0:Int)=7 by decide)
  ·rw[g1]at h4;obtain⟨i,i1,i2,i3⟩:=r3 h4;exact⟨i,i1,i2,by rw[ha.elseAt];exact i3⟩
end Go.Proofs.P
namespace Go.Proofs.P
open Go.Sim Tryz
abbrev mm (x:Sc)(lv:List Int):List DC:=[.d (.int .i64 (x.f:Int)),.t (.lst 1 (x.I5.map ae)),.t (.lst 1 (x.I7.map ah)),.d (.int .i64 x.first),.d (.bool x.L2),.d (.lst (if x.L2=true then 0 else 1) (lv.map ae))]
abbrev scV (x:Sc):AV:= .r (.agg [.t (.int .i64 (x.f:Int)),.t (.lst 1 (x.I5.map ae)),.t (.lst 1 (x.I7.map ah)),.t (.int .i64 x.first),.t (.bool x.L2),.opq])
abbrev At (l:List Int):AV:= .r (.c (.t (.lst 1 (l.map ae))))
abbrev itR (l:List Oi):List (List DC):=aq (l.map Oi.tr)
abbrev qK (C:Cx)(s:Gs)(d:Int)(i1 i2:Sim.Id):AO:= .box [.t (.lst 4 (C.p.map Oj.tr)),.t (.int .i64 C.b.M5),.t (.int .i64 C.b.L4),.t (.bool C.b.N0),.t (.bool C.b.M9),.t (.bool C.L0),.t (.int .i64 C.J2),.t (.int .i64 s.J1),.t (.int .i64 C.args),.t (.int .i64 d),.own i1,.own i2,.t (.bool s.start)]
abbrev iU (i1 i2:Sim.Id)(C:Cx)(s:Gs)(d:Int)(S:List (List DC)):List (Sim.Id×AO):=[((0,0,0),qK C s d i1 i2),(i1,.dar 7 (itR s.I4) none),(i2,.dar 6 S none)]
abbrev dE:AV:= .r (.c (.ptr (0,0,0) 0))
theorem kh (l:List Oi):(itR l).length=l.length:=by rw[itR,di,d9]
theorem Dd (l:List Oi)(x:Oi):itR (l++[x])=itR l++[x.tr.map .d]:=by simp[itR,aq]
def bM (s:Gs):Prop:=s.I4.length<=68719476736
theorem Q24{p:Prop}(h:p:=by exact⟨⟨by rw[N1];(try dsimp only);omega,by rw[N1];(try dsimp only);omega⟩⟩):p:=h
theorem cd (C:Cx)(s:Gs)(d:Int)(S:List (List DC))(code arg line:Int)(chain:List Int)(h1:bM s)(h2:chain.length<=100):bd prog 197 [dE,tI .i64 code,tI .i64 arg,tI .i64 line,At chain] (iU (0,0,1) (0,0,2) C s d S) (.tup []) (iU (1,0,1) (0,0,2) C (aA C s d code arg line chain) d S):=by
 refine au hΓ ay func197 rfl d_ rfl rfl ?_;unfold bM at h1;have N1:=kh s.I4;have OJ:(chain.map ae).length=chain.length:=s_;have OA:=gy chain;repeat' ((conv=>whnf);first|apply Wx|apply W6|apply oi|apply fi|intro h|exact Y8|refine e_ rfl ?_)
 all_goals try exact Q24
 all_goals try exact Q2
 all_goals try exact⟨by simpa using OA⟩
 all_goals(refine⟨?_⟩;(try rw[N1]at *);rw[aA,Dd];congr 1;simp_all[lS,Oi.tr])
theorem sU (C:Cx)(hC:CxOk C)(s:Gs)(d:Int)(S:List (List DC))(x:Sc)(i:Int)(store:Bool)(hd:-2000<=d/\d<=2000)(hx:0<=x.first/\x.first<=1000)(hi:-2<=i/\i<=100):bd prog 262 [dE,scV x,tI .i64 i,tB store] (iU (0,0,1) (0,0,2) C s d S) (.tup [.c (.t (.int .i64 (cH C store))),.c (.t (.int .i64 (db C x d i)))]) (iU (0,0,1) (0,0,2) C s d S):=by
 refine au hΓ ay func262 rfl d_ rfl rfl ?_;obtain⟨a1,a2⟩:=hC.args;repeat' ((conv=>whnf);first|apply Wx|apply W6|apply oi|apply fi|intro h|exact Y8|refine e_ rfl ?_)
 all_goals try exact Q3
 all_goals(refine⟨congrArg (Tr.int _) ?_⟩;(try unfold cH);(try unfold db mf fP);(try simp(disch:=omega)only[c6]);simp_all<;>omega)
theorem V55{p:Prop}(h:p:=by
 repeat' ((conv=>whnf);first|apply Wx|apply W6|apply oi|apply fi|intro h|exact Y8|refine e_ rfl ?_)
 refine cg (g1) ?_;repeat' ((conv=>whnf);first|apply Wx|apply W6|apply oi|apply fi|intro h|exact Y8|refine e_ rfl ?_)
 refine cg (g2) ?_
 exact Z5):p:=h
theorem En (C:Cx)(hC:CxOk C)(s:Gs)(d:Int)(S:List (List DC))(x:Sc)(i line:Int)(h1:bM s)(h2:x.I5.length<=100)(hd:-1000<=d/\d<=1999)(hx:0<=x.first/\x.first<=1000)(hi:-2<=i/\i<=100):bd prog 259 [dE,scV x,tI .i64 i,tI .i64 line] (iU (0,0,1) (0,0,2) C s d S) (.tup []) (iU (1,0,1) (0,0,2) C (Hs C x s d i line) (d+1) S):=by refine au hΓ ay func259 rfl d_ rfl rfl ?_;have g1:=sU C hC s d S x i false o_ hx hi;have g2:=cd C s d S (cH C false) (db C x d i) line x.I5 h1 h2;exact V55
theorem nd (C:Cx)(hC:CxOk C)(s:Gs)(d:Int)(S:List (List DC))(x:Sc)(i line:Int)(chain:List Int)(h1:bM s)(h2:chain.length<=100)(hd:-1000<=d/\d<=2000)(hx:0<=x.first/\x.first<=1000)(hi:-2<=i/\i<=100):bd prog 245 [dE,scV x,tI .i64 i,tI .i64 line,At chain] (iU (0,0,1) (0,0,2) C s d S) (.tup []) (iU (1,0,1) (0,0,2) C (eE C x s d i line chain) (d-1) S):=by refine au hΓ ay func245 rfl d_ rfl rfl ?_;have g1:=sU C hC s d S x i true o_ hx hi;have g2:=cd C s d S (cH C true) (db C x d i) line chain h1 h2;exact V55
theorem lQ (C:Cx)(s:Gs)(d:Int)(S:List (List DC))(v line:Int)(chain:List Int)(h1:bM s)(h2:chain.length<=100)(hd:-1000<=d/\d<=1999):bd prog 242 [dE,tI .i64 v,tI .i64 line,At chain] (iU (0,0,1) (0,0,2) C s d S) (.tup []) (iU (1,0,1) (0,0,2) C (aA C s d 0 v line chain) (d+1) S):=by
 refine au hΓ ay func242 rfl d_ rfl rfl ?_;have g2:=cd C s d S 0 v line chain h1 h2;repeat' ((conv=>whnf);first|apply Wx|apply W6|apply oi|apply fi|intro h|exact Y8|refine e_ rfl ?_)
 refine cg (g2) ?_;exact Z5
abbrev scH (l:List (Sc×List Int)):List (List DC):=l.map fun y=>mm y.1 y.2
theorem Q18{p:Prop}(h:p:=by exact⟨KW⟩):p:=h
theorem sS (C:Cx)(hC:CxOk C)(s:Gs)(d:Int)(S:List (Sc×List Int))(x:Sc)(lv:List Int)(k:Nat)(last:Bool)(h1:bM s)(h2:x.I5.length<=100)(hd:-1000<=d/\d<=2000)(hS:S.length<=100)(RG:lv.length<=68719476736)(hd p:List Int):
  bd prog 243 [dE,tI .i64 (k:Int),tB last] (iU (0,0,1) (0,0,2) C s d (scH (S++[(x,lv)]))) (.tup []) (iU (1,0,1) (1,0,2) C (aU C x k last d ⟨s,hd,p,lv⟩).g (d-1) (scH (S++[(x,(aU C x k last d ⟨s,hd,p,lv⟩).lv)]))):=by
 refine au hΓ ay func243 rfl d_ rfl rfl ?_;obtain⟨f,chain,locals,first,outer⟩:=x;have N1:=kh s.I4;have PN:(scH (S++[(⟨f,chain,locals,first,outer⟩,lv)])).length=S.length+1:=s_;have OB:(scH (S++[(⟨f,chain,locals,first,outer⟩,lv)]))[S.length]?=some (mm ⟨f,chain,locals,first,outer⟩ lv):=s_;have hw:IntKind.i64.wrap (((scH (S++[(⟨f,chain,locals,first,outer⟩,lv)])).length:Int)-1)=(S.length:Int):=by rw[PN,c6 _ o_];omega
 have OA:=gy lv;have Qy:=gy (lv++[(s.I4.length:Int)]);have N2:S.length<(scH (S++[(⟨f,chain,locals,first,outer⟩,lv)])).length:=o_;have PO:(lv.map ae).length=lv.length:=s_;unfold bM at h1
 cases outer with
 | false=>
  cases last with
  | true=>
   have e:aU C ⟨f,chain,locals,first,false⟩ k true d ⟨s,hd,p,lv⟩=⟨s,hd,p,lv⟩:=(by simp[aU]);rw[e];repeat' ((conv=>whnf);first|apply Wx|apply W6|apply oi|apply fi|intro h|refine⟨S.length,hw,N2,?_⟩|refine⟨_,OB,?_⟩|exact Y9|refine e_ rfl ?_)
   all_goals(exfalso;simp_all;done)
  | false=>
   have e:aU C ⟨f,chain,locals,first,false⟩ k false d ⟨s,hd,p,lv⟩=⟨aA C s d 10 0 k chain,hd,p,lv++[(s.I4.length:Int)]⟩:=(by simp[aU]);rw[e];have g:=cd C s d ((scH (S++[(⟨f,chain,locals,first,false⟩,lv)])).set S.length [.d (.int .i64 (f:Int)),.t (.lst 1 (chain.map ae)),.t (.lst 1 (locals.map ah)),.d (.int .i64 first),.d (.bool false),.d (.lst 1 (lv.map ae++[[.int .i64 ((itR s.I4).length:Int)]]))]) 10 0 k chain h1 h2;repeat' ((conv=>whnf);first|apply Wx|apply W6|refine cg g ?_|apply oi|apply fi|intro h|refine⟨S.length,hw,N2,?_⟩|refine⟨_,OB,?_⟩|refine⟨_,(u4 N2),?_⟩|exact Y8|refine e_ rfl ?_)
   all_goals try exact⟨OA⟩
   all_goals try exact⟨⟨by rw[PO];(try dsimp only);simp<;>omega,by rw[PO];(try dsimp only);simp<;>omega⟩⟩
   all_goals try exact⟨by rw[N1];first|(simp[ae];done)|simpa [ae]using Qy⟩
   all_goals try exact Q18
   all_goals try exact Q3
   all_goals(refine⟨?_⟩;rw[N1];simp[List.set_append,ae])
 | true=>
  have g1:=cd C s d (scH (S++[(⟨f,chain,locals,first,true⟩,lv)])) 14 C.args k chain h1 h2;have g2:=cd C s d (scH (S++[(⟨f,chain,locals,first,true⟩,lv)])) 16 (C.args+16*C.J2) k chain h1 h2;obtain⟨a1,a2⟩:=hC.args;obtain⟨a3,a4⟩:=hC.J2;have e2:IntKind.i64.wrap (C.args+IntKind.i64.wrap (16*C.J2))=C.args+16*C.J2:=by simp(disch:=omega)only[c6]
  rw[<-e2]at g2
  cases hf:C.L0 with
  | true=>
   have e:aU C ⟨f,chain,locals,first,true⟩ k last d ⟨s,hd,p,lv⟩=⟨aA C s d 14 C.args k chain,hd,p,lv⟩:=(by simp[aU,hf]);rw[e];repeat' ((conv=>whnf);first|apply Wx|apply W6|refine cg g1 ?_|apply oi|apply fi|intro h|refine⟨S.length,hw,N2,?_⟩|refine⟨_,OB,?_⟩|exact Y9|refine e_ rfl ?_)
   all_goals(exfalso;simp_all;done)
  | false=>
   have e:aU C ⟨f,chain,locals,first,true⟩ k last d ⟨s,hd,p,lv⟩=⟨aA C s d 16 (IntKind.i64.wrap (C.args+IntKind.i64.wrap (16*C.J2))) k chain,hd,p,lv⟩:=(by simp[aU,hf,e2]);rw[e];repeat' ((conv=>whnf);first|apply Wx|apply W6|refine cg g2 ?_|apply oi|apply fi|intro h|refine⟨S.length,hw,N2,?_⟩|refine⟨_,OB,?_⟩|exact Y9|refine e_ rfl ?_)
   all_goals(exfalso;simp_all;done)
abbrev ow (e:Int×Int):List Tr:=[.int .i64 e.1,.int .i64 e.2]
theorem IA {l:List Oi}{j:Nat}{x:Oi}(h:l[j]?=some x)(v:Int):bI l (j:Int) v=l.set j ⟨⟨x.J6.J4,v⟩,x.J9,x.J8,x.J3,x.L9,x.M7⟩:=by rw[bI,d5 o_,e8,h]
theorem kB {l:List Oi}{j:Nat}{x:Oi}(h:l[j]?=some x)(v:Int):itR (bI l (j:Int) v)=(itR l).set j [.d (.int .i64 x.J6.J4),.d (.int .i64 v),.d (.int .i64 x.J9),.d (.bool x.J8),.d (.lst 1 (x.J3.map ae)),.d (.int .i64 x.L9),.d (.bool x.M7)]:=by rw[IA h];simp[aq,E4,Oi.tr]
theorem gd {l:List Oi}{j:Nat}{x:Oi}(h:l[j]?=some x):(itR l)[j]?=some (x.tr.map .d):=ka (aa h)
theorem tx (C:Cx)(s:Gs)(d:Int)(S:List (List DC))(E:List (Int×Int))(to:Int)(h1:bM s)(hE:E.length<=100)(hin:∀e∈E,0<=e.2/\e.2<s.I4.length):
  bd prog 241 [dE,.r (.c (.own (0,1,0))),tI .i64 to] (iU (0,0,1) (0,0,2) C s d S++[((0,1,0),.arr false 2 (E.map ow))]) (.tup []) (iU (0,0,1) (0,0,2) C ⟨dM s.I4 s.I4.length to E,s.J1,s.start⟩ d S++[((0,1,0),.arr false 2 (E.map ow))]):=by
 refine au hΓ ay func241 rfl d_ rfl rfl ?_;have hEl:(E.map ow).length=E.length:=s_;unfold bM at h1;repeat' ((conv=>whnf);first|apply Wx|apply W6|apply oi|apply fi|intro h|exact Y8|refine e_ rfl ?_)
 conv=>whnf
 refine⟨{k:Nat//k<=E.length},fun q=>⟨[(0,dE),(1,.r (.c (.own (0,1,0)))),(2,tI .i64 to),(6,tI .i64 (q.1:Int))],[((0,0,0),some (qK C s d (0,0,1) (0,0,2))),((0,0,1),some (.dar 7 (itR (dM s.I4 s.I4.length to (E.take q.1))) none)),((0,0,2),some (.dar 6 S none)),((0,1,0),some (.arr false 2 (E.map ow)))],[0]⟩,fun q=>E.length-q.1,⟨0,o_⟩,?_,?_⟩
 ·exact Z2
 intro⟨k,hk⟩;dsimp only at hk⊢;have Pw:=yX s.I4.length to (E.take k) s.I4;have O3:(itR (dM s.I4 s.I4.length to (E.take k))).length=s.I4.length:=by rw[kh,Pw]
 by_cases N2:k<E.length
 ·obtain⟨e,he⟩:=ab N2;obtain⟨i1,i2⟩:=hin e (b9 he);obtain⟨j,hj⟩:=j8 i1;have Pg:j<(itR (dM s.I4 s.I4.length to (E.take k))).length:=by rw[O3];omega
  obtain⟨x,hx⟩:=ab (l:=dM s.I4 s.I4.length to (E.take k)) (k:=j) (by rw[Pw];omega);have OZ:k<(E.map ow).length:=by rw[hEl];exact N2
  have OS:E.take (k+1)=E.take k++[e]:=by rw[z7,he];rfl
  have T0:=DG s.I4.length to e (E.take k) s.I4;repeat' ((conv=>whnf);first|apply Wx|apply W6|apply oi|apply fi|intro h|refine⟨k,rfl,OZ,?_⟩|refine⟨ow e,(aa he),?_⟩|refine⟨j,hj,Pg,?_⟩|refine⟨_,(gd hx),?_⟩|exact Y6|refine e_ rfl ?_)
  all_goals(conv=>whnf)
  all_goals(refine⟨⟨k+1,o_⟩,?_,KD⟩)
  repeat' ((conv=>whnf);first|apply Wx|apply W6|apply oi|apply fi|intro h|exact Y9|refine e_ rfl ?_)
  all_goals(refine⟨?_⟩;(try rw[O3]);rw[OS,T0])
  ·rw[d5 aac,hj,kB hx];rfl
  ·rw[c8 aac]
 ·repeat' ((conv=>whnf);first|apply Wx|apply W6|apply oi|apply fi|intro h|exact Y6|refine e_ rfl ?_)
  all_goals(refine⟨?_⟩;rw[gt o_])
abbrev co (S:List (Sc×List Int)):List Nat:=S.map fun y=>y.1.f
theorem vQ (C:Cx)(hC:CxOk C)(s:Gs)(d:Int)(S:List (Sc×List Int))(g:Nat)(h1:bM s)(hS:1<=S.length/\S.length<=100)(hg:g<C.p.length):
  bd prog 260 [dE,tI .i64 (g:Int)] (iU (0,0,1) (0,0,2) C s d (scH S)) (tB (cw C (co S) g s.I4.length)) (iU (0,0,1) (0,0,2) C s d (scH S)):=by
 refine au hΓ ay func260 rfl d_ rfl rfl ?_;unfold bM at h1;have N1:=kh s.I4;have PN:(scH S).length=S.length:=s_;have Pw:(C.p.map Oj.tr).length=C.p.length:=s_;have hE:=dw C.p (g:Int) (by have:=hC.len;omega);have O3:(co S).length=S.length:=s_;have PW:=hC.len;have hin:=hC.inl
 have PP:-1<=bB C.p (g:Int)/\bB C.p (g:Int)<=60:=by
  rw[bu]
  cases he:endAt C.p g with|none=>simp[cX]|some e=>have:=aL he;obtain⟨_,_,_,_,_,h⟩:=this;simp only[cX];omega
 unfold cw;rw[O3]
 generalize bB C.p (g:Int)=eg at *
 have PJ:IntKind.i64.wrap (((scH S).length:Int)-1)=(S.length:Int)-1:=by rw[PN,c6 _ o_]
 have QQ:IntKind.i64.wrap (eg-(g:Int))=eg-g:=by rw[c6 _ o_]
 repeat' ((conv=>whnf);first|apply Wx|apply W6|apply oi|apply fi|intro h|refine cl hE ?_|exact Y8|refine e_ rfl ?_)
 all_goals try(refine⟨congrArg Tr.bool ?_⟩;(try rw[PJ]at h);(try rw[QQ]at h);(try rw[N1]at h);simp only[j7]at h;symm;simp only[z8,n7];omega)
 conv=>whnf
 refine⟨{k:Nat//k<=S.length/\((co S).take k).contains g=false},fun q=>⟨[(0,dE),(1,tI .i64 (g:Int)),(5,tI .i64 (q.1:Int))],(iU (0,0,1) (0,0,2) C s d (scH S)).map (fun p=>(p.1,some p.2)),[0]⟩,fun q=>S.length-q.1,⟨0,o_,s_⟩,?_,?_⟩
 ·exact Z2
 rename_i ha hb;rw[PJ]at ha;rw[QQ]at hb;rw[N1]at h;simp only[n7]at ha hb h
 have OL:∀c:Bool,(decide ((S.length:Int)<=C.b.L4)&&(decide (eg-(g:Int)<=9)&&(decide (s.I4.length<200)&&!c)))= !c:=fun c=>by
  rw[r7 o_,r7 o_,r7 o_];rfl
 rw[OL];clear OL;intro⟨k,hk,Px⟩;dsimp only at hk Px⊢;by_cases N2:k<S.length
 ·obtain⟨y,hy⟩:=ab N2;have hyr:(scH S)[k]?=some (mm y.1 y.2):=by simp[hy]
  have OZ:k<(scH S).length:=o_;have OS:(co S).take (k+1)=(co S).take k++[y.1.f]:=by rw[z7,l6,hy];rfl
  have Qa:y.1.f∈co S:=p6.2 ⟨y,b9 hy,rfl⟩;repeat' ((conv=>whnf);first|apply Wx|apply W6|apply oi|apply fi|intro h|refine⟨k,rfl,OZ,?_⟩|refine⟨_,hyr,?_⟩|exact Y6|refine e_ rfl ?_)
  ·refine⟨congrArg Tr.bool ?_⟩;have e:y.1.f=g:=(by have:=B6 h;omega);rw[<-e,G1.2 Qa];rfl
  ·conv=>whnf
   refine⟨⟨k+1,o_,?_⟩,?_,KD⟩
   ·have e:g≠y.1.f:=fun e=>by rw[<-e]at h;simp at h
    rw[OS,List.contains_eq_any_beq,List.any_append,<-List.contains_eq_any_beq,Px];simp[e]
   exact Z5
 ·repeat' ((conv=>whnf);first|apply Wx|apply W6|apply oi|apply fi|intro h|exact Y6|refine e_ rfl ?_)
  rw[gt o_]at Px;exact⟨by rw[Px];rfl⟩
def py (C:Cx)(l:List Ou):Prop:=∀t∈l,t.I6=7->∃f,findN C.p 0 t.J0=some f/\(argsN C.p f:Int)=t.L3
structure Rm (C:Cx) (lev n:Nat) (S:Nat) (s:Gs) (d:Int):Prop where
 room:s.I4.length+n*cE lev<=68719476736
 depth:((lev+S:Nat):Int)=C.b.L4
 low:0<=d
 high:d+(n:Int)+100*(lev:Int)<=1900
def NK (C:Cx)(lev:Nat):Prop:=∀(e:Ex) (x:Sc) (S:List (Sc×List Int)) (lv:List Int) (k p:Nat) (ln:Oj) (s:Gs) (d:Int),e.ok->ScOk C x (co (S++[(x,lv)]))->C.p[k]?=some ln->ik ln.J5 p e->py C ln.J5->Rm C lev e.toks.length S.length s d->
 bd prog 244 [dE,tI .i64 (k:Int),tI .i64 (p:Int)] (iU (0,0,1) (0,0,2) C s d (scH (S++[(x,lv)]))) (tI .i64 ((p+e.toks.length:Nat):Int)) (iU (1,0,1) (1,0,2) C (dx C (bf C lev) x (co (S++[(x,lv)])) k e d s) (d+1) (scH (S++[(x,lv)])))
def Ky (C:Cx)(lev:Nat):Prop:=∀(x:Sc) (S:List (Sc×List Int)) (lv:List Int) (k g:Nat) (s:Gs) (d:Int),ScOk C x (co (S++[(x,lv)]))->k<C.p.length->bO C g->cw C (co (S++[(x,lv)])) g s.I4.length=true->Rm C lev 1 S.length s (d-argsN C.p g)->
 bd prog 261 [dE,tI .i64 (g:Int),tI .i64 (k:Int),scV x] (iU (0,0,1) (0,0,2) C s d (scH (S++[(x,lv)]))) (.tup []) (iU (1,0,1) (1,0,2) C (bf C lev x (co (S++[(x,lv)])) k g d s) (d-argsN C.p g+1) (scH (S++[(x,lv)])))
theorem mr {α:Type}[BEq α](l:List α)(s:α):-1<=dJ l s/\dJ l s<=l.length:=by
 unfold dJ
 cases h:lM l 0 s with|none=>simp only[cX];omega|some k=>have:=Be h;simp only[cX];omega
theorem mP {C:Cx}(hC:CxOk C){k:Nat}{ln:Oj}(hk:C.p[k]?=some ln):eG ln.J5/\ln.J0.length<=1048576:=by obtain⟨h1,_,_,_,h5⟩:=dg (bx hC.small (b9 hk));exact⟨fun t ht=>by have:=h5 t ht;omega,h1⟩
theorem DR (p:List Oj)(g:Nat):nQ p g<=g:=by unfold nQ;have h1:=D4 (fun x:Oj=>x.I6==0) (p.take g);have h2:=List.length_take_le g p;omega
theorem Fh {p:List Oj}{i:Nat}{x:Oj}(hx:p[i]?=some x):nQ p (i+1)=nQ p i+if x.I6=0 then 1 else 0:=by
 unfold nQ;rw[z7,hx,H7,b8];by_cases h:x.I6=0
 ·simp[h]
 ·simp[h]
theorem V63{p:Prop}(h:p:=by
 have:∀(l:List Ex),l.length<=(ao l).length:=by
  intro l
  induction l with
  | nil=>simp
  | cons b l ih=>have:=b.toks_pos;rw[ao,b8,c7];omega
 have h2:=this (es.take j);rw[j5]at h2
 omega):p:=h
theorem V90{p:Prop}(h:p:=by
 have hz:=k1 (.inl O6);unfold iB;rw[d5 O6]
 repeat' ((conv=>whnf);first|apply Wx|apply W6|refine cg g1 ?_|apply oi|apply fi|intro h|exact Y10|refine e_ rfl ?_)):p:=h
theorem V115{p:Prop}(h:p:=by
 repeat' ((conv=>whnf);first|apply Wx|apply W6|refine cg g1 ?_|apply oi|apply fi|intro h|refine cl gI ?_|exact Y10|refine e_ rfl ?_)):p:=h
theorem V84{p:Prop}(h:p:=by
 rw[RB]at g1;rw[d5 rfl]
 repeat' ((conv=>whnf);first|apply Wx|apply W6|refine cg g1 ?_|refine cg g2 ?_|apply oi|apply fi|intro h|refine cl gF ?_|exact Y10|refine e_ rfl ?_)):p:=h
theorem V40{p:Prop}(h:p:=by
 have hw5:IntKind.i64.wrap (IntKind.i64.wrap (5+t.I6)-2)=5+t.I6-2:=by simp(disch:=omega)only[c6]
 rw[<-hw5]at g1;have hz:=k3 UA.1 UA.2;unfold iB;rw[c8 o_,c8 o_,c8 o_,<-hw5]
 repeat' ((conv=>whnf);first|apply Wx|apply W6|refine cg g1 ?_|apply oi|apply fi|intro h|exact Y10|refine e_ rfl ?_)):p:=h
theorem DW {C:Cx}(hC:CxOk C){lev:Nat}(hR:Ky C lev):∀(n:Nat) (e:Ex),e.toks.length<=n->∀(x:Sc) (S:List (Sc×List Int)) (lv:List Int) (k p:Nat) (ln:Oj) (s:Gs) (d:Int),e.ok->ScOk C x (co (S++[(x,lv)]))->C.p[k]?=some ln->ik ln.J5 p e->py C ln.J5->Rm C lev e.toks.length S.length s d->
  bd prog 244 [dE,tI .i64 (k:Int),tI .i64 (p:Int)] (iU (0,0,1) (0,0,2) C s d (scH (S++[(x,lv)]))) (tI .i64 ((p+e.toks.length:Nat):Int)) (iU (1,0,1) (1,0,2) C (dx C (bf C lev) x (co (S++[(x,lv)])) k e d s) (d+1) (scH (S++[(x,lv)])))
 | 0,e,hn,_,_,_,_,_,_,_,_,_,_,_,_,_,_=>by have:=e.toks_pos;omega
 | n+1,.node t es,hn,x,S,lv,k,p,ln,s,d,ho,hx,hk,hs,hca,hr=>by
  refine au hΓ ay func244 rfl d_ rfl rfl ?_;obtain⟨RX,Pm⟩:=mP hC hk;have OH:=gz hs;obtain⟨ht,RL⟩:=iO hs;obtain⟨e1,e2⟩:=rD ho.1;have Pq:es.length=ar t:=ho.2.1;have hA:=nu t (RX t (b9 ht));rw[e1,<-Pq]at hA;have PW:=hC.len;have Py:=(hC.line _ _ hk).2.2.2.1;have PN:(scH (S++[(x,lv)])).length=S.length+1:=s_;have OB:(scH (S++[(x,lv)]))[S.length]?=some (mm x lv):=s_;have N2:S.length<(scH (S++[(x,lv)])).length:=o_;have Ps:=hr.room;have Pf:=hr.depth;have Zx:=hr.low;have Yz:=hr.high;have hin:=hC.inl;have hw:IntKind.i64.wrap (((scH (S++[(x,lv)])).length:Int)-1)=(S.length:Int):=by rw[PN,c6 _ o_];omega
  have htp:=wM lev;rw[Ex.toks,c7]at hn OH Ps Yz;rw[dx];repeat' ((conv=>whnf);first|apply Wx|apply W6|apply oi|apply fi|intro h|refine⟨S.length,hw,N2,?_⟩|refine⟨_,OB,?_⟩|refine⟨k,ln.tr,rfl,aa hk,?_⟩|refine⟨p,t.tr,rfl,aa ht,?_⟩|refine cl hA ?_|exact Y8|refine e_ rfl ?_)
  conv=>whnf
  refine⟨{j:Nat//j<=es.length},fun q=>⟨[(0,dE),(1,tI .i64 (k:Int)),(2,tI .i64 ((p+1+(ao (es.take q.1)).length:Nat):Int)),(9,tI .i64 ((es.length-q.1:Nat):Int)),(7,.r (.c (.ptr (7,0,0) 0))),(8,.r (.c (.ptr (8,0,0) 0)))],
   [(
    (0,0,0),some (qK C (cO C (bf C lev) x (co (S++[(x,lv)])) k (es.take q.1) d s) (d+q.1) (7,0,1) (7,0,2))),((7,0,1),some (.dar 7 (itR (cO C (bf C lev) x (co (S++[(x,lv)])) k (es.take q.1) d s).I4) none)),((7,0,2),some (.dar 6 (scH (S++[(x,lv)])) none)),
    ((7,0,0),some (.box [.t (.int .i64 (x.f:Int)),.t (.lst 1 (x.I5.map ae)),.t (.lst 1 (x.I7.map ah)),.t (.int .i64 x.first),.t (.bool x.L2),.opq])),((8,0,0),some (.box (t.tr.map .t)))],[8,7,0]⟩,fun q=>es.length-q.1,⟨0,o_⟩,?_,?_⟩
  ·repeat' ((conv=>whnf);first|apply Wx|apply W6|apply oi|apply fi|intro h|exact Y8|refine e_ rfl ?_)
   ·exact⟨congrArg (Tr.int _) (by rw[c6 _ o_];simp[ao])⟩
   ·exact⟨congrArg (Tr.int _) s_⟩
  intro⟨j,hj⟩;dsimp only at hj⊢;have Uu:=mU (C:=C) (x:=x) (ins:=co (S++[(x,lv)])) (line:=k) (lev:=lev) (fun g d s hg hr=>dF hC lev k g d s hx hg hr) (es.take j) d s;have UQ:=Uu.le;have Uq:=dL es j;obtain⟨s1,P6⟩:∃s1,cO C (bf C lev) x (co (S++[(x,lv)])) k (es.take j) d s=s1:=⟨_,rfl⟩;rw[P6]at Uu UQ⊢;by_cases Vo:j<es.length
  ·obtain⟨a,ha⟩:=ab Vo;have hta:=jF ha;have Yi:=dL es (j+1);have OC:=kH ha
   have XD:j<=(ao (es.take j)).length:=by exact V63
   have hm:=l8 (cE lev) (show(ao (es.take j)).length+a.toks.length<=(ao es).length+1 by omega);rw[o8]at hm;have hI:=DW hC hR n a o_ x S lv k (p+1+(ao (es.take j)).length) ln s1 (d+j) (mz ho.2.2 ha) hx hk (uR RL ha) hca ⟨o_,Pf,o_,o_⟩;have OS:=rj C (bf C lev) x (co (S++[(x,lv)])) k d s ha;rw[P6]at OS;repeat' ((conv=>whnf);first|apply Wx|apply W6|apply oi|apply fi|intro h|exact Y6|refine e_ rfl ?_)
   refine cg (hI) ?_;repeat' ((conv=>whnf);first|apply Wx|apply W6|apply oi|apply fi|intro h|exact Y8|refine e_ rfl ?_)
   conv=>whnf
   refine⟨⟨j+1,o_⟩,?_,KD⟩;repeat' ((conv=>whnf);first|apply Wx|apply W6|apply oi|apply fi|intro h|exact Y8|refine e_ rfl ?_)
   all_goals try exact⟨by dsimp only;rw[OS]⟩
   all_goals try exact Q18
  ·have RF:j=es.length:=o_;subst RF;rw[B3]at P6 UQ Uq⊢;have hT:(Ex.node t es).toks.length=(ao es).length+1:=(by rw[Ex.toks,c7]);rw[P6]
   have OW:s1.I4.length+cE lev<=68719476736:=by have:((ao es).length+1)*cE lev=(ao es).length*cE lev+cE lev:=(by rw[o8];omega);omega
   have ON:x.I5.length<=100:=by have:=hx.I5;rw[show(co (S++[(x,lv)])).length=S.length+1 by simp]at this;omega
   have PY:bM s1:=(by unfold bM;omega);obtain⟨k1,k2,k3⟩:=HK ho.1;have Vy:=RX t (b9 ht)
   have Sl:0<=x.first/\x.first<=1000:=by have:=hx.first;rw[show(co (S++[(x,lv)])).length=S.length+1 by simp]at this;omega
   obtain⟨ee,_,_,_,_,PO⟩:=hx.endE hC;rcases Ai ho.1 with O6|Pk|Rl|UA
   ·have g1:=lQ C s1 (d+es.length) (scH (S++[(x,lv)])) t.L3 k x.I5 PY ON o_;exact V90
   ·have g1:=En C hC s1 (d+es.length) (scH (S++[(x,lv)])) x (dJ x.I7 t.J0) k PY ON o_ Sl (by have:=mr x.I7 t.J0;omega);have gI:=gf x.I7 t.J0 o_;have hz:=k1 (.inr Pk);unfold iB;rw[c8 o_,d5 Pk]
    generalize dJ x.I7 t.J0=ix at *
    exact V115
   ·obtain⟨f,hf,WL⟩:=hca t (b9 ht) Rl;obtain⟨OA,y,hy,PR,_⟩:=eV hf;have TN:bO C f:=⟨y,hy,PR⟩;have R8:=k2 Rl;have gF:=eC C.p t.J0 o_;rw[show fY C.p t.J0=(f:Int) from br hf]at gF;have g1:=vQ C hC s1 (d+es.length) (S++[(x,lv)]) f PY aab OA;unfold iB;rw[c8 o_,c8 o_,d5 Rl,hf];dsimp only
    cases RB:cw C (co (S++[(x,lv)])) f s1.I4.length with
    | true=>
     have g2:=hR x S lv k f s1 (d+es.length) hx (aw hk) TN RB ⟨o_,Pf,o_,o_⟩
     exact V84
    | false=>
     rw[RB]at g1;rw[c8 s_];have g2:=cd C s1 (d+es.length) (scH (S++[(x,lv)])) 12 (nQ C.p f) k x.I5 PY ON;repeat' ((conv=>whnf);first|apply Wx|apply W6|refine cg g1 ?_|apply oi|apply fi|intro h|refine cl gF ?_|exact Y11|refine e_ rfl ?_)
     conv=>whnf
     refine⟨{i:Nat//i<=f},fun q=>⟨[(0,dE),(1,tI .i64 (k:Int)),(2,tI .i64 ((p+1+(ao es).length:Nat):Int)),(10,tI .i64 (f:Int)),(11,tI .i64 (nQ C.p q.1:Int)),(12,tI .i64 (q.1:Int)),(7,.r (.c (.ptr (7,0,0) 0))),(8,.r (.c (.ptr (8,0,0) 0)))],
      [(
       (0,0,0),some (qK C s1 (d+es.length) (7,0,1) (7,0,2))),((7,0,1),some (.dar 7 (itR s1.I4) none)),((7,0,2),some (.dar 6 (scH (S++[(x,lv)])) none)),
       ((7,0,0),some (.box [.t (.int .i64 (x.f:Int)),.t (.lst 1 (x.I5.map ae)),.t (.lst 1 (x.I7.map ah)),.t (.int .i64 x.first),.t (.bool x.L2),.opq])),((8,0,0),some (.box (t.tr.map .t)))],[8,7,0]⟩,fun q=>f-q.1,⟨0,o_⟩,?_,?_⟩
     ·exact Z2
     intro⟨i,hi⟩;dsimp only at hi⊢;have Pn:=DR C.p i;by_cases hif:i<f
     ·obtain⟨z,hz⟩:=ab (l:=C.p) (k:=i) o_;have Ub:=Fh hz;repeat' ((conv=>whnf);first|apply Wx|apply W6|apply oi|apply fi|intro h|refine⟨i,z.tr,rfl,aa hz,?_⟩|exact Y6|refine e_ rfl ?_)
      all_goals(conv=>whnf)
      all_goals(refine⟨⟨i+1,o_⟩,?_,KD⟩)
      repeat' ((conv=>whnf);first|apply Wx|apply W6|apply oi|apply fi|intro h|exact Y9|refine e_ rfl ?_)
      ·rw[d5 aac]at Ub;all_goals try exact Q18
      ·rw[c8 aac]at Ub;all_goals try exact Q18
     ·have PZ:i=f:=o_;subst PZ;repeat' ((conv=>whnf);first|apply Wx|apply W6|refine cg g2 ?_|apply oi|apply fi|intro h|exact Y12|refine e_ rfl ?_)
   ·have g1:=cd C s1 (d+es.length) (scH (S++[(x,lv)])) (5+t.I6-2) 0 k x.I5 PY ON;exact V40
def Cz (C:Cx)(lev:Nat):Prop:=∀(x:Sc) (S:List (Sc×List Int)) (s:Gs) (d:Int),ScOk C x (co (S++[(x,[])]))->s.I4.length+(jK C.p x.f-x.f)*(20*cE lev+3)<=68719476736->((lev+S.length:Nat):Int)=C.b.L4->0<=d->d+30+100*(lev:Int)<=1900->
 bd prog 198 [dE] (iU (0,0,1) (0,0,2) C s d (scH (S++[(x,[])]))) (.tup []) (iU (1,0,1) (1,0,2) C (aV C (bf C lev) x (co (S++[(x,[])])) d s).1 d (scH (S++[(x,(aV C (bf C lev) x (co (S++[(x,[])])) d s).2)])))
theorem ku (S:List (Sc×List Int))(y:Sc×List Int):co (S++[y])=co S++[y.1.f]:=s_
theorem V143{p:Prop}(h:p:=by
 intro q hq;simp only[AC.ids,d6,j6,or_false]at hq;subst hq;rfl):p:=h
theorem Md {C:Cx}(hC:CxOk C){lev:Nat}(hL:Cz C lev):Ky C (lev+1):=by
 intro x S lv k g s d hx hk hg RB hr;refine au hΓ ay func261 rfl d_ rfl rfl ?_;obtain⟨r1,r2,r3,r4⟩:=eA RB;obtain⟨y,hy,PR⟩:=hg;have PW:=hC.len;have hin:=hC.inl;have SF:=dz hC ⟨y,hy,PR⟩;have hA:argsN C.p g=y.K0.length:=by rw[argsN,hy]
 have Zv:=jz C.p (g:Int) o_ (fun z hz=>bx hC.small hz);have Xx:=tm hC hx;have O3:(co (S++[(x,lv)])).length=S.length+1:=s_;rw[O3]at Xx r1;have Rv:x.I7.length<=8:=by obtain⟨_,_,_,_,_,h⟩:=hx.endE hC;exact h
 have Sl:=hx.first;rw[O3]at Sl;have ha:=hC.args;have ON:=hx.I5;rw[O3]at ON;obtain⟨q1,q2,q3,q4⟩:=hr;have OA:=gy (x.I5++[(k:Int)]);have SY:(y.K0.map ah).length=y.K0.length:=s_;have TE:(x.I7.map ah).length=x.I7.length:=s_;have OJ:(x.I5.map ae).length=x.I5.length:=s_;have e1:IntKind.i64.wrap ((x.I7.length:Int)-C.args)=(x.I7.length:Int)-C.args:=by rw[c6 _ o_]
 have e2:IntKind.i64.wrap (x.first+(x.I7.length:Int))=x.first+x.I7.length:=by rw[c6 _ o_]
 repeat' ((conv=>whnf);first|(with_reducible apply W1;fail_if_success (with_reducible show Wo _ _ _ _ (Code.seq (Code.region 3 _ _) _) _ _))|(with_reducible first|apply W2|apply W3|apply W4|apply W5|apply W6|apply W7|apply W8|apply W9)|apply aB|apply oi|apply fi|intro h|refine⟨g,y.tr,rfl,aa hy,?_⟩|exact Y8|refine e_ rfl ?_)
 refine mv Unit (fun _=>⟨[(0,dE),(1,tI .i64 (g:Int)),(2,tI .i64 (k:Int)),(7,.r (.c (.ptr (7,0,0) 0))),(8,tI .i64 (argsN C.p g:Int)),(9,tI .i64 (bK C x))],
  [(
   (0,0,0),some (qK C s d (0,0,1) (0,0,2))),((0,0,1),some (.dar 7 (itR s.I4) none)),((0,0,2),some (.dar 6 (scH (S++[(x,lv)])) none)),
   ((7,0,0),some (.box [.t (.int .i64 (x.f:Int)),.t (.lst 1 (x.I5.map ae)),.t (.lst 1 (x.I7.map ah)),.t (.int .i64 x.first),.t (.bool x.L2),.opq]))],[7,0]⟩) ?_ ?_
 ·repeat' ((conv=>whnf);first|apply Wx|apply W6|apply oi|apply fi|intro h|exact Y8|refine e_ rfl ?_)
  all_goals(conv=>whnf)
  all_goals(refine⟨(),?_⟩)
  repeat' ((conv=>whnf);first|apply Wx|apply W6|apply oi|apply fi|intro h|exact Y8|refine e_ rfl ?_)
  all_goals(refine⟨congrArg (Tr.int _) ?_⟩)
  all_goals try(rw[SY,hA];done)
  all_goals(unfold bK;rw[TE])
  all_goals first|(rw[d5 aag];exact e1)|(rw[c8 (by simp_all)];exact e2)
 intro _;repeat' ((conv=>whnf);first|(with_reducible apply W1;fail_if_success (with_reducible show Wo _ _ _ _ (Code.region 7 _ _) _ _))|(with_reducible first|apply W2|apply W3|apply W4|apply W5|apply W6|apply W7|apply W8|apply W9)|apply aB|apply oi|apply fi|intro h|refine cl Zv ?_|exact Y8|refine e_ rfl ?_)
 all_goals try exact Q2
 conv=>whnf
 refine kL ⟨[(0,dE),(1,tI .i64 (g:Int)),(2,tI .i64 (k:Int)),(7,.r (.c (.ptr (7,0,0) 0))),(8,tI .i64 (argsN C.p g:Int)),(9,tI .i64 (bK C x)),(10,.r (.c (.ptr (10,0,0) 0)))],
  [(
   (0,0,0),some (qK C s d (0,0,1) (0,0,2))),((0,0,1),some (.dar 7 (itR s.I4) none)),((0,0,2),some (.dar 6 (scH (S++[(x,lv)])) none)),
   ((7,0,0),some (.box [.t (.int .i64 (x.f:Int)),.t (.lst 1 (x.I5.map ae)),.t (.lst 1 (x.I7.map ah)),.t (.int .i64 x.first),.t (.bool x.L2),.opq])),
   ((10,0,0),some (.box [.t (.int .i64 (g:Int)),.t (.lst 1 ((x.I5++[(k:Int)]).map ae)),.t (.lst 1 ((localsOf C.p (g:Int)).map ah)),.t (.int .i64 (bK C x)),.t (.bool false),.nils 1]))],_⟩ ?_ ?_ rfl ?_
 ·exact⟨.inl rfl,.inl rfl,.inl rfl,.inl rfl,.inl rfl,.inl rfl,.inl rfl,trivial⟩
 ·refine⟨.inr (.inl rfl),.inr (.inl rfl),.inr (.inl rfl),.inr (.inl rfl),.inr (.inr (.inl ⟨_,_,rfl,rfl,.inl rfl,.inr (.inr ⟨_,rfl,?_,?_⟩),.inr (.inr ⟨_,rfl,rfl,?_⟩),.inl rfl,.inl rfl,.inr (.inl ⟨_,_,rfl,rfl⟩),trivial⟩)),trivial⟩
  ·show Tr.lst 1 _=Tr.lst 1 ([]++List.map ae x.I5++[[Tr.int .i64 (k:Int)]]);simp[ae]
  all_goals(intro q hq;simp only[AC.ids,d6,j6,or_false]at hq;subst hq;rfl)
 have PO:((localsOf C.p (g:Int)).map ah).length=(localsOf C.p (g:Int)).length:=s_;have em:IntKind.i64.wrap (bK C x+(((localsOf C.p (g:Int)).map ah).length:Int))=bK C x+((localsOf C.p (g:Int)).length:Int):=by rw[PO,c6 _ o_]
 obtain⟨s0,TI⟩:∃s0:Gs,(⟨s.I4,max s.J1 (bK C x+(localsOf C.p (g:Int)).length),s.start⟩:Gs)=s0:=⟨_,rfl⟩;have z1:s.I4=s0.I4:=by rw[<-TI]
 have z2:max s.J1 (bK C x+(localsOf C.p (g:Int)).length)=s0.J1:=by rw[<-TI]
 have z3:s.start=s0.start:=by rw[<-TI]
 obtain⟨Y,hY⟩:∃Y,bN C x k g=Y:=⟨_,rfl⟩;obtain⟨T1,WS⟩:∃T1,cf C (bN C x k g) x.I5 k (argsN C.p g) d s0=T1:=⟨_,rfl⟩;repeat' ((conv=>whnf);first|apply Wx|apply W6|apply oi|apply fi|intro h|exact Y8|refine e_ rfl ?_)
 conv=>whnf
 refine⟨{q:Nat×Gs//q.1<=argsN C.p g/\cf C (bN C x k g) x.I5 k q.1 (d-((argsN C.p g-q.1:Nat):Int)) q.2=T1/\q.2.I4.length<=300-q.1},fun q=>⟨[(0,dE),(1,tI .i64 (g:Int)),(2,tI .i64 (k:Int)),(7,.r (.c (.ptr (7,0,0) 0))),(8,tI .i64 (argsN C.p g:Int)),(10,.r (.c (.ptr (10,0,0) 0))),(11,tI .i64 ((q.1.1:Int)-1))],
  [(
   (0,0,0),some (qK C q.1.2 (d-((argsN C.p g-q.1.1:Nat):Int)) (7,0,1) (7,0,2))),((7,0,1),some (.dar 7 (itR q.1.2.I4) none)),((7,0,2),some (.dar 6 (scH (S++[(x,lv)])) none)),
   ((7,0,0),some (.box [.t (.int .i64 (x.f:Int)),.t (.lst 1 (x.I5.map ae)),.t (.lst 1 (x.I7.map ah)),.t (.int .i64 x.first),.t (.bool x.L2),.opq])),
   ((10,0,0),some (.box [.t (.int .i64 (g:Int)),.t (.lst 1 ((x.I5++[(k:Int)]).map ae)),.t (.lst 1 ((localsOf C.p (g:Int)).map ah)),.t (.int .i64 (bK C x)),.t (.bool false),.nils 1]))],[10,7,0]⟩,fun q=>q.1.1,⟨(argsN C.p g,s0),g_,by rw[<-WS];simp,by dsimp only;rw[<-z1];omega⟩,?_,?_⟩
 ·repeat' ((conv=>whnf);first|apply Wx|apply W6|apply oi|apply fi|intro h|exact Y8|refine e_ rfl ?_)
  all_goals try exact⟨by rw[z1]⟩
  all_goals try exact⟨by rw[z3]⟩
  all_goals try exact⟨congrArg itR z1⟩
  all_goals try exact⟨congrArg (Tr.int _) (by rw[em];exact z2)⟩
  all_goals try exact Q18
 intro⟨⟨m,t⟩,hm,ht,Vy⟩;dsimp only at hm ht Vy⊢
 cases m with
 | succ m=>
  have g1:=nd C hC t (d-((argsN C.p g-(m+1):Nat):Int)) (scH (S++[(x,lv)])) (bN C x k g) m k x.I5 aad o_ o_ aar o_;rw[cf]at ht;rw[show((m+1:Nat):Int)-1=(m:Int) by omega];repeat' ((conv=>whnf);first|apply Wx|apply W6|refine cg g1 ?_|apply oi|apply fi|intro h|exact Y6|refine e_ rfl ?_)
  conv=>whnf
  refine⟨⟨(m,eE C (bN C x k g) t (d-((argsN C.p g-(m+1):Nat):Int)) m k x.I5),g_,by rw[<-ht];dsimp only;congr 1;omega,by dsimp only;simp only[eE,aA,b8,c7,e7];omega⟩,?_,KD⟩
  exact Z5
 | zero=>
  have e0:t=T1:=by rw[<-ht];rfl
  subst e0;have ed:d-((argsN C.p g-0:Nat):Int)=d-argsN C.p g:=by rw[v3]
  rw[ed];obtain⟨T2,WM⟩:∃T2,cR C (bN C x k g) x.I5 k (d-argsN C.p g) ((localsOf C.p (g:Int)).length-argsN C.p g) (argsN C.p g) t=T2:=⟨_,rfl⟩;repeat' ((conv=>whnf);first|apply Wx|apply W6|apply oi|apply fi|intro h|exact Y6|refine e_ rfl ?_)
  conv=>whnf
  refine⟨{q:Nat×Gs//q.1<=(localsOf C.p (g:Int)).length/\cR C (bN C x k g) x.I5 k (d-argsN C.p g) ((localsOf C.p (g:Int)).length-q.1) q.1 q.2=T2/\q.2.I4.length<=400-2*((localsOf C.p (g:Int)).length-q.1)},fun q=>⟨[(0,dE),(1,tI .i64 (g:Int)),(2,tI .i64 (k:Int)),(7,.r (.c (.ptr (7,0,0) 0))),(10,.r (.c (.ptr (10,0,0) 0))),(12,tI .i64 (q.1.1:Int))],
   [(
    (0,0,0),some (qK C q.1.2 (d-argsN C.p g) (7,0,1) (7,0,2))),((7,0,1),some (.dar 7 (itR q.1.2.I4) none)),((7,0,2),some (.dar 6 (scH (S++[(x,lv)])) none)),
    ((7,0,0),some (.box [.t (.int .i64 (x.f:Int)),.t (.lst 1 (x.I5.map ae)),.t (.lst 1 (x.I7.map ah)),.t (.int .i64 x.first),.t (.bool x.L2),.opq])),
    ((10,0,0),some (.box [.t (.int .i64 (g:Int)),.t (.lst 1 ((x.I5++[(k:Int)]).map ae)),.t (.lst 1 ((localsOf C.p (g:Int)).map ah)),.t (.int .i64 (bK C x)),.t (.bool false),.nils 1]))],[10,7,0]⟩,fun q=>(localsOf C.p (g:Int)).length-q.1.1,⟨(argsN C.p g,t),g_,WM,g_⟩,?_,?_⟩
  ·exact Z2
  intro⟨⟨i,u⟩,hi,hu,P8⟩;dsimp only at hi hu P8⊢;by_cases Ys:i<(localsOf C.p (g:Int)).length
  ·obtain⟨c,hc⟩:∃c,(localsOf C.p (g:Int)).length-i=c+1:=⟨(localsOf C.p (g:Int)).length-i-1,o_⟩;rw[hc,cR]at hu;have g1:=lQ C u (d-argsN C.p g) (scH (S++[(x,lv)])) 0 k x.I5 aad o_ o_;have g2:=nd C hC (aA C u (d-argsN C.p g) 0 0 k x.I5) (d-argsN C.p g+1) (scH (S++[(x,lv)])) (bN C x k g) i k x.I5 aah o_ o_ aar o_;repeat' ((conv=>whnf);first|apply Wx|apply W6|refine cg g1 ?_|refine cg g2 ?_|apply oi|apply fi|intro h|exact Y6|refine e_ rfl ?_)
   conv=>whnf
   refine⟨⟨(i+1,eE C (bN C x k g) (aA C u (d-argsN C.p g) 0 0 k x.I5) (d-argsN C.p g+1) i k x.I5),g_,by rw[<-hu];dsimp only;rw[show(localsOf C.p (g:Int)).length-(i+1)=c by omega],by dsimp only;simp only[eE,aA,b8,c7,e7];omega⟩,?_,KD⟩;exact Z5
  ·have PZ:i=(localsOf C.p (g:Int)).length:=o_;subst PZ;rw[y7,cR]at hu;subst hu;have Ux:dB C x k g d s=u:=(by rw[dB,TI,WS,WM]);repeat' ((conv=>whnf);first|(with_reducible apply W1;fail_if_success (with_reducible show Wo _ _ _ _ (Code.seq (Code.region 17 _ _) _) _ _))|(with_reducible first|apply W2|apply W3|apply W4|apply W5|apply W6|apply W7|apply W8|apply W9)|apply aB|apply oi|apply fi|intro h|exact Y6|refine e_ rfl ?_)
   obtain⟨v,hv⟩:∃v,bA C x k (d-argsN C.p g) u=v:=⟨_,rfl⟩;have TR:v.I4.length<=500:=by rw[<-hv,bA];split<;>first|(simp[aA];omega)|omega
   refine mv Unit (fun _=>⟨[(0,dE),(1,tI .i64 (g:Int)),(2,tI .i64 (k:Int)),(7,.r (.c (.ptr (7,0,0) 0))),(10,.r (.c (.ptr (10,0,0) 0)))],
    [(
     (0,0,0),some (qK C v (d-argsN C.p g) (7,0,1) (7,0,2))),((7,0,1),some (.dar 7 (itR v.I4) none)),((7,0,2),some (.dar 6 (scH (S++[(x,lv)])) none)),
     ((10,0,0),some (.box [.t (.int .i64 (g:Int)),.t (.lst 1 ((x.I5++[(k:Int)]).map ae)),.t (.lst 1 ((localsOf C.p (g:Int)).map ah)),.t (.int .i64 (bK C x)),.t (.bool false),.own (10,0,1)])),((10,0,1),some (.arr true 1 []))],[10,7,0]⟩) ?_ ?_
   ·have g3:=cd C u (d-argsN C.p g) (scH (S++[(x,lv)])) 15 0 k x.I5 aad o_;unfold bA at hv
    cases O4:u.start with
    | true=>
     rw[d5 O4]at hv;subst hv;repeat' ((conv=>whnf);first|apply Wx|apply W6|refine cg g3 ?_|apply oi|apply fi|intro h|exact Y8|refine e_ rfl ?_)
     ·conv=>whnf
      refine⟨(),?_⟩;exact Z2
     ·exfalso;simp_all
    | false=>
     rw[c8 (by simp[O4])]at hv;subst hv;repeat' ((conv=>whnf);first|apply Wx|apply W6|refine cg g3 ?_|apply oi|apply fi|intro h|exact Y8|refine e_ rfl ?_)
     ·exfalso;simp_all
     ·conv=>whnf
      refine⟨(),?_⟩;exact Z2
   intro _;have RI:ScOk C (bN C x k g) (co ((S++[(x,lv)])++[(bN C x k g,[])])):=(by rw[ku];exact jR hC hx k ⟨y,hy,PR⟩);obtain⟨ye,ye1,ye2,ye3,ye4,_⟩:=RI.endE hC
   have Vv:jK C.p (bN C x k g).f-(bN C x k g).f<=9:=by rw[ye4];have:bB C.p (g:Int)=(ye:Int):=(by rw[bu];exact br ye1);show ye-g<=9;omega
   have h3:=ur (n:=lev) o_
   have Vq:=hL (bN C x k g) (S++[(x,lv)]) v (d-argsN C.p g) RI (by
    have:=A1 Vv (show 20*cE lev+3<=20*8679837+3 by omega)
    omega) (by simp only[b8,c7,e7];omega) q3 o_
   have PN:(scH (S++[(x,lv)])).length=S.length+1:=s_;obtain⟨r,hr⟩:∃r,aV C (bf C lev) (bN C x k g) (co ((S++[(x,lv)])++[(bN C x k g,[])])) (d-argsN C.p g) v=r:=⟨_,rfl⟩;rw[hr]at Vq;have Wa:(scH ((S++[(x,lv)])++[(bN C x k g,r.2)])).length=S.length+2:=s_;have QQ:IntKind.i64.wrap (((scH ((S++[(x,lv)])++[(bN C x k g,r.2)])).length:Int)-1)=((S.length+1:Nat):Int):=(by rw[Wa,c6 _ o_];omega);have Ss:S.length+1<(scH ((S++[(x,lv)])++[(bN C x k g,r.2)])).length:=o_;have Ui:(scH ((S++[(x,lv)])++[(bN C x k g,r.2)]))[S.length+1]?=some (mm (bN C x k g) r.2):=s_;have YY:=gy r.2;repeat' ((conv=>whnf);first|(with_reducible apply W1;fail_if_success (with_reducible show Wo _ _ _ _ (Code.region 23 _ _) _ _))|(with_reducible first|apply W2|apply W3|apply W4|apply W5|apply W6|apply W7|apply W8|apply W9)|apply aB|refine cg Vq ?_|apply oi|apply fi|intro h|refine⟨S.length+1,QQ,Ss,?_⟩|refine⟨_,Ui,?_⟩|exact Y8|refine e_ rfl ?_)
   all_goals try exact⟨⟨by rw[PN];simp<;>omega,by rw[PN];simp<;>omega⟩⟩
   all_goals try exact⟨YY⟩
   all_goals try exact⟨by simp[bN,ae]⟩
   conv=>whnf
   refine kL ⟨[(0,dE),(13,tI .i64 (d-argsN C.p g)),(14,.r (.c (.t (.lst 1 (r.2.map ae)))))],
    [((0,0,0),some (qK C r.1 (d-argsN C.p g) (127,0,1) (127,0,2))),((127,0,1),some (.dar 7 (itR r.1.I4) none)),((127,0,2),some (.dar 6 ((scH ((S++[(x,lv)])++[(bN C x k g,r.2)])).set (S.length+1) ((mm (bN C x k g) r.2).set 5 (.t (.lst 1 (r.2.map ae))))) none))],_⟩ ?_ ?_ rfl ?_
   ·refine⟨.inl rfl,.inl rfl,.inr (.inl ⟨_,_,rfl,rfl,.inr (.inr ⟨_,rfl,rfl,?_⟩)⟩),trivial⟩;exact V143
   ·exact⟨.inr (.inl rfl),.inr (.inl rfl),.inr (.inr (.inr ⟨_,_,_,_,_,_,_,rfl,Ui,d_,rfl,rfl,rfl⟩)),trivial⟩
   have Za:((scH ((S++[(x,lv)])++[(bN C x k g,r.2)])).set (S.length+1) ((mm (bN C x k g) r.2).set 5 (.t (.lst 1 (r.2.map ae))))).length=S.length+2:=(by rw[s7];exact Wa);have hw4:IntKind.i64.wrap ((((scH ((S++[(x,lv)])++[(bN C x k g,r.2)])).set (S.length+1) ((mm (bN C x k g) r.2).set 5 (.t (.lst 1 (r.2.map ae))))).length:Int)-1)=((S.length+1:Nat):Int):=(by rw[Za,c6 _ o_];omega);have VS:S.length+1<=((scH ((S++[(x,lv)])++[(bN C x k g,r.2)])).set (S.length+1) ((mm (bN C x k g) r.2).set 5 (.t (.lst 1 (r.2.map ae))))).length:=o_
   have OI:((scH ((S++[(x,lv)])++[(bN C x k g,r.2)])).set (S.length+1) ((mm (bN C x k g) r.2).set 5 (.t (.lst 1 (r.2.map ae))))).take (S.length+1)=scH (S++[(x,lv)]):=by rw[G9 (d7 _),<-v9,List.take_left' s_]
   have Pl:(r.2.map ae).length=r.2.length:=s_;have Qn:=AH (lev:=lev) (rep:=bf C lev) (fun line g d s hg hr=>dF hC lev line g d s RI hg hr) hC RI (d-argsN C.p g) v;have SG:=je (lev:=lev) (rep:=bf C lev) (fun line g d s hg hr=>dF hC lev line g d s RI hg hr) hC RI (d-argsN C.p g) v;rw[hr]at Qn SG;have ZB:=SG.le;obtain⟨TQ,Qn⟩:=Qn;have TK:=A1 Vv (show 20*cE lev+3<=20*8679837+3 by omega);repeat' ((conv=>whnf);first|apply Wx|apply W6|apply oi|apply fi|intro h|refine⟨S.length+1,hw4,VS,?_⟩|exact Y8|refine e_ rfl ?_)
   conv=>whnf
   refine⟨{i:Nat//i<=r.2.length},fun q=>⟨[(0,dE),(13,tI .i64 (d-argsN C.p g)),(14,.r (.c (.t (.lst 1 (r.2.map ae))))),(15,tI .i64 (q.1:Int))],
    [((0,0,0),some (qK C r.1 (d-argsN C.p g) (127,0,1) (127,0,2))),((127,0,1),some (.dar 7 (itR (cB r.1.I4 r.1.I4.length (r.2.take q.1))) none)),((127,0,2),some (.dar 6 (scH (S++[(x,lv)])) none))],[127,0]⟩,fun q=>r.2.length-q.1,⟨0,o_⟩,?_,?_⟩
   ·repeat' ((conv=>whnf);first|apply Wx|apply W6|apply oi|apply fi|intro h|exact Y8|refine e_ rfl ?_)
    all_goals first|exact⟨VS⟩|exact⟨OI⟩
   intro⟨i,hi3⟩;dsimp only at hi3⊢;have Pw:=gw (r.1.I4.length:Int) (r.2.take i) r.1.I4;have SJ:(itR (cB r.1.I4 r.1.I4.length (r.2.take i))).length=r.1.I4.length:=(by rw[kh,Pw]);by_cases VB:i<r.2.length
   ·obtain⟨j,hj⟩:=ab VB;obtain⟨j1,j2⟩:=Qn j (b9 hj);obtain⟨jn,rfl⟩:=j8 j1;have Pg:jn<(itR (cB r.1.I4 r.1.I4.length (r.2.take i))).length:=(by rw[SJ];omega);obtain⟨it,OU⟩:=ab (l:=cB r.1.I4 r.1.I4.length (r.2.take i)) (k:=jn) (by rw[Pw];omega);have OS:r.2.take (i+1)=r.2.take i++[(jn:Int)]:=(by rw[z7,hj];rfl);have T0:=oy r.1.I4.length (jn:Int) (r.2.take i) r.1.I4;repeat' ((conv=>whnf);first|apply Wx|apply W6|apply oi|apply fi|intro h|refine⟨i,(ae jn),rfl,aa hj,?_⟩|refine⟨jn,rfl,Pg,?_⟩|refine⟨_,(gd OU),?_⟩|exact Y6|refine e_ rfl ?_)
    conv=>whnf
    refine⟨⟨i+1,o_⟩,?_,KD⟩;repeat' ((conv=>whnf);first|apply Wx|apply W6|apply oi|apply fi|intro h|exact Y9|refine e_ rfl ?_)
    all_goals(refine⟨?_⟩;rw[SJ];dsimp only;rw[OS,T0,kB OU];rfl)
   ·have PZ:i=r.2.length:=o_;subst PZ;have TX:aV C (bf C lev) (bN C x k g) (co (S++[(x,lv)])++[g]) (d-argsN C.p g) v=r:=(congrArg (fun l=>aV C (bf C lev) (bN C x k g) l (d-argsN C.p g) v) (by simp[bN])).trans hr
    have OL:bf C (lev+1) x (co (S++[(x,lv)])) k g d s=⟨cB r.1.I4 r.1.I4.length r.2,r.1.J1,r.1.start⟩:=by show jp C (aV C (bf C lev)) x (co (S++[(x,lv)])) k g d s=_;unfold jp;rw[Ux,hv,TX]
    rw[OL];rw[B3];repeat' ((conv=>whnf);first|apply Wx|apply W6|apply oi|apply fi|intro h|exact Y6|refine e_ rfl ?_)
    all_goals try exact⟨congrArg (fun z:Gs=>Tr.bool z.start) OL.symm⟩
    all_goals try exact⟨congrArg (fun z:Gs=>itR z.I4) OL.symm⟩
    all_goals try exact⟨congrArg (fun z:Gs=>Tr.int .i64 z.J1) OL.symm⟩
    all_goals try exact Q18
theorem V100{p:Prop}(h:p:=by
 rcases Nat.lt_or_eq_of_le Pr with h'|h'
 ·exact h'
 ·subst h';obtain⟨z,hz,Uy⟩:=bG he;rw[hl]at hz;injection hz with hz;subst hz
  exact absurd Uy h):p:=h
theorem V109{p:Prop}(h:p:=by
 obtain⟨l0,q1,q2⟩:=hx.fn;obtain⟨e',q3,_,_,q4⟩:=hC.fn _ _ q1 q2;rw[he]at q3;injection q3 with q3;subst q3
 exact(q4 k ln o_ (Ri h) hl).2.1):p:=h
theorem V23{p:Prop}(h:p:=by
 repeat' ((conv=>whnf);first|apply Wx|apply W6|refine cg gEm ?_|apply oi|apply fi|intro h|refine cl gEn ?_|refine⟨(aQ C.p k),y.tr,rfl,aa hy,?_⟩|refine⟨aQ C.p k,rfl,QG,?_⟩|refine⟨_,X5,?_⟩|exact Y11|refine e_ rfl ?_)
 all_goals try exact Q8
 conv=>whnf
 refine⟨⟨aQ C.p k+1,o_,o_⟩,?_,KD⟩;repeat' ((conv=>whnf);first|apply Wx|apply W6|apply oi|apply fi|intro h|exact Y9|refine e_ rfl ?_)
 all_goals(refine⟨?_⟩;dsimp only;rw[d5 o_,a1])):p:=h
theorem Q31{p:Prop}(h:p:=by exact⟨⟨by rw[Vz];simp<;>omega,by rw[Vz];simp<;>omega⟩⟩):p:=h
theorem Is {C:Cx}(hC:CxOk C){lev:Nat}(hE:NK C lev):Cz C lev:=by
 intro x S s d hx OW PC RK Xz;refine au hΓ ay func198 rfl d_ rfl rfl ?_;rw[ku]at hx;rw[ku];dsimp only at hx⊢;obtain⟨e,he,Zf,Pq,Ta,PO⟩:=hx.endE hC;have PW:=hC.len;have hin:=hC.inl;have PN:∀lv:List Int,(scH (S++[(x,lv)])).length=S.length+1:=fun lv=>s_;have OB:∀lv:List Int,(scH (S++[(x,lv)]))[S.length]?=some (mm x lv):=fun lv=>s_;have N2:∀lv:List Int,S.length<(scH (S++[(x,lv)])).length:=fun lv=>by rw[PN];omega
 have hw:∀lv:List Int,IntKind.i64.wrap (((scH (S++[(x,lv)])).length:Int)-1)=(S.length:Int):=fun lv=>by rw[PN,c6 _ o_];omega
 have gE:=dw C.p (x.f:Int) o_;rw[show bB C.p (x.f:Int)=(e:Int) by rw[bu];exact br he]at gE;have Pw:(C.p.map Oj.tr).length=C.p.length:=s_;have Tb:(((C.p.map Oj.tr).length:Nat):Int)=(C.p.length:Int):=by rw[Pw]
 have Sq:C.p.length<=9223372036854775807:=o_;have SP:C.p.length*8<=140737488355328:=o_;have h3:=ur (n:=lev) o_
 have ON:x.I5.length<=100:=by have:=hx.I5;rw[b8,d9]at this;simp only[c7,e7]at this;omega
 have Sl:0<=x.first/\x.first<=1000:=by have:=hx.first;rw[b8,d9]at this;simp only[c7,e7]at this;omega
 obtain⟨R,hR⟩:∃R,gD C (bf C lev) x (co S++[x.f]) d (e+1-(x.f+1)) (x.f+1) (cq C s)=R:=⟨_,rfl⟩
 have OL:aV C (bf C lev) x (co S++[x.f]) d s=(R.g,R.lv):=by unfold aV;rw[Ta,show e-x.f=e+1-(x.f+1) by omega,hR]
 rw[OL];rw[Ta]at OW;have Zs:LInv C lev x (co S++[x.f]) d e R (x.f+1) (cq C s):=⟨d7 _,o_,by simp[cq],by simp[cq],fun i h1 h2=>o_,⟨by simp[cq],fun j hj=>by simp[cq]at hj⟩,by rw[show e+1-(x.f+1)=e-x.f by omega];exact OW,hR⟩;repeat' ((conv=>whnf);first|apply Wx|apply W6|apply oi|apply fi|intro h|refine⟨S.length,hw [],N2 [],?_⟩|refine⟨_,OB [],?_⟩|refine cl gE ?_|refine⟨C.p.length,Tb,Tb,Sq,SP,?_⟩|exact Y8|refine e_ rfl ?_)
 conv=>whnf
 refine⟨{q:Nat×Ls×List Oi//LInv C lev x (co S++[x.f]) d e R q.1 q.2.1/\q.2.2.length=q.2.1.g.I4.length/\(q.1<=e->dM q.2.2 q.2.2.length (q.1:Int) (bq C.p q.2.1.pos (x.f+1) (q.1-(x.f+1)))=q.2.1.g.I4)/\(q.1=e+1->q.2.2=q.2.1.g.I4)},
  fun q=>⟨[(0,dE),(2,tI .i64 (x.f:Int)),(3,At x.I5),(4,tI .i64 (e:Int)),(5,.r (.c (.own (5,0,0)))),(6,.r (.c (.own (6,0,0)))),(7,tI .i64 (q.1.1:Int))],
   [((0,0,0),some (qK C ⟨q.1.2.2,q.1.2.1.g.J1,q.1.2.1.g.start⟩ d (5,0,1) (5,0,2))),((5,0,1),some (.dar 7 (itR q.1.2.2) none)),((5,0,2),some (.dar 6 (scH (S++[(x,q.1.2.1.lv)])) none)),((5,0,0),some (.arr false 1 (q.1.2.1.I9.map ae))),((6,0,0),some (.arr false 2 ((bq C.p q.1.2.1.pos (x.f+1) (q.1.1-(x.f+1))).map ow)))],[6,5,0]⟩,
  fun q=>e+1-q.1.1,⟨(x.f+1,cq C s,s.I4),Zs,rfl,fun _=>by rw[y7];rfl,fun _=>rfl⟩,?_,?_⟩
 ·repeat' ((conv=>whnf);first|apply Wx|apply W6|apply oi|apply fi|intro h|exact Y9|refine e_ rfl ?_)
  ·exact⟨by simp[cq,ae]⟩
  ·exact⟨by dsimp only;rw[y7];rfl⟩
 intro⟨⟨k,L,u⟩,hI,P8,WR,Qe⟩;dsimp only at hI P8 WR Qe⊢;by_cases Pr:k<=e
 ·obtain⟨ln,hl⟩:=ab (l:=C.p) (k:=k) o_;have h0:=lp hC hx he hI.lo Pr hl;obtain⟨O6,Rl,_,Py,QB⟩:=hC.line _ _ hl;obtain⟨RX,Pm⟩:=mP hC hl;have TP:=hI.lo;have Y0:=hI.room;have ZL:=hI.I9;have Yw:=hI.pos;have TQ:=hI.lv.1
  have U5:L.g.I4.length+20*cE lev+3<=68719476736:=by obtain⟨n,hn⟩:∃n,e+1-k=n+1:=⟨e-k,o_⟩;rw[hn,o8]at Y0;omega
  have hEl:=qY C.p L.pos (x.f+1) (k-(x.f+1))
  have Wh:∀z∈bq C.p L.pos (x.f+1) (k-(x.f+1)),0<=z.2/\z.2<(L.g.I4.length:Int):=fun z hz=>by
   obtain⟨i,i1,i2,i3,rfl⟩:=nl hz;exact hI.at_ i o_ o_ i3
  have gP:=tx C ⟨u,L.g.J1,L.g.start⟩ d (scH (S++[(x,L.lv)])) (bq C.p L.pos (x.f+1) (k-(x.f+1))) k (by unfold bM;dsimp only;omega) o_ (by dsimp only;rw[P8];exact Wh);rw[WR Pr]at gP;obtain⟨A,hA⟩:∃A,dq C (bf C lev) x (co S++[x.f]) d k ln L=A:=⟨_,rfl⟩;have hN:=LInv.next hC hx he hI Pr hl;rw[hA]at hN;obtain⟨hP1,hP2⟩:=FU hC hx he TP Pr hl A;obtain⟨b1,b2,b3,b4,b5,b6⟩:=rt (C:=C) (x:=x) k ln A;have hQ:LInv C lev x (co S++[x.f]) d e R (k+1) (bc C x k ln A)/\A.g.I4.length=(bc C x k ln A).g.I4.length/\(k+1<=e->dM A.g.I4 A.g.I4.length ((k+1:Nat):Int) (bq C.p (bc C x k ln A).pos (x.f+1) (k+1-(x.f+1)))=(bc C x k ln A).g.I4)/\(k+1=e+1->A.g.I4=(bc C x k ln A).g.I4):=⟨hN,b4.symm,fun h=>by rw[b2];exact hP1 h,fun h=>hP2 o_⟩;have Xw:k<(L.I9.map ae).length:=by rw[d9,ZL];omega
  have PY:bM L.g:=by unfold bM;omega
  have PE:=kh L.g.I4
  have Ri:ln.I6≠7->k<e:=fun h=>by
   exact V100
  have Pa:ln.I6≠7->py C ln.J5:=fun h=>by
   exact V109
  obtain⟨g1,TW⟩:∃g1,dx C (bf C lev) x (co S++[x.f]) k (exL ln.J5) d ⟨L.g.I4,L.g.J1,true⟩=g1:=⟨_,rfl⟩
  have hX:bF ln.J5=true->ln.I6≠7->bd prog 244 [dE,tI .i64 (k:Int),tI .i64 (0:Int)] (iU (0,0,1) (0,0,2) C ⟨L.g.I4,L.g.J1,true⟩ d (scH (S++[(x,L.lv)]))) (tI .i64 ((0+(exL ln.J5).toks.length:Nat):Int)) (iU (1,0,1) (1,0,2) C g1 (d+1) (scH (S++[(x,L.lv)]))):=fun PA Wq=>by
   obtain⟨eo,et⟩:=rl PA;have UD:(exL ln.J5).toks.length<=20:=(by rw[<-et];exact Py);have hmu:=l8 (cE lev) UD;have:=hE (exL ln.J5) x S L.lv k 0 ln ⟨L.g.I4,L.g.J1,true⟩ d eo (by rw[ku];exact hx) hl ⟨[],by rw[v6,i9];exact et⟩ (Pa Wq) ⟨g_,PC,RK,o_⟩;rw[ku]at this;dsimp only at this;rw[TW]at this;exact this
  have hG:bF ln.J5=true->g1.I4.length<=L.g.I4.length+20*cE lev:=fun PA=>by
   have:=(ni (x:=x) (ins:=co S++[x.f]) (rep:=bf C lev) (line:=k) (lev:=lev) (fun g d s hg hr=>dF hC lev k g d s hx hg hr) hC hl PA d ⟨L.g.I4,L.g.J1,true⟩).le;rw[TW]at this;exact this
  have XN:(L.I9.map ae)[k]?=some (ae (atL L.I9 k)):=by rw[l6];have:k<L.I9.length:=o_;rw[f9 this,atL,f9 this];rfl
  have XL:∀v:Int,(L.I9.map ae).set k [.int .i64 v]=(L.I9.set k v).map ae:=fun v=>by simp[E4,ae]
  unfold dq at hA;rw[TW]at hA;dsimp only at hA;have SI:ln.I6=4\/ln.I6=7\/ln.I6=1\/ln.I6=2\/ln.I6=6\/(ln.I6=3\/ln.I6=5):=o_;rcases SI with h4|h7|h1|h2|h6|RU
  ·
   rw[d5 h4]at hA;have a1:A.g.I4=bI (aA C L.g d 10 0 k x.I5).I4 (atL L.pos (aQ C.p k)) (aA C L.g d 10 0 k x.I5).I4.length:=(by rw[<-hA]);have a2:A.g.J1=L.g.J1:=(by rw[<-hA];rfl);have a3:A.g.start=false:=(by rw[<-hA];rfl);have a4:A.I9=L.I9:=(by rw[<-hA]);have a5:A.pos=L.pos.set k L.g.I4.length:=(by rw[<-hA]);have a6:A.lv=L.lv:=(by rw[<-hA]);obtain⟨o1,o2,o3,o4⟩:=hx.own4 hC he o_ Pr hl h4;obtain⟨y,m,hy,y3,hm,_⟩:=bn o1;have R8:=bE hl;have WO:mj C.p k=bB C.p (aQ C.p k:Int)+1:=(by unfold mj;rw[d5 o_]);have OK:=pq C.p (aQ C.p k);have ZJ:bq C.p L.pos (x.f+1) (k-(x.f+1))++[(mj C.p k,(L.g.I4.length:Int))]=bq C.p (L.pos.set k L.g.I4.length) (x.f+1) (k+1-(x.f+1)):=wO TP aaN (by rw[Yw];omega) _;have gEm:=cd C L.g d (scH (S++[(x,L.lv)])) 10 0 k x.I5 PY ON
   have gP2:=tx C (aA C L.g d 10 0 k x.I5) d (scH (S++[(x,L.lv)])) (bq C.p (L.pos.set k L.g.I4.length) (x.f+1) (k+1-(x.f+1))) (-(k:Int)) aah (by have:=qY C.p (L.pos.set k L.g.I4.length) (x.f+1) (k+1-(x.f+1));omega) (fun z hz=>by
    rw[<-ZJ,f0]at hz;simp only[aA,b8,c7,e7];rcases hz with hz|hz
    ·have:=Wh z hz;omega
    ·simp only[d6,j6,or_false]at hz;subst hz;dsimp only
     omega)
   rw[FL hC hx he TP Pr hl h4,fN o_]at gP2;have hng:IntKind.i64.wrap (0-(k:Int))= -(k:Int):=(by rw[c6 _ o_];omega);rw[<-hng]at gP2;repeat' ((conv=>whnf);first|apply Wx|apply W6|refine cg gP ?_|apply oi|apply fi|intro h|refine⟨k,ln.tr,rfl,aa hl,?_⟩|exact Y11|refine e_ rfl ?_)
   conv=>whnf
   refine⟨{i:Nat//x.f<=i/\i<=k},fun q=>⟨[(0,dE),(2,tI .i64 (x.f:Int)),(3,At x.I5),(4,tI .i64 (e:Int)),(5,.r (.c (.own (5,0,0)))),(6,.r (.c (.own (6,0,0)))),(7,tI .i64 (k:Int)),(9,tI .i64 (q.1:Int))],
    [((0,0,0),some (qK C L.g d (5,0,1) (5,0,2))),((5,0,1),some (.dar 7 (itR L.g.I4) none)),((5,0,2),some (.dar 6 (scH (S++[(x,L.lv)])) none)),((5,0,0),some (.arr false 1 (L.I9.map ae))),((6,0,0),some (.arr false 2 ((bq C.p L.pos (x.f+1) (k-(x.f+1))++(if aQ C.p k<q.1 then [(mj C.p k,(L.g.I4.length:Int))]else [])).map ow)))],[6,5,0]⟩,
    fun q=>k-q.1,⟨x.f,o_,o_⟩,?_,?_⟩
   ·repeat' ((conv=>whnf);first|apply Wx|apply W6|apply oi|apply fi|intro h|exact Y8|refine e_ rfl ?_)
    all_goals exact⟨by rw[c8 g_];simp⟩
   intro⟨i,VL,Vl⟩;dsimp only at VL Vl⊢;by_cases Ph:i<k
   ·have gEl:=lN C.p (i:Int) o_;by_cases P0:i=aQ C.p k
    ·subst P0;rw[show bv C.p (aQ C.p k:Int)=(k:Int) by rw[gA];exact br o1]at gEl;have gEn:=dw C.p (aQ C.p k:Int) o_;rw[c8 o_,i9];have Vz:((bq C.p L.pos (x.f+1) (k-(x.f+1))).map ow).length=(bq C.p L.pos (x.f+1) (k-(x.f+1))).length:=s_;have PE:=kh L.g.I4;repeat' ((conv=>whnf);first|apply Wx|apply W6|apply oi|apply fi|intro h|refine cl gEl ?_|refine cl gEn ?_|exact Y6|refine e_ rfl ?_)
     all_goals try exact Q8
     all_goals try exact Q31
     conv=>whnf
     refine⟨⟨aQ C.p k+1,o_,o_⟩,?_,KD⟩;repeat' ((conv=>whnf);first|apply Wx|apply W6|apply oi|apply fi|intro h|exact Y9|refine e_ rfl ?_)
     all_goals(refine⟨?_⟩;dsimp only;rw[d5 o_,WO,PE,c6 _ o_];simp)
    ·have Ow:bv C.p (i:Int)≠(k:Int):=fun hh=>by
      rw[gA]at hh
      cases hz:elseAt C.p i with
      | none=>rw[hz]at hh;simp only[cX]at hh;omega
      | some j=>rw[hz]at hh;simp only[cX]at hh;have:j=k:=o_;subst this;exact P0 (mI hz o1)
     generalize bv C.p (i:Int)=el at *
     repeat' ((conv=>whnf);first|apply Wx|apply W6|apply oi|apply fi|intro h|refine cl gEl ?_|exact Y6|refine e_ rfl ?_)
     ·exact absurd (B6 h) Ow
     ·conv=>whnf
      refine⟨⟨i+1,o_,o_⟩,?_,KD⟩;repeat' ((conv=>whnf);first|apply Wx|apply W6|apply oi|apply fi|intro h|exact Y9|refine e_ rfl ?_)
      all_goals(refine⟨?_⟩;dsimp only;congr 2)
      all_goals(by_cases hh:aQ C.p k<i)
      all_goals first|rw[d5 hh,d5 o_]|rw[c8 hh,c8 o_]
   ·have PZ:i=k:=o_;subst PZ;rw[d5 o3,ZJ];repeat' ((conv=>whnf);first|apply Wx|apply W6|refine cg gEm ?_|refine cg gP2 ?_|apply oi|apply fi|intro h|exact Y6|refine e_ rfl ?_)
    conv=>whnf
    refine⟨⟨(i+1,bc C x i ln A,A.g.I4),hQ⟩,?_,KD⟩;repeat' ((conv=>whnf);first|apply Wx|apply W6|apply oi|apply fi|intro h|exact Y9|refine e_ rfl ?_)
    all_goals(refine⟨?_⟩;dsimp only;simp only[b1,b2,b3,b5,b6,a1,a2,a3,a4,a5,a6];try rfl)
  ·
   rw[c8 o_,d5 h7]at hA;obtain⟨o1,o2⟩:=hx.own7 hC he o_ Pr hl h7;have PP:bq C.p L.pos (x.f+1) (k+1-(x.f+1))=bq C.p L.pos (x.f+1) (k-(x.f+1)):=nA TP (by unfold jumps;rw[bE hl,h7];decide);rcases o2 with⟨o2,o3⟩|⟨o2,o3,o4,y,hy,o5⟩
   ·subst o2;rw[d5 o3]at hA;have gN:=lQ C L.g d (scH (S++[(x,L.lv)])) 0 k x.I5 PY ON o_;have gL:=sS C hC (aA C L.g d 0 0 k x.I5) (d+1) S x L.lv k true aah ON o_ o_ o_ L.I9 L.pos;rw[show aU C x k true (d+1) ⟨aA C L.g d 0 0 k x.I5,L.I9,L.pos,L.lv⟩=A from hA,E8]at gL;have a4:A.I9=L.I9:=(by rw[<-hA];unfold aU;(repeat' split)<;>rfl);have a5:A.pos=L.pos:=(by rw[<-hA];unfold aU;(repeat' split)<;>rfl);repeat' ((conv=>whnf);first|apply Wx|apply W6|refine cg gP ?_|refine cg gN ?_|refine cg gL ?_|apply oi|apply fi|intro h|refine⟨k,ln.tr,rfl,aa hl,?_⟩|exact Y11|refine e_ rfl ?_)
    all_goals try exact Q8
    conv=>whnf
    refine⟨⟨(k+1,bc C x k ln A,A.g.I4),hQ⟩,?_,KD⟩;repeat' ((conv=>whnf);first|apply Wx|apply W6|apply oi|apply fi|intro h|exact Y9|refine e_ rfl ?_)
    all_goals(refine⟨?_⟩;dsimp only;simp only[b1,b2,b3,b5,b6,a4,a5,PP];try rfl)
   ·rw[c8 o_]at hA;have UN:=bE hy;have gEm:=cd C L.g d (scH (S++[(x,L.lv)])) 10 (atL L.I9 (aQ C.p k)) k x.I5 PY ON;have a4:A.I9=L.I9:=(by rw[<-hA];split<;>rfl);have a5:A.pos=L.pos:=(by rw[<-hA];split<;>rfl);have a6:A.lv=L.lv:=(by rw[<-hA];split<;>rfl);have a1:A.g=if cK C.p (aQ C.p k)=5 then aA C L.g d 10 (atL L.I9 (aQ C.p k)) k x.I5 else L.g:=by rw[<-hA];split<;>rfl
    have Qb:bB C.p (aQ C.p k:Int)=(k:Int):=by rw[bu];exact br o1
    have X5:(L.I9.map ae)[aQ C.p k]?=some (ae (atL L.I9 (aQ C.p k))):=by rw[l6];have:aQ C.p k<L.I9.length:=o_;rw[f9 this,atL,f9 this];rfl
    have QG:aQ C.p k<(L.I9.map ae).length:=(by rw[d9];omega);repeat' ((conv=>whnf);first|apply Wx|apply W6|refine cg gP ?_|apply oi|apply fi|intro h|refine⟨k,ln.tr,rfl,aa hl,?_⟩|exact Y11|refine e_ rfl ?_)
    conv=>whnf
    refine⟨{i:Nat//x.f+1<=i/\i<=k},fun q=>⟨[(0,dE),(2,tI .i64 (x.f:Int)),(3,At x.I5),(4,tI .i64 (e:Int)),(5,.r (.c (.own (5,0,0)))),(6,.r (.c (.own (6,0,0)))),(7,tI .i64 (k:Int)),(11,tI .i64 (q.1:Int))],
     [((0,0,0),some (qK C (if aQ C.p k<q.1 then A.g else L.g) d (5,0,1) (5,0,2))),((5,0,1),some (.dar 7 (itR (if aQ C.p k<q.1 then A.g else L.g).I4) none)),((5,0,2),some (.dar 6 (scH (S++[(x,L.lv)])) none)),((5,0,0),some (.arr false 1 (L.I9.map ae))),((6,0,0),some (.arr false 2 ((bq C.p L.pos (x.f+1) (k-(x.f+1))).map ow)))],[6,5,0]⟩,
     fun q=>k-q.1,⟨x.f+1,o_,o_⟩,?_,?_⟩
    ·repeat' ((conv=>whnf);first|apply Wx|apply W6|apply oi|apply fi|intro h|exact Y8|refine e_ rfl ?_)
     all_goals try(refine⟨?_⟩;dsimp only;rw[c8 o_];done)
     all_goals try exact Q18
    intro⟨i,VL,Vl⟩;dsimp only at VL Vl⊢;by_cases Ph:i<k
    ·have gEn:=dw C.p (i:Int) o_;obtain⟨z,hz⟩:=ab (l:=C.p) (k:=i) o_;by_cases P0:i=aQ C.p k
     ·subst P0;rw[Qb]at gEn;rw[hy]at hz;injection hz with hz;subst hz;rw[c8 o_];by_cases h5:y.I6=5
      ·rw[d5 o_]at a1;exact V23
      ·rw[c8 o_]at a1;exact V23
     ·have Ow:bB C.p (i:Int)≠(k:Int):=fun hh=>by
       have h':=rA hh o_;rw[e8]at h';exact P0 (Ay h' o1)
      generalize bB C.p (i:Int)=en at *
      repeat' ((conv=>whnf);first|apply Wx|apply W6|apply oi|apply fi|intro h|refine cl gEn ?_|refine⟨i,z.tr,rfl,aa hz,?_⟩|exact Y6|refine e_ rfl ?_)
      all_goals try(exfalso;exact Ow (B6 aag))
      conv=>whnf
      refine⟨⟨i+1,o_,o_⟩,?_,KD⟩
      have TF:(if aQ C.p k<i+1 then A.g else L.g)=if aQ C.p k<i then A.g else L.g:=by
       by_cases hh:aQ C.p k<i
       ·rw[d5 hh,d5 o_]
       ·rw[c8 hh,c8 o_]
      dsimp only;rw[TF];exact Z5
    ·have PZ:i=k:=o_;subst PZ;rw[d5 o4];repeat' ((conv=>whnf);first|apply Wx|apply W6|apply oi|apply fi|intro h|exact Y6|refine e_ rfl ?_)
     conv=>whnf
     refine⟨⟨(i+1,bc C x i ln A,A.g.I4),hQ⟩,?_,KD⟩;repeat' ((conv=>whnf);first|apply Wx|apply W6|apply oi|apply fi|intro h|exact Y9|refine e_ rfl ?_)
     all_goals(refine⟨?_⟩;dsimp only;simp only[b1,b2,b3,b5,b6,a4,a5,a6,PP];try rfl)
  ·
   rw[c8 o_,c8 o_,d5 h1]at hA;have PA:=QB (.inl h1);have gX:=hX PA o_;have US:=hG PA;have Rp:=mr x.I7 ln.J0;have gI:=gf x.I7 ln.J0 o_;have gS:=nd C hC g1 (d+1) (scH (S++[(x,L.lv)])) x (dJ x.I7 ln.J0) k x.I5 aad ON o_ Sl o_;rw[E8]at gS;have a1:A.g=eE C x g1 (d+1) (dJ x.I7 ln.J0) k x.I5:=(by rw[<-hA]);have a4:A.I9=L.I9.set k L.g.I4.length:=(by rw[<-hA]);have a5:A.pos=L.pos:=(by rw[<-hA]);have a6:A.lv=L.lv:=(by rw[<-hA]);have PP:bq C.p L.pos (x.f+1) (k+1-(x.f+1))=bq C.p L.pos (x.f+1) (k-(x.f+1)):=nA TP (by unfold jumps;rw[bE hl,h1];decide)
   generalize dJ x.I7 ln.J0=ix at *
   repeat' ((conv=>whnf);first|apply Wx|apply W6|refine cg gP ?_|refine cg gX ?_|refine cg gS ?_|apply oi|apply fi|intro h|refine⟨k,ln.tr,rfl,aa hl,?_⟩|refine⟨k,rfl,Xw,?_⟩|refine⟨_,XN,?_⟩|refine⟨S.length,hw L.lv,N2 L.lv,?_⟩|refine⟨_,OB L.lv,?_⟩|refine cl gI ?_|exact Y11|refine e_ rfl ?_)
   conv=>whnf
   refine⟨⟨(k+1,bc C x k ln A,A.g.I4),hQ⟩,?_,KD⟩;repeat' ((conv=>whnf);first|apply Wx|apply W6|apply oi|apply fi|intro h|exact Y9|refine e_ rfl ?_)
   all_goals(refine⟨?_⟩;dsimp only;simp only[b1,b2,b3,b5,b6,a1,a4,a5,a6,PP,PE,<-XL];try rfl)
  ·
   rw[c8 o_,c8 o_,c8 o_,d5 h2]at hA;have PA:=QB (.inr (.inl h2));have gX:=hX PA o_;have US:=hG PA;have gS:=cd C g1 (d+1) (scH (S++[(x,L.lv)])) 17 0 k x.I5 aad ON;have a1:A.g=aA C g1 (d+1) 17 0 k x.I5:=(by rw[<-hA]);have a4:A.I9=L.I9.set k L.g.I4.length:=(by rw[<-hA]);have a5:A.pos=L.pos:=(by rw[<-hA]);have a6:A.lv=L.lv:=(by rw[<-hA]);have PP:bq C.p L.pos (x.f+1) (k+1-(x.f+1))=bq C.p L.pos (x.f+1) (k-(x.f+1)):=nA TP (by unfold jumps;rw[bE hl,h2];decide);repeat' ((conv=>whnf);first|apply Wx|apply W6|refine cg gP ?_|refine cg gX ?_|refine cg gS ?_|apply oi|apply fi|intro h|refine⟨k,ln.tr,rfl,aa hl,?_⟩|refine⟨k,rfl,Xw,?_⟩|refine⟨_,XN,?_⟩|exact Y11|refine e_ rfl ?_)
   conv=>whnf
   refine⟨⟨(k+1,bc C x k ln A,A.g.I4),hQ⟩,?_,KD⟩;repeat' ((conv=>whnf);first|apply Wx|apply W6|apply oi|apply fi|intro h|exact Y9|refine e_ rfl ?_)
   all_goals(refine⟨?_⟩;dsimp only;simp only[b1,b2,b3,b5,b6,a1,a4,a5,a6,PP,PE,<-XL];try rfl)
  ·
   rw[c8 o_,c8 o_,c8 o_,c8 o_,d5 h6]at hA;have PA:=QB (.inr (.inr (.inr (.inr h6))));have gX:=hX PA o_;have US:=hG PA;have gS:=sS C hC g1 (d+1) S x L.lv k false aad ON o_ o_ o_ (L.I9.set k L.g.I4.length) L.pos;rw[hA,E8]at gS;have a4:A.I9=L.I9.set k L.g.I4.length:=(by rw[<-hA];unfold aU;(repeat' split)<;>rfl);have a5:A.pos=L.pos:=(by rw[<-hA];unfold aU;(repeat' split)<;>rfl);have PP:bq C.p L.pos (x.f+1) (k+1-(x.f+1))=bq C.p L.pos (x.f+1) (k-(x.f+1)):=nA TP (by unfold jumps;rw[bE hl,h6];decide);repeat' ((conv=>whnf);first|apply Wx|apply W6|refine cg gP ?_|refine cg gX ?_|refine cg gS ?_|apply oi|apply fi|intro h|refine⟨k,ln.tr,rfl,aa hl,?_⟩|refine⟨k,rfl,Xw,?_⟩|refine⟨_,XN,?_⟩|exact Y11|refine e_ rfl ?_)
   conv=>whnf
   refine⟨⟨(k+1,bc C x k ln A,A.g.I4),hQ⟩,?_,KD⟩;repeat' ((conv=>whnf);first|apply Wx|apply W6|apply oi|apply fi|intro h|exact Y9|refine e_ rfl ?_)
   all_goals(refine⟨?_⟩;dsimp only;simp only[b1,b2,b3,b5,b6,a4,a5,PP,PE,<-XL];try rfl)
  ·
   rw[c8 o_,c8 o_,c8 o_,c8 o_,c8 o_]at hA;have PA:=QB o_;have gX:=hX PA o_;have US:=hG PA;have gS:=cd C g1 (d+1) (scH (S++[(x,L.lv)])) 11 0 k x.I5 aad ON;have a1:A.g=aA C g1 (d+1) 11 0 k x.I5:=(by rw[<-hA]);have a4:A.I9=L.I9.set k L.g.I4.length:=(by rw[<-hA]);have a5:A.pos=L.pos.set k g1.I4.length:=(by rw[<-hA]);have a6:A.lv=L.lv:=(by rw[<-hA]);have R8:=bE hl;have PP:=wO (pos:=L.pos) (p:=C.p) (f:=x.f) (k:=k) TP aaN (by rw[Yw];omega) (g1.I4.length:Int);have gEn:=dw C.p (k:Int) o_;have gEl:=lN C.p (k:Int) o_;have OK:=pq C.p k
   have VN:-1<=bv C.p (k:Int)/\bv C.p (k:Int)<=C.p.length:=by
    rw[gA]
    cases hz:elseAt C.p k with
    | none=>simp only[cX];omega
    | some j=>obtain⟨_,_,_,_,_,_,_,w,hw,_⟩:=bn hz;have:=aw hw;simp only[cX];omega
   have WO:mj C.p k=if ln.I6=3/\0<=bv C.p (k:Int)then-bv C.p (k:Int)else bB C.p (k:Int)+1:=by unfold mj;rw[c8 o_,R8]
   have Vz:((bq C.p L.pos (x.f+1) (k-(x.f+1))).map ow).length=(bq C.p L.pos (x.f+1) (k-(x.f+1))).length:=s_;have WB:=kh g1.I4
   generalize mj C.p k=to at *
   generalize bB C.p (k:Int)=en at *
   generalize bv C.p (k:Int)=el at *
   have PJ:IntKind.i64.wrap (en+1)=en+1:=(by rw[c6 _ o_]);have QQ:IntKind.i64.wrap (0-el)= - el:=(by rw[c6 _ o_];omega);repeat' ((conv=>whnf);first|apply Wx|apply W6|refine cg gP ?_|refine cg gX ?_|refine cg gS ?_|apply oi|apply fi|intro h|refine⟨k,ln.tr,rfl,aa hl,?_⟩|refine⟨k,rfl,Xw,?_⟩|refine⟨_,XN,?_⟩|refine cl gEn ?_|refine cl gEl ?_|exact Y11|refine e_ rfl ?_)
   all_goals try exact Q31
   all_goals(conv=>whnf)
   all_goals(refine⟨⟨(k+1,bc C x k ln A,A.g.I4),hQ⟩,?_,KD⟩)
   repeat' ((conv=>whnf);first|apply Wx|apply W6|apply oi|apply fi|intro h|exact Y9|refine e_ rfl ?_)
   all_goals(refine⟨?_⟩;dsimp only;simp only[b1,b2,b3,b5,b6,a1,a4,a5,a6,<-PP,PE,WB,<-XL,PJ,QQ];try rfl)
   all_goals first
    |(rw[WO,d5 ⟨B6 aag,m6 aag⟩];simp)
    |(rw[WO,c8 (fun hh=>absurd hh.2 (n6 aag))];simp)
    |(rw[WO,c8 (fun hh=>by
                     have h9:(ln.I6==3)=false:=by assumption
                     rw[hh.1]at h9;cases h9)];simp)
 ·have Pk:k=e+1:=by have:=hI.hi;omega
  subst Pk;have hf:=hI.fin;rw[y7,gD]at hf;subst hf;rw[Qe rfl];exact Z6
structure Ob where
 b:List UInt8
 i:Nat
 h:Int
def Ob.ok (c:Ob):Prop:=c.i<=c.b.length/\c.b.length<=1048576
abbrev kO (c:Ob):List (Sim.Id×AO):=[((0,0,0),.box [.t (.lst 1 (c.b.map aZ)),.t (.int .i64 c.i),.t (.int .i64 c.h)])]
abbrev lb:AV:= .r (.c (.ptr (0,0,0) 0))
theorem NI (z:Int):∃x:Nat,x<256/\IntKind.i64.wrap ((BitVec.ofInt IntKind.i64.bits z &&& BitVec.ofInt IntKind.i64.bits 255).toNat:Int)=(x:Int):=by
 have e:(BitVec.ofInt 64 255).toNat=2^8-1:=d_
 have h:(BitVec.ofInt IntKind.i64.bits z &&& BitVec.ofInt IntKind.i64.bits 255).toNat<256:=by show(BitVec.ofInt 64 z &&& BitVec.ofInt 64 255).toNat<256;rw[I1,e,C8];omega
 generalize(BitVec.ofInt IntKind.i64.bits z &&& BitVec.ofInt IntKind.i64.bits 255).toNat=n at *
 exact⟨n,h,c6 _ o_⟩
def Ei (h:Int):Int:=IntKind.i64.wrap (IntKind.i64.wrap (h*6364136223846793005)+1442695040888963407)
theorem ir (c:Ob)(hc:c.ok):∃(x:Nat) (c':Ob),x<256/\c'.b=c.b/\c'.ok/\bd prog 194 [lb] (kO c) (tI .i64 x) (kO c'):=by
 obtain⟨hi,hl⟩:=hc;have RH:(c.b.map aZ).length=c.b.length:=s_;obtain⟨x0,QR,Vc⟩:=NI (IntKind.i64.wrap ((BitVec.ofInt IntKind.i64.bits ((Ei c.h).fdiv (2^min (Int.toNat 33) IntKind.i64.bits)) ^^^ BitVec.ofInt IntKind.i64.bits ((Ei c.h).fdiv (2^min (Int.toNat 45) IntKind.i64.bits))).toNat:Int));unfold Ei at Vc;by_cases N2:c.i<c.b.length
 ·obtain⟨u,hu⟩:=ab N2;obtain⟨x,hx,he⟩:=NI (IntKind.i64.wrap ((x0:Int)+IntKind.i64.wrap (u.toNat:Int)));rw[<-Vc]at he;refine⟨x,⟨c.b,c.i+1,Ei c.h⟩,hx,rfl,⟨g_,hl⟩,?_⟩;refine au hΓ ay func194 rfl d_ rfl rfl ?_;repeat' ((conv=>whnf);first|apply Wx|apply W6|apply oi|apply fi|intro h|refine⟨c.i,(aZ u),rfl,aa hu,?_⟩|exact Y6|refine e_ rfl ?_)
  all_goals try exact⟨congrArg (Tr.int _) he⟩
  all_goals try exact⟨K6⟩
  all_goals exact⟨rfl⟩
 ·refine⟨x0,⟨c.b,c.i,Ei c.h⟩,QR,rfl,⟨hi,hl⟩,?_⟩;refine au hΓ ay func194 rfl d_ rfl rfl ?_;repeat' ((conv=>whnf);first|apply Wx|apply W6|apply oi|apply fi|intro h|exact Y6|refine e_ rfl ?_)
  all_goals try exact⟨congrArg (Tr.int _) Vc⟩
  all_goals exact⟨rfl⟩
theorem yZ {x:Nat}{n:Int}(h:0<n):∃y:Nat,(y:Int)<n/\(x:Int).tmod n=(y:Int):=by have h1:=Int.tmod_nonneg n (Int.natCast_nonneg x);have h2:=Int.tmod_lt_of_pos (x:Int) h;obtain⟨y,hy⟩:=j8 h1;exact⟨y,o_,hy⟩
theorem bU (c:Ob)(n:Int)(hc:c.ok):∃(x:Nat) (c':Ob),(0<n->(x:Int)<n)/\(n<=0->x=0)/\c'.b=c.b/\c'.ok/\bd prog 130 [lb,tI .i64 n] (kO c) (tI .i64 x) (kO c'):=by
 by_cases h0:n<=0
 ·refine⟨0,c,o_,fun _=>rfl,rfl,hc,?_⟩;refine au hΓ ay func130 rfl d_ rfl rfl ?_;exact Z6
 ·obtain⟨x1,c1,k1,b1,o1,g1⟩:=ir c hc;by_cases h2:n<=256
  ·obtain⟨y,hy,hm⟩:=yZ (x:=x1) (n:=n) o_;refine⟨y,c1,fun _=>hy,o_,b1,o1,?_⟩;refine au hΓ ay func130 rfl d_ rfl rfl ?_;repeat' ((conv=>whnf);first|apply Wx|apply W6|refine cg g1 ?_|apply oi|apply fi|intro h|exact Y6|refine e_ rfl ?_)
   all_goals try exact⟨o_⟩
   all_goals exact⟨congrArg (Tr.int _) hm⟩
  ·obtain⟨x2,c2,k2,b2,o2,g2⟩:=ir c1 o1;obtain⟨x3,c3,k3,b3,o3,g3⟩:=ir c2 o2;obtain⟨x4,c4,k4,b4,o4,g4⟩:=ir c3 o3;obtain⟨y,hy,hm⟩:=yZ (x:=x1*16777216+x2*65536+x3*256+x4) (n:=n) o_;refine⟨y,c4,fun _=>hy,o_,((b4.trans b3).trans b2).trans b1,o4,?_⟩;refine au hΓ ay func130 rfl d_ rfl rfl ?_;repeat' ((conv=>whnf);first|apply Wx|apply W6|apply oi|apply fi|intro h|exact Y6|refine e_ rfl ?_)
   refine cg (g1) ?_;repeat' ((conv=>whnf);first|apply Wx|apply W6|apply oi|apply fi|intro h|exact Y8|refine e_ rfl ?_)
   refine cg (g2) ?_;repeat' ((conv=>whnf);first|apply Wx|apply W6|apply oi|apply fi|intro h|exact Y8|refine e_ rfl ?_)
   refine cg (g3) ?_;repeat' ((conv=>whnf);first|apply Wx|apply W6|apply oi|apply fi|intro h|exact Y8|refine e_ rfl ?_)
   refine cg (g4) ?_;repeat' ((conv=>whnf);first|apply Wx|apply W6|apply oi|apply fi|intro h|exact Y8|refine e_ rfl ?_)
   all_goals try exact⟨o_⟩
   all_goals(
    have hw:IntKind.i64.wrap (IntKind.i64.wrap (IntKind.i64.wrap (IntKind.i64.wrap ((x1:Int)*16777216)+IntKind.i64.wrap ((x2:Int)*65536))+IntKind.i64.wrap ((x3:Int)*256))+(x4:Int))=((x1*16777216+x2*65536+x3*256+x4:Nat):Int):=by rw[c6 ((x1:Int)*16777216) o_,c6 ((x2:Int)*65536) o_,c6 ((x3:Int)*256) o_,c6 ((x1:Int)*16777216+(x2:Int)*65536) o_,c6 ((x1:Int)*16777216+(x2:Int)*65536+(x3:Int)*256) o_,c6 _ o_];omega
    exact⟨by rw[hw,hm]⟩)
theorem dI (c:Ob)(n:Int)(hc:c.ok):∃(x:Bool) (c':Ob),c'.b=c.b/\c'.ok/\bd prog 171 [lb,tI .i64 n] (kO c) (tB x) (kO c'):=by obtain⟨x,c',_,_,b1,o1,g1⟩:=bU c n hc;refine⟨(x:Int)==0,c',b1,o1,?_⟩;refine au hΓ ay func171 rfl d_ rfl rfl ?_;repeat' ((conv=>whnf);first|apply Wx|apply W6|refine cg g1 ?_|apply oi|apply fi|intro h|exact Y8|refine e_ rfl ?_)
theorem kq (c:Ob)(ns:List Int)(hc:c.ok)(hp:0<ns.length)(hl:ns.length<=1048576):∃(v:Int) (c':Ob),v∈ns/\c'.b=c.b/\c'.ok/\bd prog 129 [lb,.r (.c (.own (0,0,1)))] (kO c++[((0,0,1),.arr false 1 (ns.map ae))]) (tI .i64 v) (kO c'++[((0,0,1),.arr false 1 (ns.map ae))]):=by
 have N1:(ns.map ae).length=ns.length:=s_;obtain⟨x,c',h1,_,b1,o1,g1⟩:=bU c ((ns.map ae).length:Int) hc;rw[N1]at h1;obtain⟨v,hv⟩:=ab (l:=ns) (k:=x) o_;have Rv:x<(ns.map ae).length:=by rw[N1];omega
 refine⟨v,c',b9 hv,b1,o1,?_⟩;refine au hΓ ay func129 rfl d_ rfl rfl ?_;repeat' ((conv=>whnf);first|apply Wx|apply W6|refine cg g1 ?_|apply oi|apply fi|intro h|refine⟨x,rfl,Rv,?_⟩|refine⟨(ae v),aa hv,?_⟩|exact Y8|refine e_ rfl ?_)
def aS (b:Oa):Bool:=af b.M5 0 63&&af b.L4 0 3
theorem pf (b:Oa):Sim.Spec prog 60 [.agg b.tr] (rB (aS b)):=by
 refine aI hΓ ay func60 rfl d_ rfl ?_;have h1:=cC b.M5 0 63;have h2:=cC b.L4 0 3;unfold aS
 generalize af b.M5 0 63=w1 at *
 generalize af b.L4 0 3=w2 at *
 repeat' ((conv=>whnf);first|apply Wx|apply W6|apply oi|apply fi|intro h|refine cl h1 ?_|refine cl h2 ?_|exact Y8|refine e_ rfl ?_)
 all_goals(refine⟨congrArg Tr.bool ?_⟩;simp_all)
theorem wd (c:Ob)(hc:c.ok):∃(b:Oa) (c':Ob),aS b=true/\c'.b=c.b/\c'.ok/\bd prog 95 [lb] (kO c) (.r (.agg (b.tr.map .t))) (kO c'):=by
 obtain⟨f,c1,k1,_,b1,o1,g1⟩:=bU c 64 hc;obtain⟨v,c2,hv,b2,o2,g2⟩:=kq c1 [0,1,2,3] o1 d_ d_;obtain⟨x,c3,b3,o3,g3⟩:=dI c2 2 o2;obtain⟨y,c4,b4,o4,g4⟩:=dI c3 2 o3;refine⟨⟨f,v,x,y⟩,c4,?_,((b4.trans b3).trans b2).trans b1,o4,?_⟩
 ·have:=k1 o_;simp only[d6,j6,or_false]at hv;unfold aS;rw[within_iff.2 ⟨g_,g_⟩,within_iff.2 ⟨g_,g_⟩];rfl
 ·refine au hΓ ay func95 rfl d_ rfl rfl ?_;repeat' ((conv=>whnf);first|apply Wx|apply W6|apply oi|apply fi|intro h|exact Y8|refine e_ rfl ?_)
  refine cg (g1) ?_;repeat' ((conv=>whnf);first|apply Wx|apply W6|apply oi|apply fi|intro h|exact Y8|refine e_ rfl ?_)
  refine cg (g2) ?_;repeat' ((conv=>whnf);first|apply Wx|apply W6|apply oi|apply fi|intro h|exact Y8|refine e_ rfl ?_)
  refine cg (g3) ?_;repeat' ((conv=>whnf);first|apply Wx|apply W6|apply oi|apply fi|intro h|exact Y8|refine e_ rfl ?_)
  refine cg (g4) ?_;exact Z2
theorem V92{p:Prop}(h:p:=by
 refine au hΓ ay func99 rfl d_ rfl rfl ?_
 repeat' ((conv=>whnf);first|apply Wx|apply W6|refine cg g1 ?_|apply oi|apply fi|intro h|exact Y8|refine e_ rfl ?_)):p:=h
theorem vK (c:Ob)(hc:c.ok):∃(x:Nat) (c':Ob),x<=1/\c'.b=c.b/\c'.ok/\bd prog 99 [lb] (kO c) (tI .i64 x) (kO c'):=by
 obtain⟨x,c1,b1,o1,g1⟩:=dI c 4 hc
 cases x with
 | true=>
  refine⟨1,c1,o_,b1,o1,?_⟩
  exact V92
 | false=>refine⟨0,c1,o_,b1,o1,?_⟩;exact V92
end Go.Proofs.P
