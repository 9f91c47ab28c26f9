import Derived.Test.YtoglejgmjeojoaaGreatGi
set_option maxRecDepth 100000
set_option maxHeartbeats 4000000
namespace Go.Proofs.P
open Go.Sim Tryz
def dA (c:LH):LH:=⟨c.b,if c.i<c.b.length then c.i+1 else c.i,iF c.h⟩
def iP (c:LH):Nat:=match c.b[c.i]? with
 | some u=>(byN (iF c.h)+u.toNat)%256
 | none=>byN (iF c.h)
theorem jH {c:LH}(h:c.ok):(dA c).ok:=⟨by have:=h.1;unfold dA;dsimp only;split<;>omega,h.2⟩
theorem ua (c:LH):iP c<256:=by
 unfold iP;split
 ·omega
 ·exact HI _
theorem HC (n:Nat):IntKind.i64.wrap ((BitVec.ofInt IntKind.i64.bits (IntKind.i64.wrap (n:Int)) &&& BitVec.ofInt IntKind.i64.bits 255).toNat:Int)=((n%256:Nat):Int):=by
 show IntKind.i64.wrap (((BitVec.ofInt 64 (IntKind.i64.wrap (n:Int)) &&& BitVec.ofInt 64 255).toNat:Nat):Int)=_;rw[Gu]
 have hw:IntKind.i64.wrap (n:Int)%256=(n:Int)%256:=by exact V114
 rw[hw,c6 _ o_];omega
theorem gh (c:LH)(hc:c.ok):bA prog 194 [gz] (fk c) (tI .i64 (iP c)) (fk (dA c)):=by
 obtain⟨hi,hl⟩:=hc;have PM:(c.b.map aY).length=c.b.length:=s_;have RN:=Kf (iF c.h);have YB:=HI (iF c.h);unfold iP dA
 generalize hx:byN (iF c.h)=x0 at *
 unfold byW iF at RN;unfold iF;by_cases Mz:c.i<c.b.length
 ·obtain⟨u,hu⟩:=ae Mz;have hu8:=u.toNat_lt;have he:=HC (x0+u.toNat);rw[hu,c7 Mz];dsimp only;refine aA hΓ aG func194 rfl d_ rfl rfl ?_;repeat' ((conv=>whnf);first|apply Wx|apply W6|apply oi|apply fi|intro h|refine⟨c.i,(aY u),rfl,ab hu,?_⟩|exact Y5|refine e_ rfl ?_)
  all_goals try exact⟨congrArg (Tr.int _) (by rw[RN,c6 (u.toNat:Int) o_];exact he)⟩
  all_goals exact⟨by rw[c6 _ o_];rfl⟩
 ·rw[e9 o_,b8 Mz];dsimp only;exact V48
theorem xe (c:LH)(n:Nat)(hc:c.ok)(h0:0<n)(h1:n<=256):bA prog 130 [gz,tI .i64 (n:Int)] (fk c) (tI .i64 ((iP c%n:Nat):Int)) (fk (dA c)):=by
 have g1:=gh c hc;have hm:((iP c:Nat):Int).tmod (n:Int)=((iP c%n:Nat):Int):=by rw[Int.tmod_eq_emod_of_nonneg o_];rfl
 refine aA hΓ aG func130 rfl d_ rfl rfl ?_;repeat' ((conv=>whnf);first|apply Wx|apply W6|refine cg g1 ?_|apply oi|apply fi|intro h|exact Y5|refine e_ rfl ?_)
 all_goals try exact⟨o_⟩
 all_goals exact⟨congrArg (Tr.int _) hm⟩
theorem ot (c:LH)(n:Int)(hc:c.ok)(h:256<n):∃y:Nat,(y:Int)<n/\bA prog 130 [gz,tI .i64 n] (fk c) (tI .i64 (y:Int)) (fk (dA (dA (dA (dA c))))):=by
 have g1:=gh c hc;have g2:=gh _ (jH hc);have g3:=gh _ (jH (jH hc));have g4:=gh _ (jH (jH (jH hc)));have k1:=ua c;have k2:=ua (dA c);have k3:=ua (dA (dA c));have k4:=ua (dA (dA (dA c)))
 generalize iP c=x1 at *
 generalize iP (dA c)=x2 at *
 generalize iP (dA (dA c))=x3 at *
 generalize iP (dA (dA (dA c)))=x4 at *
 obtain⟨y,hy,hm⟩:=oO (x:=x1*16777216+x2*65536+x3*256+x4) (n:=n) o_;refine⟨y,hy,?_⟩;exact V7
theorem pz (c:LH)(ns:List Int)(hc:c.ok)(hp:0<ns.length)(hl:ns.length<=256):bA prog 129 [gz,.r (.c (.own (0,0,1)))] (fk c++[((0,0,1),.arr false 1 (ns.map aa))]) (tI .i64 (ns[iP c%ns.length]?.getD 0)) (fk (dA c)++[((0,0,1),.arr false 1 (ns.map aa))]):=by
 have Mw:(ns.map aa).length=ns.length:=s_;have g1:=xe c (ns.map aa).length hc o_ o_;rw[Mw]at g1;have hx:iP c%ns.length<ns.length:=G0 _ hp;obtain⟨v,hv⟩:=ae hx;have Qa:iP c%ns.length<(ns.map aa).length:=by rw[Mw];exact hx
 rw[hv];refine aA hΓ aG func129 rfl d_ rfl rfl ?_;rw[<-Mw]at g1;repeat' ((conv=>whnf);first|apply Wx|apply W6|refine cg g1 ?_|apply oi|apply fi|intro h|refine⟨(iP c%ns.length),(by rw[Mw]),Qa,?_⟩|refine⟨(aa v),ab hv,?_⟩|exact Y7|refine e_ rfl ?_)
def itC:Nat->LH->LH
 | 0,c=>c
 | n+1,c=>itC n (dA c)
theorem uj:∀(n m:Nat) (c:LH),itC (n+m) c=itC m (itC n c)
 | 0,m,c=>by rw[u5,itC]
 | n+1,m,c=>by rw[show n+1+m=(n+m)+1 by omega,itC,itC,uj n m]
theorem va:∀(n:Nat) {c:LH},c.ok->(itC n c).ok
 | 0,_,h=>h
 | n+1,c,h=>by rw[itC];exact va n (jH h)
theorem JX:∀(n:Nat) (c:LH),(itC n c).b=c.b
 | 0,_=>rfl
 | n+1,c=>by rw[itC,JX n];rfl
theorem JQ:∀(n:Nat) (c:LH),(itC n c).h=itH n c.h
 | 0,_=>rfl
 | n+1,c=>by rw[itC,JQ n,itH];rfl
theorem Ke:∀(n:Nat) (c:LH),c.i<=c.b.length->(itC n c).i=min (c.i+n) c.b.length
 | 0,c,h=>by rw[itC];omega
 | n+1,c,h=>by
  have h2:(dA c).i<=(dA c).b.length:=by unfold dA;dsimp only;split<;>omega
  rw[itC,Ke n _ h2];unfold dA;dsimp only;split<;>omega
def sw (c:LH):Prop:=iP (itC 5 c)%3=2
theorem CZ (c:LH)(h:c.ok):∃k,sw (itC (6*k) c):=by obtain⟨k,hk,h2⟩:=Gd c.h (c.b.length+1);obtain⟨j,rfl⟩:∃j,k=j+1:=⟨k-1,o_⟩;refine⟨j,?_⟩;unfold sw;rw[<-uj];have hi:=Ke (6*j+5) c h.1;have hb:=JX (6*j+5) c;unfold iP;rw[hb,e9 (by rw[hi];omega),JQ];dsimp only;have e:iF (itH (6*j+5) c.h)=itH (6*(j+1)) c.h:=(lG (6*j+5) 1 c.h).symm;rw[e];exact h2
structure SpOk (p:List LP) (b:LG) (first second:Int):Prop where
 small:aw 1048576 (.lst 4 (p.map LP.tr))
 prog:ah p=true
 build:aS b=true
 fb:1<=first/\first<=1000000
 sb:1<=second/\second<=1000000
 space:ce (aQ p b first second)=true
noncomputable abbrev spH (p:List LP) (b:LG) (first second:Int):List (Sim.Id×AO):=[((1,0,0),.arr true 2 [(ag p b 0).tr,(ag p b 1).tr]),((1,0,1),.arr true 1 [aa first,aa second]),((1,0,2),.arr true 1 ((entries p b first second).map aa))]
noncomputable def yC (c:LH):Nat:=open Classical in if h:c.ok then Classical.choose (ot c 9000 h o_)else 0
theorem Et {c:LH}(h:c.ok):(yC c:Int)<9000/\bA prog 130 [gz,tI .i64 9000] (fk c) (tI .i64 (yC c:Int)) (fk (itC 4 c)):=by rw[yC,dif_pos h];exact l8 (ot c 9000 h o_)
noncomputable abbrev fL (c:LH):List Int:=[1,100,5000,1+(yC c:Int)]
abbrev sL:List Int:=[20000,60000,1000000]
noncomputable def iS (c:LH):Int:=(fL c)[iP (itC 4 c)%(fL c).length]?.getD 0
def eI (c:LH):Int:=sL[iP (itC 5 c)%sL.length]?.getD 0
theorem nE {c:LH}(h:c.ok):1<=iS c/\iS c<=9000:=by
 have hy:=(Et h).1;unfold iS;have:iP (itC 4 c)%(fL c).length<4:=G0 _ s_
 generalize iP (itC 4 c)%(fL c).length=k at *
 rcases(show k=0\/k=1\/k=2\/k=3 by omega)with rfl|rfl|rfl|rfl;all_goals(simp;try omega)
theorem uq (c:LH):20000<=eI c/\eI c<=1000000:=by
 unfold eI;have:iP (itC 5 c)%sL.length<3:=G0 _ d_
 generalize iP (itC 5 c)%sL.length=k at *
 rcases(show k=0\/k=1\/k=2 by omega)with rfl|rfl|rfl;all_goals simp
theorem qc {c:LH}(h:sw c):eI c=1000000:=by
 unfold eI sw at *
 rw[show sL.length=3 from rfl,h];rfl
noncomputable def kH (p:List LP) (b:LG):Nat->LH->Int×Int×LH
 | 0,c=>(iS c,eI c,itC 6 c)
 | n+1,c=>if(gB p b (iS c) (eI c)).isSome=true then(iS c,eI c,itC 6 c)else kH p b n (itC 6 c)
theorem Ap {p:List LP}{b:LG}(hs:aw 1048576 (.lst 4 (p.map LP.tr)))(h1:ah p=true)(h2:aS b=true):∀(n:Nat) (c:LH),c.ok->sw (itC (6*n) c)->(1<=(kH p b n c).1/\(kH p b n c).1<=9000)/\(20000<=(kH p b n c).2.1/\(kH p b n c).2.1<=1000000)/\(gB p b (kH p b n c).1 (kH p b n c).2.1).isSome=true
 | 0,c,hc,hg=>by
  refine⟨nE hc,uq c,?_⟩;rw[kH];dsimp only;rw[qc (show sw c from hg),uB hs h1 h2 (nE hc) o_]
  rfl
 | n+1,c,hc,hg=>by
  rw[kH];split
  ·exact⟨nE hc,uq c,by assumption⟩
  ·refine Ap hs h1 h2 n _ (va 6 hc) ?_;rw[<-uj,show 6+6*n=6*(n+1) by omega];exact hg
theorem CP {p:List LP}{b:LG}{first second:Int}(h:(gB p b first second).isSome=true):ah p=true/\aS b=true/\ce (aQ p b first second)=true/\gB p b first second=some (aQ p b first second):=by
 unfold gB at *
 split at h
 ·rename_i hc;exact⟨hc.1,hc.2.1,hc.2.2,by rw[c7 hc]⟩
 ·cases h
theorem tQ (c:LH)(hc:c.ok):∃(p:List LP) (b:LG) (first second:Int) (c':LH),SpOk p b first second/\bA prog 56 [gz] (fk c) (.tup [.c (.t (.lst 4 (p.map LP.tr))),.agg (b.tr.map .t),.agg [.own (1,0,0),.own (1,0,1),.own (1,0,2)]]) (fk c'++spH p b first second):=by
 have g1:=qH c hc;obtain⟨q1,q2,q3,q4,q5⟩:=AX 5 c hc
 generalize jr 5 c=R0 at *
 obtain⟨p,c1⟩:=R0
 dsimp only at *
 obtain⟨b,c2,hb,_,o2,g2⟩:=tA c1 q4;have hs:=vR q5 q2;obtain⟨K,hK⟩:=CZ c2 o2;obtain⟨r1,r2,r3⟩:=Ap hs q1 hb K c2 o2 hK;obtain⟨_,_,s3,s4⟩:=CP r3;obtain⟨R,hR⟩:∃R,kH p b K c2=R:=⟨_,rfl⟩;rw[hR]at r1 r2 r3 s3 s4;refine⟨p,b,R.1,R.2.1,R.2.2,⟨hs,q1,hb,⟨o_,o_⟩,⟨o_,o_⟩,s3⟩,?_⟩;refine aA hΓ aG func56 rfl d_ rfl rfl ?_;repeat' ((conv=>whnf);first|apply Wx|apply W6|apply oi|apply fi|intro h|exact Y7|refine e_ rfl ?_)
 refine cg (g1) ?_;repeat' ((conv=>whnf);first|apply Wx|apply W6|apply oi|apply fi|intro h|exact Y7|refine e_ rfl ?_)
 refine cg (g2) ?_;repeat' ((conv=>whnf);first|apply Wx|apply W6|apply oi|apply fi|intro h|exact Y7|refine e_ rfl ?_)
 conv=>whnf
 refine⟨{q:Nat×LH//q.2.ok/\sw (itC (6*q.1) q.2)/\kH p b q.1 q.2=R},fun q=>⟨[(0,gz),(3,.r (.c (.ptr (3,0,0) 0))),(4,.r (.c (.ptr (4,0,0) 0))),(5,vP p),(6,.r (.c (.ptr (6,0,0) 0)))],[((0,0,0),some (.box [.t (.lst 1 (q.1.2.b.map aY)),.t (.int .i64 q.1.2.i),.t (.int .i64 q.1.2.h)])),((3,0,0),some (.box [.t (.int .i64 0),.t (.int .i64 0),.t (.bool false),.t (.bool false)])),((4,0,0),some (.box [.nils 0,.nils 0,.nils 0])),((6,0,0),some (.box (b.tr.map .t)))],[6,4,3,0]⟩,fun q=>q.1.1,⟨(K,c2),o2,hK,hR⟩,?_,?_⟩
 ·exact Z2
 intro⟨⟨n,ci⟩,Ok,hg,hr⟩;dsimp only at Ok hg hr⊢;obtain⟨hy,gy⟩:=Et Ok;have gf:=pz (itC 4 ci) (fL ci) (va 4 Ok) s_ s_;have gs:=pz (itC 5 ci) sL (va 5 Ok) d_ d_;have hL:=sa p b (iS ci) (eI ci) hs;rw[show(fL ci)[iP (itC 4 ci)%(fL ci).length]?.getD 0=iS ci from rfl]at gf;rw[show sL[iP (itC 5 ci)%sL.length]?.getD 0=eI ci from rfl]at gs;have n4:dA (itC 4 ci)=itC 5 ci:=rfl;have n5:dA (itC 5 ci)=itC 6 ci:=rfl;rw[n4]at gf;rw[n5]at gs;have Nl:IntKind.i64.wrap (1+(yC ci:Int))=1+(yC ci:Int):=c6 _ o_
 cases hl:gB p b (iS ci) (eI ci)with
 | some sp=>
  have Oa:(gB p b (iS ci) (eI ci)).isSome=true:=by rw[hl];rfl
  have Zf:R=(iS ci,eI ci,itC 6 ci):=by
   rw[<-hr]
   cases n with|zero=>rfl|succ n=>rw[kH,c7 Oa]
  subst Zf;dsimp only at s4⊢;rw[hl]at hL s4;injection s4 with s4;subst s4;simp only[oSp,aQ]at hL;repeat' ((conv=>whnf);first|apply Wx|apply W6|apply oi|apply fi|intro h|exact Y7|refine e_ rfl ?_)
  refine cg (gy) ?_;repeat' ((conv=>whnf);first|apply Wx|apply W6|apply oi|apply fi|intro h|exact Y7|refine e_ rfl ?_)
  refine cg (gf) ?_;repeat' ((conv=>whnf);first|apply Wx|apply W6|apply oi|apply fi|intro h|exact Y7|refine e_ rfl ?_)
  all_goals try exact⟨by rw[Nl];rfl⟩
  refine cg (gs) ?_
  repeat' ((conv=>whnf);first|apply Wx|apply W6|apply oi|apply fi|intro h|refine cl hL ?_|exact Y7|refine e_ rfl ?_)
 | none=>
  have Oa:¬(gB p b (iS ci) (eI ci)).isSome=true:=by rw[hl];simp
  cases n with
  | zero=>
   rw[qc (show sw ci from hg),uB hs q1 hb (nE Ok) o_]at hl
   cases hl
  | succ n=>
   rw[kH,b8 Oa]at hr;rw[hl]at hL;repeat' ((conv=>whnf);first|apply Wx|apply W6|apply oi|apply fi|intro h|exact Y7|refine e_ rfl ?_)
   refine cg (gy) ?_;repeat' ((conv=>whnf);first|apply Wx|apply W6|apply oi|apply fi|intro h|exact Y7|refine e_ rfl ?_)
   refine cg (gf) ?_;repeat' ((conv=>whnf);first|apply Wx|apply W6|apply oi|apply fi|intro h|exact Y7|refine e_ rfl ?_)
   all_goals try exact⟨by rw[Nl];rfl⟩
   refine cg (gs) ?_;repeat' ((conv=>whnf);first|apply Wx|apply W6|apply oi|apply fi|intro h|refine cl hL ?_|exact Y5|refine e_ rfl ?_)
   conv=>whnf
   refine⟨⟨(n,itC 6 ci),va 6 Ok,by dsimp only;rw[<-uj,show 6+6*n=6*(n+1) by omega];exact hg,hr⟩,?_,KD⟩;exact Z2
theorem ru (code:List UInt8)(hl:code.length<=1048576):∃(p:List LP) (b:LG) (first second:Int),SpOk p b first second/\
  bA prog 10 [Lx code] [] (.tup [.c (.t (.lst 4 (p.map LP.tr))),.agg (b.tr.map .t),.agg [.own (1,0,0),.own (1,0,1),.own (1,0,2)]]) (spH p b first second):=by
 have g0:=wN code hl;obtain⟨p,b,first,second,c',MC,g1⟩:=tQ _ (Jz hl);refine⟨p,b,first,second,MC,?_⟩;refine aA hΓ aG func10 rfl d_ rfl rfl ?_;repeat' ((conv=>whnf);first|apply Wx|apply W6|apply oi|apply fi|intro h|exact Y7|refine e_ rfl ?_)
 refine cg (g0) ?_;repeat' ((conv=>whnf);first|apply Wx|apply W6|apply oi|apply fi|intro h|exact Y7|refine e_ rfl ?_)
 refine cg (g1) ?_;exact Z2
structure StartAt (p:List LP) (b:LG) (f i:Nat) (x:Nat×List LU):Prop where
 at_:(imL p b (bn b f))[i]?=some x
 fn:x.1=f
 start:aW p b f=((aj (ax ((imL p b (bn b f)).take i))).length:Int)
theorem pg {p:List LP}{b:LG}{f:Nat}(hf:f<(ay p).length):∃i x,StartAt p b f i x:=by have hi:=ga b f;obtain⟨s,hs⟩:=lu (f:=f) (a:=0) ((imgL_mem (p:=p) (b:=b) (image:=bn b f) (n:=(ay p).length) (f:=0) (at0:=0) (g:=f)).2 ⟨o_,o_,(rD hi).2 rfl⟩);obtain⟨i,x,h1,h2,h3⟩:=wi hs;refine⟨i,x,h1,h2,?_⟩;rw[aW,show imL p b (bn b f)=bV p b (bn b f) (ay p).length 0 0 from rfl,hs];show s=_;omega
theorem qQ {L:List (Nat×List LU)}{i:Nat}{x:Nat×List LU}(h:L[i]?=some x):ax L=ax (L.take i)++(x.2++ax (L.drop (i+1))):=by
 have e:L=L.take i++x::L.drop (i+1):=by rw[<-cF h,y9]
 conv=>lhs;rw[e]
 simp[ax]
section
variable {p:List LP} {b:LG}
theorem ES (hs:aw 1048576 (.lst 4 (p.map LP.tr)))(h1:ah p=true)(h2:aS b=true){f i:Nat}{x:Nat×List LU}(h:StartAt p b f i x):
  0<(aj x.2).length/\∃(o:LS) (z:Nat),bt (ag p b (bn b f)).I9 (aW p b f)=some (o,z)/\(o.I9=13\/o.I9=15):=by
 have h3:af (bn b f) 0 1=true:=by have:=ga b f;rw[within_iff];omega
 obtain⟨g1,g2,g3⟩:=h;obtain⟨y,hy⟩:=ae (jW hs h1 h2 o_ g1).2.2;have hp:=(fR hs h1 h2 g1 hy).1;have Nv:=pm hp.op;have M6:=ec hp.op
 have M7:0<(aj x.2).length:=by
  obtain⟨c,l⟩:=x
  cases l with
  | nil=>simp at hy
  | cons a l=>simp only[e8,Option.some.injEq]at hy;subst hy;rw[show aj (a::l)=bh a.L3.J2++aj l by simp[aj],c8];omega
 refine⟨M7,y.L3.J2,(aE y.L3.J2.I9).toNat,?_,(hp.head rfl).1⟩
 have OV:∀z∈x.2,dw z.L3.J2.I9 z.L3.J2.J7=true:=fun z hz=>by
  obtain⟨j,hj⟩:=v6.1 hz;exact(fR hs h1 h2 g1 hj).1.op
 have hd:=sQ OV hy (aj (ax ((imL p b (bn b f)).take i))) (aj (ax ((imL p b (bn b f)).drop (i+1))));rw[ag,c7 ⟨h1,h2,h3⟩,g3];dsimp only;have e:=qQ g1
 rw[show imL p b (bn b f)=bV p b (bn b f) (ay p).length 0 0 from rfl]at *
 rw[e,aJ,aJ,<-j9];simpa [aj]using hd
theorem Dv (hs:aw 1048576 (.lst 4 (p.map LP.tr)))(h1:ah p=true)(h2:aS b=true){f:Nat}(hf:f<(ay p).length):0<=aW p b f/\aW p b f<(ag p b (bn b f)).I9.length:=by
 obtain⟨i,x,h⟩:=pg (b:=b) hf;have hp:=(ES hs h1 h2 h).1;obtain⟨g1,g2,g3⟩:=h;have h3:af (bn b f) 0 1=true:=by have:=ga b f;rw[within_iff];omega
 have e:=qQ g1;have e2:=congrArg List.length (congrArg aj e);rw[aJ,aJ,c8,c8]at e2;rw[ag,c7 ⟨h1,h2,h3⟩,g3];refine⟨o_,?_⟩;show _<(((aj (ax (imL p b (bn b f)))).length:Nat):Int);omega
end
structure EntP (p:List LP) (b:LG) (first second:Int) (f i:Nat) (im:LM) (base:Int):Prop where
 no:(i:Int)=bn b f
 lt:i<2
 img:[ag p b 0,ag p b 1][i]?=some im
 bas:[first,second][i]?=some base
 imE:im=ag p b (bn b f)
 range:1<=base/\base<=1000000
 len:im.I9.length<=75000
 ok:bp im=true
 start:0<=aW p b f/\aW p b f<im.I9.length
 entry:cS p b first second f=base+aW p b f
 loc:uK (aQ p b first second) (cS p b first second f)=((i:Int),aW p b f)
 op:∃(o:LS) (z:Nat),bt im.I9 (aW p b f)=some (o,z)/\(o.I9=13\/o.I9=15)
theorem V63{p:Prop}(h:p:=by
 have:eu (ag p b 0) (ag p b 1) first second (entries p b first second)=true:=NC;unfold eu at this;simp only[b9,u9]at this
 exact this.2.2.2.2.2.1):p:=h
theorem DP {p:List LP}{b:LG}{first second:Int}(h:SpOk p b first second){f:Nat}(hf:f<(ay p).length):∃i im base,EntP p b first second f i im base:=by
 have a0:=cV h.small h.prog h.build (image:=0) d_;have a1:=cV h.small h.prog h.build (image:=1) d_;have Na:=Dv h.small h.prog h.build hf;obtain⟨k,x,hx⟩:=pg (b:=b) hf;have Mx:=(ES h.small h.prog h.build hx).2;have Xc:=h.fb;have VG:=h.sb;have NC:=h.space
 have MR:cU (ag p b 0) (ag p b 1) first second=false:=by exact V63
 have NA:∀e,uK (aQ p b first second) e=dF (ag p b 0) (ag p b 1) first second e:=fun e=>rfl;rcases ga b f with e|e
 ·rw[e]at Na Mx
  have Qf:cS p b first second f=first+aW p b f:=by rw[cS,e,b8 d_,c6 _ o_]
  refine⟨0,ag p b 0,first,by rw[e];rfl,o_,rfl,rfl,by rw[e],o_,a0.2,a0.1,Na,Qf,?_,Mx⟩;rw[NA,Qf,dF,c7 ⟨o_,o_⟩,show first+aW p b f-first=aW p b f by omega];rfl
 ·rw[e]at Na Mx
  have Qf:cS p b first second f=second+aW p b f:=by rw[cS,e,c7 rfl,c6 _ o_]
  refine⟨1,ag p b 1,second,by rw[e];rfl,o_,rfl,rfl,by rw[e],o_,a1.2,a1.1,Na,Qf,?_,Mx⟩;rw[NA,Qf,dF,b8,c7 ⟨o_,o_⟩,show second+aW p b f-second=aW p b f by omega]
  ·rfl
  ·intro hc;unfold cU at MR;simp only[A8,p9]at MR;omega
theorem mA {p:List LP}{b:LG}{first second:Int}{f:Nat}(hf:f<(ay p).length):(entries p b first second)[f]?=some (cS p b first second f):=by rw[entries,p6,List.getElem?_range hf];rfl
theorem Bx {p:List LP}{b:LG}{first second:Int}:(entries p b first second).length=(ay p).length:=by rw[entries,e7,List.length_range]
theorem Bj {p:List LP}{f:Int}{b:LG}(hs:aw 1048576 (.lst 4 (p.map LP.tr)))(h1:ah p=true)(h2:aS b=true)(h3:0<=f)(h4:f<(ay p).length):∀it∈az p f b,DI it:=by obtain⟨g,C,k1,k2,k3,k4,k5,k6,k7,k8,k9⟩:=jP hs h1 h2 h3 h4;have hS:ScOk C (bb C g) [g]:=⟨k7,rfl,⟨v2 _,by simp[bb]⟩,rfl,by simp[bb],fun _=>k5,rfl⟩;have hw:=k2.I8;rw[k8];refine yv k2 hS s_ (EK k2 C.b.Md.toNat hS) (base:=C.I8) hw.1 (by simp only[d5,i8];omega) (dQ C g) ?_;exact dg (C:=C) (s:=⟨[],(localsOf C.p (g:Int)).length-C.args,false⟩) (d:=0) o_ (fun it h=>by cases h)
def DPs (P:List LU):Prop:=∀x∈P,DI x.L3
theorem Bn {p:List LP}{b:LG}{image:Int}(hs:aw 1048576 (.lst 4 (p.map LP.tr))):DPs (aM p b image):=by
 by_cases hc:ah p=true/\aS b=true/\af image 0 1=true
 ·rw[aM,c7 hc];obtain⟨h1,h2,_⟩:=hc;show DPs (ax (bV p b image (ay p).length 0 0));intro x hx;obtain⟨k,hk⟩:=v6.1 hx;obtain⟨i,z,j,g1,g2,rfl⟩:=nl hk;obtain⟨e1,e2,_⟩:=jW hs h1 h2 o_ g1;rw[e1]at g2;have hj:j<(az p (z.1:Int) b).length:=by have:=aH g2;rwa [dV]at this
  obtain⟨it,Nt⟩:=ae hj;rw[eM Nt]at g2;injection g2 with g2;subst g2;have:=Bj (f:=(z.1:Int)) hs h1 h2 o_ o_ it (c9 Nt);dsimp only;unfold cN;split
  ·exact this
  ·exact this
 ·rw[aM,b8 hc];intro x hx;cases hx
def jN (p:Int)(l:List LW):Int:=match l.getLast? with|some r=>r.Mh|none=>p
theorem rulesOkF_snoc:∀{l:List LW} {p:Int} {r:LW},bI p (l++[r])=true↔bI p l=true/\cP (jN p l) r
 | [],p,r=>by
  rw[t6,bI,bI,bI]
  simp[jN]
 | y::l,p,r=>by
  rw[u3,bI,bI]
  have e:jN p (y::l)=jN y.Mh l:=by
   unfold jN
   cases l with|nil=>rfl|cons z l=>simp[List.getLast?_cons]
  rw[e];split
  ·exact rulesOkF_snoc
  ·simp
theorem tk:∀{l:List LW} {p:Int} {i:Nat} {r:LW},bI p l=true->l[i]?=some r->p<=r.L4
 | [],_,_,_,_,h=>by simp at h
 | y::l,p,i,r,h,hi=>by
  rw[bI]at h;split at h
  ·rename_i hy;unfold cP at hy
   cases i with
   | zero=>simp at hi;subst hi;exact hy.1
   | succ i=>rw[j8]at hi;have:=tk h hi;omega
  ·cases h
theorem xF {off:Int}:∀{l:List LW} {p:Int} {i k:Nat} {r:LW},bI p l=true->l[i]?=some r->r.L4<=off->off<r.Mh->cr off l k=((k+i:Nat):Int)
 | [],_,_,_,_,_,h,_,_=>by simp at h
 | y::l,p,i,k,r,h,hi,h1,h2=>by
  rw[bI]at h;split at h
  ·cases i with
   | zero=>simp at hi;subst hi;rw[cr,c7 ⟨h1,h2⟩];simp
   | succ i=>rw[j8]at hi;have:=tk h hi;rw[cr,b8 o_,xF h hi h1 h2];congr 1;omega
  ·cases h
def jd (P:List LU)(k:Nat):List LW:=(P.take k).foldl (fun a x=>eY a (cR x)) []
theorem zl {P:List LU}{k:Nat}{x:LU}(hx:P[k]?=some x):jd P (k+1)=eY (jd P k) (cR x):=by rw[jd,dx hx,List.foldl_append];rfl
structure RInv (P:List LU) (k:Nat) (R:List LW):Prop where
 ok:jZ R=true
 len:R.length<=k
 nil:R=[]↔k=0
 fin:∀x,P[k]?=some x->jN 0 R=x.Mf
 all:∀(j:Nat) (x:LU),j<k->P[j]?=some x->∃(i:Nat) (r:LW),R[i]?=some r/\r.L4<=x.Mf/\x.Mf+aE x.L3.J2.I9<=r.Mh/\r.Ml=x.L3.Mn/\r.Me=x.L3.Me
theorem jh (p:Int)(l:List LW)(r:LW):jN p (l++[r])=r.Mh:=by simp[jN]
theorem xw {P:List LU}(h:PsOk P)(hd:DPs P):∀{k:Nat},k<=P.length->RInv P k (jd P k)
 | 0,_=>⟨rfl,by simp[jd],by simp[jd],fun x hx=>by rw[h.at0 x hx];rfl,fun j x hj=>o_⟩
 | k+1,hk=>by
  obtain⟨x,hx⟩:=ae (l:=P) (k:=k) o_;have I:=xw h hd (k:=k) o_;have hr:=h.rng k x hx;have SM:=hd x (c9 hx);unfold DI at SM;have YW:=I.fin x hx;rw[zl hx];have Ng:∀y,P[k+1]?=some y->x.Mf+aE x.L3.J2.I9=y.Mf:=fun y hy=>(h.next k x y hx hy).symm;have MC:=I.ok;have Mw:=I.len;have Of:=I.all
  generalize jd P k=R at *
  rcases mx R with rfl|⟨ini,r,rfl⟩
  ·have N1:k=0:=I.nil.1 rfl;subst N1;have e:eY [] (cR x)=[cR x]:=rfl;rw[e];have h0:=h.at0 x hx;refine⟨?_,s_,s_,fun y hy=>by rw[<-Ng y hy];rfl,fun j y hj hy=>?_⟩
   ·rw[jZ,bI,bI,c7];unfold cP cR;dsimp only;exact⟨o_,o_,o_,SM.1,SM.2.1,SM.2.2⟩
   ·have:j=0:=o_;subst this;rw[hx]at hy;injection hy with hy;subst hy;exact⟨0,cR x,rfl,v2 _,v2 _,rfl,rfl⟩
  ·rw[jh]at YW;have ho:=rulesOkF_snoc.1 MC;rw[kY];split
   ·rename_i hj;unfold uU at hj;simp only[b9,w8]at hj;have NN:=ho.2;unfold cP at NN;refine⟨rulesOkF_snoc.2 ⟨ho.1,?_⟩,by simp only[c8,d5,i8]at Mw⊢;omega,s_,fun y hy=>by rw[jh,<-Ng y hy];rfl,fun j y N9 hy=>?_⟩
    ·unfold cP cR;dsimp only;exact⟨NN.1,o_,o_,NN.2.2.2.1,NN.2.2.2.2.1,NN.2.2.2.2.2⟩
    ·by_cases OT:j=k
     ·subst OT;rw[hx]at hy;injection hy with hy;subst hy;refine⟨ini.length,⟨r.L4,(cR x).Mh,r.Ml,r.Me⟩,s_,?_,v2 _,hj.2.1,hj.2.2⟩;dsimp only;omega
     ·obtain⟨i,q,q1,q2,q3,q4,q5⟩:=Of j y o_ hy;rw[G2]at q1;split at q1
      ·rename_i hi;exact⟨i,q,by rw[j7 hi];exact q1,q2,q3,q4,q5⟩
      ·rename_i hi
       have RX:i-ini.length=0:=by
        rcases v3 (i-ini.length)with e|e
        ·exact e
        ·rw[e9 aab]at q1;cases q1
       rw[RX]at q1;simp only[e8,Option.some.injEq]at q1;subst q1;refine⟨ini.length,⟨r.L4,(cR x).Mh,r.Ml,r.Me⟩,s_,q2,?_,q4,q5⟩;show _<=x.Mf+aE x.L3.J2.I9;omega
   ·refine⟨rulesOkF_snoc.2 ⟨MC,?_⟩,by simp only[c8,d5,i8]at Mw⊢;omega,s_,fun y hy=>by rw[jh,<-Ng y hy];rfl,fun j y N9 hy=>?_⟩
    ·rw[jh];unfold cP cR;dsimp only;exact⟨o_,o_,o_,SM.1,SM.2.1,SM.2.2⟩
    ·by_cases OT:j=k
     ·subst OT;rw[hx]at hy;injection hy with hy;subst hy;exact⟨(ini++[r]).length,cR x,s_,v2 _,v2 _,rfl,rfl⟩
     ·obtain⟨i,q,q1,q2⟩:=Of j y o_ hy;exact⟨i,q,by rw[j7 (aH q1)];exact q1,q2⟩
theorem BJ {P:List LU}(h:PsOk P):jd P P.length=bF P:=by
 have hn:wv P=true:=by unfold wv;rw[o8];intro x hx;obtain⟨k,hk⟩:=v6.1 hx;have:=h.rng k x hk;exact within_iff.2 ⟨this.1,o_⟩
 rw[jd,gt (d8 _),bF,c7 hn]
theorem Bh {P:List LU}(h:PsOk P)(hd:DPs P):RInv P P.length (bF P):=by rw[<-BJ h];exact xw h hd (d8 _)
theorem Js {P:List LU}(h:PsOk P)(hd:DPs P){k:Nat}{x:LU}(hx:P[k]?=some x){off:Int}(h1:x.Mf<=off)(h2:off<x.Mf+aE x.L3.J2.I9):
  ∃(i:Nat) (r:LW),cO (bF P) off=(i:Int)/\(bF P)[i]?=some r/\r.Ml=x.L3.Mn/\r.Me=x.L3.Me/\r.L4<=x.Mf/\x.Mf+aE x.L3.J2.I9<=r.Mh:=by
 have I:=Bh h hd;obtain⟨i,r,q1,q2,q3,q4,q5⟩:=I.all k x (aH hx) hx;have MC:=I.ok;refine⟨i,r,?_,q1,q4,q5,q2,q3⟩;rw[cO,c7 MC,xF MC q1 o_ o_,u5]
def bo (a:Int):Bool:=af a 0 1199
abbrev wr (n:Int):Int:=IntKind.i64.wrap n
structure CS where
 m:LQ
 bad:Bool
def CS.ok (c:CS):Prop:=c.m.Mg.length=1200
def aL (m:LQ)(a:Int):Int:=match m.Mg[a.toNat]? with|some x=>x|none=>0
def gD (m:LQ)(a v:Int):LQ:={m with Mg:=m.Mg.set a.toNat v}
def cAt (c:CS)(a:Int):CS:=⟨c.m,c.bad||!bo a⟩
def bi (c:CS)(v:Int):CS:=if(c.bad||!bo (wr (c.m.J5-1)))=true then⟨c.m,true⟩else⟨{gD c.m (wr (c.m.J5-1)) v with J5:=wr (c.m.J5-1)},false⟩
def au (c:CS):CS:=if(c.bad||!bo c.m.J5)=true then⟨c.m,true⟩else⟨{c.m with J5:=c.m.J5+1},false⟩
def kX (c:CS):Int:=if(c.bad||!bo c.m.J5)=true then 0 else aL c.m c.m.J5
def bz:Nat->CS->CS
 | 0,c=>c
 | n+1,c=>bz n (au c)
def dE:Nat->CS->CS
 | 0,c=>c
 | n+1,c=>dE n (bi c 0)
def gC (c:CS)(a:Int):CS:=if(c.bad||!bo a)=true then⟨c.m,true⟩else bi ⟨c.m,false⟩ (aL c.m a)
def dl (c:CS)(a:Int):CS:=if((au c).bad||!bo a)=true then⟨(au c).m,true⟩else⟨gD (au c).m a (kX c),false⟩
theorem inStk_iff {a:Int}:bo a=true↔0<=a/\a<=1199:=within_iff
theorem gp {c:CS}{v:Int}(h:c.ok):(bi c v).ok:=by
 unfold bi CS.ok at *
 split
 ·exact h
 ·simpa [gD]using h
theorem bf {c:CS}(h:c.ok):(au c).ok:=by
 unfold au CS.ok at *
 split
 ·exact h
 ·exact h
theorem fy:∀{n:Nat} {c:CS},c.ok->(bz n c).ok
 | 0,_,h=>h
 | n+1,c,h=>fy (n:=n) (bf h)
theorem rQ:∀{n:Nat} {c:CS},c.ok->(dE n c).ok
 | 0,_,h=>h
 | n+1,c,h=>rQ (n:=n) (gp h)
theorem Aw {c:CS}{a:Int}(h:c.ok):(gC c a).ok:=by
 unfold gC;split
 ·exact h
 ·exact gp (c:=⟨c.m,false⟩) h
theorem yq {c:CS}{a:Int}(h:c.ok):(dl c a).ok:=by
 have:=bf h;unfold dl;split
 ·exact this
 ·unfold CS.ok at *;simpa [gD]using this
abbrev oe:AV:= .r (.c (.ptr (0,0,0) 0))
theorem Cz {l:List Int}{a:Int}(hl:l.length=1200)(h:bo a=true):∃(j:Nat) (x:Int),a=(j:Int)/\l[j]?=some x/\j<l.length/\j<=1199:=by have h':=inStk_iff.1 h;obtain⟨j,rfl⟩:=j6 h'.1;obtain⟨x,hx⟩:=ae (l:=l) (k:=j) o_;exact⟨j,x,rfl,hx,o_,o_⟩
theorem Bu {l:List Int}{j:Nat}{v:Int}:(l.map aa).set j (aa v)=(l.set j v).map aa:=by rw[F6]
theorem EW {a b:Bool}(h:(a||!b)=false):a=false/\b=true:=by cases a<;>cases b<;>simp at h⊢
def om (c:CS)(a:Int):CS:=⟨{c.m with K0:=wr (c.m.K0+a)},c.bad⟩
def ls (c:CS)(k:Int):CS:=bi (au (au c)) (dX k (kX (au c)) (kX c))
def pP (c:CS)(a:Int):CS:=if kX c=0 then om (au c) a else au c
def qD (c:CS)(es:List Int)(a:Int):CS:=match es[a.toNat]? with
 | some e=>⟨{c.m with K0:=e},c.bad⟩
 | none=>⟨c.m,true⟩
def rT (c:CS)(n:Nat):CS:=dE n ⟨{(bi c c.m.L0).m with L0:=(bi c c.m.L0).m.J5},(bi c c.m.L0).bad⟩
def cFp (c:CS):CS:=⟨{(au c).m with L0:=kX c},(au c).bad⟩
def cPc (c:CS):CS:=⟨{(au c).m with K0:=kX c},(au c).bad⟩
def cX (c:CS):CS:=⟨{c.m with J5:=c.m.L0},c.bad⟩
def rU (c:CS)(n:Nat):CS:=bi (bz n (cPc (cFp (cX (au c))))) (kX c)
def nH (c:CS)(n:Nat):CS:=bi (bz (n%16) (cPc (bz (n/16) (au c)))) (kX c)
def Kh (c:CS):CS:=⟨{(au c).m with L7:=(au c).m.L7++[kX c]},(au c).bad⟩
def bJ (es:List Int)(c:CS)(x:LS):CS:=
 if x.I9=0 then bi c x.J7
 else if x.I9=1 then gC c (wr (c.m.L0+x.J7))
 else if x.I9=3 then gC c (wr (c.m.J5+x.J7))
 else if x.I9=2 then dl c (wr (c.m.L0+x.J7))
 else if x.I9=4 then dl c (wr (c.m.J5+x.J7))
 else if 5<=x.I9/\x.I9<=9 then ls c (x.I9-3)
 else if x.I9=10 then om c x.J7
 else if x.I9=11 then pP c x.J7
 else if x.I9=12 then qD (bi c c.m.K0) es x.J7
 else if x.I9=13 then rT c x.J7.toNat
 else if x.I9=15 then dE x.J7.toNat c
 else if x.I9=14 then rU c x.J7.toNat
 else if x.I9=16 then nH c x.J7.toNat
 else if x.I9=17 then Kh c
 else c
abbrev opV (x:LS):AV:= .r (.agg [.t (.int .i64 x.I9),.t (.int .i64 x.J7)])
theorem Gz {c:Int}(h:12<=c/\c<=16):(aX c).2=false/\((aX c).1=1\/(aX c).1=2):=by
 unfold aX;repeat' split
 all_goals first
  |(exfalso;omega)
  | simp
theorem ID {c:Int}(h:1<=c/\c<=11):aX c=(2,true)\/aX c=(0,false):=by
 unfold aX;repeat' split
 all_goals first
  |(exfalso;omega)
  | simp
theorem Ie {c:Int}{m:Nat}(h:aX c=(2,true))(hm:m<65536):-65536<=jI c m/\jI c m<=65536:=by
 by_cases hb:2^(8*2-1)<=m
 ·have e:jI c m=(m:Int)-2^(8*2):=qJ (n:=2) (by rw[h];rfl) (by rw[h]) hb;rw[e];show -65536<=(m:Int)-65536/\(m:Int)-65536<=65536;omega
 ·have e:jI c m=(m:Int):=nJ (n:=2) (by rw[h];rfl) (fun hh=>hb hh.2);rw[e];omega
theorem iX {s:List UInt8}{p:Int}{x:LS}{z:Nat}(h:bt s p=some (x,z)):(0<=x.I9/\x.I9<=17)/\(12<=x.I9->x.I9<=16->0<=x.J7/\x.J7<=65536)/\(1<=x.I9->x.I9<=11->-65536<=x.J7/\x.J7<=65536)/\z<=5:=by
 unfold bt at h;split at h
 ·split at h
  ·cases h
  ·rename_i MR;injection h with h;injection h with h1 h2;rw[not_or]at MR;have hz:=gQ (cy s p.toNat);subst h1;dsimp only
   generalize hc:((cy s p.toNat:Nat):Int)=c at *
   have hin:0<=c/\c<=17:=by
    have:=MR.1;unfold aE at this;split at this
    ·rename_i hw;exact within_iff.1 hw
    ·exact absurd rfl this
   refine⟨hin,fun g1 g2=>?_,fun g1 g2=>?_,o_⟩
   ·obtain⟨e1,e2⟩:=Gz ⟨g1,g2⟩;have hl:=eZ s (p.toNat+1) (aX c).1.toNat;have:256^(aX c).1.toNat<=65536:=(by rcases e2 with e2|e2<;>rw[e2]<;>decide);rw[jI,b8 (by rw[e1];simp)];omega
   ·have hl:=eZ s (p.toNat+1) (aX c).1.toNat;rcases ID ⟨g1,g2⟩with e|e
    ·rw[e]at hl⊢;exact Ie e hl
    ·rw[e]at hl⊢;have hl:aV s (p.toNat+1) 0<1:=hl;have e2:jI c (aV s (p.toNat+1) 0)=((aV s (p.toNat+1) 0:Nat):Int):=nJ (n:=0) (by rw[e];rfl) (fun hh=>by rw[e]at hh;exact absurd hh.1 s_);show -65536<=jI c (aV s (p.toNat+1) 0)/\jI c (aV s (p.toNat+1) 0)<=65536;rw[e2];omega
 ·cases h
theorem mR (m:LQ)(hs:m.Mg.length<=2000000)(ho:m.L7.length<=2000000):Sim.Spec prog 69 [.agg m.tr] (.r (.agg (m.tr.map tD))):=by
 refine ak hΓ aG func69 rfl d_ rfl ?_;repeat' ((conv=>whnf);first|refine Or.inl ?_|apply oi|apply fi|intro h|exact Y1|refine e_ rfl ?_)
 all_goals exact Q24
def dT (c:CS)(v:Int):CS:=if c.m.J5<1\/1200<c.m.J5 then⟨c.m,true⟩else⟨{gD c.m (c.m.J5-1) v with J5:=c.m.J5-1},c.bad⟩
def tK (c:CS)(a:Int):Int:=if bo a=true then aL c.m a else 0
def jD (c:CS):Int:=tK c c.m.J5
def FG (c:CS)(a v:Int):CS:=if bo a=true then⟨gD c.m a v,c.bad⟩else⟨c.m,true⟩
def kq:Nat->CS->CS
 | 0,c=>c
 | n+1,c=>kq n (dT c 0)
def mh (a n:Int):Int:=if af a (-100000) 100000=true then wr (a+n)else -1
def DR (c:CS)(a:Int):CS:=dT (cAt c a) (tK c a)
def zd (c:CS)(a:Int):CS:=FG (au c) a (jD c)
def GG (c:CS)(k:Int):CS:=dT (au (au c)) (dX k (jD (au c)) (jD c))
def AQ (c:CS)(a:Int):CS:=if jD c=0 then om (au c) a else au c
def Bl (c:CS)(es:List Int)(a:Int):CS:=match es[a.toNat]? with
 | some e=>⟨{(dT c c.m.K0).m with K0:=e},(dT c c.m.K0).bad⟩
 | none=>⟨c.m,true⟩
def HE (c:CS)(n:Nat):CS:=kq n ⟨{(dT c c.m.L0).m with L0:=(dT c c.m.L0).m.J5},(dT c c.m.L0).bad⟩
def qFp (c:CS):CS:=⟨{(au c).m with L0:=jD c},(au c).bad⟩
def qPc (c:CS):CS:=⟨{(au c).m with K0:=jD c},(au c).bad⟩
def vo (c:CS)(n:Nat):CS:=if af (au c).m.L0 0 1200=true then dT (bz n (qPc (qFp (cX (au c))))) (jD c)else⟨(au c).m,true⟩
def El (c:CS)(n:Nat):CS:=dT (bz (n%16) (qPc (bz (n/16) (au c)))) (jD c)
def Du (c:CS):CS:=⟨{(au c).m with L7:=(au c).m.L7++[jD c]},(au c).bad⟩
def eL (es:List Int)(c:CS)(x:LS):CS:=
 if x.I9=0 then dT c x.J7
 else if x.I9=1 then DR c (mh c.m.L0 x.J7)
 else if x.I9=3 then DR c (wr (c.m.J5+x.J7))
 else if x.I9=2 then zd c (mh c.m.L0 x.J7)
 else if x.I9=4 then zd c (wr (c.m.J5+x.J7))
 else if x.I9=10 then om c x.J7
 else if x.I9=11 then AQ c x.J7
 else if x.I9=12 then Bl c es x.J7
 else if x.I9=13 then HE c x.J7.toNat
 else if x.I9=15 then kq x.J7.toNat c
 else if x.I9=14 then vo c x.J7.toNat
 else if x.I9=16 then El c x.J7.toNat
 else if x.I9=17 then Du c
 else GG c (x.I9-3)
def Rel (c d:CS):Prop:=c.bad=d.bad/\(c.bad=false->c.m=d.m/\0<=c.m.J5/\c.m.J5<=1200)
theorem Rel.bad {m m':LQ}:Rel ⟨m,true⟩ ⟨m',true⟩:=⟨rfl,fun h=>by cases h⟩
theorem xm {c:CS}{v:Int}(h:c.bad=true):(bi c v).bad=true:=by simp[bi,h]
theorem qS {c:CS}{v:Int}(h:c.bad=true):(dT c v).bad=true:=by unfold dT;split<;>simp[h]
theorem mT {c:CS}(h:c.bad=true):(au c).bad=true:=by simp[au,h]
theorem Ib {c:CS}(h:bo c.m.J5=false):(au c).bad=true:=by simp[au,h]
theorem rd:∀{n:Nat} {c:CS},c.bad=true->(bz n c).bad=true
 | 0,_,h=>h
 | n+1,_,h=>rd (n:=n) (mT h)
theorem Rel.of_bad {c d:CS}(h1:c.bad=true)(h2:d.bad=true):Rel c d:=⟨h1.trans h2.symm,fun h=>by rw[h1]at h;cases h⟩
theorem iy {c d:CS}{v v':Int}(h:Rel c d)(hv:c.bad=false->v=v'):Rel (bi c v) (dT d v'):=by
 obtain⟨h1,h2⟩:=h
 cases hb:c.bad with
 | true=>exact .of_bad (xm hb) (qS (h1▸hb))
 | false=>
  obtain⟨h3,h4,h5⟩:=h2 hb;obtain⟨m,b⟩:=c;obtain⟨m',b'⟩:=d
  dsimp only at *
  subst h3;subst h1;subst hb;rw[hv rfl];unfold bi dT;dsimp only;have hw:wr (m.J5-1)=m.J5-1:=c6 _ o_;rw[hw];by_cases hs:m.J5<1\/1200<m.J5
  ·have hn:bo (m.J5-1)=false:=by cases hi:bo (m.J5-1)with|false=>rfl|true=>have:=inStk_iff.1 hi;omega
   rw[c7 hs,c7 (by simp[hn])];exact .bad
  ·have hn:bo (m.J5-1)=true:=inStk_iff.2 o_;rw[b8 hs,b8 (by simp[hn])];exact⟨rfl,fun _=>⟨rfl,g_,g_⟩⟩
theorem fJ {c d:CS}(h:Rel c d):Rel (au c) (au d):=by
 obtain⟨h1,h2⟩:=h
 cases hb:c.bad with
 | true=>exact .of_bad (mT hb) (mT (h1▸hb))
 | false=>
  obtain⟨h3,h4,h5⟩:=h2 hb;obtain⟨m,b⟩:=c;obtain⟨m',b'⟩:=d
  dsimp only at *
  subst h3;subst h1;subst hb;refine⟨rfl,fun hn=>⟨rfl,?_⟩⟩;unfold au at hn⊢;dsimp only at hn⊢;split at hn
  ·cases hn
  ·rename_i hi;rw[b8 hi];have:bo m.J5=true:=(by simpa using hi);have:=inStk_iff.1 this;dsimp only;omega
theorem ip {c d:CS}(h:Rel c d)(hb:(au c).bad=false):kX c=jD d:=by
 obtain⟨h1,h2⟩:=h;unfold au at hb;split at hb
 ·cases hb
 ·rename_i hi;have SR:c.bad=false/\bo c.m.J5=true:=by simpa using hi
  obtain⟨h3,_⟩:=h2 SR.1;unfold kX jD tK;rw[b8 hi,<-h3,c7 SR.2]
theorem pJ:∀{n:Nat} {c d:CS},Rel c d->Rel (bz n c) (bz n d)
 | 0,_,_,h=>h
 | n+1,_,_,h=>pJ (n:=n) (fJ h)
theorem rz:∀{n:Nat} {c:CS},(bz n c).bad=false->c.bad=false
 | n,c,h=>by cases hb:c.bad with
  | false=>rfl
  | true=>rw[rd hb]at h;cases h
theorem qA {c:CS}(h:(au c).bad=false):c.bad=false:=by cases hb:c.bad with
  | false=>rfl
  | true=>rw[mT hb]at h;cases h
theorem rG:∀{n:Nat} {c d:CS},Rel c d->Rel (dE n c) (kq n d)
 | 0,_,_,h=>h
 | n+1,_,_,h=>rG (n:=n) (iy h fun _=>rfl)
theorem Bf {c d:CS}{a a':Int}(h:Rel c d)(hi:bo a=bo a')(ha:bo a=true->a=a'):Rel (gC c a) (DR d a'):=by
 obtain⟨h1,h2⟩:=h;unfold gC DR cAt;rw[<-hi]
 cases hb:c.bad with
 | true=>exact .of_bad s_ (qS (by simp[<-h1,hb]))
 | false=>
  obtain⟨h3,h4,h5⟩:=h2 hb
  cases hn:bo a with
  | false=>exact .of_bad s_ (qS s_)
  | true=>
   have e:=ha hn;subst e;rw[b8 s_];refine iy ⟨?_,fun _=>⟨h3,h4,h5⟩⟩ fun _=>?_
   ·simp[<-h1,hb]
   ·rw[tK,c7 hn,h3]
theorem xJ {c d:CS}{a a':Int}(h:Rel c d)(hi:bo a=bo a')(ha:bo a=true->a=a'):Rel (dl c a) (zd d a'):=by
 have hp:=fJ h;have ht:=ip h;unfold dl zd FG;rw[<-hi]
 cases hb:(au c).bad with
 | true=>
  rw[c7 s_];refine .of_bad rfl ?_;split
  ·rw[<-hp.1];exact hb
  ·rfl
 | false=>
  obtain⟨h3,h4,h5⟩:=hp.2 hb
  cases hn:bo a with
  | false=>rw[c7 s_,b8 s_];exact .bad
  | true=>have e:=ha hn;subst e;rw[b8 s_,c7 rfl,ht hb,<-h3];exact⟨by rw[<-hp.1,hb],fun _=>⟨rfl,h4,h5⟩⟩
theorem Ei {f n:Int}(hf:inI f)(hn:-65536<=n/\n<=65536):bo (wr (f+n))=bo (mh f n)/\(bo (wr (f+n))=true->wr (f+n)=mh f n):=by
 unfold mh;by_cases hw:af f (-100000) 100000=true
 ·rw[c7 hw];exact⟨rfl,fun _=>rfl⟩
 ·rw[b8 hw];have h0:¬(-100000<=f/\f<=100000):=fun h=>hw (within_iff.2 h)
  have:bo (wr (f+n))=false:=by
   cases hi:bo (wr (f+n))with
   | false=>rfl
   | true=>
    exfalso;have h1:=inStk_iff.1 hi;unfold inI at hf;have e:wr (f+n)=if(f+n)%18446744073709551616≥9223372036854775808 then(f+n)%18446744073709551616-18446744073709551616 else(f+n)%18446744073709551616:=by simp[wr,IntKind.wrap,IntKind.bits,IntKind.signed]
    rw[e]at h1;split at h1<;>omega
  rw[this];exact⟨d_,fun h=>by cases h⟩
theorem Am (es:List Int)(m:LQ)(x:LS)(NC:0<=m.J5/\m.J5<=1200)(NQ:inI m.L0)(hc:0<=x.I9/\x.I9<=17)(h1:12<=x.I9->x.I9<=16->0<=x.J7/\x.J7<=65536)(h2:1<=x.I9->x.I9<=11->-65536<=x.J7/\x.J7<=65536):
  Rel (bJ es ⟨m,false⟩ x) (eL es ⟨m,false⟩ x):=by
 have h0:Rel ⟨m,false⟩ ⟨m,false⟩:=⟨rfl,fun _=>⟨rfl,NC⟩⟩;obtain⟨k,a⟩:=x;dsimp only at hc h1 h2
 generalize hd:(⟨m,false⟩:CS)=d at *
 have Yh:d.m.L0=m.L0:=by rw[<-hd]
 unfold bJ eL;dsimp only;by_cases e0:k=0
 ·rw[c7 e0,c7 e0];exact iy h0 fun _=>rfl
 rw[b8 e0,b8 e0];by_cases e1:k=1
 ·rw[c7 e1,c7 e1];have:=Ei (n:=a) NQ (h2 o_ o_);rw[Yh];exact Bf h0 this.1 this.2
 rw[b8 e1,b8 e1];by_cases e3:k=3
 ·rw[c7 e3,c7 e3];exact Bf h0 rfl fun _=>rfl
 rw[b8 e3,b8 e3];by_cases e2:k=2
 ·rw[c7 e2,c7 e2];have:=Ei (n:=a) NQ (h2 o_ o_);rw[Yh];exact xJ h0 this.1 this.2
 rw[b8 e2,b8 e2];by_cases e4:k=4
 ·rw[c7 e4,c7 e4];exact xJ h0 rfl fun _=>rfl
 rw[b8 e4,b8 e4];by_cases e59:5<=k/\k<=9
 ·rw[c7 e59,b8 o_,b8 o_,b8 o_,b8 o_,b8 o_,b8 o_,b8 o_,b8 o_];unfold ls GG;refine iy (fJ (fJ h0)) fun hb=>?_;rw[ip h0 (qA hb),ip (fJ h0) hb]
 rw[b8 e59];by_cases e10:k=10
 ·rw[c7 e10,c7 e10];unfold om;exact⟨rfl,fun hb=>⟨rfl,(h0.2 hb).2⟩⟩
 rw[b8 e10,b8 e10];by_cases e11:k=11
 ·rw[c7 e11,c7 e11];unfold pP AQ;have hp:=fJ h0
  cases hb:(au d).bad with
  | true=>refine .of_bad ?_ ?_<;>split<;>simp[om,hb]
  | false=>
   rw[ip h0 hb];split
   ·unfold om;exact⟨rfl,fun hb=>⟨rfl,(hp.2 hb).2⟩⟩
   ·exact hp
 rw[b8 e11,b8 e11];by_cases e12:k=12
 ·rw[c7 e12,c7 e12];have hp:=iy (v:=d.m.K0) (v':=d.m.K0) h0 fun _=>rfl;unfold qD Bl
  cases he:es[a.toNat]? with|some e=>exact⟨hp.1,fun hb=>by obtain⟨g1,g2,g3⟩:=hp.2 hb;exact⟨by dsimp only;rw[g1],g2,g3⟩⟩|none=>exact .bad
 rw[b8 e12,b8 e12];by_cases e13:k=13
 ·rw[c7 e13,c7 e13];have hp:=iy (v:=d.m.L0) (v':=d.m.L0) h0 fun _=>rfl;unfold rT HE;refine rG ⟨hp.1,fun hb=>?_⟩;obtain⟨g1,g2,g3⟩:=hp.2 hb;exact⟨by dsimp only;rw[g1],g2,g3⟩
 rw[b8 e13,b8 e13];by_cases e15:k=15
 ·rw[c7 e15,c7 e15];exact rG h0
 rw[b8 e15,b8 e15];by_cases e14:k=14
 ·rw[c7 e14,c7 e14];unfold rU vo;have hp:=fJ h0;by_cases hw:af (au d).m.L0 0 1200=true
  ·rw[c7 hw];have WH:=within_iff.1 hw;have MM:Rel (cX (au d)) (cX (au d)):=⟨rfl,fun _=>⟨rfl,WH.1,WH.2⟩⟩;have p2:=fJ MM
   have r3:Rel (cFp (cX (au d))) (qFp (cX (au d))):=⟨p2.1,fun hb=>by
    unfold cFp qFp;rw[ip MM hb]
    exact⟨rfl,(p2.2 hb).2⟩⟩
   have p3:=fJ r3
   have r4:Rel (cPc (cFp (cX (au d)))) (qPc (qFp (cX (au d)))):=⟨p3.1,fun hb=>by
    obtain⟨g1,g2,g3⟩:=p3.2 hb;unfold cPc qPc;rw[ip r3 hb]
    exact⟨by dsimp only;rw[g1],g2,g3⟩⟩
   refine iy (pJ r4) fun hb=>ip h0 ?_;have b0:(cPc (cFp (cX (au d)))).bad=false:=rz hb;have b1:(au (cFp (cX (au d)))).bad=false:=b0;have Zw:(cFp (cX (au d))).bad=false:=qA b1;have b2:(au (cX (au d))).bad=false:=Zw;have b2':(cX (au d)).bad=false:=qA b2;exact b2'
  ·rw[b8 hw];refine .of_bad ?_ rfl;refine xm (rd ?_);show(au (cFp (cX (au d)))).bad=true;refine mT ?_;show(au (cX (au d))).bad=true
   have hn:bo (au d).m.L0=false:=by cases hi:bo (au d).m.L0 with|false=>rfl|true=>exact absurd (within_iff.2 (by have:=inStk_iff.1 hi;omega)) hw
   exact Ib (c:=cX (au d)) hn
 rw[b8 e14,b8 e14];by_cases e16:k=16
 ·rw[c7 e16,c7 e16];unfold nH El;have hp:=fJ h0;have r2:=pJ (n:=a.toNat/16) hp;have p3:=fJ r2
  have r4:Rel (cPc (bz (a.toNat/16) (au d))) (qPc (bz (a.toNat/16) (au d))):=⟨p3.1,fun hb=>by
   obtain⟨g1,g2,g3⟩:=p3.2 hb;unfold cPc qPc;rw[ip r2 hb]
   exact⟨rfl,g2,g3⟩⟩
  refine iy (pJ r4) fun hb=>ip h0 ?_;have b0:(cPc (bz (a.toNat/16) (au d))).bad=false:=rz hb;have b1:(au (bz (a.toNat/16) (au d))).bad=false:=b0;have b2:(bz (a.toNat/16) (au d)).bad=false:=qA b1;exact rz b2
 rw[b8 e16,b8 e16];have e17:k=17:=o_;rw[c7 e17,c7 e17];have hp:=fJ h0;unfold Kh Du;refine⟨rfl,fun hb=>?_⟩;rw[ip h0 hb];exact⟨rfl,(hp.2 hb).2⟩
abbrev Lp (m:LQ)(bad:Bool)(st out:Sim.Id):AO:= .box [.t (.int .i64 m.K0),.t (.int .i64 m.J5),.t (.int .i64 m.L0),.own st,.own out,.t (.int .i64 m.L6),.t (.int .i64 m.faG),.t (.bool bad)]
abbrev mD (c:CS):List (Sim.Id×AO):=[((0,0,0),Lp c.m c.bad (0,0,1) (0,0,2)),((0,0,1),.arr false 1 (c.m.Mg.map aa)),((0,0,2),.arr false 1 (c.m.L7.map aa))]
abbrev LE (c:CS):List (Sim.Id×AO):=[((0,0,0),Lp c.m c.bad (0,0,1) (1,0,0)),((0,0,1),.arr false 1 (c.m.Mg.map aa)),((1,0,0),.arr false 1 (c.m.L7.map aa))]
theorem V56{p:Prop}(h:p:=by
 repeat' ((conv=>whnf);first|refine Or.inl ?_|apply oi|apply fi|intro h|refine ci hb (ai rfl (ai rfl (ai rfl trivial))) ?_|exact Y1|refine e_ rfl ?_)
 all_goals try(exfalso;simp at h;done)):p:=h
theorem np (a n:Int):Sim.Spec prog 201 [tvI a,tvI n] (rI (mh a n)):=by
 refine ak hΓ aG func201 rfl d_ rfl ?_;have hb:=aP a (-100000) 100000;unfold mh
 cases hin:af a (-100000) 100000
 all_goals
  rw[hin]at hb;exact V56
theorem eb (c:CS)(v:Int)(hc:c.ok):bA prog 200 [oe,tI .i64 v] (mD c) (.tup []) (mD (dT c v)):=by
 refine eT hΓ aG func200 rfl d_ rfl rfl ?_;obtain⟨m,bad⟩:=c;unfold CS.ok at hc;unfold dT;dsimp only at hc⊢;by_cases hs:m.J5<1\/1200<m.J5
 ·rw[c7 hs];repeat' ((conv=>whnf);first|refine aI ?_|apply aB|apply oi|apply fi|intro h|exact Y15|refine e_ rfl ?_)
 ·rw[b8 hs];have hw:wr (m.J5-1)=m.J5-1:=c6 _ o_;obtain⟨j,x,hj,hx,Mz,_⟩:=Cz (a:=m.J5-1) hc (inStk_iff.2 o_);have Mw:(m.Mg.map aa).length=m.Mg.length:=s_;repeat' ((conv=>whnf);first|refine aI ?_|apply aB|apply oi|apply fi|intro h|exact Y15|refine e_ rfl ?_)
  conv=>whnf
  refine⟨j,by rw[<-hj];exact hw,by rw[Mw];exact Mz,?_⟩;repeat' ((conv=>whnf);first|refine aI ?_|apply aB|apply oi|apply fi|intro h|refine⟨(aa x),ab hx,?_⟩|exact Y1|refine e_ rfl ?_)
  all_goals first
   | exact⟨congrArg (Tr.int _) hw⟩
   |(refine⟨?_⟩;rw[<-show(m.J5-1).toNat=j by rw[hj];rfl];exact Bu)
theorem jq (c:CS)(a:Int)(hc:c.ok):bA prog 142 [oe,tI .i64 a] (mD c) (tI .i64 (tK c a)) (mD (cAt c a)):=by
 refine eT hΓ aG func142 rfl d_ rfl rfl ?_;obtain⟨m,bad⟩:=c;unfold CS.ok at hc;have hb:=aP a 0 1199;unfold cAt tK;dsimp only at hc⊢
 cases hi:bo a with
 | false=>
  rw[show af a 0 1199=false from hi]at hb;rw[b8 s_];repeat' ((conv=>whnf);first|refine Or.inl ?_|apply oi|apply fi|intro h|refine ci hb (ai rfl (ai rfl (ai rfl trivial))) ?_|exact Y1|refine e_ rfl ?_)
  all_goals try exact Q4
  all_goals try(refine⟨congrArg Tr.bool ?_⟩;simp)
 | true=>
  rw[show af a 0 1199=true from hi]at hb;rw[c7 rfl];obtain⟨j,x,hj,hx,Mz,_⟩:=Cz hc hi;have Mw:(m.Mg.map aa).length=m.Mg.length:=s_;rw[show aL m a=x by simp[aL,hj,hx]];repeat' ((conv=>whnf);first|refine Or.inl ?_|apply oi|apply fi|intro h|refine ci hb (ai rfl (ai rfl (ai rfl trivial))) ?_|exact Y1|refine e_ rfl ?_)
  all_goals try exact Q4
  conv=>whnf
  refine⟨j,hj,by rw[Mw];exact Mz,?_⟩;repeat' ((conv=>whnf);first|refine Or.inl ?_|apply oi|apply fi|intro h|refine⟨(aa x),ab hx,?_⟩|exact Y1|refine e_ rfl ?_)
  all_goals try(refine⟨congrArg Tr.bool ?_⟩;simp)
theorem dq (c:CS)(hc:c.ok):bA prog 203 [oe] (mD c) (tI .i64 (jD c)) (mD (au c)):=by
 refine eT hΓ aG func203 rfl d_ rfl rfl ?_;have hP:=jq c c.m.J5 hc;obtain⟨m,bad⟩:=c
 unfold jD au cAt at *
 dsimp only at hP⊢
 cases hB:(bad||!bo m.J5)with
 | true=>
  rw[hB]at hP;repeat' ((conv=>whnf);first|refine cg hP ?_|refine aI ?_|apply aB|apply oi|apply fi|intro h|exact Y1|refine e_ rfl ?_)
  all_goals try exact Q4
 | false=>
  rw[hB]at hP;obtain⟨_,hin⟩:=EW hB;have:=inStk_iff.1 hin;have hw:IntKind.i64.wrap (m.J5+1)=m.J5+1:=c6 _ o_;repeat' ((conv=>whnf);first|refine cg hP ?_|refine aI ?_|apply aB|apply oi|apply fi|intro h|exact Y1|refine e_ rfl ?_)
  all_goals try exact Q4
  all_goals exact⟨congrArg (Tr.int _) hw⟩
theorem xW (c:CS)(a v:Int)(hc:c.ok):bA prog 202 [oe,tI .i64 a,tI .i64 v] (mD c) (.tup []) (mD (FG c a v)):=by
 refine eT hΓ aG func202 rfl d_ rfl rfl ?_;obtain⟨m,bad⟩:=c;unfold CS.ok at hc;have hb:=aP a 0 1199;unfold FG;dsimp only at hc⊢
 cases hi:bo a with
 | false=>
  rw[show af a 0 1199=false from hi]at hb;rw[b8 s_]
  exact V56
 | true=>
  rw[show af a 0 1199=true from hi]at hb;rw[c7 rfl];obtain⟨j,x,hj,hx,Mz,_⟩:=Cz hc hi;have Mw:(m.Mg.map aa).length=m.Mg.length:=s_;repeat' ((conv=>whnf);first|refine Or.inl ?_|apply oi|apply fi|intro h|refine ci hb (ai rfl (ai rfl (ai rfl trivial))) ?_|exact Y1|refine e_ rfl ?_)
  all_goals try exact Q4
  conv=>whnf
  refine⟨j,hj,by rw[Mw];exact Mz,?_⟩;repeat' ((conv=>whnf);first|refine Or.inl ?_|apply oi|apply fi|intro h|refine⟨(aa x),ab hx,?_⟩|exact Y1|refine e_ rfl ?_)
  all_goals try(refine⟨?_⟩;rw[<-show a.toNat=j by rw[hj];rfl];exact Bu)
theorem eQ {c:CS}{v:Int}(h:c.ok):(dT c v).ok:=by
 unfold dT CS.ok at *
 split
 ·exact h
 ·simpa [gD]using h
theorem ry:∀{n:Nat} {c:CS},c.ok->(kq n c).ok
 | 0,_,h=>h
 | n+1,c,h=>ry (n:=n) (eQ h)
theorem GQ {c:CS}{a:Int}(h:c.ok):(cAt c a).ok:=h
theorem V64{p:Prop}(h:p:=by
 subst hr;repeat' ((conv=>whnf);first|refine aI ?_|apply aB|apply oi|apply fi|intro h|exact Y1|refine e_ rfl ?_)
 all_goals try(exfalso;have h':=f0 h;omega)):p:=h
theorem pq (c:CS)(n:Nat)(hc:c.ok)(hn:n<=65536):bA prog 205 [oe,tI .i64 (n:Int)] (mD c) (.tup []) (mD (bz n c)):=by
 refine eT hΓ aG func205 rfl d_ rfl rfl ?_;obtain⟨R,hR⟩:∃R,bz n c=R:=⟨_,rfl⟩;rw[hR];repeat' ((conv=>whnf);first|refine aI ?_|apply aB|apply oi|apply fi|intro h|exact Y1|refine e_ rfl ?_)
 conv=>whnf
 refine⟨{q:Nat×CS//q.1<=n/\q.2.ok/\bz (n-q.1) q.2=R},fun q=>⟨[(0,oe),(1,tI .i64 (n:Int)),(4,tI .i64 (q.1.1:Int))],(mD q.1.2).map fun p=>(p.1,some p.2),[0]⟩,fun q=>n-q.1.1,⟨(0,c),o_,hc,hR⟩,?_,?_⟩
 ·repeat' ((conv=>whnf);first|refine aI ?_|apply aB|apply oi|apply fi|intro h|exact Y1|refine e_ rfl ?_)
 intro⟨⟨k,d⟩,hk,hd,hr⟩;dsimp only at hk hd hr⊢;by_cases Mz:k<n
 ·obtain⟨j,hj⟩:∃j,n-k=j+1:=⟨n-k-1,o_⟩;rw[hj,bz]at hr;have hP:=dq d hd;repeat' ((conv=>whnf);first|refine cg hP ?_|refine aI ?_|apply aB|apply oi|apply fi|intro h|exact Y1|refine e_ rfl ?_)
  all_goals try exact Q19
  conv=>whnf
  refine⟨⟨(k+1,au d),g_,bf hd,by rw[show n-(k+1)=j by omega];exact hr⟩,?_,KD⟩;repeat' ((conv=>whnf);first|refine aI ?_|apply aB|apply oi|apply fi|intro h|exact Y1|refine e_ rfl ?_)
  all_goals try(refine⟨congrArg (Tr.int _) ?_⟩;dsimp only;rw[c6 _ o_];omega)
 ·rw[show n-k=0 by omega,bz]at hr;exact V64
theorem ss (c:CS)(n:Nat)(hc:c.ok)(hn:n<=65536):bA prog 204 [oe,tI .i64 (n:Int)] (mD c) (.tup []) (mD (kq n c)):=by
 refine eT hΓ aG func204 rfl d_ rfl rfl ?_;obtain⟨R,hR⟩:∃R,kq n c=R:=⟨_,rfl⟩;rw[hR];repeat' ((conv=>whnf);first|refine aI ?_|apply aB|apply oi|apply fi|intro h|exact Y1|refine e_ rfl ?_)
 conv=>whnf
 refine⟨{q:Nat×CS//q.1<=n/\q.2.ok/\kq (n-q.1) q.2=R},fun q=>⟨[(0,oe),(1,tI .i64 (n:Int)),(4,tI .i64 (q.1.1:Int))],(mD q.1.2).map fun p=>(p.1,some p.2),[0]⟩,fun q=>n-q.1.1,⟨(0,c),o_,hc,hR⟩,?_,?_⟩
 ·repeat' ((conv=>whnf);first|refine aI ?_|apply aB|apply oi|apply fi|intro h|exact Y1|refine e_ rfl ?_)
 intro⟨⟨k,d⟩,hk,hd,hr⟩;dsimp only at hk hd hr⊢;by_cases Mz:k<n
 ·obtain⟨j,hj⟩:∃j,n-k=j+1:=⟨n-k-1,o_⟩;rw[hj,kq]at hr;have hP:=eb d 0 hd;repeat' ((conv=>whnf);first|refine cg hP ?_|refine aI ?_|apply aB|apply oi|apply fi|intro h|exact Y1|refine e_ rfl ?_)
  all_goals try exact Q19
  conv=>whnf
  refine⟨⟨(k+1,dT d 0),g_,eQ hd,by rw[show n-(k+1)=j by omega];exact hr⟩,?_,KD⟩;repeat' ((conv=>whnf);first|refine aI ?_|apply aB|apply oi|apply fi|intro h|exact Y1|refine e_ rfl ?_)
  all_goals try(refine⟨congrArg (Tr.int _) ?_⟩;dsimp only;rw[c6 _ o_];omega)
 ·rw[show n-k=0 by omega,kq]at hr;exact V64
theorem Jn {v v':Int}{R:List Sim.Id}(h:v=v'):(⟨tI .i64 v,[],none,R⟩:Eff)=⟨tI .i64 v',[],none,R⟩:=by rw[h]
def adv (c:CS)(z:Int):CS:=⟨{c.m with K0:=wr (c.m.K0+z)},c.bad⟩
theorem V77{p:Prop}(h:p:=by
 repeat' ((conv=>whnf);first|refine cg hQ ?_|refine cg hP ?_|refine aI ?_|apply aB|apply oi|apply fi|intro h|exact Y1|refine e_ rfl ?_)):p:=h
theorem wX (s:LX)(c:CS)(x:LS)(z:Int)(hc:c.ok)(hx:x.I9≠17)(h0:0<=x.I9/\x.I9<=17)(ha:12<=x.I9->x.I9<=16->0<=x.J7/\x.J7<=65536)(he:s.L9.length<=1048576):bA prog 141 [.r (.agg (s.tr.map .t)),oe,opV x,tI .i64 z] (mD c) (.tup []) (mD (eL s.L9 (adv c z) x)):=by
 obtain⟨k,a⟩:=x;dsimp only at hx ha h0;refine eT hΓ aG func141 rfl d_ rfl rfl ?_;obtain⟨d,hd⟩:∃d,adv c z=d:=⟨_,rfl⟩;have hdo:d.ok:=by rw[<-hd];exact hc
 by_cases e0:k=0
 ·subst e0;have hP:=eb (adv c z) a hc;repeat' ((conv=>whnf);first|refine cg hP ?_|refine aI ?_|apply aB|apply oi|apply fi|intro h|exact Y1|refine e_ rfl ?_)
 by_cases e1:k=1
 ·subst e1;have hN:=np c.m.L0 a;have hQ:=jq (adv c z) (mh c.m.L0 a) hc;have hP:=eb (cAt (adv c z) (mh c.m.L0 a)) (tK (adv c z) (mh c.m.L0 a)) hc;repeat' ((conv=>whnf);first|refine cg hQ ?_|refine cg hP ?_|refine aI ?_|apply aB|apply oi|apply fi|intro h|refine cl hN ?_|exact Y1|refine e_ rfl ?_)
 by_cases e3:k=3
 ·subst e3;have hQ:=jq (adv c z) (wr (c.m.J5+a)) hc;have hP:=eb (cAt (adv c z) (wr (c.m.J5+a))) (tK (adv c z) (wr (c.m.J5+a))) hc;exact V77
 by_cases e2:k=2
 ·subst e2;have hN:=np c.m.L0 a;have hQ:=dq (adv c z) hc;have hP:=xW (au (adv c z)) (mh c.m.L0 a) (jD (adv c z)) (bf hc);have hf:(au (adv c z)).m.L0=c.m.L0:=by unfold au;split<;>rfl
  repeat' ((conv=>whnf);first|refine cg hQ ?_|refine cg hP ?_|refine aI ?_|refine DZ 5 10 ?_|apply oi|apply fi|intro h|refine cl hN ?_|exact Y16|refine e_ rfl ?_)
  all_goals(refine⟨?_⟩;(conv=>whnf);exact Jn hf)
 by_cases e4:k=4
 ·subst e4;have hQ:=dq (adv c z) hc;have hP:=xW (au (adv c z)) (wr (c.m.J5+a)) (jD (adv c z)) (bf hc);exact V77
 by_cases e10:k=10
 ·subst e10;repeat' ((conv=>whnf);first|refine aI ?_|apply aB|apply oi|apply fi|intro h|exact Y1|refine e_ rfl ?_)
 by_cases e11:k=11
 ·subst e11;have hP:=dq (adv c z) hc;by_cases hz:jD (adv c z)=0
  ·rw[show eL s.L9 (adv c z) ⟨11,a⟩=om (au (adv c z)) a by simp[eL,AQ,hz]];repeat' ((conv=>whnf);first|refine cg hP ?_|refine aI ?_|apply aB|apply oi|apply fi|intro h|exact Y1|refine e_ rfl ?_)
   all_goals try(exfalso;rw[hz]at h;simp at h;done)
  ·rw[show eL s.L9 (adv c z) ⟨11,a⟩=au (adv c z) by simp[eL,AQ,hz]];repeat' ((conv=>whnf);first|refine cg hP ?_|refine aI ?_|apply aB|apply oi|apply fi|intro h|exact Y1|refine e_ rfl ?_)
   all_goals try(exfalso;exact hz aad)
 by_cases e12:k=12
 ·subst e12;obtain⟨a0,a1⟩:=ha o_ o_;obtain⟨n,rfl⟩:=j6 a0;have hP:=eb (adv c z) (adv c z).m.K0 hc;have M6:(s.L9.map aa).length=s.L9.length:=s_;by_cases hn:n<s.L9.length
  ·obtain⟨e,NL⟩:=ae hn;rw[show eL s.L9 (adv c z) ⟨12,(n:Int)⟩=⟨{(dT (adv c z) (adv c z).m.K0).m with K0:=e},(dT (adv c z) (adv c z).m.K0).bad⟩ by simp[eL,Bl,NL]];repeat' ((conv=>whnf);first|refine cg hP ?_|refine aI ?_|apply aB|apply oi|apply fi|intro h|refine⟨n,(aa e),rfl,ab NL,?_⟩|exact Y1|refine e_ rfl ?_)
   all_goals try(exfalso;have h':=f0 h;rw[M6]at h';dsimp only at h';omega)
  ·have Pk:s.L9[n]?=none:=e9 o_;rw[show eL s.L9 (adv c z) ⟨12,(n:Int)⟩=⟨(adv c z).m,true⟩ by simp[eL,Bl,Pk]];repeat' ((conv=>whnf);first|refine cg hP ?_|refine aI ?_|apply aB|apply oi|apply fi|intro h|exact Y1|refine e_ rfl ?_)
   all_goals try(exfalso;have h':=f9 h;rw[M6]at h';dsimp only at h';omega)
 by_cases e13:k=13
 ·subst e13;obtain⟨a0,a1⟩:=ha o_ o_;obtain⟨n,rfl⟩:=j6 a0;have hP:=eb (adv c z) c.m.L0 hc;have hZ:=ss ⟨{(dT (adv c z) c.m.L0).m with L0:=(dT (adv c z) c.m.L0).m.J5},(dT (adv c z) c.m.L0).bad⟩ n (eQ (c:=adv c z) hc) o_;repeat' ((conv=>whnf);first|refine cg hP ?_|refine cg hZ ?_|refine aI ?_|apply aB|apply oi|apply fi|intro h|exact Y1|refine e_ rfl ?_)
 by_cases e15:k=15
 ·subst e15;obtain⟨a0,a1⟩:=ha o_ o_;obtain⟨n,rfl⟩:=j6 a0;have hZ:=ss (adv c z) n hc o_;repeat' ((conv=>whnf);first|refine cg hZ ?_|refine aI ?_|apply aB|apply oi|apply fi|intro h|exact Y1|refine e_ rfl ?_)
 by_cases e14:k=14
 ·subst e14;obtain⟨a0,a1⟩:=ha o_ o_;obtain⟨n,rfl⟩:=j6 a0;have Qb:=dq (adv c z) hc;have hb:=aP (au (adv c z)).m.L0 0 1200
  cases hw:af (au (adv c z)).m.L0 0 1200 with
  | false=>
   rw[hw]at hb;rw[show eL s.L9 (adv c z) ⟨14,(n:Int)⟩=⟨(au (adv c z)).m,true⟩ by simp[eL,vo,hw]];repeat' ((conv=>whnf);first|refine cg Qb ?_|refine aI ?_|apply aB|apply oi|apply fi|intro h|refine cl hb ?_|exact Y1|refine e_ rfl ?_)
   all_goals try exact Q4
  | true=>
   rw[hw]at hb;rw[show eL s.L9 (adv c z) ⟨14,(n:Int)⟩=dT (bz n (qPc (qFp (cX (au (adv c z)))))) (jD (adv c z)) by simp[eL,vo,hw]];have o1:(cX (au (adv c z))).ok:=bf (c:=adv c z) hc;have o2:(qFp (cX (au (adv c z)))).ok:=bf o1;have o3:(qPc (qFp (cX (au (adv c z))))).ok:=bf o2;have Sf:=dq (cX (au (adv c z))) o1;have VL:=dq (qFp (cX (au (adv c z)))) o2;have hD:=pq (qPc (qFp (cX (au (adv c z))))) n o3 o_;have Vz:=eb (bz n (qPc (qFp (cX (au (adv c z)))))) (jD (adv c z)) (fy o3);repeat' ((conv=>whnf);first|refine aI ?_|apply aB|apply oi|apply fi|intro h|exact Y1|refine e_ rfl ?_)
   refine cg (Qb) ?_;repeat' ((conv=>whnf);first|refine aI ?_|apply aB|apply oi|apply fi|intro h|refine cl hb ?_|exact Y1|refine e_ rfl ?_)
   all_goals try exact Q4
   refine cg (Sf) ?_;repeat' ((conv=>whnf);first|refine aI ?_|apply aB|apply oi|apply fi|intro h|exact Y1|refine e_ rfl ?_)
   refine cg (VL) ?_;repeat' ((conv=>whnf);first|refine cg hD ?_|refine cg Vz ?_|refine aI ?_|apply aB|apply oi|apply fi|intro h|exact Y1|refine e_ rfl ?_)
 by_cases e16:k=16
 ·subst e16;obtain⟨a0,a1⟩:=ha o_ o_;obtain⟨n,rfl⟩:=j6 a0;have o1:(au (adv c z)).ok:=bf (c:=adv c z) hc;have o2:(bz (n/16) (au (adv c z))).ok:=fy o1;have o3:(qPc (bz (n/16) (au (adv c z)))).ok:=bf o2
  have w1:IntKind.i64.wrap ((n:Int).tdiv 16)=((n/16:Nat):Int):=by rw[Int.tdiv_eq_ediv_of_nonneg o_,c6 _ o_];rfl
  have w2:(n:Int).tmod 16=((n%16:Nat):Int):=by rw[Int.tmod_eq_emod_of_nonneg o_];rfl
  have Qb:=dq (adv c z) hc;have UN:=pq (au (adv c z)) (n/16) o1 o_;have Sf:=dq (bz (n/16) (au (adv c z))) o2;have UO:=pq (qPc (bz (n/16) (au (adv c z)))) (n%16) o3 o_;have Vz:=eb (bz (n%16) (qPc (bz (n/16) (au (adv c z))))) (jD (adv c z)) (fy o3);rw[<-w1]at UN;rw[<-w2]at UO;repeat' ((conv=>whnf);first|refine aI ?_|apply aB|apply oi|apply fi|intro h|exact Y1|refine e_ rfl ?_)
  refine cg (Qb) ?_;repeat' ((conv=>whnf);first|refine aI ?_|apply aB|apply oi|apply fi|intro h|exact Y1|refine e_ rfl ?_)
  refine cg (UN) ?_;repeat' ((conv=>whnf);first|refine aI ?_|apply aB|apply oi|apply fi|intro h|exact Y1|refine e_ rfl ?_)
  refine cg (Sf) ?_;repeat' ((conv=>whnf);first|refine aI ?_|apply aB|apply oi|apply fi|intro h|exact Y1|refine e_ rfl ?_)
  refine cg (UO) ?_;repeat' ((conv=>whnf);first|refine aI ?_|apply aB|apply oi|apply fi|intro h|exact Y1|refine e_ rfl ?_)
  refine cg (Vz) ?_;repeat' ((conv=>whnf);first|refine aI ?_|apply aB|apply oi|apply fi|intro h|exact Y1|refine e_ rfl ?_)
 ·have o1:(au (adv c z)).ok:=bf (c:=adv c z) hc;have Qb:=dq (adv c z) hc;have Sf:=dq (au (adv c z)) o1;have VL:=eb (au (au (adv c z))) (dX (k-3) (jD (au (adv c z))) (jD (adv c z))) (bf o1);have hA:=pX (k-3) (jD (au (adv c z))) (jD (adv c z));have e:k=5\/k=6\/k=7\/k=8\/k=9:=o_;rcases e with rfl|rfl|rfl|rfl|rfl
  all_goals
   repeat' ((conv=>whnf);first|refine aI ?_|apply aB|apply oi|apply fi|intro h|exact Y1|refine e_ rfl ?_)
   refine cg (Qb) ?_;repeat' ((conv=>whnf);first|refine aI ?_|apply aB|apply oi|apply fi|intro h|exact Y1|refine e_ rfl ?_)
   refine cg (Sf) ?_;repeat' ((conv=>whnf);first|refine aI ?_|apply aB|apply oi|apply fi|intro h|refine cl hA ?_|exact Y1|refine e_ rfl ?_)
   refine cg (VL) ?_;repeat' ((conv=>whnf);first|refine aI ?_|apply aB|apply oi|apply fi|intro h|exact Y1|refine e_ rfl ?_)
theorem FW (s:LX)(c:CS)(a z:Int)(hc:c.ok)(ho:c.m.L7.length<=2000000):bA prog 141 [.r (.agg (s.tr.map .t)),oe,opV ⟨17,a⟩,tI .i64 z] (mD c) (.tup []) (LE (Du (adv c z))):=by
 refine eT hΓ aG func141 rfl d_ rfl rfl ?_;have hP:=dq (adv c z) hc;have XE:(au (adv c z)).m.L7.length<=2000000:=by unfold au;split<;>exact ho
 repeat' ((conv=>whnf);first|refine cg hP ?_|refine aI ?_|refine DZ 5 7 ?_|apply oi|apply fi|intro h|exact Y16|refine e_ rfl ?_)
 all_goals(refine⟨?_⟩;first|(refine And.intro ?_ ?_<;>simp only[e7,c8,d5,i8]<;>omega)|simp[Du,aa])
end Go.Proofs.P
namespace Go.Proofs.P
open Go.Sim Tryz
set_option maxRecDepth 100000
set_option maxHeartbeats 8000000
theorem aU {p:Prop}[Decidable p](Q:CS->Prop){a b:CS}(ha:Q a)(hb:Q b):Q (if p then a else b):=by split<;>assumption
theorem HK {es:List Int}{c:CS}{x:LS}(h:c.ok):(bJ es c x).ok:=by
 unfold bJ
 refine aU (CS.ok) (by
  exact gp h) ?_
 refine aU (CS.ok) (by
  exact Aw h) ?_
 refine aU (CS.ok) (by
  exact Aw h) ?_
 refine aU (CS.ok) (by
  exact yq h) ?_
 refine aU (CS.ok) (by
  exact yq h) ?_
 refine aU (CS.ok) (by
  exact gp (bf (bf h))) ?_
 refine aU (CS.ok) (by
  exact h) ?_
 refine aU (CS.ok) (by
  unfold pP;split
  ·exact bf h
  ·exact bf h) ?_
 refine aU (CS.ok) (by
  unfold qD;split
  ·exact gp h
  ·exact gp h) ?_
 refine aU (CS.ok) (by
  exact rQ (gp h)) ?_
 refine aU (CS.ok) (by
  exact rQ h) ?_
 refine aU (CS.ok) (by
  exact gp (fy (bf (bf (bf h))))) ?_
 refine aU (CS.ok) (by
  exact gp (fy (bf (fy (bf h))))) ?_
 refine aU (CS.ok) (by
  exact bf h) ?_
 exact h
def MW (m:LQ):Prop:=(∀w∈m.Mg,inI w)/\inI m.K0/\inI m.L0
theorem HU (n:Int):inI (wr n):=by
 have e:wr n=if n%18446744073709551616≥9223372036854775808 then n%18446744073709551616-18446744073709551616 else n%18446744073709551616:=by simp[wr,IntKind.wrap,IntKind.bits,IntKind.signed]
 unfold inI;rw[e];split<;>omega
theorem tV:inI 0:=by unfold inI;omega
theorem yl {m:LQ}(h:MW m)(a:Int):inI (aL m a):=by
 unfold aL;split
 ·rename_i x hx;exact h.1 _ (c9 hx)
 ·exact tV
theorem Bg {m:LQ}(h:MW m){a v:Int}(hv:inI v):MW (gD m a v):=by
 refine⟨fun w hw=>?_,h.2⟩;rcases u6 hw with h1|h1
 ·exact h.1 w h1
 ·rw[h1];exact hv
theorem iA {c:CS}(h:MW c.m){v:Int}(hv:inI v):MW (bi c v).m:=by
 unfold bi;split
 ·exact h
 ·exact⟨(Bg h hv).1,h.2⟩
theorem fc {c:CS}(h:MW c.m):MW (au c).m:=by
 unfold au;split
 ·exact h
 ·exact h
theorem qo {c:CS}(h:MW c.m):inI (kX c):=by
 unfold kX;split
 ·exact tV
 ·exact yl h _
theorem qk:∀{n:Nat} {c:CS},MW c.m->MW (bz n c).m
 | 0,_,h=>h
 | n+1,_,h=>qk (n:=n) (fc h)
theorem rf:∀{n:Nat} {c:CS},MW c.m->MW (dE n c).m
 | 0,_,h=>h
 | n+1,_,h=>rf (n:=n) (iA h tV)
theorem Bc {c:CS}{a:Int}(h:MW c.m):MW (gC c a).m:=by
 unfold gC;split
 ·exact h
 ·exact iA (c:=⟨c.m,false⟩) h (yl h a)
theorem xq {c:CS}{a:Int}(h:MW c.m):MW (dl c a).m:=by
 have:=fc h;unfold dl;split
 ·exact this
 ·exact Bg this (qo h)
theorem Df (n:Int):inI (w32 n):=by have:=rp n;unfold inI;omega
theorem Gg (k a b:Int):inI (dX k a b):=by
 unfold dX;repeat' split
 ·exact Df _
 ·exact Df _
 ·exact Df _
 ·unfold inI;omega
 ·exact tV
theorem KU {c:CS}(h:MW c.m):MW (cFp c).m:=⟨(fc h).1,(fc h).2.1,qo h⟩
theorem Hg {c:CS}(h:MW c.m):MW (cPc c).m:=⟨(fc h).1,qo h,(fc h).2.2⟩
theorem JN {c:CS}(h:MW c.m):MW (cX c).m:=h
theorem zZ {c:CS}(h:MW c.m)(a:Int):MW (om c a).m:=⟨h.1,HU _,h.2.2⟩
theorem zI {c:CS}(h:MW c.m)(hs:inI c.m.J5)(v:Int):inI (bi c v).m.J5:=by
 unfold bi;split
 ·exact hs
 ·exact HU _
theorem HL {es:List Int}{c:CS}{x:LS}(h:MW c.m)(hs:inI c.m.J5)(ha:inI x.J7)(he:∀e∈es,inI e):MW (bJ es c x).m:=by
 unfold bJ
 refine aU (fun c=>MW c.m) (by
  exact iA h ha) ?_
 refine aU (fun c=>MW c.m) (by
  exact Bc h) ?_
 refine aU (fun c=>MW c.m) (by
  exact Bc h) ?_
 refine aU (fun c=>MW c.m) (by
  exact xq h) ?_
 refine aU (fun c=>MW c.m) (by
  exact xq h) ?_
 refine aU (fun c=>MW c.m) (by
  exact iA (fc (fc h)) (Gg _ _ _)) ?_
 refine aU (fun c=>MW c.m) (by
  exact zZ h _) ?_
 refine aU (fun c=>MW c.m) (by
  unfold pP;split
  ·exact zZ (fc h) _
  ·exact fc h) ?_
 refine aU (fun c=>MW c.m) (by
  have hp:=iA h h.2.1;unfold qD;split
  ·rename_i e NL;exact⟨hp.1,he _ (c9 NL),hp.2.2⟩
  ·exact hp) ?_
 refine aU (fun c=>MW c.m) (by
  have hp:=iA h h.2.2
  exact rf (c:=⟨{(bi c c.m.L0).m with L0:=(bi c c.m.L0).m.J5},(bi c c.m.L0).bad⟩) ⟨hp.1,hp.2.1,zI h hs _⟩) ?_
 refine aU (fun c=>MW c.m) (by
  exact rf h) ?_
 refine aU (fun c=>MW c.m) (by
  exact iA (qk (Hg (KU (JN (fc h))))) (qo h)) ?_
 refine aU (fun c=>MW c.m) (by
  exact iA (qk (Hg (qk (fc h)))) (qo h)) ?_
 refine aU (fun c=>MW c.m) (by
  exact fc h) ?_
 exact h
theorem eX {c:CS}{v:Int}:(bi c v).m.L7=c.m.L7:=by unfold bi;split<;>rfl
theorem cPop_out' {c:CS}:(au c).m.L7=c.m.L7:=by unfold au;split<;>rfl
theorem cDrop_out:∀{n:Nat} {c:CS},(bz n c).m.L7=c.m.L7
 | 0,_=>rfl
 | n+1,c=>by rw[bz,cDrop_out (n:=n),cPop_out']
theorem oz:∀{n:Nat} {c:CS},(dE n c).m.L7=c.m.L7
 | 0,_=>rfl
 | n+1,c=>by rw[dE,oz (n:=n),eX]
theorem yn {c:CS}{a:Int}:(gC c a).m.L7=c.m.L7:=by
 unfold gC;split
 ·rfl
 ·exact eX
theorem vY {c:CS}{a:Int}:(dl c a).m.L7=c.m.L7:=by
 unfold dl;split
 ·exact cPop_out'
 ·exact cPop_out'
theorem Fw {es:List Int}{c:CS}{x:LS}:(bJ es c x).m.L7.length<=c.m.L7.length+1:=by
 have key:∀l:List Int,l=c.m.L7->l.length<=c.m.L7.length+1:=fun l h=>by rw[h];omega
 unfold bJ
 refine aU (fun d=>d.m.L7.length<=c.m.L7.length+1) (by
  exact key _ eX) ?_
 refine aU (fun d=>d.m.L7.length<=c.m.L7.length+1) (by
  exact key _ yn) ?_
 refine aU (fun d=>d.m.L7.length<=c.m.L7.length+1) (by
  exact key _ yn) ?_
 refine aU (fun d=>d.m.L7.length<=c.m.L7.length+1) (by
  exact key _ vY) ?_
 refine aU (fun d=>d.m.L7.length<=c.m.L7.length+1) (by
  exact key _ vY) ?_
 refine aU (fun d=>d.m.L7.length<=c.m.L7.length+1) (by
  exact key _ (by rw[ls,eX,cPop_out',cPop_out'])) ?_
 refine aU (fun d=>d.m.L7.length<=c.m.L7.length+1) (by
  exact key _ rfl) ?_
 refine aU (fun d=>d.m.L7.length<=c.m.L7.length+1) (by
  refine key _ ?_;unfold pP;split
  ·exact cPop_out'
  ·exact cPop_out') ?_
 refine aU (fun d=>d.m.L7.length<=c.m.L7.length+1) (by
  refine key _ ?_;unfold qD;split
  ·exact eX
  ·exact eX) ?_
 refine aU (fun d=>d.m.L7.length<=c.m.L7.length+1) (by
  refine key _ ?_;rw[rT,oz];exact eX) ?_
 refine aU (fun d=>d.m.L7.length<=c.m.L7.length+1) (by
  exact key _ oz) ?_
 refine aU (fun d=>d.m.L7.length<=c.m.L7.length+1) (by
  refine key _ ?_;rw[rU,eX,cDrop_out]
  exact cPop_out'.trans (cPop_out'.trans cPop_out')) ?_
 refine aU (fun d=>d.m.L7.length<=c.m.L7.length+1) (by
  refine key _ ?_;rw[nH,eX,cDrop_out]
  exact cPop_out'.trans (cDrop_out.trans cPop_out')) ?_
 refine aU (fun d=>d.m.L7.length<=c.m.L7.length+1) (by
  show((au c).m.L7++[kX c]).length<=_;rw[c8,cPop_out']
  simp) ?_
 omega
def eF (s:LX)(a:Int):Option (LS×Nat):=if(uK s a).1<0 then none else match s.Mp[(uK s a).1.toNat]? with
 | some im=>bt im.I9 (uK s a).2
 | none=>none
def ma (c:CS):Option LQ:=if c.bad=true then none else if c.m.K0=0 then(if bo c.m.J5=true then some {c.m with L6:=1,faG:=aL c.m c.m.J5} else none)else some c.m
def fh (s:LX)(m:LQ):Option LQ:=match eF s m.K0 with
 | none=>none
 | some x=>ma (bJ s.L9 (adv ⟨m,false⟩ x.2) x.1)
def xk (s:LX)(m:LQ):Option LQ:=match eF s m.K0 with
 | none=>none
 | some x=>ma (eL s.L9 (adv ⟨m,false⟩ x.2) x.1)
theorem py {s:LX}{a:Int}{x:LS×Nat}(h:eF s a=some x):∃(t:List UInt8) (p:Int),bt t p=some x:=by
 unfold eF at h;split at h
 ·cases h
 ·split at h
  ·exact⟨_,_,h⟩
  ·cases h
theorem Ir {c d:CS}(h:Rel c d):ma c=ma d:=by
 obtain⟨h1,h2⟩:=h
 cases hb:c.bad with
 | true=>rw[ma,ma,c7 hb,c7 (h1▸hb)]
 | false=>
  obtain⟨h3,_⟩:=h2 hb;obtain⟨m,b⟩:=c;obtain⟨m',b'⟩:=d
  dsimp only at *
  subst h3;subst h1;rfl
theorem Jl {s:LX}{m:LQ}(NC:0<=m.J5/\m.J5<=1200)(NQ:inI m.L0):fh s m=xk s m:=by
 unfold fh xk
 cases h:eF s m.K0 with
 | none=>rfl
 | some x=>obtain⟨t,p,hd⟩:=py h;obtain⟨x,z⟩:=x;obtain⟨c0,c1,c2,_⟩:=iX hd;exact Ir (Am s.L9 {m with K0:=wr (m.K0+z)} x NC NQ c0 c1 c2)
def LF (m:LQ):LQ:={m with L6:=2}
theorem Fd {i0 i1:LM}{i:Nat}(hi:i<2)(h0:i0.I9.length<=1000000)(h1:i1.I9.length<=1000000):∃im:LM,[i0,i1][i]?=some im/\([i0.tr,i1.tr]:List (List Tr))[i]?=some im.tr/\im.I9.length<=1000000:=by match i,hi with|0,_=>exact⟨i0,rfl,rfl,h0⟩|1,_=>exact⟨i1,rfl,rfl,h1⟩
theorem Iw {i0 i1:LM}{b0 b1 a:Int}(h0:i0.I9.length<=1000000)(h1:i1.I9.length<=1000000):(dF i0 i1 b0 b1 a).2<=1000000:=by
 unfold dF;split
 ·dsimp only;omega
 ·split<;>dsimp only<;>omega
theorem lQ (i0 i1:LM)(b0 b1 a:Int)(es:List Int)(O3:0<=b0/\b0<=1000000)(Nk:0<=b1/\b1<=1000000)(l0:i0.I9.length<=1000000)(l1:i1.I9.length<=1000000):Sim.Spec prog 68 [.agg (LX.mk [i0,i1] [b0,b1] es).tr,tvI a] (rOp (eF ⟨[i0,i1],[b0,b1],es⟩ a)):=by
 have hL:=kW i0 i1 b0 b1 a es O3 Nk o_ o_;refine ak hΓ aG func68 rfl d_ rfl ?_;have NA:uK ⟨[i0,i1],[b0,b1],es⟩ a=dF i0 i1 b0 b1 a:=rfl;rcases oC i0 i1 b0 b1 a with hx|⟨i,off,hi,hx⟩
 ·rw[hx]at hL;have hf:eF ⟨[i0,i1],[b0,b1],es⟩ a=none:=by rw[eF,NA,hx];rfl
  rw[hf];repeat' ((conv=>whnf);first|refine Or.inl ?_|apply oi|apply fi|intro h|refine ci hL (ai (ai rfl (ai rfl (ai rfl trivial))) (ai rfl trivial)) ?_|exact Y1|refine e_ rfl ?_)
  all_goals try exact Q4
 ·have Od:=Iw (b0:=b0) (b1:=b1) (a:=a) l0 l1;rw[hx]at hL Od;dsimp only at Od;obtain⟨im,PE,Tl,Ny⟩:=Fd hi l0 l1;have hD:=lS im.I9 off o_ o_
  have hf:eF ⟨[i0,i1],[b0,b1],es⟩ a=bt im.I9 off:=by rw[eF,NA,hx];dsimp only;rw[b8 o_,d7,PE]
  rw[hf];repeat' ((conv=>whnf);first|refine Or.inl ?_|apply oi|apply fi|intro h|refine ci hL (ai (ai rfl (ai rfl (ai rfl trivial))) (ai rfl trivial)) ?_|refine⟨i,im.tr,rfl,Tl,?_⟩|refine ci hD (ai rfl (ai rfl trivial)) ?_|exact Y1|refine e_ rfl ?_)
  all_goals try(exfalso;have h':=f0 h;omega)
def lM (m:LQ):Option LQ->LQ
 | none=>LF m
 | some m'=>m'
theorem Ee {c:CS}{a v:Int}(h:c.ok):(FG c a v).ok:=by
 unfold FG CS.ok at *
 split
 ·simpa [gD]using h
 ·exact h
theorem He {es:List Int}{c:CS}{x:LS}(h:c.ok):(eL es c x).ok:=by
 unfold eL;refine aU (CS.ok) (eQ h) ?_;refine aU (CS.ok) (eQ (GQ h)) ?_;refine aU (CS.ok) (eQ (GQ h)) ?_;refine aU (CS.ok) (Ee (bf h)) ?_;refine aU (CS.ok) (Ee (bf h)) ?_;refine aU (CS.ok) h ?_;refine aU (CS.ok) (by unfold AQ;split<;>exact bf h) ?_
 refine aU (CS.ok) (by
              unfold Bl;split;· exact eQ h
              ·exact h) ?_
 refine aU (CS.ok) (ry (eQ h)) ?_;refine aU (CS.ok) (ry h) ?_
 refine aU (CS.ok) (by
              unfold vo;split;· exact eQ (fy (bf (bf (bf h))))
              ·exact bf h) ?_
 refine aU (CS.ok) (eQ (fy (bf (fy (bf h))))) ?_;refine aU (CS.ok) (bf h) ?_;exact eQ (bf (bf h))
theorem Q25{p:Prop}(h:p:=by exfalso;simp[M1]at h;first|done|fail):p:=h
theorem V3{p:Prop}(h:p:=by
 have hW:=jq c c.m.J5 X3;obtain⟨cm,cb⟩:=c;unfold cAt at hW;dsimp only at hW
 cases cb with
 | true=>
  have:r=none:=by rw[<-M8];rfl
  subst this;repeat' ((conv=>whnf);first|refine cg hP ?_|refine aI ?_|apply aB|apply oi|apply fi|intro h|refine cl hC ?_|refine cl hF ?_|exact Y1|refine e_ rfl ?_)
  all_goals exact Q24
 | false=>
  by_cases M1:cm.K0=0
  ·cases hin:bo cm.J5 with
   | false=>
    rw[hin]at hW;have:r=none:=(by rw[<-M8];simp[ma,M1,hin]);subst this;repeat' ((conv=>whnf);first|refine cg hP ?_|refine cg hW ?_|refine aI ?_|apply aB|apply oi|apply fi|intro h|refine cl hC ?_|refine cl hF ?_|exact Y1|refine e_ rfl ?_)
    all_goals try exact Q25
    all_goals exact Q24
   | true=>
    rw[hin]at hW;have:r=some {cm with L6:=1,faG:=tK ⟨cm,false⟩ cm.J5}:=(by rw[<-M8];simp[ma,M1,hin,tK]);subst this;repeat' ((conv=>whnf);first|refine cg hP ?_|refine cg hW ?_|refine aI ?_|apply aB|apply oi|apply fi|intro h|refine cl hC ?_|refine cl hF ?_|exact Y1|refine e_ rfl ?_)
    all_goals try exact Q25
    all_goals exact Q24
  ·have:r=some cm:=(by rw[<-M8];simp[ma,M1]);subst this;repeat' ((conv=>whnf);first|refine cg hP ?_|refine aI ?_|apply aB|apply oi|apply fi|intro h|refine cl hC ?_|refine cl hF ?_|exact Y1|refine e_ rfl ?_)
   all_goals try exact Q25
   all_goals exact⟨⟨rfl,bZ _⟩⟩):p:=h
theorem wn (s:LX)(m:LQ)(MC:ce s=true)(hm:m.Mg.length=1200)(ho:m.L7.length<=2000000):Sim.Spec prog 70 [.agg s.tr,.agg m.tr] (.r (.agg ((lM m (xk s m)).tr.map tD))):=by
 obtain⟨i0,i1,b0,b1,PD,⟨e1,e2⟩,⟨g0,p0,p1⟩,⟨g1,q0,q1⟩,_,_⟩:=mi MC;have l0:=(imageOk_iff.1 g0).1;have l1:=(imageOk_iff.1 g1).1;have hF:=lQ i0 i1 b0 b1 m.K0 s.L9 o_ o_ l0 l1;have hC:=mR m o_ ho;obtain⟨im,bs,es⟩:=s;dsimp only at PD hF e2;injection PD with h1 h2;subst h1;subst h2;refine ak hΓ aG func70 rfl d_ rfl ?_;obtain⟨r,hr⟩:∃r,xk ⟨[i0,i1],[b0,b1],es⟩ m=r:=⟨_,rfl⟩;rw[hr]
 cases hf:eF ⟨[i0,i1],[b0,b1],es⟩ m.K0 with
 | none=>
  rw[hf]at hF;have:r=none:=by rw[<-hr,xk,hf]
  subst this;repeat' ((conv=>whnf);first|refine aI ?_|apply aB|apply oi|apply fi|intro h|refine cl hC ?_|refine cl hF ?_|exact Y1|refine e_ rfl ?_)
  all_goals exact Q24
 | some xz=>
  obtain⟨x,z⟩:=xz;rw[hf]at hF;obtain⟨t,p,hd⟩:=py hf;obtain⟨c0,c1,_,z5⟩:=iX hd;have M8:ma (eL es (adv ⟨m,false⟩ z) x)=r:=by rw[<-hr,xk,hf]
  by_cases Xz:x.I9=17
  ·have Xt:x=⟨17,x.J7⟩:=(by rw[<-Xz]);have hP:=FW ⟨[i0,i1],[b0,b1],es⟩ ⟨m,false⟩ x.J7 z hm ho;rw[<-Xt]at hP;have NZ:eL es (adv ⟨m,false⟩ z) x=Du (adv ⟨m,false⟩ z):=(by rw[Xt];simp[eL]);rw[NZ]at M8;have X3:(Du (adv ⟨m,false⟩ z)).ok:=bf (c:=adv ⟨m,false⟩ z) hm
   generalize Du (adv ⟨m,false⟩ z)=c at *
   exact V3
  ·have hP:=wX ⟨[i0,i1],[b0,b1],es⟩ ⟨m,false⟩ x z hm Xz c0 c1 g_;have X3:(eL es (adv ⟨m,false⟩ z) x).ok:=He hm;dsimp only at hP
   generalize eL es (adv ⟨m,false⟩ z) x=c at *
   exact V3
theorem rP {c:CS}{m':LQ}(h:ma c=some m'):m'.Mg=c.m.Mg/\m'.L7=c.m.L7/\m'.J5=c.m.J5/\m'.L0=c.m.L0/\m'.K0=c.m.K0/\c.bad=false:=by
 unfold ma at h;split at h
 ·cases h
 ·rename_i hb;have ML:c.bad=false:=by simpa using hb
  split at h
  ·split at h
   ·injection h with h;subst h;exact⟨rfl,rfl,rfl,rfl,rfl,ML⟩
   ·cases h
  ·injection h with h;subst h;exact⟨rfl,rfl,rfl,rfl,rfl,ML⟩
theorem lk {s:LX}{m m':LQ}(h:fh s m=some m'):∃x,eF s m.K0=some x/\ma (bJ s.L9 (adv ⟨m,false⟩ x.2) x.1)=some m':=by
 unfold fh at h;split at h
 ·cases h
 ·rename_i x hx;exact⟨x,hx,h⟩
theorem FA {s:LX}{m:LQ}(hm:m.Mg.length=1200):∀m',fh s m=some m'->m'.Mg.length=1200:=by intro m' h;obtain⟨x,_,h2⟩:=lk h;rw[(rP h2).1];exact HK (c:=adv ⟨m,false⟩ x.2) hm
theorem xn {s:LX}{m:LQ}:∀m',fh s m=some m'->m'.L7.length<=m.L7.length+1:=by intro m' h;obtain⟨x,_,h2⟩:=lk h;rw[(rP h2).2.1];exact Fw (c:=adv ⟨m,false⟩ x.2)
def iG (s:LX)(m:LQ):LQ:=if ce s=true/\cI m=true/\m.L6=0 then lM m (fh s m)else m
theorem machineOk_iffL {m:LQ}:cI m=true↔m.Mg.length=1200/\(0<=m.J5/\m.J5<=1200)/\0<=m.L6/\m.L6<=2:=by rw[cI,b9,b9,within_iff,within_iff,w8];exact⟨fun h=>⟨h.1.1,h.1.2,h.2⟩,fun h=>⟨⟨h.1,h.2.1⟩,h.2.2⟩⟩
theorem Di {m:LQ}(h:aF 1048576 m.tr):m.Mg.length<=2000000/\m.L7.length<=1048576:=by simp only[LQ.tr,aF]at h;have h1:=bE h.2.2.2.1;have h2:=bE h.2.2.2.2.1;omega
theorem V20{p:Prop}(h:p:=by
 rw[b8 s_];repeat' ((conv=>whnf);first|refine Or.inl ?_|apply oi|apply fi|intro h|refine ci hS (ai (ai rfl (ai rfl (ai rfl trivial))) trivial) ?_|refine ci hM (ai (ai rfl (ai rfl (ai rfl (ai rfl (ai rfl (ai rfl (ai rfl trivial))))))) trivial) ?_|refine ci hC (ai (ai rfl (ai rfl (ai rfl (ai rfl (ai rfl (ai rfl (ai rfl trivial))))))) trivial) ?_|exact Y1|refine e_ rfl ?_)
 all_goals try(exfalso;simp at h;done)):p:=h
theorem pw (s:LX)(m:LQ)(hs:aF 1048576 s.tr)(Yj:aF 1048576 m.tr)(NQ:inI m.L0):Sim.Spec prog 17 [.agg s.tr,.agg m.tr] (.r (.agg ((iG s m).tr.map tD))):=by
 have hS:=gx s hs;have hM:=kN m;obtain⟨k1,k2⟩:=Di Yj;have hC:=mR m k1 o_;refine ak hΓ aG func17 rfl d_ rfl ?_;unfold iG
 cases h1:ce s with
 | false=>
  rw[h1]at hS
  exact V20
 | true=>
  rw[h1]at hS
  cases h2:cI m with
  | false=>
   rw[h2]at hM
   exact V20
  | true=>
   rw[h2]at hM;obtain⟨m1,m2,m3⟩:=machineOk_iffL.1 h2;by_cases h0:m.L6=0
   ·have hT:=wn s m h1 m1 o_;rw[<-Jl m2 NQ]at hT;rw[c7 ⟨rfl,rfl,h0⟩];repeat' ((conv=>whnf);first|refine aI ?_|apply aB|apply oi|apply fi|intro h|refine cl hS ?_|refine cl hM ?_|exact Y1|refine e_ rfl ?_)
    all_goals try(exfalso;simp[h0]at h;done)
    repeat' ((conv=>whnf);first|refine Or.inl ?_|apply oi|apply fi|intro h|refine ci hT (ai (ai rfl (ai rfl (ai rfl trivial))) (ai (ai rfl (ai rfl (ai rfl (ai rfl (ai rfl (ai rfl (ai rfl trivial))))))) trivial)) ?_|exact Y1|refine e_ rfl ?_)
   ·rw[b8 (by simp[h0])];repeat' ((conv=>whnf);first|refine aI ?_|apply aB|apply oi|apply fi|intro h|refine cl hS ?_|refine cl hM ?_|refine cl hC ?_|exact Y1|refine e_ rfl ?_)
    all_goals try(exfalso;exact h0 aad)
def zu (s:LX):Nat->LQ->LQ×Nat
 | 0,m=>(m,0)
 | k+1,m=>if m.L6=0 then((zu s k (lM m (fh s m))).1,(zu s k (lM m (fh s m))).2+1)else(m,0)
structure MInv (m:LQ) (n:Nat):Prop where
 len:m.Mg.length=1200
 sp:0<=m.J5/\m.J5<=1200
 w:MW m
 out:m.L7.length<=1048576+n
theorem FQ {c:Int}{m:Nat}(h:aX c=(4,true))(hm:m<4294967296):inI (jI c m):=by
 unfold inI;by_cases hb:2^(8*4-1)<=m
 ·have e:jI c m=(m:Int)-2^(8*4):=qJ (n:=4) (by rw[h];rfl) (by rw[h]) hb;rw[e];omega
 ·have e:jI c m=(m:Int):=nJ (n:=4) (by rw[h];rfl) (fun hh=>hb hh.2);rw[e];omega
theorem wW {s:List UInt8}{p:Int}{x:LS}{z:Nat}(h:bt s p=some (x,z)):inI x.J7:=by
 obtain⟨h0,h1,h2,_⟩:=iX h;by_cases c1:12<=x.I9/\x.I9<=16
 ·have:=h1 c1.1 c1.2;unfold inI;omega
 by_cases c2:1<=x.I9/\x.I9<=11
 ·have:=h2 c2.1 c2.2;unfold inI;omega
 have c3:x.I9=0\/x.I9=17:=o_;unfold bt at h;split at h
 ·split at h
  ·cases h
  ·injection h with h;injection h with h3 h4;subst h3;dsimp only at c3⊢;rcases c3 with c3|c3
   ·rw[c3];have hl:=eZ s (p.toNat+1) 4
    exact FQ d_ (by
                    have:(256:Nat)^4=4294967296:=d_;show aV s (p.toNat+1) 4<4294967296
                    omega)
   ·rw[c3];have hl:=eZ s (p.toNat+1) 0;have hl:aV s (p.toNat+1) 0<1:=hl;have e2:jI 17 (aV s (p.toNat+1) 0)=((aV s (p.toNat+1) 0:Nat):Int):=nJ (n:=0) d_ (fun hh=>absurd hh.1 d_);show inI (jI 17 (aV s (p.toNat+1) 0));rw[e2];unfold inI;omega
 ·cases h
theorem MInv.step {s:LX}{m:LQ}{n:Nat}(h:MInv m n)(he:∀e∈s.L9,inI e):MInv (lM m (fh s m)) (n+1):=by
 obtain⟨h1,h2,h3,h4⟩:=h
 cases hr:fh s m with
 | none=>exact⟨h1,h2,h3,by show m.L7.length<=_;omega⟩
 | some m'=>
  obtain⟨x,hf,hx⟩:=lk hr;obtain⟨t,p,hd⟩:=py hf;obtain⟨x,z⟩:=x;obtain⟨c0,c1,c2,_⟩:=iX hd;have ha:=wW hd;obtain⟨e1,e2,e3,e4,e5,e6⟩:=rP hx;have VA:=Am s.L9 {m with K0:=wr (m.K0+z)} x h2 h3.2.2 c0 c1 c2;have NC:=(VA.2 e6).2;have hin:MW (bJ s.L9 (adv ⟨m,false⟩ z) x).m:=HL (c:=adv ⟨m,false⟩ z) ⟨h3.1,HU _,h3.2.2⟩ (by show inI m.J5;unfold inI;omega) ha he;refine⟨FA h1 m' hr,?_,?_,?_⟩
  ·show 0<=m'.J5/\m'.J5<=1200;rw[e3];exact NC
  ·show MW m';refine⟨?_,?_,?_⟩
   ·rw[e1];exact hin.1
   ·rw[e5];exact hin.2.1
   ·rw[e4];exact hin.2.2
  ·have:=xn m' hr;show m'.L7.length<=_;omega
theorem FE {s:LX}{k:Nat}{m:LQ}(h:m.L6≠0\/k=0):zu s k m=(m,0):=by
 cases k with
 | zero=>rfl
 | succ k=>rw[zu,b8 (by
                  rcases h with h|h;· exact h
                  ·cases h)]
theorem IQ {s:LX}{k:Nat}{m:LQ}(h:m.L6=0):zu s (k+1) m=((zu s k (lM m (fh s m))).1,(zu s k (lM m (fh s m))).2+1):=by rw[zu,c7 h]
end Go.Proofs.P
namespace Go.Proofs.P
open Go.Sim Tryz
theorem fZ {c:CS}{v:Int}:(bi c v).m.L6=c.m.L6:=by unfold bi;split<;>rfl
theorem cPop_st {c:CS}:(au c).m.L6=c.m.L6:=by unfold au;split<;>rfl
theorem cDrop_st:∀{n:Nat} {c:CS},(bz n c).m.L6=c.m.L6
 | 0,_=>rfl
 | n+1,c=>by rw[bz,cDrop_st (n:=n),cPop_st]
theorem rA:∀{n:Nat} {c:CS},(dE n c).m.L6=c.m.L6
 | 0,_=>rfl
 | n+1,c=>by rw[dE,rA (n:=n),fZ]
theorem zH {c:CS}{a:Int}:(gC c a).m.L6=c.m.L6:=by
 unfold gC;split
 ·rfl
 ·exact fZ
theorem yh {c:CS}{a:Int}:(dl c a).m.L6=c.m.L6:=by
 unfold dl;split
 ·exact cPop_st
 ·exact cPop_st
theorem Hl {es:List Int}{c:CS}{x:LS}:(bJ es c x).m.L6=c.m.L6:=by
 unfold bJ;refine aU (fun d=>d.m.L6=c.m.L6) fZ ?_;refine aU (fun d=>d.m.L6=c.m.L6) zH ?_;refine aU (fun d=>d.m.L6=c.m.L6) zH ?_;refine aU (fun d=>d.m.L6=c.m.L6) yh ?_;refine aU (fun d=>d.m.L6=c.m.L6) yh ?_;refine aU (fun d=>d.m.L6=c.m.L6) (by rw[ls,fZ,cPop_st,cPop_st]) ?_;refine aU (fun d=>d.m.L6=c.m.L6) rfl ?_
 refine aU (fun d=>d.m.L6=c.m.L6) (by
  unfold pP;split
  ·exact cPop_st
  ·exact cPop_st) ?_
 refine aU (fun d=>d.m.L6=c.m.L6) (by
  unfold qD;split
  ·exact fZ
  ·exact fZ) ?_
 refine aU (fun d=>d.m.L6=c.m.L6) (by rw[rT,rA];exact fZ) ?_;refine aU (fun d=>d.m.L6=c.m.L6) rA ?_
 refine aU (fun d=>d.m.L6=c.m.L6) (by
  rw[rU,fZ,cDrop_st]
  exact cPop_st.trans (cPop_st.trans cPop_st)) ?_
 refine aU (fun d=>d.m.L6=c.m.L6) (by
  rw[nH,fZ,cDrop_st]
  exact cPop_st.trans (cDrop_st.trans cPop_st)) ?_
 refine aU (fun d=>d.m.L6=c.m.L6) (by
  show(au c).m.L6=_
  exact cPop_st) ?_
 rfl
theorem Hu {s:LX}{m:LQ}(h:af m.L6 0 2=true):af (lM m (fh s m)).L6 0 2=true:=by
 cases hr:fh s m with
 | none=>rfl
 | some m'=>
  obtain⟨x,_,hx⟩:=lk hr;show af m'.L6 0 2=true;unfold ma at hx;split at hx
  ·cases hx
  ·split at hx
   ·split at hx
    ·injection hx with hx;subst hx;rfl
    ·cases hx
   ·injection hx with hx;subst hx;rw[Hl];exact h
structure MOk (m:LQ) (n:Nat):Prop where
 inv:MInv m 0
 st:af m.L6 0 2=true
 out:m.L7.length<=n
theorem CV {s:LX}{m:LQ}:(lM m (fh s m)).L7.length<=m.L7.length+1:=by cases h:fh s m with|none=>show m.L7.length<=_;omega|some m'=>exact xn m' h
theorem MOk.step {s:LX}{m:LQ}{n:Nat}(h:MOk m n)(hn:n<=1000000)(he:∀e∈s.L9,inI e):MOk (lM m (fh s m)) (n+1):=by have h1:=h.inv.step (s:=s) he;have h2:=CV (s:=s) (m:=m);have h3:=h.out;exact⟨⟨h1.len,h1.sp,h1.w,o_⟩,Hu h.st,o_⟩
theorem MOk.mono {m:LQ}{n k:Nat}(h:MOk m n)(hk:n<=k):MOk m k:=⟨h.inv,h.st,by have:=h.out;omega⟩
theorem MOk.run {s:LX}(he:∀e∈s.L9,inI e):∀(k:Nat) {m:LQ} {n:Nat},MOk m n->n+k<=1000000->MOk (zu s k m).1 (n+k)
 | 0,m,n,h,_=>h
 | k+1,m,n,h,hn=>by
  by_cases h0:m.L6=0
  ·rw[IQ h0];have:=MOk.run he k (h.step o_ he) o_;rw[show n+1+k=n+(k+1) by omega]at this;exact this
  ·rw[FE (.inl h0)];exact h.mono o_
theorem MOk.ok {m:LQ}{n:Nat}(h:MOk m n):cI m=true:=by unfold cI;have h1:=h.inv.len;have h2:=h.inv.sp;rw[h.st,within_iff.2 ⟨h2.1,h2.2⟩,h1];rfl
theorem MOk.small {m:LQ}{n:Nat}(h:MOk m n)(hn:n<=1000000):aF 1048576 m.tr:=by have h1:=h.inv.len;have h2:=h.out;simp only[LQ.tr,aF];exact⟨by simp[aw],by simp[aw],by simp[aw],lm o_,lm o_,by simp[aw],by simp[aw],trivial⟩
theorem Ju {s:LX}(hs:ce s=true)(he:∀e∈s.L9,inI e):MOk (Al s) 0:=by
 have hh:inI (s.L9.headD 0):=by cases hx:s.L9 with|nil=>show inI 0;unfold inI;omega|cons a l=>exact he a (by rw[hx];simp)
 rw[Al,c7 hs];refine⟨⟨s_,g_,⟨fun w hw=>?_,hh,by unfold inI;dsimp only;omega⟩,s_⟩,rfl,s_⟩;have:=List.eq_of_mem_replicate hw;rw[this];unfold inI;omega
noncomputable section
section
variable {p:List LP} {b:LG} {first second:Int}
def sr (b:LG)(first second:Int)(f:Nat):Int:=if bn b f=1 then second else first
def adr (p:List LP)(b:LG)(first second:Int)(f j:Nat):Int:=sr b first second f+atL (aZ (aW p b f) (az p f b)) j
def kj (p:List LP)(b:LG):List (List LW):=[bF (aM p b 0),bF (aM p b 1)]
theorem KZ (h:SpOk p b first second)(f:Nat){off:Int}(h0:0<=off)(h1:off<(ag p b (bn b f)).I9.length):uK (aQ p b first second) (sr b first second f+off)=(bn b f,off)/\1<=sr b first second f/\sr b first second f<=1000000/\(ag p b (bn b f)).I9.length<=75000:=by
 have a0:=cV h.small h.prog h.build (image:=0) d_;have a1:=cV h.small h.prog h.build (image:=1) d_;have Xc:=h.fb;have VG:=h.sb;have NC:=h.space
 have MR:cU (ag p b 0) (ag p b 1) first second=false:=by exact V63
 have NA:∀e,uK (aQ p b first second) e=dF (ag p b 0) (ag p b 1) first second e:=fun e=>rfl;unfold sr;rcases ga b f with e|e
 ·rw[e]at h1⊢;rw[b8 d_,NA,dF,c7 ⟨o_,o_⟩,show first+off-first=off by omega];exact⟨rfl,o_,o_,a0.2⟩
 ·rw[e]at h1⊢;rw[c7 rfl,NA,dF,b8,c7 ⟨o_,o_⟩,show second+off-second=off by omega]
  ·exact⟨rfl,o_,o_,a1.2⟩
  ·intro hc;unfold cU at MR;simp only[A8,p9]at MR;omega
structure AtA (p:List LP) (b:LG) (first second:Int) (f j:Nat) (it:LO):Prop where
 fetch:eF (aQ p b first second) (adr p b first second f j)=some ((cN (aZ (aW p b f) (az p f b)) j it).J2,(aE it.J2.I9).toNat)
 next:adr p b first second f (j+1)=adr p b first second f j+aE it.J2.I9
 size:1<=aE it.J2.I9/\aE it.J2.I9<=5
 rng:1<=adr p b first second f j/\adr p b first second f j<=1080000
 rule:∀a,adr p b first second f j<=a->a<adr p b first second f (j+1)->∃r,iL (kj p b) (uK (aQ p b first second) a)=some r/\r.Ml=it.Mn/\r.Me=it.Me
theorem li (h:SpOk p b first second){f:Nat}(hf:f<(ay p).length){j:Nat}{it:LO}(hj:(az p f b)[j]?=some it):AtA p b first second f j it:=by
 obtain⟨i,x,hx⟩:=pg (b:=b) hf;obtain⟨g1,g2,g3⟩:=hx;have MR:=ga b f;have h3:af (bn b f) 0 1=true:=by rw[within_iff];omega
 have N0:=(jW h.small h.prog h.build o_ g1).1;rw[g2,I5]at N0;have Na:((aj (ax ((bV p b (bn b f) (ay p).length 0 0).take i))).length:Int)=aW p b f:=g3.symm;rw[Na]at N0;have hy:=eM (at0:=aW p b f) hj;rw[<-N0]at hy;obtain⟨hp,Od⟩:=fR h.small h.prog h.build g1 hy;have Nd:(cN (aZ (aW p b f) (az p f b)) j it).J2.I9=it.J2.I9:=gR _ _ _;have Nv:=pm hp.op;have M6:=ec hp.op;dsimp only at Nv M6 Od;rw[Nd]at Nv M6
 have OV:∀z∈x.2,dw z.L3.J2.I9 z.L3.J2.J7=true:=fun z hz=>by
  obtain⟨k,hk⟩:=v6.1 hz;exact(fR h.small h.prog h.build g1 hk).1.op
 have Um:(ag p b (bn b f)).I9=aj (ax ((imL p b (bn b f)).take i))++aj x.2++aj (ax ((imL p b (bn b f)).drop (i+1))):=by
  rw[ag,c7 ⟨h.prog,h.build,h3⟩];have e:=qQ g1
  rw[show imL p b (bn b f)=bV p b (bn b f) (ay p).length 0 0 from rfl]at *
  dsimp only;rw[e,aJ,aJ,<-j9]
 have hd:=sQ OV hy (aj (ax ((imL p b (bn b f)).take i))) (aj (ax ((imL p b (bn b f)).drop (i+1))));rw[<-Um,c8]at hd;dsimp only at hd;rw[Nd]at hd
 have UH:(((aj (ax ((imL p b (bn b f)).take i))).length+(aj (x.2.take j)).length:Nat):Int)=atL (aZ (aW p b f) (az p f b)) j:=by rw[Od,Int.natCast_add]
 rw[UH]at hd
 generalize hO:atL (aZ (aW p b f) (az p f b)) j=off at *
 have Mw:off+aE it.J2.I9<=((ag p b (bn b f)).I9.length:Int):=by rw[Um,c8,c8];have h2:x.2.take (j+1)++x.2.drop (j+1)=x.2:=y9 _ _;have h4:=congrArg (fun l=>(aj l).length) h2;simp only[aJ,c8]at h4;rw[dx hy,aJ,dZ,c8]at h4;dsimp only at h4;omega
 have R2:0<=off:=o_
 have Nh:adr p b first second f (j+1)=adr p b first second f j+aE it.J2.I9:=by unfold adr;rw[fY hj];omega
 have Pd:adr p b first second f j=sr b first second f+off:=by unfold adr;rw[hO]
 have NA:=fun(o:Int) (h0:0<=o) (h1:o<(ag p b (bn b f)).I9.length)=>KZ h f h0 h1
 have Ta:(aQ p b first second).Mp[(bn b f).toNat]?=some (ag p b (bn b f)):=by
  rcases MR with e|e
  ·rw[e];rfl
  ·rw[e];rfl
 refine⟨?_,Nh,Nv,?_,fun a h1 h2=>?_⟩
 ·rw[Pd,eF,(NA off R2 o_).1];dsimp only;rw[b8 o_,Ta];exact hd
 ·obtain⟨_,q1,q2,q3⟩:=NA off R2 o_;rw[Pd];omega
 ·rw[Nh,Pd]at h2;rw[Pd]at h1;obtain⟨o,rfl⟩:∃o,a=sr b first second f+o:=⟨a-sr b first second f,o_⟩;rw[(NA o o_ o_).1];have Zg:aM p b (bn b f)=ax (imL p b (bn b f)):=by rw[aM,c7 ⟨h.prog,h.build,h3⟩];rfl
  have hk:=Au g1 hy;rw[<-Zg]at hk;obtain⟨q,r,r1,r2,r3,r4,_⟩:=Js (mj h.small) (Bn h.small) hk (off:=o) g_ (by dsimp only;rw[Nd];omega)
  have hr:(kj p b)[(bn b f).toNat]?=some (bF (aM p b (bn b f))):=by
   rcases MR with e|e
   ·rw[e];rfl
   ·rw[e];rfl
  refine⟨r,?_,?_,?_⟩
  ·unfold iL;dsimp only;rw[b8 o_,hr];dsimp only;rw[r1,b8 o_,d7];exact r2
  ·rw[r3];unfold cN;split<;>rfl
  ·rw[r4];unfold cN;split<;>rfl
theorem BM (h:SpOk p b first second){f:Nat}(hf:f<(ay p).length):adr p b first second f 0=cS p b first second f:=by obtain⟨i,im,base,he⟩:=DP h hf;have Na:=he.start;have hl:=he.len;have Ri:=he.range;have Xc:=h.fb;have VG:=h.sb;rw[adr,gg,cS,c6 _ (by split<;>omega)];rfl
end
end
theorem zQ {n:Int}(h:-1000000000<=n/\n<=1000000000):wr n=n:=c6 _ o_
structure Stk (c:CS):Prop where
 len:c.m.Mg.length=1200
 lo:0<=c.m.J5
 hi:c.m.J5<=1200
structure Same (c c':CS) (sp lo:Int):Prop where
 sp:c'.m.J5=sp
 fp:c'.m.L0=c.m.L0
 pc:c'.m.K0=c.m.K0
 st:c'.m.L6=c.m.L6
 I8:∀a,lo<=a->aL c'.m a=aL c.m a
theorem Same.trans {a b c:CS}{x y l m:Int}(h:Same a b x l)(h':Same b c y m):Same a c y (max l m):=⟨h'.sp,h'.fp.trans h.fp,h'.pc.trans h.pc,h'.st.trans h.st,fun v hv=>(h'.I8 v o_).trans (h.I8 v o_)⟩
theorem BU {m:LQ}{a v b:Int}(hl:m.Mg.length=1200)(ha:0<=a/\a<=1199)(hb:0<=b):aL (gD m a v) b=if b=a then v else aL m b:=by
 unfold aL gD;dsimp only;by_cases h:b=a
 ·rw[c7 h,h,x6 o_]
 ·rw[b8 h,C6 o_]
theorem lp {c:CS}{v:Int}(hc:Stk c)(h:(bi c v).bad=false):c.bad=false/\1<=c.m.J5/\Stk (bi c v)/\Same c (bi c v) (c.m.J5-1) c.m.J5/\aL (bi c v).m (c.m.J5-1)=v:=by
 have h1:=hc.lo;have h2:=hc.hi;have hw:wr (c.m.J5-1)=c.m.J5-1:=zQ o_;unfold bi at h⊢;rw[hw]at h⊢;by_cases hb:(c.bad||!bo (c.m.J5-1))=true
 ·rw[c7 hb]at h;cases h
 ·rw[b8 hb];have ML:(c.bad||!bo (c.m.J5-1))=false:=by simpa using hb
  rw[v9]at ML;obtain⟨b1,b2⟩:=ML;have b2:bo (c.m.J5-1)=true:=by simpa using b2
  rw[inStk_iff]at b2;have OM:∀a,0<=a->aL {gD c.m (c.m.J5-1) v with J5:=c.m.J5-1} a=if a=c.m.J5-1 then v else aL c.m a:=fun a ha=>BU hc.len b2 ha
  refine⟨b1,o_,⟨by dsimp only[gD];rw[q7];exact hc.len,g_,g_⟩,⟨rfl,rfl,rfl,rfl,fun a ha=>?_⟩,?_⟩
  ·dsimp only;rw[OM a o_,b8 o_]
  ·dsimp only;rw[OM _ o_,c7 rfl]
theorem iJ {c:CS}(hc:Stk c)(h:(au c).bad=false):c.bad=false/\c.m.J5<=1199/\Stk (au c)/\(au c).m={c.m with J5:=c.m.J5+1}/\kX c=aL c.m c.m.J5:=by
 unfold au at h⊢;by_cases hb:(c.bad||!bo c.m.J5)=true
 ·rw[c7 hb]at h;cases h
 ·rw[b8 hb];have ML:(c.bad||!bo c.m.J5)=false:=by simpa using hb
  have Nc:=ML;rw[v9]at ML;obtain⟨b1,b2⟩:=ML;have b2:bo c.m.J5=true:=by simpa using b2
  rw[inStk_iff]at b2;refine⟨b1,b2.2,⟨hc.len,by have:=hc.lo;dsimp only;omega,g_⟩,rfl,?_⟩;unfold kX;rw[b8 hb]
theorem zP {c:CS}(hc:Stk c)(h:(au c).bad=false)(l:Int):Same c (au c) (c.m.J5+1) l:=by obtain⟨_,_,_,e,_⟩:=iJ hc h;exact⟨by rw[e],by rw[e],by rw[e],by rw[e],fun a _=>by rw[e];rfl⟩
theorem tW:∀(n:Nat) {c:CS},Stk c->(bz n c).bad=false->c.bad=false/\Stk (bz n c)/\(bz n c).m={c.m with J5:=c.m.J5+n}
 | 0,c,hc,h=>⟨h,hc,by simp[bz]⟩
 | n+1,c,hc,h=>by
  rw[bz]at h⊢
  have O3:(au c).bad=false:=by
   cases hb:(au c).bad with
   | false=>rfl
   | true=>
    exfalso
    have:∀(n:Nat) (c:CS),c.bad=true->(bz n c).bad=true:=by
     intro n
     induction n with
     | zero=>intro c hc;exact hc
     | succ n ih=>intro c hc;rw[bz];exact ih _ (by unfold au;rw[hc];simp)
    rw[this n _ hb]at h;cases h
  obtain⟨p1,p2,p3,p4,_⟩:=iJ hc O3;obtain⟨q1,q2,q3⟩:=tW n p3 h;refine⟨p1,q2,?_⟩;rw[q3,p4];dsimp only;rw[show c.m.J5+1+(n:Int)=c.m.J5+((n+1:Nat):Int) by omega]
theorem qR:∀(n:Nat) (c:CS),c.bad=true->(dE n c).bad=true
 | 0,c,h=>h
 | n+1,c,h=>by rw[dE];exact qR n _ (by unfold bi;rw[h];simp)
theorem vT:∀(n:Nat) {c:CS},Stk c->(dE n c).bad=false->c.bad=false/\Stk (dE n c)/\Same c (dE n c) (c.m.J5-n) c.m.J5
 | 0,c,hc,h=>⟨h,hc,by rw[dE];exact⟨o_,rfl,rfl,rfl,fun _ _=>rfl⟩⟩
 | n+1,c,hc,h=>by
  rw[dE]at h⊢
  have O3:(bi c 0).bad=false:=by
   cases hb:(bi c 0).bad with
   | false=>rfl
   | true=>rw[qR n _ hb]at h;cases h
  obtain⟨p1,p2,p3,p4,_⟩:=lp hc O3;obtain⟨q1,q2,q3⟩:=vT n p3 h;have:=p4.trans q3;have e:=p4.sp;refine⟨p1,q2,⟨by rw[this.sp,e];omega,this.fp,this.pc,this.st,fun a ha=>this.I8 a o_⟩⟩
theorem Ac {c:CS}{a:Int}(hc:Stk c)(h:(dl c a).bad=false):c.bad=false/\c.m.J5<=1199/\0<=a/\a<=1199/\Stk (dl c a)/\(dl c a).m.J5=c.m.J5+1/\(dl c a).m.L0=c.m.L0/\(dl c a).m.K0=c.m.K0/\(dl c a).m.L6=c.m.L6/\∀b,0<=b->b≠a->aL (dl c a).m b=aL c.m b:=by
 unfold dl at h⊢;by_cases hb:((au c).bad||!bo a)=true
 ·rw[c7 hb]at h;cases h
 ·rw[b8 hb];have ML:((au c).bad||!bo a)=false:=by simpa using hb
  rw[v9]at ML;obtain⟨b1,b2⟩:=ML;have b2:bo a=true:=by simpa using b2
  rw[inStk_iff]at b2;obtain⟨p1,p2,p3,p4,_⟩:=iJ hc b1;refine⟨p1,p2,b2.1,b2.2,⟨by dsimp only[gD];rw[q7];exact p3.len,p3.lo,p3.hi⟩,by dsimp only[gD];rw[p4],by dsimp only[gD];rw[p4],by dsimp only[gD];rw[p4],by dsimp only[gD];rw[p4],fun b hb MF=>?_⟩;dsimp only;rw[BU p3.len b2 hb,b8 MF,p4];rfl
theorem JS {c:CS}{a:Int}(hc:Stk c)(h:(gC c a).bad=false):c.bad=false/\Stk (gC c a)/\Same c (gC c a) (c.m.J5-1) c.m.J5:=by
 unfold gC at h⊢;by_cases hb:(c.bad||!bo a)=true
 ·rw[c7 hb]at h;cases h
 ·rw[b8 hb]at h⊢;have ML:(c.bad||!bo a)=false:=by simpa using hb
  rw[v9]at ML;obtain⟨p1,p2,p3,p4,_⟩:=lp (c:=⟨c.m,false⟩) ⟨hc.len,hc.lo,hc.hi⟩ h;exact⟨ML.1,p3,⟨p4.sp,p4.fp,p4.pc,p4.st,p4.I8⟩⟩
theorem V49{p:Prop}(h:p:=by
 unfold bi at h;by_cases hb:(c.bad||!bo (wr (c.m.J5-1)))=true
 ·rw[c7 hb]at h;cases h
 ·have ML:(c.bad||!bo (wr (c.m.J5-1)))=false:=by simpa using hb
  rw[v9]at ML
  exact ML.1):p:=h
theorem V59{p:Prop}(h:p:=by
 unfold au at h;by_cases hb:(c.bad||!bo c.m.J5)=true
 ·rw[c7 hb]at h;cases h
 ·have ML:(c.bad||!bo c.m.J5)=false:=by simpa using hb
  rw[v9]at ML
  exact ML.1):p:=h
theorem Hx {c:CS}{k:Int}(hc:Stk c)(h:(ls c k).bad=false):c.bad=false/\Stk (ls c k)/\Same c (ls c k) (c.m.J5+1) (c.m.J5+2):=by
 unfold ls at h⊢
 have QM:∀{c:CS} {v:Int},(bi c v).bad=false->c.bad=false:=fun{c v} h=>by
  exact V49
 have Ti:∀{c:CS},(au c).bad=false->c.bad=false:=fun{c} h=>by
  exact V59
 have h2:=QM h;have h1:=Ti h2;obtain⟨p1,_,p3,p4,_⟩:=iJ hc h1;obtain⟨_,_,q3,q4,_⟩:=iJ p3 h2;obtain⟨_,_,r3,r4,_⟩:=lp q3 h;have e:(au (au c)).m.J5=c.m.J5+2:=by rw[q4,p4];dsimp only;omega
 refine⟨p1,r3,⟨by rw[r4.sp,e];omega,by rw[r4.fp,q4,p4],by rw[r4.pc,q4,p4],by rw[r4.st,q4,p4],fun a ha=>?_⟩⟩;rw[r4.I8 a o_,q4,p4];rfl
noncomputable section
structure Sy (p:List LP) (b:LG) where
 C:Nat->Cx
 ds:Nat->List Int
 ty:∀f,f<(ay p).length->TyF (C f) (az p f b) (ds f)
 args:∀f g,(ay p)[f]?=some g->(C f).args=argsN (foldIf p b) g
 prog:∀f,f<(ay p).length->(C f).p=foldIf p b
 a4:∀f,f<(ay p).length->0<=(C f).args/\(C f).args<=4
 w:∀f,f<(ay p).length->0<=(C f).I8/\(C f).I8<=1000
theorem LC {p:List LP}{b:LG}(hs:aw 1048576 (.lst 4 (p.map LP.tr)))(h1:ah p=true)(h2:aS b=true):Nonempty (Sy p b):=by
 have key:∀f:Nat,∃(C:Cx) (ds:List Int),f<(ay p).length->TyF C (az p f b) ds/\(∀g,(ay p)[f]?=some g->C.args=argsN (foldIf p b) g)/\C.p=foldIf p b/\(0<=C.args/\C.args<=4)/\(0<=C.I8/\C.I8<=1000):=fun f=>by
  by_cases hf:f<(ay p).length
  ·obtain⟨g,C,ds,k1,k2,k3,_,k5,k6,k7,k8,k9⟩:=CL (f:=(f:Int)) hs h1 h2 o_ o_;refine⟨C,ds,fun _=>⟨k9,fun g' PQ=>?_,k2,⟨k5,k6⟩,⟨k7,k8⟩⟩⟩;rw[d7,PQ]at k1;injection k1 with k1;rw[k3,k2,k1]
  ·exact⟨⟨[],b,false,0,0⟩,[],fun h=>absurd h hf⟩
 exact⟨⟨fun f=>Classical.choose (key f),fun f=>Classical.choose (l8 (key f)),fun f hf=>(l8 (l8 (key f)) hf).1,fun f g hg=>(l8 (l8 (key f)) (aH hg)).2.1 g hg,fun f hf=>(l8 (l8 (key f)) hf).2.2.1,fun f hf=>(l8 (l8 (key f)) hf).2.2.2.1,fun f hf=>(l8 (l8 (key f)) hf).2.2.2.2⟩⟩
section
variable {p:List LP} {b:LG} {first second:Int} (S:Sy p b)
structure ItA (S:Sy p b) (f j:Nat) (it:LO) (d:Int):Prop where
 lt:f<(ay p).length
 get:(az p f b)[j]?=some it
 dep:(S.ds f)[j]?=some d
inductive Cal (first second:Int) (W:Int->Int):Int->Int->Int->Int->List Int->Prop where
 | done {n sp fp:Int}:Cal first second W n 0 sp fp []
 | less {n r sp fp d:Int} {R:List Int} {f j:Nat} {it:LO} (hi:ItA S f j it d) (hc:it.J2.I9=12) (hn:n=jz (foldIf p b) it.J2.J7) (hr:r=adr p b first second f (j+1)) (hf:(S.C f).J6=false) (h0:0<=sp) (hin:sp+d<1200) (next:Cal first second W (S.C f).args (W (sp+d)) (sp+d+1) fp R):Cal first second W n r sp fp (r::R)
 | fram {n r sp fp d:Int} {R:List Int} {f j:Nat} {it:LO} (hi:ItA S f j it d) (hc:it.J2.I9=12) (hn:n=jz (foldIf p b) it.J2.J7) (hr:r=adr p b first second f (j+1)) (hf:(S.C f).J6=true) (h0:0<=sp) (NQ:sp+d=fp) (hin:fp+1<1200) (next:Cal first second W (S.C f).args (W (fp+1)) (fp+2) (W fp) R):Cal first second W n r sp fp (r::R)
variable {S}
theorem ItA.op {f j:Nat}{it:LO}{d:Int}(h:ItA S f j it d):OpTy (S.C f) j it d:=(S.ty f h.lt).item j it d h.get h.dep
theorem ItA.next {f j:Nat}{d:Int}(hf:f<(ay p).length)(h:(S.ds f)[j]?=some d):∃it,ItA S f j it d:=by obtain⟨it,Nt⟩:=ae (l:=az p f b) (k:=j) (by rw[<-(S.ty f hf).len];exact aH h);exact⟨it,hf,Nt,h⟩
theorem ItA.call {f j:Nat}{it:LO}{d:Int}(h:ItA S f j it d)(hc:it.J2.I9=12):0<=it.J2.J7/\it.J2.J7.toNat<(ay p).length/\jz (foldIf p b) it.J2.J7=(S.C it.J2.J7.toNat).args/\(S.C f).I8+jz (foldIf p b) it.J2.J7<=d/\0<=jz (foldIf p b) it.J2.J7:=by
 obtain⟨h0,g,hg,hd⟩:=h.op.call hc;rw[S.prog f h.lt]at hg hd;have PQ:(ay p)[it.J2.J7.toNat]?=some g:=by rw[<-mz p b];exact hg
 have ha:jz (foldIf p b) it.J2.J7=argsN (foldIf p b) g:=by rw[jz,hg]
 refine⟨h0,aH PQ,?_,o_,o_⟩;rw[ha,S.args _ g PQ]
theorem Cal.agree {W W':Int->Int}:∀{n r sp fp:Int} {R:List Int},Cal S first second W n r sp fp R->(∀a,sp+n<=a->W' a=W a)->Cal S first second W' n r sp fp R:=by
 intro n r sp fp R h
 induction h with
 | done=>intro _;exact .done
 | @less n r sp fp d R f j it hi hc hn hr hf h0 hin next ih=>
  intro hw;obtain⟨_,_,c3,c4,c5⟩:=hi.call hc;have NT:=S.w f hi.lt;have ha:=S.a4 f hi.lt;have e:=hw (sp+d) o_;refine .less hi hc hn hr hf h0 hin ?_;rw[e]
  exact ih fun a ha=>hw a o_
 | @fram n r sp fp d R f j it hi hc hn hr hf h0 NQ hin next ih=>intro hw;obtain⟨_,_,c3,c4,c5⟩:=hi.call hc;have NT:=S.w f hi.lt;have ha:=S.a4 f hi.lt;refine .fram hi hc hn hr hf h0 NQ hin ?_;rw[hw fp o_,hw (fp+1) o_];exact ih fun a ha=>hw a o_
def Body (S:Sy p b)(first second:Int)(W:Int->Int)(f i:Nat)(d sp fp:Int)(R:List Int):Prop:=
 0<=sp/\(if(S.C f).J6=true/\0<i then sp+d=fp/\fp+1<1200/\Cal S first second W (S.C f).args (W (fp+1)) (fp+2) (W fp) R
  else sp+d<1200/\Cal S first second W (S.C f).args (W (sp+d)) (sp+d+1) fp R)
theorem Body.agree {W W':Int->Int}{f i i':Nat}{d d' sp ON fp:Int}{R:List Int}(h:Body S first second W f i d sp fp R)(h0:0<=ON)(hs:ON+d'=sp+d)(hi:(S.C f).J6=true->(0<i↔0<i'))
  (hw:∀a,sp+d<=a->(a<sp+d+1\/((S.C f).J6=true/\a<sp+d+2)\/sp+d+1+(S.C f).args<=a)->((S.C f).J6=true->0<i->sp+d+2<=a->sp+d+2+(S.C f).args<=a)->W' a=W a) (ha:0<=(S.C f).args):Body S first second W' f i' d' ON fp R:=by
 obtain⟨_,h⟩:=h;refine⟨h0,?_⟩;by_cases hf:(S.C f).J6=true/\0<i
 ·rw[c7 hf]at h;rw[c7 ⟨hf.1,(hi hf.1).1 hf.2⟩];obtain⟨h1,h2,h3⟩:=h;refine⟨o_,h2,?_⟩;rw[hw fp o_ o_ (fun _ _ h=>o_),hw (fp+1) o_ (.inr (.inl ⟨hf.1,o_⟩)) (fun _ _ h=>o_)];exact h3.agree fun a ha=>hw a o_ (.inr (.inr o_)) (fun _ _ _=>o_)
 ·rw[b8 hf]at h;rw[b8 (fun hc=>hf ⟨hc.1,(hi hc.1).2 hc.2⟩)];obtain⟨h1,h2⟩:=h;refine⟨o_,?_⟩;rw[hs,hw (sp+d) o_ (.inl o_) (fun k1 k2=>absurd ⟨k1,k2⟩ hf)];exact h2.agree fun a ha=>hw a o_ (.inr (.inr o_)) (fun k1 k2=>absurd ⟨k1,k2⟩ hf)
def Cur (S:Sy p b)(first second:Int)(m:LQ)(R:List Int):Prop:=
 ∃(f i:Nat) (it:LO) (d:Int),ItA S f i it d/\m.K0=adr p b first second f i/\Body S first second (aL m) f i d m.J5 m.L0 R
theorem Cal.back {W:Int->Int}{n r sp fp:Int}{R:List Int}(h:Cal S first second W n r sp fp R)(hr:r≠0):∃(f j:Nat) (it:LO) (d:Int) (R':List Int),R=r::R'/\ItA S f j it d/\it.J2.I9=12/\n=jz (foldIf p b) it.J2.J7/\r=adr p b first second f (j+1)/\Body S first second W f j d sp fp R':=by
 cases h with
 | done=>exact absurd rfl hr
 | less hi hc hn PC hf h0 hin next=>exact⟨_,_,_,_,_,rfl,hi,hc,hn,PC,h0,by rw[b8 (by rw[hf];simp)];exact⟨hin,next⟩⟩
 | fram hi hc hn PC hf h0 NQ hin next=>
  rename_i d R f j it
  have hj:0<j:=by
   rcases v3 j with h|h
   ·have:=(hi.op.head h).1;rw[c7 hf]at this;omega
   ·exact h
  exact⟨_,_,_,_,_,rfl,hi,hc,hn,PC,h0,by rw[c7 ⟨hf,hj⟩];exact⟨NQ,hin,next⟩⟩
end
end
noncomputable section
section
variable {p:List LP} {b:LG} {first second:Int} {S:Sy p b}
def kD (p:List LP)(b:LG)(first second:Int)(f i:Nat)(it:LO)(R:List Int):List Int:=
 if it.J2.I9=12 then adr p b first second f (i+1)::R else if it.J2.I9=14\/it.J2.I9=16 then R.tail else R
theorem da {f i:Nat}{it:LO}{R:List Int}(Rv:it.J2.I9≠12)(Xi:it.J2.I9≠14)(Xj:it.J2.I9≠16):kD p b first second f i it R=R:=by unfold kD;rw[b8 Rv,b8 o_]
theorem kh {m:LQ}{f i:Nat}{d:Int}{R:List Int}(hf:f<(ay p).length)(hd:(S.ds f)[i]?=some d)(M1:m.K0=adr p b first second f i)(hB:Body S first second (aL m) f i d m.J5 m.L0 R):Cur S first second m R:=by obtain⟨it,Nt⟩:=ItA.next hf hd;exact⟨f,i,it,d,Nt,M1,hB⟩
theorem kO {c c':CS}{f i i':Nat}{it:LO}{d d' sp lo:Int}{R:List Int}(hI:ItA S f i it d)(hB:Body S first second (aL c.m) f i d c.m.J5 c.m.L0 R)(hS:Same c c' sp lo)(h0:0<=sp)(Pq:lo<=c.m.J5+d)(hd:(S.ds f)[i']?=some d')(he:sp+d'=c.m.J5+d)(hi:(S.C f).J6=true->(0<i↔0<i'))(M1:c'.m.K0=adr p b first second f i'):Cur S first second c'.m R:=by refine kh hI.lt hd M1 ?_;rw[hS.sp,hS.fp];exact hB.agree h0 he hi (fun a ha _ _=>hS.I8 a o_) (S.a4 f hI.lt).1
theorem DB {es:List Int}{c:CS}{o:LS}(h:5<=o.I9/\o.I9<=9):bJ es c o=ls c (o.I9-3):=by unfold bJ;rw[b8 o_,b8 o_,b8 o_,b8 o_,b8 o_,c7 h]
theorem V43{p:Prop}(h:p:=by
 obtain⟨_,q3,q4⟩:=JS hc hb;rw[da o_ o_ o_];have hi:=M7 o_ o_;refine .inr (kO hI hB q4 (by have:=q3.lo;rw[q4.sp]at this;exact this) o_ (fall aac) ?_ (iff1 hi o_) (by rw[q4.pc];exact M1));unfold gA;rw[c7 o_]
 omega):p:=h
theorem Hp (h:SpOk p b first second){c:CS}{R:List Int}{f i:Nat}{it:LO}{d:Int}(hI:ItA S f i it d)(M1:c.m.K0=adr p b first second f (i+1))(hB:Body S first second (aL c.m) f i d c.m.J5 c.m.L0 R)(hc:Stk c)
  (hb:(bJ (aQ p b first second).L9 c (cN (aZ (aW p b f) (az p f b)) i it).J2).bad=false):
  (bJ (aQ p b first second).L9 c (cN (aZ (aW p b f) (az p f b)) i it).J2).m.K0=0\/Cur S first second (bJ (aQ p b first second).L9 c (cN (aZ (aW p b f) (az p f b)) i it).J2).m (kD p b first second f i it R):=by
 have Mx:=hI.op;have Pl:=S.ty f hI.lt;have hw:=S.w f hI.lt;have ha:=S.a4 f hI.lt;have S6:=gR (aZ (aW p b f) (az p f b)) i it
 have Ss:it.J2.I9≠10->it.J2.I9≠11->(cN (aZ (aW p b f) (az p f b)) i it).J2.J7=it.J2.J7:=fun h1 h2=>by
  unfold cN;rw[b8 (by rw[isJump_iff];omega)]
 have WN:it.J2.I9=10\/it.J2.I9=11->(cN (aZ (aW p b f) (az p f b)) i it).J2.J7=adr p b first second f it.J2.J7.toNat-adr p b first second f (i+1):=fun h1=>by
  unfold cN;rw[c7 (isJump_iff.2 h1)];show atL _ _-atL _ _=_;unfold adr;omega
 generalize(cN (aZ (aW p b f) (az p f b)) i it).J2=o at *
 have Zr:=hB.1;have WQ:=hc.hi
 have M7:it.J2.I9≠13->it.J2.I9≠15->0<i:=fun h1 h2=>by
  rcases v3 i with e|e
  ·have:=(Mx.head e).1;split at this<;>omega
  ·exact e
 have QF:0<=d:=by
  rcases v3 i with e|e
  ·have:=Mx.lo.1 e;omega
  ·have:=Mx.lo.2 e;omega
 have fall:=fun(hf:eJ it.J2.I9)=>Pl.fall i it d hI.get hI.dep hf;have iff1:∀{i':Nat},0<i->0<i'->((S.C f).J6=true->(0<i↔0<i')):=fun a b _=>⟨fun _=>b,fun _=>a⟩
 have spd:c.m.J5+d<1200:=by obtain⟨_,hB⟩:=hB;split at hB<;>omega
 have Nd:0<=o.I9/\o.I9<=17:=by
  have h1:=(li h hI.lt hI.get).size;rw[S6];by_cases hr:af it.J2.I9 0 17=true
  ·exact within_iff.1 hr
  ·unfold aE at h1;rw[b8 hr]at h1;omega
 by_cases c0:o.I9=0
 ·rw[show bJ (aQ p b first second).L9 c o=bi c o.J7 by unfold bJ;rw[c7 c0]]at hb⊢;obtain⟨_,_,q3,q4,_⟩:=lp hc hb;rw[da o_ o_ o_];have hi:=M7 o_ o_;refine .inr (kO hI hB q4 (by have:=q3.lo;rw[q4.sp]at this;exact this) o_ (fall aac) ?_ (iff1 hi o_) (by rw[q4.pc];exact M1));unfold gA;rw[c7 o_];omega
 by_cases c1:o.I9=1
 ·rw[show bJ (aQ p b first second).L9 c o=gC c (wr (c.m.L0+o.J7)) by unfold bJ;rw[b8 o_,c7 c1]]at hb⊢;exact V43
 by_cases c3:o.I9=3
 ·rw[show bJ (aQ p b first second).L9 c o=gC c (wr (c.m.J5+o.J7)) by unfold bJ;rw[b8 o_,b8 o_,c7 c3]]at hb⊢;exact V43
 have down:∀{x:LS},x.I9=it.J2.I9->(x.I9=2\/x.I9=4\/(5<=x.I9/\x.I9<=9)\/x.I9=11\/x.I9=17)->gA (S.C f) it.J2 d=d-1:=fun{x} e hx=>by
  unfold gA;rw[b8 o_,c7 o_]
 by_cases c2:o.I9=2
 ·rw[show bJ (aQ p b first second).L9 c o=dl c (wr (c.m.L0+o.J7)) by unfold bJ;rw[b8 o_,b8 o_,b8 o_,c7 c2]]at hb⊢;obtain⟨_,s2,s3,s4,s5,s6,s7,s8,_,s10⟩:=Ac hc hb;rw[da o_ o_ o_];have hi:=M7 o_ o_;obtain⟨ZI,Na⟩:=Mx.st o_;obtain⟨_,Ni,Ri⟩|⟨e4,_⟩:=Na
  ·have Sa:=hB;obtain⟨_,Sa⟩:=Sa;rw[c7 ⟨Ni,hi⟩]at Sa;have e:=Ss o_ o_;have Uq:wr (c.m.L0+o.J7)=c.m.L0+o.J7:=zQ o_;rw[Uq]at s3 s4 s10⊢;rw[Uq]at s5 s6 s7 s8;refine .inr (kh hI.lt (fall aac) (by rw[s8];exact M1) ?_);rw[s6,s7,down S6 o_]
   exact hB.agree o_ o_ (iff1 hi o_) (fun a h1 h2 h3=>s10 a o_ (by
    intro hx;rcases Ri with hr|hr
    ·omega
    ·have:=h3 Ni hi o_
     omega)) ha.1
  ·omega
 by_cases c4:o.I9=4
 ·rw[show bJ (aQ p b first second).L9 c o=dl c (wr (c.m.J5+o.J7)) by unfold bJ;rw[b8 o_,b8 o_,b8 o_,b8 o_,c7 c4]]at hb⊢;obtain⟨_,s2,s3,s4,s5,s6,s7,s8,_,s10⟩:=Ac hc hb;rw[da o_ o_ o_];have hi:=M7 o_ o_;obtain⟨ZI,Na⟩:=Mx.st o_;obtain⟨e2,_⟩|⟨_,Ni,Ri⟩:=Na
  ·omega
  ·have e:=Ss o_ o_;have Uq:wr (c.m.J5+o.J7)=c.m.J5+o.J7:=zQ o_;rw[Uq]at s3 s4 s10⊢;rw[Uq]at s5 s6 s7 s8;refine .inr (kh hI.lt (fall aac) (by rw[s8];exact M1) ?_);rw[s6,s7,down S6 o_]
   exact hB.agree o_ o_ (iff1 hi o_) (fun a h1 h2 h3=>s10 a o_ (by
    intro hx;rcases h2 with h2|h2|h2
    ·omega
    ·rw[Ni]at h2;exact absurd h2.1 s_
    ·omega)) ha.1
 by_cases c5:5<=o.I9/\o.I9<=9
 ·rw[DB c5]at hb⊢;obtain⟨_,q3,q4⟩:=Hx hc hb;rw[da o_ o_ o_];have hi:=M7 o_ o_;have:=Mx.ar o_;refine .inr (kO hI hB q4 o_ o_ (fall aac) ?_ (iff1 hi o_) (by rw[q4.pc];exact M1));rw[down S6 o_];omega
 have jmp:isJ it.J2.I9->1<=it.J2.J7/\(S.ds f)[it.J2.J7.toNat]?=some (wR it.J2.I9 d)/\wr (adr p b first second f (i+1)+o.J7)=adr p b first second f it.J2.J7.toNat:=fun hj=>by
  obtain⟨j1,j2⟩:=Pl.jump i it d hI.get hI.dep hj;obtain⟨NJ,PA⟩:=ItA.next hI.lt j2;have hr:=(li h PA.lt PA.get).rng;refine⟨j1,j2,?_⟩;rw[WN (by unfold isJ at hj;omega),zQ o_];omega
 by_cases c10:o.I9=10
 ·rw[show bJ (aQ p b first second).L9 c o=om c o.J7 by unfold bJ;rw[b8 o_,b8 o_,b8 o_,b8 o_,b8 o_,b8 o_,c7 c10]]at hb⊢;rw[da o_ o_ o_];have hi:=M7 o_ o_;obtain⟨j1,j2,j3⟩:=jmp aan;refine .inr (kh hI.lt j2 (by show wr (c.m.K0+o.J7)=_;rw[M1];exact j3) ?_);have:wR it.J2.I9 d=d:=by unfold wR;rw[b8 o_]
  rw[this];exact hB.agree Zr rfl (iff1 hi o_) (fun _ _ _ _=>rfl) ha.1
 by_cases c11:o.I9=11
 ·rw[show bJ (aQ p b first second).L9 c o=pP c o.J7 by unfold bJ;rw[b8 o_,b8 o_,b8 o_,b8 o_,b8 o_,b8 o_,b8 o_,c7 c11]]at hb⊢;rw[da o_ o_ o_];have hi:=M7 o_ o_;have h1:=Mx.one o_
  have QM:(au c).bad=false:=by
   unfold pP at hb;split at hb
   ·exact hb
   ·exact hb
  obtain⟨_,_,p3,p4,_⟩:=iJ hc QM;have hS:=zP hc QM 0;unfold pP;split
  ·obtain⟨j1,j2,j3⟩:=jmp aan;have:wR it.J2.I9 d=d-1:=(by unfold wR;rw[c7 o_]);rw[this]at j2;refine .inr (kh hI.lt j2 (by show wr ((au c).m.K0+o.J7)=_;rw[hS.pc,M1];exact j3) ?_);show Body S first second (aL (au c).m) f _ (d-1) (au c).m.J5 (au c).m.L0 R;rw[hS.sp,hS.fp];exact hB.agree o_ o_ (iff1 hi o_) (fun a _ _ _=>hS.I8 a o_) ha.1
  ·refine .inr (kO hI hB hS o_ o_ (fall aac) ?_ (iff1 hi o_) (by rw[hS.pc];exact M1));rw[down S6 o_];omega
 by_cases c12:o.I9=12
 ·rw[show bJ (aQ p b first second).L9 c o=qD (bi c c.m.K0) (aQ p b first second).L9 o.J7 by unfold bJ;rw[b8 o_,b8 o_,b8 o_,b8 o_,b8 o_,b8 o_,b8 o_,b8 o_,c7 c12]]at hb⊢;have hi:=M7 o_ o_;obtain⟨k1,k2,k3,k4,k5⟩:=hI.call o_;have e:=Ss o_ o_
  have cf:(aQ p b first second).L9[o.J7.toNat]?=some (adr p b first second o.J7.toNat 0):=by rw[BM h (by rw[e];exact k2)];exact mA (by rw[e];exact k2)
  have hg:qD (bi c c.m.K0) (aQ p b first second).L9 o.J7=⟨{(bi c c.m.K0).m with K0:=adr p b first second o.J7.toNat 0},(bi c c.m.K0).bad⟩:=by unfold qD;rw[cf]
  rw[hg]at hb⊢;obtain⟨_,q2,q3,q4,q5⟩:=lp hc hb
  have WV:(S.ds o.J7.toNat)[0]?=some 0:=by have Rh:=S.ty o.J7.toNat (by rw[e];exact k2);obtain⟨d',NU⟩:=ae (l:=S.ds o.J7.toNat) (k:=0) (by rw[Rh.len];exact Rh.pos);obtain⟨NJ,PA⟩:=ae Rh.pos;have:=(Rh.item 0 NJ d' PA NU).lo.1 rfl;rw[NU,this]
  refine .inr (kh (i:=0) (by rw[e];exact k2) WV rfl ?_);show Body S first second (aL (bi c c.m.K0).m) o.J7.toNat 0 0 (bi c c.m.K0).m.J5 (bi c c.m.K0).m.L0 (kD p b first second f i it R);have hn:kD p b first second f i it R=adr p b first second f (i+1)::R:=by unfold kD;rw[c7 o_]
  rw[hn,<-M1];refine⟨by rw[q4.sp];omega,?_⟩;rw[b8 o_,q4.sp,q4.fp,Int.add_zero,q5];refine⟨o_,?_⟩;rw[show c.m.J5-1+1=c.m.J5 by omega];have Oj:(S.C o.J7.toNat).args=jz (foldIf p b) it.J2.J7:=by rw[e];exact k3.symm
  have QD:∀a,c.m.J5+d<=a->aL (bi c c.m.K0).m a=aL c.m a:=fun a h1=>q4.I8 a o_;obtain⟨_,hB⟩:=hB;by_cases Ni:(S.C f).J6=true
  ·rw[c7 ⟨Ni,hi⟩]at hB;obtain⟨b1,b2,b3⟩:=hB;refine .fram hI o_ Oj M1 Ni o_ b1 b2 ?_;rw[QD _ o_,QD _ o_];exact b3.agree fun a h1=>QD a o_
  ·rw[b8 (fun hx=>Ni hx.1)]at hB;obtain⟨b1,b2⟩:=hB;refine .less hI o_ Oj M1 (by simpa using Ni) o_ b1 ?_;rw[QD _ o_];exact b2.agree fun a h1=>QD a o_
 have QM:∀{c:CS} {v:Int},(bi c v).bad=false->c.bad=false:=fun{c v} h=>by
  exact V49
 have Ti:∀{c:CS},(au c).bad=false->c.bad=false:=fun{c} h=>by
  exact V59
 have WW:∀(n:Nat) {c:CS},(bz n c).bad=false->c.bad=false:=fun n=>by
  induction n with
  | zero=>intro c h;exact h
  | succ n ih=>intro c h;exact Ti (ih h)
 by_cases c13:o.I9=13
 ·rw[show bJ (aQ p b first second).L9 c o=rT c o.J7.toNat by unfold bJ;rw[b8 o_,b8 o_,b8 o_,b8 o_,b8 o_,b8 o_,b8 o_,b8 o_,b8 o_,c7 c13]]at hb⊢;have hi:=Mx.ent13 o_;subst hi;obtain⟨XC,ZC⟩:=Mx.head rfl;have ST:=Mx.lo.1 rfl;subst ST
  have Ni:(S.C f).J6=true:=by cases hx:(S.C f).J6 with|true=>rfl|false=>rw[hx]at XC;simp at XC;omega
  have e:=Ss o_ o_;rw[da o_ o_ o_];obtain⟨X,SA⟩:∃X:CS,X=⟨{(bi c c.m.L0).m with L0:=(bi c c.m.L0).m.J5},(bi c c.m.L0).bad⟩:=⟨_,rfl⟩;have Ym:rT c o.J7.toNat=dE o.J7.toNat X:=by rw[SA];rfl
  rw[Ym]at hb⊢;have Yw:X.bad=(bi c c.m.L0).bad:=by rw[SA]
  have hz:∀(n:Nat) {c:CS},(dE n c).bad=false->c.bad=false:=fun n=>by
   intro c h
   cases hx:c.bad with
   | false=>rfl
   | true=>rw[qR n c hx]at h;cases h
  have Nk:(bi c c.m.L0).bad=false:=by rw[<-Yw];exact hz _ hb
  obtain⟨_,q2,q3,q4,q5⟩:=lp hc Nk;have S1:Stk X:=by rw[SA];exact⟨q3.len,q3.lo,q3.hi⟩
  have x1:X.m.J5=c.m.J5-1:=by rw[SA];exact q4.sp
  have x2:X.m.L0=c.m.J5-1:=by rw[SA];exact q4.sp
  have x3:X.m.K0=c.m.K0:=by rw[SA];exact q4.pc
  have x4:∀a,aL X.m a=aL (bi c c.m.L0).m a:=fun a=>by rw[SA];rfl
  obtain⟨_,z2,z3⟩:=vT o.J7.toNat S1 hb
  have YG:(S.ds f)[1]?=some (S.C f).I8:=by have:=fall aac;rw[pj (C:=S.C f) (c:=it.J2.I9) (a:=it.J2.J7) o_,ZC,I5]at this;exact this
  have e2:(o.J7.toNat:Int)=(S.C f).I8:=o_;refine .inr (kh (i:=1) hI.lt YG (by rw[z3.pc,x3];exact M1) ?_);have zsp:=z3.sp;have zlo:=z2.lo;rw[z3.fp,x2];rw[x1]at zsp;obtain⟨_,hB⟩:=hB;rw[b8 o_,Int.add_zero]at hB;obtain⟨b1,b2⟩:=hB;refine⟨zlo,?_⟩;rw[c7 ⟨Ni,o_⟩];refine⟨o_,o_,?_⟩;have OM:∀a,c.m.J5-1<=a->aL (dE o.J7.toNat X).m a=aL (bi c c.m.L0).m a:=fun a h1=>by rw[z3.I8 a o_,x4]
  rw[OM _ o_,OM _ o_,q5,q4.I8 _ o_,show c.m.J5-1+1=c.m.J5 by omega,show c.m.J5-1+2=c.m.J5+1 by omega];exact b2.agree fun a h1=>by rw[OM _ o_,q4.I8 _ o_]
 by_cases c15:o.I9=15
 ·rw[show bJ (aQ p b first second).L9 c o=dE o.J7.toNat c by unfold bJ;rw[b8 o_,b8 o_,b8 o_,b8 o_,b8 o_,b8 o_,b8 o_,b8 o_,b8 o_,b8 o_,c7 c15]]at hb⊢;have e:=Ss o_ o_;rw[da o_ o_ o_];obtain⟨_,z2,z3⟩:=vT o.J7.toNat hc hb;have zlo:=z2.lo;have zsp:=z3.sp;have hf:=fall aac;rw[pj (C:=S.C f) (c:=it.J2.I9) (a:=it.J2.J7) o_]at hf
  have hA:0<=it.J2.J7/\((S.C f).J6=true->(0<i↔0<i+1)):=by
   rcases v3 i with h0|h0
   ·obtain⟨g1,g2⟩:=Mx.head h0;refine⟨o_,fun Ni=>?_⟩;rw[c7 Ni]at g1;omega
   ·have:=Mx.sp o_ h0;exact⟨o_,fun _=>o_⟩
  exact .inr (kO hI hB z3 o_ o_ hf o_ hA.2 (by rw[z3.pc];exact M1))
 have back:∀{v sp fp r:Int} {W:Int->Int} {cc:CS},Cal S first second (aL c.m) (S.C f).args r sp fp R->Stk cc->(bi cc v).bad=false->cc.m.J5=sp+(S.C f).args->cc.m.L0=fp->cc.m.K0=r->0<=sp->(∀a,sp<=a->aL cc.m a=aL c.m a)->(bi cc v).m.K0=0\/Cur S first second (bi cc v).m R.tail:=fun{v sp fp r W cc} hcal Na OH e1 e2 e3 NC OM=>by
  obtain⟨_,q2,q3,q4,q5⟩:=lp Na OH;by_cases hr:r=0
  ·exact .inl (by rw[q4.pc,e3,hr])
  ·obtain⟨f',j,NJ,d',R',r1,r2,r3,r4,r5,r6⟩:=hcal.back hr;rw[r1,List.tail_cons];obtain⟨_,_,_,k4,k5⟩:=r2.call r3;have WH:=S.w f' r2.lt
   have hj:0<j:=by
    rcases v3 j with h0|h0
    ·have:=(r2.op.head h0).1;split at this<;>omega
    ·exact h0
   have NU:=(S.ty f' r2.lt).fall j NJ d' r2.get r2.dep aac
   have VP:gA (S.C f') NJ.J2 d'=d'-(S.C f).args+1:=by unfold gA;rw[b8 o_,b8 o_,c7 r3,S.prog f' r2.lt,<-r4]
   rw[VP]at NU;refine .inr (kh r2.lt NU (by rw[q4.pc,e3,r5]) ?_);rw[q4.sp,q4.fp,e1,e2];exact r6.agree (by have:=q3.lo;rw[q4.sp,e1]at this;omega) o_ (fun _=>⟨fun _=>o_,fun _=>hj⟩) (fun a h1 _ _=>by rw[q4.I8 a o_,OM a o_]) (S.a4 f' r2.lt).1
 by_cases c14:o.I9=14
 ·rw[show bJ (aQ p b first second).L9 c o=rU c o.J7.toNat by unfold bJ;rw[b8 o_,b8 o_,b8 o_,b8 o_,b8 o_,b8 o_,b8 o_,b8 o_,b8 o_,b8 o_,b8 o_,c7 c14]]at hb⊢;have e:=Ss o_ o_;have hi:=M7 o_ o_;obtain⟨Ni,l2,l3⟩:=Mx.leave o_;have hn:kD p b first second f i it R=R.tail:=by unfold kD;rw[b8 o_,c7 o_]
  rw[hn];obtain⟨_,hB⟩:=hB;rw[c7 ⟨Ni,hi⟩]at hB;obtain⟨b1,b2,b3⟩:=hB;unfold rU at hb⊢;have Nk:=QM hb;have Nc:=WW _ Nk;have Rp:(au (cFp (cX (au c)))).bad=false:=Nc;have Ub:(au (cX (au c))).bad=false:=Ti (c:=cFp (cX (au c))) Rp;have Xa:(au c).bad=false:=Ti (c:=cX (au c)) Ub;obtain⟨_,_,p3,p4,_⟩:=iJ hc Xa;have MM:Stk (cX (au c)):=⟨p3.len,by show 0<=(au c).m.L0;rw[p4];dsimp only;omega,by show(au c).m.L0<=1200;rw[p4];dsimp only;omega⟩;obtain⟨_,_,x3,x4,x5⟩:=iJ MM Ub;have NQ:Stk (cFp (cX (au c))):=⟨x3.len,x3.lo,x3.hi⟩;obtain⟨_,_,y3,y4,y5⟩:=iJ NQ Rp;have SI:Stk (cPc (cFp (cX (au c)))):=⟨y3.len,y3.lo,y3.hi⟩;obtain⟨_,z2,z3⟩:=tW o.J7.toNat SI Nk;have s1:(cX (au c)).m.J5=c.m.L0:=by show(au c).m.L0=_;rw[p4]
  have w1:∀a,aL (cX (au c)).m a=aL c.m a:=fun a=>by show aL (au c).m a=_;rw[p4];rfl
  have s2:(cFp (cX (au c))).m.J5=c.m.L0+1:=by show(au (cX (au c))).m.J5=_;rw[x4];dsimp only;rw[s1]
  have w2:∀a,aL (cFp (cX (au c))).m a=aL c.m a:=fun a=>by
   show aL (au (cX (au c))).m a=_;rw[x4];exact w1 a
  have f2:(cFp (cX (au c))).m.L0=aL c.m c.m.L0:=by show kX (cX (au c))=_;rw[x5,s1,w1]
  have s3:(cPc (cFp (cX (au c)))).m.J5=c.m.L0+2:=by show(au (cFp (cX (au c)))).m.J5=_;rw[y4];dsimp only;rw[s2];omega
  have w3:∀a,aL (cPc (cFp (cX (au c)))).m a=aL c.m a:=fun a=>by
   show aL (au (cFp (cX (au c)))).m a=_;rw[y4];exact w2 a
  have f3:(cPc (cFp (cX (au c)))).m.L0=aL c.m c.m.L0:=by show(au (cFp (cX (au c)))).m.L0=_;rw[y4];exact f2
  have g3:(cPc (cFp (cX (au c)))).m.K0=aL c.m (c.m.L0+1):=by show kX (cFp (cX (au c)))=_;rw[y5,s2,w2]
  refine back (W:=aL c.m) b3 z2 hb ?_ ?_ ?_ o_ ?_
  ·rw[z3];dsimp only;rw[s3];omega
  ·rw[z3];exact f3
  ·rw[z3];exact g3
  ·intro a _;rw[z3];exact w3 a
 by_cases c16:o.I9=16
 ·rw[show bJ (aQ p b first second).L9 c o=nH c o.J7.toNat by unfold bJ;rw[b8 o_,b8 o_,b8 o_,b8 o_,b8 o_,b8 o_,b8 o_,b8 o_,b8 o_,b8 o_,b8 o_,b8 o_,c7 c16]]at hb⊢;have e:=Ss o_ o_;have hi:=M7 o_ o_;obtain⟨Ni,l2,l3⟩:=Mx.ret o_;have hn:kD p b first second f i it R=R.tail:=by unfold kD;rw[b8 o_,c7 o_]
  rw[hn];obtain⟨_,hB⟩:=hB;rw[b8 (fun hx=>by rw[Ni]at hx;exact absurd hx.1 s_)]at hB;obtain⟨b1,b2⟩:=hB;have d1:((o.J7.toNat/16:Nat):Int)=(S.C f).I8:=o_;have d2:((o.J7.toNat%16:Nat):Int)=(S.C f).args:=o_;unfold nH at hb⊢;have Nk:=QM hb;have Nc:=WW _ Nk;have Rp:(au (bz (o.J7.toNat/16) (au c))).bad=false:=Nc;have Ub:(bz (o.J7.toNat/16) (au c)).bad=false:=Ti Rp;have Xa:(au c).bad=false:=WW _ Ub;obtain⟨_,_,p3,p4,_⟩:=iJ hc Xa;obtain⟨_,x2,x3⟩:=tW _ p3 Ub;obtain⟨_,_,y3,y4,y5⟩:=iJ x2 Rp;have SI:Stk (cPc (bz (o.J7.toNat/16) (au c))):=⟨y3.len,y3.lo,y3.hi⟩;obtain⟨_,z2,z3⟩:=tW (o.J7.toNat%16) SI Nk;have s1:(bz (o.J7.toNat/16) (au c)).m.J5=c.m.J5+d:=by rw[x3,p4];dsimp only;omega
  have w1:∀a,aL (bz (o.J7.toNat/16) (au c)).m a=aL c.m a:=fun a=>by rw[x3,p4];rfl
  have s2:(cPc (bz (o.J7.toNat/16) (au c))).m.J5=c.m.J5+d+1:=by show(au _).m.J5=_;rw[y4];dsimp only;rw[s1]
  have w2:∀a,aL (cPc (bz (o.J7.toNat/16) (au c))).m a=aL c.m a:=fun a=>by
   show aL (au _).m a=_;rw[y4];exact w1 a
  have f2:(cPc (bz (o.J7.toNat/16) (au c))).m.L0=c.m.L0:=by show(au _).m.L0=_;rw[y4];dsimp only;rw[x3,p4]
  have g2:(cPc (bz (o.J7.toNat/16) (au c))).m.K0=aL c.m (c.m.J5+d):=by show kX _=_;rw[y5,s1,w1]
  refine back (W:=aL c.m) b2 z2 hb ?_ ?_ ?_ o_ ?_
  ·rw[z3];dsimp only;rw[s2];omega
  ·rw[z3];exact f2
  ·rw[z3];exact g2
  ·intro a _;rw[z3];exact w2 a
 ·have c17:o.I9=17:=o_;rw[show bJ (aQ p b first second).L9 c o=Kh c by unfold bJ;rw[b8 o_,b8 o_,b8 o_,b8 o_,b8 o_,b8 o_,b8 o_,b8 o_,b8 o_,b8 o_,b8 o_,b8 o_,b8 o_,c7 c17]]at hb⊢;rw[da o_ o_ o_];have hi:=M7 o_ o_;have h1:=Mx.one o_;have QM:(au c).bad=false:=hb;obtain⟨_,_,p3,p4,_⟩:=iJ hc QM;have hS:=zP hc QM 0;refine .inr (kh hI.lt (fall aac) (by show(au c).m.K0=_;rw[hS.pc];exact M1) ?_);show Body S first second (aL (au c).m) f (i+1) _ (au c).m.J5 (au c).m.L0 R;rw[hS.sp,hS.fp,down S6 o_];exact hB.agree o_ o_ (iff1 hi o_) (fun a _ _ _=>hS.I8 a o_) ha.1
theorem HQ (h:SpOk p b first second){m m':LQ}{R:List Int}{f i:Nat}{it:LO}{d:Int}(hI:ItA S f i it d)(M1:m.K0=adr p b first second f i)(hB:Body S first second (aL m) f i d m.J5 m.L0 R)(hm:MInv m 0)(hs:fh (aQ p b first second) m=some m'):
  m'.L6=1\/Cur S first second m' (kD p b first second f i it R):=by
 have N0:=li h hI.lt hI.get;have hr:=N0.rng;have hz:=N0.size;unfold fh at hs;rw[M1,N0.fetch]at hs;dsimp only at hs;have hc:Stk (adv ⟨m,false⟩ ((aE it.J2.I9).toNat:Nat)):=⟨hm.len,hm.sp.1,hm.sp.2⟩
 have YZ:(adv ⟨m,false⟩ ((aE it.J2.I9).toNat:Nat)).m.K0=adr p b first second f (i+1):=by show wr (m.K0+(((aE it.J2.I9).toNat:Nat):Int))=_;rw[M1,N0.next,zQ o_];omega
 have key:=Hp (S:=S) (R:=R) h hI YZ (show Body S first second (aL (adv ⟨m,false⟩ ((aE it.J2.I9).toNat:Nat)).m) f i d (adv ⟨m,false⟩ ((aE it.J2.I9).toNat:Nat)).m.J5 (adv ⟨m,false⟩ ((aE it.J2.I9).toNat:Nat)).m.L0 R from hB) hc
 generalize bJ (aQ p b first second).L9 (adv ⟨m,false⟩ ((aE it.J2.I9).toNat:Nat)) (cN (aZ (aW p b f) (az p f b)) i it).J2=c at *
 unfold ma at hs;split at hs
 ·cases hs
 ·rename_i OH;have key:=key (by simpa using OH);split at hs
  ·split at hs
   ·injection hs with hs;subst hs;exact .inl rfl
   ·cases hs
  ·rename_i RH;injection hs with hs;subst hs;rcases key with k|k
   ·exact absurd k RH
   ·exact .inr k
end
end
theorem sP {v:Ma}{pc sp fp:Int}(hw:∀x∈v.Mb,inI x)(M1:inI pc)(hs:v.Mb.length<=1048576):inI (fQ v pc sp fp).K0/\(∀x∈(fQ v pc sp fp).Mb,inI x)/\(fQ v pc sp fp).Mb.length<=1048576:=by refine⟨M1,fun x hx=>hw x (z7 hx),?_⟩;show(v.Mb.drop _).length<=_;rw[t9];omega
theorem wb {v:Ma}{a x:Int}(h:dk v a=some x):x∈v.Mb:=by
 unfold dk at h;split at h
 ·exact c9 h
 ·cases h
theorem AM {s:LX}{rules:List (List LW)}{v x:Ma}{inner:Bool}(hw:∀x∈v.Mb,inI x)(hs:v.Mb.length<=1048576)(h:bC s rules v inner=some x):inI x.K0/\(∀y∈x.Mb,inI y)/\x.Mb.length<=1048576:=by
 unfold bC at h;split at h
 ·split at h
  ·unfold jR at h;split at h
   ·split at h
    ·rename_i f pc e1 e2;injection h with h;subst h;exact sP hw (hw _ (wb e2)) hs
    ·cases h
   ·split at h
    ·rename_i pc e1;injection h with h;subst h;exact sP hw (hw _ (wb e1)) hs
    ·cases h
  ·cases h
 ·cases h
theorem zK {v:Ma}(h:v.Mb.length<=1048576):aF 1048576 v.tr:=by simp only[Ma.tr,aF];exact⟨by simp[aw],by simp[aw],by simp[aw],lm h,trivial⟩
def sf (s:LX)(rules:List (List LW)):Nat->Ma->Bool->List Int×Bool
 | 0,_,_=>([],false)
 | k+1,v,inner=>(match bC s rules v inner with
   | none=>([],false)
   | some x=>if x.K0=0 then([],true)else(x.K0::(sf s rules k x false).1,(sf s rules k x false).2))
def rt (s:LX)(rules:List (List LW))(v:Ma):List Int×Bool:=(v.K0::(sf s rules 39 v true).1,(sf s rules 39 v true).2)
structure UnIx (s:LX) (rules:List (List LW)) (R:List Int×Bool) where
 k:Nat
 x:Ma
 acc:List Int
 first:Bool
 hk:acc.length+k=40
 hk1:1<=acc.length
 h1:acc.length=1↔first=true
 h2:inI x.K0/\(∀y∈x.Mb,inI y)/\x.Mb.length<=1048576
 hr:acc++(sf s rules k x first).1=R.1/\(sf s rules k x first).2=R.2
theorem wV (s:LX)(rules:List (List LW))(v:Ma)(hv:v.wf)(hs:aF 1048576 s.tr)(hr:aw 1048576 (.lst 1 (rules.map (cQ 4 LW.tr))))(OY:aF 1048576 v.tr):Sim.Spec prog 14 [.agg s.tr,tvL 1 (rules.map (cQ 4 LW.tr)),.agg v.tr] (.tup [.c (.arr 1 ((rt s rules v).1.map aa)),.c (.t (.bool (rt s rules v).2))]):=by
 refine ak hΓ aG func14 rfl d_ rfl ?_;have SW:v.Mb.length<=1048576:=by have:=OY;simp only[Ma.tr,aF]at this;exact bE this.2.2.2.1
 obtain⟨R,hR⟩:∃R,rt s rules v=R:=⟨_,rfl⟩;rw[hR];unfold rt at hR;repeat' ((conv=>whnf);first|refine Or.inl ?_|apply oi|apply fi|intro h|exact Y1|refine e_ rfl ?_)
 conv=>whnf
 refine⟨UnIx s rules R,fun q=>match q.first with
  | true=>⟨[(1,.r (.c (.t (.lst 1 (rules.map (cQ 4 LW.tr)))))),(3,.r (.c (.ptr (3,0,0) 0))),(5,.r (.c (.ptr (5,0,0) 0))),(8,.r (.c (.own (8,0,1))))],[((8,0,1),some (.arr true 1 (q.acc.map aa))),((5,0,0),some (.box [.t (.int .i64 q.x.K0),.t (.int .i64 q.x.J5),.t (.int .i64 q.x.L0),.t (.lst 1 (q.x.Mb.map aa))])),((3,0,0),some (.box (s.tr.map .t)))],[13,5,3,8]⟩
  | false=>⟨[(1,.r (.c (.t (.lst 1 (rules.map (cQ 4 LW.tr)))))),(3,.r (.c (.ptr (3,0,0) 0))),(5,.r (.c (.ptr (5,0,0) 0))),(8,.r (.c (.own (8,0,1))))],[((8,0,1),some (.arr true 1 (q.acc.map aa))),((5,0,0),some (.box [.t (.int .i64 q.x.K0),.t (.int .i64 q.x.J5),.t (.int .i64 q.x.L0),.own (5,0,1)])),((5,0,1),some (.arr true 1 (q.x.Mb.map aa))),((3,0,0),some (.box (s.tr.map .t)))],[13,5,3,8]⟩,
  fun q=>q.k,⟨39,v,[v.K0],true,rfl,s_,s_,⟨hv.1,hv.2.2.2.2,SW⟩,by rw[<-hR];exact⟨rfl,rfl⟩⟩,?_,?_⟩
 ·exact Z1
 intro⟨k,x,acc,first,hk,hk1,h1,h2,UY⟩;have NN:=UY;have M5:(acc.map aa).length=acc.length:=s_
 have hin:(((acc.map aa).length:Int)==1)=first:=by
  rw[M5]
  cases first with
  | true=>simp[h1.2 rfl]
  | false=>
   have:acc.length≠1:=fun e=>by have:=h1.1 e;cases this
   simp;omega
 have hU:Sim.Spec prog 66 [.agg s.tr,tvL 1 (rules.map (cQ 4 LW.tr)),.agg x.tr,tvB (((acc.map aa).length:Int)==1)] (.tup [.agg ((oV (bC s rules x first)).tr.map tD),.c (.t (.bool (bC s rules x first).isSome))]):=by rw[hin];exact qF s rules x first h2.1 hs hr (zK h2.2.2)
 cases k with
 | zero=>
  rw[sf,m6]at NN;obtain⟨r1,r2⟩:=NN;subst r1
  cases first
  all_goals
   repeat' ((conv=>whnf);first|refine Or.inl ?_|apply oi|apply fi|intro h|exact Y1|refine e_ rfl ?_)
   all_goals try(exfalso;have h':=f0 h;rw[M5]at h';omega)
   all_goals try exact⟨congrArg Tr.bool r2⟩
 | succ k=>
  match hx:bC s rules x first with
  | none=>
   rw[sf,hx]at NN;dsimp only at NN;rw[m6]at NN;obtain⟨r1,r2⟩:=NN;subst r1;rw[hx]at hU
   cases first
   all_goals
    repeat' ((conv=>whnf);first|refine Or.inl ?_|apply oi|apply fi|intro h|refine ci hU (ai (ai rfl (ai rfl (ai rfl trivial))) (ai rfl (ai (ai rfl (ai rfl (ai rfl (ai rfl trivial)))) (ai rfl trivial)))) ?_|exact Y1|refine e_ rfl ?_)
    all_goals try(exfalso;first|(simp at h;done)|(have h':=f9 h;rw[M5]at h';omega))
    all_goals try exact⟨congrArg Tr.bool r2⟩
  | some nx=>
   have hg:=AM h2.2.1 h2.2.2 hx;rw[sf,hx]at NN;dsimp only at NN;rw[hx]at hU;by_cases h0:nx.K0=0
   ·rw[c7 h0,m6]at NN;obtain⟨r1,r2⟩:=NN;subst r1
    cases first
    all_goals
     repeat' ((conv=>whnf);first|refine Or.inl ?_|apply oi|apply fi|intro h|refine ci hU (ai (ai rfl (ai rfl (ai rfl trivial))) (ai rfl (ai (ai rfl (ai rfl (ai rfl (ai rfl trivial)))) (ai rfl trivial)))) ?_|exact Y1|refine e_ rfl ?_)
     all_goals try(exfalso;first|(simp at h;done)|(have h':=f9 h;rw[M5]at h';omega)|(have h':(nx.K0==0)=false:=h;rw[h0]at h';simp at h'))
     all_goals try exact⟨congrArg Tr.bool r2⟩
   ·rw[b8 h0]at NN
    cases first
    all_goals
     repeat' ((conv=>whnf);first|refine Or.inl ?_|apply oi|apply fi|intro h|refine ci hU (ai (ai rfl (ai rfl (ai rfl trivial))) (ai rfl (ai (ai rfl (ai rfl (ai rfl (ai rfl trivial)))) (ai rfl trivial)))) ?_|exact Y1|refine e_ rfl ?_)
     all_goals try(exfalso;first|(simp at h;done)|(have h':=f9 h;rw[M5]at h';omega)|(have h':(nx.K0==0)=true:=h;exact h0 (by simpa using h')))
     all_goals try(refine⟨?_⟩;simp only[e7,d5,i8];exact⟨o_,o_⟩)
     all_goals conv=>whnf
     all_goals refine⟨⟨k,nx,acc++[nx.K0],false,by simp;omega,s_,⟨fun e=>by rw[c8,d5,i8]at e;omega,fun e=>by cases e⟩,hg,by rw[j9];exact NN⟩,?_,KD⟩
     repeat' ((conv=>whnf);first|refine Or.inl ?_|apply oi|apply fi|intro h|exact Y1|refine e_ rfl ?_)
     all_goals try(refine⟨?_⟩;dsimp only;rw[u4];rfl)
noncomputable section
def dm (m:LQ)(pc sp fp:Int):Ma:=⟨pc,sp,fp,m.Mg.drop sp.toNat⟩
theorem xX {m:LQ}{pc sp fp:Int}(hl:m.Mg.length=1200)(h0:0<=sp)(h1:sp<=1200):fo (dm m pc sp fp)=true:=by rw[viewOk_iff];unfold dm;dsimp only;rw[t9,hl];omega
theorem mB {m:LQ}{pc sp fp a:Int}(hl:m.Mg.length=1200)(h0:0<=sp)(h1:sp<=a)(h2:a<1200):dk (dm m pc sp fp) a=some (aL m a):=by
 unfold dk
 rw[c7 ⟨xX hl h0 o_,by
  rw[within_iff];unfold dm;dsimp only;rw[t9,hl];omega⟩]
 unfold dm aL;dsimp only;rw[v7,show sp.toNat+(a-sp).toNat=a.toNat by omega];obtain⟨x,hx⟩:=ae (l:=m.Mg) (k:=a.toNat) o_;rw[hx]
theorem pL {m:LQ}{pc sp fp X9 ON T0:Int}(h0:0<=sp)(h1:sp<=ON):fQ (dm m pc sp fp) X9 ON T0=dm m X9 ON T0:=by unfold fQ dm;dsimp only;rw[F1,show sp.toNat+(ON-sp).toNat=ON.toNat by omega]
section
variable {p:List LP} {b:LG} {first second:Int} {S:Sy p b}
theorem V58{p:Prop}(h:p:=by
 have a:=li h hi.lt hi.get;have a1:=a.rng;have a2:=a.next;have a3:=a.size;refine⟨⟨fun e=>o_,fun e=>by cases e⟩,fun x hx=>?_⟩;rcases d6.1 hx with rfl|hx
 ·omega
 ·exact ih.2 x hx):p:=h
theorem zN (h:SpOk p b first second){W:Int->Int}{n r sp fp:Int}{R:List Int}(hc:Cal S first second W n r sp fp R):(r=0↔R=[])/\(∀x∈R,x≠0):=by
 induction hc with
 | done=>simp
 | less hi hc hn hr hf h0 hin next ih=>exact V58
 | fram hi hc hn hr hf h0 NQ hin next ih=>exact V58
theorem vg (h:SpOk p b first second){m:LQ}(hl:m.Mg.length=1200){f i:Nat}{it:LO}{d:Int}{R:List Int}{pc sp fp:Int}{inner:Bool}(hI:ItA S f i it d)(hB:Body S first second (aL m) f i d sp fp R)(hs:0<=sp)
  (h1:adr p b first second f i<=(if inner then pc else pc-1)) (h2:(if inner then pc else pc-1)<adr p b first second f (i+1)):
  ∃n r ON T0,bC (aQ p b first second) (kj p b) (dm m pc sp fp) inner=some (dm m r ON T0)/\0<=ON/\Cal S first second (aL m) n r ON T0 R:=by
 obtain⟨r,hr,Ni,Tm⟩:=(li h hI.lt hI.get).rule _ h1 h2;have Mx:=hI.op
 have NC:sp<=1200/\0<=d:=by
  have hw:=S.w f hI.lt
  have hd:0<=d:=by
   rcases v3 i with e|e
   ·have:=Mx.lo.1 e;omega
   ·have:=Mx.lo.2 e;omega
  obtain⟨_,hB⟩:=hB;split at hB<;>omega
 have Nq:bC (aQ p b first second) (kj p b) (dm m pc sp fp) inner=jR (dm m pc sp fp) r:=by unfold bC;rw[c7 ⟨h.space,xX hl hs NC.1,rfl⟩];rw[show(if inner=true then(dm m pc sp fp).K0 else(dm m pc sp fp).K0-1)=(if inner=true then pc else pc-1) from rfl,hr]
 rw[Nq];unfold jR;rw[Ni,Mx.ent,Tm,Mx.dep];obtain⟨_,hB⟩:=hB;by_cases hf:(S.C f).J6=true/\0<i
 ·rw[c7 hf]at hB;obtain⟨b1,b2,b3⟩:=hB;rw[c7 (by rw[hf.1];simpa using hf.2)];rw[show(dm m pc sp fp).L0=fp from rfl,mB hl hs o_ o_,mB hl hs o_ o_];dsimp only;rw[pL hs o_];exact⟨_,_,_,_,rfl,o_,b3⟩
 ·rw[b8 hf]at hB;obtain⟨b1,b2⟩:=hB
  rw[b8 (by
   intro hc;rw[b9,j5]at hc
   exact hf hc),b8 hf]
  rw[show(dm m pc sp fp).J5=sp from rfl,mB hl hs o_ o_];dsimp only;rw[pL hs o_];exact⟨_,_,_,_,rfl,o_,b2⟩
theorem V83{p:Prop}(h:p:=by
 obtain⟨_,_,_,_,R'',rfl,_⟩:=h3.back M8;refine Prod.ext s_ (decide_eq_decide.2 ?_);simp only[List.tail_cons,d5]
 omega):p:=h
theorem BB (h:SpOk p b first second){m:LQ}(hl:m.Mg.length=1200):∀(k:Nat) {n r sp fp:Int} {R:List Int},Cal S first second (aL m) n r sp fp R->r≠0->0<=sp->
  sf (aQ p b first second) (kj p b) k (dm m r sp fp) false=(R.tail.take k,decide (R.tail.length<k))
 | 0,n,r,sp,fp,R,hc,hr,hs=>by simp[sf]
 | k+1,n,r,sp,fp,R,hc,hr,hs=>by
  obtain⟨f,j,it,d,R',rfl,hI,_,_,WP,hB⟩:=hc.back hr;have a:=li h hI.lt hI.get;have a2:=a.next;have a3:=a.size;obtain⟨n2,r2,sp2,fp2,h1,h2,h3⟩:=vg (pc:=r) (inner:=false) h hl hI hB hs (by rw[b8 s_];omega) (by rw[b8 s_];omega);rw[sf,h1];dsimp only;have hz:=zN h h3;rw[show(dm m r2 sp2 fp2).K0=r2 from rfl];by_cases M8:r2=0
  ·rw[c7 M8,(hz.1.1 M8)];simp
  ·rw[b8 M8,BB h hl k h3 M8 h2];exact V83
theorem De (h:SpOk p b first second){m:LQ}{R:List Int}(MC:cI m=true)(hc:Cur S first second m R):rt (aQ p b first second) (kj p b) (iO m 1200)=(m.K0::R.take 39,decide (R.length<39)):=by
 obtain⟨hl,NC,_⟩:=machineOk_iff.1 MC;obtain⟨f,i,it,d,hI,M1,hB⟩:=hc
 have hv:iO m 1200=dm m m.K0 m.J5 m.L0:=by rw[iO,c7 ⟨MC,o_⟩,dm,gt (by rw[t9,hl];omega)]
 have a:=li h hI.lt hI.get;have a2:=a.next;have a3:=a.size;obtain⟨n2,r2,sp2,fp2,h1,h2,h3⟩:=vg (pc:=m.K0) (inner:=true) h hl hI hB NC.1 (by rw[c7 rfl];omega) (by rw[c7 rfl];omega);have hz:=zN h h3;rw[hv];unfold rt;rw[sf,h1];dsimp only;rw[show(dm m r2 sp2 fp2).K0=r2 from rfl,show(dm m m.K0 m.J5 m.L0).K0=m.K0 from rfl];by_cases M8:r2=0
 ·rw[c7 M8,(hz.1.1 M8)];simp
 ·rw[b8 M8,BB h hl 38 h3 M8 h2];exact V83
theorem Je (h:SpOk p b first second)(hf:0<(ay p).length):Cur S first second (Al (aQ p b first second)) []:=by
 have Pl:=S.ty 0 hf;obtain⟨d',NU⟩:=ae (l:=S.ds 0) (k:=0) (by rw[Pl.len];exact Pl.pos);obtain⟨NJ,PA⟩:=ae Pl.pos;have:=(Pl.item 0 NJ d' PA NU).lo.1 rfl;subst this;have NC:ce (aQ p b first second)=true:=h.space
 have hn:Al (aQ p b first second)=⟨cS p b first second 0,1199,1200,List.replicate 1200 0,[],0,0⟩:=by
  rw[Al,c7 NC]
  have he:(aQ p b first second).L9.headD 0=cS p b first second 0:=by have:=mA (p:=p) (b:=b) (first:=first) (second:=second) hf;rw[show(aQ p b first second).L9=entries p b first second from rfl,List.headD_eq_head?_getD,List.head?_eq_getElem?,this];rfl
  rw[he]
 rw[hn];refine kh hf NU (by dsimp only;rw[BM h hf]) ?_;refine⟨g_,?_⟩;rw[b8 o_];dsimp only;refine⟨o_,?_⟩
 have hw:aL ⟨cS p b first second 0,1199,1200,List.replicate 1200 0,[],0,0⟩ (1199+0)=0:=by unfold aL;dsimp only;rw[List.getElem?_replicate];simp
 rw[hw];exact .done
end
structure Part (v w:Ma):Prop where
 pc:v.K0=w.K0
 sp:v.J5=w.J5
 fp:v.L0=w.L0
 I8:v.Mb <+:w.Mb
theorem Part.ok {v w:Ma}(h:Part v w)(hw:fo w=true):fo v=true:=by rw[viewOk_iff]at hw⊢;have:=h.I8.length_le;rw[h.sp];omega
theorem Part.word {v w:Ma}{a x:Int}(h:Part v w)(hw:fo w=true)(hx:dk v a=some x):dk w a=some x:=by obtain⟨h1,h2,h3⟩:=eK hx;have Mw:=h.I8.length_le;unfold dk at hx⊢;rw[c7 ⟨h1,by rw[within_iff];omega⟩]at hx;rw[c7 ⟨hw,by rw[within_iff,<-h.sp];omega⟩];obtain⟨t,ht⟩:=h.I8;rw[<-ht,<-h.sp,j7 (aH hx)];exact hx
theorem Part.moved {v w:Ma}(h:Part v w)(pc sp fp:Int):Part (fQ v pc sp fp) (fQ w pc sp fp):=by refine⟨rfl,rfl,rfl,?_⟩;unfold fQ;dsimp only;rw[h.sp];obtain⟨t,ht⟩:=h.I8;generalize(sp-w.J5).toNat=n;rw[<-ht,List.drop_append];exact List.prefix_append _ _
theorem Part.step {s:LX}{rules:List (List LW)}{v w x:Ma}{inner:Bool}(h:Part v w)(hw:fo w=true)(hx:bC s rules v inner=some x):∃y,bC s rules w inner=some y/\Part x y:=by
 unfold bC at hx⊢;split at hx
 ·rename_i hc;rw[c7 ⟨hc.1,hw,hc.2.2⟩,<-h.pc];split at hx
  ·rename_i r hr;unfold jR at hx⊢;split at hx
   ·rename_i hf;rw[c7 hf];split at hx
    ·rename_i a c ha NZ;rw[h.fp]at ha NZ;rw[h.word hw ha,h.word hw NZ];dsimp only;injection hx with hx;rw[<-hx,h.fp];exact⟨_,rfl,h.moved _ _ _⟩
    ·cases hx
   ·rename_i hf;rw[b8 hf];split at hx
    ·rename_i c NZ;rw[h.sp]at NZ;rw[h.word hw NZ];dsimp only;injection hx with hx;rw[<-hx,h.fp,h.sp];exact⟨_,rfl,h.moved _ _ _⟩
    ·cases hx
  ·cases hx
 ·cases hx
end
theorem Gt {p:List LP}{b:LG}{first second:Int}(h:SpOk p b first second):∀e∈(aQ p b first second).L9,inI e:=fun e he=>by
 obtain⟨f,hf⟩:=v6.1 he;have MN:f<(ay p).length:=by have:=aH hf;rwa [show(aQ p b first second).L9=entries p b first second from rfl,Bx]at this
 rw[show(aQ p b first second).L9=entries p b first second from rfl,mA MN]at hf;injection hf with hf;obtain⟨i,im,bs,hi⟩:=DP h MN;have h1:=hi.entry;have h2:=hi.range;have h3:=hi.start;have h4:=hi.len;unfold inI;omega
section
variable {p:List LP} {b:LG} {first second:Int} {S:Sy p b}
def pH (pc:Int)(o:LS)(z:Nat)(R:List Int):List Int:=if o.I9=12 then(pc+z)::R else if o.I9=14\/o.I9=16 then R.tail else R
theorem Gy (h:SpOk p b first second){m:LQ}{R:List Int}{k:Nat}(hm:MOk m k)(hk:k<=6000)(h0:m.L6=0)(hc:Cur S first second m R):
  (1<=m.K0/\m.K0<=1080000)/\∃(o:LS) (z:Nat),eF (aQ p b first second) m.K0=some (o,z)/\z<=5/\MOk (iG (aQ p b first second) m) (k+1)/\((iG (aQ p b first second) m).L6=0->Cur S first second (iG (aQ p b first second) m) (pH m.K0 o z R)):=by
 obtain⟨f,i,it,d,hI,M1,hB⟩:=hc;have N0:=li h hI.lt hI.get;have hz:=N0.size;have Na:iG (aQ p b first second) m=lM m (fh (aQ p b first second) m):=by rw[iG,c7 ⟨h.space,hm.ok,h0⟩]
 refine⟨by rw[M1];exact N0.rng,(cN (aZ (aW p b f) (az p f b)) i it).J2,(aE it.J2.I9).toNat,by rw[M1];exact N0.fetch,o_,?_,fun PZ=>?_⟩
 ·rw[Na];exact hm.step o_ (Gt h)
 ·rw[Na]at PZ⊢;have Nd:=gR (aZ (aW p b f) (az p f b)) i it
  have hw:pH m.K0 (cN (aZ (aW p b f) (az p f b)) i it).J2 (aE it.J2.I9).toNat R=kD p b first second f i it R:=by unfold pH kD;rw[Nd,N0.next,M1];rw[show(((aE it.J2.I9).toNat:Nat):Int)=aE it.J2.I9 by omega]
  rw[hw]
  cases hp:fh (aQ p b first second) m with
  | none=>
   rw[hp]at PZ;have:(lM m none).L6=2:=rfl
   omega
  | some m'=>
   rw[hp]at PZ;have PZ:m'.L6=0:=PZ;rcases HQ h hI M1 hB ⟨hm.inv.len,hm.inv.sp,hm.inv.w,hm.inv.out⟩ hp with h1|h1
   ·omega
   ·exact h1
theorem CO (l:List LW):flat (l.map LW.tr):=mt _ (by intro x c hc sz rs e;subst e;simp[LW.tr]at hc)
theorem KS {R:List Int}{pc:Int}{i:Nat}(hi:i<R.length):∃v,(pc::R)[R.length-i]?=some v/\R.reverse[i]?=some v:=by obtain⟨v,hv⟩:=ae (l:=R.reverse) (k:=i) (by simpa using hi);refine⟨v,?_,hv⟩;rw[List.getElem?_reverse hi]at hv;rw[show R.length-i=(R.length-1-i)+1 by omega,j8];exact hv
end
theorem tH {p:List LP}{b:LG}{first second:Int}(h:SpOk p b first second)(a:Int):Sim.Spec prog 16 [.agg [.lst 2 [(ag p b 0).tr,(ag p b 1).tr],.lst 1 [aa first,aa second],.lst 1 ((entries p b first second).map aa)],tvI a] (rOp (eF (aQ p b first second) a)):=by
 refine bv hΓ aG func16 rfl d_ rfl ?_;have h6:=(fB h.prog).1;have hS:=gx (aQ p b first second) (pf h.small o_);rw[h.space]at hS;have a0:=(cV h.small h.prog h.build (image:=0) d_).2;have a1:=(cV h.small h.prog h.build (image:=1) d_).2;have Xc:=h.fb;have VG:=h.sb;have hL:Sim.Spec prog 68 [.agg [.lst 2 [(ag p b 0).tr,(ag p b 1).tr],.lst 1 [aa first,aa second],.lst 1 ((entries p b first second).map aa)],tvI a] (rOp (eF (aQ p b first second) a)):=lQ (ag p b 0) (ag p b 1) first second a (entries p b first second) o_ o_ o_ o_;have hS:Sim.Spec prog 65 [.agg [.lst 2 [(ag p b 0).tr,(ag p b 1).tr],.lst 1 [aa first,aa second],.lst 1 ((entries p b first second).map aa)]] (rB true):=hS
 generalize eF (aQ p b first second) a=r at *
 repeat' ((conv=>whnf);first|apply Wx|apply W6|apply oi|apply fi|intro h|refine cl hS ?_|refine cl hL ?_|exact Y7|refine e_ rfl ?_)
theorem yH {l:List LU}(h1:l.length<=1048576)(h2:∀y∈l,y.L3.Mm.length<=4):aw 1048576 (.lst 8 (l.map LU.tr)):=by rw[aw];refine⟨by rw[e7];omega,mu fun r hr=>?_⟩;obtain⟨it,Nt,rfl⟩:=n7.1 hr;have:=h2 it Nt;simp only[LU.tr,aF,aw,true_and,and_true];refine⟨by rw[e7];omega,mu fun r hr=>?_⟩;obtain⟨v,hv,rfl⟩:=n7.1 hr;simp[aa,aF,aw]
theorem mG {p:List LP}{b:LG}{image:Int}(hs:aw 1048576 (.lst 4 (p.map LP.tr))):aw 1048576 (.lst 8 ((aM p b image).map LU.tr)):=by
 by_cases hc:ah p=true/\aS b=true/\af image 0 1=true
 ·rw[aM,c7 hc];obtain⟨h6,_⟩:=fB hc.1;have Oh:=iz p b image (ay p).length 0 0;have Qw:=fun x (hx:x∈bV p b image (ay p).length 0 0)=>iD hs hx
  generalize bV p b image (ay p).length 0 0=L at *
  have M5:=kU (fun x hx=>(Qw x hx).1) (d8 L.length);rw[gt (d8 _)]at M5;have NW:=A6 2500 (show L.length<=6 by omega);refine yH (l:=ax L) o_ fun y hy=>?_;simp only[ax,E4,n7]at hy;obtain⟨_,⟨x,hx,rfl⟩,hy⟩:=hy;exact(Qw x hx).2 y hy
 ·rw[aM,b8 hc];exact⟨s_,trivial⟩
end Go.Proofs.P
