import Derived.Test.YtoglejgmjeojoaaGreatGi
set_option maxRecDepth 100000
set_option maxHeartbeats 4000000
namespace Go.Proofs.P
open Go.Sim Tryz
def dD (c:Mj):Mj:=⟨c.b,if c.i<c.b.length then c.i+1 else c.i,iM c.h⟩
def iW (c:Mj):Nat:=match c.b[c.i]? with
 | some u=>(byN (iM c.h)+u.toNat)%256
 | none=>byN (iM c.h)
theorem jK {c:Mj}(h:c.ok):(dD c).ok:=⟨by have:=h.1;unfold dD;dsimp only;split<;>omega,h.2⟩
theorem uC (c:Mj):iW c<256:=by
 unfold iW;split
 ·omega
 ·exact Hw _
theorem II (n:Nat):IntKind.i64.wrap ((BitVec.ofInt IntKind.i64.bits (IntKind.i64.wrap (n:Int)) &&& BitVec.ofInt IntKind.i64.bits 255).toNat:Int)=((n%256:Nat):Int):=by
 show IntKind.i64.wrap (((BitVec.ofInt 64 (IntKind.i64.wrap (n:Int)) &&& BitVec.ofInt 64 255).toNat:Nat):Int)=_;rw[HJ]
 have hw:IntKind.i64.wrap (n:Int)%256=(n:Int)%256:=by exact V125
 rw[hw,c6 _ o_];omega
theorem gA (c:Mj)(hc:c.ok):bE prog 194 [gO] (fB c) (tI .i64 (iW c)) (fB (dD c)):=by
 obtain⟨hi,hl⟩:=hc;have P4:(c.b.map aT).length=c.b.length:=s_;have SB:=KN (iM c.h);have aat:=Hw (iM c.h);unfold iW dD
 generalize hx:byN (iM c.h)=x0 at *
 unfold byW iM at SB;unfold iM;by_cases M3:c.i<c.b.length
 ·obtain⟨u,hu⟩:=ae M3;have hu8:=u.toNat_lt;have he:=II (x0+u.toNat);rw[hu,c7 M3];dsimp only;refine aD hΓ aE func194 rfl d_ rfl rfl ?_;repeat' ((conv=>whnf);first|apply Wx|apply W6|apply oi|apply fi|intro h|refine⟨c.i,(aT u),rfl,ab hu,?_⟩|exact Y5|refine e_ rfl ?_)
  all_goals try exact⟨congrArg (Tr.int _) (by rw[SB,c6 (u.toNat:Int) o_];exact he)⟩
  all_goals exact⟨by rw[c6 _ o_];rfl⟩
 ·rw[e9 o_,b8 M3];dsimp only;exact V56
theorem xr (c:Mj)(n:Nat)(hc:c.ok)(h0:0<n)(h1:n<=256):bE prog 130 [gO,tI .i64 (n:Int)] (fB c) (tI .i64 ((iW c%n:Nat):Int)) (fB (dD c)):=by
 have g1:=gA c hc;have hm:((iW c:Nat):Int).tmod (n:Int)=((iW c%n:Nat):Int):=by rw[A6 o_];rfl
 refine aD hΓ aE func130 rfl d_ rfl rfl ?_;repeat' ((conv=>whnf);first|apply Wx|apply W6|refine cg g1 ?_|apply oi|apply fi|intro h|exact Y5|refine e_ rfl ?_)
 all_goals try exact⟨o_⟩
 all_goals exact⟨congrArg (Tr.int _) hm⟩
theorem oK (c:Mj)(n:Int)(hc:c.ok)(h:256<n):∃y:Nat,(y:Int)<n/\bE prog 130 [gO,tI .i64 n] (fB c) (tI .i64 (y:Int)) (fB (dD (dD (dD (dD c))))):=by
 have g1:=gA c hc;have g2:=gA _ (jK hc);have g3:=gA _ (jK (jK hc));have g4:=gA _ (jK (jK (jK hc)));have k1:=uC c;have k2:=uC (dD c);have k3:=uC (dD (dD c));have k4:=uC (dD (dD (dD c)))
 generalize iW c=x1 at *
 generalize iW (dD c)=x2 at *
 generalize iW (dD (dD c))=x3 at *
 generalize iW (dD (dD (dD c)))=x4 at *
 obtain⟨y,hy,hm⟩:=oT (x:=x1*16777216+x2*65536+x3*256+x4) (n:=n) o_;refine⟨y,hy,?_⟩;exact V9
theorem qt (c:Mj)(ns:List Int)(hc:c.ok)(hp:0<ns.length)(hl:ns.length<=256):bE prog 129 [gO,.r (.c (.own (0,0,1)))] (fB c++[((0,0,1),.arr false 1 (ns.map aa))]) (tI .i64 (ns[iW c%ns.length]?.getD 0)) (fB (dD c)++[((0,0,1),.arr false 1 (ns.map aa))]):=by
 have M0:(ns.map aa).length=ns.length:=s_;have g1:=xr c (ns.map aa).length hc o_ o_;rw[M0]at g1;have hx:iW c%ns.length<ns.length:=F3 _ hp;obtain⟨v,hv⟩:=ae hx;have QB:iW c%ns.length<(ns.map aa).length:=by rw[M0];exact hx
 rw[hv];refine aD hΓ aE func129 rfl d_ rfl rfl ?_;rw[<-M0]at g1;repeat' ((conv=>whnf);first|apply Wx|apply W6|refine cg g1 ?_|apply oi|apply fi|intro h|refine⟨(iW c%ns.length),(by rw[M0]),QB,?_⟩|refine⟨(aa v),ab hv,?_⟩|exact Y7|refine e_ rfl ?_)
def itC:Nat->Mj->Mj
 | 0,c=>c
 | n+1,c=>itC n (dD c)
theorem uy:∀(n m:Nat) (c:Mj),itC (n+m) c=itC m (itC n c)
 | 0,m,c=>by rw[u6,itC]
 | n+1,m,c=>by rw[show n+1+m=(n+m)+1 by omega,itC,itC,uy n m]
theorem uJ:∀(n:Nat) {c:Mj},c.ok->(itC n c).ok
 | 0,_,h=>h
 | n+1,c,h=>by rw[itC];exact uJ n (jK h)
theorem Kv:∀(n:Nat) (c:Mj),(itC n c).b=c.b
 | 0,_=>rfl
 | n+1,c=>by rw[itC,Kv n];rfl
theorem Kp:∀(n:Nat) (c:Mj),(itC n c).h=itH n c.h
 | 0,_=>rfl
 | n+1,c=>by rw[itC,Kp n,itH];rfl
theorem KE:∀(n:Nat) (c:Mj),c.i<=c.b.length->(itC n c).i=min (c.i+n) c.b.length
 | 0,c,h=>by rw[itC];omega
 | n+1,c,h=>by
  have h2:(dD c).i<=(dD c).b.length:=by unfold dD;dsimp only;split<;>omega
  rw[itC,KE n _ h2];unfold dD;dsimp only;split<;>omega
def tE (c:Mj):Prop:=iW (itC 5 c)%3=2
theorem Ds (c:Mj)(h:c.ok):∃k,tE (itC (6*k) c):=by obtain⟨k,hk,h2⟩:=GA c.h (c.b.length+1);obtain⟨j,rfl⟩:∃j,k=j+1:=⟨k-1,o_⟩;refine⟨j,?_⟩;unfold tE;rw[<-uy];have hi:=KE (6*j+5) c h.1;have hb:=Kv (6*j+5) c;unfold iW;rw[hb,e9 (by rw[hi];omega),Kp];dsimp only;have e:iM (itH (6*j+5) c.h)=itH (6*(j+1)) c.h:=(lE (6*j+5) 1 c.h).symm;rw[e];exact h2
structure SpOk (p:List Mq) (b:Mi) (first second:Int):Prop where
 small:ao 1048576 (.lst 4 (p.map Mq.tr))
 prog:aj p=true
 build:aS b=true
 fb:1<=first/\first<=1000000
 sb:1<=second/\second<=1000000
 space:bF (aP p b first second)=true
noncomputable abbrev spH (p:List Mq) (b:Mi) (first second:Int):List (Sim.Id×AO):=[((1,0,0),.arr true 2 [(ah p b 0).tr,(ah p b 1).tr]),((1,0,1),.arr true 1 [aa first,aa second]),((1,0,2),.arr true 1 ((entries p b first second).map aa))]
noncomputable def yC (c:Mj):Nat:=open Classical in if h:c.ok then Classical.choose (oK c 9000 h o_)else 0
theorem EN {c:Mj}(h:c.ok):(yC c:Int)<9000/\bE prog 130 [gO,tI .i64 9000] (fB c) (tI .i64 (yC c:Int)) (fB (itC 4 c)):=by rw[yC,dif_pos h];exact l6 (oK c 9000 h o_)
noncomputable abbrev fL (c:Mj):List Int:=[1,100,5000,1+(yC c:Int)]
abbrev sL:List Int:=[20000,60000,1000000]
noncomputable def iV (c:Mj):Int:=(fL c)[iW (itC 4 c)%(fL c).length]?.getD 0
def eN (c:Mj):Int:=sL[iW (itC 5 c)%sL.length]?.getD 0
theorem nX {c:Mj}(h:c.ok):1<=iV c/\iV c<=9000:=by
 have hy:=(EN h).1;unfold iV;have:iW (itC 4 c)%(fL c).length<4:=F3 _ s_
 generalize iW (itC 4 c)%(fL c).length=k at *
 rcases(show k=0\/k=1\/k=2\/k=3 by omega)with rfl|rfl|rfl|rfl;all_goals(simp;try omega)
theorem wI (c:Mj):20000<=eN c/\eN c<=1000000:=by
 unfold eN;have:iW (itC 5 c)%sL.length<3:=F3 _ d_
 generalize iW (itC 5 c)%sL.length=k at *
 rcases(show k=0\/k=1\/k=2 by omega)with rfl|rfl|rfl;all_goals simp
theorem qP {c:Mj}(h:tE c):eN c=1000000:=by
 unfold eN tE at *
 rw[show sL.length=3 from rfl,h];rfl
noncomputable def kW (p:List Mq) (b:Mi):Nat->Mj->Int×Int×Mj
 | 0,c=>(iV c,eN c,itC 6 c)
 | n+1,c=>if(gQ p b (iV c) (eN c)).isSome=true then(iV c,eN c,itC 6 c)else kW p b n (itC 6 c)
theorem Bj {p:List Mq}{b:Mi}(hs:ao 1048576 (.lst 4 (p.map Mq.tr)))(h1:aj p=true)(h2:aS b=true):∀(n:Nat) (c:Mj),c.ok->tE (itC (6*n) c)->(1<=(kW p b n c).1/\(kW p b n c).1<=9000)/\(20000<=(kW p b n c).2.1/\(kW p b n c).2.1<=1000000)/\(gQ p b (kW p b n c).1 (kW p b n c).2.1).isSome=true
 | 0,c,hc,hg=>by
  refine⟨nX hc,wI c,?_⟩;rw[kW];dsimp only;rw[qP (show tE c from hg),wh hs h1 h2 (nX hc) o_]
  rfl
 | n+1,c,hc,hg=>by
  rw[kW];split
  ·exact⟨nX hc,wI c,by assumption⟩
  ·refine Bj hs h1 h2 n _ (uJ 6 hc) ?_;rw[<-uy,show 6+6*n=6*(n+1) by omega];exact hg
theorem Ef {p:List Mq}{b:Mi}{first second:Int}(h:(gQ p b first second).isSome=true):aj p=true/\aS b=true/\bF (aP p b first second)=true/\gQ p b first second=some (aP p b first second):=by
 unfold gQ at *
 split at h
 ·rename_i hc;exact⟨hc.1,hc.2.1,hc.2.2,by rw[c7 hc]⟩
 ·cases h
theorem ug (c:Mj)(hc:c.ok):∃(p:List Mq) (b:Mi) (first second:Int) (c':Mj),SpOk p b first second/\bE prog 56 [gO] (fB c) (.tup [.c (.t (.lst 4 (p.map Mq.tr))),.agg (b.tr.map .t),.agg [.own (1,0,0),.own (1,0,1),.own (1,0,2)]]) (fB c'++spH p b first second):=by
 have g1:=rg c hc;obtain⟨q1,q2,q3,q4,q5⟩:=Bh 5 c hc
 generalize jP 5 c=R0 at *
 obtain⟨p,c1⟩:=R0
 dsimp only at *
 obtain⟨b,c2,hb,_,o2,g2⟩:=tX c1 q4;have hs:=wJ q5 q2;obtain⟨K,hK⟩:=Ds c2 o2;obtain⟨r1,r2,r3⟩:=Bj hs q1 hb K c2 o2 hK;obtain⟨_,_,s3,s4⟩:=Ef r3;obtain⟨R,hR⟩:∃R,kW p b K c2=R:=⟨_,rfl⟩;rw[hR]at r1 r2 r3 s3 s4;refine⟨p,b,R.1,R.2.1,R.2.2,⟨hs,q1,hb,⟨o_,o_⟩,⟨o_,o_⟩,s3⟩,?_⟩;refine aD hΓ aE func56 rfl d_ rfl rfl ?_;repeat' ((conv=>whnf);first|apply Wx|apply W6|apply oi|apply fi|intro h|exact Y7|refine e_ rfl ?_)
 refine cg (g1) ?_;repeat' ((conv=>whnf);first|apply Wx|apply W6|apply oi|apply fi|intro h|exact Y7|refine e_ rfl ?_)
 refine cg (g2) ?_;repeat' ((conv=>whnf);first|apply Wx|apply W6|apply oi|apply fi|intro h|exact Y7|refine e_ rfl ?_)
 conv=>whnf
 refine⟨{q:Nat×Mj//q.2.ok/\tE (itC (6*q.1) q.2)/\kW p b q.1 q.2=R},fun q=>⟨[(0,gO),(3,.r (.c (.ptr (3,0,0) 0))),(4,.r (.c (.ptr (4,0,0) 0))),(5,vP p),(6,.r (.c (.ptr (6,0,0) 0)))],[((0,0,0),some (.box [.t (.lst 1 (q.1.2.b.map aT)),.t (.int .i64 q.1.2.i),.t (.int .i64 q.1.2.h)])),((3,0,0),some (.box [.t (.int .i64 0),.t (.int .i64 0),.t (.bool false),.t (.bool false)])),((4,0,0),some (.box [.nils 0,.nils 0,.nils 0])),((6,0,0),some (.box (b.tr.map .t)))],[6,4,3,0]⟩,fun q=>q.1.1,⟨(K,c2),o2,hK,hR⟩,?_,?_⟩
 ·exact Z2
 intro⟨⟨n,ci⟩,OV,hg,hr⟩;dsimp only at OV hg hr⊢;obtain⟨hy,gy⟩:=EN OV;have gf:=qt (itC 4 ci) (fL ci) (uJ 4 OV) s_ s_;have gs:=qt (itC 5 ci) sL (uJ 5 OV) d_ d_;have hL:=rq p b (iV ci) (eN ci) hs;rw[show(fL ci)[iW (itC 4 ci)%(fL ci).length]?.getD 0=iV ci from rfl]at gf;rw[show sL[iW (itC 5 ci)%sL.length]?.getD 0=eN ci from rfl]at gs;have n4:dD (itC 4 ci)=itC 5 ci:=rfl;have n5:dD (itC 5 ci)=itC 6 ci:=rfl;rw[n4]at gf;rw[n5]at gs;have NT:IntKind.i64.wrap (1+(yC ci:Int))=1+(yC ci:Int):=c6 _ o_
 cases hl:gQ p b (iV ci) (eN ci)with
 | some sp=>
  have OQ:(gQ p b (iV ci) (eN ci)).isSome=true:=by rw[hl];rfl
  have hRe:R=(iV ci,eN ci,itC 6 ci):=by
   rw[<-hr]
   cases n with|zero=>rfl|succ n=>rw[kW,c7 OQ]
  subst hRe;dsimp only at s4⊢;rw[hl]at hL s4;injection s4 with s4;subst s4;simp only[oSp,aP]at hL;repeat' ((conv=>whnf);first|apply Wx|apply W6|apply oi|apply fi|intro h|exact Y7|refine e_ rfl ?_)
  refine cg (gy) ?_;repeat' ((conv=>whnf);first|apply Wx|apply W6|apply oi|apply fi|intro h|exact Y7|refine e_ rfl ?_)
  refine cg (gf) ?_;repeat' ((conv=>whnf);first|apply Wx|apply W6|apply oi|apply fi|intro h|exact Y7|refine e_ rfl ?_)
  all_goals try exact⟨by rw[NT];rfl⟩
  refine cg (gs) ?_
  repeat' ((conv=>whnf);first|apply Wx|apply W6|apply oi|apply fi|intro h|refine cl hL ?_|exact Y7|refine e_ rfl ?_)
 | none=>
  have OQ:¬(gQ p b (iV ci) (eN ci)).isSome=true:=by rw[hl];simp
  cases n with
  | zero=>
   rw[qP (show tE ci from hg),wh hs q1 hb (nX OV) o_]at hl
   cases hl
  | succ n=>
   rw[kW,b8 OQ]at hr;rw[hl]at hL;repeat' ((conv=>whnf);first|apply Wx|apply W6|apply oi|apply fi|intro h|exact Y7|refine e_ rfl ?_)
   refine cg (gy) ?_;repeat' ((conv=>whnf);first|apply Wx|apply W6|apply oi|apply fi|intro h|exact Y7|refine e_ rfl ?_)
   refine cg (gf) ?_;repeat' ((conv=>whnf);first|apply Wx|apply W6|apply oi|apply fi|intro h|exact Y7|refine e_ rfl ?_)
   all_goals try exact⟨by rw[NT];rfl⟩
   refine cg (gs) ?_;repeat' ((conv=>whnf);first|apply Wx|apply W6|apply oi|apply fi|intro h|refine cl hL ?_|exact Y5|refine e_ rfl ?_)
   conv=>whnf
   refine⟨⟨(n,itC 6 ci),uJ 6 OV,by dsimp only;rw[<-uy,show 6+6*n=6*(n+1) by omega];exact hg,hr⟩,?_,KD⟩;exact Z2
theorem ry (code:List UInt8)(hl:code.length<=1048576):∃(p:List Mq) (b:Mi) (first second:Int),SpOk p b first second/\
  bE prog 10 [LY code] [] (.tup [.c (.t (.lst 4 (p.map Mq.tr))),.agg (b.tr.map .t),.agg [.own (1,0,0),.own (1,0,1),.own (1,0,2)]]) (spH p b first second):=by
 have g0:=xE code hl;obtain⟨p,b,first,second,c',M5,g1⟩:=ug _ (Jz hl);refine⟨p,b,first,second,M5,?_⟩;refine aD hΓ aE func10 rfl d_ rfl rfl ?_;repeat' ((conv=>whnf);first|apply Wx|apply W6|apply oi|apply fi|intro h|exact Y7|refine e_ rfl ?_)
 refine cg (g0) ?_;repeat' ((conv=>whnf);first|apply Wx|apply W6|apply oi|apply fi|intro h|exact Y7|refine e_ rfl ?_)
 refine cg (g1) ?_;exact Z2
structure StartAt (p:List Mq) (b:Mi) (f i:Nat) (x:Nat×List Mu):Prop where
 at_:(imL p b (br b f))[i]?=some x
 fn:x.1=f
 start:aY p b f=((ak (ay ((imL p b (br b f)).take i))).length:Int)
theorem pt {p:List Mq}{b:Mi}{f:Nat}(hf:f<(aA p).length):∃i x,StartAt p b f i x:=by have hi:=gz b f;obtain⟨s,hs⟩:=lN (f:=f) (a:=0) ((imgL_mem (p:=p) (b:=b) (image:=br b f) (n:=(aA p).length) (f:=0) (at0:=0) (g:=f)).2 ⟨o_,o_,(sF hi).2 rfl⟩);obtain⟨i,x,h1,h2,h3⟩:=wZ hs;refine⟨i,x,h1,h2,?_⟩;rw[aY,show imL p b (br b f)=cj p b (br b f) (aA p).length 0 0 from rfl,hs];show s=_;omega
theorem sw {L:List (Nat×List Mu)}{i:Nat}{x:Nat×List Mu}(h:L[i]?=some x):ay L=ay (L.take i)++(x.2++ay (L.drop (i+1))):=by
 have e:L=L.take i++x::L.drop (i+1):=by rw[<-cJ h,z4]
 conv=>lhs;rw[e]
 simp[ay]
section
variable {p:List Mq} {b:Mi}
theorem Fa (hs:ao 1048576 (.lst 4 (p.map Mq.tr)))(h1:aj p=true)(h2:aS b=true){f i:Nat}{x:Nat×List Mu}(h:StartAt p b f i x):
  0<(ak x.2).length/\∃(o:Mt) (z:Nat),bB (ah p b (br b f)).J3 (aY p b f)=some (o,z)/\(o.J3=13\/o.J3=15):=by
 have h3:af (br b f) 0 1=true:=by have:=gz b f;rw[within_iff];omega
 obtain⟨g1,g2,g3⟩:=h;obtain⟨y,hy⟩:=ae (kl hs h1 h2 o_ g1).2.2;have hp:=(fV hs h1 h2 g1 hy).1;have N2:=pM hp.op;have NC:=ew hp.op
 have Ny:0<(ak x.2).length:=by
  obtain⟨c,l⟩:=x
  cases l with
  | nil=>simp at hy
  | cons a l=>simp only[f9,Option.some.injEq]at hy;subst hy;rw[show ak (a::l)=bk a.L7.J7++ak l by simp[ak],c8];omega
 refine⟨Ny,y.L7.J7,(aH y.L7.J7.J3).toNat,?_,(hp.head rfl).1⟩
 have PO:∀z∈x.2,dz z.L7.J7.J3 z.L7.J7.K9=true:=fun z hz=>by
  obtain⟨j,hj⟩:=v7.1 hz;exact(fV hs h1 h2 g1 hj).1.op
 have hd:=tw PO hy (ak (ay ((imL p b (br b f)).take i))) (ak (ay ((imL p b (br b f)).drop (i+1))));rw[ah,c7 ⟨h1,h2,h3⟩,g3];dsimp only;have e:=sw g1
 rw[show imL p b (br b f)=cj p b (br b f) (aA p).length 0 0 from rfl]at *
 rw[e,aK,aK,<-j9];simpa [ak]using hd
theorem DR (hs:ao 1048576 (.lst 4 (p.map Mq.tr)))(h1:aj p=true)(h2:aS b=true){f:Nat}(hf:f<(aA p).length):0<=aY p b f/\aY p b f<(ah p b (br b f)).J3.length:=by
 obtain⟨i,x,h⟩:=pt (b:=b) hf;have hp:=(Fa hs h1 h2 h).1;obtain⟨g1,g2,g3⟩:=h;have h3:af (br b f) 0 1=true:=by have:=gz b f;rw[within_iff];omega
 have e:=sw g1;have e2:=congrArg List.length (congrArg ak e);rw[aK,aK,c8,c8]at e2;rw[ah,c7 ⟨h1,h2,h3⟩,g3];refine⟨o_,?_⟩;show _<(((ak (ay (imL p b (br b f)))).length:Nat):Int);omega
end
structure EntP (p:List Mq) (b:Mi) (first second:Int) (f i:Nat) (im:Mn) (base:Int):Prop where
 no:(i:Int)=br b f
 lt:i<2
 img:[ah p b 0,ah p b 1][i]?=some im
 bas:[first,second][i]?=some base
 imE:im=ah p b (br b f)
 range:1<=base/\base<=1000000
 len:im.J3.length<=75000
 ok:bu im=true
 start:0<=aY p b f/\aY p b f<im.J3.length
 entry:cW p b first second f=base+aY p b f
 loc:qO (aP p b first second) (cW p b first second f)=((i:Int),aY p b f)
 op:∃(o:Mt) (z:Nat),bB im.J3 (aY p b f)=some (o,z)/\(o.J3=13\/o.J3=15)
theorem V71{p:Prop}(h:p:=by
 have:eD (ah p b 0) (ah p b 1) first second (entries p b first second)=true:=NY;unfold eD at this;simp only[b9,v2]at this
 exact this.2.2.2.2.2.1):p:=h
theorem Fb {p:List Mq}{b:Mi}{first second:Int}(h:SpOk p b first second){f:Nat}(hf:f<(aA p).length):∃i im base,EntP p b first second f i im base:=by
 have a0:=dZ h.small h.prog h.build (image:=0) d_;have a1:=dZ h.small h.prog h.build (image:=1) d_;have Nw:=DR h.small h.prog h.build hf;obtain⟨k,x,hx⟩:=pt (b:=b) hf;have M1:=(Fa h.small h.prog h.build hx).2;have Yy:=h.fb;have YO:=h.sb;have NY:=h.space
 have Nm:cX (ah p b 0) (ah p b 1) first second=false:=by exact V71
 have NR:∀e,qO (aP p b first second) e=cM (ah p b 0) (ah p b 1) first second e:=fun e=>rfl;rcases gz b f with e|e
 ·rw[e]at Nw M1
  have Qy:cW p b first second f=first+aY p b f:=by rw[cW,e,b8 d_,c6 _ o_]
  refine⟨0,ah p b 0,first,by rw[e];rfl,o_,rfl,rfl,by rw[e],o_,a0.2,a0.1,Nw,Qy,?_,M1⟩;rw[NR,Qy,cM,c7 ⟨o_,o_⟩,show first+aY p b f-first=aY p b f by omega];rfl
 ·rw[e]at Nw M1
  have Qy:cW p b first second f=second+aY p b f:=by rw[cW,e,c7 rfl,c6 _ o_]
  refine⟨1,ah p b 1,second,by rw[e];rfl,o_,rfl,rfl,by rw[e],o_,a1.2,a1.1,Nw,Qy,?_,M1⟩;rw[NR,Qy,cM,b8,c7 ⟨o_,o_⟩,show second+aY p b f-second=aY p b f by omega]
  ·rfl
  ·intro hc;unfold cX at Nm;simp only[B1,p9]at Nm;omega
theorem mV {p:List Mq}{b:Mi}{first second:Int}{f:Nat}(hf:f<(aA p).length):(entries p b first second)[f]?=some (cW p b first second f):=by rw[entries,p6,List.getElem?_range hf];rfl
theorem Cj {p:List Mq}{b:Mi}{first second:Int}:(entries p b first second).length=(aA p).length:=by rw[entries,e7,List.length_range]
theorem CF {p:List Mq}{f:Int}{b:Mi}(hs:ao 1048576 (.lst 4 (p.map Mq.tr)))(h1:aj p=true)(h2:aS b=true)(h3:0<=f)(h4:f<(aA p).length):∀it∈aC p f b,DI it:=by obtain⟨g,C,k1,k2,k3,k4,k5,k6,k7,k8,k9⟩:=kq hs h1 h2 h3 h4;have hS:ScOk C (bd C g) [g]:=⟨k7,rfl,⟨u4 _,by simp[bd]⟩,rfl,by simp[bd],fun _=>k5,rfl⟩;have hw:=k2.J2;rw[k8];refine yu k2 hS s_ (Fu k2 C.b.MJ.toNat hS) (base:=C.J2) hw.1 (by simp only[d5,i9];omega) (dV C g) ?_;exact dl (C:=C) (s:=⟨[],(localsOf C.p (g:Int)).length-C.args,false⟩) (d:=0) o_ (fun it h=>by cases h)
def DPs (P:List Mu):Prop:=∀x∈P,DI x.L7
theorem Bv {p:List Mq}{b:Mi}{image:Int}(hs:ao 1048576 (.lst 4 (p.map Mq.tr))):DPs (bv p b image):=by
 by_cases hc:aj p=true/\aS b=true/\af image 0 1=true
 ·rw[bv,c7 hc];obtain⟨h1,h2,_⟩:=hc;show DPs (ay (cj p b image (aA p).length 0 0));intro x hx;obtain⟨k,hk⟩:=v7.1 hx;obtain⟨i,z,j,g1,g2,rfl⟩:=mN hk;obtain⟨e1,e2,_⟩:=kl hs h1 h2 o_ g1;rw[e1]at g2;have hj:j<(aC p (z.1:Int) b).length:=by have:=aI g2;rwa [dY]at this
  obtain⟨it,NZ⟩:=ae hj;rw[eV NZ]at g2;injection g2 with g2;subst g2;have:=CF (f:=(z.1:Int)) hs h1 h2 o_ o_ it (c9 NZ);dsimp only;unfold cT;split
  ·exact this
  ·exact this
 ·rw[bv,b8 hc];intro x hx;cases hx
def kp (p:Int)(l:List Mw):Int:=match l.getLast? with|some r=>r.ML|none=>p
theorem rulesOkF_snoc:∀{l:List Mw} {p:Int} {r:Mw},bL p (l++[r])=true↔bL p l=true/\cz (kp p l) r
 | [],p,r=>by
  rw[t7,bL,bL,bL]
  simp[kp]
 | y::l,p,r=>by
  rw[u3,bL,bL]
  have e:kp p (y::l)=kp y.ML l:=by
   unfold kp
   cases l with|nil=>rfl|cons z l=>simp[List.getLast?_cons]
  rw[e];split
  ·exact rulesOkF_snoc
  ·simp
theorem tx:∀{l:List Mw} {p:Int} {i:Nat} {r:Mw},bL p l=true->l[i]?=some r->p<=r.L8
 | [],_,_,_,_,h=>by simp at h
 | y::l,p,i,r,h,hi=>by
  rw[bL]at h;split at h
  ·rename_i hy;unfold cz at hy
   cases i with
   | zero=>simp at hi;subst hi;exact hy.1
   | succ i=>rw[l4]at hi;have:=tx h hi;omega
  ·cases h
theorem xR {off:Int}:∀{l:List Mw} {p:Int} {i k:Nat} {r:Mw},bL p l=true->l[i]?=some r->r.L8<=off->off<r.ML->bO off l k=((k+i:Nat):Int)
 | [],_,_,_,_,_,h,_,_=>by simp at h
 | y::l,p,i,k,r,h,hi,h1,h2=>by
  rw[bL]at h;split at h
  ·cases i with
   | zero=>simp at hi;subst hi;rw[bO,c7 ⟨h1,h2⟩];simp
   | succ i=>rw[l4]at hi;have:=tx h hi;rw[bO,b8 o_,xR h hi h1 h2];congr 1;omega
  ·cases h
def jl (P:List Mu)(k:Nat):List Mw:=(P.take k).foldl (fun a x=>fh a (cV x)) []
theorem zB {P:List Mu}{k:Nat}{x:Mu}(hx:P[k]?=some x):jl P (k+1)=fh (jl P k) (cV x):=by rw[jl,dA hx,List.foldl_append];rfl
structure RInv (P:List Mu) (k:Nat) (R:List Mw):Prop where
 ok:gl R=true
 len:R.length<=k
 nil:R=[]↔k=0
 fin:∀x,P[k]?=some x->kp 0 R=x.MK
 all:∀(j:Nat) (x:Mu),j<k->P[j]?=some x->∃(i:Nat) (r:Mw),R[i]?=some r/\r.L8<=x.MK/\x.MK+aH x.L7.J7.J3<=r.ML/\r.MP=x.L7.MR/\r.MG=x.L7.MG
theorem ji (p:Int)(l:List Mw)(r:Mw):kp p (l++[r])=r.ML:=by simp[kp]
theorem yF {P:List Mu}(h:PsOk P)(hd:DPs P):∀{k:Nat},k<=P.length->RInv P k (jl P k)
 | 0,_=>⟨rfl,by simp[jl],by simp[jl],fun x hx=>by rw[h.at0 x hx];rfl,fun j x hj=>o_⟩
 | k+1,hk=>by
  obtain⟨x,hx⟩:=ae (l:=P) (k:=k) o_;have I:=yF h hd (k:=k) o_;have hr:=h.rng k x hx;have SW:=hd x (c9 hx);unfold DI at SW;have hfx:=I.fin x hx;rw[zB hx];have NM:∀y,P[k+1]?=some y->x.MK+aH x.L7.J7.J3=y.MK:=fun y hy=>(h.next k x y hx hy).symm;have M5:=I.ok;have M0:=I.len;have ON:=I.all
  generalize jl P k=R at *
  rcases mS R with rfl|⟨ini,r,rfl⟩
  ·have Oz:k=0:=I.nil.1 rfl;subst Oz;have e:fh [] (cV x)=[cV x]:=rfl;rw[e];have h0:=h.at0 x hx;refine⟨?_,s_,s_,fun y hy=>by rw[<-NM y hy];rfl,fun j y hj hy=>?_⟩
   ·rw[gl,bL,bL,c7];unfold cz cV;dsimp only;exact⟨o_,o_,o_,SW.1,SW.2.1,SW.2.2⟩
   ·have:j=0:=o_;subst this;rw[hx]at hy;injection hy with hy;subst hy;exact⟨0,cV x,rfl,u4 _,u4 _,rfl,rfl⟩
  ·rw[ji]at hfx;have ho:=rulesOkF_snoc.1 M5;rw[lJ];split
   ·rename_i hj;unfold wl at hj;simp only[b9,w9]at hj;have N1:=ho.2;unfold cz at N1;refine⟨rulesOkF_snoc.2 ⟨ho.1,?_⟩,by simp only[c8,d5,i9]at M0⊢;omega,s_,fun y hy=>by rw[ji,<-NM y hy];rfl,fun j y OH hy=>?_⟩
    ·unfold cz cV;dsimp only;exact⟨N1.1,o_,o_,N1.2.2.2.1,N1.2.2.2.2.1,N1.2.2.2.2.2⟩
    ·by_cases Pp:j=k
     ·subst Pp;rw[hx]at hy;injection hy with hy;subst hy;refine⟨ini.length,⟨r.L8,(cV x).ML,r.MP,r.MG⟩,s_,?_,u4 _,hj.2.1,hj.2.2⟩;dsimp only;omega
     ·obtain⟨i,q,q1,q2,q3,q4,q5⟩:=ON j y o_ hy;rw[G3]at q1;split at q1
      ·rename_i hi;exact⟨i,q,by rw[j7 hi];exact q1,q2,q3,q4,q5⟩
      ·rename_i hi
       have SE:i-ini.length=0:=by
        rcases v4 (i-ini.length)with e|e
        ·exact e
        ·rw[e9 aab]at q1;cases q1
       rw[SE]at q1;simp only[f9,Option.some.injEq]at q1;subst q1;refine⟨ini.length,⟨r.L8,(cV x).ML,r.MP,r.MG⟩,s_,q2,?_,q4,q5⟩;show _<=x.MK+aH x.L7.J7.J3;omega
   ·refine⟨rulesOkF_snoc.2 ⟨M5,?_⟩,by simp only[c8,d5,i9]at M0⊢;omega,s_,fun y hy=>by rw[ji,<-NM y hy];rfl,fun j y OH hy=>?_⟩
    ·rw[ji];unfold cz cV;dsimp only;exact⟨o_,o_,o_,SW.1,SW.2.1,SW.2.2⟩
    ·by_cases Pp:j=k
     ·subst Pp;rw[hx]at hy;injection hy with hy;subst hy;exact⟨(ini++[r]).length,cV x,s_,u4 _,u4 _,rfl,rfl⟩
     ·obtain⟨i,q,q1,q2⟩:=ON j y o_ hy;exact⟨i,q,by rw[j7 (aI q1)];exact q1,q2⟩
theorem BF {P:List Mu}(h:PsOk P):jl P P.length=eL P:=by
 have hn:wG P=true:=by unfold wG;rw[o8];intro x hx;obtain⟨k,hk⟩:=v7.1 hx;have:=h.rng k x hk;exact within_iff.2 ⟨this.1,o_⟩
 rw[jl,i7 (d8 _),eL,c7 hn]
theorem Ct {P:List Mu}(h:PsOk P)(hd:DPs P):RInv P P.length (eL P):=by rw[<-BF h];exact yF h hd (d8 _)
theorem Jw {P:List Mu}(h:PsOk P)(hd:DPs P){k:Nat}{x:Mu}(hx:P[k]?=some x){off:Int}(h1:x.MK<=off)(h2:off<x.MK+aH x.L7.J7.J3):
  ∃(i:Nat) (r:Mw),bJ (eL P) off=(i:Int)/\(eL P)[i]?=some r/\r.MP=x.L7.MR/\r.MG=x.L7.MG/\r.L8<=x.MK/\x.MK+aH x.L7.J7.J3<=r.ML:=by
 have I:=Ct h hd;obtain⟨i,r,q1,q2,q3,q4,q5⟩:=I.all k x (aI hx) hx;have M5:=I.ok;refine⟨i,r,?_,q1,q4,q5,q2,q3⟩;rw[bJ,c7 M5,xR M5 q1 o_ o_,u6]
def bt (a:Int):Bool:=af a 0 1199
abbrev wr (n:Int):Int:=IntKind.i64.wrap n
structure CS where
 m:Mr
 bad:Bool
def CS.ok (c:CS):Prop:=c.m.MH.length=1200
def aM (m:Mr)(a:Int):Int:=match m.MH[a.toNat]? with|some x=>x|none=>0
def gT (m:Mr)(a v:Int):Mr:={m with MH:=m.MH.set a.toNat v}
def cAt (c:CS)(a:Int):CS:=⟨c.m,c.bad||!bt a⟩
def bn (c:CS)(v:Int):CS:=if(c.bad||!bt (wr (c.m.J6-1)))=true then⟨c.m,true⟩else⟨{gT c.m (wr (c.m.J6-1)) v with J6:=wr (c.m.J6-1)},false⟩
def ax (c:CS):CS:=if(c.bad||!bt c.m.J6)=true then⟨c.m,true⟩else⟨{c.m with J6:=c.m.J6+1},false⟩
def lG (c:CS):Int:=if(c.bad||!bt c.m.J6)=true then 0 else aM c.m c.m.J6
def bD:Nat->CS->CS
 | 0,c=>c
 | n+1,c=>bD n (ax c)
def dI:Nat->CS->CS
 | 0,c=>c
 | n+1,c=>dI n (bn c 0)
def gR (c:CS)(a:Int):CS:=if(c.bad||!bt a)=true then⟨c.m,true⟩else bn ⟨c.m,false⟩ (aM c.m a)
def dq (c:CS)(a:Int):CS:=if((ax c).bad||!bt a)=true then⟨(ax c).m,true⟩else⟨gT (ax c).m a (lG c),false⟩
theorem inStk_iff {a:Int}:bt a=true↔0<=a/\a<=1199:=within_iff
theorem gp {c:CS}{v:Int}(h:c.ok):(bn c v).ok:=by
 unfold bn CS.ok at *
 split
 ·exact h
 ·simpa [gT]using h
theorem bm {c:CS}(h:c.ok):(ax c).ok:=by
 unfold ax CS.ok at *
 split
 ·exact h
 ·exact h
theorem fC:∀{n:Nat} {c:CS},c.ok->(bD n c).ok
 | 0,_,h=>h
 | n+1,c,h=>fC (n:=n) (bm h)
theorem rD:∀{n:Nat} {c:CS},c.ok->(dI n c).ok
 | 0,_,h=>h
 | n+1,c,h=>rD (n:=n) (gp h)
theorem AM {c:CS}{a:Int}(h:c.ok):(gR c a).ok:=by
 unfold gR;split
 ·exact h
 ·exact gp (c:=⟨c.m,false⟩) h
theorem yH {c:CS}{a:Int}(h:c.ok):(dq c a).ok:=by
 have:=bm h;unfold dq;split
 ·exact this
 ·unfold CS.ok at *;simpa [gT]using this
abbrev Mg (m:Mr)(st out:Sim.Id):AO:= .box [.t (.int .i64 m.L3),.t (.int .i64 m.J6),.t (.int .i64 m.L4),.own st,.own out,.t (.int .i64 m.MC),.t (.int .i64 m.faG)]
abbrev oA:AV:= .r (.c (.ptr (0,0,0) 0))
theorem CR {l:List Int}{a:Int}(hl:l.length=1200)(h:bt a=true):∃(j:Nat) (x:Int),a=(j:Int)/\l[j]?=some x/\j<l.length/\j<=1199:=by have h':=inStk_iff.1 h;obtain⟨j,rfl⟩:=gt h'.1;obtain⟨x,hx⟩:=ae (l:=l) (k:=j) o_;exact⟨j,x,rfl,hx,o_,o_⟩
theorem AP {l:List Int}{j:Nat}{v:Int}:(l.map aa).set j (aa v)=(l.set j v).map aa:=by rw[F9]
theorem GB {a b:Bool}(h:(a||!b)=false):a=false/\b=true:=by cases a<;>cases b<;>simp at h⊢
def oN (c:CS)(a:Int):CS:=⟨{c.m with L3:=wr (c.m.L3+a)},c.bad⟩
def lP (c:CS)(k:Int):CS:=bn (ax (ax c)) (ey k (lG (ax c)) (lG c))
def pW (c:CS)(a:Int):CS:=if lG c=0 then oN (ax c) a else ax c
def qo (c:CS)(es:List Int)(a:Int):CS:=match es[a.toNat]? with
 | some e=>⟨{c.m with L3:=e},c.bad⟩
 | none=>⟨c.m,true⟩
def rG (c:CS)(n:Nat):CS:=dI n ⟨{(bn c c.m.L4).m with L4:=(bn c c.m.L4).m.J6},(bn c c.m.L4).bad⟩
def cFp (c:CS):CS:=⟨{(ax c).m with L4:=lG c},(ax c).bad⟩
def cPc (c:CS):CS:=⟨{(ax c).m with L3:=lG c},(ax c).bad⟩
def da (c:CS):CS:=⟨{c.m with J6:=c.m.L4},c.bad⟩
def sl (c:CS)(n:Nat):CS:=bn (bD n (cPc (cFp (da (ax c))))) (lG c)
def nN (c:CS)(n:Nat):CS:=bn (bD (n%16) (cPc (bD (n/16) (ax c)))) (lG c)
def Li (c:CS):CS:=⟨{(ax c).m with MD:=(ax c).m.MD++[lG c]},(ax c).bad⟩
def bP (es:List Int)(c:CS)(x:Mt):CS:=
 if x.J3=0 then bn c x.K9
 else if x.J3=1 then gR c (wr (c.m.L4+x.K9))
 else if x.J3=3 then gR c (wr (c.m.J6+x.K9))
 else if x.J3=2 then dq c (wr (c.m.L4+x.K9))
 else if x.J3=4 then dq c (wr (c.m.J6+x.K9))
 else if 5<=x.J3/\x.J3<=9 then lP c (x.J3-3)
 else if x.J3=10 then oN c x.K9
 else if x.J3=11 then pW c x.K9
 else if x.J3=12 then qo (bn c c.m.L3) es x.K9
 else if x.J3=13 then rG c x.K9.toNat
 else if x.J3=15 then dI x.K9.toNat c
 else if x.J3=14 then sl c x.K9.toNat
 else if x.J3=16 then nN c x.K9.toNat
 else if x.J3=17 then Li c
 else c
abbrev opV (x:Mt):AV:= .r (.agg [.t (.int .i64 x.J3),.t (.int .i64 x.K9)])
theorem Hr {c:Int}(h:12<=c/\c<=16):(ba c).2=false/\((ba c).1=1\/(ba c).1=2):=by
 unfold ba;repeat' split
 all_goals first
  |(exfalso;omega)
  | simp
theorem Jm {c:Int}(h:1<=c/\c<=11):ba c=(2,true)\/ba c=(0,false):=by
 unfold ba;repeat' split
 all_goals first
  |(exfalso;omega)
  | simp
theorem Ib {c:Int}{m:Nat}(h:ba c=(2,true))(hm:m<65536):-65536<=jV c m/\jV c m<=65536:=by
 by_cases hb:2^(8*2-1)<=m
 ·have e:jV c m=(m:Int)-2^(8*2):=qm (n:=2) (by rw[h];rfl) (by rw[h]) hb;rw[e];show -65536<=(m:Int)-65536/\(m:Int)-65536<=65536;omega
 ·have e:jV c m=(m:Int):=nS (n:=2) (by rw[h];rfl) (fun hh=>hb hh.2);rw[e];omega
theorem jp {s:List UInt8}{p:Int}{x:Mt}{z:Nat}(h:bB s p=some (x,z)):(0<=x.J3/\x.J3<=17)/\(12<=x.J3->x.J3<=16->0<=x.K9/\x.K9<=65536)/\(1<=x.J3->x.J3<=11->-65536<=x.K9/\x.K9<=65536)/\z<=5:=by
 unfold bB at h;split at h
 ·split at h
  ·cases h
  ·rename_i Nm;injection h with h;injection h with h1 h2;rw[not_or]at Nm;have hz:=gW (cF s p.toNat);subst h1;dsimp only
   generalize hc:((cF s p.toNat:Nat):Int)=c at *
   have hin:0<=c/\c<=17:=by
    have:=Nm.1;unfold aH at this;split at this
    ·rename_i hw;exact within_iff.1 hw
    ·exact absurd rfl this
   refine⟨hin,fun g1 g2=>?_,fun g1 g2=>?_,o_⟩
   ·obtain⟨e1,e2⟩:=Hr ⟨g1,g2⟩;have hl:=fo s (p.toNat+1) (ba c).1.toNat;have:256^(ba c).1.toNat<=65536:=(by rcases e2 with e2|e2<;>rw[e2]<;>decide);rw[jV,b8 (by rw[e1];simp)];omega
   ·have hl:=fo s (p.toNat+1) (ba c).1.toNat;rcases Jm ⟨g1,g2⟩with e|e
    ·rw[e]at hl⊢;exact Ib e hl
    ·rw[e]at hl⊢;have hl:aX s (p.toNat+1) 0<1:=hl;have e2:jV c (aX s (p.toNat+1) 0)=((aX s (p.toNat+1) 0:Nat):Int):=nS (n:=0) (by rw[e];rfl) (fun hh=>by rw[e]at hh;exact absurd hh.1 s_);show -65536<=jV c (aX s (p.toNat+1) 0)/\jV c (aX s (p.toNat+1) 0)<=65536;rw[e2];omega
 ·cases h
theorem nn (m:Mr)(hs:m.MH.length<=2000000)(ho:m.MD.length<=2000000):Sim.Spec prog 69 [.agg m.tr] (.r (.agg (m.tr.map oS))):=by
 refine ag hΓ aE func69 rfl d_ rfl ?_;repeat' ((conv=>whnf);first|refine Or.inl ?_|apply oi|apply fi|intro h|exact Y1|refine e_ rfl ?_)
 all_goals exact Q24
def dW (c:CS)(v:Int):CS:=if c.m.J6<1\/1200<c.m.J6 then⟨c.m,true⟩else⟨{gT c.m (c.m.J6-1) v with J6:=c.m.J6-1},c.bad⟩
def ud (c:CS)(a:Int):Int:=if bt a=true then aM c.m a else 0
def jO (c:CS):Int:=ud c c.m.J6
def FV (c:CS)(a v:Int):CS:=if bt a=true then⟨gT c.m a v,c.bad⟩else⟨c.m,true⟩
def ky:Nat->CS->CS
 | 0,c=>c
 | n+1,c=>ky n (dW c 0)
def nj (a n:Int):Int:=if af a (-100000) 100000=true then wr (a+n)else -1
def Fi (c:CS)(a:Int):CS:=dW (cAt c a) (ud c a)
def ze (c:CS)(a:Int):CS:=FV (ax c) a (jO c)
def HF (c:CS)(k:Int):CS:=dW (ax (ax c)) (ey k (jO (ax c)) (jO c))
def AE (c:CS)(a:Int):CS:=if jO c=0 then oN (ax c) a else ax c
def BO (c:CS)(es:List Int)(a:Int):CS:=match es[a.toNat]? with
 | some e=>⟨{(dW c c.m.L3).m with L3:=e},(dW c c.m.L3).bad⟩
 | none=>⟨c.m,true⟩
def Hb (c:CS)(n:Nat):CS:=ky n ⟨{(dW c c.m.L4).m with L4:=(dW c c.m.L4).m.J6},(dW c c.m.L4).bad⟩
def qFp (c:CS):CS:=⟨{(ax c).m with L4:=jO c},(ax c).bad⟩
def qPc (c:CS):CS:=⟨{(ax c).m with L3:=jO c},(ax c).bad⟩
def wB (c:CS)(n:Nat):CS:=if af (ax c).m.L4 0 1200=true then dW (bD n (qPc (qFp (da (ax c))))) (jO c)else⟨(ax c).m,true⟩
def EX (c:CS)(n:Nat):CS:=dW (bD (n%16) (qPc (bD (n/16) (ax c)))) (jO c)
def DM (c:CS):CS:=⟨{(ax c).m with MD:=(ax c).m.MD++[jO c]},(ax c).bad⟩
def eX (es:List Int)(c:CS)(x:Mt):CS:=
 if x.J3=0 then dW c x.K9
 else if x.J3=1 then Fi c (nj c.m.L4 x.K9)
 else if x.J3=3 then Fi c (wr (c.m.J6+x.K9))
 else if x.J3=2 then ze c (nj c.m.L4 x.K9)
 else if x.J3=4 then ze c (wr (c.m.J6+x.K9))
 else if x.J3=10 then oN c x.K9
 else if x.J3=11 then AE c x.K9
 else if x.J3=12 then BO c es x.K9
 else if x.J3=13 then Hb c x.K9.toNat
 else if x.J3=15 then ky x.K9.toNat c
 else if x.J3=14 then wB c x.K9.toNat
 else if x.J3=16 then EX c x.K9.toNat
 else if x.J3=17 then DM c
 else HF c (x.J3-3)
def Rel (c d:CS):Prop:=c.bad=d.bad/\(c.bad=false->c.m=d.m/\0<=c.m.J6/\c.m.J6<=1200)
theorem Rel.bad {m m':Mr}:Rel ⟨m,true⟩ ⟨m',true⟩:=⟨rfl,fun h=>by cases h⟩
theorem yp {c:CS}{v:Int}(h:c.bad=true):(bn c v).bad=true:=by simp[bn,h]
theorem rr {c:CS}{v:Int}(h:c.bad=true):(dW c v).bad=true:=by unfold dW;split<;>simp[h]
theorem mR {c:CS}(h:c.bad=true):(ax c).bad=true:=by simp[ax,h]
theorem HY {c:CS}(h:bt c.m.J6=false):(ax c).bad=true:=by simp[ax,h]
theorem se:∀{n:Nat} {c:CS},c.bad=true->(bD n c).bad=true
 | 0,_,h=>h
 | n+1,_,h=>se (n:=n) (mR h)
theorem Rel.of_bad {c d:CS}(h1:c.bad=true)(h2:d.bad=true):Rel c d:=⟨h1.trans h2.symm,fun h=>by rw[h1]at h;cases h⟩
theorem iI {c d:CS}{v v':Int}(h:Rel c d)(hv:c.bad=false->v=v'):Rel (bn c v) (dW d v'):=by
 obtain⟨h1,h2⟩:=h
 cases hb:c.bad with
 | true=>exact .of_bad (yp hb) (rr (h1▸hb))
 | false=>
  obtain⟨h3,h4,h5⟩:=h2 hb;obtain⟨m,b⟩:=c;obtain⟨m',b'⟩:=d
  dsimp only at *
  subst h3;subst h1;subst hb;rw[hv rfl];unfold bn dW;dsimp only;have hw:wr (m.J6-1)=m.J6-1:=c6 _ o_;rw[hw];by_cases hs:m.J6<1\/1200<m.J6
  ·have hn:bt (m.J6-1)=false:=by cases hi:bt (m.J6-1)with|false=>rfl|true=>have:=inStk_iff.1 hi;omega
   rw[c7 hs,c7 (by simp[hn])];exact .bad
  ·have hn:bt (m.J6-1)=true:=inStk_iff.2 o_;rw[b8 hs,b8 (by simp[hn])];exact⟨rfl,fun _=>⟨rfl,g_,g_⟩⟩
theorem fN {c d:CS}(h:Rel c d):Rel (ax c) (ax d):=by
 obtain⟨h1,h2⟩:=h
 cases hb:c.bad with
 | true=>exact .of_bad (mR hb) (mR (h1▸hb))
 | false=>
  obtain⟨h3,h4,h5⟩:=h2 hb;obtain⟨m,b⟩:=c;obtain⟨m',b'⟩:=d
  dsimp only at *
  subst h3;subst h1;subst hb;refine⟨rfl,fun hn=>⟨rfl,?_⟩⟩;unfold ax at hn⊢;dsimp only at hn⊢;split at hn
  ·cases hn
  ·rename_i hi;rw[b8 hi];have:bt m.J6=true:=(by simpa using hi);have:=inStk_iff.1 this;dsimp only;omega
theorem iz {c d:CS}(h:Rel c d)(hb:(ax c).bad=false):lG c=jO d:=by
 obtain⟨h1,h2⟩:=h;unfold ax at hb;split at hb
 ·cases hb
 ·rename_i hi;have TH:c.bad=false/\bt c.m.J6=true:=by simpa using hi
  obtain⟨h3,_⟩:=h2 TH.1;unfold lG jO ud;rw[b8 hi,<-h3,c7 TH.2]
theorem qb:∀{n:Nat} {c d:CS},Rel c d->Rel (bD n c) (bD n d)
 | 0,_,_,h=>h
 | n+1,_,_,h=>qb (n:=n) (fN h)
theorem rC:∀{n:Nat} {c:CS},(bD n c).bad=false->c.bad=false
 | n,c,h=>by cases hb:c.bad with
  | false=>rfl
  | true=>rw[se hb]at h;cases h
theorem qC {c:CS}(h:(ax c).bad=false):c.bad=false:=by cases hb:c.bad with
  | false=>rfl
  | true=>rw[mR hb]at h;cases h
theorem rK:∀{n:Nat} {c d:CS},Rel c d->Rel (dI n c) (ky n d)
 | 0,_,_,h=>h
 | n+1,_,_,h=>rK (n:=n) (iI h fun _=>rfl)
theorem AW {c d:CS}{a a':Int}(h:Rel c d)(hi:bt a=bt a')(ha:bt a=true->a=a'):Rel (gR c a) (Fi d a'):=by
 obtain⟨h1,h2⟩:=h;unfold gR Fi cAt;rw[<-hi]
 cases hb:c.bad with
 | true=>exact .of_bad s_ (rr (by simp[<-h1,hb]))
 | false=>
  obtain⟨h3,h4,h5⟩:=h2 hb
  cases hn:bt a with
  | false=>exact .of_bad s_ (rr s_)
  | true=>
   have e:=ha hn;subst e;rw[b8 s_];refine iI ⟨?_,fun _=>⟨h3,h4,h5⟩⟩ fun _=>?_
   ·simp[<-h1,hb]
   ·rw[ud,c7 hn,h3]
theorem yn {c d:CS}{a a':Int}(h:Rel c d)(hi:bt a=bt a')(ha:bt a=true->a=a'):Rel (dq c a) (ze d a'):=by
 have hp:=fN h;have ht:=iz h;unfold dq ze FV;rw[<-hi]
 cases hb:(ax c).bad with
 | true=>
  rw[c7 s_];refine .of_bad rfl ?_;split
  ·rw[<-hp.1];exact hb
  ·rfl
 | false=>
  obtain⟨h3,h4,h5⟩:=hp.2 hb
  cases hn:bt a with
  | false=>rw[c7 s_,b8 s_];exact .bad
  | true=>have e:=ha hn;subst e;rw[b8 s_,c7 rfl,ht hb,<-h3];exact⟨by rw[<-hp.1,hb],fun _=>⟨rfl,h4,h5⟩⟩
theorem ES {f n:Int}(hf:inI f)(hn:-65536<=n/\n<=65536):bt (wr (f+n))=bt (nj f n)/\(bt (wr (f+n))=true->wr (f+n)=nj f n):=by
 unfold nj;by_cases hw:af f (-100000) 100000=true
 ·rw[c7 hw];exact⟨rfl,fun _=>rfl⟩
 ·rw[b8 hw];have h0:¬(-100000<=f/\f<=100000):=fun h=>hw (within_iff.2 h)
  have:bt (wr (f+n))=false:=by
   cases hi:bt (wr (f+n))with
   | false=>rfl
   | true=>
    exfalso;have h1:=inStk_iff.1 hi;unfold inI at hf;have e:wr (f+n)=if(f+n)%18446744073709551616≥9223372036854775808 then(f+n)%18446744073709551616-18446744073709551616 else(f+n)%18446744073709551616:=by simp[wr,IntKind.wrap,IntKind.bits,IntKind.signed]
    rw[e]at h1;split at h1<;>omega
  rw[this];exact⟨d_,fun h=>by cases h⟩
theorem CM (es:List Int)(m:Mr)(x:Mt)(NY:0<=m.J6/\m.J6<=1200)(Ov:inI m.L4)(hc:0<=x.J3/\x.J3<=17)(h1:12<=x.J3->x.J3<=16->0<=x.K9/\x.K9<=65536)(h2:1<=x.J3->x.J3<=11->-65536<=x.K9/\x.K9<=65536):
  Rel (bP es ⟨m,false⟩ x) (eX es ⟨m,false⟩ x):=by
 have h0:Rel ⟨m,false⟩ ⟨m,false⟩:=⟨rfl,fun _=>⟨rfl,NY⟩⟩;obtain⟨k,a⟩:=x;dsimp only at hc h1 h2
 generalize hd:(⟨m,false⟩:CS)=d at *
 have Ze:d.m.L4=m.L4:=by rw[<-hd]
 unfold bP eX;dsimp only;by_cases e0:k=0
 ·rw[c7 e0,c7 e0];exact iI h0 fun _=>rfl
 rw[b8 e0,b8 e0];by_cases e1:k=1
 ·rw[c7 e1,c7 e1];have:=ES (n:=a) Ov (h2 o_ o_);rw[Ze];exact AW h0 this.1 this.2
 rw[b8 e1,b8 e1];by_cases e3:k=3
 ·rw[c7 e3,c7 e3];exact AW h0 rfl fun _=>rfl
 rw[b8 e3,b8 e3];by_cases e2:k=2
 ·rw[c7 e2,c7 e2];have:=ES (n:=a) Ov (h2 o_ o_);rw[Ze];exact yn h0 this.1 this.2
 rw[b8 e2,b8 e2];by_cases e4:k=4
 ·rw[c7 e4,c7 e4];exact yn h0 rfl fun _=>rfl
 rw[b8 e4,b8 e4];by_cases e59:5<=k/\k<=9
 ·rw[c7 e59,b8 o_,b8 o_,b8 o_,b8 o_,b8 o_,b8 o_,b8 o_,b8 o_];unfold lP HF;refine iI (fN (fN h0)) fun hb=>?_;rw[iz h0 (qC hb),iz (fN h0) hb]
 rw[b8 e59];by_cases e10:k=10
 ·rw[c7 e10,c7 e10];unfold oN;exact⟨rfl,fun hb=>⟨rfl,(h0.2 hb).2⟩⟩
 rw[b8 e10,b8 e10];by_cases e11:k=11
 ·rw[c7 e11,c7 e11];unfold pW AE;have hp:=fN h0
  cases hb:(ax d).bad with
  | true=>refine .of_bad ?_ ?_<;>split<;>simp[oN,hb]
  | false=>
   rw[iz h0 hb];split
   ·unfold oN;exact⟨rfl,fun hb=>⟨rfl,(hp.2 hb).2⟩⟩
   ·exact hp
 rw[b8 e11,b8 e11];by_cases e12:k=12
 ·rw[c7 e12,c7 e12];have hp:=iI (v:=d.m.L3) (v':=d.m.L3) h0 fun _=>rfl;unfold qo BO
  cases he:es[a.toNat]? with|some e=>exact⟨hp.1,fun hb=>by obtain⟨g1,g2,g3⟩:=hp.2 hb;exact⟨by dsimp only;rw[g1],g2,g3⟩⟩|none=>exact .bad
 rw[b8 e12,b8 e12];by_cases e13:k=13
 ·rw[c7 e13,c7 e13];have hp:=iI (v:=d.m.L4) (v':=d.m.L4) h0 fun _=>rfl;unfold rG Hb;refine rK ⟨hp.1,fun hb=>?_⟩;obtain⟨g1,g2,g3⟩:=hp.2 hb;exact⟨by dsimp only;rw[g1],g2,g3⟩
 rw[b8 e13,b8 e13];by_cases e15:k=15
 ·rw[c7 e15,c7 e15];exact rK h0
 rw[b8 e15,b8 e15];by_cases e14:k=14
 ·rw[c7 e14,c7 e14];unfold sl wB;have hp:=fN h0;by_cases hw:af (ax d).m.L4 0 1200=true
  ·rw[c7 hw];have Xm:=within_iff.1 hw;have Ng:Rel (da (ax d)) (da (ax d)):=⟨rfl,fun _=>⟨rfl,Xm.1,Xm.2⟩⟩;have p2:=fN Ng
   have r3:Rel (cFp (da (ax d))) (qFp (da (ax d))):=⟨p2.1,fun hb=>by
    unfold cFp qFp;rw[iz Ng hb]
    exact⟨rfl,(p2.2 hb).2⟩⟩
   have p3:=fN r3
   have r4:Rel (cPc (cFp (da (ax d)))) (qPc (qFp (da (ax d)))):=⟨p3.1,fun hb=>by
    obtain⟨g1,g2,g3⟩:=p3.2 hb;unfold cPc qPc;rw[iz r3 hb]
    exact⟨by dsimp only;rw[g1],g2,g3⟩⟩
   refine iI (qb r4) fun hb=>iz h0 ?_;have b0:(cPc (cFp (da (ax d)))).bad=false:=rC hb;have b1:(ax (cFp (da (ax d)))).bad=false:=b0;have b1':(cFp (da (ax d))).bad=false:=qC b1;have b2:(ax (da (ax d))).bad=false:=b1';have ZM:(da (ax d)).bad=false:=qC b2;exact ZM
  ·rw[b8 hw];refine .of_bad ?_ rfl;refine yp (se ?_);show(ax (cFp (da (ax d)))).bad=true;refine mR ?_;show(ax (da (ax d))).bad=true
   have hn:bt (ax d).m.L4=false:=by cases hi:bt (ax d).m.L4 with|false=>rfl|true=>exact absurd (within_iff.2 (by have:=inStk_iff.1 hi;omega)) hw
   exact HY (c:=da (ax d)) hn
 rw[b8 e14,b8 e14];by_cases e16:k=16
 ·rw[c7 e16,c7 e16];unfold nN EX;have hp:=fN h0;have r2:=qb (n:=a.toNat/16) hp;have p3:=fN r2
  have r4:Rel (cPc (bD (a.toNat/16) (ax d))) (qPc (bD (a.toNat/16) (ax d))):=⟨p3.1,fun hb=>by
   obtain⟨g1,g2,g3⟩:=p3.2 hb;unfold cPc qPc;rw[iz r2 hb]
   exact⟨rfl,g2,g3⟩⟩
  refine iI (qb r4) fun hb=>iz h0 ?_;have b0:(cPc (bD (a.toNat/16) (ax d))).bad=false:=rC hb;have b1:(ax (bD (a.toNat/16) (ax d))).bad=false:=b0;have b2:(bD (a.toNat/16) (ax d)).bad=false:=qC b1;exact rC b2
 rw[b8 e16,b8 e16];have e17:k=17:=o_;rw[c7 e17,c7 e17];have hp:=fN h0;unfold Li DM;refine⟨rfl,fun hb=>?_⟩;rw[iz h0 hb];exact⟨rfl,(hp.2 hb).2⟩
abbrev LZ (m:Mr)(bad:Bool)(st out:Sim.Id):AO:= .box [.t (.int .i64 m.L3),.t (.int .i64 m.J6),.t (.int .i64 m.L4),.own st,.own out,.t (.int .i64 m.MC),.t (.int .i64 m.faG),.t (.bool bad)]
abbrev ng (c:CS):List (Sim.Id×AO):=[((0,0,0),LZ c.m c.bad (0,0,1) (0,0,2)),((0,0,1),.arr false 1 (c.m.MH.map aa)),((0,0,2),.arr false 1 (c.m.MD.map aa))]
abbrev Mc (c:CS):List (Sim.Id×AO):=[((0,0,0),LZ c.m c.bad (0,0,1) (1,0,0)),((0,0,1),.arr false 1 (c.m.MH.map aa)),((1,0,0),.arr false 1 (c.m.MD.map aa))]
theorem V64{p:Prop}(h:p:=by
 repeat' ((conv=>whnf);first|refine Or.inl ?_|apply oi|apply fi|intro h|refine ci hb (ai rfl (ai rfl (ai rfl trivial))) ?_|exact Y1|refine e_ rfl ?_)
 all_goals try(exfalso;simp at h;done)):p:=h
theorem nd (a n:Int):Sim.Spec prog 201 [tvI a,tvI n] (rI (nj a n)):=by
 refine ag hΓ aE func201 rfl d_ rfl ?_;have hb:=aJ a (-100000) 100000;unfold nj
 cases hin:af a (-100000) 100000
 all_goals
  rw[hin]at hb;exact V64
theorem ec (c:CS)(v:Int)(hc:c.ok):bE prog 200 [oA,tI .i64 v] (ng c) (.tup []) (ng (dW c v)):=by
 refine eW hΓ aE func200 rfl d_ rfl rfl ?_;obtain⟨m,bad⟩:=c;unfold CS.ok at hc;unfold dW;dsimp only at hc⊢;by_cases hs:m.J6<1\/1200<m.J6
 ·rw[c7 hs];repeat' ((conv=>whnf);first|refine aB ?_|apply au|apply oi|apply fi|intro h|exact Y15|refine e_ rfl ?_)
 ·rw[b8 hs];have hw:wr (m.J6-1)=m.J6-1:=c6 _ o_;obtain⟨j,x,hj,hx,M3,_⟩:=CR (a:=m.J6-1) hc (inStk_iff.2 o_);have M0:(m.MH.map aa).length=m.MH.length:=s_;repeat' ((conv=>whnf);first|refine aB ?_|apply au|apply oi|apply fi|intro h|exact Y15|refine e_ rfl ?_)
  conv=>whnf
  refine⟨j,by rw[<-hj];exact hw,by rw[M0];exact M3,?_⟩;repeat' ((conv=>whnf);first|refine aB ?_|apply au|apply oi|apply fi|intro h|refine⟨(aa x),ab hx,?_⟩|exact Y1|refine e_ rfl ?_)
  all_goals first
   | exact⟨congrArg (Tr.int _) hw⟩
   |(refine⟨?_⟩;rw[<-show(m.J6-1).toNat=j by rw[hj];rfl];exact AP)
theorem jR (c:CS)(a:Int)(hc:c.ok):bE prog 142 [oA,tI .i64 a] (ng c) (tI .i64 (ud c a)) (ng (cAt c a)):=by
 refine eW hΓ aE func142 rfl d_ rfl rfl ?_;obtain⟨m,bad⟩:=c;unfold CS.ok at hc;have hb:=aJ a 0 1199;unfold cAt ud;dsimp only at hc⊢
 cases hi:bt a with
 | false=>
  rw[show af a 0 1199=false from hi]at hb;rw[b8 s_];repeat' ((conv=>whnf);first|refine Or.inl ?_|apply oi|apply fi|intro h|refine ci hb (ai rfl (ai rfl (ai rfl trivial))) ?_|exact Y1|refine e_ rfl ?_)
  all_goals try exact Q5
  all_goals try(refine⟨congrArg Tr.bool ?_⟩;simp)
 | true=>
  rw[show af a 0 1199=true from hi]at hb;rw[c7 rfl];obtain⟨j,x,hj,hx,M3,_⟩:=CR hc hi;have M0:(m.MH.map aa).length=m.MH.length:=s_;rw[show aM m a=x by simp[aM,hj,hx]];repeat' ((conv=>whnf);first|refine Or.inl ?_|apply oi|apply fi|intro h|refine ci hb (ai rfl (ai rfl (ai rfl trivial))) ?_|exact Y1|refine e_ rfl ?_)
  all_goals try exact Q5
  conv=>whnf
  refine⟨j,hj,by rw[M0];exact M3,?_⟩;repeat' ((conv=>whnf);first|refine Or.inl ?_|apply oi|apply fi|intro h|refine⟨(aa x),ab hx,?_⟩|exact Y1|refine e_ rfl ?_)
  all_goals try(refine⟨congrArg Tr.bool ?_⟩;simp)
theorem dx (c:CS)(hc:c.ok):bE prog 203 [oA] (ng c) (tI .i64 (jO c)) (ng (ax c)):=by
 refine eW hΓ aE func203 rfl d_ rfl rfl ?_;have hP:=jR c c.m.J6 hc;obtain⟨m,bad⟩:=c
 unfold jO ax cAt at *
 dsimp only at hP⊢
 cases hB:(bad||!bt m.J6)with
 | true=>
  rw[hB]at hP;repeat' ((conv=>whnf);first|refine cg hP ?_|refine aB ?_|apply au|apply oi|apply fi|intro h|exact Y1|refine e_ rfl ?_)
  all_goals try exact Q5
 | false=>
  rw[hB]at hP;obtain⟨_,hin⟩:=GB hB;have:=inStk_iff.1 hin;have hw:IntKind.i64.wrap (m.J6+1)=m.J6+1:=c6 _ o_;repeat' ((conv=>whnf);first|refine cg hP ?_|refine aB ?_|apply au|apply oi|apply fi|intro h|exact Y1|refine e_ rfl ?_)
  all_goals try exact Q5
  all_goals exact⟨congrArg (Tr.int _) hw⟩
theorem xY (c:CS)(a v:Int)(hc:c.ok):bE prog 202 [oA,tI .i64 a,tI .i64 v] (ng c) (.tup []) (ng (FV c a v)):=by
 refine eW hΓ aE func202 rfl d_ rfl rfl ?_;obtain⟨m,bad⟩:=c;unfold CS.ok at hc;have hb:=aJ a 0 1199;unfold FV;dsimp only at hc⊢
 cases hi:bt a with
 | false=>
  rw[show af a 0 1199=false from hi]at hb;rw[b8 s_]
  exact V64
 | true=>
  rw[show af a 0 1199=true from hi]at hb;rw[c7 rfl];obtain⟨j,x,hj,hx,M3,_⟩:=CR hc hi;have M0:(m.MH.map aa).length=m.MH.length:=s_;repeat' ((conv=>whnf);first|refine Or.inl ?_|apply oi|apply fi|intro h|refine ci hb (ai rfl (ai rfl (ai rfl trivial))) ?_|exact Y1|refine e_ rfl ?_)
  all_goals try exact Q5
  conv=>whnf
  refine⟨j,hj,by rw[M0];exact M3,?_⟩;repeat' ((conv=>whnf);first|refine Or.inl ?_|apply oi|apply fi|intro h|refine⟨(aa x),ab hx,?_⟩|exact Y1|refine e_ rfl ?_)
  all_goals try(refine⟨?_⟩;rw[<-show a.toNat=j by rw[hj];rfl];exact AP)
theorem fc {c:CS}{v:Int}(h:c.ok):(dW c v).ok:=by
 unfold dW CS.ok at *
 split
 ·exact h
 ·simpa [gT]using h
theorem rT:∀{n:Nat} {c:CS},c.ok->(ky n c).ok
 | 0,_,h=>h
 | n+1,c,h=>rT (n:=n) (fc h)
theorem GQ {c:CS}{a:Int}(h:c.ok):(cAt c a).ok:=h
theorem V72{p:Prop}(h:p:=by
 subst hr;repeat' ((conv=>whnf);first|refine aB ?_|apply au|apply oi|apply fi|intro h|exact Y1|refine e_ rfl ?_)
 all_goals try(exfalso;have h':=d9 h;omega)):p:=h
theorem pv (c:CS)(n:Nat)(hc:c.ok)(hn:n<=65536):bE prog 205 [oA,tI .i64 (n:Int)] (ng c) (.tup []) (ng (bD n c)):=by
 refine eW hΓ aE func205 rfl d_ rfl rfl ?_;obtain⟨R,hR⟩:∃R,bD n c=R:=⟨_,rfl⟩;rw[hR];repeat' ((conv=>whnf);first|refine aB ?_|apply au|apply oi|apply fi|intro h|exact Y1|refine e_ rfl ?_)
 conv=>whnf
 refine⟨{q:Nat×CS//q.1<=n/\q.2.ok/\bD (n-q.1) q.2=R},fun q=>⟨[(0,oA),(1,tI .i64 (n:Int)),(4,tI .i64 (q.1.1:Int))],(ng q.1.2).map fun p=>(p.1,some p.2),[0]⟩,fun q=>n-q.1.1,⟨(0,c),o_,hc,hR⟩,?_,?_⟩
 ·repeat' ((conv=>whnf);first|refine aB ?_|apply au|apply oi|apply fi|intro h|exact Y1|refine e_ rfl ?_)
 intro⟨⟨k,d⟩,hk,hd,hr⟩;dsimp only at hk hd hr⊢;by_cases M3:k<n
 ·obtain⟨j,hj⟩:∃j,n-k=j+1:=⟨n-k-1,o_⟩;rw[hj,bD]at hr;have hP:=dx d hd;repeat' ((conv=>whnf);first|refine cg hP ?_|refine aB ?_|apply au|apply oi|apply fi|intro h|exact Y1|refine e_ rfl ?_)
  all_goals try exact Q17
  conv=>whnf
  refine⟨⟨(k+1,ax d),g_,bm hd,by rw[show n-(k+1)=j by omega];exact hr⟩,?_,KD⟩;repeat' ((conv=>whnf);first|refine aB ?_|apply au|apply oi|apply fi|intro h|exact Y1|refine e_ rfl ?_)
  all_goals try(refine⟨congrArg (Tr.int _) ?_⟩;dsimp only;rw[c6 _ o_];omega)
 ·rw[show n-k=0 by omega,bD]at hr;exact V72
theorem sM (c:CS)(n:Nat)(hc:c.ok)(hn:n<=65536):bE prog 204 [oA,tI .i64 (n:Int)] (ng c) (.tup []) (ng (ky n c)):=by
 refine eW hΓ aE func204 rfl d_ rfl rfl ?_;obtain⟨R,hR⟩:∃R,ky n c=R:=⟨_,rfl⟩;rw[hR];repeat' ((conv=>whnf);first|refine aB ?_|apply au|apply oi|apply fi|intro h|exact Y1|refine e_ rfl ?_)
 conv=>whnf
 refine⟨{q:Nat×CS//q.1<=n/\q.2.ok/\ky (n-q.1) q.2=R},fun q=>⟨[(0,oA),(1,tI .i64 (n:Int)),(4,tI .i64 (q.1.1:Int))],(ng q.1.2).map fun p=>(p.1,some p.2),[0]⟩,fun q=>n-q.1.1,⟨(0,c),o_,hc,hR⟩,?_,?_⟩
 ·repeat' ((conv=>whnf);first|refine aB ?_|apply au|apply oi|apply fi|intro h|exact Y1|refine e_ rfl ?_)
 intro⟨⟨k,d⟩,hk,hd,hr⟩;dsimp only at hk hd hr⊢;by_cases M3:k<n
 ·obtain⟨j,hj⟩:∃j,n-k=j+1:=⟨n-k-1,o_⟩;rw[hj,ky]at hr;have hP:=ec d 0 hd;repeat' ((conv=>whnf);first|refine cg hP ?_|refine aB ?_|apply au|apply oi|apply fi|intro h|exact Y1|refine e_ rfl ?_)
  all_goals try exact Q17
  conv=>whnf
  refine⟨⟨(k+1,dW d 0),g_,fc hd,by rw[show n-(k+1)=j by omega];exact hr⟩,?_,KD⟩;repeat' ((conv=>whnf);first|refine aB ?_|apply au|apply oi|apply fi|intro h|exact Y1|refine e_ rfl ?_)
  all_goals try(refine⟨congrArg (Tr.int _) ?_⟩;dsimp only;rw[c6 _ o_];omega)
 ·rw[show n-k=0 by omega,ky]at hr;exact V72
theorem Ke {v v':Int}{R:List Sim.Id}(h:v=v'):(⟨tI .i64 v,[],none,R⟩:Eff)=⟨tI .i64 v',[],none,R⟩:=by rw[h]
def adv (c:CS)(z:Int):CS:=⟨{c.m with L3:=wr (c.m.L3+z)},c.bad⟩
theorem V87{p:Prop}(h:p:=by
 repeat' ((conv=>whnf);first|refine cg hQ ?_|refine cg hP ?_|refine aB ?_|apply au|apply oi|apply fi|intro h|exact Y1|refine e_ rfl ?_)):p:=h
theorem xy (s:Mx)(c:CS)(x:Mt)(z:Int)(hc:c.ok)(hx:x.J3≠17)(h0:0<=x.J3/\x.J3<=17)(ha:12<=x.J3->x.J3<=16->0<=x.K9/\x.K9<=65536)(he:s.MF.length<=1048576):bE prog 141 [.r (.agg (s.tr.map .t)),oA,opV x,tI .i64 z] (ng c) (.tup []) (ng (eX s.MF (adv c z) x)):=by
 obtain⟨k,a⟩:=x;dsimp only at hx ha h0;refine eW hΓ aE func141 rfl d_ rfl rfl ?_;obtain⟨d,hd⟩:∃d,adv c z=d:=⟨_,rfl⟩;have hdo:d.ok:=by rw[<-hd];exact hc
 by_cases e0:k=0
 ·subst e0;have hP:=ec (adv c z) a hc;repeat' ((conv=>whnf);first|refine cg hP ?_|refine aB ?_|apply au|apply oi|apply fi|intro h|exact Y1|refine e_ rfl ?_)
 by_cases e1:k=1
 ·subst e1;have hN:=nd c.m.L4 a;have hQ:=jR (adv c z) (nj c.m.L4 a) hc;have hP:=ec (cAt (adv c z) (nj c.m.L4 a)) (ud (adv c z) (nj c.m.L4 a)) hc;repeat' ((conv=>whnf);first|refine cg hQ ?_|refine cg hP ?_|refine aB ?_|apply au|apply oi|apply fi|intro h|refine cl hN ?_|exact Y1|refine e_ rfl ?_)
 by_cases e3:k=3
 ·subst e3;have hQ:=jR (adv c z) (wr (c.m.J6+a)) hc;have hP:=ec (cAt (adv c z) (wr (c.m.J6+a))) (ud (adv c z) (wr (c.m.J6+a))) hc;exact V87
 by_cases e2:k=2
 ·subst e2;have hN:=nd c.m.L4 a;have hQ:=dx (adv c z) hc;have hP:=xY (ax (adv c z)) (nj c.m.L4 a) (jO (adv c z)) (bm hc);have hf:(ax (adv c z)).m.L4=c.m.L4:=by unfold ax;split<;>rfl
  repeat' ((conv=>whnf);first|refine cg hQ ?_|refine cg hP ?_|refine aB ?_|refine Fc 5 10 ?_|apply oi|apply fi|intro h|refine cl hN ?_|exact Y16|refine e_ rfl ?_)
  all_goals(refine⟨?_⟩;(conv=>whnf);exact Ke hf)
 by_cases e4:k=4
 ·subst e4;have hQ:=dx (adv c z) hc;have hP:=xY (ax (adv c z)) (wr (c.m.J6+a)) (jO (adv c z)) (bm hc);exact V87
 by_cases e10:k=10
 ·subst e10;repeat' ((conv=>whnf);first|refine aB ?_|apply au|apply oi|apply fi|intro h|exact Y1|refine e_ rfl ?_)
 by_cases e11:k=11
 ·subst e11;have hP:=dx (adv c z) hc;by_cases hz:jO (adv c z)=0
  ·rw[show eX s.MF (adv c z) ⟨11,a⟩=oN (ax (adv c z)) a by simp[eX,AE,hz]];repeat' ((conv=>whnf);first|refine cg hP ?_|refine aB ?_|apply au|apply oi|apply fi|intro h|exact Y1|refine e_ rfl ?_)
   all_goals try(exfalso;rw[hz]at h;simp at h;done)
  ·rw[show eX s.MF (adv c z) ⟨11,a⟩=ax (adv c z) by simp[eX,AE,hz]];repeat' ((conv=>whnf);first|refine cg hP ?_|refine aB ?_|apply au|apply oi|apply fi|intro h|exact Y1|refine e_ rfl ?_)
   all_goals try(exfalso;exact hz aaf)
 by_cases e12:k=12
 ·subst e12;obtain⟨a0,a1⟩:=ha o_ o_;obtain⟨n,rfl⟩:=gt a0;have hP:=ec (adv c z) (adv c z).m.L3 hc;have NC:(s.MF.map aa).length=s.MF.length:=s_;by_cases hn:n<s.MF.length
  ·obtain⟨e,Oi⟩:=ae hn;rw[show eX s.MF (adv c z) ⟨12,(n:Int)⟩=⟨{(dW (adv c z) (adv c z).m.L3).m with L3:=e},(dW (adv c z) (adv c z).m.L3).bad⟩ by simp[eX,BO,Oi]];repeat' ((conv=>whnf);first|refine cg hP ?_|refine aB ?_|apply au|apply oi|apply fi|intro h|refine⟨n,(aa e),rfl,ab Oi,?_⟩|exact Y1|refine e_ rfl ?_)
   all_goals try(exfalso;have h':=d9 h;rw[NC]at h';dsimp only at h';omega)
  ·have Og:s.MF[n]?=none:=e9 o_;rw[show eX s.MF (adv c z) ⟨12,(n:Int)⟩=⟨(adv c z).m,true⟩ by simp[eX,BO,Og]];repeat' ((conv=>whnf);first|refine cg hP ?_|refine aB ?_|apply au|apply oi|apply fi|intro h|exact Y1|refine e_ rfl ?_)
   all_goals try(exfalso;have h':=e8 h;rw[NC]at h';dsimp only at h';omega)
 by_cases e13:k=13
 ·subst e13;obtain⟨a0,a1⟩:=ha o_ o_;obtain⟨n,rfl⟩:=gt a0;have hP:=ec (adv c z) c.m.L4 hc;have hZ:=sM ⟨{(dW (adv c z) c.m.L4).m with L4:=(dW (adv c z) c.m.L4).m.J6},(dW (adv c z) c.m.L4).bad⟩ n (fc (c:=adv c z) hc) o_;repeat' ((conv=>whnf);first|refine cg hP ?_|refine cg hZ ?_|refine aB ?_|apply au|apply oi|apply fi|intro h|exact Y1|refine e_ rfl ?_)
 by_cases e15:k=15
 ·subst e15;obtain⟨a0,a1⟩:=ha o_ o_;obtain⟨n,rfl⟩:=gt a0;have hZ:=sM (adv c z) n hc o_;repeat' ((conv=>whnf);first|refine cg hZ ?_|refine aB ?_|apply au|apply oi|apply fi|intro h|exact Y1|refine e_ rfl ?_)
 by_cases e14:k=14
 ·subst e14;obtain⟨a0,a1⟩:=ha o_ o_;obtain⟨n,rfl⟩:=gt a0;have P5:=dx (adv c z) hc;have hb:=aJ (ax (adv c z)).m.L4 0 1200
  cases hw:af (ax (adv c z)).m.L4 0 1200 with
  | false=>
   rw[hw]at hb;rw[show eX s.MF (adv c z) ⟨14,(n:Int)⟩=⟨(ax (adv c z)).m,true⟩ by simp[eX,wB,hw]];repeat' ((conv=>whnf);first|refine cg P5 ?_|refine aB ?_|apply au|apply oi|apply fi|intro h|refine cl hb ?_|exact Y1|refine e_ rfl ?_)
   all_goals try exact Q5
  | true=>
   rw[hw]at hb;rw[show eX s.MF (adv c z) ⟨14,(n:Int)⟩=dW (bD n (qPc (qFp (da (ax (adv c z)))))) (jO (adv c z)) by simp[eX,wB,hw]];have o1:(da (ax (adv c z))).ok:=bm (c:=adv c z) hc;have o2:(qFp (da (ax (adv c z)))).ok:=bm o1;have o3:(qPc (qFp (da (ax (adv c z))))).ok:=bm o2;have Tk:=dx (da (ax (adv c z))) o1;have WZ:=dx (qFp (da (ax (adv c z)))) o2;have hD:=pv (qPc (qFp (da (ax (adv c z))))) n o3 o_;have Xo:=ec (bD n (qPc (qFp (da (ax (adv c z)))))) (jO (adv c z)) (fC o3);repeat' ((conv=>whnf);first|refine aB ?_|apply au|apply oi|apply fi|intro h|exact Y1|refine e_ rfl ?_)
   refine cg (P5) ?_;repeat' ((conv=>whnf);first|refine aB ?_|apply au|apply oi|apply fi|intro h|refine cl hb ?_|exact Y1|refine e_ rfl ?_)
   all_goals try exact Q5
   refine cg (Tk) ?_;repeat' ((conv=>whnf);first|refine aB ?_|apply au|apply oi|apply fi|intro h|exact Y1|refine e_ rfl ?_)
   refine cg (WZ) ?_;repeat' ((conv=>whnf);first|refine cg hD ?_|refine cg Xo ?_|refine aB ?_|apply au|apply oi|apply fi|intro h|exact Y1|refine e_ rfl ?_)
 by_cases e16:k=16
 ·subst e16;obtain⟨a0,a1⟩:=ha o_ o_;obtain⟨n,rfl⟩:=gt a0;have o1:(ax (adv c z)).ok:=bm (c:=adv c z) hc;have o2:(bD (n/16) (ax (adv c z))).ok:=fC o1;have o3:(qPc (bD (n/16) (ax (adv c z)))).ok:=bm o2
  have w1:IntKind.i64.wrap ((n:Int).tdiv 16)=((n/16:Nat):Int):=by rw[Int.tdiv_eq_ediv_of_nonneg o_,c6 _ o_];rfl
  have w2:(n:Int).tmod 16=((n%16:Nat):Int):=by rw[A6 o_];rfl
  have P5:=dx (adv c z) hc;have VE:=pv (ax (adv c z)) (n/16) o1 o_;have Tk:=dx (bD (n/16) (ax (adv c z))) o2;have VP:=pv (qPc (bD (n/16) (ax (adv c z)))) (n%16) o3 o_;have Xo:=ec (bD (n%16) (qPc (bD (n/16) (ax (adv c z))))) (jO (adv c z)) (fC o3);rw[<-w1]at VE;rw[<-w2]at VP;repeat' ((conv=>whnf);first|refine aB ?_|apply au|apply oi|apply fi|intro h|exact Y1|refine e_ rfl ?_)
  refine cg (P5) ?_;repeat' ((conv=>whnf);first|refine aB ?_|apply au|apply oi|apply fi|intro h|exact Y1|refine e_ rfl ?_)
  refine cg (VE) ?_;repeat' ((conv=>whnf);first|refine aB ?_|apply au|apply oi|apply fi|intro h|exact Y1|refine e_ rfl ?_)
  refine cg (Tk) ?_;repeat' ((conv=>whnf);first|refine aB ?_|apply au|apply oi|apply fi|intro h|exact Y1|refine e_ rfl ?_)
  refine cg (VP) ?_;repeat' ((conv=>whnf);first|refine aB ?_|apply au|apply oi|apply fi|intro h|exact Y1|refine e_ rfl ?_)
  refine cg (Xo) ?_;repeat' ((conv=>whnf);first|refine aB ?_|apply au|apply oi|apply fi|intro h|exact Y1|refine e_ rfl ?_)
 ·have o1:(ax (adv c z)).ok:=bm (c:=adv c z) hc;have P5:=dx (adv c z) hc;have Tk:=dx (ax (adv c z)) o1;have WZ:=ec (ax (ax (adv c z))) (ey (k-3) (jO (ax (adv c z))) (jO (adv c z))) (bm o1);have hA:=rh (k-3) (jO (ax (adv c z))) (jO (adv c z));have e:k=5\/k=6\/k=7\/k=8\/k=9:=o_;rcases e with rfl|rfl|rfl|rfl|rfl
  all_goals
   repeat' ((conv=>whnf);first|refine aB ?_|apply au|apply oi|apply fi|intro h|exact Y1|refine e_ rfl ?_)
   refine cg (P5) ?_;repeat' ((conv=>whnf);first|refine aB ?_|apply au|apply oi|apply fi|intro h|exact Y1|refine e_ rfl ?_)
   refine cg (Tk) ?_;repeat' ((conv=>whnf);first|refine aB ?_|apply au|apply oi|apply fi|intro h|refine cl hA ?_|exact Y1|refine e_ rfl ?_)
   refine cg (WZ) ?_;repeat' ((conv=>whnf);first|refine aB ?_|apply au|apply oi|apply fi|intro h|exact Y1|refine e_ rfl ?_)
theorem FO (s:Mx)(c:CS)(a z:Int)(hc:c.ok)(ho:c.m.MD.length<=2000000):bE prog 141 [.r (.agg (s.tr.map .t)),oA,opV ⟨17,a⟩,tI .i64 z] (ng c) (.tup []) (Mc (DM (adv c z))):=by
 refine eW hΓ aE func141 rfl d_ rfl rfl ?_;have hP:=dx (adv c z) hc;have YU:(ax (adv c z)).m.MD.length<=2000000:=by unfold ax;split<;>exact ho
 repeat' ((conv=>whnf);first|refine cg hP ?_|refine aB ?_|refine Fc 5 7 ?_|apply oi|apply fi|intro h|exact Y16|refine e_ rfl ?_)
 all_goals(refine⟨?_⟩;first|(refine And.intro ?_ ?_<;>simp only[e7,c8,d5,i9]<;>omega)|simp[DM,aa])
end Go.Proofs.P
namespace Go.Proofs.P
open Go.Sim Tryz
set_option maxRecDepth 100000
set_option maxHeartbeats 8000000
theorem aU {p:Prop}[Decidable p](Q:CS->Prop){a b:CS}(ha:Q a)(hb:Q b):Q (if p then a else b):=by split<;>assumption
theorem Is {es:List Int}{c:CS}{x:Mt}(h:c.ok):(bP es c x).ok:=by
 unfold bP
 refine aU (CS.ok) (by
  exact gp h) ?_
 refine aU (CS.ok) (by
  exact AM h) ?_
 refine aU (CS.ok) (by
  exact AM h) ?_
 refine aU (CS.ok) (by
  exact yH h) ?_
 refine aU (CS.ok) (by
  exact yH h) ?_
 refine aU (CS.ok) (by
  exact gp (bm (bm h))) ?_
 refine aU (CS.ok) (by
  exact h) ?_
 refine aU (CS.ok) (by
  unfold pW;split
  ·exact bm h
  ·exact bm h) ?_
 refine aU (CS.ok) (by
  unfold qo;split
  ·exact gp h
  ·exact gp h) ?_
 refine aU (CS.ok) (by
  exact rD (gp h)) ?_
 refine aU (CS.ok) (by
  exact rD h) ?_
 refine aU (CS.ok) (by
  exact gp (fC (bm (bm (bm h))))) ?_
 refine aU (CS.ok) (by
  exact gp (fC (bm (fC (bm h))))) ?_
 refine aU (CS.ok) (by
  exact bm h) ?_
 exact h
def MW (m:Mr):Prop:=(∀w∈m.MH,inI w)/\inI m.L3/\inI m.L4
theorem IZ (n:Int):inI (wr n):=by
 have e:wr n=if n%18446744073709551616≥9223372036854775808 then n%18446744073709551616-18446744073709551616 else n%18446744073709551616:=by simp[wr,IntKind.wrap,IntKind.bits,IntKind.signed]
 unfold inI;rw[e];split<;>omega
theorem uq:inI 0:=by unfold inI;omega
theorem yg {m:Mr}(h:MW m)(a:Int):inI (aM m a):=by
 unfold aM;split
 ·rename_i x hx;exact h.1 _ (c9 hx)
 ·exact uq
theorem BX {m:Mr}(h:MW m){a v:Int}(hv:inI v):MW (gT m a v):=by
 refine⟨fun w hw=>?_,h.2⟩;rcases u7 hw with h1|h1
 ·exact h.1 w h1
 ·rw[h1];exact hv
theorem iQ {c:CS}(h:MW c.m){v:Int}(hv:inI v):MW (bn c v).m:=by
 unfold bn;split
 ·exact h
 ·exact⟨(BX h hv).1,h.2⟩
theorem fm {c:CS}(h:MW c.m):MW (ax c).m:=by
 unfold ax;split
 ·exact h
 ·exact h
theorem qd {c:CS}(h:MW c.m):inI (lG c):=by
 unfold lG;split
 ·exact uq
 ·exact yg h _
theorem qe:∀{n:Nat} {c:CS},MW c.m->MW (bD n c).m
 | 0,_,h=>h
 | n+1,_,h=>qe (n:=n) (fm h)
theorem sH:∀{n:Nat} {c:CS},MW c.m->MW (dI n c).m
 | 0,_,h=>h
 | n+1,_,h=>sH (n:=n) (iQ h uq)
theorem BJ {c:CS}{a:Int}(h:MW c.m):MW (gR c a).m:=by
 unfold gR;split
 ·exact h
 ·exact iQ (c:=⟨c.m,false⟩) h (yg h a)
theorem xT {c:CS}{a:Int}(h:MW c.m):MW (dq c a).m:=by
 have:=fm h;unfold dq;split
 ·exact this
 ·exact BX this (qd h)
theorem DG (n:Int):inI (w32 n):=by have:=rR n;unfold inI;omega
theorem FY (k a b:Int):inI (ey k a b):=by
 unfold ey;repeat' split
 ·exact DG _
 ·exact DG _
 ·exact DG _
 ·unfold inI;omega
 ·exact uq
theorem KT {c:CS}(h:MW c.m):MW (cFp c).m:=⟨(fm h).1,(fm h).2.1,qd h⟩
theorem Hc {c:CS}(h:MW c.m):MW (cPc c).m:=⟨(fm h).1,qd h,(fm h).2.2⟩
theorem JH {c:CS}(h:MW c.m):MW (da c).m:=h
theorem Ay {c:CS}(h:MW c.m)(a:Int):MW (oN c a).m:=⟨h.1,IZ _,h.2.2⟩
theorem Bl {c:CS}(h:MW c.m)(hs:inI c.m.J6)(v:Int):inI (bn c v).m.J6:=by
 unfold bn;split
 ·exact hs
 ·exact IZ _
theorem GW {es:List Int}{c:CS}{x:Mt}(h:MW c.m)(hs:inI c.m.J6)(ha:inI x.K9)(he:∀e∈es,inI e):MW (bP es c x).m:=by
 unfold bP
 refine aU (fun c=>MW c.m) (by
  exact iQ h ha) ?_
 refine aU (fun c=>MW c.m) (by
  exact BJ h) ?_
 refine aU (fun c=>MW c.m) (by
  exact BJ h) ?_
 refine aU (fun c=>MW c.m) (by
  exact xT h) ?_
 refine aU (fun c=>MW c.m) (by
  exact xT h) ?_
 refine aU (fun c=>MW c.m) (by
  exact iQ (fm (fm h)) (FY _ _ _)) ?_
 refine aU (fun c=>MW c.m) (by
  exact Ay h _) ?_
 refine aU (fun c=>MW c.m) (by
  unfold pW;split
  ·exact Ay (fm h) _
  ·exact fm h) ?_
 refine aU (fun c=>MW c.m) (by
  have hp:=iQ h h.2.1;unfold qo;split
  ·rename_i e Oi;exact⟨hp.1,he _ (c9 Oi),hp.2.2⟩
  ·exact hp) ?_
 refine aU (fun c=>MW c.m) (by
  have hp:=iQ h h.2.2
  exact sH (c:=⟨{(bn c c.m.L4).m with L4:=(bn c c.m.L4).m.J6},(bn c c.m.L4).bad⟩) ⟨hp.1,hp.2.1,Bl h hs _⟩) ?_
 refine aU (fun c=>MW c.m) (by
  exact sH h) ?_
 refine aU (fun c=>MW c.m) (by
  exact iQ (qe (Hc (KT (JH (fm h))))) (qd h)) ?_
 refine aU (fun c=>MW c.m) (by
  exact iQ (qe (Hc (qe (fm h)))) (qd h)) ?_
 refine aU (fun c=>MW c.m) (by
  exact fm h) ?_
 exact h
theorem fg {c:CS}{v:Int}:(bn c v).m.MD=c.m.MD:=by unfold bn;split<;>rfl
theorem cPop_out' {c:CS}:(ax c).m.MD=c.m.MD:=by unfold ax;split<;>rfl
theorem cDrop_out:∀{n:Nat} {c:CS},(bD n c).m.MD=c.m.MD
 | 0,_=>rfl
 | n+1,c=>by rw[bD,cDrop_out (n:=n),cPop_out']
theorem pH:∀{n:Nat} {c:CS},(dI n c).m.MD=c.m.MD
 | 0,_=>rfl
 | n+1,c=>by rw[dI,pH (n:=n),fg]
theorem yW {c:CS}{a:Int}:(gR c a).m.MD=c.m.MD:=by
 unfold gR;split
 ·rfl
 ·exact fg
theorem wA {c:CS}{a:Int}:(dq c a).m.MD=c.m.MD:=by
 unfold dq;split
 ·exact cPop_out'
 ·exact cPop_out'
theorem Gf {es:List Int}{c:CS}{x:Mt}:(bP es c x).m.MD.length<=c.m.MD.length+1:=by
 have key:∀l:List Int,l=c.m.MD->l.length<=c.m.MD.length+1:=fun l h=>by rw[h];omega
 unfold bP
 refine aU (fun d=>d.m.MD.length<=c.m.MD.length+1) (by
  exact key _ fg) ?_
 refine aU (fun d=>d.m.MD.length<=c.m.MD.length+1) (by
  exact key _ yW) ?_
 refine aU (fun d=>d.m.MD.length<=c.m.MD.length+1) (by
  exact key _ yW) ?_
 refine aU (fun d=>d.m.MD.length<=c.m.MD.length+1) (by
  exact key _ wA) ?_
 refine aU (fun d=>d.m.MD.length<=c.m.MD.length+1) (by
  exact key _ wA) ?_
 refine aU (fun d=>d.m.MD.length<=c.m.MD.length+1) (by
  exact key _ (by rw[lP,fg,cPop_out',cPop_out'])) ?_
 refine aU (fun d=>d.m.MD.length<=c.m.MD.length+1) (by
  exact key _ rfl) ?_
 refine aU (fun d=>d.m.MD.length<=c.m.MD.length+1) (by
  refine key _ ?_;unfold pW;split
  ·exact cPop_out'
  ·exact cPop_out') ?_
 refine aU (fun d=>d.m.MD.length<=c.m.MD.length+1) (by
  refine key _ ?_;unfold qo;split
  ·exact fg
  ·exact fg) ?_
 refine aU (fun d=>d.m.MD.length<=c.m.MD.length+1) (by
  refine key _ ?_;rw[rG,pH];exact fg) ?_
 refine aU (fun d=>d.m.MD.length<=c.m.MD.length+1) (by
  exact key _ pH) ?_
 refine aU (fun d=>d.m.MD.length<=c.m.MD.length+1) (by
  refine key _ ?_;rw[sl,fg,cDrop_out]
  exact cPop_out'.trans (cPop_out'.trans cPop_out')) ?_
 refine aU (fun d=>d.m.MD.length<=c.m.MD.length+1) (by
  refine key _ ?_;rw[nN,fg,cDrop_out]
  exact cPop_out'.trans (cDrop_out.trans cPop_out')) ?_
 refine aU (fun d=>d.m.MD.length<=c.m.MD.length+1) (by
  show((ax c).m.MD++[lG c]).length<=_;rw[c8,cPop_out']
  simp) ?_
 omega
def fU (s:Mx)(a:Int):Option (Mt×Nat):=if(qO s a).1<0 then none else match s.MT[(qO s a).1.toNat]? with
 | some im=>bB im.J3 (qO s a).2
 | none=>none
def mr (c:CS):Option Mr:=if c.bad=true then none else if c.m.L3=0 then(if bt c.m.J6=true then some {c.m with MC:=1,faG:=aM c.m c.m.J6} else none)else some c.m
def eK (s:Mx)(m:Mr):Option Mr:=match fU s m.L3 with
 | none=>none
 | some x=>mr (bP s.MF (adv ⟨m,false⟩ x.2) x.1)
def yT (s:Mx)(m:Mr):Option Mr:=match fU s m.L3 with
 | none=>none
 | some x=>mr (eX s.MF (adv ⟨m,false⟩ x.2) x.1)
theorem pj {s:Mx}{a:Int}{x:Mt×Nat}(h:fU s a=some x):∃(t:List UInt8) (p:Int),bB t p=some x:=by
 unfold fU at h;split at h
 ·cases h
 ·split at h
  ·exact⟨_,_,h⟩
  ·cases h
theorem Ig {c d:CS}(h:Rel c d):mr c=mr d:=by
 obtain⟨h1,h2⟩:=h
 cases hb:c.bad with
 | true=>rw[mr,mr,c7 hb,c7 (h1▸hb)]
 | false=>
  obtain⟨h3,_⟩:=h2 hb;obtain⟨m,b⟩:=c;obtain⟨m',b'⟩:=d
  dsimp only at *
  subst h3;subst h1;rfl
theorem Kh {s:Mx}{m:Mr}(NY:0<=m.J6/\m.J6<=1200)(Ov:inI m.L4):eK s m=yT s m:=by
 unfold eK yT
 cases h:fU s m.L3 with
 | none=>rfl
 | some x=>obtain⟨t,p,hd⟩:=pj h;obtain⟨x,z⟩:=x;obtain⟨c0,c1,c2,_⟩:=jp hd;exact Ig (CM s.MF {m with L3:=wr (m.L3+z)} x NY Ov c0 c1 c2)
def Mh (m:Mr):Mr:={m with MC:=2}
theorem Gr {i0 i1:Mn}{i:Nat}(hi:i<2)(h0:i0.J3.length<=1000000)(h1:i1.J3.length<=1000000):∃im:Mn,[i0,i1][i]?=some im/\([i0.tr,i1.tr]:List (List Tr))[i]?=some im.tr/\im.J3.length<=1000000:=by match i,hi with|0,_=>exact⟨i0,rfl,rfl,h0⟩|1,_=>exact⟨i1,rfl,rfl,h1⟩
theorem HU {i0 i1:Mn}{b0 b1 a:Int}(h0:i0.J3.length<=1000000)(h1:i1.J3.length<=1000000):(cM i0 i1 b0 b1 a).2<=1000000:=by
 unfold cM;split
 ·dsimp only;omega
 ·split<;>dsimp only<;>omega
theorem ua (i0 i1:Mn)(b0 b1 a:Int)(es:List Int)(Pu:0<=b0/\b0<=1000000)(NP:0<=b1/\b1<=1000000)(l0:i0.J3.length<=1000000)(l1:i1.J3.length<=1000000):Sim.Spec prog 68 [.agg (Mx.mk [i0,i1] [b0,b1] es).tr,tvI a] (rOp (fU ⟨[i0,i1],[b0,b1],es⟩ a)):=by
 have hL:=ij i0 i1 b0 b1 a es Pu NP o_ o_;refine ag hΓ aE func68 rfl d_ rfl ?_;have NR:qO ⟨[i0,i1],[b0,b1],es⟩ a=cM i0 i1 b0 b1 a:=rfl;rcases jB i0 i1 b0 b1 a with hx|⟨i,off,hi,hx⟩
 ·rw[hx]at hL;have hf:fU ⟨[i0,i1],[b0,b1],es⟩ a=none:=by rw[fU,NR,hx];rfl
  rw[hf];repeat' ((conv=>whnf);first|refine Or.inl ?_|apply oi|apply fi|intro h|refine ci hL (ai (ai rfl (ai rfl (ai rfl trivial))) (ai rfl trivial)) ?_|exact Y1|refine e_ rfl ?_)
  all_goals try exact Q5
 ·have OJ:=HU (b0:=b0) (b1:=b1) (a:=a) l0 l1;rw[hx]at hL OJ;dsimp only at OJ;obtain⟨im,Qa,TO,N6⟩:=Gr hi l0 l1;have hD:=mj im.J3 off o_ o_
  have hf:fU ⟨[i0,i1],[b0,b1],es⟩ a=bB im.J3 off:=by rw[fU,NR,hx];dsimp only;rw[b8 o_,d6,Qa]
  rw[hf];repeat' ((conv=>whnf);first|refine Or.inl ?_|apply oi|apply fi|intro h|refine ci hL (ai (ai rfl (ai rfl (ai rfl trivial))) (ai rfl trivial)) ?_|refine⟨i,im.tr,rfl,TO,?_⟩|refine ci hD (ai rfl (ai rfl trivial)) ?_|exact Y1|refine e_ rfl ?_)
  all_goals try(exfalso;have h':=d9 h;omega)
def ke (m:Mr):Option Mr->Mr
 | none=>Mh m
 | some m'=>m'
theorem EF {c:CS}{a v:Int}(h:c.ok):(FV c a v).ok:=by
 unfold FV CS.ok at *
 split
 ·simpa [gT]using h
 ·exact h
theorem Ij {es:List Int}{c:CS}{x:Mt}(h:c.ok):(eX es c x).ok:=by
 unfold eX;refine aU (CS.ok) (fc h) ?_;refine aU (CS.ok) (fc (GQ h)) ?_;refine aU (CS.ok) (fc (GQ h)) ?_;refine aU (CS.ok) (EF (bm h)) ?_;refine aU (CS.ok) (EF (bm h)) ?_;refine aU (CS.ok) h ?_;refine aU (CS.ok) (by unfold AE;split<;>exact bm h) ?_
 refine aU (CS.ok) (by
              unfold BO;split;· exact fc h
              ·exact h) ?_
 refine aU (CS.ok) (rT (fc h)) ?_;refine aU (CS.ok) (rT h) ?_
 refine aU (CS.ok) (by
              unfold wB;split;· exact fc (fC (bm (bm (bm h))))
              ·exact bm h) ?_
 refine aU (CS.ok) (fc (fC (bm (fC (bm h))))) ?_;refine aU (CS.ok) (bm h) ?_;exact fc (bm (bm h))
theorem Q26{p:Prop}(h:p:=by exfalso;simp[Nt]at h;first|done|fail):p:=h
theorem V5{p:Prop}(h:p:=by
 have hW:=jR c c.m.J6 YF;obtain⟨cm,cb⟩:=c;unfold cAt at hW;dsimp only at hW
 cases cb with
 | true=>
  have:r=none:=by rw[<-ND];rfl
  subst this;repeat' ((conv=>whnf);first|refine cg hP ?_|refine aB ?_|apply au|apply oi|apply fi|intro h|refine cl hC ?_|refine cl hF ?_|exact Y1|refine e_ rfl ?_)
  all_goals exact Q24
 | false=>
  by_cases Nt:cm.L3=0
  ·cases hin:bt cm.J6 with
   | false=>
    rw[hin]at hW;have:r=none:=(by rw[<-ND];simp[mr,Nt,hin]);subst this;repeat' ((conv=>whnf);first|refine cg hP ?_|refine cg hW ?_|refine aB ?_|apply au|apply oi|apply fi|intro h|refine cl hC ?_|refine cl hF ?_|exact Y1|refine e_ rfl ?_)
    all_goals try exact Q26
    all_goals exact Q24
   | true=>
    rw[hin]at hW;have:r=some {cm with MC:=1,faG:=ud ⟨cm,false⟩ cm.J6}:=(by rw[<-ND];simp[mr,Nt,hin,ud]);subst this;repeat' ((conv=>whnf);first|refine cg hP ?_|refine cg hW ?_|refine aB ?_|apply au|apply oi|apply fi|intro h|refine cl hC ?_|refine cl hF ?_|exact Y1|refine e_ rfl ?_)
    all_goals try exact Q26
    all_goals exact Q24
  ·have:r=some cm:=(by rw[<-ND];simp[mr,Nt]);subst this;repeat' ((conv=>whnf);first|refine cg hP ?_|refine aB ?_|apply au|apply oi|apply fi|intro h|refine cl hC ?_|refine cl hF ?_|exact Y1|refine e_ rfl ?_)
   all_goals try exact Q26
   all_goals exact⟨⟨rfl,bh _⟩⟩):p:=h
theorem vi (s:Mx)(m:Mr)(M5:bF s=true)(hm:m.MH.length=1200)(ho:m.MD.length<=2000000):Sim.Spec prog 70 [.agg s.tr,.agg m.tr] (.r (.agg ((ke m (yT s m)).tr.map oS))):=by
 obtain⟨i0,i1,b0,b1,OT,⟨e1,e2⟩,⟨g0,p0,p1⟩,⟨g1,q0,q1⟩,_,_⟩:=iJ M5;have l0:=(imageOk_iff.1 g0).1;have l1:=(imageOk_iff.1 g1).1;have hF:=ua i0 i1 b0 b1 m.L3 s.MF o_ o_ l0 l1;have hC:=nn m o_ ho;obtain⟨im,bs,es⟩:=s;dsimp only at OT hF e2;injection OT with h1 h2;subst h1;subst h2;refine ag hΓ aE func70 rfl d_ rfl ?_;obtain⟨r,hr⟩:∃r,yT ⟨[i0,i1],[b0,b1],es⟩ m=r:=⟨_,rfl⟩;rw[hr]
 cases hf:fU ⟨[i0,i1],[b0,b1],es⟩ m.L3 with
 | none=>
  rw[hf]at hF;have:r=none:=by rw[<-hr,yT,hf]
  subst this;repeat' ((conv=>whnf);first|refine aB ?_|apply au|apply oi|apply fi|intro h|refine cl hC ?_|refine cl hF ?_|exact Y1|refine e_ rfl ?_)
  all_goals exact Q24
 | some xz=>
  obtain⟨x,z⟩:=xz;rw[hf]at hF;obtain⟨t,p,hd⟩:=pj hf;obtain⟨c0,c1,_,z5⟩:=jp hd;have ND:mr (eX es (adv ⟨m,false⟩ z) x)=r:=by rw[<-hr,yT,hf]
  by_cases Yr:x.J3=17
  ·have YS:x=⟨17,x.K9⟩:=(by rw[<-Yr]);have hP:=FO ⟨[i0,i1],[b0,b1],es⟩ ⟨m,false⟩ x.K9 z hm ho;rw[<-YS]at hP;have Oy:eX es (adv ⟨m,false⟩ z) x=DM (adv ⟨m,false⟩ z):=(by rw[YS];simp[eX]);rw[Oy]at ND;have YF:(DM (adv ⟨m,false⟩ z)).ok:=bm (c:=adv ⟨m,false⟩ z) hm
   generalize DM (adv ⟨m,false⟩ z)=c at *
   exact V5
  ·have hP:=xy ⟨[i0,i1],[b0,b1],es⟩ ⟨m,false⟩ x z hm Yr c0 c1 g_;have YF:(eX es (adv ⟨m,false⟩ z) x).ok:=Ij hm;dsimp only at hP
   generalize eX es (adv ⟨m,false⟩ z) x=c at *
   exact V5
theorem sy {c:CS}{m':Mr}(h:mr c=some m'):m'.MH=c.m.MH/\m'.MD=c.m.MD/\m'.J6=c.m.J6/\m'.L4=c.m.L4/\m'.L3=c.m.L3/\c.bad=false:=by
 unfold mr at h;split at h
 ·cases h
 ·rename_i hb;have Nf:c.bad=false:=by simpa using hb
  split at h
  ·split at h
   ·injection h with h;subst h;exact⟨rfl,rfl,rfl,rfl,rfl,Nf⟩
   ·cases h
  ·injection h with h;subst h;exact⟨rfl,rfl,rfl,rfl,rfl,Nf⟩
theorem ly {s:Mx}{m m':Mr}(h:eK s m=some m'):∃x,fU s m.L3=some x/\mr (bP s.MF (adv ⟨m,false⟩ x.2) x.1)=some m':=by
 unfold eK at h;split at h
 ·cases h
 ·rename_i x hx;exact⟨x,hx,h⟩
theorem Gh {s:Mx}{m:Mr}(hm:m.MH.length=1200):∀m',eK s m=some m'->m'.MH.length=1200:=by intro m' h;obtain⟨x,_,h2⟩:=ly h;rw[(sy h2).1];exact Is (c:=adv ⟨m,false⟩ x.2) hm
theorem yw {s:Mx}{m:Mr}:∀m',eK s m=some m'->m'.MD.length<=m.MD.length+1:=by intro m' h;obtain⟨x,_,h2⟩:=ly h;rw[(sy h2).2.1];exact Gf (c:=adv ⟨m,false⟩ x.2)
def jC (s:Mx)(m:Mr):Mr:=if bF s=true/\bN m=true/\m.MC=0 then ke m (eK s m)else m
theorem machineOk_iffL {m:Mr}:bN m=true↔m.MH.length=1200/\(0<=m.J6/\m.J6<=1200)/\0<=m.MC/\m.MC<=2:=by rw[bN,b9,b9,within_iff,within_iff,w9];exact⟨fun h=>⟨h.1.1,h.1.2,h.2⟩,fun h=>⟨⟨h.1,h.2.1⟩,h.2.2⟩⟩
theorem CO {m:Mr}(h:az 1048576 m.tr):m.MH.length<=2000000/\m.MD.length<=1048576:=by simp only[Mr.tr,az]at h;have h1:=bi h.2.2.2.1;have h2:=bi h.2.2.2.2.1;omega
def ml (s:Mx):Nat->Mr->Mr×Nat
 | 0,m=>(m,0)
 | k+1,m=>if m.MC=0 then((ml s k (ke m (eK s m))).1,(ml s k (ke m (eK s m))).2+1)else(m,0)
def qU (s:Mx)(m:Mr)(l:Int):Mr×Nat:=if bF s=true/\bN m=true/\af l 0 20000=true then ml s l.toNat m else(m,0)
structure MInv (m:Mr) (n:Nat):Prop where
 len:m.MH.length=1200
 sp:0<=m.J6/\m.J6<=1200
 w:MW m
 out:m.MD.length<=1048576+n
theorem Gp {c:Int}{m:Nat}(h:ba c=(4,true))(hm:m<4294967296):inI (jV c m):=by
 unfold inI;by_cases hb:2^(8*4-1)<=m
 ·have e:jV c m=(m:Int)-2^(8*4):=qm (n:=4) (by rw[h];rfl) (by rw[h]) hb;rw[e];omega
 ·have e:jV c m=(m:Int):=nS (n:=4) (by rw[h];rfl) (fun hh=>hb hh.2);rw[e];omega
theorem xw {s:List UInt8}{p:Int}{x:Mt}{z:Nat}(h:bB s p=some (x,z)):inI x.K9:=by
 obtain⟨h0,h1,h2,_⟩:=jp h;by_cases c1:12<=x.J3/\x.J3<=16
 ·have:=h1 c1.1 c1.2;unfold inI;omega
 by_cases c2:1<=x.J3/\x.J3<=11
 ·have:=h2 c2.1 c2.2;unfold inI;omega
 have c3:x.J3=0\/x.J3=17:=o_;unfold bB at h;split at h
 ·split at h
  ·cases h
  ·injection h with h;injection h with h3 h4;subst h3;dsimp only at c3⊢;rcases c3 with c3|c3
   ·rw[c3];have hl:=fo s (p.toNat+1) 4
    exact Gp d_ (by
                    have:(256:Nat)^4=4294967296:=d_;show aX s (p.toNat+1) 4<4294967296
                    omega)
   ·rw[c3];have hl:=fo s (p.toNat+1) 0;have hl:aX s (p.toNat+1) 0<1:=hl;have e2:jV 17 (aX s (p.toNat+1) 0)=((aX s (p.toNat+1) 0:Nat):Int):=nS (n:=0) d_ (fun hh=>absurd hh.1 d_);show inI (jV 17 (aX s (p.toNat+1) 0));rw[e2];unfold inI;omega
 ·cases h
theorem MInv.step {s:Mx}{m:Mr}{n:Nat}(h:MInv m n)(he:∀e∈s.MF,inI e):MInv (ke m (eK s m)) (n+1):=by
 obtain⟨h1,h2,h3,h4⟩:=h
 cases hr:eK s m with
 | none=>exact⟨h1,h2,h3,by show m.MD.length<=_;omega⟩
 | some m'=>
  obtain⟨x,hf,hx⟩:=ly hr;obtain⟨t,p,hd⟩:=pj hf;obtain⟨x,z⟩:=x;obtain⟨c0,c1,c2,_⟩:=jp hd;have ha:=xw hd;obtain⟨e1,e2,e3,e4,e5,e6⟩:=sy hx;have Ww:=CM s.MF {m with L3:=wr (m.L3+z)} x h2 h3.2.2 c0 c1 c2;have NY:=(Ww.2 e6).2;have hin:MW (bP s.MF (adv ⟨m,false⟩ z) x).m:=GW (c:=adv ⟨m,false⟩ z) ⟨h3.1,IZ _,h3.2.2⟩ (by show inI m.J6;unfold inI;omega) ha he;refine⟨Gh h1 m' hr,?_,?_,?_⟩
  ·show 0<=m'.J6/\m'.J6<=1200;rw[e3];exact NY
  ·show MW m';refine⟨?_,?_,?_⟩
   ·rw[e1];exact hin.1
   ·rw[e5];exact hin.2.1
   ·rw[e4];exact hin.2.2
  ·have:=yw m' hr;show m'.MD.length<=_;omega
theorem oh {s:Mx}{k:Nat}{m:Mr}(h:m.MC≠0\/k=0):ml s k m=(m,0):=by
 cases k with
 | zero=>rfl
 | succ k=>rw[ml,b8 (by
                  rcases h with h|h;· exact h
                  ·cases h)]
theorem zD {s:Mx}{k:Nat}{m:Mr}(h:m.MC=0):ml s (k+1) m=((ml s k (ke m (eK s m))).1,(ml s k (ke m (eK s m))).2+1):=by rw[ml,c7 h]
abbrev Mf:AO:= .box [.t (.int .i64 0),.t (.int .i64 0),.t (.int .i64 0),.nils 0,.nils 0,.t (.int .i64 0),.t (.int .i64 0)]
abbrev Md (s:Mx):AO:= .box (s.tr.map .t)
theorem V44{p:Prop}(h:p:=by
 rw[b8 s_];repeat' ((conv=>whnf);first|refine aB ?_|apply au|apply oi|apply fi|intro h|refine cl hC ?_|refine cl hS ?_|refine cl hM ?_|refine cl hB ?_|exact Y1|refine e_ rfl ?_)
 all_goals try exact Q5
 all_goals exact⟨⟨rfl,bh _⟩⟩):p:=h
theorem ri (s:Mx)(m:Mr)(l:Int)(hs:az 1048576 s.tr)(Zt:az 1048576 m.tr)(hw:MW m)(hsw:∀e∈s.MF,inI e):Sim.Spec prog 18 [.agg s.tr,.agg m.tr,tvI l] (.tup [.agg ((qU s m l).1.tr.map oS),.c (.t (.int .i64 ((qU s m l).2:Int)))]):=by
 have hS:=gJ s hs;have hM:=kL m;have hB:=aJ l 0 20000;obtain⟨k1,k2⟩:=CO Zt;have hC:=nn m k1 o_;refine ag hΓ aE func18 rfl d_ rfl ?_;unfold qU
 cases a1:bF s with
 | false=>
  rw[a1]at hS
  exact V44
 | true=>
  rw[a1]at hS
  cases a2:bN m with
  | false=>
   rw[a2]at hM
   exact V44
  | true=>
   rw[a2]at hM
   cases a3:af l 0 20000 with
   | false=>
    rw[a3]at hB
    exact V44
   | true=>
    rw[a3]at hB;rw[c7 ⟨rfl,rfl,rfl⟩];have hl:=within_iff.1 a3;obtain⟨L,rfl⟩:=gt hl.1;obtain⟨m1,m2,m3⟩:=machineOk_iffL.1 a2;have XL:MInv m 0:=⟨m1,m2,hw,o_⟩;have Sd:∀e∈s.MF,inI e:=hsw;rw[d6];obtain⟨R,hR⟩:∃R,ml s L m=R:=⟨_,rfl⟩;rw[hR];repeat' ((conv=>whnf);first|refine aB ?_|apply au|apply oi|apply fi|intro h|refine cl hC ?_|refine cl hS ?_|refine cl hM ?_|refine cl hB ?_|exact Y1|refine e_ rfl ?_)
    all_goals try exact Q5
    conv=>whnf
    refine⟨{q:Nat×Mr//q.1<=L/\MInv q.2 q.1/\(ml s (L-q.1) q.2).1=R.1/\(ml s (L-q.1) q.2).2+q.1=R.2},fun q=>⟨[(2,tI .i64 (L:Int)),(3,.r (.c (.ptr (3,0,0) 0))),(6,.r (.c (.ptr (6,0,0) 0))),(7,tI .i64 0),(8,.r (.c (.ptr (8,0,0) 0))),(9,tI .i64 (q.1.1:Int))],
     [((3,0,0),some (Md s)),((6,0,0),some Mf),((8,0,0),some (Mg q.1.2 (11,0,3) (11,0,4))),((11,0,3),some (.arr false 1 (q.1.2.MH.map aa))),((11,0,4),some (.arr false 1 (q.1.2.MD.map aa)))],[3,6,8,11]⟩,fun q=>L-q.1.1,⟨(0,m),o_,XL,by simp[hR],by simp[hR]⟩,?_,?_⟩
    ·repeat' ((conv=>whnf);first|refine aB ?_|apply au|apply oi|apply fi|intro h|exact Y1|refine e_ rfl ?_)
    intro⟨⟨n,d⟩,q1,q2,q3,q4⟩;dsimp only at q1 q2 q3 q4⊢;by_cases Xl:d.MC=0/\n<L
    ·obtain⟨g1,g2⟩:=Xl;obtain⟨j,hj⟩:∃j,L-n=j+1:=⟨L-n-1,o_⟩;rw[hj,zD g1]at q3 q4;dsimp only at q3 q4;have Vo:=q2.step Sd;have hT:=vi s d a1 q2.len (by have:=q2.out;omega);rw[<-Kh q2.sp q2.w.2.2]at hT
     generalize ke d (eK s d)=d' at *
     repeat' ((conv=>whnf);first|refine aB ?_|apply au|apply oi|apply fi|intro h|refine cl hT ?_|exact Y1|refine e_ rfl ?_)
     all_goals try(exfalso;simp[g1]at h;done)
     all_goals try exact Q17
     conv=>whnf
     refine⟨⟨(n+1,d'),g_,Vo,by rw[show L-(n+1)=j by omega];exact q3,by rw[show L-(n+1)=j by omega];dsimp only at q4⊢;omega⟩,?_,KD⟩;repeat' ((conv=>whnf);first|refine aB ?_|apply au|apply oi|apply fi|intro h|exact Y1|refine e_ rfl ?_)
     all_goals try(refine⟨congrArg (Tr.int _) ?_⟩;dsimp only;rw[c6 _ o_];omega)
    ·have Nw:ml s (L-n) d=(d,0):=oh (by
                                by_cases h0:d.MC=0;· exact .inr (by have:=fun h=>Xl ⟨h0,h⟩;omega)
                                ·exact .inl h0)
     rw[Nw]at q3 q4;dsimp only at q3 q4;obtain⟨R1,R2⟩:=R;dsimp only at q3 q4;subst q3;subst q4;repeat' ((conv=>whnf);first|refine aB ?_|apply au|apply oi|apply fi|intro h|exact Y1|refine e_ rfl ?_)
     all_goals try(exfalso;apply Xl;refine⟨by simpa using ‹(d.MC==0)=true›,?_⟩;have h':=d9 ‹decide ((n:Int)<(L:Int))=true›;omega)
     all_goals first
      | exact⟨congrArg (Tr.int _) g_⟩
      | exact⟨⟨rfl,bh _⟩⟩
end Go.Proofs.P
namespace Go.Proofs.P
open Go.Sim Tryz
theorem gK {c:CS}{v:Int}:(bn c v).m.MC=c.m.MC:=by unfold bn;split<;>rfl
theorem cPop_st {c:CS}:(ax c).m.MC=c.m.MC:=by unfold ax;split<;>rfl
theorem cDrop_st:∀{n:Nat} {c:CS},(bD n c).m.MC=c.m.MC
 | 0,_=>rfl
 | n+1,c=>by rw[bD,cDrop_st (n:=n),cPop_st]
theorem rJ:∀{n:Nat} {c:CS},(dI n c).m.MC=c.m.MC
 | 0,_=>rfl
 | n+1,c=>by rw[dI,rJ (n:=n),gK]
theorem Ao {c:CS}{a:Int}:(gR c a).m.MC=c.m.MC:=by
 unfold gR;split
 ·rfl
 ·exact gK
theorem yD {c:CS}{a:Int}:(dq c a).m.MC=c.m.MC:=by
 unfold dq;split
 ·exact cPop_st
 ·exact cPop_st
theorem Ic {es:List Int}{c:CS}{x:Mt}:(bP es c x).m.MC=c.m.MC:=by
 unfold bP;refine aU (fun d=>d.m.MC=c.m.MC) gK ?_;refine aU (fun d=>d.m.MC=c.m.MC) Ao ?_;refine aU (fun d=>d.m.MC=c.m.MC) Ao ?_;refine aU (fun d=>d.m.MC=c.m.MC) yD ?_;refine aU (fun d=>d.m.MC=c.m.MC) yD ?_;refine aU (fun d=>d.m.MC=c.m.MC) (by rw[lP,gK,cPop_st,cPop_st]) ?_;refine aU (fun d=>d.m.MC=c.m.MC) rfl ?_
 refine aU (fun d=>d.m.MC=c.m.MC) (by
  unfold pW;split
  ·exact cPop_st
  ·exact cPop_st) ?_
 refine aU (fun d=>d.m.MC=c.m.MC) (by
  unfold qo;split
  ·exact gK
  ·exact gK) ?_
 refine aU (fun d=>d.m.MC=c.m.MC) (by rw[rG,rJ];exact gK) ?_;refine aU (fun d=>d.m.MC=c.m.MC) rJ ?_
 refine aU (fun d=>d.m.MC=c.m.MC) (by
  rw[sl,gK,cDrop_st]
  exact cPop_st.trans (cPop_st.trans cPop_st)) ?_
 refine aU (fun d=>d.m.MC=c.m.MC) (by
  rw[nN,gK,cDrop_st]
  exact cPop_st.trans (cDrop_st.trans cPop_st)) ?_
 refine aU (fun d=>d.m.MC=c.m.MC) (by
  show(ax c).m.MC=_
  exact cPop_st) ?_
 rfl
theorem HM {s:Mx}{m:Mr}(h:af m.MC 0 2=true):af (ke m (eK s m)).MC 0 2=true:=by
 cases hr:eK s m with
 | none=>rfl
 | some m'=>
  obtain⟨x,_,hx⟩:=ly hr;show af m'.MC 0 2=true;unfold mr at hx;split at hx
  ·cases hx
  ·split at hx
   ·split at hx
    ·injection hx with hx;subst hx;rfl
    ·cases hx
   ·injection hx with hx;subst hx;rw[Ic];exact h
structure MOk (m:Mr) (n:Nat):Prop where
 inv:MInv m 0
 st:af m.MC 0 2=true
 out:m.MD.length<=n
theorem CX {s:Mx}{m:Mr}:(ke m (eK s m)).MD.length<=m.MD.length+1:=by cases h:eK s m with|none=>show m.MD.length<=_;omega|some m'=>exact yw m' h
theorem MOk.step {s:Mx}{m:Mr}{n:Nat}(h:MOk m n)(hn:n<=1000000)(he:∀e∈s.MF,inI e):MOk (ke m (eK s m)) (n+1):=by have h1:=h.inv.step (s:=s) he;have h2:=CX (s:=s) (m:=m);have h3:=h.out;exact⟨⟨h1.len,h1.sp,h1.w,o_⟩,HM h.st,o_⟩
theorem MOk.mono {m:Mr}{n k:Nat}(h:MOk m n)(hk:n<=k):MOk m k:=⟨h.inv,h.st,by have:=h.out;omega⟩
theorem MOk.run {s:Mx}(he:∀e∈s.MF,inI e):∀(k:Nat) {m:Mr} {n:Nat},MOk m n->n+k<=1000000->MOk (ml s k m).1 (n+k)
 | 0,m,n,h,_=>h
 | k+1,m,n,h,hn=>by
  by_cases h0:m.MC=0
  ·rw[zD h0];have:=MOk.run he k (h.step o_ he) o_;rw[show n+1+k=n+(k+1) by omega]at this;exact this
  ·rw[oh (.inl h0)];exact h.mono o_
theorem MOk.ok {m:Mr}{n:Nat}(h:MOk m n):bN m=true:=by unfold bN;have h1:=h.inv.len;have h2:=h.inv.sp;rw[h.st,within_iff.2 ⟨h2.1,h2.2⟩,h1];rfl
theorem MOk.small {m:Mr}{n:Nat}(h:MOk m n)(hn:n<=1000000):az 1048576 m.tr:=by have h1:=h.inv.len;have h2:=h.out;simp only[Mr.tr,az];exact⟨by simp[ao],by simp[ao],by simp[ao],lw o_,lw o_,by simp[ao],by simp[ao],trivial⟩
theorem JK {s:Mx}(hs:bF s=true)(he:∀e∈s.MF,inI e):MOk (zJ s) 0:=by
 have hh:inI (s.MF.headD 0):=by cases hx:s.MF with|nil=>show inI 0;unfold inI;omega|cons a l=>exact he a (by rw[hx];simp)
 rw[zJ,c7 hs];refine⟨⟨s_,g_,⟨fun w hw=>?_,hh,by unfold inI;dsimp only;omega⟩,s_⟩,rfl,s_⟩;have:=List.eq_of_mem_replicate hw;rw[this];unfold inI;omega
theorem Ce {s:Mx}(hs:bF s=true){m:Mr}{n:Nat}(h:MOk m n){l:Int}(h0:0<=l)(h1:l<=20000):qU s m l=ml s l.toNat m:=by rw[qU,c7 ⟨hs,h.ok,within_iff.2 ⟨h0,h1⟩⟩]
noncomputable section
section
variable {p:List Mq} {b:Mi} {first second:Int}
def tK (b:Mi)(first second:Int)(f:Nat):Int:=if br b f=1 then second else first
def adr (p:List Mq)(b:Mi)(first second:Int)(f j:Nat):Int:=tK b first second f+atL (bb (aY p b f) (aC p f b)) j
def fR (p:List Mq)(b:Mi):List (List Mw):=[eL (bv p b 0),eL (bv p b 1)]
theorem Lf (h:SpOk p b first second)(f:Nat){off:Int}(h0:0<=off)(h1:off<(ah p b (br b f)).J3.length):qO (aP p b first second) (tK b first second f+off)=(br b f,off)/\1<=tK b first second f/\tK b first second f<=1000000/\(ah p b (br b f)).J3.length<=75000:=by
 have a0:=dZ h.small h.prog h.build (image:=0) d_;have a1:=dZ h.small h.prog h.build (image:=1) d_;have Yy:=h.fb;have YO:=h.sb;have NY:=h.space
 have Nm:cX (ah p b 0) (ah p b 1) first second=false:=by exact V71
 have NR:∀e,qO (aP p b first second) e=cM (ah p b 0) (ah p b 1) first second e:=fun e=>rfl;unfold tK;rcases gz b f with e|e
 ·rw[e]at h1⊢;rw[b8 d_,NR,cM,c7 ⟨o_,o_⟩,show first+off-first=off by omega];exact⟨rfl,o_,o_,a0.2⟩
 ·rw[e]at h1⊢;rw[c7 rfl,NR,cM,b8,c7 ⟨o_,o_⟩,show second+off-second=off by omega]
  ·exact⟨rfl,o_,o_,a1.2⟩
  ·intro hc;unfold cX at Nm;simp only[B1,p9]at Nm;omega
structure AtA (p:List Mq) (b:Mi) (first second:Int) (f j:Nat) (it:Mp):Prop where
 fetch:fU (aP p b first second) (adr p b first second f j)=some ((cT (bb (aY p b f) (aC p f b)) j it).J7,(aH it.J7.J3).toNat)
 next:adr p b first second f (j+1)=adr p b first second f j+aH it.J7.J3
 size:1<=aH it.J7.J3/\aH it.J7.J3<=5
 rng:1<=adr p b first second f j/\adr p b first second f j<=1080000
 rule:∀a,adr p b first second f j<=a->a<adr p b first second f (j+1)->∃r,dg (fR p b) (qO (aP p b first second) a)=some r/\r.MP=it.MR/\r.MG=it.MG
theorem lQ (h:SpOk p b first second){f:Nat}(hf:f<(aA p).length){j:Nat}{it:Mp}(hj:(aC p f b)[j]?=some it):AtA p b first second f j it:=by
 obtain⟨i,x,hx⟩:=pt (b:=b) hf;obtain⟨g1,g2,g3⟩:=hx;have Nm:=gz b f;have h3:af (br b f) 0 1=true:=by rw[within_iff];omega
 have OA:=(kl h.small h.prog h.build o_ g1).1;rw[g2,I9]at OA;have Nw:((ak (ay ((cj p b (br b f) (aA p).length 0 0).take i))).length:Int)=aY p b f:=g3.symm;rw[Nw]at OA;have hy:=eV (at0:=aY p b f) hj;rw[<-OA]at hy;obtain⟨hp,OJ⟩:=fV h.small h.prog h.build g1 hy;have NI:(cT (bb (aY p b f) (aC p f b)) j it).J7.J3=it.J7.J3:=ip _ _ _;have N2:=pM hp.op;have NC:=ew hp.op;dsimp only at N2 NC OJ;rw[NI]at N2 NC
 have PO:∀z∈x.2,dz z.L7.J7.J3 z.L7.J7.K9=true:=fun z hz=>by
  obtain⟨k,hk⟩:=v7.1 hz;exact(fV h.small h.prog h.build g1 hk).1.op
 have U7:(ah p b (br b f)).J3=ak (ay ((imL p b (br b f)).take i))++ak x.2++ak (ay ((imL p b (br b f)).drop (i+1))):=by
  rw[ah,c7 ⟨h.prog,h.build,h3⟩];have e:=sw g1
  rw[show imL p b (br b f)=cj p b (br b f) (aA p).length 0 0 from rfl]at *
  dsimp only;rw[e,aK,aK,<-j9]
 have hd:=tw PO hy (ak (ay ((imL p b (br b f)).take i))) (ak (ay ((imL p b (br b f)).drop (i+1))));rw[<-U7,c8]at hd;dsimp only at hd;rw[NI]at hd
 have UV:(((ak (ay ((imL p b (br b f)).take i))).length+(ak (x.2.take j)).length:Nat):Int)=atL (bb (aY p b f) (aC p f b)) j:=by rw[OJ,Int.natCast_add]
 rw[UV]at hd
 generalize hO:atL (bb (aY p b f) (aC p f b)) j=off at *
 have M0:off+aH it.J7.J3<=((ah p b (br b f)).J3.length:Int):=by rw[U7,c8,c8];have h2:x.2.take (j+1)++x.2.drop (j+1)=x.2:=z4 _ _;have h4:=congrArg (fun l=>(ak l).length) h2;simp only[aK,c8]at h4;rw[dA hy,aK,eb,c8]at h4;dsimp only at h4;omega
 have Sx:0<=off:=o_
 have NO:adr p b first second f (j+1)=adr p b first second f j+aH it.J7.J3:=by unfold adr;rw[gn hj];omega
 have Pw:adr p b first second f j=tK b first second f+off:=by unfold adr;rw[hO]
 have NR:=fun(o:Int) (h0:0<=o) (h1:o<(ah p b (br b f)).J3.length)=>Lf h f h0 h1
 have TW:(aP p b first second).MT[(br b f).toNat]?=some (ah p b (br b f)):=by
  rcases Nm with e|e
  ·rw[e];rfl
  ·rw[e];rfl
 refine⟨?_,NO,N2,?_,fun a h1 h2=>?_⟩
 ·rw[Pw,fU,(NR off Sx o_).1];dsimp only;rw[b8 o_,TW];exact hd
 ·obtain⟨_,q1,q2,q3⟩:=NR off Sx o_;rw[Pw];omega
 ·rw[NO,Pw]at h2;rw[Pw]at h1;obtain⟨o,rfl⟩:∃o,a=tK b first second f+o:=⟨a-tK b first second f,o_⟩;rw[(NR o o_ o_).1];have hPl:bv p b (br b f)=ay (imL p b (br b f)):=by rw[bv,c7 ⟨h.prog,h.build,h3⟩];rfl
  have hk:=BK g1 hy;rw[<-hPl]at hk;obtain⟨q,r,r1,r2,r3,r4,_⟩:=Jw (nc h.small) (Bv h.small) hk (off:=o) g_ (by dsimp only;rw[NI];omega)
  have hr:(fR p b)[(br b f).toNat]?=some (eL (bv p b (br b f))):=by
   rcases Nm with e|e
   ·rw[e];rfl
   ·rw[e];rfl
  refine⟨r,?_,?_,?_⟩
  ·unfold dg;dsimp only;rw[b8 o_,hr];dsimp only;rw[r1,b8 o_,d6];exact r2
  ·rw[r3];unfold cT;split<;>rfl
  ·rw[r4];unfold cT;split<;>rfl
theorem Aw (h:SpOk p b first second){f:Nat}(hf:f<(aA p).length):adr p b first second f 0=cW p b first second f:=by obtain⟨i,im,base,he⟩:=Fb h hf;have Nw:=he.start;have hl:=he.len;have QG:=he.range;have Yy:=h.fb;have YO:=h.sb;rw[adr,gC,cW,c6 _ (by split<;>omega)];rfl
end
end
theorem CK {n:Int}(h:-1000000000<=n/\n<=1000000000):wr n=n:=c6 _ o_
structure Stk (c:CS):Prop where
 len:c.m.MH.length=1200
 lo:0<=c.m.J6
 hi:c.m.J6<=1200
structure Same (c c':CS) (sp lo:Int):Prop where
 sp:c'.m.J6=sp
 fp:c'.m.L4=c.m.L4
 pc:c'.m.L3=c.m.L3
 st:c'.m.MC=c.m.MC
 J2:∀a,lo<=a->aM c'.m a=aM c.m a
theorem Same.trans {a b c:CS}{x y l m:Int}(h:Same a b x l)(h':Same b c y m):Same a c y (max l m):=⟨h'.sp,h'.fp.trans h.fp,h'.pc.trans h.pc,h'.st.trans h.st,fun v hv=>(h'.J2 v o_).trans (h.J2 v o_)⟩
theorem Bb {m:Mr}{a v b:Int}(hl:m.MH.length=1200)(ha:0<=a/\a<=1199)(hb:0<=b):aM (gT m a v) b=if b=a then v else aM m b:=by
 unfold aM gT;dsimp only;by_cases h:b=a
 ·rw[c7 h,h,x7 o_]
 ·rw[b8 h,C8 o_]
theorem ll {c:CS}{v:Int}(hc:Stk c)(h:(bn c v).bad=false):c.bad=false/\1<=c.m.J6/\Stk (bn c v)/\Same c (bn c v) (c.m.J6-1) c.m.J6/\aM (bn c v).m (c.m.J6-1)=v:=by
 have h1:=hc.lo;have h2:=hc.hi;have hw:wr (c.m.J6-1)=c.m.J6-1:=CK o_;unfold bn at h⊢;rw[hw]at h⊢;by_cases hb:(c.bad||!bt (c.m.J6-1))=true
 ·rw[c7 hb]at h;cases h
 ·rw[b8 hb];have Nf:(c.bad||!bt (c.m.J6-1))=false:=by simpa using hb
  rw[v9]at Nf;obtain⟨b1,b2⟩:=Nf;have b2:bt (c.m.J6-1)=true:=by simpa using b2
  rw[inStk_iff]at b2;have O2:∀a,0<=a->aM {gT c.m (c.m.J6-1) v with J6:=c.m.J6-1} a=if a=c.m.J6-1 then v else aM c.m a:=fun a ha=>Bb hc.len b2 ha
  refine⟨b1,o_,⟨by dsimp only[gT];rw[q8];exact hc.len,g_,g_⟩,⟨rfl,rfl,rfl,rfl,fun a ha=>?_⟩,?_⟩
  ·dsimp only;rw[O2 a o_,b8 o_]
  ·dsimp only;rw[O2 _ o_,c7 rfl]
theorem iX {c:CS}(hc:Stk c)(h:(ax c).bad=false):c.bad=false/\c.m.J6<=1199/\Stk (ax c)/\(ax c).m={c.m with J6:=c.m.J6+1}/\lG c=aM c.m c.m.J6:=by
 unfold ax at h⊢;by_cases hb:(c.bad||!bt c.m.J6)=true
 ·rw[c7 hb]at h;cases h
 ·rw[b8 hb];have Nf:(c.bad||!bt c.m.J6)=false:=by simpa using hb
  have NG:=Nf;rw[v9]at Nf;obtain⟨b1,b2⟩:=Nf;have b2:bt c.m.J6=true:=by simpa using b2
  rw[inStk_iff]at b2;refine⟨b1,b2.2,⟨hc.len,by have:=hc.lo;dsimp only;omega,g_⟩,rfl,?_⟩;unfold lG;rw[b8 hb]
theorem BQ {c:CS}(hc:Stk c)(h:(ax c).bad=false)(l:Int):Same c (ax c) (c.m.J6+1) l:=by obtain⟨_,_,_,e,_⟩:=iX hc h;exact⟨by rw[e],by rw[e],by rw[e],by rw[e],fun a _=>by rw[e];rfl⟩
theorem uB:∀(n:Nat) {c:CS},Stk c->(bD n c).bad=false->c.bad=false/\Stk (bD n c)/\(bD n c).m={c.m with J6:=c.m.J6+n}
 | 0,c,hc,h=>⟨h,hc,by simp[bD]⟩
 | n+1,c,hc,h=>by
  rw[bD]at h⊢
  have Pu:(ax c).bad=false:=by
   cases hb:(ax c).bad with
   | false=>rfl
   | true=>
    exfalso
    have:∀(n:Nat) (c:CS),c.bad=true->(bD n c).bad=true:=by
     intro n
     induction n with
     | zero=>intro c hc;exact hc
     | succ n ih=>intro c hc;rw[bD];exact ih _ (by unfold ax;rw[hc];simp)
    rw[this n _ hb]at h;cases h
  obtain⟨p1,p2,p3,p4,_⟩:=iX hc Pu;obtain⟨q1,q2,q3⟩:=uB n p3 h;refine⟨p1,q2,?_⟩;rw[q3,p4];dsimp only;rw[show c.m.J6+1+(n:Int)=c.m.J6+((n+1:Nat):Int) by omega]
theorem sc:∀(n:Nat) (c:CS),c.bad=true->(dI n c).bad=true
 | 0,c,h=>h
 | n+1,c,h=>by rw[dI];exact sc n _ (by unfold bn;rw[h];simp)
theorem vG:∀(n:Nat) {c:CS},Stk c->(dI n c).bad=false->c.bad=false/\Stk (dI n c)/\Same c (dI n c) (c.m.J6-n) c.m.J6
 | 0,c,hc,h=>⟨h,hc,by rw[dI];exact⟨o_,rfl,rfl,rfl,fun _ _=>rfl⟩⟩
 | n+1,c,hc,h=>by
  rw[dI]at h⊢
  have Pu:(bn c 0).bad=false:=by
   cases hb:(bn c 0).bad with
   | false=>rfl
   | true=>rw[sc n _ hb]at h;cases h
  obtain⟨p1,p2,p3,p4,_⟩:=ll hc Pu;obtain⟨q1,q2,q3⟩:=vG n p3 h;have:=p4.trans q3;have e:=p4.sp;refine⟨p1,q2,⟨by rw[this.sp,e];omega,this.fp,this.pc,this.st,fun a ha=>this.J2 a o_⟩⟩
theorem Ch {c:CS}{a:Int}(hc:Stk c)(h:(dq c a).bad=false):c.bad=false/\c.m.J6<=1199/\0<=a/\a<=1199/\Stk (dq c a)/\(dq c a).m.J6=c.m.J6+1/\(dq c a).m.L4=c.m.L4/\(dq c a).m.L3=c.m.L3/\(dq c a).m.MC=c.m.MC/\∀b,0<=b->b≠a->aM (dq c a).m b=aM c.m b:=by
 unfold dq at h⊢;by_cases hb:((ax c).bad||!bt a)=true
 ·rw[c7 hb]at h;cases h
 ·rw[b8 hb];have Nf:((ax c).bad||!bt a)=false:=by simpa using hb
  rw[v9]at Nf;obtain⟨b1,b2⟩:=Nf;have b2:bt a=true:=by simpa using b2
  rw[inStk_iff]at b2;obtain⟨p1,p2,p3,p4,_⟩:=iX hc b1;refine⟨p1,p2,b2.1,b2.2,⟨by dsimp only[gT];rw[q8];exact p3.len,p3.lo,p3.hi⟩,by dsimp only[gT];rw[p4],by dsimp only[gT];rw[p4],by dsimp only[gT];rw[p4],by dsimp only[gT];rw[p4],fun b hb M9=>?_⟩;dsimp only;rw[Bb p3.len b2 hb,b8 M9,p4];rfl
theorem KG {c:CS}{a:Int}(hc:Stk c)(h:(gR c a).bad=false):c.bad=false/\Stk (gR c a)/\Same c (gR c a) (c.m.J6-1) c.m.J6:=by
 unfold gR at h⊢;by_cases hb:(c.bad||!bt a)=true
 ·rw[c7 hb]at h;cases h
 ·rw[b8 hb]at h⊢;have Nf:(c.bad||!bt a)=false:=by simpa using hb
  rw[v9]at Nf;obtain⟨p1,p2,p3,p4,_⟩:=ll (c:=⟨c.m,false⟩) ⟨hc.len,hc.lo,hc.hi⟩ h;exact⟨Nf.1,p3,⟨p4.sp,p4.fp,p4.pc,p4.st,p4.J2⟩⟩
theorem V57{p:Prop}(h:p:=by
 unfold bn at h;by_cases hb:(c.bad||!bt (wr (c.m.J6-1)))=true
 ·rw[c7 hb]at h;cases h
 ·have Nf:(c.bad||!bt (wr (c.m.J6-1)))=false:=by simpa using hb
  rw[v9]at Nf
  exact Nf.1):p:=h
theorem V67{p:Prop}(h:p:=by
 unfold ax at h;by_cases hb:(c.bad||!bt c.m.J6)=true
 ·rw[c7 hb]at h;cases h
 ·have Nf:(c.bad||!bt c.m.J6)=false:=by simpa using hb
  rw[v9]at Nf
  exact Nf.1):p:=h
theorem Iz {c:CS}{k:Int}(hc:Stk c)(h:(lP c k).bad=false):c.bad=false/\Stk (lP c k)/\Same c (lP c k) (c.m.J6+1) (c.m.J6+2):=by
 unfold lP at h⊢
 have Rz:∀{c:CS} {v:Int},(bn c v).bad=false->c.bad=false:=fun{c v} h=>by
  exact V57
 have TT:∀{c:CS},(ax c).bad=false->c.bad=false:=fun{c} h=>by
  exact V67
 have h2:=Rz h;have h1:=TT h2;obtain⟨p1,_,p3,p4,_⟩:=iX hc h1;obtain⟨_,_,q3,q4,_⟩:=iX p3 h2;obtain⟨_,_,r3,r4,_⟩:=ll q3 h;have e:(ax (ax c)).m.J6=c.m.J6+2:=by rw[q4,p4];dsimp only;omega
 refine⟨p1,r3,⟨by rw[r4.sp,e];omega,by rw[r4.fp,q4,p4],by rw[r4.pc,q4,p4],by rw[r4.st,q4,p4],fun a ha=>?_⟩⟩;rw[r4.J2 a o_,q4,p4];rfl
noncomputable section
structure Sy (p:List Mq) (b:Mi) where
 C:Nat->Cx
 ds:Nat->List Int
 ty:∀f,f<(aA p).length->TyF (C f) (aC p f b) (ds f)
 args:∀f g,(aA p)[f]?=some g->(C f).args=argsN (foldIf p b) g
 prog:∀f,f<(aA p).length->(C f).p=foldIf p b
 a4:∀f,f<(aA p).length->0<=(C f).args/\(C f).args<=4
 w:∀f,f<(aA p).length->0<=(C f).J2/\(C f).J2<=1000
theorem LM {p:List Mq}{b:Mi}(hs:ao 1048576 (.lst 4 (p.map Mq.tr)))(h1:aj p=true)(h2:aS b=true):Nonempty (Sy p b):=by
 have key:∀f:Nat,∃(C:Cx) (ds:List Int),f<(aA p).length->TyF C (aC p f b) ds/\(∀g,(aA p)[f]?=some g->C.args=argsN (foldIf p b) g)/\C.p=foldIf p b/\(0<=C.args/\C.args<=4)/\(0<=C.J2/\C.J2<=1000):=fun f=>by
  by_cases hf:f<(aA p).length
  ·obtain⟨g,C,ds,k1,k2,k3,_,k5,k6,k7,k8,k9⟩:=Eh (f:=(f:Int)) hs h1 h2 o_ o_;refine⟨C,ds,fun _=>⟨k9,fun g' Qq=>?_,k2,⟨k5,k6⟩,⟨k7,k8⟩⟩⟩;rw[d6,Qq]at k1;injection k1 with k1;rw[k3,k2,k1]
  ·exact⟨⟨[],b,false,0,0⟩,[],fun h=>absurd h hf⟩
 exact⟨⟨fun f=>Classical.choose (key f),fun f=>Classical.choose (l6 (key f)),fun f hf=>(l6 (l6 (key f)) hf).1,fun f g hg=>(l6 (l6 (key f)) (aI hg)).2.1 g hg,fun f hf=>(l6 (l6 (key f)) hf).2.2.1,fun f hf=>(l6 (l6 (key f)) hf).2.2.2.1,fun f hf=>(l6 (l6 (key f)) hf).2.2.2.2⟩⟩
section
variable {p:List Mq} {b:Mi} {first second:Int} (S:Sy p b)
structure ItA (S:Sy p b) (f j:Nat) (it:Mp) (d:Int):Prop where
 lt:f<(aA p).length
 get:(aC p f b)[j]?=some it
 dep:(S.ds f)[j]?=some d
inductive Cal (first second:Int) (W:Int->Int):Int->Int->Int->Int->List Int->Prop where
 | done {n sp fp:Int}:Cal first second W n 0 sp fp []
 | less {n r sp fp d:Int} {R:List Int} {f j:Nat} {it:Mp} (hi:ItA S f j it d) (hc:it.J7.J3=12) (hn:n=jH (foldIf p b) it.J7.K9) (hr:r=adr p b first second f (j+1)) (hf:(S.C f).K0=false) (h0:0<=sp) (hin:sp+d<1200) (next:Cal first second W (S.C f).args (W (sp+d)) (sp+d+1) fp R):Cal first second W n r sp fp (r::R)
 | fram {n r sp fp d:Int} {R:List Int} {f j:Nat} {it:Mp} (hi:ItA S f j it d) (hc:it.J7.J3=12) (hn:n=jH (foldIf p b) it.J7.K9) (hr:r=adr p b first second f (j+1)) (hf:(S.C f).K0=true) (h0:0<=sp) (Ov:sp+d=fp) (hin:fp+1<1200) (next:Cal first second W (S.C f).args (W (fp+1)) (fp+2) (W fp) R):Cal first second W n r sp fp (r::R)
variable {S}
theorem ItA.op {f j:Nat}{it:Mp}{d:Int}(h:ItA S f j it d):OpTy (S.C f) j it d:=(S.ty f h.lt).item j it d h.get h.dep
theorem ItA.next {f j:Nat}{d:Int}(hf:f<(aA p).length)(h:(S.ds f)[j]?=some d):∃it,ItA S f j it d:=by obtain⟨it,NZ⟩:=ae (l:=aC p f b) (k:=j) (by rw[<-(S.ty f hf).len];exact aI h);exact⟨it,hf,NZ,h⟩
theorem ItA.call {f j:Nat}{it:Mp}{d:Int}(h:ItA S f j it d)(hc:it.J7.J3=12):0<=it.J7.K9/\it.J7.K9.toNat<(aA p).length/\jH (foldIf p b) it.J7.K9=(S.C it.J7.K9.toNat).args/\(S.C f).J2+jH (foldIf p b) it.J7.K9<=d/\0<=jH (foldIf p b) it.J7.K9:=by
 obtain⟨h0,g,hg,hd⟩:=h.op.call hc;rw[S.prog f h.lt]at hg hd;have Qq:(aA p)[it.J7.K9.toNat]?=some g:=by rw[<-mX p b];exact hg
 have ha:jH (foldIf p b) it.J7.K9=argsN (foldIf p b) g:=by rw[jH,hg]
 refine⟨h0,aI Qq,?_,o_,o_⟩;rw[ha,S.args _ g Qq]
theorem Cal.agree {W W':Int->Int}:∀{n r sp fp:Int} {R:List Int},Cal S first second W n r sp fp R->(∀a,sp+n<=a->W' a=W a)->Cal S first second W' n r sp fp R:=by
 intro n r sp fp R h
 induction h with
 | done=>intro _;exact .done
 | @less n r sp fp d R f j it hi hc hn hr hf h0 hin next ih=>
  intro hw;obtain⟨_,_,c3,c4,c5⟩:=hi.call hc;have Ow:=S.w f hi.lt;have ha:=S.a4 f hi.lt;have e:=hw (sp+d) o_;refine .less hi hc hn hr hf h0 hin ?_;rw[e]
  exact ih fun a ha=>hw a o_
 | @fram n r sp fp d R f j it hi hc hn hr hf h0 Ov hin next ih=>intro hw;obtain⟨_,_,c3,c4,c5⟩:=hi.call hc;have Ow:=S.w f hi.lt;have ha:=S.a4 f hi.lt;refine .fram hi hc hn hr hf h0 Ov hin ?_;rw[hw fp o_,hw (fp+1) o_];exact ih fun a ha=>hw a o_
def Body (S:Sy p b)(first second:Int)(W:Int->Int)(f i:Nat)(d sp fp:Int)(R:List Int):Prop:=
 0<=sp/\(if(S.C f).K0=true/\0<i then sp+d=fp/\fp+1<1200/\Cal S first second W (S.C f).args (W (fp+1)) (fp+2) (W fp) R
  else sp+d<1200/\Cal S first second W (S.C f).args (W (sp+d)) (sp+d+1) fp R)
theorem Body.agree {W W':Int->Int}{f i i':Nat}{d d' sp Pq fp:Int}{R:List Int}(h:Body S first second W f i d sp fp R)(h0:0<=Pq)(hs:Pq+d'=sp+d)(hi:(S.C f).K0=true->(0<i↔0<i'))
  (hw:∀a,sp+d<=a->(a<sp+d+1\/((S.C f).K0=true/\a<sp+d+2)\/sp+d+1+(S.C f).args<=a)->((S.C f).K0=true->0<i->sp+d+2<=a->sp+d+2+(S.C f).args<=a)->W' a=W a) (ha:0<=(S.C f).args):Body S first second W' f i' d' Pq fp R:=by
 obtain⟨_,h⟩:=h;refine⟨h0,?_⟩;by_cases hf:(S.C f).K0=true/\0<i
 ·rw[c7 hf]at h;rw[c7 ⟨hf.1,(hi hf.1).1 hf.2⟩];obtain⟨h1,h2,h3⟩:=h;refine⟨o_,h2,?_⟩;rw[hw fp o_ o_ (fun _ _ h=>o_),hw (fp+1) o_ (.inr (.inl ⟨hf.1,o_⟩)) (fun _ _ h=>o_)];exact h3.agree fun a ha=>hw a o_ (.inr (.inr o_)) (fun _ _ _=>o_)
 ·rw[b8 hf]at h;rw[b8 (fun hc=>hf ⟨hc.1,(hi hc.1).2 hc.2⟩)];obtain⟨h1,h2⟩:=h;refine⟨o_,?_⟩;rw[hs,hw (sp+d) o_ (.inl o_) (fun k1 k2=>absurd ⟨k1,k2⟩ hf)];exact h2.agree fun a ha=>hw a o_ (.inr (.inr o_)) (fun k1 k2=>absurd ⟨k1,k2⟩ hf)
def Cur (S:Sy p b)(first second:Int)(m:Mr)(R:List Int):Prop:=
 ∃(f i:Nat) (it:Mp) (d:Int),ItA S f i it d/\m.L3=adr p b first second f i/\Body S first second (aM m) f i d m.J6 m.L4 R
theorem Cal.back {W:Int->Int}{n r sp fp:Int}{R:List Int}(h:Cal S first second W n r sp fp R)(hr:r≠0):∃(f j:Nat) (it:Mp) (d:Int) (R':List Int),R=r::R'/\ItA S f j it d/\it.J7.J3=12/\n=jH (foldIf p b) it.J7.K9/\r=adr p b first second f (j+1)/\Body S first second W f j d sp fp R':=by
 cases h with
 | done=>exact absurd rfl hr
 | less hi hc hn Qc hf h0 hin next=>exact⟨_,_,_,_,_,rfl,hi,hc,hn,Qc,h0,by rw[b8 (by rw[hf];simp)];exact⟨hin,next⟩⟩
 | fram hi hc hn Qc hf h0 Ov hin next=>
  rename_i d R f j it
  have hj:0<j:=by
   rcases v4 j with h|h
   ·have:=(hi.op.head h).1;rw[c7 hf]at this;omega
   ·exact h
  exact⟨_,_,_,_,_,rfl,hi,hc,hn,Qc,h0,by rw[c7 ⟨hf,hj⟩];exact⟨Ov,hin,next⟩⟩
end
end
noncomputable section
section
variable {p:List Mq} {b:Mi} {first second:Int} {S:Sy p b}
def kO (p:List Mq)(b:Mi)(first second:Int)(f i:Nat)(it:Mp)(R:List Int):List Int:=
 if it.J7.J3=12 then adr p b first second f (i+1)::R else if it.J7.J3=14\/it.J7.J3=16 then R.tail else R
theorem di {f i:Nat}{it:Mp}{R:List Int}(RY:it.J7.J3≠12)(YE:it.J7.J3≠14)(Zi:it.J7.J3≠16):kO p b first second f i it R=R:=by unfold kO;rw[b8 RY,b8 o_]
theorem kr {m:Mr}{f i:Nat}{d:Int}{R:List Int}(hf:f<(aA p).length)(hd:(S.ds f)[i]?=some d)(Nt:m.L3=adr p b first second f i)(hB:Body S first second (aM m) f i d m.J6 m.L4 R):Cur S first second m R:=by obtain⟨it,NZ⟩:=ItA.next hf hd;exact⟨f,i,it,d,NZ,Nt,hB⟩
theorem la {c c':CS}{f i i':Nat}{it:Mp}{d d' sp lo:Int}{R:List Int}(hI:ItA S f i it d)(hB:Body S first second (aM c.m) f i d c.m.J6 c.m.L4 R)(hS:Same c c' sp lo)(h0:0<=sp)(PW:lo<=c.m.J6+d)(hd:(S.ds f)[i']?=some d')(he:sp+d'=c.m.J6+d)(hi:(S.C f).K0=true->(0<i↔0<i'))(Nt:c'.m.L3=adr p b first second f i'):Cur S first second c'.m R:=by refine kr hI.lt hd Nt ?_;rw[hS.sp,hS.fp];exact hB.agree h0 he hi (fun a ha _ _=>hS.J2 a o_) (S.a4 f hI.lt).1
theorem DU {es:List Int}{c:CS}{o:Mt}(h:5<=o.J3/\o.J3<=9):bP es c o=lP c (o.J3-3):=by unfold bP;rw[b8 o_,b8 o_,b8 o_,b8 o_,b8 o_,c7 h]
theorem V50{p:Prop}(h:p:=by
 obtain⟨_,q3,q4⟩:=KG hc hb;rw[di o_ o_ o_];have hi:=Ny o_ o_;refine .inr (la hI hB q4 (by have:=q3.lo;rw[q4.sp]at this;exact this) o_ (fall aad) ?_ (iff1 hi o_) (by rw[q4.pc];exact Nt));unfold gM;rw[c7 o_]
 omega):p:=h
theorem Hh (h:SpOk p b first second){c:CS}{R:List Int}{f i:Nat}{it:Mp}{d:Int}(hI:ItA S f i it d)(Nt:c.m.L3=adr p b first second f (i+1))(hB:Body S first second (aM c.m) f i d c.m.J6 c.m.L4 R)(hc:Stk c)
  (hb:(bP (aP p b first second).MF c (cT (bb (aY p b f) (aC p f b)) i it).J7).bad=false):
  (bP (aP p b first second).MF c (cT (bb (aY p b f) (aC p f b)) i it).J7).m.L3=0\/Cur S first second (bP (aP p b first second).MF c (cT (bb (aY p b f) (aC p f b)) i it).J7).m (kO p b first second f i it R):=by
 have M1:=hI.op;have PX:=S.ty f hI.lt;have hw:=S.w f hI.lt;have ha:=S.a4 f hI.lt;have TA:=ip (bb (aY p b f) (aC p f b)) i it
 have Tc:it.J7.J3≠10->it.J7.J3≠11->(cT (bb (aY p b f) (aC p f b)) i it).J7.K9=it.J7.K9:=fun h1 h2=>by
  unfold cT;rw[b8 (by rw[isJump_iff];omega)]
 have WF:it.J7.J3=10\/it.J7.J3=11->(cT (bb (aY p b f) (aC p f b)) i it).J7.K9=adr p b first second f it.J7.K9.toNat-adr p b first second f (i+1):=fun h1=>by
  unfold cT;rw[c7 (isJump_iff.2 h1)];show atL _ _-atL _ _=_;unfold adr;omega
 generalize(cT (bb (aY p b f) (aC p f b)) i it).J7=o at *
 have hB0:=hB.1;have WP:=hc.hi
 have Ny:it.J7.J3≠13->it.J7.J3≠15->0<i:=fun h1 h2=>by
  rcases v4 i with e|e
  ·have:=(M1.head e).1;split at this<;>omega
  ·exact e
 have Rn:0<=d:=by
  rcases v4 i with e|e
  ·have:=M1.lo.1 e;omega
  ·have:=M1.lo.2 e;omega
 have fall:=fun(hf:eP it.J7.J3)=>PX.fall i it d hI.get hI.dep hf;have iff1:∀{i':Nat},0<i->0<i'->((S.C f).K0=true->(0<i↔0<i')):=fun a b _=>⟨fun _=>b,fun _=>a⟩
 have spd:c.m.J6+d<1200:=by obtain⟨_,hB⟩:=hB;split at hB<;>omega
 have NI:0<=o.J3/\o.J3<=17:=by
  have h1:=(lQ h hI.lt hI.get).size;rw[TA];by_cases hr:af it.J7.J3 0 17=true
  ·exact within_iff.1 hr
  ·unfold aH at h1;rw[b8 hr]at h1;omega
 by_cases c0:o.J3=0
 ·rw[show bP (aP p b first second).MF c o=bn c o.K9 by unfold bP;rw[c7 c0]]at hb⊢;obtain⟨_,_,q3,q4,_⟩:=ll hc hb;rw[di o_ o_ o_];have hi:=Ny o_ o_;refine .inr (la hI hB q4 (by have:=q3.lo;rw[q4.sp]at this;exact this) o_ (fall aad) ?_ (iff1 hi o_) (by rw[q4.pc];exact Nt));unfold gM;rw[c7 o_];omega
 by_cases c1:o.J3=1
 ·rw[show bP (aP p b first second).MF c o=gR c (wr (c.m.L4+o.K9)) by unfold bP;rw[b8 o_,c7 c1]]at hb⊢;exact V50
 by_cases c3:o.J3=3
 ·rw[show bP (aP p b first second).MF c o=gR c (wr (c.m.J6+o.K9)) by unfold bP;rw[b8 o_,b8 o_,c7 c3]]at hb⊢;exact V50
 have down:∀{x:Mt},x.J3=it.J7.J3->(x.J3=2\/x.J3=4\/(5<=x.J3/\x.J3<=9)\/x.J3=11\/x.J3=17)->gM (S.C f) it.J7 d=d-1:=fun{x} e hx=>by
  unfold gM;rw[b8 o_,c7 o_]
 by_cases c2:o.J3=2
 ·rw[show bP (aP p b first second).MF c o=dq c (wr (c.m.L4+o.K9)) by unfold bP;rw[b8 o_,b8 o_,b8 o_,c7 c2]]at hb⊢;obtain⟨_,s2,s3,s4,s5,s6,s7,s8,_,s10⟩:=Ch hc hb;rw[di o_ o_ o_];have hi:=Ny o_ o_;obtain⟨hdw,Nw⟩:=M1.st o_;obtain⟨_,NF,QG⟩|⟨e4,_⟩:=Nw
  ·have Tq:=hB;obtain⟨_,Tq⟩:=Tq;rw[c7 ⟨NF,hi⟩]at Tq;have e:=Tc o_ o_;have Ve:wr (c.m.L4+o.K9)=c.m.L4+o.K9:=CK o_;rw[Ve]at s3 s4 s10⊢;rw[Ve]at s5 s6 s7 s8;refine .inr (kr hI.lt (fall aad) (by rw[s8];exact Nt) ?_);rw[s6,s7,down TA o_]
   exact hB.agree o_ o_ (iff1 hi o_) (fun a h1 h2 h3=>s10 a o_ (by
    intro hx;rcases QG with hr|hr
    ·omega
    ·have:=h3 NF hi o_
     omega)) ha.1
  ·omega
 by_cases c4:o.J3=4
 ·rw[show bP (aP p b first second).MF c o=dq c (wr (c.m.J6+o.K9)) by unfold bP;rw[b8 o_,b8 o_,b8 o_,b8 o_,c7 c4]]at hb⊢;obtain⟨_,s2,s3,s4,s5,s6,s7,s8,_,s10⟩:=Ch hc hb;rw[di o_ o_ o_];have hi:=Ny o_ o_;obtain⟨hdw,Nw⟩:=M1.st o_;obtain⟨e2,_⟩|⟨_,NF,QG⟩:=Nw
  ·omega
  ·have e:=Tc o_ o_;have Ve:wr (c.m.J6+o.K9)=c.m.J6+o.K9:=CK o_;rw[Ve]at s3 s4 s10⊢;rw[Ve]at s5 s6 s7 s8;refine .inr (kr hI.lt (fall aad) (by rw[s8];exact Nt) ?_);rw[s6,s7,down TA o_]
   exact hB.agree o_ o_ (iff1 hi o_) (fun a h1 h2 h3=>s10 a o_ (by
    intro hx;rcases h2 with h2|h2|h2
    ·omega
    ·rw[NF]at h2;exact absurd h2.1 s_
    ·omega)) ha.1
 by_cases c5:5<=o.J3/\o.J3<=9
 ·rw[DU c5]at hb⊢;obtain⟨_,q3,q4⟩:=Iz hc hb;rw[di o_ o_ o_];have hi:=Ny o_ o_;have:=M1.ar o_;refine .inr (la hI hB q4 o_ o_ (fall aad) ?_ (iff1 hi o_) (by rw[q4.pc];exact Nt));rw[down TA o_];omega
 have jmp:isJ it.J7.J3->1<=it.J7.K9/\(S.ds f)[it.J7.K9.toNat]?=some (xq it.J7.J3 d)/\wr (adr p b first second f (i+1)+o.K9)=adr p b first second f it.J7.K9.toNat:=fun hj=>by
  obtain⟨j1,j2⟩:=PX.jump i it d hI.get hI.dep hj;obtain⟨Oh,Ql⟩:=ItA.next hI.lt j2;have hr:=(lQ h Ql.lt Ql.get).rng;refine⟨j1,j2,?_⟩;rw[WF (by unfold isJ at hj;omega),CK o_];omega
 by_cases c10:o.J3=10
 ·rw[show bP (aP p b first second).MF c o=oN c o.K9 by unfold bP;rw[b8 o_,b8 o_,b8 o_,b8 o_,b8 o_,b8 o_,c7 c10]]at hb⊢;rw[di o_ o_ o_];have hi:=Ny o_ o_;obtain⟨j1,j2,j3⟩:=jmp aan;refine .inr (kr hI.lt j2 (by show wr (c.m.L3+o.K9)=_;rw[Nt];exact j3) ?_);have:xq it.J7.J3 d=d:=by unfold xq;rw[b8 o_]
  rw[this];exact hB.agree hB0 rfl (iff1 hi o_) (fun _ _ _ _=>rfl) ha.1
 by_cases c11:o.J3=11
 ·rw[show bP (aP p b first second).MF c o=pW c o.K9 by unfold bP;rw[b8 o_,b8 o_,b8 o_,b8 o_,b8 o_,b8 o_,b8 o_,c7 c11]]at hb⊢;rw[di o_ o_ o_];have hi:=Ny o_ o_;have h1:=M1.one o_
  have Rz:(ax c).bad=false:=by
   unfold pW at hb;split at hb
   ·exact hb
   ·exact hb
  obtain⟨_,_,p3,p4,_⟩:=iX hc Rz;have hS:=BQ hc Rz 0;unfold pW;split
  ·obtain⟨j1,j2,j3⟩:=jmp aan;have:xq it.J7.J3 d=d-1:=(by unfold xq;rw[c7 o_]);rw[this]at j2;refine .inr (kr hI.lt j2 (by show wr ((ax c).m.L3+o.K9)=_;rw[hS.pc,Nt];exact j3) ?_);show Body S first second (aM (ax c).m) f _ (d-1) (ax c).m.J6 (ax c).m.L4 R;rw[hS.sp,hS.fp];exact hB.agree o_ o_ (iff1 hi o_) (fun a _ _ _=>hS.J2 a o_) ha.1
  ·refine .inr (la hI hB hS o_ o_ (fall aad) ?_ (iff1 hi o_) (by rw[hS.pc];exact Nt));rw[down TA o_];omega
 by_cases c12:o.J3=12
 ·rw[show bP (aP p b first second).MF c o=qo (bn c c.m.L3) (aP p b first second).MF o.K9 by unfold bP;rw[b8 o_,b8 o_,b8 o_,b8 o_,b8 o_,b8 o_,b8 o_,b8 o_,c7 c12]]at hb⊢;have hi:=Ny o_ o_;obtain⟨k1,k2,k3,k4,k5⟩:=hI.call o_;have e:=Tc o_ o_
  have cq:(aP p b first second).MF[o.K9.toNat]?=some (adr p b first second o.K9.toNat 0):=by rw[Aw h (by rw[e];exact k2)];exact mV (by rw[e];exact k2)
  have hg:qo (bn c c.m.L3) (aP p b first second).MF o.K9=⟨{(bn c c.m.L3).m with L3:=adr p b first second o.K9.toNat 0},(bn c c.m.L3).bad⟩:=by unfold qo;rw[cq]
  rw[hg]at hb⊢;obtain⟨_,q2,q3,q4,q5⟩:=ll hc hb
  have WQ:(S.ds o.K9.toNat)[0]?=some 0:=by have RS:=S.ty o.K9.toNat (by rw[e];exact k2);obtain⟨d',Oo⟩:=ae (l:=S.ds o.K9.toNat) (k:=0) (by rw[RS.len];exact RS.pos);obtain⟨Oh,Ql⟩:=ae RS.pos;have:=(RS.item 0 Oh d' Ql Oo).lo.1 rfl;rw[Oo,this]
  refine .inr (kr (i:=0) (by rw[e];exact k2) WQ rfl ?_);show Body S first second (aM (bn c c.m.L3).m) o.K9.toNat 0 0 (bn c c.m.L3).m.J6 (bn c c.m.L3).m.L4 (kO p b first second f i it R);have hn:kO p b first second f i it R=adr p b first second f (i+1)::R:=by unfold kO;rw[c7 o_]
  rw[hn,<-Nt];refine⟨by rw[q4.sp];omega,?_⟩;rw[b8 o_,q4.sp,q4.fp,Int.add_zero,q5];refine⟨o_,?_⟩;rw[show c.m.J6-1+1=c.m.J6 by omega];have OR:(S.C o.K9.toNat).args=jH (foldIf p b) it.J7.K9:=by rw[e];exact k3.symm
  have Ry:∀a,c.m.J6+d<=a->aM (bn c c.m.L3).m a=aM c.m a:=fun a h1=>q4.J2 a o_;obtain⟨_,hB⟩:=hB;by_cases NF:(S.C f).K0=true
  ·rw[c7 ⟨NF,hi⟩]at hB;obtain⟨b1,b2,b3⟩:=hB;refine .fram hI o_ OR Nt NF o_ b1 b2 ?_;rw[Ry _ o_,Ry _ o_];exact b3.agree fun a h1=>Ry a o_
  ·rw[b8 (fun hx=>NF hx.1)]at hB;obtain⟨b1,b2⟩:=hB;refine .less hI o_ OR Nt (by simpa using NF) o_ b1 ?_;rw[Ry _ o_];exact b2.agree fun a h1=>Ry a o_
 have Rz:∀{c:CS} {v:Int},(bn c v).bad=false->c.bad=false:=fun{c v} h=>by
  exact V57
 have TT:∀{c:CS},(ax c).bad=false->c.bad=false:=fun{c} h=>by
  exact V67
 have XT:∀(n:Nat) {c:CS},(bD n c).bad=false->c.bad=false:=fun n=>by
  induction n with
  | zero=>intro c h;exact h
  | succ n ih=>intro c h;exact TT (ih h)
 by_cases c13:o.J3=13
 ·rw[show bP (aP p b first second).MF c o=rG c o.K9.toNat by unfold bP;rw[b8 o_,b8 o_,b8 o_,b8 o_,b8 o_,b8 o_,b8 o_,b8 o_,b8 o_,c7 c13]]at hb⊢;have hi:=M1.ent13 o_;subst hi;obtain⟨YI,hh2⟩:=M1.head rfl;have TF:=M1.lo.1 rfl;subst TF
  have NF:(S.C f).K0=true:=by cases hx:(S.C f).K0 with|true=>rfl|false=>rw[hx]at YI;simp at YI;omega
  have e:=Tc o_ o_;rw[di o_ o_ o_];obtain⟨X,Tp⟩:∃X:CS,X=⟨{(bn c c.m.L4).m with L4:=(bn c c.m.L4).m.J6},(bn c c.m.L4).bad⟩:=⟨_,rfl⟩;have hcE:rG c o.K9.toNat=dI o.K9.toNat X:=by rw[Tp];rfl
  rw[hcE]at hb⊢;have hXb:X.bad=(bn c c.m.L4).bad:=by rw[Tp]
  have hz:∀(n:Nat) {c:CS},(dI n c).bad=false->c.bad=false:=fun n=>by
   intro c h
   cases hx:c.bad with
   | false=>rfl
   | true=>rw[sc n c hx]at h;cases h
  have NP:(bn c c.m.L4).bad=false:=by rw[<-hXb];exact hz _ hb
  obtain⟨_,q2,q3,q4,q5⟩:=ll hc NP;have hSt:Stk X:=by rw[Tp];exact⟨q3.len,q3.lo,q3.hi⟩
  have x1:X.m.J6=c.m.J6-1:=by rw[Tp];exact q4.sp
  have x2:X.m.L4=c.m.J6-1:=by rw[Tp];exact q4.sp
  have x3:X.m.L3=c.m.L3:=by rw[Tp];exact q4.pc
  have x4:∀a,aM X.m a=aM (bn c c.m.L4).m a:=fun a=>by rw[Tp];rfl
  obtain⟨_,z2,z3⟩:=vG o.K9.toNat hSt hb
  have Zo:(S.ds f)[1]?=some (S.C f).J2:=by have:=fall aad;rw[pi (C:=S.C f) (c:=it.J7.J3) (a:=it.J7.K9) o_,hh2,I9]at this;exact this
  have e2:(o.K9.toNat:Int)=(S.C f).J2:=o_;refine .inr (kr (i:=1) hI.lt Zo (by rw[z3.pc,x3];exact Nt) ?_);have zsp:=z3.sp;have zlo:=z2.lo;rw[z3.fp,x2];rw[x1]at zsp;obtain⟨_,hB⟩:=hB;rw[b8 o_,Int.add_zero]at hB;obtain⟨b1,b2⟩:=hB;refine⟨zlo,?_⟩;rw[c7 ⟨NF,o_⟩];refine⟨o_,o_,?_⟩;have O2:∀a,c.m.J6-1<=a->aM (dI o.K9.toNat X).m a=aM (bn c c.m.L4).m a:=fun a h1=>by rw[z3.J2 a o_,x4]
  rw[O2 _ o_,O2 _ o_,q5,q4.J2 _ o_,show c.m.J6-1+1=c.m.J6 by omega,show c.m.J6-1+2=c.m.J6+1 by omega];exact b2.agree fun a h1=>by rw[O2 _ o_,q4.J2 _ o_]
 by_cases c15:o.J3=15
 ·rw[show bP (aP p b first second).MF c o=dI o.K9.toNat c by unfold bP;rw[b8 o_,b8 o_,b8 o_,b8 o_,b8 o_,b8 o_,b8 o_,b8 o_,b8 o_,b8 o_,c7 c15]]at hb⊢;have e:=Tc o_ o_;rw[di o_ o_ o_];obtain⟨_,z2,z3⟩:=vG o.K9.toNat hc hb;have zlo:=z2.lo;have zsp:=z3.sp;have hf:=fall aad;rw[pi (C:=S.C f) (c:=it.J7.J3) (a:=it.J7.K9) o_]at hf
  have hA:0<=it.J7.K9/\((S.C f).K0=true->(0<i↔0<i+1)):=by
   rcases v4 i with h0|h0
   ·obtain⟨g1,g2⟩:=M1.head h0;refine⟨o_,fun NF=>?_⟩;rw[c7 NF]at g1;omega
   ·have:=M1.sp o_ h0;exact⟨o_,fun _=>o_⟩
  exact .inr (la hI hB z3 o_ o_ hf o_ hA.2 (by rw[z3.pc];exact Nt))
 have back:∀{v sp fp r:Int} {W:Int->Int} {cc:CS},Cal S first second (aM c.m) (S.C f).args r sp fp R->Stk cc->(bn cc v).bad=false->cc.m.J6=sp+(S.C f).args->cc.m.L4=fp->cc.m.L3=r->0<=sp->(∀a,sp<=a->aM cc.m a=aM c.m a)->(bn cc v).m.L3=0\/Cur S first second (bn cc v).m R.tail:=fun{v sp fp r W cc} hcal Nw Pg e1 e2 e3 NY O2=>by
  obtain⟨_,q2,q3,q4,q5⟩:=ll Nw Pg;by_cases hr:r=0
  ·exact .inl (by rw[q4.pc,e3,hr])
  ·obtain⟨f',j,Oh,d',R',r1,r2,r3,r4,r5,r6⟩:=hcal.back hr;rw[r1,List.tail_cons];obtain⟨_,_,_,k4,k5⟩:=r2.call r3;have Xm:=S.w f' r2.lt
   have hj:0<j:=by
    rcases v4 j with h0|h0
    ·have:=(r2.op.head h0).1;split at this<;>omega
    ·exact h0
   have Oo:=(S.ty f' r2.lt).fall j Oh d' r2.get r2.dep aad
   have XO:gM (S.C f') Oh.J7 d'=d'-(S.C f).args+1:=by unfold gM;rw[b8 o_,b8 o_,c7 r3,S.prog f' r2.lt,<-r4]
   rw[XO]at Oo;refine .inr (kr r2.lt Oo (by rw[q4.pc,e3,r5]) ?_);rw[q4.sp,q4.fp,e1,e2];exact r6.agree (by have:=q3.lo;rw[q4.sp,e1]at this;omega) o_ (fun _=>⟨fun _=>o_,fun _=>hj⟩) (fun a h1 _ _=>by rw[q4.J2 a o_,O2 a o_]) (S.a4 f' r2.lt).1
 by_cases c14:o.J3=14
 ·rw[show bP (aP p b first second).MF c o=sl c o.K9.toNat by unfold bP;rw[b8 o_,b8 o_,b8 o_,b8 o_,b8 o_,b8 o_,b8 o_,b8 o_,b8 o_,b8 o_,b8 o_,c7 c14]]at hb⊢;have e:=Tc o_ o_;have hi:=Ny o_ o_;obtain⟨NF,l2,l3⟩:=M1.leave o_;have hn:kO p b first second f i it R=R.tail:=by unfold kO;rw[b8 o_,c7 o_]
  rw[hn];obtain⟨_,hB⟩:=hB;rw[c7 ⟨NF,hi⟩]at hB;obtain⟨b1,b2,b3⟩:=hB;unfold sl at hb⊢;have NP:=Rz hb;have NG:=XT _ NP;have RQ:(ax (cFp (da (ax c)))).bad=false:=NG;have Vh:(ax (da (ax c))).bad=false:=TT (c:=cFp (da (ax c))) RQ;have WL:(ax c).bad=false:=TT (c:=da (ax c)) Vh;obtain⟨_,_,p3,p4,_⟩:=iX hc WL;have Ng:Stk (da (ax c)):=⟨p3.len,by show 0<=(ax c).m.L4;rw[p4];dsimp only;omega,by show(ax c).m.L4<=1200;rw[p4];dsimp only;omega⟩;obtain⟨_,_,x3,x4,x5⟩:=iX Ng Vh;have Ov:Stk (cFp (da (ax c))):=⟨x3.len,x3.lo,x3.hi⟩;obtain⟨_,_,y3,y4,y5⟩:=iX Ov RQ;have S1:Stk (cPc (cFp (da (ax c)))):=⟨y3.len,y3.lo,y3.hi⟩;obtain⟨_,z2,z3⟩:=uB o.K9.toNat S1 NP;have s1:(da (ax c)).m.J6=c.m.L4:=by show(ax c).m.L4=_;rw[p4]
  have w1:∀a,aM (da (ax c)).m a=aM c.m a:=fun a=>by show aM (ax c).m a=_;rw[p4];rfl
  have s2:(cFp (da (ax c))).m.J6=c.m.L4+1:=by show(ax (da (ax c))).m.J6=_;rw[x4];dsimp only;rw[s1]
  have w2:∀a,aM (cFp (da (ax c))).m a=aM c.m a:=fun a=>by
   show aM (ax (da (ax c))).m a=_;rw[x4];exact w1 a
  have f2:(cFp (da (ax c))).m.L4=aM c.m c.m.L4:=by show lG (da (ax c))=_;rw[x5,s1,w1]
  have s3:(cPc (cFp (da (ax c)))).m.J6=c.m.L4+2:=by show(ax (cFp (da (ax c)))).m.J6=_;rw[y4];dsimp only;rw[s2];omega
  have w3:∀a,aM (cPc (cFp (da (ax c)))).m a=aM c.m a:=fun a=>by
   show aM (ax (cFp (da (ax c)))).m a=_;rw[y4];exact w2 a
  have f3:(cPc (cFp (da (ax c)))).m.L4=aM c.m c.m.L4:=by show(ax (cFp (da (ax c)))).m.L4=_;rw[y4];exact f2
  have g3:(cPc (cFp (da (ax c)))).m.L3=aM c.m (c.m.L4+1):=by show lG (cFp (da (ax c)))=_;rw[y5,s2,w2]
  refine back (W:=aM c.m) b3 z2 hb ?_ ?_ ?_ o_ ?_
  ·rw[z3];dsimp only;rw[s3];omega
  ·rw[z3];exact f3
  ·rw[z3];exact g3
  ·intro a _;rw[z3];exact w3 a
 by_cases c16:o.J3=16
 ·rw[show bP (aP p b first second).MF c o=nN c o.K9.toNat by unfold bP;rw[b8 o_,b8 o_,b8 o_,b8 o_,b8 o_,b8 o_,b8 o_,b8 o_,b8 o_,b8 o_,b8 o_,b8 o_,c7 c16]]at hb⊢;have e:=Tc o_ o_;have hi:=Ny o_ o_;obtain⟨NF,l2,l3⟩:=M1.ret o_;have hn:kO p b first second f i it R=R.tail:=by unfold kO;rw[b8 o_,c7 o_]
  rw[hn];obtain⟨_,hB⟩:=hB;rw[b8 (fun hx=>by rw[NF]at hx;exact absurd hx.1 s_)]at hB;obtain⟨b1,b2⟩:=hB;have d1:((o.K9.toNat/16:Nat):Int)=(S.C f).J2:=o_;have d2:((o.K9.toNat%16:Nat):Int)=(S.C f).args:=o_;unfold nN at hb⊢;have NP:=Rz hb;have NG:=XT _ NP;have RQ:(ax (bD (o.K9.toNat/16) (ax c))).bad=false:=NG;have Vh:(bD (o.K9.toNat/16) (ax c)).bad=false:=TT RQ;have WL:(ax c).bad=false:=XT _ Vh;obtain⟨_,_,p3,p4,_⟩:=iX hc WL;obtain⟨_,x2,x3⟩:=uB _ p3 Vh;obtain⟨_,_,y3,y4,y5⟩:=iX x2 RQ;have S1:Stk (cPc (bD (o.K9.toNat/16) (ax c))):=⟨y3.len,y3.lo,y3.hi⟩;obtain⟨_,z2,z3⟩:=uB (o.K9.toNat%16) S1 NP;have s1:(bD (o.K9.toNat/16) (ax c)).m.J6=c.m.J6+d:=by rw[x3,p4];dsimp only;omega
  have w1:∀a,aM (bD (o.K9.toNat/16) (ax c)).m a=aM c.m a:=fun a=>by rw[x3,p4];rfl
  have s2:(cPc (bD (o.K9.toNat/16) (ax c))).m.J6=c.m.J6+d+1:=by show(ax _).m.J6=_;rw[y4];dsimp only;rw[s1]
  have w2:∀a,aM (cPc (bD (o.K9.toNat/16) (ax c))).m a=aM c.m a:=fun a=>by
   show aM (ax _).m a=_;rw[y4];exact w1 a
  have f2:(cPc (bD (o.K9.toNat/16) (ax c))).m.L4=c.m.L4:=by show(ax _).m.L4=_;rw[y4];dsimp only;rw[x3,p4]
  have g2:(cPc (bD (o.K9.toNat/16) (ax c))).m.L3=aM c.m (c.m.J6+d):=by show lG _=_;rw[y5,s1,w1]
  refine back (W:=aM c.m) b2 z2 hb ?_ ?_ ?_ o_ ?_
  ·rw[z3];dsimp only;rw[s2];omega
  ·rw[z3];exact f2
  ·rw[z3];exact g2
  ·intro a _;rw[z3];exact w2 a
 ·have c17:o.J3=17:=o_;rw[show bP (aP p b first second).MF c o=Li c by unfold bP;rw[b8 o_,b8 o_,b8 o_,b8 o_,b8 o_,b8 o_,b8 o_,b8 o_,b8 o_,b8 o_,b8 o_,b8 o_,b8 o_,c7 c17]]at hb⊢;rw[di o_ o_ o_];have hi:=Ny o_ o_;have h1:=M1.one o_;have Rz:(ax c).bad=false:=hb;obtain⟨_,_,p3,p4,_⟩:=iX hc Rz;have hS:=BQ hc Rz 0;refine .inr (kr hI.lt (fall aad) (by show(ax c).m.L3=_;rw[hS.pc];exact Nt) ?_);show Body S first second (aM (ax c).m) f (i+1) _ (ax c).m.J6 (ax c).m.L4 R;rw[hS.sp,hS.fp,down TA o_];exact hB.agree o_ o_ (iff1 hi o_) (fun a _ _ _=>hS.J2 a o_) ha.1
theorem Hm (h:SpOk p b first second){m m':Mr}{R:List Int}{f i:Nat}{it:Mp}{d:Int}(hI:ItA S f i it d)(Nt:m.L3=adr p b first second f i)(hB:Body S first second (aM m) f i d m.J6 m.L4 R)(hm:MInv m 0)(hs:eK (aP p b first second) m=some m'):
  m'.MC=1\/Cur S first second m' (kO p b first second f i it R):=by
 have OA:=lQ h hI.lt hI.get;have hr:=OA.rng;have hz:=OA.size;unfold eK at hs;rw[Nt,OA.fetch]at hs;dsimp only at hs;have hc:Stk (adv ⟨m,false⟩ ((aH it.J7.J3).toNat:Nat)):=⟨hm.len,hm.sp.1,hm.sp.2⟩
 have hp2:(adv ⟨m,false⟩ ((aH it.J7.J3).toNat:Nat)).m.L3=adr p b first second f (i+1):=by show wr (m.L3+(((aH it.J7.J3).toNat:Nat):Int))=_;rw[Nt,OA.next,CK o_];omega
 have key:=Hh (S:=S) (R:=R) h hI hp2 (show Body S first second (aM (adv ⟨m,false⟩ ((aH it.J7.J3).toNat:Nat)).m) f i d (adv ⟨m,false⟩ ((aH it.J7.J3).toNat:Nat)).m.J6 (adv ⟨m,false⟩ ((aH it.J7.J3).toNat:Nat)).m.L4 R from hB) hc
 generalize bP (aP p b first second).MF (adv ⟨m,false⟩ ((aH it.J7.J3).toNat:Nat)) (cT (bb (aY p b f) (aC p f b)) i it).J7=c at *
 unfold mr at hs;split at hs
 ·cases hs
 ·rename_i Pg;have key:=key (by simpa using Pg);split at hs
  ·split at hs
   ·injection hs with hs;subst hs;exact .inl rfl
   ·cases hs
  ·rename_i Ss;injection hs with hs;subst hs;rcases key with k|k
   ·exact absurd k Ss
   ·exact .inr k
end
end
end Go.Proofs.P
