import Derived.Test.YtoglejgmjeojoaaGreatGi
set_option maxRecDepth 100000
set_option maxHeartbeats 4000000
namespace Go.Proofs.P
open Go.Sim Tryz
def dy (c:LG):LG:=⟨c.b,if c.i<c.b.length then c.i+1 else c.i,iz c.h⟩
def iP (c:LG):Nat:=match c.b[c.i]? with
 | some u=>(byN (iz c.h)+u.toNat)%256
 | none=>byN (iz c.h)
theorem jF {c:LG}(h:c.ok):(dy c).ok:=⟨by have:=h.1;unfold dy;dsimp only;split<;>omega,h.2⟩
theorem uj (c:LG):iP c<256:=by
 unfold iP;split
 ·omega
 ·exact GJ _
theorem Ig (n:Nat):IntKind.i64.wrap ((BitVec.ofInt IntKind.i64.bits (IntKind.i64.wrap (n:Int)) &&& BitVec.ofInt IntKind.i64.bits 255).toNat:Int)=((n%256:Nat):Int):=by
 show IntKind.i64.wrap (((BitVec.ofInt 64 (IntKind.i64.wrap (n:Int)) &&& BitVec.ofInt 64 255).toNat:Nat):Int)=_;rw[Ic]
 have hw:IntKind.i64.wrap (n:Int)%256=(n:Int)%256:=by exact V114
 rw[hw,c6 _ o_];omega
theorem gn (c:LG)(hc:c.ok):bA prog 194 [gA] (fm c) (tI .i64 (iP c)) (fm (dy c)):=by
 obtain⟨hi,hl⟩:=hc;have PM:(c.b.map aY).length=c.b.length:=s_;have RW:=KG (iz c.h);have aan:=GJ (iz c.h);unfold iP dy
 generalize hx:byN (iz c.h)=x0 at *
 unfold byW iz at RW;unfold iz;by_cases My:c.i<c.b.length
 ·obtain⟨u,hu⟩:=ae My;have hu8:=u.toNat_lt;have he:=Ig (x0+u.toNat);rw[hu,c7 My];dsimp only;refine az hΓ aG func194 rfl d_ rfl rfl ?_;repeat' ((conv=>whnf);first|apply Wx|apply W6|apply oi|apply fi|intro h|refine⟨c.i,(aY u),rfl,ab hu,?_⟩|exact Y5|refine e_ rfl ?_)
  all_goals try exact⟨congrArg (Tr.int _) (by rw[RW,c6 (u.toNat:Int) o_];exact he)⟩
  all_goals exact⟨by rw[c6 _ o_];rfl⟩
 ·rw[e9 o_,b8 My];dsimp only;exact V48
theorem wX (c:LG)(n:Nat)(hc:c.ok)(h0:0<n)(h1:n<=256):bA prog 130 [gA,tI .i64 (n:Int)] (fm c) (tI .i64 ((iP c%n:Nat):Int)) (fm (dy c)):=by
 have g1:=gn c hc;have hm:((iP c:Nat):Int).tmod (n:Int)=((iP c%n:Nat):Int):=by rw[Int.tmod_eq_emod_of_nonneg o_];rfl
 refine az hΓ aG func130 rfl d_ rfl rfl ?_;repeat' ((conv=>whnf);first|apply Wx|apply W6|refine cg g1 ?_|apply oi|apply fi|intro h|exact Y5|refine e_ rfl ?_)
 all_goals try exact⟨o_⟩
 all_goals exact⟨congrArg (Tr.int _) hm⟩
theorem oq (c:LG)(n:Int)(hc:c.ok)(h:256<n):∃y:Nat,(y:Int)<n/\bA prog 130 [gA,tI .i64 n] (fm c) (tI .i64 (y:Int)) (fm (dy (dy (dy (dy c))))):=by
 have g1:=gn c hc;have g2:=gn _ (jF hc);have g3:=gn _ (jF (jF hc));have g4:=gn _ (jF (jF (jF hc)));have k1:=uj c;have k2:=uj (dy c);have k3:=uj (dy (dy c));have k4:=uj (dy (dy (dy c)))
 generalize iP c=x1 at *
 generalize iP (dy c)=x2 at *
 generalize iP (dy (dy c))=x3 at *
 generalize iP (dy (dy (dy c)))=x4 at *
 obtain⟨y,hy,hm⟩:=pd (x:=x1*16777216+x2*65536+x3*256+x4) (n:=n) o_;refine⟨y,hy,?_⟩;exact V7
theorem pF (c:LG)(ns:List Int)(hc:c.ok)(hp:0<ns.length)(hl:ns.length<=256):bA prog 129 [gA,.r (.c (.own (0,0,1)))] (fm c++[((0,0,1),.arr false 1 (ns.map aa))]) (tI .i64 (ns[iP c%ns.length]?.getD 0)) (fm (dy c)++[((0,0,1),.arr false 1 (ns.map aa))]):=by
 have Mv:(ns.map aa).length=ns.length:=s_;have g1:=wX c (ns.map aa).length hc o_ o_;rw[Mv]at g1;have hx:iP c%ns.length<ns.length:=G0 _ hp;obtain⟨v,hv⟩:=ae hx;have Qr:iP c%ns.length<(ns.map aa).length:=by rw[Mv];exact hx
 rw[hv];refine az hΓ aG func129 rfl d_ rfl rfl ?_;rw[<-Mv]at g1;repeat' ((conv=>whnf);first|apply Wx|apply W6|refine cg g1 ?_|apply oi|apply fi|intro h|refine⟨(iP c%ns.length),(by rw[Mv]),Qr,?_⟩|refine⟨(aa v),ab hv,?_⟩|exact Y7|refine e_ rfl ?_)
def itC:Nat->LG->LG
 | 0,c=>c
 | n+1,c=>itC n (dy c)
theorem uc:∀(n m:Nat) (c:LG),itC (n+m) c=itC m (itC n c)
 | 0,m,c=>by rw[u5,itC]
 | n+1,m,c=>by rw[show n+1+m=(n+m)+1 by omega,itC,itC,uc n m]
theorem vx:∀(n:Nat) {c:LG},c.ok->(itC n c).ok
 | 0,_,h=>h
 | n+1,c,h=>by rw[itC];exact vx n (jF h)
theorem JU:∀(n:Nat) (c:LG),(itC n c).b=c.b
 | 0,_=>rfl
 | n+1,c=>by rw[itC,JU n];rfl
theorem JW:∀(n:Nat) (c:LG),(itC n c).h=itH n c.h
 | 0,_=>rfl
 | n+1,c=>by rw[itC,JW n,itH];rfl
theorem Kb:∀(n:Nat) (c:LG),c.i<=c.b.length->(itC n c).i=min (c.i+n) c.b.length
 | 0,c,h=>by rw[itC];omega
 | n+1,c,h=>by
  have h2:(dy c).i<=(dy c).b.length:=by unfold dy;dsimp only;split<;>omega
  rw[itC,Kb n _ h2];unfold dy;dsimp only;split<;>omega
def sD (c:LG):Prop:=iP (itC 5 c)%3=2
theorem Dq (c:LG)(h:c.ok):∃k,sD (itC (6*k) c):=by obtain⟨k,hk,h2⟩:=FN c.h (c.b.length+1);obtain⟨j,rfl⟩:∃j,k=j+1:=⟨k-1,o_⟩;refine⟨j,?_⟩;unfold sD;rw[<-uc];have hi:=Kb (6*j+5) c h.1;have hb:=JU (6*j+5) c;unfold iP;rw[hb,e9 (by rw[hi];omega),JW];dsimp only;have e:iz (itH (6*j+5) c.h)=itH (6*(j+1)) c.h:=(lh (6*j+5) 1 c.h).symm;rw[e];exact h2
structure SpOk (p:List LO) (b:LF) (first second:Int):Prop where
 small:aw 1048576 (.lst 4 (p.map LO.tr))
 prog:ah p=true
 build:aS b=true
 fb:1<=first/\first<=1000000
 sb:1<=second/\second<=1000000
 space:ce (aQ p b first second)=true
noncomputable abbrev spH (p:List LO) (b:LF) (first second:Int):List (Sim.Id×AO):=[((1,0,0),.arr true 2 [(ag p b 0).tr,(ag p b 1).tr]),((1,0,1),.arr true 1 [aa first,aa second]),((1,0,2),.arr true 1 ((entries p b first second).map aa))]
noncomputable def yC (c:LG):Nat:=open Classical in if h:c.ok then Classical.choose (oq c 9000 h o_)else 0
theorem EC {c:LG}(h:c.ok):(yC c:Int)<9000/\bA prog 130 [gA,tI .i64 9000] (fm c) (tI .i64 (yC c:Int)) (fm (itC 4 c)):=by rw[yC,dif_pos h];exact l8 (oq c 9000 h o_)
noncomputable abbrev fL (c:LG):List Int:=[1,100,5000,1+(yC c:Int)]
abbrev sL:List Int:=[20000,60000,1000000]
noncomputable def iJ (c:LG):Int:=(fL c)[iP (itC 4 c)%(fL c).length]?.getD 0
def eJ (c:LG):Int:=sL[iP (itC 5 c)%sL.length]?.getD 0
theorem nE {c:LG}(h:c.ok):1<=iJ c/\iJ c<=9000:=by
 have hy:=(EC h).1;unfold iJ;have:iP (itC 4 c)%(fL c).length<4:=G0 _ s_
 generalize iP (itC 4 c)%(fL c).length=k at *
 rcases(show k=0\/k=1\/k=2\/k=3 by omega)with rfl|rfl|rfl|rfl;all_goals(simp;try omega)
theorem vy (c:LG):20000<=eJ c/\eJ c<=1000000:=by
 unfold eJ;have:iP (itC 5 c)%sL.length<3:=G0 _ d_
 generalize iP (itC 5 c)%sL.length=k at *
 rcases(show k=0\/k=1\/k=2 by omega)with rfl|rfl|rfl;all_goals simp
theorem qr {c:LG}(h:sD c):eJ c=1000000:=by
 unfold eJ sD at *
 rw[show sL.length=3 from rfl,h];rfl
noncomputable def kN (p:List LO) (b:LF):Nat->LG->Int×Int×LG
 | 0,c=>(iJ c,eJ c,itC 6 c)
 | n+1,c=>if(gD p b (iJ c) (eJ c)).isSome=true then(iJ c,eJ c,itC 6 c)else kN p b n (itC 6 c)
theorem AP {p:List LO}{b:LF}(hs:aw 1048576 (.lst 4 (p.map LO.tr)))(h1:ah p=true)(h2:aS b=true):∀(n:Nat) (c:LG),c.ok->sD (itC (6*n) c)->(1<=(kN p b n c).1/\(kN p b n c).1<=9000)/\(20000<=(kN p b n c).2.1/\(kN p b n c).2.1<=1000000)/\(gD p b (kN p b n c).1 (kN p b n c).2.1).isSome=true
 | 0,c,hc,hg=>by
  refine⟨nE hc,vy c,?_⟩;rw[kN];dsimp only;rw[qr (show sD c from hg),wh hs h1 h2 (nE hc) o_]
  rfl
 | n+1,c,hc,hg=>by
  rw[kN];split
  ·exact⟨nE hc,vy c,by assumption⟩
  ·refine AP hs h1 h2 n _ (vx 6 hc) ?_;rw[<-uc,show 6+6*n=6*(n+1) by omega];exact hg
theorem Dz {p:List LO}{b:LF}{first second:Int}(h:(gD p b first second).isSome=true):ah p=true/\aS b=true/\ce (aQ p b first second)=true/\gD p b first second=some (aQ p b first second):=by
 unfold gD at *
 split at h
 ·rename_i hc;exact⟨hc.1,hc.2.1,hc.2.2,by rw[c7 hc]⟩
 ·cases h
theorem tA (c:LG)(hc:c.ok):∃(p:List LO) (b:LF) (first second:Int) (c':LG),SpOk p b first second/\bA prog 56 [gA] (fm c) (.tup [.c (.t (.lst 4 (p.map LO.tr))),.agg (b.tr.map .t),.agg [.own (1,0,0),.own (1,0,1),.own (1,0,2)]]) (fm c'++spH p b first second):=by
 have g1:=pZ c hc;obtain⟨q1,q2,q3,q4,q5⟩:=AZ 5 c hc
 generalize jH 5 c=R0 at *
 obtain⟨p,c1⟩:=R0
 dsimp only at *
 obtain⟨b,c2,hb,_,o2,g2⟩:=tT c1 q4;have hs:=vO q5 q2;obtain⟨K,hK⟩:=Dq c2 o2;obtain⟨r1,r2,r3⟩:=AP hs q1 hb K c2 o2 hK;obtain⟨_,_,s3,s4⟩:=Dz r3;obtain⟨R,hR⟩:∃R,kN p b K c2=R:=⟨_,rfl⟩;rw[hR]at r1 r2 r3 s3 s4;refine⟨p,b,R.1,R.2.1,R.2.2,⟨hs,q1,hb,⟨o_,o_⟩,⟨o_,o_⟩,s3⟩,?_⟩;refine az hΓ aG func56 rfl d_ rfl rfl ?_;repeat' ((conv=>whnf);first|apply Wx|apply W6|apply oi|apply fi|intro h|exact Y7|refine e_ rfl ?_)
 refine cg (g1) ?_;repeat' ((conv=>whnf);first|apply Wx|apply W6|apply oi|apply fi|intro h|exact Y7|refine e_ rfl ?_)
 refine cg (g2) ?_;repeat' ((conv=>whnf);first|apply Wx|apply W6|apply oi|apply fi|intro h|exact Y7|refine e_ rfl ?_)
 conv=>whnf
 refine⟨{q:Nat×LG//q.2.ok/\sD (itC (6*q.1) q.2)/\kN p b q.1 q.2=R},fun q=>⟨[(0,gA),(3,.r (.c (.ptr (3,0,0) 0))),(4,.r (.c (.ptr (4,0,0) 0))),(5,vP p),(6,.r (.c (.ptr (6,0,0) 0)))],[((0,0,0),some (.box [.t (.lst 1 (q.1.2.b.map aY)),.t (.int .i64 q.1.2.i),.t (.int .i64 q.1.2.h)])),((3,0,0),some (.box [.t (.int .i64 0),.t (.int .i64 0),.t (.bool false),.t (.bool false)])),((4,0,0),some (.box [.nils 0,.nils 0,.nils 0])),((6,0,0),some (.box (b.tr.map .t)))],[6,4,3,0]⟩,fun q=>q.1.1,⟨(K,c2),o2,hK,hR⟩,?_,?_⟩
 ·exact Z2
 intro⟨⟨n,ci⟩,Oh,hg,hr⟩;dsimp only at Oh hg hr⊢;obtain⟨hy,gy⟩:=EC Oh;have gf:=pF (itC 4 ci) (fL ci) (vx 4 Oh) s_ s_;have gs:=pF (itC 5 ci) sL (vx 5 Oh) d_ d_;have hL:=rX p b (iJ ci) (eJ ci) hs;rw[show(fL ci)[iP (itC 4 ci)%(fL ci).length]?.getD 0=iJ ci from rfl]at gf;rw[show sL[iP (itC 5 ci)%sL.length]?.getD 0=eJ ci from rfl]at gs;have n4:dy (itC 4 ci)=itC 5 ci:=rfl;have n5:dy (itC 5 ci)=itC 6 ci:=rfl;rw[n4]at gf;rw[n5]at gs;have Nk:IntKind.i64.wrap (1+(yC ci:Int))=1+(yC ci:Int):=c6 _ o_
 cases hl:gD p b (iJ ci) (eJ ci)with
 | some sp=>
  have N7:(gD p b (iJ ci) (eJ ci)).isSome=true:=by rw[hl];rfl
  have YH:R=(iJ ci,eJ ci,itC 6 ci):=by
   rw[<-hr]
   cases n with|zero=>rfl|succ n=>rw[kN,c7 N7]
  subst YH;dsimp only at s4⊢;rw[hl]at hL s4;injection s4 with s4;subst s4;simp only[oSp,aQ]at hL;repeat' ((conv=>whnf);first|apply Wx|apply W6|apply oi|apply fi|intro h|exact Y7|refine e_ rfl ?_)
  refine cg (gy) ?_;repeat' ((conv=>whnf);first|apply Wx|apply W6|apply oi|apply fi|intro h|exact Y7|refine e_ rfl ?_)
  refine cg (gf) ?_;repeat' ((conv=>whnf);first|apply Wx|apply W6|apply oi|apply fi|intro h|exact Y7|refine e_ rfl ?_)
  all_goals try exact⟨by rw[Nk];rfl⟩
  refine cg (gs) ?_
  repeat' ((conv=>whnf);first|apply Wx|apply W6|apply oi|apply fi|intro h|refine cl hL ?_|exact Y7|refine e_ rfl ?_)
 | none=>
  have N7:¬(gD p b (iJ ci) (eJ ci)).isSome=true:=by rw[hl];simp
  cases n with
  | zero=>
   rw[qr (show sD ci from hg),wh hs q1 hb (nE Oh) o_]at hl
   cases hl
  | succ n=>
   rw[kN,b8 N7]at hr;rw[hl]at hL;repeat' ((conv=>whnf);first|apply Wx|apply W6|apply oi|apply fi|intro h|exact Y7|refine e_ rfl ?_)
   refine cg (gy) ?_;repeat' ((conv=>whnf);first|apply Wx|apply W6|apply oi|apply fi|intro h|exact Y7|refine e_ rfl ?_)
   refine cg (gf) ?_;repeat' ((conv=>whnf);first|apply Wx|apply W6|apply oi|apply fi|intro h|exact Y7|refine e_ rfl ?_)
   all_goals try exact⟨by rw[Nk];rfl⟩
   refine cg (gs) ?_;repeat' ((conv=>whnf);first|apply Wx|apply W6|apply oi|apply fi|intro h|refine cl hL ?_|exact Y5|refine e_ rfl ?_)
   conv=>whnf
   refine⟨⟨(n,itC 6 ci),vx 6 Oh,by dsimp only;rw[<-uc,show 6+6*n=6*(n+1) by omega];exact hg,hr⟩,?_,KD⟩;exact Z2
theorem sk (code:List UInt8)(hl:code.length<=1048576):∃(p:List LO) (b:LF) (first second:Int),SpOk p b first second/\
  bA prog 10 [Ly code] [] (.tup [.c (.t (.lst 4 (p.map LO.tr))),.agg (b.tr.map .t),.agg [.own (1,0,0),.own (1,0,1),.own (1,0,2)]]) (spH p b first second):=by
 have g0:=wP code hl;obtain⟨p,b,first,second,c',MA,g1⟩:=tA _ (IH hl);refine⟨p,b,first,second,MA,?_⟩;refine az hΓ aG func10 rfl d_ rfl rfl ?_;repeat' ((conv=>whnf);first|apply Wx|apply W6|apply oi|apply fi|intro h|exact Y7|refine e_ rfl ?_)
 refine cg (g0) ?_;repeat' ((conv=>whnf);first|apply Wx|apply W6|apply oi|apply fi|intro h|exact Y7|refine e_ rfl ?_)
 refine cg (g1) ?_;exact Z2
structure StartAt (p:List LO) (b:LF) (f i:Nat) (x:Nat×List LS):Prop where
 at_:(imL p b (bn b f))[i]?=some x
 fn:x.1=f
 start:aW p b f=((aj (ax ((imL p b (bn b f)).take i))).length:Int)
theorem pb {p:List LO}{b:LF}{f:Nat}(hf:f<(ay p).length):∃i x,StartAt p b f i x:=by have hi:=fX b f;obtain⟨s,hs⟩:=lg (f:=f) (a:=0) ((imgL_mem (p:=p) (b:=b) (image:=bn b f) (n:=(ay p).length) (f:=0) (at0:=0) (g:=f)).2 ⟨o_,o_,(rM hi).2 rfl⟩);obtain⟨i,x,h1,h2,h3⟩:=uS hs;refine⟨i,x,h1,h2,?_⟩;rw[aW,show imL p b (bn b f)=bX p b (bn b f) (ay p).length 0 0 from rfl,hs];show s=_;omega
theorem rz {L:List (Nat×List LS)}{i:Nat}{x:Nat×List LS}(h:L[i]?=some x):ax L=ax (L.take i)++(x.2++ax (L.drop (i+1))):=by
 have e:L=L.take i++x::L.drop (i+1):=by rw[<-cF h,y9]
 conv=>lhs;rw[e]
 simp[ax]
section
variable {p:List LO} {b:LF}
theorem EQ (hs:aw 1048576 (.lst 4 (p.map LO.tr)))(h1:ah p=true)(h2:aS b=true){f i:Nat}{x:Nat×List LS}(h:StartAt p b f i x):
  0<(aj x.2).length/\∃(o:LQ) (z:Nat),bu (ag p b (bn b f)).I9 (aW p b f)=some (o,z)/\(o.I9=13\/o.I9=15):=by
 have h3:af (bn b f) 0 1=true:=by have:=fX b f;rw[within_iff];omega
 obtain⟨g1,g2,g3⟩:=h;obtain⟨y,hy⟩:=ae (jR hs h1 h2 o_ g1).2.2;have hp:=(fR hs h1 h2 g1 hy).1;have Nu:=oM hp.op;have M6:=eb hp.op
 have M9:0<(aj x.2).length:=by
  obtain⟨c,l⟩:=x
  cases l with
  | nil=>simp at hy
  | cons a l=>simp only[e8,Option.some.injEq]at hy;subst hy;rw[show aj (a::l)=bg a.L3.J2++aj l by simp[aj],c8];omega
 refine⟨M9,y.L3.J2,(aE y.L3.J2.I9).toNat,?_,(hp.head rfl).1⟩
 have OX:∀z∈x.2,dB z.L3.J2.I9 z.L3.J2.J7=true:=fun z hz=>by
  obtain⟨j,hj⟩:=v6.1 hz;exact(fR hs h1 h2 g1 hj).1.op
 have hd:=sR OX hy (aj (ax ((imL p b (bn b f)).take i))) (aj (ax ((imL p b (bn b f)).drop (i+1))));rw[ag,c7 ⟨h1,h2,h3⟩,g3];dsimp only;have e:=rz g1
 rw[show imL p b (bn b f)=bX p b (bn b f) (ay p).length 0 0 from rfl]at *
 rw[e,aJ,aJ,<-j9];simpa [aj]using hd
theorem CG (hs:aw 1048576 (.lst 4 (p.map LO.tr)))(h1:ah p=true)(h2:aS b=true){f:Nat}(hf:f<(ay p).length):0<=aW p b f/\aW p b f<(ag p b (bn b f)).I9.length:=by
 obtain⟨i,x,h⟩:=pb (b:=b) hf;have hp:=(EQ hs h1 h2 h).1;obtain⟨g1,g2,g3⟩:=h;have h3:af (bn b f) 0 1=true:=by have:=fX b f;rw[within_iff];omega
 have e:=rz g1;have e2:=congrArg List.length (congrArg aj e);rw[aJ,aJ,c8,c8]at e2;rw[ag,c7 ⟨h1,h2,h3⟩,g3];refine⟨o_,?_⟩;show _<(((aj (ax (imL p b (bn b f)))).length:Nat):Int);omega
end
structure EntP (p:List LO) (b:LF) (first second:Int) (f i:Nat) (im:LK) (base:Int):Prop where
 no:(i:Int)=bn b f
 lt:i<2
 img:[ag p b 0,ag p b 1][i]?=some im
 bas:[first,second][i]?=some base
 imE:im=ag p b (bn b f)
 range:1<=base/\base<=1000000
 len:im.I9.length<=75000
 ok:bp im=true
 start:0<=aW p b f/\aW p b f<im.I9.length
 entry:cS p b first second f=base+aW p b f
 loc:vo (aQ p b first second) (cS p b first second f)=((i:Int),aW p b f)
 op:∃(o:LQ) (z:Nat),bu im.I9 (aW p b f)=some (o,z)/\(o.I9=13\/o.I9=15)
theorem V63{p:Prop}(h:p:=by
 have:ew (ag p b 0) (ag p b 1) first second (entries p b first second)=true:=NB;unfold ew at this;simp only[b9,u9]at this
 exact this.2.2.2.2.2.1):p:=h
theorem EH {p:List LO}{b:LF}{first second:Int}(h:SpOk p b first second){f:Nat}(hf:f<(ay p).length):∃i im base,EntP p b first second f i im base:=by
 have a0:=cV h.small h.prog h.build (image:=0) d_;have a1:=cV h.small h.prog h.build (image:=1) d_;have M5:=CG h.small h.prog h.build hf;obtain⟨k,x,hx⟩:=pb (b:=b) hf;have Mw:=(EQ h.small h.prog h.build hx).2;have Vs:=h.fb;have VD:=h.sb;have NB:=h.space
 have MQ:cT (ag p b 0) (ag p b 1) first second=false:=by exact V63
 have Nx:∀e,vo (aQ p b first second) e=dF (ag p b 0) (ag p b 1) first second e:=fun e=>rfl;rcases fX b f with e|e
 ·rw[e]at M5 Mw
  have Qk:cS p b first second f=first+aW p b f:=by rw[cS,e,b8 d_,c6 _ o_]
  refine⟨0,ag p b 0,first,by rw[e];rfl,o_,rfl,rfl,by rw[e],o_,a0.2,a0.1,M5,Qk,?_,Mw⟩;rw[Nx,Qk,dF,c7 ⟨o_,o_⟩,show first+aW p b f-first=aW p b f by omega];rfl
 ·rw[e]at M5 Mw
  have Qk:cS p b first second f=second+aW p b f:=by rw[cS,e,c7 rfl,c6 _ o_]
  refine⟨1,ag p b 1,second,by rw[e];rfl,o_,rfl,rfl,by rw[e],o_,a1.2,a1.1,M5,Qk,?_,Mw⟩;rw[Nx,Qk,dF,b8,c7 ⟨o_,o_⟩,show second+aW p b f-second=aW p b f by omega]
  ·rfl
  ·intro hc;unfold cT at MQ;simp only[A8,p9]at MQ;omega
theorem mL {p:List LO}{b:LF}{first second:Int}{f:Nat}(hf:f<(ay p).length):(entries p b first second)[f]?=some (cS p b first second f):=by rw[entries,p6,List.getElem?_range hf];rfl
theorem zN {p:List LO}{b:LF}{first second:Int}:(entries p b first second).length=(ay p).length:=by rw[entries,e7,List.length_range]
theorem AU {p:List LO}{f:Int}{b:LF}(hs:aw 1048576 (.lst 4 (p.map LO.tr)))(h1:ah p=true)(h2:aS b=true)(h3:0<=f)(h4:f<(ay p).length):∀it∈aA p f b,DI it:=by obtain⟨g,C,k1,k2,k3,k4,k5,k6,k7,k8,k9⟩:=ka hs h1 h2 h3 h4;have hS:ScOk C (bb C g) [g]:=⟨k7,rfl,⟨v2 _,by simp[bb]⟩,rfl,by simp[bb],fun _=>k5,rfl⟩;have hw:=k2.I8;rw[k8];refine xU k2 hS s_ (Eh k2 C.b.Mc.toNat hS) (base:=C.I8) hw.1 (by simp only[d5,i8];omega) (dS C g) ?_;exact dg (C:=C) (s:=⟨[],(localsOf C.p (g:Int)).length-C.args,false⟩) (d:=0) o_ (fun it h=>by cases h)
def DPs (P:List LS):Prop:=∀x∈P,DI x.L3
theorem Bs {p:List LO}{b:LF}{image:Int}(hs:aw 1048576 (.lst 4 (p.map LO.tr))):DPs (aM p b image):=by
 by_cases hc:ah p=true/\aS b=true/\af image 0 1=true
 ·rw[aM,c7 hc];obtain⟨h1,h2,_⟩:=hc;show DPs (ax (bX p b image (ay p).length 0 0));intro x hx;obtain⟨k,hk⟩:=v6.1 hx;obtain⟨i,z,j,g1,g2,rfl⟩:=my hk;obtain⟨e1,e2,_⟩:=jR hs h1 h2 o_ g1;rw[e1]at g2;have hj:j<(aA p (z.1:Int) b).length:=by have:=aH g2;rwa [dT]at this
  obtain⟨it,Nt⟩:=ae hj;rw[eS Nt]at g2;injection g2 with g2;subst g2;have:=AU (f:=(z.1:Int)) hs h1 h2 o_ o_ it (c9 Nt);dsimp only;unfold cN;split
  ·exact this
  ·exact this
 ·rw[aM,b8 hc];intro x hx;cases hx
def kb (p:Int)(l:List LV):Int:=match l.getLast? with|some r=>r.Mg|none=>p
theorem rulesOkF_snoc:∀{l:List LV} {p:Int} {r:LV},bH p (l++[r])=true↔bH p l=true/\cM (kb p l) r
 | [],p,r=>by
  rw[t6,bH,bH,bH]
  simp[kb]
 | y::l,p,r=>by
  rw[u3,bH,bH]
  have e:kb p (y::l)=kb y.Mg l:=by
   unfold kb
   cases l with|nil=>rfl|cons z l=>simp[List.getLast?_cons]
  rw[e];split
  ·exact rulesOkF_snoc
  ·simp
theorem tm:∀{l:List LV} {p:Int} {i:Nat} {r:LV},bH p l=true->l[i]?=some r->p<=r.L4
 | [],_,_,_,_,h=>by simp at h
 | y::l,p,i,r,h,hi=>by
  rw[bH]at h;split at h
  ·rename_i hy;unfold cM at hy
   cases i with
   | zero=>simp at hi;subst hi;exact hy.1
   | succ i=>rw[j8]at hi;have:=tm h hi;omega
  ·cases h
theorem yo {off:Int}:∀{l:List LV} {p:Int} {i k:Nat} {r:LV},bH p l=true->l[i]?=some r->r.L4<=off->off<r.Mg->cr off l k=((k+i:Nat):Int)
 | [],_,_,_,_,_,h,_,_=>by simp at h
 | y::l,p,i,k,r,h,hi,h1,h2=>by
  rw[bH]at h;split at h
  ·cases i with
   | zero=>simp at hi;subst hi;rw[cr,c7 ⟨h1,h2⟩];simp
   | succ i=>rw[j8]at hi;have:=tm h hi;rw[cr,b8 o_,yo h hi h1 h2];congr 1;omega
  ·cases h
def iX (P:List LS)(k:Nat):List LV:=(P.take k).foldl (fun a x=>fg a (cR x)) []
theorem yS {P:List LS}{k:Nat}{x:LS}(hx:P[k]?=some x):iX P (k+1)=fg (iX P k) (cR x):=by rw[iX,dA hx,List.foldl_append];rfl
structure RInv (P:List LS) (k:Nat) (R:List LV):Prop where
 ok:jX R=true
 len:R.length<=k
 nil:R=[]↔k=0
 fin:∀x,P[k]?=some x->kb 0 R=x.Me
 all:∀(j:Nat) (x:LS),j<k->P[j]?=some x->∃(i:Nat) (r:LV),R[i]?=some r/\r.L4<=x.Me/\x.Me+aE x.L3.J2.I9<=r.Mg/\r.Mk=x.L3.Mm/\r.Md=x.L3.Md
theorem ji (p:Int)(l:List LV)(r:LV):kb p (l++[r])=r.Mg:=by simp[kb]
theorem yl {P:List LS}(h:PsOk P)(hd:DPs P):∀{k:Nat},k<=P.length->RInv P k (iX P k)
 | 0,_=>⟨rfl,by simp[iX],by simp[iX],fun x hx=>by rw[h.at0 x hx];rfl,fun j x hj=>o_⟩
 | k+1,hk=>by
  obtain⟨x,hx⟩:=ae (l:=P) (k:=k) o_;have I:=yl h hd (k:=k) o_;have hr:=h.rng k x hx;have Sg:=hd x (c9 hx);unfold DI at Sg;have Zu:=I.fin x hx;rw[yS hx];have Nf:∀y,P[k+1]?=some y->x.Me+aE x.L3.J2.I9=y.Me:=fun y hy=>(h.next k x y hx hy).symm;have MA:=I.ok;have Mv:=I.len;have Oc:=I.all
  generalize iX P k=R at *
  rcases nh R with rfl|⟨ini,r,rfl⟩
  ·have N1:k=0:=I.nil.1 rfl;subst N1;have e:fg [] (cR x)=[cR x]:=rfl;rw[e];have h0:=h.at0 x hx;refine⟨?_,s_,s_,fun y hy=>by rw[<-Nf y hy];rfl,fun j y hj hy=>?_⟩
   ·rw[jX,bH,bH,c7];unfold cM cR;dsimp only;exact⟨o_,o_,o_,Sg.1,Sg.2.1,Sg.2.2⟩
   ·have:j=0:=o_;subst this;rw[hx]at hy;injection hy with hy;subst hy;exact⟨0,cR x,rfl,v2 _,v2 _,rfl,rfl⟩
  ·rw[ji]at Zu;have ho:=rulesOkF_snoc.1 MA;rw[lH];split
   ·rename_i hj;unfold vC at hj;simp only[b9,w8]at hj;have NO:=ho.2;unfold cM at NO;refine⟨rulesOkF_snoc.2 ⟨ho.1,?_⟩,by simp only[c8,d5,i8]at Mv⊢;omega,s_,fun y hy=>by rw[ji,<-Nf y hy];rfl,fun j y N9 hy=>?_⟩
    ·unfold cM cR;dsimp only;exact⟨NO.1,o_,o_,NO.2.2.2.1,NO.2.2.2.2.1,NO.2.2.2.2.2⟩
    ·by_cases OS:j=k
     ·subst OS;rw[hx]at hy;injection hy with hy;subst hy;refine⟨ini.length,⟨r.L4,(cR x).Mg,r.Mk,r.Md⟩,s_,?_,v2 _,hj.2.1,hj.2.2⟩;dsimp only;omega
     ·obtain⟨i,q,q1,q2,q3,q4,q5⟩:=Oc j y o_ hy;rw[G2]at q1;split at q1
      ·rename_i hi;exact⟨i,q,by rw[j7 hi];exact q1,q2,q3,q4,q5⟩
      ·rename_i hi
       have Rx:i-ini.length=0:=by
        rcases v3 (i-ini.length)with e|e
        ·exact e
        ·rw[e9 aab]at q1;cases q1
       rw[Rx]at q1;simp only[e8,Option.some.injEq]at q1;subst q1;refine⟨ini.length,⟨r.L4,(cR x).Mg,r.Mk,r.Md⟩,s_,q2,?_,q4,q5⟩;show _<=x.Me+aE x.L3.J2.I9;omega
   ·refine⟨rulesOkF_snoc.2 ⟨MA,?_⟩,by simp only[c8,d5,i8]at Mv⊢;omega,s_,fun y hy=>by rw[ji,<-Nf y hy];rfl,fun j y N9 hy=>?_⟩
    ·rw[ji];unfold cM cR;dsimp only;exact⟨o_,o_,o_,Sg.1,Sg.2.1,Sg.2.2⟩
    ·by_cases OS:j=k
     ·subst OS;rw[hx]at hy;injection hy with hy;subst hy;exact⟨(ini++[r]).length,cR x,s_,v2 _,v2 _,rfl,rfl⟩
     ·obtain⟨i,q,q1,q2⟩:=Oc j y o_ hy;exact⟨i,q,by rw[j7 (aH q1)];exact q1,q2⟩
theorem zI {P:List LS}(h:PsOk P):iX P P.length=bF P:=by
 have hn:wd P=true:=by unfold wd;rw[o8];intro x hx;obtain⟨k,hk⟩:=v6.1 hx;have:=h.rng k x hk;exact within_iff.2 ⟨this.1,o_⟩
 rw[iX,gt (d8 _),bF,c7 hn]
theorem Ce {P:List LS}(h:PsOk P)(hd:DPs P):RInv P P.length (bF P):=by rw[<-zI h];exact yl h hd (d8 _)
theorem Je {P:List LS}(h:PsOk P)(hd:DPs P){k:Nat}{x:LS}(hx:P[k]?=some x){off:Int}(h1:x.Me<=off)(h2:off<x.Me+aE x.L3.J2.I9):
  ∃(i:Nat) (r:LV),cP (bF P) off=(i:Int)/\(bF P)[i]?=some r/\r.Mk=x.L3.Mm/\r.Md=x.L3.Md/\r.L4<=x.Me/\x.Me+aE x.L3.J2.I9<=r.Mg:=by
 have I:=Ce h hd;obtain⟨i,r,q1,q2,q3,q4,q5⟩:=I.all k x (aH hx) hx;have MA:=I.ok;refine⟨i,r,?_,q1,q4,q5,q2,q3⟩;rw[cP,c7 MA,yo MA q1 o_ o_,u5]
def bo (a:Int):Bool:=af a 0 1199
abbrev wr (n:Int):Int:=IntKind.i64.wrap n
structure CS where
 m:LP
 bad:Bool
def CS.ok (c:CS):Prop:=c.m.Mf.length=1200
def aL (m:LP)(a:Int):Int:=match m.Mf[a.toNat]? with|some x=>x|none=>0
def gC (m:LP)(a v:Int):LP:={m with Mf:=m.Mf.set a.toNat v}
def cAt (c:CS)(a:Int):CS:=⟨c.m,c.bad||!bo a⟩
def bi (c:CS)(v:Int):CS:=if(c.bad||!bo (wr (c.m.J5-1)))=true then⟨c.m,true⟩else⟨{gC c.m (wr (c.m.J5-1)) v with J5:=wr (c.m.J5-1)},false⟩
def aq (c:CS):CS:=if(c.bad||!bo c.m.J5)=true then⟨c.m,true⟩else⟨{c.m with J5:=c.m.J5+1},false⟩
def li (c:CS):Int:=if(c.bad||!bo c.m.J5)=true then 0 else aL c.m c.m.J5
def bz:Nat->CS->CS
 | 0,c=>c
 | n+1,c=>bz n (aq c)
def dC:Nat->CS->CS
 | 0,c=>c
 | n+1,c=>dC n (bi c 0)
def gB (c:CS)(a:Int):CS:=if(c.bad||!bo a)=true then⟨c.m,true⟩else bi ⟨c.m,false⟩ (aL c.m a)
def dm (c:CS)(a:Int):CS:=if((aq c).bad||!bo a)=true then⟨(aq c).m,true⟩else⟨gC (aq c).m a (li c),false⟩
theorem inStk_iff {a:Int}:bo a=true↔0<=a/\a<=1199:=within_iff
theorem gw {c:CS}{v:Int}(h:c.ok):(bi c v).ok:=by
 unfold bi CS.ok at *
 split
 ·exact h
 ·simpa [gC]using h
theorem bh {c:CS}(h:c.ok):(aq c).ok:=by
 unfold aq CS.ok at *
 split
 ·exact h
 ·exact h
theorem fB:∀{n:Nat} {c:CS},c.ok->(bz n c).ok
 | 0,_,h=>h
 | n+1,c,h=>fB (n:=n) (bh h)
theorem rF:∀{n:Nat} {c:CS},c.ok->(dC n c).ok
 | 0,_,h=>h
 | n+1,c,h=>rF (n:=n) (gw h)
theorem AY {c:CS}{a:Int}(h:c.ok):(gB c a).ok:=by
 unfold gB;split
 ·exact h
 ·exact gw (c:=⟨c.m,false⟩) h
theorem xJ {c:CS}{a:Int}(h:c.ok):(dm c a).ok:=by
 have:=bh h;unfold dm;split
 ·exact this
 ·unfold CS.ok at *;simpa [gC]using this
abbrev ow:AV:= .r (.c (.ptr (0,0,0) 0))
theorem Db {l:List Int}{a:Int}(hl:l.length=1200)(h:bo a=true):∃(j:Nat) (x:Int),a=(j:Int)/\l[j]?=some x/\j<l.length/\j<=1199:=by have h':=inStk_iff.1 h;obtain⟨j,rfl⟩:=j6 h'.1;obtain⟨x,hx⟩:=ae (l:=l) (k:=j) o_;exact⟨j,x,rfl,hx,o_,o_⟩
theorem AH {l:List Int}{j:Nat}{v:Int}:(l.map aa).set j (aa v)=(l.set j v).map aa:=by rw[F6]
theorem Fe {a b:Bool}(h:(a||!b)=false):a=false/\b=true:=by cases a<;>cases b<;>simp at h⊢
def ou (c:CS)(a:Int):CS:=⟨{c.m with K0:=wr (c.m.K0+a)},c.bad⟩
def la (c:CS)(k:Int):CS:=bi (aq (aq c)) (dY k (li (aq c)) (li c))
def qc (c:CS)(a:Int):CS:=if li c=0 then ou (aq c) a else aq c
def qb (c:CS)(es:List Int)(a:Int):CS:=match es[a.toNat]? with
 | some e=>⟨{c.m with K0:=e},c.bad⟩
 | none=>⟨c.m,true⟩
def qR (c:CS)(n:Nat):CS:=dC n ⟨{(bi c c.m.L0).m with L0:=(bi c c.m.L0).m.J5},(bi c c.m.L0).bad⟩
def cFp (c:CS):CS:=⟨{(aq c).m with L0:=li c},(aq c).bad⟩
def cPc (c:CS):CS:=⟨{(aq c).m with K0:=li c},(aq c).bad⟩
def cX (c:CS):CS:=⟨{c.m with J5:=c.m.L0},c.bad⟩
def qT (c:CS)(n:Nat):CS:=bi (bz n (cPc (cFp (cX (aq c))))) (li c)
def nS (c:CS)(n:Nat):CS:=bi (bz (n%16) (cPc (bz (n/16) (aq c)))) (li c)
def KF (c:CS):CS:=⟨{(aq c).m with L7:=(aq c).m.L7++[li c]},(aq c).bad⟩
def bJ (es:List Int)(c:CS)(x:LQ):CS:=
 if x.I9=0 then bi c x.J7
 else if x.I9=1 then gB c (wr (c.m.L0+x.J7))
 else if x.I9=3 then gB c (wr (c.m.J5+x.J7))
 else if x.I9=2 then dm c (wr (c.m.L0+x.J7))
 else if x.I9=4 then dm c (wr (c.m.J5+x.J7))
 else if 5<=x.I9/\x.I9<=9 then la c (x.I9-3)
 else if x.I9=10 then ou c x.J7
 else if x.I9=11 then qc c x.J7
 else if x.I9=12 then qb (bi c c.m.K0) es x.J7
 else if x.I9=13 then qR c x.J7.toNat
 else if x.I9=15 then dC x.J7.toNat c
 else if x.I9=14 then qT c x.J7.toNat
 else if x.I9=16 then nS c x.J7.toNat
 else if x.I9=17 then KF c
 else c
abbrev opV (x:LQ):AV:= .r (.agg [.t (.int .i64 x.I9),.t (.int .i64 x.J7)])
theorem HQ {c:Int}(h:12<=c/\c<=16):(aX c).2=false/\((aX c).1=1\/(aX c).1=2):=by
 unfold aX;repeat' split
 all_goals first
  |(exfalso;omega)
  | simp
theorem Jh {c:Int}(h:1<=c/\c<=11):aX c=(2,true)\/aX c=(0,false):=by
 unfold aX;repeat' split
 all_goals first
  |(exfalso;omega)
  | simp
theorem Ht {c:Int}{m:Nat}(h:aX c=(2,true))(hm:m<65536):-65536<=jI c m/\jI c m<=65536:=by
 by_cases hb:2^(8*2-1)<=m
 ·have e:jI c m=(m:Int)-2^(8*2):=qp (n:=2) (by rw[h];rfl) (by rw[h]) hb;rw[e];show -65536<=(m:Int)-65536/\(m:Int)-65536<=65536;omega
 ·have e:jI c m=(m:Int):=nN (n:=2) (by rw[h];rfl) (fun hh=>hb hh.2);rw[e];omega
theorem iY {s:List UInt8}{p:Int}{x:LQ}{z:Nat}(h:bu s p=some (x,z)):(0<=x.I9/\x.I9<=17)/\(12<=x.I9->x.I9<=16->0<=x.J7/\x.J7<=65536)/\(1<=x.I9->x.I9<=11->-65536<=x.J7/\x.J7<=65536)/\z<=5:=by
 unfold bu at h;split at h
 ·split at h
  ·cases h
  ·rename_i MQ;injection h with h;injection h with h1 h2;rw[not_or]at MQ;have hz:=gO (cz s p.toNat);subst h1;dsimp only
   generalize hc:((cz s p.toNat:Nat):Int)=c at *
   have hin:0<=c/\c<=17:=by
    have:=MQ.1;unfold aE at this;split at this
    ·rename_i hw;exact within_iff.1 hw
    ·exact absurd rfl this
   refine⟨hin,fun g1 g2=>?_,fun g1 g2=>?_,o_⟩
   ·obtain⟨e1,e2⟩:=HQ ⟨g1,g2⟩;have hl:=eZ s (p.toNat+1) (aX c).1.toNat;have:256^(aX c).1.toNat<=65536:=(by rcases e2 with e2|e2<;>rw[e2]<;>decide);rw[jI,b8 (by rw[e1];simp)];omega
   ·have hl:=eZ s (p.toNat+1) (aX c).1.toNat;rcases Jh ⟨g1,g2⟩with e|e
    ·rw[e]at hl⊢;exact Ht e hl
    ·rw[e]at hl⊢;have hl:aV s (p.toNat+1) 0<1:=hl;have e2:jI c (aV s (p.toNat+1) 0)=((aV s (p.toNat+1) 0:Nat):Int):=nN (n:=0) (by rw[e];rfl) (fun hh=>by rw[e]at hh;exact absurd hh.1 s_);show -65536<=jI c (aV s (p.toNat+1) 0)/\jI c (aV s (p.toNat+1) 0)<=65536;rw[e2];omega
 ·cases h
theorem nq (m:LP)(hs:m.Mf.length<=2000000)(ho:m.L7.length<=2000000):Sim.Spec prog 69 [.agg m.tr] (.r (.agg (m.tr.map tM))):=by
 refine ak hΓ aG func69 rfl d_ rfl ?_;repeat' ((conv=>whnf);first|refine Or.inl ?_|apply oi|apply fi|intro h|exact Y1|refine e_ rfl ?_)
 all_goals exact Q24
def dU (c:CS)(v:Int):CS:=if c.m.J5<1\/1200<c.m.J5 then⟨c.m,true⟩else⟨{gC c.m (c.m.J5-1) v with J5:=c.m.J5-1},c.bad⟩
def tw (c:CS)(a:Int):Int:=if bo a=true then aL c.m a else 0
def jA (c:CS):Int:=tw c c.m.J5
def FT (c:CS)(a v:Int):CS:=if bo a=true then⟨gC c.m a v,c.bad⟩else⟨c.m,true⟩
def kj:Nat->CS->CS
 | 0,c=>c
 | n+1,c=>kj n (dU c 0)
def mu (a n:Int):Int:=if af a (-100000) 100000=true then wr (a+n)else -1
def ET (c:CS)(a:Int):CS:=dU (cAt c a) (tw c a)
def yU (c:CS)(a:Int):CS:=FT (aq c) a (jA c)
def HF (c:CS)(k:Int):CS:=dU (aq (aq c)) (dY k (jA (aq c)) (jA c))
def Bq (c:CS)(a:Int):CS:=if jA c=0 then ou (aq c) a else aq c
def BO (c:CS)(es:List Int)(a:Int):CS:=match es[a.toNat]? with
 | some e=>⟨{(dU c c.m.K0).m with K0:=e},(dU c c.m.K0).bad⟩
 | none=>⟨c.m,true⟩
def GY (c:CS)(n:Nat):CS:=kj n ⟨{(dU c c.m.L0).m with L0:=(dU c c.m.L0).m.J5},(dU c c.m.L0).bad⟩
def qFp (c:CS):CS:=⟨{(aq c).m with L0:=jA c},(aq c).bad⟩
def qPc (c:CS):CS:=⟨{(aq c).m with K0:=jA c},(aq c).bad⟩
def vM (c:CS)(n:Nat):CS:=if af (aq c).m.L0 0 1200=true then dU (bz n (qPc (qFp (cX (aq c))))) (jA c)else⟨(aq c).m,true⟩
def Ef (c:CS)(n:Nat):CS:=dU (bz (n%16) (qPc (bz (n/16) (aq c)))) (jA c)
def Cm (c:CS):CS:=⟨{(aq c).m with L7:=(aq c).m.L7++[jA c]},(aq c).bad⟩
def eK (es:List Int)(c:CS)(x:LQ):CS:=
 if x.I9=0 then dU c x.J7
 else if x.I9=1 then ET c (mu c.m.L0 x.J7)
 else if x.I9=3 then ET c (wr (c.m.J5+x.J7))
 else if x.I9=2 then yU c (mu c.m.L0 x.J7)
 else if x.I9=4 then yU c (wr (c.m.J5+x.J7))
 else if x.I9=10 then ou c x.J7
 else if x.I9=11 then Bq c x.J7
 else if x.I9=12 then BO c es x.J7
 else if x.I9=13 then GY c x.J7.toNat
 else if x.I9=15 then kj x.J7.toNat c
 else if x.I9=14 then vM c x.J7.toNat
 else if x.I9=16 then Ef c x.J7.toNat
 else if x.I9=17 then Cm c
 else HF c (x.I9-3)
def Rel (c d:CS):Prop:=c.bad=d.bad/\(c.bad=false->c.m=d.m/\0<=c.m.J5/\c.m.J5<=1200)
theorem Rel.bad {m m':LP}:Rel ⟨m,true⟩ ⟨m',true⟩:=⟨rfl,fun h=>by cases h⟩
theorem yj {c:CS}{v:Int}(h:c.bad=true):(bi c v).bad=true:=by simp[bi,h]
theorem ry {c:CS}{v:Int}(h:c.bad=true):(dU c v).bad=true:=by unfold dU;split<;>simp[h]
theorem mt {c:CS}(h:c.bad=true):(aq c).bad=true:=by simp[aq,h]
theorem Hi {c:CS}(h:bo c.m.J5=false):(aq c).bad=true:=by simp[aq,h]
theorem rJ:∀{n:Nat} {c:CS},c.bad=true->(bz n c).bad=true
 | 0,_,h=>h
 | n+1,_,h=>rJ (n:=n) (mt h)
theorem Rel.of_bad {c d:CS}(h1:c.bad=true)(h2:d.bad=true):Rel c d:=⟨h1.trans h2.symm,fun h=>by rw[h1]at h;cases h⟩
theorem iw {c d:CS}{v v':Int}(h:Rel c d)(hv:c.bad=false->v=v'):Rel (bi c v) (dU d v'):=by
 obtain⟨h1,h2⟩:=h
 cases hb:c.bad with
 | true=>exact .of_bad (yj hb) (ry (h1▸hb))
 | false=>
  obtain⟨h3,h4,h5⟩:=h2 hb;obtain⟨m,b⟩:=c;obtain⟨m',b'⟩:=d
  dsimp only at *
  subst h3;subst h1;subst hb;rw[hv rfl];unfold bi dU;dsimp only;have hw:wr (m.J5-1)=m.J5-1:=c6 _ o_;rw[hw];by_cases hs:m.J5<1\/1200<m.J5
  ·have hn:bo (m.J5-1)=false:=by cases hi:bo (m.J5-1)with|false=>rfl|true=>have:=inStk_iff.1 hi;omega
   rw[c7 hs,c7 (by simp[hn])];exact .bad
  ·have hn:bo (m.J5-1)=true:=inStk_iff.2 o_;rw[b8 hs,b8 (by simp[hn])];exact⟨rfl,fun _=>⟨rfl,g_,g_⟩⟩
theorem fG {c d:CS}(h:Rel c d):Rel (aq c) (aq d):=by
 obtain⟨h1,h2⟩:=h
 cases hb:c.bad with
 | true=>exact .of_bad (mt hb) (mt (h1▸hb))
 | false=>
  obtain⟨h3,h4,h5⟩:=h2 hb;obtain⟨m,b⟩:=c;obtain⟨m',b'⟩:=d
  dsimp only at *
  subst h3;subst h1;subst hb;refine⟨rfl,fun hn=>⟨rfl,?_⟩⟩;unfold aq at hn⊢;dsimp only at hn⊢;split at hn
  ·cases hn
  ·rename_i hi;rw[b8 hi];have:bo m.J5=true:=(by simpa using hi);have:=inStk_iff.1 this;dsimp only;omega
theorem ij {c d:CS}(h:Rel c d)(hb:(aq c).bad=false):li c=jA d:=by
 obtain⟨h1,h2⟩:=h;unfold aq at hb;split at hb
 ·cases hb
 ·rename_i hi;have SS:c.bad=false/\bo c.m.J5=true:=by simpa using hi
  obtain⟨h3,_⟩:=h2 SS.1;unfold li jA tw;rw[b8 hi,<-h3,c7 SS.2]
theorem qI:∀{n:Nat} {c d:CS},Rel c d->Rel (bz n c) (bz n d)
 | 0,_,_,h=>h
 | n+1,_,_,h=>qI (n:=n) (fG h)
theorem rD:∀{n:Nat} {c:CS},(bz n c).bad=false->c.bad=false
 | n,c,h=>by cases hb:c.bad with
  | false=>rfl
  | true=>rw[rJ hb]at h;cases h
theorem qz {c:CS}(h:(aq c).bad=false):c.bad=false:=by cases hb:c.bad with
  | false=>rfl
  | true=>rw[mt hb]at h;cases h
theorem qV:∀{n:Nat} {c d:CS},Rel c d->Rel (dC n c) (kj n d)
 | 0,_,_,h=>h
 | n+1,_,_,h=>qV (n:=n) (iw h fun _=>rfl)
theorem Ap {c d:CS}{a a':Int}(h:Rel c d)(hi:bo a=bo a')(ha:bo a=true->a=a'):Rel (gB c a) (ET d a'):=by
 obtain⟨h1,h2⟩:=h;unfold gB ET cAt;rw[<-hi]
 cases hb:c.bad with
 | true=>exact .of_bad s_ (ry (by simp[<-h1,hb]))
 | false=>
  obtain⟨h3,h4,h5⟩:=h2 hb
  cases hn:bo a with
  | false=>exact .of_bad s_ (ry s_)
  | true=>
   have e:=ha hn;subst e;rw[b8 s_];refine iw ⟨?_,fun _=>⟨h3,h4,h5⟩⟩ fun _=>?_
   ·simp[<-h1,hb]
   ·rw[tw,c7 hn,h3]
theorem xu {c d:CS}{a a':Int}(h:Rel c d)(hi:bo a=bo a')(ha:bo a=true->a=a'):Rel (dm c a) (yU d a'):=by
 have hp:=fG h;have ht:=ij h;unfold dm yU FT;rw[<-hi]
 cases hb:(aq c).bad with
 | true=>
  rw[c7 s_];refine .of_bad rfl ?_;split
  ·rw[<-hp.1];exact hb
  ·rfl
 | false=>
  obtain⟨h3,h4,h5⟩:=hp.2 hb
  cases hn:bo a with
  | false=>rw[c7 s_,b8 s_];exact .bad
  | true=>have e:=ha hn;subst e;rw[b8 s_,c7 rfl,ht hb,<-h3];exact⟨by rw[<-hp.1,hb],fun _=>⟨rfl,h4,h5⟩⟩
theorem Ew {f n:Int}(hf:inI f)(hn:-65536<=n/\n<=65536):bo (wr (f+n))=bo (mu f n)/\(bo (wr (f+n))=true->wr (f+n)=mu f n):=by
 unfold mu;by_cases hw:af f (-100000) 100000=true
 ·rw[c7 hw];exact⟨rfl,fun _=>rfl⟩
 ·rw[b8 hw];have h0:¬(-100000<=f/\f<=100000):=fun h=>hw (within_iff.2 h)
  have:bo (wr (f+n))=false:=by
   cases hi:bo (wr (f+n))with
   | false=>rfl
   | true=>
    exfalso;have h1:=inStk_iff.1 hi;unfold inI at hf;have e:wr (f+n)=if(f+n)%18446744073709551616≥9223372036854775808 then(f+n)%18446744073709551616-18446744073709551616 else(f+n)%18446744073709551616:=by simp[wr,IntKind.wrap,IntKind.bits,IntKind.signed]
    rw[e]at h1;split at h1<;>omega
  rw[this];exact⟨d_,fun h=>by cases h⟩
theorem As (es:List Int)(m:LP)(x:LQ)(NB:0<=m.J5/\m.J5<=1200)(NR:inI m.L0)(hc:0<=x.I9/\x.I9<=17)(h1:12<=x.I9->x.I9<=16->0<=x.J7/\x.J7<=65536)(h2:1<=x.I9->x.I9<=11->-65536<=x.J7/\x.J7<=65536):
  Rel (bJ es ⟨m,false⟩ x) (eK es ⟨m,false⟩ x):=by
 have h0:Rel ⟨m,false⟩ ⟨m,false⟩:=⟨rfl,fun _=>⟨rfl,NB⟩⟩;obtain⟨k,a⟩:=x;dsimp only at hc h1 h2
 generalize hd:(⟨m,false⟩:CS)=d at *
 have XF:d.m.L0=m.L0:=by rw[<-hd]
 unfold bJ eK;dsimp only;by_cases e0:k=0
 ·rw[c7 e0,c7 e0];exact iw h0 fun _=>rfl
 rw[b8 e0,b8 e0];by_cases e1:k=1
 ·rw[c7 e1,c7 e1];have:=Ew (n:=a) NR (h2 o_ o_);rw[XF];exact Ap h0 this.1 this.2
 rw[b8 e1,b8 e1];by_cases e3:k=3
 ·rw[c7 e3,c7 e3];exact Ap h0 rfl fun _=>rfl
 rw[b8 e3,b8 e3];by_cases e2:k=2
 ·rw[c7 e2,c7 e2];have:=Ew (n:=a) NR (h2 o_ o_);rw[XF];exact xu h0 this.1 this.2
 rw[b8 e2,b8 e2];by_cases e4:k=4
 ·rw[c7 e4,c7 e4];exact xu h0 rfl fun _=>rfl
 rw[b8 e4,b8 e4];by_cases e59:5<=k/\k<=9
 ·rw[c7 e59,b8 o_,b8 o_,b8 o_,b8 o_,b8 o_,b8 o_,b8 o_,b8 o_];unfold la HF;refine iw (fG (fG h0)) fun hb=>?_;rw[ij h0 (qz hb),ij (fG h0) hb]
 rw[b8 e59];by_cases e10:k=10
 ·rw[c7 e10,c7 e10];unfold ou;exact⟨rfl,fun hb=>⟨rfl,(h0.2 hb).2⟩⟩
 rw[b8 e10,b8 e10];by_cases e11:k=11
 ·rw[c7 e11,c7 e11];unfold qc Bq;have hp:=fG h0
  cases hb:(aq d).bad with
  | true=>refine .of_bad ?_ ?_<;>split<;>simp[ou,hb]
  | false=>
   rw[ij h0 hb];split
   ·unfold ou;exact⟨rfl,fun hb=>⟨rfl,(hp.2 hb).2⟩⟩
   ·exact hp
 rw[b8 e11,b8 e11];by_cases e12:k=12
 ·rw[c7 e12,c7 e12];have hp:=iw (v:=d.m.K0) (v':=d.m.K0) h0 fun _=>rfl;unfold qb BO
  cases he:es[a.toNat]? with|some e=>exact⟨hp.1,fun hb=>by obtain⟨g1,g2,g3⟩:=hp.2 hb;exact⟨by dsimp only;rw[g1],g2,g3⟩⟩|none=>exact .bad
 rw[b8 e12,b8 e12];by_cases e13:k=13
 ·rw[c7 e13,c7 e13];have hp:=iw (v:=d.m.L0) (v':=d.m.L0) h0 fun _=>rfl;unfold qR GY;refine qV ⟨hp.1,fun hb=>?_⟩;obtain⟨g1,g2,g3⟩:=hp.2 hb;exact⟨by dsimp only;rw[g1],g2,g3⟩
 rw[b8 e13,b8 e13];by_cases e15:k=15
 ·rw[c7 e15,c7 e15];exact qV h0
 rw[b8 e15,b8 e15];by_cases e14:k=14
 ·rw[c7 e14,c7 e14];unfold qT vM;have hp:=fG h0;by_cases hw:af (aq d).m.L0 0 1200=true
  ·rw[c7 hw];have Wz:=within_iff.1 hw;have ML:Rel (cX (aq d)) (cX (aq d)):=⟨rfl,fun _=>⟨rfl,Wz.1,Wz.2⟩⟩;have p2:=fG ML
   have r3:Rel (cFp (cX (aq d))) (qFp (cX (aq d))):=⟨p2.1,fun hb=>by
    unfold cFp qFp;rw[ij ML hb]
    exact⟨rfl,(p2.2 hb).2⟩⟩
   have p3:=fG r3
   have r4:Rel (cPc (cFp (cX (aq d)))) (qPc (qFp (cX (aq d)))):=⟨p3.1,fun hb=>by
    obtain⟨g1,g2,g3⟩:=p3.2 hb;unfold cPc qPc;rw[ij r3 hb]
    exact⟨by dsimp only;rw[g1],g2,g3⟩⟩
   refine iw (qI r4) fun hb=>ij h0 ?_;have b0:(cPc (cFp (cX (aq d)))).bad=false:=rD hb;have b1:(aq (cFp (cX (aq d)))).bad=false:=b0;have ZE:(cFp (cX (aq d))).bad=false:=qz b1;have b2:(aq (cX (aq d))).bad=false:=ZE;have b2':(cX (aq d)).bad=false:=qz b2;exact b2'
  ·rw[b8 hw];refine .of_bad ?_ rfl;refine yj (rJ ?_);show(aq (cFp (cX (aq d)))).bad=true;refine mt ?_;show(aq (cX (aq d))).bad=true
   have hn:bo (aq d).m.L0=false:=by cases hi:bo (aq d).m.L0 with|false=>rfl|true=>exact absurd (within_iff.2 (by have:=inStk_iff.1 hi;omega)) hw
   exact Hi (c:=cX (aq d)) hn
 rw[b8 e14,b8 e14];by_cases e16:k=16
 ·rw[c7 e16,c7 e16];unfold nS Ef;have hp:=fG h0;have r2:=qI (n:=a.toNat/16) hp;have p3:=fG r2
  have r4:Rel (cPc (bz (a.toNat/16) (aq d))) (qPc (bz (a.toNat/16) (aq d))):=⟨p3.1,fun hb=>by
   obtain⟨g1,g2,g3⟩:=p3.2 hb;unfold cPc qPc;rw[ij r2 hb]
   exact⟨rfl,g2,g3⟩⟩
  refine iw (qI r4) fun hb=>ij h0 ?_;have b0:(cPc (bz (a.toNat/16) (aq d))).bad=false:=rD hb;have b1:(aq (bz (a.toNat/16) (aq d))).bad=false:=b0;have b2:(bz (a.toNat/16) (aq d)).bad=false:=qz b1;exact rD b2
 rw[b8 e16,b8 e16];have e17:k=17:=o_;rw[c7 e17,c7 e17];have hp:=fG h0;unfold KF Cm;refine⟨rfl,fun hb=>?_⟩;rw[ij h0 hb];exact⟨rfl,(hp.2 hb).2⟩
abbrev Lj (m:LP)(bad:Bool)(st out:Sim.Id):AO:= .box [.t (.int .i64 m.K0),.t (.int .i64 m.J5),.t (.int .i64 m.L0),.own st,.own out,.t (.int .i64 m.L6),.t (.int .i64 m.faG),.t (.bool bad)]
abbrev mW (c:CS):List (Sim.Id×AO):=[((0,0,0),Lj c.m c.bad (0,0,1) (0,0,2)),((0,0,1),.arr false 1 (c.m.Mf.map aa)),((0,0,2),.arr false 1 (c.m.L7.map aa))]
abbrev LC (c:CS):List (Sim.Id×AO):=[((0,0,0),Lj c.m c.bad (0,0,1) (1,0,0)),((0,0,1),.arr false 1 (c.m.Mf.map aa)),((1,0,0),.arr false 1 (c.m.L7.map aa))]
theorem V56{p:Prop}(h:p:=by
 repeat' ((conv=>whnf);first|refine Or.inl ?_|apply oi|apply fi|intro h|refine ci hb (ai rfl (ai rfl (ai rfl trivial))) ?_|exact Y1|refine e_ rfl ?_)
 all_goals try(exfalso;simp at h;done)):p:=h
theorem nc (a n:Int):Sim.Spec prog 201 [tvI a,tvI n] (rI (mu a n)):=by
 refine ak hΓ aG func201 rfl d_ rfl ?_;have hb:=aP a (-100000) 100000;unfold mu
 cases hin:af a (-100000) 100000
 all_goals
  rw[hin]at hb;exact V56
theorem er (c:CS)(v:Int)(hc:c.ok):bA prog 200 [ow,tI .i64 v] (mW c) (.tup []) (mW (dU c v)):=by
 refine eP hΓ aG func200 rfl d_ rfl rfl ?_;obtain⟨m,bad⟩:=c;unfold CS.ok at hc;unfold dU;dsimp only at hc⊢;by_cases hs:m.J5<1\/1200<m.J5
 ·rw[c7 hs];repeat' ((conv=>whnf);first|refine aI ?_|apply aB|apply oi|apply fi|intro h|exact Y15|refine e_ rfl ?_)
 ·rw[b8 hs];have hw:wr (m.J5-1)=m.J5-1:=c6 _ o_;obtain⟨j,x,hj,hx,My,_⟩:=Db (a:=m.J5-1) hc (inStk_iff.2 o_);have Mv:(m.Mf.map aa).length=m.Mf.length:=s_;repeat' ((conv=>whnf);first|refine aI ?_|apply aB|apply oi|apply fi|intro h|exact Y15|refine e_ rfl ?_)
  conv=>whnf
  refine⟨j,by rw[<-hj];exact hw,by rw[Mv];exact My,?_⟩;repeat' ((conv=>whnf);first|refine aI ?_|apply aB|apply oi|apply fi|intro h|refine⟨(aa x),ab hx,?_⟩|exact Y1|refine e_ rfl ?_)
  all_goals first
   | exact⟨congrArg (Tr.int _) hw⟩
   |(refine⟨?_⟩;rw[<-show(m.J5-1).toNat=j by rw[hj];rfl];exact AH)
theorem jx (c:CS)(a:Int)(hc:c.ok):bA prog 142 [ow,tI .i64 a] (mW c) (tI .i64 (tw c a)) (mW (cAt c a)):=by
 refine eP hΓ aG func142 rfl d_ rfl rfl ?_;obtain⟨m,bad⟩:=c;unfold CS.ok at hc;have hb:=aP a 0 1199;unfold cAt tw;dsimp only at hc⊢
 cases hi:bo a with
 | false=>
  rw[show af a 0 1199=false from hi]at hb;rw[b8 s_];repeat' ((conv=>whnf);first|refine Or.inl ?_|apply oi|apply fi|intro h|refine ci hb (ai rfl (ai rfl (ai rfl trivial))) ?_|exact Y1|refine e_ rfl ?_)
  all_goals try exact Q4
  all_goals try(refine⟨congrArg Tr.bool ?_⟩;simp)
 | true=>
  rw[show af a 0 1199=true from hi]at hb;rw[c7 rfl];obtain⟨j,x,hj,hx,My,_⟩:=Db hc hi;have Mv:(m.Mf.map aa).length=m.Mf.length:=s_;rw[show aL m a=x by simp[aL,hj,hx]];repeat' ((conv=>whnf);first|refine Or.inl ?_|apply oi|apply fi|intro h|refine ci hb (ai rfl (ai rfl (ai rfl trivial))) ?_|exact Y1|refine e_ rfl ?_)
  all_goals try exact Q4
  conv=>whnf
  refine⟨j,hj,by rw[Mv];exact My,?_⟩;repeat' ((conv=>whnf);first|refine Or.inl ?_|apply oi|apply fi|intro h|refine⟨(aa x),ab hx,?_⟩|exact Y1|refine e_ rfl ?_)
  all_goals try(refine⟨congrArg Tr.bool ?_⟩;simp)
theorem dt (c:CS)(hc:c.ok):bA prog 203 [ow] (mW c) (tI .i64 (jA c)) (mW (aq c)):=by
 refine eP hΓ aG func203 rfl d_ rfl rfl ?_;have hP:=jx c c.m.J5 hc;obtain⟨m,bad⟩:=c
 unfold jA aq cAt at *
 dsimp only at hP⊢
 cases hB:(bad||!bo m.J5)with
 | true=>
  rw[hB]at hP;repeat' ((conv=>whnf);first|refine cg hP ?_|refine aI ?_|apply aB|apply oi|apply fi|intro h|exact Y1|refine e_ rfl ?_)
  all_goals try exact Q4
 | false=>
  rw[hB]at hP;obtain⟨_,hin⟩:=Fe hB;have:=inStk_iff.1 hin;have hw:IntKind.i64.wrap (m.J5+1)=m.J5+1:=c6 _ o_;repeat' ((conv=>whnf);first|refine cg hP ?_|refine aI ?_|apply aB|apply oi|apply fi|intro h|exact Y1|refine e_ rfl ?_)
  all_goals try exact Q4
  all_goals exact⟨congrArg (Tr.int _) hw⟩
theorem xf (c:CS)(a v:Int)(hc:c.ok):bA prog 202 [ow,tI .i64 a,tI .i64 v] (mW c) (.tup []) (mW (FT c a v)):=by
 refine eP hΓ aG func202 rfl d_ rfl rfl ?_;obtain⟨m,bad⟩:=c;unfold CS.ok at hc;have hb:=aP a 0 1199;unfold FT;dsimp only at hc⊢
 cases hi:bo a with
 | false=>
  rw[show af a 0 1199=false from hi]at hb;rw[b8 s_]
  exact V56
 | true=>
  rw[show af a 0 1199=true from hi]at hb;rw[c7 rfl];obtain⟨j,x,hj,hx,My,_⟩:=Db hc hi;have Mv:(m.Mf.map aa).length=m.Mf.length:=s_;repeat' ((conv=>whnf);first|refine Or.inl ?_|apply oi|apply fi|intro h|refine ci hb (ai rfl (ai rfl (ai rfl trivial))) ?_|exact Y1|refine e_ rfl ?_)
  all_goals try exact Q4
  conv=>whnf
  refine⟨j,hj,by rw[Mv];exact My,?_⟩;repeat' ((conv=>whnf);first|refine Or.inl ?_|apply oi|apply fi|intro h|refine⟨(aa x),ab hx,?_⟩|exact Y1|refine e_ rfl ?_)
  all_goals try(refine⟨?_⟩;rw[<-show a.toNat=j by rw[hj];rfl];exact AH)
theorem eN {c:CS}{v:Int}(h:c.ok):(dU c v).ok:=by
 unfold dU CS.ok at *
 split
 ·exact h
 ·simpa [gC]using h
theorem rK:∀{n:Nat} {c:CS},c.ok->(kj n c).ok
 | 0,_,h=>h
 | n+1,c,h=>rK (n:=n) (eN h)
theorem GB {c:CS}{a:Int}(h:c.ok):(cAt c a).ok:=h
theorem V64{p:Prop}(h:p:=by
 subst hr;repeat' ((conv=>whnf);first|refine aI ?_|apply aB|apply oi|apply fi|intro h|exact Y1|refine e_ rfl ?_)
 all_goals try(exfalso;have h':=f0 h;omega)):p:=h
theorem oZ (c:CS)(n:Nat)(hc:c.ok)(hn:n<=65536):bA prog 205 [ow,tI .i64 (n:Int)] (mW c) (.tup []) (mW (bz n c)):=by
 refine eP hΓ aG func205 rfl d_ rfl rfl ?_;obtain⟨R,hR⟩:∃R,bz n c=R:=⟨_,rfl⟩;rw[hR];repeat' ((conv=>whnf);first|refine aI ?_|apply aB|apply oi|apply fi|intro h|exact Y1|refine e_ rfl ?_)
 conv=>whnf
 refine⟨{q:Nat×CS//q.1<=n/\q.2.ok/\bz (n-q.1) q.2=R},fun q=>⟨[(0,ow),(1,tI .i64 (n:Int)),(4,tI .i64 (q.1.1:Int))],(mW q.1.2).map fun p=>(p.1,some p.2),[0]⟩,fun q=>n-q.1.1,⟨(0,c),o_,hc,hR⟩,?_,?_⟩
 ·repeat' ((conv=>whnf);first|refine aI ?_|apply aB|apply oi|apply fi|intro h|exact Y1|refine e_ rfl ?_)
 intro⟨⟨k,d⟩,hk,hd,hr⟩;dsimp only at hk hd hr⊢;by_cases My:k<n
 ·obtain⟨j,hj⟩:∃j,n-k=j+1:=⟨n-k-1,o_⟩;rw[hj,bz]at hr;have hP:=dt d hd;repeat' ((conv=>whnf);first|refine cg hP ?_|refine aI ?_|apply aB|apply oi|apply fi|intro h|exact Y1|refine e_ rfl ?_)
  all_goals try exact Q19
  conv=>whnf
  refine⟨⟨(k+1,aq d),g_,bh hd,by rw[show n-(k+1)=j by omega];exact hr⟩,?_,KD⟩;repeat' ((conv=>whnf);first|refine aI ?_|apply aB|apply oi|apply fi|intro h|exact Y1|refine e_ rfl ?_)
  all_goals try(refine⟨congrArg (Tr.int _) ?_⟩;dsimp only;rw[c6 _ o_];omega)
 ·rw[show n-k=0 by omega,bz]at hr;exact V64
theorem sA (c:CS)(n:Nat)(hc:c.ok)(hn:n<=65536):bA prog 204 [ow,tI .i64 (n:Int)] (mW c) (.tup []) (mW (kj n c)):=by
 refine eP hΓ aG func204 rfl d_ rfl rfl ?_;obtain⟨R,hR⟩:∃R,kj n c=R:=⟨_,rfl⟩;rw[hR];repeat' ((conv=>whnf);first|refine aI ?_|apply aB|apply oi|apply fi|intro h|exact Y1|refine e_ rfl ?_)
 conv=>whnf
 refine⟨{q:Nat×CS//q.1<=n/\q.2.ok/\kj (n-q.1) q.2=R},fun q=>⟨[(0,ow),(1,tI .i64 (n:Int)),(4,tI .i64 (q.1.1:Int))],(mW q.1.2).map fun p=>(p.1,some p.2),[0]⟩,fun q=>n-q.1.1,⟨(0,c),o_,hc,hR⟩,?_,?_⟩
 ·repeat' ((conv=>whnf);first|refine aI ?_|apply aB|apply oi|apply fi|intro h|exact Y1|refine e_ rfl ?_)
 intro⟨⟨k,d⟩,hk,hd,hr⟩;dsimp only at hk hd hr⊢;by_cases My:k<n
 ·obtain⟨j,hj⟩:∃j,n-k=j+1:=⟨n-k-1,o_⟩;rw[hj,kj]at hr;have hP:=er d 0 hd;repeat' ((conv=>whnf);first|refine cg hP ?_|refine aI ?_|apply aB|apply oi|apply fi|intro h|exact Y1|refine e_ rfl ?_)
  all_goals try exact Q19
  conv=>whnf
  refine⟨⟨(k+1,dU d 0),g_,eN hd,by rw[show n-(k+1)=j by omega];exact hr⟩,?_,KD⟩;repeat' ((conv=>whnf);first|refine aI ?_|apply aB|apply oi|apply fi|intro h|exact Y1|refine e_ rfl ?_)
  all_goals try(refine⟨congrArg (Tr.int _) ?_⟩;dsimp only;rw[c6 _ o_];omega)
 ·rw[show n-k=0 by omega,kj]at hr;exact V64
theorem Jl {v v':Int}{R:List Sim.Id}(h:v=v'):(⟨tI .i64 v,[],none,R⟩:Eff)=⟨tI .i64 v',[],none,R⟩:=by rw[h]
def adv (c:CS)(z:Int):CS:=⟨{c.m with K0:=wr (c.m.K0+z)},c.bad⟩
theorem V77{p:Prop}(h:p:=by
 repeat' ((conv=>whnf);first|refine cg hQ ?_|refine cg hP ?_|refine aI ?_|apply aB|apply oi|apply fi|intro h|exact Y1|refine e_ rfl ?_)):p:=h
theorem wY (s:LW)(c:CS)(x:LQ)(z:Int)(hc:c.ok)(hx:x.I9≠17)(h0:0<=x.I9/\x.I9<=17)(ha:12<=x.I9->x.I9<=16->0<=x.J7/\x.J7<=65536)(he:s.L9.length<=1048576):bA prog 141 [.r (.agg (s.tr.map .t)),ow,opV x,tI .i64 z] (mW c) (.tup []) (mW (eK s.L9 (adv c z) x)):=by
 obtain⟨k,a⟩:=x;dsimp only at hx ha h0;refine eP hΓ aG func141 rfl d_ rfl rfl ?_;obtain⟨d,hd⟩:∃d,adv c z=d:=⟨_,rfl⟩;have hdo:d.ok:=by rw[<-hd];exact hc
 by_cases e0:k=0
 ·subst e0;have hP:=er (adv c z) a hc;repeat' ((conv=>whnf);first|refine cg hP ?_|refine aI ?_|apply aB|apply oi|apply fi|intro h|exact Y1|refine e_ rfl ?_)
 by_cases e1:k=1
 ·subst e1;have hN:=nc c.m.L0 a;have hQ:=jx (adv c z) (mu c.m.L0 a) hc;have hP:=er (cAt (adv c z) (mu c.m.L0 a)) (tw (adv c z) (mu c.m.L0 a)) hc;repeat' ((conv=>whnf);first|refine cg hQ ?_|refine cg hP ?_|refine aI ?_|apply aB|apply oi|apply fi|intro h|refine cl hN ?_|exact Y1|refine e_ rfl ?_)
 by_cases e3:k=3
 ·subst e3;have hQ:=jx (adv c z) (wr (c.m.J5+a)) hc;have hP:=er (cAt (adv c z) (wr (c.m.J5+a))) (tw (adv c z) (wr (c.m.J5+a))) hc;exact V77
 by_cases e2:k=2
 ·subst e2;have hN:=nc c.m.L0 a;have hQ:=dt (adv c z) hc;have hP:=xf (aq (adv c z)) (mu c.m.L0 a) (jA (adv c z)) (bh hc);have hf:(aq (adv c z)).m.L0=c.m.L0:=by unfold aq;split<;>rfl
  repeat' ((conv=>whnf);first|refine cg hQ ?_|refine cg hP ?_|refine aI ?_|refine ER 5 10 ?_|apply oi|apply fi|intro h|refine cl hN ?_|exact Y16|refine e_ rfl ?_)
  all_goals(refine⟨?_⟩;(conv=>whnf);exact Jl hf)
 by_cases e4:k=4
 ·subst e4;have hQ:=dt (adv c z) hc;have hP:=xf (aq (adv c z)) (wr (c.m.J5+a)) (jA (adv c z)) (bh hc);exact V77
 by_cases e10:k=10
 ·subst e10;repeat' ((conv=>whnf);first|refine aI ?_|apply aB|apply oi|apply fi|intro h|exact Y1|refine e_ rfl ?_)
 by_cases e11:k=11
 ·subst e11;have hP:=dt (adv c z) hc;by_cases hz:jA (adv c z)=0
  ·rw[show eK s.L9 (adv c z) ⟨11,a⟩=ou (aq (adv c z)) a by simp[eK,Bq,hz]];repeat' ((conv=>whnf);first|refine cg hP ?_|refine aI ?_|apply aB|apply oi|apply fi|intro h|exact Y1|refine e_ rfl ?_)
   all_goals try(exfalso;rw[hz]at h;simp at h;done)
  ·rw[show eK s.L9 (adv c z) ⟨11,a⟩=aq (adv c z) by simp[eK,Bq,hz]];repeat' ((conv=>whnf);first|refine cg hP ?_|refine aI ?_|apply aB|apply oi|apply fi|intro h|exact Y1|refine e_ rfl ?_)
   all_goals try(exfalso;exact hz aae)
 by_cases e12:k=12
 ·subst e12;obtain⟨a0,a1⟩:=ha o_ o_;obtain⟨n,rfl⟩:=j6 a0;have hP:=er (adv c z) (adv c z).m.K0 hc;have M6:(s.L9.map aa).length=s.L9.length:=s_;by_cases hn:n<s.L9.length
  ·obtain⟨e,NL⟩:=ae hn;rw[show eK s.L9 (adv c z) ⟨12,(n:Int)⟩=⟨{(dU (adv c z) (adv c z).m.K0).m with K0:=e},(dU (adv c z) (adv c z).m.K0).bad⟩ by simp[eK,BO,NL]];repeat' ((conv=>whnf);first|refine cg hP ?_|refine aI ?_|apply aB|apply oi|apply fi|intro h|refine⟨n,(aa e),rfl,ab NL,?_⟩|exact Y1|refine e_ rfl ?_)
   all_goals try(exfalso;have h':=f0 h;rw[M6]at h';dsimp only at h';omega)
  ·have Pt:s.L9[n]?=none:=e9 o_;rw[show eK s.L9 (adv c z) ⟨12,(n:Int)⟩=⟨(adv c z).m,true⟩ by simp[eK,BO,Pt]];repeat' ((conv=>whnf);first|refine cg hP ?_|refine aI ?_|apply aB|apply oi|apply fi|intro h|exact Y1|refine e_ rfl ?_)
   all_goals try(exfalso;have h':=f9 h;rw[M6]at h';dsimp only at h';omega)
 by_cases e13:k=13
 ·subst e13;obtain⟨a0,a1⟩:=ha o_ o_;obtain⟨n,rfl⟩:=j6 a0;have hP:=er (adv c z) c.m.L0 hc;have hZ:=sA ⟨{(dU (adv c z) c.m.L0).m with L0:=(dU (adv c z) c.m.L0).m.J5},(dU (adv c z) c.m.L0).bad⟩ n (eN (c:=adv c z) hc) o_;repeat' ((conv=>whnf);first|refine cg hP ?_|refine cg hZ ?_|refine aI ?_|apply aB|apply oi|apply fi|intro h|exact Y1|refine e_ rfl ?_)
 by_cases e15:k=15
 ·subst e15;obtain⟨a0,a1⟩:=ha o_ o_;obtain⟨n,rfl⟩:=j6 a0;have hZ:=sA (adv c z) n hc o_;repeat' ((conv=>whnf);first|refine cg hZ ?_|refine aI ?_|apply aB|apply oi|apply fi|intro h|exact Y1|refine e_ rfl ?_)
 by_cases e14:k=14
 ·subst e14;obtain⟨a0,a1⟩:=ha o_ o_;obtain⟨n,rfl⟩:=j6 a0;have P3:=dt (adv c z) hc;have hb:=aP (aq (adv c z)).m.L0 0 1200
  cases hw:af (aq (adv c z)).m.L0 0 1200 with
  | false=>
   rw[hw]at hb;rw[show eK s.L9 (adv c z) ⟨14,(n:Int)⟩=⟨(aq (adv c z)).m,true⟩ by simp[eK,vM,hw]];repeat' ((conv=>whnf);first|refine cg P3 ?_|refine aI ?_|apply aB|apply oi|apply fi|intro h|refine cl hb ?_|exact Y1|refine e_ rfl ?_)
   all_goals try exact Q4
  | true=>
   rw[hw]at hb;rw[show eK s.L9 (adv c z) ⟨14,(n:Int)⟩=dU (bz n (qPc (qFp (cX (aq (adv c z)))))) (jA (adv c z)) by simp[eK,vM,hw]];have o1:(cX (aq (adv c z))).ok:=bh (c:=adv c z) hc;have o2:(qFp (cX (aq (adv c z)))).ok:=bh o1;have o3:(qPc (qFp (cX (aq (adv c z))))).ok:=bh o2;have Ss:=dt (cX (aq (adv c z))) o1;have Wh:=dt (qFp (cX (aq (adv c z)))) o2;have hD:=oZ (qPc (qFp (cX (aq (adv c z))))) n o3 o_;have Wk:=er (bz n (qPc (qFp (cX (aq (adv c z)))))) (jA (adv c z)) (fB o3);repeat' ((conv=>whnf);first|refine aI ?_|apply aB|apply oi|apply fi|intro h|exact Y1|refine e_ rfl ?_)
   refine cg (P3) ?_;repeat' ((conv=>whnf);first|refine aI ?_|apply aB|apply oi|apply fi|intro h|refine cl hb ?_|exact Y1|refine e_ rfl ?_)
   all_goals try exact Q4
   refine cg (Ss) ?_;repeat' ((conv=>whnf);first|refine aI ?_|apply aB|apply oi|apply fi|intro h|exact Y1|refine e_ rfl ?_)
   refine cg (Wh) ?_;repeat' ((conv=>whnf);first|refine cg hD ?_|refine cg Wk ?_|refine aI ?_|apply aB|apply oi|apply fi|intro h|exact Y1|refine e_ rfl ?_)
 by_cases e16:k=16
 ·subst e16;obtain⟨a0,a1⟩:=ha o_ o_;obtain⟨n,rfl⟩:=j6 a0;have o1:(aq (adv c z)).ok:=bh (c:=adv c z) hc;have o2:(bz (n/16) (aq (adv c z))).ok:=fB o1;have o3:(qPc (bz (n/16) (aq (adv c z)))).ok:=bh o2
  have w1:IntKind.i64.wrap ((n:Int).tdiv 16)=((n/16:Nat):Int):=by rw[Int.tdiv_eq_ediv_of_nonneg o_,c6 _ o_];rfl
  have w2:(n:Int).tmod 16=((n%16:Nat):Int):=by rw[Int.tmod_eq_emod_of_nonneg o_];rfl
  have P3:=dt (adv c z) hc;have UK:=oZ (aq (adv c z)) (n/16) o1 o_;have Ss:=dt (bz (n/16) (aq (adv c z))) o2;have UL:=oZ (qPc (bz (n/16) (aq (adv c z)))) (n%16) o3 o_;have Wk:=er (bz (n%16) (qPc (bz (n/16) (aq (adv c z))))) (jA (adv c z)) (fB o3);rw[<-w1]at UK;rw[<-w2]at UL;repeat' ((conv=>whnf);first|refine aI ?_|apply aB|apply oi|apply fi|intro h|exact Y1|refine e_ rfl ?_)
  refine cg (P3) ?_;repeat' ((conv=>whnf);first|refine aI ?_|apply aB|apply oi|apply fi|intro h|exact Y1|refine e_ rfl ?_)
  refine cg (UK) ?_;repeat' ((conv=>whnf);first|refine aI ?_|apply aB|apply oi|apply fi|intro h|exact Y1|refine e_ rfl ?_)
  refine cg (Ss) ?_;repeat' ((conv=>whnf);first|refine aI ?_|apply aB|apply oi|apply fi|intro h|exact Y1|refine e_ rfl ?_)
  refine cg (UL) ?_;repeat' ((conv=>whnf);first|refine aI ?_|apply aB|apply oi|apply fi|intro h|exact Y1|refine e_ rfl ?_)
  refine cg (Wk) ?_;repeat' ((conv=>whnf);first|refine aI ?_|apply aB|apply oi|apply fi|intro h|exact Y1|refine e_ rfl ?_)
 ·have o1:(aq (adv c z)).ok:=bh (c:=adv c z) hc;have P3:=dt (adv c z) hc;have Ss:=dt (aq (adv c z)) o1;have Wh:=er (aq (aq (adv c z))) (dY (k-3) (jA (aq (adv c z))) (jA (adv c z))) (bh o1);have hA:=pM (k-3) (jA (aq (adv c z))) (jA (adv c z));have e:k=5\/k=6\/k=7\/k=8\/k=9:=o_;rcases e with rfl|rfl|rfl|rfl|rfl
  all_goals
   repeat' ((conv=>whnf);first|refine aI ?_|apply aB|apply oi|apply fi|intro h|exact Y1|refine e_ rfl ?_)
   refine cg (P3) ?_;repeat' ((conv=>whnf);first|refine aI ?_|apply aB|apply oi|apply fi|intro h|exact Y1|refine e_ rfl ?_)
   refine cg (Ss) ?_;repeat' ((conv=>whnf);first|refine aI ?_|apply aB|apply oi|apply fi|intro h|refine cl hA ?_|exact Y1|refine e_ rfl ?_)
   refine cg (Wh) ?_;repeat' ((conv=>whnf);first|refine aI ?_|apply aB|apply oi|apply fi|intro h|exact Y1|refine e_ rfl ?_)
theorem Fh (s:LW)(c:CS)(a z:Int)(hc:c.ok)(ho:c.m.L7.length<=2000000):bA prog 141 [.r (.agg (s.tr.map .t)),ow,opV ⟨17,a⟩,tI .i64 z] (mW c) (.tup []) (LC (Cm (adv c z))):=by
 refine eP hΓ aG func141 rfl d_ rfl rfl ?_;have hP:=dt (adv c z) hc;have XO:(aq (adv c z)).m.L7.length<=2000000:=by unfold aq;split<;>exact ho
 repeat' ((conv=>whnf);first|refine cg hP ?_|refine aI ?_|refine ER 5 7 ?_|apply oi|apply fi|intro h|exact Y16|refine e_ rfl ?_)
 all_goals(refine⟨?_⟩;first|(refine And.intro ?_ ?_<;>simp only[e7,c8,d5,i8]<;>omega)|simp[Cm,aa])
end Go.Proofs.P
namespace Go.Proofs.P
open Go.Sim Tryz
set_option maxRecDepth 100000
set_option maxHeartbeats 8000000
theorem aU {p:Prop}[Decidable p](Q:CS->Prop){a b:CS}(ha:Q a)(hb:Q b):Q (if p then a else b):=by split<;>assumption
theorem In {es:List Int}{c:CS}{x:LQ}(h:c.ok):(bJ es c x).ok:=by
 unfold bJ
 refine aU (CS.ok) (by
  exact gw h) ?_
 refine aU (CS.ok) (by
  exact AY h) ?_
 refine aU (CS.ok) (by
  exact AY h) ?_
 refine aU (CS.ok) (by
  exact xJ h) ?_
 refine aU (CS.ok) (by
  exact xJ h) ?_
 refine aU (CS.ok) (by
  exact gw (bh (bh h))) ?_
 refine aU (CS.ok) (by
  exact h) ?_
 refine aU (CS.ok) (by
  unfold qc;split
  ·exact bh h
  ·exact bh h) ?_
 refine aU (CS.ok) (by
  unfold qb;split
  ·exact gw h
  ·exact gw h) ?_
 refine aU (CS.ok) (by
  exact rF (gw h)) ?_
 refine aU (CS.ok) (by
  exact rF h) ?_
 refine aU (CS.ok) (by
  exact gw (fB (bh (bh (bh h))))) ?_
 refine aU (CS.ok) (by
  exact gw (fB (bh (fB (bh h))))) ?_
 refine aU (CS.ok) (by
  exact bh h) ?_
 exact h
def MW (m:LP):Prop:=(∀w∈m.Mf,inI w)/\inI m.K0/\inI m.L0
theorem Hx (n:Int):inI (wr n):=by
 have e:wr n=if n%18446744073709551616≥9223372036854775808 then n%18446744073709551616-18446744073709551616 else n%18446744073709551616:=by simp[wr,IntKind.wrap,IntKind.bits,IntKind.signed]
 unfold inI;rw[e];split<;>omega
theorem tZ:inI 0:=by unfold inI;omega
theorem xp {m:LP}(h:MW m)(a:Int):inI (aL m a):=by
 unfold aL;split
 ·rename_i x hx;exact h.1 _ (c9 hx)
 ·exact tZ
theorem Au {m:LP}(h:MW m){a v:Int}(hv:inI v):MW (gC m a v):=by
 refine⟨fun w hw=>?_,h.2⟩;rcases u6 hw with h1|h1
 ·exact h.1 w h1
 ·rw[h1];exact hv
theorem iB {c:CS}(h:MW c.m){v:Int}(hv:inI v):MW (bi c v).m:=by
 unfold bi;split
 ·exact h
 ·exact⟨(Au h hv).1,h.2⟩
theorem eX {c:CS}(h:MW c.m):MW (aq c).m:=by
 unfold aq;split
 ·exact h
 ·exact h
theorem pQ {c:CS}(h:MW c.m):inI (li c):=by
 unfold li;split
 ·exact tZ
 ·exact xp h _
theorem qD:∀{n:Nat} {c:CS},MW c.m->MW (bz n c).m
 | 0,_,h=>h
 | n+1,_,h=>qD (n:=n) (eX h)
theorem qW:∀{n:Nat} {c:CS},MW c.m->MW (dC n c).m
 | 0,_,h=>h
 | n+1,_,h=>qW (n:=n) (iB h tZ)
theorem Bw {c:CS}{a:Int}(h:MW c.m):MW (gB c a).m:=by
 unfold gB;split
 ·exact h
 ·exact iB (c:=⟨c.m,false⟩) h (xp h a)
theorem xX {c:CS}{a:Int}(h:MW c.m):MW (dm c a).m:=by
 have:=eX h;unfold dm;split
 ·exact this
 ·exact Au this (pQ h)
theorem DB (n:Int):inI (w32 n):=by have:=ru n;unfold inI;omega
theorem FM (k a b:Int):inI (dY k a b):=by
 unfold dY;repeat' split
 ·exact DB _
 ·exact DB _
 ·exact DB _
 ·unfold inI;omega
 ·exact tZ
theorem Kt {c:CS}(h:MW c.m):MW (cFp c).m:=⟨(eX h).1,(eX h).2.1,pQ h⟩
theorem GU {c:CS}(h:MW c.m):MW (cPc c).m:=⟨(eX h).1,pQ h,(eX h).2.2⟩
theorem Jb {c:CS}(h:MW c.m):MW (cX c).m:=h
theorem Ch {c:CS}(h:MW c.m)(a:Int):MW (ou c a).m:=⟨h.1,Hx _,h.2.2⟩
theorem Ba {c:CS}(h:MW c.m)(hs:inI c.m.J5)(v:Int):inI (bi c v).m.J5:=by
 unfold bi;split
 ·exact hs
 ·exact Hx _
theorem GT {es:List Int}{c:CS}{x:LQ}(h:MW c.m)(hs:inI c.m.J5)(ha:inI x.J7)(he:∀e∈es,inI e):MW (bJ es c x).m:=by
 unfold bJ
 refine aU (fun c=>MW c.m) (by
  exact iB h ha) ?_
 refine aU (fun c=>MW c.m) (by
  exact Bw h) ?_
 refine aU (fun c=>MW c.m) (by
  exact Bw h) ?_
 refine aU (fun c=>MW c.m) (by
  exact xX h) ?_
 refine aU (fun c=>MW c.m) (by
  exact xX h) ?_
 refine aU (fun c=>MW c.m) (by
  exact iB (eX (eX h)) (FM _ _ _)) ?_
 refine aU (fun c=>MW c.m) (by
  exact Ch h _) ?_
 refine aU (fun c=>MW c.m) (by
  unfold qc;split
  ·exact Ch (eX h) _
  ·exact eX h) ?_
 refine aU (fun c=>MW c.m) (by
  have hp:=iB h h.2.1;unfold qb;split
  ·rename_i e NL;exact⟨hp.1,he _ (c9 NL),hp.2.2⟩
  ·exact hp) ?_
 refine aU (fun c=>MW c.m) (by
  have hp:=iB h h.2.2
  exact qW (c:=⟨{(bi c c.m.L0).m with L0:=(bi c c.m.L0).m.J5},(bi c c.m.L0).bad⟩) ⟨hp.1,hp.2.1,Ba h hs _⟩) ?_
 refine aU (fun c=>MW c.m) (by
  exact qW h) ?_
 refine aU (fun c=>MW c.m) (by
  exact iB (qD (GU (Kt (Jb (eX h))))) (pQ h)) ?_
 refine aU (fun c=>MW c.m) (by
  exact iB (qD (GU (qD (eX h)))) (pQ h)) ?_
 refine aU (fun c=>MW c.m) (by
  exact eX h) ?_
 exact h
theorem fd {c:CS}{v:Int}:(bi c v).m.L7=c.m.L7:=by unfold bi;split<;>rfl
theorem cPop_out' {c:CS}:(aq c).m.L7=c.m.L7:=by unfold aq;split<;>rfl
theorem cDrop_out:∀{n:Nat} {c:CS},(bz n c).m.L7=c.m.L7
 | 0,_=>rfl
 | n+1,c=>by rw[bz,cDrop_out (n:=n),cPop_out']
theorem oH:∀{n:Nat} {c:CS},(dC n c).m.L7=c.m.L7
 | 0,_=>rfl
 | n+1,c=>by rw[dC,oH (n:=n),fd]
theorem yi {c:CS}{a:Int}:(gB c a).m.L7=c.m.L7:=by
 unfold gB;split
 ·rfl
 ·exact fd
theorem vJ {c:CS}{a:Int}:(dm c a).m.L7=c.m.L7:=by
 unfold dm;split
 ·exact cPop_out'
 ·exact cPop_out'
theorem Fi {es:List Int}{c:CS}{x:LQ}:(bJ es c x).m.L7.length<=c.m.L7.length+1:=by
 have key:∀l:List Int,l=c.m.L7->l.length<=c.m.L7.length+1:=fun l h=>by rw[h];omega
 unfold bJ
 refine aU (fun d=>d.m.L7.length<=c.m.L7.length+1) (by
  exact key _ fd) ?_
 refine aU (fun d=>d.m.L7.length<=c.m.L7.length+1) (by
  exact key _ yi) ?_
 refine aU (fun d=>d.m.L7.length<=c.m.L7.length+1) (by
  exact key _ yi) ?_
 refine aU (fun d=>d.m.L7.length<=c.m.L7.length+1) (by
  exact key _ vJ) ?_
 refine aU (fun d=>d.m.L7.length<=c.m.L7.length+1) (by
  exact key _ vJ) ?_
 refine aU (fun d=>d.m.L7.length<=c.m.L7.length+1) (by
  exact key _ (by rw[la,fd,cPop_out',cPop_out'])) ?_
 refine aU (fun d=>d.m.L7.length<=c.m.L7.length+1) (by
  exact key _ rfl) ?_
 refine aU (fun d=>d.m.L7.length<=c.m.L7.length+1) (by
  refine key _ ?_;unfold qc;split
  ·exact cPop_out'
  ·exact cPop_out') ?_
 refine aU (fun d=>d.m.L7.length<=c.m.L7.length+1) (by
  refine key _ ?_;unfold qb;split
  ·exact fd
  ·exact fd) ?_
 refine aU (fun d=>d.m.L7.length<=c.m.L7.length+1) (by
  refine key _ ?_;rw[qR,oH];exact fd) ?_
 refine aU (fun d=>d.m.L7.length<=c.m.L7.length+1) (by
  exact key _ oH) ?_
 refine aU (fun d=>d.m.L7.length<=c.m.L7.length+1) (by
  refine key _ ?_;rw[qT,fd,cDrop_out]
  exact cPop_out'.trans (cPop_out'.trans cPop_out')) ?_
 refine aU (fun d=>d.m.L7.length<=c.m.L7.length+1) (by
  refine key _ ?_;rw[nS,fd,cDrop_out]
  exact cPop_out'.trans (cDrop_out.trans cPop_out')) ?_
 refine aU (fun d=>d.m.L7.length<=c.m.L7.length+1) (by
  show((aq c).m.L7++[li c]).length<=_;rw[c8,cPop_out']
  simp) ?_
 omega
def eF (s:LW)(a:Int):Option (LQ×Nat):=if(vo s a).1<0 then none else match s.Mo[(vo s a).1.toNat]? with
 | some im=>bu im.I9 (vo s a).2
 | none=>none
def mb (c:CS):Option LP:=if c.bad=true then none else if c.m.K0=0 then(if bo c.m.J5=true then some {c.m with L6:=1,faG:=aL c.m c.m.J5} else none)else some c.m
def fh (s:LW)(m:LP):Option LP:=match eF s m.K0 with
 | none=>none
 | some x=>mb (bJ s.L9 (adv ⟨m,false⟩ x.2) x.1)
def xD (s:LW)(m:LP):Option LP:=match eF s m.K0 with
 | none=>none
 | some x=>mb (eK s.L9 (adv ⟨m,false⟩ x.2) x.1)
theorem pg {s:LW}{a:Int}{x:LQ×Nat}(h:eF s a=some x):∃(t:List UInt8) (p:Int),bu t p=some x:=by
 unfold eF at h;split at h
 ·cases h
 ·split at h
  ·exact⟨_,_,h⟩
  ·cases h
theorem Iw {c d:CS}(h:Rel c d):mb c=mb d:=by
 obtain⟨h1,h2⟩:=h
 cases hb:c.bad with
 | true=>rw[mb,mb,c7 hb,c7 (h1▸hb)]
 | false=>
  obtain⟨h3,_⟩:=h2 hb;obtain⟨m,b⟩:=c;obtain⟨m',b'⟩:=d
  dsimp only at *
  subst h3;subst h1;rfl
theorem Jj {s:LW}{m:LP}(NB:0<=m.J5/\m.J5<=1200)(NR:inI m.L0):fh s m=xD s m:=by
 unfold fh xD
 cases h:eF s m.K0 with
 | none=>rfl
 | some x=>obtain⟨t,p,hd⟩:=pg h;obtain⟨x,z⟩:=x;obtain⟨c0,c1,c2,_⟩:=iY hd;exact Iw (As s.L9 {m with K0:=wr (m.K0+z)} x NB NR c0 c1 c2)
def LD (m:LP):LP:={m with L6:=2}
theorem Fz {i0 i1:LK}{i:Nat}(hi:i<2)(h0:i0.I9.length<=1000000)(h1:i1.I9.length<=1000000):∃im:LK,[i0,i1][i]?=some im/\([i0.tr,i1.tr]:List (List Tr))[i]?=some im.tr/\im.I9.length<=1000000:=by match i,hi with|0,_=>exact⟨i0,rfl,rfl,h0⟩|1,_=>exact⟨i1,rfl,rfl,h1⟩
theorem Hh {i0 i1:LK}{b0 b1 a:Int}(h0:i0.I9.length<=1000000)(h1:i1.I9.length<=1000000):(dF i0 i1 b0 b1 a).2<=1000000:=by
 unfold dF;split
 ·dsimp only;omega
 ·split<;>dsimp only<;>omega
theorem lY (i0 i1:LK)(b0 b1 a:Int)(es:List Int)(OY:0<=b0/\b0<=1000000)(Nj:0<=b1/\b1<=1000000)(l0:i0.I9.length<=1000000)(l1:i1.I9.length<=1000000):Sim.Spec prog 68 [.agg (LW.mk [i0,i1] [b0,b1] es).tr,tvI a] (rOp (eF ⟨[i0,i1],[b0,b1],es⟩ a)):=by
 have hL:=kT i0 i1 b0 b1 a es OY Nj o_ o_;refine ak hΓ aG func68 rfl d_ rfl ?_;have Nx:vo ⟨[i0,i1],[b0,b1],es⟩ a=dF i0 i1 b0 b1 a:=rfl;rcases oK i0 i1 b0 b1 a with hx|⟨i,off,hi,hx⟩
 ·rw[hx]at hL;have hf:eF ⟨[i0,i1],[b0,b1],es⟩ a=none:=by rw[eF,Nx,hx];rfl
  rw[hf];repeat' ((conv=>whnf);first|refine Or.inl ?_|apply oi|apply fi|intro h|refine ci hL (ai (ai rfl (ai rfl (ai rfl trivial))) (ai rfl trivial)) ?_|exact Y1|refine e_ rfl ?_)
  all_goals try exact Q4
 ·have Ob:=Hh (b0:=b0) (b1:=b1) (a:=a) l0 l1;rw[hx]at hL Ob;dsimp only at Ob;obtain⟨im,Px,S2,Nz⟩:=Fz hi l0 l1;have hD:=lR im.I9 off o_ o_
  have hf:eF ⟨[i0,i1],[b0,b1],es⟩ a=bu im.I9 off:=by rw[eF,Nx,hx];dsimp only;rw[b8 o_,d7,Px]
  rw[hf];repeat' ((conv=>whnf);first|refine Or.inl ?_|apply oi|apply fi|intro h|refine ci hL (ai (ai rfl (ai rfl (ai rfl trivial))) (ai rfl trivial)) ?_|refine⟨i,im.tr,rfl,S2,?_⟩|refine ci hD (ai rfl (ai rfl trivial)) ?_|exact Y1|refine e_ rfl ?_)
  all_goals try(exfalso;have h':=f0 h;omega)
def lN (m:LP):Option LP->LP
 | none=>LD m
 | some m'=>m'
theorem DS {c:CS}{a v:Int}(h:c.ok):(FT c a v).ok:=by
 unfold FT CS.ok at *
 split
 ·simpa [gC]using h
 ·exact h
theorem GK {es:List Int}{c:CS}{x:LQ}(h:c.ok):(eK es c x).ok:=by
 unfold eK;refine aU (CS.ok) (eN h) ?_;refine aU (CS.ok) (eN (GB h)) ?_;refine aU (CS.ok) (eN (GB h)) ?_;refine aU (CS.ok) (DS (bh h)) ?_;refine aU (CS.ok) (DS (bh h)) ?_;refine aU (CS.ok) h ?_;refine aU (CS.ok) (by unfold Bq;split<;>exact bh h) ?_
 refine aU (CS.ok) (by
              unfold BO;split;· exact eN h
              ·exact h) ?_
 refine aU (CS.ok) (rK (eN h)) ?_;refine aU (CS.ok) (rK h) ?_
 refine aU (CS.ok) (by
              unfold vM;split;· exact eN (fB (bh (bh (bh h))))
              ·exact bh h) ?_
 refine aU (CS.ok) (eN (fB (bh (fB (bh h))))) ?_;refine aU (CS.ok) (bh h) ?_;exact eN (bh (bh h))
theorem Q25{p:Prop}(h:p:=by exfalso;simp[MZ]at h;first|done|fail):p:=h
theorem V3{p:Prop}(h:p:=by
 have hW:=jx c c.m.J5 XX;obtain⟨cm,cb⟩:=c;unfold cAt at hW;dsimp only at hW
 cases cb with
 | true=>
  have:r=none:=by rw[<-M7];rfl
  subst this;repeat' ((conv=>whnf);first|refine cg hP ?_|refine aI ?_|apply aB|apply oi|apply fi|intro h|refine cl hC ?_|refine cl hF ?_|exact Y1|refine e_ rfl ?_)
  all_goals exact Q24
 | false=>
  by_cases MZ:cm.K0=0
  ·cases hin:bo cm.J5 with
   | false=>
    rw[hin]at hW;have:r=none:=(by rw[<-M7];simp[mb,MZ,hin]);subst this;repeat' ((conv=>whnf);first|refine cg hP ?_|refine cg hW ?_|refine aI ?_|apply aB|apply oi|apply fi|intro h|refine cl hC ?_|refine cl hF ?_|exact Y1|refine e_ rfl ?_)
    all_goals try exact Q25
    all_goals exact Q24
   | true=>
    rw[hin]at hW;have:r=some {cm with L6:=1,faG:=tw ⟨cm,false⟩ cm.J5}:=(by rw[<-M7];simp[mb,MZ,hin,tw]);subst this;repeat' ((conv=>whnf);first|refine cg hP ?_|refine cg hW ?_|refine aI ?_|apply aB|apply oi|apply fi|intro h|refine cl hC ?_|refine cl hF ?_|exact Y1|refine e_ rfl ?_)
    all_goals try exact Q25
    all_goals exact Q24
  ·have:r=some cm:=(by rw[<-M7];simp[mb,MZ]);subst this;repeat' ((conv=>whnf);first|refine cg hP ?_|refine aI ?_|apply aB|apply oi|apply fi|intro h|refine cl hC ?_|refine cl hF ?_|exact Y1|refine e_ rfl ?_)
   all_goals try exact Q25
   all_goals exact⟨⟨rfl,ca _⟩⟩):p:=h
theorem uV (s:LW)(m:LP)(MA:ce s=true)(hm:m.Mf.length=1200)(ho:m.L7.length<=2000000):Sim.Spec prog 70 [.agg s.tr,.agg m.tr] (.r (.agg ((lN m (xD s m)).tr.map tM))):=by
 obtain⟨i0,i1,b0,b1,PB,⟨e1,e2⟩,⟨g0,p0,p1⟩,⟨g1,q0,q1⟩,_,_⟩:=mh MA;have l0:=(imageOk_iff.1 g0).1;have l1:=(imageOk_iff.1 g1).1;have hF:=lY i0 i1 b0 b1 m.K0 s.L9 o_ o_ l0 l1;have hC:=nq m o_ ho;obtain⟨im,bs,es⟩:=s;dsimp only at PB hF e2;injection PB with h1 h2;subst h1;subst h2;refine ak hΓ aG func70 rfl d_ rfl ?_;obtain⟨r,hr⟩:∃r,xD ⟨[i0,i1],[b0,b1],es⟩ m=r:=⟨_,rfl⟩;rw[hr]
 cases hf:eF ⟨[i0,i1],[b0,b1],es⟩ m.K0 with
 | none=>
  rw[hf]at hF;have:r=none:=by rw[<-hr,xD,hf]
  subst this;repeat' ((conv=>whnf);first|refine aI ?_|apply aB|apply oi|apply fi|intro h|refine cl hC ?_|refine cl hF ?_|exact Y1|refine e_ rfl ?_)
  all_goals exact Q24
 | some xz=>
  obtain⟨x,z⟩:=xz;rw[hf]at hF;obtain⟨t,p,hd⟩:=pg hf;obtain⟨c0,c1,_,z5⟩:=iY hd;have M7:mb (eK es (adv ⟨m,false⟩ z) x)=r:=by rw[<-hr,xD,hf]
  by_cases Xl:x.I9=17
  ·have Xx:x=⟨17,x.J7⟩:=(by rw[<-Xl]);have hP:=Fh ⟨[i0,i1],[b0,b1],es⟩ ⟨m,false⟩ x.J7 z hm ho;rw[<-Xx]at hP;have N0:eK es (adv ⟨m,false⟩ z) x=Cm (adv ⟨m,false⟩ z):=(by rw[Xx];simp[eK]);rw[N0]at M7;have XX:(Cm (adv ⟨m,false⟩ z)).ok:=bh (c:=adv ⟨m,false⟩ z) hm
   generalize Cm (adv ⟨m,false⟩ z)=c at *
   exact V3
  ·have hP:=wY ⟨[i0,i1],[b0,b1],es⟩ ⟨m,false⟩ x z hm Xl c0 c1 g_;have XX:(eK es (adv ⟨m,false⟩ z) x).ok:=GK hm;dsimp only at hP
   generalize eK es (adv ⟨m,false⟩ z) x=c at *
   exact V3
theorem rj {c:CS}{m':LP}(h:mb c=some m'):m'.Mf=c.m.Mf/\m'.L7=c.m.L7/\m'.J5=c.m.J5/\m'.L0=c.m.L0/\m'.K0=c.m.K0/\c.bad=false:=by
 unfold mb at h;split at h
 ·cases h
 ·rename_i hb;have MK:c.bad=false:=by simpa using hb
  split at h
  ·split at h
   ·injection h with h;subst h;exact⟨rfl,rfl,rfl,rfl,rfl,MK⟩
   ·cases h
  ·injection h with h;subst h;exact⟨rfl,rfl,rfl,rfl,rfl,MK⟩
theorem lF {s:LW}{m m':LP}(h:fh s m=some m'):∃x,eF s m.K0=some x/\mb (bJ s.L9 (adv ⟨m,false⟩ x.2) x.1)=some m':=by
 unfold fh at h;split at h
 ·cases h
 ·rename_i x hx;exact⟨x,hx,h⟩
theorem Fy {s:LW}{m:LP}(hm:m.Mf.length=1200):∀m',fh s m=some m'->m'.Mf.length=1200:=by intro m' h;obtain⟨x,_,h2⟩:=lF h;rw[(rj h2).1];exact In (c:=adv ⟨m,false⟩ x.2) hm
theorem xr {s:LW}{m:LP}:∀m',fh s m=some m'->m'.L7.length<=m.L7.length+1:=by intro m' h;obtain⟨x,_,h2⟩:=lF h;rw[(rj h2).2.1];exact Fi (c:=adv ⟨m,false⟩ x.2)
def iE (s:LW)(m:LP):LP:=if ce s=true/\cI m=true/\m.L6=0 then lN m (fh s m)else m
theorem machineOk_iffL {m:LP}:cI m=true↔m.Mf.length=1200/\(0<=m.J5/\m.J5<=1200)/\0<=m.L6/\m.L6<=2:=by rw[cI,b9,b9,within_iff,within_iff,w8];exact⟨fun h=>⟨h.1.1,h.1.2,h.2⟩,fun h=>⟨⟨h.1,h.2.1⟩,h.2.2⟩⟩
theorem CF {m:LP}(h:aF 1048576 m.tr):m.Mf.length<=2000000/\m.L7.length<=1048576:=by simp only[LP.tr,aF]at h;have h1:=bE h.2.2.2.1;have h2:=bE h.2.2.2.2.1;omega
theorem V20{p:Prop}(h:p:=by
 rw[b8 s_];repeat' ((conv=>whnf);first|refine Or.inl ?_|apply oi|apply fi|intro h|refine ci hS (ai (ai rfl (ai rfl (ai rfl trivial))) trivial) ?_|refine ci hM (ai (ai rfl (ai rfl (ai rfl (ai rfl (ai rfl (ai rfl (ai rfl trivial))))))) trivial) ?_|refine ci hC (ai (ai rfl (ai rfl (ai rfl (ai rfl (ai rfl (ai rfl (ai rfl trivial))))))) trivial) ?_|exact Y1|refine e_ rfl ?_)
 all_goals try(exfalso;simp at h;done)):p:=h
theorem oX (s:LW)(m:LP)(hs:aF 1048576 s.tr)(Y0:aF 1048576 m.tr)(NR:inI m.L0):Sim.Spec prog 17 [.agg s.tr,.agg m.tr] (.r (.agg ((iE s m).tr.map tM))):=by
 have hS:=fZ s hs;have hM:=kA m;obtain⟨k1,k2⟩:=CF Y0;have hC:=nq m k1 o_;refine ak hΓ aG func17 rfl d_ rfl ?_;unfold iE
 cases h1:ce s with
 | false=>
  rw[h1]at hS
  exact V20
 | true=>
  rw[h1]at hS
  cases h2:cI m with
  | false=>
   rw[h2]at hM
   exact V20
  | true=>
   rw[h2]at hM;obtain⟨m1,m2,m3⟩:=machineOk_iffL.1 h2;by_cases h0:m.L6=0
   ·have hT:=uV s m h1 m1 o_;rw[<-Jj m2 NR]at hT;rw[c7 ⟨rfl,rfl,h0⟩];repeat' ((conv=>whnf);first|refine aI ?_|apply aB|apply oi|apply fi|intro h|refine cl hS ?_|refine cl hM ?_|exact Y1|refine e_ rfl ?_)
    all_goals try(exfalso;simp[h0]at h;done)
    repeat' ((conv=>whnf);first|refine Or.inl ?_|apply oi|apply fi|intro h|refine ci hT (ai (ai rfl (ai rfl (ai rfl trivial))) (ai (ai rfl (ai rfl (ai rfl (ai rfl (ai rfl (ai rfl (ai rfl trivial))))))) trivial)) ?_|exact Y1|refine e_ rfl ?_)
   ·rw[b8 (by simp[h0])];repeat' ((conv=>whnf);first|refine aI ?_|apply aB|apply oi|apply fi|intro h|refine cl hS ?_|refine cl hM ?_|refine cl hC ?_|exact Y1|refine e_ rfl ?_)
    all_goals try(exfalso;exact h0 aae)
def zx (s:LW):Nat->LP->LP×Nat
 | 0,m=>(m,0)
 | k+1,m=>if m.L6=0 then((zx s k (lN m (fh s m))).1,(zx s k (lN m (fh s m))).2+1)else(m,0)
structure MInv (m:LP) (n:Nat):Prop where
 len:m.Mf.length=1200
 sp:0<=m.J5/\m.J5<=1200
 w:MW m
 out:m.L7.length<=1048576+n
theorem FI {c:Int}{m:Nat}(h:aX c=(4,true))(hm:m<4294967296):inI (jI c m):=by
 unfold inI;by_cases hb:2^(8*4-1)<=m
 ·have e:jI c m=(m:Int)-2^(8*4):=qp (n:=4) (by rw[h];rfl) (by rw[h]) hb;rw[e];omega
 ·have e:jI c m=(m:Int):=nN (n:=4) (by rw[h];rfl) (fun hh=>hb hh.2);rw[e];omega
theorem wZ {s:List UInt8}{p:Int}{x:LQ}{z:Nat}(h:bu s p=some (x,z)):inI x.J7:=by
 obtain⟨h0,h1,h2,_⟩:=iY h;by_cases c1:12<=x.I9/\x.I9<=16
 ·have:=h1 c1.1 c1.2;unfold inI;omega
 by_cases c2:1<=x.I9/\x.I9<=11
 ·have:=h2 c2.1 c2.2;unfold inI;omega
 have c3:x.I9=0\/x.I9=17:=o_;unfold bu at h;split at h
 ·split at h
  ·cases h
  ·injection h with h;injection h with h3 h4;subst h3;dsimp only at c3⊢;rcases c3 with c3|c3
   ·rw[c3];have hl:=eZ s (p.toNat+1) 4
    exact FI d_ (by
                    have:(256:Nat)^4=4294967296:=d_;show aV s (p.toNat+1) 4<4294967296
                    omega)
   ·rw[c3];have hl:=eZ s (p.toNat+1) 0;have hl:aV s (p.toNat+1) 0<1:=hl;have e2:jI 17 (aV s (p.toNat+1) 0)=((aV s (p.toNat+1) 0:Nat):Int):=nN (n:=0) d_ (fun hh=>absurd hh.1 d_);show inI (jI 17 (aV s (p.toNat+1) 0));rw[e2];unfold inI;omega
 ·cases h
theorem MInv.step {s:LW}{m:LP}{n:Nat}(h:MInv m n)(he:∀e∈s.L9,inI e):MInv (lN m (fh s m)) (n+1):=by
 obtain⟨h1,h2,h3,h4⟩:=h
 cases hr:fh s m with
 | none=>exact⟨h1,h2,h3,by show m.L7.length<=_;omega⟩
 | some m'=>
  obtain⟨x,hf,hx⟩:=lF hr;obtain⟨t,p,hd⟩:=pg hf;obtain⟨x,z⟩:=x;obtain⟨c0,c1,c2,_⟩:=iY hd;have ha:=wZ hd;obtain⟨e1,e2,e3,e4,e5,e6⟩:=rj hx;have VY:=As s.L9 {m with K0:=wr (m.K0+z)} x h2 h3.2.2 c0 c1 c2;have NB:=(VY.2 e6).2;have hin:MW (bJ s.L9 (adv ⟨m,false⟩ z) x).m:=GT (c:=adv ⟨m,false⟩ z) ⟨h3.1,Hx _,h3.2.2⟩ (by show inI m.J5;unfold inI;omega) ha he;refine⟨Fy h1 m' hr,?_,?_,?_⟩
  ·show 0<=m'.J5/\m'.J5<=1200;rw[e3];exact NB
  ·show MW m';refine⟨?_,?_,?_⟩
   ·rw[e1];exact hin.1
   ·rw[e5];exact hin.2.1
   ·rw[e4];exact hin.2.2
  ·have:=xr m' hr;show m'.L7.length<=_;omega
theorem FE {s:LW}{k:Nat}{m:LP}(h:m.L6≠0\/k=0):zx s k m=(m,0):=by
 cases k with
 | zero=>rfl
 | succ k=>rw[zx,b8 (by
                  rcases h with h|h;· exact h
                  ·cases h)]
theorem JF {s:LW}{k:Nat}{m:LP}(h:m.L6=0):zx s (k+1) m=((zx s k (lN m (fh s m))).1,(zx s k (lN m (fh s m))).2+1):=by rw[zx,c7 h]
end Go.Proofs.P
namespace Go.Proofs.P
open Go.Sim Tryz
theorem gp {c:CS}{v:Int}:(bi c v).m.L6=c.m.L6:=by unfold bi;split<;>rfl
theorem cPop_st {c:CS}:(aq c).m.L6=c.m.L6:=by unfold aq;split<;>rfl
theorem cDrop_st:∀{n:Nat} {c:CS},(bz n c).m.L6=c.m.L6
 | 0,_=>rfl
 | n+1,c=>by rw[bz,cDrop_st (n:=n),cPop_st]
theorem rh:∀{n:Nat} {c:CS},(dC n c).m.L6=c.m.L6
 | 0,_=>rfl
 | n+1,c=>by rw[dC,rh (n:=n),gp]
theorem AN {c:CS}{a:Int}:(gB c a).m.L6=c.m.L6:=by
 unfold gB;split
 ·rfl
 ·exact gp
theorem xv {c:CS}{a:Int}:(dm c a).m.L6=c.m.L6:=by
 unfold dm;split
 ·exact cPop_st
 ·exact cPop_st
theorem Gq {es:List Int}{c:CS}{x:LQ}:(bJ es c x).m.L6=c.m.L6:=by
 unfold bJ;refine aU (fun d=>d.m.L6=c.m.L6) gp ?_;refine aU (fun d=>d.m.L6=c.m.L6) AN ?_;refine aU (fun d=>d.m.L6=c.m.L6) AN ?_;refine aU (fun d=>d.m.L6=c.m.L6) xv ?_;refine aU (fun d=>d.m.L6=c.m.L6) xv ?_;refine aU (fun d=>d.m.L6=c.m.L6) (by rw[la,gp,cPop_st,cPop_st]) ?_;refine aU (fun d=>d.m.L6=c.m.L6) rfl ?_
 refine aU (fun d=>d.m.L6=c.m.L6) (by
  unfold qc;split
  ·exact cPop_st
  ·exact cPop_st) ?_
 refine aU (fun d=>d.m.L6=c.m.L6) (by
  unfold qb;split
  ·exact gp
  ·exact gp) ?_
 refine aU (fun d=>d.m.L6=c.m.L6) (by rw[qR,rh];exact gp) ?_;refine aU (fun d=>d.m.L6=c.m.L6) rh ?_
 refine aU (fun d=>d.m.L6=c.m.L6) (by
  rw[qT,gp,cDrop_st]
  exact cPop_st.trans (cPop_st.trans cPop_st)) ?_
 refine aU (fun d=>d.m.L6=c.m.L6) (by
  rw[nS,gp,cDrop_st]
  exact cPop_st.trans (cDrop_st.trans cPop_st)) ?_
 refine aU (fun d=>d.m.L6=c.m.L6) (by
  show(aq c).m.L6=_
  exact cPop_st) ?_
 rfl
theorem HU {s:LW}{m:LP}(h:af m.L6 0 2=true):af (lN m (fh s m)).L6 0 2=true:=by
 cases hr:fh s m with
 | none=>rfl
 | some m'=>
  obtain⟨x,_,hx⟩:=lF hr;show af m'.L6 0 2=true;unfold mb at hx;split at hx
  ·cases hx
  ·split at hx
   ·split at hx
    ·injection hx with hx;subst hx;rfl
    ·cases hx
   ·injection hx with hx;subst hx;rw[Gq];exact h
structure MOk (m:LP) (n:Nat):Prop where
 inv:MInv m 0
 st:af m.L6 0 2=true
 out:m.L7.length<=n
theorem CI {s:LW}{m:LP}:(lN m (fh s m)).L7.length<=m.L7.length+1:=by cases h:fh s m with|none=>show m.L7.length<=_;omega|some m'=>exact xr m' h
theorem MOk.step {s:LW}{m:LP}{n:Nat}(h:MOk m n)(hn:n<=1000000)(he:∀e∈s.L9,inI e):MOk (lN m (fh s m)) (n+1):=by have h1:=h.inv.step (s:=s) he;have h2:=CI (s:=s) (m:=m);have h3:=h.out;exact⟨⟨h1.len,h1.sp,h1.w,o_⟩,HU h.st,o_⟩
theorem MOk.mono {m:LP}{n k:Nat}(h:MOk m n)(hk:n<=k):MOk m k:=⟨h.inv,h.st,by have:=h.out;omega⟩
theorem MOk.run {s:LW}(he:∀e∈s.L9,inI e):∀(k:Nat) {m:LP} {n:Nat},MOk m n->n+k<=1000000->MOk (zx s k m).1 (n+k)
 | 0,m,n,h,_=>h
 | k+1,m,n,h,hn=>by
  by_cases h0:m.L6=0
  ·rw[JF h0];have:=MOk.run he k (h.step o_ he) o_;rw[show n+1+k=n+(k+1) by omega]at this;exact this
  ·rw[FE (.inl h0)];exact h.mono o_
theorem MOk.ok {m:LP}{n:Nat}(h:MOk m n):cI m=true:=by unfold cI;have h1:=h.inv.len;have h2:=h.inv.sp;rw[h.st,within_iff.2 ⟨h2.1,h2.2⟩,h1];rfl
theorem MOk.small {m:LP}{n:Nat}(h:MOk m n)(hn:n<=1000000):aF 1048576 m.tr:=by have h1:=h.inv.len;have h2:=h.out;simp only[LP.tr,aF];exact⟨by simp[aw],by simp[aw],by simp[aw],lE o_,lE o_,by simp[aw],by simp[aw],trivial⟩
theorem Jg {s:LW}(hs:ce s=true)(he:∀e∈s.L9,inI e):MOk (Ah s) 0:=by
 have hh:inI (s.L9.headD 0):=by cases hx:s.L9 with|nil=>show inI 0;unfold inI;omega|cons a l=>exact he a (by rw[hx];simp)
 rw[Ah,c7 hs];refine⟨⟨s_,g_,⟨fun w hw=>?_,hh,by unfold inI;dsimp only;omega⟩,s_⟩,rfl,s_⟩;have:=List.eq_of_mem_replicate hw;rw[this];unfold inI;omega
noncomputable section
section
variable {p:List LO} {b:LF} {first second:Int}
def sC (b:LF)(first second:Int)(f:Nat):Int:=if bn b f=1 then second else first
def adr (p:List LO)(b:LF)(first second:Int)(f j:Nat):Int:=sC b first second f+atL (aZ (aW p b f) (aA p f b)) j
def kh (p:List LO)(b:LF):List (List LV):=[bF (aM p b 0),bF (aM p b 1)]
theorem Km (h:SpOk p b first second)(f:Nat){off:Int}(h0:0<=off)(h1:off<(ag p b (bn b f)).I9.length):vo (aQ p b first second) (sC b first second f+off)=(bn b f,off)/\1<=sC b first second f/\sC b first second f<=1000000/\(ag p b (bn b f)).I9.length<=75000:=by
 have a0:=cV h.small h.prog h.build (image:=0) d_;have a1:=cV h.small h.prog h.build (image:=1) d_;have Vs:=h.fb;have VD:=h.sb;have NB:=h.space
 have MQ:cT (ag p b 0) (ag p b 1) first second=false:=by exact V63
 have Nx:∀e,vo (aQ p b first second) e=dF (ag p b 0) (ag p b 1) first second e:=fun e=>rfl;unfold sC;rcases fX b f with e|e
 ·rw[e]at h1⊢;rw[b8 d_,Nx,dF,c7 ⟨o_,o_⟩,show first+off-first=off by omega];exact⟨rfl,o_,o_,a0.2⟩
 ·rw[e]at h1⊢;rw[c7 rfl,Nx,dF,b8,c7 ⟨o_,o_⟩,show second+off-second=off by omega]
  ·exact⟨rfl,o_,o_,a1.2⟩
  ·intro hc;unfold cT at MQ;simp only[A8,p9]at MQ;omega
structure AtA (p:List LO) (b:LF) (first second:Int) (f j:Nat) (it:LN):Prop where
 fetch:eF (aQ p b first second) (adr p b first second f j)=some ((cN (aZ (aW p b f) (aA p f b)) j it).J2,(aE it.J2.I9).toNat)
 next:adr p b first second f (j+1)=adr p b first second f j+aE it.J2.I9
 size:1<=aE it.J2.I9/\aE it.J2.I9<=5
 rng:1<=adr p b first second f j/\adr p b first second f j<=1080000
 rule:∀a,adr p b first second f j<=a->a<adr p b first second f (j+1)->∃r,iL (kh p b) (vo (aQ p b first second) a)=some r/\r.Mk=it.Mm/\r.Md=it.Md
theorem ll (h:SpOk p b first second){f:Nat}(hf:f<(ay p).length){j:Nat}{it:LN}(hj:(aA p f b)[j]?=some it):AtA p b first second f j it:=by
 obtain⟨i,x,hx⟩:=pb (b:=b) hf;obtain⟨g1,g2,g3⟩:=hx;have MQ:=fX b f;have h3:af (bn b f) 0 1=true:=by rw[within_iff];omega
 have NZ:=(jR h.small h.prog h.build o_ g1).1;rw[g2,I5]at NZ;have M5:((aj (ax ((bX p b (bn b f) (ay p).length 0 0).take i))).length:Int)=aW p b f:=g3.symm;rw[M5]at NZ;have hy:=eS (at0:=aW p b f) hj;rw[<-NZ]at hy;obtain⟨hp,Ob⟩:=fR h.small h.prog h.build g1 hy;have Na:(cN (aZ (aW p b f) (aA p f b)) j it).J2.I9=it.J2.I9:=gJ _ _ _;have Nu:=oM hp.op;have M6:=eb hp.op;dsimp only at Nu M6 Ob;rw[Na]at Nu M6
 have OX:∀z∈x.2,dB z.L3.J2.I9 z.L3.J2.J7=true:=fun z hz=>by
  obtain⟨k,hk⟩:=v6.1 hz;exact(fR h.small h.prog h.build g1 hk).1.op
 have Us:(ag p b (bn b f)).I9=aj (ax ((imL p b (bn b f)).take i))++aj x.2++aj (ax ((imL p b (bn b f)).drop (i+1))):=by
  rw[ag,c7 ⟨h.prog,h.build,h3⟩];have e:=rz g1
  rw[show imL p b (bn b f)=bX p b (bn b f) (ay p).length 0 0 from rfl]at *
  dsimp only;rw[e,aJ,aJ,<-j9]
 have hd:=sR OX hy (aj (ax ((imL p b (bn b f)).take i))) (aj (ax ((imL p b (bn b f)).drop (i+1))));rw[<-Us,c8]at hd;dsimp only at hd;rw[Na]at hd
 have Ua:(((aj (ax ((imL p b (bn b f)).take i))).length+(aj (x.2.take j)).length:Nat):Int)=atL (aZ (aW p b f) (aA p f b)) j:=by rw[Ob,Int.natCast_add]
 rw[Ua]at hd
 generalize hO:atL (aZ (aW p b f) (aA p f b)) j=off at *
 have Mv:off+aE it.J2.I9<=((ag p b (bn b f)).I9.length:Int):=by rw[Us,c8,c8];have h2:x.2.take (j+1)++x.2.drop (j+1)=x.2:=y9 _ _;have h4:=congrArg (fun l=>(aj l).length) h2;simp only[aJ,c8]at h4;rw[dA hy,aJ,dW,c8]at h4;dsimp only at h4;omega
 have RI:0<=off:=o_
 have Ng:adr p b first second f (j+1)=adr p b first second f j+aE it.J2.I9:=by unfold adr;rw[gi hj];omega
 have O3:adr p b first second f j=sC b first second f+off:=by unfold adr;rw[hO]
 have Nx:=fun(o:Int) (h0:0<=o) (h1:o<(ag p b (bn b f)).I9.length)=>Km h f h0 h1
 have Tl:(aQ p b first second).Mo[(bn b f).toNat]?=some (ag p b (bn b f)):=by
  rcases MQ with e|e
  ·rw[e];rfl
  ·rw[e];rfl
 refine⟨?_,Ng,Nu,?_,fun a h1 h2=>?_⟩
 ·rw[O3,eF,(Nx off RI o_).1];dsimp only;rw[b8 o_,Tl];exact hd
 ·obtain⟨_,q1,q2,q3⟩:=Nx off RI o_;rw[O3];omega
 ·rw[Ng,O3]at h2;rw[O3]at h1;obtain⟨o,rfl⟩:∃o,a=sC b first second f+o:=⟨a-sC b first second f,o_⟩;rw[(Nx o o_ o_).1];have Zl:aM p b (bn b f)=ax (imL p b (bn b f)):=by rw[aM,c7 ⟨h.prog,h.build,h3⟩];rfl
  have hk:=BT g1 hy;rw[<-Zl]at hk;obtain⟨q,r,r1,r2,r3,r4,_⟩:=Je (mj h.small) (Bs h.small) hk (off:=o) g_ (by dsimp only;rw[Na];omega)
  have hr:(kh p b)[(bn b f).toNat]?=some (bF (aM p b (bn b f))):=by
   rcases MQ with e|e
   ·rw[e];rfl
   ·rw[e];rfl
  refine⟨r,?_,?_,?_⟩
  ·unfold iL;dsimp only;rw[b8 o_,hr];dsimp only;rw[r1,b8 o_,d7];exact r2
  ·rw[r3];unfold cN;split<;>rfl
  ·rw[r4];unfold cN;split<;>rfl
theorem Ag (h:SpOk p b first second){f:Nat}(hf:f<(ay p).length):adr p b first second f 0=cS p b first second f:=by obtain⟨i,im,base,he⟩:=EH h hf;have M5:=he.start;have hl:=he.len;have Ra:=he.range;have Vs:=h.fb;have VD:=h.sb;rw[adr,fV,cS,c6 _ (by split<;>omega)];rfl
end
end
theorem zU {n:Int}(h:-1000000000<=n/\n<=1000000000):wr n=n:=c6 _ o_
structure Stk (c:CS):Prop where
 len:c.m.Mf.length=1200
 lo:0<=c.m.J5
 hi:c.m.J5<=1200
structure Same (c c':CS) (sp lo:Int):Prop where
 sp:c'.m.J5=sp
 fp:c'.m.L0=c.m.L0
 pc:c'.m.K0=c.m.K0
 st:c'.m.L6=c.m.L6
 I8:∀a,lo<=a->aL c'.m a=aL c.m a
theorem Same.trans {a b c:CS}{x y l m:Int}(h:Same a b x l)(h':Same b c y m):Same a c y (max l m):=⟨h'.sp,h'.fp.trans h.fp,h'.pc.trans h.pc,h'.st.trans h.st,fun v hv=>(h'.I8 v o_).trans (h.I8 v o_)⟩
theorem BR {m:LP}{a v b:Int}(hl:m.Mf.length=1200)(ha:0<=a/\a<=1199)(hb:0<=b):aL (gC m a v) b=if b=a then v else aL m b:=by
 unfold aL gC;dsimp only;by_cases h:b=a
 ·rw[c7 h,h,x6 o_]
 ·rw[b8 h,C6 o_]
theorem lm {c:CS}{v:Int}(hc:Stk c)(h:(bi c v).bad=false):c.bad=false/\1<=c.m.J5/\Stk (bi c v)/\Same c (bi c v) (c.m.J5-1) c.m.J5/\aL (bi c v).m (c.m.J5-1)=v:=by
 have h1:=hc.lo;have h2:=hc.hi;have hw:wr (c.m.J5-1)=c.m.J5-1:=zU o_;unfold bi at h⊢;rw[hw]at h⊢;by_cases hb:(c.bad||!bo (c.m.J5-1))=true
 ·rw[c7 hb]at h;cases h
 ·rw[b8 hb];have MK:(c.bad||!bo (c.m.J5-1))=false:=by simpa using hb
  rw[v9]at MK;obtain⟨b1,b2⟩:=MK;have b2:bo (c.m.J5-1)=true:=by simpa using b2
  rw[inStk_iff]at b2;have OO:∀a,0<=a->aL {gC c.m (c.m.J5-1) v with J5:=c.m.J5-1} a=if a=c.m.J5-1 then v else aL c.m a:=fun a ha=>BR hc.len b2 ha
  refine⟨b1,o_,⟨by dsimp only[gC];rw[q7];exact hc.len,g_,g_⟩,⟨rfl,rfl,rfl,rfl,fun a ha=>?_⟩,?_⟩
  ·dsimp only;rw[OO a o_,b8 o_]
  ·dsimp only;rw[OO _ o_,c7 rfl]
theorem iR {c:CS}(hc:Stk c)(h:(aq c).bad=false):c.bad=false/\c.m.J5<=1199/\Stk (aq c)/\(aq c).m={c.m with J5:=c.m.J5+1}/\li c=aL c.m c.m.J5:=by
 unfold aq at h⊢;by_cases hb:(c.bad||!bo c.m.J5)=true
 ·rw[c7 hb]at h;cases h
 ·rw[b8 hb];have MK:(c.bad||!bo c.m.J5)=false:=by simpa using hb
  have Nd:=MK;rw[v9]at MK;obtain⟨b1,b2⟩:=MK;have b2:bo c.m.J5=true:=by simpa using b2
  rw[inStk_iff]at b2;refine⟨b1,b2.2,⟨hc.len,by have:=hc.lo;dsimp only;omega,g_⟩,rfl,?_⟩;unfold li;rw[b8 hb]
theorem AB {c:CS}(hc:Stk c)(h:(aq c).bad=false)(l:Int):Same c (aq c) (c.m.J5+1) l:=by obtain⟨_,_,_,e,_⟩:=iR hc h;exact⟨by rw[e],by rw[e],by rw[e],by rw[e],fun a _=>by rw[e];rfl⟩
theorem ue:∀(n:Nat) {c:CS},Stk c->(bz n c).bad=false->c.bad=false/\Stk (bz n c)/\(bz n c).m={c.m with J5:=c.m.J5+n}
 | 0,c,hc,h=>⟨h,hc,by simp[bz]⟩
 | n+1,c,hc,h=>by
  rw[bz]at h⊢
  have OY:(aq c).bad=false:=by
   cases hb:(aq c).bad with
   | false=>rfl
   | true=>
    exfalso
    have:∀(n:Nat) (c:CS),c.bad=true->(bz n c).bad=true:=by
     intro n
     induction n with
     | zero=>intro c hc;exact hc
     | succ n ih=>intro c hc;rw[bz];exact ih _ (by unfold aq;rw[hc];simp)
    rw[this n _ hb]at h;cases h
  obtain⟨p1,p2,p3,p4,_⟩:=iR hc OY;obtain⟨q1,q2,q3⟩:=ue n p3 h;refine⟨p1,q2,?_⟩;rw[q3,p4];dsimp only;rw[show c.m.J5+1+(n:Int)=c.m.J5+((n+1:Nat):Int) by omega]
theorem rr:∀(n:Nat) (c:CS),c.bad=true->(dC n c).bad=true
 | 0,c,h=>h
 | n+1,c,h=>by rw[dC];exact rr n _ (by unfold bi;rw[h];simp)
theorem vq:∀(n:Nat) {c:CS},Stk c->(dC n c).bad=false->c.bad=false/\Stk (dC n c)/\Same c (dC n c) (c.m.J5-n) c.m.J5
 | 0,c,hc,h=>⟨h,hc,by rw[dC];exact⟨o_,rfl,rfl,rfl,fun _ _=>rfl⟩⟩
 | n+1,c,hc,h=>by
  rw[dC]at h⊢
  have OY:(bi c 0).bad=false:=by
   cases hb:(bi c 0).bad with
   | false=>rfl
   | true=>rw[rr n _ hb]at h;cases h
  obtain⟨p1,p2,p3,p4,_⟩:=lm hc OY;obtain⟨q1,q2,q3⟩:=vq n p3 h;have:=p4.trans q3;have e:=p4.sp;refine⟨p1,q2,⟨by rw[this.sp,e];omega,this.fp,this.pc,this.st,fun a ha=>this.I8 a o_⟩⟩
theorem BW {c:CS}{a:Int}(hc:Stk c)(h:(dm c a).bad=false):c.bad=false/\c.m.J5<=1199/\0<=a/\a<=1199/\Stk (dm c a)/\(dm c a).m.J5=c.m.J5+1/\(dm c a).m.L0=c.m.L0/\(dm c a).m.K0=c.m.K0/\(dm c a).m.L6=c.m.L6/\∀b,0<=b->b≠a->aL (dm c a).m b=aL c.m b:=by
 unfold dm at h⊢;by_cases hb:((aq c).bad||!bo a)=true
 ·rw[c7 hb]at h;cases h
 ·rw[b8 hb];have MK:((aq c).bad||!bo a)=false:=by simpa using hb
  rw[v9]at MK;obtain⟨b1,b2⟩:=MK;have b2:bo a=true:=by simpa using b2
  rw[inStk_iff]at b2;obtain⟨p1,p2,p3,p4,_⟩:=iR hc b1;refine⟨p1,p2,b2.1,b2.2,⟨by dsimp only[gC];rw[q7];exact p3.len,p3.lo,p3.hi⟩,by dsimp only[gC];rw[p4],by dsimp only[gC];rw[p4],by dsimp only[gC];rw[p4],by dsimp only[gC];rw[p4],fun b hb ME=>?_⟩;dsimp only;rw[BR p3.len b2 hb,b8 ME,p4];rfl
theorem Ke {c:CS}{a:Int}(hc:Stk c)(h:(gB c a).bad=false):c.bad=false/\Stk (gB c a)/\Same c (gB c a) (c.m.J5-1) c.m.J5:=by
 unfold gB at h⊢;by_cases hb:(c.bad||!bo a)=true
 ·rw[c7 hb]at h;cases h
 ·rw[b8 hb]at h⊢;have MK:(c.bad||!bo a)=false:=by simpa using hb
  rw[v9]at MK;obtain⟨p1,p2,p3,p4,_⟩:=lm (c:=⟨c.m,false⟩) ⟨hc.len,hc.lo,hc.hi⟩ h;exact⟨MK.1,p3,⟨p4.sp,p4.fp,p4.pc,p4.st,p4.I8⟩⟩
theorem V49{p:Prop}(h:p:=by
 unfold bi at h;by_cases hb:(c.bad||!bo (wr (c.m.J5-1)))=true
 ·rw[c7 hb]at h;cases h
 ·have MK:(c.bad||!bo (wr (c.m.J5-1)))=false:=by simpa using hb
  rw[v9]at MK
  exact MK.1):p:=h
theorem V59{p:Prop}(h:p:=by
 unfold aq at h;by_cases hb:(c.bad||!bo c.m.J5)=true
 ·rw[c7 hb]at h;cases h
 ·have MK:(c.bad||!bo c.m.J5)=false:=by simpa using hb
  rw[v9]at MK
  exact MK.1):p:=h
theorem Iq {c:CS}{k:Int}(hc:Stk c)(h:(la c k).bad=false):c.bad=false/\Stk (la c k)/\Same c (la c k) (c.m.J5+1) (c.m.J5+2):=by
 unfold la at h⊢
 have Qx:∀{c:CS} {v:Int},(bi c v).bad=false->c.bad=false:=fun{c v} h=>by
  exact V49
 have S5:∀{c:CS},(aq c).bad=false->c.bad=false:=fun{c} h=>by
  exact V59
 have h2:=Qx h;have h1:=S5 h2;obtain⟨p1,_,p3,p4,_⟩:=iR hc h1;obtain⟨_,_,q3,q4,_⟩:=iR p3 h2;obtain⟨_,_,r3,r4,_⟩:=lm q3 h;have e:(aq (aq c)).m.J5=c.m.J5+2:=by rw[q4,p4];dsimp only;omega
 refine⟨p1,r3,⟨by rw[r4.sp,e];omega,by rw[r4.fp,q4,p4],by rw[r4.pc,q4,p4],by rw[r4.st,q4,p4],fun a ha=>?_⟩⟩;rw[r4.I8 a o_,q4,p4];rfl
noncomputable section
structure Sy (p:List LO) (b:LF) where
 C:Nat->Cx
 ds:Nat->List Int
 ty:∀f,f<(ay p).length->TyF (C f) (aA p f b) (ds f)
 args:∀f g,(ay p)[f]?=some g->(C f).args=argsN (foldIf p b) g
 prog:∀f,f<(ay p).length->(C f).p=foldIf p b
 a4:∀f,f<(ay p).length->0<=(C f).args/\(C f).args<=4
 w:∀f,f<(ay p).length->0<=(C f).I8/\(C f).I8<=1000
theorem Lc {p:List LO}{b:LF}(hs:aw 1048576 (.lst 4 (p.map LO.tr)))(h1:ah p=true)(h2:aS b=true):Nonempty (Sy p b):=by
 have key:∀f:Nat,∃(C:Cx) (ds:List Int),f<(ay p).length->TyF C (aA p f b) ds/\(∀g,(ay p)[f]?=some g->C.args=argsN (foldIf p b) g)/\C.p=foldIf p b/\(0<=C.args/\C.args<=4)/\(0<=C.I8/\C.I8<=1000):=fun f=>by
  by_cases hf:f<(ay p).length
  ·obtain⟨g,C,ds,k1,k2,k3,_,k5,k6,k7,k8,k9⟩:=Dt (f:=(f:Int)) hs h1 h2 o_ o_;refine⟨C,ds,fun _=>⟨k9,fun g' PS=>?_,k2,⟨k5,k6⟩,⟨k7,k8⟩⟩⟩;rw[d7,PS]at k1;injection k1 with k1;rw[k3,k2,k1]
  ·exact⟨⟨[],b,false,0,0⟩,[],fun h=>absurd h hf⟩
 exact⟨⟨fun f=>Classical.choose (key f),fun f=>Classical.choose (l8 (key f)),fun f hf=>(l8 (l8 (key f)) hf).1,fun f g hg=>(l8 (l8 (key f)) (aH hg)).2.1 g hg,fun f hf=>(l8 (l8 (key f)) hf).2.2.1,fun f hf=>(l8 (l8 (key f)) hf).2.2.2.1,fun f hf=>(l8 (l8 (key f)) hf).2.2.2.2⟩⟩
section
variable {p:List LO} {b:LF} {first second:Int} (S:Sy p b)
structure ItA (S:Sy p b) (f j:Nat) (it:LN) (d:Int):Prop where
 lt:f<(ay p).length
 get:(aA p f b)[j]?=some it
 dep:(S.ds f)[j]?=some d
inductive Cal (first second:Int) (W:Int->Int):Int->Int->Int->Int->List Int->Prop where
 | done {n sp fp:Int}:Cal first second W n 0 sp fp []
 | less {n r sp fp d:Int} {R:List Int} {f j:Nat} {it:LN} (hi:ItA S f j it d) (hc:it.J2.I9=12) (hn:n=jE (foldIf p b) it.J2.J7) (hr:r=adr p b first second f (j+1)) (hf:(S.C f).J6=false) (h0:0<=sp) (hin:sp+d<1200) (next:Cal first second W (S.C f).args (W (sp+d)) (sp+d+1) fp R):Cal first second W n r sp fp (r::R)
 | fram {n r sp fp d:Int} {R:List Int} {f j:Nat} {it:LN} (hi:ItA S f j it d) (hc:it.J2.I9=12) (hn:n=jE (foldIf p b) it.J2.J7) (hr:r=adr p b first second f (j+1)) (hf:(S.C f).J6=true) (h0:0<=sp) (NR:sp+d=fp) (hin:fp+1<1200) (next:Cal first second W (S.C f).args (W (fp+1)) (fp+2) (W fp) R):Cal first second W n r sp fp (r::R)
variable {S}
theorem ItA.op {f j:Nat}{it:LN}{d:Int}(h:ItA S f j it d):OpTy (S.C f) j it d:=(S.ty f h.lt).item j it d h.get h.dep
theorem ItA.next {f j:Nat}{d:Int}(hf:f<(ay p).length)(h:(S.ds f)[j]?=some d):∃it,ItA S f j it d:=by obtain⟨it,Nt⟩:=ae (l:=aA p f b) (k:=j) (by rw[<-(S.ty f hf).len];exact aH h);exact⟨it,hf,Nt,h⟩
theorem ItA.call {f j:Nat}{it:LN}{d:Int}(h:ItA S f j it d)(hc:it.J2.I9=12):0<=it.J2.J7/\it.J2.J7.toNat<(ay p).length/\jE (foldIf p b) it.J2.J7=(S.C it.J2.J7.toNat).args/\(S.C f).I8+jE (foldIf p b) it.J2.J7<=d/\0<=jE (foldIf p b) it.J2.J7:=by
 obtain⟨h0,g,hg,hd⟩:=h.op.call hc;rw[S.prog f h.lt]at hg hd;have PS:(ay p)[it.J2.J7.toNat]?=some g:=by rw[<-mq p b];exact hg
 have ha:jE (foldIf p b) it.J2.J7=argsN (foldIf p b) g:=by rw[jE,hg]
 refine⟨h0,aH PS,?_,o_,o_⟩;rw[ha,S.args _ g PS]
theorem Cal.agree {W W':Int->Int}:∀{n r sp fp:Int} {R:List Int},Cal S first second W n r sp fp R->(∀a,sp+n<=a->W' a=W a)->Cal S first second W' n r sp fp R:=by
 intro n r sp fp R h
 induction h with
 | done=>intro _;exact .done
 | @less n r sp fp d R f j it hi hc hn hr hf h0 hin next ih=>
  intro hw;obtain⟨_,_,c3,c4,c5⟩:=hi.call hc;have NS:=S.w f hi.lt;have ha:=S.a4 f hi.lt;have e:=hw (sp+d) o_;refine .less hi hc hn hr hf h0 hin ?_;rw[e]
  exact ih fun a ha=>hw a o_
 | @fram n r sp fp d R f j it hi hc hn hr hf h0 NR hin next ih=>intro hw;obtain⟨_,_,c3,c4,c5⟩:=hi.call hc;have NS:=S.w f hi.lt;have ha:=S.a4 f hi.lt;refine .fram hi hc hn hr hf h0 NR hin ?_;rw[hw fp o_,hw (fp+1) o_];exact ih fun a ha=>hw a o_
def Body (S:Sy p b)(first second:Int)(W:Int->Int)(f i:Nat)(d sp fp:Int)(R:List Int):Prop:=
 0<=sp/\(if(S.C f).J6=true/\0<i then sp+d=fp/\fp+1<1200/\Cal S first second W (S.C f).args (W (fp+1)) (fp+2) (W fp) R
  else sp+d<1200/\Cal S first second W (S.C f).args (W (sp+d)) (sp+d+1) fp R)
theorem Body.agree {W W':Int->Int}{f i i':Nat}{d d' sp OT fp:Int}{R:List Int}(h:Body S first second W f i d sp fp R)(h0:0<=OT)(hs:OT+d'=sp+d)(hi:(S.C f).J6=true->(0<i↔0<i'))
  (hw:∀a,sp+d<=a->(a<sp+d+1\/((S.C f).J6=true/\a<sp+d+2)\/sp+d+1+(S.C f).args<=a)->((S.C f).J6=true->0<i->sp+d+2<=a->sp+d+2+(S.C f).args<=a)->W' a=W a) (ha:0<=(S.C f).args):Body S first second W' f i' d' OT fp R:=by
 obtain⟨_,h⟩:=h;refine⟨h0,?_⟩;by_cases hf:(S.C f).J6=true/\0<i
 ·rw[c7 hf]at h;rw[c7 ⟨hf.1,(hi hf.1).1 hf.2⟩];obtain⟨h1,h2,h3⟩:=h;refine⟨o_,h2,?_⟩;rw[hw fp o_ o_ (fun _ _ h=>o_),hw (fp+1) o_ (.inr (.inl ⟨hf.1,o_⟩)) (fun _ _ h=>o_)];exact h3.agree fun a ha=>hw a o_ (.inr (.inr o_)) (fun _ _ _=>o_)
 ·rw[b8 hf]at h;rw[b8 (fun hc=>hf ⟨hc.1,(hi hc.1).2 hc.2⟩)];obtain⟨h1,h2⟩:=h;refine⟨o_,?_⟩;rw[hs,hw (sp+d) o_ (.inl o_) (fun k1 k2=>absurd ⟨k1,k2⟩ hf)];exact h2.agree fun a ha=>hw a o_ (.inr (.inr o_)) (fun k1 k2=>absurd ⟨k1,k2⟩ hf)
def Cur (S:Sy p b)(first second:Int)(m:LP)(R:List Int):Prop:=
 ∃(f i:Nat) (it:LN) (d:Int),ItA S f i it d/\m.K0=adr p b first second f i/\Body S first second (aL m) f i d m.J5 m.L0 R
theorem Cal.back {W:Int->Int}{n r sp fp:Int}{R:List Int}(h:Cal S first second W n r sp fp R)(hr:r≠0):∃(f j:Nat) (it:LN) (d:Int) (R':List Int),R=r::R'/\ItA S f j it d/\it.J2.I9=12/\n=jE (foldIf p b) it.J2.J7/\r=adr p b first second f (j+1)/\Body S first second W f j d sp fp R':=by
 cases h with
 | done=>exact absurd rfl hr
 | less hi hc hn Pu hf h0 hin next=>exact⟨_,_,_,_,_,rfl,hi,hc,hn,Pu,h0,by rw[b8 (by rw[hf];simp)];exact⟨hin,next⟩⟩
 | fram hi hc hn Pu hf h0 NR hin next=>
  rename_i d R f j it
  have hj:0<j:=by
   rcases v3 j with h|h
   ·have:=(hi.op.head h).1;rw[c7 hf]at this;omega
   ·exact h
  exact⟨_,_,_,_,_,rfl,hi,hc,hn,Pu,h0,by rw[c7 ⟨hf,hj⟩];exact⟨NR,hin,next⟩⟩
end
end
noncomputable section
section
variable {p:List LO} {b:LF} {first second:Int} {S:Sy p b}
def kV (p:List LO)(b:LF)(first second:Int)(f i:Nat)(it:LN)(R:List Int):List Int:=
 if it.J2.I9=12 then adr p b first second f (i+1)::R else if it.J2.I9=14\/it.J2.I9=16 then R.tail else R
theorem cY {f i:Nat}{it:LN}{R:List Int}(Rt:it.J2.I9≠12)(Xt:it.J2.I9≠14)(X8:it.J2.I9≠16):kV p b first second f i it R=R:=by unfold kV;rw[b8 Rt,b8 o_]
theorem kw {m:LP}{f i:Nat}{d:Int}{R:List Int}(hf:f<(ay p).length)(hd:(S.ds f)[i]?=some d)(MZ:m.K0=adr p b first second f i)(hB:Body S first second (aL m) f i d m.J5 m.L0 R):Cur S first second m R:=by obtain⟨it,Nt⟩:=ItA.next hf hd;exact⟨f,i,it,d,Nt,MZ,hB⟩
theorem kL {c c':CS}{f i i':Nat}{it:LN}{d d' sp lo:Int}{R:List Int}(hI:ItA S f i it d)(hB:Body S first second (aL c.m) f i d c.m.J5 c.m.L0 R)(hS:Same c c' sp lo)(h0:0<=sp)(Pr:lo<=c.m.J5+d)(hd:(S.ds f)[i']?=some d')(he:sp+d'=c.m.J5+d)(hi:(S.C f).J6=true->(0<i↔0<i'))(MZ:c'.m.K0=adr p b first second f i'):Cur S first second c'.m R:=by refine kw hI.lt hd MZ ?_;rw[hS.sp,hS.fp];exact hB.agree h0 he hi (fun a ha _ _=>hS.I8 a o_) (S.a4 f hI.lt).1
theorem CY {es:List Int}{c:CS}{o:LQ}(h:5<=o.I9/\o.I9<=9):bJ es c o=la c (o.I9-3):=by unfold bJ;rw[b8 o_,b8 o_,b8 o_,b8 o_,b8 o_,c7 h]
theorem V43{p:Prop}(h:p:=by
 obtain⟨_,q3,q4⟩:=Ke hc hb;rw[cY o_ o_ o_];have hi:=M9 o_ o_;refine .inr (kL hI hB q4 (by have:=q3.lo;rw[q4.sp]at this;exact this) o_ (fall aad) ?_ (iff1 hi o_) (by rw[q4.pc];exact MZ));unfold gz;rw[c7 o_]
 omega):p:=h
theorem Ik (h:SpOk p b first second){c:CS}{R:List Int}{f i:Nat}{it:LN}{d:Int}(hI:ItA S f i it d)(MZ:c.m.K0=adr p b first second f (i+1))(hB:Body S first second (aL c.m) f i d c.m.J5 c.m.L0 R)(hc:Stk c)
  (hb:(bJ (aQ p b first second).L9 c (cN (aZ (aW p b f) (aA p f b)) i it).J2).bad=false):
  (bJ (aQ p b first second).L9 c (cN (aZ (aW p b f) (aA p f b)) i it).J2).m.K0=0\/Cur S first second (bJ (aQ p b first second).L9 c (cN (aZ (aW p b f) (aA p f b)) i it).J2).m (kV p b first second f i it R):=by
 have Mw:=hI.op;have Pl:=S.ty f hI.lt;have hw:=S.w f hI.lt;have ha:=S.a4 f hI.lt;have SR:=gJ (aZ (aW p b f) (aA p f b)) i it
 have SB:it.J2.I9≠10->it.J2.I9≠11->(cN (aZ (aW p b f) (aA p f b)) i it).J2.J7=it.J2.J7:=fun h1 h2=>by
  unfold cN;rw[b8 (by rw[isJump_iff];omega)]
 have Wy:it.J2.I9=10\/it.J2.I9=11->(cN (aZ (aW p b f) (aA p f b)) i it).J2.J7=adr p b first second f it.J2.J7.toNat-adr p b first second f (i+1):=fun h1=>by
  unfold cN;rw[c7 (isJump_iff.2 h1)];show atL _ _-atL _ _=_;unfold adr;omega
 generalize(cN (aZ (aW p b f) (aA p f b)) i it).J2=o at *
 have Zh:=hB.1;have Xa:=hc.hi
 have M9:it.J2.I9≠13->it.J2.I9≠15->0<i:=fun h1 h2=>by
  rcases v3 i with e|e
  ·have:=(Mw.head e).1;split at this<;>omega
  ·exact e
 have QG:0<=d:=by
  rcases v3 i with e|e
  ·have:=Mw.lo.1 e;omega
  ·have:=Mw.lo.2 e;omega
 have fall:=fun(hf:eH it.J2.I9)=>Pl.fall i it d hI.get hI.dep hf;have iff1:∀{i':Nat},0<i->0<i'->((S.C f).J6=true->(0<i↔0<i')):=fun a b _=>⟨fun _=>b,fun _=>a⟩
 have spd:c.m.J5+d<1200:=by obtain⟨_,hB⟩:=hB;split at hB<;>omega
 have Na:0<=o.I9/\o.I9<=17:=by
  have h1:=(ll h hI.lt hI.get).size;rw[SR];by_cases hr:af it.J2.I9 0 17=true
  ·exact within_iff.1 hr
  ·unfold aE at h1;rw[b8 hr]at h1;omega
 by_cases c0:o.I9=0
 ·rw[show bJ (aQ p b first second).L9 c o=bi c o.J7 by unfold bJ;rw[c7 c0]]at hb⊢;obtain⟨_,_,q3,q4,_⟩:=lm hc hb;rw[cY o_ o_ o_];have hi:=M9 o_ o_;refine .inr (kL hI hB q4 (by have:=q3.lo;rw[q4.sp]at this;exact this) o_ (fall aad) ?_ (iff1 hi o_) (by rw[q4.pc];exact MZ));unfold gz;rw[c7 o_];omega
 by_cases c1:o.I9=1
 ·rw[show bJ (aQ p b first second).L9 c o=gB c (wr (c.m.L0+o.J7)) by unfold bJ;rw[b8 o_,c7 c1]]at hb⊢;exact V43
 by_cases c3:o.I9=3
 ·rw[show bJ (aQ p b first second).L9 c o=gB c (wr (c.m.J5+o.J7)) by unfold bJ;rw[b8 o_,b8 o_,c7 c3]]at hb⊢;exact V43
 have down:∀{x:LQ},x.I9=it.J2.I9->(x.I9=2\/x.I9=4\/(5<=x.I9/\x.I9<=9)\/x.I9=11\/x.I9=17)->gz (S.C f) it.J2 d=d-1:=fun{x} e hx=>by
  unfold gz;rw[b8 o_,c7 o_]
 by_cases c2:o.I9=2
 ·rw[show bJ (aQ p b first second).L9 c o=dm c (wr (c.m.L0+o.J7)) by unfold bJ;rw[b8 o_,b8 o_,b8 o_,c7 c2]]at hb⊢;obtain⟨_,s2,s3,s4,s5,s6,s7,s8,_,s10⟩:=BW hc hb;rw[cY o_ o_ o_];have hi:=M9 o_ o_;obtain⟨Yx,M5⟩:=Mw.st o_;obtain⟨_,Nh,Ra⟩|⟨e4,_⟩:=M5
  ·have SJ:=hB;obtain⟨_,SJ⟩:=SJ;rw[c7 ⟨Nh,hi⟩]at SJ;have e:=SB o_ o_;have Ut:wr (c.m.L0+o.J7)=c.m.L0+o.J7:=zU o_;rw[Ut]at s3 s4 s10⊢;rw[Ut]at s5 s6 s7 s8;refine .inr (kw hI.lt (fall aad) (by rw[s8];exact MZ) ?_);rw[s6,s7,down SR o_]
   exact hB.agree o_ o_ (iff1 hi o_) (fun a h1 h2 h3=>s10 a o_ (by
    intro hx;rcases Ra with hr|hr
    ·omega
    ·have:=h3 Nh hi o_
     omega)) ha.1
  ·omega
 by_cases c4:o.I9=4
 ·rw[show bJ (aQ p b first second).L9 c o=dm c (wr (c.m.J5+o.J7)) by unfold bJ;rw[b8 o_,b8 o_,b8 o_,b8 o_,c7 c4]]at hb⊢;obtain⟨_,s2,s3,s4,s5,s6,s7,s8,_,s10⟩:=BW hc hb;rw[cY o_ o_ o_];have hi:=M9 o_ o_;obtain⟨Yx,M5⟩:=Mw.st o_;obtain⟨e2,_⟩|⟨_,Nh,Ra⟩:=M5
  ·omega
  ·have e:=SB o_ o_;have Ut:wr (c.m.J5+o.J7)=c.m.J5+o.J7:=zU o_;rw[Ut]at s3 s4 s10⊢;rw[Ut]at s5 s6 s7 s8;refine .inr (kw hI.lt (fall aad) (by rw[s8];exact MZ) ?_);rw[s6,s7,down SR o_]
   exact hB.agree o_ o_ (iff1 hi o_) (fun a h1 h2 h3=>s10 a o_ (by
    intro hx;rcases h2 with h2|h2|h2
    ·omega
    ·rw[Nh]at h2;exact absurd h2.1 s_
    ·omega)) ha.1
 by_cases c5:5<=o.I9/\o.I9<=9
 ·rw[CY c5]at hb⊢;obtain⟨_,q3,q4⟩:=Iq hc hb;rw[cY o_ o_ o_];have hi:=M9 o_ o_;have:=Mw.ar o_;refine .inr (kL hI hB q4 o_ o_ (fall aad) ?_ (iff1 hi o_) (by rw[q4.pc];exact MZ));rw[down SR o_];omega
 have jmp:isJ it.J2.I9->1<=it.J2.J7/\(S.ds f)[it.J2.J7.toNat]?=some (wN it.J2.I9 d)/\wr (adr p b first second f (i+1)+o.J7)=adr p b first second f it.J2.J7.toNat:=fun hj=>by
  obtain⟨j1,j2⟩:=Pl.jump i it d hI.get hI.dep hj;obtain⟨NI,PC⟩:=ItA.next hI.lt j2;have hr:=(ll h PC.lt PC.get).rng;refine⟨j1,j2,?_⟩;rw[Wy (by unfold isJ at hj;omega),zU o_];omega
 by_cases c10:o.I9=10
 ·rw[show bJ (aQ p b first second).L9 c o=ou c o.J7 by unfold bJ;rw[b8 o_,b8 o_,b8 o_,b8 o_,b8 o_,b8 o_,c7 c10]]at hb⊢;rw[cY o_ o_ o_];have hi:=M9 o_ o_;obtain⟨j1,j2,j3⟩:=jmp aar;refine .inr (kw hI.lt j2 (by show wr (c.m.K0+o.J7)=_;rw[MZ];exact j3) ?_);have:wN it.J2.I9 d=d:=by unfold wN;rw[b8 o_]
  rw[this];exact hB.agree Zh rfl (iff1 hi o_) (fun _ _ _ _=>rfl) ha.1
 by_cases c11:o.I9=11
 ·rw[show bJ (aQ p b first second).L9 c o=qc c o.J7 by unfold bJ;rw[b8 o_,b8 o_,b8 o_,b8 o_,b8 o_,b8 o_,b8 o_,c7 c11]]at hb⊢;rw[cY o_ o_ o_];have hi:=M9 o_ o_;have h1:=Mw.one o_
  have Qx:(aq c).bad=false:=by
   unfold qc at hb;split at hb
   ·exact hb
   ·exact hb
  obtain⟨_,_,p3,p4,_⟩:=iR hc Qx;have hS:=AB hc Qx 0;unfold qc;split
  ·obtain⟨j1,j2,j3⟩:=jmp aar;have:wN it.J2.I9 d=d-1:=(by unfold wN;rw[c7 o_]);rw[this]at j2;refine .inr (kw hI.lt j2 (by show wr ((aq c).m.K0+o.J7)=_;rw[hS.pc,MZ];exact j3) ?_);show Body S first second (aL (aq c).m) f _ (d-1) (aq c).m.J5 (aq c).m.L0 R;rw[hS.sp,hS.fp];exact hB.agree o_ o_ (iff1 hi o_) (fun a _ _ _=>hS.I8 a o_) ha.1
  ·refine .inr (kL hI hB hS o_ o_ (fall aad) ?_ (iff1 hi o_) (by rw[hS.pc];exact MZ));rw[down SR o_];omega
 by_cases c12:o.I9=12
 ·rw[show bJ (aQ p b first second).L9 c o=qb (bi c c.m.K0) (aQ p b first second).L9 o.J7 by unfold bJ;rw[b8 o_,b8 o_,b8 o_,b8 o_,b8 o_,b8 o_,b8 o_,b8 o_,c7 c12]]at hb⊢;have hi:=M9 o_ o_;obtain⟨k1,k2,k3,k4,k5⟩:=hI.call o_;have e:=SB o_ o_
  have cj:(aQ p b first second).L9[o.J7.toNat]?=some (adr p b first second o.J7.toNat 0):=by rw[Ag h (by rw[e];exact k2)];exact mL (by rw[e];exact k2)
  have hg:qb (bi c c.m.K0) (aQ p b first second).L9 o.J7=⟨{(bi c c.m.K0).m with K0:=adr p b first second o.J7.toNat 0},(bi c c.m.K0).bad⟩:=by unfold qb;rw[cj]
  rw[hg]at hb⊢;obtain⟨_,q2,q3,q4,q5⟩:=lm hc hb
  have WE:(S.ds o.J7.toNat)[0]?=some 0:=by have Re:=S.ty o.J7.toNat (by rw[e];exact k2);obtain⟨d',NU⟩:=ae (l:=S.ds o.J7.toNat) (k:=0) (by rw[Re.len];exact Re.pos);obtain⟨NI,PC⟩:=ae Re.pos;have:=(Re.item 0 NI d' PC NU).lo.1 rfl;rw[NU,this]
  refine .inr (kw (i:=0) (by rw[e];exact k2) WE rfl ?_);show Body S first second (aL (bi c c.m.K0).m) o.J7.toNat 0 0 (bi c c.m.K0).m.J5 (bi c c.m.K0).m.L0 (kV p b first second f i it R);have hn:kV p b first second f i it R=adr p b first second f (i+1)::R:=by unfold kV;rw[c7 o_]
  rw[hn,<-MZ];refine⟨by rw[q4.sp];omega,?_⟩;rw[b8 o_,q4.sp,q4.fp,Int.add_zero,q5];refine⟨o_,?_⟩;rw[show c.m.J5-1+1=c.m.J5 by omega];have Of:(S.C o.J7.toNat).args=jE (foldIf p b) it.J2.J7:=by rw[e];exact k3.symm
  have QP:∀a,c.m.J5+d<=a->aL (bi c c.m.K0).m a=aL c.m a:=fun a h1=>q4.I8 a o_;obtain⟨_,hB⟩:=hB;by_cases Nh:(S.C f).J6=true
  ·rw[c7 ⟨Nh,hi⟩]at hB;obtain⟨b1,b2,b3⟩:=hB;refine .fram hI o_ Of MZ Nh o_ b1 b2 ?_;rw[QP _ o_,QP _ o_];exact b3.agree fun a h1=>QP a o_
  ·rw[b8 (fun hx=>Nh hx.1)]at hB;obtain⟨b1,b2⟩:=hB;refine .less hI o_ Of MZ (by simpa using Nh) o_ b1 ?_;rw[QP _ o_];exact b2.agree fun a h1=>QP a o_
 have Qx:∀{c:CS} {v:Int},(bi c v).bad=false->c.bad=false:=fun{c v} h=>by
  exact V49
 have S5:∀{c:CS},(aq c).bad=false->c.bad=false:=fun{c} h=>by
  exact V59
 have WG:∀(n:Nat) {c:CS},(bz n c).bad=false->c.bad=false:=fun n=>by
  induction n with
  | zero=>intro c h;exact h
  | succ n ih=>intro c h;exact S5 (ih h)
 by_cases c13:o.I9=13
 ·rw[show bJ (aQ p b first second).L9 c o=qR c o.J7.toNat by unfold bJ;rw[b8 o_,b8 o_,b8 o_,b8 o_,b8 o_,b8 o_,b8 o_,b8 o_,b8 o_,c7 c13]]at hb⊢;have hi:=Mw.ent13 o_;subst hi;obtain⟨XN,Zd⟩:=Mw.head rfl;have S6:=Mw.lo.1 rfl;subst S6
  have Nh:(S.C f).J6=true:=by cases hx:(S.C f).J6 with|true=>rfl|false=>rw[hx]at XN;simp at XN;omega
  have e:=SB o_ o_;rw[cY o_ o_ o_];obtain⟨X,SE⟩:∃X:CS,X=⟨{(bi c c.m.L0).m with L0:=(bi c c.m.L0).m.J5},(bi c c.m.L0).bad⟩:=⟨_,rfl⟩;have Yy:qR c o.J7.toNat=dC o.J7.toNat X:=by rw[SE];rfl
  rw[Yy]at hb⊢;have Zq:X.bad=(bi c c.m.L0).bad:=by rw[SE]
  have hz:∀(n:Nat) {c:CS},(dC n c).bad=false->c.bad=false:=fun n=>by
   intro c h
   cases hx:c.bad with
   | false=>rfl
   | true=>rw[rr n c hx]at h;cases h
  have Nj:(bi c c.m.L0).bad=false:=by rw[<-Zq];exact hz _ hb
  obtain⟨_,q2,q3,q4,q5⟩:=lm hc Nj;have Tf:Stk X:=by rw[SE];exact⟨q3.len,q3.lo,q3.hi⟩
  have x1:X.m.J5=c.m.J5-1:=by rw[SE];exact q4.sp
  have x2:X.m.L0=c.m.J5-1:=by rw[SE];exact q4.sp
  have x3:X.m.K0=c.m.K0:=by rw[SE];exact q4.pc
  have x4:∀a,aL X.m a=aL (bi c c.m.L0).m a:=fun a=>by rw[SE];rfl
  obtain⟨_,z2,z3⟩:=vq o.J7.toNat Tf hb
  have Yt:(S.ds f)[1]?=some (S.C f).I8:=by have:=fall aad;rw[ph (C:=S.C f) (c:=it.J2.I9) (a:=it.J2.J7) o_,Zd,I5]at this;exact this
  have e2:(o.J7.toNat:Int)=(S.C f).I8:=o_;refine .inr (kw (i:=1) hI.lt Yt (by rw[z3.pc,x3];exact MZ) ?_);have zsp:=z3.sp;have zlo:=z2.lo;rw[z3.fp,x2];rw[x1]at zsp;obtain⟨_,hB⟩:=hB;rw[b8 o_,Int.add_zero]at hB;obtain⟨b1,b2⟩:=hB;refine⟨zlo,?_⟩;rw[c7 ⟨Nh,o_⟩];refine⟨o_,o_,?_⟩;have OO:∀a,c.m.J5-1<=a->aL (dC o.J7.toNat X).m a=aL (bi c c.m.L0).m a:=fun a h1=>by rw[z3.I8 a o_,x4]
  rw[OO _ o_,OO _ o_,q5,q4.I8 _ o_,show c.m.J5-1+1=c.m.J5 by omega,show c.m.J5-1+2=c.m.J5+1 by omega];exact b2.agree fun a h1=>by rw[OO _ o_,q4.I8 _ o_]
 by_cases c15:o.I9=15
 ·rw[show bJ (aQ p b first second).L9 c o=dC o.J7.toNat c by unfold bJ;rw[b8 o_,b8 o_,b8 o_,b8 o_,b8 o_,b8 o_,b8 o_,b8 o_,b8 o_,b8 o_,c7 c15]]at hb⊢;have e:=SB o_ o_;rw[cY o_ o_ o_];obtain⟨_,z2,z3⟩:=vq o.J7.toNat hc hb;have zlo:=z2.lo;have zsp:=z3.sp;have hf:=fall aad;rw[ph (C:=S.C f) (c:=it.J2.I9) (a:=it.J2.J7) o_]at hf
  have hA:0<=it.J2.J7/\((S.C f).J6=true->(0<i↔0<i+1)):=by
   rcases v3 i with h0|h0
   ·obtain⟨g1,g2⟩:=Mw.head h0;refine⟨o_,fun Nh=>?_⟩;rw[c7 Nh]at g1;omega
   ·have:=Mw.sp o_ h0;exact⟨o_,fun _=>o_⟩
  exact .inr (kL hI hB z3 o_ o_ hf o_ hA.2 (by rw[z3.pc];exact MZ))
 have back:∀{v sp fp r:Int} {W:Int->Int} {cc:CS},Cal S first second (aL c.m) (S.C f).args r sp fp R->Stk cc->(bi cc v).bad=false->cc.m.J5=sp+(S.C f).args->cc.m.L0=fp->cc.m.K0=r->0<=sp->(∀a,sp<=a->aL cc.m a=aL c.m a)->(bi cc v).m.K0=0\/Cur S first second (bi cc v).m R.tail:=fun{v sp fp r W cc} hcal M5 OE e1 e2 e3 NB OO=>by
  obtain⟨_,q2,q3,q4,q5⟩:=lm M5 OE;by_cases hr:r=0
  ·exact .inl (by rw[q4.pc,e3,hr])
  ·obtain⟨f',j,NI,d',R',r1,r2,r3,r4,r5,r6⟩:=hcal.back hr;rw[r1,List.tail_cons];obtain⟨_,_,_,k4,k5⟩:=r2.call r3;have Wz:=S.w f' r2.lt
   have hj:0<j:=by
    rcases v3 j with h0|h0
    ·have:=(r2.op.head h0).1;split at this<;>omega
    ·exact h0
   have NU:=(S.ty f' r2.lt).fall j NI d' r2.get r2.dep aad
   have VW:gz (S.C f') NI.J2 d'=d'-(S.C f).args+1:=by unfold gz;rw[b8 o_,b8 o_,c7 r3,S.prog f' r2.lt,<-r4]
   rw[VW]at NU;refine .inr (kw r2.lt NU (by rw[q4.pc,e3,r5]) ?_);rw[q4.sp,q4.fp,e1,e2];exact r6.agree (by have:=q3.lo;rw[q4.sp,e1]at this;omega) o_ (fun _=>⟨fun _=>o_,fun _=>hj⟩) (fun a h1 _ _=>by rw[q4.I8 a o_,OO a o_]) (S.a4 f' r2.lt).1
 by_cases c14:o.I9=14
 ·rw[show bJ (aQ p b first second).L9 c o=qT c o.J7.toNat by unfold bJ;rw[b8 o_,b8 o_,b8 o_,b8 o_,b8 o_,b8 o_,b8 o_,b8 o_,b8 o_,b8 o_,b8 o_,c7 c14]]at hb⊢;have e:=SB o_ o_;have hi:=M9 o_ o_;obtain⟨Nh,l2,l3⟩:=Mw.leave o_;have hn:kV p b first second f i it R=R.tail:=by unfold kV;rw[b8 o_,c7 o_]
  rw[hn];obtain⟨_,hB⟩:=hB;rw[c7 ⟨Nh,hi⟩]at hB;obtain⟨b1,b2,b3⟩:=hB;unfold qT at hb⊢;have Nj:=Qx hb;have Nd:=WG _ Nj;have QZ:(aq (cFp (cX (aq c)))).bad=false:=Nd;have Tn:(aq (cX (aq c))).bad=false:=S5 (c:=cFp (cX (aq c))) QZ;have WZ:(aq c).bad=false:=S5 (c:=cX (aq c)) Tn;obtain⟨_,_,p3,p4,_⟩:=iR hc WZ;have ML:Stk (cX (aq c)):=⟨p3.len,by show 0<=(aq c).m.L0;rw[p4];dsimp only;omega,by show(aq c).m.L0<=1200;rw[p4];dsimp only;omega⟩;obtain⟨_,_,x3,x4,x5⟩:=iR ML Tn;have NR:Stk (cFp (cX (aq c))):=⟨x3.len,x3.lo,x3.hi⟩;obtain⟨_,_,y3,y4,y5⟩:=iR NR QZ;have Sq:Stk (cPc (cFp (cX (aq c)))):=⟨y3.len,y3.lo,y3.hi⟩;obtain⟨_,z2,z3⟩:=ue o.J7.toNat Sq Nj;have s1:(cX (aq c)).m.J5=c.m.L0:=by show(aq c).m.L0=_;rw[p4]
  have w1:∀a,aL (cX (aq c)).m a=aL c.m a:=fun a=>by show aL (aq c).m a=_;rw[p4];rfl
  have s2:(cFp (cX (aq c))).m.J5=c.m.L0+1:=by show(aq (cX (aq c))).m.J5=_;rw[x4];dsimp only;rw[s1]
  have w2:∀a,aL (cFp (cX (aq c))).m a=aL c.m a:=fun a=>by
   show aL (aq (cX (aq c))).m a=_;rw[x4];exact w1 a
  have f2:(cFp (cX (aq c))).m.L0=aL c.m c.m.L0:=by show li (cX (aq c))=_;rw[x5,s1,w1]
  have s3:(cPc (cFp (cX (aq c)))).m.J5=c.m.L0+2:=by show(aq (cFp (cX (aq c)))).m.J5=_;rw[y4];dsimp only;rw[s2];omega
  have w3:∀a,aL (cPc (cFp (cX (aq c)))).m a=aL c.m a:=fun a=>by
   show aL (aq (cFp (cX (aq c)))).m a=_;rw[y4];exact w2 a
  have f3:(cPc (cFp (cX (aq c)))).m.L0=aL c.m c.m.L0:=by show(aq (cFp (cX (aq c)))).m.L0=_;rw[y4];exact f2
  have g3:(cPc (cFp (cX (aq c)))).m.K0=aL c.m (c.m.L0+1):=by show li (cFp (cX (aq c)))=_;rw[y5,s2,w2]
  refine back (W:=aL c.m) b3 z2 hb ?_ ?_ ?_ o_ ?_
  ·rw[z3];dsimp only;rw[s3];omega
  ·rw[z3];exact f3
  ·rw[z3];exact g3
  ·intro a _;rw[z3];exact w3 a
 by_cases c16:o.I9=16
 ·rw[show bJ (aQ p b first second).L9 c o=nS c o.J7.toNat by unfold bJ;rw[b8 o_,b8 o_,b8 o_,b8 o_,b8 o_,b8 o_,b8 o_,b8 o_,b8 o_,b8 o_,b8 o_,b8 o_,c7 c16]]at hb⊢;have e:=SB o_ o_;have hi:=M9 o_ o_;obtain⟨Nh,l2,l3⟩:=Mw.ret o_;have hn:kV p b first second f i it R=R.tail:=by unfold kV;rw[b8 o_,c7 o_]
  rw[hn];obtain⟨_,hB⟩:=hB;rw[b8 (fun hx=>by rw[Nh]at hx;exact absurd hx.1 s_)]at hB;obtain⟨b1,b2⟩:=hB;have d1:((o.J7.toNat/16:Nat):Int)=(S.C f).I8:=o_;have d2:((o.J7.toNat%16:Nat):Int)=(S.C f).args:=o_;unfold nS at hb⊢;have Nj:=Qx hb;have Nd:=WG _ Nj;have QZ:(aq (bz (o.J7.toNat/16) (aq c))).bad=false:=Nd;have Tn:(bz (o.J7.toNat/16) (aq c)).bad=false:=S5 QZ;have WZ:(aq c).bad=false:=WG _ Tn;obtain⟨_,_,p3,p4,_⟩:=iR hc WZ;obtain⟨_,x2,x3⟩:=ue _ p3 Tn;obtain⟨_,_,y3,y4,y5⟩:=iR x2 QZ;have Sq:Stk (cPc (bz (o.J7.toNat/16) (aq c))):=⟨y3.len,y3.lo,y3.hi⟩;obtain⟨_,z2,z3⟩:=ue (o.J7.toNat%16) Sq Nj;have s1:(bz (o.J7.toNat/16) (aq c)).m.J5=c.m.J5+d:=by rw[x3,p4];dsimp only;omega
  have w1:∀a,aL (bz (o.J7.toNat/16) (aq c)).m a=aL c.m a:=fun a=>by rw[x3,p4];rfl
  have s2:(cPc (bz (o.J7.toNat/16) (aq c))).m.J5=c.m.J5+d+1:=by show(aq _).m.J5=_;rw[y4];dsimp only;rw[s1]
  have w2:∀a,aL (cPc (bz (o.J7.toNat/16) (aq c))).m a=aL c.m a:=fun a=>by
   show aL (aq _).m a=_;rw[y4];exact w1 a
  have f2:(cPc (bz (o.J7.toNat/16) (aq c))).m.L0=c.m.L0:=by show(aq _).m.L0=_;rw[y4];dsimp only;rw[x3,p4]
  have g2:(cPc (bz (o.J7.toNat/16) (aq c))).m.K0=aL c.m (c.m.J5+d):=by show li _=_;rw[y5,s1,w1]
  refine back (W:=aL c.m) b2 z2 hb ?_ ?_ ?_ o_ ?_
  ·rw[z3];dsimp only;rw[s2];omega
  ·rw[z3];exact f2
  ·rw[z3];exact g2
  ·intro a _;rw[z3];exact w2 a
 ·have c17:o.I9=17:=o_;rw[show bJ (aQ p b first second).L9 c o=KF c by unfold bJ;rw[b8 o_,b8 o_,b8 o_,b8 o_,b8 o_,b8 o_,b8 o_,b8 o_,b8 o_,b8 o_,b8 o_,b8 o_,b8 o_,c7 c17]]at hb⊢;rw[cY o_ o_ o_];have hi:=M9 o_ o_;have h1:=Mw.one o_;have Qx:(aq c).bad=false:=hb;obtain⟨_,_,p3,p4,_⟩:=iR hc Qx;have hS:=AB hc Qx 0;refine .inr (kw hI.lt (fall aad) (by show(aq c).m.K0=_;rw[hS.pc];exact MZ) ?_);show Body S first second (aL (aq c).m) f (i+1) _ (aq c).m.J5 (aq c).m.L0 R;rw[hS.sp,hS.fp,down SR o_];exact hB.agree o_ o_ (iff1 hi o_) (fun a _ _ _=>hS.I8 a o_) ha.1
theorem HW (h:SpOk p b first second){m m':LP}{R:List Int}{f i:Nat}{it:LN}{d:Int}(hI:ItA S f i it d)(MZ:m.K0=adr p b first second f i)(hB:Body S first second (aL m) f i d m.J5 m.L0 R)(hm:MInv m 0)(hs:fh (aQ p b first second) m=some m'):
  m'.L6=1\/Cur S first second m' (kV p b first second f i it R):=by
 have NZ:=ll h hI.lt hI.get;have hr:=NZ.rng;have hz:=NZ.size;unfold fh at hs;rw[MZ,NZ.fetch]at hs;dsimp only at hs;have hc:Stk (adv ⟨m,false⟩ ((aE it.J2.I9).toNat:Nat)):=⟨hm.len,hm.sp.1,hm.sp.2⟩
 have ZV:(adv ⟨m,false⟩ ((aE it.J2.I9).toNat:Nat)).m.K0=adr p b first second f (i+1):=by show wr (m.K0+(((aE it.J2.I9).toNat:Nat):Int))=_;rw[MZ,NZ.next,zU o_];omega
 have key:=Ik (S:=S) (R:=R) h hI ZV (show Body S first second (aL (adv ⟨m,false⟩ ((aE it.J2.I9).toNat:Nat)).m) f i d (adv ⟨m,false⟩ ((aE it.J2.I9).toNat:Nat)).m.J5 (adv ⟨m,false⟩ ((aE it.J2.I9).toNat:Nat)).m.L0 R from hB) hc
 generalize bJ (aQ p b first second).L9 (adv ⟨m,false⟩ ((aE it.J2.I9).toNat:Nat)) (cN (aZ (aW p b f) (aA p f b)) i it).J2=c at *
 unfold mb at hs;split at hs
 ·cases hs
 ·rename_i OE;have key:=key (by simpa using OE);split at hs
  ·split at hs
   ·injection hs with hs;subst hs;exact .inl rfl
   ·cases hs
  ·rename_i Rv;injection hs with hs;subst hs;rcases key with k|k
   ·exact absurd k Rv
   ·exact .inr k
end
end
theorem tk {v:LZ}{pc sp fp:Int}(hw:∀x∈v.Ma,inI x)(MZ:inI pc)(hs:v.Ma.length<=1048576):inI (fP v pc sp fp).K0/\(∀x∈(fP v pc sp fp).Ma,inI x)/\(fP v pc sp fp).Ma.length<=1048576:=by refine⟨MZ,fun x hx=>hw x (z7 hx),?_⟩;show(v.Ma.drop _).length<=_;rw[t9];omega
theorem vA {v:LZ}{a x:Int}(h:dl v a=some x):x∈v.Ma:=by
 unfold dl at h;split at h
 ·exact c9 h
 ·cases h
theorem Ad {s:LW}{rules:List (List LV)}{v x:LZ}{inner:Bool}(hw:∀x∈v.Ma,inI x)(hs:v.Ma.length<=1048576)(h:bC s rules v inner=some x):inI x.K0/\(∀y∈x.Ma,inI y)/\x.Ma.length<=1048576:=by
 unfold bC at h;split at h
 ·split at h
  ·unfold jS at h;split at h
   ·split at h
    ·rename_i f pc e1 e2;injection h with h;subst h;exact tk hw (hw _ (vA e2)) hs
    ·cases h
   ·split at h
    ·rename_i pc e1;injection h with h;subst h;exact tk hw (hw _ (vA e1)) hs
    ·cases h
  ·cases h
 ·cases h
theorem zL {v:LZ}(h:v.Ma.length<=1048576):aF 1048576 v.tr:=by simp only[LZ.tr,aF];exact⟨by simp[aw],by simp[aw],by simp[aw],lE h,trivial⟩
def rA (s:LW)(rules:List (List LV)):Nat->LZ->Bool->List Int×Bool
 | 0,_,_=>([],false)
 | k+1,v,inner=>(match bC s rules v inner with
   | none=>([],false)
   | some x=>if x.K0=0 then([],true)else(x.K0::(rA s rules k x false).1,(rA s rules k x false).2))
def rP (s:LW)(rules:List (List LV))(v:LZ):List Int×Bool:=(v.K0::(rA s rules 39 v true).1,(rA s rules 39 v true).2)
structure UnIx (s:LW) (rules:List (List LV)) (R:List Int×Bool) where
 k:Nat
 x:LZ
 acc:List Int
 first:Bool
 hk:acc.length+k=40
 hk1:1<=acc.length
 h1:acc.length=1↔first=true
 h2:inI x.K0/\(∀y∈x.Ma,inI y)/\x.Ma.length<=1048576
 hr:acc++(rA s rules k x first).1=R.1/\(rA s rules k x first).2=R.2
theorem wU (s:LW)(rules:List (List LV))(v:LZ)(hv:v.wf)(hs:aF 1048576 s.tr)(hr:aw 1048576 (.lst 1 (rules.map (cQ 4 LV.tr))))(Pg:aF 1048576 v.tr):Sim.Spec prog 14 [.agg s.tr,tvL 1 (rules.map (cQ 4 LV.tr)),.agg v.tr] (.tup [.c (.arr 1 ((rP s rules v).1.map aa)),.c (.t (.bool (rP s rules v).2))]):=by
 refine ak hΓ aG func14 rfl d_ rfl ?_;have SW:v.Ma.length<=1048576:=by have:=Pg;simp only[LZ.tr,aF]at this;exact bE this.2.2.2.1
 obtain⟨R,hR⟩:∃R,rP s rules v=R:=⟨_,rfl⟩;rw[hR];unfold rP at hR;repeat' ((conv=>whnf);first|refine Or.inl ?_|apply oi|apply fi|intro h|exact Y1|refine e_ rfl ?_)
 conv=>whnf
 refine⟨UnIx s rules R,fun q=>match q.first with
  | true=>⟨[(1,.r (.c (.t (.lst 1 (rules.map (cQ 4 LV.tr)))))),(3,.r (.c (.ptr (3,0,0) 0))),(5,.r (.c (.ptr (5,0,0) 0))),(8,.r (.c (.own (8,0,1))))],[((8,0,1),some (.arr true 1 (q.acc.map aa))),((5,0,0),some (.box [.t (.int .i64 q.x.K0),.t (.int .i64 q.x.J5),.t (.int .i64 q.x.L0),.t (.lst 1 (q.x.Ma.map aa))])),((3,0,0),some (.box (s.tr.map .t)))],[13,5,3,8]⟩
  | false=>⟨[(1,.r (.c (.t (.lst 1 (rules.map (cQ 4 LV.tr)))))),(3,.r (.c (.ptr (3,0,0) 0))),(5,.r (.c (.ptr (5,0,0) 0))),(8,.r (.c (.own (8,0,1))))],[((8,0,1),some (.arr true 1 (q.acc.map aa))),((5,0,0),some (.box [.t (.int .i64 q.x.K0),.t (.int .i64 q.x.J5),.t (.int .i64 q.x.L0),.own (5,0,1)])),((5,0,1),some (.arr true 1 (q.x.Ma.map aa))),((3,0,0),some (.box (s.tr.map .t)))],[13,5,3,8]⟩,
  fun q=>q.k,⟨39,v,[v.K0],true,rfl,s_,s_,⟨hv.1,hv.2.2.2.2,SW⟩,by rw[<-hR];exact⟨rfl,rfl⟩⟩,?_,?_⟩
 ·exact Z1
 intro⟨k,x,acc,first,hk,hk1,h1,h2,U2⟩;have NO:=U2;have M4:(acc.map aa).length=acc.length:=s_
 have hin:(((acc.map aa).length:Int)==1)=first:=by
  rw[M4]
  cases first with
  | true=>simp[h1.2 rfl]
  | false=>
   have:acc.length≠1:=fun e=>by have:=h1.1 e;cases this
   simp;omega
 have hU:Sim.Spec prog 66 [.agg s.tr,tvL 1 (rules.map (cQ 4 LV.tr)),.agg x.tr,tvB (((acc.map aa).length:Int)==1)] (.tup [.agg ((oV (bC s rules x first)).tr.map tM),.c (.t (.bool (bC s rules x first).isSome))]):=by rw[hin];exact qj s rules x first h2.1 hs hr (zL h2.2.2)
 cases k with
 | zero=>
  rw[rA,m6]at NO;obtain⟨r1,r2⟩:=NO;subst r1
  cases first
  all_goals
   repeat' ((conv=>whnf);first|refine Or.inl ?_|apply oi|apply fi|intro h|exact Y1|refine e_ rfl ?_)
   all_goals try(exfalso;have h':=f0 h;rw[M4]at h';omega)
   all_goals try exact⟨congrArg Tr.bool r2⟩
 | succ k=>
  match hx:bC s rules x first with
  | none=>
   rw[rA,hx]at NO;dsimp only at NO;rw[m6]at NO;obtain⟨r1,r2⟩:=NO;subst r1;rw[hx]at hU
   cases first
   all_goals
    repeat' ((conv=>whnf);first|refine Or.inl ?_|apply oi|apply fi|intro h|refine ci hU (ai (ai rfl (ai rfl (ai rfl trivial))) (ai rfl (ai (ai rfl (ai rfl (ai rfl (ai rfl trivial)))) (ai rfl trivial)))) ?_|exact Y1|refine e_ rfl ?_)
    all_goals try(exfalso;first|(simp at h;done)|(have h':=f9 h;rw[M4]at h';omega))
    all_goals try exact⟨congrArg Tr.bool r2⟩
  | some nx=>
   have hg:=Ad h2.2.1 h2.2.2 hx;rw[rA,hx]at NO;dsimp only at NO;rw[hx]at hU;by_cases h0:nx.K0=0
   ·rw[c7 h0,m6]at NO;obtain⟨r1,r2⟩:=NO;subst r1
    cases first
    all_goals
     repeat' ((conv=>whnf);first|refine Or.inl ?_|apply oi|apply fi|intro h|refine ci hU (ai (ai rfl (ai rfl (ai rfl trivial))) (ai rfl (ai (ai rfl (ai rfl (ai rfl (ai rfl trivial)))) (ai rfl trivial)))) ?_|exact Y1|refine e_ rfl ?_)
     all_goals try(exfalso;first|(simp at h;done)|(have h':=f9 h;rw[M4]at h';omega)|(have h':(nx.K0==0)=false:=h;rw[h0]at h';simp at h'))
     all_goals try exact⟨congrArg Tr.bool r2⟩
   ·rw[b8 h0]at NO
    cases first
    all_goals
     repeat' ((conv=>whnf);first|refine Or.inl ?_|apply oi|apply fi|intro h|refine ci hU (ai (ai rfl (ai rfl (ai rfl trivial))) (ai rfl (ai (ai rfl (ai rfl (ai rfl (ai rfl trivial)))) (ai rfl trivial)))) ?_|exact Y1|refine e_ rfl ?_)
     all_goals try(exfalso;first|(simp at h;done)|(have h':=f9 h;rw[M4]at h';omega)|(have h':(nx.K0==0)=true:=h;exact h0 (by simpa using h')))
     all_goals try(refine⟨?_⟩;simp only[e7,d5,i8];exact⟨o_,o_⟩)
     all_goals conv=>whnf
     all_goals refine⟨⟨k,nx,acc++[nx.K0],false,by simp;omega,s_,⟨fun e=>by rw[c8,d5,i8]at e;omega,fun e=>by cases e⟩,hg,by rw[j9];exact NO⟩,?_,KD⟩
     repeat' ((conv=>whnf);first|refine Or.inl ?_|apply oi|apply fi|intro h|exact Y1|refine e_ rfl ?_)
     all_goals try(refine⟨?_⟩;dsimp only;rw[u4];rfl)
noncomputable section
def dk (m:LP)(pc sp fp:Int):LZ:=⟨pc,sp,fp,m.Mf.drop sp.toNat⟩
theorem xO {m:LP}{pc sp fp:Int}(hl:m.Mf.length=1200)(h0:0<=sp)(h1:sp<=1200):fj (dk m pc sp fp)=true:=by rw[viewOk_iff];unfold dk;dsimp only;rw[t9,hl];omega
theorem ml {m:LP}{pc sp fp a:Int}(hl:m.Mf.length=1200)(h0:0<=sp)(h1:sp<=a)(h2:a<1200):dl (dk m pc sp fp) a=some (aL m a):=by
 unfold dl
 rw[c7 ⟨xO hl h0 o_,by
  rw[within_iff];unfold dk;dsimp only;rw[t9,hl];omega⟩]
 unfold dk aL;dsimp only;rw[v7,show sp.toNat+(a-sp).toNat=a.toNat by omega];obtain⟨x,hx⟩:=ae (l:=m.Mf) (k:=a.toNat) o_;rw[hx]
theorem qe {m:LP}{pc sp fp XD OT Uo:Int}(h0:0<=sp)(h1:sp<=OT):fP (dk m pc sp fp) XD OT Uo=dk m XD OT Uo:=by unfold fP dk;dsimp only;rw[F1,show sp.toNat+(OT-sp).toNat=OT.toNat by omega]
section
variable {p:List LO} {b:LF} {first second:Int} {S:Sy p b}
theorem V58{p:Prop}(h:p:=by
 have a:=ll h hi.lt hi.get;have a1:=a.rng;have a2:=a.next;have a3:=a.size;refine⟨⟨fun e=>o_,fun e=>by cases e⟩,fun x hx=>?_⟩;rcases d6.1 hx with rfl|hx
 ·omega
 ·exact ih.2 x hx):p:=h
theorem Bk (h:SpOk p b first second){W:Int->Int}{n r sp fp:Int}{R:List Int}(hc:Cal S first second W n r sp fp R):(r=0↔R=[])/\(∀x∈R,x≠0):=by
 induction hc with
 | done=>simp
 | less hi hc hn hr hf h0 hin next ih=>exact V58
 | fram hi hc hn hr hf h0 NR hin next ih=>exact V58
theorem wB (h:SpOk p b first second){m:LP}(hl:m.Mf.length=1200){f i:Nat}{it:LN}{d:Int}{R:List Int}{pc sp fp:Int}{inner:Bool}(hI:ItA S f i it d)(hB:Body S first second (aL m) f i d sp fp R)(hs:0<=sp)
  (h1:adr p b first second f i<=(if inner then pc else pc-1)) (h2:(if inner then pc else pc-1)<adr p b first second f (i+1)):
  ∃n r OT Uo,bC (aQ p b first second) (kh p b) (dk m pc sp fp) inner=some (dk m r OT Uo)/\0<=OT/\Cal S first second (aL m) n r OT Uo R:=by
 obtain⟨r,hr,Nh,Tj⟩:=(ll h hI.lt hI.get).rule _ h1 h2;have Mw:=hI.op
 have NB:sp<=1200/\0<=d:=by
  have hw:=S.w f hI.lt
  have hd:0<=d:=by
   rcases v3 i with e|e
   ·have:=Mw.lo.1 e;omega
   ·have:=Mw.lo.2 e;omega
  obtain⟨_,hB⟩:=hB;split at hB<;>omega
 have Nq:bC (aQ p b first second) (kh p b) (dk m pc sp fp) inner=jS (dk m pc sp fp) r:=by unfold bC;rw[c7 ⟨h.space,xO hl hs NB.1,rfl⟩];rw[show(if inner=true then(dk m pc sp fp).K0 else(dk m pc sp fp).K0-1)=(if inner=true then pc else pc-1) from rfl,hr]
 rw[Nq];unfold jS;rw[Nh,Mw.ent,Tj,Mw.dep];obtain⟨_,hB⟩:=hB;by_cases hf:(S.C f).J6=true/\0<i
 ·rw[c7 hf]at hB;obtain⟨b1,b2,b3⟩:=hB;rw[c7 (by rw[hf.1];simpa using hf.2)];rw[show(dk m pc sp fp).L0=fp from rfl,ml hl hs o_ o_,ml hl hs o_ o_];dsimp only;rw[qe hs o_];exact⟨_,_,_,_,rfl,o_,b3⟩
 ·rw[b8 hf]at hB;obtain⟨b1,b2⟩:=hB
  rw[b8 (by
   intro hc;rw[b9,j5]at hc
   exact hf hc),b8 hf]
  rw[show(dk m pc sp fp).J5=sp from rfl,ml hl hs o_ o_];dsimp only;rw[qe hs o_];exact⟨_,_,_,_,rfl,o_,b2⟩
theorem V83{p:Prop}(h:p:=by
 obtain⟨_,_,_,_,R'',rfl,_⟩:=h3.back M7;refine Prod.ext s_ (decide_eq_decide.2 ?_);simp only[List.tail_cons,d5]
 omega):p:=h
theorem zO (h:SpOk p b first second){m:LP}(hl:m.Mf.length=1200):∀(k:Nat) {n r sp fp:Int} {R:List Int},Cal S first second (aL m) n r sp fp R->r≠0->0<=sp->
  rA (aQ p b first second) (kh p b) k (dk m r sp fp) false=(R.tail.take k,decide (R.tail.length<k))
 | 0,n,r,sp,fp,R,hc,hr,hs=>by simp[rA]
 | k+1,n,r,sp,fp,R,hc,hr,hs=>by
  obtain⟨f,j,it,d,R',rfl,hI,_,_,VT,hB⟩:=hc.back hr;have a:=ll h hI.lt hI.get;have a2:=a.next;have a3:=a.size;obtain⟨n2,r2,sp2,fp2,h1,h2,h3⟩:=wB (pc:=r) (inner:=false) h hl hI hB hs (by rw[b8 s_];omega) (by rw[b8 s_];omega);rw[rA,h1];dsimp only;have hz:=Bk h h3;rw[show(dk m r2 sp2 fp2).K0=r2 from rfl];by_cases M7:r2=0
  ·rw[c7 M7,(hz.1.1 M7)];simp
  ·rw[b8 M7,zO h hl k h3 M7 h2];exact V83
theorem CA (h:SpOk p b first second){m:LP}{R:List Int}(MA:cI m=true)(hc:Cur S first second m R):rP (aQ p b first second) (kh p b) (iK m 1200)=(m.K0::R.take 39,decide (R.length<39)):=by
 obtain⟨hl,NB,_⟩:=machineOk_iff.1 MA;obtain⟨f,i,it,d,hI,MZ,hB⟩:=hc
 have hv:iK m 1200=dk m m.K0 m.J5 m.L0:=by rw[iK,c7 ⟨MA,o_⟩,dk,gt (by rw[t9,hl];omega)]
 have a:=ll h hI.lt hI.get;have a2:=a.next;have a3:=a.size;obtain⟨n2,r2,sp2,fp2,h1,h2,h3⟩:=wB (pc:=m.K0) (inner:=true) h hl hI hB NB.1 (by rw[c7 rfl];omega) (by rw[c7 rfl];omega);have hz:=Bk h h3;rw[hv];unfold rP;rw[rA,h1];dsimp only;rw[show(dk m r2 sp2 fp2).K0=r2 from rfl,show(dk m m.K0 m.J5 m.L0).K0=m.K0 from rfl];by_cases M7:r2=0
 ·rw[c7 M7,(hz.1.1 M7)];simp
 ·rw[b8 M7,zO h hl 38 h3 M7 h2];exact V83
theorem JH (h:SpOk p b first second)(hf:0<(ay p).length):Cur S first second (Ah (aQ p b first second)) []:=by
 have Pl:=S.ty 0 hf;obtain⟨d',NU⟩:=ae (l:=S.ds 0) (k:=0) (by rw[Pl.len];exact Pl.pos);obtain⟨NI,PC⟩:=ae Pl.pos;have:=(Pl.item 0 NI d' PC NU).lo.1 rfl;subst this;have NB:ce (aQ p b first second)=true:=h.space
 have hn:Ah (aQ p b first second)=⟨cS p b first second 0,1199,1200,List.replicate 1200 0,[],0,0⟩:=by
  rw[Ah,c7 NB]
  have he:(aQ p b first second).L9.headD 0=cS p b first second 0:=by have:=mL (p:=p) (b:=b) (first:=first) (second:=second) hf;rw[show(aQ p b first second).L9=entries p b first second from rfl,List.headD_eq_head?_getD,List.head?_eq_getElem?,this];rfl
  rw[he]
 rw[hn];refine kw hf NU (by dsimp only;rw[Ag h hf]) ?_;refine⟨g_,?_⟩;rw[b8 o_];dsimp only;refine⟨o_,?_⟩
 have hw:aL ⟨cS p b first second 0,1199,1200,List.replicate 1200 0,[],0,0⟩ (1199+0)=0:=by unfold aL;dsimp only;rw[List.getElem?_replicate];simp
 rw[hw];exact .done
end
structure Part (v w:LZ):Prop where
 pc:v.K0=w.K0
 sp:v.J5=w.J5
 fp:v.L0=w.L0
 I8:v.Ma <+:w.Ma
theorem Part.ok {v w:LZ}(h:Part v w)(hw:fj w=true):fj v=true:=by rw[viewOk_iff]at hw⊢;have:=h.I8.length_le;rw[h.sp];omega
theorem Part.word {v w:LZ}{a x:Int}(h:Part v w)(hw:fj w=true)(hx:dl v a=some x):dl w a=some x:=by obtain⟨h1,h2,h3⟩:=eR hx;have Mv:=h.I8.length_le;unfold dl at hx⊢;rw[c7 ⟨h1,by rw[within_iff];omega⟩]at hx;rw[c7 ⟨hw,by rw[within_iff,<-h.sp];omega⟩];obtain⟨t,ht⟩:=h.I8;rw[<-ht,<-h.sp,j7 (aH hx)];exact hx
theorem Part.moved {v w:LZ}(h:Part v w)(pc sp fp:Int):Part (fP v pc sp fp) (fP w pc sp fp):=by refine⟨rfl,rfl,rfl,?_⟩;unfold fP;dsimp only;rw[h.sp];obtain⟨t,ht⟩:=h.I8;generalize(sp-w.J5).toNat=n;rw[<-ht,List.drop_append];exact List.prefix_append _ _
theorem Part.step {s:LW}{rules:List (List LV)}{v w x:LZ}{inner:Bool}(h:Part v w)(hw:fj w=true)(hx:bC s rules v inner=some x):∃y,bC s rules w inner=some y/\Part x y:=by
 unfold bC at hx⊢;split at hx
 ·rename_i hc;rw[c7 ⟨hc.1,hw,hc.2.2⟩,<-h.pc];split at hx
  ·rename_i r hr;unfold jS at hx⊢;split at hx
   ·rename_i hf;rw[c7 hf];split at hx
    ·rename_i a c ha N0;rw[h.fp]at ha N0;rw[h.word hw ha,h.word hw N0];dsimp only;injection hx with hx;rw[<-hx,h.fp];exact⟨_,rfl,h.moved _ _ _⟩
    ·cases hx
   ·rename_i hf;rw[b8 hf];split at hx
    ·rename_i c N0;rw[h.sp]at N0;rw[h.word hw N0];dsimp only;injection hx with hx;rw[<-hx,h.fp,h.sp];exact⟨_,rfl,h.moved _ _ _⟩
    ·cases hx
  ·cases hx
 ·cases hx
end
theorem GO {p:List LO}{b:LF}{first second:Int}(h:SpOk p b first second):∀e∈(aQ p b first second).L9,inI e:=fun e he=>by
 obtain⟨f,hf⟩:=v6.1 he;have MM:f<(ay p).length:=by have:=aH hf;rwa [show(aQ p b first second).L9=entries p b first second from rfl,zN]at this
 rw[show(aQ p b first second).L9=entries p b first second from rfl,mL MM]at hf;injection hf with hf;obtain⟨i,im,bs,hi⟩:=EH h MM;have h1:=hi.entry;have h2:=hi.range;have h3:=hi.start;have h4:=hi.len;unfold inI;omega
section
variable {p:List LO} {b:LF} {first second:Int} {S:Sy p b}
def pY (pc:Int)(o:LQ)(z:Nat)(R:List Int):List Int:=if o.I9=12 then(pc+z)::R else if o.I9=14\/o.I9=16 then R.tail else R
theorem HT (h:SpOk p b first second){m:LP}{R:List Int}{k:Nat}(hm:MOk m k)(hk:k<=6000)(h0:m.L6=0)(hc:Cur S first second m R):
  (1<=m.K0/\m.K0<=1080000)/\∃(o:LQ) (z:Nat),eF (aQ p b first second) m.K0=some (o,z)/\z<=5/\MOk (iE (aQ p b first second) m) (k+1)/\((iE (aQ p b first second) m).L6=0->Cur S first second (iE (aQ p b first second) m) (pY m.K0 o z R)):=by
 obtain⟨f,i,it,d,hI,MZ,hB⟩:=hc;have NZ:=ll h hI.lt hI.get;have hz:=NZ.size;have M5:iE (aQ p b first second) m=lN m (fh (aQ p b first second) m):=by rw[iE,c7 ⟨h.space,hm.ok,h0⟩]
 refine⟨by rw[MZ];exact NZ.rng,(cN (aZ (aW p b f) (aA p f b)) i it).J2,(aE it.J2.I9).toNat,by rw[MZ];exact NZ.fetch,o_,?_,fun Qf=>?_⟩
 ·rw[M5];exact hm.step o_ (GO h)
 ·rw[M5]at Qf⊢;have Na:=gJ (aZ (aW p b f) (aA p f b)) i it
  have hw:pY m.K0 (cN (aZ (aW p b f) (aA p f b)) i it).J2 (aE it.J2.I9).toNat R=kV p b first second f i it R:=by unfold pY kV;rw[Na,NZ.next,MZ];rw[show(((aE it.J2.I9).toNat:Nat):Int)=aE it.J2.I9 by omega]
  rw[hw]
  cases hp:fh (aQ p b first second) m with
  | none=>
   rw[hp]at Qf;have:(lN m none).L6=2:=rfl
   omega
  | some m'=>
   rw[hp]at Qf;have Qf:m'.L6=0:=Qf;rcases HW h hI MZ hB ⟨hm.inv.len,hm.inv.sp,hm.inv.w,hm.inv.out⟩ hp with h1|h1
   ·omega
   ·exact h1
theorem CW (l:List LV):flat (l.map LV.tr):=mT _ (by intro x c hc sz rs e;subst e;simp[LV.tr]at hc)
theorem KJ {R:List Int}{pc:Int}{i:Nat}(hi:i<R.length):∃v,(pc::R)[R.length-i]?=some v/\R.reverse[i]?=some v:=by obtain⟨v,hv⟩:=ae (l:=R.reverse) (k:=i) (by simpa using hi);refine⟨v,?_,hv⟩;rw[List.getElem?_reverse hi]at hv;rw[show R.length-i=(R.length-1-i)+1 by omega,j8];exact hv
end
theorem tC {p:List LO}{b:LF}{first second:Int}(h:SpOk p b first second)(a:Int):Sim.Spec prog 16 [.agg [.lst 2 [(ag p b 0).tr,(ag p b 1).tr],.lst 1 [aa first,aa second],.lst 1 ((entries p b first second).map aa)],tvI a] (rOp (eF (aQ p b first second) a)):=by
 refine bv hΓ aG func16 rfl d_ rfl ?_;have h6:=(fF h.prog).1;have hS:=fZ (aQ p b first second) (oC h.small o_);rw[h.space]at hS;have a0:=(cV h.small h.prog h.build (image:=0) d_).2;have a1:=(cV h.small h.prog h.build (image:=1) d_).2;have Vs:=h.fb;have VD:=h.sb;have hL:Sim.Spec prog 68 [.agg [.lst 2 [(ag p b 0).tr,(ag p b 1).tr],.lst 1 [aa first,aa second],.lst 1 ((entries p b first second).map aa)],tvI a] (rOp (eF (aQ p b first second) a)):=lY (ag p b 0) (ag p b 1) first second a (entries p b first second) o_ o_ o_ o_;have hS:Sim.Spec prog 65 [.agg [.lst 2 [(ag p b 0).tr,(ag p b 1).tr],.lst 1 [aa first,aa second],.lst 1 ((entries p b first second).map aa)]] (rB true):=hS
 generalize eF (aQ p b first second) a=r at *
 repeat' ((conv=>whnf);first|apply Wx|apply W6|apply oi|apply fi|intro h|refine cl hS ?_|refine cl hL ?_|exact Y7|refine e_ rfl ?_)
theorem zv {l:List LS}(h1:l.length<=1048576)(h2:∀y∈l,y.L3.Ml.length<=4):aw 1048576 (.lst 8 (l.map LS.tr)):=by rw[aw];refine⟨by rw[e7];omega,mB fun r hr=>?_⟩;obtain⟨it,Nt,rfl⟩:=n7.1 hr;have:=h2 it Nt;simp only[LS.tr,aF,aw,true_and,and_true];refine⟨by rw[e7];omega,mB fun r hr=>?_⟩;obtain⟨v,hv,rfl⟩:=n7.1 hr;simp[aa,aF,aw]
theorem mr {p:List LO}{b:LF}{image:Int}(hs:aw 1048576 (.lst 4 (p.map LO.tr))):aw 1048576 (.lst 8 ((aM p b image).map LS.tr)):=by
 by_cases hc:ah p=true/\aS b=true/\af image 0 1=true
 ·rw[aM,c7 hc];obtain⟨h6,_⟩:=fF hc.1;have Oj:=iG p b image (ay p).length 0 0;have Qc:=fun x (hx:x∈bX p b image (ay p).length 0 0)=>ir hs hx
  generalize bX p b image (ay p).length 0 0=L at *
  have M4:=kG (fun x hx=>(Qc x hx).1) (d8 L.length);rw[gt (d8 _)]at M4;have NV:=A6 2500 (show L.length<=6 by omega);refine zv (l:=ax L) o_ fun y hy=>?_;simp only[ax,E4,n7]at hy;obtain⟨_,⟨x,hx,rfl⟩,hy⟩:=hy;exact(Qc x hx).2 y hy
 ·rw[aM,b8 hc];exact⟨s_,trivial⟩
end Go.Proofs.P
