import Derived.Test.YtoglejgmjeojoaaGreatGf
set_option maxRecDepth 100000
set_option maxHeartbeats 4000000
namespace Go.Proofs.P
open Go.Sim Tryz
theorem V16{p:Prop}(h:p:=by
 repeat' ((conv=>whnf);first|apply Wx|apply W6|refine cg gEm ?_|apply oi|apply fi|intro h|refine cl gEn ?_|refine⟨(ownOf C.p k),y.tr,rfl,ab hy,?_⟩|refine⟨ownOf C.p k,rfl,Pp,?_⟩|refine⟨_,PT,?_⟩|exact Y10|refine e_ rfl ?_)
 all_goals try exact Q4
 conv=>whnf
 refine⟨⟨ownOf C.p k+1,o_,o_⟩,?_,KD⟩;repeat' ((conv=>whnf);first|apply Wx|apply W6|apply oi|apply fi|intro h|exact Y8|refine e_ rfl ?_)
 all_goals(refine⟨?_⟩;dsimp only;rw[c7 o_,a1])):p:=h
theorem Q23{p:Prop}(h:p:=by exact⟨⟨by rw[Vb];simp<;>omega,by rw[Vb];simp<;>omega⟩⟩):p:=h
theorem FP {C:Cx}(hC:CxOk C){lev:Nat}(hE:Ll C lev):yF C lev:=by
 intro x S s d hx Ni On QG S6;refine az hΓ aG func198 rfl d_ rfl rfl ?_;rw[jv]at hx;rw[jv];dsimp only at hx⊢;obtain⟨e,he,Yo,M6,Uu,Oj⟩:=hx.endE hC;have QM:=hC.len;have hin:=hC.inl;have N8:∀lv:List Int,(scH (S++[(x,lv)])).length=S.length+1:=fun lv=>s_;have MI:∀lv:List Int,(scH (S++[(x,lv)]))[S.length]?=some (kz x lv):=fun lv=>s_;have My:∀lv:List Int,S.length<(scH (S++[(x,lv)])).length:=fun lv=>by rw[N8];omega
 have hw:∀lv:List Int,IntKind.i64.wrap (((scH (S++[(x,lv)])).length:Int)-1)=(S.length:Int):=fun lv=>by rw[N8,c6 _ o_];omega
 have gE:=cU C.p (x.f:Int) o_;rw[show ct C.p (x.f:Int)=(e:Int) by rw[cw];exact bR he]at gE;have Pc:(C.p.map LO.tr).length=C.p.length:=s_;have RF:(((C.p.map LO.tr).length:Nat):Int)=(C.p.length:Int):=by rw[Pc]
 have O9:C.p.length<=9223372036854775807:=o_;have YZ:C.p.length*8<=140737488355328:=o_;have h3:=Cl (n:=lev) o_
 have NG:x.J0.length<=100:=by have:=hx.J0;rw[c8,e7]at this;simp only[d5,i8]at this;omega
 have TY:0<=x.first/\x.first<=1000:=by have:=hx.first;rw[c8,e7]at this;simp only[d5,i8]at this;omega
 obtain⟨R,hR⟩:∃R,dI C (cK C lev) x (bT S++[x.f]) d (e+1-(x.f+1)) (x.f+1) (cu C s)=R:=⟨_,rfl⟩
 have Nf:bq C (cK C lev) x (bT S++[x.f]) d s=(R.g,R.lv):=by unfold bq;rw[Uu,show e-x.f=e+1-(x.f+1) by omega,hR]
 rw[Nf];rw[Uu]at Ni;have YY:LInv C lev x (bT S++[x.f]) d e R (x.f+1) (cu C s):=⟨d8 _,o_,by simp[cu],by simp[cu],fun i h1 h2=>o_,⟨by simp[cu],fun j hj=>by simp[cu]at hj⟩,by rw[show e+1-(x.f+1)=e-x.f by omega];exact Ni,hR⟩;repeat' ((conv=>whnf);first|apply Wx|apply W6|apply oi|apply fi|intro h|refine⟨S.length,hw [],My [],?_⟩|refine⟨_,MI [],?_⟩|refine cl gE ?_|refine⟨C.p.length,RF,RF,O9,YZ,?_⟩|exact Y7|refine e_ rfl ?_)
 conv=>whnf
 refine⟨{q:Nat×Ls×List LN//LInv C lev x (bT S++[x.f]) d e R q.1 q.2.1/\q.2.2.length=q.2.1.g.I7.length/\(q.1<=e->db q.2.2 q.2.2.length (q.1:Int) (bm C.p q.2.1.pos (x.f+1) (q.1-(x.f+1)))=q.2.1.g.I7)/\(q.1=e+1->q.2.2=q.2.1.g.I7)},
  fun q=>⟨[(0,gU),(2,tI .i64 (x.f:Int)),(3,yn x.J0),(4,tI .i64 (e:Int)),(5,.r (.c (.own (5,0,0)))),(6,.r (.c (.own (6,0,0)))),(7,tI .i64 (q.1.1:Int))],
   [((0,0,0),some (pm C ⟨q.1.2.2,q.1.2.1.g.J3,q.1.2.1.g.start⟩ d (5,0,1) (5,0,2))),((5,0,1),some (.dar 7 (itR q.1.2.2) none)),((5,0,2),some (.dar 6 (scH (S++[(x,q.1.2.1.lv)])) none)),((5,0,0),some (.arr false 1 (q.1.2.1.J4.map aa))),((6,0,0),some (.arr false 2 ((bm C.p q.1.2.1.pos (x.f+1) (q.1.1-(x.f+1))).map mX)))],[6,5,0]⟩,
  fun q=>e+1-q.1.1,⟨(x.f+1,cu C s,s.I7),YY,rfl,fun _=>by rw[w9];rfl,fun _=>rfl⟩,?_,?_⟩
 ·repeat' ((conv=>whnf);first|apply Wx|apply W6|apply oi|apply fi|intro h|exact Y8|refine e_ rfl ?_)
  ·exact⟨by simp[cu,aa]⟩
  ·exact⟨by dsimp only;rw[w9];rfl⟩
 intro⟨⟨k,L,u⟩,hI,Ui,Tt,Rz⟩;dsimp only at hI Ui Tt Rz⊢;by_cases ND:k<=e
 ·obtain⟨ln,hl⟩:=ae (l:=C.p) (k:=k) o_;have h0:=ke hC hx he hI.lo ND hl;obtain⟨N1,QB,_,NY,O8⟩:=hC.line _ _ hl;obtain⟨PB,N6⟩:=uE hC hl;have RJ:=hI.lo;have YU:=hI.room;have YL:=hI.J4;have Xo:=hI.pos;have Wc:=hI.lv.1
  have Wr:L.g.I7.length+20*dh lev+3<=68719476736:=by obtain⟨n,hn⟩:∃n,e+1-k=n+1:=⟨e-k,o_⟩;rw[hn,p8]at YU;omega
  have Vk:=oF C.p L.pos (x.f+1) (k-(x.f+1))
  have TM:∀z∈bm C.p L.pos (x.f+1) (k-(x.f+1)),0<=z.2/\z.2<(L.g.I7.length:Int):=fun z hz=>by
   obtain⟨i,i1,i2,i3,rfl⟩:=lq hz;exact hI.at_ i o_ o_ i3
  have gP:=pJ C ⟨u,L.g.J3,L.g.start⟩ d (scH (S++[(x,L.lv)])) (bm C.p L.pos (x.f+1) (k-(x.f+1))) k (by unfold dN;dsimp only;omega) o_ (by dsimp only;rw[Ui];exact TM);rw[Tt ND]at gP;obtain⟨A,hA⟩:∃A,bI C (cK C lev) x (bT S++[x.f]) d k ln L=A:=⟨_,rfl⟩;have hN:=LInv.next hC hx he hI ND hl;rw[hA]at hN;obtain⟨P3,Ss⟩:=CP hC hx he RJ ND hl A;obtain⟨b1,b2,b3,b4,b5,b6⟩:=uK (C:=C) (x:=x) k ln A;have hQ:LInv C lev x (bT S++[x.f]) d e R (k+1) (bB C x k ln A)/\A.g.I7.length=(bB C x k ln A).g.I7.length/\(k+1<=e->db A.g.I7 A.g.I7.length ((k+1:Nat):Int) (bm C.p (bB C x k ln A).pos (x.f+1) (k+1-(x.f+1)))=(bB C x k ln A).g.I7)/\(k+1=e+1->A.g.I7=(bB C x k ln A).g.I7):=⟨hN,b4.symm,fun h=>by rw[b2];exact P3 h,fun h=>Ss o_⟩;have Vi:k<(L.J4.map aa).length:=by rw[e7,YL];omega
  have PG:dN L.g:=by unfold dN;omega
  have Pw:=jO L.g.I7
  have VJ:ln.J1≠7->k<e:=fun h=>by
   rcases Nat.lt_or_eq_of_le ND with h'|h'
   ·exact h'
   ·subst h';obtain⟨z,hz,Xf⟩:=bL he;rw[hl]at hz;injection hz with hz;subst hz;exact absurd Xf h
  have NC:ln.J1≠7->yy C ln.K9:=fun h=>by
   obtain⟨l0,q1,q2⟩:=hx.fn;obtain⟨e',q3,_,_,q4⟩:=hC.fn _ _ q1 q2;rw[he]at q3;injection q3 with q3;subst q3;exact(q4 k ln o_ (VJ h) hl).2.1
  obtain⟨g1,TS⟩:∃g1,eA C (cK C lev) x (bT S++[x.f]) k (exL ln.K9) d ⟨L.g.I7,L.g.J3,true⟩=g1:=⟨_,rfl⟩
  have hX:br ln.K9=true->ln.J1≠7->bA prog 244 [gU,tI .i64 (k:Int),tI .i64 (0:Int)] (gR (0,0,1) (0,0,2) C ⟨L.g.I7,L.g.J3,true⟩ d (scH (S++[(x,L.lv)]))) (tI .i64 ((0+(exL ln.K9).toks.length:Nat):Int)) (gR (1,0,1) (1,0,2) C g1 (d+1) (scH (S++[(x,L.lv)]))):=fun OH Zc=>by
   obtain⟨eo,et⟩:=qX OH;have We:(exL ln.K9).toks.length<=20:=(by rw[<-et];exact NY);have hmu:=l9 (dh lev) We;have:=hE (exL ln.K9) x S L.lv k 0 ln ⟨L.g.I7,L.g.J3,true⟩ d eo (by rw[jv];exact hx) hl ⟨[],by rw[B8,m6];exact et⟩ (NC Zc) ⟨g_,On,QG,o_⟩;rw[jv]at this;dsimp only at this;rw[TS]at this;exact this
  have hG:br ln.K9=true->g1.I7.length<=L.g.I7.length+20*dh lev:=fun OH=>by
   have:=(oW (x:=x) (ins:=bT S++[x.f]) (rep:=cK C lev) (line:=k) (lev:=lev) (fun g d s hg hr=>ia hC lev k g d s hx hg hr) hC hl OH d ⟨L.g.I7,L.g.J3,true⟩).le;rw[TS]at this;exact this
  have Vl:(L.J4.map aa)[k]?=some (aa (atL L.J4 k)):=by rw[p6];have:k<L.J4.length:=o_;rw[i7 this,atL,i7 this];rfl
  have Vn:∀v:Int,(L.J4.map aa).set k [.int .i64 v]=(L.J4.set k v).map aa:=fun v=>by simp[F6,aa]
  unfold bI at hA;rw[TS]at hA;dsimp only at hA;have Qm:ln.J1=4\/ln.J1=7\/ln.J1=1\/ln.J1=2\/ln.J1=6\/(ln.J1=3\/ln.J1=5):=o_;rcases Qm with h4|h7|h1|h2|h6|Uw
  ·
   rw[c7 h4]at hA;have a1:A.g.I7=bV (aC C L.g d 10 0 k x.J0).I7 (atL L.pos (ownOf C.p k)) (aC C L.g d 10 0 k x.J0).I7.length:=(by rw[<-hA]);have a2:A.g.J3=L.g.J3:=(by rw[<-hA];rfl);have a3:A.g.start=false:=(by rw[<-hA];rfl);have a4:A.J4=L.J4:=(by rw[<-hA]);have a5:A.pos=L.pos.set k L.g.I7.length:=(by rw[<-hA]);have a6:A.lv=L.lv:=(by rw[<-hA]);obtain⟨o1,o2,o3,o4⟩:=hx.own4 hC he o_ ND hl h4;obtain⟨y,m,hy,y3,hm,_⟩:=bt o1;have Qy:=bc hl;have Tp:fo C.p k=ct C.p (ownOf C.p k:Int)+1:=(by unfold fo;rw[c7 o_]);have MS:=jp C.p (ownOf C.p k);have SH:bm C.p L.pos (x.f+1) (k-(x.f+1))++[(fo C.p k,(L.g.I7.length:Int))]=bm C.p (L.pos.set k L.g.I7.length) (x.f+1) (k+1-(x.f+1)):=uM RJ (by unfold jumps;omega) (by rw[Xo];omega) _;have gEm:=bN C L.g d (scH (S++[(x,L.lv)])) 10 0 k x.J0 PG NG
   have gP2:=pJ C (aC C L.g d 10 0 k x.J0) d (scH (S++[(x,L.lv)])) (bm C.p (L.pos.set k L.g.I7.length) (x.f+1) (k+1-(x.f+1))) (-(k:Int)) aax (by have:=oF C.p (L.pos.set k L.g.I7.length) (x.f+1) (k+1-(x.f+1));omega) (fun z hz=>by
    rw[<-SH,d9]at hz;simp only[aC,c8,d5,i8];rcases hz with hz|hz
    ·have:=TM z hz;omega
    ·simp only[d6,l4,or_false]at hz;subst hz;dsimp only
     omega)
   rw[Dk hC hx he RJ ND hl h4,fW o_]at gP2;have RM:IntKind.i64.wrap (0-(k:Int))= -(k:Int):=(by rw[c6 _ o_];omega);rw[<-RM]at gP2;repeat' ((conv=>whnf);first|apply Wx|apply W6|refine cg gP ?_|apply oi|apply fi|intro h|refine⟨k,ln.tr,rfl,ab hl,?_⟩|exact Y10|refine e_ rfl ?_)
   conv=>whnf
   refine⟨{i:Nat//x.f<=i/\i<=k},fun q=>⟨[(0,gU),(2,tI .i64 (x.f:Int)),(3,yn x.J0),(4,tI .i64 (e:Int)),(5,.r (.c (.own (5,0,0)))),(6,.r (.c (.own (6,0,0)))),(7,tI .i64 (k:Int)),(9,tI .i64 (q.1:Int))],
    [((0,0,0),some (pm C L.g d (5,0,1) (5,0,2))),((5,0,1),some (.dar 7 (itR L.g.I7) none)),((5,0,2),some (.dar 6 (scH (S++[(x,L.lv)])) none)),((5,0,0),some (.arr false 1 (L.J4.map aa))),((6,0,0),some (.arr false 2 ((bm C.p L.pos (x.f+1) (k-(x.f+1))++(if ownOf C.p k<q.1 then [(fo C.p k,(L.g.I7.length:Int))]else [])).map mX)))],[6,5,0]⟩,
    fun q=>k-q.1,⟨x.f,o_,o_⟩,?_,?_⟩
   ·repeat' ((conv=>whnf);first|apply Wx|apply W6|apply oi|apply fi|intro h|exact Y7|refine e_ rfl ?_)
    all_goals exact⟨by rw[b8 g_];simp⟩
   intro⟨i,Px,S2⟩;dsimp only at Px S2⊢;by_cases Ou:i<k
   ·have gEl:=ky C.p (i:Int) o_;by_cases QI:i=ownOf C.p k
    ·subst QI;rw[show cB C.p (ownOf C.p k:Int)=(k:Int) by rw[dq];exact bR o1]at gEl;have gEn:=cU C.p (ownOf C.p k:Int) o_;rw[b8 o_,m6];have Vb:((bm C.p L.pos (x.f+1) (k-(x.f+1))).map mX).length=(bm C.p L.pos (x.f+1) (k-(x.f+1))).length:=s_;have Pw:=jO L.g.I7;repeat' ((conv=>whnf);first|apply Wx|apply W6|apply oi|apply fi|intro h|refine cl gEl ?_|refine cl gEn ?_|exact Y5|refine e_ rfl ?_)
     all_goals try exact Q4
     all_goals try exact Q23
     conv=>whnf
     refine⟨⟨ownOf C.p k+1,o_,o_⟩,?_,KD⟩;repeat' ((conv=>whnf);first|apply Wx|apply W6|apply oi|apply fi|intro h|exact Y8|refine e_ rfl ?_)
     all_goals(refine⟨?_⟩;dsimp only;rw[c7 o_,Tp,Pw,c6 _ o_];simp)
    ·have ME:cB C.p (i:Int)≠(k:Int):=fun hh=>by
      rw[dq]at hh
      cases hz:elseAt C.p i with
      | none=>rw[hz]at hh;simp only[cO]at hh;omega
      | some j=>rw[hz]at hh;simp only[cO]at hh;have:j=k:=o_;subst this;exact QI (pt hz o1)
     generalize cB C.p (i:Int)=el at *
     repeat' ((conv=>whnf);first|apply Wx|apply W6|apply oi|apply fi|intro h|refine cl gEl ?_|exact Y5|refine e_ rfl ?_)
     ·exact absurd (B7 h) ME
     ·conv=>whnf
      refine⟨⟨i+1,o_,o_⟩,?_,KD⟩;repeat' ((conv=>whnf);first|apply Wx|apply W6|apply oi|apply fi|intro h|exact Y8|refine e_ rfl ?_)
      all_goals(refine⟨?_⟩;dsimp only;congr 2)
      all_goals(by_cases hh:ownOf C.p k<i)
      all_goals first|rw[c7 hh,c7 o_]|rw[b8 hh,b8 o_]
   ·have Od:i=k:=o_;subst Od;rw[c7 o3,SH];repeat' ((conv=>whnf);first|apply Wx|apply W6|refine cg gEm ?_|refine cg gP2 ?_|apply oi|apply fi|intro h|exact Y5|refine e_ rfl ?_)
    conv=>whnf
    refine⟨⟨(i+1,bB C x i ln A,A.g.I7),hQ⟩,?_,KD⟩;repeat' ((conv=>whnf);first|apply Wx|apply W6|apply oi|apply fi|intro h|exact Y8|refine e_ rfl ?_)
    all_goals(refine⟨?_⟩;dsimp only;simp only[b1,b2,b3,b5,b6,a1,a2,a3,a4,a5,a6];try rfl)
  ·
   rw[b8 o_,c7 h7]at hA;obtain⟨o1,o2⟩:=hx.own7 hC he o_ ND hl h7;have NL:bm C.p L.pos (x.f+1) (k+1-(x.f+1))=bm C.p L.pos (x.f+1) (k-(x.f+1)):=lA RJ (by unfold jumps;rw[bc hl,h7];decide);rcases o2 with⟨o2,o3⟩|⟨o2,o3,o4,y,hy,o5⟩
   ·subst o2;rw[c7 o3]at hA;have gN:=ko C L.g d (scH (S++[(x,L.lv)])) 0 k x.J0 PG NG o_;have gL:=qs C hC (aC C L.g d 0 0 k x.J0) (d+1) S x L.lv k true aax NG o_ o_ o_ L.J4 L.pos;rw[show be C x k true (d+1) ⟨aC C L.g d 0 0 k x.J0,L.J4,L.pos,L.lv⟩=A from hA,H6]at gL;have a4:A.J4=L.J4:=(by rw[<-hA];unfold be;(repeat' split)<;>rfl);have a5:A.pos=L.pos:=(by rw[<-hA];unfold be;(repeat' split)<;>rfl);repeat' ((conv=>whnf);first|apply Wx|apply W6|refine cg gP ?_|refine cg gN ?_|refine cg gL ?_|apply oi|apply fi|intro h|refine⟨k,ln.tr,rfl,ab hl,?_⟩|exact Y10|refine e_ rfl ?_)
    all_goals try exact Q4
    conv=>whnf
    refine⟨⟨(k+1,bB C x k ln A,A.g.I7),hQ⟩,?_,KD⟩;repeat' ((conv=>whnf);first|apply Wx|apply W6|apply oi|apply fi|intro h|exact Y8|refine e_ rfl ?_)
    all_goals(refine⟨?_⟩;dsimp only;simp only[b1,b2,b3,b5,b6,a4,a5,NL];try rfl)
   ·rw[b8 o_]at hA;have Sk:=bc hy;have gEm:=bN C L.g d (scH (S++[(x,L.lv)])) 10 (atL L.J4 (ownOf C.p k)) k x.J0 PG NG;have a4:A.J4=L.J4:=(by rw[<-hA];split<;>rfl);have a5:A.pos=L.pos:=(by rw[<-hA];split<;>rfl);have a6:A.lv=L.lv:=(by rw[<-hA];split<;>rfl);have a1:A.g=if kindAt C.p (ownOf C.p k)=5 then aC C L.g d 10 (atL L.J4 (ownOf C.p k)) k x.J0 else L.g:=by rw[<-hA];split<;>rfl
    have Py:ct C.p (ownOf C.p k:Int)=(k:Int):=by rw[cw];exact bR o1
    have PT:(L.J4.map aa)[ownOf C.p k]?=some (aa (atL L.J4 (ownOf C.p k))):=by rw[p6];have:ownOf C.p k<L.J4.length:=o_;rw[i7 this,atL,i7 this];rfl
    have Pp:ownOf C.p k<(L.J4.map aa).length:=(by rw[e7];omega);repeat' ((conv=>whnf);first|apply Wx|apply W6|refine cg gP ?_|apply oi|apply fi|intro h|refine⟨k,ln.tr,rfl,ab hl,?_⟩|exact Y10|refine e_ rfl ?_)
    conv=>whnf
    refine⟨{i:Nat//x.f+1<=i/\i<=k},fun q=>⟨[(0,gU),(2,tI .i64 (x.f:Int)),(3,yn x.J0),(4,tI .i64 (e:Int)),(5,.r (.c (.own (5,0,0)))),(6,.r (.c (.own (6,0,0)))),(7,tI .i64 (k:Int)),(11,tI .i64 (q.1:Int))],
     [((0,0,0),some (pm C (if ownOf C.p k<q.1 then A.g else L.g) d (5,0,1) (5,0,2))),((5,0,1),some (.dar 7 (itR (if ownOf C.p k<q.1 then A.g else L.g).I7) none)),((5,0,2),some (.dar 6 (scH (S++[(x,L.lv)])) none)),((5,0,0),some (.arr false 1 (L.J4.map aa))),((6,0,0),some (.arr false 2 ((bm C.p L.pos (x.f+1) (k-(x.f+1))).map mX)))],[6,5,0]⟩,
     fun q=>k-q.1,⟨x.f+1,o_,o_⟩,?_,?_⟩
    ·repeat' ((conv=>whnf);first|apply Wx|apply W6|apply oi|apply fi|intro h|exact Y7|refine e_ rfl ?_)
     all_goals try(refine⟨?_⟩;dsimp only;rw[b8 o_];done)
     all_goals try exact Q17
    intro⟨i,Px,S2⟩;dsimp only at Px S2⊢;by_cases Ou:i<k
    ·have gEn:=cU C.p (i:Int) o_;obtain⟨z,hz⟩:=ae (l:=C.p) (k:=i) o_;by_cases QI:i=ownOf C.p k
     ·subst QI;rw[Py]at gEn;rw[hy]at hz;injection hz with hz;subst hz;rw[b8 o_];by_cases h5:y.J1=5
      ·rw[c7 o_]at a1;exact V16
      ·rw[b8 o_]at a1;exact V16
     ·have ME:ct C.p (i:Int)≠(k:Int):=fun hh=>by
       have h':=pu hh o_;rw[d7]at h';exact QI (xG h' o1)
      generalize ct C.p (i:Int)=en at *
      repeat' ((conv=>whnf);first|apply Wx|apply W6|apply oi|apply fi|intro h|refine cl gEn ?_|refine⟨i,z.tr,rfl,ab hz,?_⟩|exact Y5|refine e_ rfl ?_)
      all_goals try(exfalso;exact ME (B7 aaj))
      conv=>whnf
      refine⟨⟨i+1,o_,o_⟩,?_,KD⟩
      have QC:(if ownOf C.p k<i+1 then A.g else L.g)=if ownOf C.p k<i then A.g else L.g:=by
       by_cases hh:ownOf C.p k<i
       ·rw[c7 hh,c7 o_]
       ·rw[b8 hh,b8 o_]
      dsimp only;rw[QC];exact Z6
    ·have Od:i=k:=o_;subst Od;rw[c7 o4];repeat' ((conv=>whnf);first|apply Wx|apply W6|apply oi|apply fi|intro h|exact Y5|refine e_ rfl ?_)
     conv=>whnf
     refine⟨⟨(i+1,bB C x i ln A,A.g.I7),hQ⟩,?_,KD⟩;repeat' ((conv=>whnf);first|apply Wx|apply W6|apply oi|apply fi|intro h|exact Y8|refine e_ rfl ?_)
     all_goals(refine⟨?_⟩;dsimp only;simp only[b1,b2,b3,b5,b6,a4,a5,a6,NL];try rfl)
  ·
   rw[b8 o_,b8 o_,c7 h1]at hA;have OH:=O8 (.inl h1);have gX:=hX OH o_;have Vu:=hG OH;have OK:=qt x.J9 ln.J8;have gI:=fH x.J9 ln.J8 o_;have gS:=lr C hC g1 (d+1) (scH (S++[(x,L.lv)])) x (dG x.J9 ln.J8) k x.J0 aav NG o_ TY o_;rw[H6]at gS;have a1:A.g=fQ C x g1 (d+1) (dG x.J9 ln.J8) k x.J0:=(by rw[<-hA]);have a4:A.J4=L.J4.set k L.g.I7.length:=(by rw[<-hA]);have a5:A.pos=L.pos:=(by rw[<-hA]);have a6:A.lv=L.lv:=(by rw[<-hA]);have NL:bm C.p L.pos (x.f+1) (k+1-(x.f+1))=bm C.p L.pos (x.f+1) (k-(x.f+1)):=lA RJ (by unfold jumps;rw[bc hl,h1];decide)
   generalize dG x.J9 ln.J8=ix at *
   repeat' ((conv=>whnf);first|apply Wx|apply W6|refine cg gP ?_|refine cg gX ?_|refine cg gS ?_|apply oi|apply fi|intro h|refine⟨k,ln.tr,rfl,ab hl,?_⟩|refine⟨k,rfl,Vi,?_⟩|refine⟨_,Vl,?_⟩|refine⟨S.length,hw L.lv,My L.lv,?_⟩|refine⟨_,MI L.lv,?_⟩|refine cl gI ?_|exact Y10|refine e_ rfl ?_)
   conv=>whnf
   refine⟨⟨(k+1,bB C x k ln A,A.g.I7),hQ⟩,?_,KD⟩;repeat' ((conv=>whnf);first|apply Wx|apply W6|apply oi|apply fi|intro h|exact Y8|refine e_ rfl ?_)
   all_goals(refine⟨?_⟩;dsimp only;simp only[b1,b2,b3,b5,b6,a1,a4,a5,a6,NL,Pw,<-Vn];try rfl)
  ·
   rw[b8 o_,b8 o_,b8 o_,c7 h2]at hA;have OH:=O8 (.inr (.inl h2));have gX:=hX OH o_;have Vu:=hG OH;have gS:=bN C g1 (d+1) (scH (S++[(x,L.lv)])) 17 0 k x.J0 aav NG;have a1:A.g=aC C g1 (d+1) 17 0 k x.J0:=(by rw[<-hA]);have a4:A.J4=L.J4.set k L.g.I7.length:=(by rw[<-hA]);have a5:A.pos=L.pos:=(by rw[<-hA]);have a6:A.lv=L.lv:=(by rw[<-hA]);have NL:bm C.p L.pos (x.f+1) (k+1-(x.f+1))=bm C.p L.pos (x.f+1) (k-(x.f+1)):=lA RJ (by unfold jumps;rw[bc hl,h2];decide);repeat' ((conv=>whnf);first|apply Wx|apply W6|refine cg gP ?_|refine cg gX ?_|refine cg gS ?_|apply oi|apply fi|intro h|refine⟨k,ln.tr,rfl,ab hl,?_⟩|refine⟨k,rfl,Vi,?_⟩|refine⟨_,Vl,?_⟩|exact Y10|refine e_ rfl ?_)
   conv=>whnf
   refine⟨⟨(k+1,bB C x k ln A,A.g.I7),hQ⟩,?_,KD⟩;repeat' ((conv=>whnf);first|apply Wx|apply W6|apply oi|apply fi|intro h|exact Y8|refine e_ rfl ?_)
   all_goals(refine⟨?_⟩;dsimp only;simp only[b1,b2,b3,b5,b6,a1,a4,a5,a6,NL,Pw,<-Vn];try rfl)
  ·
   rw[b8 o_,b8 o_,b8 o_,b8 o_,c7 h6]at hA;have OH:=O8 (.inr (.inr (.inr (.inr h6))));have gX:=hX OH o_;have Vu:=hG OH;have gS:=qs C hC g1 (d+1) S x L.lv k false aav NG o_ o_ o_ (L.J4.set k L.g.I7.length) L.pos;rw[hA,H6]at gS;have a4:A.J4=L.J4.set k L.g.I7.length:=(by rw[<-hA];unfold be;(repeat' split)<;>rfl);have a5:A.pos=L.pos:=(by rw[<-hA];unfold be;(repeat' split)<;>rfl);have NL:bm C.p L.pos (x.f+1) (k+1-(x.f+1))=bm C.p L.pos (x.f+1) (k-(x.f+1)):=lA RJ (by unfold jumps;rw[bc hl,h6];decide);repeat' ((conv=>whnf);first|apply Wx|apply W6|refine cg gP ?_|refine cg gX ?_|refine cg gS ?_|apply oi|apply fi|intro h|refine⟨k,ln.tr,rfl,ab hl,?_⟩|refine⟨k,rfl,Vi,?_⟩|refine⟨_,Vl,?_⟩|exact Y10|refine e_ rfl ?_)
   conv=>whnf
   refine⟨⟨(k+1,bB C x k ln A,A.g.I7),hQ⟩,?_,KD⟩;repeat' ((conv=>whnf);first|apply Wx|apply W6|apply oi|apply fi|intro h|exact Y8|refine e_ rfl ?_)
   all_goals(refine⟨?_⟩;dsimp only;simp only[b1,b2,b3,b5,b6,a4,a5,NL,Pw,<-Vn];try rfl)
  ·
   rw[b8 o_,b8 o_,b8 o_,b8 o_,b8 o_]at hA;have OH:=O8 o_;have gX:=hX OH o_;have Vu:=hG OH;have gS:=bN C g1 (d+1) (scH (S++[(x,L.lv)])) 11 0 k x.J0 aav NG;have a1:A.g=aC C g1 (d+1) 11 0 k x.J0:=(by rw[<-hA]);have a4:A.J4=L.J4.set k L.g.I7.length:=(by rw[<-hA]);have a5:A.pos=L.pos.set k g1.I7.length:=(by rw[<-hA]);have a6:A.lv=L.lv:=(by rw[<-hA]);have Qy:=bc hl;have NL:=uM (pos:=L.pos) (p:=C.p) (f:=x.f) (k:=k) RJ (by unfold jumps;omega) (by rw[Xo];omega) (g1.I7.length:Int);have gEn:=cU C.p (k:Int) o_;have gEl:=ky C.p (k:Int) o_;have MS:=jp C.p k
   have Vo:-1<=cB C.p (k:Int)/\cB C.p (k:Int)<=C.p.length:=by
    rw[dq]
    cases hz:elseAt C.p k with
    | none=>simp only[cO];omega
    | some j=>obtain⟨_,_,_,_,_,_,_,w,hw,_⟩:=bt hz;have:=aH hw;simp only[cO];omega
   have Tp:fo C.p k=if ln.J1=3/\0<=cB C.p (k:Int)then-cB C.p (k:Int)else ct C.p (k:Int)+1:=by unfold fo;rw[b8 o_,Qy]
   have Vb:((bm C.p L.pos (x.f+1) (k-(x.f+1))).map mX).length=(bm C.p L.pos (x.f+1) (k-(x.f+1))).length:=s_;have VU:=jO g1.I7
   generalize fo C.p k=to at *
   generalize ct C.p (k:Int)=en at *
   generalize cB C.p (k:Int)=el at *
   have Nk:IntKind.i64.wrap (en+1)=en+1:=(by rw[c6 _ o_]);have NS:IntKind.i64.wrap (0-el)= - el:=(by rw[c6 _ o_];omega);repeat' ((conv=>whnf);first|apply Wx|apply W6|refine cg gP ?_|refine cg gX ?_|refine cg gS ?_|apply oi|apply fi|intro h|refine⟨k,ln.tr,rfl,ab hl,?_⟩|refine⟨k,rfl,Vi,?_⟩|refine⟨_,Vl,?_⟩|refine cl gEn ?_|refine cl gEl ?_|exact Y10|refine e_ rfl ?_)
   all_goals try exact Q23
   all_goals(conv=>whnf)
   all_goals(refine⟨⟨(k+1,bB C x k ln A,A.g.I7),hQ⟩,?_,KD⟩)
   repeat' ((conv=>whnf);first|apply Wx|apply W6|apply oi|apply fi|intro h|exact Y8|refine e_ rfl ?_)
   all_goals(refine⟨?_⟩;dsimp only;simp only[b1,b2,b3,b5,b6,a1,a4,a5,a6,<-NL,Pw,VU,<-Vn,Nk,NS];try rfl)
   all_goals first
    |(rw[Tp,c7 ⟨B7 aaj,f0 aaj⟩];simp)
    |(rw[Tp,b8 (fun hh=>absurd hh.2 (f9 aaj))];simp)
    |(rw[Tp,b8 (fun hh=>by
                     have h9:(ln.J1==3)=false:=by assumption
                     rw[hh.1]at h9;cases h9)];simp)
 ·have hk1:k=e+1:=by have:=hI.hi;omega
  subst hk1;have hf:=hI.fin;rw[w9,dI]at hf;subst hf;rw[Rz rfl];exact Z7
structure LG where
 b:List UInt8
 i:Nat
 h:Int
def LG.ok (c:LG):Prop:=c.i<=c.b.length/\c.b.length<=1048576
abbrev fm (c:LG):List (Sim.Id×AO):=[((0,0,0),.box [.t (.lst 1 (c.b.map aY)),.t (.int .i64 c.i),.t (.int .i64 c.h)])]
abbrev gA:AV:= .r (.c (.ptr (0,0,0) 0))
theorem Lz (z:Int):∃x:Nat,x<256/\IntKind.i64.wrap ((BitVec.ofInt IntKind.i64.bits z &&& BitVec.ofInt IntKind.i64.bits 255).toNat:Int)=(x:Int):=by
 have e:(BitVec.ofInt 64 255).toNat=2^8-1:=d_
 have h:(BitVec.ofInt IntKind.i64.bits z &&& BitVec.ofInt IntKind.i64.bits 255).toNat<256:=by show(BitVec.ofInt 64 z &&& BitVec.ofInt 64 255).toNat<256;rw[I3,e,D0];omega
 generalize(BitVec.ofInt IntKind.i64.bits z &&& BitVec.ofInt IntKind.i64.bits 255).toNat=n at *
 exact⟨n,h,c6 _ o_⟩
def iz (h:Int):Int:=IntKind.i64.wrap (IntKind.i64.wrap (h*6364136223846793005)+1442695040888963407)
theorem V48{p:Prop}(h:p:=by
 refine az hΓ aG func194 rfl d_ rfl rfl ?_;repeat' ((conv=>whnf);first|apply Wx|apply W6|apply oi|apply fi|intro h|exact Y5|refine e_ rfl ?_)
 all_goals try exact⟨congrArg (Tr.int _) RW⟩
 all_goals exact⟨rfl⟩):p:=h
theorem gk (c:LG)(hc:c.ok):∃(x:Nat) (c':LG),x<256/\c'.b=c.b/\c'.ok/\bA prog 194 [gA] (fm c) (tI .i64 x) (fm c'):=by
 obtain⟨hi,hl⟩:=hc;have PM:(c.b.map aY).length=c.b.length:=s_;obtain⟨x0,QL,RW⟩:=Lz (IntKind.i64.wrap ((BitVec.ofInt IntKind.i64.bits ((iz c.h).fdiv (2^min (Int.toNat 33) IntKind.i64.bits)) ^^^ BitVec.ofInt IntKind.i64.bits ((iz c.h).fdiv (2^min (Int.toNat 45) IntKind.i64.bits))).toNat:Int));unfold iz at RW;by_cases My:c.i<c.b.length
 ·obtain⟨u,hu⟩:=ae My;obtain⟨x,hx,he⟩:=Lz (IntKind.i64.wrap ((x0:Int)+IntKind.i64.wrap (u.toNat:Int)));rw[<-RW]at he;refine⟨x,⟨c.b,c.i+1,iz c.h⟩,hx,rfl,⟨g_,hl⟩,?_⟩;refine az hΓ aG func194 rfl d_ rfl rfl ?_;repeat' ((conv=>whnf);first|apply Wx|apply W6|apply oi|apply fi|intro h|refine⟨c.i,(aY u),rfl,ab hu,?_⟩|exact Y5|refine e_ rfl ?_)
  all_goals try exact⟨congrArg (Tr.int _) he⟩
  all_goals try exact⟨K5⟩
  all_goals exact⟨rfl⟩
 ·refine⟨x0,⟨c.b,c.i,iz c.h⟩,QL,rfl,⟨hi,hl⟩,?_⟩;exact V48
theorem pd {x:Nat}{n:Int}(h:0<n):∃y:Nat,(y:Int)<n/\(x:Int).tmod n=(y:Int):=by have h1:=Int.tmod_nonneg n (Int.natCast_nonneg x);have h2:=Int.tmod_lt_of_pos (x:Int) h;obtain⟨y,hy⟩:=j6 h1;exact⟨y,o_,hy⟩
theorem V7{p:Prop}(h:p:=by
 refine az hΓ aG func130 rfl d_ rfl rfl ?_;repeat' ((conv=>whnf);first|apply Wx|apply W6|apply oi|apply fi|intro h|exact Y5|refine e_ rfl ?_)
 refine cg (g1) ?_;repeat' ((conv=>whnf);first|apply Wx|apply W6|apply oi|apply fi|intro h|exact Y7|refine e_ rfl ?_)
 refine cg (g2) ?_;repeat' ((conv=>whnf);first|apply Wx|apply W6|apply oi|apply fi|intro h|exact Y7|refine e_ rfl ?_)
 refine cg (g3) ?_;repeat' ((conv=>whnf);first|apply Wx|apply W6|apply oi|apply fi|intro h|exact Y7|refine e_ rfl ?_)
 refine cg (g4) ?_;repeat' ((conv=>whnf);first|apply Wx|apply W6|apply oi|apply fi|intro h|exact Y7|refine e_ rfl ?_)
 all_goals try exact⟨o_⟩
 all_goals(
  have hw:IntKind.i64.wrap (IntKind.i64.wrap (IntKind.i64.wrap (IntKind.i64.wrap ((x1:Int)*16777216)+IntKind.i64.wrap ((x2:Int)*65536))+IntKind.i64.wrap ((x3:Int)*256))+(x4:Int))=((x1*16777216+x2*65536+x3*256+x4:Nat):Int):=by rw[c6 ((x1:Int)*16777216) o_,c6 ((x2:Int)*65536) o_,c6 ((x3:Int)*256) o_,c6 ((x1:Int)*16777216+(x2:Int)*65536) o_,c6 ((x1:Int)*16777216+(x2:Int)*65536+(x3:Int)*256) o_,c6 _ o_];omega
  exact⟨by rw[hw,hm]⟩)):p:=h
theorem bG (c:LG)(n:Int)(hc:c.ok):∃(x:Nat) (c':LG),(0<n->(x:Int)<n)/\(n<=0->x=0)/\c'.b=c.b/\c'.ok/\bA prog 130 [gA,tI .i64 n] (fm c) (tI .i64 x) (fm c'):=by
 by_cases h0:n<=0
 ·refine⟨0,c,o_,fun _=>rfl,rfl,hc,?_⟩;refine az hΓ aG func130 rfl d_ rfl rfl ?_;exact Z7
 ·obtain⟨x1,c1,k1,b1,o1,g1⟩:=gk c hc;by_cases h2:n<=256
  ·obtain⟨y,hy,hm⟩:=pd (x:=x1) (n:=n) o_;refine⟨y,c1,fun _=>hy,o_,b1,o1,?_⟩;refine az hΓ aG func130 rfl d_ rfl rfl ?_;repeat' ((conv=>whnf);first|apply Wx|apply W6|refine cg g1 ?_|apply oi|apply fi|intro h|exact Y5|refine e_ rfl ?_)
   all_goals try exact⟨o_⟩
   all_goals exact⟨congrArg (Tr.int _) hm⟩
  ·obtain⟨x2,c2,k2,b2,o2,g2⟩:=gk c1 o1;obtain⟨x3,c3,k3,b3,o3,g3⟩:=gk c2 o2;obtain⟨x4,c4,k4,b4,o4,g4⟩:=gk c3 o3;obtain⟨y,hy,hm⟩:=pd (x:=x1*16777216+x2*65536+x3*256+x4) (n:=n) o_;refine⟨y,c4,fun _=>hy,o_,((b4.trans b3).trans b2).trans b1,o4,?_⟩;exact V7
theorem dP (c:LG)(n:Int)(hc:c.ok):∃(x:Bool) (c':LG),c'.b=c.b/\c'.ok/\bA prog 171 [gA,tI .i64 n] (fm c) (tB x) (fm c'):=by obtain⟨x,c',_,_,b1,o1,g1⟩:=bG c n hc;refine⟨(x:Int)==0,c',b1,o1,?_⟩;refine az hΓ aG func171 rfl d_ rfl rfl ?_;repeat' ((conv=>whnf);first|apply Wx|apply W6|refine cg g1 ?_|apply oi|apply fi|intro h|exact Y7|refine e_ rfl ?_)
theorem jt (c:LG)(ns:List Int)(hc:c.ok)(hp:0<ns.length)(hl:ns.length<=1048576):∃(v:Int) (c':LG),v∈ns/\c'.b=c.b/\c'.ok/\bA prog 129 [gA,.r (.c (.own (0,0,1)))] (fm c++[((0,0,1),.arr false 1 (ns.map aa))]) (tI .i64 v) (fm c'++[((0,0,1),.arr false 1 (ns.map aa))]):=by
 have Mv:(ns.map aa).length=ns.length:=s_;obtain⟨x,c',h1,_,b1,o1,g1⟩:=bG c ((ns.map aa).length:Int) hc;rw[Mv]at h1;obtain⟨v,hv⟩:=ae (l:=ns) (k:=x) o_;have Qr:x<(ns.map aa).length:=by rw[Mv];omega
 refine⟨v,c',c9 hv,b1,o1,?_⟩;refine az hΓ aG func129 rfl d_ rfl rfl ?_;repeat' ((conv=>whnf);first|apply Wx|apply W6|refine cg g1 ?_|apply oi|apply fi|intro h|refine⟨x,rfl,Qr,?_⟩|refine⟨(aa v),ab hv,?_⟩|exact Y7|refine e_ rfl ?_)
def aS (b:LF):Bool:=af b.Mn 0 63&&af b.Mc 0 3
theorem jC (b:LF):Sim.Spec prog 60 [.agg b.tr] (rB (aS b)):=by
 refine bv hΓ aG func60 rfl d_ rfl ?_;have h1:=aP b.Mn 0 63;have h2:=aP b.Mc 0 3;unfold aS
 generalize af b.Mn 0 63=w1 at *
 generalize af b.Mc 0 3=w2 at *
 repeat' ((conv=>whnf);first|apply Wx|apply W6|apply oi|apply fi|intro h|refine cl h1 ?_|refine cl h2 ?_|exact Y7|refine e_ rfl ?_)
 all_goals(refine⟨congrArg Tr.bool ?_⟩;simp_all)
theorem tT (c:LG)(hc:c.ok):∃(b:LF) (c':LG),aS b=true/\c'.b=c.b/\c'.ok/\bA prog 95 [gA] (fm c) (.r (.agg (b.tr.map .t))) (fm c'):=by
 obtain⟨f,c1,k1,_,b1,o1,g1⟩:=bG c 64 hc;obtain⟨v,c2,hv,b2,o2,g2⟩:=jt c1 [0,1,2,3] o1 d_ d_;obtain⟨x,c3,b3,o3,g3⟩:=dP c2 2 o2;obtain⟨y,c4,b4,o4,g4⟩:=dP c3 2 o3;refine⟨⟨f,v,x,y⟩,c4,?_,((b4.trans b3).trans b2).trans b1,o4,?_⟩
 ·have:=k1 o_;simp only[d6,l4,or_false]at hv;unfold aS;rw[within_iff.2 ⟨g_,g_⟩,within_iff.2 ⟨g_,g_⟩];rfl
 ·refine az hΓ aG func95 rfl d_ rfl rfl ?_;repeat' ((conv=>whnf);first|apply Wx|apply W6|apply oi|apply fi|intro h|exact Y7|refine e_ rfl ?_)
  refine cg (g1) ?_;repeat' ((conv=>whnf);first|apply Wx|apply W6|apply oi|apply fi|intro h|exact Y7|refine e_ rfl ?_)
  refine cg (g2) ?_;repeat' ((conv=>whnf);first|apply Wx|apply W6|apply oi|apply fi|intro h|exact Y7|refine e_ rfl ?_)
  refine cg (g3) ?_;repeat' ((conv=>whnf);first|apply Wx|apply W6|apply oi|apply fi|intro h|exact Y7|refine e_ rfl ?_)
  refine cg (g4) ?_;exact Z2
theorem Fb {C:Cx}(hC:CxOk C):∀lev,HE C lev/\yF C lev:=by
 have hL:∀lev,HE C lev->yF C lev:=fun lev hR=>FP hC fun e x S lv k p ln s d h1 h2 h3 h4 h5 h6=>AM hC hR e.toks.length e (d8 _) x S lv k p ln s d h1 h2 h3 h4 h5 h6;intro lev
 induction lev with
 | zero=>
  have hR:HE C 0:=by intro x S lv k g s d hx hk hg SK hr;obtain⟨r1,_⟩:=fN SK;have:=hr.depth;rw[show(bT (S++[(x,lv)])).length=S.length+1 by simp]at r1;omega
  exact⟨hR,hL 0 hR⟩
 | succ n ih=>have hR:=II hC ih.2;exact⟨hR,hL _ hR⟩
def nI (frames f:Int):Bool:=IntKind.i64.wrap (BitVec.ofInt IntKind.i64.bits (frames.fdiv (2^min f.toNat IntKind.i64.bits)) &&& BitVec.ofInt IntKind.i64.bits 1).toNat==1
theorem V27{p:Prop}(h:p:=by
 rw[Vg];repeat' ((conv=>whnf);first|apply Wx|apply W6|refine cg g2 ?_|refine cg gLs ?_|apply oi|apply fi|intro h|refine⟨0,rfl,s_,?_⟩|refine⟨_,Yr,?_⟩|exact Y7|refine e_ rfl ?_)
 all_goals try(exfalso;rw[Th]at h;cases h;done)
 all_goals first|exact⟨⟨_,rfl⟩⟩|exact⟨congrArg (Tr.int .i64) ZZ.symm⟩):p:=h
theorem jM (C:Cx)(hC:CxOk C)(f g:Nat)(hf:(ay C.p)[f]?=some g)(e3:C.J6=nI C.b.Mn f)(e5:C.args=argsN C.p g):
  Sim.Spec prog 133 [tvP C.p,tvI (f:Int),.agg C.b.tr,tvI C.I8] (.tup [.c (.arr 7 ((dH C g).I7.map LN.tr)),.c (.t (.int .i64 (dH C g).J3))]):=by
 refine bv hΓ aG func133 rfl d_ rfl ?_;obtain⟨Vo,y,hy,Oq⟩:=nV (c9 hf);have QM:=hC.len;have hw:=hC.I8;have hin:=hC.inl;have gF:=cG C.p o_;have gL:=iS C.p (g:Int) o_ (fun z hz=>bf hC.small hz);have hA:argsN C.p g=y.L5.length:=by rw[argsN,hy]
 have h4:=(hC.line g y hy).2.2.1;have MM:f<(ay C.p).length:=aH hf;have Nh:f<((ay C.p).map fun n:Nat=>aa n).length:=by rw[e7];exact MM
 have U3:((ay C.p).map fun n:Nat=>aa n)[f]?=some (aa (g:Int)):=by rw[p6,hf];rfl
 have Nx:=dx hC ⟨y,hy,Oq⟩;have Tg:(y.L5.map ao).length=y.L5.length:=s_;have Oj:((localsOf C.p (g:Int)).map ao).length=(localsOf C.p (g:Int)).length:=s_;have hS:ScOk C (bb C g) [g]:=⟨⟨y,hy,Oq⟩,rfl,⟨v2 _,by simp[bb]⟩,rfl,by simp[bb],fun _=>e5,rfl⟩;obtain⟨e,Xy,Oy,he3,YA,_⟩:=hS.endE hC;obtain⟨O,hO⟩:∃O,bb C g=O:=⟨_,rfl⟩;have Xe:kz O []=[.d (.int .i64 (g:Int)),.t (.lst 1 []),.t (.lst 1 ((localsOf C.p (g:Int)).map ao)),.d (.int .i64 0),.d (.bool true),.d (.lst 0 [])]:=by rw[<-hO,bb];rfl
 have Yr:(scH [(O,[])])[0]?=some [.d (.int .i64 (g:Int)),.t (.lst 1 []),.t (.lst 1 ((localsOf C.p (g:Int)).map ao)),.d (.int .i64 0),.d (.bool true),.d (.lst 0 [])]:=by rw[<-Xe];rfl
 have g1:=fun code=>bN C ⟨[],(localsOf C.p (g:Int)).length-C.args,false⟩ 0 (scH [(O,[])]) code C.I8 g [] (by unfold dN;simp) s_;have On:((C.b.Mc.toNat:Nat):Int)=C.b.Mc:=E5 hin.1;have h3:=Cl (n:=C.b.Mc.toNat) o_
 have gLs:=(Fb hC C.b.Mc.toNat).2 O [] (dS C g) C.I8 (by rw[<-hO];exact hS) (by
  rw[<-hO,YA];have:=A4 (show e-(bb C g).f<=60 by omega) (show 20*dh C.b.Mc.toNat+3<=20*8679837+3 by omega);simp only[dS,aC,c8,i8,d5]
  omega) (by simpa using On) hw.1 o_
 have WE:bq C (cK C C.b.Mc.toNat) O (bT ([]++[(O,[])])) C.I8 (dS C g)=bq C (cK C C.b.Mc.toNat) (bb C g) [g] C.I8 (dS C g):=by rw[<-hO];rfl
 rw[WE,t6,t6]at gLs;repeat' ((conv=>whnf);first|(with_reducible apply W1;fail_if_success (with_reducible show Wo _ _ _ _ (Code.region 4 _ _) _ _))|(with_reducible first|apply W2|apply W3|apply W4|apply W5|apply W6|apply W7|apply W8|apply W9)|apply aB|apply oi|apply fi|intro h|refine cl gF ?_|refine⟨f,rfl,Nh,?_⟩|refine⟨_,U3,?_⟩|refine⟨g,y.tr,rfl,ab hy,?_⟩|refine cl gL ?_|exact Y7|refine e_ rfl ?_)
 all_goals try exact⟨o_⟩
 all_goals try exact⟨kF _⟩
 conv=>whnf
 refine FO (40,0,0) (rows':=[kz O []]) rfl ?_ ?_
 ·rw[Xe];refine⟨⟨rfl,fun q c d hc hd=>?_⟩,trivial⟩
  match q with|0=>simp at hc hd;subst hc;subst hd;exact .inl rfl|1=>simp at hc hd;subst hc;subst hd;exact .inr (.inr ⟨0,1,rfl,rfl⟩)|2=>simp at hc hd;subst hc;subst hd;exact .inr (.inl rfl)|3=>simp at hc hd;subst hc;subst hd;exact .inl rfl|4=>simp at hc hd;subst hc;subst hd;exact .inl rfl|5=>simp at hc hd;subst hc;subst hd;exact .inl rfl|q+6=>simp at hc
 refine At ⟨[(0,vP C.p),(3,tI .i64 C.I8),(10,tI .i64 (g:Int)),(11,.r (.c (.ptr (33,0,0) 0)))],[((33,0,0),some (pm C ⟨[],0,false⟩ 0 (33,0,1) (33,0,2))),((33,0,1),some (.dar 7 (itR []) none)),((33,0,2),some (.dar 6 (scH [(O,[])]) none))],[40,38,33,13,6]⟩ ?_ ?_
 ·repeat' ((conv=>whnf);first|apply Wx|apply W6|apply oi|apply fi|intro h|exact Y7|refine e_ rfl ?_)
  all_goals try exact⟨by rw[e3];rfl⟩
  all_goals try exact⟨by rw[e5,hA,Tg]⟩
 have ZZ:IntKind.i64.wrap ((((localsOf C.p (g:Int)).map ao).length:Int)-C.args)=((localsOf C.p (g:Int)).length:Int)-C.args:=by rw[Oj,c6 _ o_]
 cases Th:C.J6 with
 | true=>
  have hh:dS C g=aC C ⟨[],(localsOf C.p (g:Int)).length-C.args,false⟩ 0 13 C.I8 g []:=by rw[dS,c7 Th]
  rw[hh]at gLs;have g2:=g1 13;have Vg:dH C g=(bq C (cK C C.b.Mc.toNat) (bb C g) [g] C.I8 (aC C ⟨[],(localsOf C.p (g:Int)).length-C.args,false⟩ 0 13 C.I8 g [])).1:=by rw[dH,hh]
  exact V27
 | false=>
  have hh:dS C g=aC C ⟨[],(localsOf C.p (g:Int)).length-C.args,false⟩ 0 15 C.I8 g []:=by rw[dS,b8 (by simp[Th])]
  rw[hh]at gLs;have g2:=g1 15;have Vg:dH C g=(bq C (cK C C.b.Mc.toNat) (bb C g) [g] C.I8 (aC C ⟨[],(localsOf C.p (g:Int)).length-C.args,false⟩ 0 15 C.I8 g [])).1:=by rw[dH,hh]
  exact V27
theorem vd {C:Cx}(hC:CxOk C){g:Nat}(hg:bS C g)(e5:C.args=argsN C.p g):0<=(dH C g).J3/\(dH C g).J3<=1000:=by have hS:ScOk C (bb C g) [g]:=⟨hg,rfl,⟨v2 _,by simp[bb]⟩,rfl,by simp[bb],fun _=>e5,rfl⟩;have hG:=np (lev:=C.b.Mc.toNat) (rep:=cK C C.b.Mc.toNat) (fun line g d s hg hr=>ia hC _ line g d s hS hg hr) hC hS C.I8 (dS C g);obtain⟨l1,l2⟩:=dx hC hg;have hm:(dS C g).J3=(localsOf C.p (g:Int)).length-C.args:=rfl;have h1:=hG.J3;have h2:=hG.cap (by rw[hm];omega);rw[hm]at h1;exact⟨D4 o_ h1,h2⟩
def ctx (p:List LO)(f g:Nat)(b:LF)(words:Int):Cx:=⟨p,b,nI b.Mn f,words,argsN p g⟩
noncomputable def foldIf (p:List LO) (b:LF):List LO:=if b.Mu=true then p.map aO else p
noncomputable def mY (p:List LO) (f:Nat) (b:LF):List LN:=match(ay (foldIf p b))[f]? with
 | some g=>(dH (ctx (foldIf p b) f g b (dH (ctx (foldIf p b) f g b 0) g).J3) g).I7
 | none=>[]
noncomputable def aA (p:List LO) (f:Int) (b:LF):List LN:=
 if ah p=true/\aS b=true/\0<=f/\f<(ay p).length then mY p f.toNat b else []
theorem alike.funsF:∀{p q:List LO},alike p q->∀i:Nat,funsF p i=funsF q i
 | [],[],_,_=>rfl
 | x::p,y::q,h,i=>by
  simp only[alike,p7,List.cons.injEq,Prod.mk.injEq]at h;have ih:=alike.funsF (p:=p) (q:=q) h.2
  rw[Go.Proofs.P.funsF,Go.Proofs.P.funsF,h.1.1,ih]
 | [],_::_,h,_=>by simp[alike]at h
 | _::_,[],h,_=>by simp[alike]at h
theorem mq (p:List LO)(b:LF):ay (foldIf p b)=ay p:=by
 unfold foldIf;split
 ·exact(eV p).funsF 0
 ·rfl
theorem PgOk.foldIf {p:List LO}(h:PgOk p)(b:LF):PgOk (foldIf p b):=by
 unfold Go.Proofs.P.foldIf;split
 ·exact h.fold
 ·exact h
theorem V113{p:Prop}(h:p:=by
 unfold aS at h2;simp only[b9,within_iff]at h2
 exact h2.2):p:=h
theorem V45{p:Prop}(h:p:=by
 simp only[ctx,e]at g0 g1
 repeat' ((conv=>whnf);first|apply Wx|apply W6|apply oi|apply fi|intro h|refine cl hP ?_|refine cl hB ?_|refine cl gF ?_|refine cl O7 ?_|refine cl g0 ?_|refine cl g1 ?_|exact Y5|refine e_ rfl ?_)):p:=h
theorem V74{p:Prop}(h:p:=by
 repeat' ((conv=>whnf);first|apply Wx|apply W6|apply oi|apply fi|intro h|refine cl hP ?_|refine cl hB ?_|refine cl gF ?_|exact Y5|refine e_ rfl ?_)):p:=h
theorem lb (p:List LO)(f:Int)(b:LF)(hs:aw 1048576 (.lst 4 (p.map LO.tr))):Sim.Spec prog 64 [tvP p,tvI f,.agg b.tr] (rL 7 ((aA p f b).map LN.tr)):=by
 refine bv hΓ aG func64 rfl d_ rfl ?_;have hP:=dM p hs;have hB:=jC b;have hl:=bE hs;have gF:=cG p o_;have MM:((ay p).map fun n:Nat=>aa n).length=(ay p).length:=s_;by_cases hc:ah p=true/\aS b=true/\0<=f/\f<(ay p).length
 ·have P1:aA p f b=mY p f.toNat b:=by rw[aA,c7 hc]
  rw[P1];obtain⟨h1,h2,h3,h4⟩:=hc;obtain⟨f,rfl⟩:=j6 h3;rw[d7];rw[h1]at hP;rw[h2]at hB
  have hb:0<=b.Mc/\b.Mc<=3:=by exact V113
  obtain⟨g,hg⟩:=ae (l:=ay p) (k:=f) o_;have Qh:=(zi hs h1).foldIf b;have PS:(ay (foldIf p b))[f]?=some g:=by rw[mq];exact hg
  obtain⟨Vo,y,hy,Oq⟩:=nV (c9 PS);have QU:=(Qh.line g y hy).2.2.1;have ha:(0:Int)<=(argsN (foldIf p b) g:Int)/\(argsN (foldIf p b) g:Int)<=4:=by rw[argsN,hy];dsimp only;omega
  have SQ:CxOk (ctx (foldIf p b) f g b 0):=Qh.cx ha o_ hb;have hm:=vd SQ ⟨y,hy,Oq⟩ rfl;have Wj:CxOk (ctx (foldIf p b) f g b (dH (ctx (foldIf p b) f g b 0) g).J3):=Qh.cx ha hm hb;have g0:=jM _ SQ f g PS rfl rfl;have g1:=jM _ Wj f g PS rfl rfl;have Wf:mY p f b=(dH (ctx (foldIf p b) f g b (dH (ctx (foldIf p b) f g b 0) g).J3) g).I7:=by rw[mY,PS]
  rw[Wf]
  generalize dH (ctx (foldIf p b) f g b 0) g=R0 at *
  generalize dH (ctx (foldIf p b) f g b R0.J3) g=R1 at *
  have O7:=pr p hs;rw[show jq p=p.map aO by rw[jq,c7 h1]]at O7;obtain⟨fr,inl,fold,sp⟩:=b
  cases fold with
  | true=>
   have e:foldIf p ⟨fr,inl,true,sp⟩=p.map aO:=rfl
   exact V45
  | false=>have e:foldIf p ⟨fr,inl,false,sp⟩=p:=rfl;exact V45
 ·have P1:aA p f b=[]:=by rw[aA,b8 hc]
  rw[P1]
  cases h1:ah p with
  | false=>
   rw[h1]at hP
   exact V74
  | true=>
   rw[h1]at hP
   cases h2:aS b with
   | false=>
    rw[h2]at hB
    exact V74
   | true=>rw[h2]at hB;have MB:¬(0<=f/\f<(ay p).length):=fun hh=>hc ⟨h1,h2,hh⟩;exact V74
def wQ (l:List LN):Prop:=∀it∈l,it.Ml.length<=4
structure Cap (M t:Nat) (s s':Gs):Prop where
 le:s'.I7.length<=max s.I7.length M+t
 ch:wQ s.I7->wQ s'.I7
theorem Cap.refl {M:Nat}(s:Gs):Cap M 0 s s:=⟨o_,id⟩
theorem Cap.trans {M n m:Nat}{a b c:Gs}(h:Cap M n a b)(h':Cap M m b c):Cap M (n+m) a c:=⟨by have:=h.le;have:=h'.le;omega,fun x=>h'.ch (h.ch x)⟩
theorem Cap.mono {M n m:Nat}{a b:Gs}(h:Cap M n a b)(hn:n<=m):Cap M m a b:=⟨by have:=h.le;omega,h.ch⟩
theorem bZ {M:Nat}(C:Cx)(s:Gs)(d code arg line:Int){chain:List Int}(hc:chain.length<=4):Cap M 1 s (aC C s d code arg line chain):=by
 refine⟨by simp only[aC,c8,d5,i8];omega,fun h it Nt=>?_⟩;simp only[aC,d9,d6,l4,or_false]at Nt;rcases Nt with Nt|rfl
 ·exact h it Nt
 ·exact hc
theorem qZ {l:List LN}(h:wQ l)(j v:Int):wQ (bV l j v):=by
 unfold bV;split
 ·split
  ·rename_i it hi;intro z hz;rcases u6 hz with hz|rfl
   ·exact h z hz
   ·exact h it (c9 hi)
  ·exact h
 ·exact h
theorem xo (v:Int):∀(js:List Int) {l:List LN},wQ l->wQ (patchL l v js)
 | [],_,h=>h
 | j::js,_,h=>by rw[patchL];exact xo v js (qZ h j v)
theorem Cap.set {M n:Nat}{a b:Gs}{l:List LN}(h:Cap M n a b)(hl:l.length=b.I7.length)(hc:wQ b.I7->wQ l):Cap M n a ⟨l,b.J3,b.start⟩:=⟨by have:=h.le;simp only[hl];omega,fun x=>hc (h.ch x)⟩
section
variable {C:Cx} {x:Sc} {ins:List Nat} {rep:Sc->List Nat->Nat->Nat->Int->Gs->Gs} {line:Nat} {M:Nat}
theorem sI (y:Sc){chain:List Int}(hc:chain.length<=4)(line:Int):∀(n:Nat) (d:Int) (s:Gs),Cap M n s (cD C y chain line n d s)
 | 0,d,s=>Cap.refl s
 | n+1,d,s=>by
  rw[cD];exact((bZ C s d _ _ _ hc).trans (sI y hc line n (d-1) _)).mono o_
theorem wa (y:Sc){chain:List Int}(hc:chain.length<=4)(line d:Int):∀(n i:Nat) (s:Gs),Cap M (2*n) s (dD C y chain line d n i s)
 | 0,i,s=>Cap.refl s
 | n+1,i,s=>by
  rw[dD];exact(((bZ C s d _ _ _ hc).trans (bZ C _ (d+1) _ _ _ hc)).trans (wa y hc line d n (i+1) _)).mono o_
theorem HG (hx:x.J0.length<=4)(Mz:∀g d s,bS C g->cL C ins g s.I7.length=true->Cap M 0 s (rep x ins line g d s))(t:LY)(d:Int)(s:Gs):Cap M 1 s (ma C rep x ins line t d s):=by
 unfold ma;split
 ·exact bZ _ _ _ _ _ _ hx
 ·split
  ·exact bZ _ _ _ _ _ _ hx
  ·split
   ·split
    ·rename_i g hg;split
     ·rename_i hr;obtain⟨_,ln,h1,h2,_⟩:=gY hg;exact(Mz g d s ⟨ln,h1,h2⟩ hr).mono o_
     ·exact bZ _ _ _ _ _ _ hx
    ·exact(Cap.refl s).mono o_
   ·exact bZ _ _ _ _ _ _ hx
mutual
theorem BZ (hx:x.J0.length<=4)(Mz:∀g d s,bS C g->cL C ins g s.I7.length=true->Cap M 0 s (rep x ins line g d s)):∀(e:Ex) (d:Int) (s:Gs),Cap M e.toks.length s (eA C rep x ins line e d s)
 | .node t es,d,s=>by
  rw[eA,Ex.toks,d5];exact((yk hx Mz es d s).trans (HG hx Mz t _ _)).mono o_
theorem yk (hx:x.J0.length<=4)(Mz:∀g d s,bS C g->cL C ins g s.I7.length=true->Cap M 0 s (rep x ins line g d s)):∀(es:List Ex) (d:Int) (s:Gs),Cap M (au es).length s (cW C rep x ins line es d s)
 | [],d,s=>by rw[cW,au];exact(Cap.refl s).mono o_
 | a::es,d,s=>by
  rw[cW,au,c8];exact(BZ hx Mz a d s).trans (yk hx Mz es (d+1) _)
end
theorem GR (hC:CxOk C)(hx:x.J0.length<=4)(line:Nat){g:Nat}(hg:bS C g)(d:Int)(s:Gs):Cap M 16 s (fU C x line g d s):=by obtain⟨h1,h2⟩:=dx hC hg;have h0:Cap M 0 s ⟨s.I7,max s.J3 (ck C x+(localsOf C.p (g:Int)).length),s.start⟩:=⟨g_,id⟩;unfold fU;exact((h0.trans (sI _ hx _ _ _ _)).trans (wa _ hx _ _ _ _ _)).mono o_
theorem Du (hx:x.J0.length<=4)(line:Nat)(d:Int)(s:Gs):Cap M 1 s (dc C x line d s):=by
 unfold dc;split
 ·exact bZ _ _ _ _ _ _ hx
 ·exact(Cap.refl s).mono o_
theorem uX (hx:x.J0.length<=4)(k:Nat)(last:Bool)(d:Int)(L:Ls):Cap M 1 L.g (be C x k last d L).g:=by
 unfold be;split
 ·split
  ·exact bZ _ _ _ _ _ _ hx
  ·exact bZ _ _ _ _ _ _ hx
 ·split
  ·exact(Cap.refl _).mono o_
  ·exact bZ _ _ _ _ _ _ hx
theorem FA (hx:x.J0.length<=4)(Mz:∀g d s,bS C g->cL C ins g s.I7.length=true->Cap M 0 s (rep x ins line g d s))(hC:CxOk C){k:Nat}{ln:LO}(hk:C.p[k]?=some ln)(he:br ln.K9=true)(d:Int)(s:Gs):Cap M 20 s (eA C rep x ins line (exL ln.K9) d s):=by have h1:=(qX he).2;have h2:=(hC.line _ _ hk).2.2.2.1;rw[h1]at h2;exact(BZ hx Mz _ d s).mono h2
theorem FF (hx:x.J0.length<=4)(Mz:∀line g d s,bS C g->cL C ins g s.I7.length=true->Cap M 0 s (rep x ins line g d s))(hC:CxOk C){k:Nat}{ln:LO}(hk:C.p[k]?=some ln)(h0:ln.J1≠0)(base:Int)(L:Ls):Cap M 22 L.g (bI C rep x ins base k ln L).g:=by
 unfold bI;split
 ·exact((bZ C L.g base 10 0 k hx).set (bO _ _ _) fun h=>qZ h _ _).mono o_
 ·split
  ·split
   ·refine Cap.mono (n:=1+1) ?_ o_;exact(bZ C L.g base 0 0 k hx).trans (uX hx k true (base+1) {L with g:=aC C L.g base 0 0 k x.J0})
   ·split
    ·exact(bZ _ _ _ _ _ _ hx).mono o_
    ·exact(Cap.refl _).mono o_
  ·rename_i h4 h7;have hl:=hC.line _ _ hk
   have NY:Cap M 20 L.g (eA C rep x ins k (exL ln.K9) base ⟨L.g.I7,L.g.J3,true⟩):=by have:=FA hx (fun g d s=>Mz k g d s) hC hk (hl.2.2.2.2 o_) base ⟨L.g.I7,L.g.J3,true⟩;exact⟨this.le,this.ch⟩
   split
   ·exact(NY.trans (bZ _ _ _ _ _ _ hx)).mono o_
   ·split
    ·exact(NY.trans (bZ _ _ _ _ _ _ hx)).mono o_
    ·split
     ·refine Cap.mono (n:=20+1) ?_ o_;exact NY.trans (uX hx k false (base+1) {L with g:=eA C rep x ins k (exL ln.K9) base ⟨L.g.I7,L.g.J3,true⟩,J4:=L.J4.set k L.g.I7.length})
     ·exact(NY.trans (bZ _ _ _ _ _ _ hx)).mono o_
theorem Gd (k:Nat)(ln:LO)(L:Ls):Cap M 0 L.g (bB C x k ln L).g:=by
 unfold bB;split
 ·exact(Cap.refl _).set (bO _ _ _) fun h=>qZ h _ _
 ·exact Cap.refl _
theorem Bd (hx:x.J0.length<=4)(Mz:∀line g d s,bS C g->cL C ins g s.I7.length=true->Cap M 0 s (rep x ins line g d s))(hC:CxOk C)(base:Int):∀(n k:Nat) (L:Ls),(∀i y,k<=i->i<k+n->C.p[i]?=some y->y.J1≠0)->Cap M (n*22) L.g (dI C rep x ins base n k L).g
 | 0,k,L,_=>(Cap.refl _).mono o_
 | n+1,k,L,h=>by
  rw[dI];split
  ·rename_i ln hk;exact(((FF hx Mz hC hk (h k ln (d8 _) o_ hk) base L).trans (Gd k ln _)).trans (Bd hx Mz hC base n (k+1) _ fun i y h1 h2 hy=>h i y o_ o_ hy)).mono o_
  ·exact(Cap.refl _).mono o_
theorem uv (hc:x.J0.length<=4)(Mz:∀line g d s,bS C g->cL C ins g s.I7.length=true->Cap M 0 s (rep x ins line g d s))(hC:CxOk C)(hx:ScOk C x ins)(base:Int)(s:Gs):Cap M ((kQ C.p x.f-x.f)*22) s (bq C rep x ins base s).1:=by unfold bq;obtain⟨ln,h1,h2⟩:=hx.fn;obtain⟨e,h3,_,_,h4⟩:=hC.fn _ _ h1 h2;obtain⟨e',g3,_,_,g5,_⟩:=hx.endE hC;rw[h3]at g3;injection g3 with g3;subst g3;rw[g5];refine Bd hc Mz hC base (e-x.f) (x.f+1) (cu C s) fun i y k1 k2 hy=>?_;exact V84
end
theorem Bv {C:Cx}(hC:CxOk C):∀(lev:Nat) {x:Sc} {ins:List Nat} (line g:Nat) (d:Int) (s:Gs),ScOk C x ins->bS C g->cL C ins g s.I7.length=true->Cap (217+198*lev) 0 s (cK C lev x ins line g d s)
 | 0,x,ins,line,g,d,s,hx,hg,hr=>(Cap.refl s).mono o_
 | lev+1,x,ins,line,g,d,s,hx,hg,hr=>by
  obtain⟨r1,r2,r3,_⟩:=fN hr;have hin:=hC.inl;have NG:=hx.J0;have hy:=jT hC hx line hg;have h1:=GR (M:=217) (x:=x) hC o_ line hg d s;have h2:=Du (C:=C) (M:=217) (x:=x) o_ line (d-argsN C.p g) (fU C x line g d s);have O4:=hy.J0;rw[c8,d5,i8]at O4;have h3:=uv (M:=217+198*lev) (rep:=cK C lev) o_ (fun line g d s hg hr=>Bv hC lev line g d s hy hg hr) hC hy (d-argsN C.p g) (dc C x line (d-argsN C.p g) (fU C x line g d s));obtain⟨e,e1,e2,e3,e4,_⟩:=hy.endE hC;have e5:ct C.p (g:Int)=(e:Int):=by rw[cw];exact bR e1
  have e6:kQ C.p (cf C x line g).f-(cf C x line g).f<=9:=by rw[e4];show e-g<=9;omega
  show Cap _ 0 s (lT C (bq C (cK C lev)) x ins line g d s);unfold lT;have l1:=xh hC hx o_ line hg d s;have l2:=sN (C:=C) x line (d-argsN C.p g) (fU C x line g d s);refine⟨?_,fun h=>xo _ _ (h3.ch (h2.ch (h1.ch h)))⟩;simp only[gQ];have k3:=h3.le;have k1:=l1.le;have k2:=l2.le;omega
theorem FK {C:Cx}(hC:CxOk C){g:Nat}(hg:bS C g)(e5:C.args=argsN C.p g):(dH C g).I7.length<=2500/\wQ (dH C g).I7:=by
 have hS:ScOk C (bb C g) [g]:=⟨hg,rfl,⟨v2 _,by simp[bb]⟩,rfl,by simp[bb],fun _=>e5,rfl⟩;have hG:=uv (M:=217+198*C.b.Mc.toNat) (rep:=cK C C.b.Mc.toNat) (by simp[bb]) (fun line g d s hg hr=>Bv hC _ line g d s hS hg hr) hC hS C.I8 (dS C g);obtain⟨e,e1,e2,e3,e4,_⟩:=hS.endE hC;have hl:=hC.len;have hin:=hC.inl;have hh:(dS C g).I7.length=1:=by simp[dS,aC]
 have hk:=hG.le;refine⟨?_,hG.ch fun it Nt=>?_⟩
 ·show(bq C (cK C C.b.Mc.toNat) (bb C g) [g] C.I8 (dS C g)).1.I7.length<=2500;omega
 ·simp only[dS,aC,t6,d6,l4,or_false]at Nt;subst Nt;exact w6 _
theorem ka {p:List LO}{f:Int}{b:LF}(hs:aw 1048576 (.lst 4 (p.map LO.tr)))(h1:ah p=true)(h2:aS b=true)(h3:0<=f)(h4:f<(ay p).length):∃(g:Nat) (C:Cx),(ay p)[f.toNat]?=some g/\CxOk C/\C.p=foldIf p b/\C.b=b/\C.args=argsN C.p g/\C.J6=nI b.Mn f/\bS C g/\aA p f b=(dH C g).I7/\C.I8=(dH (ctx (foldIf p b) f.toNat g b 0) g).J3:=by
 obtain⟨f,rfl⟩:=j6 h3
 have hb:0<=b.Mc/\b.Mc<=3:=by exact V113
 obtain⟨g,hg⟩:=ae (l:=ay p) (k:=f) o_;have Qh:=(zi hs h1).foldIf b;have PS:(ay (foldIf p b))[f]?=some g:=by rw[mq];exact hg
 obtain⟨Vo,y,hy,Oq⟩:=nV (c9 PS);have QU:=(Qh.line g y hy).2.2.1;have ha:(0:Int)<=(argsN (foldIf p b) g:Int)/\(argsN (foldIf p b) g:Int)<=4:=by rw[argsN,hy];dsimp only;omega
 have SQ:CxOk (ctx (foldIf p b) f g b 0):=Qh.cx ha o_ hb;have hm:=vd SQ ⟨y,hy,Oq⟩ rfl;have Wj:CxOk (ctx (foldIf p b) f g b (dH (ctx (foldIf p b) f g b 0) g).J3):=Qh.cx ha hm hb;refine⟨g,_,by rw[d7];exact hg,Wj,rfl,rfl,rfl,rfl,⟨y,hy,Oq⟩,?_,by rw[d7];rfl⟩;rw[aA,c7 ⟨h1,h2,h3,h4⟩,d7,mY,PS]
theorem jc {p:List LO}{f:Int}{b:LF}(hs:aw 1048576 (.lst 4 (p.map LO.tr))):(aA p f b).length<=2500/\wQ (aA p f b):=by
 by_cases hc:ah p=true/\aS b=true/\0<=f/\f<(ay p).length
 ·obtain⟨h1,h2,h3,h4⟩:=hc;obtain⟨g,C,_,k2,_,_,k5,_,k7,k8,_⟩:=ka hs h1 h2 h3 h4;rw[k8];exact FK k2 k7 k5
 ·rw[aA,b8 hc];exact⟨s_,fun it h=>by cases h⟩
theorem mB {L:Int}:∀{rs:List (List Tr)},(∀r∈rs,aF L r)->eG L rs
 | [],_=>by rw[eG];trivial
 | r::rs,h=>by rw[eG];exact⟨h r s_,mB fun x hx=>h x aat⟩
end Go.Proofs.P
namespace Go.Proofs.P
open Go.Sim Tryz
def eW (c a:Int):Prop:=0<=c/\c<=17/\(c=0->-2147483648<=a/\a<=2147483647)/\(c=1\/c=2\/c=3\/c=4\/c=10\/c=11->-32768<=a/\a<=32767)/\(c=16->0<=a/\a<=65535)/\(c=12\/c=13\/c=14\/c=15->0<=a/\a<=255)/\(5<=c/\c<=9\/c=17->a=0)
def kc (C:Cx)(line:Int):Prop:=∃y,0<=line/\C.p[line.toNat]?=some y/\y.J1≠0
structure GoodI (C:Cx) (n:Nat) (it:LN):Prop where
 line:kc C it.Mh
 jump:it.J2.I9=10\/it.J2.I9=11->0<=it.J2.J7/\it.J2.J7<=n
 op:¬(it.J2.I9=10\/it.J2.I9=11)->eW it.J2.I9 it.J2.J7
 enter:it.J2.I9≠13
theorem GoodI.mono {C:Cx}{n m:Nat}{it:LN}(h:GoodI C n it)(hn:n<=m):GoodI C m it:=⟨h.line,fun k=>by have:=h.jump k;omega,h.op,h.enter⟩
def Lw (C:Cx)(g:Nat)(it:LN):Prop:=(it.J2.I9=13\/it.J2.I9=15)/\it.Mh=g/\it.J2.J7=C.I8
def InvI (C:Cx)(g:Nat)(l:List LN):Prop:=∃h t,l=h::t/\Lw C g h/\∀it∈t,GoodI C l.length it
def bd (l:List LN)(i:Nat):Option Int:=(l[i]?).map (·.J2.I9)
def JP (l:List LN)(j:Int):Prop:=0<=j/\∃c,bd l j.toNat=some c/\(c=10\/c=11)
structure Tr2 (C:Cx) (g:Nat) (a b:Gs):Prop where
 ext:∀i c,bd a.I7 i=some c->bd b.I7 i=some c
 inv:InvI C g a.I7->InvI C g b.I7
 J3:a.J3<=60->b.J3<=60
theorem Tr2.refl {C:Cx}{g:Nat}(s:Gs):Tr2 C g s s:=⟨fun _ _ h=>h,id,id⟩
theorem Tr2.trans {C:Cx}{g:Nat}{a b c:Gs}(h:Tr2 C g a b)(h':Tr2 C g b c):Tr2 C g a c:=⟨fun i v x=>h'.ext i v (h.ext i v x),fun x=>h'.inv (h.inv x),fun x=>h'.J3 (h.J3 x)⟩
theorem kU {l:List LN}{i:Nat}{c:Int}(h:bd l i=some c):i<l.length:=by
 unfold bd at h
 cases hi:l[i]? with
 | none=>rw[hi]at h;cases h
 | some x=>exact aH hi
theorem An {l:List LN}{i:Nat}(h:i<l.length):∃c,bd l i=some c:=by obtain⟨x,hx⟩:=ae h;exact⟨x.J2.I9,by rw[bd,hx];rfl⟩
theorem JP.ext {a b:List LN}(h:∀i c,bd a i=some c->bd b i=some c){j:Int}(hj:JP a j):JP b j:=by obtain⟨h0,c,h1,h2⟩:=hj;exact⟨h0,c,h _ _ h1,h2⟩
theorem Tr2.len {C:Cx}{g:Nat}{a b:Gs}(h:Tr2 C g a b):a.I7.length<=b.I7.length:=by
 rcases v3 a.I7.length with h0|h0
 ·omega
 ·obtain⟨c,hc⟩:=An (l:=a.I7) (i:=a.I7.length-1) o_;have:=kU (h.ext _ _ hc);omega
theorem V111{p:Prop}(h:p:=by
 have:=kU h;unfold bd at h⊢;simp only[aC];rw[j7 this]
 exact h):p:=h
theorem dZ {C:Cx}{g:Nat}{s:Gs}{d code arg line:Int}{chain:List Int}(hl:kc C line)(h1:code=10\/code=11->0<=arg/\arg<=s.I7.length)(h2:¬(code=10\/code=11)->eW code arg)(h3:code≠13):Tr2 C g s (aC C s d code arg line chain):=by
 refine⟨fun i c h=>?_,fun⟨h,t,e1,e2,e3⟩=>?_,id⟩
 ·exact V111
 ·refine⟨h,t++[bM C s d code arg line chain],by simp[aC,e1],e2,fun it Nt=>?_⟩;have hn:s.I7.length<=(aC C s d code arg line chain).I7.length:=by simp[aC]
  rw[d9,t7]at Nt;rcases Nt with Nt|rfl
  ·exact(e3 it Nt).mono hn
  ·exact⟨hl,fun k=>by have:=h1 k;simp only[bM];omega,h2,h3⟩
theorem dv {l:List LN}{j v:Int}(i:Nat):bd (bV l j v) i=bd l i:=by
 unfold bV;split
 ·split
  ·rename_i x hx;unfold bd;by_cases h:j.toNat=i
   ·subst h;rw[x6 (aH hx),hx];rfl
   ·rw[C6 h]
  ·rfl
 ·rfl
theorem CC {C:Cx}{g:Nat}{l:List LN}{j:Int}(h:InvI C g l)(hj:JP l j):InvI C g (bV l j l.length):=by
 obtain⟨a,t,e1,e2,e3⟩:=h;obtain⟨h0,c,h1,h2⟩:=hj;unfold bV;rw[c7 h0]
 cases hx:l[j.toNat]? with
 | none=>simp only;exact⟨a,t,e1,e2,e3⟩
 | some x=>
  have hc:x.J2.I9=c:=by rw[bd,hx]at h1;simpa using h1
  have UT:j.toNat≠0:=by intro h;rw[h,e1]at hx;simp at hx;subst hx;have:=e2.1;omega
  obtain⟨m,hm⟩:∃m,j.toNat=m+1:=⟨j.toNat-1,o_⟩;rw[hm,e1,j8]at hx;have hg:=e3 x (c9 hx);refine⟨a,t.set m ⟨⟨x.J2.I9,l.length⟩,x.Mh,x.L4,x.Ml,x.Md,x.Mm⟩,?_,e2,fun it Nt=>?_⟩
  ·rw[e1,hm];rfl
  ·rw[q7];rcases u6 Nt with Nt|rfl
   ·exact e3 it Nt
   ·exact⟨hg.line,fun _=>by simp only;omega,fun k=>absurd (by rw[hc];exact h2) k,hg.enter⟩
theorem rT {C:Cx}{g:Nat}{s:Gs}{j:Int}(hj:JP s.I7 j):Tr2 C g s ⟨bV s.I7 j s.I7.length,s.J3,s.start⟩:=
 ⟨fun i c h=>by rw[dv];exact h,fun h=>CC h hj,id⟩
theorem yq {C:Cx}{g:Nat}:∀(js:List Int) {s:Gs},(∀j∈js,JP s.I7 j)->Tr2 C g s ⟨patchL s.I7 s.I7.length js,s.J3,s.start⟩
 | [],s,_=>Tr2.refl s
 | j::js,s,h=>by
  have h1:=rT (C:=C) (g:=g) (s:=s) (h j s_);have h2:=yq (C:=C) (g:=g) js (s:=⟨bV s.I7 j s.I7.length,s.J3,s.start⟩) fun i hi=>(h i (by simp[hi])).ext h1.ext;simp only[bO]at h2;exact h1.trans h2
theorem zz {C:Cx}{s:Gs}{d code arg line:Int}{chain:List Int}(h:code=10\/code=11):JP (aC C s d code arg line chain).I7 (s.I7.length:Int):=by refine⟨o_,code,?_,h⟩;rw[bd,d7];simp[aC,bM]
theorem yJ:∀(es:List Ex),es.length<=(au es).length
 | []=>w6 _
 | a::es=>by
  have:=yJ es;have:=a.toks_pos;rw[au,c8,d5];omega
section
variable {C:Cx} {x:Sc} {ins:List Nat} {rep:Sc->List Nat->Nat->Nat->Int->Gs->Gs} {line:Nat} {G:Nat}
theorem wC (hC:CxOk C){y:Sc}(hf:0<=y.first/\y.first<=200){d i:Int}(hd:-100<=d/\d<=2000)(hi:-2<=i/\i<=100)(store:Bool):¬(cy C store=10\/cy C store=11)/\cy C store≠13/\eW (cy C store) (fq C y d i):=by
 have ha:=hC.args;have hk:ng C y i≥-10/\ng C y i<=400:=by unfold ng;split<;>omega
 have hc:1<=cy C store/\cy C store<=4:=by unfold cy;split<;>split<;>omega
 have hA:-10000<=fq C y d i/\fq C y d i<=10000:=by unfold fq;repeat' split<;>omega
 unfold eW;omega
theorem Jk (hC:CxOk C){y:Sc}(hf:0<=y.first/\y.first<=200){d i line:Int}(hd:-100<=d/\d<=2000)(hi:-2<=i/\i<=100)(hl:kc C line)(s:Gs):Tr2 C G s (Ek C y s d i line):=by obtain⟨h1,h2,h3⟩:=wC hC hf hd hi false;exact dZ hl (fun k=>absurd k h1) (fun _=>h3) h2
theorem vK (hC:CxOk C){y:Sc}(hf:0<=y.first/\y.first<=200){d i line:Int}(hd:-100<=d/\d<=2000)(hi:-2<=i/\i<=100)(hl:kc C line)(s:Gs)(chain:List Int):Tr2 C G s (fQ C y s d i line chain):=by obtain⟨h1,h2,h3⟩:=wC hC hf hd hi true;exact dZ hl (fun k=>absurd k h1) (fun _=>h3) h2
theorem yx:eW 0 0:=by unfold eW;omega
theorem xL (hC:CxOk C){y:Sc}(hf:0<=y.first/\y.first<=200){chain:List Int}{line:Int}(hl:kc C line):∀(n:Nat) (d:Int) (s:Gs),n<=50->-100<=d-n->d<=2000->Tr2 C G s (cD C y chain line n d s)
 | 0,d,s,_,_,_=>Tr2.refl s
 | n+1,d,s,h0,h1,h2=>by
  rw[cD];exact(vK hC hf o_ o_ hl s chain).trans (xL hC hf hl n (d-1) _ o_ o_ o_)
theorem BX (hC:CxOk C){y:Sc}(hf:0<=y.first/\y.first<=200){chain:List Int}{line d:Int}(hl:kc C line)(hd:-100<=d/\d<=1999):∀(n i:Nat) (s:Gs),i+n<=50->Tr2 C G s (dD C y chain line d n i s)
 | 0,i,s,_=>Tr2.refl s
 | n+1,i,s,h=>by
  rw[dD];exact((dZ hl (fun k=>o_) (fun _=>yx) o_).trans (vK hC hf o_ o_ hl _ chain)).trans (BX hC hf hl hd n (i+1) _ o_)
def Ct (C:Cx)(rep:Sc->List Nat->Nat->Nat->Int->Gs->Gs)(G:Nat)(x:Sc)(ins:List Nat):Prop:=
 ∀(line g:Nat) (d:Int) (s:Gs),kc C line->bS C g->-10*(ins.length:Int)<=d->d<=1000+30*ins.length+21->cL C ins g s.I7.length=true->Tr2 C G s (rep x ins line g d s)
theorem KT (hC:CxOk C)(hx:ScOk C x ins)(hi:ins.length<=4)(Mz:Ct C rep G x ins)(hl:kc C line){t:LY}(ht:fw t=true){d:Int}(h1:-10*(ins.length:Int)<=d)(h2:d<=1000+30*ins.length+21)(s:Gs):Tr2 C G s (ma C rep x ins line t d s):=by
 obtain⟨e,e1,e2,e3,e4,e5⟩:=hx.endE hC;have UN:=hx.first;have SZ:=qt x.J9 t.J8;unfold fw at ht;unfold ma;split
 ·rename_i h0;rw[c7 h0]at ht;simp only[b9,within_iff]at ht;exact dZ hl (fun k=>o_) (fun _=>by unfold eW;omega) o_
 ·rename_i h0;rw[b8 h0]at ht;split
  ·exact Jk hC o_ o_ o_ hl s
  ·rename_i h1;split
   ·split
    ·rename_i g hg;obtain⟨_,ln,k1,k2,_⟩:=gY hg;split
     ·rename_i hr;exact Mz line g d s hl ⟨ln,k1,k2⟩ o_ o_ hr
     ·have hn:=Aq C.p g;have:=aH k1;have:=hC.len;exact dZ hl (fun k=>o_) (fun _=>by unfold eW;omega) o_
    ·exact Tr2.refl s
   ·rename_i h7;rw[b8 h7,b8 h1]at ht;simp only[b9,within_iff]at ht;exact dZ hl (fun k=>o_) (fun _=>by unfold eW;omega) o_
mutual
theorem Ev (hC:CxOk C)(hx:ScOk C x ins)(hi:ins.length<=4)(Mz:Ct C rep G x ins)(hl:kc C line):∀(e:Ex) (d:Int) (s:Gs),e.ok->-10*(ins.length:Int)<=d->d+e.toks.length<=1000+30*ins.length+21->Tr2 C G s (eA C rep x ins line e d s)
 | .node t es,d,s,h,h1,h2=>by
  rw[Ex.toks,d5]at h2;rw[eA];have MY:=yJ es;exact(BQ hC hx hi Mz hl es d s h.2.2 h1 o_).trans (KT hC hx hi Mz hl h.1 o_ o_ _)
theorem BQ (hC:CxOk C)(hx:ScOk C x ins)(hi:ins.length<=4)(Mz:Ct C rep G x ins)(hl:kc C line):∀(es:List Ex) (d:Int) (s:Gs),iT es->-10*(ins.length:Int)<=d->d+(au es).length<=1000+30*ins.length+21->Tr2 C G s (cW C rep x ins line es d s)
 | [],d,s,_,_,_=>by rw[cW];exact Tr2.refl s
 | a::es,d,s,h,h1,h2=>by
  rw[au,c8]at h2;rw[cW];have hp:=a.toks_pos;exact(Ev hC hx hi Mz hl a d s h.1 h1 o_).trans (BQ hC hx hi Mz hl es (d+1) _ h.2 o_ o_)
end
theorem He (hl:kc C line)(x:Sc)(d:Int)(s:Gs):Tr2 C G s (dc C x line d s):=by
 unfold dc;split
 ·exact dZ hl (fun k=>o_) (fun _=>by unfold eW;omega) o_
 ·exact Tr2.refl s
theorem Ks (hC:CxOk C)(hx:ScOk C x ins)(hi:ins.length<=3)(hl:kc C line){g:Nat}(hg:bS C g){d:Int}(h1:-10*(ins.length:Int)<=d)(h2:d<=1000+30*ins.length+21)(s:Gs):Tr2 C G s (fU C x line g d s):=by obtain⟨k1,k2⟩:=dx hC hg;have hy:=jT hC hx line hg;have hf:=hy.first;rw[c8,d5,i8]at hf;have ht:=uI hC hx;have ha:=hC.argsN g;have h0:Tr2 C G s ⟨s.I7,max s.J3 (ck C x+(localsOf C.p (g:Int)).length),s.start⟩:=⟨fun _ _ h=>h,id,fun h=>g_⟩;unfold fU;exact(h0.trans (xL hC o_ hl _ d _ o_ o_ o_)).trans (BX hC o_ hl o_ _ _ _ o_)
structure LsI (C:Cx) (G f k:Nat) (g0:Gs) (L:Ls):Prop where
 tr:Tr2 C G g0 L.g
 J4:∀v∈L.J4,0<=v/\v<=L.g.I7.length
 pos:∀i,f+1<=i->i<k->jumps C.p i->JP L.g.I7 (atL L.pos i)
 lv:∀j∈L.lv,JP L.g.I7 j
 len:L.pos.length=C.p.length
theorem LsI.step {f k k':Nat}{g0:Gs}{L L':Ls}(h:LsI C G f k g0 L)(ht:Tr2 C G L.g L'.g)(hh:∀v∈L'.J4,v∈L.J4\/(0<=v/\v<=L'.g.I7.length))(hp:∀i,f+1<=i->i<k'->jumps C.p i->(i<k/\atL L'.pos i=atL L.pos i)\/JP L'.g.I7 (atL L'.pos i))(hv:∀j∈L'.lv,j∈L.lv\/JP L'.g.I7 j)(hl:L'.pos.length=L.pos.length):LsI C G f k' g0 L':=by
 have MY:=ht.len;refine⟨h.tr.trans ht,fun v hv=>?_,fun i h1 h2 h3=>?_,fun j hj=>?_,by rw[hl,h.len]⟩
 ·rcases hh v hv with h1|h1
  ·have:=h.J4 v h1;omega
  ·exact h1
 ·rcases hp i h1 h2 h3 with⟨k1,k2⟩|k1
  ·rw[k2];exact(h.pos i h1 k1 h3).ext ht.ext
  ·exact k1
 ·rcases hv j hj with h1|h1
  ·exact(h.lv j h1).ext ht.ext
  ·exact h1
theorem LsI.same {f k:Nat}{g0:Gs}{L L':Ls}(h:LsI C G f k g0 L)(ht:Tr2 C G L.g L'.g)(e1:L'.J4=L.J4)(e2:L'.pos=L.pos)(e3:L'.lv=L.lv):LsI C G f k g0 L':=
 h.step ht (fun v hv=> .inl (by rw[<-e1];exact hv)) (fun i _ h2 _=> .inl ⟨h2,by rw[e2]⟩) (fun j hj=> .inl (by rw[<-e3];exact hj)) (by rw[e2])
theorem LsI.next {f k:Nat}{g0:Gs}{L:Ls}(h:LsI C G f k g0 L)(hj:¬jumps C.p k):LsI C G f (k+1) g0 L:=
 h.step (Tr2.refl _) (fun v hv=> .inl hv) (fun i h1 h2 h3=> .inl ⟨by
  rcases m7 i k with h|h
  ·exact h
  ·rw[show i=k by omega]at h3;exact absurd h3 hj,rfl⟩) (fun j hj=> .inl hj) rfl
theorem zX (hC:CxOk C)(hw:C.I8<=255){f k k':Nat}{g0:Gs}{L:Ls}(hl:kc C (k':Int))(last:Bool)(d:Int)(h:LsI C G f k g0 L):LsI C G f k g0 (be C x k' last d L):=by
 have ha:=hC.args;have U8:=hC.I8;unfold be;split
 ·split
  ·exact h.same (dZ hl (fun k=>o_) (fun _=>by unfold eW;omega) o_) rfl rfl rfl
  ·exact h.same (dZ hl (fun k=>o_) (fun _=>by unfold eW;omega) o_) rfl rfl rfl
 ·split
  ·exact h
  ·refine h.step (dZ hl (fun k=>o_) (fun k=>o_) o_) (fun v hv=> .inl hv) (fun i _ h2 _=> .inl ⟨h2,rfl⟩) (fun j hj=>?_) rfl;simp only[d9,t7]at hj;rcases hj with hj|rfl
   ·exact .inl hj
   ·exact .inr (zz (.inl rfl))
theorem FY {l:List Int}{n:Int}(h:∀v∈l,0<=v/\v<=n)(hn:0<=n)(k:Nat):0<=atL l k/\atL l k<=n:=by
 unfold atL
 cases hk:l[k]? with|none=>simp only[Option.getD];omega|some v=>exact h v (c9 hk)
theorem Gx (hC:CxOk C)(hw:C.I8<=255)(hx:ScOk C x ins)(hi:ins.length<=4)(Mz:Ct C rep G x ins){e:Nat}(he:endAt C.p x.f=some e){k:Nat}{ln:LO}(hk:C.p[k]?=some ln)(h0:ln.J1≠0)(hk1:x.f<k)(MN:k<=e){base:Int}(Nj:-10*(ins.length:Int)<=base)(Nd:base<=1000+30*ins.length){g0:Gs}{L:Ls}(h:LsI C G x.f k g0 L):LsI C G x.f (k+1) g0 (bI C rep x ins base k ln L):=by
 have hl:kc C (k:Int):=⟨ln,o_,by rw[d7];exact hk,h0⟩;have Ne:k<C.p.length:=aH hk;have Sx:=bc hk;unfold bI;split
 ·rename_i h4;obtain⟨o1,o2,o3,o4⟩:=hx.own4 hC he hk1 MN hk h4;obtain⟨y,_,hy,Wv,_⟩:=bt o1;have hJ:=h.pos (ownOf C.p k) o2 o3 (.inl (by rw[bc hy];exact Wv));have t1:Tr2 C G L.g (aC C L.g base 10 0 k x.J0):=dZ hl (fun _=>o_) (fun k=>o_) o_;have t2:=rT (C:=C) (g:=G) (hJ.ext t1.ext);refine h.step (t1.trans t2) (fun v hv=> .inl hv) (fun i h1 h2 h3=>?_) (fun j hj=> .inl hj) s_;by_cases Ou:i=k
  ·subst Ou;refine .inr ?_;rw[fv (by rw[h.len];exact Ne)];exact JP.ext t2.ext (zz (.inl rfl))
  ·exact .inl ⟨o_,fW Ou⟩
 ·rename_i h4;split
  ·rename_i h7;have O0:¬jumps C.p k:=(by unfold jumps;rw[Sx];omega);split
   ·exact(zX hC hw (x:=x) hl true (base+1) (h.same (L':={L with g:=aC C L.g base 0 0 k x.J0}) (dZ hl (fun k=>o_) (fun _=>yx) o_) rfl rfl rfl)).next O0
   ·split
    ·have hh:=FY h.J4 o_ (ownOf C.p k);exact(h.same (L':={L with g:=aC C L.g base 10 (atL L.J4 (ownOf C.p k)) k x.J0}) (dZ hl (fun _=>hh) (fun k=>o_) o_) rfl rfl rfl).next O0
    ·exact h.next O0
  ·rename_i h7;have PV:=hC.line _ _ hk;have ON:=qX (PV.2.2.2.2 o_);have NY:=PV.2.2.2.1;rw[ON.2]at NY
   have tg:Tr2 C G L.g (eA C rep x ins k (exL ln.K9) base ⟨L.g.I7,L.g.J3,true⟩):=by have:=Ev hC hx hi Mz hl (exL ln.K9) base ⟨L.g.I7,L.g.J3,true⟩ ON.1 Nj o_;exact⟨this.ext,this.inv,this.J3⟩
   have QR:LsI C G x.f k g0 {L with g:=eA C rep x ins k (exL ln.K9) base ⟨L.g.I7,L.g.J3,true⟩,J4:=L.J4.set k L.g.I7.length}:=by
    refine h.step tg (fun v hv=>?_) (fun i _ h2 _=> .inl ⟨h2,rfl⟩) (fun j hj=> .inl hj) rfl;rcases u6 hv with hv|rfl
    ·exact .inl hv
    ·exact .inr ⟨o_,by have:=tg.len;simp only;omega⟩
   have SZ:=qt x.J9 ln.J8;obtain⟨_,_,_,_,_,e5⟩:=hx.endE hC;have UN:=hx.first;generalize eA C rep x ins k (exL ln.K9) base ⟨L.g.I7,L.g.J3,true⟩=GE at tg QR⊢;split
   ·rename_i k1;have O0:¬jumps C.p k:=(by unfold jumps;rw[Sx];omega);have t2:Tr2 C G GE (fQ C x GE (base+1) (dG x.J9 ln.J8) k x.J0):=vK hC o_ o_ o_ hl _ _;exact(QR.same (L':={L with g:=fQ C x GE (base+1) (dG x.J9 ln.J8) k x.J0,J4:=L.J4.set k L.g.I7.length}) t2 rfl rfl rfl).next O0
   ·split
    ·rename_i k2;have O0:¬jumps C.p k:=(by unfold jumps;rw[Sx];omega);have t2:Tr2 C G GE (aC C GE (base+1) 17 0 k x.J0):=dZ hl (fun k=>o_) (fun _=>by unfold eW;omega) o_;exact(QR.same (L':={L with g:=aC C GE (base+1) 17 0 k x.J0,J4:=L.J4.set k L.g.I7.length}) t2 rfl rfl rfl).next O0
    ·split
     ·rename_i k6;have O0:¬jumps C.p k:=(by unfold jumps;rw[Sx];omega);exact(zX hC hw (x:=x) hl false (base+1) QR).next O0
     ·refine QR.step (dZ hl (fun _=>o_) (fun k=>o_) o_) (fun v hv=> .inl hv) (fun i h1 h2 h3=>?_) (fun j hj=> .inl hj) s_;by_cases Ou:i=k
      ·subst Ou;refine .inr ?_;rw[fv (by rw[h.len];exact Ne)];exact zz (.inr rfl)
      ·exact .inl ⟨o_,fW Ou⟩
theorem Il (hC:CxOk C)(hx:ScOk C x ins){e:Nat}(he:endAt C.p x.f=some e){k:Nat}{ln:LO}(hk:C.p[k]?=some ln)(hk1:x.f<k)(MN:k<=e){g0:Gs}{L:Ls}(h:LsI C G x.f (k+1) g0 L):LsI C G x.f (k+1) g0 (bB C x k ln L):=by
 unfold bB;split
 ·rename_i h7
  have ND:k≠e:=fun hh=>by
   rcases(hx.own7 hC he hk1 MN hk h7.1).2 with⟨_,o⟩|⟨o,_⟩
   ·exact h7.2 o
   ·omega
  obtain⟨k1,k2,k3,_,_⟩:=yH hC hx he hk1 o_ hk h7.1;exact h.same (rT (h.pos _ k1 o_ k3)) rfl rfl rfl
 ·exact h
theorem Eb (hC:CxOk C)(hw:C.I8<=255)(hx:ScOk C x ins)(hi:ins.length<=4)(Mz:Ct C rep G x ins){e:Nat}(he:endAt C.p x.f=some e){base:Int}(Nj:-10*(ins.length:Int)<=base)(Nd:base<=1000+30*ins.length)(h0:∀i y,x.f<i->i<=e->C.p[i]?=some y->y.J1≠0){g0:Gs}:∀(n k:Nat) (L:Ls),x.f<k->k+n=e+1->LsI C G x.f k g0 L->LsI C G x.f (e+1) g0 (dI C rep x ins base n k L)
 | 0,k,L,_,h2,h=>by rw[dI,<-h2];exact h
 | n+1,k,L,h1,h2,h=>by
  obtain⟨_,_,_,_,_,M6⟩:=aN he;obtain⟨ln,hk⟩:=ae (l:=C.p) (k:=k) o_;rw[dI,hk];exact Eb hC hw hx hi Mz he Nj Nd h0 n (k+1) _ o_ o_ (Il hC hx he hk h1 o_ (Gx hC hw hx hi Mz he hk (h0 k ln h1 o_ hk) h1 o_ Nj Nd h))
theorem xx (hC:CxOk C)(hw:C.I8<=255)(hx:ScOk C x ins)(hi:ins.length<=4)(Mz:Ct C rep G x ins){base:Int}(Nj:-10*(ins.length:Int)<=base)(Nd:base<=1000+30*ins.length)(s:Gs):Tr2 C G s (bq C rep x ins base s).1/\∀j∈(bq C rep x ins base s).2,JP (bq C rep x ins base s).1.I7 j:=by
 obtain⟨ln,h1,h2⟩:=hx.fn;obtain⟨e,h3,_,_,h4⟩:=hC.fn _ _ h1 h2;obtain⟨e',g3,g4,Sl,g5,_⟩:=hx.endE hC;rw[h3]at g3;injection g3 with g3;subst g3
 have h:=Eb hC hw hx hi Mz h3 Nj Nd (fun i y k1 k2 hy=>by
  by_cases Od:i=e
  ·subst Od;obtain⟨z,hz,h7⟩:=bL h3;rw[hy]at hz;injection hz with hz;subst hz;omega
  ·exact(h4 i y o_ o_ hy).1) (g0:=s) (e-x.f) (x.f+1) (cu C s) o_ o_ ⟨Tr2.refl s,fun v hv=>by
   simp only[cu,D3]at hv
   omega,fun i k1 k2 _=>o_,fun j hj=>(by cases hj),by simp[cu]⟩
 unfold bq;rw[g5];exact⟨h.tr,h.lv⟩
end
theorem Ez {C:Cx}{G:Nat}(hC:CxOk C)(hw:C.I8<=255):∀(lev:Nat) {x:Sc} {ins:List Nat},ScOk C x ins->Ct C (cK C lev) G x ins
 | 0,x,ins,hx,line,g,d,s,_,_,_,_,_=>Tr2.refl s
 | lev+1,x,ins,hx,line,g,d,s,hl,hg,h1,h2,hr=>by
  obtain⟨r1,r2,r3,_⟩:=fN hr;have hin:=hC.inl;have hy:=jT hC hx line hg;have ha:=hC.argsN g;have Nz:(ins++[g]).length=ins.length+1:=s_;have t1:=Ks (G:=G) hC hx o_ hl hg h1 h2 s;have t2:=He (G:=G) hl x (d-argsN C.p g) (fU C x line g d s);have t3:=xx (G:=G) hC hw hy o_ (Ez hC hw lev hy) (base:=d-argsN C.p g) o_ o_ (dc C x line (d-argsN C.p g) (fU C x line g d s));exact((t1.trans t2).trans t3.1).trans (yq _ t3.2)
theorem Bm {C:Cx}(hC:CxOk C)(hw:C.I8<=255){g:Nat}(hg:bS C g)(e5:C.args=argsN C.p g):InvI C g (dH C g).I7/\(dH C g).J3<=60:=by
 have hS:ScOk C (bb C g) [g]:=⟨hg,rfl,⟨v2 _,by simp[bb]⟩,rfl,by simp[bb],fun _=>e5,rfl⟩;have U8:=hC.I8;have t:=(xx (G:=g) hC hw hS s_ (Ez hC hw C.b.Mc.toNat hS) (base:=C.I8) (by simp only[d5,i8];omega) (by simp only[d5,i8];omega) (dS C g)).1;obtain⟨l1,l2⟩:=dx hC hg;refine⟨t.inv ⟨_,[],rfl,⟨?_,rfl,rfl⟩,fun it h=>by cases h⟩,t.J3 ?_⟩
 ·simp only[bM];split<;>omega
 ·show(localsOf C.p (g:Int)).length-C.args<=60;omega
theorem qL {p:List LO}{f:Int}{b:LF}(hs:aw 1048576 (.lst 4 (p.map LO.tr)))(h1:ah p=true)(h2:aS b=true)(h3:0<=f)(h4:f<(ay p).length):∃(g:Nat) (C:Cx),(ay p)[f.toNat]?=some g/\C.p=foldIf p b/\0<=C.I8/\C.I8<=255/\InvI C g (aA p f b):=by
 obtain⟨g,C,k1,k2,k3,k4,k5,k6,k7,k8,k9⟩:=ka hs h1 h2 h3 h4
 have hb:0<=b.Mc/\b.Mc<=3:=by exact V113
 have Qh:=(zi hs h1).foldIf b;have ha:(0:Int)<=(argsN (foldIf p b) g:Int)/\(argsN (foldIf p b) g:Int)<=4:=by have:=k2.argsN g;rw[k3]at this;omega
 have SQ:CxOk (ctx (foldIf p b) f.toNat g b 0):=Qh.cx ha o_ hb;obtain⟨y,y1,y2⟩:=k7;have ZW:bS (ctx (foldIf p b) f.toNat g b 0) g:=⟨y,by rw[k3]at y1;exact y1,y2⟩;have QM:=(Bm SQ (by show(0:Int)<=255;omega) ZW rfl).2;have hw:=k2.I8;refine⟨g,C,k1,k3,hw.1,o_,?_⟩;rw[k8];exact(Bm k2 o_ ⟨y,y1,y2⟩ k5).1
end Go.Proofs.P
namespace Go.Proofs.P
open Go.Sim Tryz
def iK (m:LP)(most:Int):LZ:=if cI m=true/\0<=most then⟨m.K0,m.J5,m.L0,(m.Mf.drop m.J5.toNat).take most.toNat⟩else⟨0,0,0,[]⟩
theorem Gh {m:LP}{most:Int}(h:¬(cI m=true/\0<=most)):iK m most=⟨0,0,0,[]⟩:=by rw[iK,b8 h]
theorem machineOk_iff {m:LP}:cI m=true↔m.Mf.length=1200/\(0<=m.J5/\m.J5<=1200)/\(0<=m.L6/\m.L6<=2):=by unfold cI;rw[b9,b9,within_iff,within_iff,w8];exact⟨fun h=>⟨h.1.1,h.1.2,h.2⟩,fun h=>⟨⟨h.1,h.2.1⟩,h.2.2⟩⟩
theorem Q24{p:Prop}(h:p:=by exact⟨⟨rfl,ca _⟩⟩):p:=h
theorem tJ (v:LZ)(hl:v.Ma.length<=1048576):Sim.Spec prog 73 [.agg v.tr] (.r (.agg (v.tr.map tM))):=by
 refine ak hΓ aG func73 rfl d_ rfl ?_;repeat' ((conv=>whnf);first|refine Or.inl ?_|apply oi|apply fi|intro h|exact Y1|refine e_ rfl ?_)
 all_goals try exact Q15
 all_goals try exact Q24
theorem wS (m:LP)(most:Int):Sim.Spec prog 15 [.agg m.tr,tvI most] (.r (.agg ((iK m most).tr.map tM))):=by
 refine ak hΓ aG func15 rfl d_ rfl ?_;have hs:=kA m;by_cases hc:cI m=true/\0<=most
 ·obtain⟨OR,RU⟩:=hc;have hi:=machineOk_iff.1 OR;obtain⟨sp,NB⟩:=j6 hi.2.1.1;obtain⟨mo,rfl⟩:=j6 RU
  have QO:((m.Mf.map aa).take (sp+min mo (1200-sp))).drop sp=((m.Mf.drop m.J5.toNat).take mo).map aa:=by
   rw[G8,NB,d7,y8,A9,D1];rcases Nat.le_total mo (1200-sp)with h|h
   ·rw[y6 h]
   ·rw[Nat.min_eq_right h,gt aab,gt aab]
  rw[iK,c7 ⟨OR,RU⟩,d7];rw[OR]at hs;have Nk:IntKind.i64.wrap (1200-m.J5)=((1200-sp:Nat):Int):=by rw[c6 _ o_];omega
  repeat' ((conv=>whnf);first|refine Or.inl ?_|apply oi|apply fi|intro h|refine ci hs (ai (ai rfl (ai rfl (ai rfl (ai rfl (ai rfl (ai rfl (ai rfl trivial))))))) trivial) ?_|exact Y1|refine e_ rfl ?_)
  all_goals try(exfalso;have h':=f0 h;omega;done)
  conv=>whnf
  refine⟨sp,sp+min mo (1200-sp),NB,?_,o_,by simp[hi.1];omega,?_⟩
  ·show IntKind.i64.wrap (m.J5+(if _<(mo:Int)then _ else(mo:Int)))=((sp+min mo (1200-sp):Nat):Int);rw[Nk];split
   ·rw[c6 _ o_];omega
   ·rw[c6 _ o_];omega
  rw[QO];repeat' ((conv=>whnf);first|refine Or.inl ?_|apply oi|apply fi|intro h|exact Y1|refine e_ rfl ?_)
  all_goals try exact Q15
  all_goals try exact Q24
 ·have hv:=Gh hc;rw[hv];repeat' ((conv=>whnf);first|refine Or.inl ?_|apply oi|apply fi|intro h|refine ci hs (ai (ai rfl (ai rfl (ai rfl (ai rfl (ai rfl (ai rfl (ai rfl trivial))))))) trivial) ?_|exact Y1|refine e_ rfl ?_)
  exfalso;exact hc ⟨by simp_all,by have:=f9 (by assumption:decide (most<0)=false);omega⟩
theorem wq {α:Type}{g:α->List Tr}{L:Int}:∀{l:List α},(∀x∈l,aF L (g x))->eG L (l.map g)
 | [],_=>by rw[C5,eG];trivial
 | x::l,h=>by
  rw[p7,eG];exact⟨h x s_,wq fun y hy=>h y aaN⟩
theorem fT {α:Type}{g:α->List Tr}{l:List α}{sz:Nat}(hl:l.length<=1048576)(h:∀x∈l,aF 1048576 (g x)):aw 1048576 (.lst sz (l.map g)):=by rw[aw];exact⟨by simp;omega,wq h⟩
theorem lE {l:List Int}(hl:l.length<=1048576):aw 1048576 (.lst 1 (l.map aa)):=fT hl fun x _=>by simp[aa,aF,aw]
theorem wi {l:List LV}(hl:l.length<=1048576):aw 1048576 (.lst 4 (l.map LV.tr)):=fT hl fun x _=>by simp[LV.tr,aF,aw]
def aX (c:Int):Int×Bool:=
 if c=0 then(4,true)else if c=1\/c=2\/c=3\/c=4\/c=10\/c=11 then(2,true)
 else if c=16 then(2,false)else if c=12\/c=13\/c=14\/c=15 then(1,false)else(0,false)
def aE (c:Int):Int:=if af c 0 17 then(aX c).1+1 else 0
theorem dQ (c:Int):0<=(aX c).1/\(aX c).1<=4:=by
 unfold aX;repeat' split
 all_goals simp
theorem gO (c:Int):0<=aE c/\aE c<=5:=by have:=dQ c;unfold aE;split<;>omega
abbrev Jr (c:Int):Res:= .tup [.c (.t (.int .i64 (aX c).1)),.c (.t (.bool (aX c).2))]
theorem V78{p:Prop}(h:p:=by
 repeat' ((conv=>whnf);first|refine Or.inl ?_|apply oi|apply fi|intro h|exact Y1|refine e_ rfl ?_)
 all_goals(refine⟨?_⟩;simp_all[aX])):p:=h
theorem lM (c:Int):Sim.Spec prog 220 [tvI c] (Jr c):=by refine ak hΓ aG func220 rfl d_ rfl ?_;exact V78
theorem fI (c:Int):Sim.Spec prog 131 [tvI c] (Jr c):=by refine ak hΓ aG func131 rfl d_ rfl ?_;exact V78
theorem V66{p:Prop}(h:p:=by
 rw[hw]at hb
 repeat' ((conv=>whnf);first|refine Or.inl ?_|apply oi|apply fi|intro h|refine ci hb (ai rfl (ai rfl (ai rfl trivial))) ?_|exact Y1|refine e_ rfl ?_)):p:=h
theorem wO (c:Int):Sim.Spec prog 160 [tvI c] (rI (aE c)):=by
 refine ak hΓ aG func160 rfl d_ rfl ?_;have hb:=ba c 0 17;have ha:=lM c;have MY:=dQ c;unfold aE
 cases hw:af c 0 17 with
 | false=>exact V66
 | true=>
  rw[hw]at hb;repeat' ((conv=>whnf);first|refine Or.inl ?_|apply oi|apply fi|intro h|refine ci hb (ai rfl (ai rfl (ai rfl trivial))) ?_|refine ci ha (ai rfl trivial) ?_|exact Y1|refine e_ rfl ?_)
  exact⟨by rw[c6 _ o_];rfl⟩
theorem ki (c:Int):Sim.Spec prog 59 [tvI c] (rI (aE c)):=by
 refine ak hΓ aG func59 rfl d_ rfl ?_;have hb:=aP c 0 17;have ha:=fI c;have MY:=dQ c;unfold aE
 cases hw:af c 0 17 with
 | false=>exact V66
 | true=>
  rw[hw]at hb;repeat' ((conv=>whnf);first|refine Or.inl ?_|apply oi|apply fi|intro h|refine ci hb (ai rfl (ai rfl (ai rfl trivial))) ?_|refine ci ha (ai rfl trivial) ?_|exact Y1|refine e_ rfl ?_)
  exact⟨by rw[c6 _ o_,Int.add_comm];rfl⟩
def wd (l:List LS):Bool:=l.all fun x=>af x.Me 0 1000000
theorem IV {l:List LS}{k:Nat}{x:LS}(hx:l[k]?=some x):wd (l.drop k)=(af x.Me 0 1000000&&wd (l.drop (k+1))):=by rw[cF hx,wd,E7];rfl
theorem GD {l:List LS}(h:wd l=true):∀x∈l,0<=x.Me/\x.Me<=1000000:=fun x hx=>within_iff.1 (o8.1 h x hx)
theorem vS (l:List LS)(hl:l.length<=1048576):Sim.Spec prog 58 [tvL 8 (l.map LS.tr)] (rB (wd l)):=by
 refine ak hΓ aG func58 rfl d_ rfl ?_;have Mv:(l.map LS.tr).length=l.length:=s_;repeat' ((conv=>whnf);first|refine Or.inl ?_|apply oi|apply fi|intro h|exact Y1|refine e_ rfl ?_)
 conv=>whnf
 refine⟨{k:Nat//k<=l.length/\wd (l.drop k)=wd l},fun k=>⟨[(0,.r (.c (.t (.lst 8 (l.map LS.tr))))),(3,tI .i64 (k.1:Int))],[],[]⟩,fun k=>l.length-k.1,⟨0,o_,rfl⟩,?_,?_⟩
 ·exact Z1
 intro⟨k,hk,hr⟩;dsimp only;by_cases My:k<l.length
 ·obtain⟨x,hx⟩:=ae My;have hb:=aP x.Me 0 1000000;rw[IV hx]at hr
  cases hw:af x.Me 0 1000000 with
  | false=>
   rw[hw]at hb hr;repeat' ((conv=>whnf);first|refine Or.inl ?_|apply oi|apply fi|intro h|refine⟨k,x.tr,rfl,ab hx,?_⟩|refine ci hb (ai rfl (ai rfl (ai rfl trivial))) ?_|exact Y2|refine e_ rfl ?_)
   all_goals exact⟨by rw[<-hr];rfl⟩
  | true=>
   rw[hw,m9]at hr;rw[hw]at hb;repeat' ((conv=>whnf);first|refine Or.inl ?_|apply oi|apply fi|intro h|refine⟨k,x.tr,rfl,ab hx,?_⟩|refine ci hb (ai rfl (ai rfl (ai rfl trivial))) ?_|exact Y2|refine e_ rfl ?_)
   conv=>whnf
   refine⟨⟨k+1,o_,hr⟩,?_,KD⟩;exact Z3
 ·have MS:l.length<=k:=o_;rw[n9 MS]at hr;repeat' ((conv=>whnf);first|refine Or.inl ?_|apply oi|apply fi|intro h|exact Y2|refine e_ rfl ?_)
  exact⟨by rw[<-hr];rfl⟩
def cR (x:LS):LV:=⟨x.Me,x.Me+aE x.L3.J2.I9,x.L3.Mm,x.L3.Md⟩
def vC (r s:LV):Bool:=r.Mg==s.L4&&(r.Mk==s.Mk&&r.Md==s.Md)
def fg (acc:List LV)(s:LV):List LV:=match acc.getLast? with
 | some r=>if vC r s then acc.dropLast++[⟨r.L4,s.Mg,r.Mk,r.Md⟩]else acc++[s]
 | none=>[s]
def bF (l:List LS):List LV:=if wd l then l.foldl (fun a x=>fg a (cR x)) []else []
theorem nh {α:Type}(l:List α):l=[]\/∃ini r,l=ini++[r]:=by
 rcases List.eq_nil_or_concat l with h|⟨a,b,h⟩
 ·exact .inl h
 ·exact .inr ⟨a,b,by rw[h,List.concat_eq_append]⟩
theorem lH (ini:List LV)(r s:LV):fg (ini++[r]) s=if vC r s then ini++[⟨r.L4,s.Mg,r.Mk,r.Md⟩]else ini++[r]++[s]:=by simp[fg]
theorem sG (acc:List LV)(s:LV):(fg acc s).length<=acc.length+1:=by
 rcases nh acc with rfl|⟨ini,r,rfl⟩
 ·simp[fg]
 ·rw[lH];split<;>simp
abbrev Li (l:List LS):={q:Nat×List LV//q.1<=l.length/\q.2.length<=q.1/\(l.drop q.1).foldl (fun a x=>fg a (cR x)) q.2=l.foldl (fun a x=>fg a (cR x)) []}
theorem nk (l:List LS)(hl:l.length<=1048576):Sim.Spec prog 11 [tvL 8 (l.map LS.tr)] (rL 4 ((bF l).map LV.tr)):=by
 refine ak hΓ aG func11 rfl d_ rfl ?_;have Mv:(l.map LS.tr).length=l.length:=s_;have Ti:=vS l hl;unfold bF
 cases hn:wd l with
 | false=>
  rw[hn]at Ti;rw[b8 s_]
  repeat' ((conv=>whnf);first|refine Or.inl ?_|apply oi|apply fi|intro h|refine ci Ti (ai rfl trivial) ?_|exact Y1|refine e_ rfl ?_)
 | true=>
  rw[hn]at Ti;have Pz:=GD hn;rw[c7 rfl];repeat' ((conv=>whnf);first|refine Or.inl ?_|apply oi|apply fi|intro h|refine ci Ti (ai rfl trivial) ?_|exact Y1|refine e_ rfl ?_)
  conv=>whnf
  refine⟨Li l,fun q=>⟨[(0,.r (.c (.t (.lst 8 (l.map LS.tr))))),(3,.r (.c (.own (8,0,0)))),(4,tI .i64 (q.1.1:Int))],[((8,0,0),some (.arr true 4 (q.1.2.map LV.tr)))],[8]⟩,fun q=>l.length-q.1.1,⟨(0,[]),s_,s_,s_⟩,?_,?_⟩
  ·exact Z1
  intro⟨⟨k,acc⟩,hk,M4,hr⟩;dsimp only at hk M4 hr⊢;by_cases My:k<l.length
  ·obtain⟨x,hx⟩:=ae My;have Vq:=Pz x (c9 hx);have hz:=gO x.L3.J2.I9;have ho:=ki x.L3.J2.I9;have RA:cR x=⟨x.Me,x.Me+aE x.L3.J2.I9,x.L3.Mm,x.L3.Md⟩:=rfl;have Nk:IntKind.i64.wrap (x.Me+aE x.L3.J2.I9)=x.Me+aE x.L3.J2.I9:=c6 _ o_;rw[cF hx,E9]at hr;have NV:=sG acc (cR x);rcases nh acc with rfl|⟨ini,r,rfl⟩
   ·repeat' ((conv=>whnf);first|refine Or.inl ?_|apply oi|apply fi|intro h|refine⟨k,x.tr,rfl,ab hx,?_⟩|refine ci ho (ai rfl trivial) ?_|exact Y2|refine e_ rfl ?_)
    all_goals try exact⟨⟨s_,s_⟩⟩
    conv=>whnf
    refine⟨⟨(k+1,fg [] (cR x)),g_,by dsimp only;simp only[i8]at NV;omega,hr⟩,?_,KD⟩;repeat' ((conv=>whnf);first|refine Or.inl ?_|apply oi|apply fi|intro h|exact Y3|refine e_ rfl ?_)
    all_goals exact⟨by dsimp only;rw[Nk];rfl⟩
   ·have Nz:ini.length+1<=k:=by simpa using M4
    have ZD:IntKind.i64.wrap ((((ini++[r]).map LV.tr).length:Nat)-1:Int)=(ini.length:Int):=by rw[e7,c8,List.length_singleton,c6 _ o_];omega
    have U4:((ini++[r]).map LV.tr)[ini.length]?=some r.tr:=(by rw[u4];exact IU s_);rw[lH]at hr NV;repeat' ((conv=>whnf);first|refine Or.inl ?_|apply oi|apply fi|intro h|refine⟨k,x.tr,rfl,ab hx,?_⟩|refine ci ho (ai rfl trivial) ?_|refine⟨ini.length,ZD,?_⟩|refine⟨r.tr,U4,?_⟩|exact Y2|refine e_ rfl ?_)
    all_goals try(exfalso;have h':=f9 h;rw[e7,c8,List.length_singleton]at h';omega;done)
    all_goals try exact⟨s_⟩
    all_goals try exact Q15
    all_goals conv=>whnf
    all_goals first
     |(have hj:vC r (cR x)=true:=by simp_all[vC]
       rw[c7 hj]at hr NV
       refine⟨⟨(k+1,ini++[⟨r.L4,(cR x).Mg,r.Mk,r.Md⟩]),g_,by simp;omega,hr⟩,?_,KD⟩)
     |(have hj:vC r (cR x)=false:=by simp_all[vC]
       rw[b8 (by rw[hj];simp)]at hr NV
       refine⟨⟨(k+1,ini++[r]++[cR x]),g_,by simp;omega,hr⟩,?_,KD⟩)
    repeat' ((conv=>whnf);first|refine Or.inl ?_|apply oi|apply fi|intro h|exact Y3|refine e_ rfl ?_)
    all_goals first
     | exact⟨by dsimp only;rw[Nk,RA];simp[LV.tr]⟩
     | exact⟨by dsimp only;rw[Nk,RA,u4,p7,C5,Jx s_,u4];rfl⟩
  ·have MS:l.length<=k:=o_;rw[n9 MS,List.foldl_nil]at hr;repeat' ((conv=>whnf);first|refine Or.inl ?_|apply oi|apply fi|intro h|exact Y2|refine e_ rfl ?_)
   all_goals exact⟨by rw[hr]⟩
theorem nn:∀(l:List LS) (acc:List LV),(l.foldl (fun a x=>fg a (cR x)) acc).length<=acc.length+l.length
 | [],acc=>s_
 | x::l,acc=>by
  have h1:=nn l (fg acc (cR x));have h2:=sG acc (cR x);rw[E9,d5];omega
theorem qu {l:List LS}(h:aw 1048576 (.lst 8 (l.map LS.tr))):(bF l).length<=1048576:=by
 have h1:=bE h;have h2:=nn l [];unfold bF;split
 ·simp only[i8]at h2;omega
 ·simp
def aZ:Int->List LN->List Int
 | at0,[]=>[at0]
 | at0,x::l=>at0::aZ (at0+aE x.J2.I9) l
def yA (at0:Int)(l:List LN):Int:=atL (aZ at0 l) l.length
def zk (x:LN)(a:Int):LN:=⟨⟨x.J2.I9,a⟩,x.Mh,x.L4,x.Ml,x.Md,x.Mm⟩
def oE (x:LN):Bool:=x.J2.I9==10||x.J2.I9==11
def cN (st:List Int)(k:Nat)(x:LN):LN:=if oE x=true then zk x (atL st x.J2.J7.toNat-atL st (k+1))else x
def nX (st:List Int):Nat->List LN->List LS
 | _,[]=>[]
 | k,x::l=>⟨atL st k,cN st k x⟩::nX st (k+1) l
def ik (l:List LN)(at0:Int):List LS:=nX (aZ at0 l) 0 l
theorem sM:∀(at0:Int) (l:List LN),(aZ at0 l).length=l.length+1
 | _,[]=>rfl
 | at0,x::l=>by rw[aZ,d5,sM,d5]
theorem fV (at0:Int)(l:List LN):atL (aZ at0 l) 0=at0:=by cases l<;>rfl
theorem vB (a:Int)(l:List Int)(k:Nat):atL (a::l) (k+1)=atL l k:=by simp[atL]
theorem gi:∀{at0:Int} {l:List LN} {k:Nat} {x:LN},l[k]?=some x->atL (aZ at0 l) (k+1)=atL (aZ at0 l) k+aE x.J2.I9
 | _,[],_,_,h=>by simp at h
 | at0,y::l,0,x,h=>by
  rw[e8]at h;injection h with h;subst h;rw[aZ,vB,fV]
  rfl
 | at0,y::l,k+1,x,h=>by
  rw[j8]at h;rw[aZ,vB,vB,gi h]
theorem jG {at0:Int}{l:List LN}:∀{k:Nat},k<=l.length->at0<=atL (aZ at0 l) k/\atL (aZ at0 l) k<=at0+5*k
 | 0,_=>by rw[fV];omega
 | k+1,h=>by
  obtain⟨x,hx⟩:=ae (l:=l) (k:=k) o_;have:=jG (at0:=at0) (l:=l) (k:=k) o_;have:=gO x.J2.I9;rw[gi hx];omega
theorem yN {l:List Int}{k:Nat}(h:k<l.length):l[k]?=some (atL l k):=by obtain⟨x,hx⟩:=ae h;rw[atL,hx];rfl
theorem dA {α:Type}{l:List α}{k:Nat}{x:α}(h:l[k]?=some x):l.take (k+1)=l.take k++[x]:=by rw[B2,h];rfl
theorem su (st:List Int):∀(k:Nat) (l:List LN),(nX st k l).length=l.length
 | _,[]=>rfl
 | k,x::l=>by rw[nX,d5,su,d5]
theorem th (st:List Int):∀{l:List LN} {j k:Nat} {x:LN},l[j]?=some x->(nX st k l)[j]?=some ⟨atL st (k+j),cN st (k+j) x⟩
 | [],_,_,_,h=>by simp at h
 | y::l,0,k,x,h=>by
  rw[e8]at h;injection h with h;subst h
  rfl
 | y::l,j+1,k,x,h=>by
  rw[j8]at h;rw[nX,j8,th st h,show k+1+j=k+(j+1) by omega]
theorem dT (l:List LN)(at0:Int):(ik l at0).length=l.length:=su _ _ _
theorem eS {l:List LN}{at0:Int}{j:Nat}{x:LN}(h:l[j]?=some x):(ik l at0)[j]?=some ⟨atL (aZ at0 l) j,cN (aZ at0 l) j x⟩:=by have:=th (aZ at0 l) (k:=0) h;rwa [u5]at this
def Em (l:List LN):Prop:=∀x∈l,oE x=true->0<=x.J2.J7/\x.J2.J7<=l.length
theorem isJump_iff {x:LN}:oE x=true↔x.J2.I9=10\/x.J2.I9=11:=by simp[oE]
def sU (b:LF)(image:Int)(f:Nat):Bool:=if b.Mr=true then(f:Int)%2==image else image==0
noncomputable def bX (p:List LO) (b:LF) (image:Int):Nat->Nat->Int->List (Nat×List LS)
 | 0,_,_=>[]
 | n+1,f,at0=>if sU b image f=true then(f,ik (aA p f b) at0)::bX p b image n (f+1) (yA at0 (aA p f b))else bX p b image n (f+1) at0
noncomputable def aM (p:List LO) (b:LF) (image:Int):List LS:=
 if ah p=true/\aS b=true/\af image 0 1=true then((bX p b image (ay p).length 0 0).map Prod.snd).flatten else []
structure FnOk (p:List LO) (b:LF) (f:Nat):Prop where
 pos:0<(aA p f b).length
 len:(aA p f b).length<=2500
 jmp:Em (aA p f b)
theorem InvI.jumps {C:Cx}{g:Nat}{l:List LN}(h:InvI C g l):0<l.length/\Em l:=by
 obtain⟨a,t,rfl,h2,h3⟩:=h;refine⟨s_,fun x hx hj=>?_⟩;rw[isJump_iff]at hj;rcases d6.1 hx with rfl|hx
 ·have:=h2.1;omega
 ·exact(h3 x hx).jump hj
theorem Ka {p:List LO}{b:LF}(hs:aw 1048576 (.lst 4 (p.map LO.tr)))(h1:ah p=true)(h2:aS b=true){f:Nat}(h:f<(ay p).length):FnOk p b f:=by obtain⟨g,C,_,_,_,_,hi⟩:=qL (f:=(f:Int)) hs h1 h2 o_ o_;exact⟨hi.jumps.1,(jc hs).1,hi.jumps.2⟩
theorem fF {p:List LO}(h1:ah p=true):(ay p).length<=6/\p.length<=60:=by rw[tl]at h1;simp only[b9,j5]at h1;exact⟨h1.2.1,h1.1⟩
theorem IL {l:List LN}{at0:Int}:at0<=yA at0 l/\yA at0 l<=at0+5*l.length:=jG (d8 _)
theorem nW {p:List LO}{b:LF}{image:Int}{n f:Nat}{at0:Int}:bX p b image (n+1) f at0=if sU b image f=true then(f,ik (aA p f b) at0)::bX p b image n (f+1) (yA at0 (aA p f b))else bX p b image n (f+1) at0:=rfl
abbrev Lr (p:List LO)(b:LF)(image:Int):={q:Nat×Int×List (Nat×List LS)//q.1<=(ay p).length/\(0<=q.2.1/\q.2.1<=12500*q.1)/\q.2.2.length<=q.1/\q.2.2++bX p b image ((ay p).length-q.1) q.1 q.2.1=bX p b image (ay p).length 0 0}
theorem iG (p:List LO)(b:LF)(image:Int):∀(n f:Nat) (at0:Int),(bX p b image n f at0).length<=n
 | 0,_,_=>d8 _
 | n+1,f,at0=>by
  rw[bX];split
  ·have:=iG p b image n (f+1) (yA at0 (aA p f b));rw[d5];omega
  ·have:=iG p b image n (f+1) at0;omega
theorem ir {p:List LO}{b:LF}(hs:aw 1048576 (.lst 4 (p.map LO.tr))){image:Int}:∀{n f:Nat} {at0:Int} {x:Nat×List LS},x∈bX p b image n f at0->x.2.length<=2500/\∀y∈x.2,y.L3.Ml.length<=4
 | 0,_,_,_,h=>by cases h
 | n+1,f,at0,x,h=>by
  rw[bX]at h;split at h
  ·rcases d6.1 h with rfl|h
   ·obtain⟨c1,c2⟩:=jc (p:=p) (f:=(f:Int)) (b:=b) hs;refine⟨by rw[dT];exact c1,fun y hy=>?_⟩;obtain⟨j,hj⟩:=C3 hy;have NM:=aH hj;rw[dT]at NM;obtain⟨z,hz⟩:=ae NM;rw[eS hz]at hj;injection hj with hj;subst hj;have:(cN (aZ at0 (aA p f b)) j z).Ml=z.Ml:=(by unfold cN;split<;>rfl);rw[this];exact c2 z (c9 hz)
   ·exact ir hs h
  ·exact ir hs h
def ax (L:List (Nat×List LS)):List LS:=(L.map Prod.snd).flatten
theorem CZ {L:List (Nat×List LS)}{k:Nat}{x:Nat×List LS}(h:L[k]?=some x):ax (L.take (k+1))=ax (L.take k)++x.2:=by rw[dA h];simp[ax]
theorem kG {L:List (Nat×List LS)}(h:∀x∈L,x.2.length<=2500):∀{k:Nat},k<=L.length->(ax (L.take k)).length<=2500*k
 | 0,_=>by simp[ax]
 | k+1,hk=>by
  obtain⟨x,hx⟩:=ae (l:=L) (k:=k) o_;have:=kG h (k:=k) o_;have:=h x (c9 hx);rw[CZ hx,c8];omega
def DI (it:LN):Prop:=0<=it.Md/\it.Md<=1200/\(it.Mm=true->it.Md=0)
def Dp (a b:Gs):Prop:=(∀it∈a.I7,DI it)->∀it∈b.I7,DI it
theorem Dp.refl (s:Gs):Dp s s:=id
theorem Dp.trans {a b c:Gs}(h:Dp a b)(h':Dp b c):Dp a c:=fun x=>h' (h x)
theorem Dp.same {a b b':Gs}(h:Dp a b)(e:b'.I7=b.I7):Dp a b':=fun x=>by rw[e];exact h x
theorem dg {C:Cx}{s:Gs}{d code arg line:Int}{chain:List Int}(h:0<=d/\d<=1200):Dp s (aC C s d code arg line chain):=by
 intro hs it Nt;simp only[aC,d9,t7]at Nt;rcases Nt with Nt|rfl
 ·exact hs it Nt
 ·unfold bM DI;dsimp only;by_cases hf:C.J6=true/\0<s.I7.length
  ·rw[c7 hf];exact⟨o_,o_,fun _=>rfl⟩
  ·rw[b8 hf];refine⟨h.1,h.2,fun e=>?_⟩;rw[b9,j5]at e;exact absurd e hf
theorem rp {l:List LN}(j v:Int)(h:∀it∈l,DI it):∀it∈bV l j v,DI it:=by
 unfold bV;split
 ·split
  ·rename_i x hx;intro it Nt;rcases u6 Nt with Nt|rfl
   ·exact h it Nt
   ·exact h x (c9 hx)
  ·exact h
 ·exact h
theorem xq (v:Int):∀(js:List Int) {l:List LN},(∀it∈l,DI it)->∀it∈patchL l v js,DI it
 | [],_,h=>h
 | j::js,_,h=>xq v js (rp j v h)
section
variable {C:Cx} {x:Sc} {ins:List Nat} {rep:Sc->List Nat->Nat->Nat->Int->Gs->Gs} {line:Nat}
theorem xC {y:Sc}{chain:List Int}{line:Int}:∀(n:Nat) (d:Int) (s:Gs),0<=d-n->d<=1200->Dp s (cD C y chain line n d s)
 | 0,d,s,_,_=>Dp.refl s
 | n+1,d,s,h1,h2=>by
  rw[cD];exact(dg o_).trans (xC n (d-1) _ o_ o_)
theorem zK {y:Sc}{chain:List Int}{line d:Int}(hd:0<=d/\d<=1199):∀(n i:Nat) (s:Gs),Dp s (dD C y chain line d n i s)
 | 0,i,s=>Dp.refl s
 | n+1,i,s=>by
  rw[dD];exact((dg o_).trans (dg o_)).trans (zK hd n (i+1) _)
def CT (C:Cx)(rep:Sc->List Nat->Nat->Nat->Int->Gs->Gs)(x:Sc)(ins:List Nat):Prop:=
 ∀(line g:Nat) (d:Int) (s:Gs),bS C g->(argsN C.p g:Int)<=d->d<=1000+30*ins.length+21->cL C ins g s.I7.length=true->Dp s (rep x ins line g d s)
def lx (C:Cx)(l:List LY):Prop:=∀t∈l,t.J1=7->∃f,findN C.p 0 t.J8=some f/\(argsN C.p f:Int)=t.Mb
theorem Kh (hi:ins.length<=4)(Mz:CT C rep x ins){t:LY}{d:Int}(h1:0<=d)(h2:d<=1000+30*ins.length+21)(hc:t.J1=7->t.Mb<=d/\∃f,findN C.p 0 t.J8=some f/\(argsN C.p f:Int)=t.Mb)(s:Gs):Dp s (ma C rep x ins line t d s):=by
 unfold ma;split
 ·exact dg o_
 split
 ·exact dg o_
 split
 ·rename_i h7;obtain⟨hn,f,hf,ha⟩:=hc h7;split
  ·rename_i g hg;rw[hf]at hg;injection hg with hg;subst hg;obtain⟨_,ln,k1,k2,_⟩:=gY hf;split
   ·rename_i hr;exact Mz line f d s ⟨ln,k1,k2⟩ o_ h2 hr
   ·exact dg o_
  ·exact Dp.refl s
 ·exact dg o_
mutual
theorem Eu (hi:ins.length<=4)(Mz:CT C rep x ins):∀(e:Ex) (d:Int) (s:Gs),e.ok->lx C e.toks->0<=d->d+e.toks.length<=1000+30*ins.length+21->Dp s (eA C rep x ins line e d s)
 | .node t es,d,s,h,hc,h1,h2=>by
  rw[Ex.toks,d5]at h2;rw[eA];have MY:=yJ es;refine(BK hi Mz es d s h.2.2 (fun u hu=>hc u (by rw[Ex.toks];simp[hu])) h1 o_).trans (Kh hi Mz o_ o_ (fun h7=>⟨?_,hc t (by rw[Ex.toks];simp) h7⟩) _);have Tb:=h.2.1;have ht:=h.1;have ha:mG t=t.Mb:=by simp[mG,ht,h7]
  unfold fw at ht;rw[b8 (by omega:¬t.J1=0),c7 h7]at ht;simp only[b9,within_iff]at ht;unfold ar at Tb;rw[ha]at Tb;omega
theorem BK (hi:ins.length<=4)(Mz:CT C rep x ins):∀(es:List Ex) (d:Int) (s:Gs),iT es->lx C (au es)->0<=d->d+(au es).length<=1000+30*ins.length+21->Dp s (cW C rep x ins line es d s)
 | [],d,s,_,_,_,_=>by rw[cW];exact Dp.refl s
 | a::es,d,s,h,hc,h1,h2=>by
  rw[au,c8]at h2;rw[cW];have hp:=a.toks_pos;exact(Eu hi Mz a d s h.1 (fun u hu=>hc u aaS) h1 o_).trans (BK hi Mz es (d+1) _ h.2 (fun u hu=>hc u aaS) o_ o_)
end
theorem Hq (x:Sc){d:Int}(h:0<=d/\d<=1200)(s:Gs):Dp s (dc C x line d s):=by
 unfold dc;split
 ·exact dg h
 ·exact Dp.refl s
theorem Kx {g:Nat}{d:Int}(h1:(argsN C.p g:Int)<=d)(h2:d<=1199)(s:Gs):Dp s (fU C x line g d s):=by unfold fU;exact((show Dp s ⟨s.I7,max s.J3 (ck C x+(localsOf C.p (g:Int)).length),s.start⟩ from id).trans (xC _ d _ o_ o_)).trans (zK o_ _ _ _)
theorem AG (k:Nat)(last:Bool){d:Int}(h:0<=d/\d<=1200)(L:Ls):Dp L.g (be C x k last d L).g:=by
 unfold be;split
 ·split
  ·exact dg h
  ·exact dg h
 split
 ·exact Dp.refl _
 ·exact dg h
theorem GA (hC:CxOk C)(hi:ins.length<=4)(Mz:CT C rep x ins){k:Nat}{ln:LO}(hk:C.p[k]?=some ln)(h0:ln.J1≠0)(MT:ln.J1≠7->lx C ln.K9){base:Int}(Nj:0<=base)(Nd:base<=1000+30*ins.length)(L:Ls):Dp L.g (bI C rep x ins base k ln L).g:=by
 unfold bI;split
 ·intro h;exact rp _ _ (dg (C:=C) o_ h)
 rename_i h4;split
 ·split
  ·exact Dp.trans (b:=aC C L.g base 0 0 k x.J0) (dg o_) (AG k true (d:=base+1) o_ {L with g:=aC C L.g base 0 0 k x.J0})
  split
  ·exact dg o_
  ·exact Dp.refl _
 ·rename_i h7;have PV:=hC.line _ _ hk;have ON:=qX (PV.2.2.2.2 o_);have NY:=PV.2.2.2.1;have MT:=MT h7;rw[ON.2]at NY MT;have tg:Dp L.g (eA C rep x ins k (exL ln.K9) base ⟨L.g.I7,L.g.J3,true⟩):=Eu hi Mz (exL ln.K9) base ⟨L.g.I7,L.g.J3,true⟩ ON.1 MT Nj o_;dsimp only;split
  ·exact tg.trans (dg o_)
  split
  ·exact tg.trans (dg o_)
  split
  ·exact tg.trans (AG k false (d:=base+1) o_ {L with g:=eA C rep x ins k (exL ln.K9) base ⟨L.g.I7,L.g.J3,true⟩,J4:=L.J4.set k L.g.I7.length})
  ·exact tg.trans (dg o_)
theorem HJ (k:Nat)(ln:LO)(L:Ls):Dp L.g (bB C x k ln L).g:=by
 unfold bB;split
 ·exact fun h=>rp _ _ h
 ·exact Dp.refl _
theorem DR (hC:CxOk C)(hi:ins.length<=4)(Mz:CT C rep x ins){base:Int}(Nj:0<=base)(Nd:base<=1000+30*ins.length):∀(n k:Nat) (L:Ls),(∀(i:Nat) (y:LO),k<=i->i<k+n->C.p[i]?=some y->y.J1≠0/\(y.J1≠7->lx C y.K9))->Dp L.g (dI C rep x ins base n k L).g
 | 0,k,L,_=>by rw[dI];exact Dp.refl _
 | n+1,k,L,h=>by
  rw[dI];split
  ·rename_i ln hk;obtain⟨a1,a2⟩:=h k ln (d8 _) o_ hk;exact((GA hC hi Mz hk a1 a2 Nj Nd L).trans (HJ k ln _)).trans (DR hC hi Mz Nj Nd n (k+1) _ fun i y h1 h2=>h i y o_ o_)
  ·exact Dp.refl _
theorem xU (hC:CxOk C)(hx:ScOk C x ins)(hi:ins.length<=4)(Mz:CT C rep x ins){base:Int}(Nj:0<=base)(Nd:base<=1000+30*ins.length)(s:Gs):Dp s (bq C rep x ins base s).1:=by
 obtain⟨ln,h1,h2⟩:=hx.fn;obtain⟨e,h3,_,_,h4⟩:=hC.fn _ _ h1 h2;obtain⟨e',g3,g4,Sl,g5,_⟩:=hx.endE hC;rw[h3]at g3;injection g3 with g3;subst g3;unfold bq;rw[g5];refine DR hC hi Mz Nj Nd (e-x.f) (x.f+1) (cu C s) fun i y k1 k2 hy=>?_;by_cases Od:i=e
 ·subst Od;obtain⟨z,hz,h7⟩:=bL h3;rw[hy]at hz;injection hz with hz;subst hz;exact⟨o_,fun hn=>absurd h7 hn⟩
 ·obtain⟨b1,b2,_⟩:=h4 i y o_ o_ hy;exact⟨b1,fun _=>b2⟩
end
theorem Eh {C:Cx}(hC:CxOk C):∀(lev:Nat) {x:Sc} {ins:List Nat},ScOk C x ins->CT C (cK C lev) x ins
 | 0,x,ins,hx,line,g,d,s,_,_,_,_=>Dp.refl s
 | lev+1,x,ins,hx,line,g,d,s,hg,h1,h2,hr=>by
  obtain⟨r1,r2,r3,_⟩:=fN hr;have hin:=hC.inl;have hy:=jT hC hx line hg;have Nz:(ins++[g]).length=ins.length+1:=s_;have t1:=Kx (x:=x) (line:=line) h1 o_ s;have t2:=Hq (C:=C) (line:=line) x (d:=d-argsN C.p g) o_ (fU C x line g d s);have t3:=xU hC hy o_ (Eh hC lev hy) (base:=d-argsN C.p g) o_ o_ (dc C x line (d-argsN C.p g) (fU C x line g d s));intro h;exact xq _ _ (((t1.trans t2).trans t3) h)
end Go.Proofs.P
namespace Go.Proofs.P
open Go.Sim Tryz
structure IS where
 out:List Int
 Mi:List (List Int)
inductive Rr (α:Type) where
 | ok (a:α) (s:IS)
 | stop (c:Int) (s:IS)
 | fuel
def Rr.bnd {α β:Type}(r:Rr α)(f:α->IS->Rr β):Rr β:=match r with
 | .ok a s=>f a s
 | .stop c s=> .stop c s
 | .fuel=> .fuel
theorem Rr.bnd_ok {α β:Type}(a:α)(s:IS)(f:α->IS->Rr β):(Rr.ok a s).bnd f=f a s:=rfl
def Ln (locals:List (List UInt8))(vals:List Int)(nm:List UInt8):Int:=match iF locals 0 nm with
 | some i=>atL vals i
 | none=>0
section
variable (p:List LO) (locals:List (List UInt8)) (vals:List Int) (call:CallF)
def IF (t:LY)(av:List Int)(s:IS):Rr Int:=
 if t.J1=0 then .ok t.Mb s
 else if t.J1=1 then .ok (Ln locals vals t.J8) s
 else if t.J1=7 then call ((findN p 0 t.J8).getD 0) av s
 else .ok (dY t.J1 (atL av 0) (atL av 1)) s
end
def skipAt (p:List LO)(k:Nat):Nat:=match elseAt p k with
 | some j=>j
 | none=>kQ p k
def Hc (p:List LO)(ln:LO)(k:Nat)(v:Int):Nat:=if(ln.J1=3\/ln.J1=5)/\v=0 then skipAt p k+1 else k+1
section
variable {p:List LO} {locals:List (List UInt8)} {vals:List Int} {call Xd:CallF}
end
section
variable {p:List LO} {lim:Int}
end
structure Ext (lim:Int) (s s':IS):Prop where
 out:s.out <+:s'.out
 vis:s.Mi <+:s'.Mi
 le:(s.Mi.length:Int)<=lim->(s'.Mi.length:Int)<=lim
 ol:s'.out.length+s.Mi.length<=s'.Mi.length+s.out.length
theorem Ext.refl (lim:Int)(s:IS):Ext lim s s:=⟨List.prefix_refl _,List.prefix_refl _,id,o_⟩
theorem Ext.trans {lim:Int}{a b c:IS}(h:Ext lim a b)(h':Ext lim b c):Ext lim a c:=⟨h.out.trans h'.out,h.vis.trans h'.vis,fun x=>h'.le (h.le x),by have:=h.ol;have:=h'.ol;omega⟩
def ExtR (lim:Int)(s:IS){α:Type}(r:Rr α):Prop:=match r with
 | .ok _ s'=>Ext lim s s'
 | .stop c s'=>Ext lim s s'/\(c=1\/c=2)
 | .fuel=>True
theorem ExtR.trans {lim:Int}{a b:IS}{α:Type}{r:Rr α}(h:Ext lim a b)(h':ExtR lim b r):ExtR lim a r:=by cases r with|ok v s=>exact Ext.trans h h'|stop c s=>exact⟨Ext.trans h h'.1,h'.2⟩|fuel=>trivial
section
variable {p:List LO} {locals:List (List UInt8)} {vals:List Int} {call:CallF} {lim:Int}
end
section
variable {p:List LO} {locals:List (List UInt8)} {vals:List Int} {lim:Int} {calls:List Int} {k:Nat}
end
structure InF (p:List LO) (f e k:Nat):Prop where
 fn:∃y,p[f]?=some y/\y.J1=0
 en:endAt p f=some e
 lo:f<k
 hi:k<=e
section
variable {p:List LO} {f e k:Nat} {ln:LO}
abbrev cx0 (p:List LO)(f:Nat):Cx:=⟨p,⟨0,0,false,false⟩,false,0,argsN p f⟩
theorem PgOk.cx0 (hp:PgOk p)(h:∃y,p[f]?=some y/\y.J1=0):CxOk (cx0 p f):=by obtain⟨y,hy,_⟩:=h;refine hp.cx ?_ o_ s_;have:=(hp.line f y hy).2.2.1;show(0:Int)<=(argsN p f:Int)/\(argsN p f:Int)<=4;rw[argsN,hy];dsimp only;omega
theorem CK (h:∃y,p[f]?=some y/\y.J1=0):ScOk (cx0 p f) (bb (cx0 p f) f) [f]:=⟨h,rfl,⟨v2 _,by simp[bb]⟩,rfl,by simp[bb],fun _=>rfl,rfl⟩
theorem InF.own7 (hp:PgOk p)(h:InF p f e k)(hk:p[k]?=some ln)(h7:ln.J1=7):endAt p (ownOf p k)=some k/\((k=e/\ownOf p k=f)\/(k<e/\f<ownOf p k/\ownOf p k<k/\∃y,p[ownOf p k]?=some y/\(y.J1=3\/y.J1=5))):=
 ScOk.own7 (hp.cx0 h.fn) (CK h.fn) h.en h.lo h.hi hk h7
theorem InF.own4 (hp:PgOk p)(h:InF p f e k)(hk:p[k]?=some ln)(h4:ln.J1=4):elseAt p (ownOf p k)=some k/\f<ownOf p k/\ownOf p k<k/\k<e:=
 ScOk.own4 (hp.cx0 h.fn) (CK h.fn) h.en h.lo h.hi hk h4
theorem InF.kind (hp:PgOk p)(h:InF p f e k)(hk:p[k]?=some ln):ln.J1≠0:=ke (hp.cx0 h.fn) (CK h.fn) h.en h.lo h.hi hk
theorem InF.line (hp:PgOk p)(h:InF p f e k):∃ln,p[k]?=some ln/\1<=ln.J1/\ln.J1<=7/\(ln.J1=7\/k<e):=by
 have he:=aN h.en;obtain⟨_,_,_,_,_,hl⟩:=he;obtain⟨ln,hk⟩:=ae (l:=p) (k:=k) (by have:=h.hi;omega);have h1:=h.kind hp hk;have h2:=hp.line k ln hk;refine⟨ln,hk,o_,h2.2.1,?_⟩;by_cases ND:k=e
 ·subst ND;obtain⟨y,hy,h7⟩:=bL h.en;rw[hk]at hy;injection hy with hy;subst hy;exact .inl h7
 ·have:=h.hi;exact .inr o_
theorem InF.at (h:InF p f e k){j:Nat}(h1:f<j)(h2:j<=e):InF p f e j:=⟨h.fn,h.en,h1,h2⟩
theorem InF.skip (hp:PgOk p)(h:InF p f e k)(hk:p[k]?=some ln)(Uw:ln.J1=3\/ln.J1=5)(ND:k<e):k<skipAt p k/\skipAt p k<e:=by
 obtain⟨m,hm,m1,m2⟩:=jr h.en h.lo ND hk aaG;unfold skipAt;split
 ·rename_i j hj;obtain⟨_,e',_,_,Nn,q1,q2,_⟩:=bt hj;rw[hm]at Nn;injection Nn with Nn;subst Nn;omega
 ·rw[kQ,hm];exact⟨m1,m2⟩
theorem InF.next (hp:PgOk p)(h:InF p f e k)(hk:p[k]?=some ln)(h7:ln.J1≠7)(v:Int):InF p f e (Hc p ln k v)/\k<Hc p ln k v:=by
 have ND:k<e:=by obtain⟨l,hl,_,_,h5⟩:=h.line hp;rw[hk]at hl;injection hl with hl;subst hl;omega
 have Pr:=h.lo;unfold Hc;split
 ·rename_i hc;have:=h.skip hp hk hc.1 ND;exact⟨h.at o_ o_,o_⟩
 ·exact⟨h.at o_ o_,o_⟩
theorem InF.start (hp:PgOk p){g:Nat}(h:∃y,p[g]?=some y/\y.J1=0):∃e,InF p g e (g+1):=by obtain⟨y,hy,h0⟩:=h;obtain⟨e,he,_⟩:=hp.fn g y hy h0;obtain⟨_,_,_,_,h1,_⟩:=aN he;exact⟨e,⟨⟨y,hy,h0⟩,he,o_,o_⟩⟩
end
section
variable {p:List LO} {lim:Int}
end
section
variable {p:List LO} {f e k:Nat} {ln:LO}
end
structure Known (p:List LO) (locals:List (List UInt8)) (l:List LY):Prop where
 var:∀t∈l,t.J1=1->∃i,iF locals 0 t.J8=some i
 call:∀t∈l,t.J1=7->∃g,findN p 0 t.J8=some g/\(argsN p g:Int)=t.Mb
theorem Bl (acc:List (List UInt8))(s:List UInt8):s∈gj acc s:=by
 unfold gj;split
 ·rename_i h;exact D9.1 h
 ·simp
theorem BH {acc:List (List UInt8)}{s z:List UInt8}(h:z∈acc):z∈gj acc s:=by
 unfold gj;split
 ·exact h
 ·simp[h]
theorem zG {l:List LO}{e:Nat}{z:List UInt8}:∀(n i:Nat) (acc:List (List UInt8)),z∈acc->z∈locN l e n i acc
 | 0,_,_,h=>by rw[locN];exact h
 | n+1,i,acc,h=>by
  rw[locN];split
  ·split
   ·refine zG n _ _ ?_;split
    ·exact BH h
    ·exact h
   ·exact h
  ·exact h
theorem AD {l:List LO}{e k:Nat}{x:LO}(hx:l[k]?=some x)(h1:x.J1=1)(ND:k<e):∀(n i:Nat) (acc:List (List UInt8)),i<=k->e-i<=n->(∀j,j<e->j<l.length)->x.J8∈locN l e n i acc
 | 0,i,acc,h,hn,_=>o_
 | n+1,i,acc,h,hn,hl=>by
  rw[locN,c7 o_];obtain⟨y,hy⟩:=ae (hl i o_);rw[hy];dsimp only;by_cases Ou:i=k
  ·subst Ou;rw[hx]at hy;injection hy with hy;subst hy;rw[c7 h1];exact zG n _ _ (Bl _ _)
  ·exact AD hx h1 ND n (i+1) _ o_ o_ hl
theorem sY {l:List (List UInt8)}{s:List UInt8}(h:s∈l):∃i,iF l 0 s=some i:=by
 have:(iF l 0 s).isSome=true:=by rw[vE];exact D9.2 h
 exact E6.1 this
theorem Ib {p:List LO}(h:ah p=true){f e k:Nat}{ln:LO}(hI:InF p f e k)(hk:p[k]?=some ln)(ND:k<e):Known p (localsOf p (f:Int)) ln.K9/\(ln.J1=1->∃i,iF (localsOf p (f:Int)) 0 ln.J8=some i):=by
 have h0:=h;unfold ah at h;simp only[b9,j5]at h;obtain⟨_,_,h2,_,_,h3,h4⟩:=h;have hS:=oY p;rw[h3,h4]at hS;have My:∀k e,endAt p k=some e->e<=p.length:=fun k e he=>by obtain⟨_,_,_,_,_,h⟩:=aN he;omega
 have hF:∀k e,endAt p k=some e->lL p k e=true->∀i x,k<i->i<e->p[i]?=some x->x.J1≠0:=fun k e he hf=>by
  rw[mA,b9]at hf;exact uw hf.1 (My k e he)
 obtain⟨y,hy,Oq⟩:=hI.fn;obtain⟨e',Nn,hf⟩:=oP hF p.length 0 hS f y (w6 _) hy Oq;rw[hI.en]at Nn;injection Nn with Nn;subst Nn;rw[mA,b9]at hf;have RS:=hf.1;rw[tF,b9,j5]at RS;have OM:=pp (e-(f+1)) (f+1) 0 (d8 _) (My f e hI.en) RS.2 k ln (by have:=hI.lo;omega) ND hk;unfold eC at OM;have OM:=o8.1 OM;refine⟨⟨fun t ht h1=>?_,fun t ht h7=>?_⟩,fun h1=>?_⟩
 ·have:=OM t ht;unfold cH at this;rw[c7 h1]at this;exact sY (D9.1 this)
 ·have:=OM t ht;unfold cH at this;rw[b8 o_,c7 h7]at this;split at this
  ·rename_i g hg;refine⟨g,hg,?_⟩;unfold argsN;split at this
   ·rename_i x hx
    (try rw[hx])
    exact B7 this
   ·cases this
  ·cases this
 ·refine sY ?_;unfold localsOf;rw[c7 o_,d7,hy,hI.en];dsimp only;rw[c7 Oq];exact AD hk h1 ND _ _ _ (by have:=hI.lo;omega) (d8 _) (fun j hj=>by have:=My f e hI.en;omega)
def eH (c:Int):Prop:=c≠10/\c≠14/\c≠16
def isJ (c:Int):Prop:=c=10\/c=11
def jE (p:List LO)(a:Int):Int:=match(ay p)[a.toNat]? with|some g=>(argsN p g:Int)|none=>0
def gz (C:Cx)(o:LQ)(d:Int):Int:=
 if o.I9=0\/o.I9=1\/o.I9=3 then d+1
 else if o.I9=2\/o.I9=4\/(5<=o.I9/\o.I9<=9)\/o.I9=11\/o.I9=17 then d-1
 else if o.I9=12 then d-jE C.p o.J7+1
 else if o.I9=13\/o.I9=15 then d+o.J7 else d
def wN (c d:Int):Int:=if c=11 then d-1 else d
def StA (C:Cx)(c a d:Int):Prop:=(c=2/\C.J6=true/\((-C.I8<=a/\a<=-1)\/(2<=a/\a<=1+C.args)))\/(c=4/\C.J6=false/\((d-C.I8<=a/\a<=d-1)\/(d+1<=a/\a<=d+C.args)))
structure OpTy (C:Cx) (i:Nat) (it:LN) (d:Int):Prop where
 dep:it.Md=(if C.J6=true/\0<i then 0 else d)
 ent:it.Mm=(C.J6&&decide (0<i))
 lo:(i=0->d=0)/\(0<i->C.I8<=d)
 head:i=0->it.J2.I9=(if C.J6=true then 13 else 15)/\it.J2.J7=C.I8
 st:it.J2.I9=2\/it.J2.I9=4->C.I8+1<=d/\StA C it.J2.I9 it.J2.J7 d
 ld:(it.J2.I9=1->C.J6=true)
 ar:5<=it.J2.I9/\it.J2.I9<=9->C.I8+2<=d
 one:it.J2.I9=11\/it.J2.I9=17->C.I8+1<=d
 call:it.J2.I9=12->0<=it.J2.J7/\∃g,(ay C.p)[it.J2.J7.toNat]?=some g/\C.I8+argsN C.p g<=d
 leave:it.J2.I9=14->C.J6=true/\it.J2.J7=C.args/\C.I8+1<=d
 ret:it.J2.I9=16->C.J6=false/\it.J2.J7=C.args+16*C.I8/\d=C.I8+1
 sp:it.J2.I9=15->0<i->it.J2.J7=0
 ent13:it.J2.I9=13->i=0
structure Ty (C:Cx) (l:List LN) (ds:List Int) (pn:List Int) (D:Int):Prop where
 len:ds.length=l.length
 pos:0<l.length
 item:∀(i:Nat) (it:LN) (d:Int),l[i]?=some it->ds[i]?=some d->OpTy C i it d
 fall:∀(i:Nat) (it:LN) (d:Int),l[i]?=some it->ds[i]?=some d->eH it.J2.I9->(ds++[D])[i+1]?=some (gz C it.J2 d)
 jump:∀(i:Nat) (it:LN) (d:Int),l[i]?=some it->ds[i]?=some d->isJ it.J2.I9->(i:Int)∉pn->1<=it.J2.J7/\(ds++[D])[it.J2.J7.toNat]?=some (wN it.J2.I9 d)
def Cd (l:List LN)(ds:List Int)(j e:Int):Prop:=0<=j/\∃c d,bd l j.toNat=some c/\ds[j.toNat]?=some d/\isJ c/\e=wN c d
section
variable {C:Cx} {l l':List LN} {ds VH pn pn':List Int} {d D D' e:Int}
theorem ut {ds:List Int}{d D':Int}{j:Nat}{e:Int}(h:(ds++[d])[j]?=some e):((ds++[d])++[D'])[j]?=some e:=by rw[j7 (aH h)];exact h
theorem Cd.ext {j:Int}(h:Cd l ds j e)(h1:∀i c,bd l i=some c->bd l' i=some c)(es:List Int):Cd l' (ds++es) j e:=by obtain⟨h0,c,d,k1,k2,k3,k4⟩:=h;exact⟨h0,c,d,h1 _ _ k1,by rw[j7 (aH k2)];exact k2,k3,k4⟩
theorem Ty.emit (h:Ty C l ds pn d){it:LN}(ho:OpTy C l.length it d)(D':Int)(hf:eH it.J2.I9->D'=gz C it.J2 d)(QS:∀i∈pn,i∈pn')
  (hj:isJ it.J2.I9->(l.length:Int)∈pn'\/(1<=it.J2.J7/\(ds++[d])[it.J2.J7.toNat]?=some (wN it.J2.I9 d))):Ty C (l++[it]) (ds++[d]) pn' D':=by
 have hl:=h.len
 have key:∀(i:Nat) (NI:LN) (d':Int),(l++[it])[i]?=some NI->(ds++[d])[i]?=some d'->(l[i]?=some NI/\ds[i]?=some d')\/(i=l.length/\NI=it/\d'=d):=fun i NI d' h1 h2=>by
  rcases B1 i l.length with hi|hi|hi
  ·rw[j7 hi]at h1;rw[j7 o_]at h2;exact .inl ⟨h1,h2⟩
  ·subst hi;rw[m5 (d8 _),w9,e8]at h1;rw[m5 o_,hl,w9,e8]at h2;injection h1 with h1;injection h2 with h2;exact .inr ⟨rfl,h1.symm,h2.symm⟩
  ·rw[e9 aab]at h1
   cases h1
 refine⟨by simp[hl],s_,fun i NI d' h1 h2=>?_,fun i NI d' h1 h2 h3=>?_,fun i NI d' h1 h2 h3 h4=>?_⟩
 ·rcases key i NI d' h1 h2 with⟨k1,k2⟩|⟨rfl,rfl,rfl⟩
  ·exact h.item i NI d' k1 k2
  ·exact ho
 ·rcases key i NI d' h1 h2 with⟨k1,k2⟩|⟨rfl,rfl,rfl⟩
  ·exact ut (h.fall i NI d' k1 k2 h3)
  ·rw[m5 (by simp[hl])];simp[hl,hf h3]
 ·rcases key i NI d' h1 h2 with⟨k1,k2⟩|⟨rfl,rfl,rfl⟩
  ·obtain⟨g1,g2⟩:=h.jump i NI d' k1 k2 h3 (fun hm=>h4 (QS _ hm));exact⟨g1,ut g2⟩
  ·rcases hj h3 with g|⟨g1,g2⟩
   ·exact absurd g h4
   ·exact⟨g1,ut g2⟩
theorem oN {l:List LN}{j v:Int}{i:Nat}{it:LN}(h:(bV l j v)[i]?=some it):∃it0,l[i]?=some it0/\((it=it0/\¬(j=(i:Int)))\/(j=(i:Int)/\it=⟨⟨it0.J2.I9,v⟩,it0.Mh,it0.L4,it0.Ml,it0.Md,it0.Mm⟩)):=by
 unfold bV at h;by_cases h0:0<=j
 ·rw[c7 h0]at h
  cases hx:l[j.toNat]? with
  | none=>
   rw[hx]at h;refine⟨it,h,.inl ⟨rfl,fun e=>?_⟩⟩;rw[show j.toNat=i by omega]at hx
   rw[hx]at h;cases h
  | some x=>
   rw[hx]at h;dsimp only at h;by_cases NP:j.toNat=i
   ·subst NP;rw[x6 (aH hx)]at h;injection h with h;exact⟨x,hx,.inr ⟨o_,h.symm⟩⟩
   ·rw[C6 NP]at h;exact⟨it,h,.inl ⟨rfl,fun e=>NP o_⟩⟩
 ·rw[b8 h0]at h;exact⟨it,h,.inl ⟨rfl,fun e=>h0 o_⟩⟩
theorem HK {i:Nat}{it:LN}{v:Int}(h:OpTy C i it d)(hj:isJ it.J2.I9):OpTy C i ⟨⟨it.J2.I9,v⟩,it.Mh,it.L4,it.Ml,it.Md,it.Mm⟩ d:=by
 unfold isJ at hj;refine⟨h.dep,h.ent,h.lo,fun k=>?_,fun k=>?_,h.ld,h.ar,h.one,fun k=>?_,fun k=>?_,fun k=>?_,fun k=>?_,h.ent13⟩
 ·have:=(h.head k).1;split at this<;>omega
 all_goals(dsimp only at k;omega)
theorem Ty.patch (h:Ty C l ds pn D){j:Int}(hj:Cd l ds j D)(QS:∀i∈pn,i=j\/i∈pn'):Ty C (bV l j l.length) ds pn' D:=by
 obtain⟨h0,c,d,k1,k2,k3,k4⟩:=hj;have hl:=h.len
 have Na:∀(i:Nat) (it:LN) (d':Int),l[i]?=some it->ds[i]?=some d'->j=(i:Int)->it.J2.I9=c/\d'=d:=fun i it d' g1 g2 e=>by
  rw[show j.toNat=i by omega]at k1 k2;rw[bd,g1]at k1;rw[g2]at k2;injection k1 with k1;injection k2 with k2;exact⟨k1,k2⟩
 refine⟨by rw[bO];exact hl,by rw[bO];exact h.pos,fun i NI d' h1 h2=>?_,fun i NI d' h1 h2 h3=>?_,fun i NI d' h1 h2 h3 h4=>?_⟩
 ·obtain⟨it0,g1,⟨rfl,_⟩|⟨e,rfl⟩⟩:=oN h1
  ·exact h.item i _ d' g1 h2
  ·exact HK (h.item i it0 d' g1 h2) (by rw[(Na i it0 d' g1 h2 e).1];exact k3)
 ·obtain⟨it0,g1,⟨rfl,_⟩|⟨e,rfl⟩⟩:=oN h1
  ·exact h.fall i _ d' g1 h2 h3
  ·have hc:=(Na i it0 d' g1 h2 e).1;dsimp only at h3⊢;have:=h.fall i it0 d' g1 h2 h3;rw[this];unfold eH at h3;unfold isJ at k3;unfold gz;dsimp only;rw[hc];rw[show c=11 by omega];simp
 ·obtain⟨it0,g1,⟨rfl,ME⟩|⟨e,rfl⟩⟩:=oN h1
  ·exact h.jump i _ d' g1 h2 h3 (fun hm=>by
    rcases QS _ hm with hm|hm
    ·exact ME hm.symm
    ·exact h4 hm)
  ·obtain⟨hc,hd⟩:=Na i it0 d' g1 h2 e;dsimp only at h3⊢;have hp1:=h.pos;refine⟨o_,?_⟩;rw[d7,<-hl,m5 (d8 _),w9,e8,hc,hd,k4]
theorem Ty.patchL (pn':List Int):∀(js:List Int) {l:List LN} {pn:List Int},Ty C l ds pn D->(∀j∈js,Cd l ds j D)->(∀i∈pn,i∈js\/i∈pn')->Ty C (patchL l l.length js) ds pn' D
 | [],l,pn,h,_,hp=>⟨h.len,h.pos,h.item,h.fall,fun i it d h1 h2 h3 h4=>h.jump i it d h1 h2 h3 fun hm=>by
   rcases hp _ hm with h'|h'
   ·cases h'
   ·exact h4 h'⟩
 | j::js,l,pn,h,hj,hp=>by
  have h1:=h.patch (pn':=js++pn') (hj j s_) (fun i hi=>by
   rcases hp i hi with h'|h'
   ·rcases d6.1 h' with h'|h'
    ·exact .inl h'
    ·exact .inr (d9.2 (.inl h'))
   ·exact .inr (d9.2 (.inr h')))
  have h2:=Ty.patchL pn' js h1 (fun i hi=>by
   have:=(hj i (by simp[hi])).ext (l':=bV l j l.length) (fun i c h=>by rw[dv];exact h) []
   simpa using this) (fun i hi=>by simpa using hi)
  rw[bO]at h2;exact h2
end
structure T (C:Cx) (d D:Int) (ne:Prop) (s s':Gs):Prop where
 mono:s.J3<=s'.J3
 ext:∀i c,bd s.I7 i=some c->bd s'.I7 i=some c
 ty:s'.J3<=C.I8->∀ds pn,Ty C s.I7 ds pn d->∃es,(ne->es≠[])/\(es=[]->D=d)/\(∀x,es.head?=some x->x=d)/\Ty C s'.I7 (ds++es) pn D
section
variable {C:Cx} {d D E:Int} {a b c:Gs} {ne Vd:Prop}
theorem T.refl (s:Gs):T C d d False s s:=⟨v2 _,fun _ _ h=>h,fun _ ds pn h=>⟨[],fun h=>h.elim,fun _=>rfl,fun x hx=>absurd hx s_,by rw[m6];exact h⟩⟩
theorem T.trans (h:T C d D ne a b)(h':T C D E Vd b c):T C d E (ne\/Vd) a c:=by
 refine⟨D4 h.mono h'.mono,fun i v x=>h'.ext i v (h.ext i v x),fun hm ds pn ht=>?_⟩;obtain⟨es,e1,e2,e3,e4⟩:=h.ty (D4 h'.mono hm) ds pn ht;obtain⟨fs,f1,f2,f3,f4⟩:=h'.ty hm _ pn e4;refine⟨es++fs,fun hn=>?_,fun hn=>?_,fun x hx=>?_,by rw[<-j9];exact f4⟩
 ·rcases hn with hn|hn
  ·have:=e1 hn;intro h0;simp at h0;exact this h0.1
  ·have:=f1 hn;intro h0;simp at h0;exact this h0.2
 ·simp only[List.append_eq_nil_iff]at hn;rw[f2 hn.2,e2 hn.1]
 ·cases es with|nil=>rw[t6]at hx;rw[f3 x hx,e2 rfl]|cons y ys=>exact e3 x hx
theorem T.weak (h:T C d D ne a b)(hn:Vd->ne):T C d D Vd a b:=⟨h.mono,h.ext,fun hm ds pn ht=>by
 obtain⟨es,e1,e2⟩:=h.ty hm ds pn ht
 exact⟨es,fun x=>e1 (hn x),e2⟩⟩
theorem qY {code arg line:Int}{chain:List Int}(s:Gs)(Mw:s.J3<=C.I8->0<s.I7.length->OpTy C s.I7.length (bM C s d code arg line chain) d)(hf:D=gz C ⟨code,arg⟩ d)(hj:¬isJ code)(TK:eH code):T C d D True s (aC C s d code arg line chain):=by
 refine⟨v2 _,fun i c h=>?_,fun hm ds pn ht=>⟨[d],fun _=>s_,fun h=>by simp at h,fun x hx=>by simpa using hx.symm,?_⟩⟩
 ·exact V111
 ·exact ht.emit (Mw hm ht.pos) D (fun _=>hf) (fun _ h=>h) (fun h=>absurd h hj)
theorem dw {code arg line:Int}{chain:List Int}{s:Gs}(hp:0<s.I7.length)(hd:C.I8<=d)(h2:code=2\/code=4->C.I8+1<=d/\StA C code arg d)(h1:code=1->C.J6=true)(h5:5<=code/\code<=9->C.I8+2<=d)(Sz:code=11\/code=17->C.I8+1<=d)
  (Rt:code=12->0<=arg/\∃g,(ay C.p)[arg.toNat]?=some g/\C.I8+argsN C.p g<=d) (Xt:code=14->C.J6=true/\arg=C.args/\C.I8+1<=d) (X8:code=16->C.J6=false/\arg=C.args+16*C.I8/\d=C.I8+1) (YC:code=15->arg=0) (XE:code≠13):OpTy C s.I7.length (bM C s d code arg line chain) d:=
 ⟨rfl,rfl,⟨fun h=>o_,fun _=>hd⟩,fun h=>o_,h2,h1,h5,Sz,Rt,Xt,X8,fun k _=>YC k,fun k=>absurd k XE⟩
end
def Beg (b:Nat)(s:Gs):Prop:=b<=s.I7.length/\(s.start=true↔s.I7.length=b)
theorem Beg.emit {b:Nat}{s:Gs}(h:Beg b s)(C:Cx)(d code arg line:Int)(chain:List Int):Beg b (aC C s d code arg line chain):=by obtain⟨h1,h2⟩:=h;refine⟨by simp only[aC,c8,d5,i8];omega,?_⟩;simp only[aC,c8,d5,i8];exact⟨fun h=>(by cases h),fun h=>o_⟩
theorem Beg.off {b:Nat}{s s':Gs}(h:Beg b s)(h1:s.I7.length<s'.I7.length)(h2:s'.start=false):Beg b s':=by have:=h.1;exact⟨o_,by rw[h2];exact⟨fun h=>(by cases h),fun h=>o_⟩⟩
section
variable {C:Cx} {x:Sc} {ins:List Nat} {rep:Sc->List Nat->Nat->Nat->Int->Gs->Gs} {line b:Nat}
end
def Keep (s s':Gs):Prop:=∀(j:Nat) (it:LN),s.I7[j]?=some it->∃NI,s'.I7[j]?=some NI/\NI.L4=it.L4
theorem Keep.refl (s:Gs):Keep s s:=fun _ it h=>⟨it,h,rfl⟩
theorem Keep.trans {a b c:Gs}(h:Keep a b)(h':Keep b c):Keep a c:=fun j it hj=>by
 obtain⟨it1,h1,e1⟩:=h j it hj;obtain⟨it2,h2,e2⟩:=h' j it1 h1;exact⟨it2,h2,e2.trans e1⟩
theorem Keep.emit (C:Cx)(s:Gs)(d code arg line:Int)(chain:List Int):Keep s (aC C s d code arg line chain):=fun j it hj=>by
 refine⟨it,?_,rfl⟩;show(s.I7++_)[j]?=_;rw[j7 (aH hj)];exact hj
section
variable {C:Cx} {rep:Sc->List Nat->Nat->Nat->Int->Gs->Gs}
end
def Mark (b:Nat)(s:Gs):Prop:=(s.start=true/\s.I7.length=b)\/∃it,s.I7[b]?=some it/\it.L4=true
theorem Mark.keep {b:Nat}{s s':Gs}(h:∃it,s.I7[b]?=some it/\it.L4=true)(hk:Keep s s'):∃it,s'.I7[b]?=some it/\it.L4=true:=by obtain⟨it,h1,h2⟩:=h;obtain⟨NI,h3,h4⟩:=hk b it h1;exact⟨NI,h3,h4.trans h2⟩
theorem Mark.emit {b:Nat}{s:Gs}(h:Mark b s)(C:Cx)(d code arg line:Int)(chain:List Int):Mark b (aC C s d code arg line chain):=by
 rcases h with⟨h1,h2⟩|h
 ·refine .inr ⟨bM C s d code arg line chain,?_,h1⟩;show(s.I7++[_])[b]?=_;rw[<-h2];simp
 ·exact .inr (Mark.keep h (Keep.emit _ _ _ _ _ _ _))
section
variable {C:Cx} {rep:Sc->List Nat->Nat->Nat->Int->Gs->Gs} {b:Nat}
end
theorem xw {g:Nat}:∀{l:List LO} {i j:Nat} {x:LO},i<=g->l[g-i]?=some x->x.J1=0->iF ((funsF l i).map fun n:Nat=>(n:Int)) j (g:Int)=some (j+((l.take (g-i)).filter fun x=>x.J1==0).length)
 | [],i,j,x,h,hx,_=>by simp at hx
 | y::l,i,j,x,h,hx,h0=>by
  rw[funsF];by_cases QQ:g=i
  ·subst QQ;rw[w9,e8]at hx;injection hx with hx;subst hx;rw[c7 h0,u4,p7,u3,iF,c7 s_,w9];simp
  ·have hs:g-i=(g-(i+1))+1:=o_;rw[hs,j8]at hx;have ih:=fun j=>xw (g:=g) (l:=l) (i:=i+1) (j:=j) o_ hx h0;rw[hs,q8];by_cases hy:y.J1=0
   ·rw[c7 hy,u4,p7,C5,u3,t6,iF,b8 aab,ih,B6,c7 aaN,d5];congr 1;omega
   ·rw[b8 hy,t6,ih,B6,b8 aaN]
theorem HS {C:Cx}{g:Nat}(hg:bS C g):dG ((ay C.p).map fun n:Nat=>(n:Int)) (g:Int)=(kI C.p g:Int):=by obtain⟨x,hx,h0⟩:=hg;have:=xw (l:=C.p) (i:=0) (j:=0) (x:=x) (w6 g) (by simpa using hx) h0;unfold dG ay;rw[this];simp[cO,kI]
section
variable {C:Cx} {x y:Sc} {ins:List Nat} {rep:Sc->List Nat->Nat->Nat->Int->Gs->Gs} {line:Nat}
theorem nL:cy C true=if C.J6=true then 2 else 4:=by unfold cy;split<;>rfl
theorem rE (ho:y.L2=false){d i:Int}(h1:0<=y.first+i)(h2:y.first+i<C.I8):StA C (cy C true) (fq C y d i) d:=by
 rw[nL];unfold fq Ca ng StA;rw[ho]
 cases hf:C.J6 with|true=>simp;omega|false=>simp;omega
theorem FJ (hC:CxOk C)(ho:y.L2=true){d i:Int}(h1:0<=i)(h2:i-C.args<C.I8):StA C (cy C true) (fq C y d i) d:=by
 have ha:=hC.args;rw[nL];unfold fq Ca ng StA;rw[ho];by_cases hi:i<C.args
 ·cases hf:C.J6 with|true=>simp[hi];omega|false=>simp[hi];omega
 ·cases hf:C.J6 with|true=>simp[hi];omega|false=>simp[hi];omega
theorem DL {d i line:Int}{chain:List Int}(s:Gs)(hd:C.I8+1<=d)(hS:s.J3<=C.I8->StA C (cy C true) (fq C y d i) d):T C d (d-1) True s (fQ C y s d i line chain):=by
 have hc:=nL (C:=C);have Oo:cy C true=2\/cy C true=4:=by rw[hc];split<;>omega
 refine qY s (fun hm hp=>dw hp o_ (fun _=>⟨hd,hS hm⟩) (fun h=>o_) (fun h=>o_) (fun h=>o_) (fun h=>o_) (fun h=>o_) (fun h=>o_) (fun h=>o_) o_) ?_ aar aad;unfold gz;dsimp only;rw[b8 o_,c7 o_]
theorem DY {d arg line:Int}{chain:List Int}(s:Gs)(hd:C.I8<=d):T C d (d+1) True s (aC C s d 0 arg line chain):=
 qY s (fun hm hp=>dw hp hd (fun h=>o_) (fun h=>o_) (fun h=>o_) (fun h=>o_) (fun h=>o_) (fun h=>o_) (fun h=>o_) (fun h=>o_) o_) (by unfold gz;dsimp only;rw[c7 o_]) aar aad
theorem AF (ho:y.L2=false)(hf:0<=y.first){chain:List Int}{line:Int}:∀(n:Nat) (d:Int) (s:Gs),C.I8+n<=d->(s.J3<=C.I8->y.first+n<=C.I8)->T C d (d-n) False s (cD C y chain line n d s)
 | 0,d,s,_,_=>by rw[cD];simpa using T.refl (C:=C) (d:=d) s
 | n+1,d,s,h,hF=>by
  rw[cD];have h1:=DL (C:=C) (y:=y) (d:=d) (i:=(n:Int)) (line:=line) (J0:=chain) s o_ (fun hm=>rE ho o_ (by have:=hF hm;omega));have h2:=AF ho hf (J0:=chain) (line:=line) n (d-1) (fQ C y s d n line chain) o_ (fun hm=>by have:=hF hm;omega);have:=h1.trans h2;rw[show d-((n+1:Nat):Int)=d-1-n by omega];exact this.weak (fun h=>h.elim)
theorem Es (ho:y.L2=false)(hf:0<=y.first){chain:List Int}{line d:Int}(hd:C.I8<=d):∀(n i:Nat) (s:Gs),(s.J3<=C.I8->y.first+i+n<=C.I8)->T C d d False s (dD C y chain line d n i s)
 | 0,i,s,_=>by rw[dD];exact T.refl s
 | n+1,i,s,hF=>by
  rw[dD];have h1:=DY (C:=C) (d:=d) (arg:=0) (line:=line) (J0:=chain) s hd;have h2:=DL (C:=C) (y:=y) (d:=d+1) (i:=(i:Int)) (line:=line) (J0:=chain) (aC C s d 0 0 line chain) o_ (fun hm=>rE ho o_ (by have:=hF hm;omega));have h3:=Es ho hf (J0:=chain) (line:=line) hd n (i+1) (fQ C y (aC C s d 0 0 line chain) (d+1) i line chain) (fun hm=>by have:=hF hm;omega);rw[show d+1-1=d by omega]at h2;exact((h1.trans h2).trans h3).weak (fun h=>h.elim)
def pD (C:Cx)(rep:Sc->List Nat->Nat->Nat->Int->Gs->Gs)(x:Sc)(ins:List Nat):Prop:=
 ∀(line g:Nat) (d:Int) (s:Gs),bS C g->C.I8+(argsN C.p g:Int)<=d->cL C ins g s.I7.length=true->T C d (d-argsN C.p g+1) True s (rep x ins line g d s)
theorem Bx {α:Type}[BEq α][LawfulBEq α]:∀{l:List α} {i k:Nat} {s:α},iF l i s=some k->l[k-i]?=some s
 | [],i,k,s,h=>by rw[iF]at h;cases h
 | a::l,i,k,s,h=>by
  rw[iF]at h;split at h
  ·rename_i he;injection h with h;subst h;simp[B7 he]
  ·have h2:=Bx h;have h3:=(nz h).1;rw[show k-i=(k-(i+1))+1 by omega,j8];exact h2
theorem It {g:Nat}(hg:bS C g):(ay C.p)[kI C.p g]?=some g:=by
 have h:=HS hg;unfold dG at h
 cases hi:iF ((ay C.p).map fun n:Nat=>(n:Int)) 0 (g:Int)with
 | none=>rw[hi]at h;simp only[cO]at h;omega
 | some k=>
  rw[hi]at h;simp only[cO]at h;have h2:=Bx hi;rw[y0,show k=kI C.p g by omega,p6]at h2
  cases hx:(ay C.p)[kI C.p g]? with
  | none=>rw[hx]at h2;cases h2
  | some v=>rw[hx]at h2;simp only[x7,Option.some.injEq]at h2;congr 1;omega
theorem Lq (Mz:pD C rep x ins){t:LY}(ht:fw t=true){d:Int}(hd:C.I8<=d)(hc:t.J1=7->∃f,findN C.p 0 t.J8=some f/\(argsN C.p f:Int)=t.Mb)(s:Gs):T C (d+ar t) (d+1) True s (ma C rep x ins line t (d+ar t) s):=by
 have hA:(t.J1=0\/t.J1=1->(ar t:Int)=0)/\(t.J1=7->(ar t:Int)=t.Mb)/\(t.J1≠0->t.J1≠1->t.J1≠7->(ar t:Int)=2/\2<=t.J1/\t.J1<=6):=by
  have Ur:=(xZ ht).1;unfold mG at Ur;rw[b8 (by simp[ht])]at Ur;unfold fw at ht;refine⟨fun h=>?_,fun h=>?_,fun k0 k1 k7=>?_⟩
  ·rw[b8 o_,c7 h]at Ur;omega
  ·rw[c7 h]at Ur;omega
  ·rw[b8 k7,b8 o_]at Ur;rw[b8 k0,b8 k7,b8 k1]at ht;simp only[b9,within_iff]at ht;exact⟨o_,o_⟩
 unfold ma;split
 ·rename_i h0;rw[hA.1 (.inl h0)];simpa using DY (C:=C) (d:=d) (arg:=t.Mb) (line:=(line:Int)) (J0:=x.J0) s hd
 rename_i h0;split
 ·rename_i h1;rw[hA.1 (.inr h1),Int.add_zero];unfold Ek;have MZ:cy C false=1/\C.J6=true\/cy C false=3:=by unfold cy;split<;>simp_all
  refine qY s (fun hm hp=>dw hp hd (fun h=>o_) (fun h=>by
   rcases MZ with MZ|MZ
   ·exact MZ.2
   ·omega) (fun h=>o_) (fun h=>o_) (fun h=>o_) (fun h=>o_) (fun h=>o_) (fun h=>o_) o_) ?_ aar aad
  unfold gz;dsimp only;rw[c7 o_]
 rename_i h1;split
 ·rename_i h7;obtain⟨f,hf,TK⟩:=hc h7;have hn:=hA.2.1 h7;obtain⟨_,ln,k1,k2,_⟩:=gY hf;have hg:bS C f:=⟨ln,k1,k2⟩;rw[hf];dsimp only;split
  ·rename_i hr;have:=Mz line f (d+ar t) s hg o_ hr;rw[show d+(ar t:Int)-argsN C.p f+1=d+1 by omega]at this;exact this
  ·have TZ:=It hg;refine qY s (fun hm hp=>dw hp o_ (fun h=>o_) (fun h=>o_) (fun h=>o_) (fun h=>o_) (fun _=>⟨o_,f,by rw[d7];exact TZ,o_⟩) (fun h=>o_) (fun h=>o_) (fun h=>o_) o_) ?_ aar aad;unfold gz;dsimp only;rw[b8 o_,b8 o_,c7 rfl,jE,d7,TZ];dsimp only;omega
 ·rename_i h7;obtain⟨a1,a2,a3⟩:=hA.2.2 h0 h1 h7;rw[a1];refine qY s (fun hm hp=>dw hp o_ (fun h=>o_) (fun h=>o_) (fun h=>o_) (fun h=>o_) (fun h=>o_) (fun h=>o_) (fun h=>o_) (fun h=>o_) o_) ?_ aar aad;unfold gz;dsimp only;rw[b8 o_,c7 o_];omega
mutual
theorem Gr (Mz:pD C rep x ins):∀(e:Ex) (d:Int) (s:Gs),e.ok->lx C e.toks->C.I8<=d->T C d (d+1) True s (eA C rep x ins line e d s)
 | .node t es,d,s,h,hc,hd=>by
  rw[eA];have h1:=Ey Mz es d s h.2.2 (fun u hu=>hc u (by rw[Ex.toks];simp[hu])) hd;have h2:=Lq (x:=x) (ins:=ins) (rep:=rep) (line:=line) Mz h.1 hd (hc t (by rw[Ex.toks];simp)) (cW C rep x ins line es d s);rw[<-h.2.1]at h2;exact(h1.trans h2).weak (fun _=> .inr trivial)
theorem Ey (Mz:pD C rep x ins):∀(es:List Ex) (d:Int) (s:Gs),iT es->lx C (au es)->C.I8<=d->T C d (d+es.length) False s (cW C rep x ins line es d s)
 | [],d,s,_,_,_=>by rw[cW];simpa using T.refl (C:=C) (d:=d) s
 | a::es,d,s,h,hc,hd=>by
  rw[cW];have h1:=Gr Mz a d s h.1 (fun u hu=>hc u aaS) hd;have h2:=Ey Mz es (d+1) (eA C rep x ins line a d s) h.2 (fun u hu=>hc u aaS) o_;rw[show d+((a::es).length:Int)=d+1+es.length by simp;omega];exact(h1.trans h2).weak (fun h=>h.elim)
end
theorem Ju {d:Int}(hd:C.I8<=d)(s:Gs):T C d d False s (dc C x line d s):=by
 unfold dc;split
 ·exact(qY s (fun hm hp=>dw hp hd (fun h=>o_) (fun h=>o_) (fun h=>o_) (fun h=>o_) (fun h=>o_) (fun h=>o_) (fun h=>o_) (fun h=>rfl) o_) (by unfold gz;dsimp only;rw[b8 o_,b8 o_,b8 o_,c7 o_];omega) aar aad).weak (fun h=>h.elim)
 ·exact T.refl s
theorem Lm (hC:CxOk C)(hx:ScOk C x ins){g:Nat}(hg:bS C g){d:Int}(hd:C.I8+(argsN C.p g:Int)<=d)(s:Gs):T C d (d-argsN C.p g) False s (fU C x line g d s)/\ck C x+(localsOf C.p (g:Int)).length<=(fU C x line g d s).J3:=by
 obtain⟨k1,k2⟩:=dx hC hg;have hy:=jT hC hx line hg;have hf:=hy.first;have XY:(cf C x line g).L2=false:=rfl;have VO:(cf C x line g).first=ck C x:=rfl;have h0:T C d d False s ⟨s.I7,max s.J3 (ck C x+(localsOf C.p (g:Int)).length),s.start⟩:=⟨g_,fun _ _ h=>h,fun _ ds pn h=>⟨[],fun h=>h.elim,fun _=>rfl,fun x hx=>absurd hx s_,by rw[m6];exact h⟩⟩;have h1:=AF (C:=C) XY hf.1 (J0:=x.J0) (line:=(line:Int)) (argsN C.p g) d ⟨s.I7,max s.J3 (ck C x+(localsOf C.p (g:Int)).length),s.start⟩ o_ (fun hm=>by dsimp only at hm;omega)
 have h2:=Es (C:=C) XY hf.1 (J0:=x.J0) (line:=(line:Int)) (d:=d-argsN C.p g) o_ ((localsOf C.p (g:Int)).length-argsN C.p g) (argsN C.p g) (cD C (cf C x line g) x.J0 line (argsN C.p g) d ⟨s.I7,max s.J3 (ck C x+(localsOf C.p (g:Int)).length),s.start⟩) (fun hm=>by
  have:=h1.mono;dsimp only at this
  omega)
 refine⟨?_,?_⟩
 ·unfold fU;exact((h0.trans h1).trans h2).weak (fun h=>h.elim)
 ·have a:=h1.mono;have b:=h2.mono;unfold fU;dsimp only at a;omega
theorem sy (v:Int):∀(js:List Int) (l:List LN) (i:Nat),bd (patchL l v js) i=bd l i
 | [],_,_=>rfl
 | j::js,l,i=>by rw[patchL,sy v js,dv]
structure LinT (C:Cx) (y:Sc) (base:Int) (s:Gs) (r:Gs×List Int):Prop where
 mono:s.J3<=r.1.J3
 ext:∀i c,bd s.I7 i=some c->bd r.1.I7 i=some c
 ty:r.1.J3<=C.I8->ck C y<=C.I8->∀ds pn,Ty C s.I7 ds pn base->∃es,es≠[]/\(∀v,es.head?=some v->v=base)/\(∀j∈r.2,Cd r.1.I7 (ds++es) j (base+1))/\(y.L2=true->r.2=[])/\∀D,(y.L2=false->D=base+1)->Ty C r.1.I7 (ds++es) (pn++r.2) D
theorem Kw (hC:CxOk C)(hx:ScOk C x ins){lines:Sc->List Nat->Int->Gs->Gs×List Int}{g:Nat}(hg:bS C g){d:Int}(hd:C.I8+(argsN C.p g:Int)<=d)(s:Gs)(hl:∀s',LinT C (cf C x line g) (d-argsN C.p g) s' (lines (cf C x line g) (ins++[g]) (d-argsN C.p g) s')):T C d (d-argsN C.p g+1) True s (lT C lines x ins line g d s):=by
 obtain⟨h1,Nv⟩:=Lm (line:=line) hC hx hg hd s;have h2:=Ju (C:=C) (x:=x) (line:=line) (d:=d-argsN C.p g) o_ (fU C x line g d s);have h3:=hl (dc C x line (d-argsN C.p g) (fU C x line g d s));have Rt:=h1.trans h2;unfold lT
 generalize lines (cf C x line g) (ins++[g]) (d-argsN C.p g) (dc C x line (d-argsN C.p g) (fU C x line g d s))=r at *
 refine⟨D4 Rt.mono h3.mono,fun i c h=>by dsimp only;rw[sy];exact h3.ext i c (Rt.ext i c h),fun hm ds pn ht=>?_⟩;obtain⟨es,e1,e2,e3,e4⟩:=Rt.ty (D4 h3.mono hm) ds pn ht
 obtain⟨fs,f1,f2,f3,_,f4⟩:=h3.ty hm (by
  have m2:=h2.mono;have m3:=h3.mono;have hr:r.1.J3<=C.I8:=hm;show ck C x+((localsOf C.p (g:Int)).length:Int)<=C.I8
  omega) _ pn e4
 refine⟨es++fs,fun _ h0=>by simp at h0;exact f1 h0.2,fun h0=>by simp at h0;exact absurd h0.2 f1,fun v hv=>?_,?_⟩
 ·cases es with|nil=>rw[t6]at hv;rw[f2 v hv,e2 rfl]|cons z zs=>exact e3 v hv
 ·rw[<-j9];exact(f4 _ (fun _=>rfl)).patchL pn r.2 f3 (fun i hi=>(d9.1 hi).symm)
end
end Go.Proofs.P
