import Derived.Test.YtoglejgmjeojoaaGreatGf
set_option maxRecDepth 100000
set_option maxHeartbeats 4000000
namespace Go.Proofs.P
open Go.Sim Tryz
theorem V16{p:Prop}(h:p:=by
 repeat' ((conv=>whnf);first|apply Wx|apply W6|refine cg gEm ?_|apply oi|apply fi|intro h|refine cl gEn ?_|refine⟨(ownOf C.p k),y.tr,rfl,ab hy,?_⟩|refine⟨ownOf C.p k,rfl,Pt,?_⟩|refine⟨_,PR,?_⟩|exact Y10|refine e_ rfl ?_)
 all_goals try exact Q4
 conv=>whnf
 refine⟨⟨ownOf C.p k+1,o_,o_⟩,?_,KD⟩;repeat' ((conv=>whnf);first|apply Wx|apply W6|apply oi|apply fi|intro h|exact Y8|refine e_ rfl ?_)
 all_goals(refine⟨?_⟩;dsimp only;rw[c7 o_,a1])):p:=h
theorem Q23{p:Prop}(h:p:=by exact⟨⟨by rw[U7];simp<;>omega,by rw[U7];simp<;>omega⟩⟩):p:=h
theorem FJ {C:Cx}(hC:CxOk C){lev:Nat}(hE:Lv C lev):zx C lev:=by
 intro x S s d hx Nj Om QF ST;refine aA hΓ aG func198 rfl d_ rfl rfl ?_;rw[jx]at hx;rw[jx];dsimp only at hx⊢;obtain⟨e,he,hfe,M6,T8,Oh⟩:=hx.endE hC;have QJ:=hC.len;have hin:=hC.inl;have N8:∀lv:List Int,(scH (S++[(x,lv)])).length=S.length+1:=fun lv=>s_;have MJ:∀lv:List Int,(scH (S++[(x,lv)]))[S.length]?=some (kQ x lv):=fun lv=>s_;have Mz:∀lv:List Int,S.length<(scH (S++[(x,lv)])).length:=fun lv=>by rw[N8];omega
 have hw:∀lv:List Int,IntKind.i64.wrap (((scH (S++[(x,lv)])).length:Int)-1)=(S.length:Int):=fun lv=>by rw[N8,c6 _ o_];omega
 have gE:=cT C.p (x.f:Int) o_;rw[show ct C.p (x.f:Int)=(e:Int) by rw[cw];exact bQ he]at gE;have Pb:(C.p.map LP.tr).length=C.p.length:=s_;have RW:(((C.p.map LP.tr).length:Nat):Int)=(C.p.length:Int):=by rw[Pb]
 have O6:C.p.length<=9223372036854775807:=o_;have ZF:C.p.length*8<=140737488355328:=o_;have h3:=Cr (n:=lev) o_
 have NH:x.J0.length<=100:=by have:=hx.J0;rw[c8,e7]at this;simp only[d5,i8]at this;omega
 have T7:0<=x.first/\x.first<=1000:=by have:=hx.first;rw[c8,e7]at this;simp only[d5,i8]at this;omega
 obtain⟨R,hR⟩:∃R,dI C (cK C lev) x (bS S++[x.f]) d (e+1-(x.f+1)) (x.f+1) (cv C s)=R:=⟨_,rfl⟩
 have Ng:bq C (cK C lev) x (bS S++[x.f]) d s=(R.g,R.lv):=by unfold bq;rw[T8,show e-x.f=e+1-(x.f+1) by omega,hR]
 rw[Ng];rw[T8]at Nj;have Zv:LInv C lev x (bS S++[x.f]) d e R (x.f+1) (cv C s):=⟨d8 _,o_,by simp[cv],by simp[cv],fun i h1 h2=>o_,⟨by simp[cv],fun j hj=>by simp[cv]at hj⟩,by rw[show e+1-(x.f+1)=e-x.f by omega];exact Nj,hR⟩;repeat' ((conv=>whnf);first|apply Wx|apply W6|apply oi|apply fi|intro h|refine⟨S.length,hw [],Mz [],?_⟩|refine⟨_,MJ [],?_⟩|refine cl gE ?_|refine⟨C.p.length,RW,RW,O6,ZF,?_⟩|exact Y7|refine e_ rfl ?_)
 conv=>whnf
 refine⟨{q:Nat×Ls×List LO//LInv C lev x (bS S++[x.f]) d e R q.1 q.2.1/\q.2.2.length=q.2.1.g.I7.length/\(q.1<=e->dc q.2.2 q.2.2.length (q.1:Int) (bm C.p q.2.1.pos (x.f+1) (q.1-(x.f+1)))=q.2.1.g.I7)/\(q.1=e+1->q.2.2=q.2.1.g.I7)},
  fun q=>⟨[(0,gU),(2,tI .i64 (x.f:Int)),(3,xZ x.J0),(4,tI .i64 (e:Int)),(5,.r (.c (.own (5,0,0)))),(6,.r (.c (.own (6,0,0)))),(7,tI .i64 (q.1.1:Int))],
   [((0,0,0),some (pk C ⟨q.1.2.2,q.1.2.1.g.J3,q.1.2.1.g.start⟩ d (5,0,1) (5,0,2))),((5,0,1),some (.dar 7 (itR q.1.2.2) none)),((5,0,2),some (.dar 6 (scH (S++[(x,q.1.2.1.lv)])) none)),((5,0,0),some (.arr false 1 (q.1.2.1.J4.map aa))),((6,0,0),some (.arr false 2 ((bm C.p q.1.2.1.pos (x.f+1) (q.1.1-(x.f+1))).map md)))],[6,5,0]⟩,
  fun q=>e+1-q.1.1,⟨(x.f+1,cv C s,s.I7),Zv,rfl,fun _=>by rw[w9];rfl,fun _=>rfl⟩,?_,?_⟩
 ·repeat' ((conv=>whnf);first|apply Wx|apply W6|apply oi|apply fi|intro h|exact Y8|refine e_ rfl ?_)
  ·exact⟨by simp[cv,aa]⟩
  ·exact⟨by dsimp only;rw[w9];rfl⟩
 intro⟨⟨k,L,u⟩,hI,Ug,Tw,RB⟩;dsimp only at hI Ug Tw RB⊢;by_cases NF:k<=e
 ·obtain⟨ln,hl⟩:=ae (l:=C.p) (k:=k) o_;have h0:=jS hC hx he hI.lo NF hl;obtain⟨N1,QK,_,N3,O4⟩:=hC.line _ _ hl;obtain⟨PD,N5⟩:=wj hC hl;have RQ:=hI.lo;have YR:=hI.room;have YP:=hI.J4;have X8:=hI.pos;have WZ:=hI.lv.1
  have VC:L.g.I7.length+20*dh lev+3<=68719476736:=by obtain⟨n,hn⟩:∃n,e+1-k=n+1:=⟨e-k,o_⟩;rw[hn,p8]at YR;omega
  have UT:=pu C.p L.pos (x.f+1) (k-(x.f+1))
  have T6:∀z∈bm C.p L.pos (x.f+1) (k-(x.f+1)),0<=z.2/\z.2<(L.g.I7.length:Int):=fun z hz=>by
   obtain⟨i,i1,i2,i3,rfl⟩:=lB hz;exact hI.at_ i o_ o_ i3
  have gP:=pE C ⟨u,L.g.J3,L.g.start⟩ d (scH (S++[(x,L.lv)])) (bm C.p L.pos (x.f+1) (k-(x.f+1))) k (by unfold dL;dsimp only;omega) o_ (by dsimp only;rw[Ug];exact T6);rw[Tw NF]at gP;obtain⟨A,hA⟩:∃A,bH C (cK C lev) x (bS S++[x.f]) d k ln L=A:=⟨_,rfl⟩;have hN:=LInv.next hC hx he hI NF hl;rw[hA]at hN;obtain⟨Qb,Sf⟩:=CU hC hx he RQ NF hl A;obtain⟨b1,b2,b3,b4,b5,b6⟩:=vb (C:=C) (x:=x) k ln A;have hQ:LInv C lev x (bS S++[x.f]) d e R (k+1) (bB C x k ln A)/\A.g.I7.length=(bB C x k ln A).g.I7.length/\(k+1<=e->dc A.g.I7 A.g.I7.length ((k+1:Nat):Int) (bm C.p (bB C x k ln A).pos (x.f+1) (k+1-(x.f+1)))=(bB C x k ln A).g.I7)/\(k+1=e+1->A.g.I7=(bB C x k ln A).g.I7):=⟨hN,b4.symm,fun h=>by rw[b2];exact Qb h,fun h=>Sf o_⟩;have U5:k<(L.J4.map aa).length:=by rw[e7,YP];omega
  have Pw:dL L.g:=by unfold dL;omega
  have Pv:=ke L.g.I7
  have WU:ln.J1≠7->k<e:=fun h=>by
   rcases Nat.lt_or_eq_of_le NF with h'|h'
   ·exact h'
   ·subst h';obtain⟨z,hz,Xv⟩:=bK he;rw[hl]at hz;injection hz with hz;subst hz;exact absurd Xv h
  have NE:ln.J1≠7->yE C ln.K9:=fun h=>by
   obtain⟨l0,q1,q2⟩:=hx.fn;obtain⟨e',q3,_,_,q4⟩:=hC.fn _ _ q1 q2;rw[he]at q3;injection q3 with q3;subst q3;exact(q4 k ln o_ (WU h) hl).2.1
  obtain⟨g1,Uc⟩:∃g1,ew C (cK C lev) x (bS S++[x.f]) k (exL ln.K9) d ⟨L.g.I7,L.g.J3,true⟩=g1:=⟨_,rfl⟩
  have hX:br ln.K9=true->ln.J1≠7->bA prog 244 [gU,tI .i64 (k:Int),tI .i64 (0:Int)] (ic (0,0,1) (0,0,2) C ⟨L.g.I7,L.g.J3,true⟩ d (scH (S++[(x,L.lv)]))) (tI .i64 ((0+(exL ln.K9).toks.length:Nat):Int)) (ic (1,0,1) (1,0,2) C g1 (d+1) (scH (S++[(x,L.lv)]))):=fun OA Zh=>by
   obtain⟨eo,et⟩:=rk OA;have Ww:(exL ln.K9).toks.length<=20:=(by rw[<-et];exact N3);have hmu:=l9 (dh lev) Ww;have:=hE (exL ln.K9) x S L.lv k 0 ln ⟨L.g.I7,L.g.J3,true⟩ d eo (by rw[jx];exact hx) hl ⟨[],by rw[B8,m6];exact et⟩ (NE Zh) ⟨g_,Om,QF,o_⟩;rw[jx]at this;dsimp only at this;rw[Uc]at this;exact this
  have hG:br ln.K9=true->g1.I7.length<=L.g.I7.length+20*dh lev:=fun OA=>by
   have:=(oD (x:=x) (ins:=bS S++[x.f]) (rep:=cK C lev) (line:=k) (lev:=lev) (fun g d s hg hr=>ia hC lev k g d s hx hg hr) hC hl OA d ⟨L.g.I7,L.g.J3,true⟩).le;rw[Uc]at this;exact this
  have US:(L.J4.map aa)[k]?=some (aa (atL L.J4 k)):=by rw[p6];have:k<L.J4.length:=o_;rw[i7 this,atL,i7 this];rfl
  have UM:∀v:Int,(L.J4.map aa).set k [.int .i64 v]=(L.J4.set k v).map aa:=fun v=>by simp[F6,aa]
  unfold bH at hA;rw[Uc]at hA;dsimp only at hA;have P3:ln.J1=4\/ln.J1=7\/ln.J1=1\/ln.J1=2\/ln.J1=6\/(ln.J1=3\/ln.J1=5):=o_;rcases P3 with h4|h7|h1|h2|h6|UB
  ·
   rw[c7 h4]at hA;have a1:A.g.I7=bU (aC C L.g d 10 0 k x.J0).I7 (atL L.pos (ownOf C.p k)) (aC C L.g d 10 0 k x.J0).I7.length:=(by rw[<-hA]);have a2:A.g.J3=L.g.J3:=(by rw[<-hA];rfl);have a3:A.g.start=false:=(by rw[<-hA];rfl);have a4:A.J4=L.J4:=(by rw[<-hA]);have a5:A.pos=L.pos.set k L.g.I7.length:=(by rw[<-hA]);have a6:A.lv=L.lv:=(by rw[<-hA]);obtain⟨o1,o2,o3,o4⟩:=hx.own4 hC he o_ NF hl h4;obtain⟨y,m,hy,y3,hm,_⟩:=bu o1;have QQ:=bc hl;have Tn:fm C.p k=ct C.p (ownOf C.p k:Int)+1:=(by unfold fm;rw[c7 o_]);have MT:=jt C.p (ownOf C.p k);have SK:bm C.p L.pos (x.f+1) (k-(x.f+1))++[(fm C.p k,(L.g.I7.length:Int))]=bm C.p (L.pos.set k L.g.I7.length) (x.f+1) (k+1-(x.f+1)):=uN RQ (by unfold jumps;omega) (by rw[X8];omega) _;have gEm:=bN C L.g d (scH (S++[(x,L.lv)])) 10 0 k x.J0 Pw NH
   have gP2:=pE C (aC C L.g d 10 0 k x.J0) d (scH (S++[(x,L.lv)])) (bm C.p (L.pos.set k L.g.I7.length) (x.f+1) (k+1-(x.f+1))) (-(k:Int)) aat (by have:=pu C.p (L.pos.set k L.g.I7.length) (x.f+1) (k+1-(x.f+1));omega) (fun z hz=>by
    rw[<-SK,d9]at hz;simp only[aC,c8,d5,i8];rcases hz with hz|hz
    ·have:=T6 z hz;omega
    ·simp only[d6,l4,or_false]at hz;subst hz;dsimp only
     omega)
   rw[CQ hC hx he RQ NF hl h4,gr o_]at gP2;have RL:IntKind.i64.wrap (0-(k:Int))= -(k:Int):=(by rw[c6 _ o_];omega);rw[<-RL]at gP2;repeat' ((conv=>whnf);first|apply Wx|apply W6|refine cg gP ?_|apply oi|apply fi|intro h|refine⟨k,ln.tr,rfl,ab hl,?_⟩|exact Y10|refine e_ rfl ?_)
   conv=>whnf
   refine⟨{i:Nat//x.f<=i/\i<=k},fun q=>⟨[(0,gU),(2,tI .i64 (x.f:Int)),(3,xZ x.J0),(4,tI .i64 (e:Int)),(5,.r (.c (.own (5,0,0)))),(6,.r (.c (.own (6,0,0)))),(7,tI .i64 (k:Int)),(9,tI .i64 (q.1:Int))],
    [((0,0,0),some (pk C L.g d (5,0,1) (5,0,2))),((5,0,1),some (.dar 7 (itR L.g.I7) none)),((5,0,2),some (.dar 6 (scH (S++[(x,L.lv)])) none)),((5,0,0),some (.arr false 1 (L.J4.map aa))),((6,0,0),some (.arr false 2 ((bm C.p L.pos (x.f+1) (k-(x.f+1))++(if ownOf C.p k<q.1 then [(fm C.p k,(L.g.I7.length:Int))]else [])).map md)))],[6,5,0]⟩,
    fun q=>k-q.1,⟨x.f,o_,o_⟩,?_,?_⟩
   ·repeat' ((conv=>whnf);first|apply Wx|apply W6|apply oi|apply fi|intro h|exact Y7|refine e_ rfl ?_)
    all_goals exact⟨by rw[b8 g_];simp⟩
   intro⟨i,PE,Tl⟩;dsimp only at PE Tl⊢;by_cases Oz:i<k
   ·have gEl:=ko C.p (i:Int) o_;by_cases QB:i=ownOf C.p k
    ·subst QB;rw[show cB C.p (ownOf C.p k:Int)=(k:Int) by rw[dt];exact bQ o1]at gEl;have gEn:=cT C.p (ownOf C.p k:Int) o_;rw[b8 o_,m6];have U7:((bm C.p L.pos (x.f+1) (k-(x.f+1))).map md).length=(bm C.p L.pos (x.f+1) (k-(x.f+1))).length:=s_;have Pv:=ke L.g.I7;repeat' ((conv=>whnf);first|apply Wx|apply W6|apply oi|apply fi|intro h|refine cl gEl ?_|refine cl gEn ?_|exact Y5|refine e_ rfl ?_)
     all_goals try exact Q4
     all_goals try exact Q23
     conv=>whnf
     refine⟨⟨ownOf C.p k+1,o_,o_⟩,?_,KD⟩;repeat' ((conv=>whnf);first|apply Wx|apply W6|apply oi|apply fi|intro h|exact Y8|refine e_ rfl ?_)
     all_goals(refine⟨?_⟩;dsimp only;rw[c7 o_,Tn,Pv,c6 _ o_];simp)
    ·have MF:cB C.p (i:Int)≠(k:Int):=fun hh=>by
      rw[dt]at hh
      cases hz:elseAt C.p i with
      | none=>rw[hz]at hh;simp only[cM]at hh;omega
      | some j=>rw[hz]at hh;simp only[cM]at hh;have:j=k:=o_;subst this;exact QB (pr hz o1)
     generalize cB C.p (i:Int)=el at *
     repeat' ((conv=>whnf);first|apply Wx|apply W6|apply oi|apply fi|intro h|refine cl gEl ?_|exact Y5|refine e_ rfl ?_)
     ·exact absurd (B7 h) MF
     ·conv=>whnf
      refine⟨⟨i+1,o_,o_⟩,?_,KD⟩;repeat' ((conv=>whnf);first|apply Wx|apply W6|apply oi|apply fi|intro h|exact Y8|refine e_ rfl ?_)
      all_goals(refine⟨?_⟩;dsimp only;congr 2)
      all_goals(by_cases hh:ownOf C.p k<i)
      all_goals first|rw[c7 hh,c7 o_]|rw[b8 hh,b8 o_]
   ·have Oc:i=k:=o_;subst Oc;rw[c7 o3,SK];repeat' ((conv=>whnf);first|apply Wx|apply W6|refine cg gEm ?_|refine cg gP2 ?_|apply oi|apply fi|intro h|exact Y5|refine e_ rfl ?_)
    conv=>whnf
    refine⟨⟨(i+1,bB C x i ln A,A.g.I7),hQ⟩,?_,KD⟩;repeat' ((conv=>whnf);first|apply Wx|apply W6|apply oi|apply fi|intro h|exact Y8|refine e_ rfl ?_)
    all_goals(refine⟨?_⟩;dsimp only;simp only[b1,b2,b3,b5,b6,a1,a2,a3,a4,a5,a6];try rfl)
  ·
   rw[b8 o_,c7 h7]at hA;obtain⟨o1,o2⟩:=hx.own7 hC he o_ NF hl h7;have NL:bm C.p L.pos (x.f+1) (k+1-(x.f+1))=bm C.p L.pos (x.f+1) (k-(x.f+1)):=ly RQ (by unfold jumps;rw[bc hl,h7];decide);rcases o2 with⟨o2,o3⟩|⟨o2,o3,o4,y,hy,o5⟩
   ·subst o2;rw[c7 o3]at hA;have gN:=kx C L.g d (scH (S++[(x,L.lv)])) 0 k x.J0 Pw NH o_;have gL:=ql C hC (aC C L.g d 0 0 k x.J0) (d+1) S x L.lv k true aat NH o_ o_ o_ L.J4 L.pos;rw[show be C x k true (d+1) ⟨aC C L.g d 0 0 k x.J0,L.J4,L.pos,L.lv⟩=A from hA,H6]at gL;have a4:A.J4=L.J4:=(by rw[<-hA];unfold be;(repeat' split)<;>rfl);have a5:A.pos=L.pos:=(by rw[<-hA];unfold be;(repeat' split)<;>rfl);repeat' ((conv=>whnf);first|apply Wx|apply W6|refine cg gP ?_|refine cg gN ?_|refine cg gL ?_|apply oi|apply fi|intro h|refine⟨k,ln.tr,rfl,ab hl,?_⟩|exact Y10|refine e_ rfl ?_)
    all_goals try exact Q4
    conv=>whnf
    refine⟨⟨(k+1,bB C x k ln A,A.g.I7),hQ⟩,?_,KD⟩;repeat' ((conv=>whnf);first|apply Wx|apply W6|apply oi|apply fi|intro h|exact Y8|refine e_ rfl ?_)
    all_goals(refine⟨?_⟩;dsimp only;simp only[b1,b2,b3,b5,b6,a4,a5,NL];try rfl)
   ·rw[b8 o_]at hA;have Sw:=bc hy;have gEm:=bN C L.g d (scH (S++[(x,L.lv)])) 10 (atL L.J4 (ownOf C.p k)) k x.J0 Pw NH;have a4:A.J4=L.J4:=(by rw[<-hA];split<;>rfl);have a5:A.pos=L.pos:=(by rw[<-hA];split<;>rfl);have a6:A.lv=L.lv:=(by rw[<-hA];split<;>rfl);have a1:A.g=if kindAt C.p (ownOf C.p k)=5 then aC C L.g d 10 (atL L.J4 (ownOf C.p k)) k x.J0 else L.g:=by rw[<-hA];split<;>rfl
    have PJ:ct C.p (ownOf C.p k:Int)=(k:Int):=by rw[cw];exact bQ o1
    have PR:(L.J4.map aa)[ownOf C.p k]?=some (aa (atL L.J4 (ownOf C.p k))):=by rw[p6];have:ownOf C.p k<L.J4.length:=o_;rw[i7 this,atL,i7 this];rfl
    have Pt:ownOf C.p k<(L.J4.map aa).length:=(by rw[e7];omega);repeat' ((conv=>whnf);first|apply Wx|apply W6|refine cg gP ?_|apply oi|apply fi|intro h|refine⟨k,ln.tr,rfl,ab hl,?_⟩|exact Y10|refine e_ rfl ?_)
    conv=>whnf
    refine⟨{i:Nat//x.f+1<=i/\i<=k},fun q=>⟨[(0,gU),(2,tI .i64 (x.f:Int)),(3,xZ x.J0),(4,tI .i64 (e:Int)),(5,.r (.c (.own (5,0,0)))),(6,.r (.c (.own (6,0,0)))),(7,tI .i64 (k:Int)),(11,tI .i64 (q.1:Int))],
     [((0,0,0),some (pk C (if ownOf C.p k<q.1 then A.g else L.g) d (5,0,1) (5,0,2))),((5,0,1),some (.dar 7 (itR (if ownOf C.p k<q.1 then A.g else L.g).I7) none)),((5,0,2),some (.dar 6 (scH (S++[(x,L.lv)])) none)),((5,0,0),some (.arr false 1 (L.J4.map aa))),((6,0,0),some (.arr false 2 ((bm C.p L.pos (x.f+1) (k-(x.f+1))).map md)))],[6,5,0]⟩,
     fun q=>k-q.1,⟨x.f+1,o_,o_⟩,?_,?_⟩
    ·repeat' ((conv=>whnf);first|apply Wx|apply W6|apply oi|apply fi|intro h|exact Y7|refine e_ rfl ?_)
     all_goals try(refine⟨?_⟩;dsimp only;rw[b8 o_];done)
     all_goals try exact Q17
    intro⟨i,PE,Tl⟩;dsimp only at PE Tl⊢;by_cases Oz:i<k
    ·have gEn:=cT C.p (i:Int) o_;obtain⟨z,hz⟩:=ae (l:=C.p) (k:=i) o_;by_cases QB:i=ownOf C.p k
     ·subst QB;rw[PJ]at gEn;rw[hy]at hz;injection hz with hz;subst hz;rw[b8 o_];by_cases h5:y.J1=5
      ·rw[c7 o_]at a1;exact V16
      ·rw[b8 o_]at a1;exact V16
     ·have MF:ct C.p (i:Int)≠(k:Int):=fun hh=>by
       have h':=oZ hh o_;rw[d7]at h';exact QB (xG h' o1)
      generalize ct C.p (i:Int)=en at *
      repeat' ((conv=>whnf);first|apply Wx|apply W6|apply oi|apply fi|intro h|refine cl gEn ?_|refine⟨i,z.tr,rfl,ab hz,?_⟩|exact Y5|refine e_ rfl ?_)
      all_goals try(exfalso;exact MF (B7 aaj))
      conv=>whnf
      refine⟨⟨i+1,o_,o_⟩,?_,KD⟩
      have QN:(if ownOf C.p k<i+1 then A.g else L.g)=if ownOf C.p k<i then A.g else L.g:=by
       by_cases hh:ownOf C.p k<i
       ·rw[c7 hh,c7 o_]
       ·rw[b8 hh,b8 o_]
      dsimp only;rw[QN];exact Z6
    ·have Oc:i=k:=o_;subst Oc;rw[c7 o4];repeat' ((conv=>whnf);first|apply Wx|apply W6|apply oi|apply fi|intro h|exact Y5|refine e_ rfl ?_)
     conv=>whnf
     refine⟨⟨(i+1,bB C x i ln A,A.g.I7),hQ⟩,?_,KD⟩;repeat' ((conv=>whnf);first|apply Wx|apply W6|apply oi|apply fi|intro h|exact Y8|refine e_ rfl ?_)
     all_goals(refine⟨?_⟩;dsimp only;simp only[b1,b2,b3,b5,b6,a4,a5,a6,NL];try rfl)
  ·
   rw[b8 o_,b8 o_,c7 h1]at hA;have OA:=O4 (.inl h1);have gX:=hX OA o_;have We:=hG OA;have OU:=pA x.J9 ln.J8;have gI:=fI x.J9 ln.J8 o_;have gS:=lc C hC g1 (d+1) (scH (S++[(x,L.lv)])) x (dG x.J9 ln.J8) k x.J0 aar NH o_ T7 o_;rw[H6]at gS;have a1:A.g=fP C x g1 (d+1) (dG x.J9 ln.J8) k x.J0:=(by rw[<-hA]);have a4:A.J4=L.J4.set k L.g.I7.length:=(by rw[<-hA]);have a5:A.pos=L.pos:=(by rw[<-hA]);have a6:A.lv=L.lv:=(by rw[<-hA]);have NL:bm C.p L.pos (x.f+1) (k+1-(x.f+1))=bm C.p L.pos (x.f+1) (k-(x.f+1)):=ly RQ (by unfold jumps;rw[bc hl,h1];decide)
   generalize dG x.J9 ln.J8=ix at *
   repeat' ((conv=>whnf);first|apply Wx|apply W6|refine cg gP ?_|refine cg gX ?_|refine cg gS ?_|apply oi|apply fi|intro h|refine⟨k,ln.tr,rfl,ab hl,?_⟩|refine⟨k,rfl,U5,?_⟩|refine⟨_,US,?_⟩|refine⟨S.length,hw L.lv,Mz L.lv,?_⟩|refine⟨_,MJ L.lv,?_⟩|refine cl gI ?_|exact Y10|refine e_ rfl ?_)
   conv=>whnf
   refine⟨⟨(k+1,bB C x k ln A,A.g.I7),hQ⟩,?_,KD⟩;repeat' ((conv=>whnf);first|apply Wx|apply W6|apply oi|apply fi|intro h|exact Y8|refine e_ rfl ?_)
   all_goals(refine⟨?_⟩;dsimp only;simp only[b1,b2,b3,b5,b6,a1,a4,a5,a6,NL,Pv,<-UM];try rfl)
  ·
   rw[b8 o_,b8 o_,b8 o_,c7 h2]at hA;have OA:=O4 (.inr (.inl h2));have gX:=hX OA o_;have We:=hG OA;have gS:=bN C g1 (d+1) (scH (S++[(x,L.lv)])) 17 0 k x.J0 aar NH;have a1:A.g=aC C g1 (d+1) 17 0 k x.J0:=(by rw[<-hA]);have a4:A.J4=L.J4.set k L.g.I7.length:=(by rw[<-hA]);have a5:A.pos=L.pos:=(by rw[<-hA]);have a6:A.lv=L.lv:=(by rw[<-hA]);have NL:bm C.p L.pos (x.f+1) (k+1-(x.f+1))=bm C.p L.pos (x.f+1) (k-(x.f+1)):=ly RQ (by unfold jumps;rw[bc hl,h2];decide);repeat' ((conv=>whnf);first|apply Wx|apply W6|refine cg gP ?_|refine cg gX ?_|refine cg gS ?_|apply oi|apply fi|intro h|refine⟨k,ln.tr,rfl,ab hl,?_⟩|refine⟨k,rfl,U5,?_⟩|refine⟨_,US,?_⟩|exact Y10|refine e_ rfl ?_)
   conv=>whnf
   refine⟨⟨(k+1,bB C x k ln A,A.g.I7),hQ⟩,?_,KD⟩;repeat' ((conv=>whnf);first|apply Wx|apply W6|apply oi|apply fi|intro h|exact Y8|refine e_ rfl ?_)
   all_goals(refine⟨?_⟩;dsimp only;simp only[b1,b2,b3,b5,b6,a1,a4,a5,a6,NL,Pv,<-UM];try rfl)
  ·
   rw[b8 o_,b8 o_,b8 o_,b8 o_,c7 h6]at hA;have OA:=O4 (.inr (.inr (.inr (.inr h6))));have gX:=hX OA o_;have We:=hG OA;have gS:=ql C hC g1 (d+1) S x L.lv k false aar NH o_ o_ o_ (L.J4.set k L.g.I7.length) L.pos;rw[hA,H6]at gS;have a4:A.J4=L.J4.set k L.g.I7.length:=(by rw[<-hA];unfold be;(repeat' split)<;>rfl);have a5:A.pos=L.pos:=(by rw[<-hA];unfold be;(repeat' split)<;>rfl);have NL:bm C.p L.pos (x.f+1) (k+1-(x.f+1))=bm C.p L.pos (x.f+1) (k-(x.f+1)):=ly RQ (by unfold jumps;rw[bc hl,h6];decide);repeat' ((conv=>whnf);first|apply Wx|apply W6|refine cg gP ?_|refine cg gX ?_|refine cg gS ?_|apply oi|apply fi|intro h|refine⟨k,ln.tr,rfl,ab hl,?_⟩|refine⟨k,rfl,U5,?_⟩|refine⟨_,US,?_⟩|exact Y10|refine e_ rfl ?_)
   conv=>whnf
   refine⟨⟨(k+1,bB C x k ln A,A.g.I7),hQ⟩,?_,KD⟩;repeat' ((conv=>whnf);first|apply Wx|apply W6|apply oi|apply fi|intro h|exact Y8|refine e_ rfl ?_)
   all_goals(refine⟨?_⟩;dsimp only;simp only[b1,b2,b3,b5,b6,a4,a5,NL,Pv,<-UM];try rfl)
  ·
   rw[b8 o_,b8 o_,b8 o_,b8 o_,b8 o_]at hA;have OA:=O4 o_;have gX:=hX OA o_;have We:=hG OA;have gS:=bN C g1 (d+1) (scH (S++[(x,L.lv)])) 11 0 k x.J0 aar NH;have a1:A.g=aC C g1 (d+1) 11 0 k x.J0:=(by rw[<-hA]);have a4:A.J4=L.J4.set k L.g.I7.length:=(by rw[<-hA]);have a5:A.pos=L.pos.set k g1.I7.length:=(by rw[<-hA]);have a6:A.lv=L.lv:=(by rw[<-hA]);have QQ:=bc hl;have NL:=uN (pos:=L.pos) (p:=C.p) (f:=x.f) (k:=k) RQ (by unfold jumps;omega) (by rw[X8];omega) (g1.I7.length:Int);have gEn:=cT C.p (k:Int) o_;have gEl:=ko C.p (k:Int) o_;have MT:=jt C.p k
   have U4:-1<=cB C.p (k:Int)/\cB C.p (k:Int)<=C.p.length:=by
    rw[dt]
    cases hz:elseAt C.p k with
    | none=>simp only[cM];omega
    | some j=>obtain⟨_,_,_,_,_,_,_,w,hw,_⟩:=bu hz;have:=aH hw;simp only[cM];omega
   have Tn:fm C.p k=if ln.J1=3/\0<=cB C.p (k:Int)then-cB C.p (k:Int)else ct C.p (k:Int)+1:=by unfold fm;rw[b8 o_,QQ]
   have U7:((bm C.p L.pos (x.f+1) (k-(x.f+1))).map md).length=(bm C.p L.pos (x.f+1) (k-(x.f+1))).length:=s_;have VF:=ke g1.I7
   generalize fm C.p k=to at *
   generalize ct C.p (k:Int)=en at *
   generalize cB C.p (k:Int)=el at *
   have Nl:IntKind.i64.wrap (en+1)=en+1:=(by rw[c6 _ o_]);have NT:IntKind.i64.wrap (0-el)= - el:=(by rw[c6 _ o_];omega);repeat' ((conv=>whnf);first|apply Wx|apply W6|refine cg gP ?_|refine cg gX ?_|refine cg gS ?_|apply oi|apply fi|intro h|refine⟨k,ln.tr,rfl,ab hl,?_⟩|refine⟨k,rfl,U5,?_⟩|refine⟨_,US,?_⟩|refine cl gEn ?_|refine cl gEl ?_|exact Y10|refine e_ rfl ?_)
   all_goals try exact Q23
   all_goals(conv=>whnf)
   all_goals(refine⟨⟨(k+1,bB C x k ln A,A.g.I7),hQ⟩,?_,KD⟩)
   repeat' ((conv=>whnf);first|apply Wx|apply W6|apply oi|apply fi|intro h|exact Y8|refine e_ rfl ?_)
   all_goals(refine⟨?_⟩;dsimp only;simp only[b1,b2,b3,b5,b6,a1,a4,a5,a6,<-NL,Pv,VF,<-UM,Nl,NT];try rfl)
   all_goals first
    |(rw[Tn,c7 ⟨B7 aaj,f0 aaj⟩];simp)
    |(rw[Tn,b8 (fun hh=>absurd hh.2 (f9 aaj))];simp)
    |(rw[Tn,b8 (fun hh=>by
                     have h9:(ln.J1==3)=false:=by assumption
                     rw[hh.1]at h9;cases h9)];simp)
 ·have hk1:k=e+1:=by have:=hI.hi;omega
  subst hk1;have hf:=hI.fin;rw[w9,dI]at hf;subst hf;rw[RB rfl];exact Z7
structure LH where
 b:List UInt8
 i:Nat
 h:Int
def LH.ok (c:LH):Prop:=c.i<=c.b.length/\c.b.length<=1048576
abbrev fk (c:LH):List (Sim.Id×AO):=[((0,0,0),.box [.t (.lst 1 (c.b.map aY)),.t (.int .i64 c.i),.t (.int .i64 c.h)])]
abbrev gz:AV:= .r (.c (.ptr (0,0,0) 0))
theorem Lw (z:Int):∃x:Nat,x<256/\IntKind.i64.wrap ((BitVec.ofInt IntKind.i64.bits z &&& BitVec.ofInt IntKind.i64.bits 255).toNat:Int)=(x:Int):=by
 have e:(BitVec.ofInt 64 255).toNat=2^8-1:=d_
 have h:(BitVec.ofInt IntKind.i64.bits z &&& BitVec.ofInt IntKind.i64.bits 255).toNat<256:=by show(BitVec.ofInt 64 z &&& BitVec.ofInt 64 255).toNat<256;rw[I3,e,D0];omega
 generalize(BitVec.ofInt IntKind.i64.bits z &&& BitVec.ofInt IntKind.i64.bits 255).toNat=n at *
 exact⟨n,h,c6 _ o_⟩
def iF (h:Int):Int:=IntKind.i64.wrap (IntKind.i64.wrap (h*6364136223846793005)+1442695040888963407)
theorem V48{p:Prop}(h:p:=by
 refine aA hΓ aG func194 rfl d_ rfl rfl ?_;repeat' ((conv=>whnf);first|apply Wx|apply W6|apply oi|apply fi|intro h|exact Y5|refine e_ rfl ?_)
 all_goals try exact⟨congrArg (Tr.int _) RN⟩
 all_goals exact⟨rfl⟩):p:=h
theorem gi (c:LH)(hc:c.ok):∃(x:Nat) (c':LH),x<256/\c'.b=c.b/\c'.ok/\bA prog 194 [gz] (fk c) (tI .i64 x) (fk c'):=by
 obtain⟨hi,hl⟩:=hc;have PM:(c.b.map aY).length=c.b.length:=s_;obtain⟨x0,QL,RN⟩:=Lw (IntKind.i64.wrap ((BitVec.ofInt IntKind.i64.bits ((iF c.h).fdiv (2^min (Int.toNat 33) IntKind.i64.bits)) ^^^ BitVec.ofInt IntKind.i64.bits ((iF c.h).fdiv (2^min (Int.toNat 45) IntKind.i64.bits))).toNat:Int));unfold iF at RN;by_cases Mz:c.i<c.b.length
 ·obtain⟨u,hu⟩:=ae Mz;obtain⟨x,hx,he⟩:=Lw (IntKind.i64.wrap ((x0:Int)+IntKind.i64.wrap (u.toNat:Int)));rw[<-RN]at he;refine⟨x,⟨c.b,c.i+1,iF c.h⟩,hx,rfl,⟨g_,hl⟩,?_⟩;refine aA hΓ aG func194 rfl d_ rfl rfl ?_;repeat' ((conv=>whnf);first|apply Wx|apply W6|apply oi|apply fi|intro h|refine⟨c.i,(aY u),rfl,ab hu,?_⟩|exact Y5|refine e_ rfl ?_)
  all_goals try exact⟨congrArg (Tr.int _) he⟩
  all_goals try exact⟨K5⟩
  all_goals exact⟨rfl⟩
 ·refine⟨x0,⟨c.b,c.i,iF c.h⟩,QL,rfl,⟨hi,hl⟩,?_⟩;exact V48
theorem oO {x:Nat}{n:Int}(h:0<n):∃y:Nat,(y:Int)<n/\(x:Int).tmod n=(y:Int):=by have h1:=Int.tmod_nonneg n (Int.natCast_nonneg x);have h2:=Int.tmod_lt_of_pos (x:Int) h;obtain⟨y,hy⟩:=j6 h1;exact⟨y,o_,hy⟩
theorem V7{p:Prop}(h:p:=by
 refine aA hΓ aG func130 rfl d_ rfl rfl ?_;repeat' ((conv=>whnf);first|apply Wx|apply W6|apply oi|apply fi|intro h|exact Y5|refine e_ rfl ?_)
 refine cg (g1) ?_;repeat' ((conv=>whnf);first|apply Wx|apply W6|apply oi|apply fi|intro h|exact Y7|refine e_ rfl ?_)
 refine cg (g2) ?_;repeat' ((conv=>whnf);first|apply Wx|apply W6|apply oi|apply fi|intro h|exact Y7|refine e_ rfl ?_)
 refine cg (g3) ?_;repeat' ((conv=>whnf);first|apply Wx|apply W6|apply oi|apply fi|intro h|exact Y7|refine e_ rfl ?_)
 refine cg (g4) ?_;repeat' ((conv=>whnf);first|apply Wx|apply W6|apply oi|apply fi|intro h|exact Y7|refine e_ rfl ?_)
 all_goals try exact⟨o_⟩
 all_goals(
  have hw:IntKind.i64.wrap (IntKind.i64.wrap (IntKind.i64.wrap (IntKind.i64.wrap ((x1:Int)*16777216)+IntKind.i64.wrap ((x2:Int)*65536))+IntKind.i64.wrap ((x3:Int)*256))+(x4:Int))=((x1*16777216+x2*65536+x3*256+x4:Nat):Int):=by rw[c6 ((x1:Int)*16777216) o_,c6 ((x2:Int)*65536) o_,c6 ((x3:Int)*256) o_,c6 ((x1:Int)*16777216+(x2:Int)*65536) o_,c6 ((x1:Int)*16777216+(x2:Int)*65536+(x3:Int)*256) o_,c6 _ o_];omega
  exact⟨by rw[hw,hm]⟩)):p:=h
theorem bG (c:LH)(n:Int)(hc:c.ok):∃(x:Nat) (c':LH),(0<n->(x:Int)<n)/\(n<=0->x=0)/\c'.b=c.b/\c'.ok/\bA prog 130 [gz,tI .i64 n] (fk c) (tI .i64 x) (fk c'):=by
 by_cases h0:n<=0
 ·refine⟨0,c,o_,fun _=>rfl,rfl,hc,?_⟩;refine aA hΓ aG func130 rfl d_ rfl rfl ?_;exact Z7
 ·obtain⟨x1,c1,k1,b1,o1,g1⟩:=gi c hc;by_cases h2:n<=256
  ·obtain⟨y,hy,hm⟩:=oO (x:=x1) (n:=n) o_;refine⟨y,c1,fun _=>hy,o_,b1,o1,?_⟩;refine aA hΓ aG func130 rfl d_ rfl rfl ?_;repeat' ((conv=>whnf);first|apply Wx|apply W6|refine cg g1 ?_|apply oi|apply fi|intro h|exact Y5|refine e_ rfl ?_)
   all_goals try exact⟨o_⟩
   all_goals exact⟨congrArg (Tr.int _) hm⟩
  ·obtain⟨x2,c2,k2,b2,o2,g2⟩:=gi c1 o1;obtain⟨x3,c3,k3,b3,o3,g3⟩:=gi c2 o2;obtain⟨x4,c4,k4,b4,o4,g4⟩:=gi c3 o3;obtain⟨y,hy,hm⟩:=oO (x:=x1*16777216+x2*65536+x3*256+x4) (n:=n) o_;refine⟨y,c4,fun _=>hy,o_,((b4.trans b3).trans b2).trans b1,o4,?_⟩;exact V7
theorem dN (c:LH)(n:Int)(hc:c.ok):∃(x:Bool) (c':LH),c'.b=c.b/\c'.ok/\bA prog 171 [gz,tI .i64 n] (fk c) (tB x) (fk c'):=by obtain⟨x,c',_,_,b1,o1,g1⟩:=bG c n hc;refine⟨(x:Int)==0,c',b1,o1,?_⟩;refine aA hΓ aG func171 rfl d_ rfl rfl ?_;repeat' ((conv=>whnf);first|apply Wx|apply W6|refine cg g1 ?_|apply oi|apply fi|intro h|exact Y7|refine e_ rfl ?_)
theorem jG (c:LH)(ns:List Int)(hc:c.ok)(hp:0<ns.length)(hl:ns.length<=1048576):∃(v:Int) (c':LH),v∈ns/\c'.b=c.b/\c'.ok/\bA prog 129 [gz,.r (.c (.own (0,0,1)))] (fk c++[((0,0,1),.arr false 1 (ns.map aa))]) (tI .i64 v) (fk c'++[((0,0,1),.arr false 1 (ns.map aa))]):=by
 have Mw:(ns.map aa).length=ns.length:=s_;obtain⟨x,c',h1,_,b1,o1,g1⟩:=bG c ((ns.map aa).length:Int) hc;rw[Mw]at h1;obtain⟨v,hv⟩:=ae (l:=ns) (k:=x) o_;have Qa:x<(ns.map aa).length:=by rw[Mw];omega
 refine⟨v,c',c9 hv,b1,o1,?_⟩;refine aA hΓ aG func129 rfl d_ rfl rfl ?_;repeat' ((conv=>whnf);first|apply Wx|apply W6|refine cg g1 ?_|apply oi|apply fi|intro h|refine⟨x,rfl,Qa,?_⟩|refine⟨(aa v),ab hv,?_⟩|exact Y7|refine e_ rfl ?_)
def aS (b:LG):Bool:=af b.Mo 0 63&&af b.Md 0 3
theorem jy (b:LG):Sim.Spec prog 60 [.agg b.tr] (rB (aS b)):=by
 refine bv hΓ aG func60 rfl d_ rfl ?_;have h1:=aP b.Mo 0 63;have h2:=aP b.Md 0 3;unfold aS
 generalize af b.Mo 0 63=w1 at *
 generalize af b.Md 0 3=w2 at *
 repeat' ((conv=>whnf);first|apply Wx|apply W6|apply oi|apply fi|intro h|refine cl h1 ?_|refine cl h2 ?_|exact Y7|refine e_ rfl ?_)
 all_goals(refine⟨congrArg Tr.bool ?_⟩;simp_all)
theorem tA (c:LH)(hc:c.ok):∃(b:LG) (c':LH),aS b=true/\c'.b=c.b/\c'.ok/\bA prog 95 [gz] (fk c) (.r (.agg (b.tr.map .t))) (fk c'):=by
 obtain⟨f,c1,k1,_,b1,o1,g1⟩:=bG c 64 hc;obtain⟨v,c2,hv,b2,o2,g2⟩:=jG c1 [0,1,2,3] o1 d_ d_;obtain⟨x,c3,b3,o3,g3⟩:=dN c2 2 o2;obtain⟨y,c4,b4,o4,g4⟩:=dN c3 2 o3;refine⟨⟨f,v,x,y⟩,c4,?_,((b4.trans b3).trans b2).trans b1,o4,?_⟩
 ·have:=k1 o_;simp only[d6,l4,or_false]at hv;unfold aS;rw[within_iff.2 ⟨g_,g_⟩,within_iff.2 ⟨g_,g_⟩];rfl
 ·refine aA hΓ aG func95 rfl d_ rfl rfl ?_;repeat' ((conv=>whnf);first|apply Wx|apply W6|apply oi|apply fi|intro h|exact Y7|refine e_ rfl ?_)
  refine cg (g1) ?_;repeat' ((conv=>whnf);first|apply Wx|apply W6|apply oi|apply fi|intro h|exact Y7|refine e_ rfl ?_)
  refine cg (g2) ?_;repeat' ((conv=>whnf);first|apply Wx|apply W6|apply oi|apply fi|intro h|exact Y7|refine e_ rfl ?_)
  refine cg (g3) ?_;repeat' ((conv=>whnf);first|apply Wx|apply W6|apply oi|apply fi|intro h|exact Y7|refine e_ rfl ?_)
  refine cg (g4) ?_;exact Z2
theorem EV {C:Cx}(hC:CxOk C):∀lev,Gx C lev/\zx C lev:=by
 have hL:∀lev,Gx C lev->zx C lev:=fun lev hR=>FJ hC fun e x S lv k p ln s d h1 h2 h3 h4 h5 h6=>Cj hC hR e.toks.length e (d8 _) x S lv k p ln s d h1 h2 h3 h4 h5 h6;intro lev
 induction lev with
 | zero=>
  have hR:Gx C 0:=by intro x S lv k g s d hx hk hg SP hr;obtain⟨r1,_⟩:=fN SP;have:=hr.depth;rw[show(bS (S++[(x,lv)])).length=S.length+1 by simp]at r1;omega
  exact⟨hR,hL 0 hR⟩
 | succ n ih=>have hR:=IX hC ih.2;exact⟨hR,hL _ hR⟩
def nu (frames f:Int):Bool:=IntKind.i64.wrap (BitVec.ofInt IntKind.i64.bits (frames.fdiv (2^min f.toNat IntKind.i64.bits)) &&& BitVec.ofInt IntKind.i64.bits 1).toNat==1
theorem V27{p:Prop}(h:p:=by
 rw[UV];repeat' ((conv=>whnf);first|apply Wx|apply W6|refine cg g2 ?_|refine cg gLs ?_|apply oi|apply fi|intro h|refine⟨0,rfl,s_,?_⟩|refine⟨_,ZP,?_⟩|exact Y7|refine e_ rfl ?_)
 all_goals try(exfalso;rw[S9]at h;cases h;done)
 all_goals first|exact⟨⟨_,rfl⟩⟩|exact⟨congrArg (Tr.int .i64) Zm.symm⟩):p:=h
theorem jM (C:Cx)(hC:CxOk C)(f g:Nat)(hf:(ay C.p)[f]?=some g)(e3:C.J6=nu C.b.Mo f)(e5:C.args=argsN C.p g):
  Sim.Spec prog 133 [tvP C.p,tvI (f:Int),.agg C.b.tr,tvI C.I8] (.tup [.c (.arr 7 ((dH C g).I7.map LO.tr)),.c (.t (.int .i64 (dH C g).J3))]):=by
 refine bv hΓ aG func133 rfl d_ rfl ?_;obtain⟨U4,y,hy,Ow⟩:=nV (c9 hf);have QJ:=hC.len;have hw:=hC.I8;have hin:=hC.inl;have gF:=cH C.p o_;have gL:=iM C.p (g:Int) o_ (fun z hz=>bg hC.small hz);have hA:argsN C.p g=y.L5.length:=by rw[argsN,hy]
 have h4:=(hC.line g y hy).2.2.1;have MN:f<(ay C.p).length:=aH hf;have Ni:f<((ay C.p).map fun n:Nat=>aa n).length:=by rw[e7];exact MN
 have U1:((ay C.p).map fun n:Nat=>aa n)[f]?=some (aa (g:Int)):=by rw[p6,hf];rfl
 have NA:=dv hC ⟨y,hy,Ow⟩;have SZ:(y.L5.map ao).length=y.L5.length:=s_;have Oh:((localsOf C.p (g:Int)).map ao).length=(localsOf C.p (g:Int)).length:=s_;have hS:ScOk C (bb C g) [g]:=⟨⟨y,hy,Ow⟩,rfl,⟨v2 _,by simp[bb]⟩,rfl,by simp[bb],fun _=>e5,rfl⟩;obtain⟨e,XT,Ou,he3,YD,_⟩:=hS.endE hC;obtain⟨O,hO⟩:∃O,bb C g=O:=⟨_,rfl⟩;have Xq:kQ O []=[.d (.int .i64 (g:Int)),.t (.lst 1 []),.t (.lst 1 ((localsOf C.p (g:Int)).map ao)),.d (.int .i64 0),.d (.bool true),.d (.lst 0 [])]:=by rw[<-hO,bb];rfl
 have ZP:(scH [(O,[])])[0]?=some [.d (.int .i64 (g:Int)),.t (.lst 1 []),.t (.lst 1 ((localsOf C.p (g:Int)).map ao)),.d (.int .i64 0),.d (.bool true),.d (.lst 0 [])]:=by rw[<-Xq];rfl
 have g1:=fun code=>bN C ⟨[],(localsOf C.p (g:Int)).length-C.args,false⟩ 0 (scH [(O,[])]) code C.I8 g [] (by unfold dL;simp) s_;have Om:((C.b.Md.toNat:Nat):Int)=C.b.Md:=E5 hin.1;have h3:=Cr (n:=C.b.Md.toNat) o_
 have gLs:=(EV hC C.b.Md.toNat).2 O [] (dQ C g) C.I8 (by rw[<-hO];exact hS) (by
  rw[<-hO,YD];have:=A4 (show e-(bb C g).f<=60 by omega) (show 20*dh C.b.Md.toNat+3<=20*8679837+3 by omega);simp only[dQ,aC,c8,i8,d5]
  omega) (by simpa using Om) hw.1 o_
 have WV:bq C (cK C C.b.Md.toNat) O (bS ([]++[(O,[])])) C.I8 (dQ C g)=bq C (cK C C.b.Md.toNat) (bb C g) [g] C.I8 (dQ C g):=by rw[<-hO];rfl
 rw[WV,t6,t6]at gLs;repeat' ((conv=>whnf);first|(with_reducible apply W1;fail_if_success (with_reducible show Wo _ _ _ _ (Code.region 4 _ _) _ _))|(with_reducible first|apply W2|apply W3|apply W4|apply W5|apply W6|apply W7|apply W8|apply W9)|apply aB|apply oi|apply fi|intro h|refine cl gF ?_|refine⟨f,rfl,Ni,?_⟩|refine⟨_,U1,?_⟩|refine⟨g,y.tr,rfl,ab hy,?_⟩|refine cl gL ?_|exact Y7|refine e_ rfl ?_)
 all_goals try exact⟨o_⟩
 all_goals try exact⟨kV _⟩
 conv=>whnf
 refine FZ (40,0,0) (rows':=[kQ O []]) rfl ?_ ?_
 ·rw[Xq];refine⟨⟨rfl,fun q c d hc hd=>?_⟩,trivial⟩
  match q with|0=>simp at hc hd;subst hc;subst hd;exact .inl rfl|1=>simp at hc hd;subst hc;subst hd;exact .inr (.inr ⟨0,1,rfl,rfl⟩)|2=>simp at hc hd;subst hc;subst hd;exact .inr (.inl rfl)|3=>simp at hc hd;subst hc;subst hd;exact .inl rfl|4=>simp at hc hd;subst hc;subst hd;exact .inl rfl|5=>simp at hc hd;subst hc;subst hd;exact .inl rfl|q+6=>simp at hc
 refine BI ⟨[(0,vP C.p),(3,tI .i64 C.I8),(10,tI .i64 (g:Int)),(11,.r (.c (.ptr (33,0,0) 0)))],[((33,0,0),some (pk C ⟨[],0,false⟩ 0 (33,0,1) (33,0,2))),((33,0,1),some (.dar 7 (itR []) none)),((33,0,2),some (.dar 6 (scH [(O,[])]) none))],[40,38,33,13,6]⟩ ?_ ?_
 ·repeat' ((conv=>whnf);first|apply Wx|apply W6|apply oi|apply fi|intro h|exact Y7|refine e_ rfl ?_)
  all_goals try exact⟨by rw[e3];rfl⟩
  all_goals try exact⟨by rw[e5,hA,SZ]⟩
 have Zm:IntKind.i64.wrap ((((localsOf C.p (g:Int)).map ao).length:Int)-C.args)=((localsOf C.p (g:Int)).length:Int)-C.args:=by rw[Oh,c6 _ o_]
 cases S9:C.J6 with
 | true=>
  have hh:dQ C g=aC C ⟨[],(localsOf C.p (g:Int)).length-C.args,false⟩ 0 13 C.I8 g []:=by rw[dQ,c7 S9]
  rw[hh]at gLs;have g2:=g1 13;have UV:dH C g=(bq C (cK C C.b.Md.toNat) (bb C g) [g] C.I8 (aC C ⟨[],(localsOf C.p (g:Int)).length-C.args,false⟩ 0 13 C.I8 g [])).1:=by rw[dH,hh]
  exact V27
 | false=>
  have hh:dQ C g=aC C ⟨[],(localsOf C.p (g:Int)).length-C.args,false⟩ 0 15 C.I8 g []:=by rw[dQ,b8 (by simp[S9])]
  rw[hh]at gLs;have g2:=g1 15;have UV:dH C g=(bq C (cK C C.b.Md.toNat) (bb C g) [g] C.I8 (aC C ⟨[],(localsOf C.p (g:Int)).length-C.args,false⟩ 0 15 C.I8 g [])).1:=by rw[dH,hh]
  exact V27
theorem uV {C:Cx}(hC:CxOk C){g:Nat}(hg:bT C g)(e5:C.args=argsN C.p g):0<=(dH C g).J3/\(dH C g).J3<=1000:=by have hS:ScOk C (bb C g) [g]:=⟨hg,rfl,⟨v2 _,by simp[bb]⟩,rfl,by simp[bb],fun _=>e5,rfl⟩;have hG:=mv (lev:=C.b.Md.toNat) (rep:=cK C C.b.Md.toNat) (fun line g d s hg hr=>ia hC _ line g d s hS hg hr) hC hS C.I8 (dQ C g);obtain⟨l1,l2⟩:=dv hC hg;have hm:(dQ C g).J3=(localsOf C.p (g:Int)).length-C.args:=rfl;have h1:=hG.J3;have h2:=hG.cap (by rw[hm];omega);rw[hm]at h1;exact⟨D4 o_ h1,h2⟩
def ctx (p:List LP)(f g:Nat)(b:LG)(words:Int):Cx:=⟨p,b,nu b.Mo f,words,argsN p g⟩
noncomputable def foldIf (p:List LP) (b:LG):List LP:=if b.Mv=true then p.map aO else p
noncomputable def nd (p:List LP) (f:Nat) (b:LG):List LO:=match(ay (foldIf p b))[f]? with
 | some g=>(dH (ctx (foldIf p b) f g b (dH (ctx (foldIf p b) f g b 0) g).J3) g).I7
 | none=>[]
noncomputable def az (p:List LP) (f:Int) (b:LG):List LO:=
 if ah p=true/\aS b=true/\0<=f/\f<(ay p).length then nd p f.toNat b else []
theorem alike.funsF:∀{p q:List LP},alike p q->∀i:Nat,funsF p i=funsF q i
 | [],[],_,_=>rfl
 | x::p,y::q,h,i=>by
  simp only[alike,p7,List.cons.injEq,Prod.mk.injEq]at h;have ih:=alike.funsF (p:=p) (q:=q) h.2
  rw[Go.Proofs.P.funsF,Go.Proofs.P.funsF,h.1.1,ih]
 | [],_::_,h,_=>by simp[alike]at h
 | _::_,[],h,_=>by simp[alike]at h
theorem mz (p:List LP)(b:LG):ay (foldIf p b)=ay p:=by
 unfold foldIf;split
 ·exact(eU p).funsF 0
 ·rfl
theorem PgOk.foldIf {p:List LP}(h:PgOk p)(b:LG):PgOk (foldIf p b):=by
 unfold Go.Proofs.P.foldIf;split
 ·exact h.fold
 ·exact h
theorem V113{p:Prop}(h:p:=by
 unfold aS at h2;simp only[b9,within_iff]at h2
 exact h2.2):p:=h
theorem V45{p:Prop}(h:p:=by
 simp only[ctx,e]at g0 g1
 repeat' ((conv=>whnf);first|apply Wx|apply W6|apply oi|apply fi|intro h|refine cl hP ?_|refine cl hB ?_|refine cl gF ?_|refine cl Pg ?_|refine cl g0 ?_|refine cl g1 ?_|exact Y5|refine e_ rfl ?_)):p:=h
theorem V74{p:Prop}(h:p:=by
 repeat' ((conv=>whnf);first|apply Wx|apply W6|apply oi|apply fi|intro h|refine cl hP ?_|refine cl hB ?_|refine cl gF ?_|exact Y5|refine e_ rfl ?_)):p:=h
theorem lb (p:List LP)(f:Int)(b:LG)(hs:aw 1048576 (.lst 4 (p.map LP.tr))):Sim.Spec prog 64 [tvP p,tvI f,.agg b.tr] (rL 7 ((az p f b).map LO.tr)):=by
 refine bv hΓ aG func64 rfl d_ rfl ?_;have hP:=dR p hs;have hB:=jy b;have hl:=bE hs;have gF:=cH p o_;have MN:((ay p).map fun n:Nat=>aa n).length=(ay p).length:=s_;by_cases hc:ah p=true/\aS b=true/\0<=f/\f<(ay p).length
 ·have Qs:az p f b=nd p f.toNat b:=by rw[az,c7 hc]
  rw[Qs];obtain⟨h1,h2,h3,h4⟩:=hc;obtain⟨f,rfl⟩:=j6 h3;rw[d7];rw[h1]at hP;rw[h2]at hB
  have hb:0<=b.Md/\b.Md<=3:=by exact V113
  obtain⟨g,hg⟩:=ae (l:=ay p) (k:=f) o_;have Qq:=(zn hs h1).foldIf b;have PQ:(ay (foldIf p b))[f]?=some g:=by rw[mz];exact hg
  obtain⟨U4,y,hy,Ow⟩:=nV (c9 PQ);have Q0:=(Qq.line g y hy).2.2.1;have ha:(0:Int)<=(argsN (foldIf p b) g:Int)/\(argsN (foldIf p b) g:Int)<=4:=by rw[argsN,hy];dsimp only;omega
  have Th:CxOk (ctx (foldIf p b) f g b 0):=Qq.cx ha o_ hb;have hm:=uV Th ⟨y,hy,Ow⟩ rfl;have Wa:CxOk (ctx (foldIf p b) f g b (dH (ctx (foldIf p b) f g b 0) g).J3):=Qq.cx ha hm hb;have g0:=jM _ Th f g PQ rfl rfl;have g1:=jM _ Wa f g PQ rfl rfl;have Vv:nd p f b=(dH (ctx (foldIf p b) f g b (dH (ctx (foldIf p b) f g b 0) g).J3) g).I7:=by rw[nd,PQ]
  rw[Vv]
  generalize dH (ctx (foldIf p b) f g b 0) g=R0 at *
  generalize dH (ctx (foldIf p b) f g b R0.J3) g=R1 at *
  have Pg:=oF p hs;rw[show jm p=p.map aO by rw[jm,c7 h1]]at Pg;obtain⟨fr,inl,fold,sp⟩:=b
  cases fold with
  | true=>
   have e:foldIf p ⟨fr,inl,true,sp⟩=p.map aO:=rfl
   exact V45
  | false=>have e:foldIf p ⟨fr,inl,false,sp⟩=p:=rfl;exact V45
 ·have Qs:az p f b=[]:=by rw[az,b8 hc]
  rw[Qs]
  cases h1:ah p with
  | false=>
   rw[h1]at hP
   exact V74
  | true=>
   rw[h1]at hP
   cases h2:aS b with
   | false=>
    rw[h2]at hB
    exact V74
   | true=>rw[h2]at hB;have MB:¬(0<=f/\f<(ay p).length):=fun hh=>hc ⟨h1,h2,hh⟩;exact V74
def xd (l:List LO):Prop:=∀it∈l,it.Mm.length<=4
structure Cap (M t:Nat) (s s':Gs):Prop where
 le:s'.I7.length<=max s.I7.length M+t
 ch:xd s.I7->xd s'.I7
theorem Cap.refl {M:Nat}(s:Gs):Cap M 0 s s:=⟨o_,id⟩
theorem Cap.trans {M n m:Nat}{a b c:Gs}(h:Cap M n a b)(h':Cap M m b c):Cap M (n+m) a c:=⟨by have:=h.le;have:=h'.le;omega,fun x=>h'.ch (h.ch x)⟩
theorem Cap.mono {M n m:Nat}{a b:Gs}(h:Cap M n a b)(hn:n<=m):Cap M m a b:=⟨by have:=h.le;omega,h.ch⟩
theorem bY {M:Nat}(C:Cx)(s:Gs)(d code arg line:Int){chain:List Int}(hc:chain.length<=4):Cap M 1 s (aC C s d code arg line chain):=by
 refine⟨by simp only[aC,c8,d5,i8];omega,fun h it Nt=>?_⟩;simp only[aC,d9,d6,l4,or_false]at Nt;rcases Nt with Nt|rfl
 ·exact h it Nt
 ·exact hc
theorem qU {l:List LO}(h:xd l)(j v:Int):xd (bU l j v):=by
 unfold bU;split
 ·split
  ·rename_i it hi;intro z hz;rcases u6 hz with hz|rfl
   ·exact h z hz
   ·exact h it (c9 hi)
  ·exact h
 ·exact h
theorem xV (v:Int):∀(js:List Int) {l:List LO},xd l->xd (patchL l v js)
 | [],_,h=>h
 | j::js,_,h=>by rw[patchL];exact xV v js (qU h j v)
theorem Cap.set {M n:Nat}{a b:Gs}{l:List LO}(h:Cap M n a b)(hl:l.length=b.I7.length)(hc:xd b.I7->xd l):Cap M n a ⟨l,b.J3,b.start⟩:=⟨by have:=h.le;simp only[hl];omega,fun x=>hc (h.ch x)⟩
section
variable {C:Cx} {x:Sc} {ins:List Nat} {rep:Sc->List Nat->Nat->Nat->Int->Gs->Gs} {line:Nat} {M:Nat}
theorem sX (y:Sc){chain:List Int}(hc:chain.length<=4)(line:Int):∀(n:Nat) (d:Int) (s:Gs),Cap M n s (cE C y chain line n d s)
 | 0,d,s=>Cap.refl s
 | n+1,d,s=>by
  rw[cE];exact((bY C s d _ _ _ hc).trans (sX y hc line n (d-1) _)).mono o_
theorem wM (y:Sc){chain:List Int}(hc:chain.length<=4)(line d:Int):∀(n i:Nat) (s:Gs),Cap M (2*n) s (dD C y chain line d n i s)
 | 0,i,s=>Cap.refl s
 | n+1,i,s=>by
  rw[dD];exact(((bY C s d _ _ _ hc).trans (bY C _ (d+1) _ _ _ hc)).trans (wM y hc line d n (i+1) _)).mono o_
theorem Ih (hx:x.J0.length<=4)(MA:∀g d s,bT C g->cL C ins g s.I7.length=true->Cap M 0 s (rep x ins line g d s))(t:LZ)(d:Int)(s:Gs):Cap M 1 s (lZ C rep x ins line t d s):=by
 unfold lZ;split
 ·exact bY _ _ _ _ _ _ hx
 ·split
  ·exact bY _ _ _ _ _ _ hx
  ·split
   ·split
    ·rename_i g hg;split
     ·rename_i hr;obtain⟨_,ln,h1,h2,_⟩:=gK hg;exact(MA g d s ⟨ln,h1,h2⟩ hr).mono o_
     ·exact bY _ _ _ _ _ _ hx
    ·exact(Cap.refl s).mono o_
   ·exact bY _ _ _ _ _ _ hx
mutual
theorem AE (hx:x.J0.length<=4)(MA:∀g d s,bT C g->cL C ins g s.I7.length=true->Cap M 0 s (rep x ins line g d s)):∀(e:Ex) (d:Int) (s:Gs),Cap M e.toks.length s (ew C rep x ins line e d s)
 | .node t es,d,s=>by
  rw[ew,Ex.toks,d5];exact((xP hx MA es d s).trans (Ih hx MA t _ _)).mono o_
theorem xP (hx:x.J0.length<=4)(MA:∀g d s,bT C g->cL C ins g s.I7.length=true->Cap M 0 s (rep x ins line g d s)):∀(es:List Ex) (d:Int) (s:Gs),Cap M (aq es).length s (cW C rep x ins line es d s)
 | [],d,s=>by rw[cW,aq];exact(Cap.refl s).mono o_
 | a::es,d,s=>by
  rw[cW,aq,c8];exact(AE hx MA a d s).trans (xP hx MA es (d+1) _)
end
theorem GY (hC:CxOk C)(hx:x.J0.length<=4)(line:Nat){g:Nat}(hg:bT C g)(d:Int)(s:Gs):Cap M 16 s (fU C x line g d s):=by obtain⟨h1,h2⟩:=dv hC hg;have h0:Cap M 0 s ⟨s.I7,max s.J3 (ck C x+(localsOf C.p (g:Int)).length),s.start⟩:=⟨g_,id⟩;unfold fU;exact((h0.trans (sX _ hx _ _ _ _)).trans (wM _ hx _ _ _ _ _)).mono o_
theorem DE (hx:x.J0.length<=4)(line:Nat)(d:Int)(s:Gs):Cap M 1 s (cZ C x line d s):=by
 unfold cZ;split
 ·exact bY _ _ _ _ _ _ hx
 ·exact(Cap.refl s).mono o_
theorem uR (hx:x.J0.length<=4)(k:Nat)(last:Bool)(d:Int)(L:Ls):Cap M 1 L.g (be C x k last d L).g:=by
 unfold be;split
 ·split
  ·exact bY _ _ _ _ _ _ hx
  ·exact bY _ _ _ _ _ _ hx
 ·split
  ·exact(Cap.refl _).mono o_
  ·exact bY _ _ _ _ _ _ hx
theorem Fh (hx:x.J0.length<=4)(MA:∀g d s,bT C g->cL C ins g s.I7.length=true->Cap M 0 s (rep x ins line g d s))(hC:CxOk C){k:Nat}{ln:LP}(hk:C.p[k]?=some ln)(he:br ln.K9=true)(d:Int)(s:Gs):Cap M 20 s (ew C rep x ins line (exL ln.K9) d s):=by have h1:=(rk he).2;have h2:=(hC.line _ _ hk).2.2.2.1;rw[h1]at h2;exact(AE hx MA _ d s).mono h2
theorem Fr (hx:x.J0.length<=4)(MA:∀line g d s,bT C g->cL C ins g s.I7.length=true->Cap M 0 s (rep x ins line g d s))(hC:CxOk C){k:Nat}{ln:LP}(hk:C.p[k]?=some ln)(h0:ln.J1≠0)(base:Int)(L:Ls):Cap M 22 L.g (bH C rep x ins base k ln L).g:=by
 unfold bH;split
 ·exact((bY C L.g base 10 0 k hx).set (bO _ _ _) fun h=>qU h _ _).mono o_
 ·split
  ·split
   ·refine Cap.mono (n:=1+1) ?_ o_;exact(bY C L.g base 0 0 k hx).trans (uR hx k true (base+1) {L with g:=aC C L.g base 0 0 k x.J0})
   ·split
    ·exact(bY _ _ _ _ _ _ hx).mono o_
    ·exact(Cap.refl _).mono o_
  ·rename_i h4 h7;have hl:=hC.line _ _ hk
   have N3:Cap M 20 L.g (ew C rep x ins k (exL ln.K9) base ⟨L.g.I7,L.g.J3,true⟩):=by have:=Fh hx (fun g d s=>MA k g d s) hC hk (hl.2.2.2.2 o_) base ⟨L.g.I7,L.g.J3,true⟩;exact⟨this.le,this.ch⟩
   split
   ·exact(N3.trans (bY _ _ _ _ _ _ hx)).mono o_
   ·split
    ·exact(N3.trans (bY _ _ _ _ _ _ hx)).mono o_
    ·split
     ·refine Cap.mono (n:=20+1) ?_ o_;exact N3.trans (uR hx k false (base+1) {L with g:=ew C rep x ins k (exL ln.K9) base ⟨L.g.I7,L.g.J3,true⟩,J4:=L.J4.set k L.g.I7.length})
     ·exact(N3.trans (bY _ _ _ _ _ _ hx)).mono o_
theorem Gh (k:Nat)(ln:LP)(L:Ls):Cap M 0 L.g (bB C x k ln L).g:=by
 unfold bB;split
 ·exact(Cap.refl _).set (bO _ _ _) fun h=>qU h _ _
 ·exact Cap.refl _
theorem BQ (hx:x.J0.length<=4)(MA:∀line g d s,bT C g->cL C ins g s.I7.length=true->Cap M 0 s (rep x ins line g d s))(hC:CxOk C)(base:Int):∀(n k:Nat) (L:Ls),(∀i y,k<=i->i<k+n->C.p[i]?=some y->y.J1≠0)->Cap M (n*22) L.g (dI C rep x ins base n k L).g
 | 0,k,L,_=>(Cap.refl _).mono o_
 | n+1,k,L,h=>by
  rw[dI];split
  ·rename_i ln hk;exact(((Fr hx MA hC hk (h k ln (d8 _) o_ hk) base L).trans (Gh k ln _)).trans (BQ hx MA hC base n (k+1) _ fun i y h1 h2 hy=>h i y o_ o_ hy)).mono o_
  ·exact(Cap.refl _).mono o_
theorem uY (hc:x.J0.length<=4)(MA:∀line g d s,bT C g->cL C ins g s.I7.length=true->Cap M 0 s (rep x ins line g d s))(hC:CxOk C)(hx:ScOk C x ins)(base:Int)(s:Gs):Cap M ((kE C.p x.f-x.f)*22) s (bq C rep x ins base s).1:=by unfold bq;obtain⟨ln,h1,h2⟩:=hx.fn;obtain⟨e,h3,_,_,h4⟩:=hC.fn _ _ h1 h2;obtain⟨e',g3,_,_,g5,_⟩:=hx.endE hC;rw[h3]at g3;injection g3 with g3;subst g3;rw[g5];refine BQ hc MA hC base (e-x.f) (x.f+1) (cv C s) fun i y k1 k2 hy=>?_;exact V84
end
theorem zY {C:Cx}(hC:CxOk C):∀(lev:Nat) {x:Sc} {ins:List Nat} (line g:Nat) (d:Int) (s:Gs),ScOk C x ins->bT C g->cL C ins g s.I7.length=true->Cap (217+198*lev) 0 s (cK C lev x ins line g d s)
 | 0,x,ins,line,g,d,s,hx,hg,hr=>(Cap.refl s).mono o_
 | lev+1,x,ins,line,g,d,s,hx,hg,hr=>by
  obtain⟨r1,r2,r3,_⟩:=fN hr;have hin:=hC.inl;have NH:=hx.J0;have hy:=kc hC hx line hg;have h1:=GY (M:=217) (x:=x) hC o_ line hg d s;have h2:=DE (C:=C) (M:=217) (x:=x) o_ line (d-argsN C.p g) (fU C x line g d s);have OZ:=hy.J0;rw[c8,d5,i8]at OZ;have h3:=uY (M:=217+198*lev) (rep:=cK C lev) o_ (fun line g d s hg hr=>zY hC lev line g d s hy hg hr) hC hy (d-argsN C.p g) (cZ C x line (d-argsN C.p g) (fU C x line g d s));obtain⟨e,e1,e2,e3,e4,_⟩:=hy.endE hC;have e5:ct C.p (g:Int)=(e:Int):=by rw[cw];exact bQ e1
  have e6:kE C.p (cj C x line g).f-(cj C x line g).f<=9:=by rw[e4];show e-g<=9;omega
  show Cap _ 0 s (lV C (bq C (cK C lev)) x ins line g d s);unfold lV;have l1:=xE hC hx o_ line hg d s;have l2:=tc (C:=C) x line (d-argsN C.p g) (fU C x line g d s);refine⟨?_,fun h=>xV _ _ (h3.ch (h2.ch (h1.ch h)))⟩;simp only[gT];have k3:=h3.le;have k1:=l1.le;have k2:=l2.le;omega
theorem Gk {C:Cx}(hC:CxOk C){g:Nat}(hg:bT C g)(e5:C.args=argsN C.p g):(dH C g).I7.length<=2500/\xd (dH C g).I7:=by
 have hS:ScOk C (bb C g) [g]:=⟨hg,rfl,⟨v2 _,by simp[bb]⟩,rfl,by simp[bb],fun _=>e5,rfl⟩;have hG:=uY (M:=217+198*C.b.Md.toNat) (rep:=cK C C.b.Md.toNat) (by simp[bb]) (fun line g d s hg hr=>zY hC _ line g d s hS hg hr) hC hS C.I8 (dQ C g);obtain⟨e,e1,e2,e3,e4,_⟩:=hS.endE hC;have hl:=hC.len;have hin:=hC.inl;have hh:(dQ C g).I7.length=1:=by simp[dQ,aC]
 have hk:=hG.le;refine⟨?_,hG.ch fun it Nt=>?_⟩
 ·show(bq C (cK C C.b.Md.toNat) (bb C g) [g] C.I8 (dQ C g)).1.I7.length<=2500;omega
 ·simp only[dQ,aC,t6,d6,l4,or_false]at Nt;subst Nt;exact w6 _
theorem jP {p:List LP}{f:Int}{b:LG}(hs:aw 1048576 (.lst 4 (p.map LP.tr)))(h1:ah p=true)(h2:aS b=true)(h3:0<=f)(h4:f<(ay p).length):∃(g:Nat) (C:Cx),(ay p)[f.toNat]?=some g/\CxOk C/\C.p=foldIf p b/\C.b=b/\C.args=argsN C.p g/\C.J6=nu b.Mo f/\bT C g/\az p f b=(dH C g).I7/\C.I8=(dH (ctx (foldIf p b) f.toNat g b 0) g).J3:=by
 obtain⟨f,rfl⟩:=j6 h3
 have hb:0<=b.Md/\b.Md<=3:=by exact V113
 obtain⟨g,hg⟩:=ae (l:=ay p) (k:=f) o_;have Qq:=(zn hs h1).foldIf b;have PQ:(ay (foldIf p b))[f]?=some g:=by rw[mz];exact hg
 obtain⟨U4,y,hy,Ow⟩:=nV (c9 PQ);have Q0:=(Qq.line g y hy).2.2.1;have ha:(0:Int)<=(argsN (foldIf p b) g:Int)/\(argsN (foldIf p b) g:Int)<=4:=by rw[argsN,hy];dsimp only;omega
 have Th:CxOk (ctx (foldIf p b) f g b 0):=Qq.cx ha o_ hb;have hm:=uV Th ⟨y,hy,Ow⟩ rfl;have Wa:CxOk (ctx (foldIf p b) f g b (dH (ctx (foldIf p b) f g b 0) g).J3):=Qq.cx ha hm hb;refine⟨g,_,by rw[d7];exact hg,Wa,rfl,rfl,rfl,rfl,⟨y,hy,Ow⟩,?_,by rw[d7];rfl⟩;rw[az,c7 ⟨h1,h2,h3,h4⟩,d7,nd,PQ]
theorem jf {p:List LP}{f:Int}{b:LG}(hs:aw 1048576 (.lst 4 (p.map LP.tr))):(az p f b).length<=2500/\xd (az p f b):=by
 by_cases hc:ah p=true/\aS b=true/\0<=f/\f<(ay p).length
 ·obtain⟨h1,h2,h3,h4⟩:=hc;obtain⟨g,C,_,k2,_,_,k5,_,k7,k8,_⟩:=jP hs h1 h2 h3 h4;rw[k8];exact Gk k2 k7 k5
 ·rw[az,b8 hc];exact⟨s_,fun it h=>by cases h⟩
theorem mu {L:Int}:∀{rs:List (List Tr)},(∀r∈rs,aF L r)->eH L rs
 | [],_=>by rw[eH];trivial
 | r::rs,h=>by rw[eH];exact⟨h r s_,mu fun x hx=>h x aap⟩
end Go.Proofs.P
namespace Go.Proofs.P
open Go.Sim Tryz
def eP (c a:Int):Prop:=0<=c/\c<=17/\(c=0->-2147483648<=a/\a<=2147483647)/\(c=1\/c=2\/c=3\/c=4\/c=10\/c=11->-32768<=a/\a<=32767)/\(c=16->0<=a/\a<=65535)/\(c=12\/c=13\/c=14\/c=15->0<=a/\a<=255)/\(5<=c/\c<=9\/c=17->a=0)
def jV (C:Cx)(line:Int):Prop:=∃y,0<=line/\C.p[line.toNat]?=some y/\y.J1≠0
structure GoodI (C:Cx) (n:Nat) (it:LO):Prop where
 line:jV C it.Mi
 jump:it.J2.I9=10\/it.J2.I9=11->0<=it.J2.J7/\it.J2.J7<=n
 op:¬(it.J2.I9=10\/it.J2.I9=11)->eP it.J2.I9 it.J2.J7
 enter:it.J2.I9≠13
theorem GoodI.mono {C:Cx}{n m:Nat}{it:LO}(h:GoodI C n it)(hn:n<=m):GoodI C m it:=⟨h.line,fun k=>by have:=h.jump k;omega,h.op,h.enter⟩
def LB (C:Cx)(g:Nat)(it:LO):Prop:=(it.J2.I9=13\/it.J2.I9=15)/\it.Mi=g/\it.J2.J7=C.I8
def InvI (C:Cx)(g:Nat)(l:List LO):Prop:=∃h t,l=h::t/\LB C g h/\∀it∈t,GoodI C l.length it
def bd (l:List LO)(i:Nat):Option Int:=(l[i]?).map (·.J2.I9)
def JP (l:List LO)(j:Int):Prop:=0<=j/\∃c,bd l j.toNat=some c/\(c=10\/c=11)
structure Tr2 (C:Cx) (g:Nat) (a b:Gs):Prop where
 ext:∀i c,bd a.I7 i=some c->bd b.I7 i=some c
 inv:InvI C g a.I7->InvI C g b.I7
 J3:a.J3<=60->b.J3<=60
theorem Tr2.refl {C:Cx}{g:Nat}(s:Gs):Tr2 C g s s:=⟨fun _ _ h=>h,id,id⟩
theorem Tr2.trans {C:Cx}{g:Nat}{a b c:Gs}(h:Tr2 C g a b)(h':Tr2 C g b c):Tr2 C g a c:=⟨fun i v x=>h'.ext i v (h.ext i v x),fun x=>h'.inv (h.inv x),fun x=>h'.J3 (h.J3 x)⟩
theorem kB {l:List LO}{i:Nat}{c:Int}(h:bd l i=some c):i<l.length:=by
 unfold bd at h
 cases hi:l[i]? with
 | none=>rw[hi]at h;cases h
 | some x=>exact aH hi
theorem AN {l:List LO}{i:Nat}(h:i<l.length):∃c,bd l i=some c:=by obtain⟨x,hx⟩:=ae h;exact⟨x.J2.I9,by rw[bd,hx];rfl⟩
theorem JP.ext {a b:List LO}(h:∀i c,bd a i=some c->bd b i=some c){j:Int}(hj:JP a j):JP b j:=by obtain⟨h0,c,h1,h2⟩:=hj;exact⟨h0,c,h _ _ h1,h2⟩
theorem Tr2.len {C:Cx}{g:Nat}{a b:Gs}(h:Tr2 C g a b):a.I7.length<=b.I7.length:=by
 rcases v3 a.I7.length with h0|h0
 ·omega
 ·obtain⟨c,hc⟩:=AN (l:=a.I7) (i:=a.I7.length-1) o_;have:=kB (h.ext _ _ hc);omega
theorem V111{p:Prop}(h:p:=by
 have:=kB h;unfold bd at h⊢;simp only[aC];rw[j7 this]
 exact h):p:=h
theorem dY {C:Cx}{g:Nat}{s:Gs}{d code arg line:Int}{chain:List Int}(hl:jV C line)(h1:code=10\/code=11->0<=arg/\arg<=s.I7.length)(h2:¬(code=10\/code=11)->eP code arg)(h3:code≠13):Tr2 C g s (aC C s d code arg line chain):=by
 refine⟨fun i c h=>?_,fun⟨h,t,e1,e2,e3⟩=>?_,id⟩
 ·exact V111
 ·refine⟨h,t++[bL C s d code arg line chain],by simp[aC,e1],e2,fun it Nt=>?_⟩;have hn:s.I7.length<=(aC C s d code arg line chain).I7.length:=by simp[aC]
  rw[d9,t7]at Nt;rcases Nt with Nt|rfl
  ·exact(e3 it Nt).mono hn
  ·exact⟨hl,fun k=>by have:=h1 k;simp only[bL];omega,h2,h3⟩
theorem dB {l:List LO}{j v:Int}(i:Nat):bd (bU l j v) i=bd l i:=by
 unfold bU;split
 ·split
  ·rename_i x hx;unfold bd;by_cases h:j.toNat=i
   ·subst h;rw[x6 (aH hx),hx];rfl
   ·rw[C6 h]
  ·rfl
 ·rfl
theorem Dn {C:Cx}{g:Nat}{l:List LO}{j:Int}(h:InvI C g l)(hj:JP l j):InvI C g (bU l j l.length):=by
 obtain⟨a,t,e1,e2,e3⟩:=h;obtain⟨h0,c,h1,h2⟩:=hj;unfold bU;rw[c7 h0]
 cases hx:l[j.toNat]? with
 | none=>simp only;exact⟨a,t,e1,e2,e3⟩
 | some x=>
  have hc:x.J2.I9=c:=by rw[bd,hx]at h1;simpa using h1
  have Vn:j.toNat≠0:=by intro h;rw[h,e1]at hx;simp at hx;subst hx;have:=e2.1;omega
  obtain⟨m,hm⟩:∃m,j.toNat=m+1:=⟨j.toNat-1,o_⟩;rw[hm,e1,j8]at hx;have hg:=e3 x (c9 hx);refine⟨a,t.set m ⟨⟨x.J2.I9,l.length⟩,x.Mi,x.L4,x.Mm,x.Me,x.Mn⟩,?_,e2,fun it Nt=>?_⟩
  ·rw[e1,hm];rfl
  ·rw[q7];rcases u6 Nt with Nt|rfl
   ·exact e3 it Nt
   ·exact⟨hg.line,fun _=>by simp only;omega,fun k=>absurd (by rw[hc];exact h2) k,hg.enter⟩
theorem rC {C:Cx}{g:Nat}{s:Gs}{j:Int}(hj:JP s.I7 j):Tr2 C g s ⟨bU s.I7 j s.I7.length,s.J3,s.start⟩:=
 ⟨fun i c h=>by rw[dB];exact h,fun h=>Dn h hj,id⟩
theorem yx {C:Cx}{g:Nat}:∀(js:List Int) {s:Gs},(∀j∈js,JP s.I7 j)->Tr2 C g s ⟨patchL s.I7 s.I7.length js,s.J3,s.start⟩
 | [],s,_=>Tr2.refl s
 | j::js,s,h=>by
  have h1:=rC (C:=C) (g:=g) (s:=s) (h j s_);have h2:=yx (C:=C) (g:=g) js (s:=⟨bU s.I7 j s.I7.length,s.J3,s.start⟩) fun i hi=>(h i (by simp[hi])).ext h1.ext;simp only[bO]at h2;exact h1.trans h2
theorem zC {C:Cx}{s:Gs}{d code arg line:Int}{chain:List Int}(h:code=10\/code=11):JP (aC C s d code arg line chain).I7 (s.I7.length:Int):=by refine⟨o_,code,?_,h⟩;rw[bd,d7];simp[aC,bL]
theorem yA:∀(es:List Ex),es.length<=(aq es).length
 | []=>w6 _
 | a::es=>by
  have:=yA es;have:=a.toks_pos;rw[aq,c8,d5];omega
section
variable {C:Cx} {x:Sc} {ins:List Nat} {rep:Sc->List Nat->Nat->Nat->Int->Gs->Gs} {line:Nat} {G:Nat}
theorem wo (hC:CxOk C){y:Sc}(hf:0<=y.first/\y.first<=200){d i:Int}(hd:-100<=d/\d<=2000)(hi:-2<=i/\i<=100)(store:Bool):¬(cA C store=10\/cA C store=11)/\cA C store≠13/\eP (cA C store) (fu C y d i):=by
 have ha:=hC.args;have hk:mP C y i≥-10/\mP C y i<=400:=by unfold mP;split<;>omega
 have hc:1<=cA C store/\cA C store<=4:=by unfold cA;split<;>split<;>omega
 have hA:-10000<=fu C y d i/\fu C y d i<=10000:=by unfold fu;repeat' split<;>omega
 unfold eP;omega
theorem Jf (hC:CxOk C){y:Sc}(hf:0<=y.first/\y.first<=200){d i line:Int}(hd:-100<=d/\d<=2000)(hi:-2<=i/\i<=100)(hl:jV C line)(s:Gs):Tr2 C G s (Ej C y s d i line):=by obtain⟨h1,h2,h3⟩:=wo hC hf hd hi false;exact dY hl (fun k=>absurd k h1) (fun _=>h3) h2
theorem uP (hC:CxOk C){y:Sc}(hf:0<=y.first/\y.first<=200){d i line:Int}(hd:-100<=d/\d<=2000)(hi:-2<=i/\i<=100)(hl:jV C line)(s:Gs)(chain:List Int):Tr2 C G s (fP C y s d i line chain):=by obtain⟨h1,h2,h3⟩:=wo hC hf hd hi true;exact dY hl (fun k=>absurd k h1) (fun _=>h3) h2
theorem xI:eP 0 0:=by unfold eP;omega
theorem xo (hC:CxOk C){y:Sc}(hf:0<=y.first/\y.first<=200){chain:List Int}{line:Int}(hl:jV C line):∀(n:Nat) (d:Int) (s:Gs),n<=50->-100<=d-n->d<=2000->Tr2 C G s (cE C y chain line n d s)
 | 0,d,s,_,_,_=>Tr2.refl s
 | n+1,d,s,h0,h1,h2=>by
  rw[cE];exact(uP hC hf o_ o_ hl s chain).trans (xo hC hf hl n (d-1) _ o_ o_ o_)
theorem Ax (hC:CxOk C){y:Sc}(hf:0<=y.first/\y.first<=200){chain:List Int}{line d:Int}(hl:jV C line)(hd:-100<=d/\d<=1999):∀(n i:Nat) (s:Gs),i+n<=50->Tr2 C G s (dD C y chain line d n i s)
 | 0,i,s,_=>Tr2.refl s
 | n+1,i,s,h=>by
  rw[dD];exact((dY hl (fun k=>o_) (fun _=>xI) o_).trans (uP hC hf o_ o_ hl _ chain)).trans (Ax hC hf hl hd n (i+1) _ o_)
def CJ (C:Cx)(rep:Sc->List Nat->Nat->Nat->Int->Gs->Gs)(G:Nat)(x:Sc)(ins:List Nat):Prop:=
 ∀(line g:Nat) (d:Int) (s:Gs),jV C line->bT C g->-10*(ins.length:Int)<=d->d<=1000+30*ins.length+21->cL C ins g s.I7.length=true->Tr2 C G s (rep x ins line g d s)
theorem KL (hC:CxOk C)(hx:ScOk C x ins)(hi:ins.length<=4)(MA:CJ C rep G x ins)(hl:jV C line){t:LZ}(ht:fw t=true){d:Int}(h1:-10*(ins.length:Int)<=d)(h2:d<=1000+30*ins.length+21)(s:Gs):Tr2 C G s (lZ C rep x ins line t d s):=by
 obtain⟨e,e1,e2,e3,e4,e5⟩:=hx.endE hC;have Vm:=hx.first;have Tb:=pA x.J9 t.J8;unfold fw at ht;unfold lZ;split
 ·rename_i h0;rw[c7 h0]at ht;simp only[b9,within_iff]at ht;exact dY hl (fun k=>o_) (fun _=>by unfold eP;omega) o_
 ·rename_i h0;rw[b8 h0]at ht;split
  ·exact Jf hC o_ o_ o_ hl s
  ·rename_i h1;split
   ·split
    ·rename_i g hg;obtain⟨_,ln,k1,k2,_⟩:=gK hg;split
     ·rename_i hr;exact MA line g d s hl ⟨ln,k1,k2⟩ o_ o_ hr
     ·have hn:=BT C.p g;have:=aH k1;have:=hC.len;exact dY hl (fun k=>o_) (fun _=>by unfold eP;omega) o_
    ·exact Tr2.refl s
   ·rename_i h7;rw[b8 h7,b8 h1]at ht;simp only[b9,within_iff]at ht;exact dY hl (fun k=>o_) (fun _=>by unfold eP;omega) o_
mutual
theorem EP (hC:CxOk C)(hx:ScOk C x ins)(hi:ins.length<=4)(MA:CJ C rep G x ins)(hl:jV C line):∀(e:Ex) (d:Int) (s:Gs),e.ok->-10*(ins.length:Int)<=d->d+e.toks.length<=1000+30*ins.length+21->Tr2 C G s (ew C rep x ins line e d s)
 | .node t es,d,s,h,h1,h2=>by
  rw[Ex.toks,d5]at h2;rw[ew];have MZ:=yA es;exact(zO hC hx hi MA hl es d s h.2.2 h1 o_).trans (KL hC hx hi MA hl h.1 o_ o_ _)
theorem zO (hC:CxOk C)(hx:ScOk C x ins)(hi:ins.length<=4)(MA:CJ C rep G x ins)(hl:jV C line):∀(es:List Ex) (d:Int) (s:Gs),iV es->-10*(ins.length:Int)<=d->d+(aq es).length<=1000+30*ins.length+21->Tr2 C G s (cW C rep x ins line es d s)
 | [],d,s,_,_,_=>by rw[cW];exact Tr2.refl s
 | a::es,d,s,h,h1,h2=>by
  rw[aq,c8]at h2;rw[cW];have hp:=a.toks_pos;exact(EP hC hx hi MA hl a d s h.1 h1 o_).trans (zO hC hx hi MA hl es (d+1) _ h.2 o_ o_)
end
theorem HG (hl:jV C line)(x:Sc)(d:Int)(s:Gs):Tr2 C G s (cZ C x line d s):=by
 unfold cZ;split
 ·exact dY hl (fun k=>o_) (fun _=>by unfold eP;omega) o_
 ·exact Tr2.refl s
theorem Ky (hC:CxOk C)(hx:ScOk C x ins)(hi:ins.length<=3)(hl:jV C line){g:Nat}(hg:bT C g){d:Int}(h1:-10*(ins.length:Int)<=d)(h2:d<=1000+30*ins.length+21)(s:Gs):Tr2 C G s (fU C x line g d s):=by obtain⟨k1,k2⟩:=dv hC hg;have hy:=kc hC hx line hg;have hf:=hy.first;rw[c8,d5,i8]at hf;have ht:=wu hC hx;have ha:=hC.argsN g;have h0:Tr2 C G s ⟨s.I7,max s.J3 (ck C x+(localsOf C.p (g:Int)).length),s.start⟩:=⟨fun _ _ h=>h,id,fun h=>g_⟩;unfold fU;exact(h0.trans (xo hC o_ hl _ d _ o_ o_ o_)).trans (Ax hC o_ hl o_ _ _ _ o_)
structure LsI (C:Cx) (G f k:Nat) (g0:Gs) (L:Ls):Prop where
 tr:Tr2 C G g0 L.g
 J4:∀v∈L.J4,0<=v/\v<=L.g.I7.length
 pos:∀i,f+1<=i->i<k->jumps C.p i->JP L.g.I7 (atL L.pos i)
 lv:∀j∈L.lv,JP L.g.I7 j
 len:L.pos.length=C.p.length
theorem LsI.step {f k k':Nat}{g0:Gs}{L L':Ls}(h:LsI C G f k g0 L)(ht:Tr2 C G L.g L'.g)(hh:∀v∈L'.J4,v∈L.J4\/(0<=v/\v<=L'.g.I7.length))(hp:∀i,f+1<=i->i<k'->jumps C.p i->(i<k/\atL L'.pos i=atL L.pos i)\/JP L'.g.I7 (atL L'.pos i))(hv:∀j∈L'.lv,j∈L.lv\/JP L'.g.I7 j)(hl:L'.pos.length=L.pos.length):LsI C G f k' g0 L':=by
 have MZ:=ht.len;refine⟨h.tr.trans ht,fun v hv=>?_,fun i h1 h2 h3=>?_,fun j hj=>?_,by rw[hl,h.len]⟩
 ·rcases hh v hv with h1|h1
  ·have:=h.J4 v h1;omega
  ·exact h1
 ·rcases hp i h1 h2 h3 with⟨k1,k2⟩|k1
  ·rw[k2];exact(h.pos i h1 k1 h3).ext ht.ext
  ·exact k1
 ·rcases hv j hj with h1|h1
  ·exact(h.lv j h1).ext ht.ext
  ·exact h1
theorem LsI.same {f k:Nat}{g0:Gs}{L L':Ls}(h:LsI C G f k g0 L)(ht:Tr2 C G L.g L'.g)(e1:L'.J4=L.J4)(e2:L'.pos=L.pos)(e3:L'.lv=L.lv):LsI C G f k g0 L':=
 h.step ht (fun v hv=> .inl (by rw[<-e1];exact hv)) (fun i _ h2 _=> .inl ⟨h2,by rw[e2]⟩) (fun j hj=> .inl (by rw[<-e3];exact hj)) (by rw[e2])
theorem LsI.next {f k:Nat}{g0:Gs}{L:Ls}(h:LsI C G f k g0 L)(hj:¬jumps C.p k):LsI C G f (k+1) g0 L:=
 h.step (Tr2.refl _) (fun v hv=> .inl hv) (fun i h1 h2 h3=> .inl ⟨by
  rcases m7 i k with h|h
  ·exact h
  ·rw[show i=k by omega]at h3;exact absurd h3 hj,rfl⟩) (fun j hj=> .inl hj) rfl
theorem Ck (hC:CxOk C)(hw:C.I8<=255){f k k':Nat}{g0:Gs}{L:Ls}(hl:jV C (k':Int))(last:Bool)(d:Int)(h:LsI C G f k g0 L):LsI C G f k g0 (be C x k' last d L):=by
 have ha:=hC.args;have Vo:=hC.I8;unfold be;split
 ·split
  ·exact h.same (dY hl (fun k=>o_) (fun _=>by unfold eP;omega) o_) rfl rfl rfl
  ·exact h.same (dY hl (fun k=>o_) (fun _=>by unfold eP;omega) o_) rfl rfl rfl
 ·split
  ·exact h
  ·refine h.step (dY hl (fun k=>o_) (fun k=>o_) o_) (fun v hv=> .inl hv) (fun i _ h2 _=> .inl ⟨h2,rfl⟩) (fun j hj=>?_) rfl;simp only[d9,t7]at hj;rcases hj with hj|rfl
   ·exact .inl hj
   ·exact .inr (zC (.inl rfl))
theorem FO {l:List Int}{n:Int}(h:∀v∈l,0<=v/\v<=n)(hn:0<=n)(k:Nat):0<=atL l k/\atL l k<=n:=by
 unfold atL
 cases hk:l[k]? with|none=>simp only[Option.getD];omega|some v=>exact h v (c9 hk)
theorem Gm (hC:CxOk C)(hw:C.I8<=255)(hx:ScOk C x ins)(hi:ins.length<=4)(MA:CJ C rep G x ins){e:Nat}(he:endAt C.p x.f=some e){k:Nat}{ln:LP}(hk:C.p[k]?=some ln)(h0:ln.J1≠0)(hk1:x.f<k)(MO:k<=e){base:Int}(Nk:-10*(ins.length:Int)<=base)(Nc:base<=1000+30*ins.length){g0:Gs}{L:Ls}(h:LsI C G x.f k g0 L):LsI C G x.f (k+1) g0 (bH C rep x ins base k ln L):=by
 have hl:jV C (k:Int):=⟨ln,o_,by rw[d7];exact hk,h0⟩;have Nf:k<C.p.length:=aH hk;have R8:=bc hk;unfold bH;split
 ·rename_i h4;obtain⟨o1,o2,o3,o4⟩:=hx.own4 hC he hk1 MO hk h4;obtain⟨y,_,hy,Vu,_⟩:=bu o1;have hJ:=h.pos (ownOf C.p k) o2 o3 (.inl (by rw[bc hy];exact Vu));have t1:Tr2 C G L.g (aC C L.g base 10 0 k x.J0):=dY hl (fun _=>o_) (fun k=>o_) o_;have t2:=rC (C:=C) (g:=G) (hJ.ext t1.ext);refine h.step (t1.trans t2) (fun v hv=> .inl hv) (fun i h1 h2 h3=>?_) (fun j hj=> .inl hj) s_;by_cases Oz:i=k
  ·subst Oz;refine .inr ?_;rw[fA (by rw[h.len];exact Nf)];exact JP.ext t2.ext (zC (.inl rfl))
  ·exact .inl ⟨o_,gr Oz⟩
 ·rename_i h4;split
  ·rename_i h7;have O1:¬jumps C.p k:=(by unfold jumps;rw[R8];omega);split
   ·exact(Ck hC hw (x:=x) hl true (base+1) (h.same (L':={L with g:=aC C L.g base 0 0 k x.J0}) (dY hl (fun k=>o_) (fun _=>xI) o_) rfl rfl rfl)).next O1
   ·split
    ·have hh:=FO h.J4 o_ (ownOf C.p k);exact(h.same (L':={L with g:=aC C L.g base 10 (atL L.J4 (ownOf C.p k)) k x.J0}) (dY hl (fun _=>hh) (fun k=>o_) o_) rfl rfl rfl).next O1
    ·exact h.next O1
  ·rename_i h7;have P4:=hC.line _ _ hk;have OQ:=rk (P4.2.2.2.2 o_);have N3:=P4.2.2.2.1;rw[OQ.2]at N3
   have tg:Tr2 C G L.g (ew C rep x ins k (exL ln.K9) base ⟨L.g.I7,L.g.J3,true⟩):=by have:=EP hC hx hi MA hl (exL ln.K9) base ⟨L.g.I7,L.g.J3,true⟩ OQ.1 Nk o_;exact⟨this.ext,this.inv,this.J3⟩
   have QC:LsI C G x.f k g0 {L with g:=ew C rep x ins k (exL ln.K9) base ⟨L.g.I7,L.g.J3,true⟩,J4:=L.J4.set k L.g.I7.length}:=by
    refine h.step tg (fun v hv=>?_) (fun i _ h2 _=> .inl ⟨h2,rfl⟩) (fun j hj=> .inl hj) rfl;rcases u6 hv with hv|rfl
    ·exact .inl hv
    ·exact .inr ⟨o_,by have:=tg.len;simp only;omega⟩
   have Tb:=pA x.J9 ln.J8;obtain⟨_,_,_,_,_,e5⟩:=hx.endE hC;have Vm:=hx.first;generalize ew C rep x ins k (exL ln.K9) base ⟨L.g.I7,L.g.J3,true⟩=GE at tg QC⊢;split
   ·rename_i k1;have O1:¬jumps C.p k:=(by unfold jumps;rw[R8];omega);have t2:Tr2 C G GE (fP C x GE (base+1) (dG x.J9 ln.J8) k x.J0):=uP hC o_ o_ o_ hl _ _;exact(QC.same (L':={L with g:=fP C x GE (base+1) (dG x.J9 ln.J8) k x.J0,J4:=L.J4.set k L.g.I7.length}) t2 rfl rfl rfl).next O1
   ·split
    ·rename_i k2;have O1:¬jumps C.p k:=(by unfold jumps;rw[R8];omega);have t2:Tr2 C G GE (aC C GE (base+1) 17 0 k x.J0):=dY hl (fun k=>o_) (fun _=>by unfold eP;omega) o_;exact(QC.same (L':={L with g:=aC C GE (base+1) 17 0 k x.J0,J4:=L.J4.set k L.g.I7.length}) t2 rfl rfl rfl).next O1
    ·split
     ·rename_i k6;have O1:¬jumps C.p k:=(by unfold jumps;rw[R8];omega);exact(Ck hC hw (x:=x) hl false (base+1) QC).next O1
     ·refine QC.step (dY hl (fun _=>o_) (fun k=>o_) o_) (fun v hv=> .inl hv) (fun i h1 h2 h3=>?_) (fun j hj=> .inl hj) s_;by_cases Oz:i=k
      ·subst Oz;refine .inr ?_;rw[fA (by rw[h.len];exact Nf)];exact zC (.inr rfl)
      ·exact .inl ⟨o_,gr Oz⟩
theorem HW (hC:CxOk C)(hx:ScOk C x ins){e:Nat}(he:endAt C.p x.f=some e){k:Nat}{ln:LP}(hk:C.p[k]?=some ln)(hk1:x.f<k)(MO:k<=e){g0:Gs}{L:Ls}(h:LsI C G x.f (k+1) g0 L):LsI C G x.f (k+1) g0 (bB C x k ln L):=by
 unfold bB;split
 ·rename_i h7
  have NF:k≠e:=fun hh=>by
   rcases(hx.own7 hC he hk1 MO hk h7.1).2 with⟨_,o⟩|⟨o,_⟩
   ·exact h7.2 o
   ·omega
  obtain⟨k1,k2,k3,_,_⟩:=zy hC hx he hk1 o_ hk h7.1;exact h.same (rC (h.pos _ k1 o_ k3)) rfl rfl rfl
 ·exact h
theorem Er (hC:CxOk C)(hw:C.I8<=255)(hx:ScOk C x ins)(hi:ins.length<=4)(MA:CJ C rep G x ins){e:Nat}(he:endAt C.p x.f=some e){base:Int}(Nk:-10*(ins.length:Int)<=base)(Nc:base<=1000+30*ins.length)(h0:∀i y,x.f<i->i<=e->C.p[i]?=some y->y.J1≠0){g0:Gs}:∀(n k:Nat) (L:Ls),x.f<k->k+n=e+1->LsI C G x.f k g0 L->LsI C G x.f (e+1) g0 (dI C rep x ins base n k L)
 | 0,k,L,_,h2,h=>by rw[dI,<-h2];exact h
 | n+1,k,L,h1,h2,h=>by
  obtain⟨_,_,_,_,_,M6⟩:=aN he;obtain⟨ln,hk⟩:=ae (l:=C.p) (k:=k) o_;rw[dI,hk];exact Er hC hw hx hi MA he Nk Nc h0 n (k+1) _ o_ o_ (HW hC hx he hk h1 o_ (Gm hC hw hx hi MA he hk (h0 k ln h1 o_ hk) h1 o_ Nk Nc h))
theorem yo (hC:CxOk C)(hw:C.I8<=255)(hx:ScOk C x ins)(hi:ins.length<=4)(MA:CJ C rep G x ins){base:Int}(Nk:-10*(ins.length:Int)<=base)(Nc:base<=1000+30*ins.length)(s:Gs):Tr2 C G s (bq C rep x ins base s).1/\∀j∈(bq C rep x ins base s).2,JP (bq C rep x ins base s).1.I7 j:=by
 obtain⟨ln,h1,h2⟩:=hx.fn;obtain⟨e,h3,_,_,h4⟩:=hC.fn _ _ h1 h2;obtain⟨e',g3,g4,Sk,g5,_⟩:=hx.endE hC;rw[h3]at g3;injection g3 with g3;subst g3
 have h:=Er hC hw hx hi MA h3 Nk Nc (fun i y k1 k2 hy=>by
  by_cases Oc:i=e
  ·subst Oc;obtain⟨z,hz,h7⟩:=bK h3;rw[hy]at hz;injection hz with hz;subst hz;omega
  ·exact(h4 i y o_ o_ hy).1) (g0:=s) (e-x.f) (x.f+1) (cv C s) o_ o_ ⟨Tr2.refl s,fun v hv=>by
   simp only[cv,D3]at hv
   omega,fun i k1 k2 _=>o_,fun j hj=>(by cases hj),by simp[cv]⟩
 unfold bq;rw[g5];exact⟨h.tr,h.lv⟩
end
theorem DS {C:Cx}{G:Nat}(hC:CxOk C)(hw:C.I8<=255):∀(lev:Nat) {x:Sc} {ins:List Nat},ScOk C x ins->CJ C (cK C lev) G x ins
 | 0,x,ins,hx,line,g,d,s,_,_,_,_,_=>Tr2.refl s
 | lev+1,x,ins,hx,line,g,d,s,hl,hg,h1,h2,hr=>by
  obtain⟨r1,r2,r3,_⟩:=fN hr;have hin:=hC.inl;have hy:=kc hC hx line hg;have ha:=hC.argsN g;have Ny:(ins++[g]).length=ins.length+1:=s_;have t1:=Ky (G:=G) hC hx o_ hl hg h1 h2 s;have t2:=HG (G:=G) hl x (d-argsN C.p g) (fU C x line g d s);have t3:=yo (G:=G) hC hw hy o_ (DS hC hw lev hy) (base:=d-argsN C.p g) o_ o_ (cZ C x line (d-argsN C.p g) (fU C x line g d s));exact((t1.trans t2).trans t3.1).trans (yx _ t3.2)
theorem BX {C:Cx}(hC:CxOk C)(hw:C.I8<=255){g:Nat}(hg:bT C g)(e5:C.args=argsN C.p g):InvI C g (dH C g).I7/\(dH C g).J3<=60:=by
 have hS:ScOk C (bb C g) [g]:=⟨hg,rfl,⟨v2 _,by simp[bb]⟩,rfl,by simp[bb],fun _=>e5,rfl⟩;have Vo:=hC.I8;have t:=(yo (G:=g) hC hw hS s_ (DS hC hw C.b.Md.toNat hS) (base:=C.I8) (by simp only[d5,i8];omega) (by simp only[d5,i8];omega) (dQ C g)).1;obtain⟨l1,l2⟩:=dv hC hg;refine⟨t.inv ⟨_,[],rfl,⟨?_,rfl,rfl⟩,fun it h=>by cases h⟩,t.J3 ?_⟩
 ·simp only[bL];split<;>omega
 ·show(localsOf C.p (g:Int)).length-C.args<=60;omega
theorem pS {p:List LP}{f:Int}{b:LG}(hs:aw 1048576 (.lst 4 (p.map LP.tr)))(h1:ah p=true)(h2:aS b=true)(h3:0<=f)(h4:f<(ay p).length):∃(g:Nat) (C:Cx),(ay p)[f.toNat]?=some g/\C.p=foldIf p b/\0<=C.I8/\C.I8<=255/\InvI C g (az p f b):=by
 obtain⟨g,C,k1,k2,k3,k4,k5,k6,k7,k8,k9⟩:=jP hs h1 h2 h3 h4
 have hb:0<=b.Md/\b.Md<=3:=by exact V113
 have Qq:=(zn hs h1).foldIf b;have ha:(0:Int)<=(argsN (foldIf p b) g:Int)/\(argsN (foldIf p b) g:Int)<=4:=by have:=k2.argsN g;rw[k3]at this;omega
 have Th:CxOk (ctx (foldIf p b) f.toNat g b 0):=Qq.cx ha o_ hb;obtain⟨y,y1,y2⟩:=k7;have ZV:bT (ctx (foldIf p b) f.toNat g b 0) g:=⟨y,by rw[k3]at y1;exact y1,y2⟩;have QJ:=(BX Th (by show(0:Int)<=255;omega) ZV rfl).2;have hw:=k2.I8;refine⟨g,C,k1,k3,hw.1,o_,?_⟩;rw[k8];exact(BX k2 o_ ⟨y,y1,y2⟩ k5).1
end Go.Proofs.P
namespace Go.Proofs.P
open Go.Sim Tryz
def iO (m:LQ)(most:Int):Ma:=if cI m=true/\0<=most then⟨m.K0,m.J5,m.L0,(m.Mg.drop m.J5.toNat).take most.toNat⟩else⟨0,0,0,[]⟩
theorem Fu {m:LQ}{most:Int}(h:¬(cI m=true/\0<=most)):iO m most=⟨0,0,0,[]⟩:=by rw[iO,b8 h]
theorem machineOk_iff {m:LQ}:cI m=true↔m.Mg.length=1200/\(0<=m.J5/\m.J5<=1200)/\(0<=m.L6/\m.L6<=2):=by unfold cI;rw[b9,b9,within_iff,within_iff,w8];exact⟨fun h=>⟨h.1.1,h.1.2,h.2⟩,fun h=>⟨⟨h.1,h.2.1⟩,h.2.2⟩⟩
theorem Q24{p:Prop}(h:p:=by exact⟨⟨rfl,bZ _⟩⟩):p:=h
theorem tT (v:Ma)(hl:v.Mb.length<=1048576):Sim.Spec prog 73 [.agg v.tr] (.r (.agg (v.tr.map tD))):=by
 refine ak hΓ aG func73 rfl d_ rfl ?_;repeat' ((conv=>whnf);first|refine Or.inl ?_|apply oi|apply fi|intro h|exact Y1|refine e_ rfl ?_)
 all_goals try exact Q15
 all_goals try exact Q24
theorem xb (m:LQ)(most:Int):Sim.Spec prog 15 [.agg m.tr,tvI most] (.r (.agg ((iO m most).tr.map tD))):=by
 refine ak hΓ aG func15 rfl d_ rfl ?_;have hs:=kN m;by_cases hc:cI m=true/\0<=most
 ·obtain⟨OS,RE⟩:=hc;have hi:=machineOk_iff.1 OS;obtain⟨sp,NC⟩:=j6 hi.2.1.1;obtain⟨mo,rfl⟩:=j6 RE
  have QI:((m.Mg.map aa).take (sp+min mo (1200-sp))).drop sp=((m.Mg.drop m.J5.toNat).take mo).map aa:=by
   rw[G8,NC,d7,y8,A9,D1];rcases Nat.le_total mo (1200-sp)with h|h
   ·rw[y6 h]
   ·rw[Nat.min_eq_right h,gt aab,gt aab]
  rw[iO,c7 ⟨OS,RE⟩,d7];rw[OS]at hs;have Nl:IntKind.i64.wrap (1200-m.J5)=((1200-sp:Nat):Int):=by rw[c6 _ o_];omega
  repeat' ((conv=>whnf);first|refine Or.inl ?_|apply oi|apply fi|intro h|refine ci hs (ai (ai rfl (ai rfl (ai rfl (ai rfl (ai rfl (ai rfl (ai rfl trivial))))))) trivial) ?_|exact Y1|refine e_ rfl ?_)
  all_goals try(exfalso;have h':=f0 h;omega;done)
  conv=>whnf
  refine⟨sp,sp+min mo (1200-sp),NC,?_,o_,by simp[hi.1];omega,?_⟩
  ·show IntKind.i64.wrap (m.J5+(if _<(mo:Int)then _ else(mo:Int)))=((sp+min mo (1200-sp):Nat):Int);rw[Nl];split
   ·rw[c6 _ o_];omega
   ·rw[c6 _ o_];omega
  rw[QI];repeat' ((conv=>whnf);first|refine Or.inl ?_|apply oi|apply fi|intro h|exact Y1|refine e_ rfl ?_)
  all_goals try exact Q15
  all_goals try exact Q24
 ·have hv:=Fu hc;rw[hv];repeat' ((conv=>whnf);first|refine Or.inl ?_|apply oi|apply fi|intro h|refine ci hs (ai (ai rfl (ai rfl (ai rfl (ai rfl (ai rfl (ai rfl (ai rfl trivial))))))) trivial) ?_|exact Y1|refine e_ rfl ?_)
  exfalso;exact hc ⟨by simp_all,by have:=f9 (by assumption:decide (most<0)=false);omega⟩
theorem vw {α:Type}{g:α->List Tr}{L:Int}:∀{l:List α},(∀x∈l,aF L (g x))->eH L (l.map g)
 | [],_=>by rw[C5,eH];trivial
 | x::l,h=>by
  rw[p7,eH];exact⟨h x s_,vw fun y hy=>h y aaJ⟩
theorem fT {α:Type}{g:α->List Tr}{l:List α}{sz:Nat}(hl:l.length<=1048576)(h:∀x∈l,aF 1048576 (g x)):aw 1048576 (.lst sz (l.map g)):=by rw[aw];exact⟨by simp;omega,vw h⟩
theorem lm {l:List Int}(hl:l.length<=1048576):aw 1048576 (.lst 1 (l.map aa)):=fT hl fun x _=>by simp[aa,aF,aw]
theorem wd {l:List LW}(hl:l.length<=1048576):aw 1048576 (.lst 4 (l.map LW.tr)):=fT hl fun x _=>by simp[LW.tr,aF,aw]
def aX (c:Int):Int×Bool:=
 if c=0 then(4,true)else if c=1\/c=2\/c=3\/c=4\/c=10\/c=11 then(2,true)
 else if c=16 then(2,false)else if c=12\/c=13\/c=14\/c=15 then(1,false)else(0,false)
def aE (c:Int):Int:=if af c 0 17 then(aX c).1+1 else 0
theorem dP (c:Int):0<=(aX c).1/\(aX c).1<=4:=by
 unfold aX;repeat' split
 all_goals simp
theorem gQ (c:Int):0<=aE c/\aE c<=5:=by have:=dP c;unfold aE;split<;>omega
abbrev I_ (c:Int):Res:= .tup [.c (.t (.int .i64 (aX c).1)),.c (.t (.bool (aX c).2))]
theorem V78{p:Prop}(h:p:=by
 repeat' ((conv=>whnf);first|refine Or.inl ?_|apply oi|apply fi|intro h|exact Y1|refine e_ rfl ?_)
 all_goals(refine⟨?_⟩;simp_all[aX])):p:=h
theorem lY (c:Int):Sim.Spec prog 220 [tvI c] (I_ c):=by refine ak hΓ aG func220 rfl d_ rfl ?_;exact V78
theorem fK (c:Int):Sim.Spec prog 131 [tvI c] (I_ c):=by refine ak hΓ aG func131 rfl d_ rfl ?_;exact V78
theorem V66{p:Prop}(h:p:=by
 rw[hw]at hb
 repeat' ((conv=>whnf);first|refine Or.inl ?_|apply oi|apply fi|intro h|refine ci hb (ai rfl (ai rfl (ai rfl trivial))) ?_|exact Y1|refine e_ rfl ?_)):p:=h
theorem wS (c:Int):Sim.Spec prog 160 [tvI c] (rI (aE c)):=by
 refine ak hΓ aG func160 rfl d_ rfl ?_;have hb:=ba c 0 17;have ha:=lY c;have MZ:=dP c;unfold aE
 cases hw:af c 0 17 with
 | false=>exact V66
 | true=>
  rw[hw]at hb;repeat' ((conv=>whnf);first|refine Or.inl ?_|apply oi|apply fi|intro h|refine ci hb (ai rfl (ai rfl (ai rfl trivial))) ?_|refine ci ha (ai rfl trivial) ?_|exact Y1|refine e_ rfl ?_)
  exact⟨by rw[c6 _ o_];rfl⟩
theorem ki (c:Int):Sim.Spec prog 59 [tvI c] (rI (aE c)):=by
 refine ak hΓ aG func59 rfl d_ rfl ?_;have hb:=aP c 0 17;have ha:=fK c;have MZ:=dP c;unfold aE
 cases hw:af c 0 17 with
 | false=>exact V66
 | true=>
  rw[hw]at hb;repeat' ((conv=>whnf);first|refine Or.inl ?_|apply oi|apply fi|intro h|refine ci hb (ai rfl (ai rfl (ai rfl trivial))) ?_|refine ci ha (ai rfl trivial) ?_|exact Y1|refine e_ rfl ?_)
  exact⟨by rw[c6 _ o_,Int.add_comm];rfl⟩
def wv (l:List LU):Bool:=l.all fun x=>af x.Mf 0 1000000
theorem Jy {l:List LU}{k:Nat}{x:LU}(hx:l[k]?=some x):wv (l.drop k)=(af x.Mf 0 1000000&&wv (l.drop (k+1))):=by rw[cF hx,wv,E7];rfl
theorem Hz {l:List LU}(h:wv l=true):∀x∈l,0<=x.Mf/\x.Mf<=1000000:=fun x hx=>within_iff.1 (o8.1 h x hx)
theorem uM (l:List LU)(hl:l.length<=1048576):Sim.Spec prog 58 [tvL 8 (l.map LU.tr)] (rB (wv l)):=by
 refine ak hΓ aG func58 rfl d_ rfl ?_;have Mw:(l.map LU.tr).length=l.length:=s_;repeat' ((conv=>whnf);first|refine Or.inl ?_|apply oi|apply fi|intro h|exact Y1|refine e_ rfl ?_)
 conv=>whnf
 refine⟨{k:Nat//k<=l.length/\wv (l.drop k)=wv l},fun k=>⟨[(0,.r (.c (.t (.lst 8 (l.map LU.tr))))),(3,tI .i64 (k.1:Int))],[],[]⟩,fun k=>l.length-k.1,⟨0,o_,rfl⟩,?_,?_⟩
 ·exact Z1
 intro⟨k,hk,hr⟩;dsimp only;by_cases Mz:k<l.length
 ·obtain⟨x,hx⟩:=ae Mz;have hb:=aP x.Mf 0 1000000;rw[Jy hx]at hr
  cases hw:af x.Mf 0 1000000 with
  | false=>
   rw[hw]at hb hr;repeat' ((conv=>whnf);first|refine Or.inl ?_|apply oi|apply fi|intro h|refine⟨k,x.tr,rfl,ab hx,?_⟩|refine ci hb (ai rfl (ai rfl (ai rfl trivial))) ?_|exact Y2|refine e_ rfl ?_)
   all_goals exact⟨by rw[<-hr];rfl⟩
  | true=>
   rw[hw,m9]at hr;rw[hw]at hb;repeat' ((conv=>whnf);first|refine Or.inl ?_|apply oi|apply fi|intro h|refine⟨k,x.tr,rfl,ab hx,?_⟩|refine ci hb (ai rfl (ai rfl (ai rfl trivial))) ?_|exact Y2|refine e_ rfl ?_)
   conv=>whnf
   refine⟨⟨k+1,o_,hr⟩,?_,KD⟩;exact Z3
 ·have MT:l.length<=k:=o_;rw[n9 MT]at hr;repeat' ((conv=>whnf);first|refine Or.inl ?_|apply oi|apply fi|intro h|exact Y2|refine e_ rfl ?_)
  exact⟨by rw[<-hr];rfl⟩
def cR (x:LU):LW:=⟨x.Mf,x.Mf+aE x.L3.J2.I9,x.L3.Mn,x.L3.Me⟩
def uU (r s:LW):Bool:=r.Mh==s.L4&&(r.Ml==s.Ml&&r.Me==s.Me)
def eY (acc:List LW)(s:LW):List LW:=match acc.getLast? with
 | some r=>if uU r s then acc.dropLast++[⟨r.L4,s.Mh,r.Ml,r.Me⟩]else acc++[s]
 | none=>[s]
def bF (l:List LU):List LW:=if wv l then l.foldl (fun a x=>eY a (cR x)) []else []
theorem mx {α:Type}(l:List α):l=[]\/∃ini r,l=ini++[r]:=by
 rcases List.eq_nil_or_concat l with h|⟨a,b,h⟩
 ·exact .inl h
 ·exact .inr ⟨a,b,by rw[h,List.concat_eq_append]⟩
theorem kY (ini:List LW)(r s:LW):eY (ini++[r]) s=if uU r s then ini++[⟨r.L4,s.Mh,r.Ml,r.Me⟩]else ini++[r]++[s]:=by simp[eY]
theorem sV (acc:List LW)(s:LW):(eY acc s).length<=acc.length+1:=by
 rcases mx acc with rfl|⟨ini,r,rfl⟩
 ·simp[eY]
 ·rw[kY];split<;>simp
abbrev Lj (l:List LU):={q:Nat×List LW//q.1<=l.length/\q.2.length<=q.1/\(l.drop q.1).foldl (fun a x=>eY a (cR x)) q.2=l.foldl (fun a x=>eY a (cR x)) []}
theorem ni (l:List LU)(hl:l.length<=1048576):Sim.Spec prog 11 [tvL 8 (l.map LU.tr)] (rL 4 ((bF l).map LW.tr)):=by
 refine ak hΓ aG func11 rfl d_ rfl ?_;have Mw:(l.map LU.tr).length=l.length:=s_;have S4:=uM l hl;unfold bF
 cases hn:wv l with
 | false=>
  rw[hn]at S4;rw[b8 s_]
  repeat' ((conv=>whnf);first|refine Or.inl ?_|apply oi|apply fi|intro h|refine ci S4 (ai rfl trivial) ?_|exact Y1|refine e_ rfl ?_)
 | true=>
  rw[hn]at S4;have Pz:=Hz hn;rw[c7 rfl];repeat' ((conv=>whnf);first|refine Or.inl ?_|apply oi|apply fi|intro h|refine ci S4 (ai rfl trivial) ?_|exact Y1|refine e_ rfl ?_)
  conv=>whnf
  refine⟨Lj l,fun q=>⟨[(0,.r (.c (.t (.lst 8 (l.map LU.tr))))),(3,.r (.c (.own (8,0,0)))),(4,tI .i64 (q.1.1:Int))],[((8,0,0),some (.arr true 4 (q.1.2.map LW.tr)))],[8]⟩,fun q=>l.length-q.1.1,⟨(0,[]),s_,s_,s_⟩,?_,?_⟩
  ·exact Z1
  intro⟨⟨k,acc⟩,hk,M5,hr⟩;dsimp only at hk M5 hr⊢;by_cases Mz:k<l.length
  ·obtain⟨x,hx⟩:=ae Mz;have VB:=Pz x (c9 hx);have hz:=gQ x.L3.J2.I9;have ho:=ki x.L3.J2.I9;have R6:cR x=⟨x.Mf,x.Mf+aE x.L3.J2.I9,x.L3.Mn,x.L3.Me⟩:=rfl;have Nl:IntKind.i64.wrap (x.Mf+aE x.L3.J2.I9)=x.Mf+aE x.L3.J2.I9:=c6 _ o_;rw[cF hx,E9]at hr;have NW:=sV acc (cR x);rcases mx acc with rfl|⟨ini,r,rfl⟩
   ·repeat' ((conv=>whnf);first|refine Or.inl ?_|apply oi|apply fi|intro h|refine⟨k,x.tr,rfl,ab hx,?_⟩|refine ci ho (ai rfl trivial) ?_|exact Y2|refine e_ rfl ?_)
    all_goals try exact⟨⟨s_,s_⟩⟩
    conv=>whnf
    refine⟨⟨(k+1,eY [] (cR x)),g_,by dsimp only;simp only[i8]at NW;omega,hr⟩,?_,KD⟩;repeat' ((conv=>whnf);first|refine Or.inl ?_|apply oi|apply fi|intro h|exact Y3|refine e_ rfl ?_)
    all_goals exact⟨by dsimp only;rw[Nl];rfl⟩
   ·have Ny:ini.length+1<=k:=by simpa using M5
    have YL:IntKind.i64.wrap ((((ini++[r]).map LW.tr).length:Nat)-1:Int)=(ini.length:Int):=by rw[e7,c8,List.length_singleton,c6 _ o_];omega
    have Vg:((ini++[r]).map LW.tr)[ini.length]?=some r.tr:=(by rw[u4];exact Jh s_);rw[kY]at hr NW;repeat' ((conv=>whnf);first|refine Or.inl ?_|apply oi|apply fi|intro h|refine⟨k,x.tr,rfl,ab hx,?_⟩|refine ci ho (ai rfl trivial) ?_|refine⟨ini.length,YL,?_⟩|refine⟨r.tr,Vg,?_⟩|exact Y2|refine e_ rfl ?_)
    all_goals try(exfalso;have h':=f9 h;rw[e7,c8,List.length_singleton]at h';omega;done)
    all_goals try exact⟨s_⟩
    all_goals try exact Q15
    all_goals conv=>whnf
    all_goals first
     |(have hj:uU r (cR x)=true:=by simp_all[uU]
       rw[c7 hj]at hr NW
       refine⟨⟨(k+1,ini++[⟨r.L4,(cR x).Mh,r.Ml,r.Me⟩]),g_,by simp;omega,hr⟩,?_,KD⟩)
     |(have hj:uU r (cR x)=false:=by simp_all[uU]
       rw[b8 (by rw[hj];simp)]at hr NW
       refine⟨⟨(k+1,ini++[r]++[cR x]),g_,by simp;omega,hr⟩,?_,KD⟩)
    repeat' ((conv=>whnf);first|refine Or.inl ?_|apply oi|apply fi|intro h|exact Y3|refine e_ rfl ?_)
    all_goals first
     | exact⟨by dsimp only;rw[Nl,R6];simp[LW.tr]⟩
     | exact⟨by dsimp only;rw[Nl,R6,u4,p7,C5,IW s_,u4];rfl⟩
  ·have MT:l.length<=k:=o_;rw[n9 MT,List.foldl_nil]at hr;repeat' ((conv=>whnf);first|refine Or.inl ?_|apply oi|apply fi|intro h|exact Y2|refine e_ rfl ?_)
   all_goals exact⟨by rw[hr]⟩
theorem mq:∀(l:List LU) (acc:List LW),(l.foldl (fun a x=>eY a (cR x)) acc).length<=acc.length+l.length
 | [],acc=>s_
 | x::l,acc=>by
  have h1:=mq l (eY acc (cR x));have h2:=sV acc (cR x);rw[E9,d5];omega
theorem pQ {l:List LU}(h:aw 1048576 (.lst 8 (l.map LU.tr))):(bF l).length<=1048576:=by
 have h1:=bE h;have h2:=mq l [];unfold bF;split
 ·simp only[i8]at h2;omega
 ·simp
def aZ:Int->List LO->List Int
 | at0,[]=>[at0]
 | at0,x::l=>at0::aZ (at0+aE x.J2.I9) l
def zD (at0:Int)(l:List LO):Int:=atL (aZ at0 l) l.length
def yP (x:LO)(a:Int):LO:=⟨⟨x.J2.I9,a⟩,x.Mi,x.L4,x.Mm,x.Me,x.Mn⟩
def oM (x:LO):Bool:=x.J2.I9==10||x.J2.I9==11
def cN (st:List Int)(k:Nat)(x:LO):LO:=if oM x=true then yP x (atL st x.J2.J7.toNat-atL st (k+1))else x
def nD (st:List Int):Nat->List LO->List LU
 | _,[]=>[]
 | k,x::l=>⟨atL st k,cN st k x⟩::nD st (k+1) l
def il (l:List LO)(at0:Int):List LU:=nD (aZ at0 l) 0 l
theorem sn:∀(at0:Int) (l:List LO),(aZ at0 l).length=l.length+1
 | _,[]=>rfl
 | at0,x::l=>by rw[aZ,d5,sn,d5]
theorem gg (at0:Int)(l:List LO):atL (aZ at0 l) 0=at0:=by cases l<;>rfl
theorem uT (a:Int)(l:List Int)(k:Nat):atL (a::l) (k+1)=atL l k:=by simp[atL]
theorem fY:∀{at0:Int} {l:List LO} {k:Nat} {x:LO},l[k]?=some x->atL (aZ at0 l) (k+1)=atL (aZ at0 l) k+aE x.J2.I9
 | _,[],_,_,h=>by simp at h
 | at0,y::l,0,x,h=>by
  rw[e8]at h;injection h with h;subst h;rw[aZ,uT,gg]
  rfl
 | at0,y::l,k+1,x,h=>by
  rw[j8]at h;rw[aZ,uT,uT,fY h]
theorem ju {at0:Int}{l:List LO}:∀{k:Nat},k<=l.length->at0<=atL (aZ at0 l) k/\atL (aZ at0 l) k<=at0+5*k
 | 0,_=>by rw[gg];omega
 | k+1,h=>by
  obtain⟨x,hx⟩:=ae (l:=l) (k:=k) o_;have:=ju (at0:=at0) (l:=l) (k:=k) o_;have:=gQ x.J2.I9;rw[fY hx];omega
theorem yU {l:List Int}{k:Nat}(h:k<l.length):l[k]?=some (atL l k):=by obtain⟨x,hx⟩:=ae h;rw[atL,hx];rfl
theorem dx {α:Type}{l:List α}{k:Nat}{x:α}(h:l[k]?=some x):l.take (k+1)=l.take k++[x]:=by rw[B2,h];rfl
theorem sY (st:List Int):∀(k:Nat) (l:List LO),(nD st k l).length=l.length
 | _,[]=>rfl
 | k,x::l=>by rw[nD,d5,sY,d5]
theorem sD (st:List Int):∀{l:List LO} {j k:Nat} {x:LO},l[j]?=some x->(nD st k l)[j]?=some ⟨atL st (k+j),cN st (k+j) x⟩
 | [],_,_,_,h=>by simp at h
 | y::l,0,k,x,h=>by
  rw[e8]at h;injection h with h;subst h
  rfl
 | y::l,j+1,k,x,h=>by
  rw[j8]at h;rw[nD,j8,sD st h,show k+1+j=k+(j+1) by omega]
theorem dV (l:List LO)(at0:Int):(il l at0).length=l.length:=sY _ _ _
theorem eM {l:List LO}{at0:Int}{j:Nat}{x:LO}(h:l[j]?=some x):(il l at0)[j]?=some ⟨atL (aZ at0 l) j,cN (aZ at0 l) j x⟩:=by have:=sD (aZ at0 l) (k:=0) h;rwa [u5]at this
def ED (l:List LO):Prop:=∀x∈l,oM x=true->0<=x.J2.J7/\x.J2.J7<=l.length
theorem isJump_iff {x:LO}:oM x=true↔x.J2.I9=10\/x.J2.I9=11:=by simp[oM]
def sl (b:LG)(image:Int)(f:Nat):Bool:=if b.Mt=true then(f:Int)%2==image else image==0
noncomputable def bV (p:List LP) (b:LG) (image:Int):Nat->Nat->Int->List (Nat×List LU)
 | 0,_,_=>[]
 | n+1,f,at0=>if sl b image f=true then(f,il (az p f b) at0)::bV p b image n (f+1) (zD at0 (az p f b))else bV p b image n (f+1) at0
noncomputable def aM (p:List LP) (b:LG) (image:Int):List LU:=
 if ah p=true/\aS b=true/\af image 0 1=true then((bV p b image (ay p).length 0 0).map Prod.snd).flatten else []
structure FnOk (p:List LP) (b:LG) (f:Nat):Prop where
 pos:0<(az p f b).length
 len:(az p f b).length<=2500
 jmp:ED (az p f b)
theorem InvI.jumps {C:Cx}{g:Nat}{l:List LO}(h:InvI C g l):0<l.length/\ED l:=by
 obtain⟨a,t,rfl,h2,h3⟩:=h;refine⟨s_,fun x hx hj=>?_⟩;rw[isJump_iff]at hj;rcases d6.1 hx with rfl|hx
 ·have:=h2.1;omega
 ·exact(h3 x hx).jump hj
theorem JY {p:List LP}{b:LG}(hs:aw 1048576 (.lst 4 (p.map LP.tr)))(h1:ah p=true)(h2:aS b=true){f:Nat}(h:f<(ay p).length):FnOk p b f:=by obtain⟨g,C,_,_,_,_,hi⟩:=pS (f:=(f:Int)) hs h1 h2 o_ o_;exact⟨hi.jumps.1,(jf hs).1,hi.jumps.2⟩
theorem fB {p:List LP}(h1:ah p=true):(ay p).length<=6/\p.length<=60:=by rw[sW]at h1;simp only[b9,j5]at h1;exact⟨h1.2.1,h1.1⟩
theorem Ja {l:List LO}{at0:Int}:at0<=zD at0 l/\zD at0 l<=at0+5*l.length:=ju (d8 _)
theorem nI {p:List LP}{b:LG}{image:Int}{n f:Nat}{at0:Int}:bV p b image (n+1) f at0=if sl b image f=true then(f,il (az p f b) at0)::bV p b image n (f+1) (zD at0 (az p f b))else bV p b image n (f+1) at0:=rfl
abbrev Lm (p:List LP)(b:LG)(image:Int):={q:Nat×Int×List (Nat×List LU)//q.1<=(ay p).length/\(0<=q.2.1/\q.2.1<=12500*q.1)/\q.2.2.length<=q.1/\q.2.2++bV p b image ((ay p).length-q.1) q.1 q.2.1=bV p b image (ay p).length 0 0}
theorem iz (p:List LP)(b:LG)(image:Int):∀(n f:Nat) (at0:Int),(bV p b image n f at0).length<=n
 | 0,_,_=>d8 _
 | n+1,f,at0=>by
  rw[bV];split
  ·have:=iz p b image n (f+1) (zD at0 (az p f b));rw[d5];omega
  ·have:=iz p b image n (f+1) at0;omega
theorem iD {p:List LP}{b:LG}(hs:aw 1048576 (.lst 4 (p.map LP.tr))){image:Int}:∀{n f:Nat} {at0:Int} {x:Nat×List LU},x∈bV p b image n f at0->x.2.length<=2500/\∀y∈x.2,y.L3.Mm.length<=4
 | 0,_,_,_,h=>by cases h
 | n+1,f,at0,x,h=>by
  rw[bV]at h;split at h
  ·rcases d6.1 h with rfl|h
   ·obtain⟨c1,c2⟩:=jf (p:=p) (f:=(f:Int)) (b:=b) hs;refine⟨by rw[dV];exact c1,fun y hy=>?_⟩;obtain⟨j,hj⟩:=C3 hy;have NP:=aH hj;rw[dV]at NP;obtain⟨z,hz⟩:=ae NP;rw[eM hz]at hj;injection hj with hj;subst hj;have:(cN (aZ at0 (az p f b)) j z).Mm=z.Mm:=(by unfold cN;split<;>rfl);rw[this];exact c2 z (c9 hz)
   ·exact iD hs h
  ·exact iD hs h
def ax (L:List (Nat×List LU)):List LU:=(L.map Prod.snd).flatten
theorem Dw {L:List (Nat×List LU)}{k:Nat}{x:Nat×List LU}(h:L[k]?=some x):ax (L.take (k+1))=ax (L.take k)++x.2:=by rw[dx h];simp[ax]
theorem kU {L:List (Nat×List LU)}(h:∀x∈L,x.2.length<=2500):∀{k:Nat},k<=L.length->(ax (L.take k)).length<=2500*k
 | 0,_=>by simp[ax]
 | k+1,hk=>by
  obtain⟨x,hx⟩:=ae (l:=L) (k:=k) o_;have:=kU h (k:=k) o_;have:=h x (c9 hx);rw[Dw hx,c8];omega
def DI (it:LO):Prop:=0<=it.Me/\it.Me<=1200/\(it.Mn=true->it.Me=0)
def Dp (a b:Gs):Prop:=(∀it∈a.I7,DI it)->∀it∈b.I7,DI it
theorem Dp.refl (s:Gs):Dp s s:=id
theorem Dp.trans {a b c:Gs}(h:Dp a b)(h':Dp b c):Dp a c:=fun x=>h' (h x)
theorem Dp.same {a b b':Gs}(h:Dp a b)(e:b'.I7=b.I7):Dp a b':=fun x=>by rw[e];exact h x
theorem dg {C:Cx}{s:Gs}{d code arg line:Int}{chain:List Int}(h:0<=d/\d<=1200):Dp s (aC C s d code arg line chain):=by
 intro hs it Nt;simp only[aC,d9,t7]at Nt;rcases Nt with Nt|rfl
 ·exact hs it Nt
 ·unfold bL DI;dsimp only;by_cases hf:C.J6=true/\0<s.I7.length
  ·rw[c7 hf];exact⟨o_,o_,fun _=>rfl⟩
  ·rw[b8 hf];refine⟨h.1,h.2,fun e=>?_⟩;rw[b9,j5]at e;exact absurd e hf
theorem rO {l:List LO}(j v:Int)(h:∀it∈l,DI it):∀it∈bU l j v,DI it:=by
 unfold bU;split
 ·split
  ·rename_i x hx;intro it Nt;rcases u6 Nt with Nt|rfl
   ·exact h it Nt
   ·exact h x (c9 hx)
  ·exact h
 ·exact h
theorem yu (v:Int):∀(js:List Int) {l:List LO},(∀it∈l,DI it)->∀it∈patchL l v js,DI it
 | [],_,h=>h
 | j::js,_,h=>yu v js (rO j v h)
section
variable {C:Cx} {x:Sc} {ins:List Nat} {rep:Sc->List Nat->Nat->Nat->Int->Gs->Gs} {line:Nat}
theorem xB {y:Sc}{chain:List Int}{line:Int}:∀(n:Nat) (d:Int) (s:Gs),0<=d-n->d<=1200->Dp s (cE C y chain line n d s)
 | 0,d,s,_,_=>Dp.refl s
 | n+1,d,s,h1,h2=>by
  rw[cE];exact(dg o_).trans (xB n (d-1) _ o_ o_)
theorem AG {y:Sc}{chain:List Int}{line d:Int}(hd:0<=d/\d<=1199):∀(n i:Nat) (s:Gs),Dp s (dD C y chain line d n i s)
 | 0,i,s=>Dp.refl s
 | n+1,i,s=>by
  rw[dD];exact((dg o_).trans (dg o_)).trans (AG hd n (i+1) _)
def Cw (C:Cx)(rep:Sc->List Nat->Nat->Nat->Int->Gs->Gs)(x:Sc)(ins:List Nat):Prop:=
 ∀(line g:Nat) (d:Int) (s:Gs),bT C g->(argsN C.p g:Int)<=d->d<=1000+30*ins.length+21->cL C ins g s.I7.length=true->Dp s (rep x ins line g d s)
def lx (C:Cx)(l:List LZ):Prop:=∀t∈l,t.J1=7->∃f,findN C.p 0 t.J8=some f/\(argsN C.p f:Int)=t.Mc
theorem Ks (hi:ins.length<=4)(MA:Cw C rep x ins){t:LZ}{d:Int}(h1:0<=d)(h2:d<=1000+30*ins.length+21)(hc:t.J1=7->t.Mc<=d/\∃f,findN C.p 0 t.J8=some f/\(argsN C.p f:Int)=t.Mc)(s:Gs):Dp s (lZ C rep x ins line t d s):=by
 unfold lZ;split
 ·exact dg o_
 split
 ·exact dg o_
 split
 ·rename_i h7;obtain⟨hn,f,hf,ha⟩:=hc h7;split
  ·rename_i g hg;rw[hf]at hg;injection hg with hg;subst hg;obtain⟨_,ln,k1,k2,_⟩:=gK hf;split
   ·rename_i hr;exact MA line f d s ⟨ln,k1,k2⟩ o_ h2 hr
   ·exact dg o_
  ·exact Dp.refl s
 ·exact dg o_
mutual
theorem DL (hi:ins.length<=4)(MA:Cw C rep x ins):∀(e:Ex) (d:Int) (s:Gs),e.ok->lx C e.toks->0<=d->d+e.toks.length<=1000+30*ins.length+21->Dp s (ew C rep x ins line e d s)
 | .node t es,d,s,h,hc,h1,h2=>by
  rw[Ex.toks,d5]at h2;rw[ew];have MZ:=yA es;refine(BG hi MA es d s h.2.2 (fun u hu=>hc u (by rw[Ex.toks];simp[hu])) h1 o_).trans (Ks hi MA o_ o_ (fun h7=>⟨?_,hc t (by rw[Ex.toks];simp) h7⟩) _);have Tc:=h.2.1;have ht:=h.1;have ha:mc t=t.Mc:=by simp[mc,ht,h7]
  unfold fw at ht;rw[b8 (by omega:¬t.J1=0),c7 h7]at ht;simp only[b9,within_iff]at ht;unfold ar at Tc;rw[ha]at Tc;omega
theorem BG (hi:ins.length<=4)(MA:Cw C rep x ins):∀(es:List Ex) (d:Int) (s:Gs),iV es->lx C (aq es)->0<=d->d+(aq es).length<=1000+30*ins.length+21->Dp s (cW C rep x ins line es d s)
 | [],d,s,_,_,_,_=>by rw[cW];exact Dp.refl s
 | a::es,d,s,h,hc,h1,h2=>by
  rw[aq,c8]at h2;rw[cW];have hp:=a.toks_pos;exact(DL hi MA a d s h.1 (fun u hu=>hc u aaO) h1 o_).trans (BG hi MA es (d+1) _ h.2 (fun u hu=>hc u aaO) o_ o_)
end
theorem Iu (x:Sc){d:Int}(h:0<=d/\d<=1200)(s:Gs):Dp s (cZ C x line d s):=by
 unfold cZ;split
 ·exact dg h
 ·exact Dp.refl s
theorem KT {g:Nat}{d:Int}(h1:(argsN C.p g:Int)<=d)(h2:d<=1199)(s:Gs):Dp s (fU C x line g d s):=by unfold fU;exact((show Dp s ⟨s.I7,max s.J3 (ck C x+(localsOf C.p (g:Int)).length),s.start⟩ from id).trans (xB _ d _ o_ o_)).trans (AG o_ _ _ _)
theorem BK (k:Nat)(last:Bool){d:Int}(h:0<=d/\d<=1200)(L:Ls):Dp L.g (be C x k last d L).g:=by
 unfold be;split
 ·split
  ·exact dg h
  ·exact dg h
 split
 ·exact Dp.refl _
 ·exact dg h
theorem Io (hC:CxOk C)(hi:ins.length<=4)(MA:Cw C rep x ins){k:Nat}{ln:LP}(hk:C.p[k]?=some ln)(h0:ln.J1≠0)(MV:ln.J1≠7->lx C ln.K9){base:Int}(Nk:0<=base)(Nc:base<=1000+30*ins.length)(L:Ls):Dp L.g (bH C rep x ins base k ln L).g:=by
 unfold bH;split
 ·intro h;exact rO _ _ (dg (C:=C) o_ h)
 rename_i h4;split
 ·split
  ·exact Dp.trans (b:=aC C L.g base 0 0 k x.J0) (dg o_) (BK k true (d:=base+1) o_ {L with g:=aC C L.g base 0 0 k x.J0})
  split
  ·exact dg o_
  ·exact Dp.refl _
 ·rename_i h7;have P4:=hC.line _ _ hk;have OQ:=rk (P4.2.2.2.2 o_);have N3:=P4.2.2.2.1;have MV:=MV h7;rw[OQ.2]at N3 MV;have tg:Dp L.g (ew C rep x ins k (exL ln.K9) base ⟨L.g.I7,L.g.J3,true⟩):=DL hi MA (exL ln.K9) base ⟨L.g.I7,L.g.J3,true⟩ OQ.1 MV Nk o_;dsimp only;split
  ·exact tg.trans (dg o_)
  split
  ·exact tg.trans (dg o_)
  split
  ·exact tg.trans (BK k false (d:=base+1) o_ {L with g:=ew C rep x ins k (exL ln.K9) base ⟨L.g.I7,L.g.J3,true⟩,J4:=L.J4.set k L.g.I7.length})
  ·exact tg.trans (dg o_)
theorem HF (k:Nat)(ln:LP)(L:Ls):Dp L.g (bB C x k ln L).g:=by
 unfold bB;split
 ·exact fun h=>rO _ _ h
 ·exact Dp.refl _
theorem EI (hC:CxOk C)(hi:ins.length<=4)(MA:Cw C rep x ins){base:Int}(Nk:0<=base)(Nc:base<=1000+30*ins.length):∀(n k:Nat) (L:Ls),(∀(i:Nat) (y:LP),k<=i->i<k+n->C.p[i]?=some y->y.J1≠0/\(y.J1≠7->lx C y.K9))->Dp L.g (dI C rep x ins base n k L).g
 | 0,k,L,_=>by rw[dI];exact Dp.refl _
 | n+1,k,L,h=>by
  rw[dI];split
  ·rename_i ln hk;obtain⟨a1,a2⟩:=h k ln (d8 _) o_ hk;exact((Io hC hi MA hk a1 a2 Nk Nc L).trans (HF k ln _)).trans (EI hC hi MA Nk Nc n (k+1) _ fun i y h1 h2=>h i y o_ o_)
  ·exact Dp.refl _
theorem yv (hC:CxOk C)(hx:ScOk C x ins)(hi:ins.length<=4)(MA:Cw C rep x ins){base:Int}(Nk:0<=base)(Nc:base<=1000+30*ins.length)(s:Gs):Dp s (bq C rep x ins base s).1:=by
 obtain⟨ln,h1,h2⟩:=hx.fn;obtain⟨e,h3,_,_,h4⟩:=hC.fn _ _ h1 h2;obtain⟨e',g3,g4,Sk,g5,_⟩:=hx.endE hC;rw[h3]at g3;injection g3 with g3;subst g3;unfold bq;rw[g5];refine EI hC hi MA Nk Nc (e-x.f) (x.f+1) (cv C s) fun i y k1 k2 hy=>?_;by_cases Oc:i=e
 ·subst Oc;obtain⟨z,hz,h7⟩:=bK h3;rw[hy]at hz;injection hz with hz;subst hz;exact⟨o_,fun hn=>absurd h7 hn⟩
 ·obtain⟨b1,b2,_⟩:=h4 i y o_ o_ hy;exact⟨b1,fun _=>b2⟩
end
theorem EK {C:Cx}(hC:CxOk C):∀(lev:Nat) {x:Sc} {ins:List Nat},ScOk C x ins->Cw C (cK C lev) x ins
 | 0,x,ins,hx,line,g,d,s,_,_,_,_=>Dp.refl s
 | lev+1,x,ins,hx,line,g,d,s,hg,h1,h2,hr=>by
  obtain⟨r1,r2,r3,_⟩:=fN hr;have hin:=hC.inl;have hy:=kc hC hx line hg;have Ny:(ins++[g]).length=ins.length+1:=s_;have t1:=KT (x:=x) (line:=line) h1 o_ s;have t2:=Iu (C:=C) (line:=line) x (d:=d-argsN C.p g) o_ (fU C x line g d s);have t3:=yv hC hy o_ (EK hC lev hy) (base:=d-argsN C.p g) o_ o_ (cZ C x line (d-argsN C.p g) (fU C x line g d s));intro h;exact yu _ _ (((t1.trans t2).trans t3) h)
end Go.Proofs.P
namespace Go.Proofs.P
open Go.Sim Tryz
structure IS where
 out:List Int
 Mj:List (List Int)
inductive Rr (α:Type) where
 | ok (a:α) (s:IS)
 | stop (c:Int) (s:IS)
 | fuel
def Rr.bnd {α β:Type}(r:Rr α)(f:α->IS->Rr β):Rr β:=match r with
 | .ok a s=>f a s
 | .stop c s=> .stop c s
 | .fuel=> .fuel
theorem Rr.bnd_ok {α β:Type}(a:α)(s:IS)(f:α->IS->Rr β):(Rr.ok a s).bnd f=f a s:=rfl
abbrev Lf:=Nat->List Int->IS->Rr Int
def Ld (locals:List (List UInt8))(vals:List Int)(nm:List UInt8):Int:=match iH locals 0 nm with
 | some i=>atL vals i
 | none=>0
section
variable (p:List LP) (locals:List (List UInt8)) (vals:List Int) (call:Lf)
def Jp (t:LZ)(av:List Int)(s:IS):Rr Int:=
 if t.J1=0 then .ok t.Mc s
 else if t.J1=1 then .ok (Ld locals vals t.J8) s
 else if t.J1=7 then call ((findN p 0 t.J8).getD 0) av s
 else .ok (dX t.J1 (atL av 0) (atL av 1)) s
end
def skipAt (p:List LP)(k:Nat):Nat:=match elseAt p k with
 | some j=>j
 | none=>kE p k
def Gn (p:List LP)(ln:LP)(k:Nat)(v:Int):Nat:=if(ln.J1=3\/ln.J1=5)/\v=0 then skipAt p k+1 else k+1
structure Ext (lim:Int) (s s':IS):Prop where
 out:s.out <+:s'.out
 vis:s.Mj <+:s'.Mj
 le:(s.Mj.length:Int)<=lim->(s'.Mj.length:Int)<=lim
 ol:s'.out.length+s.Mj.length<=s'.Mj.length+s.out.length
theorem Ext.refl (lim:Int)(s:IS):Ext lim s s:=⟨List.prefix_refl _,List.prefix_refl _,id,o_⟩
theorem Ext.trans {lim:Int}{a b c:IS}(h:Ext lim a b)(h':Ext lim b c):Ext lim a c:=⟨h.out.trans h'.out,h.vis.trans h'.vis,fun x=>h'.le (h.le x),by have:=h.ol;have:=h'.ol;omega⟩
def ExtR (lim:Int)(s:IS){α:Type}(r:Rr α):Prop:=match r with
 | .ok _ s'=>Ext lim s s'
 | .stop c s'=>Ext lim s s'/\(c=1\/c=2)
 | .fuel=>True
theorem ExtR.trans {lim:Int}{a b:IS}{α:Type}{r:Rr α}(h:Ext lim a b)(h':ExtR lim b r):ExtR lim a r:=by cases r with|ok v s=>exact Ext.trans h h'|stop c s=>exact⟨Ext.trans h h'.1,h'.2⟩|fuel=>trivial
structure InF (p:List LP) (f e k:Nat):Prop where
 fn:∃y,p[f]?=some y/\y.J1=0
 en:endAt p f=some e
 lo:f<k
 hi:k<=e
section
variable {p:List LP} {f e k:Nat} {ln:LP}
abbrev cx0 (p:List LP)(f:Nat):Cx:=⟨p,⟨0,0,false,false⟩,false,0,argsN p f⟩
theorem PgOk.cx0 (hp:PgOk p)(h:∃y,p[f]?=some y/\y.J1=0):CxOk (cx0 p f):=by obtain⟨y,hy,_⟩:=h;refine hp.cx ?_ o_ s_;have:=(hp.line f y hy).2.2.1;show(0:Int)<=(argsN p f:Int)/\(argsN p f:Int)<=4;rw[argsN,hy];dsimp only;omega
theorem Dm (h:∃y,p[f]?=some y/\y.J1=0):ScOk (cx0 p f) (bb (cx0 p f) f) [f]:=⟨h,rfl,⟨v2 _,by simp[bb]⟩,rfl,by simp[bb],fun _=>rfl,rfl⟩
theorem InF.own7 (hp:PgOk p)(h:InF p f e k)(hk:p[k]?=some ln)(h7:ln.J1=7):endAt p (ownOf p k)=some k/\((k=e/\ownOf p k=f)\/(k<e/\f<ownOf p k/\ownOf p k<k/\∃y,p[ownOf p k]?=some y/\(y.J1=3\/y.J1=5))):=
 ScOk.own7 (hp.cx0 h.fn) (Dm h.fn) h.en h.lo h.hi hk h7
theorem InF.own4 (hp:PgOk p)(h:InF p f e k)(hk:p[k]?=some ln)(h4:ln.J1=4):elseAt p (ownOf p k)=some k/\f<ownOf p k/\ownOf p k<k/\k<e:=
 ScOk.own4 (hp.cx0 h.fn) (Dm h.fn) h.en h.lo h.hi hk h4
theorem InF.kind (hp:PgOk p)(h:InF p f e k)(hk:p[k]?=some ln):ln.J1≠0:=jS (hp.cx0 h.fn) (Dm h.fn) h.en h.lo h.hi hk
theorem InF.line (hp:PgOk p)(h:InF p f e k):∃ln,p[k]?=some ln/\1<=ln.J1/\ln.J1<=7/\(ln.J1=7\/k<e):=by
 have he:=aN h.en;obtain⟨_,_,_,_,_,hl⟩:=he;obtain⟨ln,hk⟩:=ae (l:=p) (k:=k) (by have:=h.hi;omega);have h1:=h.kind hp hk;have h2:=hp.line k ln hk;refine⟨ln,hk,o_,h2.2.1,?_⟩;by_cases NF:k=e
 ·subst NF;obtain⟨y,hy,h7⟩:=bK h.en;rw[hk]at hy;injection hy with hy;subst hy;exact .inl h7
 ·have:=h.hi;exact .inr o_
theorem InF.at (h:InF p f e k){j:Nat}(h1:f<j)(h2:j<=e):InF p f e j:=⟨h.fn,h.en,h1,h2⟩
theorem InF.skip (hp:PgOk p)(h:InF p f e k)(hk:p[k]?=some ln)(UB:ln.J1=3\/ln.J1=5)(NF:k<e):k<skipAt p k/\skipAt p k<e:=by
 obtain⟨m,hm,m1,m2⟩:=jo h.en h.lo NF hk aaC;unfold skipAt;split
 ·rename_i j hj;obtain⟨_,e',_,_,Np,q1,q2,_⟩:=bu hj;rw[hm]at Np;injection Np with Np;subst Np;omega
 ·rw[kE,hm];exact⟨m1,m2⟩
theorem InF.next (hp:PgOk p)(h:InF p f e k)(hk:p[k]?=some ln)(h7:ln.J1≠7)(v:Int):InF p f e (Gn p ln k v)/\k<Gn p ln k v:=by
 have NF:k<e:=by obtain⟨l,hl,_,_,h5⟩:=h.line hp;rw[hk]at hl;injection hl with hl;subst hl;omega
 have Pq:=h.lo;unfold Gn;split
 ·rename_i hc;have:=h.skip hp hk hc.1 NF;exact⟨h.at o_ o_,o_⟩
 ·exact⟨h.at o_ o_,o_⟩
theorem InF.start (hp:PgOk p){g:Nat}(h:∃y,p[g]?=some y/\y.J1=0):∃e,InF p g e (g+1):=by obtain⟨y,hy,h0⟩:=h;obtain⟨e,he,_⟩:=hp.fn g y hy h0;obtain⟨_,_,_,_,h1,_⟩:=aN he;exact⟨e,⟨⟨y,hy,h0⟩,he,o_,o_⟩⟩
end
structure Known (p:List LP) (locals:List (List UInt8)) (l:List LZ):Prop where
 var:∀t∈l,t.J1=1->∃i,iH locals 0 t.J8=some i
 call:∀t∈l,t.J1=7->∃g,findN p 0 t.J8=some g/\(argsN p g:Int)=t.Mc
theorem BE (acc:List (List UInt8))(s:List UInt8):s∈fX acc s:=by
 unfold fX;split
 ·rename_i h;exact D9.1 h
 ·simp
theorem Aa {acc:List (List UInt8)}{s z:List UInt8}(h:z∈acc):z∈fX acc s:=by
 unfold fX;split
 ·exact h
 ·simp[h]
theorem Bz {l:List LP}{e:Nat}{z:List UInt8}:∀(n i:Nat) (acc:List (List UInt8)),z∈acc->z∈locN l e n i acc
 | 0,_,_,h=>by rw[locN];exact h
 | n+1,i,acc,h=>by
  rw[locN];split
  ·split
   ·refine Bz n _ _ ?_;split
    ·exact Aa h
    ·exact h
   ·exact h
  ·exact h
theorem Ba {l:List LP}{e k:Nat}{x:LP}(hx:l[k]?=some x)(h1:x.J1=1)(NF:k<e):∀(n i:Nat) (acc:List (List UInt8)),i<=k->e-i<=n->(∀j,j<e->j<l.length)->x.J8∈locN l e n i acc
 | 0,i,acc,h,hn,_=>o_
 | n+1,i,acc,h,hn,hl=>by
  rw[locN,c7 o_];obtain⟨y,hy⟩:=ae (hl i o_);rw[hy];dsimp only;by_cases Oz:i=k
  ·subst Oz;rw[hx]at hy;injection hy with hy;subst hy;rw[c7 h1];exact Bz n _ _ (BE _ _)
  ·exact Ba hx h1 NF n (i+1) _ o_ o_ hl
theorem tj {l:List (List UInt8)}{s:List UInt8}(h:s∈l):∃i,iH l 0 s=some i:=by
 have:(iH l 0 s).isSome=true:=by rw[wF];exact D9.2 h
 exact E6.1 this
theorem Ic {p:List LP}(h:ah p=true){f e k:Nat}{ln:LP}(hI:InF p f e k)(hk:p[k]?=some ln)(NF:k<e):Known p (localsOf p (f:Int)) ln.K9/\(ln.J1=1->∃i,iH (localsOf p (f:Int)) 0 ln.J8=some i):=by
 have h0:=h;unfold ah at h;simp only[b9,j5]at h;obtain⟨_,_,h2,_,_,h3,h4⟩:=h;have hS:=oJ p;rw[h3,h4]at hS;have Mz:∀k e,endAt p k=some e->e<=p.length:=fun k e he=>by obtain⟨_,_,_,_,_,h⟩:=aN he;omega
 have hF:∀k e,endAt p k=some e->lW p k e=true->∀i x,k<i->i<e->p[i]?=some x->x.J1≠0:=fun k e he hf=>by
  rw[mw,b9]at hf;exact wc hf.1 (Mz k e he)
 obtain⟨y,hy,Ow⟩:=hI.fn;obtain⟨e',Np,hf⟩:=pa hF p.length 0 hS f y (w6 _) hy Ow;rw[hI.en]at Np;injection Np with Np;subst Np;rw[mw,b9]at hf;have RP:=hf.1;rw[tP,b9,j5]at RP;have OL:=po (e-(f+1)) (f+1) 0 (d8 _) (Mz f e hI.en) RP.2 k ln (by have:=hI.lo;omega) NF hk;unfold eB at OL;have OL:=o8.1 OL;refine⟨⟨fun t ht h1=>?_,fun t ht h7=>?_⟩,fun h1=>?_⟩
 ·have:=OL t ht;unfold cG at this;rw[c7 h1]at this;exact tj (D9.1 this)
 ·have:=OL t ht;unfold cG at this;rw[b8 o_,c7 h7]at this;split at this
  ·rename_i g hg;refine⟨g,hg,?_⟩;unfold argsN;split at this
   ·rename_i x hx
    (try rw[hx])
    exact B7 this
   ·cases this
  ·cases this
 ·refine tj ?_;unfold localsOf;rw[c7 o_,d7,hy,hI.en];dsimp only;rw[c7 Ow];exact Ba hk h1 NF _ _ _ (by have:=hI.lo;omega) (d8 _) (fun j hj=>by have:=Mz f e hI.en;omega)
def eJ (c:Int):Prop:=c≠10/\c≠14/\c≠16
def isJ (c:Int):Prop:=c=10\/c=11
def jz (p:List LP)(a:Int):Int:=match(ay p)[a.toNat]? with|some g=>(argsN p g:Int)|none=>0
def gA (C:Cx)(o:LS)(d:Int):Int:=
 if o.I9=0\/o.I9=1\/o.I9=3 then d+1
 else if o.I9=2\/o.I9=4\/(5<=o.I9/\o.I9<=9)\/o.I9=11\/o.I9=17 then d-1
 else if o.I9=12 then d-jz C.p o.J7+1
 else if o.I9=13\/o.I9=15 then d+o.J7 else d
def wR (c d:Int):Int:=if c=11 then d-1 else d
def StA (C:Cx)(c a d:Int):Prop:=(c=2/\C.J6=true/\((-C.I8<=a/\a<=-1)\/(2<=a/\a<=1+C.args)))\/(c=4/\C.J6=false/\((d-C.I8<=a/\a<=d-1)\/(d+1<=a/\a<=d+C.args)))
structure OpTy (C:Cx) (i:Nat) (it:LO) (d:Int):Prop where
 dep:it.Me=(if C.J6=true/\0<i then 0 else d)
 ent:it.Mn=(C.J6&&decide (0<i))
 lo:(i=0->d=0)/\(0<i->C.I8<=d)
 head:i=0->it.J2.I9=(if C.J6=true then 13 else 15)/\it.J2.J7=C.I8
 st:it.J2.I9=2\/it.J2.I9=4->C.I8+1<=d/\StA C it.J2.I9 it.J2.J7 d
 ld:(it.J2.I9=1->C.J6=true)
 ar:5<=it.J2.I9/\it.J2.I9<=9->C.I8+2<=d
 one:it.J2.I9=11\/it.J2.I9=17->C.I8+1<=d
 call:it.J2.I9=12->0<=it.J2.J7/\∃g,(ay C.p)[it.J2.J7.toNat]?=some g/\C.I8+argsN C.p g<=d
 leave:it.J2.I9=14->C.J6=true/\it.J2.J7=C.args/\C.I8+1<=d
 ret:it.J2.I9=16->C.J6=false/\it.J2.J7=C.args+16*C.I8/\d=C.I8+1
 sp:it.J2.I9=15->0<i->it.J2.J7=0
 ent13:it.J2.I9=13->i=0
structure Ty (C:Cx) (l:List LO) (ds:List Int) (pn:List Int) (D:Int):Prop where
 len:ds.length=l.length
 pos:0<l.length
 item:∀(i:Nat) (it:LO) (d:Int),l[i]?=some it->ds[i]?=some d->OpTy C i it d
 fall:∀(i:Nat) (it:LO) (d:Int),l[i]?=some it->ds[i]?=some d->eJ it.J2.I9->(ds++[D])[i+1]?=some (gA C it.J2 d)
 jump:∀(i:Nat) (it:LO) (d:Int),l[i]?=some it->ds[i]?=some d->isJ it.J2.I9->(i:Int)∉pn->1<=it.J2.J7/\(ds++[D])[it.J2.J7.toNat]?=some (wR it.J2.I9 d)
def Cd (l:List LO)(ds:List Int)(j e:Int):Prop:=0<=j/\∃c d,bd l j.toNat=some c/\ds[j.toNat]?=some d/\isJ c/\e=wR c d
section
variable {C:Cx} {l l':List LO} {ds VK pn pn':List Int} {d D D' e:Int}
theorem vi {ds:List Int}{d D':Int}{j:Nat}{e:Int}(h:(ds++[d])[j]?=some e):((ds++[d])++[D'])[j]?=some e:=by rw[j7 (aH h)];exact h
theorem Cd.ext {j:Int}(h:Cd l ds j e)(h1:∀i c,bd l i=some c->bd l' i=some c)(es:List Int):Cd l' (ds++es) j e:=by obtain⟨h0,c,d,k1,k2,k3,k4⟩:=h;exact⟨h0,c,d,h1 _ _ k1,by rw[j7 (aH k2)];exact k2,k3,k4⟩
theorem Ty.emit (h:Ty C l ds pn d){it:LO}(ho:OpTy C l.length it d)(D':Int)(hf:eJ it.J2.I9->D'=gA C it.J2 d)(Rq:∀i∈pn,i∈pn')
  (hj:isJ it.J2.I9->(l.length:Int)∈pn'\/(1<=it.J2.J7/\(ds++[d])[it.J2.J7.toNat]?=some (wR it.J2.I9 d))):Ty C (l++[it]) (ds++[d]) pn' D':=by
 have hl:=h.len
 have key:∀(i:Nat) (NJ:LO) (d':Int),(l++[it])[i]?=some NJ->(ds++[d])[i]?=some d'->(l[i]?=some NJ/\ds[i]?=some d')\/(i=l.length/\NJ=it/\d'=d):=fun i NJ d' h1 h2=>by
  rcases B1 i l.length with hi|hi|hi
  ·rw[j7 hi]at h1;rw[j7 o_]at h2;exact .inl ⟨h1,h2⟩
  ·subst hi;rw[m5 (d8 _),w9,e8]at h1;rw[m5 o_,hl,w9,e8]at h2;injection h1 with h1;injection h2 with h2;exact .inr ⟨rfl,h1.symm,h2.symm⟩
  ·rw[e9 aab]at h1
   cases h1
 refine⟨by simp[hl],s_,fun i NJ d' h1 h2=>?_,fun i NJ d' h1 h2 h3=>?_,fun i NJ d' h1 h2 h3 h4=>?_⟩
 ·rcases key i NJ d' h1 h2 with⟨k1,k2⟩|⟨rfl,rfl,rfl⟩
  ·exact h.item i NJ d' k1 k2
  ·exact ho
 ·rcases key i NJ d' h1 h2 with⟨k1,k2⟩|⟨rfl,rfl,rfl⟩
  ·exact vi (h.fall i NJ d' k1 k2 h3)
  ·rw[m5 (by simp[hl])];simp[hl,hf h3]
 ·rcases key i NJ d' h1 h2 with⟨k1,k2⟩|⟨rfl,rfl,rfl⟩
  ·obtain⟨g1,g2⟩:=h.jump i NJ d' k1 k2 h3 (fun hm=>h4 (Rq _ hm));exact⟨g1,vi g2⟩
  ·rcases hj h3 with g|⟨g1,g2⟩
   ·exact absurd g h4
   ·exact⟨g1,vi g2⟩
theorem oN {l:List LO}{j v:Int}{i:Nat}{it:LO}(h:(bU l j v)[i]?=some it):∃it0,l[i]?=some it0/\((it=it0/\¬(j=(i:Int)))\/(j=(i:Int)/\it=⟨⟨it0.J2.I9,v⟩,it0.Mi,it0.L4,it0.Mm,it0.Me,it0.Mn⟩)):=by
 unfold bU at h;by_cases h0:0<=j
 ·rw[c7 h0]at h
  cases hx:l[j.toNat]? with
  | none=>
   rw[hx]at h;refine⟨it,h,.inl ⟨rfl,fun e=>?_⟩⟩;rw[show j.toNat=i by omega]at hx
   rw[hx]at h;cases h
  | some x=>
   rw[hx]at h;dsimp only at h;by_cases NS:j.toNat=i
   ·subst NS;rw[x6 (aH hx)]at h;injection h with h;exact⟨x,hx,.inr ⟨o_,h.symm⟩⟩
   ·rw[C6 NS]at h;exact⟨it,h,.inl ⟨rfl,fun e=>NS o_⟩⟩
 ·rw[b8 h0]at h;exact⟨it,h,.inl ⟨rfl,fun e=>h0 o_⟩⟩
theorem Hk {i:Nat}{it:LO}{v:Int}(h:OpTy C i it d)(hj:isJ it.J2.I9):OpTy C i ⟨⟨it.J2.I9,v⟩,it.Mi,it.L4,it.Mm,it.Me,it.Mn⟩ d:=by
 unfold isJ at hj;refine⟨h.dep,h.ent,h.lo,fun k=>?_,fun k=>?_,h.ld,h.ar,h.one,fun k=>?_,fun k=>?_,fun k=>?_,fun k=>?_,h.ent13⟩
 ·have:=(h.head k).1;split at this<;>omega
 all_goals(dsimp only at k;omega)
theorem Ty.patch (h:Ty C l ds pn D){j:Int}(hj:Cd l ds j D)(Rq:∀i∈pn,i=j\/i∈pn'):Ty C (bU l j l.length) ds pn' D:=by
 obtain⟨h0,c,d,k1,k2,k3,k4⟩:=hj;have hl:=h.len
 have Nd:∀(i:Nat) (it:LO) (d':Int),l[i]?=some it->ds[i]?=some d'->j=(i:Int)->it.J2.I9=c/\d'=d:=fun i it d' g1 g2 e=>by
  rw[show j.toNat=i by omega]at k1 k2;rw[bd,g1]at k1;rw[g2]at k2;injection k1 with k1;injection k2 with k2;exact⟨k1,k2⟩
 refine⟨by rw[bO];exact hl,by rw[bO];exact h.pos,fun i NJ d' h1 h2=>?_,fun i NJ d' h1 h2 h3=>?_,fun i NJ d' h1 h2 h3 h4=>?_⟩
 ·obtain⟨it0,g1,⟨rfl,_⟩|⟨e,rfl⟩⟩:=oN h1
  ·exact h.item i _ d' g1 h2
  ·exact Hk (h.item i it0 d' g1 h2) (by rw[(Nd i it0 d' g1 h2 e).1];exact k3)
 ·obtain⟨it0,g1,⟨rfl,_⟩|⟨e,rfl⟩⟩:=oN h1
  ·exact h.fall i _ d' g1 h2 h3
  ·have hc:=(Nd i it0 d' g1 h2 e).1;dsimp only at h3⊢;have:=h.fall i it0 d' g1 h2 h3;rw[this];unfold eJ at h3;unfold isJ at k3;unfold gA;dsimp only;rw[hc];rw[show c=11 by omega];simp
 ·obtain⟨it0,g1,⟨rfl,MF⟩|⟨e,rfl⟩⟩:=oN h1
  ·exact h.jump i _ d' g1 h2 h3 (fun hm=>by
    rcases Rq _ hm with hm|hm
    ·exact MF hm.symm
    ·exact h4 hm)
  ·obtain⟨hc,hd⟩:=Nd i it0 d' g1 h2 e;dsimp only at h3⊢;have hp1:=h.pos;refine⟨o_,?_⟩;rw[d7,<-hl,m5 (d8 _),w9,e8,hc,hd,k4]
theorem Ty.patchL (pn':List Int):∀(js:List Int) {l:List LO} {pn:List Int},Ty C l ds pn D->(∀j∈js,Cd l ds j D)->(∀i∈pn,i∈js\/i∈pn')->Ty C (patchL l l.length js) ds pn' D
 | [],l,pn,h,_,hp=>⟨h.len,h.pos,h.item,h.fall,fun i it d h1 h2 h3 h4=>h.jump i it d h1 h2 h3 fun hm=>by
   rcases hp _ hm with h'|h'
   ·cases h'
   ·exact h4 h'⟩
 | j::js,l,pn,h,hj,hp=>by
  have h1:=h.patch (pn':=js++pn') (hj j s_) (fun i hi=>by
   rcases hp i hi with h'|h'
   ·rcases d6.1 h' with h'|h'
    ·exact .inl h'
    ·exact .inr (d9.2 (.inl h'))
   ·exact .inr (d9.2 (.inr h')))
  have h2:=Ty.patchL pn' js h1 (fun i hi=>by
   have:=(hj i (by simp[hi])).ext (l':=bU l j l.length) (fun i c h=>by rw[dB];exact h) []
   simpa using this) (fun i hi=>by simpa using hi)
  rw[bO]at h2;exact h2
end
structure T (C:Cx) (d D:Int) (ne:Prop) (s s':Gs):Prop where
 mono:s.J3<=s'.J3
 ext:∀i c,bd s.I7 i=some c->bd s'.I7 i=some c
 ty:s'.J3<=C.I8->∀ds pn,Ty C s.I7 ds pn d->∃es,(ne->es≠[])/\(es=[]->D=d)/\(∀x,es.head?=some x->x=d)/\Ty C s'.I7 (ds++es) pn D
section
variable {C:Cx} {d D E:Int} {a b c:Gs} {ne Vd:Prop}
theorem T.refl (s:Gs):T C d d False s s:=⟨v2 _,fun _ _ h=>h,fun _ ds pn h=>⟨[],fun h=>h.elim,fun _=>rfl,fun x hx=>absurd hx s_,by rw[m6];exact h⟩⟩
theorem T.trans (h:T C d D ne a b)(h':T C D E Vd b c):T C d E (ne\/Vd) a c:=by
 refine⟨D4 h.mono h'.mono,fun i v x=>h'.ext i v (h.ext i v x),fun hm ds pn ht=>?_⟩;obtain⟨es,e1,e2,e3,e4⟩:=h.ty (D4 h'.mono hm) ds pn ht;obtain⟨fs,f1,f2,f3,f4⟩:=h'.ty hm _ pn e4;refine⟨es++fs,fun hn=>?_,fun hn=>?_,fun x hx=>?_,by rw[<-j9];exact f4⟩
 ·rcases hn with hn|hn
  ·have:=e1 hn;intro h0;simp at h0;exact this h0.1
  ·have:=f1 hn;intro h0;simp at h0;exact this h0.2
 ·simp only[List.append_eq_nil_iff]at hn;rw[f2 hn.2,e2 hn.1]
 ·cases es with|nil=>rw[t6]at hx;rw[f3 x hx,e2 rfl]|cons y ys=>exact e3 x hx
theorem T.weak (h:T C d D ne a b)(hn:Vd->ne):T C d D Vd a b:=⟨h.mono,h.ext,fun hm ds pn ht=>by
 obtain⟨es,e1,e2⟩:=h.ty hm ds pn ht
 exact⟨es,fun x=>e1 (hn x),e2⟩⟩
theorem rH {code arg line:Int}{chain:List Int}(s:Gs)(Mx:s.J3<=C.I8->0<s.I7.length->OpTy C s.I7.length (bL C s d code arg line chain) d)(hf:D=gA C ⟨code,arg⟩ d)(hj:¬isJ code)(UF:eJ code):T C d D True s (aC C s d code arg line chain):=by
 refine⟨v2 _,fun i c h=>?_,fun hm ds pn ht=>⟨[d],fun _=>s_,fun h=>by simp at h,fun x hx=>by simpa using hx.symm,?_⟩⟩
 ·exact V111
 ·exact ht.emit (Mx hm ht.pos) D (fun _=>hf) (fun _ h=>h) (fun h=>absurd h hj)
theorem dy {code arg line:Int}{chain:List Int}{s:Gs}(hp:0<s.I7.length)(hd:C.I8<=d)(h2:code=2\/code=4->C.I8+1<=d/\StA C code arg d)(h1:code=1->C.J6=true)(h5:5<=code/\code<=9->C.I8+2<=d)(Sq:code=11\/code=17->C.I8+1<=d)
  (Rv:code=12->0<=arg/\∃g,(ay C.p)[arg.toNat]?=some g/\C.I8+argsN C.p g<=d) (Xi:code=14->C.J6=true/\arg=C.args/\C.I8+1<=d) (Xj:code=16->C.J6=false/\arg=C.args+16*C.I8/\d=C.I8+1) (ZA:code=15->arg=0) (Xy:code≠13):OpTy C s.I7.length (bL C s d code arg line chain) d:=
 ⟨rfl,rfl,⟨fun h=>o_,fun _=>hd⟩,fun h=>o_,h2,h1,h5,Sq,Rv,Xi,Xj,fun k _=>ZA k,fun k=>absurd k Xy⟩
end
def Beg (b:Nat)(s:Gs):Prop:=b<=s.I7.length/\(s.start=true↔s.I7.length=b)
theorem Beg.emit {b:Nat}{s:Gs}(h:Beg b s)(C:Cx)(d code arg line:Int)(chain:List Int):Beg b (aC C s d code arg line chain):=by obtain⟨h1,h2⟩:=h;refine⟨by simp only[aC,c8,d5,i8];omega,?_⟩;simp only[aC,c8,d5,i8];exact⟨fun h=>(by cases h),fun h=>o_⟩
theorem Beg.off {b:Nat}{s s':Gs}(h:Beg b s)(h1:s.I7.length<s'.I7.length)(h2:s'.start=false):Beg b s':=by have:=h.1;exact⟨o_,by rw[h2];exact⟨fun h=>(by cases h),fun h=>o_⟩⟩
def Keep (s s':Gs):Prop:=∀(j:Nat) (it:LO),s.I7[j]?=some it->∃NJ,s'.I7[j]?=some NJ/\NJ.L4=it.L4
theorem Keep.refl (s:Gs):Keep s s:=fun _ it h=>⟨it,h,rfl⟩
theorem Keep.trans {a b c:Gs}(h:Keep a b)(h':Keep b c):Keep a c:=fun j it hj=>by
 obtain⟨it1,h1,e1⟩:=h j it hj;obtain⟨it2,h2,e2⟩:=h' j it1 h1;exact⟨it2,h2,e2.trans e1⟩
theorem Keep.emit (C:Cx)(s:Gs)(d code arg line:Int)(chain:List Int):Keep s (aC C s d code arg line chain):=fun j it hj=>by
 refine⟨it,?_,rfl⟩;show(s.I7++_)[j]?=_;rw[j7 (aH hj)];exact hj
def Mark (b:Nat)(s:Gs):Prop:=(s.start=true/\s.I7.length=b)\/∃it,s.I7[b]?=some it/\it.L4=true
theorem Mark.keep {b:Nat}{s s':Gs}(h:∃it,s.I7[b]?=some it/\it.L4=true)(hk:Keep s s'):∃it,s'.I7[b]?=some it/\it.L4=true:=by obtain⟨it,h1,h2⟩:=h;obtain⟨NJ,h3,h4⟩:=hk b it h1;exact⟨NJ,h3,h4.trans h2⟩
theorem Mark.emit {b:Nat}{s:Gs}(h:Mark b s)(C:Cx)(d code arg line:Int)(chain:List Int):Mark b (aC C s d code arg line chain):=by
 rcases h with⟨h1,h2⟩|h
 ·refine .inr ⟨bL C s d code arg line chain,?_,h1⟩;show(s.I7++[_])[b]?=_;rw[<-h2];simp
 ·exact .inr (Mark.keep h (Keep.emit _ _ _ _ _ _ _))
theorem yw {g:Nat}:∀{l:List LP} {i j:Nat} {x:LP},i<=g->l[g-i]?=some x->x.J1=0->iH ((funsF l i).map fun n:Nat=>(n:Int)) j (g:Int)=some (j+((l.take (g-i)).filter fun x=>x.J1==0).length)
 | [],i,j,x,h,hx,_=>by simp at hx
 | y::l,i,j,x,h,hx,h0=>by
  rw[funsF];by_cases QP:g=i
  ·subst QP;rw[w9,e8]at hx;injection hx with hx;subst hx;rw[c7 h0,u4,p7,u3,iH,c7 s_,w9];simp
  ·have hs:g-i=(g-(i+1))+1:=o_;rw[hs,j8]at hx;have ih:=fun j=>yw (g:=g) (l:=l) (i:=i+1) (j:=j) o_ hx h0;rw[hs,q8];by_cases hy:y.J1=0
   ·rw[c7 hy,u4,p7,C5,u3,t6,iH,b8 aab,ih,B6,c7 aaJ,d5];congr 1;omega
   ·rw[b8 hy,t6,ih,B6,b8 aaJ]
theorem It {C:Cx}{g:Nat}(hg:bT C g):dG ((ay C.p).map fun n:Nat=>(n:Int)) (g:Int)=(kL C.p g:Int):=by obtain⟨x,hx,h0⟩:=hg;have:=yw (l:=C.p) (i:=0) (j:=0) (x:=x) (w6 g) (by simpa using hx) h0;unfold dG ay;rw[this];simp[cM,kL]
section
variable {C:Cx} {x y:Sc} {ins:List Nat} {rep:Sc->List Nat->Nat->Nat->Int->Gs->Gs} {line:Nat}
theorem nU:cA C true=if C.J6=true then 2 else 4:=by unfold cA;split<;>rfl
theorem rg (ho:y.L2=false){d i:Int}(h1:0<=y.first+i)(h2:y.first+i<C.I8):StA C (cA C true) (fu C y d i) d:=by
 rw[nU];unfold fu Be mP StA;rw[ho]
 cases hf:C.J6 with|true=>simp;omega|false=>simp;omega
theorem FI (hC:CxOk C)(ho:y.L2=true){d i:Int}(h1:0<=i)(h2:i-C.args<C.I8):StA C (cA C true) (fu C y d i) d:=by
 have ha:=hC.args;rw[nU];unfold fu Be mP StA;rw[ho];by_cases hi:i<C.args
 ·cases hf:C.J6 with|true=>simp[hi];omega|false=>simp[hi];omega
 ·cases hf:C.J6 with|true=>simp[hi];omega|false=>simp[hi];omega
theorem Eb {d i line:Int}{chain:List Int}(s:Gs)(hd:C.I8+1<=d)(hS:s.J3<=C.I8->StA C (cA C true) (fu C y d i) d):T C d (d-1) True s (fP C y s d i line chain):=by
 have hc:=nU (C:=C);have Oq:cA C true=2\/cA C true=4:=by rw[hc];split<;>omega
 refine rH s (fun hm hp=>dy hp o_ (fun _=>⟨hd,hS hm⟩) (fun h=>o_) (fun h=>o_) (fun h=>o_) (fun h=>o_) (fun h=>o_) (fun h=>o_) (fun h=>o_) o_) ?_ aan aac;unfold gA;dsimp only;rw[b8 o_,c7 o_]
theorem Ey {d arg line:Int}{chain:List Int}(s:Gs)(hd:C.I8<=d):T C d (d+1) True s (aC C s d 0 arg line chain):=
 rH s (fun hm hp=>dy hp hd (fun h=>o_) (fun h=>o_) (fun h=>o_) (fun h=>o_) (fun h=>o_) (fun h=>o_) (fun h=>o_) (fun h=>o_) o_) (by unfold gA;dsimp only;rw[c7 o_]) aan aac
theorem BO (ho:y.L2=false)(hf:0<=y.first){chain:List Int}{line:Int}:∀(n:Nat) (d:Int) (s:Gs),C.I8+n<=d->(s.J3<=C.I8->y.first+n<=C.I8)->T C d (d-n) False s (cE C y chain line n d s)
 | 0,d,s,_,_=>by rw[cE];simpa using T.refl (C:=C) (d:=d) s
 | n+1,d,s,h,hF=>by
  rw[cE];have h1:=Eb (C:=C) (y:=y) (d:=d) (i:=(n:Int)) (line:=line) (chain:=chain) s o_ (fun hm=>rg ho o_ (by have:=hF hm;omega));have h2:=BO ho hf (chain:=chain) (line:=line) n (d-1) (fP C y s d n line chain) o_ (fun hm=>by have:=hF hm;omega);have:=h1.trans h2;rw[show d-((n+1:Nat):Int)=d-1-n by omega];exact this.weak (fun h=>h.elim)
theorem EG (ho:y.L2=false)(hf:0<=y.first){chain:List Int}{line d:Int}(hd:C.I8<=d):∀(n i:Nat) (s:Gs),(s.J3<=C.I8->y.first+i+n<=C.I8)->T C d d False s (dD C y chain line d n i s)
 | 0,i,s,_=>by rw[dD];exact T.refl s
 | n+1,i,s,hF=>by
  rw[dD];have h1:=Ey (C:=C) (d:=d) (arg:=0) (line:=line) (chain:=chain) s hd;have h2:=Eb (C:=C) (y:=y) (d:=d+1) (i:=(i:Int)) (line:=line) (chain:=chain) (aC C s d 0 0 line chain) o_ (fun hm=>rg ho o_ (by have:=hF hm;omega));have h3:=EG ho hf (chain:=chain) (line:=line) hd n (i+1) (fP C y (aC C s d 0 0 line chain) (d+1) i line chain) (fun hm=>by have:=hF hm;omega);rw[show d+1-1=d by omega]at h2;exact((h1.trans h2).trans h3).weak (fun h=>h.elim)
def qI (C:Cx)(rep:Sc->List Nat->Nat->Nat->Int->Gs->Gs)(x:Sc)(ins:List Nat):Prop:=
 ∀(line g:Nat) (d:Int) (s:Gs),bT C g->C.I8+(argsN C.p g:Int)<=d->cL C ins g s.I7.length=true->T C d (d-argsN C.p g+1) True s (rep x ins line g d s)
theorem Ch {α:Type}[BEq α][LawfulBEq α]:∀{l:List α} {i k:Nat} {s:α},iH l i s=some k->l[k-i]?=some s
 | [],i,k,s,h=>by rw[iH]at h;cases h
 | a::l,i,k,s,h=>by
  rw[iH]at h;split at h
  ·rename_i he;injection h with h;subst h;simp[B7 he]
  ·have h2:=Ch h;have h3:=(nA h).1;rw[show k-i=(k-(i+1))+1 by omega,j8];exact h2
theorem Ij {g:Nat}(hg:bT C g):(ay C.p)[kL C.p g]?=some g:=by
 have h:=It hg;unfold dG at h
 cases hi:iH ((ay C.p).map fun n:Nat=>(n:Int)) 0 (g:Int)with
 | none=>rw[hi]at h;simp only[cM]at h;omega
 | some k=>
  rw[hi]at h;simp only[cM]at h;have h2:=Ch hi;rw[y0,show k=kL C.p g by omega,p6]at h2
  cases hx:(ay C.p)[kL C.p g]? with
  | none=>rw[hx]at h2;cases h2
  | some v=>rw[hx]at h2;simp only[x7,Option.some.injEq]at h2;congr 1;omega
theorem Ll (MA:qI C rep x ins){t:LZ}(ht:fw t=true){d:Int}(hd:C.I8<=d)(hc:t.J1=7->∃f,findN C.p 0 t.J8=some f/\(argsN C.p f:Int)=t.Mc)(s:Gs):T C (d+ar t) (d+1) True s (lZ C rep x ins line t (d+ar t) s):=by
 have hA:(t.J1=0\/t.J1=1->(ar t:Int)=0)/\(t.J1=7->(ar t:Int)=t.Mc)/\(t.J1≠0->t.J1≠1->t.J1≠7->(ar t:Int)=2/\2<=t.J1/\t.J1<=6):=by
  have UJ:=(xY ht).1;unfold mc at UJ;rw[b8 (by simp[ht])]at UJ;unfold fw at ht;refine⟨fun h=>?_,fun h=>?_,fun k0 k1 k7=>?_⟩
  ·rw[b8 o_,c7 h]at UJ;omega
  ·rw[c7 h]at UJ;omega
  ·rw[b8 k7,b8 o_]at UJ;rw[b8 k0,b8 k7,b8 k1]at ht;simp only[b9,within_iff]at ht;exact⟨o_,o_⟩
 unfold lZ;split
 ·rename_i h0;rw[hA.1 (.inl h0)];simpa using Ey (C:=C) (d:=d) (arg:=t.Mc) (line:=(line:Int)) (chain:=x.J0) s hd
 rename_i h0;split
 ·rename_i h1;rw[hA.1 (.inr h1),Int.add_zero];unfold Ej;have M1:cA C false=1/\C.J6=true\/cA C false=3:=by unfold cA;split<;>simp_all
  refine rH s (fun hm hp=>dy hp hd (fun h=>o_) (fun h=>by
   rcases M1 with M1|M1
   ·exact M1.2
   ·omega) (fun h=>o_) (fun h=>o_) (fun h=>o_) (fun h=>o_) (fun h=>o_) (fun h=>o_) o_) ?_ aan aac
  unfold gA;dsimp only;rw[c7 o_]
 rename_i h1;split
 ·rename_i h7;obtain⟨f,hf,UF⟩:=hc h7;have hn:=hA.2.1 h7;obtain⟨_,ln,k1,k2,_⟩:=gK hf;have hg:bT C f:=⟨ln,k1,k2⟩;rw[hf];dsimp only;split
  ·rename_i hr;have:=MA line f (d+ar t) s hg o_ hr;rw[show d+(ar t:Int)-argsN C.p f+1=d+1 by omega]at this;exact this
  ·have Ue:=Ij hg;refine rH s (fun hm hp=>dy hp o_ (fun h=>o_) (fun h=>o_) (fun h=>o_) (fun h=>o_) (fun _=>⟨o_,f,by rw[d7];exact Ue,o_⟩) (fun h=>o_) (fun h=>o_) (fun h=>o_) o_) ?_ aan aac;unfold gA;dsimp only;rw[b8 o_,b8 o_,c7 rfl,jz,d7,Ue];dsimp only;omega
 ·rename_i h7;obtain⟨a1,a2,a3⟩:=hA.2.2 h0 h1 h7;rw[a1];refine rH s (fun hm hp=>dy hp o_ (fun h=>o_) (fun h=>o_) (fun h=>o_) (fun h=>o_) (fun h=>o_) (fun h=>o_) (fun h=>o_) (fun h=>o_) o_) ?_ aan aac;unfold gA;dsimp only;rw[b8 o_,c7 o_];omega
mutual
theorem Ht (MA:qI C rep x ins):∀(e:Ex) (d:Int) (s:Gs),e.ok->lx C e.toks->C.I8<=d->T C d (d+1) True s (ew C rep x ins line e d s)
 | .node t es,d,s,h,hc,hd=>by
  rw[ew];have h1:=DY MA es d s h.2.2 (fun u hu=>hc u (by rw[Ex.toks];simp[hu])) hd;have h2:=Ll (x:=x) (ins:=ins) (rep:=rep) (line:=line) MA h.1 hd (hc t (by rw[Ex.toks];simp)) (cW C rep x ins line es d s);rw[<-h.2.1]at h2;exact(h1.trans h2).weak (fun _=> .inr trivial)
theorem DY (MA:qI C rep x ins):∀(es:List Ex) (d:Int) (s:Gs),iV es->lx C (aq es)->C.I8<=d->T C d (d+es.length) False s (cW C rep x ins line es d s)
 | [],d,s,_,_,_=>by rw[cW];simpa using T.refl (C:=C) (d:=d) s
 | a::es,d,s,h,hc,hd=>by
  rw[cW];have h1:=Ht MA a d s h.1 (fun u hu=>hc u aaO) hd;have h2:=DY MA es (d+1) (ew C rep x ins line a d s) h.2 (fun u hu=>hc u aaO) o_;rw[show d+((a::es).length:Int)=d+1+es.length by simp;omega];exact(h1.trans h2).weak (fun h=>h.elim)
end
theorem Jg {d:Int}(hd:C.I8<=d)(s:Gs):T C d d False s (cZ C x line d s):=by
 unfold cZ;split
 ·exact(rH s (fun hm hp=>dy hp hd (fun h=>o_) (fun h=>o_) (fun h=>o_) (fun h=>o_) (fun h=>o_) (fun h=>o_) (fun h=>o_) (fun h=>rfl) o_) (by unfold gA;dsimp only;rw[b8 o_,b8 o_,b8 o_,c7 o_];omega) aan aac).weak (fun h=>h.elim)
 ·exact T.refl s
theorem Lt (hC:CxOk C)(hx:ScOk C x ins){g:Nat}(hg:bT C g){d:Int}(hd:C.I8+(argsN C.p g:Int)<=d)(s:Gs):T C d (d-argsN C.p g) False s (fU C x line g d s)/\ck C x+(localsOf C.p (g:Int)).length<=(fU C x line g d s).J3:=by
 obtain⟨k1,k2⟩:=dv hC hg;have hy:=kc hC hx line hg;have hf:=hy.first;have Ye:(cj C x line g).L2=false:=rfl;have WG:(cj C x line g).first=ck C x:=rfl;have h0:T C d d False s ⟨s.I7,max s.J3 (ck C x+(localsOf C.p (g:Int)).length),s.start⟩:=⟨g_,fun _ _ h=>h,fun _ ds pn h=>⟨[],fun h=>h.elim,fun _=>rfl,fun x hx=>absurd hx s_,by rw[m6];exact h⟩⟩;have h1:=BO (C:=C) Ye hf.1 (chain:=x.J0) (line:=(line:Int)) (argsN C.p g) d ⟨s.I7,max s.J3 (ck C x+(localsOf C.p (g:Int)).length),s.start⟩ o_ (fun hm=>by dsimp only at hm;omega)
 have h2:=EG (C:=C) Ye hf.1 (chain:=x.J0) (line:=(line:Int)) (d:=d-argsN C.p g) o_ ((localsOf C.p (g:Int)).length-argsN C.p g) (argsN C.p g) (cE C (cj C x line g) x.J0 line (argsN C.p g) d ⟨s.I7,max s.J3 (ck C x+(localsOf C.p (g:Int)).length),s.start⟩) (fun hm=>by
  have:=h1.mono;dsimp only at this
  omega)
 refine⟨?_,?_⟩
 ·unfold fU;exact((h0.trans h1).trans h2).weak (fun h=>h.elim)
 ·have a:=h1.mono;have b:=h2.mono;unfold fU;dsimp only at a;omega
theorem sI (v:Int):∀(js:List Int) (l:List LO) (i:Nat),bd (patchL l v js) i=bd l i
 | [],_,_=>rfl
 | j::js,l,i=>by rw[patchL,sI v js,dB]
structure LinT (C:Cx) (y:Sc) (base:Int) (s:Gs) (r:Gs×List Int):Prop where
 mono:s.J3<=r.1.J3
 ext:∀i c,bd s.I7 i=some c->bd r.1.I7 i=some c
 ty:r.1.J3<=C.I8->ck C y<=C.I8->∀ds pn,Ty C s.I7 ds pn base->∃es,es≠[]/\(∀v,es.head?=some v->v=base)/\(∀j∈r.2,Cd r.1.I7 (ds++es) j (base+1))/\(y.L2=true->r.2=[])/\∀D,(y.L2=false->D=base+1)->Ty C r.1.I7 (ds++es) (pn++r.2) D
theorem Ku (hC:CxOk C)(hx:ScOk C x ins){lines:Sc->List Nat->Int->Gs->Gs×List Int}{g:Nat}(hg:bT C g){d:Int}(hd:C.I8+(argsN C.p g:Int)<=d)(s:Gs)(hl:∀s',LinT C (cj C x line g) (d-argsN C.p g) s' (lines (cj C x line g) (ins++[g]) (d-argsN C.p g) s')):T C d (d-argsN C.p g+1) True s (lV C lines x ins line g d s):=by
 obtain⟨h1,Nx⟩:=Lt (line:=line) hC hx hg hd s;have h2:=Jg (C:=C) (x:=x) (line:=line) (d:=d-argsN C.p g) o_ (fU C x line g d s);have h3:=hl (cZ C x line (d-argsN C.p g) (fU C x line g d s));have Rv:=h1.trans h2;unfold lV
 generalize lines (cj C x line g) (ins++[g]) (d-argsN C.p g) (cZ C x line (d-argsN C.p g) (fU C x line g d s))=r at *
 refine⟨D4 Rv.mono h3.mono,fun i c h=>by dsimp only;rw[sI];exact h3.ext i c (Rv.ext i c h),fun hm ds pn ht=>?_⟩;obtain⟨es,e1,e2,e3,e4⟩:=Rv.ty (D4 h3.mono hm) ds pn ht
 obtain⟨fs,f1,f2,f3,_,f4⟩:=h3.ty hm (by
  have m2:=h2.mono;have m3:=h3.mono;have hr:r.1.J3<=C.I8:=hm;show ck C x+((localsOf C.p (g:Int)).length:Int)<=C.I8
  omega) _ pn e4
 refine⟨es++fs,fun _ h0=>by simp at h0;exact f1 h0.2,fun h0=>by simp at h0;exact absurd h0.2 f1,fun v hv=>?_,?_⟩
 ·cases es with|nil=>rw[t6]at hv;rw[f2 v hv,e2 rfl]|cons z zs=>exact e3 v hv
 ·rw[<-j9];exact(f4 _ (fun _=>rfl)).patchL pn r.2 f3 (fun i hi=>(d9.1 hi).symm)
end
end Go.Proofs.P
