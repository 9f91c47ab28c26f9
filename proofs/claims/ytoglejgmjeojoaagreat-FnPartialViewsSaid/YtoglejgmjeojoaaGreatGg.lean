import Derived.Test.YtoglejgmjeojoaaGreatGf
set_option maxRecDepth 100000
set_option maxHeartbeats 4000000
namespace Go.Proofs.P
open Go.Sim Tryz
theorem V21{p:Prop}(h:p:=by
 repeat' ((conv=>whnf);first|apply Wx|apply W6|refine cg gEm ?_|apply oi|apply fi|intro h|refine cl gEn ?_|refine⟨(ownOf C.p k),y.tr,rfl,ab hy,?_⟩|refine⟨ownOf C.p k,rfl,PS,?_⟩|refine⟨_,Qm,?_⟩|exact Y10|refine e_ rfl ?_)
 all_goals try exact Q5
 conv=>whnf
 refine⟨⟨ownOf C.p k+1,o_,o_⟩,?_,KD⟩;repeat' ((conv=>whnf);first|apply Wx|apply W6|apply oi|apply fi|intro h|exact Y8|refine e_ rfl ?_)
 all_goals(refine⟨?_⟩;dsimp only;rw[c7 o_,a1])):p:=h
theorem Q25{p:Prop}(h:p:=by exact⟨⟨by rw[Wh];simp<;>omega,by rw[Wh];simp<;>omega⟩⟩):p:=h
theorem Gk {C:Cx}(hC:CxOk C){lev:Nat}(hE:LF C lev):zb C lev:=by
 intro x S s d hx NN O1 Rn TF;refine aD hΓ aE func198 rfl d_ rfl rfl ?_;rw[jQ]at hx;rw[jQ];dsimp only at hx⊢;obtain⟨e,he,hfe,NC,Sd,OS⟩:=hx.endE hC;have RK:=hC.len;have hin:=hC.inl;have OC:∀lv:List Int,(scH (S++[(x,lv)])).length=S.length+1:=fun lv=>s_;have Nd:∀lv:List Int,(scH (S++[(x,lv)]))[S.length]?=some (lb x lv):=fun lv=>s_;have M3:∀lv:List Int,S.length<(scH (S++[(x,lv)])).length:=fun lv=>by rw[OC];omega
 have hw:∀lv:List Int,IntKind.i64.wrap (((scH (S++[(x,lv)])).length:Int)-1)=(S.length:Int):=fun lv=>by rw[OC,c6 _ o_];omega
 have gE:=cY C.p (x.f:Int) o_;rw[show cB C.p (x.f:Int)=(e:Int) by rw[cD];exact bY he]at gE;have Pv:(C.p.map Mq.tr).length=C.p.length:=s_;have Sb:(((C.p.map Mq.tr).length:Nat):Int)=(C.p.length:Int):=by rw[Pv]
 have R6:C.p.length<=9223372036854775807:=o_;have ZC:C.p.length*8<=140737488355328:=o_;have h3:=Ed (n:=lev) o_
 have Of:x.J4.length<=100:=by have:=hx.J4;rw[c8,e7]at this;simp only[d5,i9]at this;omega
 have Uq:0<=x.first/\x.first<=1000:=by have:=hx.first;rw[c8,e7]at this;simp only[d5,i9]at this;omega
 obtain⟨R,hR⟩:∃R,dL C (cQ C lev) x (ce S++[x.f]) d (e+1-(x.f+1)) (x.f+1) (cC C s)=R:=⟨_,rfl⟩
 have NM:bx C (cQ C lev) x (ce S++[x.f]) d s=(R.g,R.lv):=by unfold bx;rw[Sd,show e-x.f=e+1-(x.f+1) by omega,hR]
 rw[NM];rw[Sd]at NN;have hI0:LInv C lev x (ce S++[x.f]) d e R (x.f+1) (cC C s):=⟨d8 _,o_,by simp[cC],by simp[cC],fun i h1 h2=>o_,⟨by simp[cC],fun j hj=>by simp[cC]at hj⟩,by rw[show e+1-(x.f+1)=e-x.f by omega];exact NN,hR⟩;repeat' ((conv=>whnf);first|apply Wx|apply W6|apply oi|apply fi|intro h|refine⟨S.length,hw [],M3 [],?_⟩|refine⟨_,Nd [],?_⟩|refine cl gE ?_|refine⟨C.p.length,Sb,Sb,R6,ZC,?_⟩|exact Y7|refine e_ rfl ?_)
 conv=>whnf
 refine⟨{q:Nat×Ls×List Mp//LInv C lev x (ce S++[x.f]) d e R q.1 q.2.1/\q.2.2.length=q.2.1.g.J1.length/\(q.1<=e->dc q.2.2 q.2.2.length (q.1:Int) (bo C.p q.2.1.pos (x.f+1) (q.1-(x.f+1)))=q.2.1.g.J1)/\(q.1=e+1->q.2.2=q.2.1.g.J1)},
  fun q=>⟨[(0,iv),(2,tI .i64 (x.f:Int)),(3,xW x.J4),(4,tI .i64 (e:Int)),(5,.r (.c (.own (5,0,0)))),(6,.r (.c (.own (6,0,0)))),(7,tI .i64 (q.1.1:Int))],
   [((0,0,0),some (pN C ⟨q.1.2.2,q.1.2.1.g.J8,q.1.2.1.g.start⟩ d (5,0,1) (5,0,2))),((5,0,1),some (.dar 7 (itR q.1.2.2) none)),((5,0,2),some (.dar 6 (scH (S++[(x,q.1.2.1.lv)])) none)),((5,0,0),some (.arr false 1 (q.1.2.1.J9.map aa))),((6,0,0),some (.arr false 2 ((bo C.p q.1.2.1.pos (x.f+1) (q.1.1-(x.f+1))).map mK)))],[6,5,0]⟩,
  fun q=>e+1-q.1.1,⟨(x.f+1,cC C s,s.J1),hI0,rfl,fun _=>by rw[x6];rfl,fun _=>rfl⟩,?_,?_⟩
 ·repeat' ((conv=>whnf);first|apply Wx|apply W6|apply oi|apply fi|intro h|exact Y8|refine e_ rfl ?_)
  ·exact⟨by simp[cC,aa]⟩
  ·exact⟨by dsimp only;rw[x6];rfl⟩
 intro⟨⟨k,L,u⟩,hI,TE,Uh,SD⟩;dsimp only at hI TE Uh SD⊢;by_cases Ob:k<=e
 ·obtain⟨ln,hl⟩:=ae (l:=C.p) (k:=k) o_;have h0:=jZ hC hx he hI.lo Ob hl;obtain⟨Oz,Rj,_,OB,Py⟩:=hC.line _ _ hl;obtain⟨OT,OE⟩:=wk hC hl;have SH:=hI.lo;have Zx:=hI.room;have hIh:=hI.J9;have Zj:=hI.pos;have X1:=hI.lv.1
  have XV:L.g.J1.length+20*dm lev+3<=68719476736:=by obtain⟨n,hn⟩:∃n,e+1-k=n+1:=⟨e-k,o_⟩;rw[hn,p8]at Zx;omega
  have Wt:=po C.p L.pos (x.f+1) (k-(x.f+1))
  have UK:∀z∈bo C.p L.pos (x.f+1) (k-(x.f+1)),0<=z.2/\z.2<(L.g.J1.length:Int):=fun z hz=>by
   obtain⟨i,i1,i2,i3,rfl⟩:=lu hz;exact hI.at_ i o_ o_ i3
  have gP:=qT C ⟨u,L.g.J8,L.g.start⟩ d (scH (S++[(x,L.lv)])) (bo C.p L.pos (x.f+1) (k-(x.f+1))) k (by unfold dU;dsimp only;omega) o_ (by dsimp only;rw[TE];exact UK);rw[Uh Ob]at gP;obtain⟨A,hA⟩:∃A,bQ C (cQ C lev) x (ce S++[x.f]) d k ln L=A:=⟨_,rfl⟩;have hN:=LInv.next hC hx he hI Ob hl;rw[hA]at hN;obtain⟨P5,Tk⟩:=Di hC hx he SH Ob hl A;obtain⟨b1,b2,b3,b4,b5,b6⟩:=uS (C:=C) (x:=x) k ln A;have hQ:LInv C lev x (ce S++[x.f]) d e R (k+1) (bH C x k ln A)/\A.g.J1.length=(bH C x k ln A).g.J1.length/\(k+1<=e->dc A.g.J1 A.g.J1.length ((k+1:Nat):Int) (bo C.p (bH C x k ln A).pos (x.f+1) (k+1-(x.f+1)))=(bH C x k ln A).g.J1)/\(k+1=e+1->A.g.J1=(bH C x k ln A).g.J1):=⟨hN,b4.symm,fun h=>by rw[b2];exact P5 h,fun h=>Tk o_⟩;have VQ:k<(L.J9.map aa).length:=by rw[e7,hIh];omega
  have Qj:dU L.g:=by unfold dU;omega
  have P6:=kc L.g.J1
  have WE:ln.J5≠7->k<e:=fun h=>by
   rcases Nat.lt_or_eq_of_le Ob with h'|h'
   ·exact h'
   ·subst h';obtain⟨z,hz,Yt⟩:=bR he;rw[hl]at hz;injection hz with hz;subst hz;exact absurd Yt h
  have Oc:ln.J5≠7->Af C ln.L5:=fun h=>by
   obtain⟨l0,q1,q2⟩:=hx.fn;obtain⟨e',q3,_,_,q4⟩:=hC.fn _ _ q1 q2;rw[he]at q3;injection q3 with q3;subst q3;exact(q4 k ln o_ (WE h) hl).2.1
  obtain⟨g1,UG⟩:∃g1,eA C (cQ C lev) x (ce S++[x.f]) k (exL ln.L5) d ⟨L.g.J1,L.g.J8,true⟩=g1:=⟨_,rfl⟩
  have hX:bz ln.L5=true->ln.J5≠7->bE prog 244 [iv,tI .i64 (k:Int),tI .i64 (0:Int)] (ib (0,0,1) (0,0,2) C ⟨L.g.J1,L.g.J8,true⟩ d (scH (S++[(x,L.lv)]))) (tI .i64 ((0+(exL ln.L5).toks.length:Nat):Int)) (ib (1,0,1) (1,0,2) C g1 (d+1) (scH (S++[(x,L.lv)]))):=fun PI hx7=>by
   obtain⟨eo,et⟩:=rt PI;have XX:(exL ln.L5).toks.length<=20:=(by rw[<-et];exact OB);have hmu:=l8 (dm lev) XX;have:=hE (exL ln.L5) x S L.lv k 0 ln ⟨L.g.J1,L.g.J8,true⟩ d eo (by rw[jQ];exact hx) hl ⟨[],by rw[C2,m7];exact et⟩ (Oc hx7) ⟨g_,O1,Rn,o_⟩;rw[jQ]at this;dsimp only at this;rw[UG]at this;exact this
  have hG:bz ln.L5=true->g1.J1.length<=L.g.J1.length+20*dm lev:=fun PI=>by
   have:=(pJ (x:=x) (ins:=ce S++[x.f]) (rep:=cQ C lev) (line:=k) (lev:=lev) (fun g d s hg hr=>il hC lev k g d s hx hg hr) hC hl PI d ⟨L.g.J1,L.g.J8,true⟩).le;rw[UG]at this;exact this
  have VJ:(L.J9.map aa)[k]?=some (aa (atL L.J9 k)):=by rw[p6];have:k<L.J9.length:=o_;rw[i8 this,atL,i8 this];rfl
  have VS:∀v:Int,(L.J9.map aa).set k [.int .i64 v]=(L.J9.set k v).map aa:=fun v=>by simp[F9,aa]
  unfold bQ at hA;rw[UG]at hA;dsimp only at hA;have Q0:ln.J5=4\/ln.J5=7\/ln.J5=1\/ln.J5=2\/ln.J5=6\/(ln.J5=3\/ln.J5=5):=o_;rcases Q0 with h4|h7|h1|h2|h6|UU
  ·
   rw[c7 h4]at hA;have a1:A.g.J1=cf (aF C L.g d 10 0 k x.J4).J1 (atL L.pos (ownOf C.p k)) (aF C L.g d 10 0 k x.J4).J1.length:=(by rw[<-hA]);have a2:A.g.J8=L.g.J8:=(by rw[<-hA];rfl);have a3:A.g.start=false:=(by rw[<-hA];rfl);have a4:A.J9=L.J9:=(by rw[<-hA]);have a5:A.pos=L.pos.set k L.g.J1.length:=(by rw[<-hA]);have a6:A.lv=L.lv:=(by rw[<-hA]);obtain⟨o1,o2,o3,o4⟩:=hx.own4 hC he o_ Ob hl h4;obtain⟨y,m,hy,y3,hm,_⟩:=bA o1;have Ru:=be hl;have UP:fv C.p k=cB C.p (ownOf C.p k:Int)+1:=(by unfold fv;rw[c7 o_]);have Nk:=jJ C.p (ownOf C.p k);have SX:bo C.p L.pos (x.f+1) (k-(x.f+1))++[(fv C.p k,(L.g.J1.length:Int))]=bo C.p (L.pos.set k L.g.J1.length) (x.f+1) (k+1-(x.f+1)):=ve SH (by unfold jumps;omega) (by rw[Zj];omega) _;have gEm:=bV C L.g d (scH (S++[(x,L.lv)])) 10 0 k x.J4 Qj Of
   have gP2:=qT C (aF C L.g d 10 0 k x.J4) d (scH (S++[(x,L.lv)])) (bo C.p (L.pos.set k L.g.J1.length) (x.f+1) (k+1-(x.f+1))) (-(k:Int)) aav (by have:=po C.p (L.pos.set k L.g.J1.length) (x.f+1) (k+1-(x.f+1));omega) (fun z hz=>by
    rw[<-SX,f0]at hz;simp only[aF,c8,d5,i9];rcases hz with hz|hz
    ·have:=UK z hz;omega
    ·simp only[d7,l9,or_false]at hz;subst hz;dsimp only
     omega)
   rw[Dm hC hx he SH Ob hl h4,gu o_]at gP2;have Sq:IntKind.i64.wrap (0-(k:Int))= -(k:Int):=(by rw[c6 _ o_];omega);rw[<-Sq]at gP2;repeat' ((conv=>whnf);first|apply Wx|apply W6|refine cg gP ?_|apply oi|apply fi|intro h|refine⟨k,ln.tr,rfl,ab hl,?_⟩|exact Y10|refine e_ rfl ?_)
   conv=>whnf
   refine⟨{i:Nat//x.f<=i/\i<=k},fun q=>⟨[(0,iv),(2,tI .i64 (x.f:Int)),(3,xW x.J4),(4,tI .i64 (e:Int)),(5,.r (.c (.own (5,0,0)))),(6,.r (.c (.own (6,0,0)))),(7,tI .i64 (k:Int)),(9,tI .i64 (q.1:Int))],
    [((0,0,0),some (pN C L.g d (5,0,1) (5,0,2))),((5,0,1),some (.dar 7 (itR L.g.J1) none)),((5,0,2),some (.dar 6 (scH (S++[(x,L.lv)])) none)),((5,0,0),some (.arr false 1 (L.J9.map aa))),((6,0,0),some (.arr false 2 ((bo C.p L.pos (x.f+1) (k-(x.f+1))++(if ownOf C.p k<q.1 then [(fv C.p k,(L.g.J1.length:Int))]else [])).map mK)))],[6,5,0]⟩,
    fun q=>k-q.1,⟨x.f,o_,o_⟩,?_,?_⟩
   ·repeat' ((conv=>whnf);first|apply Wx|apply W6|apply oi|apply fi|intro h|exact Y7|refine e_ rfl ?_)
    all_goals exact⟨by rw[b8 g_];simp⟩
   intro⟨i,Qa,TO⟩;dsimp only at Qa TO⊢;by_cases O9:i<k
   ·have gEl:=kx C.p (i:Int) o_;by_cases RB:i=ownOf C.p k
    ·subst RB;rw[show cG C.p (ownOf C.p k:Int)=(k:Int) by rw[dw];exact bY o1]at gEl;have gEn:=cY C.p (ownOf C.p k:Int) o_;rw[b8 o_,m7];have Wh:((bo C.p L.pos (x.f+1) (k-(x.f+1))).map mK).length=(bo C.p L.pos (x.f+1) (k-(x.f+1))).length:=s_;have P6:=kc L.g.J1;repeat' ((conv=>whnf);first|apply Wx|apply W6|apply oi|apply fi|intro h|refine cl gEl ?_|refine cl gEn ?_|exact Y5|refine e_ rfl ?_)
     all_goals try exact Q5
     all_goals try exact Q25
     conv=>whnf
     refine⟨⟨ownOf C.p k+1,o_,o_⟩,?_,KD⟩;repeat' ((conv=>whnf);first|apply Wx|apply W6|apply oi|apply fi|intro h|exact Y8|refine e_ rfl ?_)
     all_goals(refine⟨?_⟩;dsimp only;rw[c7 o_,UP,P6,c6 _ o_];simp)
    ·have M9:cG C.p (i:Int)≠(k:Int):=fun hh=>by
      rw[dw]at hh
      cases hz:elseAt C.p i with
      | none=>rw[hz]at hh;simp only[cS]at hh;omega
      | some j=>rw[hz]at hh;simp only[cS]at hh;have:j=k:=o_;subst this;exact RB (pa hz o1)
     generalize cG C.p (i:Int)=el at *
     repeat' ((conv=>whnf);first|apply Wx|apply W6|apply oi|apply fi|intro h|refine cl gEl ?_|exact Y5|refine e_ rfl ?_)
     ·exact absurd (B2 h) M9
     ·conv=>whnf
      refine⟨⟨i+1,o_,o_⟩,?_,KD⟩;repeat' ((conv=>whnf);first|apply Wx|apply W6|apply oi|apply fi|intro h|exact Y8|refine e_ rfl ?_)
      all_goals(refine⟨?_⟩;dsimp only;congr 2)
      all_goals(by_cases hh:ownOf C.p k<i)
      all_goals first|rw[c7 hh,c7 o_]|rw[b8 hh,b8 o_]
   ·have OK:i=k:=o_;subst OK;rw[c7 o3,SX];repeat' ((conv=>whnf);first|apply Wx|apply W6|refine cg gEm ?_|refine cg gP2 ?_|apply oi|apply fi|intro h|exact Y5|refine e_ rfl ?_)
    conv=>whnf
    refine⟨⟨(i+1,bH C x i ln A,A.g.J1),hQ⟩,?_,KD⟩;repeat' ((conv=>whnf);first|apply Wx|apply W6|apply oi|apply fi|intro h|exact Y8|refine e_ rfl ?_)
    all_goals(refine⟨?_⟩;dsimp only;simp only[b1,b2,b3,b5,b6,a1,a2,a3,a4,a5,a6];try rfl)
  ·
   rw[b8 o_,c7 h7]at hA;obtain⟨o1,o2⟩:=hx.own7 hC he o_ Ob hl h7;have Oi:bo C.p L.pos (x.f+1) (k+1-(x.f+1))=bo C.p L.pos (x.f+1) (k-(x.f+1)):=lB SH (by unfold jumps;rw[be hl,h7];decide);rcases o2 with⟨o2,o3⟩|⟨o2,o3,o4,y,hy,o5⟩
   ·subst o2;rw[c7 o3]at hA;have gN:=kE C L.g d (scH (S++[(x,L.lv)])) 0 k x.J4 Qj Of o_;have gL:=qW C hC (aF C L.g d 0 0 k x.J4) (d+1) S x L.lv k true aav Of o_ o_ o_ L.J9 L.pos;rw[show bg C x k true (d+1) ⟨aF C L.g d 0 0 k x.J4,L.J9,L.pos,L.lv⟩=A from hA,H7]at gL;have a4:A.J9=L.J9:=(by rw[<-hA];unfold bg;(repeat' split)<;>rfl);have a5:A.pos=L.pos:=(by rw[<-hA];unfold bg;(repeat' split)<;>rfl);repeat' ((conv=>whnf);first|apply Wx|apply W6|refine cg gP ?_|refine cg gN ?_|refine cg gL ?_|apply oi|apply fi|intro h|refine⟨k,ln.tr,rfl,ab hl,?_⟩|exact Y10|refine e_ rfl ?_)
    all_goals try exact Q5
    conv=>whnf
    refine⟨⟨(k+1,bH C x k ln A,A.g.J1),hQ⟩,?_,KD⟩;repeat' ((conv=>whnf);first|apply Wx|apply W6|apply oi|apply fi|intro h|exact Y8|refine e_ rfl ?_)
    all_goals(refine⟨?_⟩;dsimp only;simp only[b1,b2,b3,b5,b6,a4,a5,Oi];try rfl)
   ·rw[b8 o_]at hA;have Tv:=be hy;have gEm:=bV C L.g d (scH (S++[(x,L.lv)])) 10 (atL L.J9 (ownOf C.p k)) k x.J4 Qj Of;have a4:A.J9=L.J9:=(by rw[<-hA];split<;>rfl);have a5:A.pos=L.pos:=(by rw[<-hA];split<;>rfl);have a6:A.lv=L.lv:=(by rw[<-hA];split<;>rfl);have a1:A.g=if kindAt C.p (ownOf C.p k)=5 then aF C L.g d 10 (atL L.J9 (ownOf C.p k)) k x.J4 else L.g:=by rw[<-hA];split<;>rfl
    have Qd:cB C.p (ownOf C.p k:Int)=(k:Int):=by rw[cD];exact bY o1
    have Qm:(L.J9.map aa)[ownOf C.p k]?=some (aa (atL L.J9 (ownOf C.p k))):=by rw[p6];have:ownOf C.p k<L.J9.length:=o_;rw[i8 this,atL,i8 this];rfl
    have PS:ownOf C.p k<(L.J9.map aa).length:=(by rw[e7];omega);repeat' ((conv=>whnf);first|apply Wx|apply W6|refine cg gP ?_|apply oi|apply fi|intro h|refine⟨k,ln.tr,rfl,ab hl,?_⟩|exact Y10|refine e_ rfl ?_)
    conv=>whnf
    refine⟨{i:Nat//x.f+1<=i/\i<=k},fun q=>⟨[(0,iv),(2,tI .i64 (x.f:Int)),(3,xW x.J4),(4,tI .i64 (e:Int)),(5,.r (.c (.own (5,0,0)))),(6,.r (.c (.own (6,0,0)))),(7,tI .i64 (k:Int)),(11,tI .i64 (q.1:Int))],
     [((0,0,0),some (pN C (if ownOf C.p k<q.1 then A.g else L.g) d (5,0,1) (5,0,2))),((5,0,1),some (.dar 7 (itR (if ownOf C.p k<q.1 then A.g else L.g).J1) none)),((5,0,2),some (.dar 6 (scH (S++[(x,L.lv)])) none)),((5,0,0),some (.arr false 1 (L.J9.map aa))),((6,0,0),some (.arr false 2 ((bo C.p L.pos (x.f+1) (k-(x.f+1))).map mK)))],[6,5,0]⟩,
     fun q=>k-q.1,⟨x.f+1,o_,o_⟩,?_,?_⟩
    ·repeat' ((conv=>whnf);first|apply Wx|apply W6|apply oi|apply fi|intro h|exact Y7|refine e_ rfl ?_)
     all_goals try(refine⟨?_⟩;dsimp only;rw[b8 o_];done)
     all_goals try exact Q18
    intro⟨i,Qa,TO⟩;dsimp only at Qa TO⊢;by_cases O9:i<k
    ·have gEn:=cY C.p (i:Int) o_;obtain⟨z,hz⟩:=ae (l:=C.p) (k:=i) o_;by_cases RB:i=ownOf C.p k
     ·subst RB;rw[Qd]at gEn;rw[hy]at hz;injection hz with hz;subst hz;rw[b8 o_];by_cases h5:y.J5=5
      ·rw[c7 o_]at a1;exact V21
      ·rw[b8 o_]at a1;exact V21
     ·have M9:cB C.p (i:Int)≠(k:Int):=fun hh=>by
       have h':=pA hh o_;rw[d6]at h';exact RB (xN h' o1)
      generalize cB C.p (i:Int)=en at *
      repeat' ((conv=>whnf);first|apply Wx|apply W6|apply oi|apply fi|intro h|refine cl gEn ?_|refine⟨i,z.tr,rfl,ab hz,?_⟩|exact Y5|refine e_ rfl ?_)
      all_goals try(exfalso;exact M9 (B2 aak))
      conv=>whnf
      refine⟨⟨i+1,o_,o_⟩,?_,KD⟩
      have Qr:(if ownOf C.p k<i+1 then A.g else L.g)=if ownOf C.p k<i then A.g else L.g:=by
       by_cases hh:ownOf C.p k<i
       ·rw[c7 hh,c7 o_]
       ·rw[b8 hh,b8 o_]
      dsimp only;rw[Qr];exact Z6
    ·have OK:i=k:=o_;subst OK;rw[c7 o4];repeat' ((conv=>whnf);first|apply Wx|apply W6|apply oi|apply fi|intro h|exact Y5|refine e_ rfl ?_)
     conv=>whnf
     refine⟨⟨(i+1,bH C x i ln A,A.g.J1),hQ⟩,?_,KD⟩;repeat' ((conv=>whnf);first|apply Wx|apply W6|apply oi|apply fi|intro h|exact Y8|refine e_ rfl ?_)
     all_goals(refine⟨?_⟩;dsimp only;simp only[b1,b2,b3,b5,b6,a4,a5,a6,Oi];try rfl)
  ·
   rw[b8 o_,b8 o_,c7 h1]at hA;have PI:=Py (.inl h1);have gX:=hX PI o_;have X2:=hG PI;have PZ:=qQ x.L2 ln.L0;have gI:=fP x.L2 ln.L0 o_;have gS:=lS C hC g1 (d+1) (scH (S++[(x,L.lv)])) x (dJ x.L2 ln.L0) k x.J4 aar Of o_ Uq o_;rw[H7]at gS;have a1:A.g=fS C x g1 (d+1) (dJ x.L2 ln.L0) k x.J4:=(by rw[<-hA]);have a4:A.J9=L.J9.set k L.g.J1.length:=(by rw[<-hA]);have a5:A.pos=L.pos:=(by rw[<-hA]);have a6:A.lv=L.lv:=(by rw[<-hA]);have Oi:bo C.p L.pos (x.f+1) (k+1-(x.f+1))=bo C.p L.pos (x.f+1) (k-(x.f+1)):=lB SH (by unfold jumps;rw[be hl,h1];decide)
   generalize dJ x.L2 ln.L0=ix at *
   repeat' ((conv=>whnf);first|apply Wx|apply W6|refine cg gP ?_|refine cg gX ?_|refine cg gS ?_|apply oi|apply fi|intro h|refine⟨k,ln.tr,rfl,ab hl,?_⟩|refine⟨k,rfl,VQ,?_⟩|refine⟨_,VJ,?_⟩|refine⟨S.length,hw L.lv,M3 L.lv,?_⟩|refine⟨_,Nd L.lv,?_⟩|refine cl gI ?_|exact Y10|refine e_ rfl ?_)
   conv=>whnf
   refine⟨⟨(k+1,bH C x k ln A,A.g.J1),hQ⟩,?_,KD⟩;repeat' ((conv=>whnf);first|apply Wx|apply W6|apply oi|apply fi|intro h|exact Y8|refine e_ rfl ?_)
   all_goals(refine⟨?_⟩;dsimp only;simp only[b1,b2,b3,b5,b6,a1,a4,a5,a6,Oi,P6,<-VS];try rfl)
  ·
   rw[b8 o_,b8 o_,b8 o_,c7 h2]at hA;have PI:=Py (.inr (.inl h2));have gX:=hX PI o_;have X2:=hG PI;have gS:=bV C g1 (d+1) (scH (S++[(x,L.lv)])) 17 0 k x.J4 aar Of;have a1:A.g=aF C g1 (d+1) 17 0 k x.J4:=(by rw[<-hA]);have a4:A.J9=L.J9.set k L.g.J1.length:=(by rw[<-hA]);have a5:A.pos=L.pos:=(by rw[<-hA]);have a6:A.lv=L.lv:=(by rw[<-hA]);have Oi:bo C.p L.pos (x.f+1) (k+1-(x.f+1))=bo C.p L.pos (x.f+1) (k-(x.f+1)):=lB SH (by unfold jumps;rw[be hl,h2];decide);repeat' ((conv=>whnf);first|apply Wx|apply W6|refine cg gP ?_|refine cg gX ?_|refine cg gS ?_|apply oi|apply fi|intro h|refine⟨k,ln.tr,rfl,ab hl,?_⟩|refine⟨k,rfl,VQ,?_⟩|refine⟨_,VJ,?_⟩|exact Y10|refine e_ rfl ?_)
   conv=>whnf
   refine⟨⟨(k+1,bH C x k ln A,A.g.J1),hQ⟩,?_,KD⟩;repeat' ((conv=>whnf);first|apply Wx|apply W6|apply oi|apply fi|intro h|exact Y8|refine e_ rfl ?_)
   all_goals(refine⟨?_⟩;dsimp only;simp only[b1,b2,b3,b5,b6,a1,a4,a5,a6,Oi,P6,<-VS];try rfl)
  ·
   rw[b8 o_,b8 o_,b8 o_,b8 o_,c7 h6]at hA;have PI:=Py (.inr (.inr (.inr (.inr h6))));have gX:=hX PI o_;have X2:=hG PI;have gS:=qW C hC g1 (d+1) S x L.lv k false aar Of o_ o_ o_ (L.J9.set k L.g.J1.length) L.pos;rw[hA,H7]at gS;have a4:A.J9=L.J9.set k L.g.J1.length:=(by rw[<-hA];unfold bg;(repeat' split)<;>rfl);have a5:A.pos=L.pos:=(by rw[<-hA];unfold bg;(repeat' split)<;>rfl);have Oi:bo C.p L.pos (x.f+1) (k+1-(x.f+1))=bo C.p L.pos (x.f+1) (k-(x.f+1)):=lB SH (by unfold jumps;rw[be hl,h6];decide);repeat' ((conv=>whnf);first|apply Wx|apply W6|refine cg gP ?_|refine cg gX ?_|refine cg gS ?_|apply oi|apply fi|intro h|refine⟨k,ln.tr,rfl,ab hl,?_⟩|refine⟨k,rfl,VQ,?_⟩|refine⟨_,VJ,?_⟩|exact Y10|refine e_ rfl ?_)
   conv=>whnf
   refine⟨⟨(k+1,bH C x k ln A,A.g.J1),hQ⟩,?_,KD⟩;repeat' ((conv=>whnf);first|apply Wx|apply W6|apply oi|apply fi|intro h|exact Y8|refine e_ rfl ?_)
   all_goals(refine⟨?_⟩;dsimp only;simp only[b1,b2,b3,b5,b6,a4,a5,Oi,P6,<-VS];try rfl)
  ·
   rw[b8 o_,b8 o_,b8 o_,b8 o_,b8 o_]at hA;have PI:=Py o_;have gX:=hX PI o_;have X2:=hG PI;have gS:=bV C g1 (d+1) (scH (S++[(x,L.lv)])) 11 0 k x.J4 aar Of;have a1:A.g=aF C g1 (d+1) 11 0 k x.J4:=(by rw[<-hA]);have a4:A.J9=L.J9.set k L.g.J1.length:=(by rw[<-hA]);have a5:A.pos=L.pos.set k g1.J1.length:=(by rw[<-hA]);have a6:A.lv=L.lv:=(by rw[<-hA]);have Ru:=be hl;have Oi:=ve (pos:=L.pos) (p:=C.p) (f:=x.f) (k:=k) SH (by unfold jumps;omega) (by rw[Zj];omega) (g1.J1.length:Int);have gEn:=cY C.p (k:Int) o_;have gEl:=kx C.p (k:Int) o_;have Nk:=jJ C.p k
   have VR:-1<=cG C.p (k:Int)/\cG C.p (k:Int)<=C.p.length:=by
    rw[dw]
    cases hz:elseAt C.p k with
    | none=>simp only[cS];omega
    | some j=>obtain⟨_,_,_,_,_,_,_,w,hw,_⟩:=bA hz;have:=aI hw;simp only[cS];omega
   have UP:fv C.p k=if ln.J5=3/\0<=cG C.p (k:Int)then-cG C.p (k:Int)else cB C.p (k:Int)+1:=by unfold fv;rw[b8 o_,Ru]
   have Wh:((bo C.p L.pos (x.f+1) (k-(x.f+1))).map mK).length=(bo C.p L.pos (x.f+1) (k-(x.f+1))).length:=s_;have XM:=kc g1.J1
   generalize fv C.p k=to at *
   generalize cB C.p (k:Int)=en at *
   generalize cG C.p (k:Int)=el at *
   have NT:IntKind.i64.wrap (en+1)=en+1:=(by rw[c6 _ o_]);have Ow:IntKind.i64.wrap (0-el)= - el:=(by rw[c6 _ o_];omega);repeat' ((conv=>whnf);first|apply Wx|apply W6|refine cg gP ?_|refine cg gX ?_|refine cg gS ?_|apply oi|apply fi|intro h|refine⟨k,ln.tr,rfl,ab hl,?_⟩|refine⟨k,rfl,VQ,?_⟩|refine⟨_,VJ,?_⟩|refine cl gEn ?_|refine cl gEl ?_|exact Y10|refine e_ rfl ?_)
   all_goals try exact Q25
   all_goals(conv=>whnf)
   all_goals(refine⟨⟨(k+1,bH C x k ln A,A.g.J1),hQ⟩,?_,KD⟩)
   repeat' ((conv=>whnf);first|apply Wx|apply W6|apply oi|apply fi|intro h|exact Y8|refine e_ rfl ?_)
   all_goals(refine⟨?_⟩;dsimp only;simp only[b1,b2,b3,b5,b6,a1,a4,a5,a6,<-Oi,P6,XM,<-VS,NT,Ow];try rfl)
   all_goals first
    |(rw[UP,c7 ⟨B2 aak,d9 aak⟩];simp)
    |(rw[UP,b8 (fun hh=>absurd hh.2 (e8 aak))];simp)
    |(rw[UP,b8 (fun hh=>by
                     have h9:(ln.J5==3)=false:=by assumption
                     rw[hh.1]at h9;cases h9)];simp)
 ·have hk1:k=e+1:=by have:=hI.hi;omega
  subst hk1;have hf:=hI.fin;rw[x6,dL]at hf;subst hf;rw[SD rfl];exact Z7
structure Mj where
 b:List UInt8
 i:Nat
 h:Int
def Mj.ok (c:Mj):Prop:=c.i<=c.b.length/\c.b.length<=1048576
abbrev fB (c:Mj):List (Sim.Id×AO):=[((0,0,0),.box [.t (.lst 1 (c.b.map aT)),.t (.int .i64 c.i),.t (.int .i64 c.h)])]
abbrev gO:AV:= .r (.c (.ptr (0,0,0) 0))
theorem LW (z:Int):∃x:Nat,x<256/\IntKind.i64.wrap ((BitVec.ofInt IntKind.i64.bits z &&& BitVec.ofInt IntKind.i64.bits 255).toNat:Int)=(x:Int):=by
 have e:(BitVec.ofInt 64 255).toNat=2^8-1:=d_
 have h:(BitVec.ofInt IntKind.i64.bits z &&& BitVec.ofInt IntKind.i64.bits 255).toNat<256:=by show(BitVec.ofInt 64 z &&& BitVec.ofInt 64 255).toNat<256;rw[I5,e,D3];omega
 generalize(BitVec.ofInt IntKind.i64.bits z &&& BitVec.ofInt IntKind.i64.bits 255).toNat=n at *
 exact⟨n,h,c6 _ o_⟩
def iM (h:Int):Int:=IntKind.i64.wrap (IntKind.i64.wrap (h*6364136223846793005)+1442695040888963407)
theorem V56{p:Prop}(h:p:=by
 refine aD hΓ aE func194 rfl d_ rfl rfl ?_;repeat' ((conv=>whnf);first|apply Wx|apply W6|apply oi|apply fi|intro h|exact Y5|refine e_ rfl ?_)
 all_goals try exact⟨congrArg (Tr.int _) SB⟩
 all_goals exact⟨rfl⟩):p:=h
theorem gh (c:Mj)(hc:c.ok):∃(x:Nat) (c':Mj),x<256/\c'.b=c.b/\c'.ok/\bE prog 194 [gO] (fB c) (tI .i64 x) (fB c'):=by
 obtain⟨hi,hl⟩:=hc;have P4:(c.b.map aT).length=c.b.length:=s_;obtain⟨x0,Qk,SB⟩:=LW (IntKind.i64.wrap ((BitVec.ofInt IntKind.i64.bits ((iM c.h).fdiv (2^min (Int.toNat 33) IntKind.i64.bits)) ^^^ BitVec.ofInt IntKind.i64.bits ((iM c.h).fdiv (2^min (Int.toNat 45) IntKind.i64.bits))).toNat:Int));unfold iM at SB;by_cases M3:c.i<c.b.length
 ·obtain⟨u,hu⟩:=ae M3;obtain⟨x,hx,he⟩:=LW (IntKind.i64.wrap ((x0:Int)+IntKind.i64.wrap (u.toNat:Int)));rw[<-SB]at he;refine⟨x,⟨c.b,c.i+1,iM c.h⟩,hx,rfl,⟨g_,hl⟩,?_⟩;refine aD hΓ aE func194 rfl d_ rfl rfl ?_;repeat' ((conv=>whnf);first|apply Wx|apply W6|apply oi|apply fi|intro h|refine⟨c.i,(aT u),rfl,ab hu,?_⟩|exact Y5|refine e_ rfl ?_)
  all_goals try exact⟨congrArg (Tr.int _) he⟩
  all_goals try exact⟨K5⟩
  all_goals exact⟨rfl⟩
 ·refine⟨x0,⟨c.b,c.i,iM c.h⟩,Qk,rfl,⟨hi,hl⟩,?_⟩;exact V56
theorem oT {x:Nat}{n:Int}(h:0<n):∃y:Nat,(y:Int)<n/\(x:Int).tmod n=(y:Int):=by have h1:=Int.tmod_nonneg n (Int.natCast_nonneg x);have h2:=Int.tmod_lt_of_pos (x:Int) h;obtain⟨y,hy⟩:=gt h1;exact⟨y,o_,hy⟩
theorem V9{p:Prop}(h:p:=by
 refine aD hΓ aE func130 rfl d_ rfl rfl ?_;repeat' ((conv=>whnf);first|apply Wx|apply W6|apply oi|apply fi|intro h|exact Y5|refine e_ rfl ?_)
 refine cg (g1) ?_;repeat' ((conv=>whnf);first|apply Wx|apply W6|apply oi|apply fi|intro h|exact Y7|refine e_ rfl ?_)
 refine cg (g2) ?_;repeat' ((conv=>whnf);first|apply Wx|apply W6|apply oi|apply fi|intro h|exact Y7|refine e_ rfl ?_)
 refine cg (g3) ?_;repeat' ((conv=>whnf);first|apply Wx|apply W6|apply oi|apply fi|intro h|exact Y7|refine e_ rfl ?_)
 refine cg (g4) ?_;repeat' ((conv=>whnf);first|apply Wx|apply W6|apply oi|apply fi|intro h|exact Y7|refine e_ rfl ?_)
 all_goals try exact⟨o_⟩
 all_goals(
  have hw:IntKind.i64.wrap (IntKind.i64.wrap (IntKind.i64.wrap (IntKind.i64.wrap ((x1:Int)*16777216)+IntKind.i64.wrap ((x2:Int)*65536))+IntKind.i64.wrap ((x3:Int)*256))+(x4:Int))=((x1*16777216+x2*65536+x3*256+x4:Nat):Int):=by rw[c6 ((x1:Int)*16777216) o_,c6 ((x2:Int)*65536) o_,c6 ((x3:Int)*256) o_,c6 ((x1:Int)*16777216+(x2:Int)*65536) o_,c6 ((x1:Int)*16777216+(x2:Int)*65536+(x3:Int)*256) o_,c6 _ o_];omega
  exact⟨by rw[hw,hm]⟩)):p:=h
theorem bM (c:Mj)(n:Int)(hc:c.ok):∃(x:Nat) (c':Mj),(0<n->(x:Int)<n)/\(n<=0->x=0)/\c'.b=c.b/\c'.ok/\bE prog 130 [gO,tI .i64 n] (fB c) (tI .i64 x) (fB c'):=by
 by_cases h0:n<=0
 ·refine⟨0,c,o_,fun _=>rfl,rfl,hc,?_⟩;refine aD hΓ aE func130 rfl d_ rfl rfl ?_;exact Z7
 ·obtain⟨x1,c1,k1,b1,o1,g1⟩:=gh c hc;by_cases h2:n<=256
  ·obtain⟨y,hy,hm⟩:=oT (x:=x1) (n:=n) o_;refine⟨y,c1,fun _=>hy,o_,b1,o1,?_⟩;refine aD hΓ aE func130 rfl d_ rfl rfl ?_;repeat' ((conv=>whnf);first|apply Wx|apply W6|refine cg g1 ?_|apply oi|apply fi|intro h|exact Y5|refine e_ rfl ?_)
   all_goals try exact⟨o_⟩
   all_goals exact⟨congrArg (Tr.int _) hm⟩
  ·obtain⟨x2,c2,k2,b2,o2,g2⟩:=gh c1 o1;obtain⟨x3,c3,k3,b3,o3,g3⟩:=gh c2 o2;obtain⟨x4,c4,k4,b4,o4,g4⟩:=gh c3 o3;obtain⟨y,hy,hm⟩:=oT (x:=x1*16777216+x2*65536+x3*256+x4) (n:=n) o_;refine⟨y,c4,fun _=>hy,o_,((b4.trans b3).trans b2).trans b1,o4,?_⟩;exact V9
theorem dP (c:Mj)(n:Int)(hc:c.ok):∃(x:Bool) (c':Mj),c'.b=c.b/\c'.ok/\bE prog 171 [gO,tI .i64 n] (fB c) (tB x) (fB c'):=by obtain⟨x,c',_,_,b1,o1,g1⟩:=bM c n hc;refine⟨(x:Int)==0,c',b1,o1,?_⟩;refine aD hΓ aE func171 rfl d_ rfl rfl ?_;repeat' ((conv=>whnf);first|apply Wx|apply W6|refine cg g1 ?_|apply oi|apply fi|intro h|exact Y7|refine e_ rfl ?_)
theorem jF (c:Mj)(ns:List Int)(hc:c.ok)(hp:0<ns.length)(hl:ns.length<=1048576):∃(v:Int) (c':Mj),v∈ns/\c'.b=c.b/\c'.ok/\bE prog 129 [gO,.r (.c (.own (0,0,1)))] (fB c++[((0,0,1),.arr false 1 (ns.map aa))]) (tI .i64 v) (fB c'++[((0,0,1),.arr false 1 (ns.map aa))]):=by
 have M0:(ns.map aa).length=ns.length:=s_;obtain⟨x,c',h1,_,b1,o1,g1⟩:=bM c ((ns.map aa).length:Int) hc;rw[M0]at h1;obtain⟨v,hv⟩:=ae (l:=ns) (k:=x) o_;have QB:x<(ns.map aa).length:=by rw[M0];omega
 refine⟨v,c',c9 hv,b1,o1,?_⟩;refine aD hΓ aE func129 rfl d_ rfl rfl ?_;repeat' ((conv=>whnf);first|apply Wx|apply W6|refine cg g1 ?_|apply oi|apply fi|intro h|refine⟨x,rfl,QB,?_⟩|refine⟨(aa v),ab hv,?_⟩|exact Y7|refine e_ rfl ?_)
def aS (b:Mi):Bool:=af b.MS 0 63&&af b.MJ 0 3
theorem jw (b:Mi):Sim.Spec prog 60 [.agg b.tr] (rB (aS b)):=by
 refine bI hΓ aE func60 rfl d_ rfl ?_;have h1:=aJ b.MS 0 63;have h2:=aJ b.MJ 0 3;unfold aS
 generalize af b.MS 0 63=w1 at *
 generalize af b.MJ 0 3=w2 at *
 repeat' ((conv=>whnf);first|apply Wx|apply W6|apply oi|apply fi|intro h|refine cl h1 ?_|refine cl h2 ?_|exact Y7|refine e_ rfl ?_)
 all_goals(refine⟨congrArg Tr.bool ?_⟩;simp_all)
theorem tX (c:Mj)(hc:c.ok):∃(b:Mi) (c':Mj),aS b=true/\c'.b=c.b/\c'.ok/\bE prog 95 [gO] (fB c) (.r (.agg (b.tr.map .t))) (fB c'):=by
 obtain⟨f,c1,k1,_,b1,o1,g1⟩:=bM c 64 hc;obtain⟨v,c2,hv,b2,o2,g2⟩:=jF c1 [0,1,2,3] o1 d_ d_;obtain⟨x,c3,b3,o3,g3⟩:=dP c2 2 o2;obtain⟨y,c4,b4,o4,g4⟩:=dP c3 2 o3;refine⟨⟨f,v,x,y⟩,c4,?_,((b4.trans b3).trans b2).trans b1,o4,?_⟩
 ·have:=k1 o_;simp only[d7,l9,or_false]at hv;unfold aS;rw[within_iff.2 ⟨g_,g_⟩,within_iff.2 ⟨g_,g_⟩];rfl
 ·refine aD hΓ aE func95 rfl d_ rfl rfl ?_;repeat' ((conv=>whnf);first|apply Wx|apply W6|apply oi|apply fi|intro h|exact Y7|refine e_ rfl ?_)
  refine cg (g1) ?_;repeat' ((conv=>whnf);first|apply Wx|apply W6|apply oi|apply fi|intro h|exact Y7|refine e_ rfl ?_)
  refine cg (g2) ?_;repeat' ((conv=>whnf);first|apply Wx|apply W6|apply oi|apply fi|intro h|exact Y7|refine e_ rfl ?_)
  refine cg (g3) ?_;repeat' ((conv=>whnf);first|apply Wx|apply W6|apply oi|apply fi|intro h|exact Y7|refine e_ rfl ?_)
  refine cg (g4) ?_;exact Z2
theorem FL {C:Cx}(hC:CxOk C):∀lev,Ik C lev/\zb C lev:=by
 have hL:∀lev,Ik C lev->zb C lev:=fun lev hR=>Gk hC fun e x S lv k p ln s d h1 h2 h3 h4 h5 h6=>Bd hC hR e.toks.length e (d8 _) x S lv k p ln s d h1 h2 h3 h4 h5 h6;intro lev
 induction lev with
 | zero=>
  have hR:Ik C 0:=by intro x S lv k g s d hx hk hg S6 hr;obtain⟨r1,_⟩:=fQ S6;have:=hr.depth;rw[show(ce (S++[(x,lv)])).length=S.length+1 by simp]at r1;omega
  exact⟨hR,hL 0 hR⟩
 | succ n ih=>have hR:=JS hC ih.2;exact⟨hR,hL _ hR⟩
def oc (frames f:Int):Bool:=IntKind.i64.wrap (BitVec.ofInt IntKind.i64.bits (frames.fdiv (2^min f.toNat IntKind.i64.bits)) &&& BitVec.ofInt IntKind.i64.bits 1).toNat==1
theorem V32{p:Prop}(h:p:=by
 rw[VM];repeat' ((conv=>whnf);first|apply Wx|apply W6|refine cg g2 ?_|refine cg gLs ?_|apply oi|apply fi|intro h|refine⟨0,rfl,s_,?_⟩|refine⟨_,hOl,?_⟩|exact Y7|refine e_ rfl ?_)
 all_goals try(exfalso;rw[TB]at h;cases h;done)
 all_goals first|exact⟨⟨_,rfl⟩⟩|exact⟨congrArg (Tr.int .i64) ZB.symm⟩):p:=h
theorem ki (C:Cx)(hC:CxOk C)(f g:Nat)(hf:(aA C.p)[f]?=some g)(e3:C.K0=oc C.b.MS f)(e5:C.args=argsN C.p g):
  Sim.Spec prog 133 [tvP C.p,tvI (f:Int),.agg C.b.tr,tvI C.J2] (.tup [.c (.arr 7 ((dK C g).J1.map Mp.tr)),.c (.t (.int .i64 (dK C g).J8))]):=by
 refine bI hΓ aE func133 rfl d_ rfl ?_;obtain⟨VR,y,hy,Pa⟩:=nU (c9 hf);have RK:=hC.len;have hw:=hC.J2;have hin:=hC.inl;have gF:=cN C.p o_;have gL:=jd C.p (g:Int) o_ (fun z hz=>aZ hC.small hz);have hA:argsN C.p g=y.L9.length:=by rw[argsN,hy]
 have h4:=(hC.line g y hy).2.2.1;have Nh:f<(aA C.p).length:=aI hf;have NF:f<((aA C.p).map fun n:Nat=>aa n).length:=by rw[e7];exact Nh
 have Wq:((aA C.p).map fun n:Nat=>aa n)[f]?=some (aa (g:Int)):=by rw[p6,hf];rfl
 have NR:=dy hC ⟨y,hy,Pa⟩;have Sp:(y.L9.map aq).length=y.L9.length:=s_;have OS:((localsOf C.p (g:Int)).map aq).length=(localsOf C.p (g:Int)).length:=s_;have hS:ScOk C (bd C g) [g]:=⟨⟨y,hy,Pa⟩,rfl,⟨u4 _,by simp[bd]⟩,rfl,by simp[bd],fun _=>e5,rfl⟩;obtain⟨e,Yk,O4,he3,he4,_⟩:=hS.endE hC;obtain⟨O,hO⟩:∃O,bd C g=O:=⟨_,rfl⟩;have Yp:lb O []=[.d (.int .i64 (g:Int)),.t (.lst 1 []),.t (.lst 1 ((localsOf C.p (g:Int)).map aq)),.d (.int .i64 0),.d (.bool true),.d (.lst 0 [])]:=by rw[<-hO,bd];rfl
 have hOl:(scH [(O,[])])[0]?=some [.d (.int .i64 (g:Int)),.t (.lst 1 []),.t (.lst 1 ((localsOf C.p (g:Int)).map aq)),.d (.int .i64 0),.d (.bool true),.d (.lst 0 [])]:=by rw[<-Yp];rfl
 have g1:=fun code=>bV C ⟨[],(localsOf C.p (g:Int)).length-C.args,false⟩ 0 (scH [(O,[])]) code C.J2 g [] (by unfold dU;simp) s_;have O1:((C.b.MJ.toNat:Nat):Int)=C.b.MJ:=D0 hin.1;have h3:=Ed (n:=C.b.MJ.toNat) o_
 have gLs:=(FL hC C.b.MJ.toNat).2 O [] (dV C g) C.J2 (by rw[<-hO];exact hS) (by
  rw[<-hO,he4];have:=A7 (show e-(bd C g).f<=60 by omega) (show 20*dm C.b.MJ.toNat+3<=20*8679837+3 by omega);simp only[dV,aF,c8,i9,d5]
  omega) (by simpa using O1) hw.1 o_
 have WQ:bx C (cQ C C.b.MJ.toNat) O (ce ([]++[(O,[])])) C.J2 (dV C g)=bx C (cQ C C.b.MJ.toNat) (bd C g) [g] C.J2 (dV C g):=by rw[<-hO];rfl
 rw[WQ,t7,t7]at gLs;repeat' ((conv=>whnf);first|(with_reducible apply W1;fail_if_success (with_reducible show Wo _ _ _ _ (Code.region 4 _ _) _ _))|(with_reducible first|apply W2|apply W3|apply W4|apply W5|apply W6|apply W7|apply W8|apply W9)|apply au|apply oi|apply fi|intro h|refine cl gF ?_|refine⟨f,rfl,NF,?_⟩|refine⟨_,Wq,?_⟩|refine⟨g,y.tr,rfl,ab hy,?_⟩|refine cl gL ?_|exact Y7|refine e_ rfl ?_)
 all_goals try exact⟨o_⟩
 all_goals try exact⟨kQ _⟩
 conv=>whnf
 refine GL (40,0,0) (rows':=[lb O []]) rfl ?_ ?_
 ·rw[Yp];refine⟨⟨rfl,fun q c d hc hd=>?_⟩,trivial⟩
  match q with|0=>simp at hc hd;subst hc;subst hd;exact .inl rfl|1=>simp at hc hd;subst hc;subst hd;exact .inr (.inr ⟨0,1,rfl,rfl⟩)|2=>simp at hc hd;subst hc;subst hd;exact .inr (.inl rfl)|3=>simp at hc hd;subst hc;subst hd;exact .inl rfl|4=>simp at hc hd;subst hc;subst hd;exact .inl rfl|5=>simp at hc hd;subst hc;subst hd;exact .inl rfl|q+6=>simp at hc
 refine BN ⟨[(0,vP C.p),(3,tI .i64 C.J2),(10,tI .i64 (g:Int)),(11,.r (.c (.ptr (33,0,0) 0)))],[((33,0,0),some (pN C ⟨[],0,false⟩ 0 (33,0,1) (33,0,2))),((33,0,1),some (.dar 7 (itR []) none)),((33,0,2),some (.dar 6 (scH [(O,[])]) none))],[40,38,33,13,6]⟩ ?_ ?_
 ·repeat' ((conv=>whnf);first|apply Wx|apply W6|apply oi|apply fi|intro h|exact Y7|refine e_ rfl ?_)
  all_goals try exact⟨by rw[e3];rfl⟩
  all_goals try exact⟨by rw[e5,hA,Sp]⟩
 have ZB:IntKind.i64.wrap ((((localsOf C.p (g:Int)).map aq).length:Int)-C.args)=((localsOf C.p (g:Int)).length:Int)-C.args:=by rw[OS,c6 _ o_]
 cases TB:C.K0 with
 | true=>
  have hh:dV C g=aF C ⟨[],(localsOf C.p (g:Int)).length-C.args,false⟩ 0 13 C.J2 g []:=by rw[dV,c7 TB]
  rw[hh]at gLs;have g2:=g1 13;have VM:dK C g=(bx C (cQ C C.b.MJ.toNat) (bd C g) [g] C.J2 (aF C ⟨[],(localsOf C.p (g:Int)).length-C.args,false⟩ 0 13 C.J2 g [])).1:=by rw[dK,hh]
  exact V32
 | false=>
  have hh:dV C g=aF C ⟨[],(localsOf C.p (g:Int)).length-C.args,false⟩ 0 15 C.J2 g []:=by rw[dV,b8 (by simp[TB])]
  rw[hh]at gLs;have g2:=g1 15;have VM:dK C g=(bx C (cQ C C.b.MJ.toNat) (bd C g) [g] C.J2 (aF C ⟨[],(localsOf C.p (g:Int)).length-C.args,false⟩ 0 15 C.J2 g [])).1:=by rw[dK,hh]
  exact V32
theorem wK {C:Cx}(hC:CxOk C){g:Nat}(hg:ca C g)(e5:C.args=argsN C.p g):0<=(dK C g).J8/\(dK C g).J8<=1000:=by have hS:ScOk C (bd C g) [g]:=⟨hg,rfl,⟨u4 _,by simp[bd]⟩,rfl,by simp[bd],fun _=>e5,rfl⟩;have hG:=mI (lev:=C.b.MJ.toNat) (rep:=cQ C C.b.MJ.toNat) (fun line g d s hg hr=>il hC _ line g d s hS hg hr) hC hS C.J2 (dV C g);obtain⟨l1,l2⟩:=dy hC hg;have hm:(dV C g).J8=(localsOf C.p (g:Int)).length-C.args:=rfl;have h1:=hG.J8;have h2:=hG.cap (by rw[hm];omega);rw[hm]at h1;exact⟨D8 o_ h1,h2⟩
def ctx (p:List Mq)(f g:Nat)(b:Mi)(words:Int):Cx:=⟨p,b,oc b.MS f,words,argsN p g⟩
noncomputable def foldIf (p:List Mq) (b:Mi):List Mq:=if b.MY=true then p.map aO else p
noncomputable def mZ (p:List Mq) (f:Nat) (b:Mi):List Mp:=match(aA (foldIf p b))[f]? with
 | some g=>(dK (ctx (foldIf p b) f g b (dK (ctx (foldIf p b) f g b 0) g).J8) g).J1
 | none=>[]
noncomputable def aC (p:List Mq) (f:Int) (b:Mi):List Mp:=
 if aj p=true/\aS b=true/\0<=f/\f<(aA p).length then mZ p f.toNat b else []
theorem alike.funsF:∀{p q:List Mq},alike p q->∀i:Nat,funsF p i=funsF q i
 | [],[],_,_=>rfl
 | x::p,y::q,h,i=>by
  simp only[alike,p7,List.cons.injEq,Prod.mk.injEq]at h;have ih:=alike.funsF (p:=p) (q:=q) h.2
  rw[Go.Proofs.P.funsF,Go.Proofs.P.funsF,h.1.1,ih]
 | [],_::_,h,_=>by simp[alike]at h
 | _::_,[],h,_=>by simp[alike]at h
theorem mX (p:List Mq)(b:Mi):aA (foldIf p b)=aA p:=by
 unfold foldIf;split
 ·exact(fd p).funsF 0
 ·rfl
theorem PgOk.foldIf {p:List Mq}(h:PgOk p)(b:Mi):PgOk (foldIf p b):=by
 unfold Go.Proofs.P.foldIf;split
 ·exact h.fold
 ·exact h
theorem V124{p:Prop}(h:p:=by
 unfold aS at h2;simp only[b9,within_iff]at h2
 exact h2.2):p:=h
theorem V53{p:Prop}(h:p:=by
 simp only[ctx,e]at g0 g1
 repeat' ((conv=>whnf);first|apply Wx|apply W6|apply oi|apply fi|intro h|refine cl hP ?_|refine cl hB ?_|refine cl gF ?_|refine cl Pz ?_|refine cl g0 ?_|refine cl g1 ?_|exact Y5|refine e_ rfl ?_)):p:=h
theorem V84{p:Prop}(h:p:=by
 repeat' ((conv=>whnf);first|apply Wx|apply W6|apply oi|apply fi|intro h|refine cl hP ?_|refine cl hB ?_|refine cl gF ?_|exact Y5|refine e_ rfl ?_)):p:=h
theorem lp (p:List Mq)(f:Int)(b:Mi)(hs:ao 1048576 (.lst 4 (p.map Mq.tr))):Sim.Spec prog 64 [tvP p,tvI f,.agg b.tr] (rL 7 ((aC p f b).map Mp.tr)):=by
 refine bI hΓ aE func64 rfl d_ rfl ?_;have hP:=dQ p hs;have hB:=jw b;have hl:=bi hs;have gF:=cN p o_;have Nh:((aA p).map fun n:Nat=>aa n).length=(aA p).length:=s_;by_cases hc:aj p=true/\aS b=true/\0<=f/\f<(aA p).length
 ·have Qx:aC p f b=mZ p f.toNat b:=by rw[aC,c7 hc]
  rw[Qx];obtain⟨h1,h2,h3,h4⟩:=hc;obtain⟨f,rfl⟩:=gt h3;rw[d6];rw[h1]at hP;rw[h2]at hB
  have hb:0<=b.MJ/\b.MJ<=3:=by exact V124
  obtain⟨g,hg⟩:=ae (l:=aA p) (k:=f) o_;have QV:=(za hs h1).foldIf b;have Qq:(aA (foldIf p b))[f]?=some g:=by rw[mX];exact hg
  obtain⟨VR,y,hy,Pa⟩:=nU (c9 Qq);have RL:=(QV.line g y hy).2.2.1;have ha:(0:Int)<=(argsN (foldIf p b) g:Int)/\(argsN (foldIf p b) g:Int)<=4:=by rw[argsN,hy];dsimp only;omega
  have T8:CxOk (ctx (foldIf p b) f g b 0):=QV.cx ha o_ hb;have hm:=wK T8 ⟨y,hy,Pa⟩ rfl;have WS:CxOk (ctx (foldIf p b) f g b (dK (ctx (foldIf p b) f g b 0) g).J8):=QV.cx ha hm hb;have g0:=ki _ T8 f g Qq rfl rfl;have g1:=ki _ WS f g Qq rfl rfl;have XI:mZ p f b=(dK (ctx (foldIf p b) f g b (dK (ctx (foldIf p b) f g b 0) g).J8) g).J1:=by rw[mZ,Qq]
  rw[XI]
  generalize dK (ctx (foldIf p b) f g b 0) g=R0 at *
  generalize dK (ctx (foldIf p b) f g b R0.J8) g=R1 at *
  have Pz:=oY p hs;rw[show jz p=p.map aO by rw[jz,c7 h1]]at Pz;obtain⟨fr,inl,fold,sp⟩:=b
  cases fold with
  | true=>
   have e:foldIf p ⟨fr,inl,true,sp⟩=p.map aO:=rfl
   exact V53
  | false=>have e:foldIf p ⟨fr,inl,false,sp⟩=p:=rfl;exact V53
 ·have Qx:aC p f b=[]:=by rw[aC,b8 hc]
  rw[Qx]
  cases h1:aj p with
  | false=>
   rw[h1]at hP
   exact V84
  | true=>
   rw[h1]at hP
   cases h2:aS b with
   | false=>
    rw[h2]at hB
    exact V84
   | true=>rw[h2]at hB;have M6:¬(0<=f/\f<(aA p).length):=fun hh=>hc ⟨h1,h2,hh⟩;exact V84
def xC (l:List Mp):Prop:=∀it∈l,it.MQ.length<=4
structure Cap (M t:Nat) (s s':Gs):Prop where
 le:s'.J1.length<=max s.J1.length M+t
 ch:xC s.J1->xC s'.J1
theorem Cap.refl {M:Nat}(s:Gs):Cap M 0 s s:=⟨o_,id⟩
theorem Cap.trans {M n m:Nat}{a b c:Gs}(h:Cap M n a b)(h':Cap M m b c):Cap M (n+m) a c:=⟨by have:=h.le;have:=h'.le;omega,fun x=>h'.ch (h.ch x)⟩
theorem Cap.mono {M n m:Nat}{a b:Gs}(h:Cap M n a b)(hn:n<=m):Cap M m a b:=⟨by have:=h.le;omega,h.ch⟩
theorem co {M:Nat}(C:Cx)(s:Gs)(d code arg line:Int){chain:List Int}(hc:chain.length<=4):Cap M 1 s (aF C s d code arg line chain):=by
 refine⟨by simp only[aF,c8,d5,i9];omega,fun h it NZ=>?_⟩;simp only[aF,f0,d7,l9,or_false]at NZ;rcases NZ with NZ|rfl
 ·exact h it NZ
 ·exact hc
theorem sf {l:List Mp}(h:xC l)(j v:Int):xC (cf l j v):=by
 unfold cf;split
 ·split
  ·rename_i it hi;intro z hz;rcases u7 hz with hz|rfl
   ·exact h z hz
   ·exact h it (c9 hi)
  ·exact h
 ·exact h
theorem yh (v:Int):∀(js:List Int) {l:List Mp},xC l->xC (patchL l v js)
 | [],_,h=>h
 | j::js,_,h=>by rw[patchL];exact yh v js (sf h j v)
theorem Cap.set {M n:Nat}{a b:Gs}{l:List Mp}(h:Cap M n a b)(hl:l.length=b.J1.length)(hc:xC b.J1->xC l):Cap M n a ⟨l,b.J8,b.start⟩:=⟨by have:=h.le;simp only[hl];omega,fun x=>hc (h.ch x)⟩
section
variable {C:Cx} {x:Sc} {ins:List Nat} {rep:Sc->List Nat->Nat->Nat->Int->Gs->Gs} {line:Nat} {M:Nat}
theorem sS (y:Sc){chain:List Int}(hc:chain.length<=4)(line:Int):∀(n:Nat) (d:Int) (s:Gs),Cap M n s (cK C y chain line n d s)
 | 0,d,s=>Cap.refl s
 | n+1,d,s=>by
  rw[cK];exact((co C s d _ _ _ hc).trans (sS y hc line n (d-1) _)).mono o_
theorem vd (y:Sc){chain:List Int}(hc:chain.length<=4)(line d:Int):∀(n i:Nat) (s:Gs),Cap M (2*n) s (dH C y chain line d n i s)
 | 0,i,s=>Cap.refl s
 | n+1,i,s=>by
  rw[dH];exact(((co C s d _ _ _ hc).trans (co C _ (d+1) _ _ _ hc)).trans (vd y hc line d n (i+1) _)).mono o_
theorem GU (hx:x.J4.length<=4)(M4:∀g d s,ca C g->cU C ins g s.J1.length=true->Cap M 0 s (rep x ins line g d s))(t:Mz)(d:Int)(s:Gs):Cap M 1 s (mm C rep x ins line t d s):=by
 unfold mm;split
 ·exact co _ _ _ _ _ _ hx
 ·split
  ·exact co _ _ _ _ _ _ hx
  ·split
   ·split
    ·rename_i g hg;split
     ·rename_i hr;obtain⟨_,ln,h1,h2,_⟩:=ig hg;exact(M4 g d s ⟨ln,h1,h2⟩ hr).mono o_
     ·exact co _ _ _ _ _ _ hx
    ·exact(Cap.refl s).mono o_
   ·exact co _ _ _ _ _ _ hx
mutual
theorem CN (hx:x.J4.length<=4)(M4:∀g d s,ca C g->cU C ins g s.J1.length=true->Cap M 0 s (rep x ins line g d s)):∀(e:Ex) (d:Int) (s:Gs),Cap M e.toks.length s (eA C rep x ins line e d s)
 | .node t es,d,s=>by
  rw[eA,Ex.toks,d5];exact((yG hx M4 es d s).trans (GU hx M4 t _ _)).mono o_
theorem yG (hx:x.J4.length<=4)(M4:∀g d s,ca C g->cU C ins g s.J1.length=true->Cap M 0 s (rep x ins line g d s)):∀(es:List Ex) (d:Int) (s:Gs),Cap M (aw es).length s (cZ C rep x ins line es d s)
 | [],d,s=>by rw[cZ,aw];exact(Cap.refl s).mono o_
 | a::es,d,s=>by
  rw[cZ,aw,c8];exact(CN hx M4 a d s).trans (yG hx M4 es (d+1) _)
end
theorem Hd (hC:CxOk C)(hx:x.J4.length<=4)(line:Nat){g:Nat}(hg:ca C g)(d:Int)(s:Gs):Cap M 16 s (fY C x line g d s):=by obtain⟨h1,h2⟩:=dy hC hg;have h0:Cap M 0 s ⟨s.J1,max s.J8 (ct C x+(localsOf C.p (g:Int)).length),s.start⟩:=⟨g_,id⟩;unfold fY;exact((h0.trans (sS _ hx _ _ _ _)).trans (vd _ hx _ _ _ _ _)).mono o_
theorem DO (hx:x.J4.length<=4)(line:Nat)(d:Int)(s:Gs):Cap M 1 s (dk C x line d s):=by
 unfold dk;split
 ·exact co _ _ _ _ _ _ hx
 ·exact(Cap.refl s).mono o_
theorem vT (hx:x.J4.length<=4)(k:Nat)(last:Bool)(d:Int)(L:Ls):Cap M 1 L.g (bg C x k last d L).g:=by
 unfold bg;split
 ·split
  ·exact co _ _ _ _ _ _ hx
  ·exact co _ _ _ _ _ _ hx
 ·split
  ·exact(Cap.refl _).mono o_
  ·exact co _ _ _ _ _ _ hx
theorem FH (hx:x.J4.length<=4)(M4:∀g d s,ca C g->cU C ins g s.J1.length=true->Cap M 0 s (rep x ins line g d s))(hC:CxOk C){k:Nat}{ln:Mq}(hk:C.p[k]?=some ln)(he:bz ln.L5=true)(d:Int)(s:Gs):Cap M 20 s (eA C rep x ins line (exL ln.L5) d s):=by have h1:=(rt he).2;have h2:=(hC.line _ _ hk).2.2.2.1;rw[h1]at h2;exact(CN hx M4 _ d s).mono h2
theorem FX (hx:x.J4.length<=4)(M4:∀line g d s,ca C g->cU C ins g s.J1.length=true->Cap M 0 s (rep x ins line g d s))(hC:CxOk C){k:Nat}{ln:Mq}(hk:C.p[k]?=some ln)(h0:ln.J5≠0)(base:Int)(L:Ls):Cap M 22 L.g (bQ C rep x ins base k ln L).g:=by
 unfold bQ;split
 ·exact((co C L.g base 10 0 k hx).set (bU _ _ _) fun h=>sf h _ _).mono o_
 ·split
  ·split
   ·refine Cap.mono (n:=1+1) ?_ o_;exact(co C L.g base 0 0 k hx).trans (vT hx k true (base+1) {L with g:=aF C L.g base 0 0 k x.J4})
   ·split
    ·exact(co _ _ _ _ _ _ hx).mono o_
    ·exact(Cap.refl _).mono o_
  ·rename_i h4 h7;have hl:=hC.line _ _ hk
   have OB:Cap M 20 L.g (eA C rep x ins k (exL ln.L5) base ⟨L.g.J1,L.g.J8,true⟩):=by have:=FH hx (fun g d s=>M4 k g d s) hC hk (hl.2.2.2.2 o_) base ⟨L.g.J1,L.g.J8,true⟩;exact⟨this.le,this.ch⟩
   split
   ·exact(OB.trans (co _ _ _ _ _ _ hx)).mono o_
   ·split
    ·exact(OB.trans (co _ _ _ _ _ _ hx)).mono o_
    ·split
     ·refine Cap.mono (n:=20+1) ?_ o_;exact OB.trans (vT hx k false (base+1) {L with g:=eA C rep x ins k (exL ln.L5) base ⟨L.g.J1,L.g.J8,true⟩,J9:=L.J9.set k L.g.J1.length})
     ·exact(OB.trans (co _ _ _ _ _ _ hx)).mono o_
theorem GH (k:Nat)(ln:Mq)(L:Ls):Cap M 0 L.g (bH C x k ln L).g:=by
 unfold bH;split
 ·exact(Cap.refl _).set (bU _ _ _) fun h=>sf h _ _
 ·exact Cap.refl _
theorem CA (hx:x.J4.length<=4)(M4:∀line g d s,ca C g->cU C ins g s.J1.length=true->Cap M 0 s (rep x ins line g d s))(hC:CxOk C)(base:Int):∀(n k:Nat) (L:Ls),(∀i y,k<=i->i<k+n->C.p[i]?=some y->y.J5≠0)->Cap M (n*22) L.g (dL C rep x ins base n k L).g
 | 0,k,L,_=>(Cap.refl _).mono o_
 | n+1,k,L,h=>by
  rw[dL];split
  ·rename_i ln hk;exact(((FX hx M4 hC hk (h k ln (d8 _) o_ hk) base L).trans (GH k ln _)).trans (CA hx M4 hC base n (k+1) _ fun i y h1 h2 hy=>h i y o_ o_ hy)).mono o_
  ·exact(Cap.refl _).mono o_
theorem wS (hc:x.J4.length<=4)(M4:∀line g d s,ca C g->cU C ins g s.J1.length=true->Cap M 0 s (rep x ins line g d s))(hC:CxOk C)(hx:ScOk C x ins)(base:Int)(s:Gs):Cap M ((lc C.p x.f-x.f)*22) s (bx C rep x ins base s).1:=by unfold bx;obtain⟨ln,h1,h2⟩:=hx.fn;obtain⟨e,h3,_,_,h4⟩:=hC.fn _ _ h1 h2;obtain⟨e',g3,_,_,g5,_⟩:=hx.endE hC;rw[h3]at g3;injection g3 with g3;subst g3;rw[g5];refine CA hc M4 hC base (e-x.f) (x.f+1) (cC C s) fun i y k1 k2 hy=>?_;exact V94
end
theorem Aq {C:Cx}(hC:CxOk C):∀(lev:Nat) {x:Sc} {ins:List Nat} (line g:Nat) (d:Int) (s:Gs),ScOk C x ins->ca C g->cU C ins g s.J1.length=true->Cap (217+198*lev) 0 s (cQ C lev x ins line g d s)
 | 0,x,ins,line,g,d,s,hx,hg,hr=>(Cap.refl s).mono o_
 | lev+1,x,ins,line,g,d,s,hx,hg,hr=>by
  obtain⟨r1,r2,r3,_⟩:=fQ hr;have hin:=hC.inl;have Of:=hx.J4;have hy:=kn hC hx line hg;have h1:=Hd (M:=217) (x:=x) hC o_ line hg d s;have h2:=DO (C:=C) (M:=217) (x:=x) o_ line (d-argsN C.p g) (fY C x line g d s);have Px:=hy.J4;rw[c8,d5,i9]at Px;have h3:=wS (M:=217+198*lev) (rep:=cQ C lev) o_ (fun line g d s hg hr=>Aq hC lev line g d s hy hg hr) hC hy (d-argsN C.p g) (dk C x line (d-argsN C.p g) (fY C x line g d s));obtain⟨e,e1,e2,e3,e4,_⟩:=hy.endE hC;have e5:cB C.p (g:Int)=(e:Int):=by rw[cD];exact bY e1
  have e6:lc C.p (cr C x line g).f-(cr C x line g).f<=9:=by rw[e4];show e-g<=9;omega
  show Cap _ 0 s (lZ C (bx C (cQ C lev)) x ins line g d s);unfold lZ;have l1:=yv hC hx o_ line hg d s;have l2:=tv (C:=C) x line (d-argsN C.p g) (fY C x line g d s);refine⟨?_,fun h=>yh _ _ (h3.ch (h2.ch (h1.ch h)))⟩;simp only[iq];have k3:=h3.le;have k1:=l1.le;have k2:=l2.le;omega
theorem GK {C:Cx}(hC:CxOk C){g:Nat}(hg:ca C g)(e5:C.args=argsN C.p g):(dK C g).J1.length<=2500/\xC (dK C g).J1:=by
 have hS:ScOk C (bd C g) [g]:=⟨hg,rfl,⟨u4 _,by simp[bd]⟩,rfl,by simp[bd],fun _=>e5,rfl⟩;have hG:=wS (M:=217+198*C.b.MJ.toNat) (rep:=cQ C C.b.MJ.toNat) (by simp[bd]) (fun line g d s hg hr=>Aq hC _ line g d s hS hg hr) hC hS C.J2 (dV C g);obtain⟨e,e1,e2,e3,e4,_⟩:=hS.endE hC;have hl:=hC.len;have hin:=hC.inl;have hh:(dV C g).J1.length=1:=by simp[dV,aF]
 have hk:=hG.le;refine⟨?_,hG.ch fun it NZ=>?_⟩
 ·show(bx C (cQ C C.b.MJ.toNat) (bd C g) [g] C.J2 (dV C g)).1.J1.length<=2500;omega
 ·simp only[dV,aF,t7,d7,l9,or_false]at NZ;subst NZ;exact w6 _
theorem kq {p:List Mq}{f:Int}{b:Mi}(hs:ao 1048576 (.lst 4 (p.map Mq.tr)))(h1:aj p=true)(h2:aS b=true)(h3:0<=f)(h4:f<(aA p).length):∃(g:Nat) (C:Cx),(aA p)[f.toNat]?=some g/\CxOk C/\C.p=foldIf p b/\C.b=b/\C.args=argsN C.p g/\C.K0=oc b.MS f/\ca C g/\aC p f b=(dK C g).J1/\C.J2=(dK (ctx (foldIf p b) f.toNat g b 0) g).J8:=by
 obtain⟨f,rfl⟩:=gt h3
 have hb:0<=b.MJ/\b.MJ<=3:=by exact V124
 obtain⟨g,hg⟩:=ae (l:=aA p) (k:=f) o_;have QV:=(za hs h1).foldIf b;have Qq:(aA (foldIf p b))[f]?=some g:=by rw[mX];exact hg
 obtain⟨VR,y,hy,Pa⟩:=nU (c9 Qq);have RL:=(QV.line g y hy).2.2.1;have ha:(0:Int)<=(argsN (foldIf p b) g:Int)/\(argsN (foldIf p b) g:Int)<=4:=by rw[argsN,hy];dsimp only;omega
 have T8:CxOk (ctx (foldIf p b) f g b 0):=QV.cx ha o_ hb;have hm:=wK T8 ⟨y,hy,Pa⟩ rfl;have WS:CxOk (ctx (foldIf p b) f g b (dK (ctx (foldIf p b) f g b 0) g).J8):=QV.cx ha hm hb;refine⟨g,_,by rw[d6];exact hg,WS,rfl,rfl,rfl,rfl,⟨y,hy,Pa⟩,?_,by rw[d6];rfl⟩;rw[aC,c7 ⟨h1,h2,h3,h4⟩,d6,mZ,Qq]
theorem jh {p:List Mq}{f:Int}{b:Mi}(hs:ao 1048576 (.lst 4 (p.map Mq.tr))):(aC p f b).length<=2500/\xC (aC p f b):=by
 by_cases hc:aj p=true/\aS b=true/\0<=f/\f<(aA p).length
 ·obtain⟨h1,h2,h3,h4⟩:=hc;obtain⟨g,C,_,k2,_,_,k5,_,k7,k8,_⟩:=kq hs h1 h2 h3 h4;rw[k8];exact GK k2 k7 k5
 ·rw[aC,b8 hc];exact⟨s_,fun it h=>by cases h⟩
theorem mH {L:Int}:∀{rs:List (List Tr)},(∀r∈rs,az L r)->eM L rs
 | [],_=>by rw[eM];trivial
 | r::rs,h=>by rw[eM];exact⟨h r s_,mH fun x hx=>h x aap⟩
end Go.Proofs.P
namespace Go.Proofs.P
open Go.Sim Tryz
def eQ (c a:Int):Prop:=0<=c/\c<=17/\(c=0->-2147483648<=a/\a<=2147483647)/\(c=1\/c=2\/c=3\/c=4\/c=10\/c=11->-32768<=a/\a<=32767)/\(c=16->0<=a/\a<=65535)/\(c=12\/c=13\/c=14\/c=15->0<=a/\a<=255)/\(5<=c/\c<=9\/c=17->a=0)
def kh (C:Cx)(line:Int):Prop:=∃y,0<=line/\C.p[line.toNat]?=some y/\y.J5≠0
structure GoodI (C:Cx) (n:Nat) (it:Mp):Prop where
 line:kh C it.MM
 jump:it.J7.J3=10\/it.J7.J3=11->0<=it.J7.K9/\it.J7.K9<=n
 op:¬(it.J7.J3=10\/it.J7.J3=11)->eQ it.J7.J3 it.J7.K9
 enter:it.J7.J3≠13
theorem GoodI.mono {C:Cx}{n m:Nat}{it:Mp}(h:GoodI C n it)(hn:n<=m):GoodI C m it:=⟨h.line,fun k=>by have:=h.jump k;omega,h.op,h.enter⟩
def LE (C:Cx)(g:Nat)(it:Mp):Prop:=(it.J7.J3=13\/it.J7.J3=15)/\it.MM=g/\it.J7.K9=C.J2
def InvI (C:Cx)(g:Nat)(l:List Mp):Prop:=∃h t,l=h::t/\LE C g h/\∀it∈t,GoodI C l.length it
def bf (l:List Mp)(i:Nat):Option Int:=(l[i]?).map (·.J7.J3)
def JP (l:List Mp)(j:Int):Prop:=0<=j/\∃c,bf l j.toNat=some c/\(c=10\/c=11)
structure Tr2 (C:Cx) (g:Nat) (a b:Gs):Prop where
 ext:∀i c,bf a.J1 i=some c->bf b.J1 i=some c
 inv:InvI C g a.J1->InvI C g b.J1
 J8:a.J8<=60->b.J8<=60
theorem Tr2.refl {C:Cx}{g:Nat}(s:Gs):Tr2 C g s s:=⟨fun _ _ h=>h,id,id⟩
theorem Tr2.trans {C:Cx}{g:Nat}{a b c:Gs}(h:Tr2 C g a b)(h':Tr2 C g b c):Tr2 C g a c:=⟨fun i v x=>h'.ext i v (h.ext i v x),fun x=>h'.inv (h.inv x),fun x=>h'.J8 (h.J8 x)⟩
theorem kS {l:List Mp}{i:Nat}{c:Int}(h:bf l i=some c):i<l.length:=by
 unfold bf at h
 cases hi:l[i]? with
 | none=>rw[hi]at h;cases h
 | some x=>exact aI hi
theorem BH {l:List Mp}{i:Nat}(h:i<l.length):∃c,bf l i=some c:=by obtain⟨x,hx⟩:=ae h;exact⟨x.J7.J3,by rw[bf,hx];rfl⟩
theorem JP.ext {a b:List Mp}(h:∀i c,bf a i=some c->bf b i=some c){j:Int}(hj:JP a j):JP b j:=by obtain⟨h0,c,h1,h2⟩:=hj;exact⟨h0,c,h _ _ h1,h2⟩
theorem Tr2.len {C:Cx}{g:Nat}{a b:Gs}(h:Tr2 C g a b):a.J1.length<=b.J1.length:=by
 rcases v4 a.J1.length with h0|h0
 ·omega
 ·obtain⟨c,hc⟩:=BH (l:=a.J1) (i:=a.J1.length-1) o_;have:=kS (h.ext _ _ hc);omega
theorem V122{p:Prop}(h:p:=by
 have:=kS h;unfold bf at h⊢;simp only[aF];rw[j7 this]
 exact h):p:=h
theorem ez {C:Cx}{g:Nat}{s:Gs}{d code arg line:Int}{chain:List Int}(hl:kh C line)(h1:code=10\/code=11->0<=arg/\arg<=s.J1.length)(h2:¬(code=10\/code=11)->eQ code arg)(h3:code≠13):Tr2 C g s (aF C s d code arg line chain):=by
 refine⟨fun i c h=>?_,fun⟨h,t,e1,e2,e3⟩=>?_,id⟩
 ·exact V122
 ·refine⟨h,t++[bS C s d code arg line chain],by simp[aF,e1],e2,fun it NZ=>?_⟩;have hn:s.J1.length<=(aF C s d code arg line chain).J1.length:=by simp[aF]
  rw[f0,t8]at NZ;rcases NZ with NZ|rfl
  ·exact(e3 it NZ).mono hn
  ·exact⟨hl,fun k=>by have:=h1 k;simp only[bS];omega,h2,h3⟩
theorem dE {l:List Mp}{j v:Int}(i:Nat):bf (cf l j v) i=bf l i:=by
 unfold cf;split
 ·split
  ·rename_i x hx;unfold bf;by_cases h:j.toNat=i
   ·subst h;rw[x7 (aI hx),hx];rfl
   ·rw[C8 h]
  ·rfl
 ·rfl
theorem Dr {C:Cx}{g:Nat}{l:List Mp}{j:Int}(h:InvI C g l)(hj:JP l j):InvI C g (cf l j l.length):=by
 obtain⟨a,t,e1,e2,e3⟩:=h;obtain⟨h0,c,h1,h2⟩:=hj;unfold cf;rw[c7 h0]
 cases hx:l[j.toNat]? with
 | none=>simp only;exact⟨a,t,e1,e2,e3⟩
 | some x=>
  have hc:x.J7.J3=c:=by rw[bf,hx]at h1;simpa using h1
  have Wg:j.toNat≠0:=by intro h;rw[h,e1]at hx;simp at hx;subst hx;have:=e2.1;omega
  obtain⟨m,hm⟩:∃m,j.toNat=m+1:=⟨j.toNat-1,o_⟩;rw[hm,e1,l4]at hx;have hg:=e3 x (c9 hx);refine⟨a,t.set m ⟨⟨x.J7.J3,l.length⟩,x.MM,x.L8,x.MQ,x.MG,x.MR⟩,?_,e2,fun it NZ=>?_⟩
  ·rw[e1,hm];rfl
  ·rw[q8];rcases u7 NZ with NZ|rfl
   ·exact e3 it NZ
   ·exact⟨hg.line,fun _=>by simp only;omega,fun k=>absurd (by rw[hc];exact h2) k,hg.enter⟩
theorem sm {C:Cx}{g:Nat}{s:Gs}{j:Int}(hj:JP s.J1 j):Tr2 C g s ⟨cf s.J1 j s.J1.length,s.J8,s.start⟩:=
 ⟨fun i c h=>by rw[dE];exact h,fun h=>Dr h hj,id⟩
theorem yd {C:Cx}{g:Nat}:∀(js:List Int) {s:Gs},(∀j∈js,JP s.J1 j)->Tr2 C g s ⟨patchL s.J1 s.J1.length js,s.J8,s.start⟩
 | [],s,_=>Tr2.refl s
 | j::js,s,h=>by
  have h1:=sm (C:=C) (g:=g) (s:=s) (h j s_);have h2:=yd (C:=C) (g:=g) js (s:=⟨cf s.J1 j s.J1.length,s.J8,s.start⟩) fun i hi=>(h i (by simp[hi])).ext h1.ext;simp only[bU]at h2;exact h1.trans h2
theorem zQ {C:Cx}{s:Gs}{d code arg line:Int}{chain:List Int}(h:code=10\/code=11):JP (aF C s d code arg line chain).J1 (s.J1.length:Int):=by refine⟨o_,code,?_,h⟩;rw[bf,d6];simp[aF,bS]
theorem zp:∀(es:List Ex),es.length<=(aw es).length
 | []=>w6 _
 | a::es=>by
  have:=zp es;have:=a.toks_pos;rw[aw,c8,d5];omega
section
variable {C:Cx} {x:Sc} {ins:List Nat} {rep:Sc->List Nat->Nat->Nat->Int->Gs->Gs} {line:Nat} {G:Nat}
theorem wo (hC:CxOk C){y:Sc}(hf:0<=y.first/\y.first<=200){d i:Int}(hd:-100<=d/\d<=2000)(hi:-2<=i/\i<=100)(store:Bool):¬(cH C store=10\/cH C store=11)/\cH C store≠13/\eQ (cH C store) (fA C y d i):=by
 have ha:=hC.args;have hk:mL C y i≥-10/\mL C y i<=400:=by unfold mL;split<;>omega
 have hc:1<=cH C store/\cH C store<=4:=by unfold cH;split<;>split<;>omega
 have hA:-10000<=fA C y d i/\fA C y d i<=10000:=by unfold fA;repeat' split<;>omega
 unfold eQ;omega
theorem Jy (hC:CxOk C){y:Sc}(hf:0<=y.first/\y.first<=200){d i line:Int}(hd:-100<=d/\d<=2000)(hi:-2<=i/\i<=100)(hl:kh C line)(s:Gs):Tr2 C G s (En C y s d i line):=by obtain⟨h1,h2,h3⟩:=wo hC hf hd hi false;exact ez hl (fun k=>absurd k h1) (fun _=>h3) h2
theorem wy (hC:CxOk C){y:Sc}(hf:0<=y.first/\y.first<=200){d i line:Int}(hd:-100<=d/\d<=2000)(hi:-2<=i/\i<=100)(hl:kh C line)(s:Gs)(chain:List Int):Tr2 C G s (fS C y s d i line chain):=by obtain⟨h1,h2,h3⟩:=wo hC hf hd hi true;exact ez hl (fun k=>absurd k h1) (fun _=>h3) h2
theorem yU:eQ 0 0:=by unfold eQ;omega
theorem xL (hC:CxOk C){y:Sc}(hf:0<=y.first/\y.first<=200){chain:List Int}{line:Int}(hl:kh C line):∀(n:Nat) (d:Int) (s:Gs),n<=50->-100<=d-n->d<=2000->Tr2 C G s (cK C y chain line n d s)
 | 0,d,s,_,_,_=>Tr2.refl s
 | n+1,d,s,h0,h1,h2=>by
  rw[cK];exact(wy hC hf o_ o_ hl s chain).trans (xL hC hf hl n (d-1) _ o_ o_ o_)
theorem CC (hC:CxOk C){y:Sc}(hf:0<=y.first/\y.first<=200){chain:List Int}{line d:Int}(hl:kh C line)(hd:-100<=d/\d<=1999):∀(n i:Nat) (s:Gs),i+n<=50->Tr2 C G s (dH C y chain line d n i s)
 | 0,i,s,_=>Tr2.refl s
 | n+1,i,s,h=>by
  rw[dH];exact((ez hl (fun k=>o_) (fun _=>yU) o_).trans (wy hC hf o_ o_ hl _ chain)).trans (CC hC hf hl hd n (i+1) _ o_)
def Dt (C:Cx)(rep:Sc->List Nat->Nat->Nat->Int->Gs->Gs)(G:Nat)(x:Sc)(ins:List Nat):Prop:=
 ∀(line g:Nat) (d:Int) (s:Gs),kh C line->ca C g->-10*(ins.length:Int)<=d->d<=1000+30*ins.length+21->cU C ins g s.J1.length=true->Tr2 C G s (rep x ins line g d s)
theorem LD (hC:CxOk C)(hx:ScOk C x ins)(hi:ins.length<=4)(M4:Dt C rep G x ins)(hl:kh C line){t:Mz}(ht:fE t=true){d:Int}(h1:-10*(ins.length:Int)<=d)(h2:d<=1000+30*ins.length+21)(s:Gs):Tr2 C G s (mm C rep x ins line t d s):=by
 obtain⟨e,e1,e2,e3,e4,e5⟩:=hx.endE hC;have VW:=hx.first;have TI:=qQ x.L2 t.L0;unfold fE at ht;unfold mm;split
 ·rename_i h0;rw[c7 h0]at ht;simp only[b9,within_iff]at ht;exact ez hl (fun k=>o_) (fun _=>by unfold eQ;omega) o_
 ·rename_i h0;rw[b8 h0]at ht;split
  ·exact Jy hC o_ o_ o_ hl s
  ·rename_i h1;split
   ·split
    ·rename_i g hg;obtain⟨_,ln,k1,k2,_⟩:=ig hg;split
     ·rename_i hr;exact M4 line g d s hl ⟨ln,k1,k2⟩ o_ o_ hr
     ·have hn:=Cr C.p g;have:=aI k1;have:=hC.len;exact ez hl (fun k=>o_) (fun _=>by unfold eQ;omega) o_
    ·exact Tr2.refl s
   ·rename_i h7;rw[b8 h7,b8 h1]at ht;simp only[b9,within_iff]at ht;exact ez hl (fun k=>o_) (fun _=>by unfold eQ;omega) o_
mutual
theorem Fv (hC:CxOk C)(hx:ScOk C x ins)(hi:ins.length<=4)(M4:Dt C rep G x ins)(hl:kh C line):∀(e:Ex) (d:Int) (s:Gs),e.ok->-10*(ins.length:Int)<=d->d+e.toks.length<=1000+30*ins.length+21->Tr2 C G s (eA C rep x ins line e d s)
 | .node t es,d,s,h,h1,h2=>by
  rw[Ex.toks,d5]at h2;rw[eA];have Nu:=zp es;exact(Cq hC hx hi M4 hl es d s h.2.2 h1 o_).trans (LD hC hx hi M4 hl h.1 o_ o_ _)
theorem Cq (hC:CxOk C)(hx:ScOk C x ins)(hi:ins.length<=4)(M4:Dt C rep G x ins)(hl:kh C line):∀(es:List Ex) (d:Int) (s:Gs),jf es->-10*(ins.length:Int)<=d->d+(aw es).length<=1000+30*ins.length+21->Tr2 C G s (cZ C rep x ins line es d s)
 | [],d,s,_,_,_=>by rw[cZ];exact Tr2.refl s
 | a::es,d,s,h,h1,h2=>by
  rw[aw,c8]at h2;rw[cZ];have hp:=a.toks_pos;exact(Fv hC hx hi M4 hl a d s h.1 h1 o_).trans (Cq hC hx hi M4 hl es (d+1) _ h.2 o_ o_)
end
theorem Io (hl:kh C line)(x:Sc)(d:Int)(s:Gs):Tr2 C G s (dk C x line d s):=by
 unfold dk;split
 ·exact ez hl (fun k=>o_) (fun _=>by unfold eQ;omega) o_
 ·exact Tr2.refl s
theorem KI (hC:CxOk C)(hx:ScOk C x ins)(hi:ins.length<=3)(hl:kh C line){g:Nat}(hg:ca C g){d:Int}(h1:-10*(ins.length:Int)<=d)(h2:d<=1000+30*ins.length+21)(s:Gs):Tr2 C G s (fY C x line g d s):=by obtain⟨k1,k2⟩:=dy hC hg;have hy:=kn hC hx line hg;have hf:=hy.first;rw[c8,d5,i9]at hf;have ht:=va hC hx;have ha:=hC.argsN g;have h0:Tr2 C G s ⟨s.J1,max s.J8 (ct C x+(localsOf C.p (g:Int)).length),s.start⟩:=⟨fun _ _ h=>h,id,fun h=>g_⟩;unfold fY;exact(h0.trans (xL hC o_ hl _ d _ o_ o_ o_)).trans (CC hC o_ hl o_ _ _ _ o_)
structure LsI (C:Cx) (G f k:Nat) (g0:Gs) (L:Ls):Prop where
 tr:Tr2 C G g0 L.g
 J9:∀v∈L.J9,0<=v/\v<=L.g.J1.length
 pos:∀i,f+1<=i->i<k->jumps C.p i->JP L.g.J1 (atL L.pos i)
 lv:∀j∈L.lv,JP L.g.J1 j
 len:L.pos.length=C.p.length
theorem LsI.step {f k k':Nat}{g0:Gs}{L L':Ls}(h:LsI C G f k g0 L)(ht:Tr2 C G L.g L'.g)(hh:∀v∈L'.J9,v∈L.J9\/(0<=v/\v<=L'.g.J1.length))(hp:∀i,f+1<=i->i<k'->jumps C.p i->(i<k/\atL L'.pos i=atL L.pos i)\/JP L'.g.J1 (atL L'.pos i))(hv:∀j∈L'.lv,j∈L.lv\/JP L'.g.J1 j)(hl:L'.pos.length=L.pos.length):LsI C G f k' g0 L':=by
 have Nu:=ht.len;refine⟨h.tr.trans ht,fun v hv=>?_,fun i h1 h2 h3=>?_,fun j hj=>?_,by rw[hl,h.len]⟩
 ·rcases hh v hv with h1|h1
  ·have:=h.J9 v h1;omega
  ·exact h1
 ·rcases hp i h1 h2 h3 with⟨k1,k2⟩|k1
  ·rw[k2];exact(h.pos i h1 k1 h3).ext ht.ext
  ·exact k1
 ·rcases hv j hj with h1|h1
  ·exact(h.lv j h1).ext ht.ext
  ·exact h1
theorem LsI.same {f k:Nat}{g0:Gs}{L L':Ls}(h:LsI C G f k g0 L)(ht:Tr2 C G L.g L'.g)(e1:L'.J9=L.J9)(e2:L'.pos=L.pos)(e3:L'.lv=L.lv):LsI C G f k g0 L':=
 h.step ht (fun v hv=> .inl (by rw[<-e1];exact hv)) (fun i _ h2 _=> .inl ⟨h2,by rw[e2]⟩) (fun j hj=> .inl (by rw[<-e3];exact hj)) (by rw[e2])
theorem LsI.next {f k:Nat}{g0:Gs}{L:Ls}(h:LsI C G f k g0 L)(hj:¬jumps C.p k):LsI C G f (k+1) g0 L:=
 h.step (Tr2.refl _) (fun v hv=> .inl hv) (fun i h1 h2 h3=> .inl ⟨by
  rcases m5 i k with h|h
  ·exact h
  ·rw[show i=k by omega]at h3;exact absurd h3 hj,rfl⟩) (fun j hj=> .inl hj) rfl
theorem Au (hC:CxOk C)(hw:C.J2<=255){f k k':Nat}{g0:Gs}{L:Ls}(hl:kh C (k':Int))(last:Bool)(d:Int)(h:LsI C G f k g0 L):LsI C G f k g0 (bg C x k' last d L):=by
 have ha:=hC.args;have VT:=hC.J2;unfold bg;split
 ·split
  ·exact h.same (ez hl (fun k=>o_) (fun _=>by unfold eQ;omega) o_) rfl rfl rfl
  ·exact h.same (ez hl (fun k=>o_) (fun _=>by unfold eQ;omega) o_) rfl rfl rfl
 ·split
  ·exact h
  ·refine h.step (ez hl (fun k=>o_) (fun k=>o_) o_) (fun v hv=> .inl hv) (fun i _ h2 _=> .inl ⟨h2,rfl⟩) (fun j hj=>?_) rfl;simp only[f0,t8]at hj;rcases hj with hj|rfl
   ·exact .inl hj
   ·exact .inr (zQ (.inl rfl))
theorem Gz {l:List Int}{n:Int}(h:∀v∈l,0<=v/\v<=n)(hn:0<=n)(k:Nat):0<=atL l k/\atL l k<=n:=by
 unfold atL
 cases hk:l[k]? with|none=>simp only[Option.getD];omega|some v=>exact h v (c9 hk)
theorem HI (hC:CxOk C)(hw:C.J2<=255)(hx:ScOk C x ins)(hi:ins.length<=4)(M4:Dt C rep G x ins){e:Nat}(he:endAt C.p x.f=some e){k:Nat}{ln:Mq}(hk:C.p[k]?=some ln)(h0:ln.J5≠0)(hk1:x.f<k)(Ni:k<=e){base:Int}(NP:-10*(ins.length:Int)<=base)(NG:base<=1000+30*ins.length){g0:Gs}{L:Ls}(h:LsI C G x.f k g0 L):LsI C G x.f (k+1) g0 (bQ C rep x ins base k ln L):=by
 have hl:kh C (k:Int):=⟨ln,o_,by rw[d6];exact hk,h0⟩;have NL:k<C.p.length:=aI hk;have Tf:=be hk;unfold bQ;split
 ·rename_i h4;obtain⟨o1,o2,o3,o4⟩:=hx.own4 hC he hk1 Ni hk h4;obtain⟨y,_,hy,WT,_⟩:=bA o1;have hJ:=h.pos (ownOf C.p k) o2 o3 (.inl (by rw[be hy];exact WT));have t1:Tr2 C G L.g (aF C L.g base 10 0 k x.J4):=ez hl (fun _=>o_) (fun k=>o_) o_;have t2:=sm (C:=C) (g:=G) (hJ.ext t1.ext);refine h.step (t1.trans t2) (fun v hv=> .inl hv) (fun i h1 h2 h3=>?_) (fun j hj=> .inl hj) s_;by_cases O9:i=k
  ·subst O9;refine .inr ?_;rw[fH (by rw[h.len];exact NL)];exact JP.ext t2.ext (zQ (.inl rfl))
  ·exact .inl ⟨o_,gu O9⟩
 ·rename_i h4;split
  ·rename_i h7;have PM:¬jumps C.p k:=(by unfold jumps;rw[Tf];omega);split
   ·exact(Au hC hw (x:=x) hl true (base+1) (h.same (L':={L with g:=aF C L.g base 0 0 k x.J4}) (ez hl (fun k=>o_) (fun _=>yU) o_) rfl rfl rfl)).next PM
   ·split
    ·have hh:=Gz h.J9 o_ (ownOf C.p k);exact(h.same (L':={L with g:=aF C L.g base 10 (atL L.J9 (ownOf C.p k)) k x.J4}) (ez hl (fun _=>hh) (fun k=>o_) o_) rfl rfl rfl).next PM
    ·exact h.next PM
  ·rename_i h7;have QU:=hC.line _ _ hk;have Pn:=rt (QU.2.2.2.2 o_);have OB:=QU.2.2.2.1;rw[Pn.2]at OB
   have tg:Tr2 C G L.g (eA C rep x ins k (exL ln.L5) base ⟨L.g.J1,L.g.J8,true⟩):=by have:=Fv hC hx hi M4 hl (exL ln.L5) base ⟨L.g.J1,L.g.J8,true⟩ Pn.1 NP o_;exact⟨this.ext,this.inv,this.J8⟩
   have Rt:LsI C G x.f k g0 {L with g:=eA C rep x ins k (exL ln.L5) base ⟨L.g.J1,L.g.J8,true⟩,J9:=L.J9.set k L.g.J1.length}:=by
    refine h.step tg (fun v hv=>?_) (fun i _ h2 _=> .inl ⟨h2,rfl⟩) (fun j hj=> .inl hj) rfl;rcases u7 hv with hv|rfl
    ·exact .inl hv
    ·exact .inr ⟨o_,by have:=tg.len;simp only;omega⟩
   have TI:=qQ x.L2 ln.L0;obtain⟨_,_,_,_,_,e5⟩:=hx.endE hC;have VW:=hx.first;generalize eA C rep x ins k (exL ln.L5) base ⟨L.g.J1,L.g.J8,true⟩=GE at tg Rt⊢;split
   ·rename_i k1;have PM:¬jumps C.p k:=(by unfold jumps;rw[Tf];omega);have t2:Tr2 C G GE (fS C x GE (base+1) (dJ x.L2 ln.L0) k x.J4):=wy hC o_ o_ o_ hl _ _;exact(Rt.same (L':={L with g:=fS C x GE (base+1) (dJ x.L2 ln.L0) k x.J4,J9:=L.J9.set k L.g.J1.length}) t2 rfl rfl rfl).next PM
   ·split
    ·rename_i k2;have PM:¬jumps C.p k:=(by unfold jumps;rw[Tf];omega);have t2:Tr2 C G GE (aF C GE (base+1) 17 0 k x.J4):=ez hl (fun k=>o_) (fun _=>by unfold eQ;omega) o_;exact(Rt.same (L':={L with g:=aF C GE (base+1) 17 0 k x.J4,J9:=L.J9.set k L.g.J1.length}) t2 rfl rfl rfl).next PM
    ·split
     ·rename_i k6;have PM:¬jumps C.p k:=(by unfold jumps;rw[Tf];omega);exact(Au hC hw (x:=x) hl false (base+1) Rt).next PM
     ·refine Rt.step (ez hl (fun _=>o_) (fun k=>o_) o_) (fun v hv=> .inl hv) (fun i h1 h2 h3=>?_) (fun j hj=> .inl hj) s_;by_cases O9:i=k
      ·subst O9;refine .inr ?_;rw[fH (by rw[h.len];exact NL)];exact zQ (.inr rfl)
      ·exact .inl ⟨o_,gu O9⟩
theorem IE (hC:CxOk C)(hx:ScOk C x ins){e:Nat}(he:endAt C.p x.f=some e){k:Nat}{ln:Mq}(hk:C.p[k]?=some ln)(hk1:x.f<k)(Ni:k<=e){g0:Gs}{L:Ls}(h:LsI C G x.f (k+1) g0 L):LsI C G x.f (k+1) g0 (bH C x k ln L):=by
 unfold bH;split
 ·rename_i h7
  have Ob:k≠e:=fun hh=>by
   rcases(hx.own7 hC he hk1 Ni hk h7.1).2 with⟨_,o⟩|⟨o,_⟩
   ·exact h7.2 o
   ·omega
  obtain⟨k1,k2,k3,_,_⟩:=zx hC hx he hk1 o_ hk h7.1;exact h.same (sm (h.pos _ k1 o_ k3)) rfl rfl rfl
 ·exact h
theorem Fs (hC:CxOk C)(hw:C.J2<=255)(hx:ScOk C x ins)(hi:ins.length<=4)(M4:Dt C rep G x ins){e:Nat}(he:endAt C.p x.f=some e){base:Int}(NP:-10*(ins.length:Int)<=base)(NG:base<=1000+30*ins.length)(h0:∀i y,x.f<i->i<=e->C.p[i]?=some y->y.J5≠0){g0:Gs}:∀(n k:Nat) (L:Ls),x.f<k->k+n=e+1->LsI C G x.f k g0 L->LsI C G x.f (e+1) g0 (dL C rep x ins base n k L)
 | 0,k,L,_,h2,h=>by rw[dL,<-h2];exact h
 | n+1,k,L,h1,h2,h=>by
  obtain⟨_,_,_,_,_,NC⟩:=aN he;obtain⟨ln,hk⟩:=ae (l:=C.p) (k:=k) o_;rw[dL,hk];exact Fs hC hw hx hi M4 he NP NG h0 n (k+1) _ o_ o_ (IE hC hx he hk h1 o_ (HI hC hw hx hi M4 he hk (h0 k ln h1 o_ hk) h1 o_ NP NG h))
theorem yl (hC:CxOk C)(hw:C.J2<=255)(hx:ScOk C x ins)(hi:ins.length<=4)(M4:Dt C rep G x ins){base:Int}(NP:-10*(ins.length:Int)<=base)(NG:base<=1000+30*ins.length)(s:Gs):Tr2 C G s (bx C rep x ins base s).1/\∀j∈(bx C rep x ins base s).2,JP (bx C rep x ins base s).1.J1 j:=by
 obtain⟨ln,h1,h2⟩:=hx.fn;obtain⟨e,h3,_,_,h4⟩:=hC.fn _ _ h1 h2;obtain⟨e',g3,g4,Te,g5,_⟩:=hx.endE hC;rw[h3]at g3;injection g3 with g3;subst g3
 have h:=Fs hC hw hx hi M4 h3 NP NG (fun i y k1 k2 hy=>by
  by_cases OK:i=e
  ·subst OK;obtain⟨z,hz,h7⟩:=bR h3;rw[hy]at hz;injection hz with hz;subst hz;omega
  ·exact(h4 i y o_ o_ hy).1) (g0:=s) (e-x.f) (x.f+1) (cC C s) o_ o_ ⟨Tr2.refl s,fun v hv=>by
   simp only[cC,D7]at hv
   omega,fun i k1 k2 _=>o_,fun j hj=>(by cases hj),by simp[cC]⟩
 unfold bx;rw[g5];exact⟨h.tr,h.lv⟩
end
theorem EV {C:Cx}{G:Nat}(hC:CxOk C)(hw:C.J2<=255):∀(lev:Nat) {x:Sc} {ins:List Nat},ScOk C x ins->Dt C (cQ C lev) G x ins
 | 0,x,ins,hx,line,g,d,s,_,_,_,_,_=>Tr2.refl s
 | lev+1,x,ins,hx,line,g,d,s,hl,hg,h1,h2,hr=>by
  obtain⟨r1,r2,r3,_⟩:=fQ hr;have hin:=hC.inl;have hy:=kn hC hx line hg;have ha:=hC.argsN g;have N6:(ins++[g]).length=ins.length+1:=s_;have t1:=KI (G:=G) hC hx o_ hl hg h1 h2 s;have t2:=Io (G:=G) hl x (d-argsN C.p g) (fY C x line g d s);have t3:=yl (G:=G) hC hw hy o_ (EV hC hw lev hy) (base:=d-argsN C.p g) o_ o_ (dk C x line (d-argsN C.p g) (fY C x line g d s));exact((t1.trans t2).trans t3.1).trans (yd _ t3.2)
theorem Bs {C:Cx}(hC:CxOk C)(hw:C.J2<=255){g:Nat}(hg:ca C g)(e5:C.args=argsN C.p g):InvI C g (dK C g).J1/\(dK C g).J8<=60:=by
 have hS:ScOk C (bd C g) [g]:=⟨hg,rfl,⟨u4 _,by simp[bd]⟩,rfl,by simp[bd],fun _=>e5,rfl⟩;have VT:=hC.J2;have t:=(yl (G:=g) hC hw hS s_ (EV hC hw C.b.MJ.toNat hS) (base:=C.J2) (by simp only[d5,i9];omega) (by simp only[d5,i9];omega) (dV C g)).1;obtain⟨l1,l2⟩:=dy hC hg;refine⟨t.inv ⟨_,[],rfl,⟨?_,rfl,rfl⟩,fun it h=>by cases h⟩,t.J8 ?_⟩
 ·simp only[bS];split<;>omega
 ·show(localsOf C.p (g:Int)).length-C.args<=60;omega
theorem pZ {p:List Mq}{f:Int}{b:Mi}(hs:ao 1048576 (.lst 4 (p.map Mq.tr)))(h1:aj p=true)(h2:aS b=true)(h3:0<=f)(h4:f<(aA p).length):∃(g:Nat) (C:Cx),(aA p)[f.toNat]?=some g/\C.p=foldIf p b/\0<=C.J2/\C.J2<=255/\InvI C g (aC p f b):=by
 obtain⟨g,C,k1,k2,k3,k4,k5,k6,k7,k8,k9⟩:=kq hs h1 h2 h3 h4
 have hb:0<=b.MJ/\b.MJ<=3:=by exact V124
 have QV:=(za hs h1).foldIf b;have ha:(0:Int)<=(argsN (foldIf p b) g:Int)/\(argsN (foldIf p b) g:Int)<=4:=by have:=k2.argsN g;rw[k3]at this;omega
 have T8:CxOk (ctx (foldIf p b) f.toNat g b 0):=QV.cx ha o_ hb;obtain⟨y,y1,y2⟩:=k7;have ZZ:ca (ctx (foldIf p b) f.toNat g b 0) g:=⟨y,by rw[k3]at y1;exact y1,y2⟩;have RK:=(Bs T8 (by show(0:Int)<=255;omega) ZZ rfl).2;have hw:=k2.J2;refine⟨g,C,k1,k3,hw.1,o_,?_⟩;rw[k8];exact(Bs k2 o_ ⟨y,y1,y2⟩ k5).1
end Go.Proofs.P
namespace Go.Proofs.P
open Go.Sim Tryz
def bq (m:Mr)(most:Int):MA:=if bN m=true/\0<=most then⟨m.L3,m.J6,m.L4,(m.MH.drop m.J6.toNat).take most.toNat⟩else⟨0,0,0,[]⟩
theorem yi {m:Mr}{most:Int}(h:¬(bN m=true/\0<=most)):bq m most=⟨0,0,0,[]⟩:=by rw[bq,b8 h]
theorem machineOk_iff {m:Mr}:bN m=true↔m.MH.length=1200/\(0<=m.J6/\m.J6<=1200)/\(0<=m.MC/\m.MC<=2):=by unfold bN;rw[b9,b9,within_iff,within_iff,w9];exact⟨fun h=>⟨h.1.1,h.1.2,h.2⟩,fun h=>⟨⟨h.1,h.2.1⟩,h.2.2⟩⟩
theorem Q24{p:Prop}(h:p:=by exact⟨⟨rfl,bh _⟩⟩):p:=h
theorem mh (v:MA)(hl:v.MB.length<=1048576):Sim.Spec prog 73 [.agg v.tr] (.r (.agg (v.tr.map oS))):=by
 refine ag hΓ aE func73 rfl d_ rfl ?_;repeat' ((conv=>whnf);first|refine Or.inl ?_|apply oi|apply fi|intro h|exact Y1|refine e_ rfl ?_)
 all_goals try exact Q11
 all_goals try exact Q24
theorem V74{p:Prop}(h:p:=by
 rcases Nat.le_total mo (1200-sp)with h|h
 ·rw[y8 h]
 ·rw[Nat.min_eq_right h,i7 aab,i7 aab]):p:=h
theorem V31{p:Prop}(h:p:=by
 have hv:=yi hc;rw[hv];repeat' ((conv=>whnf);first|refine Or.inl ?_|apply oi|apply fi|intro h|refine ci hs (ai (ai rfl (ai rfl (ai rfl (ai rfl (ai rfl (ai rfl (ai rfl trivial))))))) trivial) ?_|exact Y1|refine e_ rfl ?_)
 exfalso
 exact hc ⟨by simp_all,by have:=e8 (by assumption:decide (most<0)=false);omega⟩):p:=h
theorem oJ (m:Mr)(most:Int):Sim.Spec prog 21 [.agg m.tr,tvI most] (.r (.agg ((bq m most).tr.map oS))):=by
 refine ag hΓ aE func21 rfl d_ rfl ?_;have hs:=rE m;by_cases hc:bN m=true/\0<=most
 ·obtain⟨OO,OY⟩:=hc;have hi:=machineOk_iff.1 OO;obtain⟨sp,NY⟩:=gt hi.2.1.1;obtain⟨mo,rfl⟩:=gt OY;have Va:=mh (bq m (mo:Int))
  have P9:(bq m (mo:Int)).MB=((m.MH.take 1200).drop sp).take (min mo (1200-sp)):=by rw[bq,c7 ⟨OO,OY⟩,NY,d6,i7 (show m.MH.length<=1200 by omega)];dsimp only;rw[d6];exact V74
  have WV:(bq m (mo:Int)).L3=m.L3/\(bq m (mo:Int)).J6=m.J6/\(bq m (mo:Int)).L4=m.L4:=by rw[bq,c7 ⟨OO,OY⟩];exact⟨rfl,rfl,rfl⟩
  generalize bq m (mo:Int)=v at *
  have Va:=Va (by rw[P9];simp;omega);rw[OO]at hs;repeat' ((conv=>whnf);first|refine Or.inl ?_|apply oi|apply fi|intro h|refine ci hs (ai (ai rfl (ai rfl (ai rfl (ai rfl (ai rfl (ai rfl (ai rfl trivial))))))) trivial) ?_|exact Y1|refine e_ rfl ?_)
  all_goals try(exfalso;have h':=d9 h;omega;done)
  conv=>whnf
  refine⟨sp,1200,NY,(show(1200:Nat)=(m.MH.map aa).length by simp[hi.1]),o_,by simp[hi.1],?_⟩;have Pb:(((m.MH.map aa).take 1200).drop sp).length=1200-sp:=by simp[hi.1]
  repeat' ((conv=>whnf);first|refine aB ?_|apply au|apply oi|apply fi|intro h|exact Y1|refine e_ rfl ?_)
  conv=>whnf
  refine⟨0,min mo (1200-sp),rfl,?_,o_,by rw[Pb];omega,?_⟩
  ·show(if _<(mo:Int)then _ else(mo:Int))=((min mo (1200-sp):Nat):Int);rw[Pb];split<;>omega
  repeat' ((conv=>whnf);first|refine aB ?_|apply au|apply oi|apply fi|intro h|exact Y1|refine e_ rfl ?_)
  refine Or.inl (pw Va (And.intro (And.intro ?_ (And.intro ?_ (And.intro ?_ (And.intro (congrArg (Tr.lst 1) ?_) trivial)))) trivial) ?_)
  ·show Tr.int .i64 v.L3=Tr.int .i64 m.L3;rw[WV.1]
  ·show Tr.int .i64 v.J6=Tr.int .i64 m.J6;rw[WV.2.1]
  ·show Tr.int .i64 v.L4=Tr.int .i64 m.L4;rw[WV.2.2]
  ·rw[P9];simp[x8,A1]
  exact Z1
 ·exact V31
theorem xA (m:Mr)(most:Int):Sim.Spec prog 15 [.agg m.tr,tvI most] (.r (.agg ((bq m most).tr.map oS))):=by
 refine ag hΓ aE func15 rfl d_ rfl ?_;have hs:=kL m;by_cases hc:bN m=true/\0<=most
 ·obtain⟨OO,OY⟩:=hc;have hi:=machineOk_iff.1 OO;obtain⟨sp,NY⟩:=gt hi.2.1.1;obtain⟨mo,rfl⟩:=gt OY
  have P9:((m.MH.map aa).take (sp+min mo (1200-sp))).drop sp=((m.MH.drop m.J6.toNat).take mo).map aa:=by rw[G9,NY,d6,x8,A1,D5];exact V74
  rw[bq,c7 ⟨OO,OY⟩,d6];rw[OO]at hs;have NT:IntKind.i64.wrap (1200-m.J6)=((1200-sp:Nat):Int):=by rw[c6 _ o_];omega
  repeat' ((conv=>whnf);first|refine Or.inl ?_|apply oi|apply fi|intro h|refine ci hs (ai (ai rfl (ai rfl (ai rfl (ai rfl (ai rfl (ai rfl (ai rfl trivial))))))) trivial) ?_|exact Y1|refine e_ rfl ?_)
  all_goals try(exfalso;have h':=d9 h;omega;done)
  conv=>whnf
  refine⟨sp,sp+min mo (1200-sp),NY,?_,o_,by simp[hi.1];omega,?_⟩
  ·show IntKind.i64.wrap (m.J6+(if _<(mo:Int)then _ else(mo:Int)))=((sp+min mo (1200-sp):Nat):Int);rw[NT];split
   ·rw[c6 _ o_];omega
   ·rw[c6 _ o_];omega
  rw[P9];repeat' ((conv=>whnf);first|refine Or.inl ?_|apply oi|apply fi|intro h|exact Y1|refine e_ rfl ?_)
  all_goals try exact Q11
  all_goals try exact Q24
 ·exact V31
theorem vz {α:Type}{g:α->List Tr}{L:Int}:∀{l:List α},(∀x∈l,az L (g x))->eM L (l.map g)
 | [],_=>by rw[C7,eM];trivial
 | x::l,h=>by
  rw[p7,eM];exact⟨h x s_,vz fun y hy=>h y aaS⟩
theorem fX {α:Type}{g:α->List Tr}{l:List α}{sz:Nat}(hl:l.length<=1048576)(h:∀x∈l,az 1048576 (g x)):ao 1048576 (.lst sz (l.map g)):=by rw[ao];exact⟨by simp;omega,vz h⟩
theorem lw {l:List Int}(hl:l.length<=1048576):ao 1048576 (.lst 1 (l.map aa)):=fX hl fun x _=>by simp[aa,az,ao]
theorem wv {l:List Mw}(hl:l.length<=1048576):ao 1048576 (.lst 4 (l.map Mw.tr)):=fX hl fun x _=>by simp[Mw.tr,az,ao]
def ba (c:Int):Int×Bool:=
 if c=0 then(4,true)else if c=1\/c=2\/c=3\/c=4\/c=10\/c=11 then(2,true)
 else if c=16 then(2,false)else if c=12\/c=13\/c=14\/c=15 then(1,false)else(0,false)
def aH (c:Int):Int:=if af c 0 17 then(ba c).1+1 else 0
theorem dR (c:Int):0<=(ba c).1/\(ba c).1<=4:=by
 unfold ba;repeat' split
 all_goals simp
theorem gW (c:Int):0<=aH c/\aH c<=5:=by have:=dR c;unfold aH;split<;>omega
abbrev Ki (c:Int):Res:= .tup [.c (.t (.int .i64 (ba c).1)),.c (.t (.bool (ba c).2))]
theorem V88{p:Prop}(h:p:=by
 repeat' ((conv=>whnf);first|refine Or.inl ?_|apply oi|apply fi|intro h|exact Y1|refine e_ rfl ?_)
 all_goals(refine⟨?_⟩;simp_all[ba])):p:=h
theorem me (c:Int):Sim.Spec prog 220 [tvI c] (Ki c):=by refine ag hΓ aE func220 rfl d_ rfl ?_;exact V88
theorem fM (c:Int):Sim.Spec prog 131 [tvI c] (Ki c):=by refine ag hΓ aE func131 rfl d_ rfl ?_;exact V88
theorem V76{p:Prop}(h:p:=by
 rw[hw]at hb
 repeat' ((conv=>whnf);first|refine Or.inl ?_|apply oi|apply fi|intro h|refine ci hb (ai rfl (ai rfl (ai rfl trivial))) ?_|exact Y1|refine e_ rfl ?_)):p:=h
theorem xp (c:Int):Sim.Spec prog 160 [tvI c] (rI (aH c)):=by
 refine ag hΓ aE func160 rfl d_ rfl ?_;have hb:=aW c 0 17;have ha:=me c;have Nu:=dR c;unfold aH
 cases hw:af c 0 17 with
 | false=>exact V76
 | true=>
  rw[hw]at hb;repeat' ((conv=>whnf);first|refine Or.inl ?_|apply oi|apply fi|intro h|refine ci hb (ai rfl (ai rfl (ai rfl trivial))) ?_|refine ci ha (ai rfl trivial) ?_|exact Y1|refine e_ rfl ?_)
  exact⟨by rw[c6 _ o_];rfl⟩
theorem ku (c:Int):Sim.Spec prog 59 [tvI c] (rI (aH c)):=by
 refine ag hΓ aE func59 rfl d_ rfl ?_;have hb:=aJ c 0 17;have ha:=fM c;have Nu:=dR c;unfold aH
 cases hw:af c 0 17 with
 | false=>exact V76
 | true=>
  rw[hw]at hb;repeat' ((conv=>whnf);first|refine Or.inl ?_|apply oi|apply fi|intro h|refine ci hb (ai rfl (ai rfl (ai rfl trivial))) ?_|refine ci ha (ai rfl trivial) ?_|exact Y1|refine e_ rfl ?_)
  exact⟨by rw[c6 _ o_,Int.add_comm];rfl⟩
def wG (l:List Mu):Bool:=l.all fun x=>af x.MK 0 1000000
theorem JX {l:List Mu}{k:Nat}{x:Mu}(hx:l[k]?=some x):wG (l.drop k)=(af x.MK 0 1000000&&wG (l.drop (k+1))):=by rw[cJ hx,wG,E9];rfl
theorem Jc {l:List Mu}(h:wG l=true):∀x∈l,0<=x.MK/\x.MK<=1000000:=fun x hx=>within_iff.1 (o8.1 h x hx)
theorem wY (l:List Mu)(hl:l.length<=1048576):Sim.Spec prog 58 [tvL 8 (l.map Mu.tr)] (rB (wG l)):=by
 refine ag hΓ aE func58 rfl d_ rfl ?_;have M0:(l.map Mu.tr).length=l.length:=s_;repeat' ((conv=>whnf);first|refine Or.inl ?_|apply oi|apply fi|intro h|exact Y1|refine e_ rfl ?_)
 conv=>whnf
 refine⟨{k:Nat//k<=l.length/\wG (l.drop k)=wG l},fun k=>⟨[(0,.r (.c (.t (.lst 8 (l.map Mu.tr))))),(3,tI .i64 (k.1:Int))],[],[]⟩,fun k=>l.length-k.1,⟨0,o_,rfl⟩,?_,?_⟩
 ·exact Z1
 intro⟨k,hk,hr⟩;dsimp only;by_cases M3:k<l.length
 ·obtain⟨x,hx⟩:=ae M3;have hb:=aJ x.MK 0 1000000;rw[JX hx]at hr
  cases hw:af x.MK 0 1000000 with
  | false=>
   rw[hw]at hb hr;repeat' ((conv=>whnf);first|refine Or.inl ?_|apply oi|apply fi|intro h|refine⟨k,x.tr,rfl,ab hx,?_⟩|refine ci hb (ai rfl (ai rfl (ai rfl trivial))) ?_|exact Y2|refine e_ rfl ?_)
   all_goals exact⟨by rw[<-hr];rfl⟩
  | true=>
   rw[hw,n7]at hr;rw[hw]at hb;repeat' ((conv=>whnf);first|refine Or.inl ?_|apply oi|apply fi|intro h|refine⟨k,x.tr,rfl,ab hx,?_⟩|refine ci hb (ai rfl (ai rfl (ai rfl trivial))) ?_|exact Y2|refine e_ rfl ?_)
   conv=>whnf
   refine⟨⟨k+1,o_,hr⟩,?_,KD⟩;exact Z4
 ·have Nk:l.length<=k:=o_;rw[m9 Nk]at hr;repeat' ((conv=>whnf);first|refine Or.inl ?_|apply oi|apply fi|intro h|exact Y2|refine e_ rfl ?_)
  exact⟨by rw[<-hr];rfl⟩
def cV (x:Mu):Mw:=⟨x.MK,x.MK+aH x.L7.J7.J3,x.L7.MR,x.L7.MG⟩
def wl (r s:Mw):Bool:=r.ML==s.L8&&(r.MP==s.MP&&r.MG==s.MG)
def fh (acc:List Mw)(s:Mw):List Mw:=match acc.getLast? with
 | some r=>if wl r s then acc.dropLast++[⟨r.L8,s.ML,r.MP,r.MG⟩]else acc++[s]
 | none=>[s]
def eL (l:List Mu):List Mw:=if wG l then l.foldl (fun a x=>fh a (cV x)) []else []
theorem mS {α:Type}(l:List α):l=[]\/∃ini r,l=ini++[r]:=by
 rcases List.eq_nil_or_concat l with h|⟨a,b,h⟩
 ·exact .inl h
 ·exact .inr ⟨a,b,by rw[h,List.concat_eq_append]⟩
theorem lJ (ini:List Mw)(r s:Mw):fh (ini++[r]) s=if wl r s then ini++[⟨r.L8,s.ML,r.MP,r.MG⟩]else ini++[r]++[s]:=by simp[fh]
theorem sR (acc:List Mw)(s:Mw):(fh acc s).length<=acc.length+1:=by
 rcases mS acc with rfl|⟨ini,r,rfl⟩
 ·simp[fh]
 ·rw[lJ];split<;>simp
abbrev LI (l:List Mu):={q:Nat×List Mw//q.1<=l.length/\q.2.length<=q.1/\(l.drop q.1).foldl (fun a x=>fh a (cV x)) q.2=l.foldl (fun a x=>fh a (cV x)) []}
theorem nw (l:List Mu)(hl:l.length<=1048576):Sim.Spec prog 11 [tvL 8 (l.map Mu.tr)] (rL 4 ((eL l).map Mw.tr)):=by
 refine ag hΓ aE func11 rfl d_ rfl ?_;have M0:(l.map Mu.tr).length=l.length:=s_;have T4:=wY l hl;unfold eL
 cases hn:wG l with
 | false=>
  rw[hn]at T4;rw[b8 s_]
  repeat' ((conv=>whnf);first|refine Or.inl ?_|apply oi|apply fi|intro h|refine ci T4 (ai rfl trivial) ?_|exact Y1|refine e_ rfl ?_)
 | true=>
  rw[hn]at T4;have Qi:=Jc hn;rw[c7 rfl];repeat' ((conv=>whnf);first|refine Or.inl ?_|apply oi|apply fi|intro h|refine ci T4 (ai rfl trivial) ?_|exact Y1|refine e_ rfl ?_)
  conv=>whnf
  refine⟨LI l,fun q=>⟨[(0,.r (.c (.t (.lst 8 (l.map Mu.tr))))),(3,.r (.c (.own (8,0,0)))),(4,tI .i64 (q.1.1:Int))],[((8,0,0),some (.arr true 4 (q.1.2.map Mw.tr)))],[8]⟩,fun q=>l.length-q.1.1,⟨(0,[]),s_,s_,s_⟩,?_,?_⟩
  ·exact Z1
  intro⟨⟨k,acc⟩,hk,NA,hr⟩;dsimp only at hk NA hr⊢;by_cases M3:k<l.length
  ·obtain⟨x,hx⟩:=ae M3;have XU:=Qi x (c9 hx);have hz:=gW x.L7.J7.J3;have ho:=ku x.L7.J7.J3;have SK:cV x=⟨x.MK,x.MK+aH x.L7.J7.J3,x.L7.MR,x.L7.MG⟩:=rfl;have NT:IntKind.i64.wrap (x.MK+aH x.L7.J7.J3)=x.MK+aH x.L7.J7.J3:=c6 _ o_;rw[cJ hx,F1]at hr;have N8:=sR acc (cV x);rcases mS acc with rfl|⟨ini,r,rfl⟩
   ·repeat' ((conv=>whnf);first|refine Or.inl ?_|apply oi|apply fi|intro h|refine⟨k,x.tr,rfl,ab hx,?_⟩|refine ci ho (ai rfl trivial) ?_|exact Y2|refine e_ rfl ?_)
    all_goals try exact⟨⟨s_,s_⟩⟩
    conv=>whnf
    refine⟨⟨(k+1,fh [] (cV x)),g_,by dsimp only;simp only[i9]at N8;omega,hr⟩,?_,KD⟩;repeat' ((conv=>whnf);first|refine Or.inl ?_|apply oi|apply fi|intro h|exact Y3|refine e_ rfl ?_)
    all_goals exact⟨by dsimp only;rw[NT];rfl⟩
   ·have N6:ini.length+1<=k:=by simpa using NA
    have hwn:IntKind.i64.wrap ((((ini++[r]).map Mw.tr).length:Nat)-1:Int)=(ini.length:Int):=by rw[e7,c8,List.length_singleton,c6 _ o_];omega
    have V0:((ini++[r]).map Mw.tr)[ini.length]?=some r.tr:=(by rw[u5];exact Jo s_);rw[lJ]at hr N8;repeat' ((conv=>whnf);first|refine Or.inl ?_|apply oi|apply fi|intro h|refine⟨k,x.tr,rfl,ab hx,?_⟩|refine ci ho (ai rfl trivial) ?_|refine⟨ini.length,hwn,?_⟩|refine⟨r.tr,V0,?_⟩|exact Y2|refine e_ rfl ?_)
    all_goals try(exfalso;have h':=e8 h;rw[e7,c8,List.length_singleton]at h';omega;done)
    all_goals try exact⟨s_⟩
    all_goals try exact Q11
    all_goals conv=>whnf
    all_goals first
     |(have hj:wl r (cV x)=true:=by simp_all[wl]
       rw[c7 hj]at hr N8
       refine⟨⟨(k+1,ini++[⟨r.L8,(cV x).ML,r.MP,r.MG⟩]),g_,by simp;omega,hr⟩,?_,KD⟩)
     |(have hj:wl r (cV x)=false:=by simp_all[wl]
       rw[b8 (by rw[hj];simp)]at hr N8
       refine⟨⟨(k+1,ini++[r]++[cV x]),g_,by simp;omega,hr⟩,?_,KD⟩)
    repeat' ((conv=>whnf);first|refine Or.inl ?_|apply oi|apply fi|intro h|exact Y3|refine e_ rfl ?_)
    all_goals first
     | exact⟨by dsimp only;rw[NT,SK];simp[Mw.tr]⟩
     | exact⟨by dsimp only;rw[NT,SK,u5,p7,C7,Jl s_,u5];rfl⟩
  ·have Nk:l.length<=k:=o_;rw[m9 Nk,List.foldl_nil]at hr;repeat' ((conv=>whnf);first|refine Or.inl ?_|apply oi|apply fi|intro h|exact Y2|refine e_ rfl ?_)
   all_goals exact⟨by rw[hr]⟩
theorem mx:∀(l:List Mu) (acc:List Mw),(l.foldl (fun a x=>fh a (cV x)) acc).length<=acc.length+l.length
 | [],acc=>s_
 | x::l,acc=>by
  have h1:=mx l (fh acc (cV x));have h2:=sR acc (cV x);rw[F1,d5];omega
theorem qA {l:List Mu}(h:ao 1048576 (.lst 8 (l.map Mu.tr))):(eL l).length<=1048576:=by
 have h1:=bi h;have h2:=mx l [];unfold eL;split
 ·simp only[i9]at h2;omega
 ·simp
def bb:Int->List Mp->List Int
 | at0,[]=>[at0]
 | at0,x::l=>at0::bb (at0+aH x.J7.J3) l
def zW (at0:Int)(l:List Mp):Int:=atL (bb at0 l) l.length
def zM (x:Mp)(a:Int):Mp:=⟨⟨x.J7.J3,a⟩,x.MM,x.L8,x.MQ,x.MG,x.MR⟩
def pE (x:Mp):Bool:=x.J7.J3==10||x.J7.J3==11
def cT (st:List Int)(k:Nat)(x:Mp):Mp:=if pE x=true then zM x (atL st x.J7.K9.toNat-atL st (k+1))else x
def oq (st:List Int):Nat->List Mp->List Mu
 | _,[]=>[]
 | k,x::l=>⟨atL st k,cT st k x⟩::oq st (k+1) l
def iB (l:List Mp)(at0:Int):List Mu:=oq (bb at0 l) 0 l
theorem sX:∀(at0:Int) (l:List Mp),(bb at0 l).length=l.length+1
 | _,[]=>rfl
 | at0,x::l=>by rw[bb,d5,sX,d5]
theorem gC (at0:Int)(l:List Mp):atL (bb at0 l) 0=at0:=by cases l<;>rfl
theorem uX (a:Int)(l:List Int)(k:Nat):atL (a::l) (k+1)=atL l k:=by simp[atL]
theorem gn:∀{at0:Int} {l:List Mp} {k:Nat} {x:Mp},l[k]?=some x->atL (bb at0 l) (k+1)=atL (bb at0 l) k+aH x.J7.J3
 | _,[],_,_,h=>by simp at h
 | at0,y::l,0,x,h=>by
  rw[f9]at h;injection h with h;subst h;rw[bb,uX,gC]
  rfl
 | at0,y::l,k+1,x,h=>by
  rw[l4]at h;rw[bb,uX,uX,gn h]
theorem jL {at0:Int}{l:List Mp}:∀{k:Nat},k<=l.length->at0<=atL (bb at0 l) k/\atL (bb at0 l) k<=at0+5*k
 | 0,_=>by rw[gC];omega
 | k+1,h=>by
  obtain⟨x,hx⟩:=ae (l:=l) (k:=k) o_;have:=jL (at0:=at0) (l:=l) (k:=k) o_;have:=gW x.J7.J3;rw[gn hx];omega
theorem zq {l:List Int}{k:Nat}(h:k<l.length):l[k]?=some (atL l k):=by obtain⟨x,hx⟩:=ae h;rw[atL,hx];rfl
theorem dA {α:Type}{l:List α}{k:Nat}{x:α}(h:l[k]?=some x):l.take (k+1)=l.take k++[x]:=by rw[B5,h];rfl
theorem sV (st:List Int):∀(k:Nat) (l:List Mp),(oq st k l).length=l.length
 | _,[]=>rfl
 | k,x::l=>by rw[oq,d5,sV,d5]
theorem tH (st:List Int):∀{l:List Mp} {j k:Nat} {x:Mp},l[j]?=some x->(oq st k l)[j]?=some ⟨atL st (k+j),cT st (k+j) x⟩
 | [],_,_,_,h=>by simp at h
 | y::l,0,k,x,h=>by
  rw[f9]at h;injection h with h;subst h
  rfl
 | y::l,j+1,k,x,h=>by
  rw[l4]at h;rw[oq,l4,tH st h,show k+1+j=k+(j+1) by omega]
theorem dY (l:List Mp)(at0:Int):(iB l at0).length=l.length:=sV _ _ _
theorem eV {l:List Mp}{at0:Int}{j:Nat}{x:Mp}(h:l[j]?=some x):(iB l at0)[j]?=some ⟨atL (bb at0 l) j,cT (bb at0 l) j x⟩:=by have:=tH (bb at0 l) (k:=0) h;rwa [u6]at this
def Es (l:List Mp):Prop:=∀x∈l,pE x=true->0<=x.J7.K9/\x.J7.K9<=l.length
theorem isJump_iff {x:Mp}:pE x=true↔x.J7.J3=10\/x.J7.J3=11:=by simp[pE]
def sQ (b:Mi)(image:Int)(f:Nat):Bool:=if b.MX=true then(f:Int)%2==image else image==0
noncomputable def cj (p:List Mq) (b:Mi) (image:Int):Nat->Nat->Int->List (Nat×List Mu)
 | 0,_,_=>[]
 | n+1,f,at0=>if sQ b image f=true then(f,iB (aC p f b) at0)::cj p b image n (f+1) (zW at0 (aC p f b))else cj p b image n (f+1) at0
noncomputable def bv (p:List Mq) (b:Mi) (image:Int):List Mu:=
 if aj p=true/\aS b=true/\af image 0 1=true then((cj p b image (aA p).length 0 0).map Prod.snd).flatten else []
structure FnOk (p:List Mq) (b:Mi) (f:Nat):Prop where
 pos:0<(aC p f b).length
 len:(aC p f b).length<=2500
 jmp:Es (aC p f b)
theorem InvI.jumps {C:Cx}{g:Nat}{l:List Mp}(h:InvI C g l):0<l.length/\Es l:=by
 obtain⟨a,t,rfl,h2,h3⟩:=h;refine⟨s_,fun x hx hj=>?_⟩;rw[isJump_iff]at hj;rcases d7.1 hx with rfl|hx
 ·have:=h2.1;omega
 ·exact(h3 x hx).jump hj
theorem Kr {p:List Mq}{b:Mi}(hs:ao 1048576 (.lst 4 (p.map Mq.tr)))(h1:aj p=true)(h2:aS b=true){f:Nat}(h:f<(aA p).length):FnOk p b f:=by obtain⟨g,C,_,_,_,_,hi⟩:=pZ (f:=(f:Int)) hs h1 h2 o_ o_;exact⟨hi.jumps.1,(jh hs).1,hi.jumps.2⟩
theorem iH {p:List Mq}(h1:aj p=true):(aA p).length<=6/\p.length<=60:=by rw[tk]at h1;simp only[b9,j6]at h1;exact⟨h1.2.1,h1.1⟩
theorem Jn {l:List Mp}{at0:Int}:at0<=zW at0 l/\zW at0 l<=at0+5*l.length:=jL (d8 _)
theorem nZ {p:List Mq}{b:Mi}{image:Int}{n f:Nat}{at0:Int}:cj p b image (n+1) f at0=if sQ b image f=true then(f,iB (aC p f b) at0)::cj p b image n (f+1) (zW at0 (aC p f b))else cj p b image n (f+1) at0:=rfl
abbrev Ma (p:List Mq)(b:Mi)(image:Int):={q:Nat×Int×List (Nat×List Mu)//q.1<=(aA p).length/\(0<=q.2.1/\q.2.1<=12500*q.1)/\q.2.2.length<=q.1/\q.2.2++cj p b image ((aA p).length-q.1) q.1 q.2.1=cj p b image (aA p).length 0 0}
theorem iO (p:List Mq)(b:Mi)(image:Int):∀(n f:Nat) (at0:Int),(cj p b image n f at0).length<=n
 | 0,_,_=>d8 _
 | n+1,f,at0=>by
  rw[cj];split
  ·have:=iO p b image n (f+1) (zW at0 (aC p f b));rw[d5];omega
  ·have:=iO p b image n (f+1) at0;omega
theorem iG {p:List Mq}{b:Mi}(hs:ao 1048576 (.lst 4 (p.map Mq.tr))){image:Int}:∀{n f:Nat} {at0:Int} {x:Nat×List Mu},x∈cj p b image n f at0->x.2.length<=2500/\∀y∈x.2,y.L7.MQ.length<=4
 | 0,_,_,_,h=>by cases h
 | n+1,f,at0,x,h=>by
  rw[cj]at h;split at h
  ·rcases d7.1 h with rfl|h
   ·obtain⟨c1,c2⟩:=jh (p:=p) (f:=(f:Int)) (b:=b) hs;refine⟨by rw[dY];exact c1,fun y hy=>?_⟩;obtain⟨j,hj⟩:=C5 hy;have Ol:=aI hj;rw[dY]at Ol;obtain⟨z,hz⟩:=ae Ol;rw[eV hz]at hj;injection hj with hj;subst hj;have:(cT (bb at0 (aC p f b)) j z).MQ=z.MQ:=(by unfold cT;split<;>rfl);rw[this];exact c2 z (c9 hz)
   ·exact iG hs h
  ·exact iG hs h
def ay (L:List (Nat×List Mu)):List Mu:=(L.map Prod.snd).flatten
theorem DN {L:List (Nat×List Mu)}{k:Nat}{x:Nat×List Mu}(h:L[k]?=some x):ay (L.take (k+1))=ay (L.take k)++x.2:=by rw[dA h];simp[ay]
theorem kV {L:List (Nat×List Mu)}(h:∀x∈L,x.2.length<=2500):∀{k:Nat},k<=L.length->(ay (L.take k)).length<=2500*k
 | 0,_=>by simp[ay]
 | k+1,hk=>by
  obtain⟨x,hx⟩:=ae (l:=L) (k:=k) o_;have:=kV h (k:=k) o_;have:=h x (c9 hx);rw[DN hx,c8];omega
def DI (it:Mp):Prop:=0<=it.MG/\it.MG<=1200/\(it.MR=true->it.MG=0)
def Dp (a b:Gs):Prop:=(∀it∈a.J1,DI it)->∀it∈b.J1,DI it
theorem Dp.refl (s:Gs):Dp s s:=id
theorem Dp.trans {a b c:Gs}(h:Dp a b)(h':Dp b c):Dp a c:=fun x=>h' (h x)
theorem Dp.same {a b b':Gs}(h:Dp a b)(e:b'.J1=b.J1):Dp a b':=fun x=>by rw[e];exact h x
theorem dl {C:Cx}{s:Gs}{d code arg line:Int}{chain:List Int}(h:0<=d/\d<=1200):Dp s (aF C s d code arg line chain):=by
 intro hs it NZ;simp only[aF,f0,t8]at NZ;rcases NZ with NZ|rfl
 ·exact hs it NZ
 ·unfold bS DI;dsimp only;by_cases hf:C.K0=true/\0<s.J1.length
  ·rw[c7 hf];exact⟨o_,o_,fun _=>rfl⟩
  ·rw[b8 hf];refine⟨h.1,h.2,fun e=>?_⟩;rw[b9,j6]at e;exact absurd e hf
theorem rY {l:List Mp}(j v:Int)(h:∀it∈l,DI it):∀it∈cf l j v,DI it:=by
 unfold cf;split
 ·split
  ·rename_i x hx;intro it NZ;rcases u7 NZ with NZ|rfl
   ·exact h it NZ
   ·exact h x (c9 hx)
  ·exact h
 ·exact h
theorem yz (v:Int):∀(js:List Int) {l:List Mp},(∀it∈l,DI it)->∀it∈patchL l v js,DI it
 | [],_,h=>h
 | j::js,_,h=>yz v js (rY j v h)
section
variable {C:Cx} {x:Sc} {ins:List Nat} {rep:Sc->List Nat->Nat->Nat->Int->Gs->Gs} {line:Nat}
theorem yN {y:Sc}{chain:List Int}{line:Int}:∀(n:Nat) (d:Int) (s:Gs),0<=d-n->d<=1200->Dp s (cK C y chain line n d s)
 | 0,d,s,_,_=>Dp.refl s
 | n+1,d,s,h1,h2=>by
  rw[cK];exact(dl o_).trans (yN n (d-1) _ o_ o_)
theorem CE {y:Sc}{chain:List Int}{line d:Int}(hd:0<=d/\d<=1199):∀(n i:Nat) (s:Gs),Dp s (dH C y chain line d n i s)
 | 0,i,s=>Dp.refl s
 | n+1,i,s=>by
  rw[dH];exact((dl o_).trans (dl o_)).trans (CE hd n (i+1) _)
def DW (C:Cx)(rep:Sc->List Nat->Nat->Nat->Int->Gs->Gs)(x:Sc)(ins:List Nat):Prop:=
 ∀(line g:Nat) (d:Int) (s:Gs),ca C g->(argsN C.p g:Int)<=d->d<=1000+30*ins.length+21->cU C ins g s.J1.length=true->Dp s (rep x ins line g d s)
def lk (C:Cx)(l:List Mz):Prop:=∀t∈l,t.J5=7->∃f,findN C.p 0 t.L0=some f/\(argsN C.p f:Int)=t.MI
theorem Lz (hi:ins.length<=4)(M4:DW C rep x ins){t:Mz}{d:Int}(h1:0<=d)(h2:d<=1000+30*ins.length+21)(hc:t.J5=7->t.MI<=d/\∃f,findN C.p 0 t.L0=some f/\(argsN C.p f:Int)=t.MI)(s:Gs):Dp s (mm C rep x ins line t d s):=by
 unfold mm;split
 ·exact dl o_
 split
 ·exact dl o_
 split
 ·rename_i h7;obtain⟨hn,f,hf,ha⟩:=hc h7;split
  ·rename_i g hg;rw[hf]at hg;injection hg with hg;subst hg;obtain⟨_,ln,k1,k2,_⟩:=ig hf;split
   ·rename_i hr;exact M4 line f d s ⟨ln,k1,k2⟩ o_ h2 hr
   ·exact dl o_
  ·exact Dp.refl s
 ·exact dl o_
mutual
theorem Ep (hi:ins.length<=4)(M4:DW C rep x ins):∀(e:Ex) (d:Int) (s:Gs),e.ok->lk C e.toks->0<=d->d+e.toks.length<=1000+30*ins.length+21->Dp s (eA C rep x ins line e d s)
 | .node t es,d,s,h,hc,h1,h2=>by
  rw[Ex.toks,d5]at h2;rw[eA];have Nu:=zp es;refine(As hi M4 es d s h.2.2 (fun u hu=>hc u (by rw[Ex.toks];simp[hu])) h1 o_).trans (Lz hi M4 o_ o_ (fun h7=>⟨?_,hc t (by rw[Ex.toks];simp) h7⟩) _);have TU:=h.2.1;have ht:=h.1;have ha:ni t=t.MI:=by simp[ni,ht,h7]
  unfold fE at ht;rw[b8 (by omega:¬t.J5=0),c7 h7]at ht;simp only[b9,within_iff]at ht;unfold ar at TU;rw[ha]at TU;omega
theorem As (hi:ins.length<=4)(M4:DW C rep x ins):∀(es:List Ex) (d:Int) (s:Gs),jf es->lk C (aw es)->0<=d->d+(aw es).length<=1000+30*ins.length+21->Dp s (cZ C rep x ins line es d s)
 | [],d,s,_,_,_,_=>by rw[cZ];exact Dp.refl s
 | a::es,d,s,h,hc,h1,h2=>by
  rw[aw,c8]at h2;rw[cZ];have hp:=a.toks_pos;exact(Ep hi M4 a d s h.1 (fun u hu=>hc u aaX) h1 o_).trans (As hi M4 es (d+1) _ h.2 (fun u hu=>hc u aaX) o_ o_)
end
theorem Hz (x:Sc){d:Int}(h:0<=d/\d<=1200)(s:Gs):Dp s (dk C x line d s):=by
 unfold dk;split
 ·exact dl h
 ·exact Dp.refl s
theorem KY {g:Nat}{d:Int}(h1:(argsN C.p g:Int)<=d)(h2:d<=1199)(s:Gs):Dp s (fY C x line g d s):=by unfold fY;exact((show Dp s ⟨s.J1,max s.J8 (ct C x+(localsOf C.p (g:Int)).length),s.start⟩ from id).trans (yN _ d _ o_ o_)).trans (CE o_ _ _ _)
theorem CH (k:Nat)(last:Bool){d:Int}(h:0<=d/\d<=1200)(L:Ls):Dp L.g (bg C x k last d L).g:=by
 unfold bg;split
 ·split
  ·exact dl h
  ·exact dl h
 split
 ·exact Dp.refl _
 ·exact dl h
theorem IW (hC:CxOk C)(hi:ins.length<=4)(M4:DW C rep x ins){k:Nat}{ln:Mq}(hk:C.p[k]?=some ln)(h0:ln.J5≠0)(Np:ln.J5≠7->lk C ln.L5){base:Int}(NP:0<=base)(NG:base<=1000+30*ins.length)(L:Ls):Dp L.g (bQ C rep x ins base k ln L).g:=by
 unfold bQ;split
 ·intro h;exact rY _ _ (dl (C:=C) o_ h)
 rename_i h4;split
 ·split
  ·exact Dp.trans (b:=aF C L.g base 0 0 k x.J4) (dl o_) (CH k true (d:=base+1) o_ {L with g:=aF C L.g base 0 0 k x.J4})
  split
  ·exact dl o_
  ·exact Dp.refl _
 ·rename_i h7;have QU:=hC.line _ _ hk;have Pn:=rt (QU.2.2.2.2 o_);have OB:=QU.2.2.2.1;have Np:=Np h7;rw[Pn.2]at OB Np;have tg:Dp L.g (eA C rep x ins k (exL ln.L5) base ⟨L.g.J1,L.g.J8,true⟩):=Ep hi M4 (exL ln.L5) base ⟨L.g.J1,L.g.J8,true⟩ Pn.1 Np NP o_;dsimp only;split
  ·exact tg.trans (dl o_)
  split
  ·exact tg.trans (dl o_)
  split
  ·exact tg.trans (CH k false (d:=base+1) o_ {L with g:=eA C rep x ins k (exL ln.L5) base ⟨L.g.J1,L.g.J8,true⟩,J9:=L.J9.set k L.g.J1.length})
  ·exact tg.trans (dl o_)
theorem Hs (k:Nat)(ln:Mq)(L:Ls):Dp L.g (bH C x k ln L).g:=by
 unfold bH;split
 ·exact fun h=>rY _ _ h
 ·exact Dp.refl _
theorem Fl (hC:CxOk C)(hi:ins.length<=4)(M4:DW C rep x ins){base:Int}(NP:0<=base)(NG:base<=1000+30*ins.length):∀(n k:Nat) (L:Ls),(∀(i:Nat) (y:Mq),k<=i->i<k+n->C.p[i]?=some y->y.J5≠0/\(y.J5≠7->lk C y.L5))->Dp L.g (dL C rep x ins base n k L).g
 | 0,k,L,_=>by rw[dL];exact Dp.refl _
 | n+1,k,L,h=>by
  rw[dL];split
  ·rename_i ln hk;obtain⟨a1,a2⟩:=h k ln (d8 _) o_ hk;exact((IW hC hi M4 hk a1 a2 NP NG L).trans (Hs k ln _)).trans (Fl hC hi M4 NP NG n (k+1) _ fun i y h1 h2=>h i y o_ o_)
  ·exact Dp.refl _
theorem yu (hC:CxOk C)(hx:ScOk C x ins)(hi:ins.length<=4)(M4:DW C rep x ins){base:Int}(NP:0<=base)(NG:base<=1000+30*ins.length)(s:Gs):Dp s (bx C rep x ins base s).1:=by
 obtain⟨ln,h1,h2⟩:=hx.fn;obtain⟨e,h3,_,_,h4⟩:=hC.fn _ _ h1 h2;obtain⟨e',g3,g4,Te,g5,_⟩:=hx.endE hC;rw[h3]at g3;injection g3 with g3;subst g3;unfold bx;rw[g5];refine Fl hC hi M4 NP NG (e-x.f) (x.f+1) (cC C s) fun i y k1 k2 hy=>?_;by_cases OK:i=e
 ·subst OK;obtain⟨z,hz,h7⟩:=bR h3;rw[hy]at hz;injection hz with hz;subst hz;exact⟨o_,fun hn=>absurd h7 hn⟩
 ·obtain⟨b1,b2,_⟩:=h4 i y o_ o_ hy;exact⟨b1,fun _=>b2⟩
end
theorem Fu {C:Cx}(hC:CxOk C):∀(lev:Nat) {x:Sc} {ins:List Nat},ScOk C x ins->DW C (cQ C lev) x ins
 | 0,x,ins,hx,line,g,d,s,_,_,_,_=>Dp.refl s
 | lev+1,x,ins,hx,line,g,d,s,hg,h1,h2,hr=>by
  obtain⟨r1,r2,r3,_⟩:=fQ hr;have hin:=hC.inl;have hy:=kn hC hx line hg;have N6:(ins++[g]).length=ins.length+1:=s_;have t1:=KY (x:=x) (line:=line) h1 o_ s;have t2:=Hz (C:=C) (line:=line) x (d:=d-argsN C.p g) o_ (fY C x line g d s);have t3:=yu hC hy o_ (Fu hC lev hy) (base:=d-argsN C.p g) o_ o_ (dk C x line (d-argsN C.p g) (fY C x line g d s));intro h;exact yz _ _ (((t1.trans t2).trans t3) h)
end Go.Proofs.P
namespace Go.Proofs.P
open Go.Sim Tryz
structure IS where
 out:List Int
 MN:List (List Int)
inductive Rr (α:Type) where
 | ok (a:α) (s:IS)
 | stop (c:Int) (s:IS)
 | fuel
def Rr.bnd {α β:Type}(r:Rr α)(f:α->IS->Rr β):Rr β:=match r with
 | .ok a s=>f a s
 | .stop c s=> .stop c s
 | .fuel=> .fuel
theorem Rr.bnd_ok {α β:Type}(a:α)(s:IS)(f:α->IS->Rr β):(Rr.ok a s).bnd f=f a s:=rfl
def LS (locals:List (List UInt8))(vals:List Int)(nm:List UInt8):Int:=match iL locals 0 nm with
 | some i=>atL vals i
 | none=>0
abbrev CallF:=Nat->List Int->IS->Rr Int
section
variable (p:List Mq) (locals:List (List UInt8)) (vals:List Int) (call:CallF)
def JW (t:Mz)(av:List Int)(s:IS):Rr Int:=
 if t.J5=0 then .ok t.MI s
 else if t.J5=1 then .ok (LS locals vals t.L0) s
 else if t.J5=7 then call ((findN p 0 t.L0).getD 0) av s
 else .ok (ey t.J5 (atL av 0) (atL av 1)) s
end
def skipAt (p:List Mq)(k:Nat):Nat:=match elseAt p k with
 | some j=>j
 | none=>lc p k
def HP (p:List Mq)(ln:Mq)(k:Nat)(v:Int):Nat:=if(ln.J5=3\/ln.J5=5)/\v=0 then skipAt p k+1 else k+1
section
variable {p:List Mq} {locals:List (List UInt8)} {vals:List Int} {call Yu:CallF}
end
section
variable {p:List Mq} {lim:Int}
end
structure Ext (lim:Int) (s s':IS):Prop where
 out:s.out <+:s'.out
 vis:s.MN <+:s'.MN
 le:(s.MN.length:Int)<=lim->(s'.MN.length:Int)<=lim
 ol:s'.out.length+s.MN.length<=s'.MN.length+s.out.length
theorem Ext.refl (lim:Int)(s:IS):Ext lim s s:=⟨I6 _,I6 _,id,o_⟩
theorem Ext.trans {lim:Int}{a b c:IS}(h:Ext lim a b)(h':Ext lim b c):Ext lim a c:=⟨h.out.trans h'.out,h.vis.trans h'.vis,fun x=>h'.le (h.le x),by have:=h.ol;have:=h'.ol;omega⟩
def ExtR (lim:Int)(s:IS){α:Type}(r:Rr α):Prop:=match r with
 | .ok _ s'=>Ext lim s s'
 | .stop c s'=>Ext lim s s'/\(c=1\/c=2)
 | .fuel=>True
theorem ExtR.trans {lim:Int}{a b:IS}{α:Type}{r:Rr α}(h:Ext lim a b)(h':ExtR lim b r):ExtR lim a r:=by cases r with|ok v s=>exact Ext.trans h h'|stop c s=>exact⟨Ext.trans h h'.1,h'.2⟩|fuel=>trivial
section
variable {p:List Mq} {locals:List (List UInt8)} {vals:List Int} {call:CallF} {lim:Int}
end
section
variable {p:List Mq} {locals:List (List UInt8)} {vals:List Int} {lim:Int} {calls:List Int} {k:Nat}
end
structure InF (p:List Mq) (f e k:Nat):Prop where
 fn:∃y,p[f]?=some y/\y.J5=0
 en:endAt p f=some e
 lo:f<k
 hi:k<=e
section
variable {p:List Mq} {f e k:Nat} {ln:Mq}
abbrev cx0 (p:List Mq)(f:Nat):Cx:=⟨p,⟨0,0,false,false⟩,false,0,argsN p f⟩
theorem PgOk.cx0 (hp:PgOk p)(h:∃y,p[f]?=some y/\y.J5=0):CxOk (cx0 p f):=by obtain⟨y,hy,_⟩:=h;refine hp.cx ?_ o_ s_;have:=(hp.line f y hy).2.2.1;show(0:Int)<=(argsN p f:Int)/\(argsN p f:Int)<=4;rw[argsN,hy];dsimp only;omega
theorem CT (h:∃y,p[f]?=some y/\y.J5=0):ScOk (cx0 p f) (bd (cx0 p f) f) [f]:=⟨h,rfl,⟨u4 _,by simp[bd]⟩,rfl,by simp[bd],fun _=>rfl,rfl⟩
theorem InF.own7 (hp:PgOk p)(h:InF p f e k)(hk:p[k]?=some ln)(h7:ln.J5=7):endAt p (ownOf p k)=some k/\((k=e/\ownOf p k=f)\/(k<e/\f<ownOf p k/\ownOf p k<k/\∃y,p[ownOf p k]?=some y/\(y.J5=3\/y.J5=5))):=
 ScOk.own7 (hp.cx0 h.fn) (CT h.fn) h.en h.lo h.hi hk h7
theorem InF.own4 (hp:PgOk p)(h:InF p f e k)(hk:p[k]?=some ln)(h4:ln.J5=4):elseAt p (ownOf p k)=some k/\f<ownOf p k/\ownOf p k<k/\k<e:=
 ScOk.own4 (hp.cx0 h.fn) (CT h.fn) h.en h.lo h.hi hk h4
theorem InF.kind (hp:PgOk p)(h:InF p f e k)(hk:p[k]?=some ln):ln.J5≠0:=jZ (hp.cx0 h.fn) (CT h.fn) h.en h.lo h.hi hk
theorem InF.line (hp:PgOk p)(h:InF p f e k):∃ln,p[k]?=some ln/\1<=ln.J5/\ln.J5<=7/\(ln.J5=7\/k<e):=by
 have he:=aN h.en;obtain⟨_,_,_,_,_,hl⟩:=he;obtain⟨ln,hk⟩:=ae (l:=p) (k:=k) (by have:=h.hi;omega);have h1:=h.kind hp hk;have h2:=hp.line k ln hk;refine⟨ln,hk,o_,h2.2.1,?_⟩;by_cases Ob:k=e
 ·subst Ob;obtain⟨y,hy,h7⟩:=bR h.en;rw[hk]at hy;injection hy with hy;subst hy;exact .inl h7
 ·have:=h.hi;exact .inr o_
theorem InF.at (h:InF p f e k){j:Nat}(h1:f<j)(h2:j<=e):InF p f e j:=⟨h.fn,h.en,h1,h2⟩
theorem InF.skip (hp:PgOk p)(h:InF p f e k)(hk:p[k]?=some ln)(UU:ln.J5=3\/ln.J5=5)(Ob:k<e):k<skipAt p k/\skipAt p k<e:=by
 obtain⟨m,hm,m1,m2⟩:=jx h.en h.lo Ob hk aaJ;unfold skipAt;split
 ·rename_i j hj;obtain⟨_,e',_,_,NV,q1,q2,_⟩:=bA hj;rw[hm]at NV;injection NV with NV;subst NV;omega
 ·rw[lc,hm];exact⟨m1,m2⟩
theorem InF.next (hp:PgOk p)(h:InF p f e k)(hk:p[k]?=some ln)(h7:ln.J5≠7)(v:Int):InF p f e (HP p ln k v)/\k<HP p ln k v:=by
 have Ob:k<e:=by obtain⟨l,hl,_,_,h5⟩:=h.line hp;rw[hk]at hl;injection hl with hl;subst hl;omega
 have PW:=h.lo;unfold HP;split
 ·rename_i hc;have:=h.skip hp hk hc.1 Ob;exact⟨h.at o_ o_,o_⟩
 ·exact⟨h.at o_ o_,o_⟩
theorem InF.start (hp:PgOk p){g:Nat}(h:∃y,p[g]?=some y/\y.J5=0):∃e,InF p g e (g+1):=by obtain⟨y,hy,h0⟩:=h;obtain⟨e,he,_⟩:=hp.fn g y hy h0;obtain⟨_,_,_,_,h1,_⟩:=aN he;exact⟨e,⟨⟨y,hy,h0⟩,he,o_,o_⟩⟩
end
section
variable {p:List Mq} {lim:Int}
end
section
variable {p:List Mq} {f e k:Nat} {ln:Mq}
end
structure Known (p:List Mq) (locals:List (List UInt8)) (l:List Mz):Prop where
 var:∀t∈l,t.J5=1->∃i,iL locals 0 t.L0=some i
 call:∀t∈l,t.J5=7->∃g,findN p 0 t.L0=some g/\(argsN p g:Int)=t.MI
theorem AU (acc:List (List UInt8))(s:List UInt8):s∈gg acc s:=by
 unfold gg;split
 ·rename_i h;exact E2.1 h
 ·simp
theorem BA {acc:List (List UInt8)}{s z:List UInt8}(h:z∈acc):z∈gg acc s:=by
 unfold gg;split
 ·exact h
 ·simp[h]
theorem Am {l:List Mq}{e:Nat}{z:List UInt8}:∀(n i:Nat) (acc:List (List UInt8)),z∈acc->z∈locN l e n i acc
 | 0,_,_,h=>by rw[locN];exact h
 | n+1,i,acc,h=>by
  rw[locN];split
  ·split
   ·refine Am n _ _ ?_;split
    ·exact BA h
    ·exact h
   ·exact h
  ·exact h
theorem Cb {l:List Mq}{e k:Nat}{x:Mq}(hx:l[k]?=some x)(h1:x.J5=1)(Ob:k<e):∀(n i:Nat) (acc:List (List UInt8)),i<=k->e-i<=n->(∀j,j<e->j<l.length)->x.L0∈locN l e n i acc
 | 0,i,acc,h,hn,_=>o_
 | n+1,i,acc,h,hn,hl=>by
  rw[locN,c7 o_];obtain⟨y,hy⟩:=ae (hl i o_);rw[hy];dsimp only;by_cases O9:i=k
  ·subst O9;rw[hx]at hy;injection hy with hy;subst hy;rw[c7 h1];exact Am n _ _ (AU _ _)
  ·exact Cb hx h1 Ob n (i+1) _ o_ o_ hl
theorem sW {l:List (List UInt8)}{s:List UInt8}(h:s∈l):∃i,iL l 0 s=some i:=by
 have:(iL l 0 s).isSome=true:=by rw[wa];exact E2.2 h
 exact E8.1 this
theorem GS {p:List Mq}(h:aj p=true){f e k:Nat}{ln:Mq}(hI:InF p f e k)(hk:p[k]?=some ln)(Ob:k<e):Known p (localsOf p (f:Int)) ln.L5/\(ln.J5=1->∃i,iL (localsOf p (f:Int)) 0 ln.L0=some i):=by
 have h0:=h;unfold aj at h;simp only[b9,j6]at h;obtain⟨_,_,h2,_,_,h3,h4⟩:=h;have hS:=pu p;rw[h3,h4]at hS;have M3:∀k e,endAt p k=some e->e<=p.length:=fun k e he=>by obtain⟨_,_,_,_,_,h⟩:=aN he;omega
 have hF:∀k e,endAt p k=some e->lY p k e=true->∀i x,k<i->i<e->p[i]?=some x->x.J5≠0:=fun k e he hf=>by
  rw[nE,b9]at hf;exact uY hf.1 (M3 k e he)
 obtain⟨y,hy,Pa⟩:=hI.fn;obtain⟨e',NV,hf⟩:=py hF p.length 0 hS f y (w6 _) hy Pa;rw[hI.en]at NV;injection NV with NV;subst NV;rw[nE,b9]at hf;have Sw:=hf.1;rw[tY,b9,j6]at Sw;have Pr:=pC (e-(f+1)) (f+1) 0 (d8 _) (M3 f e hI.en) Sw.2 k ln (by have:=hI.lo;omega) Ob hk;unfold eF at Pr;have Pr:=o8.1 Pr;refine⟨⟨fun t ht h1=>?_,fun t ht h7=>?_⟩,fun h1=>?_⟩
 ·have:=Pr t ht;unfold cO at this;rw[c7 h1]at this;exact sW (E2.1 this)
 ·have:=Pr t ht;unfold cO at this;rw[b8 o_,c7 h7]at this;split at this
  ·rename_i g hg;refine⟨g,hg,?_⟩;unfold argsN;split at this
   ·rename_i x hx
    (try rw[hx])
    exact B2 this
   ·cases this
  ·cases this
 ·refine sW ?_;unfold localsOf;rw[c7 o_,d6,hy,hI.en];dsimp only;rw[c7 Pa];exact Cb hk h1 Ob _ _ _ (by have:=hI.lo;omega) (d8 _) (fun j hj=>by have:=M3 f e hI.en;omega)
def eP (c:Int):Prop:=c≠10/\c≠14/\c≠16
def isJ (c:Int):Prop:=c=10\/c=11
def jH (p:List Mq)(a:Int):Int:=match(aA p)[a.toNat]? with|some g=>(argsN p g:Int)|none=>0
def gM (C:Cx)(o:Mt)(d:Int):Int:=
 if o.J3=0\/o.J3=1\/o.J3=3 then d+1
 else if o.J3=2\/o.J3=4\/(5<=o.J3/\o.J3<=9)\/o.J3=11\/o.J3=17 then d-1
 else if o.J3=12 then d-jH C.p o.K9+1
 else if o.J3=13\/o.J3=15 then d+o.K9 else d
def xq (c d:Int):Int:=if c=11 then d-1 else d
def StA (C:Cx)(c a d:Int):Prop:=(c=2/\C.K0=true/\((-C.J2<=a/\a<=-1)\/(2<=a/\a<=1+C.args)))\/(c=4/\C.K0=false/\((d-C.J2<=a/\a<=d-1)\/(d+1<=a/\a<=d+C.args)))
structure OpTy (C:Cx) (i:Nat) (it:Mp) (d:Int):Prop where
 dep:it.MG=(if C.K0=true/\0<i then 0 else d)
 ent:it.MR=(C.K0&&decide (0<i))
 lo:(i=0->d=0)/\(0<i->C.J2<=d)
 head:i=0->it.J7.J3=(if C.K0=true then 13 else 15)/\it.J7.K9=C.J2
 st:it.J7.J3=2\/it.J7.J3=4->C.J2+1<=d/\StA C it.J7.J3 it.J7.K9 d
 ld:(it.J7.J3=1->C.K0=true)
 ar:5<=it.J7.J3/\it.J7.J3<=9->C.J2+2<=d
 one:it.J7.J3=11\/it.J7.J3=17->C.J2+1<=d
 call:it.J7.J3=12->0<=it.J7.K9/\∃g,(aA C.p)[it.J7.K9.toNat]?=some g/\C.J2+argsN C.p g<=d
 leave:it.J7.J3=14->C.K0=true/\it.J7.K9=C.args/\C.J2+1<=d
 ret:it.J7.J3=16->C.K0=false/\it.J7.K9=C.args+16*C.J2/\d=C.J2+1
 sp:it.J7.J3=15->0<i->it.J7.K9=0
 ent13:it.J7.J3=13->i=0
structure Ty (C:Cx) (l:List Mp) (ds:List Int) (pn:List Int) (D:Int):Prop where
 len:ds.length=l.length
 pos:0<l.length
 item:∀(i:Nat) (it:Mp) (d:Int),l[i]?=some it->ds[i]?=some d->OpTy C i it d
 fall:∀(i:Nat) (it:Mp) (d:Int),l[i]?=some it->ds[i]?=some d->eP it.J7.J3->(ds++[D])[i+1]?=some (gM C it.J7 d)
 jump:∀(i:Nat) (it:Mp) (d:Int),l[i]?=some it->ds[i]?=some d->isJ it.J7.J3->(i:Int)∉pn->1<=it.J7.K9/\(ds++[D])[it.J7.K9.toNat]?=some (xq it.J7.J3 d)
def Cd (l:List Mp)(ds:List Int)(j e:Int):Prop:=0<=j/\∃c d,bf l j.toNat=some c/\ds[j.toNat]?=some d/\isJ c/\e=xq c d
section
variable {C:Cx} {l l':List Mp} {ds WH pn pn':List Int} {d D D' e:Int}
theorem vS {ds:List Int}{d D':Int}{j:Nat}{e:Int}(h:(ds++[d])[j]?=some e):((ds++[d])++[D'])[j]?=some e:=by rw[j7 (aI h)];exact h
theorem Cd.ext {j:Int}(h:Cd l ds j e)(h1:∀i c,bf l i=some c->bf l' i=some c)(es:List Int):Cd l' (ds++es) j e:=by obtain⟨h0,c,d,k1,k2,k3,k4⟩:=h;exact⟨h0,c,d,h1 _ _ k1,by rw[j7 (aI k2)];exact k2,k3,k4⟩
theorem Ty.emit (h:Ty C l ds pn d){it:Mp}(ho:OpTy C l.length it d)(D':Int)(hf:eP it.J7.J3->D'=gM C it.J7 d)(RH:∀i∈pn,i∈pn')
  (hj:isJ it.J7.J3->(l.length:Int)∈pn'\/(1<=it.J7.K9/\(ds++[d])[it.J7.K9.toNat]?=some (xq it.J7.J3 d))):Ty C (l++[it]) (ds++[d]) pn' D':=by
 have hl:=h.len
 have key:∀(i:Nat) (Oh:Mp) (d':Int),(l++[it])[i]?=some Oh->(ds++[d])[i]?=some d'->(l[i]?=some Oh/\ds[i]?=some d')\/(i=l.length/\Oh=it/\d'=d):=fun i Oh d' h1 h2=>by
  rcases B4 i l.length with hi|hi|hi
  ·rw[j7 hi]at h1;rw[j7 o_]at h2;exact .inl ⟨h1,h2⟩
  ·subst hi;rw[m6 (d8 _),x6,f9]at h1;rw[m6 o_,hl,x6,f9]at h2;injection h1 with h1;injection h2 with h2;exact .inr ⟨rfl,h1.symm,h2.symm⟩
  ·rw[e9 aab]at h1
   cases h1
 refine⟨by simp[hl],s_,fun i Oh d' h1 h2=>?_,fun i Oh d' h1 h2 h3=>?_,fun i Oh d' h1 h2 h3 h4=>?_⟩
 ·rcases key i Oh d' h1 h2 with⟨k1,k2⟩|⟨rfl,rfl,rfl⟩
  ·exact h.item i Oh d' k1 k2
  ·exact ho
 ·rcases key i Oh d' h1 h2 with⟨k1,k2⟩|⟨rfl,rfl,rfl⟩
  ·exact vS (h.fall i Oh d' k1 k2 h3)
  ·rw[m6 (by simp[hl])];simp[hl,hf h3]
 ·rcases key i Oh d' h1 h2 with⟨k1,k2⟩|⟨rfl,rfl,rfl⟩
  ·obtain⟨g1,g2⟩:=h.jump i Oh d' k1 k2 h3 (fun hm=>h4 (RH _ hm));exact⟨g1,vS g2⟩
  ·rcases hj h3 with g|⟨g1,g2⟩
   ·exact absurd g h4
   ·exact⟨g1,vS g2⟩
theorem pg {l:List Mp}{j v:Int}{i:Nat}{it:Mp}(h:(cf l j v)[i]?=some it):∃it0,l[i]?=some it0/\((it=it0/\¬(j=(i:Int)))\/(j=(i:Int)/\it=⟨⟨it0.J7.J3,v⟩,it0.MM,it0.L8,it0.MQ,it0.MG,it0.MR⟩)):=by
 unfold cf at h;by_cases h0:0<=j
 ·rw[c7 h0]at h
  cases hx:l[j.toNat]? with
  | none=>
   rw[hx]at h;refine⟨it,h,.inl ⟨rfl,fun e=>?_⟩⟩;rw[show j.toNat=i by omega]at hx
   rw[hx]at h;cases h
  | some x=>
   rw[hx]at h;dsimp only at h;by_cases On:j.toNat=i
   ·subst On;rw[x7 (aI hx)]at h;injection h with h;exact⟨x,hx,.inr ⟨o_,h.symm⟩⟩
   ·rw[C8 On]at h;exact⟨it,h,.inl ⟨rfl,fun e=>On o_⟩⟩
 ·rw[b8 h0]at h;exact⟨it,h,.inl ⟨rfl,fun e=>h0 o_⟩⟩
theorem HO {i:Nat}{it:Mp}{v:Int}(h:OpTy C i it d)(hj:isJ it.J7.J3):OpTy C i ⟨⟨it.J7.J3,v⟩,it.MM,it.L8,it.MQ,it.MG,it.MR⟩ d:=by
 unfold isJ at hj;refine⟨h.dep,h.ent,h.lo,fun k=>?_,fun k=>?_,h.ld,h.ar,h.one,fun k=>?_,fun k=>?_,fun k=>?_,fun k=>?_,h.ent13⟩
 ·have:=(h.head k).1;split at this<;>omega
 all_goals(dsimp only at k;omega)
theorem Ty.patch (h:Ty C l ds pn D){j:Int}(hj:Cd l ds j D)(RH:∀i∈pn,i=j\/i∈pn'):Ty C (cf l j l.length) ds pn' D:=by
 obtain⟨h0,c,d,k1,k2,k3,k4⟩:=hj;have hl:=h.len
 have NI:∀(i:Nat) (it:Mp) (d':Int),l[i]?=some it->ds[i]?=some d'->j=(i:Int)->it.J7.J3=c/\d'=d:=fun i it d' g1 g2 e=>by
  rw[show j.toNat=i by omega]at k1 k2;rw[bf,g1]at k1;rw[g2]at k2;injection k1 with k1;injection k2 with k2;exact⟨k1,k2⟩
 refine⟨by rw[bU];exact hl,by rw[bU];exact h.pos,fun i Oh d' h1 h2=>?_,fun i Oh d' h1 h2 h3=>?_,fun i Oh d' h1 h2 h3 h4=>?_⟩
 ·obtain⟨it0,g1,⟨rfl,_⟩|⟨e,rfl⟩⟩:=pg h1
  ·exact h.item i _ d' g1 h2
  ·exact HO (h.item i it0 d' g1 h2) (by rw[(NI i it0 d' g1 h2 e).1];exact k3)
 ·obtain⟨it0,g1,⟨rfl,_⟩|⟨e,rfl⟩⟩:=pg h1
  ·exact h.fall i _ d' g1 h2 h3
  ·have hc:=(NI i it0 d' g1 h2 e).1;dsimp only at h3⊢;have:=h.fall i it0 d' g1 h2 h3;rw[this];unfold eP at h3;unfold isJ at k3;unfold gM;dsimp only;rw[hc];rw[show c=11 by omega];simp
 ·obtain⟨it0,g1,⟨rfl,M9⟩|⟨e,rfl⟩⟩:=pg h1
  ·exact h.jump i _ d' g1 h2 h3 (fun hm=>by
    rcases RH _ hm with hm|hm
    ·exact M9 hm.symm
    ·exact h4 hm)
  ·obtain⟨hc,hd⟩:=NI i it0 d' g1 h2 e;dsimp only at h3⊢;have hp1:=h.pos;refine⟨o_,?_⟩;rw[d6,<-hl,m6 (d8 _),x6,f9,hc,hd,k4]
theorem Ty.patchL (pn':List Int):∀(js:List Int) {l:List Mp} {pn:List Int},Ty C l ds pn D->(∀j∈js,Cd l ds j D)->(∀i∈pn,i∈js\/i∈pn')->Ty C (patchL l l.length js) ds pn' D
 | [],l,pn,h,_,hp=>⟨h.len,h.pos,h.item,h.fall,fun i it d h1 h2 h3 h4=>h.jump i it d h1 h2 h3 fun hm=>by
   rcases hp _ hm with h'|h'
   ·cases h'
   ·exact h4 h'⟩
 | j::js,l,pn,h,hj,hp=>by
  have h1:=h.patch (pn':=js++pn') (hj j s_) (fun i hi=>by
   rcases hp i hi with h'|h'
   ·rcases d7.1 h' with h'|h'
    ·exact .inl h'
    ·exact .inr (f0.2 (.inl h'))
   ·exact .inr (f0.2 (.inr h')))
  have h2:=Ty.patchL pn' js h1 (fun i hi=>by
   have:=(hj i (by simp[hi])).ext (l':=cf l j l.length) (fun i c h=>by rw[dE];exact h) []
   simpa using this) (fun i hi=>by simpa using hi)
  rw[bU]at h2;exact h2
end
structure T (C:Cx) (d D:Int) (ne:Prop) (s s':Gs):Prop where
 mono:s.J8<=s'.J8
 ext:∀i c,bf s.J1 i=some c->bf s'.J1 i=some c
 ty:s'.J8<=C.J2->∀ds pn,Ty C s.J1 ds pn d->∃es,(ne->es≠[])/\(es=[]->D=d)/\(∀x,es.head?=some x->x=d)/\Ty C s'.J1 (ds++es) pn D
section
variable {C:Cx} {d D E:Int} {a b c:Gs} {ne Wp:Prop}
theorem T.refl (s:Gs):T C d d False s s:=⟨u4 _,fun _ _ h=>h,fun _ ds pn h=>⟨[],fun h=>h.elim,fun _=>rfl,fun x hx=>absurd hx s_,by rw[m7];exact h⟩⟩
theorem T.trans (h:T C d D ne a b)(h':T C D E Wp b c):T C d E (ne\/Wp) a c:=by
 refine⟨D8 h.mono h'.mono,fun i v x=>h'.ext i v (h.ext i v x),fun hm ds pn ht=>?_⟩;obtain⟨es,e1,e2,e3,e4⟩:=h.ty (D8 h'.mono hm) ds pn ht;obtain⟨fs,f1,f2,f3,f4⟩:=h'.ty hm _ pn e4;refine⟨es++fs,fun hn=>?_,fun hn=>?_,fun x hx=>?_,by rw[<-j9];exact f4⟩
 ·rcases hn with hn|hn
  ·have:=e1 hn;intro h0;simp at h0;exact this h0.1
  ·have:=f1 hn;intro h0;simp at h0;exact this h0.2
 ·simp only[List.append_eq_nil_iff]at hn;rw[f2 hn.2,e2 hn.1]
 ·cases es with|nil=>rw[t7]at hx;rw[f3 x hx,e2 rfl]|cons y ys=>exact e3 x hx
theorem T.weak (h:T C d D ne a b)(hn:Wp->ne):T C d D Wp a b:=⟨h.mono,h.ext,fun hm ds pn ht=>by
 obtain⟨es,e1,e2⟩:=h.ty hm ds pn ht
 exact⟨es,fun x=>e1 (hn x),e2⟩⟩
theorem rA {code arg line:Int}{chain:List Int}(s:Gs)(M1:s.J8<=C.J2->0<s.J1.length->OpTy C s.J1.length (bS C s d code arg line chain) d)(hf:D=gM C ⟨code,arg⟩ d)(hj:¬isJ code)(Ut:eP code):T C d D True s (aF C s d code arg line chain):=by
 refine⟨u4 _,fun i c h=>?_,fun hm ds pn ht=>⟨[d],fun _=>s_,fun h=>by simp at h,fun x hx=>by simpa using hx.symm,?_⟩⟩
 ·exact V122
 ·exact ht.emit (M1 hm ht.pos) D (fun _=>hf) (fun _ h=>h) (fun h=>absurd h hj)
theorem dC {code arg line:Int}{chain:List Int}{s:Gs}(hp:0<s.J1.length)(hd:C.J2<=d)(h2:code=2\/code=4->C.J2+1<=d/\StA C code arg d)(h1:code=1->C.K0=true)(h5:5<=code/\code<=9->C.J2+2<=d)(Ti:code=11\/code=17->C.J2+1<=d)
  (RY:code=12->0<=arg/\∃g,(aA C.p)[arg.toNat]?=some g/\C.J2+argsN C.p g<=d) (YE:code=14->C.K0=true/\arg=C.args/\C.J2+1<=d) (Zi:code=16->C.K0=false/\arg=C.args+16*C.J2/\d=C.J2+1) (h15:code=15->arg=0) (YT:code≠13):OpTy C s.J1.length (bS C s d code arg line chain) d:=
 ⟨rfl,rfl,⟨fun h=>o_,fun _=>hd⟩,fun h=>o_,h2,h1,h5,Ti,RY,YE,Zi,fun k _=>h15 k,fun k=>absurd k YT⟩
end
def Beg (b:Nat)(s:Gs):Prop:=b<=s.J1.length/\(s.start=true↔s.J1.length=b)
theorem Beg.emit {b:Nat}{s:Gs}(h:Beg b s)(C:Cx)(d code arg line:Int)(chain:List Int):Beg b (aF C s d code arg line chain):=by obtain⟨h1,h2⟩:=h;refine⟨by simp only[aF,c8,d5,i9];omega,?_⟩;simp only[aF,c8,d5,i9];exact⟨fun h=>(by cases h),fun h=>o_⟩
theorem Beg.off {b:Nat}{s s':Gs}(h:Beg b s)(h1:s.J1.length<s'.J1.length)(h2:s'.start=false):Beg b s':=by have:=h.1;exact⟨o_,by rw[h2];exact⟨fun h=>(by cases h),fun h=>o_⟩⟩
section
variable {C:Cx} {x:Sc} {ins:List Nat} {rep:Sc->List Nat->Nat->Nat->Int->Gs->Gs} {line b:Nat}
end
def Keep (s s':Gs):Prop:=∀(j:Nat) (it:Mp),s.J1[j]?=some it->∃Oh,s'.J1[j]?=some Oh/\Oh.L8=it.L8
theorem Keep.refl (s:Gs):Keep s s:=fun _ it h=>⟨it,h,rfl⟩
theorem Keep.trans {a b c:Gs}(h:Keep a b)(h':Keep b c):Keep a c:=fun j it hj=>by
 obtain⟨it1,h1,e1⟩:=h j it hj;obtain⟨it2,h2,e2⟩:=h' j it1 h1;exact⟨it2,h2,e2.trans e1⟩
theorem Keep.emit (C:Cx)(s:Gs)(d code arg line:Int)(chain:List Int):Keep s (aF C s d code arg line chain):=fun j it hj=>by
 refine⟨it,?_,rfl⟩;show(s.J1++_)[j]?=_;rw[j7 (aI hj)];exact hj
section
variable {C:Cx} {rep:Sc->List Nat->Nat->Nat->Int->Gs->Gs}
end
def Mark (b:Nat)(s:Gs):Prop:=(s.start=true/\s.J1.length=b)\/∃it,s.J1[b]?=some it/\it.L8=true
theorem Mark.keep {b:Nat}{s s':Gs}(h:∃it,s.J1[b]?=some it/\it.L8=true)(hk:Keep s s'):∃it,s'.J1[b]?=some it/\it.L8=true:=by obtain⟨it,h1,h2⟩:=h;obtain⟨Oh,h3,h4⟩:=hk b it h1;exact⟨Oh,h3,h4.trans h2⟩
theorem Mark.emit {b:Nat}{s:Gs}(h:Mark b s)(C:Cx)(d code arg line:Int)(chain:List Int):Mark b (aF C s d code arg line chain):=by
 rcases h with⟨h1,h2⟩|h
 ·refine .inr ⟨bS C s d code arg line chain,?_,h1⟩;show(s.J1++[_])[b]?=_;rw[<-h2];simp
 ·exact .inr (Mark.keep h (Keep.emit _ _ _ _ _ _ _))
section
variable {C:Cx} {rep:Sc->List Nat->Nat->Nat->Int->Gs->Gs} {b:Nat}
end
theorem yP {g:Nat}:∀{l:List Mq} {i j:Nat} {x:Mq},i<=g->l[g-i]?=some x->x.J5=0->iL ((funsF l i).map fun n:Nat=>(n:Int)) j (g:Int)=some (j+((l.take (g-i)).filter fun x=>x.J5==0).length)
 | [],i,j,x,h,hx,_=>by simp at hx
 | y::l,i,j,x,h,hx,h0=>by
  rw[funsF];by_cases Rv:g=i
  ·subst Rv;rw[x6,f9]at hx;injection hx with hx;subst hx;rw[c7 h0,u5,p7,u3,iL,c7 s_,x6];simp
  ·have hs:g-i=(g-(i+1))+1:=o_;rw[hs,l4]at hx;have ih:=fun j=>yP (g:=g) (l:=l) (i:=i+1) (j:=j) o_ hx h0;rw[hs,q9];by_cases hy:y.J5=0
   ·rw[c7 hy,u5,p7,C7,u3,t7,iL,b8 aab,ih,B9,c7 aaS,d5];congr 1;omega
   ·rw[b8 hy,t7,ih,B9,b8 aaS]
theorem GV {C:Cx}{g:Nat}(hg:ca C g):dJ ((aA C.p).map fun n:Nat=>(n:Int)) (g:Int)=(lf C.p g:Int):=by obtain⟨x,hx,h0⟩:=hg;have:=yP (l:=C.p) (i:=0) (j:=0) (x:=x) (w6 g) (by simpa using hx) h0;unfold dJ aA;rw[this];simp[cS,lf]
section
variable {C:Cx} {x y:Sc} {ins:List Nat} {rep:Sc->List Nat->Nat->Nat->Int->Gs->Gs} {line:Nat}
theorem nK:cH C true=if C.K0=true then 2 else 4:=by unfold cH;split<;>rfl
theorem sA (ho:y.L6=false){d i:Int}(h1:0<=y.first+i)(h2:y.first+i<C.J2):StA C (cH C true) (fA C y d i) d:=by
 rw[nK];unfold fA Ax mL StA;rw[ho]
 cases hf:C.K0 with|true=>simp;omega|false=>simp;omega
theorem Gt (hC:CxOk C)(ho:y.L6=true){d i:Int}(h1:0<=i)(h2:i-C.args<C.J2):StA C (cH C true) (fA C y d i) d:=by
 have ha:=hC.args;rw[nK];unfold fA Ax mL StA;rw[ho];by_cases hi:i<C.args
 ·cases hf:C.K0 with|true=>simp[hi];omega|false=>simp[hi];omega
 ·cases hf:C.K0 with|true=>simp[hi];omega|false=>simp[hi];omega
theorem Ej {d i line:Int}{chain:List Int}(s:Gs)(hd:C.J2+1<=d)(hS:s.J8<=C.J2->StA C (cH C true) (fA C y d i) d):T C d (d-1) True s (fS C y s d i line chain):=by
 have hc:=nK (C:=C);have RA:cH C true=2\/cH C true=4:=by rw[hc];split<;>omega
 refine rA s (fun hm hp=>dC hp o_ (fun _=>⟨hd,hS hm⟩) (fun h=>o_) (fun h=>o_) (fun h=>o_) (fun h=>o_) (fun h=>o_) (fun h=>o_) (fun h=>o_) o_) ?_ aan aad;unfold gM;dsimp only;rw[b8 o_,c7 o_]
theorem EU {d arg line:Int}{chain:List Int}(s:Gs)(hd:C.J2<=d):T C d (d+1) True s (aF C s d 0 arg line chain):=
 rA s (fun hm hp=>dC hp hd (fun h=>o_) (fun h=>o_) (fun h=>o_) (fun h=>o_) (fun h=>o_) (fun h=>o_) (fun h=>o_) (fun h=>o_) o_) (by unfold gM;dsimp only;rw[c7 o_]) aan aad
theorem Ak (ho:y.L6=false)(hf:0<=y.first){chain:List Int}{line:Int}:∀(n:Nat) (d:Int) (s:Gs),C.J2+n<=d->(s.J8<=C.J2->y.first+n<=C.J2)->T C d (d-n) False s (cK C y chain line n d s)
 | 0,d,s,_,_=>by rw[cK];simpa using T.refl (C:=C) (d:=d) s
 | n+1,d,s,h,hF=>by
  rw[cK];have h1:=Ej (C:=C) (y:=y) (d:=d) (i:=(n:Int)) (line:=line) (chain:=chain) s o_ (fun hm=>sA ho o_ (by have:=hF hm;omega));have h2:=Ak ho hf (chain:=chain) (line:=line) n (d-1) (fS C y s d n line chain) o_ (fun hm=>by have:=hF hm;omega);have:=h1.trans h2;rw[show d-((n+1:Nat):Int)=d-1-n by omega];exact this.weak (fun h=>h.elim)
theorem Fr (ho:y.L6=false)(hf:0<=y.first){chain:List Int}{line d:Int}(hd:C.J2<=d):∀(n i:Nat) (s:Gs),(s.J8<=C.J2->y.first+i+n<=C.J2)->T C d d False s (dH C y chain line d n i s)
 | 0,i,s,_=>by rw[dH];exact T.refl s
 | n+1,i,s,hF=>by
  rw[dH];have h1:=EU (C:=C) (d:=d) (arg:=0) (line:=line) (chain:=chain) s hd;have h2:=Ej (C:=C) (y:=y) (d:=d+1) (i:=(i:Int)) (line:=line) (chain:=chain) (aF C s d 0 0 line chain) o_ (fun hm=>sA ho o_ (by have:=hF hm;omega));have h3:=Fr ho hf (chain:=chain) (line:=line) hd n (i+1) (fS C y (aF C s d 0 0 line chain) (d+1) i line chain) (fun hm=>by have:=hF hm;omega);rw[show d+1-1=d by omega]at h2;exact((h1.trans h2).trans h3).weak (fun h=>h.elim)
def qI (C:Cx)(rep:Sc->List Nat->Nat->Nat->Int->Gs->Gs)(x:Sc)(ins:List Nat):Prop:=
 ∀(line g:Nat) (d:Int) (s:Gs),ca C g->C.J2+(argsN C.p g:Int)<=d->cU C ins g s.J1.length=true->T C d (d-argsN C.p g+1) True s (rep x ins line g d s)
theorem Bn {α:Type}[BEq α][LawfulBEq α]:∀{l:List α} {i k:Nat} {s:α},iL l i s=some k->l[k-i]?=some s
 | [],i,k,s,h=>by rw[iL]at h;cases h
 | a::l,i,k,s,h=>by
  rw[iL]at h;split at h
  ·rename_i he;injection h with h;subst h;simp[B2 he]
  ·have h2:=Bn h;have h3:=(nH h).1;rw[show k-i=(k-(i+1))+1 by omega,l4];exact h2
theorem Ho {g:Nat}(hg:ca C g):(aA C.p)[lf C.p g]?=some g:=by
 have h:=GV hg;unfold dJ at h
 cases hi:iL ((aA C.p).map fun n:Nat=>(n:Int)) 0 (g:Int)with
 | none=>rw[hi]at h;simp only[cS]at h;omega
 | some k=>
  rw[hi]at h;simp only[cS]at h;have h2:=Bn hi;rw[y7,show k=lf C.p g by omega,p6]at h2
  cases hx:(aA C.p)[lf C.p g]? with
  | none=>rw[hx]at h2;cases h2
  | some v=>rw[hx]at h2;simp only[x9,Option.some.injEq]at h2;congr 1;omega
theorem LR (M4:qI C rep x ins){t:Mz}(ht:fE t=true){d:Int}(hd:C.J2<=d)(hc:t.J5=7->∃f,findN C.p 0 t.L0=some f/\(argsN C.p f:Int)=t.MI)(s:Gs):T C (d+ar t) (d+1) True s (mm C rep x ins line t (d+ar t) s):=by
 have hA:(t.J5=0\/t.J5=1->(ar t:Int)=0)/\(t.J5=7->(ar t:Int)=t.MI)/\(t.J5≠0->t.J5≠1->t.J5≠7->(ar t:Int)=2/\2<=t.J5/\t.J5<=6):=by
  have UN:=(yK ht).1;unfold ni at UN;rw[b8 (by simp[ht])]at UN;unfold fE at ht;refine⟨fun h=>?_,fun h=>?_,fun k0 k1 k7=>?_⟩
  ·rw[b8 o_,c7 h]at UN;omega
  ·rw[c7 h]at UN;omega
  ·rw[b8 k7,b8 o_]at UN;rw[b8 k0,b8 k7,b8 k1]at ht;simp only[b9,within_iff]at ht;exact⟨o_,o_⟩
 unfold mm;split
 ·rename_i h0;rw[hA.1 (.inl h0)];simpa using EU (C:=C) (d:=d) (arg:=t.MI) (line:=(line:Int)) (chain:=x.J4) s hd
 rename_i h0;split
 ·rename_i h1;rw[hA.1 (.inr h1),Int.add_zero];unfold En;have Nt:cH C false=1/\C.K0=true\/cH C false=3:=by unfold cH;split<;>simp_all
  refine rA s (fun hm hp=>dC hp hd (fun h=>o_) (fun h=>by
   rcases Nt with Nt|Nt
   ·exact Nt.2
   ·omega) (fun h=>o_) (fun h=>o_) (fun h=>o_) (fun h=>o_) (fun h=>o_) (fun h=>o_) o_) ?_ aan aad
  unfold gM;dsimp only;rw[c7 o_]
 rename_i h1;split
 ·rename_i h7;obtain⟨f,hf,Ut⟩:=hc h7;have hn:=hA.2.1 h7;obtain⟨_,ln,k1,k2,_⟩:=ig hf;have hg:ca C f:=⟨ln,k1,k2⟩;rw[hf];dsimp only;split
  ·rename_i hr;have:=M4 line f (d+ar t) s hg o_ hr;rw[show d+(ar t:Int)-argsN C.p f+1=d+1 by omega]at this;exact this
  ·have Un:=Ho hg;refine rA s (fun hm hp=>dC hp o_ (fun h=>o_) (fun h=>o_) (fun h=>o_) (fun h=>o_) (fun _=>⟨o_,f,by rw[d6];exact Un,o_⟩) (fun h=>o_) (fun h=>o_) (fun h=>o_) o_) ?_ aan aad;unfold gM;dsimp only;rw[b8 o_,b8 o_,c7 rfl,jH,d6,Un];dsimp only;omega
 ·rename_i h7;obtain⟨a1,a2,a3⟩:=hA.2.2 h0 h1 h7;rw[a1];refine rA s (fun hm hp=>dC hp o_ (fun h=>o_) (fun h=>o_) (fun h=>o_) (fun h=>o_) (fun h=>o_) (fun h=>o_) (fun h=>o_) (fun h=>o_) o_) ?_ aan aad;unfold gM;dsimp only;rw[b8 o_,c7 o_];omega
mutual
theorem GZ (M4:qI C rep x ins):∀(e:Ex) (d:Int) (s:Gs),e.ok->lk C e.toks->C.J2<=d->T C d (d+1) True s (eA C rep x ins line e d s)
 | .node t es,d,s,h,hc,hd=>by
  rw[eA];have h1:=EM M4 es d s h.2.2 (fun u hu=>hc u (by rw[Ex.toks];simp[hu])) hd;have h2:=LR (x:=x) (ins:=ins) (rep:=rep) (line:=line) M4 h.1 hd (hc t (by rw[Ex.toks];simp)) (cZ C rep x ins line es d s);rw[<-h.2.1]at h2;exact(h1.trans h2).weak (fun _=> .inr trivial)
theorem EM (M4:qI C rep x ins):∀(es:List Ex) (d:Int) (s:Gs),jf es->lk C (aw es)->C.J2<=d->T C d (d+es.length) False s (cZ C rep x ins line es d s)
 | [],d,s,_,_,_=>by rw[cZ];simpa using T.refl (C:=C) (d:=d) s
 | a::es,d,s,h,hc,hd=>by
  rw[cZ];have h1:=GZ M4 a d s h.1 (fun u hu=>hc u aaX) hd;have h2:=EM M4 es (d+1) (eA C rep x ins line a d s) h.2 (fun u hu=>hc u aaX) o_;rw[show d+((a::es).length:Int)=d+1+es.length by simp;omega];exact(h1.trans h2).weak (fun h=>h.elim)
end
theorem JL {d:Int}(hd:C.J2<=d)(s:Gs):T C d d False s (dk C x line d s):=by
 unfold dk;split
 ·exact(rA s (fun hm hp=>dC hp hd (fun h=>o_) (fun h=>o_) (fun h=>o_) (fun h=>o_) (fun h=>o_) (fun h=>o_) (fun h=>o_) (fun h=>rfl) o_) (by unfold gM;dsimp only;rw[b8 o_,b8 o_,b8 o_,c7 o_];omega) aan aad).weak (fun h=>h.elim)
 ·exact T.refl s
theorem LX (hC:CxOk C)(hx:ScOk C x ins){g:Nat}(hg:ca C g){d:Int}(hd:C.J2+(argsN C.p g:Int)<=d)(s:Gs):T C d (d-argsN C.p g) False s (fY C x line g d s)/\ct C x+(localsOf C.p (g:Int)).length<=(fY C x line g d s).J8:=by
 obtain⟨k1,k2⟩:=dy hC hg;have hy:=kn hC hx line hg;have hf:=hy.first;have Yi:(cr C x line g).L6=false:=rfl;have Wy:(cr C x line g).first=ct C x:=rfl;have h0:T C d d False s ⟨s.J1,max s.J8 (ct C x+(localsOf C.p (g:Int)).length),s.start⟩:=⟨g_,fun _ _ h=>h,fun _ ds pn h=>⟨[],fun h=>h.elim,fun _=>rfl,fun x hx=>absurd hx s_,by rw[m7];exact h⟩⟩;have h1:=Ak (C:=C) Yi hf.1 (chain:=x.J4) (line:=(line:Int)) (argsN C.p g) d ⟨s.J1,max s.J8 (ct C x+(localsOf C.p (g:Int)).length),s.start⟩ o_ (fun hm=>by dsimp only at hm;omega)
 have h2:=Fr (C:=C) Yi hf.1 (chain:=x.J4) (line:=(line:Int)) (d:=d-argsN C.p g) o_ ((localsOf C.p (g:Int)).length-argsN C.p g) (argsN C.p g) (cK C (cr C x line g) x.J4 line (argsN C.p g) d ⟨s.J1,max s.J8 (ct C x+(localsOf C.p (g:Int)).length),s.start⟩) (fun hm=>by
  have:=h1.mono;dsimp only at this
  omega)
 refine⟨?_,?_⟩
 ·unfold fY;exact((h0.trans h1).trans h2).weak (fun h=>h.elim)
 ·have a:=h1.mono;have b:=h2.mono;unfold fY;dsimp only at a;omega
theorem sO (v:Int):∀(js:List Int) (l:List Mp) (i:Nat),bf (patchL l v js) i=bf l i
 | [],_,_=>rfl
 | j::js,l,i=>by rw[patchL,sO v js,dE]
structure LinT (C:Cx) (y:Sc) (base:Int) (s:Gs) (r:Gs×List Int):Prop where
 mono:s.J8<=r.1.J8
 ext:∀i c,bf s.J1 i=some c->bf r.1.J1 i=some c
 ty:r.1.J8<=C.J2->ct C y<=C.J2->∀ds pn,Ty C s.J1 ds pn base->∃es,es≠[]/\(∀v,es.head?=some v->v=base)/\(∀j∈r.2,Cd r.1.J1 (ds++es) j (base+1))/\(y.L6=true->r.2=[])/\∀D,(y.L6=false->D=base+1)->Ty C r.1.J1 (ds++es) (pn++r.2) D
theorem Lb (hC:CxOk C)(hx:ScOk C x ins){lines:Sc->List Nat->Int->Gs->Gs×List Int}{g:Nat}(hg:ca C g){d:Int}(hd:C.J2+(argsN C.p g:Int)<=d)(s:Gs)(hl:∀s',LinT C (cr C x line g) (d-argsN C.p g) s' (lines (cr C x line g) (ins++[g]) (d-argsN C.p g) s')):T C d (d-argsN C.p g+1) True s (lZ C lines x ins line g d s):=by
 obtain⟨h1,N3⟩:=LX (line:=line) hC hx hg hd s;have h2:=JL (C:=C) (x:=x) (line:=line) (d:=d-argsN C.p g) o_ (fY C x line g d s);have h3:=hl (dk C x line (d-argsN C.p g) (fY C x line g d s));have RY:=h1.trans h2;unfold lZ
 generalize lines (cr C x line g) (ins++[g]) (d-argsN C.p g) (dk C x line (d-argsN C.p g) (fY C x line g d s))=r at *
 refine⟨D8 RY.mono h3.mono,fun i c h=>by dsimp only;rw[sO];exact h3.ext i c (RY.ext i c h),fun hm ds pn ht=>?_⟩;obtain⟨es,e1,e2,e3,e4⟩:=RY.ty (D8 h3.mono hm) ds pn ht
 obtain⟨fs,f1,f2,f3,_,f4⟩:=h3.ty hm (by
  have m2:=h2.mono;have m3:=h3.mono;have hr:r.1.J8<=C.J2:=hm;show ct C x+((localsOf C.p (g:Int)).length:Int)<=C.J2
  omega) _ pn e4
 refine⟨es++fs,fun _ h0=>by simp at h0;exact f1 h0.2,fun h0=>by simp at h0;exact absurd h0.2 f1,fun v hv=>?_,?_⟩
 ·cases es with|nil=>rw[t7]at hv;rw[f2 v hv,e2 rfl]|cons z zs=>exact e3 v hv
 ·rw[<-j9];exact(f4 _ (fun _=>rfl)).patchL pn r.2 f3 (fun i hi=>(f0.1 hi).symm)
end
end Go.Proofs.P
