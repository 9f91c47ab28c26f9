import Derived.Test.YtoglejgmjeojoaaGreatGj
namespace Go.Proofs.YtoglejgmjeojoaaGreat
open Go.Proofs.P
open Go.Sim Go.ChangeShapes Go.WideShapes Go.ChangeAt Go.RowKit
set_option maxRecDepth 100000
set_option maxHeartbeats 4000000
theorem V29{p:Prop}(h:p:=by
 have tq:∀{H H':Sim.Id->Option AO} {o:Sim.Id} {t:Tr},cv H (.own o) t->H' o=none->vwC H H' (.own o) (.t t):=fun h1 h2=> .inr (.inr ⟨_,rfl,h1,fun q hq=>by simp only[AC.ids,d6,l4,or_false]at hq;subst hq;exact h2⟩)
 refine⟨.inl rfl,.inl rfl,.inl rfl,.inl rfl,.inl rfl,trivial⟩):p:=h
theorem V22{p:Prop}(h:p:=by
 have tq:∀{H H':Sim.Id->Option AO} {o:Sim.Id} {t:Tr},cv H (.own o) t->H' o=none->vwC H H' (.own o) (.t t):=fun h1 h2=> .inr (.inr ⟨_,rfl,h1,fun q hq=>by simp only[AC.ids,d6,l4,or_false]at hq;subst hq;exact h2⟩)
 refine⟨.inr (.inl rfl),.inr (.inr (.inl ⟨_,_,rfl,rfl,.inl rfl,.inl rfl,.inl rfl,tq rfl rfl,tq rfl rfl,.inl rfl,.inl rfl,trivial⟩)),.inr (.inl rfl),trivial⟩):p:=h
theorem Q7{p:Prop}(h:p:=by exfalso;rename_i g3 g2 g1;first|(rw[e12]at g3;simp at g3;done)|(rw[e14]at g3;simp at g3;done)|(rw[e16]at g3;simp at g3;done)):p:=h
theorem Q8{p:Prop}(h:p:=by exfalso;rename_i g2 g1;first|(rw[e12]at g2;simp at g2;done)|(rw[e14]at g2;simp at g2;done)|(rw[e16]at g2;simp at g2;done)):p:=h
theorem Q9{p:Prop}(h:p:=by exfalso;rename_i g1;first|(rw[e12]at g1;simp at g1;done)|(rw[e14]at g1;simp at g1;done)|(rw[e16]at g1;simp at g1;done)):p:=h
theorem Q11{p:Prop}(h:p:=by exfalso;first|(rw[e12]at h;simp at h;done)|(rw[e14]at h;simp at h;done)|(rw[e16]at h;simp at h;done)):p:=h
theorem Q18{p:Prop}(h:p:=by exfalso;rw[Nm]at h;simp at h;first|done|fail):p:=h
theorem qS (code:List UInt8):Sim.Spec Tryz.prog 3 [tvL 1 (code.map aY)] (rB true):=by
 refine bv hΓ aG Tryz.func3 rfl d_ rfl ?_;repeat' ((conv=>whnf);first|apply Wx|apply W6|apply oi|apply fi|intro h|refine cl ((Cy code)) ?_|exact Y7|refine e_ rfl ?_)
 have hl:code.length<=1048576:=by have:=f9 h;omega
 obtain⟨p,b,first,second,MA,g0⟩:=sk code hl;obtain⟨S⟩:=Lc MA.small MA.prog MA.build;have h6:=(fF MA.prog).1;have QM:=(fF MA.prog).2;have QC:=oC (b:=b) MA.small o_ (first:=first) (second:=second);have Uu:=GO MA;have Yi:=iM p b 0 MA.small;have P3:=iM p b 1 MA.small;have k0:=(mj (b:=b) (image:=0) MA.small).len;have k1:=(mj (b:=b) (image:=1) MA.small).len;have Rw:=nk (aM p b 0) o_;have Xz:=nk (aM p b 1) o_
 have QF:aw 1048576 (.lst 1 ((kh p b).map (cQ 4 LV.tr))):=by
  have r0:=wi (l:=bF (aM p b 0)) (qu (mr MA.small));have r1:=wi (l:=bF (aM p b 1)) (qu (mr MA.small))
  exact fT (by simp[kh]) fun x hx=>by
   simp only[kh,d6,l4,or_false]at hx;rcases hx with rfl|rfl
   ·exact⟨r0,trivial⟩
   ·exact⟨r1,trivial⟩
 have hN:=qA _ QC;have hM:=Jg MA.space Uu;have TQ:=JH (S:=S) MA (Aa MA.prog).1;rw[MA.space]at hN;refine cg (g0) ?_;repeat' ((conv=>whnf);first|(with_reducible apply W1;fail_if_success (with_reducible show Wo _ _ _ _ (Code.seq (Code.region 7 _ _) _) _ _))|(with_reducible first|apply W2|apply W3|apply W4|apply W5|apply W6|apply W7|apply W8|apply W9)|apply aB|apply oi|apply fi|intro h|refine cl Yi ?_|refine cl P3 ?_|refine cl Rw ?_|refine cl Xz ?_|refine cl hN ?_|exact Y7|refine e_ rfl ?_)
 all_goals try exact⟨CW _⟩
 have Zk:∀m:LP,m.tr=[.int .i64 m.K0,.int .i64 m.J5,.int .i64 m.L0,.lst 1 (m.Mf.map aa),.lst 1 (m.L7.map aa),.int .i64 m.L6,.int .i64 m.faG]:=fun _=>rfl
 generalize Vx:Ah (aQ p b first second)=m0 at *
 conv=>whnf
 refine fM ⟨[(5,.r (.c (.ptr (5,0,0) 0))),(6,.r (.c (.t (.lst 1 [[.lst 4 ((bF (aM p b 0)).map LV.tr)],[.lst 4 ((bF (aM p b 1)).map LV.tr)]])))),(7,.r (.c (.ptr (7,0,0) 0))),(9,.r (.c (.own (39,0,0))))],
  [((5,0,0),some (.box [.t (.lst 2 [(ag p b 0).tr,(ag p b 1).tr]),.t (.lst 1 [aa first,aa second]),.t (.lst 1 ((entries p b first second).map aa))])),((7,0,0),some (.box (m0.tr.map .t))),((39,0,0),some (.arr true 1 []))],_⟩ ?_ ?_ rfl ?_
 ·have tq:∀{H H':Sim.Id->Option AO} {o:Sim.Id} {t:Tr},cv H (.own o) t->H' o=none->vwC H H' (.own o) (.t t):=fun h1 h2=> .inr (.inr ⟨_,rfl,h1,fun q hq=>by simp only[AC.ids,d6,l4,or_false]at hq;subst hq;exact h2⟩);refine⟨.inl rfl,.inr (.inl ⟨_,_,rfl,rfl,tq rfl rfl⟩),.inl rfl,.inl rfl,trivial⟩
 ·have tq:∀{H H':Sim.Id->Option AO} {o:Sim.Id} {t:Tr},cv H (.own o) t->H' o=none->vwC H H' (.own o) (.t t):=fun h1 h2=> .inr (.inr ⟨_,rfl,h1,fun q hq=>by simp only[AC.ids,d6,l4,or_false]at hq;subst hq;exact h2⟩);refine⟨.inr (.inr (.inl ⟨_,_,rfl,rfl,tq rfl rfl,tq rfl rfl,tq rfl rfl,trivial⟩)),.inr (.inr (.inl ⟨_,_,rfl,rfl,.inl rfl,.inl rfl,.inl rfl,tq rfl rfl,tq rfl rfl,.inl rfl,.inl rfl,trivial⟩)),.inr (.inl rfl),trivial⟩
 repeat' ((conv=>whnf);first|apply Wx|apply W6|apply oi|apply fi|intro h|exact Y7|refine e_ rfl ?_)
 conv=>whnf
 refine⟨{q:Nat×LP×List Int//q.1<=150/\MOk q.2.1 q.1/\(q.2.1.L6=0->Cur S first second q.2.1 q.2.2)/\q.2.2.length<=q.1},fun q=>⟨[(5,.r (.c (.ptr (5,0,0) 0))),(6,.r (.c (.t (.lst 1 [[.lst 4 ((bF (aM p b 0)).map LV.tr)],[.lst 4 ((bF (aM p b 1)).map LV.tr)]])))),(7,.r (.c (.ptr (7,0,0) 0))),(9,.r (.c (.own (9,0,0)))),(10,tI .i64 (q.1.1:Int))],
  [((5,0,0),some (.box [.t (.lst 2 [(ag p b 0).tr,(ag p b 1).tr]),.t (.lst 1 [aa first,aa second]),.t (.lst 1 ((entries p b first second).map aa))])),((7,0,0),some (.box (q.1.2.1.tr.map .t))),((9,0,0),some (.arr false 1 (q.1.2.2.reverse.map aa)))],[9,7,5]⟩,fun q=>150-q.1.1,⟨(0,m0,[]),g_,hM,fun _=>TQ,s_⟩,?_,?_⟩
 ·exact Z2
 intro⟨⟨k,m,R⟩,q1,q2,q3,q4⟩;dsimp only at q1 q2 q3 q4⊢;have Nm:(R.reverse.map aa).length=R.length:=s_;by_cases XR:k<150/\m.L6=0/\R.length<39
 ·obtain⟨c1,c2,c3⟩:=XR;have Ye:=q3 c2;obtain⟨aac,o,z,hf,hz,O9,Oo⟩:=HT MA q2 o_ c2 Ye;have hU:=CA MA q2.ok Ye;rw[gt o_,q9 c3]at hU;have ZK:=wS m 1200;have S8:=q2.inv;have XV:iK m 1200=⟨m.K0,m.J5,m.L0,(m.Mf.drop m.J5.toNat).take 1200⟩:=by rw[iK,c7 ⟨q2.ok,o_⟩];rfl
  have WU:(iK m 1200).wf:=by have Qf:=S8.sp;have N8:=S8.len;rw[XV];refine⟨S8.w.2.1,by unfold inI;dsimp only;omega,S8.w.2.2,by simp only[l6,t9,N8];unfold maxLen;omega,fun y hy=>S8.w.1 y (z7 (t8 hy))⟩
  have Pg:aF 1048576 (iK m 1200).tr:=by rw[XV];simp only[LZ.tr,aF];exact⟨by simp[aw],by simp[aw],by simp[aw],lE aab,trivial⟩
  have Xr:=wU (aQ p b first second) (kh p b) (iK m 1200) WU QC QF Pg;rw[hU]at Xr;have Sj:=tC MA m.K0;rw[hf]at Sj;have Sj:Sim.Spec Tryz.prog 16 [.agg [.lst 2 [(ag p b 0).tr,(ag p b 1).tr],.lst 1 [aa first,aa second],.lst 1 ((entries p b first second).map aa)],tvI m.K0] (.tup [.agg [.t (.int .i64 o.I9),.t (.int .i64 o.J7)],.c (.t (.int .i64 (z:Int))),.c (.t (.bool true))]):=Sj;have Tf:=oX (aQ p b first second) m QC (q2.small o_) S8.w.2.2
  generalize RF:iE (aQ p b first second) m=m1 at *
  have YF:=O9.inv;repeat' ((conv=>whnf);first|apply Wx|apply W6|apply oi|apply fi|intro h|refine cl ZK ?_|refine cl Xr ?_|exact Y5|refine e_ rfl ?_)
  all_goals try(refine⟨?_⟩;simp;done)
  all_goals try(exfalso;(try(refine absurd h ?_));simp;done)
  all_goals try(exfalso;rw[Nm]at h;rw[c6 _ o_]at h;simp at h;done)
  conv=>whnf
  refine⟨{i:Nat//i<=R.length},fun i=>⟨[(5,.r (.c (.ptr (5,0,0) 0))),(6,.r (.c (.t (.lst 1 [[.lst 4 ((bF (aM p b 0)).map LV.tr)],[.lst 4 ((bF (aM p b 1)).map LV.tr)]])))),(7,.r (.c (.ptr (7,0,0) 0))),(9,.r (.c (.own (9,0,0)))),(10,tI .i64 (k:Int)),(11,.r (.c (.own (11,0,0)))),(13,tI .i64 (i.1:Int))],
   [((5,0,0),some (.box [.t (.lst 2 [(ag p b 0).tr,(ag p b 1).tr]),.t (.lst 1 [aa first,aa second]),.t (.lst 1 ((entries p b first second).map aa))])),((7,0,0),some (.box (m.tr.map .t))),((9,0,0),some (.arr false 1 (R.reverse.map aa))),((11,0,0),some (.arr true 1 ((m.K0::R).map aa)))],[11,9,7,5]⟩,fun i=>R.length-i.1,⟨0,o_⟩,?_,?_⟩
  ·exact Z2
  intro⟨i,hi⟩;dsimp only;have Oj:((m.K0::R).map aa).length=R.length+1:=s_;by_cases My:i<R.length
  ·obtain⟨w,Nk,NS⟩:=KJ (pc:=m.K0) My;have OH:((m.K0::R).map aa)[R.length-i]?=some (aa w):=ab Nk;have WY:(R.reverse.map aa)[i]?=some (aa w):=ab NS
   have OK:IntKind.i64.wrap (IntKind.i64.wrap ((((m.K0::R).map aa).length:Int)-1)-(i:Int))=((R.length-i:Nat):Int):=by rw[Oj,c6 (((R.length+1:Nat):Int)-1) o_,c6 _ o_];omega
   have PN:R.length-i<((m.K0::R).map aa).length:=o_;have N7:i<(R.reverse.map aa).length:=o_
   generalize hLL:(m.K0::R).map aa=LL at *
   generalize hLR:R.reverse.map aa=LR at *
   repeat' ((conv=>whnf);first|apply Wx|apply W6|apply oi|apply fi|intro h|refine⟨(R.length-i),OK,PN,?_⟩|refine⟨i,rfl,N7,?_⟩|refine⟨_,OH,?_⟩|refine⟨_,WY,?_⟩|exact Y7|refine e_ rfl ?_)
   all_goals try exact Q4
   all_goals try(exfalso;rw[Nm]at h;simp at h;omega)
   conv=>whnf
   refine⟨⟨i+1,o_⟩,?_,KD⟩;dsimp only;try rw[hLL]
   try rw[hLR]
   exact Z6
  ·obtain rfl:i=R.length:=o_;have TB:IntKind.i64.wrap (m.K0+(z:Int))=m.K0+z:=c6 _ o_;by_cases k12:o.I9=12
   ·rw[show pY m.K0 o z R=(m.K0+z)::R by unfold pY;rw[c7 k12]]at Oo;repeat' ((conv=>whnf);first|apply Wx|apply W6|apply oi|apply fi|intro h|refine cl Sj ?_|exact Y7|refine e_ rfl ?_)
    all_goals try exact Q18
    all_goals try(exfalso;simp[k12]at h;done)
    all_goals try exact KX
    all_goals try exact Q1
    all_goals try(exfalso;rename_i g1;simp[k12]at g1;done)
    all_goals try(exfalso;rename_i g2 g1;simp[k12]at g2;done)
    all_goals try(exfalso;rename_i g3 g2 g1;simp[k12]at g3;done)
    conv=>whnf
    refine .inl (ci Tf (ai (ai rfl (ai rfl (ai rfl trivial))) (ai (ai rfl (ai rfl (ai rfl (ai rfl (ai rfl (ai rfl (ai rfl trivial))))))) trivial)) ?_);conv=>whnf
    refine fM ⟨[(5,.r (.c (.ptr (5,0,0) 0))),(6,.r (.c (.t (.lst 1 [[.lst 4 ((bF (aM p b 0)).map LV.tr)],[.lst 4 ((bF (aM p b 1)).map LV.tr)]])))),(7,.r (.c (.ptr (7,0,0) 0))),(9,.r (.c (.own (117,0,0)))),(10,tI .i64 (k:Int))],
     [((5,0,0),some (.box [.t (.lst 2 [(ag p b 0).tr,(ag p b 1).tr]),.t (.lst 1 [aa first,aa second]),.t (.lst 1 ((entries p b first second).map aa))])),((7,0,0),some (.box (m1.tr.map .t))),((117,0,0),some (.arr false 1 (R.reverse.map aa++[[.int .i64 (IntKind.i64.wrap (m.K0+(z:Int)))]])))],_⟩ ?_ ?_ rfl ?_
    ·exact V29
    ·exact V22
    repeat' ((conv=>whnf);first|apply Wx|apply W6|apply oi|apply fi|intro h|exact Y7|refine e_ rfl ?_)
    conv=>whnf
    refine⟨⟨(k+1,m1,(m.K0+z)::R),g_,O9,Oo,by simp;omega⟩,?_,KD⟩;dsimp only;repeat' ((conv=>whnf);first|apply Wx|apply W6|apply oi|apply fi|intro h|exact Y8|refine e_ rfl ?_)
    all_goals exact⟨by rw[TB];simp[aa]⟩
   ·have e12:(o.I9==12)=false:=B4.2 k12;by_cases k14:o.I9=14\/o.I9=16
    ·rw[show pY m.K0 o z R=R.tail by unfold pY;rw[b8 k12,c7 k14]]at Oo
     cases R with
     | nil=>
      rcases k14 with k14|k14
      all_goals(
       have e14:=congrArg (fun n:Int=>n==14) k14;have e16:=congrArg (fun n:Int=>n==16) k14;repeat' ((conv=>whnf);first|apply Wx|apply W6|apply oi|apply fi|intro h|refine cl Sj ?_|exact Y7|refine e_ rfl ?_)
       all_goals try exact Q18
       all_goals try exact Q11
       all_goals try exact KX
       all_goals try exact Q1
       all_goals try exact Q4
       all_goals try exact Q9
       all_goals try exact Q8
       all_goals try exact Q7
       conv=>whnf
       refine .inl (ci Tf (ai (ai rfl (ai rfl (ai rfl trivial))) (ai (ai rfl (ai rfl (ai rfl (ai rfl (ai rfl (ai rfl (ai rfl trivial))))))) trivial)) ?_);conv=>whnf
       refine fM ⟨[(5,.r (.c (.ptr (5,0,0) 0))),(6,.r (.c (.t (.lst 1 [[.lst 4 ((bF (aM p b 0)).map LV.tr)],[.lst 4 ((bF (aM p b 1)).map LV.tr)]])))),(7,.r (.c (.ptr (7,0,0) 0))),(9,.r (.c (.own (9,0,0)))),(10,tI .i64 (k:Int))],
        [((5,0,0),some (.box [.t (.lst 2 [(ag p b 0).tr,(ag p b 1).tr]),.t (.lst 1 [aa first,aa second]),.t (.lst 1 ((entries p b first second).map aa))])),((7,0,0),some (.box (m1.tr.map .t))),((9,0,0),some (.arr false 1 (([]:List Int).reverse.map aa)))],_⟩ ?_ ?_ rfl ?_
       ·exact V29
       ·exact V22
       repeat' ((conv=>whnf);first|apply Wx|apply W6|apply oi|apply fi|intro h|exact Y7|refine e_ rfl ?_)
       conv=>whnf
       refine⟨⟨(k+1,m1,[]),g_,O9,Oo,by simp at q4⊢<;> omega⟩,?_,KD⟩;dsimp only;repeat' ((conv=>whnf);first|apply Wx|apply W6|apply oi|apply fi|intro h|exact Y8|refine e_ rfl ?_)
       skip
       )
     | cons a R=>
      have c38:R.length+1<39:=by simpa using c3
      have SW:IntKind.i64.wrap ((((a::R).reverse.map aa).length:Int)-1)=((R.length:Nat):Int):=by rw[Nm,d5,c6 (((R.length+1:Nat):Int)-1) o_];omega
      have MY:R.length<=((a::R).reverse.map aa).length:=(by rw[Nm];simp);rcases k14 with k14|k14
      all_goals(
       have e14:=congrArg (fun n:Int=>n==14) k14;have e16:=congrArg (fun n:Int=>n==16) k14;repeat' ((conv=>whnf);first|apply Wx|apply W6|apply oi|apply fi|intro h|refine cl Sj ?_|refine⟨R.length,SW,MY,?_⟩|exact Y7|refine e_ rfl ?_)
       all_goals try exact Q18
       all_goals try exact Q11
       all_goals try exact KX
       all_goals try exact Q1
       all_goals try exact Q4
       all_goals try exact Q9
       all_goals try exact Q8
       all_goals try exact Q7
       conv=>whnf
       refine .inl (ci Tf (ai (ai rfl (ai rfl (ai rfl trivial))) (ai (ai rfl (ai rfl (ai rfl (ai rfl (ai rfl (ai rfl (ai rfl trivial))))))) trivial)) ?_);conv=>whnf
       refine fM ⟨[(5,.r (.c (.ptr (5,0,0) 0))),(6,.r (.c (.t (.lst 1 [[.lst 4 ((bF (aM p b 0)).map LV.tr)],[.lst 4 ((bF (aM p b 1)).map LV.tr)]])))),(7,.r (.c (.ptr (7,0,0) 0))),(9,.r (.c (.sub (9,0,0) R.length))),(10,tI .i64 (k:Int))],
        [((5,0,0),some (.box [.t (.lst 2 [(ag p b 0).tr,(ag p b 1).tr]),.t (.lst 1 [aa first,aa second]),.t (.lst 1 ((entries p b first second).map aa))])),((7,0,0),some (.box (m1.tr.map .t))),((9,0,0),some (.arr false 1 ((a::R).reverse.map aa)))],_⟩ ?_ ?_ rfl ?_
       ·exact V29
       ·exact V22
       repeat' ((conv=>whnf);first|apply Wx|apply W6|apply oi|apply fi|intro h|exact Y7|refine e_ rfl ?_)
       conv=>whnf
       refine⟨⟨(k+1,m1,R),g_,O9,Oo,by simp at q4⊢<;> omega⟩,?_,KD⟩;dsimp only;repeat' ((conv=>whnf);first|apply Wx|apply W6|apply oi|apply fi|intro h|exact Y8|refine e_ rfl ?_)
       all_goals exact⟨s_⟩
       )
    ·have e14:(o.I9==14)=false:=B4.2 (fun hh=>k14 (.inl hh));have e16:(o.I9==16)=false:=B4.2 (fun hh=>k14 (.inr hh));rw[show pY m.K0 o z R=R by unfold pY;rw[b8 k12,b8 k14]]at Oo;repeat' ((conv=>whnf);first|apply Wx|apply W6|apply oi|apply fi|intro h|refine cl Sj ?_|exact Y7|refine e_ rfl ?_)
     all_goals try exact Q18
     all_goals try exact Q11
     all_goals try exact KX
     all_goals try exact Q1
     all_goals try exact Q4
     all_goals try exact Q9
     all_goals try exact Q8
     all_goals try exact Q7
     conv=>whnf
     refine .inl (ci Tf (ai (ai rfl (ai rfl (ai rfl trivial))) (ai (ai rfl (ai rfl (ai rfl (ai rfl (ai rfl (ai rfl (ai rfl trivial))))))) trivial)) ?_);conv=>whnf
     refine fM ⟨[(5,.r (.c (.ptr (5,0,0) 0))),(6,.r (.c (.t (.lst 1 [[.lst 4 ((bF (aM p b 0)).map LV.tr)],[.lst 4 ((bF (aM p b 1)).map LV.tr)]])))),(7,.r (.c (.ptr (7,0,0) 0))),(9,.r (.c (.own (9,0,0)))),(10,tI .i64 (k:Int))],
      [((5,0,0),some (.box [.t (.lst 2 [(ag p b 0).tr,(ag p b 1).tr]),.t (.lst 1 [aa first,aa second]),.t (.lst 1 ((entries p b first second).map aa))])),((7,0,0),some (.box (m1.tr.map .t))),((9,0,0),some (.arr false 1 (R.reverse.map aa)))],_⟩ ?_ ?_ rfl ?_
     ·exact V29
     ·exact V22
     repeat' ((conv=>whnf);first|apply Wx|apply W6|apply oi|apply fi|intro h|exact Y7|refine e_ rfl ?_)
     conv=>whnf
     refine⟨⟨(k+1,m1,R),g_,O9,Oo,by simp at q4⊢<;> omega⟩,?_,KD⟩;dsimp only;repeat' ((conv=>whnf);first|apply Wx|apply W6|apply oi|apply fi|intro h|exact Y8|refine e_ rfl ?_)
     skip
 ·clear QF hN Rw Xz Yi P3 g0 Zk Uu QC TQ Vx;repeat' ((conv=>whnf);first|apply Wx|apply W6|apply oi|apply fi|intro h|exact Y5|refine e_ rfl ?_)
  all_goals(exfalso;rename_i g1 g2;rw[Nm,c6 _ o_]at h;simp at g1 g2 h;exact XR ⟨o_,g2,o_⟩)
theorem fnUnwound_lifted (os:Os)(started:os.Started)(H:Type)(enc:TypeId×Value->H):
  ReturnsInHanded {} Tryz.checked os 3 .any (Rows.fnUnwoundSpec.pre6 enc Tryz.prog Tryz.f3 Rows.fnUnwoundRow.domain false) (Rows.fnUnwoundSpec.post enc Tryz.prog Tryz.f3 false true false false):=by
 refine returnsInHanded_of_change (C:=Tryz.checked) own started aau Tryz.func3
  (ChangeSpec.witness6 (enc:=enc) (C:=Tryz.checked) false ⟨#[],#[.slice none 0 0],[]⟩ 8 aau aau aau aau) ?_
 intro W base args ds gs before Ny hW _ _;have VQ:=hW;obtain⟨p,q,hA,_,_,_,_⟩:=VQ;have Mv:=sX hA;obtain⟨xs,hx,Pl⟩:=vY (n:=8) hΓ aau (fun j t v h1 h2=>Ny j t v aai aaf) hA;rw[Tryz.params3]at Pl Mv;obtain⟨_,xs0,rfl,QL,Ww⟩:=zw Pl;obtain⟨_,rfl,rows,⟨⟩,hl,hr⟩:=QL;obtain rfl:=Bu Ww;obtain⟨d0,rfl⟩:=LE Mv;obtain⟨bs,rfl⟩:=EW (rows:=rows) (fun r Pu=>hr r Pu);exact FX IJ rfl Tryz.underlying4 rfl aau rfl hx (qS bs) hW
theorem fnUnwound_holds:Rows.FnUnwoundSaid:=
 OpenClaim.holds_of_wide 3 Tryz.f3 rfl rfl rfl rfl rfl rfl rfl ⟨rfl,rfl,rfl,rfl,rfl⟩ rfl rfl rfl rfl rfl aau Tryz.func3 aau
  (f0 aau) (by unfold Func.isWrapper;first|(rw[c7 (by decide+kernel)];kernel_rfl)|(rw[b8 (by decide+kernel)];exact⟨rfl,rfl⟩))
  (fun os started H enc _=>fnUnwound_lifted os started H enc)
end Go.Proofs.YtoglejgmjeojoaaGreat
