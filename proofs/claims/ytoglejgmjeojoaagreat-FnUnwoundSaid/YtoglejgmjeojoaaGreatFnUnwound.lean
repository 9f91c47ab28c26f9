/- The law FnUnwound answers true for every input and leaves its argument as it was. Conditions: none beyond the given statement. -/
import Derived.Test.YtoglejgmjeojoaaGreatGj
namespace Go.Proofs.YtoglejgmjeojoaaGreat
open Go.Proofs.P
open Go.Sim Go.ChangeShapes Go.WideShapes Go.ChangeAt Go.RowKit
set_option maxRecDepth 100000
set_option maxHeartbeats 4000000
theorem V29{p:Prop}(h:p:=by
 have tq:∀{H H':Sim.Id->Option AO} {o:Sim.Id} {t:Tr},cu H (.own o) t->H' o=none->vwC H H' (.own o) (.t t):=fun h1 h2=> .inr (.inr ⟨_,rfl,h1,fun q hq=>by simp only[AC.ids,d6,l4,or_false]at hq;subst hq;exact h2⟩)
 refine⟨.inl rfl,.inl rfl,.inl rfl,.inl rfl,.inl rfl,trivial⟩):p:=h
theorem V22{p:Prop}(h:p:=by
 have tq:∀{H H':Sim.Id->Option AO} {o:Sim.Id} {t:Tr},cu H (.own o) t->H' o=none->vwC H H' (.own o) (.t t):=fun h1 h2=> .inr (.inr ⟨_,rfl,h1,fun q hq=>by simp only[AC.ids,d6,l4,or_false]at hq;subst hq;exact h2⟩)
 refine⟨.inr (.inl rfl),.inr (.inr (.inl ⟨_,_,rfl,rfl,.inl rfl,.inl rfl,.inl rfl,tq rfl rfl,tq rfl rfl,.inl rfl,.inl rfl,trivial⟩)),.inr (.inl rfl),trivial⟩):p:=h
theorem Q7{p:Prop}(h:p:=by exfalso;rename_i g3 g2 g1;first|(rw[e12]at g3;simp at g3;done)|(rw[e14]at g3;simp at g3;done)|(rw[e16]at g3;simp at g3;first|done|fail)):p:=h
theorem Q8{p:Prop}(h:p:=by exfalso;rename_i g2 g1;first|(rw[e12]at g2;simp at g2;done)|(rw[e14]at g2;simp at g2;done)|(rw[e16]at g2;simp at g2;first|done|fail)):p:=h
theorem Q9{p:Prop}(h:p:=by exfalso;rename_i g1;first|(rw[e12]at g1;simp at g1;done)|(rw[e14]at g1;simp at g1;done)|(rw[e16]at g1;simp at g1;first|done|fail)):p:=h
theorem Q10{p:Prop}(h:p:=by exfalso;first|(rw[e12]at h;simp at h;done)|(rw[e14]at h;simp at h;done)|(rw[e16]at h;simp at h;first|done|fail)):p:=h
theorem Q18{p:Prop}(h:p:=by exfalso;rw[Nn]at h;simp at h;first|done|fail):p:=h
theorem qV (code:List UInt8):Sim.Spec Tryz.prog 3 [tvL 1 (code.map aY)] (rB true):=by
 refine bv hΓ aG Tryz.func3 rfl d_ rfl ?_;repeat' ((conv=>whnf);first|apply Wx|apply W6|apply oi|apply fi|intro h|refine cl ((Dj code)) ?_|exact Y7|refine e_ rfl ?_)
 have hl:code.length<=1048576:=by have:=f9 h;omega
 obtain⟨p,b,first,second,MC,g0⟩:=ru code hl;obtain⟨S⟩:=LC MC.small MC.prog MC.build;have h6:=(fB MC.prog).1;have QJ:=(fB MC.prog).2;have QN:=pf (b:=b) MC.small o_ (first:=first) (second:=second);have T8:=Gt MC;have XU:=iI p b 0 MC.small;have Qb:=iI p b 1 MC.small;have k0:=(mj (b:=b) (image:=0) MC.small).len;have k1:=(mj (b:=b) (image:=1) MC.small).len;have RK:=ni (aM p b 0) o_;have Yc:=ni (aM p b 1) o_
 have QO:aw 1048576 (.lst 1 ((kj p b).map (cQ 4 LW.tr))):=by
  have r0:=wd (l:=bF (aM p b 0)) (pQ (mG MC.small));have r1:=wd (l:=bF (aM p b 1)) (pQ (mG MC.small))
  exact fT (by simp[kj]) fun x hx=>by
   simp only[kj,d6,l4,or_false]at hx;rcases hx with rfl|rfl
   ·exact⟨r0,trivial⟩
   ·exact⟨r1,trivial⟩
 have hN:=qN _ QN;have hM:=Ju MC.space T8;have Uf:=Je (S:=S) MC (Aj MC.prog).1;rw[MC.space]at hN;refine cg (g0) ?_;repeat' ((conv=>whnf);first|(with_reducible apply W1;fail_if_success (with_reducible show Wo _ _ _ _ (Code.seq (Code.region 7 _ _) _) _ _))|(with_reducible first|apply W2|apply W3|apply W4|apply W5|apply W6|apply W7|apply W8|apply W9)|apply aB|apply oi|apply fi|intro h|refine cl XU ?_|refine cl Qb ?_|refine cl RK ?_|refine cl Yc ?_|refine cl hN ?_|exact Y7|refine e_ rfl ?_)
 all_goals try exact⟨CO _⟩
 have ZR:∀m:LQ,m.tr=[.int .i64 m.K0,.int .i64 m.J5,.int .i64 m.L0,.lst 1 (m.Mg.map aa),.lst 1 (m.L7.map aa),.int .i64 m.L6,.int .i64 m.faG]:=fun _=>rfl
 generalize WA:Al (aQ p b first second)=m0 at *
 conv=>whnf
 refine fO ⟨[(5,.r (.c (.ptr (5,0,0) 0))),(6,.r (.c (.t (.lst 1 [[.lst 4 ((bF (aM p b 0)).map LW.tr)],[.lst 4 ((bF (aM p b 1)).map LW.tr)]])))),(7,.r (.c (.ptr (7,0,0) 0))),(9,.r (.c (.own (39,0,0))))],
  [((5,0,0),some (.box [.t (.lst 2 [(ag p b 0).tr,(ag p b 1).tr]),.t (.lst 1 [aa first,aa second]),.t (.lst 1 ((entries p b first second).map aa))])),((7,0,0),some (.box (m0.tr.map .t))),((39,0,0),some (.arr true 1 []))],_⟩ ?_ ?_ rfl ?_
 ·have tq:∀{H H':Sim.Id->Option AO} {o:Sim.Id} {t:Tr},cu H (.own o) t->H' o=none->vwC H H' (.own o) (.t t):=fun h1 h2=> .inr (.inr ⟨_,rfl,h1,fun q hq=>by simp only[AC.ids,d6,l4,or_false]at hq;subst hq;exact h2⟩);refine⟨.inl rfl,.inr (.inl ⟨_,_,rfl,rfl,tq rfl rfl⟩),.inl rfl,.inl rfl,trivial⟩
 ·have tq:∀{H H':Sim.Id->Option AO} {o:Sim.Id} {t:Tr},cu H (.own o) t->H' o=none->vwC H H' (.own o) (.t t):=fun h1 h2=> .inr (.inr ⟨_,rfl,h1,fun q hq=>by simp only[AC.ids,d6,l4,or_false]at hq;subst hq;exact h2⟩);refine⟨.inr (.inr (.inl ⟨_,_,rfl,rfl,tq rfl rfl,tq rfl rfl,tq rfl rfl,trivial⟩)),.inr (.inr (.inl ⟨_,_,rfl,rfl,.inl rfl,.inl rfl,.inl rfl,tq rfl rfl,tq rfl rfl,.inl rfl,.inl rfl,trivial⟩)),.inr (.inl rfl),trivial⟩
 repeat' ((conv=>whnf);first|apply Wx|apply W6|apply oi|apply fi|intro h|exact Y7|refine e_ rfl ?_)
 conv=>whnf
 refine⟨{q:Nat×LQ×List Int//q.1<=150/\MOk q.2.1 q.1/\(q.2.1.L6=0->Cur S first second q.2.1 q.2.2)/\q.2.2.length<=q.1},fun q=>⟨[(5,.r (.c (.ptr (5,0,0) 0))),(6,.r (.c (.t (.lst 1 [[.lst 4 ((bF (aM p b 0)).map LW.tr)],[.lst 4 ((bF (aM p b 1)).map LW.tr)]])))),(7,.r (.c (.ptr (7,0,0) 0))),(9,.r (.c (.own (9,0,0)))),(10,tI .i64 (q.1.1:Int))],
  [((5,0,0),some (.box [.t (.lst 2 [(ag p b 0).tr,(ag p b 1).tr]),.t (.lst 1 [aa first,aa second]),.t (.lst 1 ((entries p b first second).map aa))])),((7,0,0),some (.box (q.1.2.1.tr.map .t))),((9,0,0),some (.arr false 1 (q.1.2.2.reverse.map aa)))],[9,7,5]⟩,fun q=>150-q.1.1,⟨(0,m0,[]),g_,hM,fun _=>Uf,s_⟩,?_,?_⟩
 ·exact Z2
 intro⟨⟨k,m,R⟩,q1,q2,q3,q4⟩;dsimp only at q1 q2 q3 q4⊢;have Nn:(R.reverse.map aa).length=R.length:=s_;by_cases XP:k<150/\m.L6=0/\R.length<39
 ·obtain⟨c1,c2,c3⟩:=XP;have XZ:=q3 c2;obtain⟨Yn,o,z,hf,hz,O6,Oq⟩:=Gy MC q2 o_ c2 XZ;have hU:=De MC q2.ok XZ;rw[gt o_,q9 c3]at hU;have Zb:=xb m 1200;have Tk:=q2.inv;have X7:iO m 1200=⟨m.K0,m.J5,m.L0,(m.Mg.drop m.J5.toNat).take 1200⟩:=by rw[iO,c7 ⟨q2.ok,o_⟩];rfl
  have VX:(iO m 1200).wf:=by have PZ:=Tk.sp;have N8:=Tk.len;rw[X7];refine⟨Tk.w.2.1,by unfold inI;dsimp only;omega,Tk.w.2.2,by simp only[l6,t9,N8];unfold maxLen;omega,fun y hy=>Tk.w.1 y (z7 (t8 hy))⟩
  have OY:aF 1048576 (iO m 1200).tr:=by rw[X7];simp only[Ma.tr,aF];exact⟨by simp[aw],by simp[aw],by simp[aw],lm aab,trivial⟩
  have Xx:=wV (aQ p b first second) (kj p b) (iO m 1200) VX QN QO OY;rw[hU]at Xx;have Sn:=tH MC m.K0;rw[hf]at Sn;have Sn:Sim.Spec Tryz.prog 16 [.agg [.lst 2 [(ag p b 0).tr,(ag p b 1).tr],.lst 1 [aa first,aa second],.lst 1 ((entries p b first second).map aa)],tvI m.K0] (.tup [.agg [.t (.int .i64 o.I9),.t (.int .i64 o.J7)],.c (.t (.int .i64 (z:Int))),.c (.t (.bool true))]):=Sn;have S1:=pw (aQ p b first second) m QN (q2.small o_) Tk.w.2.2
  generalize RW:iG (aQ p b first second) m=m1 at *
  have Zx:=O6.inv;repeat' ((conv=>whnf);first|apply Wx|apply W6|apply oi|apply fi|intro h|refine cl Zb ?_|refine cl Xx ?_|exact Y5|refine e_ rfl ?_)
  all_goals try(refine⟨?_⟩;simp;done)
  all_goals try(exfalso;(try(refine absurd h ?_));simp;done)
  all_goals try(exfalso;rw[Nn]at h;rw[c6 _ o_]at h;simp at h;done)
  conv=>whnf
  refine⟨{i:Nat//i<=R.length},fun i=>⟨[(5,.r (.c (.ptr (5,0,0) 0))),(6,.r (.c (.t (.lst 1 [[.lst 4 ((bF (aM p b 0)).map LW.tr)],[.lst 4 ((bF (aM p b 1)).map LW.tr)]])))),(7,.r (.c (.ptr (7,0,0) 0))),(9,.r (.c (.own (9,0,0)))),(10,tI .i64 (k:Int)),(11,.r (.c (.own (11,0,0)))),(13,tI .i64 (i.1:Int))],
   [((5,0,0),some (.box [.t (.lst 2 [(ag p b 0).tr,(ag p b 1).tr]),.t (.lst 1 [aa first,aa second]),.t (.lst 1 ((entries p b first second).map aa))])),((7,0,0),some (.box (m.tr.map .t))),((9,0,0),some (.arr false 1 (R.reverse.map aa))),((11,0,0),some (.arr true 1 ((m.K0::R).map aa)))],[11,9,7,5]⟩,fun i=>R.length-i.1,⟨0,o_⟩,?_,?_⟩
  ·exact Z2
  intro⟨i,hi⟩;dsimp only;have Oh:((m.K0::R).map aa).length=R.length+1:=s_;by_cases Mz:i<R.length
  ·obtain⟨w,Nl,NT⟩:=KS (pc:=m.K0) Mz;have OA:((m.K0::R).map aa)[R.length-i]?=some (aa w):=ab Nl;have VQ:(R.reverse.map aa)[i]?=some (aa w):=ab NT
   have OU:IntKind.i64.wrap (IntKind.i64.wrap ((((m.K0::R).map aa).length:Int)-1)-(i:Int))=((R.length-i:Nat):Int):=by rw[Oh,c6 (((R.length+1:Nat):Int)-1) o_,c6 _ o_];omega
   have PP:R.length-i<((m.K0::R).map aa).length:=o_;have Oa:i<(R.reverse.map aa).length:=o_
   generalize hLL:(m.K0::R).map aa=LL at *
   generalize Yr:R.reverse.map aa=LR at *
   repeat' ((conv=>whnf);first|apply Wx|apply W6|apply oi|apply fi|intro h|refine⟨(R.length-i),OU,PP,?_⟩|refine⟨i,rfl,Oa,?_⟩|refine⟨_,OA,?_⟩|refine⟨_,VQ,?_⟩|exact Y7|refine e_ rfl ?_)
   all_goals try exact Q4
   all_goals try(exfalso;rw[Nn]at h;simp at h;omega)
   conv=>whnf
   refine⟨⟨i+1,o_⟩,?_,KD⟩;dsimp only;try rw[hLL]
   try rw[Yr]
   exact Z6
  ·obtain rfl:i=R.length:=o_;have Ul:IntKind.i64.wrap (m.K0+(z:Int))=m.K0+z:=c6 _ o_;by_cases k12:o.I9=12
   ·rw[show pH m.K0 o z R=(m.K0+z)::R by unfold pH;rw[c7 k12]]at Oq;repeat' ((conv=>whnf);first|apply Wx|apply W6|apply oi|apply fi|intro h|refine cl Sn ?_|exact Y7|refine e_ rfl ?_)
    all_goals try exact Q18
    all_goals try(exfalso;simp[k12]at h;done)
    all_goals try exact KX
    all_goals try exact Q1
    all_goals try(exfalso;rename_i g1;simp[k12]at g1;done)
    all_goals try(exfalso;rename_i g2 g1;simp[k12]at g2;done)
    all_goals try(exfalso;rename_i g3 g2 g1;simp[k12]at g3;done)
    conv=>whnf
    refine .inl (ci S1 (ai (ai rfl (ai rfl (ai rfl trivial))) (ai (ai rfl (ai rfl (ai rfl (ai rfl (ai rfl (ai rfl (ai rfl trivial))))))) trivial)) ?_);conv=>whnf
    refine fO ⟨[(5,.r (.c (.ptr (5,0,0) 0))),(6,.r (.c (.t (.lst 1 [[.lst 4 ((bF (aM p b 0)).map LW.tr)],[.lst 4 ((bF (aM p b 1)).map LW.tr)]])))),(7,.r (.c (.ptr (7,0,0) 0))),(9,.r (.c (.own (117,0,0)))),(10,tI .i64 (k:Int))],
     [((5,0,0),some (.box [.t (.lst 2 [(ag p b 0).tr,(ag p b 1).tr]),.t (.lst 1 [aa first,aa second]),.t (.lst 1 ((entries p b first second).map aa))])),((7,0,0),some (.box (m1.tr.map .t))),((117,0,0),some (.arr false 1 (R.reverse.map aa++[[.int .i64 (IntKind.i64.wrap (m.K0+(z:Int)))]])))],_⟩ ?_ ?_ rfl ?_
    ·exact V29
    ·exact V22
    repeat' ((conv=>whnf);first|apply Wx|apply W6|apply oi|apply fi|intro h|exact Y7|refine e_ rfl ?_)
    conv=>whnf
    refine⟨⟨(k+1,m1,(m.K0+z)::R),g_,O6,Oq,by simp;omega⟩,?_,KD⟩;dsimp only;repeat' ((conv=>whnf);first|apply Wx|apply W6|apply oi|apply fi|intro h|exact Y8|refine e_ rfl ?_)
    all_goals exact⟨by rw[Ul];simp[aa]⟩
   ·have e12:(o.I9==12)=false:=B4.2 k12;by_cases k14:o.I9=14\/o.I9=16
    ·rw[show pH m.K0 o z R=R.tail by unfold pH;rw[b8 k12,c7 k14]]at Oq
     cases R with
     | nil=>
      rcases k14 with k14|k14
      all_goals(
       have e14:=congrArg (fun n:Int=>n==14) k14;have e16:=congrArg (fun n:Int=>n==16) k14;repeat' ((conv=>whnf);first|apply Wx|apply W6|apply oi|apply fi|intro h|refine cl Sn ?_|exact Y7|refine e_ rfl ?_)
       all_goals try exact Q18
       all_goals try exact Q10
       all_goals try exact KX
       all_goals try exact Q1
       all_goals try exact Q4
       all_goals try exact Q9
       all_goals try exact Q8
       all_goals try exact Q7
       conv=>whnf
       refine .inl (ci S1 (ai (ai rfl (ai rfl (ai rfl trivial))) (ai (ai rfl (ai rfl (ai rfl (ai rfl (ai rfl (ai rfl (ai rfl trivial))))))) trivial)) ?_);conv=>whnf
       refine fO ⟨[(5,.r (.c (.ptr (5,0,0) 0))),(6,.r (.c (.t (.lst 1 [[.lst 4 ((bF (aM p b 0)).map LW.tr)],[.lst 4 ((bF (aM p b 1)).map LW.tr)]])))),(7,.r (.c (.ptr (7,0,0) 0))),(9,.r (.c (.own (9,0,0)))),(10,tI .i64 (k:Int))],
        [((5,0,0),some (.box [.t (.lst 2 [(ag p b 0).tr,(ag p b 1).tr]),.t (.lst 1 [aa first,aa second]),.t (.lst 1 ((entries p b first second).map aa))])),((7,0,0),some (.box (m1.tr.map .t))),((9,0,0),some (.arr false 1 (([]:List Int).reverse.map aa)))],_⟩ ?_ ?_ rfl ?_
       ·exact V29
       ·exact V22
       repeat' ((conv=>whnf);first|apply Wx|apply W6|apply oi|apply fi|intro h|exact Y7|refine e_ rfl ?_)
       conv=>whnf
       refine⟨⟨(k+1,m1,[]),g_,O6,Oq,by simp at q4⊢<;> omega⟩,?_,KD⟩;dsimp only;repeat' ((conv=>whnf);first|apply Wx|apply W6|apply oi|apply fi|intro h|exact Y8|refine e_ rfl ?_)
       skip
       )
     | cons a R=>
      have c38:R.length+1<39:=by simpa using c3
      have SW:IntKind.i64.wrap ((((a::R).reverse.map aa).length:Int)-1)=((R.length:Nat):Int):=by rw[Nn,d5,c6 (((R.length+1:Nat):Int)-1) o_];omega
      have MZ:R.length<=((a::R).reverse.map aa).length:=(by rw[Nn];simp);rcases k14 with k14|k14
      all_goals(
       have e14:=congrArg (fun n:Int=>n==14) k14;have e16:=congrArg (fun n:Int=>n==16) k14;repeat' ((conv=>whnf);first|apply Wx|apply W6|apply oi|apply fi|intro h|refine cl Sn ?_|refine⟨R.length,SW,MZ,?_⟩|exact Y7|refine e_ rfl ?_)
       all_goals try exact Q18
       all_goals try exact Q10
       all_goals try exact KX
       all_goals try exact Q1
       all_goals try exact Q4
       all_goals try exact Q9
       all_goals try exact Q8
       all_goals try exact Q7
       conv=>whnf
       refine .inl (ci S1 (ai (ai rfl (ai rfl (ai rfl trivial))) (ai (ai rfl (ai rfl (ai rfl (ai rfl (ai rfl (ai rfl (ai rfl trivial))))))) trivial)) ?_);conv=>whnf
       refine fO ⟨[(5,.r (.c (.ptr (5,0,0) 0))),(6,.r (.c (.t (.lst 1 [[.lst 4 ((bF (aM p b 0)).map LW.tr)],[.lst 4 ((bF (aM p b 1)).map LW.tr)]])))),(7,.r (.c (.ptr (7,0,0) 0))),(9,.r (.c (.sub (9,0,0) R.length))),(10,tI .i64 (k:Int))],
        [((5,0,0),some (.box [.t (.lst 2 [(ag p b 0).tr,(ag p b 1).tr]),.t (.lst 1 [aa first,aa second]),.t (.lst 1 ((entries p b first second).map aa))])),((7,0,0),some (.box (m1.tr.map .t))),((9,0,0),some (.arr false 1 ((a::R).reverse.map aa)))],_⟩ ?_ ?_ rfl ?_
       ·exact V29
       ·exact V22
       repeat' ((conv=>whnf);first|apply Wx|apply W6|apply oi|apply fi|intro h|exact Y7|refine e_ rfl ?_)
       conv=>whnf
       refine⟨⟨(k+1,m1,R),g_,O6,Oq,by simp at q4⊢<;> omega⟩,?_,KD⟩;dsimp only;repeat' ((conv=>whnf);first|apply Wx|apply W6|apply oi|apply fi|intro h|exact Y8|refine e_ rfl ?_)
       all_goals exact⟨s_⟩
       )
    ·have e14:(o.I9==14)=false:=B4.2 (fun hh=>k14 (.inl hh));have e16:(o.I9==16)=false:=B4.2 (fun hh=>k14 (.inr hh));rw[show pH m.K0 o z R=R by unfold pH;rw[b8 k12,b8 k14]]at Oq;repeat' ((conv=>whnf);first|apply Wx|apply W6|apply oi|apply fi|intro h|refine cl Sn ?_|exact Y7|refine e_ rfl ?_)
     all_goals try exact Q18
     all_goals try exact Q10
     all_goals try exact KX
     all_goals try exact Q1
     all_goals try exact Q4
     all_goals try exact Q9
     all_goals try exact Q8
     all_goals try exact Q7
     conv=>whnf
     refine .inl (ci S1 (ai (ai rfl (ai rfl (ai rfl trivial))) (ai (ai rfl (ai rfl (ai rfl (ai rfl (ai rfl (ai rfl (ai rfl trivial))))))) trivial)) ?_);conv=>whnf
     refine fO ⟨[(5,.r (.c (.ptr (5,0,0) 0))),(6,.r (.c (.t (.lst 1 [[.lst 4 ((bF (aM p b 0)).map LW.tr)],[.lst 4 ((bF (aM p b 1)).map LW.tr)]])))),(7,.r (.c (.ptr (7,0,0) 0))),(9,.r (.c (.own (9,0,0)))),(10,tI .i64 (k:Int))],
      [((5,0,0),some (.box [.t (.lst 2 [(ag p b 0).tr,(ag p b 1).tr]),.t (.lst 1 [aa first,aa second]),.t (.lst 1 ((entries p b first second).map aa))])),((7,0,0),some (.box (m1.tr.map .t))),((9,0,0),some (.arr false 1 (R.reverse.map aa)))],_⟩ ?_ ?_ rfl ?_
     ·exact V29
     ·exact V22
     repeat' ((conv=>whnf);first|apply Wx|apply W6|apply oi|apply fi|intro h|exact Y7|refine e_ rfl ?_)
     conv=>whnf
     refine⟨⟨(k+1,m1,R),g_,O6,Oq,by simp at q4⊢<;> omega⟩,?_,KD⟩;dsimp only;repeat' ((conv=>whnf);first|apply Wx|apply W6|apply oi|apply fi|intro h|exact Y8|refine e_ rfl ?_)
     skip
 ·clear QO hN RK Yc XU Qb g0 ZR T8 QN Uf WA;repeat' ((conv=>whnf);first|apply Wx|apply W6|apply oi|apply fi|intro h|exact Y5|refine e_ rfl ?_)
  all_goals(exfalso;rename_i g1 g2;rw[Nn,c6 _ o_]at h;simp at g1 g2 h;exact XP ⟨o_,g2,o_⟩)
theorem fnUnwound_lifted (os:Os)(started:os.Started)(H:Type)(enc:TypeId×Value->H):
  ReturnsInHanded {} Tryz.checked os 3 .any (Rows.fnUnwoundSpec.pre6 enc Tryz.prog Tryz.f3 Rows.fnUnwoundRow.domain false) (Rows.fnUnwoundSpec.post enc Tryz.prog Tryz.f3 false true false false):=by
 refine returnsInHanded_of_change (C:=Tryz.checked) own started aaq Tryz.func3
  (ChangeSpec.witness6 (enc:=enc) (C:=Tryz.checked) false ⟨#[],#[.slice none 0 0],[]⟩ 8 aaq aaq aaq aaq) ?_
 intro W base args ds gs before Nz hW _ _;have Wr:=hW;obtain⟨p,q,hA,_,_,_,_⟩:=Wr;have Mw:=sG hA;obtain⟨xs,hx,Pl⟩:=uO (n:=8) hΓ aaq (fun j t v h1 h2=>Nz j t v aai aaf) hA;rw[Tryz.params3]at Pl Mw;obtain⟨_,xs0,rfl,QL,VV⟩:=yB Pl;obtain⟨_,rfl,rows,⟨⟩,hl,hr⟩:=QL;obtain rfl:=AD VV;obtain⟨d0,rfl⟩:=LD Mw;obtain⟨bs,rfl⟩:=Fg (rows:=rows) (fun r PC=>hr r PC);exact Gc JC rfl Tryz.underlying4 rfl aaq rfl hx (qV bs) hW
theorem fnUnwound_holds:Rows.FnUnwoundSaid:=
 OpenClaim.holds_of_wide 3 Tryz.f3 rfl rfl rfl rfl rfl rfl rfl ⟨rfl,rfl,rfl,rfl,rfl⟩ rfl rfl rfl rfl rfl aaq Tryz.func3 aaq
  (f0 aaq) (by unfold Func.isWrapper;first|(rw[c7 (by decide+kernel)];kernel_rfl)|(rw[b8 (by decide+kernel)];exact⟨rfl,rfl⟩))
  (fun os started H enc _=>fnUnwound_lifted os started H enc)
end Go.Proofs.YtoglejgmjeojoaaGreat
