import Derived.Test.YtoglejgmjeojoaaGreatGj
set_option maxRecDepth 100000
set_option maxHeartbeats 4000000
namespace Go.Proofs.P
open Go.Sim Tryz
def wz (C:Cx)(lev:Nat):Prop:=∀(x:Sc) (q:Ib) (ins pd:List Nat) (s:Gs) (d:Int),ScOk C x ins->IbOk C x q->q.f=(x.f:Int)->q.e=(jK C.p x.f:Int)->q.base=d->s.start=false->(∀i∈pd,i<s.I4.length)->
 s.I4.length+(jK C.p x.f-x.f)*(20*cE lev+3)<=68719476736->((lev+(ins.length-1):Nat):Int)=C.b.L4->0<=d->d+30+100*(lev:Int)<=1900->
 bd prog 252 [dE,ibP] (jV (0,0,1) (0,0,2) (0,1,1) C pd s d ins q []) (.tup []) (jV (1,0,1) (1,0,2) (1,1,1) C pd (aV C (bf C lev) x ins d s).1 (if x.L2=true then d else d+1) ins q (aV C (bf C lev) x ins d s).2)
theorem Ko {C:Cx}(hC:CxOk C){lev:Nat}(hL:wz C lev):Ez C (lev+1):=by
 intro x q ins pd lv k g b s d hk hg RB hr;refine au hΓ ay func274 rfl d_ rfl rfl ?_;obtain⟨hx,hq,VH,X7,VP,Tq⟩:=hr;obtain⟨r1,r2,r3,r4⟩:=eA RB;obtain⟨y,hy,PR⟩:=hg;have PW:=hC.len;have hin:=hC.inl;have SF:=dz hC ⟨y,hy,PR⟩;have hA:argsN C.p g=y.K0.length:=by rw[argsN,hy]
 have Zv:=jC C.p (g:Int) o_ (fun z hz=>bx hC.small hz);have Xx:=tm hC hx;have Rv:x.I7.length<=8:=by obtain⟨_,_,_,_,_,h⟩:=hx.endE hC;exact h
 have Sl:=hx.first;have ha:=hC.args;have ON:=hx.I5;obtain⟨q1,q2,q3,q4⟩:=VH;have RI:=jR hC hx k ⟨y,hy,PR⟩;obtain⟨ye,ye1,ye2,ye3,ye4,_⟩:=RI.endE hC;have gE:=dC C.p (g:Int) o_;have PP:bB C.p (g:Int)=(ye:Int):=by rw[bu];exact br ye1
 rw[PP]at gE r2;have SY:(y.K0.map ah).length=y.K0.length:=s_;have TE:(x.I7.map ah).length=x.I7.length:=s_;have OJ:(x.I5.map ae).length=x.I5.length:=s_;obtain⟨qf,qe,ql,qa,qi,qc,qb⟩:=q;obtain⟨i1,i2,i3,i4,i5,i6⟩:=hq;dsimp only at i1 i2 i3 i4;subst i1;subst i2;subst i3;have e2:IntKind.i64.wrap (x.first+(x.I7.length:Int))=x.first+x.I7.length:=by rw[c6 _ o_]
 repeat' ((conv=>whnf);first|(with_reducible apply W1;fail_if_success (with_reducible show Wo _ _ _ _ (Code.region 1 _ _) _ _))|(with_reducible first|apply W2|apply W3|apply W4|apply W5|apply W6|apply W7|apply W8|apply W9)|apply aB|apply oi|apply fi|intro h|refine⟨g,y.tr,rfl,aa hy,?_⟩|refine cl gE ?_|refine cl Zv ?_|exact Y8|refine e_ rfl ?_)
 all_goals try exact Q2
 conv=>whnf
 refine kL ⟨[(0,dE),(1,ibP),(2,tI .i64 (k:Int)),(3,tI .i64 (g:Int)),(4,tI .i64 (b:Int)),(10,.r (.c (.ptr (48,0,0) 0)))],
  [((0,0,0),some (yn C s d (0,0,1) (0,0,2))),((0,0,1),some (.dar 7 (itR (clr pd (s).I4)) none)),((0,0,2),some (.arr false 1 (nw ins))),((0,1,0),some (ibB ⟨qf,qe,x.I7,qa,x.first,x.I5,qb⟩ (0,1,1))),((0,1,1),some (.arr false 1 (lv.map ae))),((48,0,0),some (.box [.t (.int .i64 (g:Int)),.t (.int .i64 (ye:Int)),.t (.lst 1 ((localsOf C.p (g:Int)).map ah)),.t (.int .i64 (argsN C.p g:Int)),.t (.int .i64 0),.t (.lst 1 ((x.I5++[(k:Int)]).map ae)),.t (.int .i64 0),.nils 1]))],_⟩ ?_ ?_ rfl ?_
 ·exact⟨.inl rfl,.inl rfl,.inl rfl,.inl rfl,.inl rfl,.inl rfl,trivial⟩
 ·refine⟨.inr (.inl rfl),.inr (.inl rfl),.inr (.inl rfl),.inr (.inl rfl),.inr (.inl rfl),.inr (.inr (.inl ⟨_,_,rfl,rfl,.inl rfl,.inl rfl,.inr (.inr ⟨_,rfl,rfl,?_⟩),.inl ?_,.inl rfl,.inr (.inr ⟨_,rfl,?_,?_⟩),.inl rfl,.inr (.inl ⟨_,_,rfl,rfl⟩),trivial⟩)),trivial⟩
  ·exact V143
  ·rw[SY,hA]
  ·show Tr.lst 1 _=Tr.lst 1 ([]++List.map ae x.I5++[[Tr.int .i64 (k:Int)]]);simp[ae]
  ·exact V143
 repeat' ((conv=>whnf);first|(with_reducible apply W1;fail_if_success (with_reducible show Wo _ _ _ _ (Code.seq (Code.region 2 _ _) _) _ _))|(with_reducible first|apply W2|apply W3|apply W4|apply W5|apply W6|apply W7|apply W8|apply W9)|apply aB|apply oi|apply fi|intro h|exact Y8|refine e_ rfl ?_)
 conv=>whnf
 refine mv Unit (fun _=>⟨[(0,dE),(1,ibP),(2,tI .i64 (k:Int)),(3,tI .i64 (g:Int)),(4,tI .i64 (b:Int)),(10,.r (.c (.ptr (48,0,0) 0)))],
  [((0,0,0),some (yn C s d (0,0,1) (0,0,2))),((0,0,1),some (.dar 7 (itR (clr pd (s).I4)) none)),((0,0,2),some (.arr false 1 (nw ins))),((0,1,0),some (ibB ⟨qf,qe,x.I7,qa,x.first,x.I5,qb⟩ (0,1,1))),((0,1,1),some (.arr false 1 (lv.map ae))),((48,0,0),some (.box [.t (.int .i64 (g:Int)),.t (.int .i64 (ye:Int)),.t (.lst 1 ((localsOf C.p (g:Int)).map ah)),.t (.int .i64 (argsN C.p g:Int)),.t (.int .i64 (bK C x)),.t (.lst 1 ((x.I5++[(k:Int)]).map ae)),.t (.int .i64 0),.nils 1]))],[48,0]⟩) ?_ ?_
 ·cases ho:x.L2 with
  | true=>
   have c1:=i5.1 ho;have c2:=i6 ho;have c3:=i4 ho;have c4:bK C x=(x.I7.length:Int)-C.args:=(by unfold bK;rw[d5 ho]);have c5:IntKind.i64.wrap (IntKind.i64.wrap (x.first+((x.I7.map ah).length:Int))-qa)=bK C x:=(by rw[c4,TE,e2,c2,c3,c6 _ o_];omega);repeat' ((conv=>whnf);first|apply Wx|apply W6|apply oi|apply fi|intro h|exact Y8|refine e_ rfl ?_)
   all_goals try(exfalso;rw[c1]at h;simp at h;done)
   all_goals(conv=>whnf)
   all_goals(refine⟨(),?_⟩)
   repeat' ((conv=>whnf);first|apply Wx|apply W6|apply oi|apply fi|intro h|exact Y8|refine e_ rfl ?_)
   all_goals exact⟨congrArg (Tr.int .i64) c5⟩
  | false=>
   have Ow:x.I5≠[]:=fun e=>by rw[i5.2 e]at ho;cases ho
   have c4:bK C x=x.first+x.I7.length:=(by unfold bK;rw[c8 aae]);have c5:IntKind.i64.wrap (x.first+((x.I7.map ah).length:Int))=bK C x:=(by rw[c4,TE,e2]);repeat' ((conv=>whnf);first|apply Wx|apply W6|apply oi|apply fi|intro h|exact Y8|refine e_ rfl ?_)
   all_goals try(exfalso;simp at h;exact Ow h)
   all_goals(conv=>whnf)
   all_goals(refine⟨(),?_⟩)
   repeat' ((conv=>whnf);first|apply Wx|apply W6|apply oi|apply fi|intro h|exact Y8|refine e_ rfl ?_)
   all_goals exact⟨congrArg (Tr.int .i64) c5⟩
 intro _;have PO:((localsOf C.p (g:Int)).map ah).length=(localsOf C.p (g:Int)).length:=s_;have em:IntKind.i64.wrap (bK C x+(((localsOf C.p (g:Int)).map ah).length:Int))=bK C x+((localsOf C.p (g:Int)).length:Int):=by rw[PO,c6 _ o_]
 obtain⟨s0,TI⟩:∃s0:Gs,(⟨s.I4,max s.J1 (bK C x+(localsOf C.p (g:Int)).length),s.start⟩:Gs)=s0:=⟨_,rfl⟩;have z1:s.I4=s0.I4:=by rw[<-TI]
 have z2:max s.J1 (bK C x+(localsOf C.p (g:Int)).length)=s0.J1:=by rw[<-TI]
 have Xt:Beg b s0:=by rw[<-TI];exact⟨X7.1,X7.2⟩
 obtain⟨T1,WS⟩:∃T1,cf C (bN C x k g) x.I5 k (argsN C.p g) d s0=T1:=⟨_,rfl⟩;have O4:∀{t:Gs},Beg b t->t.start=true->t.I4.length∈pd:=fun{t} hb h=>by rw[hb.2.1 h];exact VP
 repeat' ((conv=>whnf);first|apply Wx|apply W6|apply oi|apply fi|intro h|exact Y8|refine e_ rfl ?_)
 conv=>whnf
 refine⟨{r:Nat×Gs//r.1<=argsN C.p g/\cf C (bN C x k g) x.I5 k r.1 (d-((argsN C.p g-r.1:Nat):Int)) r.2=T1/\r.2.I4.length<=300-r.1/\Beg b r.2},fun r=>⟨[(0,dE),(1,ibP),(2,tI .i64 (k:Int)),(3,tI .i64 (g:Int)),(4,tI .i64 (b:Int)),(10,.r (.c (.ptr (48,0,0) 0))),(11,.r (.c (.ptr (117,0,0) 0))),(12,tI .i64 ((r.1.1:Int)-1))],
  [((0,0,0),some (yn C r.1.2 (d-((argsN C.p g-r.1.1:Nat):Int)) (48,0,2) (48,0,3))),((48,0,2),some (.dar 7 (itR (clr pd (r.1.2).I4)) none)),((48,0,3),some (.arr false 1 (nw ins))),((0,1,0),some (ibB ⟨qf,qe,x.I7,qa,x.first,x.I5,qb⟩ (0,1,1))),((0,1,1),some (.arr false 1 (lv.map ae))),((48,0,0),some (.box [.t (.int .i64 (g:Int)),.t (.int .i64 (ye:Int)),.t (.lst 1 ((localsOf C.p (g:Int)).map ah)),.t (.int .i64 (argsN C.p g:Int)),.t (.int .i64 (bK C x)),.t (.lst 1 ((x.I5++[(k:Int)]).map ae)),.t (.int .i64 0),.own (48,0,1)])),((48,0,1),some (.arr false 1 [])),((117,0,0),some (ibB ⟨0,0,localsOf C.p (g:Int),0,bK C x,x.I5,0⟩ (117,0,1))),((117,0,1),some (.arr false 1 []))],[117,48,0]⟩,fun r=>r.1.1,⟨(argsN C.p g,s0),g_,by rw[<-WS];simp,by dsimp only;rw[<-z1];omega,Xt⟩,?_,?_⟩
 ·repeat' ((conv=>whnf);first|apply Wx|apply W6|apply oi|apply fi|intro h|exact Y8|refine e_ rfl ?_)
  all_goals try exact⟨congrArg (fun l=>itR (clr pd l)) z1⟩
  all_goals try exact⟨congrArg (Tr.int _) (by rw[em];exact z2)⟩
  all_goals try exact Q18
 intro⟨⟨m,t⟩,hm,ht,Vy,Vu⟩;dsimp only at hm ht Vy Vu⊢
 cases m with
 | succ m=>
  have g1:=uV C pd t (d-((argsN C.p g-(m+1):Nat):Int)) ins ⟨0,0,localsOf C.p (g:Int),0,bK C x,x.I5,0⟩ [] (bN C x k g) k m rfl rfl aad g_ (O4 Vu) o_ aar o_;rw[cf]at ht;rw[show((m+1:Nat):Int)-1=(m:Int) by omega];repeat' ((conv=>whnf);first|apply Wx|apply W6|refine cg g1 ?_|apply oi|apply fi|intro h|exact Y6|refine e_ rfl ?_)
  conv=>whnf
  refine⟨⟨(m,eE C (bN C x k g) t (d-((argsN C.p g-(m+1):Nat):Int)) m k x.I5),g_,by rw[<-ht];dsimp only;congr 1;omega,by dsimp only;simp only[eE,aA,b8,c7,e7];omega,by unfold eE;exact Vu.emit ..⟩,?_,KD⟩
  exact Z5
 | zero=>
  have e0:t=T1:=by rw[<-ht];rfl
  subst e0;have ed:d-((argsN C.p g-0:Nat):Int)=d-argsN C.p g:=by rw[v3]
  rw[ed];obtain⟨T2,WM⟩:∃T2,cR C (bN C x k g) x.I5 k (d-argsN C.p g) ((localsOf C.p (g:Int)).length-argsN C.p g) (argsN C.p g) t=T2:=⟨_,rfl⟩;repeat' ((conv=>whnf);first|apply Wx|apply W6|apply oi|apply fi|intro h|exact Y6|refine e_ rfl ?_)
  conv=>whnf
  refine⟨{r:Nat×Gs//r.1<=(localsOf C.p (g:Int)).length/\cR C (bN C x k g) x.I5 k (d-argsN C.p g) ((localsOf C.p (g:Int)).length-r.1) r.1 r.2=T2/\r.2.I4.length<=400-2*((localsOf C.p (g:Int)).length-r.1)/\Beg b r.2},fun r=>⟨[(0,dE),(1,ibP),(2,tI .i64 (k:Int)),(3,tI .i64 (g:Int)),(4,tI .i64 (b:Int)),(10,.r (.c (.ptr (48,0,0) 0))),(11,.r (.c (.ptr (117,0,0) 0))),(13,tI .i64 (r.1.1:Int))],
   [((0,0,0),some (yn C r.1.2 (d-argsN C.p g) (48,0,2) (48,0,3))),((48,0,2),some (.dar 7 (itR (clr pd (r.1.2).I4)) none)),((48,0,3),some (.arr false 1 (nw ins))),((0,1,0),some (ibB ⟨qf,qe,x.I7,qa,x.first,x.I5,qb⟩ (0,1,1))),((0,1,1),some (.arr false 1 (lv.map ae))),((48,0,0),some (.box [.t (.int .i64 (g:Int)),.t (.int .i64 (ye:Int)),.t (.lst 1 ((localsOf C.p (g:Int)).map ah)),.t (.int .i64 (argsN C.p g:Int)),.t (.int .i64 (bK C x)),.t (.lst 1 ((x.I5++[(k:Int)]).map ae)),.t (.int .i64 0),.own (48,0,1)])),((48,0,1),some (.arr false 1 [])),((117,0,0),some (ibB ⟨0,0,localsOf C.p (g:Int),0,bK C x,x.I5,0⟩ (117,0,1))),((117,0,1),some (.arr false 1 []))],[117,48,0]⟩,fun r=>(localsOf C.p (g:Int)).length-r.1.1,⟨(argsN C.p g,t),g_,WM,g_,Vu⟩,?_,?_⟩
  ·exact Z2
  intro⟨⟨i,u⟩,hi,hu,P8,Ud⟩;dsimp only at hi hu P8 Ud⊢;by_cases Ys:i<(localsOf C.p (g:Int)).length
  ·obtain⟨c,hc⟩:∃c,(localsOf C.p (g:Int)).length-i=c+1:=⟨(localsOf C.p (g:Int)).length-i-1,o_⟩;rw[hc,cR]at hu;have g1:=ca C pd u (d-argsN C.p g) ins ⟨qf,qe,x.I7,qa,x.first,x.I5,qb⟩ lv k 0 0 1 aad g_ (O4 Ud) o_ o_;have g2:=uV C pd (aA C u (d-argsN C.p g) 0 0 k x.I5) (d-argsN C.p g+1) ins ⟨0,0,localsOf C.p (g:Int),0,bK C x,x.I5,0⟩ [] (bN C x k g) k i rfl rfl aah g_ (O4 (Ud.emit ..)) o_ aar o_;repeat' ((conv=>whnf);first|apply Wx|apply W6|refine cg g1 ?_|refine cg g2 ?_|apply oi|apply fi|intro h|exact Y6|refine e_ rfl ?_)
   conv=>whnf
   refine⟨⟨(i+1,eE C (bN C x k g) (aA C u (d-argsN C.p g) 0 0 k x.I5) (d-argsN C.p g+1) i k x.I5),g_,by rw[<-hu];dsimp only;rw[show(localsOf C.p (g:Int)).length-(i+1)=c by omega],by dsimp only;simp only[eE,aA,b8,c7,e7];omega,by unfold eE;exact(Ud.emit ..).emit ..⟩,?_,KD⟩;exact Z5
  ·have PZ:i=(localsOf C.p (g:Int)).length:=o_;subst PZ;rw[y7,cR]at hu;subst hu;have Ux:dB C x k g d s=u:=(by rw[dB,TI,WS,WM]);repeat' ((conv=>whnf);first|(with_reducible apply W1;fail_if_success (with_reducible show Wo _ _ _ _ (Code.seq (Code.region 15 _ _) _) _ _))|(with_reducible first|apply W2|apply W3|apply W4|apply W5|apply W6|apply W7|apply W8|apply W9)|apply aB|apply oi|apply fi|intro h|exact Y6|refine e_ rfl ?_)
   conv=>whnf
   obtain⟨v,hv⟩:∃v,bA C x k (d-argsN C.p g) u=v:=⟨_,rfl⟩;have TR:v.I4.length<=500:=(by rw[<-hv,bA];split<;>first|(simp[aA];omega)|omega);obtain⟨Zq,P7⟩:=qS (C:=C) (x:=x) (line:=k) (d:=d-argsN C.p g) Ud;rw[hv]at Zq P7;have N1:=bR pd u.I4
   refine mv Unit (fun _=>⟨[(0,dE),(1,ibP),(2,tI .i64 (k:Int)),(3,tI .i64 (g:Int)),(4,tI .i64 (b:Int)),(10,.r (.c (.ptr (48,0,0) 0)))],
    [((0,0,0),some (yn C v (d-argsN C.p g) (48,0,2) (48,0,3))),((48,0,2),some (.dar 7 (itR (clr pd (v).I4)) none)),((48,0,3),some (.arr false 1 (nw ins))),((0,1,0),some (ibB ⟨qf,qe,x.I7,qa,x.first,x.I5,qb⟩ (0,1,1))),((0,1,1),some (.arr false 1 (lv.map ae))),((48,0,0),some (.box [.t (.int .i64 (g:Int)),.t (.int .i64 (ye:Int)),.t (.lst 1 ((localsOf C.p (g:Int)).map ah)),.t (.int .i64 (argsN C.p g:Int)),.t (.int .i64 (bK C x)),.t (.lst 1 ((x.I5++[(k:Int)]).map ae)),.t (.int .i64 0),.own (48,0,1)])),((48,0,1),some (.arr false 1 []))],[117,48,0]⟩) ?_ ?_
   ·have g3:=ca C pd u (d-argsN C.p g) ins ⟨qf,qe,x.I7,qa,x.first,x.I5,qb⟩ lv k 15 0 0 aad g_ (O4 Ud) o_ o_;unfold bA at hv
    cases TU:u.start with
    | true=>
     rw[d5 TU]at hv;subst hv;have Zj:=Ud.2.1 TU;repeat' ((conv=>whnf);first|apply Wx|apply W6|refine cg g3 ?_|apply oi|apply fi|intro h|exact Y8|refine e_ rfl ?_)
     ·conv=>whnf
      refine⟨(),?_⟩;exact Z5
     ·exfalso;rw[N1,Zj]at h;simp at h
    | false=>
     rw[c8 (by simp[TU])]at hv;subst hv;repeat' ((conv=>whnf);first|apply Wx|apply W6|refine cg g3 ?_|apply oi|apply fi|intro h|exact Y8|refine e_ rfl ?_)
     ·exfalso;rw[N1]at h;have h9:=Ud.2.2 (by have:=B6 h;omega);rw[TU]at h9
      cases h9
     ·conv=>whnf
      refine⟨(),?_⟩;exact Z5
   intro _
   have Vv:jK C.p (bN C x k g).f-(bN C x k g).f<=9:=by rw[ye4];show ye-g<=9;omega
   have h3:=ur (n:=lev) o_;have TK:=A1 Vv (show 20*cE lev+3<=20*8679837+3 by omega);have aaX:v.I4.length≠b:=fun e=>by have:=Zq.2.2 e;rw[P7]at this;cases this
   have Vq:=hL (bN C x k g) ⟨(g:Int),(ye:Int),localsOf C.p (g:Int),(argsN C.p g:Int),bK C x,x.I5++[(k:Int)],d-argsN C.p g⟩ (ins++[g]) pd v (d-argsN C.p g) RI ⟨rfl,rfl,rfl,fun h=>aaC,RI.out,fun h=>aaC⟩ rfl (by rw[ye4]) rfl P7 (fun i hi=>by have:=Tq i hi;have:=Zq.1;omega) o_ (by rw[b8,c7,e7];have h9:=ON;omega) q3 o_;rw[c8 (by simp[bN])]at Vq;have SG:=je (lev:=lev) (rep:=bf C lev) (fun line g d s hg hr=>dF hC lev line g d s RI hg hr) hC RI (d-argsN C.p g) v;obtain⟨TQ,Qn⟩:=AH (lev:=lev) (rep:=bf C lev) (fun line g d s hg hr=>dF hC lev line g d s RI hg hr) hC RI (d-argsN C.p g) v;obtain⟨r,hr⟩:∃r,aV C (bf C lev) (bN C x k g) (ins++[g]) (d-argsN C.p g) v=r:=⟨_,rfl⟩;rw[hr]at Vq SG TQ Qn;have ZB:=SG.le;have O3:(nw ins).length=ins.length:=s_;have Wk:(nw (ins++[g])).length=ins.length+1:=s_;have QQ:IntKind.i64.wrap (((nw (ins++[g])).length:Int)-1)=(ins.length:Int):=(by rw[Wk,c6 _ o_];omega);have Qs:ins.length<=(nw (ins++[g])).length:=o_;have OI:(nw (ins++[g])).take ins.length=nw ins:=(by rw[<-v9,List.take_left' rfl]);have Rw:nw ins++[[Tr.int .i64 (g:Int)]]=nw (ins++[g]):=(by simp[ae]);have Pl:(r.2.map ae).length=r.2.length:=s_
   have OL:bf C (lev+1) x ins k g d s=⟨cB r.1.I4 r.1.I4.length r.2,r.1.J1,r.1.start⟩:=by show jp C (aV C (bf C lev)) x ins k g d s=_;unfold jp;rw[Ux,hv,hr]
   rw[OL];repeat' ((conv=>whnf);first|apply Wx|apply W6|refine cg Vq ?_|apply oi|apply fi|intro h|refine⟨ins.length,QQ,Qs,?_⟩|exact Y8|refine e_ rfl ?_)
   all_goals try exact⟨⟨by rw[O3];simp<;>omega,by rw[O3];simp<;>omega⟩⟩
   all_goals try exact⟨Rw⟩
   conv=>whnf
   refine⟨{j:Nat//j<=r.2.length},fun j=>⟨[(0,dE),(10,.r (.c (.ptr (48,0,0) 0))),(202,.r (.c (.own (48,0,1)))),(203,tI .i64 (r.2.length:Int)),(204,tI .i64 (j.1:Int))],
    [((0,0,0),some (yn C ⟨cB r.1.I4 r.1.I4.length (r.2.take j.1),r.1.J1,r.1.start⟩ (d-argsN C.p g+1) (48,0,2) (48,0,3))),((48,0,2),some (.dar 7 (itR (clr pd (cB r.1.I4 r.1.I4.length (r.2.take j.1)))) none)),((48,0,3),some (.arr false 1 (nw ins))),((0,1,0),some (ibB ⟨qf,qe,x.I7,qa,x.first,x.I5,qb⟩ (0,1,1))),((0,1,1),some (.arr false 1 (lv.map ae))),((48,0,0),some (ibB ⟨(g:Int),(ye:Int),localsOf C.p (g:Int),(argsN C.p g:Int),bK C x,x.I5++[(k:Int)],d-argsN C.p g⟩ (48,0,1))),((48,0,1),some (.arr false 1 (r.2.map ae)))],[117,48,0]⟩,fun j=>r.2.length-j.1,⟨0,o_⟩,?_,?_⟩
   ·repeat' ((conv=>whnf);first|apply Wx|apply W6|apply oi|apply fi|intro h|exact Y9|refine e_ rfl ?_)
    all_goals try exact⟨congrArg (Tr.int _) (by rw[Pl])⟩
    all_goals try exact⟨Qs⟩
    all_goals try exact⟨OI⟩
   intro⟨j,hj3⟩;dsimp only at hj3⊢;have Pw:=gw (r.1.I4.length:Int) (r.2.take j) r.1.I4;have SJ:(itR (clr pd (cB r.1.I4 r.1.I4.length (r.2.take j)))).length=r.1.I4.length:=(by rw[bR,Pw]);by_cases Vo:j<r.2.length
   ·obtain⟨a,Zb⟩:=ab Vo;obtain⟨j1,j2⟩:=Qn a (b9 Zb);obtain⟨jn,rfl⟩:=j8 j1;have Pg:jn<(itR (clr pd (cB r.1.I4 r.1.I4.length (r.2.take j)))).length:=(by rw[SJ];omega);obtain⟨it,OU⟩:=ab (l:=clr pd (cB r.1.I4 r.1.I4.length (r.2.take j))) (k:=jn) (by rw[pM,Pw];omega);have OS:r.2.take (j+1)=r.2.take j++[(jn:Int)]:=(by rw[z7,Zb];rfl);have T0:=oy r.1.I4.length (jn:Int) (r.2.take j) r.1.I4;have UF:j<(r.2.map ae).length:=o_;repeat' ((conv=>whnf);first|apply Wx|apply W6|apply oi|apply fi|intro h|refine⟨j,rfl,UF,?_⟩|refine⟨(ae jn),(aa Zb),?_⟩|refine⟨jn,rfl,Pg,?_⟩|refine⟨_,(gd OU),?_⟩|exact Y6|refine e_ rfl ?_)
    conv=>whnf
    refine⟨⟨j+1,o_⟩,?_,KD⟩;repeat' ((conv=>whnf);first|apply Wx|apply W6|apply oi|apply fi|intro h|exact Y9|refine e_ rfl ?_)
    all_goals(refine⟨?_⟩;rw[SJ];dsimp only;rw[OS,T0,rn,kB OU];rfl)
   ·have RF:j=r.2.length:=o_;subst RF;rw[B3];repeat' ((conv=>whnf);first|apply Wx|apply W6|apply oi|apply fi|intro h|exact Y12|refine e_ rfl ?_)
abbrev kI (n:Int):Tr:= .int .i64 n
theorem Aq {a:Int}{q:Tr}(h:cN (kI a) q=true):∃k,q= .int k a:=by cases q with|int k n=>simp only[cN,x7]at h;exact⟨k,by rw[h]⟩|str s=>simp[cN]at h|bool b=>simp[cN]at h|lst sz rows=>simp[cN]at h
theorem yd {a b:Int}{q:Tr}(Tc:a≠b)(h:cN (kI a) q=true):cN (kI b) q=false:=by obtain⟨k,rfl⟩:=Aq h;simp only[cN,x5];exact fun e=>Tc e.symm
theorem FQ (a b:Tr):cN a b=cN b a:=by cases a<;>cases b<;>first|rfl|(simp only[cN];rw[u7];simp only[x7];exact eq_comm)
theorem yJ (a:Int):cN (kI a) (kI a)=true:=by simp[cN]
theorem gM (v:Int)(a:Int):∀es:List (Tr×Int),bQ (cU es (kI a) v) (kI a)=some v
 | []=>by simp[bQ,cU,lI,eP,cN]
 |(q,x)::r=>by
  have ih:=gM v a r;unfold bQ cU at ih⊢;rw[lI]
  cases h:cN (kI a) q with|true=>simp[eP,h]|false=>simp only[cond_false];rw[eP,h,cond_false];exact ih
theorem dZ {a b:Int}(Tc:a≠b)(v:Int):∀es:List (Tr×Int),bQ (cU es (kI a) v) (kI b)=bQ es (kI b)
 | []=>by
  simp only[bQ,cU,lI,eP]
  rw[yd Tc (yJ a),cond_false]
 |(q,x)::r=>by
  have ih:=dZ Tc v r;unfold bQ cU at ih⊢;rw[lI]
  cases h:cN (kI a) q with|true=>simp only[cond_true];rw[eP,eP,yd Tc h];rfl|false=>simp only[cond_false];rw[eP,eP,ih]
theorem rO {a b:Int}(Tc:a≠b):∀es:List (Tr×Int),bQ (iE es (kI a)) (kI b)=bQ es (kI b)
 | []=>rfl
 |(q,x)::r=>by
  have ih:=rO Tc r;unfold bQ iE at ih⊢;rw[qr]
  cases h:cN (kI a) q with|true=>simp only[cond_true];rw[eP,yd Tc h,cond_false]|false=>simp only[cond_false];rw[eP,eP,ih]
def Uniq:List (Tr×Int)->Prop
 | []=>True
 |(q,_)::r=>(∀e∈r,cN q e.1=false)/\Uniq r
theorem uZ {k:Tr}:∀{es:List (Tr×Int)},(∀e∈es,cN k e.1=false)->eP (cN k) es=none
 | [],_=>rfl
 |(q,x)::r,h=>by rw[eP,h (q,x) s_,cond_false];exact uZ fun e he=>h e (by simp[he])
theorem pr {a:Int}:∀{es:List (Tr×Int)},Uniq es->bQ (iE es (kI a)) (kI a)=none
 | [],_=>rfl
 |(q,x)::r,h=>by
  have ih:=pr (a:=a) h.2;unfold bQ iE at ih⊢;rw[qr]
  cases hq:cN (kI a) q with
  | true=>
   simp only[cond_true];refine uZ fun e he=>?_;obtain⟨k,rfl⟩:=Aq hq;have:=h.1 e he
   cases e with
   | mk e1 e2=>cases e1<;>simp_all[cN]
  | false=>simp only[cond_false];rw[eP,hq,cond_false];exact ih
theorem wU {k key:Tr}{v:Int}(hk:cN k key=true):∀(es:List (Tr×Int)) (q:Tr),(∀e∈es,cN q e.1=false)->cN q key=false->∀e∈lI (cN k) key v es,cN q e.1=false
 | [],q,_,hq,e,he=>by
  simp only[lI,d6,j6,or_false]at he
  subst he;exact hq
 |(q2,x)::r,q,h,hq,e,he=>by
  rw[lI]at he
  cases hb:cN k q2 with
  | true=>
   rw[hb,cond_true]at he;rcases d6.1 he with rfl|he
   ·exact h (q2,x) s_
   ·exact h e (by simp[he])
  | false=>
   rw[hb,cond_false]at he;rcases d6.1 he with rfl|he
   ·exact h (q2,x) s_
   ·exact wU hk r q (fun e he=>h e (by simp[he])) hq e he
theorem Uniq.put {a:Int}{v:Int}:∀{es:List (Tr×Int)},Uniq es->Uniq (cU es (kI a) v)
 | [],_=>by unfold cU lI;exact⟨fun e he=>(by cases he),trivial⟩
 |(q,x)::r,h=>by
  have ih:=Uniq.put (a:=a) (v:=v) h.2;unfold cU at ih⊢;rw[lI]
  cases hb:cN (kI a) q with|true=>exact⟨h.1,h.2⟩|false=>exact⟨wU (yJ a) r q h.1 (by rw[FQ];exact hb),ih⟩
theorem Ar {f:Tr->Bool}:∀{es:List (Tr×Int)} {e:Tr×Int},e∈qr f es->e∈es
 | [],_,h=>h
 |(q,x)::r,e,h=>by
  rw[qr]at h
  cases hb:f q with
  | true=>rw[hb,cond_true]at h;exact s5 _ h
  | false=>
   rw[hb,cond_false]at h;rcases d6.1 h with rfl|h
   ·simp
   ·exact s5 _ (Ar h)
theorem Uniq.del {k:Tr}:∀{es:List (Tr×Int)},Uniq es->Uniq (iE es k)
 | [],_=>trivial
 |(q,x)::r,h=>by
  have ih:=Uniq.del (k:=k) h.2;unfold iE at ih⊢;rw[qr]
  cases hb:cN k q with|true=>exact h.2|false=>exact⟨fun e he=>h.1 e (Ar he),ih⟩
structure MapOk (C:Cx) (x:Sc) (k:Nat) (pos Pe:List Int) (zs os fs:List (Tr×Int)):Prop where
 uniq:Uniq zs
 zero:∀i:Nat,x.f<i->i<k->(cK C.p i=3\/cK C.p i=5)->bQ zs (kI i)=(match elseAt C.p i with|some j=>if j<k then none else some (atL pos i)|none=>some (atL pos i))
 over:∀i:Nat,x.f<i->i<k->(cK C.p i=3\/cK C.p i=5)->bQ os (kI i)=(match elseAt C.p i with|some j=>if j<k then some (atL pos j)else none|none=>none)
 fresh:∀i:Nat,k<=i->bQ os (kI i)=none
 first:∀i:Nat,x.f<i->i<k->cK C.p i=5->bQ fs (kI i)=some (atL Pe i)
section
variable {C:Cx} {x:Sc} {ins:List Nat} {k e:Nat} {pos Pe:List Int} {zs os fs:List (Tr×Int)}
theorem wA {p:List Oj}{i k:Nat}{j:Nat}(h:elseAt p i=some j)(hk:cK p k≠4):j≠k:=by rintro rfl;obtain⟨_,_,_,_,_,_,_,y,hy,h4⟩:=bn h;exact hk (by rw[bE hy];exact h4)
theorem V144{p:Prop}(h:p:=by
 dsimp only;by_cases hj:j<k
 ·rw[d5 hj,d5 o_]
 ·rw[c8 hj,c8 o_]):p:=h
theorem MapOk.plain (h:MapOk C x k pos Pe zs os fs)(hk:cK C.p k≠3/\cK C.p k≠4/\cK C.p k≠5)(hd:Int)(v:Int):MapOk C x (k+1) pos (Pe.set k hd) zs os (cU fs (kI k) v):=by
 refine⟨h.uniq,fun i h1 h2 h3=>?_,fun i h1 h2 h3=>?_,fun i h1=>h.fresh i o_,fun i h1 h2 h3=>?_⟩
 ·have Ph:i≠k:=fun e=>by subst e;omega
  rw[h.zero i h1 o_ h3]
  cases he:elseAt C.p i with
  | none=>rfl
  | some j=>have:=wA he hk.2.1;exact V144
 ·have Ph:i≠k:=fun e=>by subst e;omega
  rw[h.over i h1 o_ h3]
  cases he:elseAt C.p i with
  | none=>rfl
  | some j=>have:=wA he hk.2.1;exact V144
 ·have Ph:i≠k:=fun e=>by subst e;omega
  rw[dZ o_,fN Ph];exact h.first i h1 o_ h3
theorem MapOk.opens (h:MapOk C x k pos Pe zs os fs)(hk:cK C.p k=3\/cK C.p k=5)(hp:k<pos.length)(hh:k<Pe.length)(pv hd:Int):MapOk C x (k+1) (pos.set k pv) (Pe.set k hd) (cU zs (kI k) pv) os (cU fs (kI k) hd):=by
 have T7:∀j,elseAt C.p k=some j->k<j:=fun j hj=>by obtain⟨_,_,_,_,_,h,_⟩:=bn hj;exact h
 refine⟨h.uniq.put,fun i h1 h2 h3=>?_,fun i h1 h2 h3=>?_,fun i h1=>h.fresh i o_,fun i h1 h2 h3=>?_⟩
 ·by_cases Ph:i=k
  ·subst Ph;rw[gM,jx hp]
   cases he:elseAt C.p i with|none=>rfl|some j=>dsimp only;rw[c8 (by have:=T7 j he;omega)]
  ·rw[dZ o_,h.zero i h1 o_ h3,fN Ph]
   cases he:elseAt C.p i with
   | none=>rfl
   | some j=>have:=wA (k:=k) he o_;exact V144
 ·by_cases Ph:i=k
  ·subst Ph;rw[h.fresh i (d7 _)]
   cases he:elseAt C.p i with|none=>rfl|some j=>dsimp only;rw[c8 (by have:=T7 j he;omega)]
  ·rw[h.over i h1 o_ h3]
   cases he:elseAt C.p i with
   | none=>rfl
   | some j=>
    have:=wA (k:=k) he o_;dsimp only;rw[fN this];by_cases hj:j<k
    ·rw[d5 hj,d5 o_]
    ·rw[c8 hj,c8 o_]
 ·by_cases Ph:i=k
  ·subst Ph;rw[gM,jx hh]
  ·rw[dZ o_,fN Ph];exact h.first i h1 o_ h3
theorem MapOk.else (h:MapOk C x k pos Pe zs os fs)(hk:cK C.p k=4)(ho:elseAt C.p (aQ C.p k)=some k)(X0:aQ C.p k<k)(hp:k<pos.length)(pv v:Int):MapOk C x (k+1) (pos.set k pv) Pe (iE zs (kI (aQ C.p k:Int))) (cU os (kI (aQ C.p k:Int)) pv) (cU fs (kI k) v):=by
 have huq:∀i j,elseAt C.p i=some j->i≠aQ C.p k->j≠k:=fun i j hj hi e=>by subst e;exact hi (mI hj ho)
 refine⟨h.uniq.del,fun i h1 h2 h3=>?_,fun i h1 h2 h3=>?_,fun i h1=>?_,fun i h1 h2 h3=>?_⟩
 ·have Ph:i≠k:=fun e=>by subst e;omega
  by_cases P0:i=aQ C.p k
  ·subst P0;rw[pr h.uniq,ho];dsimp only;rw[d5 o_]
  ·rw[rO o_,h.zero i h1 o_ h3,fN Ph]
   cases he:elseAt C.p i with
   | none=>rfl
   | some j=>have:=huq i j he P0;exact V144
 ·have Ph:i≠k:=fun e=>by subst e;omega
  by_cases P0:i=aQ C.p k
  ·subst P0;rw[gM,ho];dsimp only;rw[d5 o_,jx hp]
  ·rw[dZ o_,h.over i h1 o_ h3]
   cases he:elseAt C.p i with
   | none=>rfl
   | some j=>
    have:=huq i j he P0;dsimp only;rw[fN this];by_cases hj:j<k
    ·rw[d5 hj,d5 o_]
    ·rw[c8 hj,c8 o_]
 ·rw[dZ o_];exact h.fresh i o_
 ·have Ph:i≠k:=fun e=>by subst e;omega
  rw[dZ o_];exact h.first i h1 o_ h3
theorem MapOk.end (h:MapOk C x k pos Pe zs os fs)(hk:cK C.p k=7)(v:Int):MapOk C x (k+1) pos Pe zs os (cU fs (kI k) v):=by
 have h':=h.plain o_ (atL Pe k) v;refine⟨h'.uniq,h'.zero,h'.over,h'.fresh,fun i h1 h2 h3=>?_⟩;have Ph:i≠k:=fun e=>by subst e;omega
 rw[h'.first i h1 h2 h3,fN Ph]
theorem MapOk.exit (h:MapOk C x k pos Pe zs os fs){i:Nat}(hi:aQ C.p k=i)(h1:x.f<i)(h2:i<k)(hk:cK C.p i=3\/cK C.p i=5)(hj:∀j,elseAt C.p i=some j->j<k):
  (bQ zs (kI i)=some (atL pos (jG C.p k))/\bQ os (kI i)=none)\/(bQ zs (kI i)=none/\bQ os (kI i)=some (atL pos (jG C.p k))):=by
 have hz:=h.zero i h1 h2 hk;have ho:=h.over i h1 h2 hk;unfold jG;rw[hi]
 cases he:elseAt C.p i with
 | none=>rw[he]at hz ho;exact .inl ⟨hz,ho⟩
 | some j=>rw[he]at hz ho;dsimp only at hz ho⊢;rw[d5 (hj j he)]at hz ho;exact .inr ⟨hz,ho⟩
end
abbrev mpV (o:Sim.Id):AV:= .r (.c (.mpv o))
abbrev mpH (zs os fs:List (Tr×Int)):List (Sim.Id×AO):=[((0,2,0),.mp (some .i64) zs),((0,2,1),.mp (some .i64) os),((0,2,2),.mp (some .i64) fs)]
theorem yO (C:Cx)(hC:CxOk C)(pd:List Nat)(s:Gs)(d:Int)(ins:List Nat)(q:Ib)(lv:List Int)(x:Sc)(hq:IbOk C x q)(k g:Nat)(hg:bO C g)(zs os fs:List (Tr×Int))(h1:s.I4.length+2<=68719476736)(h2:x.I5.length<=100)(h3:s.start=true->s.I4.length∈pd)(h4:-1000<=d/\d<=1990)(RG:lv.length<=68719476736)(hd p:List Int):
  bd prog 271 [dE,ibP,tI .i64 (k:Int),tI .i64 (g:Int),mpV (0,2,0),mpV (0,2,1),mpV (0,2,2)] (jV (0,0,1) (0,0,2) (0,1,1) C pd s d ins q lv++mpH zs os fs) (.tup [])
   (jV (1,0,1) (0,0,2) (1,1,1) C pd (aU C x k true (d+1) ⟨aA C s d 0 0 k x.I5,hd,p,lv⟩).g (if x.L2=true then d else d+1) ins q (aU C x k true (d+1) ⟨aA C s d 0 0 k x.I5,hd,p,lv⟩).lv++mpH zs os fs):=by
 refine au hΓ ay func271 rfl d_ rfl rfl ?_;obtain⟨y,hy,PR⟩:=hg;have g1:=ca C pd s d ins q lv k 0 0 1 aad (by rw[hq.I5];exact h2) h3 o_ o_;rw[hq.I5]at g1;have g2:=rY C hC pd (aA C s d 0 0 k x.I5) (d+1) ins q lv x hq k true aah h2 (fun h=>by cases h) o_ RG hd p
 have To:(if x.L2=false/\true=true then d+1 else d+1-1)=if x.L2=true then d else d+1:=by
  cases x.L2
  ·rw[d5 ⟨rfl,rfl⟩,c8 s_]
  ·rw[c8 s_,d5 rfl];omega
 rw[To]at g2;repeat' ((conv=>whnf);first|apply Wx|apply W6|refine cg g1 ?_|refine cg g2 ?_|apply oi|apply fi|intro h|refine⟨g,y.tr,rfl,aa hy,?_⟩|exact Y15|refine e_ rfl ?_)
theorem Q5{p:Prop}(h:p:=by exfalso;(simp only[m1,m2,Option.isSome_some,Option.isSome_none,w8,Bool.true_eq_false,x7,x5,ne_eq]at *)<;>first|omega|contradiction):p:=h
theorem vM (C:Cx)(hC:CxOk C)(pd:List Nat)(s:Gs)(d:Int)(ins:List Nat)(q:Ib)(lv:List Int)(x:Sc)(hq:IbOk C x q)(k g:Nat)(y:Oj)(hy:C.p[g]?=some y)(hk:y.I6=3\/y.I6=5)(zs os fs:List (Tr×Int))(j:Nat)(hd:Int)
  (hm:(bQ zs (kI g)=some (j:Int)/\bQ os (kI g)=none)\/(bQ zs (kI g)=none/\bQ os (kI g)=some (j:Int))) (hf:y.I6=5->bQ fs (kI g)=some hd) (hj:j<s.I4.length) (h1:s.I4.length+2<=68719476736) (h2:x.I5.length<=100) (h3:s.start=true->s.I4.length∈pd) (h4:-1000<=d/\d<=1990) (RG:lv.length<=68719476736) (s1:Gs) (P6:s1=if y.I6=5 then aA C s d 10 hd k x.I5 else s):
  bd prog 271 [dE,ibP,tI .i64 (k:Int),tI .i64 (g:Int),mpV (0,2,0),mpV (0,2,1),mpV (0,2,2)] (jV (0,0,1) (0,0,2) (0,1,1) C pd s d ins q lv++mpH zs os fs) (.tup [])
   (jV (1,0,1) (0,0,2) (0,1,1) C pd ⟨bI s1.I4 j s1.I4.length,s1.J1,s1.start⟩ d ins q lv++mpH zs os fs):=by
 refine au hΓ ay func271 rfl d_ rfl rfl ?_;have SC:j<s1.I4.length:=by rw[P6];split<;>first|(simp[aA];omega)|omega
 have O3:=bR pd s1.I4;have Pg:j<(itR (clr pd s1.I4)).length:=o_;obtain⟨it,OU⟩:=ab (l:=clr pd s1.I4) (k:=j) (by rw[pM];exact SC);have OL:itR (clr pd (bI s1.I4 j s1.I4.length))=(itR (clr pd s1.I4)).set j [.d (.int .i64 it.J6.J4),.d (.int .i64 (s1.I4.length:Int)),.d (.int .i64 it.J9),.d (.bool it.J8),.d (.lst 1 (it.J3.map ae)),.d (.int .i64 it.L9),.d (.bool it.M7)]:=by rw[rn,kB OU]
 have Ow:¬y.I6=0:=o_;by_cases h5:y.I6=5
 ·rw[d5 h5]at P6;have hf5:=hf h5;have g1:=ca C pd s d ins q lv k 10 hd 0 aad (by rw[hq.I5];exact h2) h3 o_ o_;rw[hq.I5,<-P6,Int.add_zero]at g1;have hfv:mi (bQ fs (kI g))=hd:=by rw[hf5];rfl
  rw[<-hfv]at g1;rcases hm with⟨m1,m2⟩|⟨m1,m2⟩
  ·have hv:mi (bQ zs (kI g))=(j:Int):=(by rw[m1];rfl);repeat' ((conv=>whnf);first|apply Wx|apply W6|refine cg g1 ?_|apply oi|apply fi|intro h|refine⟨g,y.tr,rfl,aa hy,?_⟩|refine⟨j,hv,Pg,?_⟩|refine⟨_,(gd OU),?_⟩|exact Y8|refine e_ rfl ?_)
   all_goals try exact Q5
   all_goals(refine⟨?_⟩;rw[O3,OL];rfl)
  ·have hv:mi (bQ os (kI g))=(j:Int):=(by rw[m2];rfl);repeat' ((conv=>whnf);first|apply Wx|apply W6|refine cg g1 ?_|apply oi|apply fi|intro h|refine⟨g,y.tr,rfl,aa hy,?_⟩|refine⟨j,hv,Pg,?_⟩|refine⟨_,(gd OU),?_⟩|exact Y8|refine e_ rfl ?_)
   all_goals try exact Q5
   all_goals(refine⟨?_⟩;rw[O3,OL];rfl)
 ·rw[c8 h5]at P6;subst P6;rcases hm with⟨m1,m2⟩|⟨m1,m2⟩
  ·have hv:mi (bQ zs (kI g))=(j:Int):=(by rw[m1];rfl);repeat' ((conv=>whnf);first|apply Wx|apply W6|apply oi|apply fi|intro h|refine⟨g,y.tr,rfl,aa hy,?_⟩|refine⟨j,hv,Pg,?_⟩|refine⟨_,(gd OU),?_⟩|exact Y8|refine e_ rfl ?_)
   all_goals try exact Q5
   all_goals(refine⟨?_⟩;rw[O3,OL];rfl)
  ·have hv:mi (bQ os (kI g))=(j:Int):=(by rw[m2];rfl);repeat' ((conv=>whnf);first|apply Wx|apply W6|apply oi|apply fi|intro h|refine⟨g,y.tr,rfl,aa hy,?_⟩|refine⟨j,hv,Pg,?_⟩|refine⟨_,(gd OU),?_⟩|exact Y8|refine e_ rfl ?_)
   all_goals try exact Q5
   all_goals(refine⟨?_⟩;rw[O3,OL];rfl)
theorem HL {pd:List Nat}{l:List Oi}:clr (l.length::pd) l=clr pd l:=by
 apply C2;intro i;rw[gg,gg]
 cases hx:l[i]? with
 | none=>rfl
 | some x=>have:=aw hx;simp only[s6,lH,B4];rw[show(i==l.length)=false by simp;omega,C5]
theorem sZ {pd:List Nat}{l:List Oi}{n:Nat}{it:Oi}(hx:l[n]?=some it)(hs:it.J8=true)(hn:n∉pd):(itR (clr (n::pd) l)).set n [.d (.int .i64 it.J6.J4),.d (.int .i64 it.J6.L6),.d (.int .i64 it.J9),.d (.bool true),.d (.lst 1 (it.J3.map ae)),.d (.int .i64 it.L9),.d (.bool it.M7)]=itR (clr pd l):=by
 have h1:clr pd l=(clr (n::pd) l).set n it:=by
  apply C2;intro i;rw[F3,pM,gg,gg];by_cases h:n=i
  ·subst h;rw[d5 rfl,d5 (aw hx),hx];simp only[s6,lH];rw[c8 (by simpa using hn)]
  ·rw[c8 h]
   cases l[i]? with
   | none=>rfl
   | some y=>simp only[s6,lH,B4];rw[show(i==n)=false by simp;omega,C5]
 rw[h1];simp only[itR,aq,E4];congr 1;simp[Oi.tr,hs]
theorem Kh {C:Cx}(hC:CxOk C){lev:Nat}{x:Sc}{ins:List Nat}(hx:ScOk C x ins)(PC:((lev+(ins.length-1):Nat):Int)=C.b.L4){line b:Nat}:∀(e:Ex) {d:Int} {s:Gs},(∀t∈e.toks,t.I6=7->∃f,findN C.p 0 t.J0=some f)->Beg b s->(dx C (bf C lev) x ins line e d s).start=false
 | .node t es,d,s,hca,hb=>by
  rw[dx];have OX:=pO (C:=C) (x:=x) (ins:=ins) (line:=line) (rep:=bf C lev) (fun g d s hg hr hb=>DO hC lev line g d s hx hg hr hb) es d hb;obtain⟨s1,P6⟩:∃s1,cO C (bf C lev) x ins line es d s=s1:=⟨_,rfl⟩;rw[P6]at OX⊢;unfold iB;split
  ·rfl
  ·split
   ·rfl
   ·split
    ·rename_i h7;obtain⟨f,hf⟩:=hca t (by simp[Ex.toks]) h7;rw[hf];dsimp only;split
     ·rename_i hr;obtain⟨r1,_⟩:=eA hr;have hc:=hx.I5;obtain⟨m,rfl⟩:∃m,lev=m+1:=⟨lev-1,o_⟩;exact JR OX
     ·rfl
    ·rfl
theorem Q33{p:Prop}(h:p:=by exact⟨congrArg itR P2.symm⟩):p:=h
theorem Q15{p:Prop}(h:p:=by exact⟨congrArg (Tr.int .i64) hqb.symm⟩):p:=h
theorem Q10{p:Prop}(h:p:=by exfalso;rw[YD]at h;have:=n6 h;omega):p:=h
theorem Gx {C:Cx}(hC:CxOk C){lev:Nat}(hE:Na C lev):wz C lev:=by
 intro x q ins pd s d hx hq hqf YD hqb O4 Yj OW PC RK Xz;refine au hΓ ay func252 rfl d_ rfl rfl ?_;obtain⟨e,he,Zf,Pq,Ta,PO⟩:=hx.endE hC;rw[Ta]at YD OW;have PW:=hC.len;have hin:=hC.inl;have WP:=hx.I5;have h3:=ur (n:=lev) o_;have ON:x.I5.length<=100:=o_;have Rr:q.I5.length<=100:=by rw[hq.I5];exact ON
 have Sl:0<=x.first/\x.first<=1000:=by have:=hx.first;omega
 have gO:=zC C.p PW;have QG:=sA C.p C.p.length;obtain⟨R,hR⟩:∃R,gD C (bf C lev) x ins d (e+1-(x.f+1)) (x.f+1) (cq C s)=R:=⟨_,rfl⟩
 have OL:aV C (bf C lev) x ins d s=(R.g,R.lv):=by unfold aV;rw[Ta,show e-x.f=e+1-(x.f+1) by omega,hR]
 rw[OL];have Zs:LInv C lev x ins d e R (x.f+1) (cq C s):=⟨d7 _,o_,by simp[cq],by simp[cq],fun i h1 h2=>o_,⟨by simp[cq],fun j hj=>by simp[cq]at hj⟩,by rw[show e+1-(x.f+1)=e-x.f by omega];exact OW,hR⟩;have hM0:MapOk C x (x.f+1) (cq C s).pos (cq C s).I9 [] [] []:=⟨trivial,fun i h1 h2=>o_,fun i h1 h2=>o_,fun i _=>rfl,fun i h1 h2=>o_⟩;repeat' ((conv=>whnf);first|apply Wx|apply W6|apply oi|apply fi|intro h|refine cl gO ?_|exact Y8|refine e_ rfl ?_)
 conv=>whnf
 refine⟨{r:(Nat×Ls×Int)×(List (Tr×Int)×List (Tr×Int)×List (Tr×Int))//LInv C lev x ins d e R r.1.1 r.1.2.1/\MapOk C x r.1.1 r.1.2.1.pos r.1.2.1.I9 r.2.1 r.2.2.1 r.2.2.2/\(r.1.1=e+1->r.1.2.2=if x.L2=true then d else d+1)/\s.I4.length<=r.1.2.1.g.I4.length/\r.1.2.1.g.start=false},
  fun r=>⟨[(0,dE),(1,ibP),(4,.r (.c (.own (15,0,0)))),(5,mpV (16,0,0)),(6,mpV (17,0,0)),(7,mpV (18,0,0)),(8,tI .i64 (r.1.1.1:Int))],
   [(
    (0,0,0),some (yn C r.1.1.2.1.g r.1.1.2.2 (15,0,1) (15,0,2))),((15,0,1),some (.dar 7 (itR (clr pd r.1.1.2.1.g.I4)) none)),((15,0,2),some (.arr false 1 (nw ins))),((0,1,0),some (ibB q (15,0,3))),((15,0,3),some (.arr false 1 (r.1.1.2.1.lv.map ae))),((15,0,0),some (.arr true 1 ((lP C.p C.p.length).map ae))),
    ((16,0,0),some (.mp (some .i64) r.1.2.1)),((17,0,0),some (.mp (some .i64) r.1.2.2.1)),((18,0,0),some (.mp (some .i64) r.1.2.2.2))],[18,17,16,15,0]⟩,
  fun r=>e+1-r.1.1.1,⟨((x.f+1,cq C s,d),([],[],[])),Zs,hM0,fun h=>by dsimp only at h;omega,d7 _,O4⟩,?_,?_⟩
 ·exact Z5
 intro⟨⟨⟨k,L,dep⟩,⟨zs,os,fs⟩⟩,hI,hM,Xf,hgs,WX⟩;dsimp only at hI hM Xf hgs WX⊢;by_cases Pr:k<=e
 ·obtain⟨ln,hl⟩:=ab (l:=C.p) (k:=k) o_;have h0:=lp hC hx he hI.lo Pr hl;obtain⟨O6,Rl,_,Py,QB⟩:=hC.line _ _ hl;obtain⟨RX,Pm⟩:=mP hC hl;have TP:=hI.lo;have Y0:=hI.room;have ZL:=hI.I9;have Yw:=hI.pos;have TQ:=hI.lv.1;have R8:=bE hl
  have U5:L.g.I4.length+20*cE lev+3<=68719476736:=by obtain⟨n,hn⟩:∃n,e+1-k=n+1:=⟨e-k,o_⟩;rw[hn,o8]at Y0;omega
  obtain⟨A,hA⟩:∃A,dq C (bf C lev) x ins d k ln L=A:=⟨_,rfl⟩;have SO:∀line g d s,bO C g->cw C ins g s.I4.length=true->Grow (cE lev) s (bf C lev x ins line g d s):=fun line g d s hg hr=>dF hC lev line g d s hx hg hr;have hN:=LInv.next hC hx he hI Pr hl;have hAo:A.g.start=false:=by rw[<-hA];exact AK WX
  have hAg:=(mM (x:=x) (ins:=ins) (rep:=bf C lev) (lev:=lev) SO hC hl h0 d L).ge;rw[hA]at hN hAg;obtain⟨b1,b2,b3,b4,b5,b6⟩:=rt (C:=C) (x:=x) k ln A;have UX:(bc C x k ln A).g.start=false:=by rw[b6];exact hAo
  have Un:s.I4.length<=(bc C x k ln A).g.I4.length:=by rw[b4];omega
  have PE:=bR pd L.g.I4;have PY:bM L.g:=by unfold bM;omega
  have S4:∀i∈pd,i<L.g.I4.length:=fun i hi=>by have:=Yj i hi;omega
  have gH:=oV ln.I6;have XM:k<L.pos.length:=o_;have hhk:k<L.I9.length:=o_
  have OG:∀i:Nat,(endAt C.p i=some k\/elseAt C.p i=some k)->((lP C.p C.p.length).map ae)[k]?=some (ae (i:Int)):=fun i hi=>by
   have Vl:i<C.p.length:=by
    rcases hi with h|h
    ·obtain⟨_,hx,_⟩:=aL h;exact aw hx
    ·obtain⟨_,_,hx,_⟩:=bn h;exact aw hx
   rw[l6,EQ hi o_ _ Vl];rfl
  have Uz:k<((lP C.p C.p.length).map ae).length:=by rw[d9,QG];omega
  have Ri:ln.I6≠7->k<e:=fun h=>by
   exact V100
  have Pa:ln.I6≠7->py C ln.J5:=fun h=>by
   exact V109
  obtain⟨g1,TW⟩:∃g1,dx C (bf C lev) x ins k (exL ln.J5) d ⟨L.g.I4,L.g.J1,true⟩=g1:=⟨_,rfl⟩;have Xp:Beg L.g.I4.length (⟨L.g.I4,L.g.J1,true⟩:Gs):=⟨d7 _,⟨fun _=>rfl,fun _=>rfl⟩⟩
  have hX:bF ln.J5=true->ln.I6≠7->bd prog 268 [dE,ibP,tI .i64 (k:Int),.r (.c (.t (.lst 3 (ln.J5.map Ou.tr)))),tI .i64 (0:Int),tI .i64 (L.g.I4.length:Int)] (jV (0,0,1) (0,0,2) (0,1,1) C (L.g.I4.length::pd) ⟨L.g.I4,L.g.J1,true⟩ d ins q L.lv) (.tup []) (jV (1,0,1) (1,0,2) (0,1,1) C (L.g.I4.length::pd) g1 (d+1) ins q L.lv):=fun PA Wq=>by
   obtain⟨eo,et⟩:=rl PA;have UD:(exL ln.J5).toks.length<=20:=(by rw[<-et];exact Py);have hmu:=l8 (cE lev) UD
   have:=hE (exL ln.J5) x q ins (L.g.I4.length::pd) L.lv k 0 L.g.I4.length ln ⟨L.g.I4,L.g.J1,true⟩ d eo hl ⟨[],by rw[v6,i9];exact et⟩ (Pa Wq) ⟨hx,hq,⟨g_,PC,RK,o_⟩,Xp,s_,fun i hi=>by
    rcases d6.1 hi with rfl|hi
    ·exact d7 _
    ·have:=S4 i hi;omega⟩
   rw[TW]at this;exact this
  have Ya:bF ln.J5=true->ln.I6≠7->g1.I4.length<=L.g.I4.length+20*cE lev/\g1.start=false/\∃it,g1.I4[L.g.I4.length]?=some it/\it.J8=true:=fun PA Wq=>by
   have:=(ni (x:=x) (ins:=ins) (rep:=bf C lev) (line:=k) (lev:=lev) (fun g d s hg hr=>dF hC lev k g d s hx hg hr) hC hl PA d ⟨L.g.I4,L.g.J1,true⟩).le;have et:=(rl PA).2;have ho:=Kh hC hx PC (line:=k) (exL ln.J5) (d:=d) (by rw[<-et];exact fun t ht h7=>by obtain⟨f,hf,_⟩:=Pa Wq t ht h7;exact⟨f,hf⟩) Xp;have hm:=AM (C:=C) (rep:=bf C lev) (b:=L.g.I4.length) (fun x ins line g d s h=>Iw lev x ins line g d s h) x ins k (exL ln.J5) d ⟨L.g.I4,L.g.J1,true⟩ (.inl ⟨rfl,rfl⟩);rw[TW]at this ho hm;refine⟨this,ho,?_⟩;rcases hm with⟨hm,_⟩|hm
   ·rw[ho]at hm;cases hm
   ·exact hm
  unfold dq at hA;rw[TW]at hA;dsimp only at hA;have P2:=HL (pd:=pd) (l:=L.g.I4);have SI:ln.I6=4\/ln.I6=7\/ln.I6=1\/ln.I6=2\/ln.I6=6\/(ln.I6=3\/ln.I6=5):=o_;rcases SI with h4|h7|h1|h2|h6|RU
  ·
   rw[d5 h4]at hA;obtain⟨o1,o2,o3,o4⟩:=hx.own4 hC he o_ Pr hl h4;obtain⟨y,m,hy,y3,hm,_⟩:=bn o1;have UN:=bE hy;have Sm:dQ ln.I6=false:=(by rw[h4];rfl);rw[Sm]at gH;have gS:=ca C pd L.g d ins q L.lv k 10 0 0 PY Rr (fun h=>by rw[WX]at h;cases h) o_ o_;rw[hq.I5,Int.add_zero]at gS;have a1:A.g=⟨bI (aA C L.g d 10 0 k x.I5).I4 (atL L.pos (aQ C.p k)) (aA C L.g d 10 0 k x.I5).I4.length,(aA C L.g d 10 0 k x.I5).J1,(aA C L.g d 10 0 k x.I5).start⟩:=(by rw[<-hA]);have a4:A.I9=L.I9:=(by rw[<-hA]);have a5:A.pos=L.pos.set k L.g.I4.length:=(by rw[<-hA]);have a6:A.lv=L.lv:=(by rw[<-hA]);have RY:=hM.else o_ o1 o3 XM (L.g.I4.length:Int) (L.g.I4.length:Int);have hB:bc C x k ln A=A:=(by unfold bc;rw[c8 o_]);have hz:=hM.zero _ o2 o3 (.inl o_);rw[o1]at hz;dsimp only at hz;rw[c8 o_]at hz;obtain⟨p1,p2⟩:=hI.at_ _ o2 o3 aaN;obtain⟨jn,Tv⟩:=j8 p1;have hzv:mi (bQ zs (kI (aQ C.p k:Int)))=(jn:Int):=(by rw[hz];exact Tv);have WV:(aA C L.g d 10 0 k x.I5).I4.length=L.g.I4.length+1:=(by simp[aA]);have Pg:jn<(itR (clr pd (aA C L.g d 10 0 k x.I5).I4)).length:=(by rw[bR,WV];omega);obtain⟨it,OU⟩:=ab (l:=clr pd (aA C L.g d 10 0 k x.I5).I4) (k:=jn) (by rw[pM,WV];omega);have RL:itR (clr pd (bI (aA C L.g d 10 0 k x.I5).I4 (atL L.pos (aQ C.p k)) (aA C L.g d 10 0 k x.I5).I4.length))=(itR (clr pd (aA C L.g d 10 0 k x.I5).I4)).set jn [.d (.int .i64 it.J6.J4),.d (.int .i64 ((itR (clr pd (aA C L.g d 10 0 k x.I5).I4)).length:Int)),.d (.int .i64 it.J9),.d (.bool it.J8),.d (.lst 1 (it.J3.map ae)),.d (.int .i64 it.L9),.d (.bool it.M7)]:=(by rw[rn,Tv,kB OU,bR]);have N7:=OG _ (.inr o1);repeat' ((conv=>whnf);first|(with_reducible apply W1;fail_if_success (with_reducible show Wo _ _ _ _ (Code.region 10 _ _) _ _))|(with_reducible first|apply W2|apply W3|apply W4|apply W5|apply W6|apply W7|apply W8|apply W9)|apply aB|apply oi|apply fi|intro h|refine⟨k,ln.tr,rfl,aa hl,?_⟩|exact Y8|refine e_ rfl ?_)
   all_goals try exact Q10
   conv=>whnf
   rw[PE];repeat' ((conv=>whnf);first|apply Wx|apply W6|refine cg gS ?_|apply oi|apply fi|intro h|refine cl gH ?_|refine⟨k,rfl,Uz,?_⟩|refine⟨_,N7,?_⟩|refine⟨jn,hzv,Pg,?_⟩|refine⟨_,(gd OU),?_⟩|exact Y8|refine e_ rfl ?_)
   all_goals try exact Q15
   all_goals try exact KK
   all_goals(conv=>whnf)
   all_goals(refine⟨⟨((k+1,bc C x k ln A,d),(iE zs (kI (aQ C.p k:Int)),cU os (kI (aQ C.p k:Int)) (L.g.I4.length:Int),cU fs (kI k) (L.g.I4.length:Int))),hN,by dsimp only;rw[b2,b1];rw[a5,a4];exact RY,fun h=>by have:=Ri o_;dsimp only at h;omega,Un,UX⟩,?_,KD⟩)
   repeat' ((conv=>whnf);first|apply Wx|apply W6|apply oi|apply fi|intro h|exact Y9|refine e_ rfl ?_)
   all_goals(refine⟨?_⟩;dsimp only;simp only[hB,a1,a4,a5,a6,RL,PE];try rfl)
  ·
   rw[c8 o_,d5 h7]at hA;have Sm:dQ ln.I6=false:=(by rw[h7];rfl);rw[Sm]at gH;obtain⟨o1,o2⟩:=hx.own7 hC he o_ Pr hl h7;have N7:=OG _ (.inl o1);have RY:=hM.end o_ (L.g.I4.length:Int);rcases o2 with⟨o2,o3⟩|⟨o2,o3,o4,y,hy,o5⟩
   ·subst o2;rw[d5 o3]at hA;rw[o3]at N7;have gS:=yO C hC pd L.g d ins q L.lv x hq k x.f hx.fn zs os (cU fs (kI k) (L.g.I4.length:Int)) o_ ON (fun h=>by rw[WX]at h;cases h) o_ o_ L.I9 L.pos;rw[show aU C x k true (d+1) ⟨aA C L.g d 0 0 k x.I5,L.I9,L.pos,L.lv⟩=A from hA]at gS;have a4:A.I9=L.I9:=(by rw[<-hA];unfold aU;(repeat' split)<;>rfl);have a5:A.pos=L.pos:=(by rw[<-hA];unfold aU;(repeat' split)<;>rfl);have hB:bc C x k ln A=A:=(by unfold bc;rw[c8 (by rintro⟨_,h⟩;exact h o3)]);repeat' ((conv=>whnf);first|(with_reducible apply W1;fail_if_success (with_reducible show Wo _ _ _ _ (Code.region 10 _ _) _ _))|(with_reducible first|apply W2|apply W3|apply W4|apply W5|apply W6|apply W7|apply W8|apply W9)|apply aB|apply oi|apply fi|intro h|refine⟨k,ln.tr,rfl,aa hl,?_⟩|exact Y8|refine e_ rfl ?_)
    all_goals try exact Q10
    conv=>whnf
    rw[PE];repeat' ((conv=>whnf);first|apply Wx|apply W6|refine cg gS ?_|apply oi|apply fi|intro h|refine cl gH ?_|refine⟨k,rfl,Uz,?_⟩|refine⟨_,N7,?_⟩|exact Y8|refine e_ rfl ?_)
    all_goals try exact Q15
    all_goals try exact KK
    all_goals(conv=>whnf)
    all_goals(refine⟨⟨((k+1,bc C x k ln A,(if x.L2=true then d else d+1)),(zs,os,cU fs (kI k) (L.g.I4.length:Int))),hN,by dsimp only;rw[b2,b1];rw[a5,a4];exact RY,fun _=>rfl,Un,UX⟩,?_,KD⟩)
    repeat' ((conv=>whnf);first|apply Wx|apply W6|apply oi|apply fi|intro h|exact Y9|refine e_ rfl ?_)
    all_goals(refine⟨?_⟩;dsimp only;simp only[hB];try rfl)
   ·rw[c8 o_]at hA;have UN:=bE hy;have a1:A.g=if y.I6=5 then aA C L.g d 10 (atL L.I9 (aQ C.p k)) k x.I5 else L.g:=by rw[<-hA,UN];split<;>rfl
    have a4:A.I9=L.I9:=(by rw[<-hA];split<;>rfl);have a5:A.pos=L.pos:=(by rw[<-hA];split<;>rfl);have a6:A.lv=L.lv:=by rw[<-hA];split<;>rfl
    have TZ:=hM.exit (i:=aQ C.p k) rfl o3 o4 o_ (fun j hj=>by
     obtain⟨_,e2,_,_,q1,_,q2,_⟩:=bn hj;rw[o1]at q1;injection q1 with q1
     omega)
    obtain⟨x1,x2,x3,_⟩:=Cn hC hx he o_ o_ hl h7;obtain⟨p1,p2⟩:=hI.at_ _ o_ x2 x3;obtain⟨jn,Tv⟩:=j8 p1;rw[Tv]at TZ;have QH:y.I6=5->bQ (cU fs (kI k) (L.g.I4.length:Int)) (kI (aQ C.p k:Int))=some (atL L.I9 (aQ C.p k)):=fun h5=>by rw[dZ o_];exact hM.first _ o3 o4 o_
    have gS:=vM C hC pd L.g d ins q L.lv x hq k (aQ C.p k) y hy o5 zs os (cU fs (kI k) (L.g.I4.length:Int)) jn (atL L.I9 (aQ C.p k)) TZ QH o_ o_ ON (fun h=>by rw[WX]at h;cases h) o_ o_ A.g a1;have hB:(bc C x k ln A).g=⟨bI A.g.I4 (jn:Int) A.g.I4.length,A.g.J1,A.g.start⟩:=(by unfold bc;rw[d5 ⟨h7,o_⟩,a5,Tv]);repeat' ((conv=>whnf);first|(with_reducible apply W1;fail_if_success (with_reducible show Wo _ _ _ _ (Code.region 10 _ _) _ _))|(with_reducible first|apply W2|apply W3|apply W4|apply W5|apply W6|apply W7|apply W8|apply W9)|apply aB|apply oi|apply fi|intro h|refine⟨k,ln.tr,rfl,aa hl,?_⟩|exact Y8|refine e_ rfl ?_)
    all_goals try exact Q10
    conv=>whnf
    rw[PE];repeat' ((conv=>whnf);first|apply Wx|apply W6|refine cg gS ?_|apply oi|apply fi|intro h|refine cl gH ?_|refine⟨k,rfl,Uz,?_⟩|refine⟨_,N7,?_⟩|exact Y8|refine e_ rfl ?_)
    all_goals try exact Q15
    all_goals try exact KK
    all_goals(conv=>whnf)
    all_goals(refine⟨⟨((k+1,bc C x k ln A,d),(zs,os,cU fs (kI k) (L.g.I4.length:Int))),hN,by dsimp only;rw[b2,b1];rw[a5,a4];exact RY,fun h=>by dsimp only at h;omega,Un,UX⟩,?_,KD⟩)
    repeat' ((conv=>whnf);first|apply Wx|apply W6|apply oi|apply fi|intro h|exact Y9|refine e_ rfl ?_)
    all_goals(refine⟨?_⟩;dsimp only;simp only[hB,b3,a6];try rfl)
  ·
   rw[c8 o_,c8 o_,d5 h1]at hA;have PA:=QB (.inl h1);have gX:=hX PA o_;obtain⟨US,Vf,it,PD,Rn⟩:=Ya PA o_;have UO:L.g.I4.length∉pd:=fun h=>by have:=S4 _ h;omega
   have UE:=sZ (pd:=pd) PD Rn UO;have Rb:(clr (L.g.I4.length::pd) g1.I4)[L.g.I4.length]?=some (EY it):=(by rw[gg,PD];simp[lH]);have Pn:L.g.I4.length<(itR (clr (L.g.I4.length::pd) g1.I4)).length:=(by rw[bR];exact aw PD);have Sm:dQ ln.I6=true:=hasExpr_iff.2 (.inl h1);rw[Sm]at gH;have Rp:=mr x.I7 ln.J0;have gI:=jJ x.I7 ln.J0 o_;have gS:=qz C hC pd g1 (d+1) ins q L.lv x hq k (dJ x.I7 ln.J0) (-1) true rfl aad ON (fun h=>by rw[Vf]at h;cases h) o_ Sl o_;rw[show d+1+-1=d by omega]at gS;have a1:A.g=aA C g1 (d+1) (cH C true) (db C x (d+1) (dJ x.I7 ln.J0)) k x.I5:=(by rw[<-hA];rfl);have a4:A.I9=L.I9.set k L.g.I4.length:=(by rw[<-hA]);have a5:A.pos=L.pos:=(by rw[<-hA]);have a6:A.lv=L.lv:=(by rw[<-hA]);rw[<-hq.I7]at gI gS a1;have RY:=hM.plain o_ (L.g.I4.length:Int) (L.g.I4.length:Int);have hB:bc C x k ln A=A:=by unfold bc;rw[c8 o_]
   generalize dJ q.I7 ln.J0=ix at *
   repeat' ((conv=>whnf);first|(with_reducible apply W1;fail_if_success (with_reducible show Wo _ _ _ _ (Code.region 10 _ _) _ _))|(with_reducible first|apply W2|apply W3|apply W4|apply W5|apply W6|apply W7|apply W8|apply W9)|apply aB|apply oi|apply fi|intro h|refine⟨k,ln.tr,rfl,aa hl,?_⟩|exact Y8|refine e_ rfl ?_)
   all_goals try exact Q10
   conv=>whnf
   rw[PE];repeat' ((conv=>whnf);first|apply Wx|apply W6|refine cg gX ?_|refine cg gS ?_|apply oi|apply fi|intro h|refine cl gH ?_|refine⟨L.g.I4.length,rfl,Pn,?_⟩|refine⟨_,(gd Rb),?_⟩|refine cl gI ?_|exact Y8|refine e_ rfl ?_)
   all_goals try exact Q15
   all_goals try exact Q33
   all_goals try exact⟨UE⟩
   all_goals try exact KK
   all_goals(conv=>whnf)
   all_goals(refine⟨⟨((k+1,bc C x k ln A,d),(zs,os,cU fs (kI k) (L.g.I4.length:Int))),hN,by dsimp only;rw[b2,b1];rw[a5,a4];exact RY,fun h=>by have:=Ri o_;dsimp only at h;omega,Un,UX⟩,?_,KD⟩)
   repeat' ((conv=>whnf);first|apply Wx|apply W6|apply oi|apply fi|intro h|exact Y9|refine e_ rfl ?_)
   all_goals(refine⟨?_⟩;dsimp only;simp only[hB,a1,a4,a5,a6];try rfl)
  ·
   rw[c8 o_,c8 o_,c8 o_,d5 h2]at hA;have PA:=QB (.inr (.inl h2));have gX:=hX PA o_;obtain⟨US,Vf,it,PD,Rn⟩:=Ya PA o_;have UO:L.g.I4.length∉pd:=fun h=>by have:=S4 _ h;omega
   have UE:=sZ (pd:=pd) PD Rn UO;have Rb:(clr (L.g.I4.length::pd) g1.I4)[L.g.I4.length]?=some (EY it):=(by rw[gg,PD];simp[lH]);have Pn:L.g.I4.length<(itR (clr (L.g.I4.length::pd) g1.I4)).length:=(by rw[bR];exact aw PD);have Sm:dQ ln.I6=true:=hasExpr_iff.2 (.inr (.inl h2));rw[Sm]at gH;have gS:=ca C pd g1 (d+1) ins q L.lv k 17 0 (-1) aad Rr (fun h=>by rw[Vf]at h;cases h) o_ o_;rw[hq.I5,show d+1+-1=d by omega]at gS;have a1:A.g=aA C g1 (d+1) 17 0 k x.I5:=(by rw[<-hA]);have a4:A.I9=L.I9.set k L.g.I4.length:=(by rw[<-hA]);have a5:A.pos=L.pos:=(by rw[<-hA]);have a6:A.lv=L.lv:=(by rw[<-hA]);have RY:=hM.plain o_ (L.g.I4.length:Int) (L.g.I4.length:Int);have hB:bc C x k ln A=A:=(by unfold bc;rw[c8 o_]);repeat' ((conv=>whnf);first|(with_reducible apply W1;fail_if_success (with_reducible show Wo _ _ _ _ (Code.region 10 _ _) _ _))|(with_reducible first|apply W2|apply W3|apply W4|apply W5|apply W6|apply W7|apply W8|apply W9)|apply aB|apply oi|apply fi|intro h|refine⟨k,ln.tr,rfl,aa hl,?_⟩|exact Y8|refine e_ rfl ?_)
   all_goals try exact Q10
   conv=>whnf
   rw[PE];repeat' ((conv=>whnf);first|apply Wx|apply W6|refine cg gX ?_|refine cg gS ?_|apply oi|apply fi|intro h|refine cl gH ?_|refine⟨L.g.I4.length,rfl,Pn,?_⟩|refine⟨_,(gd Rb),?_⟩|exact Y8|refine e_ rfl ?_)
   all_goals try exact Q15
   all_goals try exact Q33
   all_goals try exact⟨UE⟩
   all_goals try exact KK
   all_goals(conv=>whnf)
   all_goals(refine⟨⟨((k+1,bc C x k ln A,d),(zs,os,cU fs (kI k) (L.g.I4.length:Int))),hN,by dsimp only;rw[b2,b1];rw[a5,a4];exact RY,fun h=>by have:=Ri o_;dsimp only at h;omega,Un,UX⟩,?_,KD⟩)
   repeat' ((conv=>whnf);first|apply Wx|apply W6|apply oi|apply fi|intro h|exact Y9|refine e_ rfl ?_)
   all_goals(refine⟨?_⟩;dsimp only;simp only[hB,a1,a4,a5,a6];try rfl)
  ·
   rw[c8 o_,c8 o_,c8 o_,c8 o_,d5 h6]at hA;have PA:=QB (.inr (.inr (.inr (.inr h6))));have gX:=hX PA o_;obtain⟨US,Vf,it,PD,Rn⟩:=Ya PA o_;have UO:L.g.I4.length∉pd:=fun h=>by have:=S4 _ h;omega
   have UE:=sZ (pd:=pd) PD Rn UO;have Rb:(clr (L.g.I4.length::pd) g1.I4)[L.g.I4.length]?=some (EY it):=(by rw[gg,PD];simp[lH]);have Pn:L.g.I4.length<(itR (clr (L.g.I4.length::pd) g1.I4)).length:=(by rw[bR];exact aw PD);have Sm:dQ ln.I6=true:=hasExpr_iff.2 (.inr (.inr (.inr (.inr h6))));rw[Sm]at gH;have gS:=rY C hC pd g1 (d+1) ins q L.lv x hq k false aad ON (fun h=>by rw[Vf]at h;cases h) o_ o_ (L.I9.set k L.g.I4.length) L.pos;rw[hA,c8 s_,E8]at gS;have a4:A.I9=L.I9.set k L.g.I4.length:=(by rw[<-hA];unfold aU;(repeat' split)<;>rfl);have a5:A.pos=L.pos:=(by rw[<-hA];unfold aU;(repeat' split)<;>rfl);have RY:=hM.plain o_ (L.g.I4.length:Int) (L.g.I4.length:Int);have hB:bc C x k ln A=A:=(by unfold bc;rw[c8 o_]);repeat' ((conv=>whnf);first|(with_reducible apply W1;fail_if_success (with_reducible show Wo _ _ _ _ (Code.region 10 _ _) _ _))|(with_reducible first|apply W2|apply W3|apply W4|apply W5|apply W6|apply W7|apply W8|apply W9)|apply aB|apply oi|apply fi|intro h|refine⟨k,ln.tr,rfl,aa hl,?_⟩|exact Y8|refine e_ rfl ?_)
   all_goals try exact Q10
   conv=>whnf
   rw[PE];repeat' ((conv=>whnf);first|apply Wx|apply W6|refine cg gX ?_|refine cg gS ?_|apply oi|apply fi|intro h|refine cl gH ?_|refine⟨L.g.I4.length,rfl,Pn,?_⟩|refine⟨_,(gd Rb),?_⟩|exact Y8|refine e_ rfl ?_)
   all_goals try exact Q15
   all_goals try exact Q33
   all_goals try exact⟨UE⟩
   all_goals try exact KK
   all_goals(conv=>whnf)
   all_goals(refine⟨⟨((k+1,bc C x k ln A,d),(zs,os,cU fs (kI k) (L.g.I4.length:Int))),hN,by dsimp only;rw[b2,b1];rw[a5,a4];exact RY,fun h=>by have:=Ri o_;dsimp only at h;omega,Un,UX⟩,?_,KD⟩)
   repeat' ((conv=>whnf);first|apply Wx|apply W6|apply oi|apply fi|intro h|exact Y9|refine e_ rfl ?_)
   all_goals(refine⟨?_⟩;dsimp only;simp only[hB,a4,a5];try rfl)
  ·
   rw[c8 o_,c8 o_,c8 o_,c8 o_,c8 o_]at hA;have PA:=QB o_;have gX:=hX PA o_;obtain⟨US,Vf,it,PD,Rn⟩:=Ya PA o_;have UO:L.g.I4.length∉pd:=fun h=>by have:=S4 _ h;omega
   have UE:=sZ (pd:=pd) PD Rn UO;have Rb:(clr (L.g.I4.length::pd) g1.I4)[L.g.I4.length]?=some (EY it):=(by rw[gg,PD];simp[lH]);have Pn:L.g.I4.length<(itR (clr (L.g.I4.length::pd) g1.I4)).length:=(by rw[bR];exact aw PD);have Sm:dQ ln.I6=true:=hasExpr_iff.2 o_;rw[Sm]at gH;have gS:=ca C pd g1 (d+1) ins q L.lv k 11 0 (-1) aad Rr (fun h=>by rw[Vf]at h;cases h) o_ o_;rw[hq.I5,show d+1+-1=d by omega]at gS;have a1:A.g=aA C g1 (d+1) 11 0 k x.I5:=(by rw[<-hA]);have WB:=bR pd g1.I4;have a4:A.I9=L.I9.set k L.g.I4.length:=(by rw[<-hA]);have a5:A.pos=L.pos.set k g1.I4.length:=(by rw[<-hA]);have a6:A.lv=L.lv:=(by rw[<-hA]);have RY:=hM.opens o_ XM hhk (g1.I4.length:Int) (L.g.I4.length:Int);have hB:bc C x k ln A=A:=(by unfold bc;rw[c8 o_]);repeat' ((conv=>whnf);first|(with_reducible apply W1;fail_if_success (with_reducible show Wo _ _ _ _ (Code.region 10 _ _) _ _))|(with_reducible first|apply W2|apply W3|apply W4|apply W5|apply W6|apply W7|apply W8|apply W9)|apply aB|apply oi|apply fi|intro h|refine⟨k,ln.tr,rfl,aa hl,?_⟩|exact Y8|refine e_ rfl ?_)
   all_goals try exact Q10
   conv=>whnf
   rw[PE];repeat' ((conv=>whnf);first|apply Wx|apply W6|refine cg gX ?_|refine cg gS ?_|apply oi|apply fi|intro h|refine cl gH ?_|refine⟨L.g.I4.length,rfl,Pn,?_⟩|refine⟨_,(gd Rb),?_⟩|exact Y8|refine e_ rfl ?_)
   all_goals try exact Q15
   all_goals try exact Q33
   all_goals try exact⟨UE⟩
   all_goals try exact KK
   all_goals(conv=>whnf)
   all_goals(refine⟨⟨((k+1,bc C x k ln A,d),(cU zs (kI k) (g1.I4.length:Int),os,cU fs (kI k) (L.g.I4.length:Int))),hN,by dsimp only;rw[b2,b1];rw[a5,a4];exact RY,fun h=>by have:=Ri o_;dsimp only at h;omega,Un,UX⟩,?_,KD⟩)
   repeat' ((conv=>whnf);first|apply Wx|apply W6|apply oi|apply fi|intro h|exact Y9|refine e_ rfl ?_)
   all_goals(refine⟨?_⟩;dsimp only;simp only[hB,a1,a4,a5,a6,s7,bR];try rfl)
 ·have Pk:k=e+1:=by have:=hI.hi;omega
  subst Pk;have hf:=hI.fin;rw[y7,gD]at hf;subst hf;rw[Xf rfl];repeat' ((conv=>whnf);first|apply Wx|apply W6|apply oi|apply fi|intro h|exact Y8|refine e_ rfl ?_)
  all_goals try(exfalso;rw[YD]at h;have:=m6 h;omega)
theorem FP {C:Cx}(hC:CxOk C):∀lev,Ez C lev/\wz C lev:=by
 have hL:∀lev,Ez C lev->wz C lev:=fun lev hR=>Gx hC fun e x q ins pd lv k p b ln s d h1 h2 h3 h4 h5=>Bb hC hR e.toks.length e (d7 _) x q ins pd lv k p b ln s d h1 h2 h3 h4 h5;intro lev
 induction lev with
 | zero=>
  have hR:Ez C 0:=by intro x q ins pd lv k g b s d hk hg RB hr;obtain⟨r1,_⟩:=eA RB;have h1:=hr.rm.depth;have h2:=hr.sc.I5;omega
  exact⟨hR,hL 0 hR⟩
 | succ n ih=>have hR:=Ko hC ih.2;exact⟨hR,hL _ hR⟩
abbrev bV (b:Oa):AV:= .r (.agg [.t (.int .i64 b.M5),.t (.int .i64 b.L4),.t (.bool b.N0),.t (.bool b.M9)])
theorem V47{p:Prop}(h:p:=by
 rw[Uc];repeat' ((conv=>whnf);first|apply Wx|apply W6|refine cg g2 ?_|refine cg gLs ?_|apply oi|apply fi|intro h|exact Y8|refine e_ rfl ?_)
 all_goals try exact Q7
 all_goals try exact⟨congrArg (Tr.int .i64) Yr.symm⟩
 all_goals try exact⟨by rw[BA]⟩):p:=h
theorem oq (C:Cx)(hC:CxOk C)(g:Nat)(hg:bO C g)(e5:C.args=argsN C.p g):
  bd prog 219 [vP C.p,tI .i64 (g:Int),bV C.b,tB C.L0,tI .i64 C.J2] [] (.tup [.c (.own (1,0,0)),.c (.t (.int .i64 (dt C g).J1))]) [((1,0,0),.dar 7 (aq ((dt C g).I4.map Oi.tr)) none)]:=by
 refine au hΓ ay func219 rfl d_ rfl rfl ?_;obtain⟨y,hy,PR⟩:=hg;have PW:=hC.len;have hw:=hC.J2;have hin:=hC.inl;have hA:argsN C.p g=y.K0.length:=by rw[argsN,hy]
 have h4:=(hC.line g y hy).2.2.1;have SF:=dz hC ⟨y,hy,PR⟩;have SY:(y.K0.map ah).length=y.K0.length:=s_;have PO:((localsOf C.p (g:Int)).map ah).length=(localsOf C.p (g:Int)).length:=s_;have hS:ScOk C (bg C g) [g]:=⟨⟨y,hy,PR⟩,rfl,⟨v7 _,by simp[bg]⟩,rfl,by simp[bg],fun _=>e5,rfl⟩;obtain⟨e,X9,PX,he3,Ye,_⟩:=hS.endE hC;have gL:=jC C.p (g:Int) o_ (fun z hz=>bx hC.small hz);have gE:=dC C.p (g:Int) o_;have PP:bB C.p (g:Int)=(e:Int):=by rw[bu];exact br X9
 rw[PP]at gE;have PC:((C.b.L4.toNat:Nat):Int)=C.b.L4:=z6 hin.1;have h3:=ur (n:=C.b.L4.toNat) o_
 have gLs:=(FP hC C.b.L4.toNat).2 (bg C g) ⟨(g:Int),(e:Int),localsOf C.p (g:Int),C.args,0,[],C.J2⟩ [g] [] (eK C g) C.J2 hS ⟨rfl,rfl,rfl,fun _=>rfl,hS.out,fun _=>rfl⟩ rfl (by rw[Ye]) rfl rfl (fun i hi=>by cases hi) (by
  rw[Ye];have:=A1 (show e-(bg C g).f<=60 by omega) (show 20*cE C.b.L4.toNat+3<=20*8679837+3 by omega);simp only[eK,aA,b8,e7,c7]
  omega) (by simpa using PC) hw.1 o_
 rw[d5 (by rfl)]at gLs;have g1:=fun code=>ca C [] ⟨[],(localsOf C.p (g:Int)).length-C.args,false⟩ 0 [g] ⟨(g:Int),(e:Int),localsOf C.p (g:Int),C.args,0,[],C.J2⟩ [] g code C.J2 C.J2 (by unfold bM;simp) s_ (fun h=>by cases h) o_ o_;have Yr:IntKind.i64.wrap ((((localsOf C.p (g:Int)).map ah).length:Int)-C.args)=((localsOf C.p (g:Int)).length:Int)-C.args:=by rw[PO,c6 _ o_]
 repeat' ((conv=>whnf);first|(with_reducible apply W1;fail_if_success (with_reducible show Wo _ _ _ _ (Code.region 3 _ _) _ _))|(with_reducible first|apply W2|apply W3|apply W4|apply W5|apply W6|apply W7|apply W8|apply W9)|apply aB|apply oi|apply fi|intro h|refine cl gE ?_|refine cl gL ?_|refine⟨g,y.tr,rfl,aa hy,?_⟩|exact Y8|refine e_ rfl ?_)
 conv=>whnf
 refine kL ⟨[(0,vP C.p),(1,tI .i64 (g:Int)),(3,tB C.L0),(4,tI .i64 C.J2),(12,.r (.c (.ptr (22,0,0) 0))),(13,.r (.c (.ptr (38,0,0) 0)))],
  [(
   (22,0,0),some (.box [.t (.lst 4 (C.p.map Oj.tr)),.t (.int .i64 C.b.M5),.t (.int .i64 C.b.L4),.t (.bool C.b.N0),.t (.bool C.b.M9),.t (.bool C.L0),.t (.int .i64 C.J2),.t (.int .i64 0),.nils 0,.t (.int .i64 0),.own (20,0,0)])),((20,0,0),some (.arr true 1 [ae (g:Int)])),
   ((38,0,0),some (.box [.t (.int .i64 (g:Int)),.t (.int .i64 (e:Int)),.t (.lst 1 ((localsOf C.p (g:Int)).map ah)),.t (.int .i64 C.args),.t (.int .i64 0),.t (.lst 1 []),.t (.int .i64 C.J2),.nils 0]))],_⟩ ?_ ?_ rfl ?_
 ·exact⟨.inl rfl,.inl rfl,.inl rfl,.inl rfl,.inl rfl,.inl rfl,trivial⟩
 ·refine⟨.inr (.inl rfl),.inr (.inl rfl),.inr (.inr (.inl ⟨_,_,rfl,rfl,.inl rfl,.inl rfl,.inr (.inr ⟨_,rfl,rfl,?_⟩),.inl ?_,.inl rfl,.inr (.inr ⟨_,rfl,⟨_,rfl⟩,?_⟩),.inl rfl,.inl rfl,trivial⟩)),trivial⟩
  ·exact V143
  ·rw[e5,SY,hA]
  ·intro q hq;simp[AC.ids]at hq
 refine Dm ⟨[(0,vP C.p),(1,tI .i64 (g:Int)),(3,tB C.L0),(4,tI .i64 C.J2),(12,.r (.c (.ptr (22,0,0) 0))),(13,.r (.c (.ptr (38,0,0) 0)))],
  [((22,0,0),some (yn C ⟨[],0,false⟩ 0 (22,0,1) (22,0,2))),((22,0,1),some (.dar 7 (itR (clr [] [])) none)),((22,0,2),some (.arr false 1 (nw [g]))),((38,0,0),some (ibB ⟨(g:Int),(e:Int),localsOf C.p (g:Int),C.args,0,[],C.J2⟩ (38,0,1))),((38,0,1),some (.arr false 1 []))],[38,22,0]⟩ ?_ ?_
 ·repeat' ((conv=>whnf);first|apply Wx|apply W6|apply oi|apply fi|intro h|exact Y8|refine e_ rfl ?_)
  all_goals try exact⟨by rw[BA]⟩
 cases QX:C.L0 with
 | true=>
  have hh:eK C g=aA C ⟨[],(localsOf C.p (g:Int)).length-C.args,false⟩ 0 13 C.J2 g []:=by rw[eK,d5 QX]
  rw[hh]at gLs;have g2:=g1 13;rw[H3]at g2;have Uc:dt C g=(aV C (bf C C.b.L4.toNat) (bg C g) [g] C.J2 (aA C ⟨[],(localsOf C.p (g:Int)).length-C.args,false⟩ 0 13 C.J2 g [])).1:=by rw[dt,hh]
  exact V47
 | false=>
  have hh:eK C g=aA C ⟨[],(localsOf C.p (g:Int)).length-C.args,false⟩ 0 15 C.J2 g []:=by rw[eK,c8 (by simp[QX])]
  rw[hh]at gLs;have g2:=g1 15;rw[H3]at g2;have Uc:dt C g=(aV C (bf C C.b.L4.toNat) (bg C g) [g] C.J2 (aA C ⟨[],(localsOf C.p (g:Int)).length-C.args,false⟩ 0 15 C.J2 g [])).1:=by rw[dt,hh]
  exact V47
theorem V91{p:Prop}(h:p:=by
 repeat' ((conv=>whnf);first|apply Wx|apply W6|apply oi|apply fi|intro h|refine cl hP ?_|refine cl hB ?_|refine cl gF ?_|refine cl gb ?_|exact Y6|refine e_ rfl ?_)):p:=h
theorem nx (p:List Oj)(f:Int)(b:Oa)(hs:aE 1048576 (.lst 4 (p.map Oj.tr))):bd prog 159 [vP p,tI .i64 f,bV b] [] (.r (.c (.own (1,0,0)))) [((1,0,0),.dar 7 (aq ((aN p f b).map Oi.tr)) none)]:=by
 refine au hΓ ay func159 rfl d_ rfl rfl ?_;have hP:=dG p hs;have hB:=gV b;have hl:=cu hs;have gF:=cy p o_;have OA:((az p).map fun n:Nat=>ae n).length=(az p).length:=s_;have Qy:=pH p 0;change(az p).length<=_ at Qy;have Zp:IntKind.i64.wrap ((((az p).map fun n:Nat=>ae n).length:Int)-1)=((az p).length:Int)-1:=by rw[OA,c6 _ o_]
 have gb:=ak f 0 (IntKind.i64.wrap ((((az p).map fun n:Nat=>ae n).length:Int)-1))
 have TC:af f 0 (IntKind.i64.wrap ((((az p).map fun n:Nat=>ae n).length:Int)-1))=decide (0<=f/\f<(az p).length):=by rw[Zp,af];by_cases h:0<=f/\f<(az p).length<;>simp[h]<;>omega
 rw[TC]at gb;by_cases hc:aj p=true/\aS b=true/\0<=f/\f<(az p).length
 ·have Qc:aN p f b=jw p f.toNat b:=by rw[aN,d5 hc]
  rw[Qc];obtain⟨h1,h2,h3,h4⟩:=hc;rw[show decide (0<=f/\f<(az p).length)=true from r7 ⟨h3,h4⟩]at gb;obtain⟨f,rfl⟩:=j8 h3;rw[e8];rw[h1]at hP;rw[h2]at hB
  have hb:0<=b.L4/\b.L4<=3:=by exact V147
  obtain⟨g,hg⟩:=ab (l:=az p) (k:=f) o_;have Qf:=(sC hs h1).foldIf b;have Th:(az (foldIf p b))[f]?=some g:=by rw[ly];exact hg
  obtain⟨VN,y,hy,PR⟩:=jW (b9 Th);have Tk:=(Qf.line g y hy).2.2.1;have ha:(0:Int)<=(argsN (foldIf p b) g:Int)/\(argsN (foldIf p b) g:Int)<=4:=by rw[argsN,hy];dsimp only;omega
  have S6:CxOk (ctx (foldIf p b) f g b 0):=Qf.cx ha o_ hb;have hm:=qR S6 ⟨y,hy,PR⟩ rfl;have Xc:CxOk (ctx (foldIf p b) f g b (dt (ctx (foldIf p b) f g b 0) g).J1):=Qf.cx ha hm hb;have g0:=oq _ S6 g ⟨y,hy,PR⟩ rfl;have g1:=oq _ Xc g ⟨y,hy,PR⟩ rfl;have Wy:jw p f b=(dt (ctx (foldIf p b) f g b (dt (ctx (foldIf p b) f g b 0) g).J1) g).I4:=by rw[jw,Th]
  rw[Wy]
  generalize dt (ctx (foldIf p b) f g b 0) g=R0 at *
  generalize dt (ctx (foldIf p b) f g b R0.J1) g=R1 at *
  have QD:=rk p hs;rw[show dY p=p.map ba by rw[dY,d5 h1]]at QD;have gF2:=cy (foldIf p b) (t7 Qf.len o_);rw[ly]at gF2;have P2:f<((az p).map fun n:Nat=>ae n).length:=o_;have VF:((az p).map fun n:Nat=>ae n)[f]?=some (ae (g:Int)):=by rw[l6,hg];rfl
  obtain⟨fr,inl,fold,sp⟩:=b
  cases fold with
  | true=>
   have e:foldIf p ⟨fr,inl,true,sp⟩=p.map ba:=rfl;simp only[ctx,e]at g0 g1 gF2;repeat' ((conv=>whnf);first|apply Wx|apply W6|apply oi|apply fi|intro h|refine cl hP ?_|refine cl hB ?_|refine cl gF ?_|refine cl gb ?_|refine cl QD ?_|refine cl gF2 ?_|refine⟨f,rfl,P2,?_⟩|refine⟨_,VF,?_⟩|exact Y8|refine e_ rfl ?_)
   all_goals try exact⟨o_⟩
   all_goals try exact⟨rfl⟩
   conv=>whnf
   refine cg (g0) ?_;repeat' ((conv=>whnf);first|apply Wx|apply W6|refine cg g1 ?_|apply oi|apply fi|intro h|exact Y8|refine e_ rfl ?_)
   all_goals try exact⟨tO _⟩
   all_goals try exact⟨o_⟩
   all_goals try exact⟨rfl⟩
   all_goals try exact KX
  | false=>
   have e:foldIf p ⟨fr,inl,false,sp⟩=p:=rfl;simp only[ctx,e]at g0 g1 gF2;repeat' ((conv=>whnf);first|apply Wx|apply W6|apply oi|apply fi|intro h|refine cl hP ?_|refine cl hB ?_|refine cl gF ?_|refine cl gb ?_|refine⟨f,rfl,P2,?_⟩|refine⟨_,VF,?_⟩|exact Y8|refine e_ rfl ?_)
   all_goals try exact⟨o_⟩
   all_goals try exact⟨rfl⟩
   conv=>whnf
   refine cg (g0) ?_;repeat' ((conv=>whnf);first|apply Wx|apply W6|refine cg g1 ?_|apply oi|apply fi|intro h|exact Y8|refine e_ rfl ?_)
   all_goals try exact⟨tO _⟩
   all_goals try exact⟨o_⟩
   all_goals try exact⟨rfl⟩
   all_goals try exact KX
 ·have Qc:aN p f b=[]:=by rw[aN,c8 hc]
  rw[Qc]
  cases h1:aj p with
  | false=>
   rw[h1]at hP
   exact V91
  | true=>
   rw[h1]at hP
   cases h2:aS b with
   | false=>
    rw[h2]at hB
    exact V91
   | true=>rw[h2]at hB;have N6:¬(0<=f/\f<(az p).length):=fun hh=>hc ⟨h1,h2,hh⟩;rw[show decide (0<=f/\f<(az p).length)=false from y5 N6]at gb;exact V91
theorem nj (p:List Oj)(f:Int)(b:Oa)(hs:aE 1048576 (.lst 4 (p.map Oj.tr))):Sim.Spec prog 159 [tvP p,tvI f,.agg b.tr] (rL 7 ((aN p f b).map Oi.tr)):=
 Fo (ts:=[tvP p,tvI f,.agg b.tr]) (nx p f b hs)
theorem yc (f:Nat)(b:Oa)(image:Int)(hf:f<=100):Sim.Spec prog 157 [tvI (f:Int),.agg b.tr,tvI image] (rB (uF b image f)):=by
 refine aI hΓ ay func157 rfl d_ rfl ?_;unfold uF;have hm:(f:Int).tmod 2=(f:Int)%2:=w5 o_;repeat' ((conv=>whnf);first|apply Wx|apply W6|apply oi|apply fi|intro h|exact Y8|refine e_ rfl ?_)
 all_goals exact⟨by simp[h,hm]⟩
theorem qZ (p:List Oj)(b:Oa)(image:Int)(hs:aE 1048576 (.lst 4 (p.map Oj.tr)))(h1:aj p=true)(h2:aS b=true):bd prog 79 [vP p,bV b,tI .i64 image] [] (.tup [.c (.own (1,0,0)),.c (.own (1,0,1))]) [((1,0,0),.arr true 1 (fm (bT p b image (az p).length 0 0))),((1,0,1),.dar 1 (aq (cG (bT p b image (az p).length 0 0))) none)]:=by
 refine au hΓ ay func79 rfl d_ rfl rfl ?_;obtain⟨h6,PW⟩:=eH h1;have gF:=cy p o_;have OA:((az p).map fun n:Nat=>ae n).length=(az p).length:=s_;repeat' ((conv=>whnf);first|apply Wx|apply W6|apply oi|apply fi|intro h|refine cl gF ?_|exact Y8|refine e_ rfl ?_)
 conv=>whnf
 refine⟨Mx p b image,fun q=>⟨[(0,vP p),(2,tI .i64 image),(4,.r (.c (.ptr (4,0,0) 0))),(8,.r (.c (.own (14,0,0)))),(9,.r (.c (.own (15,0,0)))),(10,tI .i64 q.1.2.1),(18,tI .i64 (((az p).map fun n:Nat=>ae n).length:Int)),(19,tI .i64 (q.1.1:Int))],[((14,0,0),some (.arr true 1 (fm q.1.2.2))),((15,0,0),some (.dar 1 (aq (cG q.1.2.2)) none)),((4,0,0),some (.box [.t (.int .i64 b.M5),.t (.int .i64 b.L4),.t (.bool b.N0),.t (.bool b.M9)]))],[14,15,4,0]⟩,fun q=>(az p).length-q.1.1,⟨(0,0,[]),s_,s_,s_,s_⟩,?_,?_⟩
 ·exact Z2
 intro⟨⟨f,at0,acc⟩,hk,ha,OC,hr⟩;dsimp only at hk ha OC hr⊢;have Pn:(fm acc).length=acc.length:=by simp[fm]
 have Pl:(aq (cG acc)).length=acc.length:=by rw[di];simp[cG]
 by_cases N2:f<(az p).length
 ·obtain⟨n,hn⟩:∃n,(az p).length-f=n+1:=⟨(az p).length-f-1,o_⟩;have hi:=yc f b image o_;rw[hn,pS]at hr
  cases hin:uF b image f with
  | false=>
   rw[hin]at hi hr;rw[c8 s_]at hr;repeat' ((conv=>whnf);first|apply Wx|apply W6|apply oi|apply fi|intro h|refine cl hi ?_|exact Y6|refine e_ rfl ?_)
   conv=>whnf
   refine⟨⟨(f+1,at0,acc),g_,g_,g_,by dsimp only;rw[show(az p).length-(f+1)=n by omega];exact hr⟩,?_,KD⟩
   exact Z5
  | true=>
   rw[hin]at hi hr;rw[d5 rfl]at hr;have Qh:=nj p (f:Int) b hs;obtain⟨f1,f2,f3⟩:=KA (f:=f) hs h1 h2 N2;have ON:=(ij (p:=p) (f:=(f:Int)) (b:=b) hs).2
   generalize aN p (f:Int) b=I at *
   have gP:=nU I at0 f2 o_ f3 (fun x hx=>by have:=ON x hx;omega);obtain⟨y,y1,y2,y3,y4⟩:=Ca (at0:=at0) f1;have ye:=GB (l:=I) (at0:=at0);have hz:=iP y.I8.J6.J4;have ho:=ga y.I8.J6.J4;have Pw:=cP I at0;have QY:(aq ((dv I at0).map Om.tr)).length=I.length:=(by rw[di,d9,Pw]);have Rp:IntKind.i64.wrap (((aq ((dv I at0).map Om.tr)).length:Int)-1)=((I.length-1:Nat):Int):=(by rw[QY,c6 _ o_];omega);have hlx:I.length-1<(aq ((dv I at0).map Om.tr)).length:=o_;have hgx:(aq ((dv I at0).map Om.tr))[I.length-1]?=some (y.tr.map .d):=(by rw[aq,l6,l6,y1];rfl);repeat' ((conv=>whnf);first|apply Wx|apply W6|refine cg gP ?_|apply oi|apply fi|intro h|refine cl hi ?_|refine cl Qh ?_|refine⟨_,Rp,hlx,?_⟩|refine⟨_,hgx,?_⟩|refine cl ho ?_|exact Y6|refine e_ rfl ?_)
   all_goals try exact⟨tO _⟩
   all_goals try exact⟨⟨by simp only[e7,c7,Pn,Pl]<;>omega,by simp only[e7,c7,Pn,Pl]<;>omega⟩⟩
   conv=>whnf
   refine⟨⟨(f+1,xE at0 I,acc++[(f,dv I at0)]),g_,g_,by simp;omega,by dsimp only;rw[j9,show(az p).length-(f+1)=n by omega];exact hr⟩,?_,KD⟩;repeat' ((conv=>whnf);first|apply Wx|apply W6|apply oi|apply fi|intro h|exact Y9|refine e_ rfl ?_)
   all_goals try exact⟨congrArg (Tr.int .i64) (by rw[c6 _ o_,y2])⟩
   all_goals try exact⟨by rw[fm,fm,ne];rfl⟩
   all_goals try exact⟨by rw[cG,cG,ne,jE];rfl⟩
 ·rw[show(az p).length-f=0 by omega]at hr;have Pf:acc=bT p b image (az p).length 0 0:=by rw[<-hr];simp[bT]
  repeat' ((conv=>whnf);first|apply Wx|apply W6|apply oi|apply fi|intro h|exact Y6|refine e_ rfl ?_)
  all_goals exact⟨by rw[Pf]⟩
theorem kF (p:List Oj)(b:Oa)(image:Int)(hs:aE 1048576 (.lst 4 (p.map Oj.tr)))(h1:aj p=true)(h2:aS b=true):Sim.Spec prog 79 [tvP p,.agg b.tr,tvI image] (.tup [.c (.arr 1 (fm (bT p b image (az p).length 0 0))),.c (.arr 1 (cG (bT p b image (az p).length 0 0)))]):=by
 refine AD (ts:=[tvP p,.agg b.tr,tvI image]) (qZ p b image hs h1 h2) rfl ⟨trivial,trivial,trivial⟩ ⟨rfl,rfl,?_⟩;conv=>whnf
 refine⟨rfl,rfl,?_⟩;conv=>whnf
 exact⟨trivial,rfl,rfl,rfl,rfl⟩
theorem wc (p:List Oj)(b:Oa)(image:Int)(hs:aE 1048576 (.lst 4 (p.map Oj.tr))):Sim.Spec prog 28 [tvP p,.agg b.tr,tvI image] (rL 8 ((aH p b image).map Om.tr)):=by
 refine aI hΓ ay func28 rfl d_ rfl ?_;have hP:=dG p hs;have hB:=gV b;have gb:=ak image 0 1;by_cases hc:aj p=true/\aS b=true/\af image 0 1=true
 ·have Qc:aH p b image=aC (bT p b image (az p).length 0 0):=by rw[aH,d5 hc];rfl
  rw[Qc];obtain⟨h1,h2,h3⟩:=hc;rw[h1]at hP;rw[h2]at hB;rw[h3]at gb;have gi:=kF p b image hs h1 h2;have PO:=fX p b image (az p).length 0 0;have QJ:=fun x (hx:x∈bT p b image (az p).length 0 0)=>(fV hs hx).1;obtain⟨h6,PW⟩:=eH h1
  generalize bT p b image (az p).length 0 0=L at *
  have Pl:(cG L).length=L.length:=by simp[cG]
  repeat' ((conv=>whnf);first|apply Wx|apply W6|apply oi|apply fi|intro h|refine cl hP ?_|refine cl hB ?_|refine cl gb ?_|refine cl gi ?_|exact Y8|refine e_ rfl ?_)
  conv=>whnf
  refine⟨{k:Nat//k<=L.length},fun k=>⟨[(33,.r (.c (.own (29,1,0)))),(34,tI .i64 ((cG L).length:Int)),(35,tI .i64 (k.1:Int)),(9,.r (.c (.own (32,0,0))))],[((29,1,0),some (.arr true 1 (cG L))),((32,0,0),some (.arr true 8 ((aC (L.take k.1)).map Om.tr)))],[29,32]⟩,fun k=>L.length-k.1,⟨0,o_⟩,?_,?_⟩
  ·exact Z2
  intro⟨k,hk⟩;dsimp only;have Pw:=iW QJ hk;by_cases N2:k<L.length
  ·obtain⟨x,hx⟩:=ab N2;have Rv:=QJ x (b9 hx);have T9:(cG L)[k]?=some [.lst 8 (x.2.map Om.tr)]:=(by rw[cG,l6,hx];rfl);have QA:k<(cG L).length:=o_;repeat' ((conv=>whnf);first|apply Wx|apply W6|apply oi|apply fi|intro h|refine⟨k,rfl,QA,?_⟩|refine⟨_,T9,?_⟩|exact Y6|refine e_ rfl ?_)
   all_goals try exact⟨⟨by simp only[d9]<;>omega,by simp only[d9]<;>omega⟩⟩
   conv=>whnf
   refine⟨⟨k+1,o_⟩,?_,KD⟩;repeat' ((conv=>whnf);first|apply Wx|apply W6|apply oi|apply fi|intro h|exact Y9|refine e_ rfl ?_)
   all_goals try exact⟨by rw[xd hx,ne]⟩
  ·have OZ:k=L.length:=o_;subst OZ;repeat' ((conv=>whnf);first|apply Wx|apply W6|apply oi|apply fi|intro h|exact Y6|refine e_ rfl ?_)
   all_goals try exact⟨by rw[gt (d7 _)]⟩
 ·exact V10
theorem V106{p:Prop}(h:p:=by
 repeat' ((conv=>whnf);first|apply Wx|apply W6|apply oi|apply fi|intro h|refine cl hP ?_|refine cl hB ?_|refine cl gb ?_|exact Y6|refine e_ rfl ?_)):p:=h
theorem nX (p:List Oj)(b:Oa)(image:Int)(hs:aE 1048576 (.lst 4 (p.map Oj.tr))):Sim.Spec prog 87 [tvP p,.agg b.tr,tvI image] (.r (.agg ((be p b image).tr.map IU))):=by
 refine aI hΓ ay func87 rfl d_ rfl ?_;have hP:=dG p hs;have hB:=gV b;have gb:=ak image 0 1;by_cases hc:aj p=true/\aS b=true/\af image 0 1=true
 ·have Qc:be p b image=⟨ax (aC (bT p b image (az p).length 0 0)),bZ p 0 (bT p b image (az p).length 0 0)⟩:=by rw[be,d5 hc]
  rw[Qc];obtain⟨h1,h2,h3⟩:=hc;rw[h1]at hP;rw[h2]at hB;rw[h3]at gb;obtain⟨h6,PW⟩:=eH h1;have gF:=cy p o_;have OA:((az p).map fun n:Nat=>ae n).length=(az p).length:=s_;have gi:=kF p b image hs h1 h2;have PO:=fX p b image (az p).length 0 0;have QJ:=fun x (hx:x∈bT p b image (az p).length 0 0)=>(fV hs hx).1;have WT:=fun x (hx:x∈bT p b image (az p).length 0 0)=>(pg hx).2
  generalize bT p b image (az p).length 0 0=L at *
  have Pl:(cG L).length=L.length:=by simp[cG]
  have Pn:(fm L).length=L.length:=by simp[fm]
  repeat' ((conv=>whnf);first|apply Wx|apply W6|apply oi|apply fi|intro h|refine cl hP ?_|refine cl hB ?_|refine cl gb ?_|refine cl gi ?_|exact Y8|refine e_ rfl ?_)
  conv=>whnf
  refine⟨{k:Nat//k<=L.length},fun k=>⟨[(0,vP p),(6,.r (.c (.ptr (6,0,0) 0))),(7,.r (.c (.ptr (7,0,0) 0))),(8,.r (.c (.own (34,0,0)))),(37,.r (.c (.own (34,1,0)))),(38,tI .i64 ((cG L).length:Int)),(39,tI .i64 (k.1:Int))],[((6,0,0),some (.box [.t (.str []),.nils 0])),((7,0,0),some (.box [.t (.str (ax (aC (L.take k.1)))),.own (7,0,1)])),((7,0,1),some (.arr true 3 ((bZ p 0 (L.take k.1)).map Ot.tr))),((34,0,0),some (.arr true 1 (fm L))),((34,1,0),some (.arr true 1 (cG L)))],[34,7,6]⟩,fun k=>L.length-k.1,⟨0,o_⟩,?_,?_⟩
  ·exact Z2
  intro⟨k,hk⟩;dsimp only;have Pw:=iW QJ hk;have OJ:=eL (aC (L.take k));have Tf:(bZ p 0 (L.take k)).length=k:=by rw[kP,j5];omega
  by_cases N2:k<L.length
  ·obtain⟨x,hx⟩:=ab N2;have Rv:=QJ x (b9 hx);have Sl:=WT x (b9 hx);obtain⟨g,hg⟩:=ab (l:=az p) (k:=x.1) o_;obtain⟨VN,ln,ZP,_⟩:=jW (b9 hg);have Pm:cp p x.1=ln.J0:=(by rw[cp,hg];dsimp only;rw[ZP]);have T9:(cG L)[k]?=some [.lst 8 (x.2.map Om.tr)]:=(by rw[cG,l6,hx];rfl);have Us:(fm L)[k]?=some (ae (x.1:Int)):=(by rw[fm,l6,hx];rfl);have VF:((az p).map fun n:Nat=>ae (n:Int))[x.1]?=some (ae (g:Int)):=(by rw[l6,hg];rfl);have QA:k<(cG L).length:=o_;have PQ:k<(fm L).length:=o_;have Xe:(x.2.map Om.tr).length=x.2.length:=s_;have YJ:x.1<((az p).map fun n:Nat=>ae (n:Int)).length:=(by rw[OA];omega);have XV:bZ p 0 (L.take (k+1))=bZ p 0 (L.take k)++[⟨cp p x.1,0+(ax (aC (L.take k))).length,(ax x.2).length⟩]:=(by rw[cn hx,oX]);have Vs:ax (aC (L.take (k+1)))=ax (aC (L.take k))++ax x.2:=(by rw[cn hx,mQ,aW]);have VI:=eL x.2
   generalize hSS:bZ p 0 (L.take (k+1))=S1 at *
   generalize Qm:bZ p 0 (L.take k)=S0 at *
   generalize hCC:ax (aC (L.take (k+1)))=C1 at *
   generalize S6:ax (aC (L.take k))=C0 at *
   repeat' ((conv=>whnf);first|apply Wx|apply W6|apply oi|apply fi|intro h|refine⟨k,rfl,QA,?_⟩|refine⟨_,T9,?_⟩|exact Y6|refine e_ rfl ?_)
   conv=>whnf
   refine⟨{j:Nat//j<=x.2.length},fun j=>⟨[(0,vP p),(6,.r (.c (.ptr (6,0,0) 0))),(7,.r (.c (.ptr (7,0,0) 0))),(8,.r (.c (.own (34,0,0)))),(37,.r (.c (.own (34,1,0)))),(38,tI .i64 ((cG L).length:Int)),(39,tI .i64 (k:Int)),(10,tI .i64 (k:Int)),(12,tI .i64 (C0.length:Int)),(47,.r (.c (.t (.lst 8 (x.2.map Om.tr))))),(48,tI .i64 ((x.2.map Om.tr).length:Int)),(49,tI .i64 (j.1:Int))],[((6,0,0),some (.box [.t (.str []),.nils 0])),((7,0,0),some (.box [.t (.str (C0++ax (x.2.take j.1))),.own (7,0,1)])),((7,0,1),some (.arr true 3 ((S0).map Ot.tr))),((34,0,0),some (.arr true 1 (fm L))),((34,1,0),some (.arr true 1 (cG L)))],[34,7,6]⟩,fun j=>x.2.length-j.1,⟨0,o_⟩,?_,?_⟩
   ·repeat' ((conv=>whnf);first|apply Wx|apply W6|apply oi|apply fi|intro h|exact Y8|refine e_ rfl ?_)
    all_goals try exact⟨by simp[ax]⟩
   intro⟨j,hj⟩;dsimp only;have ZY:=eL (x.2.take j);have XD:(x.2.take j).length<=2500:=(by rw[j5];omega);by_cases Pg:j<x.2.length
   ·obtain⟨y,hy⟩:=ab Pg;have hE:=vJ y.I8.J6;have hE5:=pj y.I8.J6;have hym:=aa (f:=Om.tr) hy;have P9:ax (x.2.take (j+1))=ax (x.2.take j)++bk y.I8.J6:=(by rw[cn hy,aW,eM]);repeat' ((conv=>whnf);first|apply Wx|apply W6|apply oi|apply fi|intro h|refine⟨j,y.tr,rfl,hym,?_⟩|refine cl hE ?_|exact Y20|refine e_ rfl ?_)
    conv=>whnf
    refine⟨⟨j+1,o_⟩,?_,KD⟩;repeat' ((conv=>whnf);first|apply Wx|apply W6|apply oi|apply fi|intro h|exact Y9|refine e_ rfl ?_)
    all_goals try exact⟨by dsimp only;rw[P9,j9]⟩
   ·have P3:j=x.2.length:=o_;subst P3;rw[gt (d7 _),<-Vs];repeat' ((conv=>whnf);first|apply Wx|apply W6|apply oi|apply fi|intro h|refine cl gF ?_|refine⟨k,rfl,PQ,?_⟩|refine⟨_,Us,?_⟩|refine⟨x.1,rfl,YJ,?_⟩|refine⟨_,VF,?_⟩|refine⟨g,ln.tr,rfl,aa ZP,?_⟩|exact Y6|refine e_ rfl ?_)
    all_goals try exact⟨⟨by simp only[e7,c7,d9,Tf]<;>omega,by simp only[e7,c7,d9,Tf]<;>omega⟩⟩
    conv=>whnf
    refine⟨⟨k+1,o_⟩,?_,KD⟩;repeat' ((conv=>whnf);first|apply Wx|apply W6|apply oi|apply fi|intro h|exact Y9|refine e_ rfl ?_)
    all_goals try exact⟨by rw[hCC]⟩
    all_goals exact⟨by
     have e:C1.length=C0.length+(ax x.2).length:=(by rw[Vs,b8]);dsimp only;rw[hSS,XV,ne,Pm,c6 _ o_,show(C1.length:Int)-C0.length=((ax x.2).length:Int) by omega,H3]
     rfl⟩
  ·have OZ:k=L.length:=o_;subst OZ;rw[gt (d7 _)];exact Z6
 ·have Qc:be p b image=⟨[],[]⟩:=by rw[be,c8 hc]
  rw[Qc]
  cases h1:aj p with
  | false=>
   rw[h1]at hP
   exact V106
  | true=>
   rw[h1]at hP
   cases h2:aS b with
   | false=>
    rw[h2]at hB
    exact V106
   | true=>
    rw[h2]at hB
    cases h3:af image 0 1 with
    | true=>exact absurd ⟨h1,h2,h3⟩ hc
    | false=>rw[h3]at gb;exact V106
theorem vZ (l m:List Int)(hl:l.length<=1048576)(hm:m.length<=1048576):Sim.Spec prog 181 [tvL 1 (l.map ae),tvL 1 (m.map ae)] (rB (l==m)):=by
 refine aI hΓ ay func181 rfl d_ rfl ?_;have h1:(l.map ae).length=l.length:=s_;have h2:(m.map ae).length=m.length:=s_;by_cases N1:l.length=m.length
 ·obtain⟨R,hR⟩:∃R,(l==m)=R:=⟨_,rfl⟩;rw[hR];repeat' ((conv=>whnf);first|apply Wx|apply W6|apply oi|apply fi|intro h|exact Y8|refine e_ rfl ?_)
  all_goals try(exfalso;rw[h1,h2,N1]at h;simp at h;done)
  conv=>whnf
  refine⟨{k:Nat//k<=l.length/\(l.drop k==m.drop k)=R},fun k=>⟨[(0,.r (.c (.t (.lst 1 (l.map ae))))),(1,.r (.c (.t (.lst 1 (m.map ae))))),(12,tI .i64 ((l.map ae).length:Int)),(13,tI .i64 (k.1:Int))],[],[]⟩,fun k=>l.length-k.1,⟨0,o_,hR⟩,?_,?_⟩
  ·exact Z2
  intro⟨k,hk,hr⟩;dsimp only at hk hr⊢;by_cases N2:k<l.length
  ·obtain⟨x,hx⟩:=ab N2;obtain⟨y,hy⟩:=ab (l:=m) (k:=k) o_;rw[aP hx,aP hy,List.cons_beq_cons]at hr;by_cases he:x=y
   ·rw[x7.2 he,m7]at hr;repeat' ((conv=>whnf);first|apply Wx|apply W6|apply oi|apply fi|intro h|refine⟨k,(ae x),rfl,aa hx,?_⟩|refine⟨k,(ae y),rfl,aa hy,?_⟩|exact Y6|refine e_ rfl ?_)
    all_goals try exact Q3
    conv=>whnf
    refine⟨⟨k+1,o_,hr⟩,?_,KD⟩;exact Z7
   ·rw[x5.2 he,q9]at hr;subst hr;repeat' ((conv=>whnf);first|apply Wx|apply W6|apply oi|apply fi|intro h|refine⟨k,(ae x),rfl,aa hx,?_⟩|refine⟨k,(ae y),rfl,aa hy,?_⟩|exact Y6|refine e_ rfl ?_)
    all_goals try exact Q3
  ·rw[d8 o_,d8 o_]at hr;have hr:true=R:=hr;subst hr;exact Z6
 ·have:(l==m)=false:=by rw[x5];intro e;exact N1 (by rw[e])
  rw[this];repeat' ((conv=>whnf);first|apply Wx|apply W6|apply oi|apply fi|intro h|exact Y8|refine e_ rfl ?_)
  all_goals(exfalso;rw[h1,h2]at h;simp at h;omega)
theorem qE (p:List Oj)(x:Oi)(lv:Nat)(hp:p.length<=1048576)(RG:lv<=1048576):Sim.Spec prog 180 [tvP p,.agg x.tr,tvI lv] (rS (aT p x lv)):=by
 refine aI hΓ ay func180 rfl d_ rfl ?_;have OJ:(x.J3.map ae).length=x.J3.length:=s_;have R7:IntKind.i64.wrap ((lv:Int)+1)=((lv+1:Nat):Int):=by rw[c6 _ o_];omega
 unfold aT;by_cases N2:lv+1<x.J3.length
 ·obtain⟨c,hc⟩:=ab N2;rw[hc];have hF:=iD p c hp;dsimp only
  generalize aJ p c=nm at *
  repeat' ((conv=>whnf);first|apply Wx|apply W6|apply oi|apply fi|intro h|refine⟨(lv+1),(ae c),R7,aa hc,?_⟩|refine cl hF ?_|exact Y8|refine e_ rfl ?_)
  all_goals try(exfalso;have h':=n6 h;rw[R7]at h';omega)
 ·rw[e9 o_];have hF:=iD p x.J9 hp;dsimp only
  generalize aJ p x.J9=nm at *
  repeat' ((conv=>whnf);first|apply Wx|apply W6|apply oi|apply fi|intro h|refine cl hF ?_|exact Y8|refine e_ rfl ?_)
  all_goals try(exfalso;have h':=m6 h;rw[R7]at h';omega)
theorem fo (x:Om)(h0:0<=x.J7)(h1:x.J7<=1000000):Sim.Spec prog 182 [.agg x.tr] (rI (mD x)):=by
 refine aI hΓ ay func182 rfl d_ rfl ?_;have hS:=ga x.I8.J6.J4;have OH:=iP x.I8.J6.J4;unfold mD
 generalize bp x.I8.J6.J4=z at *
 repeat' ((conv=>whnf);first|apply Wx|apply W6|apply oi|apply fi|intro h|refine cl hS ?_|exact Y8|refine e_ rfl ?_)
 all_goals exact⟨by rw[c6 _ o_]⟩
abbrev vPl (l:List Om):AV:= .r (.c (.t (.lst 8 (l.map Om.tr))))
theorem DQ {x:Om}(hs:aX 1048576 x.tr):x.I8.J3.length<=1048576:=by
 have:aE 1048576 (.lst 1 (x.I8.J3.map ae)):=by unfold Om.tr at hs;simp only[Oi.tr,p0,aX]at hs;exact hs.2.2.2.2.2.1
 have:=mC this;omega
theorem V78{p:Prop}(h:p:=by
 repeat' ((conv=>whnf);first|apply Wx|apply W6|apply oi|apply fi|intro h|exact Y7|refine e_ rfl ?_)
 all_goals try exact⟨congrArg (Tr.int _) (by dsimp only;rw[OJ];(try split)<;>omega)⟩):p:=h
theorem Q32{p:Prop}(h:p:=by exact⟨by simp[dh,Oh.tr,Xr]⟩):p:=h
theorem tP (p:List Oj)(l:List Om)(hp:aE 1048576 (.lst 4 (p.map Oj.tr)))(hl:aE 1048576 (.lst 8 (l.map Om.tr)))(ON:pp l<=1048576):Sim.Spec prog 102 [tvP p,tvL 8 (l.map Om.tr)] (rL 5 ((bD p l).map Oh.tr)):=by
 refine aI hΓ ay func102 rfl d_ rfl ?_;have hP:=dG p hp;have Pw:=cu hp;have PO:=cu hl;have N1:(l.map Om.tr).length=l.length:=s_;have Qh:∀x∈l,x.I8.J3.length<=1048576:=fun x hx=>DQ (bx hl hx)
 cases R6:aj p with
 | false=>
  rw[R6]at hP;have:bD p l=[]:=by rw[bD,c8 (by simp[R6])]
  rw[this]
  repeat' ((conv=>whnf);first|apply Wx|apply W6|apply oi|apply fi|intro h|refine cl hP ?_|exact Y6|refine e_ rfl ?_)
 | true=>
  rw[R6]at hP
  cases XZ:near l with
  | false=>
   have:bD p l=[]:=(by rw[bD,c8 (by simp[XZ])]);rw[this];repeat' ((conv=>whnf);first|apply Wx|apply W6|apply oi|apply fi|intro h|refine cl hP ?_|exact Y6|refine e_ rfl ?_)
   conv=>whnf
   refine⟨{q:Nat×Nat//q.1<=l.length/\near (l.drop q.1)=false},fun q=>⟨[(0,vP p),(1,vPl l),(5,tI .i64 (q.1.2:Int)),(17,vPl l),(18,tI .i64 ((l.map Om.tr).length:Int)),(19,tI .i64 (q.1.1:Int))],[],[]⟩,fun q=>l.length-q.1.1,⟨(0,0),g_,XZ⟩,?_,?_⟩
   ·exact Z2
   intro⟨⟨k,d⟩,hk,hr⟩;dsimp only at hk hr⊢;by_cases N2:k<l.length
   ·obtain⟨x,hx⟩:=ab N2;rw[GJ hx]at hr;have hB:=ak x.J7 0 1000000;have OJ:(x.I8.J3.map ae).length=x.I8.J3.length:=s_
    cases hb:af x.J7 0 1000000 with
    | false=>
     rw[hb]at hB
     repeat' ((conv=>whnf);first|apply Wx|apply W6|apply oi|apply fi|intro h|refine⟨k,x.tr,rfl,aa hx,?_⟩|refine cl hB ?_|exact Y6|refine e_ rfl ?_)
    | true=>
     rw[hb]at hB hr;rw[m7]at hr;repeat' ((conv=>whnf);first|apply Wx|apply W6|apply oi|apply fi|intro h|refine⟨k,x.tr,rfl,aa hx,?_⟩|refine cl hB ?_|exact Y6|refine e_ rfl ?_)
     all_goals
      conv=>whnf
      refine⟨⟨(k+1,max d x.I8.J3.length),g_,hr⟩,?_,KD⟩;exact V78
   ·rw[d8 o_]at hr
    cases hr
  | true=>
   have P0:bD p l=oO p l (jN l 0) 0:=(by rw[bD,d5 ⟨R6,XZ⟩]);have Pm:=Dk XZ;rw[P0];obtain⟨D,hD⟩:∃D,jN l 0=D:=⟨_,rfl⟩;have ZG:jN (l.drop 0) 0=D:=hD;obtain⟨R,hR⟩:∃R,oO p l (jN l 0) 0=R:=⟨_,rfl⟩;rw[hR];rw[hD]at hR;repeat' ((conv=>whnf);first|apply Wx|apply W6|apply oi|apply fi|intro h|refine cl hP ?_|exact Y6|refine e_ rfl ?_)
   conv=>whnf
   refine⟨{q:Nat×Nat//q.1<=l.length/\q.2<=1048576/\jN (l.drop q.1) q.2=D},fun q=>⟨[(0,vP p),(1,vPl l),(5,tI .i64 (q.1.2:Int)),(17,vPl l),(18,tI .i64 ((l.map Om.tr).length:Int)),(19,tI .i64 (q.1.1:Int))],[],[]⟩,fun q=>l.length-q.1.1,⟨(0,0),g_,g_,ZG⟩,?_,?_⟩
   ·exact Z2
   intro⟨⟨k,d⟩,hk,hd,hr⟩;dsimp only at hk hd hr⊢;by_cases N2:k<l.length
   ·obtain⟨x,hx⟩:=ab N2;rw[JX hx]at hr;have hB:=ak x.J7 0 1000000;have OJ:(x.I8.J3.map ae).length=x.I8.J3.length:=s_;have VI:=Qh x (b9 hx);rw[within_iff.2 (Pm x (b9 hx))]at hB;repeat' ((conv=>whnf);first|apply Wx|apply W6|apply oi|apply fi|intro h|refine⟨k,x.tr,rfl,aa hx,?_⟩|refine cl hB ?_|exact Y6|refine e_ rfl ?_)
    all_goals
     conv=>whnf
     refine⟨⟨(k+1,max d x.I8.J3.length),g_,g_,hr⟩,?_,KD⟩;exact V78
   ·rw[d8 o_,jN]at hr;subst hr;clear hD ZG P0;repeat' ((conv=>whnf);first|apply Wx|apply W6|apply oi|apply fi|intro h|exact Y6|refine e_ rfl ?_)
    conv=>whnf
    refine⟨{q:Nat×List Oh//q.1<=d/\q.2.length+dk q.1 l<=1048576/\q.2++oO p l (d-q.1) q.1=R},fun q=>⟨[(0,vP p),(1,vPl l),(5,tI .i64 (d:Int)),(8,.r (.c (.own (8,0,0)))),(9,tI .i64 (q.1.1:Int))],[((8,0,0),some (.arr true 5 (q.1.2.map Oh.tr)))],[8]⟩,fun q=>d-q.1.1,⟨(0,[]),g_,by rw[jB];simpa using ON,by simpa using hR⟩,?_,?_⟩
    ·exact Z2
    intro⟨⟨lv,acc⟩,RG,QP,hr⟩;dsimp only at RG QP hr⊢;by_cases N2:lv<d
    ·obtain⟨n,hn⟩:∃n,d-lv=n+1:=⟨d-lv-1,o_⟩;have SM:d-(lv+1)=n:=o_;rw[hn,oO]at hr;have h0:lvN p l lv (l.length-0) 0=lvN p l lv l.length 0:=(by rw[v3]);rw[<-h0]at hr;rw[lW]at QP;have V0:acc.length+(vY lv (l.drop 0)+dk (lv+1) l)<=1048576:=QP;have R7:IntKind.i64.wrap ((lv:Int)+1)=((lv+1:Nat):Int):=(by rw[c6 _ o_];omega);repeat' ((conv=>whnf);first|apply Wx|apply W6|apply oi|apply fi|intro h|exact Y6|refine e_ rfl ?_)
     conv=>whnf
     refine⟨{q:Nat×List Oh//q.1<=l.length/\q.2.length+(vY lv (l.drop q.1)+dk (lv+1) l)<=1048576/\q.2++(lvN p l lv (l.length-q.1) q.1++oO p l n (lv+1))=R},fun q=>⟨[(0,vP p),(1,vPl l),(5,tI .i64 (d:Int)),(8,.r (.c (.own (8,0,0)))),(9,tI .i64 (lv:Int)),(10,tI .i64 (q.1.1:Int))],[((8,0,0),some (.arr true 5 (q.1.2.map Oh.tr)))],[8]⟩,fun q=>l.length-q.1.1,⟨(0,acc),g_,V0,hr⟩,?_,?_⟩
     ·exact Z2
     clear hr QP V0 h0;intro⟨⟨i,acc⟩,hi,QP,hr⟩;dsimp only at hi QP hr⊢;by_cases O3:i<l.length
     ·obtain⟨x,hx⟩:=ab O3;have OJ:(x.I8.J3.map ae).length=x.I8.J3.length:=s_;have VI:=Qh x (b9 hx);have hxo:=Pm x (b9 hx);rw[Jr hx]at hr;rw[tV hx]at QP;by_cases WD:lv<x.I8.J3.length
      ·obtain⟨c,hc⟩:=ab WD;rw[d5 WD]at QP;rw[hc]at hr;dsimp only at hr;have hN:=qE p x.I8 lv Pw o_;obtain⟨nm,Xr⟩:∃nm,aT p x.I8 lv=nm:=⟨_,rfl⟩;rw[Xr]at hN hr;have Pl:=kb (p:=p) (ch:=x.I8.J3) (lv:=lv) (nm:=nm) (l:=l.drop (i+1)) (k:=i+1);rw[t8]at Pl;obtain⟨E,hE⟩:∃E,gT p x.I8.J3 lv nm (l.drop (i+1)) (i+1)=E:=⟨_,rfl⟩;rw[hE]at hr Pl;repeat' ((conv=>whnf);first|apply Wx|apply W6|apply oi|apply fi|intro h|refine⟨i,x.tr,rfl,aa hx,?_⟩|refine cl hN ?_|exact Y6|refine e_ rfl ?_)
       all_goals try(exfalso;have h':=m6 h;rw[OJ]at h';omega)
       conv=>whnf
       refine⟨{k:Nat//i<k/\k<=l.length/\gT p x.I8.J3 lv nm (l.drop k) k=E},fun q=>⟨[(0,vP p),(1,vPl l),(5,tI .i64 (d:Int)),(8,.r (.c (.own (8,0,0)))),(9,tI .i64 (lv:Int)),(10,tI .i64 (i:Int)),(11,.r (.c (.t (.lst 1 (x.I8.J3.map ae))))),(12,tI .i64 (q.1:Int)),(13,tS nm)],[((8,0,0),some (.arr true 5 (acc.map Oh.tr)))],[8]⟩,fun q=>l.length-q.1,⟨i+1,o_,o_,hE⟩,?_,?_⟩
       ·repeat' ((conv=>whnf);first|apply Wx|apply W6|apply oi|apply fi|intro h|exact Y7|refine e_ rfl ?_)
        all_goals try exact⟨by dsimp only;congr 1;omega⟩
       intro⟨k,Ph,OZ,hk⟩;dsimp only at Ph OZ hk⊢;by_cases YX:k<l.length
       ·obtain⟨y,hy⟩:=ab YX;have P9:=Qh y (b9 hy);have WQ:(y.I8.J3.map ae).length=y.I8.J3.length:=s_;have S8:=qE p y.I8 lv Pw o_;rw[Ch hy,qV]at hk
        generalize aT p y.I8 lv=ny at *
        by_cases Xh:lv<y.I8.J3.length
        ·rw[r7 Xh,m7]at hk;have hQ:=vZ (y.I8.J3.take (lv+1)) (x.I8.J3.take (lv+1)) aab aab;rw[v9,v9]at hQ;have UM:lv+1<=(y.I8.J3.map ae).length:=(by rw[WQ];omega);have Qs:lv+1<=(x.I8.J3.map ae).length:=by rw[OJ];omega
         cases hq:(y.I8.J3.take (lv+1)==x.I8.J3.take (lv+1))with
         | false=>
          rw[hq]at hQ hk;rw[q9,c8 s_]at hk;subst hk;repeat' ((conv=>whnf);first|apply Wx|apply W6|apply oi|apply fi|intro h|refine⟨k,y.tr,rfl,aa hy,?_⟩|refine⟨0,lv+1,rfl,R7,o_,UM,?_⟩|refine⟨0,lv+1,rfl,R7,o_,Qs,?_⟩|refine cl hQ ?_|refine cl S8 ?_|exact Y6|refine e_ rfl ?_)
          obtain⟨z,hz⟩:=ab (l:=l) (k:=k-1) o_;rw[hz]at hr;dsimp only at hr;have U3:IntKind.i64.wrap ((k:Int)-1)=((k-1:Nat):Int):=(by rw[c6 _ o_];omega);have Sd:=Pm z (b9 hz);have UP:=fo z Sd.1 Sd.2;have QU:=tc (lv:=lv) (l:=l) (show i+1<=k by omega);repeat' ((conv=>whnf);first|apply Wx|apply W6|apply oi|apply fi|intro h|refine⟨i,x.tr,rfl,aa hx,?_⟩|refine⟨(k-1),z.tr,U3,aa hz,?_⟩|refine⟨lv,(ae c),rfl,aa hc,?_⟩|refine cl UP ?_|exact Y8|refine e_ rfl ?_)
          all_goals try exact Q2
          conv=>whnf
          refine⟨⟨(k,acc++[dh p lv x c z]),g_,by simp;omega,by rw[<-hr];simp⟩,?_,KD⟩;repeat' ((conv=>whnf);first|apply Wx|apply W6|apply oi|apply fi|intro h|exact Y8|refine e_ rfl ?_)
          all_goals try exact Q32
         | true=>
          rw[hq]at hQ hk;rw[m7]at hk;by_cases ZK:ny=nm
          ·rw[x7.2 ZK,d5 rfl]at hk;repeat' ((conv=>whnf);first|apply Wx|apply W6|apply oi|apply fi|intro h|refine⟨k,y.tr,rfl,aa hy,?_⟩|refine⟨0,lv+1,rfl,R7,o_,UM,?_⟩|refine⟨0,lv+1,rfl,R7,o_,Qs,?_⟩|refine cl hQ ?_|refine cl S8 ?_|exact Y6|refine e_ rfl ?_)
           all_goals try exact Q3
           conv=>whnf
           refine⟨⟨k+1,o_,o_,hk⟩,?_,KD⟩;exact Z7
          ·rw[x5.2 ZK,c8 s_]at hk;subst hk;repeat' ((conv=>whnf);first|apply Wx|apply W6|apply oi|apply fi|intro h|refine⟨k,y.tr,rfl,aa hy,?_⟩|refine⟨0,lv+1,rfl,R7,o_,UM,?_⟩|refine⟨0,lv+1,rfl,R7,o_,Qs,?_⟩|refine cl hQ ?_|refine cl S8 ?_|exact Y6|refine e_ rfl ?_)
           all_goals try exact Q3
           obtain⟨z,hz⟩:=ab (l:=l) (k:=k-1) o_;rw[hz]at hr;dsimp only at hr;have U3:IntKind.i64.wrap ((k:Int)-1)=((k-1:Nat):Int):=(by rw[c6 _ o_];omega);have Sd:=Pm z (b9 hz);have UP:=fo z Sd.1 Sd.2;have QU:=tc (lv:=lv) (l:=l) (show i+1<=k by omega);repeat' ((conv=>whnf);first|apply Wx|apply W6|apply oi|apply fi|intro h|refine⟨i,x.tr,rfl,aa hx,?_⟩|refine⟨(k-1),z.tr,U3,aa hz,?_⟩|refine⟨lv,(ae c),rfl,aa hc,?_⟩|refine cl UP ?_|exact Y8|refine e_ rfl ?_)
           all_goals try exact Q2
           conv=>whnf
           refine⟨⟨(k,acc++[dh p lv x c z]),g_,by simp;omega,by rw[<-hr];simp⟩,?_,KD⟩;repeat' ((conv=>whnf);first|apply Wx|apply W6|apply oi|apply fi|intro h|exact Y8|refine e_ rfl ?_)
           all_goals try exact Q32
        ·rw[y5 Xh,q9,c8 s_]at hk;subst hk;repeat' ((conv=>whnf);first|apply Wx|apply W6|apply oi|apply fi|intro h|refine⟨k,y.tr,rfl,aa hy,?_⟩|exact Y6|refine e_ rfl ?_)
         all_goals try(exfalso;have h':=m6 h;rw[WQ]at h';omega)
         obtain⟨z,hz⟩:=ab (l:=l) (k:=k-1) o_;rw[hz]at hr;dsimp only at hr;have U3:IntKind.i64.wrap ((k:Int)-1)=((k-1:Nat):Int):=(by rw[c6 _ o_];omega);have Sd:=Pm z (b9 hz);have UP:=fo z Sd.1 Sd.2;have QU:=tc (lv:=lv) (l:=l) (show i+1<=k by omega);repeat' ((conv=>whnf);first|apply Wx|apply W6|apply oi|apply fi|intro h|refine⟨i,x.tr,rfl,aa hx,?_⟩|refine⟨(k-1),z.tr,U3,aa hz,?_⟩|refine⟨lv,(ae c),rfl,aa hc,?_⟩|refine cl UP ?_|exact Y8|refine e_ rfl ?_)
         all_goals try exact Q2
         conv=>whnf
         refine⟨⟨(k,acc++[dh p lv x c z]),g_,by simp;omega,by rw[<-hr];simp⟩,?_,KD⟩;repeat' ((conv=>whnf);first|apply Wx|apply W6|apply oi|apply fi|intro h|exact Y8|refine e_ rfl ?_)
         all_goals try exact Q32
       ·rw[EV o_]at hk;subst hk;repeat' ((conv=>whnf);first|apply Wx|apply W6|apply oi|apply fi|intro h|exact Y6|refine e_ rfl ?_)
        obtain⟨z,hz⟩:=ab (l:=l) (k:=k-1) o_;rw[hz]at hr;dsimp only at hr;have U3:IntKind.i64.wrap ((k:Int)-1)=((k-1:Nat):Int):=(by rw[c6 _ o_];omega);have Sd:=Pm z (b9 hz);have UP:=fo z Sd.1 Sd.2;have QU:=tc (lv:=lv) (l:=l) (show i+1<=k by omega);repeat' ((conv=>whnf);first|apply Wx|apply W6|apply oi|apply fi|intro h|refine⟨i,x.tr,rfl,aa hx,?_⟩|refine⟨(k-1),z.tr,U3,aa hz,?_⟩|refine⟨lv,(ae c),rfl,aa hc,?_⟩|refine cl UP ?_|exact Y8|refine e_ rfl ?_)
        all_goals try exact Q2
        conv=>whnf
        refine⟨⟨(k,acc++[dh p lv x c z]),g_,by simp;omega,by rw[<-hr];simp⟩,?_,KD⟩;repeat' ((conv=>whnf);first|apply Wx|apply W6|apply oi|apply fi|intro h|exact Y8|refine e_ rfl ?_)
        all_goals try exact Q32
      ·rw[c8 WD,q8]at QP;rw[e9 o_]at hr;dsimp only at hr;repeat' ((conv=>whnf);first|apply Wx|apply W6|apply oi|apply fi|intro h|refine⟨i,x.tr,rfl,aa hx,?_⟩|exact Y6|refine e_ rfl ?_)
       all_goals try(exfalso;have h':=n6 h;rw[OJ]at h';omega)
       conv=>whnf
       refine⟨⟨(i+1,acc),g_,QP,hr⟩,?_,KD⟩;exact Z7
     ·rw[show l.length-i=0 by omega,lvN,p8]at hr;rw[d8 o_]at QP
      have YH:acc.length+dk (lv+1) l<=1048576:=by have:vY lv ([]:List Om)=0:=rfl;omega
      repeat' ((conv=>whnf);first|apply Wx|apply W6|apply oi|apply fi|intro h|exact Y6|refine e_ rfl ?_)
      conv=>whnf
      refine⟨⟨(lv+1,acc),g_,YH,by dsimp only;rw[SM];exact hr⟩,?_,KD⟩;repeat' ((conv=>whnf);first|apply Wx|apply W6|apply oi|apply fi|intro h|exact Y8|refine e_ rfl ?_)
      all_goals try exact⟨by dsimp only;rw[R7]⟩
      all_goals try exact⟨K1⟩
    ·rw[show d-lv=0 by omega,oO,i9]at hr;subst hr;exact Z6
theorem BT {l:List Om}(h1:l.length<=1048576)(h2:∀y∈l,y.I8.J3.length<=4):aE 1048576 (.lst 8 (l.map Om.tr)):=by rw[aE];refine⟨by rw[d9];omega,nY fun r hr=>?_⟩;obtain⟨it,OU,rfl⟩:=p6.1 hr;have:=h2 it OU;simp only[Om.tr,aX,aE,true_and,and_true];refine⟨by rw[d9];omega,nY fun r hr=>?_⟩;obtain⟨v,hv,rfl⟩:=p6.1 hr;simp[ae,aX,aE]
theorem yE {p:List Oj}{b:Oa}{image:Int}(hs:aE 1048576 (.lst 4 (p.map Oj.tr))):aE 1048576 (.lst 8 ((aH p b image).map Om.tr)):=by
 by_cases hc:aj p=true/\aS b=true/\af image 0 1=true
 ·rw[aH,d5 hc];obtain⟨h6,_⟩:=eH hc.1;have PO:=fX p b image (az p).length 0 0;have QJ:=fun x (hx:x∈bT p b image (az p).length 0 0)=>fV hs hx
  generalize bT p b image (az p).length 0 0=L at *
  have OC:=iW (fun x hx=>(QJ x hx).1) (d7 L.length);rw[gt (d7 _)]at OC;have PT:=A2 2500 (show L.length<=6 by omega);refine BT (l:=aC L) o_ fun y hy=>?_;simp only[aC,E2,p6]at hy;obtain⟨_,⟨x,hx,rfl⟩,hy⟩:=hy;exact(QJ x hx).2 y hy
 ·rw[aH,c8 hc];exact⟨s_,trivial⟩
theorem un (p:List Oj)(b:Oa)(img:Int)(hs:aE 1048576 (.lst 4 (p.map Oj.tr)))(h1:aj p=true)(h2:aS b=true)(h3:af img 0 1=true):Sim.Spec prog 44 [tvP p,.agg b.tr,tvI img] (.r (.agg ((fF p b img).tr.map IU))):=by
 refine aI hΓ ay func44 rfl d_ rfl ?_;have hP:=dG p hs;have hB:=gV b;have hW:=ak img 0 1;rw[h1]at hP;rw[h2]at hB;rw[h3]at hW;have hA:=nX p b img hs;have Yd:=wc p b img hs;have hI:=kD (be p b img).J4 ((be p b img).L7.map Ot.tr) (by have:=(lm hs h1 h2 h3).2;omega);have hk:=lg (b:=b) (image:=img) hs;have P1:=lD (b:=b) (image:=img) hs;have N1:=hk.len;have ON:=qG (fun x hx=>(P1 x hx).I5.1);have hR:=wT (aH p b img) o_;have hRw:=zm (aH p b img) o_;have hIn:=tP p (aH p b img) hs (yE hs) o_;unfold fF
 generalize aH p b img=P at *
 generalize be p b img=A at *
 generalize bD p P=I at *
 generalize im P=R at *
 generalize fR P=W at *
 repeat' ((conv=>whnf);first|apply Wx|apply W6|apply oi|apply fi|intro h|refine cl hP ?_|refine cl hB ?_|refine cl hW ?_|refine cl hA ?_|refine cl Yd ?_|refine cl hI ?_|refine cl hR ?_|refine cl hRw ?_|refine cl hIn ?_|exact Y6|refine e_ rfl ?_)
theorem V61{p:Prop}(h:p:=by
 obtain⟨x,hx⟩:=ab N2;repeat' ((conv=>whnf);first|apply Wx|apply W6|apply oi|apply fi|intro h|refine⟨k,x.tr,rfl,aa hx,?_⟩|exact Y8|refine e_ rfl ?_)
 all_goals try exact Q8
 conv=>whnf
 refine⟨⟨k+1,o_⟩,?_,KD⟩
 exact Z5):p:=h
theorem rd (l:List Ot)(hl:l.length<=1048576):Sim.Spec prog 50 [tvL 3 (l.map Ot.tr),tvL 3 (l.map Ot.tr)] (rB true):=by
 refine aI hΓ ay func50 rfl d_ rfl ?_;have N1:(l.map Ot.tr).length=l.length:=s_;repeat' ((conv=>whnf);first|apply Wx|apply W6|apply oi|apply fi|intro h|exact Y8|refine e_ rfl ?_)
 all_goals try exact Q8
 conv=>whnf
 refine⟨{k:Nat//k<=l.length},fun k=>⟨[(0,.r (.c (.t (.lst 3 (l.map Ot.tr))))),(1,.r (.c (.t (.lst 3 (l.map Ot.tr))))),(5,tI .i64 (k.1:Int))],[],[]⟩,fun k=>l.length-k.1,⟨0,o_⟩,?_,?_⟩
 ·exact Z2
 intro⟨k,hk⟩;dsimp only;by_cases N2:k<l.length
 ·exact V61
 ·exact Z6
theorem sw (l:List Oo)(hl:l.length<=1048576):Sim.Spec prog 51 [tvL 4 (l.map Oo.tr),tvL 4 (l.map Oo.tr)] (rB true):=by
 refine aI hΓ ay func51 rfl d_ rfl ?_;have N1:(l.map Oo.tr).length=l.length:=s_;repeat' ((conv=>whnf);first|apply Wx|apply W6|apply oi|apply fi|intro h|exact Y8|refine e_ rfl ?_)
 all_goals try exact Q8
 conv=>whnf
 refine⟨{k:Nat//k<=l.length},fun k=>⟨[(0,.r (.c (.t (.lst 4 (l.map Oo.tr))))),(1,.r (.c (.t (.lst 4 (l.map Oo.tr))))),(5,tI .i64 (k.1:Int))],[],[]⟩,fun k=>l.length-k.1,⟨0,o_⟩,?_,?_⟩
 ·exact Z2
 intro⟨k,hk⟩;dsimp only;by_cases N2:k<l.length
 ·exact V61
 ·exact Z6
theorem tK (l:List On)(hl:l.length<=1048576):Sim.Spec prog 52 [tvL 3 (l.map On.tr),tvL 3 (l.map On.tr)] (rB true):=by
 refine aI hΓ ay func52 rfl d_ rfl ?_;have N1:(l.map On.tr).length=l.length:=s_;repeat' ((conv=>whnf);first|apply Wx|apply W6|apply oi|apply fi|intro h|exact Y8|refine e_ rfl ?_)
 all_goals try exact Q8
 conv=>whnf
 refine⟨{k:Nat//k<=l.length},fun k=>⟨[(0,.r (.c (.t (.lst 3 (l.map On.tr))))),(1,.r (.c (.t (.lst 3 (l.map On.tr))))),(5,tI .i64 (k.1:Int))],[],[]⟩,fun k=>l.length-k.1,⟨0,o_⟩,?_,?_⟩
 ·exact Z2
 intro⟨k,hk⟩;dsimp only;by_cases N2:k<l.length
 ·exact V61
 ·exact Z6
theorem Bw {l:List Ot}(hl:l.length<=1048576)(hn:∀x∈l,x.J0.length<=1048576):aE 1048576 (.lst 3 (l.map Ot.tr)):=gB hl fun x hx=>by
 have:=hn x hx;simp[Ot.tr,aX,aE];omega
theorem vx {s:List UInt8}:∀{c p p':Nat} {l:List Ot},fM s c p=some (l,p')->p<=s.length->p+l.length<=p'/\p'<=s.length/\∀x∈l,x.J0.length<=s.length
 | 0,p,p',l,h,hp=>by
  rw[fM]at h;injection h with h;injection h with h1 h2;subst h1;subst h2
  exact⟨s_,hp,fun x hx=>by cases hx⟩
 | c+1,p,p',l,h,hp=>by
  rw[fM]at h;split at h
  ·rename_i nm y e1;split at h
   ·rename_i a b z e2;have h1:=vb e1;have h2:=JJ e2
    match hd:fM s c (p+y+z),h with
    | some (l',q),h=>
     rw[s6]at h;injection h with h;injection h with h3 h4;subst h3;subst h4;have:=vx hd o_;refine⟨by simp only[c7];omega,this.2.1,fun x hx=>?_⟩;rcases d6.1 hx with rfl|hx
     ·exact h1.2
     ·exact this.2.2 x hx
    | none,h=>cases h
   ·cases h
  ·cases h
theorem KM {s:List UInt8}{p:Nat}{t1 t2 t3:List UInt8}(h:Im s p=some (t1,t2,t3)):t1.length<=s.length/\t2.length<=s.length/\t3.length<=s.length:=by
 unfold Im at h;split at h
 ·rename_i a y e1;split at h
  ·rename_i b z e2;split at h
   ·rename_i c w e3;injection h with h;injection h with h1 h;injection h with h2 h3;subst h1;subst h2;subst h3;exact⟨(vb e1).2,(vb e2).2,(vb e3).2⟩
   ·cases h
  ·cases h
 ·cases h
theorem xa {s:List UInt8}(hs:s.length<=1048576){d:Od}(h:jt s=some d):aX 1048576 d.tr:=by
 unfold jt at h;split at h
 ·rename_i id k0 e0;split at h
  ·rename_i n k1 e1;obtain⟨_,_,_,g3,_⟩:=dW e0;obtain⟨_,_,_,g4,_⟩:=dW e1;rw[e8]at g4;unfold gn at h;split at h
   ·rename_i l p' e2;have h2:=vx e2 o_;unfold wt at h;split at h
    ·rename_i t1 t2 t3 e3;have h3:=KM e3;split at h
     ·rename_i a b c q1 q2 q3;injection h with h;subst h;have f1:=nJ (s:=t1) o_;have f2:=po (s:=t2) o_;have f3:=jP (s:=t3) o_;rw[q1]at f1;rw[q2]at f2;rw[q3]at f3;simp only[Od.tr,aX,p8];exact⟨by simp[aE],Bw o_ (fun x hx=>t7 (h2.2.2 x hx) hs),Fu f1,Iz f2,f3,trivial⟩
     ·cases h
    ·cases h
   ·cases h
  ·cases h
 ·cases h
theorem se {s:List UInt8}(hs:s.length<=1048576):aX 1048576 (oD (fB s)).tr:=by
 have z:aX 1048576 (oD none).tr:=by simp[oD,MC,Od.tr,aX,aE,eB]
 unfold fB
 cases h:jt s with
 | none=>exact z
 | some d=>
  by_cases he:bi d=s
  ·rw[rh he];exact xa hs h
  ·rw[AW he];exact z
end Go.Proofs.P
