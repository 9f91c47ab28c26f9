import Derived.Test.YtoglejgmjeojoaaGreatGh
namespace Go.Proofs.YtoglejgmjeojoaaGreat
open Go.Sim
set_option maxRecDepth 100000
set_option maxHeartbeats 4000000
def qh (C:Cx)(lev:Nat):Prop:=∀(x:Sc) (q:Ib) (ins pd:List Nat) (s:Gs) (d:Int),ScOk C x ins→IbOk C x q→q.f=(x.f:Int)→q.e=(ir C.p x.f:Int)→q.base=d→s.start=false→(∀i∈pd,i < s.items.length)→
 s.items.length+(ir C.p x.f - x.f) * (20 * bG lev+3)≤68719476736→((lev+(ins.length - 1):Nat):Int)=C.b.fag→0≤d→d+30+100 * (lev:Int)≤1900→
 bp Tryz.prog 252 [cr,ibP] (fG (0,0,1) (0,0,2) (0,1,1) C pd s d ins q []) (.tup []) (fG (1,0,1) (1,0,2) (1,1,1) C pd (aI C (aL C lev) x ins d s).1 (if x.outer=true then d else d+1) ins q (aI C (aL C lev) x ins d s).2)
theorem An {C:Cx}(hC:CxOk C){lev:Nat}(hL:qh C lev):ws C (lev+1):=by
 intro x q ins pd lv k g b s d hk hg hrb hr
 refine ax hΓ aq Tryz.func274 rfl (by decide) rfl rfl ?_
 obtain⟨hx,hq,hrm,hbg,hbm,hpl2⟩:=hr
 obtain⟨r1,r2,r3,r4⟩:=dq hrb
 obtain⟨y,hy,hy0⟩:=hg
 have h60:=hC.len
 have hin:=hC.inl
 have hloc:=ck hC ⟨y,hy,hy0⟩
 have hA:argsN C.p g=y.fad.length:=by rw[argsN,hy]
 have hLo:=fC C.p (g:Int) (by omega) (fun z hz=>aC hC.small hz)
 have htop:=mJ hC hx
 have hxl:x.locals.length≤8:=by obtain⟨_,_,_,_,_,h⟩:=hx.endE hC;exact h
 have hxf:=hx.first
 have ha:=hC.args
 have hch:=hx.chain
 obtain⟨q1,q2,q3,q4⟩:=hrm
 have hyS:=iR hC hx k ⟨y,hy,hy0⟩
 obtain⟨ye,ye1,ye2,ye3,ye4,_⟩:=hyS.endE hC
 have gE:=co C.p (g:Int) (by omega)
 have hee:aY C.p (g:Int)=(ye:Int):=by rw[aV];exact aU ye1
 rw[hee]at gE r2
 have hyl:(y.fad.map ag).length=y.fad.length:=by simp
 have hxll:(x.locals.map ag).length=x.locals.length:=by simp
 have hcl:(x.chain.map ab).length=x.chain.length:=by simp
 obtain⟨qf,qe,ql,qa,qi,qc,qb⟩:=q
 obtain⟨i1,i2,i3,i4,i5,i6⟩:=hq
 dsimp only at i1 i2 i3 i4
 subst i1;subst i2;subst i3
 have e2:IntKind.i64.wrap (x.first+(x.locals.length:Int))=x.first+x.locals.length:=by rw[IntWalk.i64_in _ (by omega)]
 repeat' ((conv=>whnf);first|(with_reducible apply W1;fail_if_success (with_reducible show Wo _ _ _ _ (Code.region 1 _ _) _ _))|(with_reducible first|apply W2|apply W3|apply W4|apply W5|apply W6|apply W7|apply W8|apply W9)|apply bg|apply oi|(apply fi<;>intro h)|refine⟨g,y.tr,rfl,aa hy,?_⟩|refine cl gE ?_|refine cl hLo ?_|refine⟨_,rfl,?_⟩|exact rfl)
 all_goals try exact⟨KP⟩
 all_goals try exact⟨⟨by simp <;> omega,by simp <;> omega⟩⟩
 conv=>whnf
 refine gf ⟨[(0,cr),(1,ibP),(2,tI .i64 (k:Int)),(3,tI .i64 (g:Int)),(4,tI .i64 (b:Int)),(10,.r (.c (.ptr (48,0,0) 0)))],
  [((0,0,0),some (rn C s d (0,0,1) (0,0,2))),((0,0,1),some (.dar 7 (itR (clr pd (s).items)) none)),((0,0,2),some (.arr false 1 (iY ins))),((0,1,0),some (ibB ⟨qf,qe,x.locals,qa,x.first,x.chain,qb⟩ (0,1,1))),((0,1,1),some (.arr false 1 (lv.map ab))),((48,0,0),some (.box [.t (.int .i64 (g:Int)),.t (.int .i64 (ye:Int)),.t (.lst 1 ((localsOf C.p (g:Int)).map ag)),.t (.int .i64 (argsN C.p g:Int)),.t (.int .i64 0),.t (.lst 1 ((x.chain++[(k:Int)]).map ab)),.t (.int .i64 0),.nils 1]))],_⟩ ?_ ?_ rfl ?_
 ·exact⟨.inl rfl,.inl rfl,.inl rfl,.inl rfl,.inl rfl,.inl rfl,trivial⟩
 ·refine⟨.inr (.inl rfl),.inr (.inl rfl),.inr (.inl rfl),.inr (.inl rfl),.inr (.inl rfl),.inr (.inr (.inl ⟨_,_,rfl,rfl,.inl rfl,.inl rfl,.inr (.inr ⟨_,rfl,rfl,?_⟩),.inl ?_,.inl rfl,.inr (.inr ⟨_,rfl,?_,?_⟩),.inl rfl,.inr (.inl ⟨_,_,rfl,rfl⟩),trivial⟩)),trivial⟩
  ·intro q hq;simp only[AC.ids,List.mem_cons,List.not_mem_nil,or_false]at hq;subst hq;rfl
  ·rw[hyl,hA]
  ·show Tr.lst 1 _=Tr.lst 1 ([]++List.map ab x.chain++[[Tr.int .i64 (k:Int)]])
   simp[ab]
  ·intro q hq;simp only[AC.ids,List.mem_cons,List.not_mem_nil,or_false]at hq;subst hq;rfl
 repeat' ((conv=>whnf);first|(with_reducible apply W1;fail_if_success (with_reducible show Wo _ _ _ _ (Code.seq (Code.region 2 _ _) _) _ _))|(with_reducible first|apply W2|apply W3|apply W4|apply W5|apply W6|apply W7|apply W8|apply W9)|apply bg|apply oi|(apply fi<;>intro h)|refine⟨_,rfl,?_⟩|exact rfl)
 all_goals try exact⟨KP⟩
 conv=>whnf
 refine iK Unit (fun _=>⟨[(0,cr),(1,ibP),(2,tI .i64 (k:Int)),(3,tI .i64 (g:Int)),(4,tI .i64 (b:Int)),(10,.r (.c (.ptr (48,0,0) 0)))],
  [((0,0,0),some (rn C s d (0,0,1) (0,0,2))),((0,0,1),some (.dar 7 (itR (clr pd (s).items)) none)),((0,0,2),some (.arr false 1 (iY ins))),((0,1,0),some (ibB ⟨qf,qe,x.locals,qa,x.first,x.chain,qb⟩ (0,1,1))),((0,1,1),some (.arr false 1 (lv.map ab))),((48,0,0),some (.box [.t (.int .i64 (g:Int)),.t (.int .i64 (ye:Int)),.t (.lst 1 ((localsOf C.p (g:Int)).map ag)),.t (.int .i64 (argsN C.p g:Int)),.t (.int .i64 (be C x)),.t (.lst 1 ((x.chain++[(k:Int)]).map ab)),.t (.int .i64 0),.nils 1]))],[48,0]⟩) ?_ ?_
 ·cases ho:x.outer with
  | true=>
   have c1:=i5.1 ho
   have c2:=i6 ho
   have c3:=i4 ho
   have c4:be C x=(x.locals.length:Int) - C.args:=by unfold be;rw[if_pos ho]
   have c5:IntKind.i64.wrap (IntKind.i64.wrap (x.first+((x.locals.map ag).length:Int)) - qa)=be C x:=by rw[c4,hxll,e2,c2,c3,IntWalk.i64_in _ (by omega)];omega
   repeat' ((conv=>whnf);first|apply Wx|apply W6|apply oi|(apply fi<;>intro h)|refine⟨_,rfl,?_⟩|exact rfl)
   all_goals try exact⟨KP⟩
   all_goals try(exfalso;rw[c1]at h;simp at h;done)
   all_goals(conv=>whnf)
   all_goals(refine⟨(),?_⟩)
   repeat' ((conv=>whnf);first|apply Wx|apply W6|apply oi|(apply fi<;>intro h)|refine⟨_,rfl,?_⟩|exact rfl)
   all_goals try exact⟨KP⟩
   all_goals exact⟨congrArg (Tr.int .i64) c5⟩
  | false=>
   have hne:x.chain≠[]:=fun e=>by rw[i5.2 e]at ho;cases ho
   have c4:be C x=x.first+x.locals.length:=by unfold be;rw[if_neg (by simp[ho])]
   have c5:IntKind.i64.wrap (x.first+((x.locals.map ag).length:Int))=be C x:=by rw[c4,hxll,e2]
   repeat' ((conv=>whnf);first|apply Wx|apply W6|apply oi|(apply fi<;>intro h)|refine⟨_,rfl,?_⟩|exact rfl)
   all_goals try exact⟨KP⟩
   all_goals try(exfalso;simp at h;exact hne h)
   all_goals(conv=>whnf)
   all_goals(refine⟨(),?_⟩)
   repeat' ((conv=>whnf);first|apply Wx|apply W6|apply oi|(apply fi<;>intro h)|refine⟨_,rfl,?_⟩|exact rfl)
   all_goals try exact⟨KP⟩
   all_goals exact⟨congrArg (Tr.int .i64) c5⟩
 intro _
 have hll:((localsOf C.p (g:Int)).map ag).length=(localsOf C.p (g:Int)).length:=by simp
 have em:IntKind.i64.wrap (be C x+(((localsOf C.p (g:Int)).map ag).length:Int))=be C x+((localsOf C.p (g:Int)).length:Int):=by rw[hll,IntWalk.i64_in _ (by omega)]
 obtain⟨s0,hs0⟩:∃s0:Gs,(⟨s.items,max s.most (be C x+(localsOf C.p (g:Int)).length),s.start⟩:Gs)=s0:=⟨_,rfl⟩
 have z1:s.items=s0.items:=by rw[←hs0]
 have z2:max s.most (be C x+(localsOf C.p (g:Int)).length)=s0.most:=by rw[←hs0]
 have hb0:Beg b s0:=by rw[←hs0];exact⟨hbg.1,hbg.2⟩
 obtain⟨T1,hT1⟩:∃T1,cb C (bq C x k g) x.chain k (argsN C.p g) d s0=T1:=⟨_,rfl⟩
 have hst:∀{t:Gs},Beg b t→t.start=true→t.items.length∈pd:=fun{t} hb h=>by rw[hb.2.1 h];exact hbm
 repeat' ((conv=>whnf);first|apply Wx|apply W6|apply oi|(apply fi<;>intro h)|refine⟨_,rfl,?_⟩|exact rfl)
 all_goals try exact⟨KP⟩
 conv=>whnf
 refine⟨{r:Nat×Gs // r.1≤argsN C.p g∧cb C (bq C x k g) x.chain k r.1 (d - ((argsN C.p g - r.1:Nat):Int)) r.2=T1∧r.2.items.length≤300 - r.1∧Beg b r.2},fun r=>⟨[(0,cr),(1,ibP),(2,tI .i64 (k:Int)),(3,tI .i64 (g:Int)),(4,tI .i64 (b:Int)),(10,.r (.c (.ptr (48,0,0) 0))),(11,.r (.c (.ptr (117,0,0) 0))),(12,tI .i64 ((r.1.1:Int) - 1))],
  [((0,0,0),some (rn C r.1.2 (d - ((argsN C.p g - r.1.1:Nat):Int)) (48,0,2) (48,0,3))),((48,0,2),some (.dar 7 (itR (clr pd (r.1.2).items)) none)),((48,0,3),some (.arr false 1 (iY ins))),((0,1,0),some (ibB ⟨qf,qe,x.locals,qa,x.first,x.chain,qb⟩ (0,1,1))),((0,1,1),some (.arr false 1 (lv.map ab))),((48,0,0),some (.box [.t (.int .i64 (g:Int)),.t (.int .i64 (ye:Int)),.t (.lst 1 ((localsOf C.p (g:Int)).map ag)),.t (.int .i64 (argsN C.p g:Int)),.t (.int .i64 (be C x)),.t (.lst 1 ((x.chain++[(k:Int)]).map ab)),.t (.int .i64 0),.own (48,0,1)])),((48,0,1),some (.arr false 1 [])),((117,0,0),some (ibB ⟨0,0,localsOf C.p (g:Int),0,be C x,x.chain,0⟩ (117,0,1))),((117,0,1),some (.arr false 1 []))],[117,48,0]⟩,fun r=>r.1.1,⟨(argsN C.p g,s0),by dsimp only;omega,by rw[←hT1];simp,by dsimp only;rw[←z1];omega,hb0⟩,?_,?_⟩
 ·skip
  repeat' ((conv=>whnf);first|apply Wx|apply W6|apply oi|(apply fi<;>intro h)|refine⟨_,rfl,?_⟩|exact rfl)
  all_goals try exact⟨KP⟩
  all_goals try exact⟨congrArg (fun l=>itR (clr pd l)) z1⟩
  all_goals try exact⟨congrArg (Tr.int _) (by rw[em];exact z2)⟩
  all_goals try exact⟨KW⟩
 intro⟨⟨m,t⟩,hm,ht,htl,htb⟩
 dsimp only at hm ht htl htb ⊢
 cases m with
 | succ m=>
  have g1:=oT C pd t (d - ((argsN C.p g - (m+1):Nat):Int)) ins ⟨0,0,localsOf C.p (g:Int),0,be C x,x.chain,0⟩ [] (bq C x k g) k m rfl rfl (by unfold bc;omega) (by dsimp only;omega) (hst htb) (by omega) (by show 0≤be C x∧be C x≤1000;omega) (by omega)
  rw[cb]at ht
  rw[show((m+1:Nat):Int) - 1=(m:Int) by omega]
  repeat' ((conv=>whnf);first|apply Wx|apply W6|refine cg g1 ?_|apply oi|(apply fi<;>intro h)|refine⟨_,rfl,?_⟩|exact rfl)
  all_goals try exact⟨KP⟩
  all_goals try exact KX
  conv=>whnf
  refine⟨⟨(m,cQ C (bq C x k g) t (d - ((argsN C.p g - (m+1):Nat):Int)) m k x.chain),by dsimp only;omega,by rw[←ht];dsimp only;congr 1;omega,by dsimp only;simp only[cQ,an,List.length_append,List.length_cons,List.length_nil];omega,by unfold cQ;exact htb.emit ..⟩,?_,KD⟩
  repeat' ((conv=>whnf);first|apply Wx|apply W6|apply oi|(apply fi<;>intro h)|refine⟨_,rfl,?_⟩|exact rfl)
  all_goals try exact⟨KP⟩
  all_goals try exact⟨KW⟩
 | zero=>
  have e0:t=T1:=by rw[←ht];rfl
  subst e0
  have ed:d - ((argsN C.p g - 0:Nat):Int)=d - argsN C.p g:=by rw[Nat.sub_zero]
  rw[ed]
  obtain⟨T2,hT2⟩:∃T2,cB C (bq C x k g) x.chain k (d - argsN C.p g) ((localsOf C.p (g:Int)).length - argsN C.p g) (argsN C.p g) t=T2:=⟨_,rfl⟩
  repeat' ((conv=>whnf);first|apply Wx|apply W6|apply oi|(apply fi<;>intro h)|refine⟨_,rfl,?_⟩|exact rfl)
  all_goals try exact⟨KP⟩
  all_goals try exact KX
  conv=>whnf
  refine⟨{r:Nat×Gs // r.1≤(localsOf C.p (g:Int)).length∧cB C (bq C x k g) x.chain k (d - argsN C.p g) ((localsOf C.p (g:Int)).length - r.1) r.1 r.2=T2∧r.2.items.length≤400 - 2 * ((localsOf C.p (g:Int)).length - r.1)∧Beg b r.2},fun r=>⟨[(0,cr),(1,ibP),(2,tI .i64 (k:Int)),(3,tI .i64 (g:Int)),(4,tI .i64 (b:Int)),(10,.r (.c (.ptr (48,0,0) 0))),(11,.r (.c (.ptr (117,0,0) 0))),(13,tI .i64 (r.1.1:Int))],
   [((0,0,0),some (rn C r.1.2 (d - argsN C.p g) (48,0,2) (48,0,3))),((48,0,2),some (.dar 7 (itR (clr pd (r.1.2).items)) none)),((48,0,3),some (.arr false 1 (iY ins))),((0,1,0),some (ibB ⟨qf,qe,x.locals,qa,x.first,x.chain,qb⟩ (0,1,1))),((0,1,1),some (.arr false 1 (lv.map ab))),((48,0,0),some (.box [.t (.int .i64 (g:Int)),.t (.int .i64 (ye:Int)),.t (.lst 1 ((localsOf C.p (g:Int)).map ag)),.t (.int .i64 (argsN C.p g:Int)),.t (.int .i64 (be C x)),.t (.lst 1 ((x.chain++[(k:Int)]).map ab)),.t (.int .i64 0),.own (48,0,1)])),((48,0,1),some (.arr false 1 [])),((117,0,0),some (ibB ⟨0,0,localsOf C.p (g:Int),0,be C x,x.chain,0⟩ (117,0,1))),((117,0,1),some (.arr false 1 []))],[117,48,0]⟩,fun r=>(localsOf C.p (g:Int)).length - r.1.1,⟨(argsN C.p g,t),by dsimp only;omega,hT2,by dsimp only;omega,htb⟩,?_,?_⟩
  ·skip
   repeat' ((conv=>whnf);first|apply Wx|apply W6|apply oi|(apply fi<;>intro h)|refine⟨_,rfl,?_⟩|exact rfl)
   all_goals try exact⟨KP⟩
  intro⟨⟨i,u⟩,hi,hu,hul,hub⟩
  dsimp only at hi hu hul hub ⊢
  by_cases hil2:i < (localsOf C.p (g:Int)).length
  ·obtain⟨c,hc⟩:∃c,(localsOf C.p (g:Int)).length - i=c+1:=⟨(localsOf C.p (g:Int)).length - i - 1,by omega⟩
   rw[hc,cB]at hu
   have g1:=br C pd u (d - argsN C.p g) ins ⟨qf,qe,x.locals,qa,x.first,x.chain,qb⟩ lv k 0 0 1 (by unfold bc;omega) (by dsimp only;omega) (hst hub) (by omega) (by omega)
   have g2:=oT C pd (an C u (d - argsN C.p g) 0 0 k x.chain) (d - argsN C.p g+1) ins ⟨0,0,localsOf C.p (g:Int),0,be C x,x.chain,0⟩ [] (bq C x k g) k i rfl rfl (by unfold bc an;simp only[List.length_append,List.length_cons,List.length_nil];omega) (by dsimp only;omega) (hst (hub.emit ..)) (by omega) (by show 0≤be C x∧be C x≤1000;omega) (by omega)
   repeat' ((conv=>whnf);first|apply Wx|apply W6|refine cg g1 ?_|refine cg g2 ?_|apply oi|(apply fi<;>intro h)|refine⟨_,rfl,?_⟩|exact rfl)
   all_goals try exact⟨KP⟩
   all_goals try exact KX
   conv=>whnf
   refine⟨⟨(i+1,cQ C (bq C x k g) (an C u (d - argsN C.p g) 0 0 k x.chain) (d - argsN C.p g+1) i k x.chain),by dsimp only;omega,by rw[←hu];dsimp only;rw[show(localsOf C.p (g:Int)).length - (i+1)=c by omega],by dsimp only;simp only[cQ,an,List.length_append,List.length_cons,List.length_nil];omega,by unfold cQ;exact(hub.emit ..).emit ..⟩,?_,KD⟩
   repeat' ((conv=>whnf);first|apply Wx|apply W6|apply oi|(apply fi<;>intro h)|refine⟨_,rfl,?_⟩|exact rfl)
   all_goals try exact⟨KP⟩
   all_goals try exact⟨KW⟩
  ·have hie:i=(localsOf C.p (g:Int)).length:=by omega
   subst hie
   rw[Nat.sub_self,cB]at hu
   subst hu
   have hpre:di C x k g d s=u:=by rw[di,hs0,hT1,hT2]
   repeat' ((conv=>whnf);first|(with_reducible apply W1;fail_if_success (with_reducible show Wo _ _ _ _ (Code.seq (Code.region 15 _ _) _) _ _))|(with_reducible first|apply W2|apply W3|apply W4|apply W5|apply W6|apply W7|apply W8|apply W9)|apply bg|apply oi|(apply fi<;>intro h)|refine⟨_,rfl,?_⟩|exact rfl)
   all_goals try exact⟨KP⟩
   all_goals try exact KX
   conv=>whnf
   obtain⟨v,hv⟩:∃v,bA C x k (d - argsN C.p g) u=v:=⟨_,rfl⟩
   have hvl:v.items.length≤500:=by rw[←hv,bA];split <;> first|(simp[an];omega)|omega
   obtain⟨hvb,hvs⟩:=mw (C:=C) (x:=x) (line:=k) (d:=d - argsN C.p g) hub
   rw[hv]at hvb hvs
   have hlen:=bi pd u.items
   refine iK Unit (fun _=>⟨[(0,cr),(1,ibP),(2,tI .i64 (k:Int)),(3,tI .i64 (g:Int)),(4,tI .i64 (b:Int)),(10,.r (.c (.ptr (48,0,0) 0)))],
    [((0,0,0),some (rn C v (d - argsN C.p g) (48,0,2) (48,0,3))),((48,0,2),some (.dar 7 (itR (clr pd (v).items)) none)),((48,0,3),some (.arr false 1 (iY ins))),((0,1,0),some (ibB ⟨qf,qe,x.locals,qa,x.first,x.chain,qb⟩ (0,1,1))),((0,1,1),some (.arr false 1 (lv.map ab))),((48,0,0),some (.box [.t (.int .i64 (g:Int)),.t (.int .i64 (ye:Int)),.t (.lst 1 ((localsOf C.p (g:Int)).map ag)),.t (.int .i64 (argsN C.p g:Int)),.t (.int .i64 (be C x)),.t (.lst 1 ((x.chain++[(k:Int)]).map ab)),.t (.int .i64 0),.own (48,0,1)])),((48,0,1),some (.arr false 1 []))],[117,48,0]⟩) ?_ ?_
   ·have g3:=br C pd u (d - argsN C.p g) ins ⟨qf,qe,x.locals,qa,x.first,x.chain,qb⟩ lv k 15 0 0 (by unfold bc;omega) (by dsimp only;omega) (hst hub) (by omega) (by omega)
    unfold bA at hv
    cases hst2:u.start with
    | true=>
     rw[if_pos hst2]at hv
     subst hv
     have hub2:=hub.2.1 hst2
     repeat' ((conv=>whnf);first|apply Wx|apply W6|refine cg g3 ?_|apply oi|(apply fi<;>intro h)|refine⟨_,rfl,?_⟩|exact rfl)
     all_goals try exact⟨KP⟩
     ·conv=>whnf
      refine⟨(),?_⟩
      repeat' ((conv=>whnf);first|apply Wx|apply W6|apply oi|(apply fi<;>intro h)|refine⟨_,rfl,?_⟩|exact rfl)
      all_goals try exact⟨KP⟩
      all_goals try exact⟨KW⟩
     ·exfalso;rw[hlen,hub2]at h;simp at h
    | false=>
     rw[if_neg (by simp[hst2])]at hv
     subst hv
     repeat' ((conv=>whnf);first|apply Wx|apply W6|refine cg g3 ?_|apply oi|(apply fi<;>intro h)|refine⟨_,rfl,?_⟩|exact rfl)
     all_goals try exact⟨KP⟩
     ·exfalso
      rw[hlen]at h
      have h9:=hub.2.2 (by have:=eq_of_beq h;omega)
      rw[hst2]at h9
      cases h9
     ·conv=>whnf
      refine⟨(),?_⟩
      repeat' ((conv=>whnf);first|apply Wx|apply W6|apply oi|(apply fi<;>intro h)|refine⟨_,rfl,?_⟩|exact rfl)
      all_goals try exact⟨KP⟩
      all_goals try exact⟨KW⟩
   intro _
   have hye:ir C.p (bq C x k g).f - (bq C x k g).f≤9:=by
    rw[ye4]
    show ye - g≤9
    omega
   have h3:=oD (n:=lev) (by omega)
   have hmul:=Nat.mul_le_mul hye (show 20 * bG lev+3≤20 * 8679837+3 by omega)
   have hvne:v.items.length≠b:=fun e=>by have:=hvb.2.2 e;rw[hvs]at this;cases this
   have hgL:=hL (bq C x k g) ⟨(g:Int),(ye:Int),localsOf C.p (g:Int),(argsN C.p g:Int),be C x,x.chain++[(k:Int)],d - argsN C.p g⟩ (ins++[g]) pd v (d - argsN C.p g) hyS ⟨rfl,rfl,rfl,fun h=>(by cases h),hyS.out,fun h=>(by cases h)⟩ rfl (by rw[ye4]) rfl hvs (fun i hi=>by have:=hpl2 i hi;have:=hvb.1;omega) (by omega) (by rw[List.length_append,List.length_cons,List.length_nil];have h9:=hch;omega) q3 (by omega)
   rw[if_neg (by simp[bq])]at hgL
   have hgr2:=eY (lev:=lev) (rep:=aL C lev) (fun line g d s hg hr=>cq hC lev line g d s hyS hg hr) hC hyS (d - argsN C.p g) v
   obtain⟨hlvl,hin2⟩:=sY (lev:=lev) (rep:=aL C lev) (fun line g d s hg hr=>cq hC lev line g d s hyS hg hr) hC hyS (d - argsN C.p g) v
   obtain⟨r,hr⟩:∃r,aI C (aL C lev) (bq C x k g) (ins++[g]) (d - argsN C.p g) v=r:=⟨_,rfl⟩
   rw[hr]at hgL hgr2 hlvl hin2
   have hrle:=hgr2.le
   have hil:(iY ins).length=ins.length:=by simp
   have hil2':(iY (ins++[g])).length=ins.length+1:=by simp
   have hw2:IntKind.i64.wrap (((iY (ins++[g])).length:Int) - 1)=(ins.length:Int):=by rw[hil2',IntWalk.i64_in _ (by omega)];omega
   have hle2:ins.length≤(iY (ins++[g])).length:=by omega
   have hcut:(iY (ins++[g])).take ins.length=iY ins:=by rw[←List.map_take,List.take_left' rfl]
   have hap:iY ins++[[Tr.int .i64 (g:Int)]]=iY (ins++[g]):=by simp[ab]
   have hrl:(r.2.map ab).length=r.2.length:=by simp
   have hfin:aL C (lev+1) x ins k g d s=⟨bT r.1.items r.1.items.length r.2,r.1.most,r.1.start⟩:=by
    show fv C (aI C (aL C lev)) x ins k g d s=_
    unfold fv
    rw[hpre,hv,hr]
   rw[hfin]
   repeat' ((conv=>whnf);first|apply Wx|apply W6|refine cg hgL ?_|apply oi|(apply fi<;>intro h)|refine⟨ins.length,hw2,hle2,?_⟩|refine⟨_,rfl,?_⟩|exact rfl)
   all_goals try exact⟨KP⟩
   all_goals try exact⟨⟨by rw[hil];simp <;> omega,by rw[hil];simp <;> omega⟩⟩
   all_goals try exact⟨hap⟩
   conv=>whnf
   refine⟨{j:Nat // j≤r.2.length},fun j=>⟨[(0,cr),(10,.r (.c (.ptr (48,0,0) 0))),(202,.r (.c (.own (48,0,1)))),(203,tI .i64 (r.2.length:Int)),(204,tI .i64 (j.1:Int))],
    [((0,0,0),some (rn C ⟨bT r.1.items r.1.items.length (r.2.take j.1),r.1.most,r.1.start⟩ (d - argsN C.p g+1) (48,0,2) (48,0,3))),((48,0,2),some (.dar 7 (itR (clr pd (bT r.1.items r.1.items.length (r.2.take j.1)))) none)),((48,0,3),some (.arr false 1 (iY ins))),((0,1,0),some (ibB ⟨qf,qe,x.locals,qa,x.first,x.chain,qb⟩ (0,1,1))),((0,1,1),some (.arr false 1 (lv.map ab))),((48,0,0),some (ibB ⟨(g:Int),(ye:Int),localsOf C.p (g:Int),(argsN C.p g:Int),be C x,x.chain++[(k:Int)],d - argsN C.p g⟩ (48,0,1))),((48,0,1),some (.arr false 1 (r.2.map ab)))],[117,48,0]⟩,fun j=>r.2.length - j.1,⟨0,by omega⟩,?_,?_⟩
   ·skip
    repeat' ((conv=>whnf);first|apply Wx|apply W6|apply oi|(apply fi<;>intro h)|refine⟨_,rfl,?_⟩|exact rfl)
    all_goals try exact⟨KP⟩
    all_goals try exact⟨KW⟩
    all_goals try exact⟨congrArg (Tr.int _) (by rw[hrl])⟩
    all_goals try exact⟨hle2⟩
    all_goals try exact⟨hcut⟩
   intro⟨j,hj3⟩
   dsimp only at hj3 ⊢
   have hpl:=dT (r.1.items.length:Int) (r.2.take j) r.1.items
   have hil4:(itR (clr pd (bT r.1.items r.1.items.length (r.2.take j)))).length=r.1.items.length:=by rw[bi,hpl]
   by_cases hlj:j < r.2.length
   ·obtain⟨a,haj⟩:=af hlj
    obtain⟨j1,j2⟩:=hin2 a (List.mem_of_getElem? haj)
    obtain⟨jn,rfl⟩:=Int.eq_ofNat_of_zero_le j1
    have hjl:jn < (itR (clr pd (bT r.1.items r.1.items.length (r.2.take j)))).length:=by rw[hil4];omega
    obtain⟨it,hit⟩:=af (l:=clr pd (bT r.1.items r.1.items.length (r.2.take j))) (k:=jn) (by rw[li,hpl];omega)
    have hnext:r.2.take (j+1)=r.2.take j++[(jn:Int)]:=by rw[List.take_add_one,haj];rfl
    have hps:=jX r.1.items.length (jn:Int) (r.2.take j) r.1.items
    have hjr:j < (r.2.map ab).length:=by omega
    repeat' ((conv=>whnf);first|apply Wx|apply W6|apply oi|(apply fi<;>intro h)|refine⟨j,rfl,hjr,?_⟩|refine⟨(ab jn),(aa haj),?_⟩|refine⟨jn,rfl,hjl,?_⟩|refine⟨_,(dM hit),?_⟩|refine⟨_,rfl,?_⟩|exact rfl)
    all_goals try exact⟨KP⟩
    all_goals try exact KX
    conv=>whnf
    refine⟨⟨j+1,by omega⟩,?_,KD⟩
    repeat' ((conv=>whnf);first|apply Wx|apply W6|apply oi|(apply fi<;>intro h)|refine⟨_,rfl,?_⟩|exact rfl)
    all_goals try exact⟨KP⟩
    all_goals try exact⟨KW⟩
    all_goals(refine⟨?_⟩;rw[hil4];dsimp only;rw[hnext,hps,mi,fW hit];rfl)
   ·have hje:j=r.2.length:=by omega
    subst hje
    rw[List.take_length]
    repeat' ((conv=>whnf);first|apply Wx|apply W6|apply oi|(apply fi<;>intro h)|refine⟨_,rfl,?_⟩|exact rfl)
    all_goals try exact⟨KP⟩
    all_goals try exact KX
    all_goals try exact⟨KW⟩
abbrev kI (n:Int):Tr:= .int .i64 n
theorem sW {a:Int}{q:Tr}(h:bK (kI a) q=true):∃k,q= .int k a:=by
 cases q with
 | int k n=>simp only[bK,beq_iff_eq]at h;exact⟨k,by rw[h]⟩
 | str s=>simp[bK]at h
 | bool b=>simp[bK]at h
 | lst sz rows=>simp[bK]at h
theorem qC {a b:Int}{q:Tr}(hab:a≠b)(h:bK (kI a) q=true):bK (kI b) q=false:=by
 obtain⟨k,rfl⟩:=sW h
 simp only[bK,beq_eq_false_iff_ne]
 exact fun e=>hab e.symm
theorem wK (a b:Tr):bK a b=bK b a:=by
 cases a <;> cases b <;> first|rfl|(simp only[bK];rw[Bool.eq_iff_iff];simp only[beq_iff_eq];exact eq_comm)
theorem rA (a:Int):bK (kI a) (kI a)=true:=by simp[bK]
theorem ez (v:Int)(a:Int):∀es:List (Tr×Int),bh (bR es (kI a) v) (kI a)=some v
 | []=>by simp[bh,bR,gM,cW,bK]
 |(q,x)::r=>by
  have ih:=ez v a r
  unfold bh bR at ih ⊢
  rw[gM]
  cases h:bK (kI a) q with
  | true=>simp[cW,h]
  | false=>simp only[cond_false];rw[cW,h,cond_false];exact ih
theorem cF {a b:Int}(hab:a≠b)(v:Int):∀es:List (Tr×Int),bh (bR es (kI a) v) (kI b)=bh es (kI b)
 | []=>by
  simp only[bh,bR,gM,cW]
  rw[qC hab (rA a),cond_false]
 |(q,x)::r=>by
  have ih:=cF hab v r
  unfold bh bR at ih ⊢
  rw[gM]
  cases h:bK (kI a) q with
  | true=>simp only[cond_true];rw[cW,cW,qC hab h];rfl
  | false=>simp only[cond_false];rw[cW,cW,ih]
theorem mY {a b:Int}(hab:a≠b):∀es:List (Tr×Int),bh (eD es (kI a)) (kI b)=bh es (kI b)
 | []=>rfl
 |(q,x)::r=>by
  have ih:=mY hab r
  unfold bh eD at ih ⊢
  rw[lO]
  cases h:bK (kI a) q with
  | true=>simp only[cond_true];rw[cW,qC hab h,cond_false]
  | false=>simp only[cond_false];rw[cW,cW,ih]
def Uniq:List (Tr×Int)→Prop
 | []=>True
 |(q,_)::r=>(∀e∈r,bK q e.1=false)∧Uniq r
theorem pb {k:Tr}:∀{es:List (Tr×Int)},(∀e∈es,bK k e.1=false)→cW (bK k) es=none
 | [],_=>rfl
 |(q,x)::r,h=>by rw[cW,h (q,x) (by simp),cond_false];exact pb fun e he=>h e (by simp[he])
theorem kK {a:Int}:∀{es:List (Tr×Int)},Uniq es→bh (eD es (kI a)) (kI a)=none
 | [],_=>rfl
 |(q,x)::r,h=>by
  have ih:=kK (a:=a) h.2
  unfold bh eD at ih ⊢
  rw[lO]
  cases hq:bK (kI a) q with
  | true=>
   simp only[cond_true]
   refine pb fun e he=>?_
   obtain⟨k,rfl⟩:=sW hq
   have:=h.1 e he
   cases e with
   | mk e1 e2=>
    cases e1 <;> simp_all[bK]
  | false=>simp only[cond_false];rw[cW,hq,cond_false];exact ih
theorem rK {k key:Tr}{v:Int}(hk:bK k key=true):∀(es:List (Tr×Int)) (q:Tr),(∀e∈es,bK q e.1=false)→bK q key=false→∀e∈gM (bK k) key v es,bK q e.1=false
 | [],q,_,hq,e,he=>by
  simp only[gM,List.mem_cons,List.not_mem_nil,or_false]at he
  subst he;exact hq
 |(q2,x)::r,q,h,hq,e,he=>by
  rw[gM]at he
  cases hb:bK k q2 with
  | true=>
   rw[hb,cond_true]at he
   rcases List.mem_cons.1 he with rfl|he
   ·exact h (q2,x) (by simp)
   ·exact h e (by simp[he])
  | false=>
   rw[hb,cond_false]at he
   rcases List.mem_cons.1 he with rfl|he
   ·exact h (q2,x) (by simp)
   ·exact rK hk r q (fun e he=>h e (by simp[he])) hq e he
theorem Uniq.put {a:Int}{v:Int}:∀{es:List (Tr×Int)},Uniq es→Uniq (bR es (kI a) v)
 | [],_=>by unfold bR gM;exact⟨fun e he=>(by cases he),trivial⟩
 |(q,x)::r,h=>by
  have ih:=Uniq.put (a:=a) (v:=v) h.2
  unfold bR at ih ⊢
  rw[gM]
  cases hb:bK (kI a) q with
  | true=>exact⟨h.1,h.2⟩
  | false=>exact⟨rK (rA a) r q h.1 (by rw[wK];exact hb),ih⟩
theorem tK {f:Tr→Bool}:∀{es:List (Tr×Int)} {e:Tr×Int},e∈lO f es→e∈es
 | [],_,h=>h
 |(q,x)::r,e,h=>by
  rw[lO]at h
  cases hb:f q with
  | true=>rw[hb,cond_true]at h;exact List.mem_cons_of_mem _ h
  | false=>
   rw[hb,cond_false]at h
   rcases List.mem_cons.1 h with rfl|h
   ·simp
   ·exact List.mem_cons_of_mem _ (tK h)
theorem Uniq.del {k:Tr}:∀{es:List (Tr×Int)},Uniq es→Uniq (eD es k)
 | [],_=>trivial
 |(q,x)::r,h=>by
  have ih:=Uniq.del (k:=k) h.2
  unfold eD at ih ⊢
  rw[lO]
  cases hb:bK k q with
  | true=>exact h.2
  | false=>exact⟨fun e he=>h.1 e (tK he),ih⟩
structure MapOk (C:Cx) (x:Sc) (k:Nat) (pos heads:List Int) (zs os fs:List (Tr×Int)):Prop where
 uniq:Uniq zs
 zero:∀i:Nat,x.f < i→i < k→(bH C.p i=3∨bH C.p i=5)→bh zs (kI i)=(match elseAt C.p i with|some j=>if j < k then none else some (atL pos i)|none=>some (atL pos i))
 over:∀i:Nat,x.f < i→i < k→(bH C.p i=3∨bH C.p i=5)→bh os (kI i)=(match elseAt C.p i with|some j=>if j < k then some (atL pos j)else none|none=>none)
 fresh:∀i:Nat,k≤i→bh os (kI i)=none
 first:∀i:Nat,x.f < i→i < k→bH C.p i=5→bh fs (kI i)=some (atL heads i)
section
variable {C:Cx} {x:Sc} {ins:List Nat} {k e:Nat} {pos heads:List Int} {zs os fs:List (Tr×Int)}
theorem pZ {p:List CM}{i k:Nat}{j:Nat}(h:elseAt p i=some j)(hk:bH p k≠4):j≠k:=by
 rintro rfl
 obtain⟨_,_,_,_,_,_,_,y,hy,h4⟩:=aP h
 exact hk (by rw[aZ hy];exact h4)
theorem MapOk.plain (h:MapOk C x k pos heads zs os fs)(hk:bH C.p k≠3∧bH C.p k≠4∧bH C.p k≠5)(hd:Int)(v:Int):MapOk C x (k+1) pos (heads.set k hd) zs os (bR fs (kI k) v):=by
 refine⟨h.uniq,fun i h1 h2 h3=>?_,fun i h1 h2 h3=>?_,fun i h1=>h.fresh i (by omega),fun i h1 h2 h3=>?_⟩
 ·have hik:i≠k:=fun e=>by subst e;omega
  rw[h.zero i h1 (by omega) h3]
  cases he:elseAt C.p i with
  | none=>rfl
  | some j=>
   have:=pZ he hk.2.1
   dsimp only
   by_cases hj:j < k
   ·rw[if_pos hj,if_pos (by omega)]
   ·rw[if_neg hj,if_neg (by omega)]
 ·have hik:i≠k:=fun e=>by subst e;omega
  rw[h.over i h1 (by omega) h3]
  cases he:elseAt C.p i with
  | none=>rfl
  | some j=>
   have:=pZ he hk.2.1
   dsimp only
   by_cases hj:j < k
   ·rw[if_pos hj,if_pos (by omega)]
   ·rw[if_neg hj,if_neg (by omega)]
 ·have hik:i≠k:=fun e=>by subst e;omega
  rw[cF (by omega),dA hik]
  exact h.first i h1 (by omega) h3
theorem MapOk.opens (h:MapOk C x k pos heads zs os fs)(hk:bH C.p k=3∨bH C.p k=5)(hp:k < pos.length)(hh:k < heads.length)(pv hd:Int):MapOk C x (k+1) (pos.set k pv) (heads.set k hd) (bR zs (kI k) pv) os (bR fs (kI k) hd):=by
 have helse:∀j,elseAt C.p k=some j→k < j:=fun j hj=>by obtain⟨_,_,_,_,_,h,_⟩:=aP hj;exact h
 refine⟨h.uniq.put,fun i h1 h2 h3=>?_,fun i h1 h2 h3=>?_,fun i h1=>h.fresh i (by omega),fun i h1 h2 h3=>?_⟩
 ·by_cases hik:i=k
  ·subst hik
   rw[ez,fc hp]
   cases he:elseAt C.p i with
   | none=>rfl
   | some j=>dsimp only;rw[if_neg (by have:=helse j he;omega)]
  ·rw[cF (by omega),h.zero i h1 (by omega) h3,dA hik]
   cases he:elseAt C.p i with
   | none=>rfl
   | some j=>
    have:=pZ (k:=k) he (by omega)
    dsimp only
    by_cases hj:j < k
    ·rw[if_pos hj,if_pos (by omega)]
    ·rw[if_neg hj,if_neg (by omega)]
 ·by_cases hik:i=k
  ·subst hik
   rw[h.fresh i (Nat.le_refl _)]
   cases he:elseAt C.p i with
   | none=>rfl
   | some j=>dsimp only;rw[if_neg (by have:=helse j he;omega)]
  ·rw[h.over i h1 (by omega) h3]
   cases he:elseAt C.p i with
   | none=>rfl
   | some j=>
    have:=pZ (k:=k) he (by omega)
    dsimp only
    rw[dA this]
    by_cases hj:j < k
    ·rw[if_pos hj,if_pos (by omega)]
    ·rw[if_neg hj,if_neg (by omega)]
 ·by_cases hik:i=k
  ·subst hik
   rw[ez,fc hh]
  ·rw[cF (by omega),dA hik]
   exact h.first i h1 (by omega) h3
theorem MapOk.else (h:MapOk C x k pos heads zs os fs)(hk:bH C.p k=4)(ho:elseAt C.p (az C.p k)=some k)(ho1:az C.p k < k)(hp:k < pos.length)(pv v:Int):MapOk C x (k+1) (pos.set k pv) heads (eD zs (kI (az C.p k:Int))) (bR os (kI (az C.p k:Int)) pv) (bR fs (kI k) v):=by
 have huq:∀i j,elseAt C.p i=some j→i≠az C.p k→j≠k:=fun i j hj hi e=>by subst e;exact hi (jo hj ho)
 refine⟨h.uniq.del,fun i h1 h2 h3=>?_,fun i h1 h2 h3=>?_,fun i h1=>?_,fun i h1 h2 h3=>?_⟩
 ·have hik:i≠k:=fun e=>by subst e;omega
  by_cases hio:i=az C.p k
  ·subst hio
   rw[kK h.uniq,ho]
   dsimp only
   rw[if_pos (by omega)]
  ·rw[mY (by omega),h.zero i h1 (by omega) h3,dA hik]
   cases he:elseAt C.p i with
   | none=>rfl
   | some j=>
    have:=huq i j he hio
    dsimp only
    by_cases hj:j < k
    ·rw[if_pos hj,if_pos (by omega)]
    ·rw[if_neg hj,if_neg (by omega)]
 ·have hik:i≠k:=fun e=>by subst e;omega
  by_cases hio:i=az C.p k
  ·subst hio
   rw[ez,ho]
   dsimp only
   rw[if_pos (by omega),fc hp]
  ·rw[cF (by omega),h.over i h1 (by omega) h3]
   cases he:elseAt C.p i with
   | none=>rfl
   | some j=>
    have:=huq i j he hio
    dsimp only
    rw[dA this]
    by_cases hj:j < k
    ·rw[if_pos hj,if_pos (by omega)]
    ·rw[if_neg hj,if_neg (by omega)]
 ·rw[cF (by omega)]
  exact h.fresh i (by omega)
 ·have hik:i≠k:=fun e=>by subst e;omega
  rw[cF (by omega)]
  exact h.first i h1 (by omega) h3
theorem MapOk.end (h:MapOk C x k pos heads zs os fs)(hk:bH C.p k=7)(v:Int):MapOk C x (k+1) pos heads zs os (bR fs (kI k) v):=by
 have h':=h.plain (by omega) (atL heads k) v
 refine⟨h'.uniq,h'.zero,h'.over,h'.fresh,fun i h1 h2 h3=>?_⟩
 have hik:i≠k:=fun e=>by subst e;omega
 rw[h'.first i h1 h2 h3,dA hik]
theorem MapOk.exit (h:MapOk C x k pos heads zs os fs){i:Nat}(hi:az C.p k=i)(h1:x.f < i)(h2:i < k)(hk:bH C.p i=3∨bH C.p i=5)(hj:∀j,elseAt C.p i=some j→j < k):
  (bh zs (kI i)=some (atL pos (fE C.p k))∧bh os (kI i)=none)∨(bh zs (kI i)=none∧bh os (kI i)=some (atL pos (fE C.p k))):=by
 have hz:=h.zero i h1 h2 hk
 have ho:=h.over i h1 h2 hk
 unfold fE
 rw[hi]
 cases he:elseAt C.p i with
 | none=>rw[he]at hz ho;exact .inl ⟨hz,ho⟩
 | some j=>
  rw[he]at hz ho
  dsimp only at hz ho ⊢
  rw[if_pos (hj j he)]at hz ho
  exact .inr ⟨hz,ho⟩
end
abbrev mpV (o:Sim.Id):AV:= .r (.c (.mpv o))
abbrev mpH (zs os fs:List (Tr×Int)):List (Sim.Id×AO):=[((0,2,0),.mp (some .i64) zs),((0,2,1),.mp (some .i64) os),((0,2,2),.mp (some .i64) fs)]
theorem qA (C:Cx)(hC:CxOk C)(pd:List Nat)(s:Gs)(d:Int)(ins:List Nat)(q:Ib)(lv:List Int)(x:Sc)(hq:IbOk C x q)(k g:Nat)(hg:bl C g)(zs os fs:List (Tr×Int))(h1:s.items.length+2≤68719476736)(h2:x.chain.length≤100)(h3:s.start=true→s.items.length∈pd)(h4:-1000≤d∧d≤1990)(hlv:lv.length≤68719476736)(hd p:List Int):
  bp Tryz.prog 271 [cr,ibP,tI .i64 (k:Int),tI .i64 (g:Int),mpV (0,2,0),mpV (0,2,1),mpV (0,2,2)] (fG (0,0,1) (0,0,2) (0,1,1) C pd s d ins q lv++mpH zs os fs) (.tup [])
   (fG (1,0,1) (0,0,2) (1,1,1) C pd (aH C x k true (d+1) ⟨an C s d 0 0 k x.chain,hd,p,lv⟩).g (if x.outer=true then d else d+1) ins q (aH C x k true (d+1) ⟨an C s d 0 0 k x.chain,hd,p,lv⟩).lv++mpH zs os fs):=by
 refine ax hΓ aq Tryz.func271 rfl (by decide) rfl rfl ?_
 obtain⟨y,hy,hy0⟩:=hg
 have g1:=br C pd s d ins q lv k 0 0 1 (by unfold bc;omega) (by rw[hq.chain];exact h2) h3 (by omega) (by omega)
 rw[hq.chain]at g1
 have g2:=nD C hC pd (an C s d 0 0 k x.chain) (d+1) ins q lv x hq k true (by unfold bc an;simp only[List.length_append,List.length_cons,List.length_nil];omega) h2 (fun h=>by cases h) (by omega) hlv hd p
 have hdd:(if x.outer=false∧true=true then d+1 else d+1 - 1)=if x.outer=true then d else d+1:=by
  cases x.outer
  ·rw[if_pos ⟨rfl,rfl⟩,if_neg (by simp)]
  ·rw[if_neg (by simp),if_pos rfl];omega
 rw[hdd]at g2
 repeat' ((conv=>whnf);first|apply Wx|apply W6|refine cg g1 ?_|refine cg g2 ?_|apply oi|(apply fi<;>intro h)|refine⟨g,y.tr,rfl,aa hy,?_⟩|refine⟨_,rfl,?_⟩|exact rfl)
 all_goals try exact⟨KP⟩
 all_goals try exact KK
theorem pB (C:Cx)(hC:CxOk C)(pd:List Nat)(s:Gs)(d:Int)(ins:List Nat)(q:Ib)(lv:List Int)(x:Sc)(hq:IbOk C x q)(k g:Nat)(y:CM)(hy:C.p[g]?=some y)(hk:y.faa=3∨y.faa=5)(zs os fs:List (Tr×Int))(j:Nat)(hd:Int)
  (hm:(bh zs (kI g)=some (j:Int)∧bh os (kI g)=none)∨(bh zs (kI g)=none∧bh os (kI g)=some (j:Int))) (hf:y.faa=5→bh fs (kI g)=some hd) (hj:j < s.items.length) (h1:s.items.length+2≤68719476736) (h2:x.chain.length≤100) (h3:s.start=true→s.items.length∈pd) (h4:-1000≤d∧d≤1990) (hlv:lv.length≤68719476736) (s1:Gs) (hs1:s1=if y.faa=5 then an C s d 10 hd k x.chain else s):
  bp Tryz.prog 271 [cr,ibP,tI .i64 (k:Int),tI .i64 (g:Int),mpV (0,2,0),mpV (0,2,1),mpV (0,2,2)] (fG (0,0,1) (0,0,2) (0,1,1) C pd s d ins q lv++mpH zs os fs) (.tup [])
   (fG (1,0,1) (0,0,2) (0,1,1) C pd ⟨bx s1.items j s1.items.length,s1.most,s1.start⟩ d ins q lv++mpH zs os fs):=by
 refine ax hΓ aq Tryz.func271 rfl (by decide) rfl rfl ?_
 have hl1:j < s1.items.length:=by rw[hs1];split <;> first|(simp[an];omega)|omega
 have hil:=bi pd s1.items
 have hjl:j < (itR (clr pd s1.items)).length:=by omega
 obtain⟨it,hit⟩:=af (l:=clr pd s1.items) (k:=j) (by rw[li];exact hl1)
 have hfin:itR (clr pd (bx s1.items j s1.items.length))=(itR (clr pd s1.items)).set j [.d (.int .i64 it.fae.fah),.d (.int .i64 (s1.items.length:Int)),.d (.int .i64 it.fam),.d (.bool it.fai),.d (.lst 1 (it.faj.map ab)),.d (.int .i64 it.fao),.d (.bool it.fap)]:=by rw[mi,fW hit]
 have hne:¬y.faa=0:=by omega
 by_cases h5:y.faa=5
 ·rw[if_pos h5]at hs1
  have hf5:=hf h5
  have g1:=br C pd s d ins q lv k 10 hd 0 (by unfold bc;omega) (by rw[hq.chain];exact h2) h3 (by omega) (by omega)
  rw[hq.chain,←hs1,Int.add_zero]at g1
  have hfv:iE (bh fs (kI g))=hd:=by rw[hf5];rfl
  rw[←hfv]at g1
  rcases hm with⟨m1,m2⟩|⟨m1,m2⟩
  ·have hv:iE (bh zs (kI g))=(j:Int):=by rw[m1];rfl
   repeat' ((conv=>whnf);first|apply Wx|apply W6|refine cg g1 ?_|apply oi|(apply fi<;>intro h)|refine⟨g,y.tr,rfl,aa hy,?_⟩|refine⟨j,hv,hjl,?_⟩|refine⟨_,(dM hit),?_⟩|refine⟨_,rfl,?_⟩|exact rfl)
   all_goals try exact⟨KP⟩
   all_goals try(exfalso;(simp only[m1,m2,Option.isSome_some,Option.isSome_none,Bool.false_eq_true,Bool.true_eq_false,beq_iff_eq,beq_eq_false_iff_ne,ne_eq]at *) <;> first|omega|contradiction)
   all_goals(refine⟨?_⟩;rw[hil,hfin];rfl)
  ·have hv:iE (bh os (kI g))=(j:Int):=by rw[m2];rfl
   repeat' ((conv=>whnf);first|apply Wx|apply W6|refine cg g1 ?_|apply oi|(apply fi<;>intro h)|refine⟨g,y.tr,rfl,aa hy,?_⟩|refine⟨j,hv,hjl,?_⟩|refine⟨_,(dM hit),?_⟩|refine⟨_,rfl,?_⟩|exact rfl)
   all_goals try exact⟨KP⟩
   all_goals try(exfalso;(simp only[m1,m2,Option.isSome_some,Option.isSome_none,Bool.false_eq_true,Bool.true_eq_false,beq_iff_eq,beq_eq_false_iff_ne,ne_eq]at *) <;> first|omega|contradiction)
   all_goals(refine⟨?_⟩;rw[hil,hfin];rfl)
 ·rw[if_neg h5]at hs1
  subst hs1
  rcases hm with⟨m1,m2⟩|⟨m1,m2⟩
  ·have hv:iE (bh zs (kI g))=(j:Int):=by rw[m1];rfl
   repeat' ((conv=>whnf);first|apply Wx|apply W6|apply oi|(apply fi<;>intro h)|refine⟨g,y.tr,rfl,aa hy,?_⟩|refine⟨j,hv,hjl,?_⟩|refine⟨_,(dM hit),?_⟩|refine⟨_,rfl,?_⟩|exact rfl)
   all_goals try exact⟨KP⟩
   all_goals try(exfalso;(simp only[m1,m2,Option.isSome_some,Option.isSome_none,Bool.false_eq_true,Bool.true_eq_false,beq_iff_eq,beq_eq_false_iff_ne,ne_eq]at *) <;> first|omega|contradiction)
   all_goals(refine⟨?_⟩;rw[hil,hfin];rfl)
  ·have hv:iE (bh os (kI g))=(j:Int):=by rw[m2];rfl
   repeat' ((conv=>whnf);first|apply Wx|apply W6|apply oi|(apply fi<;>intro h)|refine⟨g,y.tr,rfl,aa hy,?_⟩|refine⟨j,hv,hjl,?_⟩|refine⟨_,(dM hit),?_⟩|refine⟨_,rfl,?_⟩|exact rfl)
   all_goals try exact⟨KP⟩
   all_goals try(exfalso;(simp only[m1,m2,Option.isSome_some,Option.isSome_none,Bool.false_eq_true,Bool.true_eq_false,beq_iff_eq,beq_eq_false_iff_ne,ne_eq]at *) <;> first|omega|contradiction)
   all_goals(refine⟨?_⟩;rw[hil,hfin];rfl)
theorem yI {pd:List Nat}{l:List CL}:clr (l.length::pd) l=clr pd l:=by
 apply List.ext_getElem?
 intro i
 rw[dL,dL]
 cases hx:l[i]? with
 | none=>rfl
 | some x=>
  have:=aM hx
  simp only[Option.map_some,gG,List.contains_cons]
  rw[show(i==l.length)=false by simp;omega,Bool.false_or]
theorem nS {pd:List Nat}{l:List CL}{n:Nat}{it:CL}(hx:l[n]?=some it)(hs:it.fai=true)(hn:n∉pd):(itR (clr (n::pd) l)).set n [.d (.int .i64 it.fae.fah),.d (.int .i64 it.fae.fal),.d (.int .i64 it.fam),.d (.bool true),.d (.lst 1 (it.faj.map ab)),.d (.int .i64 it.fao),.d (.bool it.fap)]=itR (clr pd l):=by
 have h1:clr pd l=(clr (n::pd) l).set n it:=by
  apply List.ext_getElem?
  intro i
  rw[List.getElem?_set,li,dL,dL]
  by_cases h:n=i
  ·subst h
   rw[if_pos rfl,if_pos (aM hx),hx]
   simp only[Option.map_some,gG]
   rw[if_neg (by simpa using hn)]
  ·rw[if_neg h]
   cases l[i]? with
   | none=>rfl
   | some y=>
    simp only[Option.map_some,gG,List.contains_cons]
    rw[show(i==n)=false by simp;omega,Bool.false_or]
 rw[h1]
 simp only[itR,ae,List.map_set]
 congr 1
 simp[CL.tr,hs]
theorem Ak {C:Cx}(hC:CxOk C){lev:Nat}{x:Sc}{ins:List Nat}(hx:ScOk C x ins)(hlev:((lev+(ins.length - 1):Nat):Int)=C.b.fag){line b:Nat}:∀(e:Ex) {d:Int} {s:Gs},(∀t∈e.toks,t.faa=7→∃f,findN C.p 0 t.fab=some f)→Beg b s→(dh C (aL C lev) x ins line e d s).start=false
 | .node t es,d,s,hca,hb=>by
  rw[dh]
  have hb2:=lc (C:=C) (x:=x) (ins:=ins) (line:=line) (rep:=aL C lev) (fun g d s hg hr hb=>vb hC lev line g d s hx hg hr hb) es d hb
  obtain⟨s1,hs1⟩:∃s1,cD C (aL C lev) x ins line es d s=s1:=⟨_,rfl⟩
  rw[hs1]at hb2 ⊢
  unfold gq
  split
  ·rfl
  ·split
   ·rfl
   ·split
    ·rename_i h7
     obtain⟨f,hf⟩:=hca t (by simp[Ex.toks]) h7
     rw[hf]
     dsimp only
     split
     ·rename_i hr
      obtain⟨r1,_⟩:=dq hr
      have hc:=hx.chain
      obtain⟨m,rfl⟩:∃m,lev=m+1:=⟨lev - 1,by omega⟩
      exact zD hb2
     ·rfl
    ·rfl
theorem xD {C:Cx}(hC:CxOk C){lev:Nat}(hE:Ci C lev):qh C lev:=by
 intro x q ins pd s d hx hq hqf hqe hqb hst hpd hroom hlev hd0 hd1
 refine ax hΓ aq Tryz.func252 rfl (by decide) rfl rfl ?_
 obtain⟨e,he,hfe,hel,hen,hll⟩:=hx.endE hC
 rw[hen]at hqe hroom
 have h60:=hC.len
 have hin:=hC.inl
 have hchn:=hx.chain
 have h3:=oD (n:=lev) (by omega)
 have hch:x.chain.length≤100:=by omega
 have hch':q.chain.length≤100:=by rw[hq.chain];exact hch
 have hxf:0≤x.first∧x.first≤1000:=by have:=hx.first;omega
 have gO:=sF C.p h60
 have hol:=mW C.p C.p.length
 obtain⟨R,hR⟩:∃R,gY C (aL C lev) x ins d (e+1 - (x.f+1)) (x.f+1) (bN C s)=R:=⟨_,rfl⟩
 have hfin:aI C (aL C lev) x ins d s=(R.g,R.lv):=by
  unfold aI
  rw[hen,show e - x.f=e+1 - (x.f+1) by omega,hR]
 rw[hfin]
 have hI0:LInv C lev x ins d e R (x.f+1) (bN C s):=⟨Nat.le_refl _,by omega,by simp[bN],by simp[bN],fun i h1 h2=>by omega,⟨by simp[bN],fun j hj=>by simp[bN]at hj⟩,by rw[show e+1 - (x.f+1)=e - x.f by omega];exact hroom,hR⟩
 have hM0:MapOk C x (x.f+1) (bN C s).pos (bN C s).heads [] [] []:=⟨trivial,fun i h1 h2=>by omega,fun i h1 h2=>by omega,fun i _=>rfl,fun i h1 h2=>by omega⟩
 repeat' ((conv=>whnf);first|apply Wx|apply W6|apply oi|(apply fi<;>intro h)|refine cl gO ?_|refine⟨_,rfl,?_⟩|exact rfl)
 all_goals try exact⟨KP⟩
 conv=>whnf
 refine⟨{r:(Nat×Ls×Int)×(List (Tr×Int)×List (Tr×Int)×List (Tr×Int)) // LInv C lev x ins d e R r.1.1 r.1.2.1∧MapOk C x r.1.1 r.1.2.1.pos r.1.2.1.heads r.2.1 r.2.2.1 r.2.2.2∧(r.1.1=e+1→r.1.2.2=if x.outer=true then d else d+1)∧s.items.length≤r.1.2.1.g.items.length∧r.1.2.1.g.start=false},
  fun r=>⟨[(0,cr),(1,ibP),(4,.r (.c (.own (15,0,0)))),(5,mpV (16,0,0)),(6,mpV (17,0,0)),(7,mpV (18,0,0)),(8,tI .i64 (r.1.1.1:Int))],
   [(
    (0,0,0),some (rn C r.1.1.2.1.g r.1.1.2.2 (15,0,1) (15,0,2))),((15,0,1),some (.dar 7 (itR (clr pd r.1.1.2.1.g.items)) none)),((15,0,2),some (.arr false 1 (iY ins))),((0,1,0),some (ibB q (15,0,3))),((15,0,3),some (.arr false 1 (r.1.1.2.1.lv.map ab))),((15,0,0),some (.arr true 1 ((ij C.p C.p.length).map ab))),
    ((16,0,0),some (.mp (some .i64) r.1.2.1)),((17,0,0),some (.mp (some .i64) r.1.2.2.1)),((18,0,0),some (.mp (some .i64) r.1.2.2.2))],[18,17,16,15,0]⟩,
  fun r=>e+1 - r.1.1.1,⟨((x.f+1,bN C s,d),([],[],[])),hI0,hM0,fun h=>by dsimp only at h;omega,Nat.le_refl _,hst⟩,?_,?_⟩
 ·skip
  repeat' ((conv=>whnf);first|apply Wx|apply W6|apply oi|(apply fi<;>intro h)|refine⟨_,rfl,?_⟩|exact rfl)
  all_goals try exact⟨KP⟩
  all_goals try exact⟨KW⟩
 intro⟨⟨⟨k,L,dep⟩,⟨zs,os,fs⟩⟩,hI,hM,hdep,hgs,hL0⟩
 dsimp only at hI hM hdep hgs hL0 ⊢
 by_cases hke:k≤e
 ·obtain⟨ln,hl⟩:=af (l:=C.p) (k:=k) (by omega)
  have h0:=gz hC hx he hI.lo hke hl
  obtain⟨hk0,hk7,_,h20,hexp⟩:=hC.line _ _ hl
  obtain⟨hsh,hnm⟩:=iU hC hl
  have hkf:=hI.lo
  have hIr:=hI.room
  have hIh:=hI.heads
  have hIp:=hI.pos
  have hlvl:=hI.lv.1
  have hkk:=aZ hl
  have hIroom:L.g.items.length+20 * bG lev+3≤68719476736:=by
   obtain⟨n,hn⟩:∃n,e+1 - k=n+1:=⟨e - k,by omega⟩
   rw[hn,Nat.add_mul]at hIr
   omega
  obtain⟨A,hA⟩:∃A,cO C (aL C lev) x ins d k ln L=A:=⟨_,rfl⟩
  have hrepG:∀line g d s,bl C g→bI C ins g s.items.length=true→Grow (bG lev) s (aL C lev x ins line g d s):=fun line g d s hg hr=>cq hC lev line g d s hx hg hr
  have hN:=LInv.next hC hx he hI hke hl
  have hAo:A.g.start=false:=by rw[←hA];exact tG hL0
  have hAg:=(jH (x:=x) (ins:=ins) (rep:=aL C lev) (lev:=lev) hrepG hC hl h0 d L).ge
  rw[hA]at hN hAg
  obtain⟨b1,b2,b3,b4,b5,b6⟩:=mz (C:=C) (x:=x) k ln A
  have hBo:(aK C x k ln A).g.start=false:=by rw[b6];exact hAo
  have hsg:s.items.length≤(aK C x k ln A).g.items.length:=by rw[b4];omega
  have hitl:=bi pd L.g.items
  have hro:bc L.g:=by unfold bc;omega
  have hpdn:∀i∈pd,i < L.g.items.length:=fun i hi=>by have:=hpd i hi;omega
  have gH:=kA ln.faa
  have hpk:k < L.pos.length:=by omega
  have hhk:k < L.heads.length:=by omega
  have hown:∀i:Nat,(endAt C.p i=some k∨elseAt C.p i=some k)→((ij C.p C.p.length).map ab)[k]?=some (ab (i:Int)):=fun i hi=>by
   have hi2:i < C.p.length:=by
    rcases hi with h|h
    ·obtain⟨_,hx,_⟩:=au h;exact aM hx
    ·obtain⟨_,_,hx,_⟩:=aP h;exact aM hx
   rw[List.getElem?_map,vJ hi (by omega) _ hi2]
   rfl
  have hkol:k < ((ij C.p C.p.length).map ab).length:=by rw[List.length_map,hol];omega
  have hkne:ln.faa≠7→k < e:=fun h=>by
   rcases Nat.lt_or_eq_of_le hke with h'|h'
   ·exact h'
   ·subst h'
    obtain⟨z,hz,hz7⟩:=bk he
    rw[hl]at hz
    injection hz with hz
    subst hz
    exact absurd hz7 h
  have hcalls:ln.faa≠7→kT C ln.fac:=fun h=>by
   obtain⟨l0,q1,q2⟩:=hx.fn
   obtain⟨e',q3,_,_,q4⟩:=hC.fn _ _ q1 q2
   rw[he]at q3
   injection q3 with q3
   subst q3
   exact(q4 k ln (by omega) (hkne h) hl).2.1
  obtain⟨g1,hg1⟩:∃g1,dh C (aL C lev) x ins k (exL ln.fac) d ⟨L.g.items,L.g.most,true⟩=g1:=⟨_,rfl⟩
  have hbeg:Beg L.g.items.length (⟨L.g.items,L.g.most,true⟩:Gs):=⟨Nat.le_refl _,⟨fun _=>rfl,fun _=>rfl⟩⟩
  have hX:ba ln.fac=true→ln.faa≠7→bp Tryz.prog 268 [cr,ibP,tI .i64 (k:Int),.r (.c (.t (.lst 3 (ln.fac.map CU.tr)))),tI .i64 (0:Int),tI .i64 (L.g.items.length:Int)] (fG (0,0,1) (0,0,2) (0,1,1) C (L.g.items.length::pd) ⟨L.g.items,L.g.most,true⟩ d ins q L.lv) (.tup []) (fG (1,0,1) (1,0,2) (0,1,1) C (L.g.items.length::pd) g1 (d+1) ins q L.lv):=fun hx1 hx7=>by
   obtain⟨eo,et⟩:=ox hx1
   have h20':(exL ln.fac).toks.length≤20:=by rw[←et];exact h20
   have hmu:=Nat.mul_le_mul_right (bG lev) h20'
   have:=hE (exL ln.fac) x q ins (L.g.items.length::pd) L.lv k 0 L.g.items.length ln ⟨L.g.items,L.g.most,true⟩ d eo hl ⟨[],by rw[List.drop_zero,List.append_nil];exact et⟩ (hcalls hx7) ⟨hx,hq,⟨by dsimp only;omega,hlev,hd0,by omega⟩,hbeg,by simp,fun i hi=>by
    rcases List.mem_cons.1 hi with rfl|hi
    ·exact Nat.le_refl _
    ·have:=hpdn i hi;omega⟩
   rw[hg1]at this
   exact this
  have hGr:ba ln.fac=true→ln.faa≠7→g1.items.length≤L.g.items.length+20 * bG lev∧g1.start=false∧∃it,g1.items[L.g.items.length]?=some it∧it.fai=true:=fun hx1 hx7=>by
   have:=(iQ (x:=x) (ins:=ins) (rep:=aL C lev) (line:=k) (lev:=lev) (fun g d s hg hr=>cq hC lev k g d s hx hg hr) hC hl hx1 d ⟨L.g.items,L.g.most,true⟩).le
   have et:=(ox hx1).2
   have ho:=Ak hC hx hlev (line:=k) (exL ln.fac) (d:=d) (by rw[←et];exact fun t ht h7=>by obtain⟨f,hf,_⟩:=hcalls hx7 t ht h7;exact⟨f,hf⟩) hbeg
   have hm:=sV (C:=C) (rep:=aL C lev) (b:=L.g.items.length) (fun x ins line g d s h=>yQ lev x ins line g d s h) x ins k (exL ln.fac) d ⟨L.g.items,L.g.most,true⟩ (.inl ⟨rfl,rfl⟩)
   rw[hg1]at this ho hm
   refine⟨this,ho,?_⟩
   rcases hm with⟨hm,_⟩|hm
   ·rw[ho]at hm;cases hm
   ·exact hm
  unfold cO at hA
  rw[hg1]at hA
  dsimp only at hA
  have hfr:=yI (pd:=pd) (l:=L.g.items)
  have hcase:ln.faa=4∨ln.faa=7∨ln.faa=1∨ln.faa=2∨ln.faa=6∨(ln.faa=3∨ln.faa=5):=by omega
  rcases hcase with h4|h7|h1|h2|h6|h35
  ·
   rw[if_pos h4]at hA
   obtain⟨o1,o2,o3,o4⟩:=hx.own4 hC he (by omega) hke hl h4
   obtain⟨y,m,hy,y3,hm,_⟩:=aP o1
   have hky:=aZ hy
   have hhe:cz ln.faa=false:=by rw[h4];rfl
   rw[hhe]at gH
   have gS:=br C pd L.g d ins q L.lv k 10 0 0 hro hch' (fun h=>by rw[hL0]at h;cases h) (by omega) (by omega)
   rw[hq.chain,Int.add_zero]at gS
   have a1:A.g=⟨bx (an C L.g d 10 0 k x.chain).items (atL L.pos (az C.p k)) (an C L.g d 10 0 k x.chain).items.length,(an C L.g d 10 0 k x.chain).most,(an C L.g d 10 0 k x.chain).start⟩:=by rw[←hA]
   have a4:A.heads=L.heads:=by rw[←hA]
   have a5:A.pos=L.pos.set k L.g.items.length:=by rw[←hA]
   have a6:A.lv=L.lv:=by rw[←hA]
   have hM2:=hM.else (by omega) o1 o3 hpk (L.g.items.length:Int) (L.g.items.length:Int)
   have hB:aK C x k ln A=A:=by unfold aK;rw[if_neg (by omega)]
   have hz:=hM.zero _ o2 o3 (.inl (by omega))
   rw[o1]at hz
   dsimp only at hz
   rw[if_neg (by omega)]at hz
   obtain⟨p1,p2⟩:=hI.at_ _ o2 o3 (by unfold jumps;omega)
   obtain⟨jn,hjn⟩:=Int.eq_ofNat_of_zero_le p1
   have hzv:iE (bh zs (kI (az C.p k:Int)))=(jn:Int):=by rw[hz];exact hjn
   have hel1:(an C L.g d 10 0 k x.chain).items.length=L.g.items.length+1:=by simp[an]
   have hjl:jn < (itR (clr pd (an C L.g d 10 0 k x.chain).items)).length:=by rw[bi,hel1];omega
   obtain⟨it,hit⟩:=af (l:=clr pd (an C L.g d 10 0 k x.chain).items) (k:=jn) (by rw[li,hel1];omega)
   have hsa:itR (clr pd (bx (an C L.g d 10 0 k x.chain).items (atL L.pos (az C.p k)) (an C L.g d 10 0 k x.chain).items.length))=(itR (clr pd (an C L.g d 10 0 k x.chain).items)).set jn [.d (.int .i64 it.fae.fah),.d (.int .i64 ((itR (clr pd (an C L.g d 10 0 k x.chain).items)).length:Int)),.d (.int .i64 it.fam),.d (.bool it.fai),.d (.lst 1 (it.faj.map ab)),.d (.int .i64 it.fao),.d (.bool it.fap)]:=by rw[mi,hjn,fW hit,bi]
   have hok:=hown _ (.inr o1)
   repeat' ((conv=>whnf);first|(with_reducible apply W1;fail_if_success (with_reducible show Wo _ _ _ _ (Code.region 10 _ _) _ _))|(with_reducible first|apply W2|apply W3|apply W4|apply W5|apply W6|apply W7|apply W8|apply W9)|apply bg|apply oi|(apply fi<;>intro h)|refine⟨k,ln.tr,rfl,aa hl,?_⟩|refine⟨_,rfl,?_⟩|exact rfl)
   all_goals try exact⟨KP⟩
   all_goals try(exfalso;rw[hqe]at h;have:=of_decide_eq_false h;omega)
   conv=>whnf
   rw[hitl]
   repeat' ((conv=>whnf);first|apply Wx|apply W6|refine cg gS ?_|apply oi|(apply fi<;>intro h)|refine cl gH ?_|refine⟨k,rfl,hkol,?_⟩|refine⟨_,hok,?_⟩|refine⟨jn,hzv,hjl,?_⟩|refine⟨_,(dM hit),?_⟩|refine⟨_,rfl,?_⟩|exact rfl)
   all_goals try exact⟨KP⟩
   all_goals try exact⟨congrArg (Tr.int .i64) hqb.symm⟩
   all_goals try exact KK
   all_goals(conv=>whnf)
   all_goals(refine⟨⟨((k+1,aK C x k ln A,d),(eD zs (kI (az C.p k:Int)),bR os (kI (az C.p k:Int)) (L.g.items.length:Int),bR fs (kI k) (L.g.items.length:Int))),hN,by dsimp only;rw[b2,b1];rw[a5,a4];exact hM2,fun h=>by have:=hkne (by omega);dsimp only at h;omega,hsg,hBo⟩,?_,KD⟩)
   repeat' ((conv=>whnf);first|apply Wx|apply W6|apply oi|(apply fi<;>intro h)|refine⟨_,rfl,?_⟩|exact rfl)
   all_goals try exact⟨KP⟩
   all_goals try exact⟨KW⟩
   all_goals(refine⟨?_⟩;dsimp only;simp only[hB,a1,a4,a5,a6,hsa,hitl];try rfl)
  ·
   rw[if_neg (by omega),if_pos h7]at hA
   have hhe:cz ln.faa=false:=by rw[h7];rfl
   rw[hhe]at gH
   obtain⟨o1,o2⟩:=hx.own7 hC he (by omega) hke hl h7
   have hok:=hown _ (.inl o1)
   have hM2:=hM.end (by omega) (L.g.items.length:Int)
   rcases o2 with⟨o2,o3⟩|⟨o2,o3,o4,y,hy,o5⟩
   ·subst o2
    rw[if_pos o3]at hA
    rw[o3]at hok
    have gS:=qA C hC pd L.g d ins q L.lv x hq k x.f hx.fn zs os (bR fs (kI k) (L.g.items.length:Int)) (by omega) hch (fun h=>by rw[hL0]at h;cases h) (by omega) (by omega) L.heads L.pos
    rw[show aH C x k true (d+1) ⟨an C L.g d 0 0 k x.chain,L.heads,L.pos,L.lv⟩=A from hA]at gS
    have a4:A.heads=L.heads:=by rw[←hA];unfold aH;(repeat' split) <;> rfl
    have a5:A.pos=L.pos:=by rw[←hA];unfold aH;(repeat' split) <;> rfl
    have hB:aK C x k ln A=A:=by unfold aK;rw[if_neg (by rintro⟨_,h⟩;exact h o3)]
    repeat' ((conv=>whnf);first|(with_reducible apply W1;fail_if_success (with_reducible show Wo _ _ _ _ (Code.region 10 _ _) _ _))|(with_reducible first|apply W2|apply W3|apply W4|apply W5|apply W6|apply W7|apply W8|apply W9)|apply bg|apply oi|(apply fi<;>intro h)|refine⟨k,ln.tr,rfl,aa hl,?_⟩|refine⟨_,rfl,?_⟩|exact rfl)
    all_goals try exact⟨KP⟩
    all_goals try(exfalso;rw[hqe]at h;have:=of_decide_eq_false h;omega)
    conv=>whnf
    rw[hitl]
    repeat' ((conv=>whnf);first|apply Wx|apply W6|refine cg gS ?_|apply oi|(apply fi<;>intro h)|refine cl gH ?_|refine⟨k,rfl,hkol,?_⟩|refine⟨_,hok,?_⟩|refine⟨_,rfl,?_⟩|exact rfl)
    all_goals try exact⟨KP⟩
    all_goals try exact⟨congrArg (Tr.int .i64) hqb.symm⟩
    all_goals try exact KK
    all_goals(conv=>whnf)
    all_goals(refine⟨⟨((k+1,aK C x k ln A,(if x.outer=true then d else d+1)),(zs,os,bR fs (kI k) (L.g.items.length:Int))),hN,by dsimp only;rw[b2,b1];rw[a5,a4];exact hM2,fun _=>rfl,hsg,hBo⟩,?_,KD⟩)
    repeat' ((conv=>whnf);first|apply Wx|apply W6|apply oi|(apply fi<;>intro h)|refine⟨_,rfl,?_⟩|exact rfl)
    all_goals try exact⟨KP⟩
    all_goals try exact⟨KW⟩
    all_goals(refine⟨?_⟩;dsimp only;simp only[hB];try rfl)
   ·rw[if_neg (by omega)]at hA
    have hky:=aZ hy
    have a1:A.g=if y.faa=5 then an C L.g d 10 (atL L.heads (az C.p k)) k x.chain else L.g:=by rw[←hA,hky];split <;> rfl
    have a4:A.heads=L.heads:=by rw[←hA];split <;> rfl
    have a5:A.pos=L.pos:=by rw[←hA];split <;> rfl
    have a6:A.lv=L.lv:=by rw[←hA];split <;> rfl
    have hex:=hM.exit (i:=az C.p k) rfl o3 o4 (by omega) (fun j hj=>by
     obtain⟨_,e2,_,_,q1,_,q2,_⟩:=aP hj
     rw[o1]at q1
     injection q1 with q1
     omega)
    obtain⟨x1,x2,x3,_⟩:=ut hC hx he (by omega) (by omega) hl h7
    obtain⟨p1,p2⟩:=hI.at_ _ (by omega) x2 x3
    obtain⟨jn,hjn⟩:=Int.eq_ofNat_of_zero_le p1
    rw[hjn]at hex
    have hfs:y.faa=5→bh (bR fs (kI k) (L.g.items.length:Int)) (kI (az C.p k:Int))=some (atL L.heads (az C.p k)):=fun h5=>by rw[cF (by omega)];exact hM.first _ o3 o4 (by omega)
    have gS:=pB C hC pd L.g d ins q L.lv x hq k (az C.p k) y hy o5 zs os (bR fs (kI k) (L.g.items.length:Int)) jn (atL L.heads (az C.p k)) hex hfs (by omega) (by omega) hch (fun h=>by rw[hL0]at h;cases h) (by omega) (by omega) A.g a1
    have hB:(aK C x k ln A).g=⟨bx A.g.items (jn:Int) A.g.items.length,A.g.most,A.g.start⟩:=by unfold aK;rw[if_pos ⟨h7,by omega⟩,a5,hjn]
    repeat' ((conv=>whnf);first|(with_reducible apply W1;fail_if_success (with_reducible show Wo _ _ _ _ (Code.region 10 _ _) _ _))|(with_reducible first|apply W2|apply W3|apply W4|apply W5|apply W6|apply W7|apply W8|apply W9)|apply bg|apply oi|(apply fi<;>intro h)|refine⟨k,ln.tr,rfl,aa hl,?_⟩|refine⟨_,rfl,?_⟩|exact rfl)
    all_goals try exact⟨KP⟩
    all_goals try(exfalso;rw[hqe]at h;have:=of_decide_eq_false h;omega)
    conv=>whnf
    rw[hitl]
    repeat' ((conv=>whnf);first|apply Wx|apply W6|refine cg gS ?_|apply oi|(apply fi<;>intro h)|refine cl gH ?_|refine⟨k,rfl,hkol,?_⟩|refine⟨_,hok,?_⟩|refine⟨_,rfl,?_⟩|exact rfl)
    all_goals try exact⟨KP⟩
    all_goals try exact⟨congrArg (Tr.int .i64) hqb.symm⟩
    all_goals try exact KK
    all_goals(conv=>whnf)
    all_goals(refine⟨⟨((k+1,aK C x k ln A,d),(zs,os,bR fs (kI k) (L.g.items.length:Int))),hN,by dsimp only;rw[b2,b1];rw[a5,a4];exact hM2,fun h=>by dsimp only at h;omega,hsg,hBo⟩,?_,KD⟩)
    repeat' ((conv=>whnf);first|apply Wx|apply W6|apply oi|(apply fi<;>intro h)|refine⟨_,rfl,?_⟩|exact rfl)
    all_goals try exact⟨KP⟩
    all_goals try exact⟨KW⟩
    all_goals(refine⟨?_⟩;dsimp only;simp only[hB,b3,a6];try rfl)
  ·
   rw[if_neg (by omega),if_neg (by omega),if_pos h1]at hA
   have hx1:=hexp (.inl h1)
   have gX:=hX hx1 (by omega)
   obtain⟨hG1,hG2,it,hit1,hit2⟩:=hGr hx1 (by omega)
   have hnp:L.g.items.length∉pd:=fun h=>by have:=hpdn _ h;omega
   have hmk:=nS (pd:=pd) hit1 hit2 hnp
   have hitx:(clr (L.g.items.length::pd) g1.items)[L.g.items.length]?=some (vh it):=by rw[dL,hit1];simp[gG]
   have hnl:L.g.items.length < (itR (clr (L.g.items.length::pd) g1.items)).length:=by rw[bi];exact aM hit1
   have hhe:cz ln.faa=true:=hasExpr_iff.2 (.inl h1)
   rw[hhe]at gH
   have hix:=iC x.locals ln.fab
   have gI:=fB x.locals ln.fab (by omega)
   have gS:=lA C hC pd g1 (d+1) ins q L.lv x hq k (ct x.locals ln.fab) (-1) true rfl (by unfold bc;omega) hch (fun h=>by rw[hG2]at h;cases h) (by omega) hxf (by omega)
   rw[show d+1+-1=d by omega]at gS
   have a1:A.g=an C g1 (d+1) (bF C true) (ca C x (d+1) (ct x.locals ln.fab)) k x.chain:=by rw[←hA];rfl
   have a4:A.heads=L.heads.set k L.g.items.length:=by rw[←hA]
   have a5:A.pos=L.pos:=by rw[←hA]
   have a6:A.lv=L.lv:=by rw[←hA]
   rw[←hq.locals]at gI gS a1
   have hM2:=hM.plain (by omega) (L.g.items.length:Int) (L.g.items.length:Int)
   have hB:aK C x k ln A=A:=by unfold aK;rw[if_neg (by omega)]
   generalize ct q.locals ln.fab=ix at *
   repeat' ((conv=>whnf);first|(with_reducible apply W1;fail_if_success (with_reducible show Wo _ _ _ _ (Code.region 10 _ _) _ _))|(with_reducible first|apply W2|apply W3|apply W4|apply W5|apply W6|apply W7|apply W8|apply W9)|apply bg|apply oi|(apply fi<;>intro h)|refine⟨k,ln.tr,rfl,aa hl,?_⟩|refine⟨_,rfl,?_⟩|exact rfl)
   all_goals try exact⟨KP⟩
   all_goals try(exfalso;rw[hqe]at h;have:=of_decide_eq_false h;omega)
   conv=>whnf
   rw[hitl]
   repeat' ((conv=>whnf);first|apply Wx|apply W6|refine cg gX ?_|refine cg gS ?_|apply oi|(apply fi<;>intro h)|refine cl gH ?_|refine⟨L.g.items.length,rfl,hnl,?_⟩|refine⟨_,(dM hitx),?_⟩|refine cl gI ?_|refine⟨_,rfl,?_⟩|exact rfl)
   all_goals try exact⟨KP⟩
   all_goals try exact⟨congrArg (Tr.int .i64) hqb.symm⟩
   all_goals try exact⟨congrArg itR hfr.symm⟩
   all_goals try exact⟨hmk⟩
   all_goals try exact KK
   all_goals(conv=>whnf)
   all_goals(refine⟨⟨((k+1,aK C x k ln A,d),(zs,os,bR fs (kI k) (L.g.items.length:Int))),hN,by dsimp only;rw[b2,b1];rw[a5,a4];exact hM2,fun h=>by have:=hkne (by omega);dsimp only at h;omega,hsg,hBo⟩,?_,KD⟩)
   repeat' ((conv=>whnf);first|apply Wx|apply W6|apply oi|(apply fi<;>intro h)|refine⟨_,rfl,?_⟩|exact rfl)
   all_goals try exact⟨KP⟩
   all_goals try exact⟨KW⟩
   all_goals(refine⟨?_⟩;dsimp only;simp only[hB,a1,a4,a5,a6];try rfl)
  ·
   rw[if_neg (by omega),if_neg (by omega),if_neg (by omega),if_pos h2]at hA
   have hx1:=hexp (.inr (.inl h2))
   have gX:=hX hx1 (by omega)
   obtain⟨hG1,hG2,it,hit1,hit2⟩:=hGr hx1 (by omega)
   have hnp:L.g.items.length∉pd:=fun h=>by have:=hpdn _ h;omega
   have hmk:=nS (pd:=pd) hit1 hit2 hnp
   have hitx:(clr (L.g.items.length::pd) g1.items)[L.g.items.length]?=some (vh it):=by rw[dL,hit1];simp[gG]
   have hnl:L.g.items.length < (itR (clr (L.g.items.length::pd) g1.items)).length:=by rw[bi];exact aM hit1
   have hhe:cz ln.faa=true:=hasExpr_iff.2 (.inr (.inl h2))
   rw[hhe]at gH
   have gS:=br C pd g1 (d+1) ins q L.lv k 17 0 (-1) (by unfold bc;omega) hch' (fun h=>by rw[hG2]at h;cases h) (by omega) (by omega)
   rw[hq.chain,show d+1+-1=d by omega]at gS
   have a1:A.g=an C g1 (d+1) 17 0 k x.chain:=by rw[←hA]
   have a4:A.heads=L.heads.set k L.g.items.length:=by rw[←hA]
   have a5:A.pos=L.pos:=by rw[←hA]
   have a6:A.lv=L.lv:=by rw[←hA]
   have hM2:=hM.plain (by omega) (L.g.items.length:Int) (L.g.items.length:Int)
   have hB:aK C x k ln A=A:=by unfold aK;rw[if_neg (by omega)]
   repeat' ((conv=>whnf);first|(with_reducible apply W1;fail_if_success (with_reducible show Wo _ _ _ _ (Code.region 10 _ _) _ _))|(with_reducible first|apply W2|apply W3|apply W4|apply W5|apply W6|apply W7|apply W8|apply W9)|apply bg|apply oi|(apply fi<;>intro h)|refine⟨k,ln.tr,rfl,aa hl,?_⟩|refine⟨_,rfl,?_⟩|exact rfl)
   all_goals try exact⟨KP⟩
   all_goals try(exfalso;rw[hqe]at h;have:=of_decide_eq_false h;omega)
   conv=>whnf
   rw[hitl]
   repeat' ((conv=>whnf);first|apply Wx|apply W6|refine cg gX ?_|refine cg gS ?_|apply oi|(apply fi<;>intro h)|refine cl gH ?_|refine⟨L.g.items.length,rfl,hnl,?_⟩|refine⟨_,(dM hitx),?_⟩|refine⟨_,rfl,?_⟩|exact rfl)
   all_goals try exact⟨KP⟩
   all_goals try exact⟨congrArg (Tr.int .i64) hqb.symm⟩
   all_goals try exact⟨congrArg itR hfr.symm⟩
   all_goals try exact⟨hmk⟩
   all_goals try exact KK
   all_goals(conv=>whnf)
   all_goals(refine⟨⟨((k+1,aK C x k ln A,d),(zs,os,bR fs (kI k) (L.g.items.length:Int))),hN,by dsimp only;rw[b2,b1];rw[a5,a4];exact hM2,fun h=>by have:=hkne (by omega);dsimp only at h;omega,hsg,hBo⟩,?_,KD⟩)
   repeat' ((conv=>whnf);first|apply Wx|apply W6|apply oi|(apply fi<;>intro h)|refine⟨_,rfl,?_⟩|exact rfl)
   all_goals try exact⟨KP⟩
   all_goals try exact⟨KW⟩
   all_goals(refine⟨?_⟩;dsimp only;simp only[hB,a1,a4,a5,a6];try rfl)
  ·
   rw[if_neg (by omega),if_neg (by omega),if_neg (by omega),if_neg (by omega),if_pos h6]at hA
   have hx1:=hexp (.inr (.inr (.inr (.inr h6))))
   have gX:=hX hx1 (by omega)
   obtain⟨hG1,hG2,it,hit1,hit2⟩:=hGr hx1 (by omega)
   have hnp:L.g.items.length∉pd:=fun h=>by have:=hpdn _ h;omega
   have hmk:=nS (pd:=pd) hit1 hit2 hnp
   have hitx:(clr (L.g.items.length::pd) g1.items)[L.g.items.length]?=some (vh it):=by rw[dL,hit1];simp[gG]
   have hnl:L.g.items.length < (itR (clr (L.g.items.length::pd) g1.items)).length:=by rw[bi];exact aM hit1
   have hhe:cz ln.faa=true:=hasExpr_iff.2 (.inr (.inr (.inr (.inr h6))))
   rw[hhe]at gH
   have gS:=nD C hC pd g1 (d+1) ins q L.lv x hq k false (by unfold bc;omega) hch (fun h=>by rw[hG2]at h;cases h) (by omega) (by omega) (L.heads.set k L.g.items.length) L.pos
   rw[hA,if_neg (by simp),Int.add_sub_cancel]at gS
   have a4:A.heads=L.heads.set k L.g.items.length:=by rw[←hA];unfold aH;(repeat' split) <;> rfl
   have a5:A.pos=L.pos:=by rw[←hA];unfold aH;(repeat' split) <;> rfl
   have hM2:=hM.plain (by omega) (L.g.items.length:Int) (L.g.items.length:Int)
   have hB:aK C x k ln A=A:=by unfold aK;rw[if_neg (by omega)]
   repeat' ((conv=>whnf);first|(with_reducible apply W1;fail_if_success (with_reducible show Wo _ _ _ _ (Code.region 10 _ _) _ _))|(with_reducible first|apply W2|apply W3|apply W4|apply W5|apply W6|apply W7|apply W8|apply W9)|apply bg|apply oi|(apply fi<;>intro h)|refine⟨k,ln.tr,rfl,aa hl,?_⟩|refine⟨_,rfl,?_⟩|exact rfl)
   all_goals try exact⟨KP⟩
   all_goals try(exfalso;rw[hqe]at h;have:=of_decide_eq_false h;omega)
   conv=>whnf
   rw[hitl]
   repeat' ((conv=>whnf);first|apply Wx|apply W6|refine cg gX ?_|refine cg gS ?_|apply oi|(apply fi<;>intro h)|refine cl gH ?_|refine⟨L.g.items.length,rfl,hnl,?_⟩|refine⟨_,(dM hitx),?_⟩|refine⟨_,rfl,?_⟩|exact rfl)
   all_goals try exact⟨KP⟩
   all_goals try exact⟨congrArg (Tr.int .i64) hqb.symm⟩
   all_goals try exact⟨congrArg itR hfr.symm⟩
   all_goals try exact⟨hmk⟩
   all_goals try exact KK
   all_goals(conv=>whnf)
   all_goals(refine⟨⟨((k+1,aK C x k ln A,d),(zs,os,bR fs (kI k) (L.g.items.length:Int))),hN,by dsimp only;rw[b2,b1];rw[a5,a4];exact hM2,fun h=>by have:=hkne (by omega);dsimp only at h;omega,hsg,hBo⟩,?_,KD⟩)
   repeat' ((conv=>whnf);first|apply Wx|apply W6|apply oi|(apply fi<;>intro h)|refine⟨_,rfl,?_⟩|exact rfl)
   all_goals try exact⟨KP⟩
   all_goals try exact⟨KW⟩
   all_goals(refine⟨?_⟩;dsimp only;simp only[hB,a4,a5];try rfl)
  ·
   rw[if_neg (by omega),if_neg (by omega),if_neg (by omega),if_neg (by omega),if_neg (by omega)]at hA
   have hx1:=hexp (by omega)
   have gX:=hX hx1 (by omega)
   obtain⟨hG1,hG2,it,hit1,hit2⟩:=hGr hx1 (by omega)
   have hnp:L.g.items.length∉pd:=fun h=>by have:=hpdn _ h;omega
   have hmk:=nS (pd:=pd) hit1 hit2 hnp
   have hitx:(clr (L.g.items.length::pd) g1.items)[L.g.items.length]?=some (vh it):=by rw[dL,hit1];simp[gG]
   have hnl:L.g.items.length < (itR (clr (L.g.items.length::pd) g1.items)).length:=by rw[bi];exact aM hit1
   have hhe:cz ln.faa=true:=hasExpr_iff.2 (by omega)
   rw[hhe]at gH
   have gS:=br C pd g1 (d+1) ins q L.lv k 11 0 (-1) (by unfold bc;omega) hch' (fun h=>by rw[hG2]at h;cases h) (by omega) (by omega)
   rw[hq.chain,show d+1+-1=d by omega]at gS
   have a1:A.g=an C g1 (d+1) 11 0 k x.chain:=by rw[←hA]
   have hitg:=bi pd g1.items
   have a4:A.heads=L.heads.set k L.g.items.length:=by rw[←hA]
   have a5:A.pos=L.pos.set k g1.items.length:=by rw[←hA]
   have a6:A.lv=L.lv:=by rw[←hA]
   have hM2:=hM.opens (by omega) hpk hhk (g1.items.length:Int) (L.g.items.length:Int)
   have hB:aK C x k ln A=A:=by unfold aK;rw[if_neg (by omega)]
   repeat' ((conv=>whnf);first|(with_reducible apply W1;fail_if_success (with_reducible show Wo _ _ _ _ (Code.region 10 _ _) _ _))|(with_reducible first|apply W2|apply W3|apply W4|apply W5|apply W6|apply W7|apply W8|apply W9)|apply bg|apply oi|(apply fi<;>intro h)|refine⟨k,ln.tr,rfl,aa hl,?_⟩|refine⟨_,rfl,?_⟩|exact rfl)
   all_goals try exact⟨KP⟩
   all_goals try(exfalso;rw[hqe]at h;have:=of_decide_eq_false h;omega)
   conv=>whnf
   rw[hitl]
   repeat' ((conv=>whnf);first|apply Wx|apply W6|refine cg gX ?_|refine cg gS ?_|apply oi|(apply fi<;>intro h)|refine cl gH ?_|refine⟨L.g.items.length,rfl,hnl,?_⟩|refine⟨_,(dM hitx),?_⟩|refine⟨_,rfl,?_⟩|exact rfl)
   all_goals try exact⟨KP⟩
   all_goals try exact⟨congrArg (Tr.int .i64) hqb.symm⟩
   all_goals try exact⟨congrArg itR hfr.symm⟩
   all_goals try exact⟨hmk⟩
   all_goals try exact KK
   all_goals(conv=>whnf)
   all_goals(refine⟨⟨((k+1,aK C x k ln A,d),(bR zs (kI k) (g1.items.length:Int),os,bR fs (kI k) (L.g.items.length:Int))),hN,by dsimp only;rw[b2,b1];rw[a5,a4];exact hM2,fun h=>by have:=hkne (by omega);dsimp only at h;omega,hsg,hBo⟩,?_,KD⟩)
   repeat' ((conv=>whnf);first|apply Wx|apply W6|apply oi|(apply fi<;>intro h)|refine⟨_,rfl,?_⟩|exact rfl)
   all_goals try exact⟨KP⟩
   all_goals try exact⟨KW⟩
   all_goals(refine⟨?_⟩;dsimp only;simp only[hB,a1,a4,a5,a6,List.length_set,bi];try rfl)
 ·have hk1:k=e+1:=by have:=hI.hi;omega
  subst hk1
  have hf:=hI.fin
  rw[Nat.sub_self,gY]at hf
  subst hf
  rw[hdep rfl]
  repeat' ((conv=>whnf);first|apply Wx|apply W6|apply oi|(apply fi<;>intro h)|refine⟨_,rfl,?_⟩|exact rfl)
  all_goals try exact⟨KP⟩
  all_goals try(exfalso;rw[hqe]at h;have:=of_decide_eq_true h;omega)
theorem xb {C:Cx}(hC:CxOk C):∀lev,ws C lev∧qh C lev:=by
 have hL:∀lev,ws C lev→qh C lev:=fun lev hR=>xD hC fun e x q ins pd lv k p b ln s d h1 h2 h3 h4 h5=>tC hC hR e.toks.length e (Nat.le_refl _) x q ins pd lv k p b ln s d h1 h2 h3 h4 h5
 intro lev
 induction lev with
 | zero=>
  have hR:ws C 0:=by
   intro x q ins pd lv k g b s d hk hg hrb hr
   obtain⟨r1,_⟩:=dq hrb
   have h1:=hr.rm.depth
   have h2:=hr.sc.chain
   omega
  exact⟨hR,hL 0 hR⟩
 | succ n ih=>
  have hR:=An hC ih.2
  exact⟨hR,hL _ hR⟩
abbrev bV (b:CE):AV:= .r (.agg [.t (.int .i64 b.fan),.t (.int .i64 b.fag),.t (.bool b.faq),.t (.bool b.far)])
theorem jY (C:Cx)(hC:CxOk C)(g:Nat)(hg:bl C g)(e5:C.args=argsN C.p g):
  bp Tryz.prog 219 [vP C.p,tI .i64 (g:Int),bV C.b,tB C.framed,tI .i64 C.words] [] (.tup [.c (.own (1,0,0)),.c (.t (.int .i64 (cf C g).most))]) [((1,0,0),.dar 7 (ae ((cf C g).items.map CL.tr)) none)]:=by
 refine ax hΓ aq Tryz.func219 rfl (by decide) rfl rfl ?_
 obtain⟨y,hy,hy0⟩:=hg
 have h60:=hC.len
 have hw:=hC.words
 have hin:=hC.inl
 have hA:argsN C.p g=y.fad.length:=by rw[argsN,hy]
 have h4:=(hC.line g y hy).2.2.1
 have hloc:=ck hC ⟨y,hy,hy0⟩
 have hyl:(y.fad.map ag).length=y.fad.length:=by simp
 have hll:((localsOf C.p (g:Int)).map ag).length=(localsOf C.p (g:Int)).length:=by simp
 have hS:ScOk C (bf C g) [g]:=⟨⟨y,hy,hy0⟩,rfl,⟨Int.le_refl _,by simp[bf]⟩,rfl,by simp[bf],fun _=>e5,rfl⟩
 obtain⟨e,he1,he2,he3,he4,_⟩:=hS.endE hC
 have gL:=fC C.p (g:Int) (by omega) (fun z hz=>aC hC.small hz)
 have gE:=co C.p (g:Int) (by omega)
 have hee:aY C.p (g:Int)=(e:Int):=by rw[aV];exact aU he1
 rw[hee]at gE
 have hlev:((C.b.fag.toNat:Nat):Int)=C.b.fag:=Int.toNat_of_nonneg hin.1
 have h3:=oD (n:=C.b.fag.toNat) (by omega)
 have gLs:=(xb hC C.b.fag.toNat).2 (bf C g) ⟨(g:Int),(e:Int),localsOf C.p (g:Int),C.args,0,[],C.words⟩ [g] [] (dp C g) C.words hS ⟨rfl,rfl,rfl,fun _=>rfl,hS.out,fun _=>rfl⟩ rfl (by rw[he4]) rfl rfl (fun i hi=>by cases hi) (by
  rw[he4]
  have:=Nat.mul_le_mul (show e - (bf C g).f≤60 by omega) (show 20 * bG C.b.fag.toNat+3≤20 * 8679837+3 by omega)
  simp only[dp,an,List.length_append,List.length_nil,List.length_cons]
  omega) (by simpa using hlev) hw.1 (by omega)
 rw[if_pos (by rfl)]at gLs
 have g1:=fun code=>br C [] ⟨[],(localsOf C.p (g:Int)).length - C.args,false⟩ 0 [g] ⟨(g:Int),(e:Int),localsOf C.p (g:Int),C.args,0,[],C.words⟩ [] g code C.words C.words (by unfold bc;simp) (by simp) (fun h=>by cases h) (by omega) (by omega)
 have hwm:IntKind.i64.wrap ((((localsOf C.p (g:Int)).map ag).length:Int) - C.args)=((localsOf C.p (g:Int)).length:Int) - C.args:=by rw[hll,IntWalk.i64_in _ (by omega)]
 repeat' ((conv=>whnf);first|(with_reducible apply W1;fail_if_success (with_reducible show Wo _ _ _ _ (Code.region 3 _ _) _ _))|(with_reducible first|apply W2|apply W3|apply W4|apply W5|apply W6|apply W7|apply W8|apply W9)|apply bg|apply oi|(apply fi<;>intro h)|refine cl gE ?_|refine cl gL ?_|refine⟨g,y.tr,rfl,aa hy,?_⟩|refine⟨_,rfl,?_⟩|exact rfl)
 all_goals try exact⟨KP⟩
 conv=>whnf
 refine gf ⟨[(0,vP C.p),(1,tI .i64 (g:Int)),(3,tB C.framed),(4,tI .i64 C.words),(12,.r (.c (.ptr (22,0,0) 0))),(13,.r (.c (.ptr (38,0,0) 0)))],
  [(
   (22,0,0),some (.box [.t (.lst 4 (C.p.map CM.tr)),.t (.int .i64 C.b.fan),.t (.int .i64 C.b.fag),.t (.bool C.b.faq),.t (.bool C.b.far),.t (.bool C.framed),.t (.int .i64 C.words),.t (.int .i64 0),.nils 0,.t (.int .i64 0),.own (20,0,0)])),((20,0,0),some (.arr true 1 [ab (g:Int)])),
   ((38,0,0),some (.box [.t (.int .i64 (g:Int)),.t (.int .i64 (e:Int)),.t (.lst 1 ((localsOf C.p (g:Int)).map ag)),.t (.int .i64 C.args),.t (.int .i64 0),.t (.lst 1 []),.t (.int .i64 C.words),.nils 0]))],_⟩ ?_ ?_ rfl ?_
 ·exact⟨.inl rfl,.inl rfl,.inl rfl,.inl rfl,.inl rfl,.inl rfl,trivial⟩
 ·refine⟨.inr (.inl rfl),.inr (.inl rfl),.inr (.inr (.inl ⟨_,_,rfl,rfl,.inl rfl,.inl rfl,.inr (.inr ⟨_,rfl,rfl,?_⟩),.inl ?_,.inl rfl,.inr (.inr ⟨_,rfl,⟨_,rfl⟩,?_⟩),.inl rfl,.inl rfl,trivial⟩)),trivial⟩
  ·intro q hq;simp only[AC.ids,List.mem_cons,List.not_mem_nil,or_false]at hq;subst hq;rfl
  ·rw[e5,hyl,hA]
  ·intro q hq;simp[AC.ids]at hq
 refine vu ⟨[(0,vP C.p),(1,tI .i64 (g:Int)),(3,tB C.framed),(4,tI .i64 C.words),(12,.r (.c (.ptr (22,0,0) 0))),(13,.r (.c (.ptr (38,0,0) 0)))],
  [((22,0,0),some (rn C ⟨[],0,false⟩ 0 (22,0,1) (22,0,2))),((22,0,1),some (.dar 7 (itR (clr [] [])) none)),((22,0,2),some (.arr false 1 (iY [g]))),((38,0,0),some (ibB ⟨(g:Int),(e:Int),localsOf C.p (g:Int),C.args,0,[],C.words⟩ (38,0,1))),((38,0,1),some (.arr false 1 []))],[38,22,0]⟩ ?_ ?_
 ·skip
  repeat' ((conv=>whnf);first|apply Wx|apply W6|apply oi|(apply fi<;>intro h)|refine⟨_,rfl,?_⟩|exact rfl)
  all_goals try exact⟨KP⟩
  all_goals try exact⟨by rw[uF]⟩
 cases hfm:C.framed with
 | true=>
  have hh:dp C g=an C ⟨[],(localsOf C.p (g:Int)).length - C.args,false⟩ 0 13 C.words g []:=by rw[dp,if_pos hfm]
  rw[hh]at gLs
  have g2:=g1 13
  rw[Int.zero_add]at g2
  have hcr:cf C g=(aI C (aL C C.b.fag.toNat) (bf C g) [g] C.words (an C ⟨[],(localsOf C.p (g:Int)).length - C.args,false⟩ 0 13 C.words g [])).1:=by rw[cf,hh]
  rw[hcr]
  repeat' ((conv=>whnf);first|apply Wx|apply W6|refine cg g2 ?_|refine cg gLs ?_|apply oi|(apply fi<;>intro h)|refine⟨_,rfl,?_⟩|exact rfl)
  all_goals try exact⟨KP⟩
  all_goals try(exfalso;rw[hfm]at h;cases h;done)
  all_goals try exact⟨congrArg (Tr.int .i64) hwm.symm⟩
  all_goals try exact⟨by rw[uF]⟩
 | false=>
  have hh:dp C g=an C ⟨[],(localsOf C.p (g:Int)).length - C.args,false⟩ 0 15 C.words g []:=by rw[dp,if_neg (by simp[hfm])]
  rw[hh]at gLs
  have g2:=g1 15
  rw[Int.zero_add]at g2
  have hcr:cf C g=(aI C (aL C C.b.fag.toNat) (bf C g) [g] C.words (an C ⟨[],(localsOf C.p (g:Int)).length - C.args,false⟩ 0 15 C.words g [])).1:=by rw[cf,hh]
  rw[hcr]
  repeat' ((conv=>whnf);first|apply Wx|apply W6|refine cg g2 ?_|refine cg gLs ?_|apply oi|(apply fi<;>intro h)|refine⟨_,rfl,?_⟩|exact rfl)
  all_goals try exact⟨KP⟩
  all_goals try(exfalso;rw[hfm]at h;cases h;done)
  all_goals try exact⟨congrArg (Tr.int .i64) hwm.symm⟩
  all_goals try exact⟨by rw[uF]⟩
theorem ji (p:List CM)(f:Int)(b:CE)(hs:aA 1048576 (.lst 4 (p.map CM.tr))):bp Tryz.prog 159 [vP p,tI .i64 f,bV b] [] (.r (.c (.own (1,0,0)))) [((1,0,0),.dar 7 (ae ((aW p f b).map CL.tr)) none)]:=by
 refine ax hΓ aq Tryz.func159 rfl (by decide) rfl rfl ?_
 have hP:=eK p hs
 have hB:=jS b
 have hl:=bo hs
 have gF:=bX p (by omega)
 have hfl:((ay p).map fun n:Nat=>ab n).length=(ay p).length:=by simp
 have hfl2:=kX p 0
 change(ay p).length≤_ at hfl2
 have hww:IntKind.i64.wrap ((((ay p).map fun n:Nat=>ab n).length:Int) - 1)=((ay p).length:Int) - 1:=by rw[hfl,IntWalk.i64_in _ (by omega)]
 have gb:=aJ f 0 (IntKind.i64.wrap ((((ay p).map fun n:Nat=>ab n).length:Int) - 1))
 have hbw:ah f 0 (IntKind.i64.wrap ((((ay p).map fun n:Nat=>ab n).length:Int) - 1))=decide (0≤f∧f < (ay p).length):=by
  rw[hww,ah];by_cases h:0≤f∧f < (ay p).length <;> simp[h] <;> omega
 rw[hbw]at gb
 by_cases hc:aF p=true∧bE b=true∧0≤f∧f < (ay p).length
 ·have hcf:aW p f b=fd p f.toNat b:=by rw[aW,if_pos hc]
  rw[hcf]
  obtain⟨h1,h2,h3,h4⟩:=hc
  rw[show decide (0≤f∧f < (ay p).length)=true from decide_eq_true ⟨h3,h4⟩]at gb
  obtain⟨f,rfl⟩:=Int.eq_ofNat_of_zero_le h3
  rw[Int.toNat_natCast]
  rw[h1]at hP
  rw[h2]at hB
  have hb:0≤b.fag∧b.fag≤3:=by
   unfold bE at h2
   simp only[Bool.and_eq_true,within_iff]at h2
   exact h2.2
  obtain⟨g,hg⟩:=af (l:=ay p) (k:=f) (by omega)
  have hpg:=(pY hs h1).foldIf b
  have hg':(ay (foldIf p b))[f]?=some g:=by rw[gv];exact hg
  obtain⟨hgl,y,hy,hy0⟩:=kS (List.mem_of_getElem? hg')
  have h4':=(hpg.line g y hy).2.2.1
  have ha:(0:Int)≤(argsN (foldIf p b) g:Int)∧(argsN (foldIf p b) g:Int)≤4:=by rw[argsN,hy];dsimp only;omega
  have hC0:CxOk (ctx (foldIf p b) f g b 0):=hpg.cx ha (by omega) hb
  have hm:=mc hC0 ⟨y,hy,hy0⟩ rfl
  have hC1:CxOk (ctx (foldIf p b) f g b (cf (ctx (foldIf p b) f g b 0) g).most):=hpg.cx ha hm hb
  have g0:=jY _ hC0 g ⟨y,hy,hy0⟩ rfl
  have g1:=jY _ hC1 g ⟨y,hy,hy0⟩ rfl
  have hcd:fd p f b=(cf (ctx (foldIf p b) f g b (cf (ctx (foldIf p b) f g b 0) g).most) g).items:=by rw[fd,hg']
  rw[hcd]
  generalize cf (ctx (foldIf p b) f g b 0) g=R0 at *
  generalize cf (ctx (foldIf p b) f g b R0.most) g=R1 at *
  have hfo:=lW p hs
  rw[show cI p=p.map aG by rw[cI,if_pos h1]]at hfo
  have gF2:=bX (foldIf p b) (Nat.le_trans hpg.len (by omega))
  rw[gv]at gF2
  have hfr:f < ((ay p).map fun n:Nat=>ab n).length:=by omega
  have hfg:((ay p).map fun n:Nat=>ab n)[f]?=some (ab (g:Int)):=by rw[List.getElem?_map,hg];rfl
  obtain⟨fr,inl,fold,sp⟩:=b
  cases fold with
  | true=>
   have e:foldIf p ⟨fr,inl,true,sp⟩=p.map aG:=rfl
   simp only[ctx,e]at g0 g1 gF2
   repeat' ((conv=>whnf);first|apply Wx|apply W6|apply oi|(apply fi<;>intro h)|refine cl hP ?_|refine cl hB ?_|refine cl gF ?_|refine cl gb ?_|refine cl hfo ?_|refine cl gF2 ?_|refine⟨f,rfl,hfr,?_⟩|refine⟨_,hfg,?_⟩|refine⟨_,rfl,?_⟩|exact rfl)
   all_goals try exact⟨KP⟩
   all_goals try exact⟨by omega⟩
   all_goals try exact⟨rfl⟩
   conv=>whnf
   refine cg (g0) ?_
   repeat' ((conv=>whnf);first|apply Wx|apply W6|refine cg g1 ?_|apply oi|(apply fi<;>intro h)|refine⟨_,rfl,?_⟩|exact rfl)
   all_goals try exact⟨KP⟩
   all_goals try exact⟨lr _⟩
   all_goals try exact⟨by omega⟩
   all_goals try exact⟨rfl⟩
   all_goals try exact KX
  | false=>
   have e:foldIf p ⟨fr,inl,false,sp⟩=p:=rfl
   simp only[ctx,e]at g0 g1 gF2
   repeat' ((conv=>whnf);first|apply Wx|apply W6|apply oi|(apply fi<;>intro h)|refine cl hP ?_|refine cl hB ?_|refine cl gF ?_|refine cl gb ?_|refine⟨f,rfl,hfr,?_⟩|refine⟨_,hfg,?_⟩|refine⟨_,rfl,?_⟩|exact rfl)
   all_goals try exact⟨KP⟩
   all_goals try exact⟨by omega⟩
   all_goals try exact⟨rfl⟩
   conv=>whnf
   refine cg (g0) ?_
   repeat' ((conv=>whnf);first|apply Wx|apply W6|refine cg g1 ?_|apply oi|(apply fi<;>intro h)|refine⟨_,rfl,?_⟩|exact rfl)
   all_goals try exact⟨KP⟩
   all_goals try exact⟨lr _⟩
   all_goals try exact⟨by omega⟩
   all_goals try exact⟨rfl⟩
   all_goals try exact KX
 ·have hcf:aW p f b=[]:=by rw[aW,if_neg hc]
  rw[hcf]
  cases h1:aF p with
  | false=>
   rw[h1]at hP
   repeat' ((conv=>whnf);first|apply Wx|apply W6|apply oi|(apply fi<;>intro h)|refine cl hP ?_|refine cl hB ?_|refine cl gF ?_|refine cl gb ?_|refine⟨_,rfl,?_⟩|exact rfl)
   all_goals try exact⟨KP⟩
   all_goals try exact KX
  | true=>
   rw[h1]at hP
   cases h2:bE b with
   | false=>
    rw[h2]at hB
    repeat' ((conv=>whnf);first|apply Wx|apply W6|apply oi|(apply fi<;>intro h)|refine cl hP ?_|refine cl hB ?_|refine cl gF ?_|refine cl gb ?_|refine⟨_,rfl,?_⟩|exact rfl)
    all_goals try exact⟨KP⟩
    all_goals try exact KX
   | true=>
    rw[h2]at hB
    have hc':¬(0≤f∧f < (ay p).length):=fun hh=>hc ⟨h1,h2,hh⟩
    rw[show decide (0≤f∧f < (ay p).length)=false from decide_eq_false hc']at gb
    repeat' ((conv=>whnf);first|apply Wx|apply W6|apply oi|(apply fi<;>intro h)|refine cl hP ?_|refine cl hB ?_|refine cl gF ?_|refine cl gb ?_|refine⟨_,rfl,?_⟩|exact rfl)
    all_goals try exact⟨KP⟩
    all_goals try exact KX
theorem jd (p:List CM)(f:Int)(b:CE)(hs:aA 1048576 (.lst 4 (p.map CM.tr))):Sim.Spec Tryz.prog 159 [tvP p,tvI f,.agg b.tr] (rL 7 ((aW p f b).map CL.tr)):=
 xa (ts:=[tvP p,tvI f,.agg b.tr]) (ji p f b hs)
theorem rO (f:Nat)(b:CE)(image:Int)(hf:f≤100):Sim.Spec Tryz.prog 157 [tvI (f:Int),.agg b.tr,tvI image] (rB (pf b image f)):=by
 refine aR hΓ aq Tryz.func157 rfl (by decide) rfl ?_
 unfold pf
 have hm:(f:Int).tmod 2=(f:Int) % 2:=Int.tmod_eq_emod_of_nonneg (by omega)
 repeat' ((conv=>whnf);first|apply Wx|apply W6|apply oi|(apply fi<;>intro h)|refine⟨_,rfl,?_⟩|exact rfl)
 all_goals try exact⟨KP⟩
 all_goals exact⟨by simp[h,hm]⟩
theorem mx (p:List CM)(b:CE)(image:Int)(hs:aA 1048576 (.lst 4 (p.map CM.tr)))(h1:aF p=true)(h2:bE b=true):bp Tryz.prog 79 [vP p,bV b,tI .i64 image] [] (.tup [.c (.own (1,0,0)),.c (.own (1,0,1))]) [((1,0,0),.arr true 1 (lb (fA p b image (ay p).length 0 0))),((1,0,1),.dar 1 (ae (gu (fA p b image (ay p).length 0 0))) none)]:=by
 refine ax hΓ aq Tryz.func79 rfl (by decide) rfl rfl ?_
 obtain⟨h6,h60⟩:=nH h1
 have gF:=bX p (by omega)
 have hfl:((ay p).map fun n:Nat=>ab n).length=(ay p).length:=by simp
 repeat' ((conv=>whnf);first|apply Wx|apply W6|apply oi|(apply fi<;>intro h)|refine cl gF ?_|refine⟨_,rfl,?_⟩|exact rfl)
 all_goals try exact⟨KP⟩
 conv=>whnf
 refine⟨BM p b image,fun q=>⟨[(0,vP p),(2,tI .i64 image),(4,.r (.c (.ptr (4,0,0) 0))),(8,.r (.c (.own (14,0,0)))),(9,.r (.c (.own (15,0,0)))),(10,tI .i64 q.1.2.1),(18,tI .i64 (((ay p).map fun n:Nat=>ab n).length:Int)),(19,tI .i64 (q.1.1:Int))],[((14,0,0),some (.arr true 1 (lb q.1.2.2))),((15,0,0),some (.dar 1 (ae (gu q.1.2.2)) none)),((4,0,0),some (.box [.t (.int .i64 b.fan),.t (.int .i64 b.fag),.t (.bool b.faq),.t (.bool b.far)]))],[14,15,4,0]⟩,fun q=>(ay p).length - q.1.1,⟨(0,0,[]),by simp,by simp,by simp,by simp⟩,?_,?_⟩
 ·skip
  repeat' ((conv=>whnf);first|apply Wx|apply W6|apply oi|(apply fi<;>intro h)|refine⟨_,rfl,?_⟩|exact rfl)
  all_goals try exact⟨KP⟩
 intro⟨⟨f,at0,acc⟩,hk,ha,hal,hr⟩
 dsimp only at hk ha hal hr ⊢
 have hnl:(lb acc).length=acc.length:=by simp[lb]
 have hrl:(ae (gu acc)).length=acc.length:=by rw[aB];simp[gu]
 by_cases hlt:f < (ay p).length
 ·obtain⟨n,hn⟩:∃n,(ay p).length - f=n+1:=⟨(ay p).length - f - 1,by omega⟩
  have hi:=rO f b image (by omega)
  rw[hn,tv]at hr
  cases hin:pf b image f with
  | false=>
   rw[hin]at hi hr
   rw[if_neg (by simp)]at hr
   repeat' ((conv=>whnf);first|apply Wx|apply W6|apply oi|(apply fi<;>intro h)|refine cl hi ?_|refine⟨_,rfl,?_⟩|exact rfl)
   all_goals try exact⟨KP⟩
   all_goals try exact KX
   conv=>whnf
   refine⟨⟨(f+1,at0,acc),by dsimp only;omega,by dsimp only;omega,by dsimp only;omega,by dsimp only;rw[show(ay p).length - (f+1)=n by omega];exact hr⟩,?_,KD⟩
   repeat' ((conv=>whnf);first|apply Wx|apply W6|apply oi|(apply fi<;>intro h)|refine⟨_,rfl,?_⟩|exact rfl)
   all_goals try exact⟨KP⟩
   all_goals try exact⟨KW⟩
  | true=>
   rw[hin]at hi hr
   rw[if_pos rfl]at hr
   have hcs:=jd p (f:Int) b hs
   obtain⟨f1,f2,f3⟩:=BQ (f:=f) hs h1 h2 hlt
   have hch:=(fO (p:=p) (f:=(f:Int)) (b:=b) hs).2
   generalize aW p (f:Int) b=I at *
   have gP:=jQ I at0 f2 (by omega) f3 (fun x hx=>by have:=hch x hx;omega)
   obtain⟨y,y1,y2,y3,y4⟩:=uD (at0:=at0) f1
   have ye:=yc (l:=I) (at0:=at0)
   have hz:=lq y.fak.fae.fah
   have ho:=lN y.fak.fae.fah
   have hpl:=fh I at0
   have hdl:(ae ((cT I at0).map CP.tr)).length=I.length:=by rw[aB,List.length_map,hpl]
   have hix:IntKind.i64.wrap (((ae ((cT I at0).map CP.tr)).length:Int) - 1)=((I.length - 1:Nat):Int):=by rw[hdl,IntWalk.i64_in _ (by omega)];omega
   have hlx:I.length - 1 < (ae ((cT I at0).map CP.tr)).length:=by omega
   have hgx:(ae ((cT I at0).map CP.tr))[I.length - 1]?=some (y.tr.map .d):=by rw[ae,List.getElem?_map,List.getElem?_map,y1];rfl
   repeat' ((conv=>whnf);first|apply Wx|apply W6|refine cg gP ?_|apply oi|(apply fi<;>intro h)|refine cl hi ?_|refine cl hcs ?_|refine⟨_,hix,hlx,?_⟩|refine⟨_,hgx,?_⟩|refine cl ho ?_|refine⟨_,rfl,?_⟩|exact rfl)
   all_goals try exact⟨KP⟩
   all_goals try exact KX
   all_goals try exact⟨lr _⟩
   all_goals try exact⟨⟨by simp only[List.length_nil,List.length_cons,hnl,hrl] <;> omega,by simp only[List.length_nil,List.length_cons,hnl,hrl] <;> omega⟩⟩
   conv=>whnf
   refine⟨⟨(f+1,sJ at0 I,acc++[(f,cT I at0)]),by dsimp only;omega,by dsimp only;omega,by simp;omega,by dsimp only;rw[List.append_assoc,show(ay p).length - (f+1)=n by omega];exact hr⟩,?_,KD⟩
   repeat' ((conv=>whnf);first|apply Wx|apply W6|apply oi|(apply fi<;>intro h)|refine⟨_,rfl,?_⟩|exact rfl)
   all_goals try exact⟨KP⟩
   all_goals try exact⟨KW⟩
   all_goals try exact⟨congrArg (Tr.int .i64) (by rw[IntWalk.i64_in _ (by omega),y2])⟩
   all_goals try exact⟨by rw[lb,lb,List.map_append];rfl⟩
   all_goals try exact⟨by rw[gu,gu,List.map_append,bM];rfl⟩
 ·rw[show(ay p).length - f=0 by omega]at hr
  have hr2:acc=fA p b image (ay p).length 0 0:=by rw[←hr];simp[fA]
  repeat' ((conv=>whnf);first|apply Wx|apply W6|apply oi|(apply fi<;>intro h)|refine⟨_,rfl,?_⟩|exact rfl)
  all_goals try exact⟨KP⟩
  all_goals try exact KX
  all_goals exact⟨by rw[hr2]⟩
theorem wV (L:List (Nat×List CP)):gu L=(L.map fun x=>x.2.map CP.tr).map fun r=>[Tr.lst 8 r]:=by
 unfold gu
 rw[List.map_map]
 rfl
theorem pM (p:List CM)(b:CE)(image:Int)(hs:aA 1048576 (.lst 4 (p.map CM.tr))):bp Tryz.prog 28 [vP p,bV b,tI .i64 image] [] (.r (.c (.own (1,0,0)))) [((1,0,0),.dar 8 (ae ((cv p b image).map CP.tr)) none)]:=by
 refine ax hΓ aq Tryz.func28 rfl (by decide) rfl rfl ?_
 have hP:=eK p hs
 have hB:=jS b
 have gb:=aJ image 0 1
 by_cases hc:aF p=true∧bE b=true∧ah image 0 1=true
 ·have hcf:cv p b image=dl (fA p b image (ay p).length 0 0):=by rw[cv,if_pos hc];rfl
  rw[hcf]
  obtain⟨h1,h2,h3⟩:=hc
  rw[h1]at hP
  rw[h2]at hB
  rw[h3]at gb
  have gi:=mx p b image hs h1 h2
  rw[wV]at gi
  have hll:=mF p b image (ay p).length 0 0
  have hlc:=fun x (hx:x∈fA p b image (ay p).length 0 0)=>(kq hs hx).1
  obtain⟨h6,h60⟩:=nH h1
  generalize fA p b image (ay p).length 0 0=L at *
  have hrl:(L.map fun x=>x.2.map CP.tr).length=L.length:=by simp
  have hrl2:(ae ((L.map fun x=>x.2.map CP.tr).map fun r=>[Tr.lst 8 r])).length=L.length:=by rw[aB,List.length_map,List.length_map]
  repeat' ((conv=>whnf);first|(with_reducible apply W1;fail_if_success (with_reducible show Wo _ _ _ _ (Code.region 5 _ _) _ _))|(with_reducible first|apply W2|apply W3|apply W4|apply W5|apply W6|apply W7|apply W8|apply W9)|apply bg|refine cg gi ?_|apply oi|(apply fi<;>intro h)|refine cl hP ?_|refine cl hB ?_|refine cl gb ?_|refine⟨_,rfl,?_⟩|exact rfl)
  all_goals try exact⟨KP⟩
  all_goals try exact KX
  conv=>whnf
  refine Aq (29,0,1) (sz:=8) (rs:=L.map fun x=>x.2.map CP.tr) rfl ?_
  repeat' ((conv=>whnf);first|apply Wx|apply W6|apply oi|(apply fi<;>intro h)|refine⟨_,rfl,?_⟩|exact rfl)
  all_goals try exact⟨KP⟩
  conv=>whnf
  refine⟨{k:Nat // k≤L.length},fun k=>⟨[(33,.r (.c (.own (29,0,1)))),(34,tI .i64 ((L.map fun x=>x.2.map CP.tr).length:Int)),(35,tI .i64 (k.1:Int)),(9,.r (.c (.own (32,0,0))))],[((29,0,1),some (.zar 8 (L.map fun x=>x.2.map CP.tr) k.1)),((32,0,0),some (.dar 8 (ae ((dl (L.take k.1)).map CP.tr)) none))],[29,32,0]⟩,fun k=>L.length - k.1,⟨0,by omega⟩,?_,?_⟩
  ·skip
   repeat' ((conv=>whnf);first|apply Wx|apply W6|apply oi|(apply fi<;>intro h)|refine⟨_,rfl,?_⟩|exact rfl)
   all_goals try exact⟨KP⟩
  intro⟨k,hk⟩
  dsimp only
  have hpl:=kN hlc hk
  by_cases hlt:k < L.length
  ·obtain⟨x,hx⟩:=af hlt
   have hxl:=hlc x (List.mem_of_getElem? hx)
   have hxr:(L.map fun x=>x.2.map CP.tr)[k]?=some (x.2.map CP.tr):=by rw[List.getElem?_map,hx];rfl
   have hkr:k < (L.map fun x=>x.2.map CP.tr).length:=by omega
   have hdl:(ae ((dl (L.take k)).map CP.tr)).length=(dl (L.take k)).length:=by rw[aB,List.length_map]
   have hdx:(ae (x.2.map CP.tr)).length=x.2.length:=by rw[aB,List.length_map]
   repeat' ((conv=>whnf);first|apply Wx|apply W6|apply oi|(apply fi<;>intro h)|refine⟨k,rfl,hkr,?_⟩|refine⟨_,hxr,?_⟩|refine⟨_,rfl,?_⟩|exact rfl)
   all_goals try exact⟨KP⟩
   all_goals try exact KX
   all_goals try exact⟨Nat.le_refl _⟩
   all_goals try exact⟨⟨by simp only[hdl,hdx] <;> omega,by simp only[hdl,hdx] <;> omega⟩⟩
   conv=>whnf
   refine⟨⟨k+1,by omega⟩,?_,KD⟩
   repeat' ((conv=>whnf);first|apply Wx|apply W6|apply oi|(apply fi<;>intro h)|refine⟨_,rfl,?_⟩|exact rfl)
   all_goals try exact⟨KP⟩
   all_goals try exact⟨KW⟩
   all_goals try exact⟨by rw[qx hx,List.map_append,bM]⟩
  ·have hkl:k=L.length:=by omega
   subst hkl
   repeat' ((conv=>whnf);first|apply Wx|apply W6|apply oi|(apply fi<;>intro h)|refine⟨_,rfl,?_⟩|exact rfl)
   all_goals try exact⟨KP⟩
   all_goals try exact KX
   all_goals try exact⟨by rw[List.take_of_length_le (Nat.le_refl _)]⟩
 ·have hcf:cv p b image=[]:=by rw[cv,if_neg hc]
  rw[hcf]
  cases h1:aF p with
  | false=>
   rw[h1]at hP
   repeat' ((conv=>whnf);first|apply Wx|apply W6|apply oi|(apply fi<;>intro h)|refine cl hP ?_|refine cl hB ?_|refine cl gb ?_|refine⟨_,rfl,?_⟩|exact rfl)
   all_goals try exact⟨KP⟩
   all_goals try exact KX
  | true=>
   rw[h1]at hP
   cases h2:bE b with
   | false=>
    rw[h2]at hB
    repeat' ((conv=>whnf);first|apply Wx|apply W6|apply oi|(apply fi<;>intro h)|refine cl hP ?_|refine cl hB ?_|refine cl gb ?_|refine⟨_,rfl,?_⟩|exact rfl)
    all_goals try exact⟨KP⟩
    all_goals try exact KX
   | true=>
    rw[h2]at hB
    cases h3:ah image 0 1 with
    | true=>exact absurd ⟨h1,h2,h3⟩ hc
    | false=>
     rw[h3]at gb
     repeat' ((conv=>whnf);first|apply Wx|apply W6|apply oi|(apply fi<;>intro h)|refine cl hP ?_|refine cl hB ?_|refine cl gb ?_|refine⟨_,rfl,?_⟩|exact rfl)
     all_goals try exact⟨KP⟩
     all_goals try exact KX
def zL (p:List CM)(f:Nat):List UInt8:=match(ay p)[f]? with
 | some g=>(match p[g]? with|some y=>y.fab|none=>[])
 | none=>[]
theorem wQ (L:List (Nat×List CP))(x:Nat×List CP):dl (L++[x])=dl L++x.2:=by simp[dl]
theorem Bp:∀f:Fin 101,IntKind.i64.wrap (BitVec.ofInt IntKind.i64.bits (f.val:Int) &&& BitVec.ofInt IntKind.i64.bits 1).toNat=(f.val:Int) % 2:=by decide
theorem nx (f:Nat)(b:CE)(image:Int)(hf:f≤100):Sim.Spec Tryz.prog 63 [.agg b.tr,tvI (f:Int),tvI image] (rB (pf b image f)):=by
 refine aR hΓ aq Tryz.func63 rfl (by decide) rfl ?_
 unfold pf
 have hm:=Bp ⟨f,by omega⟩
 dsimp only at hm
 repeat' ((conv=>whnf);first|apply Wx|apply W6|apply oi|(apply fi<;>intro h)|refine⟨_,rfl,?_⟩|exact rfl)
 all_goals try exact⟨KP⟩
 all_goals first|exact⟨by rw[h,hm];rfl⟩|exact⟨by rw[h];rfl⟩
theorem zU:∀{L:List (Nat×List CP)},(∀x∈L,x.2.length≤2500)→(dl L).length≤2500 * L.length
 | L,h=>by
  have:=kN h (Nat.le_refl L.length)
  rwa [List.take_of_length_le (Nat.le_refl _)]at this
theorem px (p:List CM)(b:CE)(image:Int)(hs:aA 1048576 (.lst 4 (p.map CM.tr))):Sim.Spec Tryz.prog 12 [tvP p,.agg b.tr,tvI image] (rL 8 ((cv p b image).map CP.tr)):=by
 refine aR hΓ aq Tryz.func12 rfl (by decide) rfl ?_
 have hP:=eP p hs
 have hB:=kp b
 have gb:=cn image 0 1
 by_cases hc:aF p=true∧bE b=true∧ah image 0 1=true
 ·have hcf:cv p b image=dl (fA p b image (ay p).length 0 0):=by rw[cv,if_pos hc];rfl
  rw[hcf]
  obtain⟨h1,h2,h3⟩:=hc
  rw[h1]at hP
  rw[h2]at hB
  rw[h3]at gb
  obtain⟨h6,h60⟩:=nH h1
  have gF:=cK p (by omega)
  have hfl:((ay p).map fun n:Nat=>ab n).length=(ay p).length:=by simp
  have hlc:=fun x (hx:x∈fA p b image (ay p).length 0 0)=>(kq hs hx).1
  repeat' ((conv=>whnf);first|apply Wx|apply W6|apply oi|(apply fi<;>intro h)|refine cl hP ?_|refine cl hB ?_|refine cl gb ?_|refine⟨_,rfl,?_⟩|exact rfl)
  all_goals try exact⟨KP⟩
  conv=>whnf
  refine⟨BM p b image,fun q=>⟨[(0,vP p),(2,tI .i64 image),(4,.r (.c (.ptr (4,0,0) 0))),(7,.r (.c (.own (15,0,0)))),(8,tI .i64 q.1.2.1),(9,tI .i64 (q.1.1:Int))],[((15,0,0),some (.arr true 8 ((dl q.1.2.2).map CP.tr))),((4,0,0),some (.box [.t (.int .i64 b.fan),.t (.int .i64 b.fag),.t (.bool b.faq),.t (.bool b.far)]))],[15,4]⟩,fun q=>(ay p).length - q.1.1,⟨(0,0,[]),by simp,by simp,by simp,by simp⟩,?_,?_⟩
  ·skip
   repeat' ((conv=>whnf);first|apply Wx|apply W6|apply oi|(apply fi<;>intro h)|refine⟨_,rfl,?_⟩|exact rfl)
   all_goals try exact⟨KP⟩
  intro⟨⟨f,at0,acc⟩,hk,ha,hal,hr⟩
  dsimp only at hk ha hal hr ⊢
  have hac:(dl acc).length≤2500 * acc.length:=zU fun x hx=>hlc x (by rw[←hr];exact List.mem_append.2 (.inl hx))
  by_cases hlt:f < (ay p).length
  ·obtain⟨n,hn⟩:∃n,(ay p).length - f=n+1:=⟨(ay p).length - f - 1,by omega⟩
   have hi:=nx f b image (by omega)
   rw[hn,tv]at hr
   cases hin:pf b image f with
   | false=>
    rw[hin]at hi hr
    rw[if_neg (by simp)]at hr
    repeat' ((conv=>whnf);first|apply Wx|apply W6|apply oi|(apply fi<;>intro h)|refine cl gF ?_|refine cl hi ?_|refine⟨_,rfl,?_⟩|exact rfl)
    all_goals try exact⟨KP⟩
    all_goals try exact KX
    conv=>whnf
    refine⟨⟨(f+1,at0,acc),by dsimp only;omega,by dsimp only;omega,by dsimp only;omega,by dsimp only;rw[show(ay p).length - (f+1)=n by omega];exact hr⟩,?_,KD⟩
    repeat' ((conv=>whnf);first|apply Wx|apply W6|apply oi|(apply fi<;>intro h)|refine⟨_,rfl,?_⟩|exact rfl)
    all_goals try exact⟨KP⟩
    all_goals try exact⟨KW⟩
   | true=>
    rw[hin]at hi hr
    rw[if_pos rfl]at hr
    have hcs:=jt p (f:Int) b hs
    obtain⟨f1,f2,f3⟩:=BQ (f:=f) hs h1 h2 hlt
    have hch:=(fO (p:=p) (f:=(f:Int)) (b:=b) hs).2
    generalize aW p (f:Int) b=I at *
    repeat' ((conv=>whnf);first|apply Wx|apply W6|apply oi|(apply fi<;>intro h)|refine cl gF ?_|refine cl hi ?_|refine cl hcs ?_|refine⟨_,rfl,?_⟩|exact rfl)
    all_goals try exact⟨KP⟩
    all_goals try exact KX
    have hlen:(I.map CL.tr).length=I.length:=by simp
    have hsl:=kH at0 I
    have hle:=fun k (h:k≤I.length)=>gd (at0:=at0) h
    have hS0:=fN at0 I
    have hsu:=fun k x (h:I[k]?=some x)=>ep (at0:=at0) h
    have hpf:∀(k:Nat) (x:CL),I[k]?=some x→(cT I at0)[k]?=some (CP.mk (atL (bQ at0 I) k) (fo (bQ at0 I) k x)):=fun k x h=>gy h
    have hfl2:=fh I at0
    have hend:sJ at0 I=atL (bQ at0 I) I.length:=rfl
    have ye:=yc (l:=I) (at0:=at0)
    generalize bQ at0 I=S at *
    generalize cT I at0=F at *
    generalize sJ at0 I=E at *
    conv=>whnf
    refine⟨{k:Nat // k≤I.length},fun k=>⟨[(0,vP p),(2,tI .i64 image),(4,.r (.c (.ptr (4,0,0) 0))),(7,.r (.c (.own (15,0,0)))),(8,tI .i64 (atL S k.1)),(9,tI .i64 (f:Int)),(10,.r (.c (.own (45,0,0)))),(11,.r (.c (.own (46,0,0)))),(12,tI .i64 (k.1:Int))],[((46,0,0),some (.arr true 1 ((S.take k.1).map ab))),((45,0,0),some (.arr true 7 (I.map CL.tr))),((15,0,0),some (.arr true 8 ((dl acc).map CP.tr))),((4,0,0),some (.box [.t (.int .i64 b.fan),.t (.int .i64 b.fag),.t (.bool b.faq),.t (.bool b.far)]))],[46,45,15,4]⟩,fun k=>I.length - k.1,⟨0,by omega⟩,?_,?_⟩
    ·skip
     repeat' ((conv=>whnf);first|apply Wx|apply W6|apply oi|(apply fi<;>intro h)|refine⟨_,rfl,?_⟩|exact rfl)
     all_goals try exact⟨KP⟩
     all_goals try exact⟨by rw[hS0]⟩
    intro⟨k,hk⟩
    dsimp only
    have hlk:=hle k hk
    by_cases hlt2:k < I.length
    ·obtain⟨x,hx⟩:=af hlt2
     have hz:=lq x.fae.fah
     have ho:=sP x.fae.fah
     have hs1:=hsu k x hx
     have hg:S[k]?=some (atL S k):=lu (by omega)
     have hkr:k < (I.map CL.tr).length:=by omega
     have hxr:(I.map CL.tr)[k]?=some x.tr:=aa hx
     repeat' ((conv=>whnf);first|apply Wx|apply W6|apply oi|(apply fi<;>intro h)|refine⟨k,rfl,hkr,?_⟩|refine⟨_,hxr,?_⟩|refine cl ho ?_|refine⟨_,rfl,?_⟩|exact rfl)
     all_goals try exact⟨KP⟩
     all_goals try exact KX
     all_goals try exact⟨⟨by simp <;> omega,by simp <;> omega⟩⟩
     conv=>whnf
     refine⟨⟨k+1,by omega⟩,?_,KD⟩
     repeat' ((conv=>whnf);first|apply Wx|apply W6|apply oi|(apply fi<;>intro h)|refine⟨_,rfl,?_⟩|exact rfl)
     all_goals try exact⟨KP⟩
     all_goals try exact⟨KW⟩
     all_goals try exact⟨by rw[fu hg,List.map_append];rfl⟩
     all_goals try exact⟨congrArg (Tr.int .i64) (by rw[hs1,IntWalk.i64_in _ (by omega)])⟩
    ·have hkl:k=I.length:=by omega
     subst hkl
     have hg:S[I.length]?=some (atL S I.length):=lu (by omega)
     repeat' ((conv=>whnf);first|apply Wx|apply W6|apply oi|(apply fi<;>intro h)|refine⟨_,rfl,?_⟩|exact rfl)
     all_goals try exact⟨KP⟩
     all_goals try exact KX
     all_goals try exact⟨⟨by simp <;> omega,by simp <;> omega⟩⟩
     conv=>whnf
     refine⟨{k:Nat // k≤I.length},fun k=>⟨[(0,vP p),(2,tI .i64 image),(4,.r (.c (.ptr (4,0,0) 0))),(7,.r (.c (.own (15,0,0)))),(8,tI .i64 (atL S I.length)),(9,tI .i64 (f:Int)),(10,.r (.c (.own (45,0,0)))),(11,.r (.c (.own (69,0,0)))),(13,tI .i64 (k.1:Int))],[((69,0,0),some (.arr true 1 (S.map ab))),((45,0,0),some (.arr true 7 (I.map CL.tr))),((15,0,0),some (.arr true 8 ((dl acc++F.take k.1).map CP.tr))),((4,0,0),some (.box [.t (.int .i64 b.fan),.t (.int .i64 b.fag),.t (.bool b.faq),.t (.bool b.far)]))],[69,45,15,4]⟩,fun k=>I.length - k.1,⟨0,by omega⟩,?_,?_⟩
     ·skip
      repeat' ((conv=>whnf);first|apply Wx|apply W6|apply oi|(apply fi<;>intro h)|refine⟨_,rfl,?_⟩|exact rfl)
      all_goals try exact⟨KP⟩
      all_goals try exact⟨by rw[show [[Tr.int .i64 (atL S I.length)]]=[atL S I.length].map ab from rfl,←List.map_append,←fu hg,List.take_of_length_le (by omega)]⟩
      all_goals try exact⟨by simp⟩
     intro⟨k,hk⟩
     dsimp only
     have hol:((dl acc++F.take k).map CP.tr).length=(dl acc).length+k:=by rw[List.length_map,List.length_append,List.length_take];omega
     have hml:(S.map ab).length=I.length+1:=by rw[List.length_map];exact hsl
     have mg:∀j,j≤I.length→(S.map ab)[j]?=some (ab (atL S j)):=fun j hj=>by rw[List.getElem?_map,lu (by omega)];rfl
     by_cases hlt2:k < I.length
     ·obtain⟨x,hx⟩:=af hlt2
      have hpg:=hpf k x hx
      have hsn:(dl acc++F.take (k+1)).map CP.tr=(dl acc++F.take k).map CP.tr++[(CP.mk (atL S k) (fo S k x)).tr]:=by rw[fu hpg,←List.append_assoc,List.map_append];rfl
      have hkr:k < (I.map CL.tr).length:=by omega
      have hxr:(I.map CL.tr)[k]?=some x.tr:=aa hx
      have hw1:IntKind.i64.wrap ((k:Int)+1)=((k+1:Nat):Int):=by rw[IntWalk.i64_in _ (by omega)];rfl
      have hk0:k < (S.map ab).length:=by omega
      have hk1:k+1 < (S.map ab).length:=by omega
      have m0:=mg k (by omega)
      have m1:=mg (k+1) (by omega)
      have b1:=hle (k+1) (by omega)
      cases hjx:ob x with
      | true=>
       obtain⟨ja,jb⟩:=f3 x (List.mem_of_getElem? hx) hjx
       have hwa:x.fae.fal=((x.fae.fal.toNat:Nat):Int):=(Int.toNat_of_nonneg ja).symm
       have hal2:x.fae.fal.toNat < (S.map ab).length:=by omega
       have m2:=mg x.fae.fal.toNat (by omega)
       have b2:=hle x.fae.fal.toNat (by omega)
       have hji:fo S k x=tZ x (IntKind.i64.wrap (atL S x.fae.fal.toNat - atL S (k+1))):=by rw[fo,if_pos hjx,IntWalk.i64_in _ (by omega)]
       rw[fY]at hjx
       repeat' ((conv=>whnf);first|apply Wx|apply W6|apply oi|(apply fi<;>intro h)|refine⟨k,rfl,hkr,?_⟩|refine⟨_,hxr,?_⟩|refine⟨k,rfl,hk0,?_⟩|refine⟨k+1,hw1,hk1,?_⟩|refine⟨_,hwa,hal2,?_⟩|refine⟨_,m0,?_⟩|refine⟨_,m1,?_⟩|refine⟨_,m2,?_⟩|refine⟨_,rfl,?_⟩|exact rfl)
       all_goals try exact⟨KP⟩
       all_goals try exact KX
       all_goals try exact KK
       all_goals try exact⟨⟨by simp only[List.length_nil,List.length_cons,hol] <;> omega,by simp only[List.length_nil,List.length_cons,hol] <;> omega⟩⟩
       all_goals(
        conv=>whnf
        refine⟨⟨k+1,by omega⟩,?_,KD⟩
        repeat' ((conv=>whnf);first|apply Wx|apply W6|apply oi|(apply fi<;>intro h)|refine⟨_,rfl,?_⟩|exact rfl)
        all_goals try exact⟨KP⟩
        all_goals try exact⟨KW⟩
        all_goals try exact⟨by dsimp only;rw[hsn,hji];rfl⟩)
      | false=>
       have hji:fo S k x=x:=by rw[fo,if_neg (by rw[hjx];simp)]
       have hjn:¬(x.fae.fah=10∨x.fae.fah=11):=by rw[←fY,hjx];simp
       repeat' ((conv=>whnf);first|apply Wx|apply W6|apply oi|(apply fi<;>intro h)|refine⟨k,rfl,hkr,?_⟩|refine⟨_,hxr,?_⟩|refine⟨k,rfl,hk0,?_⟩|refine⟨_,m0,?_⟩|refine⟨_,rfl,?_⟩|exact rfl)
       all_goals try exact⟨KP⟩
       all_goals try exact KX
       all_goals try exact KK
       all_goals try exact⟨⟨by simp only[List.length_nil,List.length_cons,hol] <;> omega,by simp only[List.length_nil,List.length_cons,hol] <;> omega⟩⟩
       all_goals(
        conv=>whnf
        refine⟨⟨k+1,by omega⟩,?_,KD⟩
        repeat' ((conv=>whnf);first|apply Wx|apply W6|apply oi|(apply fi<;>intro h)|refine⟨_,rfl,?_⟩|exact rfl)
        all_goals try exact⟨KP⟩
        all_goals try exact⟨KW⟩
        all_goals try exact⟨by dsimp only;rw[hsn,hji];rfl⟩)
     ·have hkl:k=I.length:=by omega
      subst hkl
      repeat' ((conv=>whnf);first|apply Wx|apply W6|apply oi|(apply fi<;>intro h)|refine⟨_,rfl,?_⟩|exact rfl)
      all_goals try exact⟨KP⟩
      all_goals try exact KX
      conv=>whnf
      refine⟨⟨(f+1,E,acc++[(f,F)]),by dsimp only;omega,by dsimp only;omega,by simp;omega,by dsimp only;rw[List.append_assoc,show(ay p).length - (f+1)=n by omega];exact hr⟩,?_,KD⟩
      repeat' ((conv=>whnf);first|apply Wx|apply W6|apply oi|(apply fi<;>intro h)|refine⟨_,rfl,?_⟩|exact rfl)
      all_goals try exact⟨KP⟩
      all_goals try exact⟨KW⟩
      all_goals try exact⟨by rw[hend]⟩
      all_goals try exact⟨by rw[wQ,List.take_of_length_le (by omega)]⟩
  ·rw[show(ay p).length - f=0 by omega]at hr
   have hr2:acc=fA p b image (ay p).length 0 0:=by rw[←hr];simp[fA]
   repeat' ((conv=>whnf);first|apply Wx|apply W6|apply oi|(apply fi<;>intro h)|refine cl gF ?_|refine⟨_,rfl,?_⟩|exact rfl)
   all_goals try exact⟨KP⟩
   all_goals try exact KX
   all_goals exact⟨by rw[hr2]⟩
 ·have hcf:cv p b image=[]:=by rw[cv,if_neg hc]
  rw[hcf]
  cases h1:aF p with
  | false=>
   rw[h1]at hP
   repeat' ((conv=>whnf);first|apply Wx|apply W6|apply oi|(apply fi<;>intro h)|refine cl hP ?_|refine cl hB ?_|refine cl gb ?_|refine⟨_,rfl,?_⟩|exact rfl)
   all_goals try exact⟨KP⟩
   all_goals try exact KX
  | true=>
   rw[h1]at hP
   cases h2:bE b with
   | false=>
    rw[h2]at hB
    repeat' ((conv=>whnf);first|apply Wx|apply W6|apply oi|(apply fi<;>intro h)|refine cl hP ?_|refine cl hB ?_|refine cl gb ?_|refine⟨_,rfl,?_⟩|exact rfl)
    all_goals try exact⟨KP⟩
    all_goals try exact KX
   | true=>
    rw[h2]at hB
    cases h3:ah image 0 1 with
    | true=>exact absurd ⟨h1,h2,h3⟩ hc
    | false=>
     rw[h3]at gb
     repeat' ((conv=>whnf);first|apply Wx|apply W6|apply oi|(apply fi<;>intro h)|refine cl hP ?_|refine cl hB ?_|refine cl gb ?_|refine⟨_,rfl,?_⟩|exact rfl)
     all_goals try exact⟨KP⟩
     all_goals try exact KX
theorem um {l:List CP}(h1:l.length≤1048576)(h2:∀y∈l,y.fak.faj.length≤4):aA 1048576 (.lst 8 (l.map CP.tr)):=by
 rw[aA]
 refine⟨by rw[List.length_map];omega,kn fun r hr=>?_⟩
 obtain⟨it,hit,rfl⟩:=List.mem_map.1 hr
 have:=h2 it hit
 simp only[CP.tr,aE,aA,true_and,and_true]
 refine⟨by rw[List.length_map];omega,kn fun r hr=>?_⟩
 obtain⟨v,hv,rfl⟩:=List.mem_map.1 hr
 simp[ab,aE,aA]
theorem rX {p:List CM}{b:CE}{image:Int}(hs:aA 1048576 (.lst 4 (p.map CM.tr))):aA 1048576 (.lst 8 ((cv p b image).map CP.tr)):=by
 by_cases hc:aF p=true∧bE b=true∧ah image 0 1=true
 ·rw[cv,if_pos hc]
  obtain⟨h6,_⟩:=nH hc.1
  have hll:=mF p b image (ay p).length 0 0
  have hlc:=fun x (hx:x∈fA p b image (ay p).length 0 0)=>kq hs hx
  generalize fA p b image (ay p).length 0 0=L at *
  have hal:=kN (fun x hx=>(hlc x hx).1) (Nat.le_refl L.length)
  rw[List.take_of_length_le (Nat.le_refl _)]at hal
  have hal2:=Nat.mul_le_mul_left 2500 (show L.length≤6 by omega)
  refine um (l:=dl L) (by omega) fun y hy=>?_
  simp only[dl,List.mem_flatten,List.mem_map]at hy
  obtain⟨_,⟨x,hx,rfl⟩,hy⟩:=hy
  exact(hlc x hx).2 y hy
 ·rw[cv,if_neg hc]
  exact⟨by simp,trivial⟩
end Go.Proofs.YtoglejgmjeojoaaGreat
