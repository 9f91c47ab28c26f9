/- The law FnExactCompileFunction answers true for every input and leaves its arguments as they were. Conditions: none beyond the given statement. -/
import Derived.Test.YtogdbgmiigfmfaaGreatGh
namespace Go.Proofs.YtogdbgmiigfmfaaGreat
open Go.Sim
set_option maxRecDepth 100000
set_option maxHeartbeats 4000000
def ILinesC (C:Cx)(lev:Nat):Prop:=∀(x:Sc) (q:Ib) (ins pd:List Nat) (s:Gs) (d:Int),ScOk C x ins→IbOk C x q→q.f=(x.f:Int)→q.e=(endL' C.p x.f:Int)→q.base=d→s.start=false→(∀i∈pd,i < s.items.length)→
 s.items.length+(endL' C.p x.f - x.f) * (20 * tokC lev+3)≤68719476736→((lev+(ins.length - 1):Nat):Int)=C.b.fInline→0≤d→d+30+100 * (lev:Int)≤1900→
 SpecG Tryz.prog 108 [mkrP,ibP] (cmpH (0,0,1) (0,0,2) (0,1,1) C pd s d ins q []) (.tup []) (cmpH (1,0,1) (1,0,2) (1,1,1) C pd (linesG C (repN C lev) x ins d s).1 (if x.outer=true then d else d+1) ins q (linesG C (repN C lev) x ins d s).2)
theorem IRepC_of {C:Cx}(hC:CxOk C){lev:Nat}(hL:ILinesC C lev):IRepC C (lev+1):=by
 intro x q ins pd lv k g b s d hk hg hrb hr
 refine specG_of_Wo hΓ hmix Tryz.func194 rfl (by decide) rfl rfl ?_
 obtain⟨hx,hq,hrm,hbg,hbm,hpl2⟩:=hr
 obtain⟨r1,r2,r3,r4⟩:=replB_spec hrb
 obtain⟨y,hy,hy0⟩:=hg
 have h60:=hC.len
 have hin:=hC.inl
 have hloc:=isFun_locals hC ⟨y,hy,hy0⟩
 have hA:argsN C.p g=y.fArgs.length:=by rw[argsN,hy]
 have hLo:=s_impl_LocalsOf C.p (g:Int) (by omega) (fun z hz=>smallRs_map hC.small hz)
 have htop:=topOf_le hC hx
 have hxl:x.locals.length≤8:=by obtain⟨_,_,_,_,_,h⟩:=hx.endE hC;exact h
 have hxf:=hx.first
 have ha:=hC.args
 have hch:=hx.chain
 obtain⟨q1,q2,q3,q4⟩:=hrm
 have hyS:=inSc_ok hC hx k ⟨y,hy,hy0⟩
 obtain⟨ye,ye1,ye2,ye3,ye4,_⟩:=hyS.endE hC
 have gE:=s_impl_EndOf C.p (g:Int) (by omega)
 have hee:endOf C.p (g:Int)=(ye:Int):=by rw[endOf_at];exact endI_some ye1
 rw[hee]at gE r2
 have hyl:(y.fArgs.map strRow).length=y.fArgs.length:=by simp
 have hxll:(x.locals.map strRow).length=x.locals.length:=by simp
 have hcl:(x.chain.map intRow).length=x.chain.length:=by simp
 obtain⟨qf,qe,ql,qa,qi,qc,qb⟩:=q
 obtain⟨i1,i2,i3,i4,i5,i6⟩:=hq
 dsimp only at i1 i2 i3 i4
 subst i1;subst i2;subst i3
 have e2:IntKind.i64.wrap (x.first+(x.locals.length:Int))=x.first+x.locals.length:=by rw[IntWalk.i64_in _ (by omega)]
 repeat' ((conv=>whnf);first|(with_reducible apply W1;fail_if_success (with_reducible show Wo _ _ _ _ (Code.region 1 _ _) _ _))|(with_reducible first|apply W2|apply W3|apply W4|apply W5|apply W6|apply W7|apply W8|apply W9)|apply reg_inl|apply oi|(apply fi<;>intro h)|refine⟨g,y.tr,rfl,map_get hy,?_⟩|refine cl gE ?_|refine cl hLo ?_|refine⟨_,rfl,?_⟩|((with_reducible show _=_);rfl))
 all_goals try((with_reducible refine Obl.mk ?_);exact KP)
 all_goals try exact⟨⟨by simp <;> omega,by simp <;> omega⟩⟩
 conv=>whnf
 refine view2_rule ⟨[(0,mkrP),(1,ibP),(2,tI .i64 (k:Int)),(3,tI .i64 (g:Int)),(4,tI .i64 (b:Int)),(10,.r (.c (.ptr (48,0,0) 0)))],
  [((0,0,0),some (cmpB C s d (0,0,1) (0,0,2))),((0,0,1),some (.dar 7 (itR (clr pd (s).items)) none)),((0,0,2),some (.arr false 1 (insR ins))),((0,1,0),some (ibB ⟨qf,qe,x.locals,qa,x.first,x.chain,qb⟩ (0,1,1))),((0,1,1),some (.arr false 1 (lv.map intRow))),((48,0,0),some (.box [.t (.int .i64 (g:Int)),.t (.int .i64 (ye:Int)),.t (.lst 1 ((localsOf C.p (g:Int)).map strRow)),.t (.int .i64 (argsN C.p g:Int)),.t (.int .i64 0),.t (.lst 1 ((x.chain++[(k:Int)]).map intRow)),.t (.int .i64 0),.nils 1]))],_⟩ ?_ ?_ rfl ?_
 ·exact⟨.inl rfl,.inl rfl,.inl rfl,.inl rfl,.inl rfl,.inl rfl,trivial⟩
 ·refine⟨.inr (.inl rfl),.inr (.inl rfl),.inr (.inl rfl),.inr (.inl rfl),.inr (.inl rfl),.inr (.inr (.inl ⟨_,_,rfl,rfl,.inl rfl,.inl rfl,.inr (.inr ⟨_,rfl,rfl,?_⟩),.inl ?_,.inl rfl,.inr (.inr ⟨_,rfl,?_,?_⟩),.inl rfl,.inr (.inl ⟨_,_,rfl,rfl⟩),trivial⟩)),trivial⟩
  ·intro q hq;simp only[AC.ids,List.mem_cons,List.not_mem_nil,or_false]at hq;subst hq;rfl
  ·rw[hyl,hA]
  ·show Tr.lst 1 _=Tr.lst 1 ([]++List.map intRow x.chain++[[Tr.int .i64 (k:Int)]])
   simp[intRow]
  ·intro q hq;simp only[AC.ids,List.mem_cons,List.not_mem_nil,or_false]at hq;subst hq;rfl
 repeat' ((conv=>whnf);first|(with_reducible apply W1;fail_if_success (with_reducible show Wo _ _ _ _ (Code.seq (Code.region 2 _ _) _) _ _))|(with_reducible first|apply W2|apply W3|apply W4|apply W5|apply W6|apply W7|apply W8|apply W9)|apply reg_inl|apply oi|(apply fi<;>intro h)|refine⟨_,rfl,?_⟩|((with_reducible show _=_);rfl))
 all_goals try((with_reducible refine Obl.mk ?_);exact KP)
 conv=>whnf
 refine join_rule Unit (fun _=>⟨[(0,mkrP),(1,ibP),(2,tI .i64 (k:Int)),(3,tI .i64 (g:Int)),(4,tI .i64 (b:Int)),(10,.r (.c (.ptr (48,0,0) 0)))],
  [((0,0,0),some (cmpB C s d (0,0,1) (0,0,2))),((0,0,1),some (.dar 7 (itR (clr pd (s).items)) none)),((0,0,2),some (.arr false 1 (insR ins))),((0,1,0),some (ibB ⟨qf,qe,x.locals,qa,x.first,x.chain,qb⟩ (0,1,1))),((0,1,1),some (.arr false 1 (lv.map intRow))),((48,0,0),some (.box [.t (.int .i64 (g:Int)),.t (.int .i64 (ye:Int)),.t (.lst 1 ((localsOf C.p (g:Int)).map strRow)),.t (.int .i64 (argsN C.p g:Int)),.t (.int .i64 (topOf C x)),.t (.lst 1 ((x.chain++[(k:Int)]).map intRow)),.t (.int .i64 0),.nils 1]))],[48,0]⟩) ?_ ?_
 ·cases ho:x.outer with
  | true=>
   have c1:=i5.1 ho
   have c2:=i6 ho
   have c3:=i4 ho
   have c4:topOf C x=(x.locals.length:Int) - C.args:=by unfold topOf;rw[if_pos ho]
   have c5:IntKind.i64.wrap (IntKind.i64.wrap (x.first+((x.locals.map strRow).length:Int)) - qa)=topOf C x:=by rw[c4,hxll,e2,c2,c3,IntWalk.i64_in _ (by omega)];omega
   repeat' ((conv=>whnf);first|(with_reducible first|apply Wx|apply W6)|apply oi|(apply fi<;>intro h)|refine⟨_,rfl,?_⟩|((with_reducible show _=_);rfl))
   all_goals try((with_reducible refine Obl.mk ?_);exact KP)
   all_goals try(exfalso;rw[c1]at h;simp at h;done)
   all_goals(conv=>whnf)
   all_goals(refine⟨(),?_⟩)
   repeat' ((conv=>whnf);first|(with_reducible first|apply Wx|apply W6)|apply oi|(apply fi<;>intro h)|refine⟨_,rfl,?_⟩|((with_reducible show _=_);rfl))
   all_goals try((with_reducible refine Obl.mk ?_);exact KP)
   all_goals exact⟨congrArg (Tr.int .i64) c5⟩
  | false=>
   have hne:x.chain≠[]:=fun e=>by rw[i5.2 e]at ho;cases ho
   have c4:topOf C x=x.first+x.locals.length:=by unfold topOf;rw[if_neg (by simp[ho])]
   have c5:IntKind.i64.wrap (x.first+((x.locals.map strRow).length:Int))=topOf C x:=by rw[c4,hxll,e2]
   repeat' ((conv=>whnf);first|(with_reducible first|apply Wx|apply W6)|apply oi|(apply fi<;>intro h)|refine⟨_,rfl,?_⟩|((with_reducible show _=_);rfl))
   all_goals try((with_reducible refine Obl.mk ?_);exact KP)
   all_goals try(exfalso;simp at h;exact hne h)
   all_goals(conv=>whnf)
   all_goals(refine⟨(),?_⟩)
   repeat' ((conv=>whnf);first|(with_reducible first|apply Wx|apply W6)|apply oi|(apply fi<;>intro h)|refine⟨_,rfl,?_⟩|((with_reducible show _=_);rfl))
   all_goals try((with_reducible refine Obl.mk ?_);exact KP)
   all_goals exact⟨congrArg (Tr.int .i64) c5⟩
 intro _
 have hll:((localsOf C.p (g:Int)).map strRow).length=(localsOf C.p (g:Int)).length:=by simp
 have em:IntKind.i64.wrap (topOf C x+(((localsOf C.p (g:Int)).map strRow).length:Int))=topOf C x+((localsOf C.p (g:Int)).length:Int):=by rw[hll,IntWalk.i64_in _ (by omega)]
 obtain⟨s0,hs0⟩:∃s0:Gs,(⟨s.items,max s.most (topOf C x+(localsOf C.p (g:Int)).length),s.start⟩:Gs)=s0:=⟨_,rfl⟩
 have z1:s.items=s0.items:=by rw[←hs0]
 have z2:max s.most (topOf C x+(localsOf C.p (g:Int)).length)=s0.most:=by rw[←hs0]
 have hb0:Beg b s0:=by rw[←hs0];exact⟨hbg.1,hbg.2⟩
 obtain⟨T1,hT1⟩:∃T1,storesG C (inSc C x k g) x.chain k (argsN C.p g) d s0=T1:=⟨_,rfl⟩
 have hst:∀{t:Gs},Beg b t→t.start=true→t.items.length∈pd:=fun{t} hb h=>by rw[hb.2.1 h];exact hbm
 repeat' ((conv=>whnf);first|(with_reducible first|apply Wx|apply W6)|apply oi|(apply fi<;>intro h)|refine⟨_,rfl,?_⟩|((with_reducible show _=_);rfl))
 all_goals try((with_reducible refine Obl.mk ?_);exact KP)
 conv=>whnf
 refine⟨{r:Nat×Gs // r.1≤argsN C.p g∧storesG C (inSc C x k g) x.chain k r.1 (d - ((argsN C.p g - r.1:Nat):Int)) r.2=T1∧r.2.items.length≤300 - r.1∧Beg b r.2},fun r=>⟨[(0,mkrP),(1,ibP),(2,tI .i64 (k:Int)),(3,tI .i64 (g:Int)),(4,tI .i64 (b:Int)),(10,.r (.c (.ptr (48,0,0) 0))),(11,.r (.c (.ptr (117,0,0) 0))),(12,tI .i64 ((r.1.1:Int) - 1))],
  [((0,0,0),some (cmpB C r.1.2 (d - ((argsN C.p g - r.1.1:Nat):Int)) (48,0,2) (48,0,3))),((48,0,2),some (.dar 7 (itR (clr pd (r.1.2).items)) none)),((48,0,3),some (.arr false 1 (insR ins))),((0,1,0),some (ibB ⟨qf,qe,x.locals,qa,x.first,x.chain,qb⟩ (0,1,1))),((0,1,1),some (.arr false 1 (lv.map intRow))),((48,0,0),some (.box [.t (.int .i64 (g:Int)),.t (.int .i64 (ye:Int)),.t (.lst 1 ((localsOf C.p (g:Int)).map strRow)),.t (.int .i64 (argsN C.p g:Int)),.t (.int .i64 (topOf C x)),.t (.lst 1 ((x.chain++[(k:Int)]).map intRow)),.t (.int .i64 0),.own (48,0,1)])),((48,0,1),some (.arr false 1 [])),((117,0,0),some (ibB ⟨0,0,localsOf C.p (g:Int),0,topOf C x,x.chain,0⟩ (117,0,1))),((117,0,1),some (.arr false 1 []))],[117,48,0]⟩,fun r=>r.1.1,⟨(argsN C.p g,s0),by dsimp only;omega,by rw[←hT1];simp,by dsimp only;rw[←z1];omega,hb0⟩,?_,?_⟩
 ·skip
  repeat' ((conv=>whnf);first|(with_reducible first|apply Wx|apply W6)|apply oi|(apply fi<;>intro h)|refine⟨_,rfl,?_⟩|((with_reducible show _=_);rfl))
  all_goals try((with_reducible refine Obl.mk ?_);exact KP)
  all_goals try exact⟨congrArg (fun l=>itR (clr pd l)) z1⟩
  all_goals try exact⟨congrArg (Tr.int _) (by rw[em];exact z2)⟩
  all_goals try exact⟨KW⟩
 intro⟨⟨m,t⟩,hm,ht,htl,htb⟩
 dsimp only at hm ht htl htb ⊢
 cases m with
 | succ m=>
  have g1:=g_impl_word C pd t (d - ((argsN C.p g - (m+1):Nat):Int)) ins ⟨0,0,localsOf C.p (g:Int),0,topOf C x,x.chain,0⟩ [] (inSc C x k g) k m rfl rfl (by unfold roomy;omega) (by dsimp only;omega) (hst htb) (by omega) (by show 0≤topOf C x∧topOf C x≤1000;omega) (by omega)
  rw[storesG]at ht
  rw[show((m+1:Nat):Int) - 1=(m:Int) by omega]
  repeat' ((conv=>whnf);first|(with_reducible first|apply Wx|apply W6)|refine cg g1 ?_|apply oi|(apply fi<;>intro h)|refine⟨_,rfl,?_⟩|((with_reducible show _=_);rfl))
  all_goals try((with_reducible refine Obl.mk ?_);exact KP)
  all_goals try exact KX
  conv=>whnf
  refine⟨⟨(m,storeG C (inSc C x k g) t (d - ((argsN C.p g - (m+1):Nat):Int)) m k x.chain),by dsimp only;omega,by rw[←ht];dsimp only;congr 1;omega,by dsimp only;simp only[storeG,emitG,List.length_append,List.length_cons,List.length_nil];omega,by unfold storeG;exact htb.emit ..⟩,?_,by dsimp only;omega⟩
  repeat' ((conv=>whnf);first|(with_reducible first|apply Wx|apply W6)|apply oi|(apply fi<;>intro h)|refine⟨_,rfl,?_⟩|((with_reducible show _=_);rfl))
  all_goals try((with_reducible refine Obl.mk ?_);exact KP)
  all_goals try exact⟨KW⟩
 | zero=>
  have e0:t=T1:=by rw[←ht];rfl
  subst e0
  have ed:d - ((argsN C.p g - 0:Nat):Int)=d - argsN C.p g:=by rw[Nat.sub_zero]
  rw[ed]
  obtain⟨T2,hT2⟩:∃T2,zerosG C (inSc C x k g) x.chain k (d - argsN C.p g) ((localsOf C.p (g:Int)).length - argsN C.p g) (argsN C.p g) t=T2:=⟨_,rfl⟩
  repeat' ((conv=>whnf);first|(with_reducible first|apply Wx|apply W6)|apply oi|(apply fi<;>intro h)|refine⟨_,rfl,?_⟩|((with_reducible show _=_);rfl))
  all_goals try((with_reducible refine Obl.mk ?_);exact KP)
  all_goals try exact KX
  conv=>whnf
  refine⟨{r:Nat×Gs // r.1≤(localsOf C.p (g:Int)).length∧zerosG C (inSc C x k g) x.chain k (d - argsN C.p g) ((localsOf C.p (g:Int)).length - r.1) r.1 r.2=T2∧r.2.items.length≤400 - 2 * ((localsOf C.p (g:Int)).length - r.1)∧Beg b r.2},fun r=>⟨[(0,mkrP),(1,ibP),(2,tI .i64 (k:Int)),(3,tI .i64 (g:Int)),(4,tI .i64 (b:Int)),(10,.r (.c (.ptr (48,0,0) 0))),(11,.r (.c (.ptr (117,0,0) 0))),(13,tI .i64 (r.1.1:Int))],
   [((0,0,0),some (cmpB C r.1.2 (d - argsN C.p g) (48,0,2) (48,0,3))),((48,0,2),some (.dar 7 (itR (clr pd (r.1.2).items)) none)),((48,0,3),some (.arr false 1 (insR ins))),((0,1,0),some (ibB ⟨qf,qe,x.locals,qa,x.first,x.chain,qb⟩ (0,1,1))),((0,1,1),some (.arr false 1 (lv.map intRow))),((48,0,0),some (.box [.t (.int .i64 (g:Int)),.t (.int .i64 (ye:Int)),.t (.lst 1 ((localsOf C.p (g:Int)).map strRow)),.t (.int .i64 (argsN C.p g:Int)),.t (.int .i64 (topOf C x)),.t (.lst 1 ((x.chain++[(k:Int)]).map intRow)),.t (.int .i64 0),.own (48,0,1)])),((48,0,1),some (.arr false 1 [])),((117,0,0),some (ibB ⟨0,0,localsOf C.p (g:Int),0,topOf C x,x.chain,0⟩ (117,0,1))),((117,0,1),some (.arr false 1 []))],[117,48,0]⟩,fun r=>(localsOf C.p (g:Int)).length - r.1.1,⟨(argsN C.p g,t),by dsimp only;omega,hT2,by dsimp only;omega,htb⟩,?_,?_⟩
  ·skip
   repeat' ((conv=>whnf);first|(with_reducible first|apply Wx|apply W6)|apply oi|(apply fi<;>intro h)|refine⟨_,rfl,?_⟩|((with_reducible show _=_);rfl))
   all_goals try((with_reducible refine Obl.mk ?_);exact KP)
  intro⟨⟨i,u⟩,hi,hu,hul,hub⟩
  dsimp only at hi hu hul hub ⊢
  by_cases hil2:i < (localsOf C.p (g:Int)).length
  ·obtain⟨c,hc⟩:∃c,(localsOf C.p (g:Int)).length - i=c+1:=⟨(localsOf C.p (g:Int)).length - i - 1,by omega⟩
   rw[hc,zerosG]at hu
   have g1:=g_impl_add C pd u (d - argsN C.p g) ins ⟨qf,qe,x.locals,qa,x.first,x.chain,qb⟩ lv k 0 0 1 (by unfold roomy;omega) (by dsimp only;omega) (hst hub) (by omega) (by omega)
   have g2:=g_impl_word C pd (emitG C u (d - argsN C.p g) 0 0 k x.chain) (d - argsN C.p g+1) ins ⟨0,0,localsOf C.p (g:Int),0,topOf C x,x.chain,0⟩ [] (inSc C x k g) k i rfl rfl (by unfold roomy emitG;simp only[List.length_append,List.length_cons,List.length_nil];omega) (by dsimp only;omega) (hst (hub.emit ..)) (by omega) (by show 0≤topOf C x∧topOf C x≤1000;omega) (by omega)
   repeat' ((conv=>whnf);first|(with_reducible first|apply Wx|apply W6)|refine cg g1 ?_|refine cg g2 ?_|apply oi|(apply fi<;>intro h)|refine⟨_,rfl,?_⟩|((with_reducible show _=_);rfl))
   all_goals try((with_reducible refine Obl.mk ?_);exact KP)
   all_goals try exact KX
   conv=>whnf
   refine⟨⟨(i+1,storeG C (inSc C x k g) (emitG C u (d - argsN C.p g) 0 0 k x.chain) (d - argsN C.p g+1) i k x.chain),by dsimp only;omega,by rw[←hu];dsimp only;rw[show(localsOf C.p (g:Int)).length - (i+1)=c by omega],by dsimp only;simp only[storeG,emitG,List.length_append,List.length_cons,List.length_nil];omega,by unfold storeG;exact(hub.emit ..).emit ..⟩,?_,by dsimp only;omega⟩
   repeat' ((conv=>whnf);first|(with_reducible first|apply Wx|apply W6)|apply oi|(apply fi<;>intro h)|refine⟨_,rfl,?_⟩|((with_reducible show _=_);rfl))
   all_goals try((with_reducible refine Obl.mk ?_);exact KP)
   all_goals try exact⟨KW⟩
  ·have hie:i=(localsOf C.p (g:Int)).length:=by omega
   subst hie
   rw[Nat.sub_self,zerosG]at hu
   subst hu
   have hpre:preG C x k g d s=u:=by rw[preG,hs0,hT1,hT2]
   repeat' ((conv=>whnf);first|(with_reducible apply W1;fail_if_success (with_reducible show Wo _ _ _ _ (Code.seq (Code.region 15 _ _) _) _ _))|(with_reducible first|apply W2|apply W3|apply W4|apply W5|apply W6|apply W7|apply W8|apply W9)|apply reg_inl|apply oi|(apply fi<;>intro h)|refine⟨_,rfl,?_⟩|((with_reducible show _=_);rfl))
   all_goals try((with_reducible refine Obl.mk ?_);exact KP)
   all_goals try exact KX
   conv=>whnf
   obtain⟨v,hv⟩:∃v,spaceG C x k (d - argsN C.p g) u=v:=⟨_,rfl⟩
   have hvl:v.items.length≤500:=by rw[←hv,spaceG];split <;> first|(simp[emitG];omega)|omega
   obtain⟨hvb,hvs⟩:=spaceG_beg (C:=C) (x:=x) (line:=k) (d:=d - argsN C.p g) hub
   rw[hv]at hvb hvs
   have hlen:=itR_clr_len pd u.items
   refine join_rule Unit (fun _=>⟨[(0,mkrP),(1,ibP),(2,tI .i64 (k:Int)),(3,tI .i64 (g:Int)),(4,tI .i64 (b:Int)),(10,.r (.c (.ptr (48,0,0) 0)))],
    [((0,0,0),some (cmpB C v (d - argsN C.p g) (48,0,2) (48,0,3))),((48,0,2),some (.dar 7 (itR (clr pd (v).items)) none)),((48,0,3),some (.arr false 1 (insR ins))),((0,1,0),some (ibB ⟨qf,qe,x.locals,qa,x.first,x.chain,qb⟩ (0,1,1))),((0,1,1),some (.arr false 1 (lv.map intRow))),((48,0,0),some (.box [.t (.int .i64 (g:Int)),.t (.int .i64 (ye:Int)),.t (.lst 1 ((localsOf C.p (g:Int)).map strRow)),.t (.int .i64 (argsN C.p g:Int)),.t (.int .i64 (topOf C x)),.t (.lst 1 ((x.chain++[(k:Int)]).map intRow)),.t (.int .i64 0),.own (48,0,1)])),((48,0,1),some (.arr false 1 []))],[117,48,0]⟩) ?_ ?_
   ·have g3:=g_impl_add C pd u (d - argsN C.p g) ins ⟨qf,qe,x.locals,qa,x.first,x.chain,qb⟩ lv k 15 0 0 (by unfold roomy;omega) (by dsimp only;omega) (hst hub) (by omega) (by omega)
    unfold spaceG at hv
    cases hst2:u.start with
    | true=>
     rw[if_pos hst2]at hv
     subst hv
     have hub2:=hub.2.1 hst2
     repeat' ((conv=>whnf);first|(with_reducible first|apply Wx|apply W6)|refine cg g3 ?_|apply oi|(apply fi<;>intro h)|refine⟨_,rfl,?_⟩|((with_reducible show _=_);rfl))
     all_goals try((with_reducible refine Obl.mk ?_);exact KP)
     ·conv=>whnf
      refine⟨(),?_⟩
      repeat' ((conv=>whnf);first|(with_reducible first|apply Wx|apply W6)|apply oi|(apply fi<;>intro h)|refine⟨_,rfl,?_⟩|((with_reducible show _=_);rfl))
      all_goals try((with_reducible refine Obl.mk ?_);exact KP)
      all_goals try exact⟨KW⟩
     ·exfalso;rw[hlen,hub2]at h;simp at h
    | false=>
     rw[if_neg (by simp[hst2])]at hv
     subst hv
     repeat' ((conv=>whnf);first|(with_reducible first|apply Wx|apply W6)|refine cg g3 ?_|apply oi|(apply fi<;>intro h)|refine⟨_,rfl,?_⟩|((with_reducible show _=_);rfl))
     all_goals try((with_reducible refine Obl.mk ?_);exact KP)
     ·exfalso
      rw[hlen]at h
      have h9:=hub.2.2 (by have:=eq_of_beq h;omega)
      rw[hst2]at h9
      cases h9
     ·conv=>whnf
      refine⟨(),?_⟩
      repeat' ((conv=>whnf);first|(with_reducible first|apply Wx|apply W6)|apply oi|(apply fi<;>intro h)|refine⟨_,rfl,?_⟩|((with_reducible show _=_);rfl))
      all_goals try((with_reducible refine Obl.mk ?_);exact KP)
      all_goals try exact⟨KW⟩
   intro _
   have hye:endL' C.p (inSc C x k g).f - (inSc C x k g).f≤9:=by
    rw[ye4]
    show ye - g≤9
    omega
   have h3:=tokC_3 (n:=lev) (by omega)
   have hmul:=Nat.mul_le_mul hye (show 20 * tokC lev+3≤20 * 8679837+3 by omega)
   have hvne:v.items.length≠b:=fun e=>by have:=hvb.2.2 e;rw[hvs]at this;cases this
   have hgL:=hL (inSc C x k g) ⟨(g:Int),(ye:Int),localsOf C.p (g:Int),(argsN C.p g:Int),topOf C x,x.chain++[(k:Int)],d - argsN C.p g⟩ (ins++[g]) pd v (d - argsN C.p g) hyS ⟨rfl,rfl,rfl,fun h=>(by cases h),hyS.out,fun h=>(by cases h)⟩ rfl (by rw[ye4]) rfl hvs (fun i hi=>by have:=hpl2 i hi;have:=hvb.1;omega) (by omega) (by rw[List.length_append,List.length_cons,List.length_nil];have h9:=hch;omega) q3 (by omega)
   rw[if_neg (by simp[inSc])]at hgL
   have hgr2:=linesG_grow (lev:=lev) (rep:=repN C lev) (fun line g d s hg hr=>repN_grow hC lev line g d s hyS hg hr) hC hyS (d - argsN C.p g) v
   obtain⟨hlvl,hin2⟩:=linesG_lv (lev:=lev) (rep:=repN C lev) (fun line g d s hg hr=>repN_grow hC lev line g d s hyS hg hr) hC hyS (d - argsN C.p g) v
   obtain⟨r,hr⟩:∃r,linesG C (repN C lev) (inSc C x k g) (ins++[g]) (d - argsN C.p g) v=r:=⟨_,rfl⟩
   rw[hr]at hgL hgr2 hlvl hin2
   have hrle:=hgr2.le
   have hil:(insR ins).length=ins.length:=by simp
   have hil2':(insR (ins++[g])).length=ins.length+1:=by simp
   have hw2:IntKind.i64.wrap (((insR (ins++[g])).length:Int) - 1)=(ins.length:Int):=by rw[hil2',IntWalk.i64_in _ (by omega)];omega
   have hle2:ins.length≤(insR (ins++[g])).length:=by omega
   have hcut:(insR (ins++[g])).take ins.length=insR ins:=by rw[←List.map_take,List.take_left' rfl]
   have hap:insR ins++[[Tr.int .i64 (g:Int)]]=insR (ins++[g]):=by simp[intRow]
   have hrl:(r.2.map intRow).length=r.2.length:=by simp
   have hfin:repN C (lev+1) x ins k g d s=⟨patchL r.1.items r.1.items.length r.2,r.1.most,r.1.start⟩:=by
    show replG C (linesG C (repN C lev)) x ins k g d s=_
    unfold replG
    rw[hpre,hv,hr]
   rw[hfin]
   repeat' ((conv=>whnf);first|(with_reducible first|apply Wx|apply W6)|refine cg hgL ?_|apply oi|(apply fi<;>intro h)|refine⟨ins.length,hw2,hle2,?_⟩|refine⟨_,rfl,?_⟩|((with_reducible show _=_);rfl))
   all_goals try((with_reducible refine Obl.mk ?_);exact KP)
   all_goals try exact⟨⟨by rw[hil];simp <;> omega,by rw[hil];simp <;> omega⟩⟩
   all_goals try exact⟨hap⟩
   conv=>whnf
   refine⟨{j:Nat // j≤r.2.length},fun j=>⟨[(0,mkrP),(10,.r (.c (.ptr (48,0,0) 0))),(202,.r (.c (.own (48,0,1)))),(203,tI .i64 (r.2.length:Int)),(204,tI .i64 (j.1:Int))],
    [((0,0,0),some (cmpB C ⟨patchL r.1.items r.1.items.length (r.2.take j.1),r.1.most,r.1.start⟩ (d - argsN C.p g+1) (48,0,2) (48,0,3))),((48,0,2),some (.dar 7 (itR (clr pd (patchL r.1.items r.1.items.length (r.2.take j.1)))) none)),((48,0,3),some (.arr false 1 (insR ins))),((0,1,0),some (ibB ⟨qf,qe,x.locals,qa,x.first,x.chain,qb⟩ (0,1,1))),((0,1,1),some (.arr false 1 (lv.map intRow))),((48,0,0),some (ibB ⟨(g:Int),(ye:Int),localsOf C.p (g:Int),(argsN C.p g:Int),topOf C x,x.chain++[(k:Int)],d - argsN C.p g⟩ (48,0,1))),((48,0,1),some (.arr false 1 (r.2.map intRow)))],[117,48,0]⟩,fun j=>r.2.length - j.1,⟨0,by omega⟩,?_,?_⟩
   ·skip
    repeat' ((conv=>whnf);first|(with_reducible first|apply Wx|apply W6)|apply oi|(apply fi<;>intro h)|refine⟨_,rfl,?_⟩|((with_reducible show _=_);rfl))
    all_goals try((with_reducible refine Obl.mk ?_);exact KP)
    all_goals try exact⟨KW⟩
    all_goals try exact⟨congrArg (Tr.int _) (by rw[hrl])⟩
    all_goals try exact⟨hle2⟩
    all_goals try exact⟨hcut⟩
   intro⟨j,hj3⟩
   dsimp only at hj3 ⊢
   have hpl:=patchL_len (r.1.items.length:Int) (r.2.take j) r.1.items
   have hil4:(itR (clr pd (patchL r.1.items r.1.items.length (r.2.take j)))).length=r.1.items.length:=by rw[itR_clr_len,hpl]
   by_cases hlj:j < r.2.length
   ·obtain⟨a,haj⟩:=get_of_lt hlj
    obtain⟨j1,j2⟩:=hin2 a (List.mem_of_getElem? haj)
    obtain⟨jn,rfl⟩:=Int.eq_ofNat_of_zero_le j1
    have hjl:jn < (itR (clr pd (patchL r.1.items r.1.items.length (r.2.take j)))).length:=by rw[hil4];omega
    obtain⟨it,hit⟩:=get_of_lt (l:=clr pd (patchL r.1.items r.1.items.length (r.2.take j))) (k:=jn) (by rw[clr_len,hpl];omega)
    have hnext:r.2.take (j+1)=r.2.take j++[(jn:Int)]:=by rw[List.take_add_one,haj];rfl
    have hps:=patchL_snoc r.1.items.length (jn:Int) (r.2.take j) r.1.items
    have hjr:j < (r.2.map intRow).length:=by omega
    repeat' ((conv=>whnf);first|(with_reducible first|apply Wx|apply W6)|apply oi|(apply fi<;>intro h)|refine⟨j,rfl,hjr,?_⟩|refine⟨(intRow jn),(map_get haj),?_⟩|refine⟨jn,rfl,hjl,?_⟩|refine⟨_,(itR_get hit),?_⟩|refine⟨_,rfl,?_⟩|((with_reducible show _=_);rfl))
    all_goals try((with_reducible refine Obl.mk ?_);exact KP)
    all_goals try exact KX
    conv=>whnf
    refine⟨⟨j+1,by omega⟩,?_,by dsimp only;omega⟩
    repeat' ((conv=>whnf);first|(with_reducible first|apply Wx|apply W6)|apply oi|(apply fi<;>intro h)|refine⟨_,rfl,?_⟩|((with_reducible show _=_);rfl))
    all_goals try((with_reducible refine Obl.mk ?_);exact KP)
    all_goals try exact⟨KW⟩
    all_goals(refine⟨?_⟩;rw[hil4];dsimp only;rw[hnext,hps,clr_setArg,itR_setArg hit];rfl)
   ·have hje:j=r.2.length:=by omega
    subst hje
    rw[List.take_length]
    repeat' ((conv=>whnf);first|(with_reducible first|apply Wx|apply W6)|apply oi|(apply fi<;>intro h)|refine⟨_,rfl,?_⟩|((with_reducible show _=_);rfl))
    all_goals try((with_reducible refine Obl.mk ?_);exact KP)
    all_goals try exact KX
    all_goals try exact⟨KW⟩
end Go.Proofs.YtogdbgmiigfmfaaGreat
namespace Go.Proofs.YtogdbgmiigfmfaaGreat
open Go.Sim
set_option maxRecDepth 100000
set_option maxHeartbeats 4000000
abbrev kI (n:Int):Tr:= .int .i64 n
theorem keyEq_int {a:Int}{q:Tr}(h:keyEq (kI a) q=true):∃k,q= .int k a:=by
 cases q with
 | int k n=>simp only[keyEq,beq_iff_eq]at h;exact⟨k,by rw[h]⟩
 | str s=>simp[keyEq]at h
 | bool b=>simp[keyEq]at h
 | lst sz rows=>simp[keyEq]at h
theorem keyEq_ne {a b:Int}{q:Tr}(hab:a≠b)(h:keyEq (kI a) q=true):keyEq (kI b) q=false:=by
 obtain⟨k,rfl⟩:=keyEq_int h
 simp only[keyEq,beq_eq_false_iff_ne]
 exact fun e=>hab e.symm
theorem keyEq_symm (a b:Tr):keyEq a b=keyEq b a:=by
 cases a <;> cases b <;> first|rfl|(simp only[keyEq];rw[Bool.eq_iff_iff];simp only[beq_iff_eq];exact eq_comm)
theorem keyEq_self (a:Int):keyEq (kI a) (kI a)=true:=by simp[keyEq]
theorem mpGet_put_self (v:Int)(a:Int):∀es:List (Tr×Int),mpGet (mpPut es (kI a) v) (kI a)=some v
 | []=>by simp[mpGet,mpPut,mpSet,mpFind,keyEq]
 |(q,x)::r=>by
  have ih:=mpGet_put_self v a r
  unfold mpGet mpPut at ih ⊢
  rw[mpSet]
  cases h:keyEq (kI a) q with
  | true=>simp[mpFind,h]
  | false=>simp only[cond_false];rw[mpFind,h,cond_false];exact ih
theorem mpGet_put_ne {a b:Int}(hab:a≠b)(v:Int):∀es:List (Tr×Int),mpGet (mpPut es (kI a) v) (kI b)=mpGet es (kI b)
 | []=>by
  simp only[mpGet,mpPut,mpSet,mpFind]
  rw[keyEq_ne hab (keyEq_self a),cond_false]
 |(q,x)::r=>by
  have ih:=mpGet_put_ne hab v r
  unfold mpGet mpPut at ih ⊢
  rw[mpSet]
  cases h:keyEq (kI a) q with
  | true=>simp only[cond_true];rw[mpFind,mpFind,keyEq_ne hab h];rfl
  | false=>simp only[cond_false];rw[mpFind,mpFind,ih]
theorem mpGet_del_ne {a b:Int}(hab:a≠b):∀es:List (Tr×Int),mpGet (mpDel es (kI a)) (kI b)=mpGet es (kI b)
 | []=>rfl
 |(q,x)::r=>by
  have ih:=mpGet_del_ne hab r
  unfold mpGet mpDel at ih ⊢
  rw[mpCut]
  cases h:keyEq (kI a) q with
  | true=>simp only[cond_true];rw[mpFind,keyEq_ne hab h,cond_false]
  | false=>simp only[cond_false];rw[mpFind,mpFind,ih]
def Uniq:List (Tr×Int)→Prop
 | []=>True
 |(q,_)::r=>(∀e∈r,keyEq q e.1=false)∧Uniq r
theorem mpFind_none {k:Tr}:∀{es:List (Tr×Int)},(∀e∈es,keyEq k e.1=false)→mpFind (keyEq k) es=none
 | [],_=>rfl
 |(q,x)::r,h=>by rw[mpFind,h (q,x) (by simp),cond_false];exact mpFind_none fun e he=>h e (by simp[he])
theorem mpGet_del_self {a:Int}:∀{es:List (Tr×Int)},Uniq es→mpGet (mpDel es (kI a)) (kI a)=none
 | [],_=>rfl
 |(q,x)::r,h=>by
  have ih:=mpGet_del_self (a:=a) h.2
  unfold mpGet mpDel at ih ⊢
  rw[mpCut]
  cases hq:keyEq (kI a) q with
  | true=>
   simp only[cond_true]
   refine mpFind_none fun e he=>?_
   obtain⟨k,rfl⟩:=keyEq_int hq
   have:=h.1 e he
   cases e with
   | mk e1 e2=>
    cases e1 <;> simp_all[keyEq]
  | false=>simp only[cond_false];rw[mpFind,hq,cond_false];exact ih
theorem mpSet_keys {k key:Tr}{v:Int}(hk:keyEq k key=true):∀(es:List (Tr×Int)) (q:Tr),(∀e∈es,keyEq q e.1=false)→keyEq q key=false→∀e∈mpSet (keyEq k) key v es,keyEq q e.1=false
 | [],q,_,hq,e,he=>by
  simp only[mpSet,List.mem_cons,List.not_mem_nil,or_false]at he
  subst he;exact hq
 |(q2,x)::r,q,h,hq,e,he=>by
  rw[mpSet]at he
  cases hb:keyEq k q2 with
  | true=>
   rw[hb,cond_true]at he
   rcases List.mem_cons.1 he with rfl|he
   ·exact h (q2,x) (by simp)
   ·exact h e (by simp[he])
  | false=>
   rw[hb,cond_false]at he
   rcases List.mem_cons.1 he with rfl|he
   ·exact h (q2,x) (by simp)
   ·exact mpSet_keys hk r q (fun e he=>h e (by simp[he])) hq e he
theorem Uniq.put {a:Int}{v:Int}:∀{es:List (Tr×Int)},Uniq es→Uniq (mpPut es (kI a) v)
 | [],_=>by unfold mpPut mpSet;exact⟨fun e he=>(by cases he),trivial⟩
 |(q,x)::r,h=>by
  have ih:=Uniq.put (a:=a) (v:=v) h.2
  unfold mpPut at ih ⊢
  rw[mpSet]
  cases hb:keyEq (kI a) q with
  | true=>exact⟨h.1,h.2⟩
  | false=>exact⟨mpSet_keys (keyEq_self a) r q h.1 (by rw[keyEq_symm];exact hb),ih⟩
theorem mpCut_mem {f:Tr→Bool}:∀{es:List (Tr×Int)} {e:Tr×Int},e∈mpCut f es→e∈es
 | [],_,h=>h
 |(q,x)::r,e,h=>by
  rw[mpCut]at h
  cases hb:f q with
  | true=>rw[hb,cond_true]at h;exact List.mem_cons_of_mem _ h
  | false=>
   rw[hb,cond_false]at h
   rcases List.mem_cons.1 h with rfl|h
   ·simp
   ·exact List.mem_cons_of_mem _ (mpCut_mem h)
theorem Uniq.del {k:Tr}:∀{es:List (Tr×Int)},Uniq es→Uniq (mpDel es k)
 | [],_=>trivial
 |(q,x)::r,h=>by
  have ih:=Uniq.del (k:=k) h.2
  unfold mpDel at ih ⊢
  rw[mpCut]
  cases hb:keyEq k q with
  | true=>exact h.2
  | false=>exact⟨fun e he=>h.1 e (mpCut_mem he),ih⟩
structure MapOk (C:Cx) (x:Sc) (k:Nat) (pos heads:List Int) (zs os fs:List (Tr×Int)):Prop where
 uniq:Uniq zs
 zero:∀i:Nat,x.f < i→i < k→(kindAt C.p i=3∨kindAt C.p i=5)→mpGet zs (kI i)=(match elseAt C.p i with|some j=>if j < k then none else some (atL pos i)|none=>some (atL pos i))
 over:∀i:Nat,x.f < i→i < k→(kindAt C.p i=3∨kindAt C.p i=5)→mpGet os (kI i)=(match elseAt C.p i with|some j=>if j < k then some (atL pos j)else none|none=>none)
 fresh:∀i:Nat,k≤i→mpGet os (kI i)=none
 first:∀i:Nat,x.f < i→i < k→kindAt C.p i=5→mpGet fs (kI i)=some (atL heads i)
section
variable {C:Cx} {x:Sc} {ins:List Nat} {k e:Nat} {pos heads:List Int} {zs os fs:List (Tr×Int)}
theorem else_ne {p:List TLine}{i k:Nat}{j:Nat}(h:elseAt p i=some j)(hk:kindAt p k≠4):j≠k:=by
 rintro rfl
 obtain⟨_,_,_,_,_,_,_,y,hy,h4⟩:=elseAt_some h
 exact hk (by rw[kindAt_of hy];exact h4)
theorem MapOk.plain (h:MapOk C x k pos heads zs os fs)(hk:kindAt C.p k≠3∧kindAt C.p k≠4∧kindAt C.p k≠5)(hd:Int)(v:Int):MapOk C x (k+1) pos (heads.set k hd) zs os (mpPut fs (kI k) v):=by
 refine⟨h.uniq,fun i h1 h2 h3=>?_,fun i h1 h2 h3=>?_,fun i h1=>h.fresh i (by omega),fun i h1 h2 h3=>?_⟩
 ·have hik:i≠k:=fun e=>by subst e;omega
  rw[h.zero i h1 (by omega) h3]
  cases he:elseAt C.p i with
  | none=>rfl
  | some j=>
   have:=else_ne he hk.2.1
   dsimp only
   by_cases hj:j < k
   ·rw[if_pos hj,if_pos (by omega)]
   ·rw[if_neg hj,if_neg (by omega)]
 ·have hik:i≠k:=fun e=>by subst e;omega
  rw[h.over i h1 (by omega) h3]
  cases he:elseAt C.p i with
  | none=>rfl
  | some j=>
   have:=else_ne he hk.2.1
   dsimp only
   by_cases hj:j < k
   ·rw[if_pos hj,if_pos (by omega)]
   ·rw[if_neg hj,if_neg (by omega)]
 ·have hik:i≠k:=fun e=>by subst e;omega
  rw[mpGet_put_ne (by omega),atL_set hik]
  exact h.first i h1 (by omega) h3
theorem MapOk.opens (h:MapOk C x k pos heads zs os fs)(hk:kindAt C.p k=3∨kindAt C.p k=5)(hp:k < pos.length)(hh:k < heads.length)(pv hd:Int):MapOk C x (k+1) (pos.set k pv) (heads.set k hd) (mpPut zs (kI k) pv) os (mpPut fs (kI k) hd):=by
 have helse:∀j,elseAt C.p k=some j→k < j:=fun j hj=>by obtain⟨_,_,_,_,_,h,_⟩:=elseAt_some hj;exact h
 refine⟨h.uniq.put,fun i h1 h2 h3=>?_,fun i h1 h2 h3=>?_,fun i h1=>h.fresh i (by omega),fun i h1 h2 h3=>?_⟩
 ·by_cases hik:i=k
  ·subst hik
   rw[mpGet_put_self,atL_self hp]
   cases he:elseAt C.p i with
   | none=>rfl
   | some j=>dsimp only;rw[if_neg (by have:=helse j he;omega)]
  ·rw[mpGet_put_ne (by omega),h.zero i h1 (by omega) h3,atL_set hik]
   cases he:elseAt C.p i with
   | none=>rfl
   | some j=>
    have:=else_ne (k:=k) he (by omega)
    dsimp only
    by_cases hj:j < k
    ·rw[if_pos hj,if_pos (by omega)]
    ·rw[if_neg hj,if_neg (by omega)]
 ·by_cases hik:i=k
  ·subst hik
   rw[h.fresh i (Nat.le_refl _)]
   cases he:elseAt C.p i with
   | none=>rfl
   | some j=>dsimp only;rw[if_neg (by have:=helse j he;omega)]
  ·rw[h.over i h1 (by omega) h3]
   cases he:elseAt C.p i with
   | none=>rfl
   | some j=>
    have:=else_ne (k:=k) he (by omega)
    dsimp only
    rw[atL_set this]
    by_cases hj:j < k
    ·rw[if_pos hj,if_pos (by omega)]
    ·rw[if_neg hj,if_neg (by omega)]
 ·by_cases hik:i=k
  ·subst hik
   rw[mpGet_put_self,atL_self hh]
  ·rw[mpGet_put_ne (by omega),atL_set hik]
   exact h.first i h1 (by omega) h3
theorem MapOk.else (h:MapOk C x k pos heads zs os fs)(hk:kindAt C.p k=4)(ho:elseAt C.p (ownOf C.p k)=some k)(ho1:ownOf C.p k < k)(hp:k < pos.length)(pv v:Int):MapOk C x (k+1) (pos.set k pv) heads (mpDel zs (kI (ownOf C.p k:Int))) (mpPut os (kI (ownOf C.p k:Int)) pv) (mpPut fs (kI k) v):=by
 have huq:∀i j,elseAt C.p i=some j→i≠ownOf C.p k→j≠k:=fun i j hj hi e=>by subst e;exact hi (elseAt_inj hj ho)
 refine⟨h.uniq.del,fun i h1 h2 h3=>?_,fun i h1 h2 h3=>?_,fun i h1=>?_,fun i h1 h2 h3=>?_⟩
 ·have hik:i≠k:=fun e=>by subst e;omega
  by_cases hio:i=ownOf C.p k
  ·subst hio
   rw[mpGet_del_self h.uniq,ho]
   dsimp only
   rw[if_pos (by omega)]
  ·rw[mpGet_del_ne (by omega),h.zero i h1 (by omega) h3,atL_set hik]
   cases he:elseAt C.p i with
   | none=>rfl
   | some j=>
    have:=huq i j he hio
    dsimp only
    by_cases hj:j < k
    ·rw[if_pos hj,if_pos (by omega)]
    ·rw[if_neg hj,if_neg (by omega)]
 ·have hik:i≠k:=fun e=>by subst e;omega
  by_cases hio:i=ownOf C.p k
  ·subst hio
   rw[mpGet_put_self,ho]
   dsimp only
   rw[if_pos (by omega),atL_self hp]
  ·rw[mpGet_put_ne (by omega),h.over i h1 (by omega) h3]
   cases he:elseAt C.p i with
   | none=>rfl
   | some j=>
    have:=huq i j he hio
    dsimp only
    rw[atL_set this]
    by_cases hj:j < k
    ·rw[if_pos hj,if_pos (by omega)]
    ·rw[if_neg hj,if_neg (by omega)]
 ·rw[mpGet_put_ne (by omega)]
  exact h.fresh i (by omega)
 ·have hik:i≠k:=fun e=>by subst e;omega
  rw[mpGet_put_ne (by omega)]
  exact h.first i h1 (by omega) h3
theorem MapOk.end (h:MapOk C x k pos heads zs os fs)(hk:kindAt C.p k=7)(v:Int):MapOk C x (k+1) pos heads zs os (mpPut fs (kI k) v):=by
 have h':=h.plain (by omega) (atL heads k) v
 refine⟨h'.uniq,h'.zero,h'.over,h'.fresh,fun i h1 h2 h3=>?_⟩
 have hik:i≠k:=fun e=>by subst e;omega
 rw[h'.first i h1 h2 h3,atL_set hik]
theorem MapOk.exit (h:MapOk C x k pos heads zs os fs){i:Nat}(hi:ownOf C.p k=i)(h1:x.f < i)(h2:i < k)(hk:kindAt C.p i=3∨kindAt C.p i=5)(hj:∀j,elseAt C.p i=some j→j < k):
  (mpGet zs (kI i)=some (atL pos (exitAt C.p k))∧mpGet os (kI i)=none)∨(mpGet zs (kI i)=none∧mpGet os (kI i)=some (atL pos (exitAt C.p k))):=by
 have hz:=h.zero i h1 h2 hk
 have ho:=h.over i h1 h2 hk
 unfold exitAt
 rw[hi]
 cases he:elseAt C.p i with
 | none=>rw[he]at hz ho;exact .inl ⟨hz,ho⟩
 | some j=>
  rw[he]at hz ho
  dsimp only at hz ho ⊢
  rw[if_pos (hj j he)]at hz ho
  exact .inr ⟨hz,ho⟩
end
end Go.Proofs.YtogdbgmiigfmfaaGreat
namespace Go.Proofs.YtogdbgmiigfmfaaGreat
open Go.Sim
set_option maxRecDepth 100000
set_option maxHeartbeats 4000000
abbrev mpV (o:Sim.Id):AV:= .r (.c (.mpv o))
abbrev mpH (zs os fs:List (Tr×Int)):List (Sim.Id×AO):=[((0,2,0),.mp (some .i64) zs),((0,2,1),.mp (some .i64) os),((0,2,2),.mp (some .i64) fs)]
theorem g_impl_end_fun (C:Cx)(hC:CxOk C)(pd:List Nat)(s:Gs)(d:Int)(ins:List Nat)(q:Ib)(lv:List Int)(x:Sc)(hq:IbOk C x q)(k g:Nat)(hg:isFun C g)(zs os fs:List (Tr×Int))(h1:s.items.length+2≤68719476736)(h2:x.chain.length≤100)(h3:s.start=true→s.items.length∈pd)(h4:-1000≤d∧d≤1990)(hlv:lv.length≤68719476736)(hd p:List Int):
  SpecG Tryz.prog 166 [mkrP,ibP,tI .i64 (k:Int),tI .i64 (g:Int),mpV (0,2,0),mpV (0,2,1),mpV (0,2,2)] (cmpH (0,0,1) (0,0,2) (0,1,1) C pd s d ins q lv++mpH zs os fs) (.tup [])
   (cmpH (1,0,1) (0,0,2) (1,1,1) C pd (leaveG C x k true (d+1) ⟨emitG C s d 0 0 k x.chain,hd,p,lv⟩).g (if x.outer=true then d else d+1) ins q (leaveG C x k true (d+1) ⟨emitG C s d 0 0 k x.chain,hd,p,lv⟩).lv++mpH zs os fs):=by
 refine specG_of_Wo hΓ hmix Tryz.func166 rfl (by decide) rfl rfl ?_
 obtain⟨y,hy,hy0⟩:=hg
 have g1:=g_impl_add C pd s d ins q lv k 0 0 1 (by unfold roomy;omega) (by rw[hq.chain];exact h2) h3 (by omega) (by omega)
 rw[hq.chain]at g1
 have g2:=g_impl_leave C hC pd (emitG C s d 0 0 k x.chain) (d+1) ins q lv x hq k true (by unfold roomy emitG;simp only[List.length_append,List.length_cons,List.length_nil];omega) h2 (fun h=>by cases h) (by omega) hlv hd p
 have hdd:(if x.outer=false∧true=true then d+1 else d+1 - 1)=if x.outer=true then d else d+1:=by
  cases x.outer
  ·rw[if_pos ⟨rfl,rfl⟩,if_neg (by simp)]
  ·rw[if_neg (by simp),if_pos rfl];omega
 rw[hdd]at g2
 repeat' ((conv=>whnf);first|(with_reducible first|apply Wx|apply W6)|refine cg g1 ?_|refine cg g2 ?_|apply oi|(apply fi<;>intro h)|refine⟨g,y.tr,rfl,map_get hy,?_⟩|refine⟨_,rfl,?_⟩|((with_reducible show _=_);rfl))
 all_goals try((with_reducible refine Obl.mk ?_);exact KP)
 all_goals try exact KK
theorem g_impl_end_zero (C:Cx)(hC:CxOk C)(pd:List Nat)(s:Gs)(d:Int)(ins:List Nat)(q:Ib)(lv:List Int)(x:Sc)(hq:IbOk C x q)(k g:Nat)(y:TLine)(hy:C.p[g]?=some y)(hk:y.fKind=3∨y.fKind=5)(zs os fs:List (Tr×Int))(j:Nat)(hd:Int)
  (hm:(mpGet zs (kI g)=some (j:Int)∧mpGet os (kI g)=none)∨(mpGet zs (kI g)=none∧mpGet os (kI g)=some (j:Int))) (hf:y.fKind=5→mpGet fs (kI g)=some hd) (hj:j < s.items.length) (h1:s.items.length+2≤68719476736) (h2:x.chain.length≤100) (h3:s.start=true→s.items.length∈pd) (h4:-1000≤d∧d≤1990) (hlv:lv.length≤68719476736) (s1:Gs) (hs1:s1=if y.fKind=5 then emitG C s d 10 hd k x.chain else s):
  SpecG Tryz.prog 166 [mkrP,ibP,tI .i64 (k:Int),tI .i64 (g:Int),mpV (0,2,0),mpV (0,2,1),mpV (0,2,2)] (cmpH (0,0,1) (0,0,2) (0,1,1) C pd s d ins q lv++mpH zs os fs) (.tup [])
   (cmpH (1,0,1) (0,0,2) (0,1,1) C pd ⟨setArg s1.items j s1.items.length,s1.most,s1.start⟩ d ins q lv++mpH zs os fs):=by
 refine specG_of_Wo hΓ hmix Tryz.func166 rfl (by decide) rfl rfl ?_
 have hl1:j < s1.items.length:=by rw[hs1];split <;> first|(simp[emitG];omega)|omega
 have hil:=itR_clr_len pd s1.items
 have hjl:j < (itR (clr pd s1.items)).length:=by omega
 obtain⟨it,hit⟩:=get_of_lt (l:=clr pd s1.items) (k:=j) (by rw[clr_len];exact hl1)
 have hfin:itR (clr pd (setArg s1.items j s1.items.length))=(itR (clr pd s1.items)).set j [.d (.int .i64 it.fOp.fCode),.d (.int .i64 (s1.items.length:Int)),.d (.int .i64 it.fLine),.d (.bool it.fStart),.d (.lst 1 (it.fChain.map intRow)),.d (.int .i64 it.fDepth),.d (.bool it.fEntered)]:=by rw[clr_setArg,itR_setArg hit]
 have hne:¬y.fKind=0:=by omega
 by_cases h5:y.fKind=5
 ·rw[if_pos h5]at hs1
  have hf5:=hf h5
  have g1:=g_impl_add C pd s d ins q lv k 10 hd 0 (by unfold roomy;omega) (by rw[hq.chain];exact h2) h3 (by omega) (by omega)
  rw[hq.chain,←hs1,Int.add_zero]at g1
  have hfv:mpVal (mpGet fs (kI g))=hd:=by rw[hf5];rfl
  rw[←hfv]at g1
  rcases hm with⟨m1,m2⟩|⟨m1,m2⟩
  ·have hv:mpVal (mpGet zs (kI g))=(j:Int):=by rw[m1];rfl
   repeat' ((conv=>whnf);first|(with_reducible first|apply Wx|apply W6)|refine cg g1 ?_|apply oi|(apply fi<;>intro h)|refine⟨g,y.tr,rfl,map_get hy,?_⟩|refine⟨j,hv,hjl,?_⟩|refine⟨_,(itR_get hit),?_⟩|refine⟨_,rfl,?_⟩|((with_reducible show _=_);rfl))
   all_goals try((with_reducible refine Obl.mk ?_);exact KP)
   all_goals try(exfalso;(simp only[m1,m2,Option.isSome_some,Option.isSome_none,Bool.false_eq_true,Bool.true_eq_false,beq_iff_eq,beq_eq_false_iff_ne,ne_eq]at *) <;> first|omega|contradiction)
   all_goals(refine⟨?_⟩;rw[hil,hfin];rfl)
  ·have hv:mpVal (mpGet os (kI g))=(j:Int):=by rw[m2];rfl
   repeat' ((conv=>whnf);first|(with_reducible first|apply Wx|apply W6)|refine cg g1 ?_|apply oi|(apply fi<;>intro h)|refine⟨g,y.tr,rfl,map_get hy,?_⟩|refine⟨j,hv,hjl,?_⟩|refine⟨_,(itR_get hit),?_⟩|refine⟨_,rfl,?_⟩|((with_reducible show _=_);rfl))
   all_goals try((with_reducible refine Obl.mk ?_);exact KP)
   all_goals try(exfalso;(simp only[m1,m2,Option.isSome_some,Option.isSome_none,Bool.false_eq_true,Bool.true_eq_false,beq_iff_eq,beq_eq_false_iff_ne,ne_eq]at *) <;> first|omega|contradiction)
   all_goals(refine⟨?_⟩;rw[hil,hfin];rfl)
 ·rw[if_neg h5]at hs1
  subst hs1
  rcases hm with⟨m1,m2⟩|⟨m1,m2⟩
  ·have hv:mpVal (mpGet zs (kI g))=(j:Int):=by rw[m1];rfl
   repeat' ((conv=>whnf);first|(with_reducible first|apply Wx|apply W6)|apply oi|(apply fi<;>intro h)|refine⟨g,y.tr,rfl,map_get hy,?_⟩|refine⟨j,hv,hjl,?_⟩|refine⟨_,(itR_get hit),?_⟩|refine⟨_,rfl,?_⟩|((with_reducible show _=_);rfl))
   all_goals try((with_reducible refine Obl.mk ?_);exact KP)
   all_goals try(exfalso;(simp only[m1,m2,Option.isSome_some,Option.isSome_none,Bool.false_eq_true,Bool.true_eq_false,beq_iff_eq,beq_eq_false_iff_ne,ne_eq]at *) <;> first|omega|contradiction)
   all_goals(refine⟨?_⟩;rw[hil,hfin];rfl)
  ·have hv:mpVal (mpGet os (kI g))=(j:Int):=by rw[m2];rfl
   repeat' ((conv=>whnf);first|(with_reducible first|apply Wx|apply W6)|apply oi|(apply fi<;>intro h)|refine⟨g,y.tr,rfl,map_get hy,?_⟩|refine⟨j,hv,hjl,?_⟩|refine⟨_,(itR_get hit),?_⟩|refine⟨_,rfl,?_⟩|((with_reducible show _=_);rfl))
   all_goals try((with_reducible refine Obl.mk ?_);exact KP)
   all_goals try(exfalso;(simp only[m1,m2,Option.isSome_some,Option.isSome_none,Bool.false_eq_true,Bool.true_eq_false,beq_iff_eq,beq_eq_false_iff_ne,ne_eq]at *) <;> first|omega|contradiction)
   all_goals(refine⟨?_⟩;rw[hil,hfin];rfl)
end Go.Proofs.YtogdbgmiigfmfaaGreat
namespace Go.Proofs.YtogdbgmiigfmfaaGreat
open Go.Sim
set_option maxRecDepth 100000
set_option maxHeartbeats 4000000
theorem clr_fresh {pd:List Nat}{l:List TItem}:clr (l.length::pd) l=clr pd l:=by
 apply List.ext_getElem?
 intro i
 rw[clr_get,clr_get]
 cases hx:l[i]? with
 | none=>rfl
 | some x=>
  have:=lt_of_get hx
  simp only[Option.map_some,clrAt,List.contains_cons]
  rw[show(i==l.length)=false by simp;omega,Bool.false_or]
theorem clr_mark {pd:List Nat}{l:List TItem}{n:Nat}{it:TItem}(hx:l[n]?=some it)(hs:it.fStart=true)(hn:n∉pd):(itR (clr (n::pd) l)).set n [.d (.int .i64 it.fOp.fCode),.d (.int .i64 it.fOp.fArg),.d (.int .i64 it.fLine),.d (.bool true),.d (.lst 1 (it.fChain.map intRow)),.d (.int .i64 it.fDepth),.d (.bool it.fEntered)]=itR (clr pd l):=by
 have h1:clr pd l=(clr (n::pd) l).set n it:=by
  apply List.ext_getElem?
  intro i
  rw[List.getElem?_set,clr_len,clr_get,clr_get]
  by_cases h:n=i
  ·subst h
   rw[if_pos rfl,if_pos (lt_of_get hx),hx]
   simp only[Option.map_some,clrAt]
   rw[if_neg (by simpa using hn)]
  ·rw[if_neg h]
   cases l[i]? with
   | none=>rfl
   | some y=>
    simp only[Option.map_some,clrAt,List.contains_cons]
    rw[show(i==n)=false by simp;omega,Bool.false_or]
 rw[h1]
 simp only[itR,deepRows,List.map_set]
 congr 1
 simp[TItem.tr,hs]
theorem genE_off {C:Cx}(hC:CxOk C){lev:Nat}{x:Sc}{ins:List Nat}(hx:ScOk C x ins)(hlev:((lev+(ins.length - 1):Nat):Int)=C.b.fInline){line b:Nat}:∀(e:Ex) {d:Int} {s:Gs},(∀t∈e.toks,t.fKind=7→∃f,findN C.p 0 t.fName=some f)→Beg b s→(genE C (repN C lev) x ins line e d s).start=false
 | .node t es,d,s,hca,hb=>by
  rw[genE]
  have hb2:=genEs_beg (C:=C) (x:=x) (ins:=ins) (line:=line) (rep:=repN C lev) (fun g d s hg hr hb=>repN_beg hC lev line g d s hx hg hr hb) es d hb
  obtain⟨s1,hs1⟩:∃s1,genEs C (repN C lev) x ins line es d s=s1:=⟨_,rfl⟩
  rw[hs1]at hb2 ⊢
  unfold finG
  split
  ·rfl
  ·split
   ·rfl
   ·split
    ·rename_i h7
     obtain⟨f,hf⟩:=hca t (by simp[Ex.toks]) h7
     rw[hf]
     dsimp only
     split
     ·rename_i hr
      obtain⟨r1,_⟩:=replB_spec hr
      have hc:=hx.chain
      obtain⟨m,rfl⟩:∃m,lev=m+1:=⟨lev - 1,by omega⟩
      exact repN_off hb2
     ·rfl
    ·rfl
theorem ILinesC_of {C:Cx}(hC:CxOk C){lev:Nat}(hE:IExprC C lev):ILinesC C lev:=by
 intro x q ins pd s d hx hq hqf hqe hqb hst hpd hroom hlev hd0 hd1
 refine specG_of_Wo hΓ hmix Tryz.func108 rfl (by decide) rfl rfl ?_
 obtain⟨e,he,hfe,hel,hen,hll⟩:=hx.endE hC
 rw[hen]at hqe hroom
 have h60:=hC.len
 have hin:=hC.inl
 have hchn:=hx.chain
 have h3:=tokC_3 (n:=lev) (by omega)
 have hch:x.chain.length≤100:=by omega
 have hch':q.chain.length≤100:=by rw[hq.chain];exact hch
 have hxf:0≤x.first∧x.first≤1000:=by have:=hx.first;omega
 have gO:=s_impl_owners C.p h60
 have hol:=ownF_len C.p C.p.length
 obtain⟨R,hR⟩:∃R,runL C (repN C lev) x ins d (e+1 - (x.f+1)) (x.f+1) (startL C s)=R:=⟨_,rfl⟩
 have hfin:linesG C (repN C lev) x ins d s=(R.g,R.lv):=by
  unfold linesG
  rw[hen,show e - x.f=e+1 - (x.f+1) by omega,hR]
 rw[hfin]
 have hI0:LInv C lev x ins d e R (x.f+1) (startL C s):=⟨Nat.le_refl _,by omega,by simp[startL],by simp[startL],fun i h1 h2=>by omega,⟨by simp[startL],fun j hj=>by simp[startL]at hj⟩,by rw[show e+1 - (x.f+1)=e - x.f by omega];exact hroom,hR⟩
 have hM0:MapOk C x (x.f+1) (startL C s).pos (startL C s).heads [] [] []:=⟨trivial,fun i h1 h2=>by omega,fun i h1 h2=>by omega,fun i _=>rfl,fun i h1 h2=>by omega⟩
 repeat' ((conv=>whnf);first|(with_reducible first|apply Wx|apply W6)|apply oi|(apply fi<;>intro h)|refine cl gO ?_|refine⟨_,rfl,?_⟩|((with_reducible show _=_);rfl))
 all_goals try((with_reducible refine Obl.mk ?_);exact KP)
 conv=>whnf
 refine⟨{r:(Nat×Ls×Int)×(List (Tr×Int)×List (Tr×Int)×List (Tr×Int)) // LInv C lev x ins d e R r.1.1 r.1.2.1∧MapOk C x r.1.1 r.1.2.1.pos r.1.2.1.heads r.2.1 r.2.2.1 r.2.2.2∧(r.1.1=e+1→r.1.2.2=if x.outer=true then d else d+1)∧s.items.length≤r.1.2.1.g.items.length∧r.1.2.1.g.start=false},
  fun r=>⟨[(0,mkrP),(1,ibP),(4,.r (.c (.own (15,0,0)))),(5,mpV (16,0,0)),(6,mpV (17,0,0)),(7,mpV (18,0,0)),(8,tI .i64 (r.1.1.1:Int))],
   [(
    (0,0,0),some (cmpB C r.1.1.2.1.g r.1.1.2.2 (15,0,1) (15,0,2))),((15,0,1),some (.dar 7 (itR (clr pd r.1.1.2.1.g.items)) none)),((15,0,2),some (.arr false 1 (insR ins))),((0,1,0),some (ibB q (15,0,3))),((15,0,3),some (.arr false 1 (r.1.1.2.1.lv.map intRow))),((15,0,0),some (.arr true 1 ((ownF C.p C.p.length).map intRow))),
    ((16,0,0),some (.mp (some .i64) r.1.2.1)),((17,0,0),some (.mp (some .i64) r.1.2.2.1)),((18,0,0),some (.mp (some .i64) r.1.2.2.2))],[18,17,16,15,0]⟩,
  fun r=>e+1 - r.1.1.1,⟨((x.f+1,startL C s,d),([],[],[])),hI0,hM0,fun h=>by dsimp only at h;omega,Nat.le_refl _,hst⟩,?_,?_⟩
 ·skip
  repeat' ((conv=>whnf);first|(with_reducible first|apply Wx|apply W6)|apply oi|(apply fi<;>intro h)|refine⟨_,rfl,?_⟩|((with_reducible show _=_);rfl))
  all_goals try((with_reducible refine Obl.mk ?_);exact KP)
  all_goals try exact⟨KW⟩
 intro⟨⟨⟨k,L,dep⟩,⟨zs,os,fs⟩⟩,hI,hM,hdep,hgs,hL0⟩
 dsimp only at hI hM hdep hgs hL0 ⊢
 by_cases hke:k≤e
 ·obtain⟨ln,hl⟩:=get_of_lt (l:=C.p) (k:=k) (by omega)
  have h0:=lines_kinds hC hx he hI.lo hke hl
  obtain⟨hk0,hk7,_,h20,hexp⟩:=hC.line _ _ hl
  obtain⟨hsh,hnm⟩:=toks_short hC hl
  have hkf:=hI.lo
  have hIr:=hI.room
  have hIh:=hI.heads
  have hIp:=hI.pos
  have hlvl:=hI.lv.1
  have hkk:=kindAt_of hl
  have hIroom:L.g.items.length+20 * tokC lev+3≤68719476736:=by
   obtain⟨n,hn⟩:∃n,e+1 - k=n+1:=⟨e - k,by omega⟩
   rw[hn,Nat.add_mul]at hIr
   omega
  obtain⟨A,hA⟩:∃A,stepA C (repN C lev) x ins d k ln L=A:=⟨_,rfl⟩
  have hrepG:∀line g d s,isFun C g→replB C ins g s.items.length=true→Grow (tokC lev) s (repN C lev x ins line g d s):=fun line g d s hg hr=>repN_grow hC lev line g d s hx hg hr
  have hN:=LInv.next hC hx he hI hke hl
  have hAo:A.g.start=false:=by rw[←hA];exact stepA_off hL0
  have hAg:=(stepA_grow (x:=x) (ins:=ins) (rep:=repN C lev) (lev:=lev) hrepG hC hl h0 d L).ge
  rw[hA]at hN hAg
  obtain⟨b1,b2,b3,b4,b5,b6⟩:=stepB_lens (C:=C) (x:=x) k ln A
  have hBo:(stepB C x k ln A).g.start=false:=by rw[b6];exact hAo
  have hsg:s.items.length≤(stepB C x k ln A).g.items.length:=by rw[b4];omega
  have hitl:=itR_clr_len pd L.g.items
  have hro:roomy L.g:=by unfold roomy;omega
  have hpdn:∀i∈pd,i < L.g.items.length:=fun i hi=>by have:=hpd i hi;omega
  have gH:=s_impl_hasExpr ln.fKind
  have hpk:k < L.pos.length:=by omega
  have hhk:k < L.heads.length:=by omega
  have hown:∀i:Nat,(endAt C.p i=some k∨elseAt C.p i=some k)→((ownF C.p C.p.length).map intRow)[k]?=some (intRow (i:Int)):=fun i hi=>by
   have hi2:i < C.p.length:=by
    rcases hi with h|h
    ·obtain⟨_,hx,_⟩:=endAt_some h;exact lt_of_get hx
    ·obtain⟨_,_,hx,_⟩:=elseAt_some h;exact lt_of_get hx
   rw[List.getElem?_map,ownF_get hi (by omega) _ hi2]
   rfl
  have hkol:k < ((ownF C.p C.p.length).map intRow).length:=by rw[List.length_map,hol];omega
  have hkne:ln.fKind≠7→k < e:=fun h=>by
   rcases Nat.lt_or_eq_of_le hke with h'|h'
   ·exact h'
   ·subst h'
    obtain⟨z,hz,hz7⟩:=endAt_kind he
    rw[hl]at hz
    injection hz with hz
    subst hz
    exact absurd hz7 h
  have hcalls:ln.fKind≠7→callsOk C ln.fExpr:=fun h=>by
   obtain⟨l0,q1,q2⟩:=hx.fn
   obtain⟨e',q3,_,_,q4⟩:=hC.fn _ _ q1 q2
   rw[he]at q3
   injection q3 with q3
   subst q3
   exact(q4 k ln (by omega) (hkne h) hl).2.1
  obtain⟨g1,hg1⟩:∃g1,genE C (repN C lev) x ins k (exL ln.fExpr) d ⟨L.g.items,L.g.most,true⟩=g1:=⟨_,rfl⟩
  have hbeg:Beg L.g.items.length (⟨L.g.items,L.g.most,true⟩:Gs):=⟨Nat.le_refl _,⟨fun _=>rfl,fun _=>rfl⟩⟩
  have hX:exprOk ln.fExpr=true→ln.fKind≠7→SpecG Tryz.prog 162 [mkrP,ibP,tI .i64 (k:Int),.r (.c (.t (.lst 3 (ln.fExpr.map TTok.tr)))),tI .i64 (0:Int),tI .i64 (L.g.items.length:Int)] (cmpH (0,0,1) (0,0,2) (0,1,1) C (L.g.items.length::pd) ⟨L.g.items,L.g.most,true⟩ d ins q L.lv) (.tup []) (cmpH (1,0,1) (1,0,2) (0,1,1) C (L.g.items.length::pd) g1 (d+1) ins q L.lv):=fun hx1 hx7=>by
   obtain⟨eo,et⟩:=exL_ok hx1
   have h20':(exL ln.fExpr).toks.length≤20:=by rw[←et];exact h20
   have hmu:=Nat.mul_le_mul_right (tokC lev) h20'
   have:=hE (exL ln.fExpr) x q ins (L.g.items.length::pd) L.lv k 0 L.g.items.length ln ⟨L.g.items,L.g.most,true⟩ d eo hl ⟨[],by rw[List.drop_zero,List.append_nil];exact et⟩ (hcalls hx7) ⟨hx,hq,⟨by dsimp only;omega,hlev,hd0,by omega⟩,hbeg,by simp,fun i hi=>by
    rcases List.mem_cons.1 hi with rfl|hi
    ·exact Nat.le_refl _
    ·have:=hpdn i hi;omega⟩
   rw[hg1]at this
   exact this
  have hGr:exprOk ln.fExpr=true→ln.fKind≠7→g1.items.length≤L.g.items.length+20 * tokC lev∧g1.start=false∧∃it,g1.items[L.g.items.length]?=some it∧it.fStart=true:=fun hx1 hx7=>by
   have:=(genE_grow' (x:=x) (ins:=ins) (rep:=repN C lev) (line:=k) (lev:=lev) (fun g d s hg hr=>repN_grow hC lev k g d s hx hg hr) hC hl hx1 d ⟨L.g.items,L.g.most,true⟩).le
   have et:=(exL_ok hx1).2
   have ho:=genE_off hC hx hlev (line:=k) (exL ln.fExpr) (d:=d) (by rw[←et];exact fun t ht h7=>by obtain⟨f,hf,_⟩:=hcalls hx7 t ht h7;exact⟨f,hf⟩) hbeg
   have hm:=genE_mark (C:=C) (rep:=repN C lev) (b:=L.g.items.length) (fun x ins line g d s h=>repN_mark lev x ins line g d s h) x ins k (exL ln.fExpr) d ⟨L.g.items,L.g.most,true⟩ (.inl ⟨rfl,rfl⟩)
   rw[hg1]at this ho hm
   refine⟨this,ho,?_⟩
   rcases hm with⟨hm,_⟩|hm
   ·rw[ho]at hm;cases hm
   ·exact hm
  unfold stepA at hA
  rw[hg1]at hA
  dsimp only at hA
  have hfr:=clr_fresh (pd:=pd) (l:=L.g.items)
  have hcase:ln.fKind=4∨ln.fKind=7∨ln.fKind=1∨ln.fKind=2∨ln.fKind=6∨(ln.fKind=3∨ln.fKind=5):=by omega
  rcases hcase with h4|h7|h1|h2|h6|h35
  ·
   rw[if_pos h4]at hA
   obtain⟨o1,o2,o3,o4⟩:=hx.own4 hC he (by omega) hke hl h4
   obtain⟨y,m,hy,y3,hm,_⟩:=elseAt_some o1
   have hky:=kindAt_of hy
   have hhe:hasExpr ln.fKind=false:=by rw[h4];rfl
   rw[hhe]at gH
   have gS:=g_impl_add C pd L.g d ins q L.lv k 10 0 0 hro hch' (fun h=>by rw[hL0]at h;cases h) (by omega) (by omega)
   rw[hq.chain,Int.add_zero]at gS
   have a1:A.g=⟨setArg (emitG C L.g d 10 0 k x.chain).items (atL L.pos (ownOf C.p k)) (emitG C L.g d 10 0 k x.chain).items.length,(emitG C L.g d 10 0 k x.chain).most,(emitG C L.g d 10 0 k x.chain).start⟩:=by rw[←hA]
   have a4:A.heads=L.heads:=by rw[←hA]
   have a5:A.pos=L.pos.set k L.g.items.length:=by rw[←hA]
   have a6:A.lv=L.lv:=by rw[←hA]
   have hM2:=hM.else (by omega) o1 o3 hpk (L.g.items.length:Int) (L.g.items.length:Int)
   have hB:stepB C x k ln A=A:=by unfold stepB;rw[if_neg (by omega)]
   have hz:=hM.zero _ o2 o3 (.inl (by omega))
   rw[o1]at hz
   dsimp only at hz
   rw[if_neg (by omega)]at hz
   obtain⟨p1,p2⟩:=hI.at_ _ o2 o3 (by unfold jumps;omega)
   obtain⟨jn,hjn⟩:=Int.eq_ofNat_of_zero_le p1
   have hzv:mpVal (mpGet zs (kI (ownOf C.p k:Int)))=(jn:Int):=by rw[hz];exact hjn
   have hel1:(emitG C L.g d 10 0 k x.chain).items.length=L.g.items.length+1:=by simp[emitG]
   have hjl:jn < (itR (clr pd (emitG C L.g d 10 0 k x.chain).items)).length:=by rw[itR_clr_len,hel1];omega
   obtain⟨it,hit⟩:=get_of_lt (l:=clr pd (emitG C L.g d 10 0 k x.chain).items) (k:=jn) (by rw[clr_len,hel1];omega)
   have hsa:itR (clr pd (setArg (emitG C L.g d 10 0 k x.chain).items (atL L.pos (ownOf C.p k)) (emitG C L.g d 10 0 k x.chain).items.length))=(itR (clr pd (emitG C L.g d 10 0 k x.chain).items)).set jn [.d (.int .i64 it.fOp.fCode),.d (.int .i64 ((itR (clr pd (emitG C L.g d 10 0 k x.chain).items)).length:Int)),.d (.int .i64 it.fLine),.d (.bool it.fStart),.d (.lst 1 (it.fChain.map intRow)),.d (.int .i64 it.fDepth),.d (.bool it.fEntered)]:=by rw[clr_setArg,hjn,itR_setArg hit,itR_clr_len]
   have hok:=hown _ (.inr o1)
   repeat' ((conv=>whnf);first|(with_reducible apply W1;fail_if_success (with_reducible show Wo _ _ _ _ (Code.region 10 _ _) _ _))|(with_reducible first|apply W2|apply W3|apply W4|apply W5|apply W6|apply W7|apply W8|apply W9)|apply reg_inl|apply oi|(apply fi<;>intro h)|refine⟨k,ln.tr,rfl,map_get hl,?_⟩|refine⟨_,rfl,?_⟩|((with_reducible show _=_);rfl))
   all_goals try((with_reducible refine Obl.mk ?_);exact KP)
   all_goals try(exfalso;rw[hqe]at h;have:=of_decide_eq_false h;omega)
   conv=>whnf
   rw[hitl]
   repeat' ((conv=>whnf);first|(with_reducible first|apply Wx|apply W6)|refine cg gS ?_|apply oi|(apply fi<;>intro h)|refine cl gH ?_|refine⟨k,rfl,hkol,?_⟩|refine⟨_,hok,?_⟩|refine⟨jn,hzv,hjl,?_⟩|refine⟨_,(itR_get hit),?_⟩|refine⟨_,rfl,?_⟩|((with_reducible show _=_);rfl))
   all_goals try((with_reducible refine Obl.mk ?_);exact KP)
   all_goals try exact⟨congrArg (Tr.int .i64) hqb.symm⟩
   all_goals try exact KK
   all_goals(conv=>whnf)
   all_goals(refine⟨⟨((k+1,stepB C x k ln A,d),(mpDel zs (kI (ownOf C.p k:Int)),mpPut os (kI (ownOf C.p k:Int)) (L.g.items.length:Int),mpPut fs (kI k) (L.g.items.length:Int))),hN,by dsimp only;rw[b2,b1];rw[a5,a4];exact hM2,fun h=>by have:=hkne (by omega);dsimp only at h;omega,hsg,hBo⟩,?_,by dsimp only;omega⟩)
   repeat' ((conv=>whnf);first|(with_reducible first|apply Wx|apply W6)|apply oi|(apply fi<;>intro h)|refine⟨_,rfl,?_⟩|((with_reducible show _=_);rfl))
   all_goals try((with_reducible refine Obl.mk ?_);exact KP)
   all_goals try exact⟨KW⟩
   all_goals(refine⟨?_⟩;dsimp only;simp only[hB,a1,a4,a5,a6,hsa,hitl];try rfl)
  ·
   rw[if_neg (by omega),if_pos h7]at hA
   have hhe:hasExpr ln.fKind=false:=by rw[h7];rfl
   rw[hhe]at gH
   obtain⟨o1,o2⟩:=hx.own7 hC he (by omega) hke hl h7
   have hok:=hown _ (.inl o1)
   have hM2:=hM.end (by omega) (L.g.items.length:Int)
   rcases o2 with⟨o2,o3⟩|⟨o2,o3,o4,y,hy,o5⟩
   ·subst o2
    rw[if_pos o3]at hA
    rw[o3]at hok
    have gS:=g_impl_end_fun C hC pd L.g d ins q L.lv x hq k x.f hx.fn zs os (mpPut fs (kI k) (L.g.items.length:Int)) (by omega) hch (fun h=>by rw[hL0]at h;cases h) (by omega) (by omega) L.heads L.pos
    rw[show leaveG C x k true (d+1) ⟨emitG C L.g d 0 0 k x.chain,L.heads,L.pos,L.lv⟩=A from hA]at gS
    have a4:A.heads=L.heads:=by rw[←hA];unfold leaveG;(repeat' split) <;> rfl
    have a5:A.pos=L.pos:=by rw[←hA];unfold leaveG;(repeat' split) <;> rfl
    have hB:stepB C x k ln A=A:=by unfold stepB;rw[if_neg (by rintro⟨_,h⟩;exact h o3)]
    repeat' ((conv=>whnf);first|(with_reducible apply W1;fail_if_success (with_reducible show Wo _ _ _ _ (Code.region 10 _ _) _ _))|(with_reducible first|apply W2|apply W3|apply W4|apply W5|apply W6|apply W7|apply W8|apply W9)|apply reg_inl|apply oi|(apply fi<;>intro h)|refine⟨k,ln.tr,rfl,map_get hl,?_⟩|refine⟨_,rfl,?_⟩|((with_reducible show _=_);rfl))
    all_goals try((with_reducible refine Obl.mk ?_);exact KP)
    all_goals try(exfalso;rw[hqe]at h;have:=of_decide_eq_false h;omega)
    conv=>whnf
    rw[hitl]
    repeat' ((conv=>whnf);first|(with_reducible first|apply Wx|apply W6)|refine cg gS ?_|apply oi|(apply fi<;>intro h)|refine cl gH ?_|refine⟨k,rfl,hkol,?_⟩|refine⟨_,hok,?_⟩|refine⟨_,rfl,?_⟩|((with_reducible show _=_);rfl))
    all_goals try((with_reducible refine Obl.mk ?_);exact KP)
    all_goals try exact⟨congrArg (Tr.int .i64) hqb.symm⟩
    all_goals try exact KK
    all_goals(conv=>whnf)
    all_goals(refine⟨⟨((k+1,stepB C x k ln A,(if x.outer=true then d else d+1)),(zs,os,mpPut fs (kI k) (L.g.items.length:Int))),hN,by dsimp only;rw[b2,b1];rw[a5,a4];exact hM2,fun _=>rfl,hsg,hBo⟩,?_,by dsimp only;omega⟩)
    repeat' ((conv=>whnf);first|(with_reducible first|apply Wx|apply W6)|apply oi|(apply fi<;>intro h)|refine⟨_,rfl,?_⟩|((with_reducible show _=_);rfl))
    all_goals try((with_reducible refine Obl.mk ?_);exact KP)
    all_goals try exact⟨KW⟩
    all_goals(refine⟨?_⟩;dsimp only;simp only[hB];try rfl)
   ·rw[if_neg (by omega)]at hA
    have hky:=kindAt_of hy
    have a1:A.g=if y.fKind=5 then emitG C L.g d 10 (atL L.heads (ownOf C.p k)) k x.chain else L.g:=by rw[←hA,hky];split <;> rfl
    have a4:A.heads=L.heads:=by rw[←hA];split <;> rfl
    have a5:A.pos=L.pos:=by rw[←hA];split <;> rfl
    have a6:A.lv=L.lv:=by rw[←hA];split <;> rfl
    have hex:=hM.exit (i:=ownOf C.p k) rfl o3 o4 (by omega) (fun j hj=>by
     obtain⟨_,e2,_,_,q1,_,q2,_⟩:=elseAt_some hj
     rw[o1]at q1
     injection q1 with q1
     omega)
    obtain⟨x1,x2,x3,_⟩:=exit_to hC hx he (by omega) (by omega) hl h7
    obtain⟨p1,p2⟩:=hI.at_ _ (by omega) x2 x3
    obtain⟨jn,hjn⟩:=Int.eq_ofNat_of_zero_le p1
    rw[hjn]at hex
    have hfs:y.fKind=5→mpGet (mpPut fs (kI k) (L.g.items.length:Int)) (kI (ownOf C.p k:Int))=some (atL L.heads (ownOf C.p k)):=fun h5=>by rw[mpGet_put_ne (by omega)];exact hM.first _ o3 o4 (by omega)
    have gS:=g_impl_end_zero C hC pd L.g d ins q L.lv x hq k (ownOf C.p k) y hy o5 zs os (mpPut fs (kI k) (L.g.items.length:Int)) jn (atL L.heads (ownOf C.p k)) hex hfs (by omega) (by omega) hch (fun h=>by rw[hL0]at h;cases h) (by omega) (by omega) A.g a1
    have hB:(stepB C x k ln A).g=⟨setArg A.g.items (jn:Int) A.g.items.length,A.g.most,A.g.start⟩:=by unfold stepB;rw[if_pos ⟨h7,by omega⟩,a5,hjn]
    repeat' ((conv=>whnf);first|(with_reducible apply W1;fail_if_success (with_reducible show Wo _ _ _ _ (Code.region 10 _ _) _ _))|(with_reducible first|apply W2|apply W3|apply W4|apply W5|apply W6|apply W7|apply W8|apply W9)|apply reg_inl|apply oi|(apply fi<;>intro h)|refine⟨k,ln.tr,rfl,map_get hl,?_⟩|refine⟨_,rfl,?_⟩|((with_reducible show _=_);rfl))
    all_goals try((with_reducible refine Obl.mk ?_);exact KP)
    all_goals try(exfalso;rw[hqe]at h;have:=of_decide_eq_false h;omega)
    conv=>whnf
    rw[hitl]
    repeat' ((conv=>whnf);first|(with_reducible first|apply Wx|apply W6)|refine cg gS ?_|apply oi|(apply fi<;>intro h)|refine cl gH ?_|refine⟨k,rfl,hkol,?_⟩|refine⟨_,hok,?_⟩|refine⟨_,rfl,?_⟩|((with_reducible show _=_);rfl))
    all_goals try((with_reducible refine Obl.mk ?_);exact KP)
    all_goals try exact⟨congrArg (Tr.int .i64) hqb.symm⟩
    all_goals try exact KK
    all_goals(conv=>whnf)
    all_goals(refine⟨⟨((k+1,stepB C x k ln A,d),(zs,os,mpPut fs (kI k) (L.g.items.length:Int))),hN,by dsimp only;rw[b2,b1];rw[a5,a4];exact hM2,fun h=>by dsimp only at h;omega,hsg,hBo⟩,?_,by dsimp only;omega⟩)
    repeat' ((conv=>whnf);first|(with_reducible first|apply Wx|apply W6)|apply oi|(apply fi<;>intro h)|refine⟨_,rfl,?_⟩|((with_reducible show _=_);rfl))
    all_goals try((with_reducible refine Obl.mk ?_);exact KP)
    all_goals try exact⟨KW⟩
    all_goals(refine⟨?_⟩;dsimp only;simp only[hB,b3,a6];try rfl)
  ·
   rw[if_neg (by omega),if_neg (by omega),if_pos h1]at hA
   have hx1:=hexp (.inl h1)
   have gX:=hX hx1 (by omega)
   obtain⟨hG1,hG2,it,hit1,hit2⟩:=hGr hx1 (by omega)
   have hnp:L.g.items.length∉pd:=fun h=>by have:=hpdn _ h;omega
   have hmk:=clr_mark (pd:=pd) hit1 hit2 hnp
   have hitx:(clr (L.g.items.length::pd) g1.items)[L.g.items.length]?=some (offI it):=by rw[clr_get,hit1];simp[clrAt]
   have hnl:L.g.items.length < (itR (clr (L.g.items.length::pd) g1.items)).length:=by rw[itR_clr_len];exact lt_of_get hit1
   have hhe:hasExpr ln.fKind=true:=hasExpr_iff.2 (.inl h1)
   rw[hhe]at gH
   have hix:=idxOf_le x.locals ln.fName
   have gI:=s_slices_IndexS x.locals ln.fName (by omega)
   have gS:=g_impl_access C hC pd g1 (d+1) ins q L.lv x hq k (idxOf x.locals ln.fName) (-1) true rfl (by unfold roomy;omega) hch (fun h=>by rw[hG2]at h;cases h) (by omega) hxf (by omega)
   rw[show d+1+-1=d by omega]at gS
   have a1:A.g=emitG C g1 (d+1) (placeC C true) (placeA C x (d+1) (idxOf x.locals ln.fName)) k x.chain:=by rw[←hA];rfl
   have a4:A.heads=L.heads.set k L.g.items.length:=by rw[←hA]
   have a5:A.pos=L.pos:=by rw[←hA]
   have a6:A.lv=L.lv:=by rw[←hA]
   rw[←hq.locals]at gI gS a1
   have hM2:=hM.plain (by omega) (L.g.items.length:Int) (L.g.items.length:Int)
   have hB:stepB C x k ln A=A:=by unfold stepB;rw[if_neg (by omega)]
   generalize idxOf q.locals ln.fName=ix at *
   repeat' ((conv=>whnf);first|(with_reducible apply W1;fail_if_success (with_reducible show Wo _ _ _ _ (Code.region 10 _ _) _ _))|(with_reducible first|apply W2|apply W3|apply W4|apply W5|apply W6|apply W7|apply W8|apply W9)|apply reg_inl|apply oi|(apply fi<;>intro h)|refine⟨k,ln.tr,rfl,map_get hl,?_⟩|refine⟨_,rfl,?_⟩|((with_reducible show _=_);rfl))
   all_goals try((with_reducible refine Obl.mk ?_);exact KP)
   all_goals try(exfalso;rw[hqe]at h;have:=of_decide_eq_false h;omega)
   conv=>whnf
   rw[hitl]
   repeat' ((conv=>whnf);first|(with_reducible first|apply Wx|apply W6)|refine cg gX ?_|refine cg gS ?_|apply oi|(apply fi<;>intro h)|refine cl gH ?_|refine⟨L.g.items.length,rfl,hnl,?_⟩|refine⟨_,(itR_get hitx),?_⟩|refine cl gI ?_|refine⟨_,rfl,?_⟩|((with_reducible show _=_);rfl))
   all_goals try((with_reducible refine Obl.mk ?_);exact KP)
   all_goals try exact⟨congrArg (Tr.int .i64) hqb.symm⟩
   all_goals try exact⟨congrArg itR hfr.symm⟩
   all_goals try exact⟨hmk⟩
   all_goals try exact KK
   all_goals(conv=>whnf)
   all_goals(refine⟨⟨((k+1,stepB C x k ln A,d),(zs,os,mpPut fs (kI k) (L.g.items.length:Int))),hN,by dsimp only;rw[b2,b1];rw[a5,a4];exact hM2,fun h=>by have:=hkne (by omega);dsimp only at h;omega,hsg,hBo⟩,?_,by dsimp only;omega⟩)
   repeat' ((conv=>whnf);first|(with_reducible first|apply Wx|apply W6)|apply oi|(apply fi<;>intro h)|refine⟨_,rfl,?_⟩|((with_reducible show _=_);rfl))
   all_goals try((with_reducible refine Obl.mk ?_);exact KP)
   all_goals try exact⟨KW⟩
   all_goals(refine⟨?_⟩;dsimp only;simp only[hB,a1,a4,a5,a6];try rfl)
  ·
   rw[if_neg (by omega),if_neg (by omega),if_neg (by omega),if_pos h2]at hA
   have hx1:=hexp (.inr (.inl h2))
   have gX:=hX hx1 (by omega)
   obtain⟨hG1,hG2,it,hit1,hit2⟩:=hGr hx1 (by omega)
   have hnp:L.g.items.length∉pd:=fun h=>by have:=hpdn _ h;omega
   have hmk:=clr_mark (pd:=pd) hit1 hit2 hnp
   have hitx:(clr (L.g.items.length::pd) g1.items)[L.g.items.length]?=some (offI it):=by rw[clr_get,hit1];simp[clrAt]
   have hnl:L.g.items.length < (itR (clr (L.g.items.length::pd) g1.items)).length:=by rw[itR_clr_len];exact lt_of_get hit1
   have hhe:hasExpr ln.fKind=true:=hasExpr_iff.2 (.inr (.inl h2))
   rw[hhe]at gH
   have gS:=g_impl_add C pd g1 (d+1) ins q L.lv k 17 0 (-1) (by unfold roomy;omega) hch' (fun h=>by rw[hG2]at h;cases h) (by omega) (by omega)
   rw[hq.chain,show d+1+-1=d by omega]at gS
   have a1:A.g=emitG C g1 (d+1) 17 0 k x.chain:=by rw[←hA]
   have a4:A.heads=L.heads.set k L.g.items.length:=by rw[←hA]
   have a5:A.pos=L.pos:=by rw[←hA]
   have a6:A.lv=L.lv:=by rw[←hA]
   have hM2:=hM.plain (by omega) (L.g.items.length:Int) (L.g.items.length:Int)
   have hB:stepB C x k ln A=A:=by unfold stepB;rw[if_neg (by omega)]
   repeat' ((conv=>whnf);first|(with_reducible apply W1;fail_if_success (with_reducible show Wo _ _ _ _ (Code.region 10 _ _) _ _))|(with_reducible first|apply W2|apply W3|apply W4|apply W5|apply W6|apply W7|apply W8|apply W9)|apply reg_inl|apply oi|(apply fi<;>intro h)|refine⟨k,ln.tr,rfl,map_get hl,?_⟩|refine⟨_,rfl,?_⟩|((with_reducible show _=_);rfl))
   all_goals try((with_reducible refine Obl.mk ?_);exact KP)
   all_goals try(exfalso;rw[hqe]at h;have:=of_decide_eq_false h;omega)
   conv=>whnf
   rw[hitl]
   repeat' ((conv=>whnf);first|(with_reducible first|apply Wx|apply W6)|refine cg gX ?_|refine cg gS ?_|apply oi|(apply fi<;>intro h)|refine cl gH ?_|refine⟨L.g.items.length,rfl,hnl,?_⟩|refine⟨_,(itR_get hitx),?_⟩|refine⟨_,rfl,?_⟩|((with_reducible show _=_);rfl))
   all_goals try((with_reducible refine Obl.mk ?_);exact KP)
   all_goals try exact⟨congrArg (Tr.int .i64) hqb.symm⟩
   all_goals try exact⟨congrArg itR hfr.symm⟩
   all_goals try exact⟨hmk⟩
   all_goals try exact KK
   all_goals(conv=>whnf)
   all_goals(refine⟨⟨((k+1,stepB C x k ln A,d),(zs,os,mpPut fs (kI k) (L.g.items.length:Int))),hN,by dsimp only;rw[b2,b1];rw[a5,a4];exact hM2,fun h=>by have:=hkne (by omega);dsimp only at h;omega,hsg,hBo⟩,?_,by dsimp only;omega⟩)
   repeat' ((conv=>whnf);first|(with_reducible first|apply Wx|apply W6)|apply oi|(apply fi<;>intro h)|refine⟨_,rfl,?_⟩|((with_reducible show _=_);rfl))
   all_goals try((with_reducible refine Obl.mk ?_);exact KP)
   all_goals try exact⟨KW⟩
   all_goals(refine⟨?_⟩;dsimp only;simp only[hB,a1,a4,a5,a6];try rfl)
  ·
   rw[if_neg (by omega),if_neg (by omega),if_neg (by omega),if_neg (by omega),if_pos h6]at hA
   have hx1:=hexp (.inr (.inr (.inr (.inr h6))))
   have gX:=hX hx1 (by omega)
   obtain⟨hG1,hG2,it,hit1,hit2⟩:=hGr hx1 (by omega)
   have hnp:L.g.items.length∉pd:=fun h=>by have:=hpdn _ h;omega
   have hmk:=clr_mark (pd:=pd) hit1 hit2 hnp
   have hitx:(clr (L.g.items.length::pd) g1.items)[L.g.items.length]?=some (offI it):=by rw[clr_get,hit1];simp[clrAt]
   have hnl:L.g.items.length < (itR (clr (L.g.items.length::pd) g1.items)).length:=by rw[itR_clr_len];exact lt_of_get hit1
   have hhe:hasExpr ln.fKind=true:=hasExpr_iff.2 (.inr (.inr (.inr (.inr h6))))
   rw[hhe]at gH
   have gS:=g_impl_leave C hC pd g1 (d+1) ins q L.lv x hq k false (by unfold roomy;omega) hch (fun h=>by rw[hG2]at h;cases h) (by omega) (by omega) (L.heads.set k L.g.items.length) L.pos
   rw[hA,if_neg (by simp),Int.add_sub_cancel]at gS
   have a4:A.heads=L.heads.set k L.g.items.length:=by rw[←hA];unfold leaveG;(repeat' split) <;> rfl
   have a5:A.pos=L.pos:=by rw[←hA];unfold leaveG;(repeat' split) <;> rfl
   have hM2:=hM.plain (by omega) (L.g.items.length:Int) (L.g.items.length:Int)
   have hB:stepB C x k ln A=A:=by unfold stepB;rw[if_neg (by omega)]
   repeat' ((conv=>whnf);first|(with_reducible apply W1;fail_if_success (with_reducible show Wo _ _ _ _ (Code.region 10 _ _) _ _))|(with_reducible first|apply W2|apply W3|apply W4|apply W5|apply W6|apply W7|apply W8|apply W9)|apply reg_inl|apply oi|(apply fi<;>intro h)|refine⟨k,ln.tr,rfl,map_get hl,?_⟩|refine⟨_,rfl,?_⟩|((with_reducible show _=_);rfl))
   all_goals try((with_reducible refine Obl.mk ?_);exact KP)
   all_goals try(exfalso;rw[hqe]at h;have:=of_decide_eq_false h;omega)
   conv=>whnf
   rw[hitl]
   repeat' ((conv=>whnf);first|(with_reducible first|apply Wx|apply W6)|refine cg gX ?_|refine cg gS ?_|apply oi|(apply fi<;>intro h)|refine cl gH ?_|refine⟨L.g.items.length,rfl,hnl,?_⟩|refine⟨_,(itR_get hitx),?_⟩|refine⟨_,rfl,?_⟩|((with_reducible show _=_);rfl))
   all_goals try((with_reducible refine Obl.mk ?_);exact KP)
   all_goals try exact⟨congrArg (Tr.int .i64) hqb.symm⟩
   all_goals try exact⟨congrArg itR hfr.symm⟩
   all_goals try exact⟨hmk⟩
   all_goals try exact KK
   all_goals(conv=>whnf)
   all_goals(refine⟨⟨((k+1,stepB C x k ln A,d),(zs,os,mpPut fs (kI k) (L.g.items.length:Int))),hN,by dsimp only;rw[b2,b1];rw[a5,a4];exact hM2,fun h=>by have:=hkne (by omega);dsimp only at h;omega,hsg,hBo⟩,?_,by dsimp only;omega⟩)
   repeat' ((conv=>whnf);first|(with_reducible first|apply Wx|apply W6)|apply oi|(apply fi<;>intro h)|refine⟨_,rfl,?_⟩|((with_reducible show _=_);rfl))
   all_goals try((with_reducible refine Obl.mk ?_);exact KP)
   all_goals try exact⟨KW⟩
   all_goals(refine⟨?_⟩;dsimp only;simp only[hB,a4,a5];try rfl)
  ·
   rw[if_neg (by omega),if_neg (by omega),if_neg (by omega),if_neg (by omega),if_neg (by omega)]at hA
   have hx1:=hexp (by omega)
   have gX:=hX hx1 (by omega)
   obtain⟨hG1,hG2,it,hit1,hit2⟩:=hGr hx1 (by omega)
   have hnp:L.g.items.length∉pd:=fun h=>by have:=hpdn _ h;omega
   have hmk:=clr_mark (pd:=pd) hit1 hit2 hnp
   have hitx:(clr (L.g.items.length::pd) g1.items)[L.g.items.length]?=some (offI it):=by rw[clr_get,hit1];simp[clrAt]
   have hnl:L.g.items.length < (itR (clr (L.g.items.length::pd) g1.items)).length:=by rw[itR_clr_len];exact lt_of_get hit1
   have hhe:hasExpr ln.fKind=true:=hasExpr_iff.2 (by omega)
   rw[hhe]at gH
   have gS:=g_impl_add C pd g1 (d+1) ins q L.lv k 11 0 (-1) (by unfold roomy;omega) hch' (fun h=>by rw[hG2]at h;cases h) (by omega) (by omega)
   rw[hq.chain,show d+1+-1=d by omega]at gS
   have a1:A.g=emitG C g1 (d+1) 11 0 k x.chain:=by rw[←hA]
   have hitg:=itR_clr_len pd g1.items
   have a4:A.heads=L.heads.set k L.g.items.length:=by rw[←hA]
   have a5:A.pos=L.pos.set k g1.items.length:=by rw[←hA]
   have a6:A.lv=L.lv:=by rw[←hA]
   have hM2:=hM.opens (by omega) hpk hhk (g1.items.length:Int) (L.g.items.length:Int)
   have hB:stepB C x k ln A=A:=by unfold stepB;rw[if_neg (by omega)]
   repeat' ((conv=>whnf);first|(with_reducible apply W1;fail_if_success (with_reducible show Wo _ _ _ _ (Code.region 10 _ _) _ _))|(with_reducible first|apply W2|apply W3|apply W4|apply W5|apply W6|apply W7|apply W8|apply W9)|apply reg_inl|apply oi|(apply fi<;>intro h)|refine⟨k,ln.tr,rfl,map_get hl,?_⟩|refine⟨_,rfl,?_⟩|((with_reducible show _=_);rfl))
   all_goals try((with_reducible refine Obl.mk ?_);exact KP)
   all_goals try(exfalso;rw[hqe]at h;have:=of_decide_eq_false h;omega)
   conv=>whnf
   rw[hitl]
   repeat' ((conv=>whnf);first|(with_reducible first|apply Wx|apply W6)|refine cg gX ?_|refine cg gS ?_|apply oi|(apply fi<;>intro h)|refine cl gH ?_|refine⟨L.g.items.length,rfl,hnl,?_⟩|refine⟨_,(itR_get hitx),?_⟩|refine⟨_,rfl,?_⟩|((with_reducible show _=_);rfl))
   all_goals try((with_reducible refine Obl.mk ?_);exact KP)
   all_goals try exact⟨congrArg (Tr.int .i64) hqb.symm⟩
   all_goals try exact⟨congrArg itR hfr.symm⟩
   all_goals try exact⟨hmk⟩
   all_goals try exact KK
   all_goals(conv=>whnf)
   all_goals(refine⟨⟨((k+1,stepB C x k ln A,d),(mpPut zs (kI k) (g1.items.length:Int),os,mpPut fs (kI k) (L.g.items.length:Int))),hN,by dsimp only;rw[b2,b1];rw[a5,a4];exact hM2,fun h=>by have:=hkne (by omega);dsimp only at h;omega,hsg,hBo⟩,?_,by dsimp only;omega⟩)
   repeat' ((conv=>whnf);first|(with_reducible first|apply Wx|apply W6)|apply oi|(apply fi<;>intro h)|refine⟨_,rfl,?_⟩|((with_reducible show _=_);rfl))
   all_goals try((with_reducible refine Obl.mk ?_);exact KP)
   all_goals try exact⟨KW⟩
   all_goals(refine⟨?_⟩;dsimp only;simp only[hB,a1,a4,a5,a6,List.length_set,itR_clr_len];try rfl)
 ·have hk1:k=e+1:=by have:=hI.hi;omega
  subst hk1
  have hf:=hI.fin
  rw[Nat.sub_self,runL]at hf
  subst hf
  rw[hdep rfl]
  repeat' ((conv=>whnf);first|(with_reducible first|apply Wx|apply W6)|apply oi|(apply fi<;>intro h)|refine⟨_,rfl,?_⟩|((with_reducible show _=_);rfl))
  all_goals try((with_reducible refine Obl.mk ?_);exact KP)
  all_goals try(exfalso;rw[hqe]at h;have:=of_decide_eq_true h;omega)
end Go.Proofs.YtogdbgmiigfmfaaGreat
namespace Go.Proofs.YtogdbgmiigfmfaaGreat
open Go.Sim
set_option maxRecDepth 100000
set_option maxHeartbeats 4000000
theorem ilines_all {C:Cx}(hC:CxOk C):∀lev,IRepC C lev∧ILinesC C lev:=by
 have hL:∀lev,IRepC C lev→ILinesC C lev:=fun lev hR=>ILinesC_of hC fun e x q ins pd lv k p b ln s d h1 h2 h3 h4 h5=>IExprC_of hC hR e.toks.length e (Nat.le_refl _) x q ins pd lv k p b ln s d h1 h2 h3 h4 h5
 intro lev
 induction lev with
 | zero=>
  have hR:IRepC C 0:=by
   intro x q ins pd lv k g b s d hk hg hrb hr
   obtain⟨r1,_⟩:=replB_spec hrb
   have h1:=hr.rm.depth
   have h2:=hr.sc.chain
   omega
  exact⟨hR,hL 0 hR⟩
 | succ n ih=>
  have hR:=IRepC_of hC ih.2
  exact⟨hR,hL _ hR⟩
abbrev bV (b:TBuild):AV:= .r (.agg [.t (.int .i64 b.fFrames),.t (.int .i64 b.fInline),.t (.bool b.fFold),.t (.bool b.fSplit)])
theorem g_impl_compile (C:Cx)(hC:CxOk C)(g:Nat)(hg:isFun C g)(e5:C.args=argsN C.p g):
  SpecG Tryz.prog 53 [vP C.p,tI .i64 (g:Int),bV C.b,tB C.framed,tI .i64 C.words] [] (.tup [.c (.own (1,0,0)),.c (.t (.int .i64 (compG C g).most))]) [((1,0,0),.dar 7 (deepRows ((compG C g).items.map TItem.tr)) none)]:=by
 refine specG_of_Wo hΓ hmix Tryz.func53 rfl (by decide) rfl rfl ?_
 obtain⟨y,hy,hy0⟩:=hg
 have h60:=hC.len
 have hw:=hC.words
 have hin:=hC.inl
 have hA:argsN C.p g=y.fArgs.length:=by rw[argsN,hy]
 have h4:=(hC.line g y hy).2.2.1
 have hloc:=isFun_locals hC ⟨y,hy,hy0⟩
 have hyl:(y.fArgs.map strRow).length=y.fArgs.length:=by simp
 have hll:((localsOf C.p (g:Int)).map strRow).length=(localsOf C.p (g:Int)).length:=by simp
 have hS:ScOk C (outerSc C g) [g]:=⟨⟨y,hy,hy0⟩,rfl,⟨Int.le_refl _,by simp[outerSc]⟩,rfl,by simp[outerSc],fun _=>e5,rfl⟩
 obtain⟨e,he1,he2,he3,he4,_⟩:=hS.endE hC
 have gL:=s_impl_LocalsOf C.p (g:Int) (by omega) (fun z hz=>smallRs_map hC.small hz)
 have gE:=s_impl_EndOf C.p (g:Int) (by omega)
 have hee:endOf C.p (g:Int)=(e:Int):=by rw[endOf_at];exact endI_some he1
 rw[hee]at gE
 have hlev:((C.b.fInline.toNat:Nat):Int)=C.b.fInline:=Int.toNat_of_nonneg hin.1
 have h3:=tokC_3 (n:=C.b.fInline.toNat) (by omega)
 have gLs:=(ilines_all hC C.b.fInline.toNat).2 (outerSc C g) ⟨(g:Int),(e:Int),localsOf C.p (g:Int),C.args,0,[],C.words⟩ [g] [] (headG C g) C.words hS ⟨rfl,rfl,rfl,fun _=>rfl,hS.out,fun _=>rfl⟩ rfl (by rw[he4]) rfl rfl (fun i hi=>by cases hi) (by
  rw[he4]
  have:=Nat.mul_le_mul (show e - (outerSc C g).f≤60 by omega) (show 20 * tokC C.b.fInline.toNat+3≤20 * 8679837+3 by omega)
  simp only[headG,emitG,List.length_append,List.length_nil,List.length_cons]
  omega) (by simpa using hlev) hw.1 (by omega)
 rw[if_pos (by rfl)]at gLs
 have g1:=fun code=>g_impl_add C [] ⟨[],(localsOf C.p (g:Int)).length - C.args,false⟩ 0 [g] ⟨(g:Int),(e:Int),localsOf C.p (g:Int),C.args,0,[],C.words⟩ [] g code C.words C.words (by unfold roomy;simp) (by simp) (fun h=>by cases h) (by omega) (by omega)
 have hwm:IntKind.i64.wrap ((((localsOf C.p (g:Int)).map strRow).length:Int) - C.args)=((localsOf C.p (g:Int)).length:Int) - C.args:=by rw[hll,IntWalk.i64_in _ (by omega)]
 repeat' ((conv=>whnf);first|(with_reducible apply W1;fail_if_success (with_reducible show Wo _ _ _ _ (Code.region 3 _ _) _ _))|(with_reducible first|apply W2|apply W3|apply W4|apply W5|apply W6|apply W7|apply W8|apply W9)|apply reg_inl|apply oi|(apply fi<;>intro h)|refine cl gE ?_|refine cl gL ?_|refine⟨g,y.tr,rfl,map_get hy,?_⟩|refine⟨_,rfl,?_⟩|((with_reducible show _=_);rfl))
 all_goals try((with_reducible refine Obl.mk ?_);exact KP)
 conv=>whnf
 refine view2_rule ⟨[(0,vP C.p),(1,tI .i64 (g:Int)),(3,tB C.framed),(4,tI .i64 C.words),(12,.r (.c (.ptr (22,0,0) 0))),(13,.r (.c (.ptr (38,0,0) 0)))],
  [(
   (22,0,0),some (.box [.t (.lst 4 (C.p.map TLine.tr)),.t (.int .i64 C.b.fFrames),.t (.int .i64 C.b.fInline),.t (.bool C.b.fFold),.t (.bool C.b.fSplit),.t (.bool C.framed),.t (.int .i64 C.words),.t (.int .i64 0),.nils 0,.t (.int .i64 0),.own (20,0,0)])),((20,0,0),some (.arr true 1 [intRow (g:Int)])),
   ((38,0,0),some (.box [.t (.int .i64 (g:Int)),.t (.int .i64 (e:Int)),.t (.lst 1 ((localsOf C.p (g:Int)).map strRow)),.t (.int .i64 C.args),.t (.int .i64 0),.t (.lst 1 []),.t (.int .i64 C.words),.nils 0]))],_⟩ ?_ ?_ rfl ?_
 ·exact⟨.inl rfl,.inl rfl,.inl rfl,.inl rfl,.inl rfl,.inl rfl,trivial⟩
 ·refine⟨.inr (.inl rfl),.inr (.inl rfl),.inr (.inr (.inl ⟨_,_,rfl,rfl,.inl rfl,.inl rfl,.inr (.inr ⟨_,rfl,rfl,?_⟩),.inl ?_,.inl rfl,.inr (.inr ⟨_,rfl,⟨_,rfl⟩,?_⟩),.inl rfl,.inl rfl,trivial⟩)),trivial⟩
  ·intro q hq;simp only[AC.ids,List.mem_cons,List.not_mem_nil,or_false]at hq;subst hq;rfl
  ·rw[e5,hyl,hA]
  ·intro q hq;simp[AC.ids]at hq
 refine leq_rule ⟨[(0,vP C.p),(1,tI .i64 (g:Int)),(3,tB C.framed),(4,tI .i64 C.words),(12,.r (.c (.ptr (22,0,0) 0))),(13,.r (.c (.ptr (38,0,0) 0)))],
  [((22,0,0),some (cmpB C ⟨[],0,false⟩ 0 (22,0,1) (22,0,2))),((22,0,1),some (.dar 7 (itR (clr [] [])) none)),((22,0,2),some (.arr false 1 (insR [g]))),((38,0,0),some (ibB ⟨(g:Int),(e:Int),localsOf C.p (g:Int),C.args,0,[],C.words⟩ (38,0,1))),((38,0,1),some (.arr false 1 []))],[38,22,0]⟩ ?_ ?_
 ·skip
  repeat' ((conv=>whnf);first|(with_reducible first|apply Wx|apply W6)|apply oi|(apply fi<;>intro h)|refine⟨_,rfl,?_⟩|((with_reducible show _=_);rfl))
  all_goals try((with_reducible refine Obl.mk ?_);exact KP)
  all_goals try exact⟨by rw[clr_nil]⟩
 cases hfm:C.framed with
 | true=>
  have hh:headG C g=emitG C ⟨[],(localsOf C.p (g:Int)).length - C.args,false⟩ 0 13 C.words g []:=by rw[headG,if_pos hfm]
  rw[hh]at gLs
  have g2:=g1 13
  rw[Int.zero_add]at g2
  have hcr:compG C g=(linesG C (repN C C.b.fInline.toNat) (outerSc C g) [g] C.words (emitG C ⟨[],(localsOf C.p (g:Int)).length - C.args,false⟩ 0 13 C.words g [])).1:=by rw[compG,hh]
  rw[hcr]
  repeat' ((conv=>whnf);first|(with_reducible first|apply Wx|apply W6)|refine cg g2 ?_|refine cg gLs ?_|apply oi|(apply fi<;>intro h)|refine⟨_,rfl,?_⟩|((with_reducible show _=_);rfl))
  all_goals try((with_reducible refine Obl.mk ?_);exact KP)
  all_goals try(exfalso;rw[hfm]at h;cases h;done)
  all_goals try exact⟨congrArg (Tr.int .i64) hwm.symm⟩
  all_goals try exact⟨by rw[clr_nil]⟩
 | false=>
  have hh:headG C g=emitG C ⟨[],(localsOf C.p (g:Int)).length - C.args,false⟩ 0 15 C.words g []:=by rw[headG,if_neg (by simp[hfm])]
  rw[hh]at gLs
  have g2:=g1 15
  rw[Int.zero_add]at g2
  have hcr:compG C g=(linesG C (repN C C.b.fInline.toNat) (outerSc C g) [g] C.words (emitG C ⟨[],(localsOf C.p (g:Int)).length - C.args,false⟩ 0 15 C.words g [])).1:=by rw[compG,hh]
  rw[hcr]
  repeat' ((conv=>whnf);first|(with_reducible first|apply Wx|apply W6)|refine cg g2 ?_|refine cg gLs ?_|apply oi|(apply fi<;>intro h)|refine⟨_,rfl,?_⟩|((with_reducible show _=_);rfl))
  all_goals try((with_reducible refine Obl.mk ?_);exact KP)
  all_goals try(exfalso;rw[hfm]at h;cases h;done)
  all_goals try exact⟨congrArg (Tr.int .i64) hwm.symm⟩
  all_goals try exact⟨by rw[clr_nil]⟩
theorem g_impl_CompileFunction (p:List TLine)(f:Int)(b:TBuild)(hs:smallT 1048576 (.lst 4 (p.map TLine.tr))):SpecG Tryz.prog 12 [vP p,tI .i64 f,bV b] [] (.r (.c (.own (1,0,0)))) [((1,0,0),.dar 7 (deepRows ((compileF p f b).map TItem.tr)) none)]:=by
 refine specG_of_Wo hΓ hmix Tryz.func12 rfl (by decide) rfl rfl ?_
 have hP:=s_impl_ProgramOk p hs
 have hB:=s_impl_BuildOk b
 have hl:=small_nat hs
 have gF:=s_impl_FunctionLines p (by omega)
 have hfl:((funs p).map fun n:Nat=>intRow n).length=(funs p).length:=by simp
 have hfl2:=funsF_len p 0
 change(funs p).length≤_ at hfl2
 have hww:IntKind.i64.wrap ((((funs p).map fun n:Nat=>intRow n).length:Int) - 1)=((funs p).length:Int) - 1:=by rw[hfl,IntWalk.i64_in _ (by omega)]
 have gb:=s_impl_between f 0 (IntKind.i64.wrap ((((funs p).map fun n:Nat=>intRow n).length:Int) - 1))
 have hbw:within f 0 (IntKind.i64.wrap ((((funs p).map fun n:Nat=>intRow n).length:Int) - 1))=decide (0≤f∧f < (funs p).length):=by
  rw[hww,within];by_cases h:0≤f∧f < (funs p).length <;> simp[h] <;> omega
 rw[hbw]at gb
 by_cases hc:programOk p=true∧buildOk b=true∧0≤f∧f < (funs p).length
 ·have hcf:compileF p f b=compiled p f.toNat b:=by rw[compileF,if_pos hc]
  rw[hcf]
  obtain⟨h1,h2,h3,h4⟩:=hc
  rw[show decide (0≤f∧f < (funs p).length)=true from decide_eq_true ⟨h3,h4⟩]at gb
  obtain⟨f,rfl⟩:=Int.eq_ofNat_of_zero_le h3
  rw[Int.toNat_natCast]
  rw[h1]at hP
  rw[h2]at hB
  have hb:0≤b.fInline∧b.fInline≤3:=by
   unfold buildOk at h2
   simp only[Bool.and_eq_true,within_iff]at h2
   exact h2.2
  obtain⟨g,hg⟩:=get_of_lt (l:=funs p) (k:=f) (by omega)
  have hpg:=(PgOk_of hs h1).foldIf b
  have hg':(funs (foldIf p b))[f]?=some g:=by rw[foldIf_funs];exact hg
  obtain⟨hgl,y,hy,hy0⟩:=funs_lt (List.mem_of_getElem? hg')
  have h4':=(hpg.line g y hy).2.2.1
  have ha:(0:Int)≤(argsN (foldIf p b) g:Int)∧(argsN (foldIf p b) g:Int)≤4:=by rw[argsN,hy];dsimp only;omega
  have hC0:CxOk (ctx (foldIf p b) f g b 0):=hpg.cx ha (by omega) hb
  have hm:=compG_most hC0 ⟨y,hy,hy0⟩ rfl
  have hC1:CxOk (ctx (foldIf p b) f g b (compG (ctx (foldIf p b) f g b 0) g).most):=hpg.cx ha hm hb
  have g0:=g_impl_compile _ hC0 g ⟨y,hy,hy0⟩ rfl
  have g1:=g_impl_compile _ hC1 g ⟨y,hy,hy0⟩ rfl
  have hcd:compiled p f b=(compG (ctx (foldIf p b) f g b (compG (ctx (foldIf p b) f g b 0) g).most) g).items:=by rw[compiled,hg']
  rw[hcd]
  generalize compG (ctx (foldIf p b) f g b 0) g=R0 at *
  generalize compG (ctx (foldIf p b) f g b R0.most) g=R1 at *
  have hfo:=s_impl_FoldProgram p hs
  rw[show foldProg p=p.map foldLine by rw[foldProg,if_pos h1]]at hfo
  have gF2:=s_impl_FunctionLines (foldIf p b) (Nat.le_trans hpg.len (by omega))
  rw[foldIf_funs]at gF2
  have hfr:f < ((funs p).map fun n:Nat=>intRow n).length:=by omega
  have hfg:((funs p).map fun n:Nat=>intRow n)[f]?=some (intRow (g:Int)):=by rw[List.getElem?_map,hg];rfl
  obtain⟨fr,inl,fold,sp⟩:=b
  cases fold with
  | true=>
   have e:foldIf p ⟨fr,inl,true,sp⟩=p.map foldLine:=rfl
   simp only[ctx,e]at g0 g1 gF2
   repeat' ((conv=>whnf);first|(with_reducible first|apply Wx|apply W6)|apply oi|(apply fi<;>intro h)|refine cl hP ?_|refine cl hB ?_|refine cl gF ?_|refine cl gb ?_|refine cl hfo ?_|refine cl gF2 ?_|refine⟨f,rfl,hfr,?_⟩|refine⟨_,hfg,?_⟩|refine⟨_,rfl,?_⟩|((with_reducible show _=_);rfl))
   all_goals try((with_reducible refine Obl.mk ?_);exact KP)
   all_goals try exact⟨by omega⟩
   all_goals try exact⟨rfl⟩
   conv=>whnf
   refine cg (g0) ?_
   repeat' ((conv=>whnf);first|(with_reducible first|apply Wx|apply W6)|refine cg g1 ?_|apply oi|(apply fi<;>intro h)|refine⟨_,rfl,?_⟩|((with_reducible show _=_);rfl))
   all_goals try((with_reducible refine Obl.mk ?_);exact KP)
   all_goals try exact⟨allD_deep _⟩
   all_goals try exact⟨by omega⟩
   all_goals try exact⟨rfl⟩
   all_goals try exact KX
  | false=>
   have e:foldIf p ⟨fr,inl,false,sp⟩=p:=rfl
   simp only[ctx,e]at g0 g1 gF2
   repeat' ((conv=>whnf);first|(with_reducible first|apply Wx|apply W6)|apply oi|(apply fi<;>intro h)|refine cl hP ?_|refine cl hB ?_|refine cl gF ?_|refine cl gb ?_|refine⟨f,rfl,hfr,?_⟩|refine⟨_,hfg,?_⟩|refine⟨_,rfl,?_⟩|((with_reducible show _=_);rfl))
   all_goals try((with_reducible refine Obl.mk ?_);exact KP)
   all_goals try exact⟨by omega⟩
   all_goals try exact⟨rfl⟩
   conv=>whnf
   refine cg (g0) ?_
   repeat' ((conv=>whnf);first|(with_reducible first|apply Wx|apply W6)|refine cg g1 ?_|apply oi|(apply fi<;>intro h)|refine⟨_,rfl,?_⟩|((with_reducible show _=_);rfl))
   all_goals try((with_reducible refine Obl.mk ?_);exact KP)
   all_goals try exact⟨allD_deep _⟩
   all_goals try exact⟨by omega⟩
   all_goals try exact⟨rfl⟩
   all_goals try exact KX
 ·have hcf:compileF p f b=[]:=by rw[compileF,if_neg hc]
  rw[hcf]
  cases h1:programOk p with
  | false=>
   rw[h1]at hP
   repeat' ((conv=>whnf);first|(with_reducible first|apply Wx|apply W6)|apply oi|(apply fi<;>intro h)|refine cl hP ?_|refine cl hB ?_|refine cl gF ?_|refine cl gb ?_|refine⟨_,rfl,?_⟩|((with_reducible show _=_);rfl))
   all_goals try((with_reducible refine Obl.mk ?_);exact KP)
   all_goals try exact KX
  | true=>
   rw[h1]at hP
   cases h2:buildOk b with
   | false=>
    rw[h2]at hB
    repeat' ((conv=>whnf);first|(with_reducible first|apply Wx|apply W6)|apply oi|(apply fi<;>intro h)|refine cl hP ?_|refine cl hB ?_|refine cl gF ?_|refine cl gb ?_|refine⟨_,rfl,?_⟩|((with_reducible show _=_);rfl))
    all_goals try((with_reducible refine Obl.mk ?_);exact KP)
    all_goals try exact KX
   | true=>
    rw[h2]at hB
    have hc':¬(0≤f∧f < (funs p).length):=fun hh=>hc ⟨h1,h2,hh⟩
    rw[show decide (0≤f∧f < (funs p).length)=false from decide_eq_false hc']at gb
    repeat' ((conv=>whnf);first|(with_reducible first|apply Wx|apply W6)|apply oi|(apply fi<;>intro h)|refine cl hP ?_|refine cl hB ?_|refine cl gF ?_|refine cl gb ?_|refine⟨_,rfl,?_⟩|((with_reducible show _=_);rfl))
    all_goals try((with_reducible refine Obl.mk ?_);exact KP)
    all_goals try exact KX
end Go.Proofs.YtogdbgmiigfmfaaGreat
namespace Go.Proofs.YtogdbgmiigfmfaaGreat
open Go.Sim
set_option maxRecDepth 100000
set_option maxHeartbeats 4000000
def chOk (l:List TItem):Prop:=∀it∈l,it.fChain.length≤4
structure Cap (M t:Nat) (s s':Gs):Prop where
 le:s'.items.length≤max s.items.length M+t
 ch:chOk s.items→chOk s'.items
theorem Cap.refl {M:Nat}(s:Gs):Cap M 0 s s:=⟨by omega,id⟩
theorem Cap.trans {M n m:Nat}{a b c:Gs}(h:Cap M n a b)(h':Cap M m b c):Cap M (n+m) a c:=⟨by have:=h.le;have:=h'.le;omega,fun x=>h'.ch (h.ch x)⟩
theorem Cap.mono {M n m:Nat}{a b:Gs}(h:Cap M n a b)(hn:n≤m):Cap M m a b:=⟨by have:=h.le;omega,h.ch⟩
theorem emitG_cap {M:Nat}(C:Cx)(s:Gs)(d code arg line:Int){chain:List Int}(hc:chain.length≤4):Cap M 1 s (emitG C s d code arg line chain):=by
 refine⟨by simp only[emitG,List.length_append,List.length_cons,List.length_nil];omega,fun h it hit=>?_⟩
 simp only[emitG,List.mem_append,List.mem_cons,List.not_mem_nil,or_false]at hit
 rcases hit with hit|rfl
 ·exact h it hit
 ·exact hc
theorem setArg_ch {l:List TItem}(h:chOk l)(j v:Int):chOk (setArg l j v):=by
 unfold setArg
 split
 ·split
  ·rename_i it hi
   intro z hz
   rcases List.mem_or_eq_of_mem_set hz with hz|rfl
   ·exact h z hz
   ·exact h it (List.mem_of_getElem? hi)
  ·exact h
 ·exact h
theorem patchL_ch (v:Int):∀(js:List Int) {l:List TItem},chOk l→chOk (patchL l v js)
 | [],_,h=>h
 | j::js,_,h=>by rw[patchL];exact patchL_ch v js (setArg_ch h j v)
theorem Cap.set {M n:Nat}{a b:Gs}{l:List TItem}(h:Cap M n a b)(hl:l.length=b.items.length)(hc:chOk b.items→chOk l):Cap M n a ⟨l,b.most,b.start⟩:=⟨by have:=h.le;simp only[hl];omega,fun x=>hc (h.ch x)⟩
section
variable {C:Cx} {x:Sc} {ins:List Nat} {rep:Sc→List Nat→Nat→Nat→Int→Gs→Gs} {line:Nat} {M:Nat}
theorem storesG_cap (y:Sc){chain:List Int}(hc:chain.length≤4)(line:Int):∀(n:Nat) (d:Int) (s:Gs),Cap M n s (storesG C y chain line n d s)
 | 0,d,s=>Cap.refl s
 | n+1,d,s=>by
  rw[storesG]
  exact((emitG_cap C s d _ _ _ hc).trans (storesG_cap y hc line n (d - 1) _)).mono (by omega)
theorem zerosG_cap (y:Sc){chain:List Int}(hc:chain.length≤4)(line d:Int):∀(n i:Nat) (s:Gs),Cap M (2 * n) s (zerosG C y chain line d n i s)
 | 0,i,s=>Cap.refl s
 | n+1,i,s=>by
  rw[zerosG]
  exact(((emitG_cap C s d _ _ _ hc).trans (emitG_cap C _ (d+1) _ _ _ hc)).trans (zerosG_cap y hc line d n (i+1) _)).mono (by omega)
theorem finG_cap (hx:x.chain.length≤4)(hrep:∀g d s,isFun C g→replB C ins g s.items.length=true→Cap M 0 s (rep x ins line g d s))(t:TTok)(d:Int)(s:Gs):Cap M 1 s (finG C rep x ins line t d s):=by
 unfold finG
 split
 ·exact emitG_cap _ _ _ _ _ _ hx
 ·split
  ·exact emitG_cap _ _ _ _ _ _ hx
  ·split
   ·split
    ·rename_i g hg
     split
     ·rename_i hr
      obtain⟨_,ln,h1,h2,_⟩:=find_some hg
      exact(hrep g d s ⟨ln,h1,h2⟩ hr).mono (by omega)
     ·exact emitG_cap _ _ _ _ _ _ hx
    ·exact(Cap.refl s).mono (by omega)
   ·exact emitG_cap _ _ _ _ _ _ hx
mutual
theorem genE_cap (hx:x.chain.length≤4)(hrep:∀g d s,isFun C g→replB C ins g s.items.length=true→Cap M 0 s (rep x ins line g d s)):∀(e:Ex) (d:Int) (s:Gs),Cap M e.toks.length s (genE C rep x ins line e d s)
 | .node t es,d,s=>by
  rw[genE,Ex.toks,List.length_cons]
  exact((genEs_cap hx hrep es d s).trans (finG_cap hx hrep t _ _)).mono (by omega)
theorem genEs_cap (hx:x.chain.length≤4)(hrep:∀g d s,isFun C g→replB C ins g s.items.length=true→Cap M 0 s (rep x ins line g d s)):∀(es:List Ex) (d:Int) (s:Gs),Cap M (exToks es).length s (genEs C rep x ins line es d s)
 | [],d,s=>by rw[genEs,exToks];exact(Cap.refl s).mono (by omega)
 | a::es,d,s=>by
  rw[genEs,exToks,List.length_append]
  exact(genE_cap hx hrep a d s).trans (genEs_cap hx hrep es (d+1) _)
end
theorem preG_cap (hC:CxOk C)(hx:x.chain.length≤4)(line:Nat){g:Nat}(hg:isFun C g)(d:Int)(s:Gs):Cap M 16 s (preG C x line g d s):=by
 obtain⟨h1,h2⟩:=isFun_locals hC hg
 have h0:Cap M 0 s ⟨s.items,max s.most (topOf C x+(localsOf C.p (g:Int)).length),s.start⟩:=⟨by dsimp only;omega,id⟩
 unfold preG
 exact((h0.trans (storesG_cap _ hx _ _ _ _)).trans (zerosG_cap _ hx _ _ _ _ _)).mono (by omega)
theorem spaceG_cap (hx:x.chain.length≤4)(line:Nat)(d:Int)(s:Gs):Cap M 1 s (spaceG C x line d s):=by
 unfold spaceG
 split
 ·exact emitG_cap _ _ _ _ _ _ hx
 ·exact(Cap.refl s).mono (by omega)
theorem leaveG_cap (hx:x.chain.length≤4)(k:Nat)(last:Bool)(d:Int)(L:Ls):Cap M 1 L.g (leaveG C x k last d L).g:=by
 unfold leaveG
 split
 ·split
  ·exact emitG_cap _ _ _ _ _ _ hx
  ·exact emitG_cap _ _ _ _ _ _ hx
 ·split
  ·exact(Cap.refl _).mono (by omega)
  ·exact emitG_cap _ _ _ _ _ _ hx
theorem genE_cap' (hx:x.chain.length≤4)(hrep:∀g d s,isFun C g→replB C ins g s.items.length=true→Cap M 0 s (rep x ins line g d s))(hC:CxOk C){k:Nat}{ln:TLine}(hk:C.p[k]?=some ln)(he:exprOk ln.fExpr=true)(d:Int)(s:Gs):Cap M 20 s (genE C rep x ins line (exL ln.fExpr) d s):=by
 have h1:=(exL_ok he).2
 have h2:=(hC.line _ _ hk).2.2.2.1
 rw[h1]at h2
 exact(genE_cap hx hrep _ d s).mono h2
theorem stepA_cap (hx:x.chain.length≤4)(hrep:∀line g d s,isFun C g→replB C ins g s.items.length=true→Cap M 0 s (rep x ins line g d s))(hC:CxOk C){k:Nat}{ln:TLine}(hk:C.p[k]?=some ln)(h0:ln.fKind≠0)(base:Int)(L:Ls):Cap M 22 L.g (stepA C rep x ins base k ln L).g:=by
 unfold stepA
 split
 ·exact((emitG_cap C L.g base 10 0 k hx).set (setArg_len' _ _ _) fun h=>setArg_ch h _ _).mono (by omega)
 ·split
  ·split
   ·refine Cap.mono (n:=1+1) ?_ (by omega)
    exact(emitG_cap C L.g base 0 0 k hx).trans (leaveG_cap hx k true (base+1) {L with g:=emitG C L.g base 0 0 k x.chain})
   ·split
    ·exact(emitG_cap _ _ _ _ _ _ hx).mono (by omega)
    ·exact(Cap.refl _).mono (by omega)
  ·rename_i h4 h7
   have hl:=hC.line _ _ hk
   have h20:Cap M 20 L.g (genE C rep x ins k (exL ln.fExpr) base ⟨L.g.items,L.g.most,true⟩):=by
    have:=genE_cap' hx (fun g d s=>hrep k g d s) hC hk (hl.2.2.2.2 (by omega)) base ⟨L.g.items,L.g.most,true⟩
    exact⟨this.le,this.ch⟩
   split
   ·exact(h20.trans (emitG_cap _ _ _ _ _ _ hx)).mono (by omega)
   ·split
    ·exact(h20.trans (emitG_cap _ _ _ _ _ _ hx)).mono (by omega)
    ·split
     ·refine Cap.mono (n:=20+1) ?_ (by omega)
      exact h20.trans (leaveG_cap hx k false (base+1) {L with g:=genE C rep x ins k (exL ln.fExpr) base ⟨L.g.items,L.g.most,true⟩,heads:=L.heads.set k L.g.items.length})
     ·exact(h20.trans (emitG_cap _ _ _ _ _ _ hx)).mono (by omega)
theorem stepB_cap (k:Nat)(ln:TLine)(L:Ls):Cap M 0 L.g (stepB C x k ln L).g:=by
 unfold stepB
 split
 ·exact(Cap.refl _).set (setArg_len' _ _ _) fun h=>setArg_ch h _ _
 ·exact Cap.refl _
theorem runL_cap (hx:x.chain.length≤4)(hrep:∀line g d s,isFun C g→replB C ins g s.items.length=true→Cap M 0 s (rep x ins line g d s))(hC:CxOk C)(base:Int):∀(n k:Nat) (L:Ls),(∀i y,k≤i→i < k+n→C.p[i]?=some y→y.fKind≠0)→Cap M (n * 22) L.g (runL C rep x ins base n k L).g
 | 0,k,L,_=>(Cap.refl _).mono (by omega)
 | n+1,k,L,h=>by
  rw[runL]
  split
  ·rename_i ln hk
   exact(((stepA_cap hx hrep hC hk (h k ln (Nat.le_refl _) (by omega) hk) base L).trans (stepB_cap k ln _)).trans (runL_cap hx hrep hC base n (k+1) _ fun i y h1 h2 hy=>h i y (by omega) (by omega) hy)).mono (by omega)
  ·exact(Cap.refl _).mono (by omega)
theorem linesG_cap (hc:x.chain.length≤4)(hrep:∀line g d s,isFun C g→replB C ins g s.items.length=true→Cap M 0 s (rep x ins line g d s))(hC:CxOk C)(hx:ScOk C x ins)(base:Int)(s:Gs):Cap M ((endL' C.p x.f - x.f) * 22) s (linesG C rep x ins base s).1:=by
 unfold linesG
 obtain⟨ln,h1,h2⟩:=hx.fn
 obtain⟨e,h3,_,_,h4⟩:=hC.fn _ _ h1 h2
 obtain⟨e',g3,_,_,g5,_⟩:=hx.endE hC
 rw[h3]at g3
 injection g3 with g3
 subst g3
 rw[g5]
 refine runL_cap hc hrep hC base (e - x.f) (x.f+1) (startL C s) fun i y k1 k2 hy=>?_
 by_cases hie:i=e
 ·subst hie
  obtain⟨z,hz,h7⟩:=endAt_kind h3
  rw[hy]at hz
  injection hz with hz
  subst hz
  omega
 ·exact(h4 i y (by omega) (by omega) hy).1
end
theorem repN_cap {C:Cx}(hC:CxOk C):∀(lev:Nat) {x:Sc} {ins:List Nat} (line g:Nat) (d:Int) (s:Gs),ScOk C x ins→isFun C g→replB C ins g s.items.length=true→Cap (217+198 * lev) 0 s (repN C lev x ins line g d s)
 | 0,x,ins,line,g,d,s,hx,hg,hr=>(Cap.refl s).mono (by omega)
 | lev+1,x,ins,line,g,d,s,hx,hg,hr=>by
  obtain⟨r1,r2,r3,_⟩:=replB_spec hr
  have hin:=hC.inl
  have hch:=hx.chain
  have hy:=inSc_ok hC hx line hg
  have h1:=preG_cap (M:=217) (x:=x) hC (by omega) line hg d s
  have h2:=spaceG_cap (C:=C) (M:=217) (x:=x) (by omega) line (d - argsN C.p g) (preG C x line g d s)
  have hcy:=hy.chain
  rw[List.length_append,List.length_cons,List.length_nil]at hcy
  have h3:=linesG_cap (M:=217+198 * lev) (rep:=repN C lev) (by omega) (fun line g d s hg hr=>repN_cap hC lev line g d s hy hg hr) hC hy (d - argsN C.p g) (spaceG C x line (d - argsN C.p g) (preG C x line g d s))
  obtain⟨e,e1,e2,e3,e4,_⟩:=hy.endE hC
  have e5:endOf C.p (g:Int)=(e:Int):=by rw[endOf_at];exact endI_some e1
  have e6:endL' C.p (inSc C x line g).f - (inSc C x line g).f≤9:=by rw[e4];show e - g≤9;omega
  show Cap _ 0 s (replG C (linesG C (repN C lev)) x ins line g d s)
  unfold replG
  have l1:=preG_grow hC hx (by omega) line hg d s
  have l2:=spaceG_grow (C:=C) x line (d - argsN C.p g) (preG C x line g d s)
  refine⟨?_,fun h=>patchL_ch _ _ (h3.ch (h2.ch (h1.ch h)))⟩
  simp only[patchL_len]
  have k3:=h3.le
  have k1:=l1.le
  have k2:=l2.le
  omega
theorem compG_cap {C:Cx}(hC:CxOk C){g:Nat}(hg:isFun C g)(e5:C.args=argsN C.p g):(compG C g).items.length≤2500∧chOk (compG C g).items:=by
 have hS:ScOk C (outerSc C g) [g]:=⟨hg,rfl,⟨Int.le_refl _,by simp[outerSc]⟩,rfl,by simp[outerSc],fun _=>e5,rfl⟩
 have hG:=linesG_cap (M:=217+198 * C.b.fInline.toNat) (rep:=repN C C.b.fInline.toNat) (by simp[outerSc]) (fun line g d s hg hr=>repN_cap hC _ line g d s hS hg hr) hC hS C.words (headG C g)
 obtain⟨e,e1,e2,e3,e4,_⟩:=hS.endE hC
 have hl:=hC.len
 have hin:=hC.inl
 have hh:(headG C g).items.length=1:=by simp[headG,emitG]
 have hk:=hG.le
 refine⟨?_,hG.ch fun it hit=>?_⟩
 ·show(linesG C (repN C C.b.fInline.toNat) (outerSc C g) [g] C.words (headG C g)).1.items.length≤2500
  omega
 ·simp only[headG,emitG,List.nil_append,List.mem_cons,List.not_mem_nil,or_false]at hit
  subst hit
  exact Nat.zero_le _
theorem compiled_of {p:List TLine}{f:Int}{b:TBuild}(hs:smallT 1048576 (.lst 4 (p.map TLine.tr)))(h1:programOk p=true)(h2:buildOk b=true)(h3:0≤f)(h4:f < (funs p).length):∃(g:Nat) (C:Cx),(funs p)[f.toNat]?=some g∧CxOk C∧C.p=foldIf p b∧C.b=b∧C.args=argsN C.p g∧C.framed=framedB b.fFrames f∧isFun C g∧compileF p f b=(compG C g).items∧C.words=(compG (ctx (foldIf p b) f.toNat g b 0) g).most:=by
 obtain⟨f,rfl⟩:=Int.eq_ofNat_of_zero_le h3
 have hb:0≤b.fInline∧b.fInline≤3:=by
  unfold buildOk at h2
  simp only[Bool.and_eq_true,within_iff]at h2
  exact h2.2
 obtain⟨g,hg⟩:=get_of_lt (l:=funs p) (k:=f) (by omega)
 have hpg:=(PgOk_of hs h1).foldIf b
 have hg':(funs (foldIf p b))[f]?=some g:=by rw[foldIf_funs];exact hg
 obtain⟨hgl,y,hy,hy0⟩:=funs_lt (List.mem_of_getElem? hg')
 have h4':=(hpg.line g y hy).2.2.1
 have ha:(0:Int)≤(argsN (foldIf p b) g:Int)∧(argsN (foldIf p b) g:Int)≤4:=by rw[argsN,hy];dsimp only;omega
 have hC0:CxOk (ctx (foldIf p b) f g b 0):=hpg.cx ha (by omega) hb
 have hm:=compG_most hC0 ⟨y,hy,hy0⟩ rfl
 have hC1:CxOk (ctx (foldIf p b) f g b (compG (ctx (foldIf p b) f g b 0) g).most):=hpg.cx ha hm hb
 refine⟨g,_,by rw[Int.toNat_natCast];exact hg,hC1,rfl,rfl,rfl,rfl,⟨y,hy,hy0⟩,?_,by rw[Int.toNat_natCast];rfl⟩
 rw[compileF,if_pos ⟨h1,h2,h3,h4⟩,Int.toNat_natCast,compiled,hg']
theorem compileF_cap {p:List TLine}{f:Int}{b:TBuild}(hs:smallT 1048576 (.lst 4 (p.map TLine.tr))):(compileF p f b).length≤2500∧chOk (compileF p f b):=by
 by_cases hc:programOk p=true∧buildOk b=true∧0≤f∧f < (funs p).length
 ·obtain⟨h1,h2,h3,h4⟩:=hc
  obtain⟨g,C,_,k2,_,_,k5,_,k7,k8,_⟩:=compiled_of hs h1 h2 h3 h4
  rw[k8]
  exact compG_cap k2 k7 k5
 ·rw[compileF,if_neg hc]
  exact⟨by simp,fun it h=>by cases h⟩
theorem smallRs_all {L:Int}:∀{rs:List (List Tr)},(∀r∈rs,smallR L r)→smallRs L rs
 | [],_=>by rw[smallRs];trivial
 | r::rs,h=>by rw[smallRs];exact⟨h r (by simp),smallRs_all fun x hx=>h x (by simp[hx])⟩
theorem items_small {l:List TItem}(h1:l.length≤1048576)(h2:chOk l):smallT 1048576 (.lst 7 (l.map TItem.tr)):=by
 rw[smallT]
 refine⟨by rw[List.length_map];omega,smallRs_all fun r hr=>?_⟩
 obtain⟨it,hit,rfl⟩:=List.mem_map.1 hr
 have:=h2 it hit
 simp only[TItem.tr,smallR,smallT,true_and,and_true]
 refine⟨by rw[List.length_map];omega,smallRs_all fun r hr=>?_⟩
 obtain⟨v,hv,rfl⟩:=List.mem_map.1 hr
 simp[intRow,smallR,smallT]
theorem compileF_small {p:List TLine}{f:Int}{b:TBuild}(hs:smallT 1048576 (.lst 4 (p.map TLine.tr))):smallT 1048576 (.lst 7 ((compileF p f b).map TItem.tr)):=
 items_small (Nat.le_trans (compileF_cap hs).1 (by omega)) (compileF_cap hs).2
end Go.Proofs.YtogdbgmiigfmfaaGreat
namespace Go.Proofs.YtogdbgmiigfmfaaGreat
open Go.Sim Go.ChangeShapes Go.WideShapes Go.ChangeAt Go.RowKit
set_option maxRecDepth 100000
set_option maxHeartbeats 4000000
theorem s_laws_FnExactCompileFunction (x0:List TLine)(hw0:(x0.length≤maxLen∧∀y∈x0,y.wf))(x1:Int)(hw1:inI x1)(x2:TBuild)(hw2:x2.wf):Sim.Spec Tryz.prog 3 [tvL 4 (x0.map TLine.tr),tvI x1,.agg x2.tr] (rB true):=by
 refine spec_of_W hΓ hmix Tryz.func3 rfl (by decide) rfl ?_
 have hsz0:=s_laws_szLineS x0 hw0 (1048576) (by omega) (by omega)
 repeat' ((conv=>whnf);first|refine seq_inl ?_|apply reg_inl|apply oi|(apply fi<;>intro h)|refine cl hsz0 ?_|refine⟨_,rfl,?_⟩|((with_reducible show _=_);rfl))
 all_goals try((with_reducible refine Obl.mk ?_);exact KO)
 have hsm0:=szT_small (L:=1048576) _ _ (Int.not_lt.1 (of_decide_eq_false h)) (by omega)
 have hnn0:=Int.not_lt.1 (of_decide_eq_false h)
 clear h
 have hs0:=hsm0.1
 have hspec:=s_spec_CompileFunction x0 x1 x2 hs0
 have himpl:=g_impl_CompileFunction x0 x1 x2 hs0
 have hr0:smallT 1048576 (.lst 7 ((compileF x0 x1 x2).map TItem.tr)):=compileF_small hs0
 generalize compileF x0 x1 x2=R0 at *
 have heqr0:=s_laws_eqItemS R0 hr0
 have hrc0_0:=cn_ItemS _ hr0
 have hmkr0:=g_laws_markItemS R0 1 (by omega) (Nat.le_trans (small_nat hr0) (by omega)) (by omega) (hin_ItemS _ hr0)
 have hhdr0:=s_laws_heldItemS R0 1 (by omega) (Nat.le_trans (small_nat hr0) (by omega)) (by omega) (hin_ItemS _ hr0)
 have hto0:=g_laws_toLineS x0 hs0
 have heq0:=s_laws_eqLineS x0 hs0
 have hac0_0:=cn_LineS _ hs0
 have hmka0:=g_laws_markLineS x0 (1) (by omega) (Nat.le_trans (small_nat hs0) (by omega)) (by omega) (hin_LineS _ hs0)
 have hto2:=s_laws_toBuild x2 (by simp[TBuild.tr,smallR,smallT])
 repeat' ((conv=>whnf);first|refine cg hmka0 ?_|refine cg hmkr0 ?_|refine cg hto0 ?_|refine cg himpl ?_|refine seq_inl ?_|apply reg_inl|apply oi|(apply fi<;>intro h)|refine .inl (ci heqr0 (ai (deep_eq _ _) (ai rfl trivial)) ?_)|refine .inl (ci hhdr0 (ai (deep_eq _ _) (ai rfl trivial)) ?_)|refine .inl (ci heq0 (ai (deep_eq _ _) (ai (deep_eq _ _) trivial)) ?_)|refine cl hto2 ?_|refine .inl (ci hspec (ai (deep_eq _ _) (ai rfl (ai (ai rfl (ai rfl (ai rfl (ai rfl trivial)))) trivial))) ?_)|refine⟨_,rfl,?_⟩|((with_reducible show _=_);rfl))
 all_goals try((with_reducible refine Obl.mk ?_);exact KO)
 all_goals try exact⟨deep_eq _ _⟩
 all_goals try exact⟨allD_deep _⟩
 all_goals(exfalso;first|(simp at h;done)|(have h':=of_decide_eq_true h;omega))
theorem fnExactCompileFunction_lifted (os:Os)(started:os.Started)(H:Type)(enc:TypeId×Value→H):
  ReturnsInHanded {} Tryz.checked os 3 .any (Rows.fnExactCompileFunctionSpec.pre6 enc Tryz.prog Tryz.f3 Rows.fnExactCompileFunctionRow.domain false) (Rows.fnExactCompileFunctionSpec.post enc Tryz.prog Tryz.f3 false true false false):=by
 refine returnsInHanded_of_change (C:=Tryz.checked) own started (by kernel_rfl) Tryz.func3
  (ChangeSpec.witness6 (enc:=enc) (C:=Tryz.checked) false ⟨#[],#[.slice none 0 0,.int .i64 0,.agg #[.int .i64 0,.int .i64 0,.bool false,.bool false]],[]⟩ 8 (by kernel_rfl) (by kernel_rfl) (by kernel_rfl) (by kernel_rfl)) ?_
 intro W base args ds gs before hval hW _ _
 have hW0:=hW
 obtain⟨p,q,hA,_,_,_,_⟩:=hW0
 have hlen:=trodAll_len hA
 obtain⟨xs,hx,hty⟩:=args_typed (n:=8) hΓ (by kernel_rfl) (fun j t v h1 h2=>hval j t v (by simpa using h1) (by simpa using h2)) hA
 rw[Tryz.params3]at hty hlen
 obtain⟨_,xs0,rfl,hx0,hty0⟩:=typedVs_cons hty
 obtain⟨_,rfl,r0,⟨⟩,l0,e0⟩:=hx0
 obtain⟨_,xs1,rfl,hx1,hty1⟩:=typedVs_cons hty0
 obtain⟨_,rfl,a1,⟨⟩,w1⟩:=hx1
 obtain⟨_,xs2,rfl,hx2,hty2⟩:=typedVs_cons hty1
 obtain⟨t2,rfl,h2⟩:=hx2
 obtain rfl:=typedVs_nil hty2
 obtain⟨d0,d1,d2,rfl⟩:=len3 hlen
 obtain⟨x0,rfl,v0⟩:=rows_map (g:=TLine.tr) (Q:=(fun y=>y.wf)) (rows:=r0) (fun r hr=>ty_Line (typed_le (by decide) (e0 r hr)))
 obtain⟨x2,rfl,v2⟩:=ty_Build h2
 exact law_calls laidOut rfl Tryz.underlying4 rfl (by kernel_rfl) rfl hx (s_laws_FnExactCompileFunction x0 ⟨by simpa using l0,v0⟩ a1 (inI_of w1) x2 v2) hW
theorem fnExactCompileFunction_holds:Rows.FnExactCompileFunctionSaid:=
 OpenClaim.holds_of_wide 3 Tryz.f3 rfl rfl rfl rfl rfl rfl rfl ⟨rfl,rfl,rfl,rfl,rfl⟩ rfl rfl rfl rfl rfl (by kernel_rfl) Tryz.func3 (by kernel_rfl)
  (of_decide_eq_true (by kernel_rfl)) (by unfold Func.isWrapper;first|(rw[if_pos (by decide+kernel)];kernel_rfl)|(rw[if_neg (by decide+kernel)];exact⟨rfl,rfl⟩))
  (fun os started H enc _=>fnExactCompileFunction_lifted os started H enc)
end Go.Proofs.YtogdbgmiigfmfaaGreat
