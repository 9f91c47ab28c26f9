import Derived.Test.YtogdbgmiigfmfaaGreatGg
namespace Go.Proofs.YtogdbgmiigfmfaaGreat
open Go.Sim
set_option maxRecDepth 100000
set_option maxHeartbeats 4000000
def LinesC (C:Cx)(lev:Nat):Prop:=∀(x:Sc) (S:List (Sc×List Int)) (s:Gs) (d:Int),ScOk C x (insOf (S++[(x,[])]))→s.items.length+(endL' C.p x.f - x.f) * (20 * tokC lev+3)≤68719476736→((lev+S.length:Nat):Int)=C.b.fInline→0≤d→d+30+100 * (lev:Int)≤1900→
 SpecG Tryz.prog 95 [mkrP] (mkrH (0,0,1) (0,0,2) C s d (scH (S++[(x,[])]))) (.tup []) (mkrH (1,0,1) (1,0,2) C (linesG C (repN C lev) x (insOf (S++[(x,[])])) d s).1 d (scH (S++[(x,(linesG C (repN C lev) x (insOf (S++[(x,[])])) d s).2)])))
theorem insOf_snoc (S:List (Sc×List Int))(y:Sc×List Int):insOf (S++[y])=insOf S++[y.1.f]:=by simp
theorem RepC_of {C:Cx}(hC:CxOk C){lev:Nat}(hL:LinesC C lev):RepC C (lev+1):=by
 intro x S lv k g s d hx hk hg hrb hr
 refine specG_of_Wo hΓ hmix Tryz.func188 rfl (by decide) rfl rfl ?_
 obtain⟨r1,r2,r3,r4⟩:=replB_spec hrb
 obtain⟨y,hy,hy0⟩:=hg
 have h60:=hC.len
 have hin:=hC.inl
 have hloc:=isFun_locals hC ⟨y,hy,hy0⟩
 have hA:argsN C.p g=y.fArgs.length:=by rw[argsN,hy]
 have hLo:=s_spec_LocalsOf C.p (g:Int) (by omega) (fun z hz=>smallRs_map hC.small hz)
 have htop:=topOf_le hC hx
 have hil:(insOf (S++[(x,lv)])).length=S.length+1:=by simp
 rw[hil]at htop r1
 have hxl:x.locals.length≤8:=by obtain⟨_,_,_,_,_,h⟩:=hx.endE hC;exact h
 have hxf:=hx.first
 rw[hil]at hxf
 have ha:=hC.args
 have hch:=hx.chain
 rw[hil]at hch
 obtain⟨q1,q2,q3,q4⟩:=hr
 have hfl:=flat_ints (x.chain++[(k:Int)])
 have hyl:(y.fArgs.map strRow).length=y.fArgs.length:=by simp
 have hxll:(x.locals.map strRow).length=x.locals.length:=by simp
 have hcl:(x.chain.map intRow).length=x.chain.length:=by simp
 have e1:IntKind.i64.wrap ((x.locals.length:Int) - C.args)=(x.locals.length:Int) - C.args:=by rw[IntWalk.i64_in _ (by omega)]
 have e2:IntKind.i64.wrap (x.first+(x.locals.length:Int))=x.first+x.locals.length:=by rw[IntWalk.i64_in _ (by omega)]
 repeat' ((conv=>whnf);first|(with_reducible apply W1;fail_if_success (with_reducible show Wo _ _ _ _ (Code.seq (Code.region 3 _ _) _) _ _))|(with_reducible first|apply W2|apply W3|apply W4|apply W5|apply W6|apply W7|apply W8|apply W9)|apply reg_inl|apply oi|(apply fi<;>intro h)|refine⟨g,y.tr,rfl,map_get hy,?_⟩|refine⟨_,rfl,?_⟩|((with_reducible show _=_);rfl))
 all_goals try((with_reducible refine Obl.mk ?_);exact KP)
 refine join_rule Unit (fun _=>⟨[(0,mkrP),(1,tI .i64 (g:Int)),(2,tI .i64 (k:Int)),(7,.r (.c (.ptr (7,0,0) 0))),(8,tI .i64 (argsN C.p g:Int)),(9,tI .i64 (topOf C x))],
  [(
   (0,0,0),some (mkrB C s d (0,0,1) (0,0,2))),((0,0,1),some (.dar 7 (itR s.items) none)),((0,0,2),some (.dar 6 (scH (S++[(x,lv)])) none)),
   ((7,0,0),some (.box [.t (.int .i64 (x.f:Int)),.t (.lst 1 (x.chain.map intRow)),.t (.lst 1 (x.locals.map strRow)),.t (.int .i64 x.first),.t (.bool x.outer),.opq]))],[7,0]⟩) ?_ ?_
 ·skip
  repeat' ((conv=>whnf);first|(with_reducible first|apply Wx|apply W6)|apply oi|(apply fi<;>intro h)|refine⟨_,rfl,?_⟩|((with_reducible show _=_);rfl))
  all_goals try((with_reducible refine Obl.mk ?_);exact KP)
  all_goals(conv=>whnf)
  all_goals(refine⟨(),?_⟩)
  repeat' ((conv=>whnf);first|(with_reducible first|apply Wx|apply W6)|apply oi|(apply fi<;>intro h)|refine⟨_,rfl,?_⟩|((with_reducible show _=_);rfl))
  all_goals try((with_reducible refine Obl.mk ?_);exact KP)
  all_goals(refine⟨congrArg (Tr.int _) ?_⟩)
  all_goals try(rw[hyl,hA];done)
  all_goals(unfold topOf;rw[hxll])
  all_goals first|(rw[if_pos (by assumption)];exact e1)|(rw[if_neg (by simp_all)];exact e2)
 intro _
 repeat' ((conv=>whnf);first|(with_reducible apply W1;fail_if_success (with_reducible show Wo _ _ _ _ (Code.region 7 _ _) _ _))|(with_reducible first|apply W2|apply W3|apply W4|apply W5|apply W6|apply W7|apply W8|apply W9)|apply reg_inl|apply oi|(apply fi<;>intro h)|refine cl hLo ?_|refine⟨_,rfl,?_⟩|((with_reducible show _=_);rfl))
 all_goals try((with_reducible refine Obl.mk ?_);exact KP)
 all_goals try exact⟨⟨by simp <;> omega,by simp <;> omega⟩⟩
 conv=>whnf
 refine view2_rule ⟨[(0,mkrP),(1,tI .i64 (g:Int)),(2,tI .i64 (k:Int)),(7,.r (.c (.ptr (7,0,0) 0))),(8,tI .i64 (argsN C.p g:Int)),(9,tI .i64 (topOf C x)),(10,.r (.c (.ptr (10,0,0) 0)))],
  [(
   (0,0,0),some (mkrB C s d (0,0,1) (0,0,2))),((0,0,1),some (.dar 7 (itR s.items) none)),((0,0,2),some (.dar 6 (scH (S++[(x,lv)])) none)),
   ((7,0,0),some (.box [.t (.int .i64 (x.f:Int)),.t (.lst 1 (x.chain.map intRow)),.t (.lst 1 (x.locals.map strRow)),.t (.int .i64 x.first),.t (.bool x.outer),.opq])),
   ((10,0,0),some (.box [.t (.int .i64 (g:Int)),.t (.lst 1 ((x.chain++[(k:Int)]).map intRow)),.t (.lst 1 ((localsOf C.p (g:Int)).map strRow)),.t (.int .i64 (topOf C x)),.t (.bool false),.nils 1]))],_⟩ ?_ ?_ rfl ?_
 ·exact⟨.inl rfl,.inl rfl,.inl rfl,.inl rfl,.inl rfl,.inl rfl,.inl rfl,trivial⟩
 ·refine⟨.inr (.inl rfl),.inr (.inl rfl),.inr (.inl rfl),.inr (.inl rfl),.inr (.inr (.inl ⟨_,_,rfl,rfl,.inl rfl,.inr (.inr ⟨_,rfl,?_,?_⟩),.inr (.inr ⟨_,rfl,rfl,?_⟩),.inl rfl,.inl rfl,.inr (.inl ⟨_,_,rfl,rfl⟩),trivial⟩)),trivial⟩
  ·show Tr.lst 1 _=Tr.lst 1 ([]++List.map intRow x.chain++[[Tr.int .i64 (k:Int)]])
   simp[intRow]
  all_goals(intro q hq;simp only[AC.ids,List.mem_cons,List.not_mem_nil,or_false]at hq;subst hq;rfl)
 have hll:((localsOf C.p (g:Int)).map strRow).length=(localsOf C.p (g:Int)).length:=by simp
 have em:IntKind.i64.wrap (topOf C x+(((localsOf C.p (g:Int)).map strRow).length:Int))=topOf C x+((localsOf C.p (g:Int)).length:Int):=by rw[hll,IntWalk.i64_in _ (by omega)]
 obtain⟨s0,hs0⟩:∃s0:Gs,(⟨s.items,max s.most (topOf C x+(localsOf C.p (g:Int)).length),s.start⟩:Gs)=s0:=⟨_,rfl⟩
 have z1:s.items=s0.items:=by rw[←hs0]
 have z2:max s.most (topOf C x+(localsOf C.p (g:Int)).length)=s0.most:=by rw[←hs0]
 have z3:s.start=s0.start:=by rw[←hs0]
 obtain⟨Y,hY⟩:∃Y,inSc C x k g=Y:=⟨_,rfl⟩
 obtain⟨T1,hT1⟩:∃T1,storesG C (inSc C x k g) x.chain k (argsN C.p g) d s0=T1:=⟨_,rfl⟩
 repeat' ((conv=>whnf);first|(with_reducible first|apply Wx|apply W6)|apply oi|(apply fi<;>intro h)|refine⟨_,rfl,?_⟩|((with_reducible show _=_);rfl))
 all_goals try((with_reducible refine Obl.mk ?_);exact KP)
 conv=>whnf
 refine⟨{q:Nat×Gs // q.1≤argsN C.p g∧storesG C (inSc C x k g) x.chain k q.1 (d - ((argsN C.p g - q.1:Nat):Int)) q.2=T1∧q.2.items.length≤300 - q.1},fun q=>⟨[(0,mkrP),(1,tI .i64 (g:Int)),(2,tI .i64 (k:Int)),(7,.r (.c (.ptr (7,0,0) 0))),(8,tI .i64 (argsN C.p g:Int)),(10,.r (.c (.ptr (10,0,0) 0))),(11,tI .i64 ((q.1.1:Int) - 1))],
  [(
   (0,0,0),some (mkrB C q.1.2 (d - ((argsN C.p g - q.1.1:Nat):Int)) (7,0,1) (7,0,2))),((7,0,1),some (.dar 7 (itR q.1.2.items) none)),((7,0,2),some (.dar 6 (scH (S++[(x,lv)])) none)),
   ((7,0,0),some (.box [.t (.int .i64 (x.f:Int)),.t (.lst 1 (x.chain.map intRow)),.t (.lst 1 (x.locals.map strRow)),.t (.int .i64 x.first),.t (.bool x.outer),.opq])),
   ((10,0,0),some (.box [.t (.int .i64 (g:Int)),.t (.lst 1 ((x.chain++[(k:Int)]).map intRow)),.t (.lst 1 ((localsOf C.p (g:Int)).map strRow)),.t (.int .i64 (topOf C x)),.t (.bool false),.nils 1]))],[10,7,0]⟩,fun q=>q.1.1,⟨(argsN C.p g,s0),by dsimp only;omega,by rw[←hT1];simp,by dsimp only;rw[←z1];omega⟩,?_,?_⟩
 ·skip
  repeat' ((conv=>whnf);first|(with_reducible first|apply Wx|apply W6)|apply oi|(apply fi<;>intro h)|refine⟨_,rfl,?_⟩|((with_reducible show _=_);rfl))
  all_goals try((with_reducible refine Obl.mk ?_);exact KP)
  all_goals try exact⟨by rw[z1]⟩
  all_goals try exact⟨by rw[z3]⟩
  all_goals try exact⟨congrArg itR z1⟩
  all_goals try exact⟨congrArg (Tr.int _) (by rw[em];exact z2)⟩
  all_goals try exact⟨KW⟩
 intro⟨⟨m,t⟩,hm,ht,htl⟩
 dsimp only at hm ht htl ⊢
 cases m with
 | succ m=>
  have g1:=g_spec_store C hC t (d - ((argsN C.p g - (m+1):Nat):Int)) (scH (S++[(x,lv)])) (inSc C x k g) m k x.chain (by unfold roomy;omega) (by omega) (by omega) (by show 0≤topOf C x∧topOf C x≤1000;omega) (by omega)
  rw[storesG]at ht
  rw[show((m+1:Nat):Int) - 1=(m:Int) by omega]
  repeat' ((conv=>whnf);first|(with_reducible first|apply Wx|apply W6)|refine cg g1 ?_|apply oi|(apply fi<;>intro h)|refine⟨_,rfl,?_⟩|((with_reducible show _=_);rfl))
  all_goals try((with_reducible refine Obl.mk ?_);exact KP)
  all_goals try exact KX
  conv=>whnf
  refine⟨⟨(m,storeG C (inSc C x k g) t (d - ((argsN C.p g - (m+1):Nat):Int)) m k x.chain),by dsimp only;omega,by rw[←ht];dsimp only;congr 1;omega,by dsimp only;simp only[storeG,emitG,List.length_append,List.length_cons,List.length_nil];omega⟩,?_,by dsimp only;omega⟩
  repeat' ((conv=>whnf);first|(with_reducible first|apply Wx|apply W6)|apply oi|(apply fi<;>intro h)|refine⟨_,rfl,?_⟩|((with_reducible show _=_);rfl))
  all_goals try((with_reducible refine Obl.mk ?_);exact KP)
  all_goals try exact⟨KW⟩
 | zero=>
  have e0:t=T1:=by rw[←ht];rfl
  subst e0
  have ed:d - ((argsN C.p g - 0:Nat):Int)=d - argsN C.p g:=by rw[Nat.sub_zero]
  rw[ed]
  obtain⟨T2,hT2⟩:∃T2,zerosG C (inSc C x k g) x.chain k (d - argsN C.p g) ((localsOf C.p (g:Int)).length - argsN C.p g) (argsN C.p g) t=T2:=⟨_,rfl⟩
  repeat' ((conv=>whnf);first|(with_reducible first|apply Wx|apply W6)|apply oi|(apply fi<;>intro h)|refine⟨_,rfl,?_⟩|((with_reducible show _=_);rfl))
  all_goals try((with_reducible refine Obl.mk ?_);exact KP)
  all_goals try exact KX
  conv=>whnf
  refine⟨{q:Nat×Gs // q.1≤(localsOf C.p (g:Int)).length∧zerosG C (inSc C x k g) x.chain k (d - argsN C.p g) ((localsOf C.p (g:Int)).length - q.1) q.1 q.2=T2∧q.2.items.length≤400 - 2 * ((localsOf C.p (g:Int)).length - q.1)},fun q=>⟨[(0,mkrP),(1,tI .i64 (g:Int)),(2,tI .i64 (k:Int)),(7,.r (.c (.ptr (7,0,0) 0))),(10,.r (.c (.ptr (10,0,0) 0))),(12,tI .i64 (q.1.1:Int))],
   [(
    (0,0,0),some (mkrB C q.1.2 (d - argsN C.p g) (7,0,1) (7,0,2))),((7,0,1),some (.dar 7 (itR q.1.2.items) none)),((7,0,2),some (.dar 6 (scH (S++[(x,lv)])) none)),
    ((7,0,0),some (.box [.t (.int .i64 (x.f:Int)),.t (.lst 1 (x.chain.map intRow)),.t (.lst 1 (x.locals.map strRow)),.t (.int .i64 x.first),.t (.bool x.outer),.opq])),
    ((10,0,0),some (.box [.t (.int .i64 (g:Int)),.t (.lst 1 ((x.chain++[(k:Int)]).map intRow)),.t (.lst 1 ((localsOf C.p (g:Int)).map strRow)),.t (.int .i64 (topOf C x)),.t (.bool false),.nils 1]))],[10,7,0]⟩,fun q=>(localsOf C.p (g:Int)).length - q.1.1,⟨(argsN C.p g,t),by dsimp only;omega,hT2,by dsimp only;omega⟩,?_,?_⟩
  ·skip
   repeat' ((conv=>whnf);first|(with_reducible first|apply Wx|apply W6)|apply oi|(apply fi<;>intro h)|refine⟨_,rfl,?_⟩|((with_reducible show _=_);rfl))
   all_goals try((with_reducible refine Obl.mk ?_);exact KP)
  intro⟨⟨i,u⟩,hi,hu,hul⟩
  dsimp only at hi hu hul ⊢
  by_cases hil2:i < (localsOf C.p (g:Int)).length
  ·obtain⟨c,hc⟩:∃c,(localsOf C.p (g:Int)).length - i=c+1:=⟨(localsOf C.p (g:Int)).length - i - 1,by omega⟩
   rw[hc,zerosG]at hu
   have g1:=g_spec_number C u (d - argsN C.p g) (scH (S++[(x,lv)])) 0 k x.chain (by unfold roomy;omega) (by omega) (by omega)
   have g2:=g_spec_store C hC (emitG C u (d - argsN C.p g) 0 0 k x.chain) (d - argsN C.p g+1) (scH (S++[(x,lv)])) (inSc C x k g) i k x.chain (by unfold roomy emitG;simp only[List.length_append,List.length_cons,List.length_nil];omega) (by omega) (by omega) (by show 0≤topOf C x∧topOf C x≤1000;omega) (by omega)
   repeat' ((conv=>whnf);first|(with_reducible first|apply Wx|apply W6)|refine cg g1 ?_|refine cg g2 ?_|apply oi|(apply fi<;>intro h)|refine⟨_,rfl,?_⟩|((with_reducible show _=_);rfl))
   all_goals try((with_reducible refine Obl.mk ?_);exact KP)
   all_goals try exact KX
   conv=>whnf
   refine⟨⟨(i+1,storeG C (inSc C x k g) (emitG C u (d - argsN C.p g) 0 0 k x.chain) (d - argsN C.p g+1) i k x.chain),by dsimp only;omega,by rw[←hu];dsimp only;rw[show(localsOf C.p (g:Int)).length - (i+1)=c by omega],by dsimp only;simp only[storeG,emitG,List.length_append,List.length_cons,List.length_nil];omega⟩,?_,by dsimp only;omega⟩
   repeat' ((conv=>whnf);first|(with_reducible first|apply Wx|apply W6)|apply oi|(apply fi<;>intro h)|refine⟨_,rfl,?_⟩|((with_reducible show _=_);rfl))
   all_goals try((with_reducible refine Obl.mk ?_);exact KP)
   all_goals try exact⟨KW⟩
  ·have hie:i=(localsOf C.p (g:Int)).length:=by omega
   subst hie
   rw[Nat.sub_self,zerosG]at hu
   subst hu
   have hpre:preG C x k g d s=u:=by rw[preG,hs0,hT1,hT2]
   repeat' ((conv=>whnf);first|(with_reducible apply W1;fail_if_success (with_reducible show Wo _ _ _ _ (Code.seq (Code.region 17 _ _) _) _ _))|(with_reducible first|apply W2|apply W3|apply W4|apply W5|apply W6|apply W7|apply W8|apply W9)|apply reg_inl|apply oi|(apply fi<;>intro h)|refine⟨_,rfl,?_⟩|((with_reducible show _=_);rfl))
   all_goals try((with_reducible refine Obl.mk ?_);exact KP)
   all_goals try exact KX
   obtain⟨v,hv⟩:∃v,spaceG C x k (d - argsN C.p g) u=v:=⟨_,rfl⟩
   have hvl:v.items.length≤500:=by rw[←hv,spaceG];split <;> first|(simp[emitG];omega)|omega
   refine join_rule Unit (fun _=>⟨[(0,mkrP),(1,tI .i64 (g:Int)),(2,tI .i64 (k:Int)),(7,.r (.c (.ptr (7,0,0) 0))),(10,.r (.c (.ptr (10,0,0) 0)))],
    [(
     (0,0,0),some (mkrB C v (d - argsN C.p g) (7,0,1) (7,0,2))),((7,0,1),some (.dar 7 (itR v.items) none)),((7,0,2),some (.dar 6 (scH (S++[(x,lv)])) none)),
     ((10,0,0),some (.box [.t (.int .i64 (g:Int)),.t (.lst 1 ((x.chain++[(k:Int)]).map intRow)),.t (.lst 1 ((localsOf C.p (g:Int)).map strRow)),.t (.int .i64 (topOf C x)),.t (.bool false),.own (10,0,1)])),((10,0,1),some (.arr true 1 []))],[10,7,0]⟩) ?_ ?_
   ·have g3:=g_spec_emit C u (d - argsN C.p g) (scH (S++[(x,lv)])) 15 0 k x.chain (by unfold roomy;omega) (by omega)
    unfold spaceG at hv
    cases hst:u.start with
    | true=>
     rw[if_pos hst]at hv
     subst hv
     repeat' ((conv=>whnf);first|(with_reducible first|apply Wx|apply W6)|refine cg g3 ?_|apply oi|(apply fi<;>intro h)|refine⟨_,rfl,?_⟩|((with_reducible show _=_);rfl))
     all_goals try((with_reducible refine Obl.mk ?_);exact KP)
     ·conv=>whnf
      refine⟨(),?_⟩
      repeat' ((conv=>whnf);first|(with_reducible first|apply Wx|apply W6)|apply oi|(apply fi<;>intro h)|refine⟨_,rfl,?_⟩|((with_reducible show _=_);rfl))
      all_goals try((with_reducible refine Obl.mk ?_);exact KP)
     ·exfalso;simp_all
    | false=>
     rw[if_neg (by simp[hst])]at hv
     subst hv
     repeat' ((conv=>whnf);first|(with_reducible first|apply Wx|apply W6)|refine cg g3 ?_|apply oi|(apply fi<;>intro h)|refine⟨_,rfl,?_⟩|((with_reducible show _=_);rfl))
     all_goals try((with_reducible refine Obl.mk ?_);exact KP)
     ·exfalso;simp_all
     ·conv=>whnf
      refine⟨(),?_⟩
      repeat' ((conv=>whnf);first|(with_reducible first|apply Wx|apply W6)|apply oi|(apply fi<;>intro h)|refine⟨_,rfl,?_⟩|((with_reducible show _=_);rfl))
      all_goals try((with_reducible refine Obl.mk ?_);exact KP)
   intro _
   have hyS:ScOk C (inSc C x k g) (insOf ((S++[(x,lv)])++[(inSc C x k g,[])])):=by rw[insOf_snoc];exact inSc_ok hC hx k ⟨y,hy,hy0⟩
   obtain⟨ye,ye1,ye2,ye3,ye4,_⟩:=hyS.endE hC
   have hye:endL' C.p (inSc C x k g).f - (inSc C x k g).f≤9:=by
    rw[ye4]
    have:endOf C.p (g:Int)=(ye:Int):=by rw[endOf_at];exact endI_some ye1
    show ye - g≤9
    omega
   have h3:=tokC_3 (n:=lev) (by omega)
   have hgL:=hL (inSc C x k g) (S++[(x,lv)]) v (d - argsN C.p g) hyS (by
    have:=Nat.mul_le_mul hye (show 20 * tokC lev+3≤20 * 8679837+3 by omega)
    omega) (by simp only[List.length_append,List.length_cons,List.length_nil];omega) q3 (by omega)
   have hsl:(scH (S++[(x,lv)])).length=S.length+1:=by simp
   obtain⟨r,hr⟩:∃r,linesG C (repN C lev) (inSc C x k g) (insOf ((S++[(x,lv)])++[(inSc C x k g,[])])) (d - argsN C.p g) v=r:=⟨_,rfl⟩
   rw[hr]at hgL
   have hsl2:(scH ((S++[(x,lv)])++[(inSc C x k g,r.2)])).length=S.length+2:=by simp
   have hw2:IntKind.i64.wrap (((scH ((S++[(x,lv)])++[(inSc C x k g,r.2)])).length:Int) - 1)=((S.length+1:Nat):Int):=by rw[hsl2,IntWalk.i64_in _ (by omega)];omega
   have hlt2:S.length+1 < (scH ((S++[(x,lv)])++[(inSc C x k g,r.2)])).length:=by omega
   have hrow2:(scH ((S++[(x,lv)])++[(inSc C x k g,r.2)]))[S.length+1]?=some (scRow (inSc C x k g) r.2):=by simp
   have hfl3:=flat_ints r.2
   repeat' ((conv=>whnf);first|(with_reducible apply W1;fail_if_success (with_reducible show Wo _ _ _ _ (Code.region 23 _ _) _ _))|(with_reducible first|apply W2|apply W3|apply W4|apply W5|apply W6|apply W7|apply W8|apply W9)|apply reg_inl|refine cg hgL ?_|apply oi|(apply fi<;>intro h)|refine⟨S.length+1,hw2,hlt2,?_⟩|refine⟨_,hrow2,?_⟩|refine⟨_,rfl,?_⟩|((with_reducible show _=_);rfl))
   all_goals try((with_reducible refine Obl.mk ?_);exact KP)
   all_goals try exact⟨⟨by rw[hsl];simp <;> omega,by rw[hsl];simp <;> omega⟩⟩
   all_goals try exact⟨hfl3⟩
   all_goals try exact⟨by simp[inSc,intRow]⟩
   conv=>whnf
   refine view2_rule ⟨[(0,mkrP),(13,tI .i64 (d - argsN C.p g)),(14,.r (.c (.t (.lst 1 (r.2.map intRow)))))],
    [((0,0,0),some (mkrB C r.1 (d - argsN C.p g) (127,0,1) (127,0,2))),((127,0,1),some (.dar 7 (itR r.1.items) none)),((127,0,2),some (.dar 6 ((scH ((S++[(x,lv)])++[(inSc C x k g,r.2)])).set (S.length+1) ((scRow (inSc C x k g) r.2).set 5 (.t (.lst 1 (r.2.map intRow))))) none))],_⟩ ?_ ?_ rfl ?_
   ·refine⟨.inl rfl,.inl rfl,.inr (.inl ⟨_,_,rfl,rfl,.inr (.inr ⟨_,rfl,rfl,?_⟩)⟩),trivial⟩
    intro q hq;simp only[AC.ids,List.mem_cons,List.not_mem_nil,or_false]at hq;subst hq;rfl
   ·exact⟨.inr (.inl rfl),.inr (.inl rfl),.inr (.inr (.inr ⟨_,_,_,_,_,_,_,rfl,hrow2,(by decide),rfl,rfl,rfl⟩)),trivial⟩
   have hsl4:((scH ((S++[(x,lv)])++[(inSc C x k g,r.2)])).set (S.length+1) ((scRow (inSc C x k g) r.2).set 5 (.t (.lst 1 (r.2.map intRow))))).length=S.length+2:=by rw[List.length_set];exact hsl2
   have hw4:IntKind.i64.wrap ((((scH ((S++[(x,lv)])++[(inSc C x k g,r.2)])).set (S.length+1) ((scRow (inSc C x k g) r.2).set 5 (.t (.lst 1 (r.2.map intRow))))).length:Int) - 1)=((S.length+1:Nat):Int):=by rw[hsl4,IntWalk.i64_in _ (by omega)];omega
   have hle4:S.length+1≤((scH ((S++[(x,lv)])++[(inSc C x k g,r.2)])).set (S.length+1) ((scRow (inSc C x k g) r.2).set 5 (.t (.lst 1 (r.2.map intRow))))).length:=by omega
   have hcut:((scH ((S++[(x,lv)])++[(inSc C x k g,r.2)])).set (S.length+1) ((scRow (inSc C x k g) r.2).set 5 (.t (.lst 1 (r.2.map intRow))))).take (S.length+1)=scH (S++[(x,lv)]):=by
    rw[List.take_set_of_le (Nat.le_refl _),←List.map_take,List.take_left' (by simp)]
   have hrl:(r.2.map intRow).length=r.2.length:=by simp
   have hin2:=linesG_lv (lev:=lev) (rep:=repN C lev) (fun line g d s hg hr=>repN_grow hC lev line g d s hyS hg hr) hC hyS (d - argsN C.p g) v
   have hgr2:=linesG_grow (lev:=lev) (rep:=repN C lev) (fun line g d s hg hr=>repN_grow hC lev line g d s hyS hg hr) hC hyS (d - argsN C.p g) v
   rw[hr]at hin2 hgr2
   have hrle:=hgr2.le
   obtain⟨hlvl,hin2⟩:=hin2
   have hmul:=Nat.mul_le_mul hye (show 20 * tokC lev+3≤20 * 8679837+3 by omega)
   repeat' ((conv=>whnf);first|(with_reducible first|apply Wx|apply W6)|apply oi|(apply fi<;>intro h)|refine⟨S.length+1,hw4,hle4,?_⟩|refine⟨_,rfl,?_⟩|((with_reducible show _=_);rfl))
   all_goals try((with_reducible refine Obl.mk ?_);exact KP)
   conv=>whnf
   refine⟨{i:Nat // i≤r.2.length},fun q=>⟨[(0,mkrP),(13,tI .i64 (d - argsN C.p g)),(14,.r (.c (.t (.lst 1 (r.2.map intRow))))),(15,tI .i64 (q.1:Int))],
    [((0,0,0),some (mkrB C r.1 (d - argsN C.p g) (127,0,1) (127,0,2))),((127,0,1),some (.dar 7 (itR (patchL r.1.items r.1.items.length (r.2.take q.1))) none)),((127,0,2),some (.dar 6 (scH (S++[(x,lv)])) none))],[127,0]⟩,fun q=>r.2.length - q.1,⟨0,by omega⟩,?_,?_⟩
   ·skip
    repeat' ((conv=>whnf);first|(with_reducible first|apply Wx|apply W6)|apply oi|(apply fi<;>intro h)|refine⟨_,rfl,?_⟩|((with_reducible show _=_);rfl))
    all_goals try((with_reducible refine Obl.mk ?_);exact KP)
    all_goals first|exact⟨hle4⟩|exact⟨hcut⟩
   intro⟨i,hi3⟩
   dsimp only at hi3 ⊢
   have hpl:=patchL_len (r.1.items.length:Int) (r.2.take i) r.1.items
   have hil4:(itR (patchL r.1.items r.1.items.length (r.2.take i))).length=r.1.items.length:=by rw[itR_len,hpl]
   by_cases hli:i < r.2.length
   ·obtain⟨j,hj⟩:=get_of_lt hli
    obtain⟨j1,j2⟩:=hin2 j (List.mem_of_getElem? hj)
    obtain⟨jn,rfl⟩:=Int.eq_ofNat_of_zero_le j1
    have hjl:jn < (itR (patchL r.1.items r.1.items.length (r.2.take i))).length:=by rw[hil4];omega
    obtain⟨it,hit⟩:=get_of_lt (l:=patchL r.1.items r.1.items.length (r.2.take i)) (k:=jn) (by rw[hpl];omega)
    have hnext:r.2.take (i+1)=r.2.take i++[(jn:Int)]:=by rw[List.take_add_one,hj];rfl
    have hps:=patchL_snoc r.1.items.length (jn:Int) (r.2.take i) r.1.items
    repeat' ((conv=>whnf);first|(with_reducible first|apply Wx|apply W6)|apply oi|(apply fi<;>intro h)|refine⟨i,(intRow jn),rfl,map_get hj,?_⟩|refine⟨jn,rfl,hjl,?_⟩|refine⟨_,(itR_get hit),?_⟩|refine⟨_,rfl,?_⟩|((with_reducible show _=_);rfl))
    all_goals try((with_reducible refine Obl.mk ?_);exact KP)
    all_goals try exact KX
    conv=>whnf
    refine⟨⟨i+1,by omega⟩,?_,by dsimp only;omega⟩
    repeat' ((conv=>whnf);first|(with_reducible first|apply Wx|apply W6)|apply oi|(apply fi<;>intro h)|refine⟨_,rfl,?_⟩|((with_reducible show _=_);rfl))
    all_goals try((with_reducible refine Obl.mk ?_);exact KP)
    all_goals try exact⟨KW⟩
    all_goals(refine⟨?_⟩;rw[hil4];dsimp only;rw[hnext,hps,itR_setArg hit];rfl)
   ·have hie:i=r.2.length:=by omega
    subst hie
    have hr':linesG C (repN C lev) (inSc C x k g) (insOf (S++[(x,lv)])++[g]) (d - argsN C.p g) v=r:=(congrArg (fun l=>linesG C (repN C lev) (inSc C x k g) l (d - argsN C.p g) v) (by simp[inSc])).trans hr
    have hfin:repN C (lev+1) x (insOf (S++[(x,lv)])) k g d s=⟨patchL r.1.items r.1.items.length r.2,r.1.most,r.1.start⟩:=by
     show replG C (linesG C (repN C lev)) x (insOf (S++[(x,lv)])) k g d s=_
     unfold replG
     rw[hpre,hv,hr']
    rw[hfin]
    rw[List.take_length]
    repeat' ((conv=>whnf);first|(with_reducible first|apply Wx|apply W6)|apply oi|(apply fi<;>intro h)|refine⟨_,rfl,?_⟩|((with_reducible show _=_);rfl))
    all_goals try((with_reducible refine Obl.mk ?_);exact KP)
    all_goals try exact KX
    all_goals try exact⟨congrArg (fun z:Gs=>Tr.bool z.start) hfin.symm⟩
    all_goals try exact⟨congrArg (fun z:Gs=>itR z.items) hfin.symm⟩
    all_goals try exact⟨congrArg (fun z:Gs=>Tr.int .i64 z.most) hfin.symm⟩
    all_goals try exact⟨KW⟩
end Go.Proofs.YtogdbgmiigfmfaaGreat
namespace Go.Proofs.YtogdbgmiigfmfaaGreat
open Go.Sim
set_option maxRecDepth 100000
set_option maxHeartbeats 4000000
theorem LinesC_of {C:Cx}(hC:CxOk C){lev:Nat}(hE:ExprC C lev):LinesC C lev:=by
 intro x S s d hx hroom hlev hd0 hd1
 refine specG_of_Wo hΓ hmix Tryz.func95 rfl (by decide) rfl rfl ?_
 rw[insOf_snoc]at hx
 rw[insOf_snoc]
 dsimp only at hx ⊢
 obtain⟨e,he,hfe,hel,hen,hll⟩:=hx.endE hC
 have h60:=hC.len
 have hin:=hC.inl
 have hsl:∀lv:List Int,(scH (S++[(x,lv)])).length=S.length+1:=fun lv=>by simp
 have hrow:∀lv:List Int,(scH (S++[(x,lv)]))[S.length]?=some (scRow x lv):=fun lv=>by simp
 have hlt:∀lv:List Int,S.length < (scH (S++[(x,lv)])).length:=fun lv=>by rw[hsl];omega
 have hw:∀lv:List Int,IntKind.i64.wrap (((scH (S++[(x,lv)])).length:Int) - 1)=(S.length:Int):=fun lv=>by rw[hsl,IntWalk.i64_in _ (by omega)];omega
 have gE:=s_spec_EndOf C.p (x.f:Int) (by omega)
 rw[show endOf C.p (x.f:Int)=(e:Int) by rw[endOf_at];exact endI_some he]at gE
 have hpl:(C.p.map TLine.tr).length=C.p.length:=by simp
 have hm1:(((C.p.map TLine.tr).length:Nat):Int)=(C.p.length:Int):=by rw[hpl]
 have hm2:C.p.length≤9223372036854775807:=by omega
 have hm3:C.p.length * 8≤140737488355328:=by omega
 have h3:=tokC_3 (n:=lev) (by omega)
 have hch:x.chain.length≤100:=by
  have:=hx.chain
  rw[List.length_append,List.length_map]at this
  simp only[List.length_cons,List.length_nil]at this
  omega
 have hxf:0≤x.first∧x.first≤1000:=by
  have:=hx.first
  rw[List.length_append,List.length_map]at this
  simp only[List.length_cons,List.length_nil]at this
  omega
 obtain⟨R,hR⟩:∃R,runL C (repN C lev) x (insOf S++[x.f]) d (e+1 - (x.f+1)) (x.f+1) (startL C s)=R:=⟨_,rfl⟩
 have hfin:linesG C (repN C lev) x (insOf S++[x.f]) d s=(R.g,R.lv):=by
  unfold linesG
  rw[hen,show e - x.f=e+1 - (x.f+1) by omega,hR]
 rw[hfin]
 rw[hen]at hroom
 have hI0:LInv C lev x (insOf S++[x.f]) d e R (x.f+1) (startL C s):=⟨Nat.le_refl _,by omega,by simp[startL],by simp[startL],fun i h1 h2=>by omega,⟨by simp[startL],fun j hj=>by simp[startL]at hj⟩,by rw[show e+1 - (x.f+1)=e - x.f by omega];exact hroom,hR⟩
 repeat' ((conv=>whnf);first|(with_reducible first|apply Wx|apply W6)|apply oi|(apply fi<;>intro h)|refine⟨S.length,hw [],hlt [],?_⟩|refine⟨_,hrow [],?_⟩|refine cl gE ?_|refine⟨C.p.length,hm1,hm1,hm2,hm3,?_⟩|refine⟨_,rfl,?_⟩|((with_reducible show _=_);rfl))
 all_goals try((with_reducible refine Obl.mk ?_);exact KP)
 conv=>whnf
 refine⟨{q:Nat×Ls×List TItem // LInv C lev x (insOf S++[x.f]) d e R q.1 q.2.1∧q.2.2.length=q.2.1.g.items.length∧(q.1≤e→patchE q.2.2 q.2.2.length (q.1:Int) (exitsF C.p q.2.1.pos (x.f+1) (q.1 - (x.f+1)))=q.2.1.g.items)∧(q.1=e+1→q.2.2=q.2.1.g.items)},
  fun q=>⟨[(0,mkrP),(2,tI .i64 (x.f:Int)),(3,vInts x.chain),(4,tI .i64 (e:Int)),(5,.r (.c (.own (5,0,0)))),(6,.r (.c (.own (6,0,0)))),(7,tI .i64 (q.1.1:Int))],
   [((0,0,0),some (mkrB C ⟨q.1.2.2,q.1.2.1.g.most,q.1.2.1.g.start⟩ d (5,0,1) (5,0,2))),((5,0,1),some (.dar 7 (itR q.1.2.2) none)),((5,0,2),some (.dar 6 (scH (S++[(x,q.1.2.1.lv)])) none)),((5,0,0),some (.arr false 1 (q.1.2.1.heads.map intRow))),((6,0,0),some (.arr false 2 ((exitsF C.p q.1.2.1.pos (x.f+1) (q.1.1 - (x.f+1))).map exRow)))],[6,5,0]⟩,
  fun q=>e+1 - q.1.1,⟨(x.f+1,startL C s,s.items),hI0,rfl,fun _=>by rw[Nat.sub_self];rfl,fun _=>rfl⟩,?_,?_⟩
 ·skip
  repeat' ((conv=>whnf);first|(with_reducible first|apply Wx|apply W6)|apply oi|(apply fi<;>intro h)|refine⟨_,rfl,?_⟩|((with_reducible show _=_);rfl))
  all_goals try((with_reducible refine Obl.mk ?_);exact KP)
  all_goals try exact⟨KW⟩
  ·exact⟨by simp[startL,intRow]⟩
  ·exact⟨by dsimp only;rw[Nat.sub_self];rfl⟩
 intro⟨⟨k,L,u⟩,hI,hul,hpat,hlast⟩
 dsimp only at hI hul hpat hlast ⊢
 by_cases hke:k≤e
 ·obtain⟨ln,hl⟩:=get_of_lt (l:=C.p) (k:=k) (by omega)
  have h0:=lines_kinds hC hx he hI.lo hke hl
  obtain⟨hk0,hk7,_,h20,hexp⟩:=hC.line _ _ hl
  obtain⟨hsh,hnm⟩:=toks_short hC hl
  have hkf:=hI.lo
  have hIr:=hI.room
  have hIh:=hI.heads
  have hIp:=hI.pos
  have hlvl:=hI.lv.1
  have hIroom:L.g.items.length+20 * tokC lev+3≤68719476736:=by
   obtain⟨n,hn⟩:∃n,e+1 - k=n+1:=⟨e - k,by omega⟩
   rw[hn,Nat.add_mul]at hIr
   omega
  have hEl:=exitsF_len C.p L.pos (x.f+1) (k - (x.f+1))
  have hEin:∀z∈exitsF C.p L.pos (x.f+1) (k - (x.f+1)),0≤z.2∧z.2 < (L.g.items.length:Int):=fun z hz=>by
   obtain⟨i,i1,i2,i3,rfl⟩:=exitsF_mem hz
   exact hI.at_ i (by omega) (by omega) i3
  have gP:=g_spec_patch C ⟨u,L.g.most,L.g.start⟩ d (scH (S++[(x,L.lv)])) (exitsF C.p L.pos (x.f+1) (k - (x.f+1))) k (by unfold roomy;dsimp only;omega) (by omega) (by dsimp only;rw[hul];exact hEin)
  rw[hpat hke]at gP
  obtain⟨A,hA⟩:∃A,stepA C (repN C lev) x (insOf S++[x.f]) d k ln L=A:=⟨_,rfl⟩
  have hN:=LInv.next hC hx he hI hke hl
  rw[hA]at hN
  obtain⟨hP1,hP2⟩:=patch_next hC hx he hkf hke hl A
  obtain⟨b1,b2,b3,b4,b5,b6⟩:=stepB_lens (C:=C) (x:=x) k ln A
  have hQ:LInv C lev x (insOf S++[x.f]) d e R (k+1) (stepB C x k ln A)∧A.g.items.length=(stepB C x k ln A).g.items.length∧(k+1≤e→patchE A.g.items A.g.items.length ((k+1:Nat):Int) (exitsF C.p (stepB C x k ln A).pos (x.f+1) (k+1 - (x.f+1)))=(stepB C x k ln A).g.items)∧(k+1=e+1→A.g.items=(stepB C x k ln A).g.items):=⟨hN,b4.symm,fun h=>by rw[b2];exact hP1 h,fun h=>hP2 (by omega)⟩
  have hIl:k < (L.heads.map intRow).length:=by rw[List.length_map,hIh];omega
  have hro:roomy L.g:=by unfold roomy;omega
  have hitl:=itR_len L.g.items
  have hkne:ln.fKind≠7→k < e:=fun h=>by
   rcases Nat.lt_or_eq_of_le hke with h'|h'
   ·exact h'
   ·subst h'
    obtain⟨z,hz,hz7⟩:=endAt_kind he
    rw[hl]at hz
    injection hz with hz
    subst hz
    exact absurd hz7 h
  have hcalls:ln.fKind≠7→callsOk C ln.fExpr:=fun h=>by
   obtain⟨l0,q1,q2⟩:=hx.fn
   obtain⟨e',q3,_,_,q4⟩:=hC.fn _ _ q1 q2
   rw[he]at q3
   injection q3 with q3
   subst q3
   exact(q4 k ln (by omega) (hkne h) hl).2.1
  obtain⟨g1,hg1⟩:∃g1,genE C (repN C lev) x (insOf S++[x.f]) k (exL ln.fExpr) d ⟨L.g.items,L.g.most,true⟩=g1:=⟨_,rfl⟩
  have hX:exprOk ln.fExpr=true→ln.fKind≠7→SpecG Tryz.prog 149 [mkrP,tI .i64 (k:Int),tI .i64 (0:Int)] (mkrH (0,0,1) (0,0,2) C ⟨L.g.items,L.g.most,true⟩ d (scH (S++[(x,L.lv)]))) (tI .i64 ((0+(exL ln.fExpr).toks.length:Nat):Int)) (mkrH (1,0,1) (1,0,2) C g1 (d+1) (scH (S++[(x,L.lv)]))):=fun hx1 hx7=>by
   obtain⟨eo,et⟩:=exL_ok hx1
   have h20':(exL ln.fExpr).toks.length≤20:=by rw[←et];exact h20
   have hmu:=Nat.mul_le_mul_right (tokC lev) h20'
   have:=hE (exL ln.fExpr) x S L.lv k 0 ln ⟨L.g.items,L.g.most,true⟩ d eo (by rw[insOf_snoc];exact hx) hl ⟨[],by rw[List.drop_zero,List.append_nil];exact et⟩ (hcalls hx7) ⟨by dsimp only;omega,hlev,hd0,by omega⟩
   rw[insOf_snoc]at this
   dsimp only at this
   rw[hg1]at this
   exact this
  have hG:exprOk ln.fExpr=true→g1.items.length≤L.g.items.length+20 * tokC lev:=fun hx1=>by
   have:=(genE_grow' (x:=x) (ins:=insOf S++[x.f]) (rep:=repN C lev) (line:=k) (lev:=lev) (fun g d s hg hr=>repN_grow hC lev k g d s hx hg hr) hC hl hx1 d ⟨L.g.items,L.g.most,true⟩).le
   rw[hg1]at this
   exact this
  have hhr:(L.heads.map intRow)[k]?=some (intRow (atL L.heads k)):=by
   rw[List.getElem?_map]
   have:k < L.heads.length:=by omega
   rw[List.getElem?_eq_getElem this,atL,List.getElem?_eq_getElem this]
   rfl
  have hhs:∀v:Int,(L.heads.map intRow).set k [.int .i64 v]=(L.heads.set k v).map intRow:=fun v=>by simp[List.map_set,intRow]
  unfold stepA at hA
  rw[hg1]at hA
  dsimp only at hA
  have hcase:ln.fKind=4∨ln.fKind=7∨ln.fKind=1∨ln.fKind=2∨ln.fKind=6∨(ln.fKind=3∨ln.fKind=5):=by omega
  rcases hcase with h4|h7|h1|h2|h6|h35
  ·
   rw[if_pos h4]at hA
   have a1:A.g.items=setArg (emitG C L.g d 10 0 k x.chain).items (atL L.pos (ownOf C.p k)) (emitG C L.g d 10 0 k x.chain).items.length:=by rw[←hA]
   have a2:A.g.most=L.g.most:=by rw[←hA];rfl
   have a3:A.g.start=false:=by rw[←hA];rfl
   have a4:A.heads=L.heads:=by rw[←hA]
   have a5:A.pos=L.pos.set k L.g.items.length:=by rw[←hA]
   have a6:A.lv=L.lv:=by rw[←hA]
   obtain⟨o1,o2,o3,o4⟩:=hx.own4 hC he (by omega) hke hl h4
   obtain⟨y,m,hy,y3,hm,_⟩:=elseAt_some o1
   have hkk:=kindAt_of hl
   have hto:toOf C.p k=endOf C.p (ownOf C.p k:Int)+1:=by unfold toOf;rw[if_pos (by omega)]
   have hge:=endOf_ge C.p (ownOf C.p k)
   have hEn:exitsF C.p L.pos (x.f+1) (k - (x.f+1))++[(toOf C.p k,(L.g.items.length:Int))]=exitsF C.p (L.pos.set k L.g.items.length) (x.f+1) (k+1 - (x.f+1)):=exits_jump hkf (by unfold jumps;omega) (by rw[hIp];omega) _
   have gEm:=g_spec_emit C L.g d (scH (S++[(x,L.lv)])) 10 0 k x.chain hro hch
   have gP2:=g_spec_patch C (emitG C L.g d 10 0 k x.chain) d (scH (S++[(x,L.lv)])) (exitsF C.p (L.pos.set k L.g.items.length) (x.f+1) (k+1 - (x.f+1))) (-(k:Int)) (by unfold roomy emitG;simp only[List.length_append,List.length_cons,List.length_nil];omega) (by have:=exitsF_len C.p (L.pos.set k L.g.items.length) (x.f+1) (k+1 - (x.f+1));omega) (fun z hz=>by
    rw[←hEn,List.mem_append]at hz
    simp only[emitG,List.length_append,List.length_cons,List.length_nil]
    rcases hz with hz|hz
    ·have:=hEin z hz;omega
    ·simp only[List.mem_cons,List.not_mem_nil,or_false]at hz
     subst hz
     dsimp only
     omega)
   rw[patch_else hC hx he hkf hke hl h4,atL_set (by omega)]at gP2
   have hng:IntKind.i64.wrap (0 - (k:Int))= -(k:Int):=by rw[IntWalk.i64_in _ (by omega)];omega
   rw[←hng]at gP2
   repeat' ((conv=>whnf);first|(with_reducible first|apply Wx|apply W6)|refine cg gP ?_|apply oi|(apply fi<;>intro h)|refine⟨k,ln.tr,rfl,map_get hl,?_⟩|refine⟨_,rfl,?_⟩|((with_reducible show _=_);rfl))
   all_goals try((with_reducible refine Obl.mk ?_);exact KP)
   all_goals try exact KX
   all_goals try exact KK
   conv=>whnf
   refine⟨{i:Nat // x.f≤i∧i≤k},fun q=>⟨[(0,mkrP),(2,tI .i64 (x.f:Int)),(3,vInts x.chain),(4,tI .i64 (e:Int)),(5,.r (.c (.own (5,0,0)))),(6,.r (.c (.own (6,0,0)))),(7,tI .i64 (k:Int)),(9,tI .i64 (q.1:Int))],
    [((0,0,0),some (mkrB C L.g d (5,0,1) (5,0,2))),((5,0,1),some (.dar 7 (itR L.g.items) none)),((5,0,2),some (.dar 6 (scH (S++[(x,L.lv)])) none)),((5,0,0),some (.arr false 1 (L.heads.map intRow))),((6,0,0),some (.arr false 2 ((exitsF C.p L.pos (x.f+1) (k - (x.f+1))++(if ownOf C.p k < q.1 then [(toOf C.p k,(L.g.items.length:Int))]else [])).map exRow)))],[6,5,0]⟩,
    fun q=>k - q.1,⟨x.f,by omega,by omega⟩,?_,?_⟩
   ·skip
    repeat' ((conv=>whnf);first|(with_reducible first|apply Wx|apply W6)|apply oi|(apply fi<;>intro h)|refine⟨_,rfl,?_⟩|((with_reducible show _=_);rfl))
    all_goals try((with_reducible refine Obl.mk ?_);exact KP)
    all_goals exact⟨by rw[if_neg (by dsimp only;omega)];simp⟩
   intro⟨i,hi1,hi2⟩
   dsimp only at hi1 hi2 ⊢
   by_cases hik:i < k
   ·have gEl:=s_spec_ElseOf C.p (i:Int) (by omega)
    by_cases hio:i=ownOf C.p k
    ·subst hio
     rw[show elseOf C.p (ownOf C.p k:Int)=(k:Int) by rw[elseOf_at];exact endI_some o1]at gEl
     have gEn:=s_spec_EndOf C.p (ownOf C.p k:Int) (by omega)
     rw[if_neg (by omega),List.append_nil]
     have hml:((exitsF C.p L.pos (x.f+1) (k - (x.f+1))).map exRow).length=(exitsF C.p L.pos (x.f+1) (k - (x.f+1))).length:=by simp
     have hitl:=itR_len L.g.items
     repeat' ((conv=>whnf);first|(with_reducible first|apply Wx|apply W6)|apply oi|(apply fi<;>intro h)|refine cl gEl ?_|refine cl gEn ?_|refine⟨_,rfl,?_⟩|((with_reducible show _=_);rfl))
     all_goals try((with_reducible refine Obl.mk ?_);exact KP)
     all_goals try exact KX
     all_goals try(exfalso;simp at h;done)
     all_goals try exact⟨⟨by rw[hml];simp <;> omega,by rw[hml];simp <;> omega⟩⟩
     conv=>whnf
     refine⟨⟨ownOf C.p k+1,by omega,by omega⟩,?_,by dsimp only;omega⟩
     repeat' ((conv=>whnf);first|(with_reducible first|apply Wx|apply W6)|apply oi|(apply fi<;>intro h)|refine⟨_,rfl,?_⟩|((with_reducible show _=_);rfl))
     all_goals try((with_reducible refine Obl.mk ?_);exact KP)
     all_goals try exact⟨KW⟩
     all_goals(refine⟨?_⟩;dsimp only;rw[if_pos (by omega),hto,hitl,IntWalk.i64_in _ (by omega)];simp)
    ·have hne:elseOf C.p (i:Int)≠(k:Int):=fun hh=>by
      rw[elseOf_at]at hh
      cases hz:elseAt C.p i with
      | none=>rw[hz]at hh;simp only[endI]at hh;omega
      | some j=>
       rw[hz]at hh
       simp only[endI]at hh
       have:j=k:=by omega
       subst this
       exact hio (elseAt_inj hz o1)
     generalize elseOf C.p (i:Int)=el at *
     repeat' ((conv=>whnf);first|(with_reducible first|apply Wx|apply W6)|apply oi|(apply fi<;>intro h)|refine cl gEl ?_|refine⟨_,rfl,?_⟩|((with_reducible show _=_);rfl))
     all_goals try((with_reducible refine Obl.mk ?_);exact KP)
     all_goals try exact KX
     ·exact absurd (eq_of_beq h) hne
     ·conv=>whnf
      refine⟨⟨i+1,by omega,by omega⟩,?_,by dsimp only;omega⟩
      repeat' ((conv=>whnf);first|(with_reducible first|apply Wx|apply W6)|apply oi|(apply fi<;>intro h)|refine⟨_,rfl,?_⟩|((with_reducible show _=_);rfl))
      all_goals try((with_reducible refine Obl.mk ?_);exact KP)
      all_goals try exact⟨KW⟩
      all_goals(refine⟨?_⟩;dsimp only;congr 2)
      all_goals(by_cases hh:ownOf C.p k < i)
      all_goals first|rw[if_pos hh,if_pos (by omega)]|rw[if_neg hh,if_neg (by omega)]
   ·have hie:i=k:=by omega
    subst hie
    rw[if_pos o3,hEn]
    repeat' ((conv=>whnf);first|(with_reducible first|apply Wx|apply W6)|refine cg gEm ?_|refine cg gP2 ?_|apply oi|(apply fi<;>intro h)|refine⟨_,rfl,?_⟩|((with_reducible show _=_);rfl))
    all_goals try((with_reducible refine Obl.mk ?_);exact KP)
    all_goals try exact KX
    conv=>whnf
    refine⟨⟨(i+1,stepB C x i ln A,A.g.items),hQ⟩,?_,by dsimp only;omega⟩
    repeat' ((conv=>whnf);first|(with_reducible first|apply Wx|apply W6)|apply oi|(apply fi<;>intro h)|refine⟨_,rfl,?_⟩|((with_reducible show _=_);rfl))
    all_goals try((with_reducible refine Obl.mk ?_);exact KP)
    all_goals try exact⟨KW⟩
    all_goals(refine⟨?_⟩;dsimp only;simp only[b1,b2,b3,b5,b6,a1,a2,a3,a4,a5,a6];try rfl)
  ·
   rw[if_neg (by omega),if_pos h7]at hA
   obtain⟨o1,o2⟩:=hx.own7 hC he (by omega) hke hl h7
   have hee:exitsF C.p L.pos (x.f+1) (k+1 - (x.f+1))=exitsF C.p L.pos (x.f+1) (k - (x.f+1)):=exits_next hkf (by unfold jumps;rw[kindAt_of hl,h7];decide)
   rcases o2 with⟨o2,o3⟩|⟨o2,o3,o4,y,hy,o5⟩
   ·subst o2
    rw[if_pos o3]at hA
    have gN:=g_spec_number C L.g d (scH (S++[(x,L.lv)])) 0 k x.chain hro hch (by omega)
    have gL:=g_spec_leave C hC (emitG C L.g d 0 0 k x.chain) (d+1) S x L.lv k true (by unfold roomy emitG;simp only[List.length_append,List.length_cons,List.length_nil];omega) hch (by omega) (by omega) (by omega) L.heads L.pos
    rw[show leaveG C x k true (d+1) ⟨emitG C L.g d 0 0 k x.chain,L.heads,L.pos,L.lv⟩=A from hA,Int.add_sub_cancel]at gL
    have a4:A.heads=L.heads:=by rw[←hA];unfold leaveG;(repeat' split) <;> rfl
    have a5:A.pos=L.pos:=by rw[←hA];unfold leaveG;(repeat' split) <;> rfl
    repeat' ((conv=>whnf);first|(with_reducible first|apply Wx|apply W6)|refine cg gP ?_|refine cg gN ?_|refine cg gL ?_|apply oi|(apply fi<;>intro h)|refine⟨k,ln.tr,rfl,map_get hl,?_⟩|refine⟨_,rfl,?_⟩|((with_reducible show _=_);rfl))
    all_goals try((with_reducible refine Obl.mk ?_);exact KP)
    all_goals try exact KX
    all_goals try exact KK
    all_goals try(exfalso;simp at h;done)
    conv=>whnf
    refine⟨⟨(k+1,stepB C x k ln A,A.g.items),hQ⟩,?_,by dsimp only;omega⟩
    repeat' ((conv=>whnf);first|(with_reducible first|apply Wx|apply W6)|apply oi|(apply fi<;>intro h)|refine⟨_,rfl,?_⟩|((with_reducible show _=_);rfl))
    all_goals try((with_reducible refine Obl.mk ?_);exact KP)
    all_goals try exact⟨KW⟩
    all_goals(refine⟨?_⟩;dsimp only;simp only[b1,b2,b3,b5,b6,a4,a5,hee];try rfl)
   ·rw[if_neg (by omega)]at hA
    have hky:=kindAt_of hy
    have gEm:=g_spec_emit C L.g d (scH (S++[(x,L.lv)])) 10 (atL L.heads (ownOf C.p k)) k x.chain hro hch
    have a4:A.heads=L.heads:=by rw[←hA];split <;> rfl
    have a5:A.pos=L.pos:=by rw[←hA];split <;> rfl
    have a6:A.lv=L.lv:=by rw[←hA];split <;> rfl
    have a1:A.g=if kindAt C.p (ownOf C.p k)=5 then emitG C L.g d 10 (atL L.heads (ownOf C.p k)) k x.chain else L.g:=by rw[←hA];split <;> rfl
    have hend:endOf C.p (ownOf C.p k:Int)=(k:Int):=by rw[endOf_at];exact endI_some o1
    have hhd:(L.heads.map intRow)[ownOf C.p k]?=some (intRow (atL L.heads (ownOf C.p k))):=by
     rw[List.getElem?_map]
     have:ownOf C.p k < L.heads.length:=by omega
     rw[List.getElem?_eq_getElem this,atL,List.getElem?_eq_getElem this]
     rfl
    have hol:ownOf C.p k < (L.heads.map intRow).length:=by rw[List.length_map];omega
    repeat' ((conv=>whnf);first|(with_reducible first|apply Wx|apply W6)|refine cg gP ?_|apply oi|(apply fi<;>intro h)|refine⟨k,ln.tr,rfl,map_get hl,?_⟩|refine⟨_,rfl,?_⟩|((with_reducible show _=_);rfl))
    all_goals try((with_reducible refine Obl.mk ?_);exact KP)
    all_goals try exact KX
    all_goals try exact KK
    conv=>whnf
    refine⟨{i:Nat // x.f+1≤i∧i≤k},fun q=>⟨[(0,mkrP),(2,tI .i64 (x.f:Int)),(3,vInts x.chain),(4,tI .i64 (e:Int)),(5,.r (.c (.own (5,0,0)))),(6,.r (.c (.own (6,0,0)))),(7,tI .i64 (k:Int)),(11,tI .i64 (q.1:Int))],
     [((0,0,0),some (mkrB C (if ownOf C.p k < q.1 then A.g else L.g) d (5,0,1) (5,0,2))),((5,0,1),some (.dar 7 (itR (if ownOf C.p k < q.1 then A.g else L.g).items) none)),((5,0,2),some (.dar 6 (scH (S++[(x,L.lv)])) none)),((5,0,0),some (.arr false 1 (L.heads.map intRow))),((6,0,0),some (.arr false 2 ((exitsF C.p L.pos (x.f+1) (k - (x.f+1))).map exRow)))],[6,5,0]⟩,
     fun q=>k - q.1,⟨x.f+1,by omega,by omega⟩,?_,?_⟩
    ·skip
     repeat' ((conv=>whnf);first|(with_reducible first|apply Wx|apply W6)|apply oi|(apply fi<;>intro h)|refine⟨_,rfl,?_⟩|((with_reducible show _=_);rfl))
     all_goals try((with_reducible refine Obl.mk ?_);exact KP)
     all_goals try(refine⟨?_⟩;dsimp only;rw[if_neg (by omega)];done)
     all_goals try exact⟨KW⟩
    intro⟨i,hi1,hi2⟩
    dsimp only at hi1 hi2 ⊢
    by_cases hik:i < k
    ·have gEn:=s_spec_EndOf C.p (i:Int) (by omega)
     obtain⟨z,hz⟩:=get_of_lt (l:=C.p) (k:=i) (by omega)
     by_cases hio:i=ownOf C.p k
     ·subst hio
      rw[hend]at gEn
      rw[hy]at hz
      injection hz with hz
      subst hz
      rw[if_neg (by omega)]
      by_cases h5:y.fKind=5
      ·rw[if_pos (by omega)]at a1
       repeat' ((conv=>whnf);first|(with_reducible first|apply Wx|apply W6)|refine cg gEm ?_|apply oi|(apply fi<;>intro h)|refine cl gEn ?_|refine⟨(ownOf C.p k),y.tr,rfl,map_get hy,?_⟩|refine⟨ownOf C.p k,rfl,hol,?_⟩|refine⟨_,hhd,?_⟩|refine⟨_,rfl,?_⟩|((with_reducible show _=_);rfl))
       all_goals try((with_reducible refine Obl.mk ?_);exact KP)
       all_goals try exact KX
       all_goals try exact KK
       all_goals try(exfalso;simp at h;done)
       conv=>whnf
       refine⟨⟨ownOf C.p k+1,by omega,by omega⟩,?_,by dsimp only;omega⟩
       repeat' ((conv=>whnf);first|(with_reducible first|apply Wx|apply W6)|apply oi|(apply fi<;>intro h)|refine⟨_,rfl,?_⟩|((with_reducible show _=_);rfl))
       all_goals try((with_reducible refine Obl.mk ?_);exact KP)
       all_goals try exact⟨KW⟩
       all_goals(refine⟨?_⟩;dsimp only;rw[if_pos (by omega),a1])
      ·rw[if_neg (by omega)]at a1
       repeat' ((conv=>whnf);first|(with_reducible first|apply Wx|apply W6)|refine cg gEm ?_|apply oi|(apply fi<;>intro h)|refine cl gEn ?_|refine⟨(ownOf C.p k),y.tr,rfl,map_get hy,?_⟩|refine⟨ownOf C.p k,rfl,hol,?_⟩|refine⟨_,hhd,?_⟩|refine⟨_,rfl,?_⟩|((with_reducible show _=_);rfl))
       all_goals try((with_reducible refine Obl.mk ?_);exact KP)
       all_goals try exact KX
       all_goals try exact KK
       all_goals try(exfalso;simp at h;done)
       conv=>whnf
       refine⟨⟨ownOf C.p k+1,by omega,by omega⟩,?_,by dsimp only;omega⟩
       repeat' ((conv=>whnf);first|(with_reducible first|apply Wx|apply W6)|apply oi|(apply fi<;>intro h)|refine⟨_,rfl,?_⟩|((with_reducible show _=_);rfl))
       all_goals try((with_reducible refine Obl.mk ?_);exact KP)
       all_goals try exact⟨KW⟩
       all_goals(refine⟨?_⟩;dsimp only;rw[if_pos (by omega),a1])
     ·have hne:endOf C.p (i:Int)≠(k:Int):=fun hh=>by
       have h':=endOf_some hh (by omega)
       rw[Int.toNat_natCast]at h'
       exact hio (endAt_inj h' o1)
      generalize endOf C.p (i:Int)=en at *
      repeat' ((conv=>whnf);first|(with_reducible first|apply Wx|apply W6)|apply oi|(apply fi<;>intro h)|refine cl gEn ?_|refine⟨i,z.tr,rfl,map_get hz,?_⟩|refine⟨_,rfl,?_⟩|((with_reducible show _=_);rfl))
      all_goals try((with_reducible refine Obl.mk ?_);exact KP)
      all_goals try exact KX
      all_goals try(exfalso;exact hne (eq_of_beq (by assumption)))
      conv=>whnf
      refine⟨⟨i+1,by omega,by omega⟩,?_,by dsimp only;omega⟩
      have hsm:(if ownOf C.p k < i+1 then A.g else L.g)=if ownOf C.p k < i then A.g else L.g:=by
       by_cases hh:ownOf C.p k < i
       ·rw[if_pos hh,if_pos (by omega)]
       ·rw[if_neg hh,if_neg (by omega)]
      dsimp only
      rw[hsm]
      repeat' ((conv=>whnf);first|(with_reducible first|apply Wx|apply W6)|apply oi|(apply fi<;>intro h)|refine⟨_,rfl,?_⟩|((with_reducible show _=_);rfl))
      all_goals try((with_reducible refine Obl.mk ?_);exact KP)
      all_goals try exact⟨KW⟩
    ·have hie:i=k:=by omega
     subst hie
     rw[if_pos o4]
     repeat' ((conv=>whnf);first|(with_reducible first|apply Wx|apply W6)|apply oi|(apply fi<;>intro h)|refine⟨_,rfl,?_⟩|((with_reducible show _=_);rfl))
     all_goals try((with_reducible refine Obl.mk ?_);exact KP)
     all_goals try exact KX
     conv=>whnf
     refine⟨⟨(i+1,stepB C x i ln A,A.g.items),hQ⟩,?_,by dsimp only;omega⟩
     repeat' ((conv=>whnf);first|(with_reducible first|apply Wx|apply W6)|apply oi|(apply fi<;>intro h)|refine⟨_,rfl,?_⟩|((with_reducible show _=_);rfl))
     all_goals try((with_reducible refine Obl.mk ?_);exact KP)
     all_goals try exact⟨KW⟩
     all_goals(refine⟨?_⟩;dsimp only;simp only[b1,b2,b3,b5,b6,a4,a5,a6,hee];try rfl)
  ·
   rw[if_neg (by omega),if_neg (by omega),if_pos h1]at hA
   have hx1:=hexp (.inl h1)
   have gX:=hX hx1 (by omega)
   have hG1:=hG hx1
   have hix:=idxOf_le x.locals ln.fName
   have gI:=s_spec_l04Index x.locals ln.fName (by omega)
   have gS:=g_spec_store C hC g1 (d+1) (scH (S++[(x,L.lv)])) x (idxOf x.locals ln.fName) k x.chain (by unfold roomy;omega) hch (by omega) hxf (by omega)
   rw[Int.add_sub_cancel]at gS
   have a1:A.g=storeG C x g1 (d+1) (idxOf x.locals ln.fName) k x.chain:=by rw[←hA]
   have a4:A.heads=L.heads.set k L.g.items.length:=by rw[←hA]
   have a5:A.pos=L.pos:=by rw[←hA]
   have a6:A.lv=L.lv:=by rw[←hA]
   have hee:exitsF C.p L.pos (x.f+1) (k+1 - (x.f+1))=exitsF C.p L.pos (x.f+1) (k - (x.f+1)):=exits_next hkf (by unfold jumps;rw[kindAt_of hl,h1];decide)
   generalize idxOf x.locals ln.fName=ix at *
   repeat' ((conv=>whnf);first|(with_reducible first|apply Wx|apply W6)|refine cg gP ?_|refine cg gX ?_|refine cg gS ?_|apply oi|(apply fi<;>intro h)|refine⟨k,ln.tr,rfl,map_get hl,?_⟩|refine⟨k,rfl,hIl,?_⟩|refine⟨_,hhr,?_⟩|refine⟨S.length,hw L.lv,hlt L.lv,?_⟩|refine⟨_,hrow L.lv,?_⟩|refine cl gI ?_|refine⟨_,rfl,?_⟩|((with_reducible show _=_);rfl))
   all_goals try((with_reducible refine Obl.mk ?_);exact KP)
   all_goals try exact KX
   all_goals try exact KK
   conv=>whnf
   refine⟨⟨(k+1,stepB C x k ln A,A.g.items),hQ⟩,?_,by dsimp only;omega⟩
   repeat' ((conv=>whnf);first|(with_reducible first|apply Wx|apply W6)|apply oi|(apply fi<;>intro h)|refine⟨_,rfl,?_⟩|((with_reducible show _=_);rfl))
   all_goals try((with_reducible refine Obl.mk ?_);exact KP)
   all_goals try exact⟨KW⟩
   all_goals(refine⟨?_⟩;dsimp only;simp only[b1,b2,b3,b5,b6,a1,a4,a5,a6,hee,hitl,←hhs];try rfl)
  ·
   rw[if_neg (by omega),if_neg (by omega),if_neg (by omega),if_pos h2]at hA
   have hx1:=hexp (.inr (.inl h2))
   have gX:=hX hx1 (by omega)
   have hG1:=hG hx1
   have gS:=g_spec_emit C g1 (d+1) (scH (S++[(x,L.lv)])) 17 0 k x.chain (by unfold roomy;omega) hch
   have a1:A.g=emitG C g1 (d+1) 17 0 k x.chain:=by rw[←hA]
   have a4:A.heads=L.heads.set k L.g.items.length:=by rw[←hA]
   have a5:A.pos=L.pos:=by rw[←hA]
   have a6:A.lv=L.lv:=by rw[←hA]
   have hee:exitsF C.p L.pos (x.f+1) (k+1 - (x.f+1))=exitsF C.p L.pos (x.f+1) (k - (x.f+1)):=exits_next hkf (by unfold jumps;rw[kindAt_of hl,h2];decide)
   repeat' ((conv=>whnf);first|(with_reducible first|apply Wx|apply W6)|refine cg gP ?_|refine cg gX ?_|refine cg gS ?_|apply oi|(apply fi<;>intro h)|refine⟨k,ln.tr,rfl,map_get hl,?_⟩|refine⟨k,rfl,hIl,?_⟩|refine⟨_,hhr,?_⟩|refine⟨_,rfl,?_⟩|((with_reducible show _=_);rfl))
   all_goals try((with_reducible refine Obl.mk ?_);exact KP)
   all_goals try exact KX
   all_goals try exact KK
   conv=>whnf
   refine⟨⟨(k+1,stepB C x k ln A,A.g.items),hQ⟩,?_,by dsimp only;omega⟩
   repeat' ((conv=>whnf);first|(with_reducible first|apply Wx|apply W6)|apply oi|(apply fi<;>intro h)|refine⟨_,rfl,?_⟩|((with_reducible show _=_);rfl))
   all_goals try((with_reducible refine Obl.mk ?_);exact KP)
   all_goals try exact⟨KW⟩
   all_goals(refine⟨?_⟩;dsimp only;simp only[b1,b2,b3,b5,b6,a1,a4,a5,a6,hee,hitl,←hhs];try rfl)
  ·
   rw[if_neg (by omega),if_neg (by omega),if_neg (by omega),if_neg (by omega),if_pos h6]at hA
   have hx1:=hexp (.inr (.inr (.inr (.inr h6))))
   have gX:=hX hx1 (by omega)
   have hG1:=hG hx1
   have gS:=g_spec_leave C hC g1 (d+1) S x L.lv k false (by unfold roomy;omega) hch (by omega) (by omega) (by omega) (L.heads.set k L.g.items.length) L.pos
   rw[hA,Int.add_sub_cancel]at gS
   have a4:A.heads=L.heads.set k L.g.items.length:=by rw[←hA];unfold leaveG;(repeat' split) <;> rfl
   have a5:A.pos=L.pos:=by rw[←hA];unfold leaveG;(repeat' split) <;> rfl
   have hee:exitsF C.p L.pos (x.f+1) (k+1 - (x.f+1))=exitsF C.p L.pos (x.f+1) (k - (x.f+1)):=exits_next hkf (by unfold jumps;rw[kindAt_of hl,h6];decide)
   repeat' ((conv=>whnf);first|(with_reducible first|apply Wx|apply W6)|refine cg gP ?_|refine cg gX ?_|refine cg gS ?_|apply oi|(apply fi<;>intro h)|refine⟨k,ln.tr,rfl,map_get hl,?_⟩|refine⟨k,rfl,hIl,?_⟩|refine⟨_,hhr,?_⟩|refine⟨_,rfl,?_⟩|((with_reducible show _=_);rfl))
   all_goals try((with_reducible refine Obl.mk ?_);exact KP)
   all_goals try exact KX
   all_goals try exact KK
   conv=>whnf
   refine⟨⟨(k+1,stepB C x k ln A,A.g.items),hQ⟩,?_,by dsimp only;omega⟩
   repeat' ((conv=>whnf);first|(with_reducible first|apply Wx|apply W6)|apply oi|(apply fi<;>intro h)|refine⟨_,rfl,?_⟩|((with_reducible show _=_);rfl))
   all_goals try((with_reducible refine Obl.mk ?_);exact KP)
   all_goals try exact⟨KW⟩
   all_goals(refine⟨?_⟩;dsimp only;simp only[b1,b2,b3,b5,b6,a4,a5,hee,hitl,←hhs];try rfl)
  ·
   rw[if_neg (by omega),if_neg (by omega),if_neg (by omega),if_neg (by omega),if_neg (by omega)]at hA
   have hx1:=hexp (by omega)
   have gX:=hX hx1 (by omega)
   have hG1:=hG hx1
   have gS:=g_spec_emit C g1 (d+1) (scH (S++[(x,L.lv)])) 11 0 k x.chain (by unfold roomy;omega) hch
   have a1:A.g=emitG C g1 (d+1) 11 0 k x.chain:=by rw[←hA]
   have a4:A.heads=L.heads.set k L.g.items.length:=by rw[←hA]
   have a5:A.pos=L.pos.set k g1.items.length:=by rw[←hA]
   have a6:A.lv=L.lv:=by rw[←hA]
   have hkk:=kindAt_of hl
   have hee:=exits_jump (pos:=L.pos) (p:=C.p) (f:=x.f) (k:=k) hkf (by unfold jumps;omega) (by rw[hIp];omega) (g1.items.length:Int)
   have gEn:=s_spec_EndOf C.p (k:Int) (by omega)
   have gEl:=s_spec_ElseOf C.p (k:Int) (by omega)
   have hge:=endOf_ge C.p k
   have hgl:-1≤elseOf C.p (k:Int)∧elseOf C.p (k:Int)≤C.p.length:=by
    rw[elseOf_at]
    cases hz:elseAt C.p k with
    | none=>simp only[endI];omega
    | some j=>
     obtain⟨_,_,_,_,_,_,_,w,hw,_⟩:=elseAt_some hz
     have:=lt_of_get hw
     simp only[endI];omega
   have hto:toOf C.p k=if ln.fKind=3∧0≤elseOf C.p (k:Int)then - elseOf C.p (k:Int)else endOf C.p (k:Int)+1:=by unfold toOf;rw[if_neg (by omega),hkk]
   have hml:((exitsF C.p L.pos (x.f+1) (k - (x.f+1))).map exRow).length=(exitsF C.p L.pos (x.f+1) (k - (x.f+1))).length:=by simp
   have hitg:=itR_len g1.items
   generalize toOf C.p k=to at *
   generalize endOf C.p (k:Int)=en at *
   generalize elseOf C.p (k:Int)=el at *
   have hw1:IntKind.i64.wrap (en+1)=en+1:=by rw[IntWalk.i64_in _ (by omega)]
   have hw2:IntKind.i64.wrap (0 - el)= - el:=by rw[IntWalk.i64_in _ (by omega)];omega
   repeat' ((conv=>whnf);first|(with_reducible first|apply Wx|apply W6)|refine cg gP ?_|refine cg gX ?_|refine cg gS ?_|apply oi|(apply fi<;>intro h)|refine⟨k,ln.tr,rfl,map_get hl,?_⟩|refine⟨k,rfl,hIl,?_⟩|refine⟨_,hhr,?_⟩|refine cl gEn ?_|refine cl gEl ?_|refine⟨_,rfl,?_⟩|((with_reducible show _=_);rfl))
   all_goals try((with_reducible refine Obl.mk ?_);exact KP)
   all_goals try exact KX
   all_goals try exact KK
   all_goals try exact⟨⟨by rw[hml];simp <;> omega,by rw[hml];simp <;> omega⟩⟩
   all_goals(conv=>whnf)
   all_goals(refine⟨⟨(k+1,stepB C x k ln A,A.g.items),hQ⟩,?_,by dsimp only;omega⟩)
   repeat' ((conv=>whnf);first|(with_reducible first|apply Wx|apply W6)|apply oi|(apply fi<;>intro h)|refine⟨_,rfl,?_⟩|((with_reducible show _=_);rfl))
   all_goals try((with_reducible refine Obl.mk ?_);exact KP)
   all_goals try exact⟨KW⟩
   all_goals(refine⟨?_⟩;dsimp only;simp only[b1,b2,b3,b5,b6,a1,a4,a5,a6,←hee,hitl,hitg,←hhs,hw1,hw2];try rfl)
   all_goals first
    |(rw[hto,if_pos ⟨eq_of_beq (by assumption),of_decide_eq_true (by assumption)⟩];simp)
    |(rw[hto,if_neg (fun hh=>absurd hh.2 (of_decide_eq_false (by assumption)))];simp)
    |(rw[hto,if_neg (fun hh=>by
                     have h9:(ln.fKind==3)=false:=by assumption
                     rw[hh.1]at h9;cases h9)];simp)
 ·have hk1:k=e+1:=by have:=hI.hi;omega
  subst hk1
  have hf:=hI.fin
  rw[Nat.sub_self,runL]at hf
  subst hf
  rw[hlast rfl]
  repeat' ((conv=>whnf);first|(with_reducible first|apply Wx|apply W6)|apply oi|(apply fi<;>intro h)|refine⟨_,rfl,?_⟩|((with_reducible show _=_);rfl))
  all_goals try((with_reducible refine Obl.mk ?_);exact KP)
  all_goals try exact KX
end Go.Proofs.YtogdbgmiigfmfaaGreat
namespace Go.Proofs.YtogdbgmiigfmfaaGreat
open Go.Sim
set_option maxRecDepth 100000
set_option maxHeartbeats 4000000
structure PgOk (p:List TLine):Prop where
 len:p.length≤60
 small:smallT 1048576 (.lst 4 (p.map TLine.tr))
 line:∀(k:Nat) (ln:TLine),p[k]?=some ln→0≤ln.fKind∧ln.fKind≤7∧ln.fArgs.length≤4∧ln.fExpr.length≤20∧((ln.fKind=1∨ln.fKind=2∨ln.fKind=3∨ln.fKind=5∨ln.fKind=6)→exprOk ln.fExpr=true)
 fn:∀(g:Nat) (ln:TLine),p[g]?=some ln→ln.fKind=0→∃e,endAt p g=some e∧(localsOf p (g:Int)).length≤8∧ln.fArgs.length≤(localsOf p (g:Int)).length∧∀(k:Nat) (y:TLine),g < k→k < e→p[k]?=some y→y.fKind≠0∧(∀t∈y.fExpr,t.fKind=7→∃f,findN p 0 t.fName=some f∧(argsN p f:Int)=t.fNum)∧(y.fKind=4→∃i,g≤i∧i < k∧elseAt p i=some k)
theorem PgOk.cx {p:List TLine}(h:PgOk p){b:TBuild}{framed:Bool}{words args:Int}(ha:0≤args∧args≤4)(hw:0≤words∧words≤1000)(hi:0≤b.fInline∧b.fInline≤3):CxOk ⟨p,b,framed,words,args⟩:=
 ⟨h.len,h.small,h.line,h.fn,ha,hw,hi⟩
theorem chain_funs {F:Nat→Nat→Bool}{l:List TLine}(hF:∀k e,endAt l k=some e→F k e=true→∀i x,k < i→i < e→l[i]?=some x→x.fKind≠0):∀(n k:Nat),chainN F l n k=true→∀g x,k≤g→l[g]?=some x→x.fKind=0→∃e,endAt l g=some e∧F g e=true
 | 0,k,h,g,x,hk,hg,_=>by
  rw[chainN,decide_eq_true_eq]at h
  have:=lt_of_get hg
  omega
 | n+1,k,h,g,x,hk,hg,h0=>by
  rw[chainN,if_pos (by have:=lt_of_get hg;omega)]at h
  split at h
  ·rename_i y e hy he
   split at h
   ·rename_i hc
    by_cases hgk:g=k
    ·subst hgk;exact⟨e,he,hc.2⟩
    ·by_cases hge:g≤e
     ·by_cases hge2:g=e
      ·subst hge2
       obtain⟨z,hz,h7⟩:=endAt_kind he
       rw[hg]at hz
       injection hz with hz
       subst hz
       omega
      ·exact absurd h0 (hF k e he hc.2 g x (by omega) (by omega) hg)
     ·exact chain_funs hF n (e+1) h g x (by omega) hg h0
   ·cases h
  ·cases h
theorem body_known {l:List TLine}{locals:List (List UInt8)}{e:Nat}:∀(n i d:Nat),e - i≤n→e≤l.length→bodyN l locals e n i d=true→∀j x,i≤j→j < e→l[j]?=some x→exprKnown l locals x.fExpr=true
 | 0,i,d,hn,_,_,j,x,h1,h2,_=>by omega
 | n+1,i,d,hn,he,hb,j,x,h1,h2,hx=>by
  rw[bodyN,if_pos (by omega)]at hb
  obtain⟨y,hy⟩:=get_of_lt (l:=l) (k:=i) (by omega)
  rw[hy]at hb
  dsimp only at hb
  split at hb
  ·cases hb
  ·split at hb
   ·rename_i hk
    by_cases hj:j=i
    ·subst hj
     rw[hy]at hx
     injection hx with hx
     subst hx
     exact hk.2
    ·exact body_known n (i+1) _ (by omega) he hb j x (by omega) h2 hx
   ·cases hb
theorem addName_ge (acc:List (List UInt8))(s:List UInt8):acc.length≤(addName acc s).length:=by
 unfold addName
 split <;> simp
theorem locN_ge {l:List TLine}{e:Nat}:∀(n i:Nat) (acc:List (List UInt8)),acc.length≤(locN l e n i acc).length
 | 0,_,_=>by simp[locN]
 | n+1,i,acc=>by
  rw[locN]
  split
  ·split
   ·refine Nat.le_trans ?_ (locN_ge n _ _)
    split
    ·exact addName_ge _ _
    ·exact Nat.le_refl _
   ·exact Nat.le_refl _
  ·exact Nat.le_refl _
theorem hasExpr_iff {k:Int}:hasExpr k=true↔(k=1∨k=2∨k=3∨k=5∨k=6):=by
 unfold hasExpr
 simp
theorem lineOk_facts {x:TLine}(h:lineOk x=true):0≤x.fKind∧x.fKind≤7∧x.fArgs.length≤4∧x.fExpr.length≤20∧((x.fKind=1∨x.fKind=2∨x.fKind=3∨x.fKind=5∨x.fKind=6)→exprOk x.fExpr=true):=by
 have h4:x.fArgs.length≤4:=by
  rcases Nat.lt_or_ge 4 x.fArgs.length with h'|h'
  ·rw[lineOk_args h']at h;cases h
  ·exact h'
 unfold lineOk at h
 simp only[Bool.and_eq_true,within_iff]at h
 obtain⟨⟨h1,h2⟩,_,_,h3⟩:=h
 refine⟨h1,h2,h4,?_,fun hk=>by rw[if_pos (hasExpr_iff.2 hk)]at h3;exact h3⟩
 split at h3
 ·unfold exprOk at h3
  simp only[Bool.and_eq_true,decide_eq_true_eq]at h3
  exact h3.1
 ·have:=eq_of_beq h3
  omega
theorem PgOk_of {p:List TLine}(hs:smallT 1048576 (.lst 4 (p.map TLine.tr)))(h:programOk p=true):PgOk p:=by
 unfold programOk at h
 simp only[Bool.and_eq_true,decide_eq_true_eq]at h
 obtain⟨h1,_,h2,_,_,h3,h4⟩:=h
 have hS:=chainS_all p
 rw[h3,h4]at hS
 have hlines:∀(k:Nat) (ln:TLine),p[k]?=some ln→0≤ln.fKind∧ln.fKind≤7∧ln.fArgs.length≤4∧ln.fExpr.length≤20∧((ln.fKind=1∨ln.fKind=2∨ln.fKind=3∨ln.fKind=5∨ln.fKind=6)→exprOk ln.fExpr=true):=fun k ln hk=>lineOk_facts (List.all_eq_true.1 h2 ln (List.mem_of_getElem? hk))
 have hlt:∀k e,endAt p k=some e→e≤p.length:=fun k e he=>by obtain⟨_,_,_,_,_,h⟩:=endAt_some he;omega
 have hF:∀k e,endAt p k=some e→fnOkS p k e=true→∀i x,k < i→i < e→p[i]?=some x→x.fKind≠0:=fun k e he hf=>by
  rw[fnOkS_eq,Bool.and_eq_true]at hf
  exact fnOk_nofun hf.1 (hlt k e he)
 refine⟨h1,hs,hlines,fun g ln hg h0=>?_⟩
 obtain⟨e,he,hf⟩:=chain_funs hF p.length 0 hS g ln (Nat.zero_le _) hg h0
 have hf':=hf
 rw[fnOkS_eq,Bool.and_eq_true]at hf'
 obtain⟨hf1,hf2⟩:=hf'
 have hf1':=hf1
 rw[fnOk,Bool.and_eq_true,decide_eq_true_eq]at hf1'
 obtain⟨hl8,hbody⟩:=hf1'
 refine⟨e,he,hl8,?_,fun k y hk1 hk2 hy=>⟨hF g e he hf k y hk1 hk2 hy,fun t ht h7=>?_,fun h4'=>?_⟩⟩
 ·unfold localsOf
  rw[if_pos (by omega),Int.toNat_natCast,hg,he]
  dsimp only
  rw[if_pos h0]
  exact locN_ge _ _ _
 ·have hkn:=body_known (e - (g+1)) (g+1) 0 (Nat.le_refl _) (hlt g e he) hbody k y (by omega) hk2 hy
  unfold exprKnown at hkn
  have:=List.all_eq_true.1 hkn t ht
  unfold tokKnown at this
  rw[if_neg (by omega),if_pos h7]at this
  split at this
  ·rename_i f hfi
   refine⟨f,hfi,?_⟩
   unfold argsN
   split at this
   ·rename_i x hx
    rw[hx]
    exact eq_of_beq this
   ·cases this
  ·cases this
 ·have:=(elsesIn_iff (Nat.le_refl _)).1 hf2 k y (by omega) hk2 hy h4'
  rw[anyE_iff]at this
  obtain⟨i,i1,i2,i3⟩:=this
  exact⟨i,i1,by omega,i3⟩
def alike (p q:List TLine):Prop:=p.map (fun x=>(x.fKind,x.fName,x.fArgs))=q.map (fun x=>(x.fKind,x.fName,x.fArgs))
theorem alike.len {p q:List TLine}(h:alike p q):p.length=q.length:=by simpa using congrArg List.length h
theorem alike.get {p q:List TLine}(h:alike p q){k:Nat}{x:TLine}(hx:p[k]?=some x):∃y,q[k]?=some y∧x.fKind=y.fKind∧x.fName=y.fName∧x.fArgs=y.fArgs:=by
 have:=congrArg (·[k]?) h
 simp only[List.getElem?_map,hx,Option.map_some]at this
 cases hy:q[k]? with
 | none=>rw[hy]at this;cases this
 | some y=>
  rw[hy]at this
  simp only[Option.map_some,Option.some.injEq,Prod.mk.injEq]at this
  exact⟨y,rfl,this.1,this.2.1,this.2.2⟩
theorem alike.none {p q:List TLine}(h:alike p q){k:Nat}(hx:p[k]?=none):q[k]?=none:=by
 rw[List.getElem?_eq_none_iff]at hx ⊢
 have:=h.len
 omega
theorem alike.symm {p q:List TLine}(h:alike p q):alike q p:=Eq.symm h
theorem alike.drop {p q:List TLine}(h:alike p q)(n:Nat):alike (p.drop n) (q.drop n):=by
 unfold alike at *
 rw[List.map_drop,List.map_drop,h]
theorem alike.endN:∀{p q:List TLine},alike p q→∀(i o:Nat),endN p i o=endN q i o
 | [],[],_,_,_=>rfl
 | x::p,y::q,h,i,o=>by
  simp only[alike,List.map_cons,List.cons.injEq,Prod.mk.injEq]at h
  have ih:=alike.endN (p:=p) (q:=q) h.2
  rw[Go.Proofs.YtogdbgmiigfmfaaGreat.endN,Go.Proofs.YtogdbgmiigfmfaaGreat.endN,h.1.1,ih,ih,ih]
 | [],_::_,h,_,_=>by simp[alike]at h
 | _::_,[],h,_,_=>by simp[alike]at h
theorem alike.endAt {p q:List TLine}(h:alike p q)(k:Nat):endAt p k=endAt q k:=by
 unfold Go.Proofs.YtogdbgmiigfmfaaGreat.endAt
 cases hx:p[k]? with
 | none=>rw[h.none hx]
 | some x=>
  obtain⟨y,hy,e1,_⟩:=h.get hx
  rw[hy]
  dsimp only
  rw[e1,(h.drop (k+1)).endN]
theorem alike.elseN {p q:List TLine}(h:alike p q){e:Nat}:∀(n i:Nat),elseN p e n i=elseN q e n i
 | 0,_=>rfl
 | n+1,i=>by
  rw[Go.Proofs.YtogdbgmiigfmfaaGreat.elseN,Go.Proofs.YtogdbgmiigfmfaaGreat.elseN]
  cases hx:p[i]? with
  | none=>rw[h.none hx]
  | some x=>
   obtain⟨y,hy,e1,_⟩:=h.get hx
   rw[hy]
   dsimp only
   rw[e1,h.endAt i]
   cases Go.Proofs.YtogdbgmiigfmfaaGreat.endAt q i with
   | none=>dsimp only;rw[alike.elseN h n]
   | some m=>dsimp only;rw[alike.elseN h n,alike.elseN h n]
theorem alike.elseAt {p q:List TLine}(h:alike p q)(k:Nat):elseAt p k=elseAt q k:=by
 unfold Go.Proofs.YtogdbgmiigfmfaaGreat.elseAt
 rw[h.endAt k]
 cases hx:p[k]? with
 | none=>rw[h.none hx]
 | some x=>
  obtain⟨y,hy,e1,_⟩:=h.get hx
  rw[hy]
  cases Go.Proofs.YtogdbgmiigfmfaaGreat.endAt q k with
  | none=>rfl
  | some e=>dsimp only;rw[e1,h.elseN]
theorem alike.findN:∀{p q:List TLine},alike p q→∀(i:Nat) (s:List UInt8),findN p i s=findN q i s
 | [],[],_,_,_=>rfl
 | x::p,y::q,h,i,s=>by
  simp only[alike,List.map_cons,List.cons.injEq,Prod.mk.injEq]at h
  have ih:=alike.findN (p:=p) (q:=q) h.2
  rw[Go.Proofs.YtogdbgmiigfmfaaGreat.findN,Go.Proofs.YtogdbgmiigfmfaaGreat.findN,h.1.1,h.1.2.1,ih]
 | [],_::_,h,_,_=>by simp[alike]at h
 | _::_,[],h,_,_=>by simp[alike]at h
theorem alike.locN {p q:List TLine}(h:alike p q){e:Nat}:∀(n i:Nat) (acc:List (List UInt8)),locN p e n i acc=locN q e n i acc
 | 0,_,_=>rfl
 | n+1,i,acc=>by
  rw[Go.Proofs.YtogdbgmiigfmfaaGreat.locN,Go.Proofs.YtogdbgmiigfmfaaGreat.locN]
  cases hx:p[i]? with
  | none=>rw[h.none hx]
  | some x=>
   obtain⟨y,hy,e1,e2,_⟩:=h.get hx
   rw[hy]
   dsimp only
   rw[e1,e2,alike.locN h n]
theorem alike.localsOf {p q:List TLine}(h:alike p q)(k:Int):localsOf p k=localsOf q k:=by
 unfold Go.Proofs.YtogdbgmiigfmfaaGreat.localsOf
 rw[h.endAt]
 cases hx:p[k.toNat]? with
 | none=>rw[h.none hx]
 | some x=>
  obtain⟨y,hy,e1,_,e3⟩:=h.get hx
  rw[hy]
  cases Go.Proofs.YtogdbgmiigfmfaaGreat.endAt q k.toNat with
  | none=>rfl
  | some e=>dsimp only;rw[e1,e3,h.locN]
theorem alike.argsN {p q:List TLine}(h:alike p q)(g:Nat):argsN p g=argsN q g:=by
 unfold Go.Proofs.YtogdbgmiigfmfaaGreat.argsN
 cases hx:p[g]? with
 | none=>rw[h.none hx]
 | some x=>
  obtain⟨y,hy,_,_,e3⟩:=h.get hx
  rw[hy]
  dsimp only
  rw[e3]
theorem foldLine_alike (p:List TLine):alike (p.map foldLine) p:=by
 unfold alike
 rw[List.map_map]
 refine List.map_congr_left fun x _=>?_
 simp only[Function.comp,foldLine]
 split <;> rfl
theorem ar_num (v:Int):ar ⟨0,v,[]⟩=0:=by
 unfold ar arity
 split <;> simp
theorem numE_ok {v:Int}(h:within v 0 999=true):(numE v).ok:=⟨by simp[tokOk,h],by rw[ar_num];rfl,trivial⟩
theorem finF_ok {t:TTok}{fs:List Ex}(h1:tokOk t=true)(h2:fs.length=ar t)(h3:exsOk fs):(finF t fs).ok:=by
 unfold finF
 split
 ·split
  ·rename_i hc
   exact numE_ok hc.2.2.2
  ·exact⟨h1,h2,h3⟩
 ·exact⟨h1,h2,h3⟩
mutual
theorem Ex.fold_ok:∀e:Ex,e.ok→e.fold.ok
 | .node t es,h=>by rw[Ex.fold];exact finF_ok h.1 (by rw[exFold_len];exact h.2.1) (exFold_ok es h.2.2)
theorem exFold_ok:∀es:List Ex,exsOk es→exsOk (exFold es)
 | [],_=>by rw[exFold];trivial
 | a::es,h=>by rw[exFold];exact⟨a.fold_ok h.1,exFold_ok es h.2⟩
end
theorem finF_mem {t:TTok}{fs:List Ex}{z:TTok}(h:z∈(finF t fs).toks):z=t∨z∈exToks fs∨∃n,z=⟨0,n,[]⟩:=by
 unfold finF at h
 split at h
 ·split at h
  ·simp only[numE,Ex.toks,exToks,List.mem_cons,List.not_mem_nil,or_false]at h
   exact .inr (.inr ⟨_,h⟩)
  ·rw[Ex.toks,List.mem_cons]at h
   exact h.imp id .inl
 ·rw[Ex.toks,List.mem_cons]at h
  exact h.imp id .inl
mutual
theorem Ex.fold_mem:∀(e:Ex) {z:TTok},z∈e.fold.toks→z∈e.toks∨∃n,z=⟨0,n,[]⟩
 | .node t es,z,h=>by
  rw[Ex.fold]at h
  rw[Ex.toks,List.mem_cons]
  rcases finF_mem h with h|h|h
  ·exact .inl (.inl h)
  ·rcases exFold_mem es h with h|h
   ·exact .inl (.inr h)
   ·exact .inr h
  ·exact .inr h
theorem exFold_mem:∀(es:List Ex) {z:TTok},z∈exToks (exFold es)→z∈exToks es∨∃n,z=⟨0,n,[]⟩
 | [],z,h=>by rw[exFold]at h;exact .inl h
 | a::es,z,h=>by
  rw[exFold,exToks,List.mem_append]at h
  rw[exToks,List.mem_append]
  rcases h with h|h
  ·exact(a.fold_mem h).imp .inl id
  ·exact(exFold_mem es h).imp .inr id
end
theorem exprOk_of {e:Ex}(ho:e.ok)(hl:e.toks.length≤20):exprOk e.toks=true:=by
 have h:=stands_end (l:=e.toks) (p:=0) ⟨[],by rw[List.drop_zero,List.append_nil]⟩ ho
 have hp:=e.toks_pos
 unfold exprOk
 rw[decide_eq_true hl,decide_eq_true hp,show exprEnd e.toks 0=_ from h]
 simp
theorem foldL_facts {l:List TTok}(h:exprOk l=true):exprOk (foldL l)=true∧∀z∈foldL l,z∈l∨∃n,z=⟨0,n,[]⟩:=by
 obtain⟨e,h1,h2,h3⟩:=foldL_ok h
 have hl:=foldL_len l
 have h20:l.length≤20:=by
  unfold exprOk at h
  simp only[Bool.and_eq_true,decide_eq_true_eq]at h
  exact h.1
 rw[h3]at hl ⊢
 refine⟨exprOk_of (e.fold_ok h1) (by omega),fun z hz=>?_⟩
 rw[h2]
 exact e.fold_mem hz
theorem smallRs_ofI {L:Int}:∀{rows:List (List Tr)},(∀r∈rows,smallR L r)→smallRs L rows
 | [],_=>by rw[smallRs];trivial
 | r::rs,h=>by rw[smallRs];exact⟨h r (by simp),smallRs_ofI fun x hx=>h x (by simp[hx])⟩
theorem foldLine_facts {x:TLine}(hs:smallR 1048576 x.tr)(he:(x.fKind=1∨x.fKind=2∨x.fKind=3∨x.fKind=5∨x.fKind=6)→exprOk x.fExpr=true)(h20:x.fExpr.length≤20):
  (foldLine x).fKind=x.fKind∧(foldLine x).fArgs=x.fArgs∧(foldLine x).fExpr.length≤20∧((x.fKind=1∨x.fKind=2∨x.fKind=3∨x.fKind=5∨x.fKind=6)→exprOk (foldLine x).fExpr=true)∧(∀z∈(foldLine x).fExpr,z∈x.fExpr∨∃n,z=⟨0,n,[]⟩)∧smallR 1048576 (foldLine x).tr:=by
 unfold foldLine
 split
 ·rename_i hpos
  have hl:=foldL_len x.fExpr
  have hz:∀z∈foldL x.fExpr,z∈x.fExpr∨∃n,z=⟨0,n,[]⟩:=by
   cases hx:exprOk x.fExpr with
   | true=>exact(foldL_facts hx).2
   | false=>rw[foldL_no hx];intro z hz;cases hz
  refine⟨rfl,rfl,by dsimp only;omega,fun hk=>(foldL_facts (he hk)).1,hz,?_⟩
  simp only[TLine.tr,smallR]at hs ⊢
  obtain⟨q0,q1,q2,q3,q4⟩:=hs
  refine⟨q0,q1,q2,?_,q4⟩
  have hsl:=small_len q3
  rw[smallT]
  refine⟨by rw[List.length_map];omega,smallRs_ofI fun r hr=>?_⟩
  obtain⟨z,hz1,rfl⟩:=List.mem_map.1 hr
  rcases hz z hz1 with h|⟨n,rfl⟩
  ·exact smallRs_map q3 h
  ·simp[TTok.tr,smallR,smallT]
 ·exact⟨rfl,rfl,h20,he,fun z hz=> .inl hz,hs⟩
theorem PgOk.fold {p:List TLine}(h:PgOk p):PgOk (p.map foldLine):=by
 have ha:=foldLine_alike p
 have hget:∀{k:Nat} {y:TLine},(p.map foldLine)[k]?=some y→∃x,p[k]?=some x∧y=foldLine x:=fun{k y} hy=>by
  rw[List.getElem?_map]at hy
  cases hx:p[k]? with
  | none=>rw[hx]at hy;cases hy
  | some x=>rw[hx]at hy;injection hy with hy;exact⟨x,rfl,hy.symm⟩
 have hf:∀{k:Nat} {x:TLine},p[k]?=some x→_:=fun{k x} hx=>foldLine_facts (smallRs_map h.small (List.mem_of_getElem? hx)) (h.line k x hx).2.2.2.2 (h.line k x hx).2.2.2.1
 refine⟨by rw[List.length_map];exact h.len,?_,fun k y hy=>?_,fun g y hy h0=>?_⟩
 ·rw[smallT]
  refine⟨by have:=h.len;simp;omega,smallRs_ofI fun r hr=>?_⟩
  obtain⟨y,hy,rfl⟩:=List.mem_map.1 hr
  obtain⟨x,hx,rfl⟩:=List.mem_map.1 hy
  obtain⟨k,hk,hkx⟩:=List.mem_iff_getElem.1 hx
  exact(hf (k:=k) (x:=x) (by rw[List.getElem?_eq_getElem hk,hkx])).2.2.2.2.2
 ·obtain⟨x,hx,rfl⟩:=hget hy
  obtain⟨f1,f2,f3,f4,_⟩:=hf hx
  obtain⟨l1,l2,l3,_⟩:=h.line k x hx
  rw[f1,f2]
  exact⟨l1,l2,l3,f3,f4⟩
 ·obtain⟨x,hx,rfl⟩:=hget hy
  obtain⟨f1,f2,_⟩:=hf hx
  rw[f1]at h0
  obtain⟨e,he,q1,q2,q3⟩:=h.fn g x hx h0
  refine⟨e,by rw[ha.endAt];exact he,by rw[ha.localsOf];exact q1,by rw[ha.localsOf,f2];exact q2,fun k y hk1 hk2 hy=>?_⟩
  obtain⟨z,hz,rfl⟩:=hget hy
  obtain⟨g1,_,_,_,g5,_⟩:=hf hz
  obtain⟨r1,r2,r3⟩:=q3 k z hk1 hk2 hz
  refine⟨by rw[g1];exact r1,fun t ht h7=>?_,fun h4=>?_⟩
  ·rcases g5 t ht with h'|⟨n,rfl⟩
   ·obtain⟨f,hf1,hf2⟩:=r2 t h' h7
    exact⟨f,by rw[ha.findN];exact hf1,by rw[ha.argsN];exact hf2⟩
   ·exact absurd h7 (show ¬(0:Int)=7 by decide)
  ·rw[g1]at h4
   obtain⟨i,i1,i2,i3⟩:=r3 h4
   exact⟨i,i1,i2,by rw[ha.elseAt];exact i3⟩
end Go.Proofs.YtogdbgmiigfmfaaGreat
namespace Go.Proofs.YtogdbgmiigfmfaaGreat
open Go.Sim
set_option maxRecDepth 100000
set_option maxHeartbeats 4000000
structure TCur where
 b:List UInt8
 i:Nat
 h:Int
def TCur.ok (c:TCur):Prop:=c.i≤c.b.length∧c.b.length≤1048576
end Go.Proofs.YtogdbgmiigfmfaaGreat
namespace Go.Proofs.YtogdbgmiigfmfaaGreat
open Go.Sim
set_option maxRecDepth 100000
set_option maxHeartbeats 4000000
def buildOk (b:TBuild):Bool:=within b.fFrames 0 63 && within b.fInline 0 3
theorem s_spec_BuildOk (b:TBuild):Sim.Spec Tryz.prog 43 [.agg b.tr] (rB (buildOk b)):=by
 refine spec_of_Wo hΓ hmix Tryz.func43 rfl (by decide) rfl ?_
 have h1:=s_spec_l01In b.fFrames 0 63
 have h2:=s_spec_l01In b.fInline 0 3
 unfold buildOk
 generalize within b.fFrames 0 63=w1 at *
 generalize within b.fInline 0 3=w2 at *
 repeat' ((conv=>whnf);first|(with_reducible first|apply Wx|apply W6)|apply oi|(apply fi<;>intro h)|refine cl h1 ?_|refine cl h2 ?_|refine⟨_,rfl,?_⟩|((with_reducible show _=_);rfl))
 all_goals try((with_reducible refine Obl.mk ?_);exact KP)
 all_goals(refine⟨congrArg Tr.bool ?_⟩;simp_all)
end Go.Proofs.YtogdbgmiigfmfaaGreat
namespace Go.Proofs.YtogdbgmiigfmfaaGreat
open Go.Sim
set_option maxRecDepth 100000
set_option maxHeartbeats 4000000
theorem lines_all {C:Cx}(hC:CxOk C):∀lev,RepC C lev∧LinesC C lev:=by
 have hL:∀lev,RepC C lev→LinesC C lev:=fun lev hR=>LinesC_of hC fun e x S lv k p ln s d h1 h2 h3 h4 h5 h6=>ExprC_of hC hR e.toks.length e (Nat.le_refl _) x S lv k p ln s d h1 h2 h3 h4 h5 h6
 intro lev
 induction lev with
 | zero=>
  have hR:RepC C 0:=by
   intro x S lv k g s d hx hk hg hrb hr
   obtain⟨r1,_⟩:=replB_spec hrb
   have:=hr.depth
   rw[show(insOf (S++[(x,lv)])).length=S.length+1 by simp]at r1
   omega
  exact⟨hR,hL 0 hR⟩
 | succ n ih=>
  have hR:=RepC_of hC ih.2
  exact⟨hR,hL _ hR⟩
def framedB (frames f:Int):Bool:=IntKind.i64.wrap (BitVec.ofInt IntKind.i64.bits (frames.fdiv (2 ^ min f.toNat IntKind.i64.bits)) &&& BitVec.ofInt IntKind.i64.bits 1).toNat==1
theorem s_spec_l08Compile (C:Cx)(hC:CxOk C)(f g:Nat)(hf:(funs C.p)[f]?=some g)(e3:C.framed=framedB C.b.fFrames f)(e5:C.args=argsN C.p g):
  Sim.Spec Tryz.prog 46 [tvP C.p,tvI (f:Int),.agg C.b.tr,tvI C.words] (.tup [.c (.arr 7 ((compG C g).items.map TItem.tr)),.c (.t (.int .i64 (compG C g).most))]):=by
 refine spec_of_Wo hΓ hmix Tryz.func46 rfl (by decide) rfl ?_
 obtain⟨hgl,y,hy,hy0⟩:=funs_lt (List.mem_of_getElem? hf)
 have h60:=hC.len
 have hw:=hC.words
 have hin:=hC.inl
 have gF:=s_spec_FunctionLines C.p (by omega)
 have gL:=s_spec_LocalsOf C.p (g:Int) (by omega) (fun z hz=>smallRs_map hC.small hz)
 have hA:argsN C.p g=y.fArgs.length:=by rw[argsN,hy]
 have h4:=(hC.line g y hy).2.2.1
 have hfl:f < (funs C.p).length:=lt_of_get hf
 have hfr:f < ((funs C.p).map fun n:Nat=>intRow n).length:=by rw[List.length_map];exact hfl
 have hfg:((funs C.p).map fun n:Nat=>intRow n)[f]?=some (intRow (g:Int)):=by rw[List.getElem?_map,hf];rfl
 have hloc:=isFun_locals hC ⟨y,hy,hy0⟩
 have hyl:(y.fArgs.map strRow).length=y.fArgs.length:=by simp
 have hll:((localsOf C.p (g:Int)).map strRow).length=(localsOf C.p (g:Int)).length:=by simp
 have hS:ScOk C (outerSc C g) [g]:=⟨⟨y,hy,hy0⟩,rfl,⟨Int.le_refl _,by simp[outerSc]⟩,rfl,by simp[outerSc],fun _=>e5,rfl⟩
 obtain⟨e,he1,he2,he3,he4,_⟩:=hS.endE hC
 obtain⟨O,hO⟩:∃O,outerSc C g=O:=⟨_,rfl⟩
 have hOr:scRow O []=[.d (.int .i64 (g:Int)),.t (.lst 1 []),.t (.lst 1 ((localsOf C.p (g:Int)).map strRow)),.d (.int .i64 0),.d (.bool true),.d (.lst 0 [])]:=by rw[←hO,outerSc];rfl
 have hOl:(scH [(O,[])])[0]?=some [.d (.int .i64 (g:Int)),.t (.lst 1 []),.t (.lst 1 ((localsOf C.p (g:Int)).map strRow)),.d (.int .i64 0),.d (.bool true),.d (.lst 0 [])]:=by rw[←hOr];rfl
 have g1:=fun code=>g_spec_emit C ⟨[],(localsOf C.p (g:Int)).length - C.args,false⟩ 0 (scH [(O,[])]) code C.words g [] (by unfold roomy;simp) (by simp)
 have hlev:((C.b.fInline.toNat:Nat):Int)=C.b.fInline:=Int.toNat_of_nonneg hin.1
 have h3:=tokC_3 (n:=C.b.fInline.toNat) (by omega)
 have gLs:=(lines_all hC C.b.fInline.toNat).2 O [] (headG C g) C.words (by rw[←hO];exact hS) (by
  rw[←hO,he4]
  have:=Nat.mul_le_mul (show e - (outerSc C g).f≤60 by omega) (show 20 * tokC C.b.fInline.toNat+3≤20 * 8679837+3 by omega)
  simp only[headG,emitG,List.length_append,List.length_nil,List.length_cons]
  omega) (by simpa using hlev) hw.1 (by omega)
 have hcg:linesG C (repN C C.b.fInline.toNat) O (insOf ([]++[(O,[])])) C.words (headG C g)=linesG C (repN C C.b.fInline.toNat) (outerSc C g) [g] C.words (headG C g):=by rw[←hO];rfl
 rw[hcg,List.nil_append,List.nil_append]at gLs
 repeat' ((conv=>whnf);first|(with_reducible apply W1;fail_if_success (with_reducible show Wo _ _ _ _ (Code.region 4 _ _) _ _))|(with_reducible first|apply W2|apply W3|apply W4|apply W5|apply W6|apply W7|apply W8|apply W9)|apply reg_inl|apply oi|(apply fi<;>intro h)|refine cl gF ?_|refine⟨f,rfl,hfr,?_⟩|refine⟨_,hfg,?_⟩|refine⟨g,y.tr,rfl,map_get hy,?_⟩|refine cl gL ?_|refine⟨_,rfl,?_⟩|((with_reducible show _=_);rfl))
 all_goals try((with_reducible refine Obl.mk ?_);exact KP)
 all_goals try exact⟨by omega⟩
 all_goals try exact⟨flat_strs _⟩
 conv=>whnf
 refine give_rule (40,0,0) (rows':=[scRow O []]) rfl ?_ ?_
 ·rw[hOr]
  refine⟨⟨rfl,fun q c d hc hd=>?_⟩,trivial⟩
  match q with
  | 0=>simp at hc hd;subst hc;subst hd;exact .inl rfl
  | 1=>simp at hc hd;subst hc;subst hd;exact .inr (.inr ⟨0,1,rfl,rfl⟩)
  | 2=>simp at hc hd;subst hc;subst hd;exact .inr (.inl rfl)
  | 3=>simp at hc hd;subst hc;subst hd;exact .inl rfl
  | 4=>simp at hc hd;subst hc;subst hd;exact .inl rfl
  | 5=>simp at hc hd;subst hc;subst hd;exact .inl rfl
  | q+6=>simp at hc
 refine leq_rule ⟨[(0,vP C.p),(3,tI .i64 C.words),(10,tI .i64 (g:Int)),(11,.r (.c (.ptr (33,0,0) 0)))],[((33,0,0),some (mkrB C ⟨[],0,false⟩ 0 (33,0,1) (33,0,2))),((33,0,1),some (.dar 7 (itR []) none)),((33,0,2),some (.dar 6 (scH [(O,[])]) none))],[40,38,33,13,6]⟩ ?_ ?_
 ·skip
  repeat' ((conv=>whnf);first|(with_reducible first|apply Wx|apply W6)|apply oi|(apply fi<;>intro h)|refine⟨_,rfl,?_⟩|((with_reducible show _=_);rfl))
  all_goals try((with_reducible refine Obl.mk ?_);exact KP)
  all_goals try exact⟨by rw[e3];rfl⟩
  all_goals try exact⟨by rw[e5,hA,hyl]⟩
 have hwm:IntKind.i64.wrap ((((localsOf C.p (g:Int)).map strRow).length:Int) - C.args)=((localsOf C.p (g:Int)).length:Int) - C.args:=by rw[hll,IntWalk.i64_in _ (by omega)]
 cases hfm:C.framed with
 | true=>
  have hh:headG C g=emitG C ⟨[],(localsOf C.p (g:Int)).length - C.args,false⟩ 0 13 C.words g []:=by rw[headG,if_pos hfm]
  rw[hh]at gLs
  have g2:=g1 13
  have hcr:compG C g=(linesG C (repN C C.b.fInline.toNat) (outerSc C g) [g] C.words (emitG C ⟨[],(localsOf C.p (g:Int)).length - C.args,false⟩ 0 13 C.words g [])).1:=by rw[compG,hh]
  rw[hcr]
  repeat' ((conv=>whnf);first|(with_reducible first|apply Wx|apply W6)|refine cg g2 ?_|refine cg gLs ?_|apply oi|(apply fi<;>intro h)|refine⟨0,rfl,(by simp),?_⟩|refine⟨_,hOl,?_⟩|refine⟨_,rfl,?_⟩|((with_reducible show _=_);rfl))
  all_goals try((with_reducible refine Obl.mk ?_);exact KP)
  all_goals try(exfalso;rw[hfm]at h;cases h;done)
  all_goals first|exact⟨⟨_,rfl⟩⟩|exact⟨congrArg (Tr.int .i64) hwm.symm⟩
 | false=>
  have hh:headG C g=emitG C ⟨[],(localsOf C.p (g:Int)).length - C.args,false⟩ 0 15 C.words g []:=by rw[headG,if_neg (by simp[hfm])]
  rw[hh]at gLs
  have g2:=g1 15
  have hcr:compG C g=(linesG C (repN C C.b.fInline.toNat) (outerSc C g) [g] C.words (emitG C ⟨[],(localsOf C.p (g:Int)).length - C.args,false⟩ 0 15 C.words g [])).1:=by rw[compG,hh]
  rw[hcr]
  repeat' ((conv=>whnf);first|(with_reducible first|apply Wx|apply W6)|refine cg g2 ?_|refine cg gLs ?_|apply oi|(apply fi<;>intro h)|refine⟨0,rfl,(by simp),?_⟩|refine⟨_,hOl,?_⟩|refine⟨_,rfl,?_⟩|((with_reducible show _=_);rfl))
  all_goals try((with_reducible refine Obl.mk ?_);exact KP)
  all_goals try(exfalso;rw[hfm]at h;cases h;done)
  all_goals first|exact⟨⟨_,rfl⟩⟩|exact⟨congrArg (Tr.int .i64) hwm.symm⟩
theorem compG_most {C:Cx}(hC:CxOk C){g:Nat}(hg:isFun C g)(e5:C.args=argsN C.p g):0≤(compG C g).most∧(compG C g).most≤1000:=by
 have hS:ScOk C (outerSc C g) [g]:=⟨hg,rfl,⟨Int.le_refl _,by simp[outerSc]⟩,rfl,by simp[outerSc],fun _=>e5,rfl⟩
 have hG:=linesG_grow (lev:=C.b.fInline.toNat) (rep:=repN C C.b.fInline.toNat) (fun line g d s hg hr=>repN_grow hC _ line g d s hS hg hr) hC hS C.words (headG C g)
 obtain⟨l1,l2⟩:=isFun_locals hC hg
 have hm:(headG C g).most=(localsOf C.p (g:Int)).length - C.args:=rfl
 have h1:=hG.most
 have h2:=hG.cap (by rw[hm];omega)
 rw[hm]at h1
 exact⟨Int.le_trans (by omega) h1,h2⟩
def ctx (p:List TLine)(f g:Nat)(b:TBuild)(words:Int):Cx:=⟨p,b,framedB b.fFrames f,words,argsN p g⟩
noncomputable def foldIf (p:List TLine) (b:TBuild):List TLine:=if b.fFold=true then p.map foldLine else p
noncomputable def compiled (p:List TLine) (f:Nat) (b:TBuild):List TItem:=match(funs (foldIf p b))[f]? with
 | some g=>(compG (ctx (foldIf p b) f g b (compG (ctx (foldIf p b) f g b 0) g).most) g).items
 | none=>[]
noncomputable def compileF (p:List TLine) (f:Int) (b:TBuild):List TItem:=
 if programOk p=true∧buildOk b=true∧0≤f∧f < (funs p).length then compiled p f.toNat b else []
theorem alike.funsF:∀{p q:List TLine},alike p q→∀i:Nat,funsF p i=funsF q i
 | [],[],_,_=>rfl
 | x::p,y::q,h,i=>by
  simp only[alike,List.map_cons,List.cons.injEq,Prod.mk.injEq]at h
  have ih:=alike.funsF (p:=p) (q:=q) h.2
  rw[Go.Proofs.YtogdbgmiigfmfaaGreat.funsF,Go.Proofs.YtogdbgmiigfmfaaGreat.funsF,h.1.1,ih]
 | [],_::_,h,_=>by simp[alike]at h
 | _::_,[],h,_=>by simp[alike]at h
theorem foldIf_funs (p:List TLine)(b:TBuild):funs (foldIf p b)=funs p:=by
 unfold foldIf
 split
 ·exact(foldLine_alike p).funsF 0
 ·rfl
theorem PgOk.foldIf {p:List TLine}(h:PgOk p)(b:TBuild):PgOk (foldIf p b):=by
 unfold Go.Proofs.YtogdbgmiigfmfaaGreat.foldIf
 split
 ·exact h.fold
 ·exact h
theorem s_spec_CompileFunction (p:List TLine)(f:Int)(b:TBuild)(hs:smallT 1048576 (.lst 4 (p.map TLine.tr))):Sim.Spec Tryz.prog 9 [tvP p,tvI f,.agg b.tr] (rL 7 ((compileF p f b).map TItem.tr)):=by
 refine spec_of_Wo hΓ hmix Tryz.func9 rfl (by decide) rfl ?_
 have hP:=s_spec_ProgramOk p hs
 have hB:=s_spec_BuildOk b
 have hl:=small_nat hs
 have gF:=s_spec_FunctionLines p (by omega)
 have hfl:((funs p).map fun n:Nat=>intRow n).length=(funs p).length:=by simp
 by_cases hc:programOk p=true∧buildOk b=true∧0≤f∧f < (funs p).length
 ·have hcf:compileF p f b=compiled p f.toNat b:=by rw[compileF,if_pos hc]
  rw[hcf]
  obtain⟨h1,h2,h3,h4⟩:=hc
  obtain⟨f,rfl⟩:=Int.eq_ofNat_of_zero_le h3
  rw[Int.toNat_natCast]
  rw[h1]at hP
  rw[h2]at hB
  have hb:0≤b.fInline∧b.fInline≤3:=by
   unfold buildOk at h2
   simp only[Bool.and_eq_true,within_iff]at h2
   exact h2.2
  obtain⟨g,hg⟩:=get_of_lt (l:=funs p) (k:=f) (by omega)
  have hpg:=(PgOk_of hs h1).foldIf b
  have hg':(funs (foldIf p b))[f]?=some g:=by rw[foldIf_funs];exact hg
  obtain⟨hgl,y,hy,hy0⟩:=funs_lt (List.mem_of_getElem? hg')
  have h4':=(hpg.line g y hy).2.2.1
  have ha:(0:Int)≤(argsN (foldIf p b) g:Int)∧(argsN (foldIf p b) g:Int)≤4:=by rw[argsN,hy];dsimp only;omega
  have hC0:CxOk (ctx (foldIf p b) f g b 0):=hpg.cx ha (by omega) hb
  have hm:=compG_most hC0 ⟨y,hy,hy0⟩ rfl
  have hC1:CxOk (ctx (foldIf p b) f g b (compG (ctx (foldIf p b) f g b 0) g).most):=hpg.cx ha hm hb
  have g0:=s_spec_l08Compile _ hC0 f g hg' rfl rfl
  have g1:=s_spec_l08Compile _ hC1 f g hg' rfl rfl
  have hcd:compiled p f b=(compG (ctx (foldIf p b) f g b (compG (ctx (foldIf p b) f g b 0) g).most) g).items:=by rw[compiled,hg']
  rw[hcd]
  generalize compG (ctx (foldIf p b) f g b 0) g=R0 at *
  generalize compG (ctx (foldIf p b) f g b R0.most) g=R1 at *
  have hfo:=s_spec_FoldProgram p hs
  rw[show foldProg p=p.map foldLine by rw[foldProg,if_pos h1]]at hfo
  obtain⟨fr,inl,fold,sp⟩:=b
  cases fold with
  | true=>
   have e:foldIf p ⟨fr,inl,true,sp⟩=p.map foldLine:=rfl
   simp only[ctx,e]at g0 g1
   repeat' ((conv=>whnf);first|(with_reducible first|apply Wx|apply W6)|apply oi|(apply fi<;>intro h)|refine cl hP ?_|refine cl hB ?_|refine cl gF ?_|refine cl hfo ?_|refine cl g0 ?_|refine cl g1 ?_|refine⟨_,rfl,?_⟩|((with_reducible show _=_);rfl))
   all_goals try((with_reducible refine Obl.mk ?_);exact KP)
   all_goals try exact KX
  | false=>
   have e:foldIf p ⟨fr,inl,false,sp⟩=p:=rfl
   simp only[ctx,e]at g0 g1
   repeat' ((conv=>whnf);first|(with_reducible first|apply Wx|apply W6)|apply oi|(apply fi<;>intro h)|refine cl hP ?_|refine cl hB ?_|refine cl gF ?_|refine cl hfo ?_|refine cl g0 ?_|refine cl g1 ?_|refine⟨_,rfl,?_⟩|((with_reducible show _=_);rfl))
   all_goals try((with_reducible refine Obl.mk ?_);exact KP)
   all_goals try exact KX
 ·have hcf:compileF p f b=[]:=by rw[compileF,if_neg hc]
  rw[hcf]
  cases h1:programOk p with
  | false=>
   rw[h1]at hP
   repeat' ((conv=>whnf);first|(with_reducible first|apply Wx|apply W6)|apply oi|(apply fi<;>intro h)|refine cl hP ?_|refine cl hB ?_|refine cl gF ?_|refine⟨_,rfl,?_⟩|((with_reducible show _=_);rfl))
   all_goals try((with_reducible refine Obl.mk ?_);exact KP)
   all_goals try exact KX
  | true=>
   rw[h1]at hP
   cases h2:buildOk b with
   | false=>
    rw[h2]at hB
    repeat' ((conv=>whnf);first|(with_reducible first|apply Wx|apply W6)|apply oi|(apply fi<;>intro h)|refine cl hP ?_|refine cl hB ?_|refine cl gF ?_|refine⟨_,rfl,?_⟩|((with_reducible show _=_);rfl))
    all_goals try((with_reducible refine Obl.mk ?_);exact KP)
    all_goals try exact KX
   | true=>
    rw[h2]at hB
    have hc':¬(0≤f∧f < (funs p).length):=fun hh=>hc ⟨h1,h2,hh⟩
    repeat' ((conv=>whnf);first|(with_reducible first|apply Wx|apply W6)|apply oi|(apply fi<;>intro h)|refine cl hP ?_|refine cl hB ?_|refine cl gF ?_|refine⟨_,rfl,?_⟩|((with_reducible show _=_);rfl))
    all_goals try((with_reducible refine Obl.mk ?_);exact KP)
    all_goals try exact KX
end Go.Proofs.YtogdbgmiigfmfaaGreat
namespace Go.Proofs.YtogdbgmiigfmfaaGreat
open Go.Sim
set_option maxRecDepth 100000
set_option maxHeartbeats 4000000
theorem s_impl_BuildOk (b:TBuild):Sim.Spec Tryz.prog 49 [.agg b.tr] (rB (buildOk b)):=by
 refine spec_of_Wo hΓ hmix Tryz.func49 rfl (by decide) rfl ?_
 have h1:=s_impl_between b.fFrames 0 63
 have h2:=s_impl_between b.fInline 0 3
 unfold buildOk
 generalize within b.fFrames 0 63=x at *
 generalize within b.fInline 0 3=y at *
 cases x
 ·skip
  repeat' ((conv=>whnf);first|(with_reducible first|apply Wx|apply W6)|apply oi|(apply fi<;>intro h)|refine cl h1 ?_|refine cl h2 ?_|refine⟨_,rfl,?_⟩|((with_reducible show _=_);rfl))
  all_goals try((with_reducible refine Obl.mk ?_);exact KP)
  all_goals try exact KX
 ·cases y
  ·skip
   repeat' ((conv=>whnf);first|(with_reducible first|apply Wx|apply W6)|apply oi|(apply fi<;>intro h)|refine cl h1 ?_|refine cl h2 ?_|refine⟨_,rfl,?_⟩|((with_reducible show _=_);rfl))
   all_goals try((with_reducible refine Obl.mk ?_);exact KP)
   all_goals try exact KX
  ·skip
   repeat' ((conv=>whnf);first|(with_reducible first|apply Wx|apply W6)|apply oi|(apply fi<;>intro h)|refine cl h1 ?_|refine cl h2 ?_|refine⟨_,rfl,?_⟩|((with_reducible show _=_);rfl))
   all_goals try((with_reducible refine Obl.mk ?_);exact KP)
   all_goals try exact KX
def ownStep (p:List TLine)(k:Nat)(l:List Int):List Int:=
 let l1:=match endAt p k with|some e=>l.set e k|none=>l
 match elseAt p k with|some e=>l1.set e k|none=>l1
def ownF (p:List TLine):Nat→List Int
 | 0=>List.replicate p.length 0
 | n+1=>ownStep p n (ownF p n)
theorem ownF_len (p:List TLine):∀n,(ownF p n).length=p.length
 | 0=>by simp[ownF]
 | n+1=>by
  rw[ownF,ownStep]
  have:=ownF_len p n
  cases endAt p n <;> cases elseAt p n <;> simp[this]
theorem ownF_get {p:List TLine}{i k:Nat}(h:endAt p i=some k∨elseAt p i=some k)(hk:k < p.length):∀n,i < n→(ownF p n)[k]?=some (i:Int)
 | 0,hn=>by omega
 | n+1,hn=>by
  have hl:=ownF_len p n
  rw[ownF,ownStep]
  by_cases hin:i=n
  ·subst hin
   rcases h with h|h
   ·rw[h]
    dsimp only
    cases he:elseAt p i with
    | none=>dsimp only;rw[List.getElem?_set_self (by omega)]
    | some m=>
     dsimp only
     by_cases hm:m=k
     ·subst hm;rw[List.getElem?_set_self (by simp;omega)]
     ·rw[List.getElem?_set_ne hm,List.getElem?_set_self (by omega)]
   ·rw[h]
    dsimp only
    rw[List.getElem?_set_self (by cases endAt p i <;> simp <;> omega)]
  ·have ih:=ownF_get h hk n (by omega)
   have own:∀m,(endAt p n=some m∨elseAt p n=some m)→m≠k:=by
    intro m hm e
    subst e
    have h1:ownOf p m=i:=by rcases h with h|h;exact own_end h;exact own_else h
    have h2:ownOf p m=n:=by rcases hm with h|h;exact own_end h;exact own_else h
    exact hin (h1.symm.trans h2)
   have key:((match endAt p n with|some e=>(ownF p n).set e (n:Int)|none=>ownF p n):List Int)[k]?=some (i:Int):=by
    cases he:endAt p n with
    | none=>exact ih
    | some m=>dsimp only;rw[List.getElem?_set_ne (own m (.inl he))];exact ih
   cases he:elseAt p n with
   | none=>exact key
   | some m=>dsimp only;rw[List.getElem?_set_ne (own m (.inr he))];exact key
theorem s_impl_owners (p:List TLine)(h60:p.length≤60):Sim.Spec Tryz.prog 161 [tvP p] (rL 1 ((ownF p p.length).map intRow)):=by
 refine spec_of_Wo hΓ hmix Tryz.func161 rfl (by decide) rfl ?_
 have hpl:(p.map TLine.tr).length=p.length:=by simp
 have hm1:(((p.map TLine.tr).length:Nat):Int)=(p.length:Int):=by rw[hpl]
 have hm2:p.length≤9223372036854775807:=by omega
 have hm3:p.length * 8≤140737488355328:=by omega
 repeat' ((conv=>whnf);first|(with_reducible first|apply Wx|apply W6)|apply oi|(apply fi<;>intro h)|refine⟨p.length,hm1,hm1,hm2,hm3,?_⟩|refine⟨_,rfl,?_⟩|((with_reducible show _=_);rfl))
 all_goals try((with_reducible refine Obl.mk ?_);exact KP)
 conv=>whnf
 refine⟨{k:Nat // k≤p.length},fun q=>⟨[(0,vP p),(3,.r (.c (.own (3,0,0)))),(11,tI .i64 ((p.map TLine.tr).length:Int)),(12,tI .i64 (q.1:Int))],[((3,0,0),some (.arr true 1 ((ownF p q.1).map intRow)))],[3]⟩,fun q=>p.length - q.1,⟨0,by omega⟩,?_,?_⟩
 ·skip
  repeat' ((conv=>whnf);first|(with_reducible first|apply Wx|apply W6)|apply oi|(apply fi<;>intro h)|refine⟨_,rfl,?_⟩|((with_reducible show _=_);rfl))
  all_goals try((with_reducible refine Obl.mk ?_);exact KP)
  all_goals exact⟨by simp[ownF,intRow]⟩
 intro⟨k,hk⟩
 dsimp only at hk ⊢
 by_cases hlt:k < p.length
 ·have gE:=s_impl_EndOf p (k:Int) (by omega)
  have gL:=s_impl_ElseOf p (k:Int) (by omega)
  have hol:=ownF_len p k
  have hml:((ownF p k).map intRow).length=p.length:=by rw[List.length_map,hol]
  rw[endOf_at]at gE
  rw[elseOf_at]at gL
  have hst:ownF p (k+1)=ownStep p k (ownF p k):=rfl
  have hget:∀{l:List Int} {e:Nat},e < l.length→∃v,(l.map intRow)[e]?=some (intRow v):=fun{l e} he=>⟨l[e],by rw[List.getElem?_map,List.getElem?_eq_getElem he];rfl⟩
  have hset:∀(l:List Int) (e:Nat),(l.map intRow).set e [.int .i64 (k:Int)]=(l.set e (k:Int)).map intRow:=fun l e=>by simp[List.map_set,intRow]
  rw[ownStep]at hst
  cases he:endAt p k with
  | none=>
   rw[he]at gE hst
   cases hl:elseAt p k with
   | none=>
    rw[hl]at gL hst
    dsimp only at hst
    repeat' ((conv=>whnf);first|(with_reducible first|apply Wx|apply W6)|apply oi|(apply fi<;>intro h)|refine cl gE ?_|refine cl gL ?_|refine⟨_,rfl,?_⟩|((with_reducible show _=_);rfl))
    all_goals try((with_reducible refine Obl.mk ?_);exact KP)
    all_goals try exact KX
    all_goals try(exfalso;simp[endI]at h;done)
    conv=>whnf
    refine⟨⟨k+1,by omega⟩,?_,by dsimp only;omega⟩
    repeat' ((conv=>whnf);first|(with_reducible first|apply Wx|apply W6)|apply oi|(apply fi<;>intro h)|refine⟨_,rfl,?_⟩|((with_reducible show _=_);rfl))
    all_goals try((with_reducible refine Obl.mk ?_);exact KP)
    all_goals try exact⟨KW⟩
    all_goals exact⟨by dsimp only;rw[hst]⟩
   | some m=>obtain⟨_,_,_,_,h,_⟩:=elseAt_some hl;rw[he]at h;cases h
  | some e=>
   obtain⟨_,_,_,_,_,hel⟩:=endAt_some he
   have hel2:e < ((ownF p k).map intRow).length:=by omega
   obtain⟨v,hv⟩:=hget (l:=ownF p k) (e:=e) (by omega)
   rw[he]at gE hst
   cases hl:elseAt p k with
   | none=>
    rw[hl]at gL hst
    dsimp only at hst
    repeat' ((conv=>whnf);first|(with_reducible first|apply Wx|apply W6)|apply oi|(apply fi<;>intro h)|refine cl gE ?_|refine cl gL ?_|refine⟨e,rfl,hel2,?_⟩|refine⟨_,hv,?_⟩|refine⟨_,rfl,?_⟩|((with_reducible show _=_);rfl))
    all_goals try((with_reducible refine Obl.mk ?_);exact KP)
    all_goals try exact KX
    all_goals try(exfalso;simp[endI]at h;done)
    all_goals try(exfalso;rename_i h0;simp[endI]at h0;done)
    conv=>whnf
    refine⟨⟨k+1,by omega⟩,?_,by dsimp only;omega⟩
    repeat' ((conv=>whnf);first|(with_reducible first|apply Wx|apply W6)|apply oi|(apply fi<;>intro h)|refine⟨_,rfl,?_⟩|((with_reducible show _=_);rfl))
    all_goals try((with_reducible refine Obl.mk ?_);exact KP)
    all_goals try exact⟨KW⟩
    all_goals exact⟨by dsimp only;rw[hst,hset]⟩
   | some m=>
    obtain⟨_,_,_,_,_,_,hmm,z,hz,_⟩:=elseAt_some hl
    have hml2:=lt_of_get hz
    have hml3:m < (((ownF p k).set e (k:Int)).map intRow).length:=by simp;omega
    obtain⟨v2,hv2⟩:=hget (l:=(ownF p k).set e (k:Int)) (e:=m) (by simp;omega)
    rw[←hset]at hml3 hv2
    rw[hl]at gL hst
    dsimp only at hst
    repeat' ((conv=>whnf);first|(with_reducible first|apply Wx|apply W6)|apply oi|(apply fi<;>intro h)|refine cl gE ?_|refine cl gL ?_|refine⟨e,rfl,hel2,?_⟩|refine⟨_,hv,?_⟩|refine⟨m,rfl,hml3,?_⟩|refine⟨_,hv2,?_⟩|refine⟨_,rfl,?_⟩|((with_reducible show _=_);rfl))
    all_goals try((with_reducible refine Obl.mk ?_);exact KP)
    all_goals try exact KX
    all_goals try(exfalso;simp[endI]at h;done)
    all_goals try(exfalso;rename_i h0;simp[endI]at h0;done)
    conv=>whnf
    refine⟨⟨k+1,by omega⟩,?_,by dsimp only;omega⟩
    repeat' ((conv=>whnf);first|(with_reducible first|apply Wx|apply W6)|apply oi|(apply fi<;>intro h)|refine⟨_,rfl,?_⟩|((with_reducible show _=_);rfl))
    all_goals try((with_reducible refine Obl.mk ?_);exact KP)
    all_goals try exact⟨KW⟩
    all_goals exact⟨by dsimp only;rw[hst,hset,hset]⟩
 ·have hke:k=p.length:=by omega
  subst hke
  repeat' ((conv=>whnf);first|(with_reducible first|apply Wx|apply W6)|apply oi|(apply fi<;>intro h)|refine⟨_,rfl,?_⟩|((with_reducible show _=_);rfl))
  all_goals try((with_reducible refine Obl.mk ?_);exact KP)
  all_goals try exact KX
abbrev toksRow (a:Ex):List Tr:=[.lst 3 (a.toks.map TTok.tr)]
theorem s_impl_foldAt:∀(n:Nat) (e:Ex),e.toks.length≤n→∀(l:List TTok) (p:Nat),l.length≤1048576→toksShort l→e.ok→stands l p e→Sim.Spec Tryz.prog 159 [tvL 3 (l.map TTok.tr),tvI p] (rL 3 (e.fold.toks.map TTok.tr))
 | 0,e,hn,_,_,_,_,_,_=>by have:=e.toks_pos;omega
 | n+1,.node t es,hn,l,p,hl,hsh,ho,hs=>by
  refine spec_of_Wo hΓ hmix Tryz.func159 rfl (by decide) rfl ?_
  have hlen:(l.map TTok.tr).length=l.length:=by simp
  have hle:=stands_le hs
  obtain⟨ht,hsa⟩:=stands_tok hs
  have hO:=s_impl_Operands l p t es hl hsh ho hs
  have hpl:((posL (p+1) es).map nR).length=es.length:=by rw[List.length_map,posL_len]
  rw[Ex.toks,List.length_cons]at hn hle
  rw[Ex.fold]
  have hfe:=exFold_le es
  obtain⟨e1,e2⟩:=ar_eq ho.1
  have hel:es.length=ar t:=ho.2.1
  repeat' ((conv=>whnf);first|(with_reducible first|apply Wx|apply W6)|apply oi|(apply fi<;>intro h)|refine cl hO ?_|refine⟨p,t.tr,rfl,map_get ht,?_⟩|refine⟨_,rfl,?_⟩|((with_reducible show _=_);rfl))
  all_goals try((with_reducible refine Obl.mk ?_);exact KP)
  conv=>whnf
  refine⟨{j:Nat // j≤es.length},fun q=>⟨[(0,.r (.c (.t (.lst 3 (l.map TTok.tr))))),(1,tI .i64 (p:Int)),(5,.r (.c (.ptr (5,0,0) 0))),(6,.r (.c (.own (21,0,1)))),(7,.r (.c (.own (21,0,2)))),(21,.r (.c (.own (21,0,0)))),(22,tI .i64 (((posL (p+1) es).map nR).length:Int)),(23,tI .i64 (q.1:Int))],
   [((5,0,0),some (.box (t.tr.map .t))),((21,0,1),some (.arr false 3 ((t::exToks (exFold (es.take q.1))).map TTok.tr))),((21,0,2),some (.arr false 1 ((exFold (es.take q.1)).map toksRow))),((21,0,0),some (.arr true 1 ((posL (p+1) es).map nR)))],[21,5]⟩,fun q=>es.length - q.1,⟨0,by omega⟩,?_,?_⟩
  ·skip
   repeat' ((conv=>whnf);first|(with_reducible first|apply Wx|apply W6)|apply oi|(apply fi<;>intro h)|refine⟨_,rfl,?_⟩|((with_reducible show _=_);rfl))
   all_goals try((with_reducible refine Obl.mk ?_);exact KP)
   all_goals first|exact⟨by simp[exFold,exToks];rfl⟩|exact⟨by simp[exFold]⟩
  intro⟨j,hj⟩
  dsimp only at hj ⊢
  by_cases hlt:j < es.length
  ·obtain⟨a,ha⟩:=get_of_lt hlt
   obtain⟨q,hq,hqs⟩:=posL_at hsa ha
   have hal:=exToks_mem ha
   have hR:=s_impl_foldAt n a (by omega) l q hl hsh (exsOk_get ho.2.2 ha) hqs
   have hjl:j < ((posL (p+1) es).map nR).length:=by rw[hpl];exact hlt
   have hfa:=a.fold_le
   have hft:=exToks_take_le (exFold es) j
   rw[exFold_take]at hft
   have hfl1:((t::exToks (exFold (es.take j))).map TTok.tr).length=1+(exToks (exFold (es.take j))).length:=by simp;omega
   have hfl2:(a.fold.toks.map TTok.tr).length=a.fold.toks.length:=by simp
   repeat' ((conv=>whnf);first|(with_reducible apply W1;fail_if_success (with_reducible show Wo _ _ _ _ (Code.region 8 _ _) _ _))|(with_reducible first|apply W2|apply W3|apply W4|apply W5|apply W6|apply W7|apply W8|apply W9)|apply reg_inl|apply oi|(apply fi<;>intro h)|refine cl hR ?_|refine⟨j,rfl,hjl,?_⟩|refine⟨(nR q),(map_get hq),?_⟩|refine⟨_,rfl,?_⟩|((with_reducible show _=_);rfl))
   all_goals try((with_reducible refine Obl.mk ?_);exact KP)
   all_goals try exact KX
   conv=>whnf
   refine view2_rule ⟨[(0,.r (.c (.t (.lst 3 (l.map TTok.tr))))),(1,tI .i64 (p:Int)),(5,.r (.c (.ptr (5,0,0) 0))),(6,.r (.c (.own (21,0,1)))),(7,.r (.c (.own (21,0,2)))),(10,.r (.c (.t (.lst 3 (a.fold.toks.map TTok.tr))))),(21,.r (.c (.own (21,0,0)))),(22,tI .i64 (((posL (p+1) es).map nR).length:Int)),(23,tI .i64 (j:Int))],
    [((5,0,0),some (.box (t.tr.map .t))),((21,0,1),some (.arr false 3 ((t::exToks (exFold (es.take j))).map TTok.tr))),((21,0,2),some (.arr false 1 ((exFold (es.take j)).map toksRow))),((21,0,0),some (.arr true 1 ((posL (p+1) es).map nR)))],_⟩ ?_ ?_ rfl ?_
   ·refine⟨.inl rfl,.inl rfl,.inl rfl,.inl rfl,.inl rfl,.inr (.inl ⟨_,_,rfl,rfl,.inr (.inr ⟨_,rfl,rfl,?_⟩)⟩),.inl rfl,.inl rfl,.inl rfl,trivial⟩
    intro q hq;simp only[AC.ids,List.mem_cons,List.not_mem_nil,or_false]at hq;subst hq;rfl
   ·exact⟨.inr (.inl rfl),.inr (.inl rfl),.inr (.inl rfl),.inr (.inl rfl),trivial⟩
   have hfl4:((exFold (es.take j)).map toksRow).length=j:=by rw[List.length_map,exFold_len,List.length_take];omega
   repeat' ((conv=>whnf);first|(with_reducible first|apply Wx|apply W6)|apply oi|(apply fi<;>intro h)|refine⟨_,rfl,?_⟩|((with_reducible show _=_);rfl))
   all_goals try((with_reducible refine Obl.mk ?_);exact KP)
   all_goals try exact⟨⟨by rw[hfl4];simp <;> omega,by rw[hfl4];simp <;> omega⟩⟩
   all_goals try exact⟨⟨by rw[hfl1,hfl2];(try dsimp only);omega,by rw[hfl1,hfl2];(try dsimp only);omega⟩⟩
   conv=>whnf
   refine⟨⟨j+1,by omega⟩,?_,by dsimp only;omega⟩
   repeat' ((conv=>whnf);first|(with_reducible first|apply Wx|apply W6)|apply oi|(apply fi<;>intro h)|refine⟨_,rfl,?_⟩|((with_reducible show _=_);rfl))
   all_goals try((with_reducible refine Obl.mk ?_);exact KP)
   all_goals try exact⟨KW⟩
   all_goals first|exact⟨by rw[exFold_get ha,exToks_append,exToks_one];simp⟩|exact⟨by rw[exFold_get ha];simp⟩
  ·have hje:j=es.length:=by omega
   subst hje
   rw[List.take_length]
   have hB:=s_impl_between t.fKind 2 6
   have hFl:=exFold_len es
   have hout:((t::exToks (exFold es)).map TTok.tr).length=1+(exToks (exFold es)).length:=by simp;omega
   generalize exFold es=F at *
   cases hk:within t.fKind 2 6 with
   | false=>
    rw[hk]at hB
    rw[finF_plain (.inr hk),Ex.toks]
    repeat' ((conv=>whnf);first|(with_reducible first|apply Wx|apply W6)|apply oi|(apply fi<;>intro h)|refine cl hB ?_|refine⟨_,rfl,?_⟩|((with_reducible show _=_);rfl))
    all_goals try((with_reducible refine Obl.mk ?_);exact KP)
    all_goals try exact KX
    all_goals exact⟨⟨rfl,flat_toks _⟩⟩
   | true=>
    rw[hk]at hB
    by_cases h2:(exToks F).length=2
    ·obtain⟨f1,f2,rfl⟩:=two_of (hFl.trans (hel.trans (ar_two ho.1 hk)))
     rw[exToks,exToks_one,List.length_append]at h2
     have p1:=f1.toks_pos
     have p2:=f2.toks_pos
     obtain⟨a,rfl⟩:=one_tok (f:=f1) (by omega)
     obtain⟨b,rfl⟩:=one_tok (f:=f2) (by omega)
     have e3:t::exToks [Ex.node a [],Ex.node b []]=[t,a,b]:=by simp[exToks,Ex.toks]
     have e4:(Ex.node t [Ex.node a [],Ex.node b []]).toks=[t,a,b]:=by rw[Ex.toks];exact e3
     have e6:([Ex.node a [],Ex.node b []].map toksRow)=[[.lst 3 [a.tr]],[.lst 3 [b.tr]]]:=by simp[Ex.toks,exToks]
     rw[e3,e6]
     have h1l:1 < ([t,a,b].map TTok.tr).length:=by simp
     have h2l:2 < ([t,a,b].map TTok.tr).length:=by simp
     have h0l:0 < [[Tr.lst 3 [a.tr]],[Tr.lst 3 [b.tr]]].length:=by simp
     have hAp:=s_impl_Apply t.fKind a.fNum b.fNum
     have hB2:=s_impl_between (applyP t.fKind a.fNum b.fNum) 0 999
     rw[finF_two]
     by_cases hc:finC t a b
     ·rw[if_pos hc]
      obtain⟨_,c1,c2,c3⟩:=hc
      rw[c3]at hB2
      have e5:(numE (applyP t.fKind a.fNum b.fNum)).toks=[⟨0,applyP t.fKind a.fNum b.fNum,[]⟩]:=by simp[numE,Ex.toks,exToks]
      rw[e5]
      generalize applyP t.fKind a.fNum b.fNum=ap at *
      repeat' ((conv=>whnf);first|(with_reducible first|apply Wx|apply W6)|apply oi|(apply fi<;>intro h)|refine cl hB ?_|refine⟨0,rfl,h0l,?_⟩|refine⟨[Tr.lst 3 [a.tr]],rfl,?_⟩|refine⟨1,rfl,h1l,?_⟩|refine⟨2,rfl,h2l,?_⟩|refine⟨a.tr,rfl,?_⟩|refine⟨b.tr,rfl,?_⟩|refine cl hAp ?_|refine cl hB2 ?_|refine⟨_,rfl,?_⟩|((with_reducible show _=_);rfl))
      all_goals try((with_reducible refine Obl.mk ?_);exact KP)
      all_goals try exact KX
      all_goals try(exfalso;simp_all;done)
     ·rw[if_neg hc,e4]
      have hc2:∀w,within (applyP t.fKind a.fNum b.fNum) 0 999=w→a.fKind=0→b.fKind=0→w=true→False:=fun w h1 h2 h3 h4=>hc ⟨hk,h2,h3,h1.trans h4⟩
      cases hw:within (applyP t.fKind a.fNum b.fNum) 0 999 with
      | true=>
       rw[hw]at hB2
       have hc3:=hc2 true hw
       generalize applyP t.fKind a.fNum b.fNum=ap at *
       repeat' ((conv=>whnf);first|(with_reducible first|apply Wx|apply W6)|apply oi|(apply fi<;>intro h)|refine cl hB ?_|refine⟨0,rfl,h0l,?_⟩|refine⟨[Tr.lst 3 [a.tr]],rfl,?_⟩|refine⟨1,rfl,h1l,?_⟩|refine⟨2,rfl,h2l,?_⟩|refine⟨a.tr,rfl,?_⟩|refine⟨b.tr,rfl,?_⟩|refine cl hAp ?_|refine cl hB2 ?_|refine⟨_,rfl,?_⟩|((with_reducible show _=_);rfl))
       all_goals try((with_reducible refine Obl.mk ?_);exact KP)
       all_goals try exact KX
       all_goals try exact⟨⟨rfl,flat_toks _⟩⟩
       all_goals try(exfalso;simp_all;done)
      | false=>
       rw[hw]at hB2
       generalize applyP t.fKind a.fNum b.fNum=ap at *
       repeat' ((conv=>whnf);first|(with_reducible first|apply Wx|apply W6)|apply oi|(apply fi<;>intro h)|refine cl hB ?_|refine⟨0,rfl,h0l,?_⟩|refine⟨[Tr.lst 3 [a.tr]],rfl,?_⟩|refine⟨1,rfl,h1l,?_⟩|refine⟨2,rfl,h2l,?_⟩|refine⟨a.tr,rfl,?_⟩|refine⟨b.tr,rfl,?_⟩|refine cl hAp ?_|refine cl hB2 ?_|refine⟨_,rfl,?_⟩|((with_reducible show _=_);rfl))
       all_goals try((with_reducible refine Obl.mk ?_);exact KP)
       all_goals try exact KX
       all_goals try exact⟨⟨rfl,flat_toks _⟩⟩
       all_goals try(exfalso;simp_all;done)
    ·rw[finF_plain (.inl h2),Ex.toks]
     repeat' ((conv=>whnf);first|(with_reducible first|apply Wx|apply W6)|apply oi|(apply fi<;>intro h)|refine cl hB ?_|refine⟨_,rfl,?_⟩|((with_reducible show _=_);rfl))
     all_goals try((with_reducible refine Obl.mk ?_);exact KP)
     all_goals try exact KX
     all_goals try exact⟨⟨rfl,flat_toks _⟩⟩
     all_goals try(exfalso;rw[hout]at *;simp at *;omega)
theorem s_impl_FoldExpr (l:List TTok)(hl:l.length≤1048576)(hn:toksShort l):Sim.Spec Tryz.prog 105 [tvL 3 (l.map TTok.tr)] (rL 3 ((foldL l).map TTok.tr)):=by
 refine spec_of_Wo hΓ hmix Tryz.func105 rfl (by decide) rfl ?_
 have hE:=s_impl_ExprOk l hl hn
 cases h:exprOk l with
 | false=>
  rw[h]at hE
  rw[foldL_no h]
  repeat' ((conv=>whnf);first|(with_reducible first|apply Wx|apply W6)|apply oi|(apply fi<;>intro h)|refine cl hE ?_|refine⟨_,rfl,?_⟩|((with_reducible show _=_);rfl))
  all_goals try((with_reducible refine Obl.mk ?_);exact KP)
  all_goals try exact KX
 | true=>
  rw[h]at hE
  obtain⟨e,h1,h2,h3⟩:=foldL_ok h
  have hF:=s_impl_foldAt e.toks.length e (Nat.le_refl _) l 0 hl hn h1 ⟨[],by rw[List.drop_zero,List.append_nil];exact h2⟩
  rw[h3]
  generalize e.fold.toks=r at *
  repeat' ((conv=>whnf);first|(with_reducible first|apply Wx|apply W6)|apply oi|(apply fi<;>intro h)|refine cl hE ?_|refine cl hF ?_|refine⟨_,rfl,?_⟩|((with_reducible show _=_);rfl))
  all_goals try((with_reducible refine Obl.mk ?_);exact KP)
  all_goals try exact KX
theorem s_impl_copyLine (x:TLine)(hs:smallR 1048576 x.tr):Sim.Spec Tryz.prog 104 [.agg x.tr] (.r (.agg (x.tr.map resC))):=by
 refine spec_of_Wo hΓ hmix Tryz.func104 rfl (by decide) rfl ?_
 obtain⟨h1,h2,h3,h4,h5⟩:=line_small hs
 repeat' ((conv=>whnf);first|(with_reducible first|apply Wx|apply W6)|apply oi|(apply fi<;>intro h)|refine⟨_,rfl,?_⟩|((with_reducible show _=_);rfl))
 all_goals try((with_reducible refine Obl.mk ?_);exact KP)
 all_goals try exact⟨⟨by simp <;> omega,by simp <;> omega⟩⟩
 all_goals try exact⟨⟨rfl,flat_strs _⟩⟩
 all_goals try exact⟨⟨rfl,flat_toks _⟩⟩
theorem s_impl_FoldProgram (l:List TLine)(hs:smallT 1048576 (.lst 4 (l.map TLine.tr))):Sim.Spec Tryz.prog 52 [tvP l] (rL 4 ((foldProg l).map TLine.tr)):=by
 refine spec_of_Wo hΓ hmix Tryz.func52 rfl (by decide) rfl ?_
 have hl:=small_nat hs
 have hP:=s_impl_ProgramOk l hs
 have hlen:(l.map TLine.tr).length=l.length:=by simp
 cases hpo:programOk l with
 | false=>
  rw[hpo]at hP
  have:foldProg l=[]:=by rw[foldProg,if_neg (by simp[hpo])]
  rw[this]
  repeat' ((conv=>whnf);first|(with_reducible first|apply Wx|apply W6)|apply oi|(apply fi<;>intro h)|refine cl hP ?_|refine⟨_,rfl,?_⟩|((with_reducible show _=_);rfl))
  all_goals try((with_reducible refine Obl.mk ?_);exact KP)
  all_goals try exact KX
 | true=>
  rw[hpo]at hP
  have:foldProg l=l.map foldLine:=by rw[foldProg,if_pos hpo]
  rw[this]
  repeat' ((conv=>whnf);first|(with_reducible first|apply Wx|apply W6)|apply oi|(apply fi<;>intro h)|refine cl hP ?_|refine⟨_,rfl,?_⟩|((with_reducible show _=_);rfl))
  all_goals try((with_reducible refine Obl.mk ?_);exact KP)
  all_goals try exact KX
  conv=>whnf
  refine⟨{k:Nat // k≤l.length},fun q=>⟨[(0,vP l),(3,.r (.c (.own (10,0,0)))),(11,vP l),(12,tI .i64 ((l.map TLine.tr).length:Int)),(13,tI .i64 (q.1:Int))],[((10,0,0),some (.dar 4 (deepRows (((l.take q.1).map foldLine).map TLine.tr)) none))],[10]⟩,fun q=>l.length - q.1,⟨0,by omega⟩,?_,?_⟩
  ·skip
   repeat' ((conv=>whnf);first|(with_reducible first|apply Wx|apply W6)|apply oi|(apply fi<;>intro h)|refine⟨_,rfl,?_⟩|((with_reducible show _=_);rfl))
   all_goals try((with_reducible refine Obl.mk ?_);exact KP)
  intro⟨k,hk⟩
  dsimp only at hk ⊢
  have hdl:(deepRows (((l.take k).map foldLine).map TLine.tr)).length=k:=by rw[deepRows_length,List.length_map,List.length_map,List.length_take];omega
  by_cases hlt:k < l.length
  ·obtain⟨x,hx⟩:=get_of_lt hlt
   have hsx:=smallRs_map hs (List.mem_of_getElem? hx)
   obtain⟨h1,h2,h3,h4,h5⟩:=line_small hsx
   have hF:=s_impl_FoldExpr x.fExpr h4 (fun y hy=>by have:=h5 y hy;omega)
   have hC:=s_impl_copyLine x hsx
   have hel3:(x.fExpr.map TTok.tr).length=x.fExpr.length:=by simp
   have htk:=take_map foldLine l k x hx
   by_cases hpos:0 < x.fExpr.length
   ·have hfl:foldLine x=⟨x.fKind,x.fName,x.fArgs,foldL x.fExpr⟩:=by rw[foldLine,if_pos hpos]
    repeat' ((conv=>whnf);first|(with_reducible first|apply Wx|apply W6)|apply oi|(apply fi<;>intro h)|refine⟨k,x.tr,rfl,map_get hx,?_⟩|refine cl hC ?_|refine cl hF ?_|refine⟨_,rfl,?_⟩|((with_reducible show _=_);rfl))
    all_goals try((with_reducible refine Obl.mk ?_);exact KP)
    all_goals try exact KX
    all_goals try exact⟨flat_toks _⟩
    all_goals try exact⟨flat_strs _⟩
    all_goals try exact⟨⟨by rw[hdl];(try dsimp only);simp <;> omega,by rw[hdl];(try dsimp only);simp <;> omega⟩⟩
    all_goals try(exfalso;have h':=of_decide_eq_false h;rw[hel3]at h';omega)
    conv=>whnf
    refine⟨⟨k+1,by omega⟩,?_,by dsimp only;omega⟩
    repeat' ((conv=>whnf);first|(with_reducible first|apply Wx|apply W6)|apply oi|(apply fi<;>intro h)|refine⟨_,rfl,?_⟩|((with_reducible show _=_);rfl))
    all_goals try((with_reducible refine Obl.mk ?_);exact KP)
    all_goals try exact⟨KW⟩
    all_goals(refine⟨?_⟩;dsimp only;rw[htk,hfl];simp[deepRows,TLine.tr])
   ·have hfl:foldLine x=x:=by rw[foldLine,if_neg hpos]
    repeat' ((conv=>whnf);first|(with_reducible first|apply Wx|apply W6)|apply oi|(apply fi<;>intro h)|refine⟨k,x.tr,rfl,map_get hx,?_⟩|refine cl hC ?_|refine⟨_,rfl,?_⟩|((with_reducible show _=_);rfl))
    all_goals try((with_reducible refine Obl.mk ?_);exact KP)
    all_goals try exact KX
    all_goals try exact⟨flat_toks _⟩
    all_goals try exact⟨flat_strs _⟩
    all_goals try exact⟨⟨by rw[hdl];(try dsimp only);simp <;> omega,by rw[hdl];(try dsimp only);simp <;> omega⟩⟩
    all_goals try(exfalso;have h':=of_decide_eq_true h;rw[hel3]at h';omega)
    conv=>whnf
    refine⟨⟨k+1,by omega⟩,?_,by dsimp only;omega⟩
    repeat' ((conv=>whnf);first|(with_reducible first|apply Wx|apply W6)|apply oi|(apply fi<;>intro h)|refine⟨_,rfl,?_⟩|((with_reducible show _=_);rfl))
    all_goals try((with_reducible refine Obl.mk ?_);exact KP)
    all_goals try exact⟨KW⟩
    all_goals(refine⟨?_⟩;dsimp only;rw[htk,hfl];simp[deepRows,TLine.tr])
  ·have hke:k=l.length:=by omega
   subst hke
   rw[List.take_length]
   repeat' ((conv=>whnf);first|(with_reducible first|apply Wx|apply W6)|apply oi|(apply fi<;>intro h)|refine⟨_,rfl,?_⟩|((with_reducible show _=_);rfl))
   all_goals try((with_reducible refine Obl.mk ?_);exact KP)
   all_goals try exact KX
end Go.Proofs.YtogdbgmiigfmfaaGreat
namespace Go.Proofs.YtogdbgmiigfmfaaGreat
open Go.Sim
set_option maxRecDepth 100000
set_option maxHeartbeats 4000000
def offI (x:TItem):TItem:=⟨x.fOp,x.fLine,false,x.fChain,x.fDepth,x.fEntered⟩
def clrAt (pend:List Nat)(i:Nat)(x:TItem):TItem:=if pend.contains i=true then offI x else x
def clrF (pend:List Nat):Nat→List TItem→List TItem
 | _,[]=>[]
 | i,x::l=>clrAt pend i x::clrF pend (i+1) l
def clr (pend:List Nat)(l:List TItem):List TItem:=clrF pend 0 l
theorem clrF_len (pend:List Nat):∀(l:List TItem) (i:Nat),(clrF pend i l).length=l.length
 | [],_=>rfl
 | x::l,i=>by rw[clrF,List.length_cons,List.length_cons,clrF_len pend l]
theorem clr_len (pend:List Nat)(l:List TItem):(clr pend l).length=l.length:=clrF_len pend l 0
theorem clrF_get (pend:List Nat):∀(l:List TItem) (i j:Nat),(clrF pend i l)[j]?=(l[j]?).map (clrAt pend (i+j))
 | [],i,j=>by simp[clrF]
 | x::l,i,0=>by simp[clrF]
 | x::l,i,j+1=>by
  rw[clrF,List.getElem?_cons_succ,clrF_get pend l,List.getElem?_cons_succ,show i+1+j=i+(j+1) by omega]
theorem clr_get (pend:List Nat)(l:List TItem)(j:Nat):(clr pend l)[j]?=(l[j]?).map (clrAt pend j):=by
 rw[clr,clrF_get,Nat.zero_add]
theorem clrF_append (pend:List Nat):∀(a b:List TItem) (i:Nat),clrF pend i (a++b)=clrF pend i a++clrF pend (i+a.length) b
 | [],b,i=>by simp[clrF]
 | x::a,b,i=>by
  rw[List.cons_append,clrF,clrF,clrF_append pend a b,List.cons_append,List.length_cons,show i+1+a.length=i+(a.length+1) by omega]
theorem clr_snoc (pend:List Nat)(l:List TItem)(x:TItem):clr pend (l++[x])=clr pend l++[clrAt pend l.length x]:=by
 rw[clr,clrF_append,Nat.zero_add]
 rfl
theorem offI_off {x:TItem}(h:x.fStart=false):offI x=x:=by
 obtain⟨a,b,c,d,e,f⟩:=x
 simp only at h
 subst h
 rfl
theorem clr_set (pend:List Nat)(l:List TItem)(j:Nat)(x:TItem):clr pend (l.set j x)=(clr pend l).set j (clrAt pend j x):=by
 apply List.ext_getElem?
 intro i
 rw[clr_get,List.getElem?_set,List.getElem?_set,clr_len,clr_get]
 by_cases h:j=i
 ·subst h
  rw[if_pos rfl,if_pos rfl]
  split <;> rfl
 ·rw[if_neg h,if_neg h]
theorem clr_setArg (pend:List Nat)(l:List TItem)(j v:Int):clr pend (setArg l j v)=setArg (clr pend l) j v:=by
 unfold setArg
 split
 ·rw[clr_get]
  cases hx:l[j.toNat]? with
  | none=>rfl
  | some x=>
   dsimp only[Option.map_some]
   rw[clr_set]
   congr 1
   unfold clrAt
   split <;> rfl
 ·rfl
theorem clr_nil (l:List TItem):clr [] l=l:=by
 apply List.ext_getElem?
 intro i
 rw[clr_get]
 cases l[i]? <;> rfl
def Beg (b:Nat)(s:Gs):Prop:=b≤s.items.length∧(s.start=true↔s.items.length=b)
theorem Beg.emit {b:Nat}{s:Gs}(h:Beg b s)(C:Cx)(d code arg line:Int)(chain:List Int):Beg b (emitG C s d code arg line chain):=by
 obtain⟨h1,h2⟩:=h
 refine⟨by simp only[emitG,List.length_append,List.length_cons,List.length_nil];omega,?_⟩
 simp only[emitG,List.length_append,List.length_cons,List.length_nil]
 exact⟨fun h=>(by cases h),fun h=>by omega⟩
theorem Beg.off {b:Nat}{s s':Gs}(h:Beg b s)(h1:s.items.length < s'.items.length)(h2:s'.start=false):Beg b s':=by
 have:=h.1
 exact⟨by omega,by rw[h2];exact⟨fun h=>(by cases h),fun h=>by omega⟩⟩
theorem storesG_beg {b:Nat}{C:Cx}(y:Sc)(chain:List Int)(line:Int):∀(n:Nat) (d:Int) (s:Gs),Beg b s→Beg b (storesG C y chain line n d s)
 | 0,d,s,h=>h
 | n+1,d,s,h=>by rw[storesG];exact storesG_beg y chain line n (d - 1) _ (h.emit ..)
theorem zerosG_beg {b:Nat}{C:Cx}(y:Sc)(chain:List Int)(line d:Int):∀(n i:Nat) (s:Gs),Beg b s→Beg b (zerosG C y chain line d n i s)
 | 0,i,s,h=>h
 | n+1,i,s,h=>by rw[zerosG];exact zerosG_beg y chain line d n (i+1) _ ((h.emit ..).emit ..)
theorem leaveG_off {C:Cx}{x:Sc}{k:Nat}{last:Bool}{d:Int}{L:Ls}(h:L.g.start=false∨(x.outer=true∨last=false)):(leaveG C x k last d L).g.start=false:=by
 unfold leaveG
 split
 ·split <;> rfl
 ·split
  ·rename_i h1 h2
   rcases h with h|h|h
   ·exact h
   ·exact absurd h h1
   ·rw[h2]at h;cases h
  ·rfl
theorem stepA_off {C:Cx}{rep:Sc→List Nat→Nat→Nat→Int→Gs→Gs}{x:Sc}{ins:List Nat}{base:Int}{k:Nat}{ln:TLine}{L:Ls}(h:L.g.start=false):(stepA C rep x ins base k ln L).g.start=false:=by
 unfold stepA
 split
 ·rfl
 ·split
  ·split
   ·exact leaveG_off (.inl rfl)
   ·split
    ·rfl
    ·exact h
  ·dsimp only
   split
   ·rfl
   ·split
    ·rfl
    ·split
     ·exact leaveG_off (.inr (.inr rfl))
     ·rfl
theorem stepB_off {C:Cx}{x:Sc}{k:Nat}{ln:TLine}{L:Ls}(h:L.g.start=false):(stepB C x k ln L).g.start=false:=by
 unfold stepB
 split <;> exact h
theorem runL_off {C:Cx}{rep:Sc→List Nat→Nat→Nat→Int→Gs→Gs}{x:Sc}{ins:List Nat}{base:Int}:∀(n k:Nat) (L:Ls),L.g.start=false→(runL C rep x ins base n k L).g.start=false
 | 0,k,L,h=>h
 | n+1,k,L,h=>by
  rw[runL]
  split
  ·exact runL_off n (k+1) _ (stepB_off (stepA_off h))
  ·exact h
theorem linesG_off {C:Cx}{rep:Sc→List Nat→Nat→Nat→Int→Gs→Gs}{x:Sc}{ins:List Nat}{base:Int}{s:Gs}(h:s.start=false):(linesG C rep x ins base s).1.start=false:=runL_off _ _ _ h
theorem spaceG_beg {b:Nat}{C:Cx}{x:Sc}{line:Nat}{d:Int}{s:Gs}(h:Beg b s):Beg b (spaceG C x line d s)∧(spaceG C x line d s).start=false:=by
 unfold spaceG
 split
 ·exact⟨h.emit ..,rfl⟩
 ·rename_i hn;exact⟨h,by simpa using hn⟩
theorem repN_beg {C:Cx}(hC:CxOk C):∀(lev:Nat) {x:Sc} {ins:List Nat} {b:Nat} (line g:Nat) (d:Int) (s:Gs),ScOk C x ins→isFun C g→replB C ins g s.items.length=true→Beg b s→Beg b (repN C lev x ins line g d s)
 | 0,x,ins,b,line,g,d,s,hx,hg,hr,h=>h
 | lev+1,x,ins,b,line,g,d,s,hx,hg,hr,h=>by
  have hy:=inSc_ok hC hx line hg
  have h1:Beg b (preG C x line g d s):=by
   unfold preG
   exact zerosG_beg _ _ _ _ _ _ _ (storesG_beg _ _ _ _ _ _ ⟨h.1,h.2⟩)
  obtain⟨h2,h3⟩:=spaceG_beg (C:=C) (x:=x) (line:=line) (d:=d - argsN C.p g) h1
  have hG:=linesG_grow (lev:=lev) (rep:=repN C lev) (fun line g d s hg hr=>repN_grow hC lev line g d s hy hg hr) hC hy (d - argsN C.p g) (spaceG C x line (d - argsN C.p g) (preG C x line g d s))
  have hoff:=linesG_off (C:=C) (rep:=repN C lev) (x:=inSc C x line g) (ins:=ins++[g]) (base:=d - argsN C.p g) h3
  show Beg b (replG C (linesG C (repN C lev)) x ins line g d s)
  unfold replG
  have hb:=h2.2
  rw[h3]at hb
  have hne:(spaceG C x line (d - argsN C.p g) (preG C x line g d s)).items.length≠b:=fun e=>by have:=hb.2 e;cases this
  have hle:=h2.1
  have hge:=hG.ge
  refine⟨by dsimp only;rw[patchL_len];omega,?_⟩
  dsimp only
  rw[patchL_len,hoff]
  exact⟨fun h=>(by cases h),fun h=>by omega⟩
section
variable {C:Cx} {x:Sc} {ins:List Nat} {rep:Sc→List Nat→Nat→Nat→Int→Gs→Gs} {line b:Nat}
theorem finG_beg (hrep:∀g d s,isFun C g→replB C ins g s.items.length=true→Beg b s→Beg b (rep x ins line g d s))(t:TTok)(d:Int){s:Gs}(h:Beg b s):Beg b (finG C rep x ins line t d s):=by
 unfold finG
 split
 ·exact h.emit ..
 ·split
  ·exact h.emit ..
  ·split
   ·split
    ·rename_i g hg
     split
     ·rename_i hr
      obtain⟨_,ln,h1,h2,_⟩:=find_some hg
      exact hrep g d s ⟨ln,h1,h2⟩ hr h
     ·exact h.emit ..
    ·exact h
   ·exact h.emit ..
mutual
theorem genE_beg (hrep:∀g d s,isFun C g→replB C ins g s.items.length=true→Beg b s→Beg b (rep x ins line g d s)):∀(e:Ex) (d:Int) {s:Gs},Beg b s→Beg b (genE C rep x ins line e d s)
 | .node t es,d,s,h=>by
  rw[genE]
  exact finG_beg hrep t _ (genEs_beg hrep es d h)
theorem genEs_beg (hrep:∀g d s,isFun C g→replB C ins g s.items.length=true→Beg b s→Beg b (rep x ins line g d s)):∀(es:List Ex) (d:Int) {s:Gs},Beg b s→Beg b (genEs C rep x ins line es d s)
 | [],d,s,h=>h
 | a::es,d,s,h=>by
  rw[genEs]
  exact genEs_beg hrep es (d+1) (genE_beg hrep a d h)
end
end
def Keep (s s':Gs):Prop:=∀(j:Nat) (it:TItem),s.items[j]?=some it→∃it',s'.items[j]?=some it'∧it'.fStart=it.fStart
theorem Keep.refl (s:Gs):Keep s s:=fun _ it h=>⟨it,h,rfl⟩
theorem Keep.trans {a b c:Gs}(h:Keep a b)(h':Keep b c):Keep a c:=fun j it hj=>by
 obtain⟨it1,h1,e1⟩:=h j it hj
 obtain⟨it2,h2,e2⟩:=h' j it1 h1
 exact⟨it2,h2,e2.trans e1⟩
theorem Keep.emit (C:Cx)(s:Gs)(d code arg line:Int)(chain:List Int):Keep s (emitG C s d code arg line chain):=fun j it hj=>by
 refine⟨it,?_,rfl⟩
 show(s.items++_)[j]?=_
 rw[List.getElem?_append_left (lt_of_get hj)]
 exact hj
theorem setArg_keep {l:List TItem}{j v:Int}{i:Nat}{it:TItem}(h:l[i]?=some it):∃it',(setArg l j v)[i]?=some it'∧it'.fStart=it.fStart:=by
 unfold setArg
 split
 ·split
  ·rename_i x hx
   by_cases hij:j.toNat=i
   ·subst hij
    rw[hx]at h
    injection h with h
    subst h
    exact⟨_,List.getElem?_set_self (lt_of_get hx),rfl⟩
   ·exact⟨it,by rw[List.getElem?_set_ne hij];exact h,rfl⟩
  ·exact⟨it,h,rfl⟩
 ·exact⟨it,h,rfl⟩
theorem patchL_keep {v:Int}:∀{js:List Int} {l:List TItem} {i:Nat} {it:TItem},l[i]?=some it→∃it',(patchL l v js)[i]?=some it'∧it'.fStart=it.fStart
 | [],l,i,it,h=>⟨it,h,rfl⟩
 | j::js,l,i,it,h=>by
  obtain⟨it1,h1,e1⟩:=setArg_keep (j:=j) (v:=v) h
  obtain⟨it2,h2,e2⟩:=patchL_keep (v:=v) (js:=js) h1
  exact⟨it2,by rw[patchL];exact h2,e2.trans e1⟩
theorem storesG_keep {C:Cx}(y:Sc)(chain:List Int)(line:Int):∀(n:Nat) (d:Int) (s:Gs),Keep s (storesG C y chain line n d s)
 | 0,d,s=>Keep.refl s
 | n+1,d,s=>by rw[storesG];exact(Keep.emit C s d _ _ _ _).trans (storesG_keep y chain line n (d - 1) _)
theorem zerosG_keep {C:Cx}(y:Sc)(chain:List Int)(line d:Int):∀(n i:Nat) (s:Gs),Keep s (zerosG C y chain line d n i s)
 | 0,i,s=>Keep.refl s
 | n+1,i,s=>by rw[zerosG];exact((Keep.emit C s d _ _ _ _).trans (Keep.emit C _ (d+1) _ _ _ _)).trans (zerosG_keep y chain line d n (i+1) _)
theorem leaveG_keep {C:Cx}{x:Sc}(k:Nat)(last:Bool)(d:Int)(L:Ls):Keep L.g (leaveG C x k last d L).g:=by
 unfold leaveG
 split
 ·split
  ·exact Keep.emit _ _ _ _ _ _ _
  ·exact Keep.emit _ _ _ _ _ _ _
 ·split
  ·exact Keep.refl _
  ·exact Keep.emit _ _ _ _ _ _ _
section
variable {C:Cx} {rep:Sc→List Nat→Nat→Nat→Int→Gs→Gs}
theorem finG_keep (hrep:∀x ins line g d s,Keep s (rep x ins line g d s))(x:Sc)(ins:List Nat)(line:Nat)(t:TTok)(d:Int)(s:Gs):Keep s (finG C rep x ins line t d s):=by
 unfold finG
 repeat' split
 all_goals first|exact Keep.emit _ _ _ _ _ _ _|exact hrep _ _ _ _ _ _|exact Keep.refl _
mutual
theorem genE_keep (hrep:∀x ins line g d s,Keep s (rep x ins line g d s))(x:Sc)(ins:List Nat)(line:Nat):∀(e:Ex) (d:Int) (s:Gs),Keep s (genE C rep x ins line e d s)
 | .node t es,d,s=>by rw[genE];exact(genEs_keep hrep x ins line es d s).trans (finG_keep hrep x ins line t _ _)
theorem genEs_keep (hrep:∀x ins line g d s,Keep s (rep x ins line g d s))(x:Sc)(ins:List Nat)(line:Nat):∀(es:List Ex) (d:Int) (s:Gs),Keep s (genEs C rep x ins line es d s)
 | [],d,s=>Keep.refl s
 | a::es,d,s=>by rw[genEs];exact(genE_keep hrep x ins line a d s).trans (genEs_keep hrep x ins line es (d+1) _)
end
theorem stepA_keep (hrep:∀x ins line g d s,Keep s (rep x ins line g d s))(x:Sc)(ins:List Nat)(base:Int)(k:Nat)(ln:TLine)(L:Ls):Keep L.g (stepA C rep x ins base k ln L).g:=by
 unfold stepA
 split
 ·intro j it hj
  obtain⟨it1,h1,e1⟩:=Keep.emit C L.g base 10 0 k x.chain j it hj
  obtain⟨it2,h2,e2⟩:=setArg_keep (j:=atL L.pos (ownOf C.p k)) (v:=((emitG C L.g base 10 0 k x.chain).items.length:Int)) h1
  exact⟨it2,h2,e2.trans e1⟩
 ·split
  ·split
   ·exact(Keep.emit C L.g base 0 0 k x.chain).trans (leaveG_keep k true (base+1) {L with g:=emitG C L.g base 0 0 k x.chain})
   ·split
    ·exact Keep.emit _ _ _ _ _ _ _
    ·exact Keep.refl _
  ·have h20:Keep L.g (genE C rep x ins k (exL ln.fExpr) base ⟨L.g.items,L.g.most,true⟩):=fun j it hj=>genE_keep hrep x ins k (exL ln.fExpr) base ⟨L.g.items,L.g.most,true⟩ j it hj
   dsimp only
   split
   ·exact h20.trans (Keep.emit _ _ _ _ _ _ _)
   ·split
    ·exact h20.trans (Keep.emit _ _ _ _ _ _ _)
    ·split
     ·exact h20.trans (leaveG_keep k false (base+1) {L with g:=genE C rep x ins k (exL ln.fExpr) base ⟨L.g.items,L.g.most,true⟩,heads:=L.heads.set k L.g.items.length})
     ·exact h20.trans (Keep.emit _ _ _ _ _ _ _)
theorem stepB_keep (x:Sc)(k:Nat)(ln:TLine)(L:Ls):Keep L.g (stepB C x k ln L).g:=by
 unfold stepB
 split
 ·exact fun j it hj=>setArg_keep hj
 ·exact Keep.refl _
theorem runL_keep (hrep:∀x ins line g d s,Keep s (rep x ins line g d s))(x:Sc)(ins:List Nat)(base:Int):∀(n k:Nat) (L:Ls),Keep L.g (runL C rep x ins base n k L).g
 | 0,k,L=>Keep.refl _
 | n+1,k,L=>by
  rw[runL]
  split
  ·rename_i ln _
   exact((stepA_keep hrep x ins base k ln L).trans (stepB_keep x k ln _)).trans (runL_keep hrep x ins base n (k+1) _)
  ·exact Keep.refl _
end
theorem repN_keep {C:Cx}:∀(lev:Nat) (x:Sc) (ins:List Nat) (line g:Nat) (d:Int) (s:Gs),Keep s (repN C lev x ins line g d s)
 | 0,x,ins,line,g,d,s=>Keep.refl s
 | lev+1,x,ins,line,g,d,s=>by
  show Keep s (replG C (linesG C (repN C lev)) x ins line g d s)
  unfold replG
  have h1:Keep s (preG C x line g d s):=by
   unfold preG
   exact fun j it hj=>((storesG_keep _ _ _ _ _ _).trans (zerosG_keep _ _ _ _ _ _ _)) j it hj
  have h2:Keep (preG C x line g d s) (spaceG C x line (d - argsN C.p g) (preG C x line g d s)):=by
   unfold spaceG
   split
   ·exact Keep.emit _ _ _ _ _ _ _
   ·exact Keep.refl _
  have h3:Keep (spaceG C x line (d - argsN C.p g) (preG C x line g d s)) (linesG C (repN C lev) (inSc C x line g) (ins++[g]) (d - argsN C.p g) (spaceG C x line (d - argsN C.p g) (preG C x line g d s))).1:=runL_keep (fun x ins line g d s=>repN_keep lev x ins line g d s) _ _ _ _ _ (startL C _)
  intro j it hj
  obtain⟨it1,k1,e1⟩:=((h1.trans h2).trans h3) j it hj
  obtain⟨it2,k2,e2⟩:=patchL_keep (v:=((linesG C (repN C lev) (inSc C x line g) (ins++[g]) (d - argsN C.p g) (spaceG C x line (d - argsN C.p g) (preG C x line g d s))).1.items.length:Int)) (js:=(linesG C (repN C lev) (inSc C x line g) (ins++[g]) (d - argsN C.p g) (spaceG C x line (d - argsN C.p g) (preG C x line g d s))).2) k1
  exact⟨it2,k2,e2.trans e1⟩
def Mark (b:Nat)(s:Gs):Prop:=(s.start=true∧s.items.length=b)∨∃it,s.items[b]?=some it∧it.fStart=true
theorem Mark.keep {b:Nat}{s s':Gs}(h:∃it,s.items[b]?=some it∧it.fStart=true)(hk:Keep s s'):∃it,s'.items[b]?=some it∧it.fStart=true:=by
 obtain⟨it,h1,h2⟩:=h
 obtain⟨it',h3,h4⟩:=hk b it h1
 exact⟨it',h3,h4.trans h2⟩
theorem Mark.emit {b:Nat}{s:Gs}(h:Mark b s)(C:Cx)(d code arg line:Int)(chain:List Int):Mark b (emitG C s d code arg line chain):=by
 rcases h with⟨h1,h2⟩|h
 ·refine .inr ⟨mkItem C s d code arg line chain,?_,h1⟩
  show(s.items++[_])[b]?=_
  rw[←h2]
  simp
 ·exact .inr (Mark.keep h (Keep.emit _ _ _ _ _ _ _))
theorem storesG_mark {b:Nat}{C:Cx}(y:Sc)(chain:List Int)(line:Int):∀(n:Nat) (d:Int) (s:Gs),Mark b s→Mark b (storesG C y chain line n d s)
 | 0,d,s,h=>h
 | n+1,d,s,h=>by rw[storesG];exact storesG_mark y chain line n (d - 1) _ (h.emit ..)
theorem zerosG_mark {b:Nat}{C:Cx}(y:Sc)(chain:List Int)(line d:Int):∀(n i:Nat) (s:Gs),Mark b s→Mark b (zerosG C y chain line d n i s)
 | 0,i,s,h=>h
 | n+1,i,s,h=>by rw[zerosG];exact zerosG_mark y chain line d n (i+1) _ ((h.emit ..).emit ..)
theorem repN_mark {C:Cx}:∀(lev:Nat) {b:Nat} (x:Sc) (ins:List Nat) (line g:Nat) (d:Int) (s:Gs),Mark b s→Mark b (repN C lev x ins line g d s)
 | 0,b,x,ins,line,g,d,s,h=>h
 | lev+1,b,x,ins,line,g,d,s,h=>by
  show Mark b (replG C (linesG C (repN C lev)) x ins line g d s)
  unfold replG
  have h1:Mark b (preG C x line g d s):=by
   unfold preG
   exact zerosG_mark _ _ _ _ _ _ _ (storesG_mark _ _ _ _ _ _ h)
  have h2:∃it,(spaceG C x line (d - argsN C.p g) (preG C x line g d s)).items[b]?=some it∧it.fStart=true:=by
   unfold spaceG
   split
   ·rcases Mark.emit h1 C (d - argsN C.p g) 15 0 line x.chain with⟨k,_⟩|k
    ·cases k
    ·exact k
   ·rename_i hn
    rcases h1 with⟨k,_⟩|k
    ·exact absurd k hn
    ·exact k
  have h3:=Mark.keep h2 (runL_keep (C:=C) (rep:=repN C lev) (fun x ins line g d s=>repN_keep lev x ins line g d s) (inSc C x line g) (ins++[g]) (d - argsN C.p g) (endL' C.p g - g) (g+1) (startL C _))
  obtain⟨it,k1,k2⟩:=h3
  obtain⟨it2,k3,e2⟩:=patchL_keep (v:=((linesG C (repN C lev) (inSc C x line g) (ins++[g]) (d - argsN C.p g) (spaceG C x line (d - argsN C.p g) (preG C x line g d s))).1.items.length:Int)) (js:=(linesG C (repN C lev) (inSc C x line g) (ins++[g]) (d - argsN C.p g) (spaceG C x line (d - argsN C.p g) (preG C x line g d s))).2) k1
  exact .inr ⟨it2,k3,e2.trans k2⟩
section
variable {C:Cx} {rep:Sc→List Nat→Nat→Nat→Int→Gs→Gs} {b:Nat}
theorem finG_mark (hrep:∀x ins line g d s,Mark b s→Mark b (rep x ins line g d s))(x:Sc)(ins:List Nat)(line:Nat)(t:TTok)(d:Int)(s:Gs)(h:Mark b s):Mark b (finG C rep x ins line t d s):=by
 unfold finG
 repeat' split
 all_goals first|exact Mark.emit h ..|exact hrep _ _ _ _ _ _ h|exact h
mutual
theorem genE_mark (hrep:∀x ins line g d s,Mark b s→Mark b (rep x ins line g d s))(x:Sc)(ins:List Nat)(line:Nat):∀(e:Ex) (d:Int) (s:Gs),Mark b s→Mark b (genE C rep x ins line e d s)
 | .node t es,d,s,h=>by rw[genE];exact finG_mark hrep x ins line t _ _ (genEs_mark hrep x ins line es d s h)
theorem genEs_mark (hrep:∀x ins line g d s,Mark b s→Mark b (rep x ins line g d s))(x:Sc)(ins:List Nat)(line:Nat):∀(es:List Ex) (d:Int) (s:Gs),Mark b s→Mark b (genEs C rep x ins line es d s)
 | [],d,s,h=>h
 | a::es,d,s,h=>by rw[genEs];exact genEs_mark hrep x ins line es (d+1) _ (genE_mark hrep x ins line a d s h)
end
end
theorem repN_off {C:Cx}{lev:Nat}{x:Sc}{ins:List Nat}{line g:Nat}{d:Int}{s:Gs}{b:Nat}(h:Beg b s):(repN C (lev+1) x ins line g d s).start=false:=by
 show(replG C (linesG C (repN C lev)) x ins line g d s).start=false
 unfold replG
 have h1:Beg b (preG C x line g d s):=by
  unfold preG
  exact zerosG_beg _ _ _ _ _ _ _ (storesG_beg _ _ _ _ _ _ ⟨h.1,h.2⟩)
 exact linesG_off (spaceG_beg (C:=C) (x:=x) (line:=line) (d:=d - argsN C.p g) h1).2
end Go.Proofs.YtogdbgmiigfmfaaGreat
namespace Go.Proofs.YtogdbgmiigfmfaaGreat
open Go.Sim
set_option maxRecDepth 100000
set_option maxHeartbeats 4000000
structure Ib where
 f:Int
 e:Int
 locals:List (List UInt8)
 args:Int
 first:Int
 chain:List Int
 base:Int
abbrev ibB (q:Ib)(j:Sim.Id):AO:= .box [.t (.int .i64 q.f),.t (.int .i64 q.e),.t (.lst 1 (q.locals.map strRow)),.t (.int .i64 q.args),.t (.int .i64 q.first),.t (.lst 1 (q.chain.map intRow)),.t (.int .i64 q.base),.own j]
abbrev cmpB (C:Cx)(s:Gs)(d:Int)(i1 i2:Sim.Id):AO:= .box [.t (.lst 4 (C.p.map TLine.tr)),.t (.int .i64 C.b.fFrames),.t (.int .i64 C.b.fInline),.t (.bool C.b.fFold),.t (.bool C.b.fSplit),.t (.bool C.framed),.t (.int .i64 C.words),.t (.int .i64 s.most),.own i1,.t (.int .i64 d),.own i2]
abbrev insR (ins:List Nat):List (List Tr):=ins.map fun n:Nat=>intRow (n:Int)
abbrev cmpH (i1 i2 j:Sim.Id)(C:Cx)(pd:List Nat)(s:Gs)(d:Int)(ins:List Nat)(q:Ib)(lv:List Int):List (Sim.Id×AO):=
 [((0,0,0),cmpB C s d i1 i2),(i1,.dar 7 (itR (clr pd s.items)) none),(i2,.arr false 1 (insR ins)),((0,1,0),ibB q j),(j,.arr false 1 (lv.map intRow))]
abbrev ibP:AV:= .r (.c (.ptr (0,1,0) 0))
structure IbOk (C:Cx) (x:Sc) (q:Ib):Prop where
 chain:q.chain=x.chain
 first:q.first=x.first
 locals:q.locals=x.locals
 args:x.outer=true→q.args=C.args
 out:x.outer=true↔x.chain=[]
 zero:x.outer=true→x.first=0
theorem clr_emit {C:Cx}{pd:List Nat}{s:Gs}{d code arg line:Int}{chain:List Int}(h:s.start=true→s.items.length∈pd):clr pd (emitG C s d code arg line chain).items=clr pd s.items++[offI (mkItem C s d code arg line chain)]:=by
 show clr pd (s.items++[_])=_
 rw[clr_snoc]
 congr 2
 unfold clrAt
 cases hs:s.start with
 | true=>rw[if_pos (List.contains_iff_mem.2 (h hs))]
 | false=>
  split
  ·rfl
  ·exact(offI_off (by show s.start=false;exact hs)).symm
theorem itR_clr_len (pd:List Nat)(l:List TItem):(itR (clr pd l)).length=l.length:=by rw[itR_len,clr_len]
theorem g_impl_add (C:Cx)(pd:List Nat)(s:Gs)(d:Int)(ins:List Nat)(q:Ib)(lv:List Int)(line code arg change:Int)(h1:roomy s)(h2:q.chain.length≤100)(h3:s.start=true→s.items.length∈pd)(h4:-2000≤d∧d≤2000)(h5:-100≤change∧change≤1000):
  SpecG Tryz.prog 107 [mkrP,ibP,tI .i64 line,tI .i64 code,tI .i64 arg,tI .i64 change] (cmpH (0,0,1) (0,0,2) (0,1,1) C pd s d ins q lv) (.tup []) (cmpH (1,0,1) (0,0,2) (0,1,1) C pd (emitG C s d code arg line q.chain) (d+change) ins q lv):=by
 refine specG_of_Wo hΓ hmix Tryz.func107 rfl (by decide) rfl rfl ?_
 unfold roomy at h1
 have hlen:=itR_clr_len pd s.items
 have hcl:(q.chain.map intRow).length=q.chain.length:=by simp
 have hfl:=flat_ints q.chain
 have hem:=clr_emit (C:=C) (pd:=pd) (s:=s) (d:=d) (code:=code) (arg:=arg) (line:=line) (chain:=q.chain) h3
 repeat' ((conv=>whnf);first|(with_reducible first|apply Wx|apply W6)|apply oi|(apply fi<;>intro h)|refine⟨_,rfl,?_⟩|((with_reducible show _=_);rfl))
 all_goals try((with_reducible refine Obl.mk ?_);exact KP)
 all_goals try exact⟨⟨by rw[hlen];(try dsimp only);omega,by rw[hlen];(try dsimp only);omega⟩⟩
 all_goals try exact⟨⟨by simp <;> omega,by simp <;> omega⟩⟩
 all_goals try exact⟨by simpa using hfl⟩
 all_goals try exact⟨KW⟩
 all_goals(refine⟨?_⟩;rw[hem,itR_snoc];(try rw[hlen]at *);congr 1;simp_all[mkItem,TItem.tr,offI])
theorem g_impl_word (C:Cx)(pd:List Nat)(s:Gs)(d:Int)(ins:List Nat)(q:Ib)(lv:List Int)(y:Sc)(line i:Int)(hy:y.outer=false)(hf:q.first=y.first)(h1:roomy s)(h2:q.chain.length≤100)(h3:s.start=true→s.items.length∈pd)(h4:-1000≤d∧d≤2000)(h5:0≤y.first∧y.first≤1000)(h6:-2≤i∧i≤100):
  SpecG Tryz.prog 204 [mkrP,ibP,tI .i64 line,tI .i64 i] (cmpH (0,0,1) (0,0,2) (0,1,1) C pd s d ins q lv) (.tup []) (cmpH (1,0,1) (0,0,2) (0,1,1) C pd (storeG C y s d i line q.chain) (d - 1) ins q lv):=by
 refine specG_of_Wo hΓ hmix Tryz.func204 rfl (by decide) rfl rfl ?_
 have g1:=g_impl_add C pd s d ins q lv line (placeC C true) (placeA C y d i) (-1) h1 h2 h3 (by omega) (by omega)
 have hy2:isArg C y i=false:=by unfold isArg;rw[hy];rfl
 have hy3:aboveK C y i=y.first+i:=by unfold aboveK;rw[if_neg (by simp[hy])]
 have e1:IntKind.i64.wrap (q.first+i)=y.first+i:=by rw[hf,IntWalk.i64_in _ (by omega)]
 unfold storeG
 cases hfm:C.framed with
 | true=>
  have e2:placeC C true=2:=by unfold placeC;rw[if_pos hfm];rfl
  have e3:placeA C y d i=IntKind.i64.wrap (-1 - IntKind.i64.wrap (q.first+i)):=by unfold placeA;rw[if_pos hfm,if_neg (by simp[hy2]),hy3,e1,IntWalk.i64_in _ (by omega)]
  rw[e2,e3]at g1
  rw[e2,e3]
  repeat' ((conv=>whnf);first|(with_reducible first|apply Wx|apply W6)|refine cg g1 ?_|apply oi|(apply fi<;>intro h)|refine⟨_,rfl,?_⟩|((with_reducible show _=_);rfl))
  all_goals try((with_reducible refine Obl.mk ?_);exact KP)
  all_goals try(exfalso;rw[hfm]at h;cases h;done)
  all_goals try exact⟨KW⟩
 | false=>
  have e2:placeC C true=4:=by unfold placeC;rw[if_neg (by simp[hfm])];rfl
  have e3:placeA C y d i=IntKind.i64.wrap (IntKind.i64.wrap (d - 1) - IntKind.i64.wrap (q.first+i)):=by unfold placeA;rw[if_neg (by simp[hfm]),if_neg (by simp[hy2]),hy3,e1];simp(disch:=omega)only[IntWalk.i64_in]
  rw[e2,e3]at g1
  rw[e2,e3]
  repeat' ((conv=>whnf);first|(with_reducible first|apply Wx|apply W6)|refine cg g1 ?_|apply oi|(apply fi<;>intro h)|refine⟨_,rfl,?_⟩|((with_reducible show _=_);rfl))
  all_goals try((with_reducible refine Obl.mk ?_);exact KP)
  all_goals try(exfalso;rw[hfm]at h;cases h;done)
  all_goals try exact⟨KW⟩
theorem g_impl_access (C:Cx)(hC:CxOk C)(pd:List Nat)(s:Gs)(d:Int)(ins:List Nat)(q:Ib)(lv:List Int)(x:Sc)(hq:IbOk C x q)(line i chg:Int)(store:Bool)(hch:chg=if store=true then -1 else 1)(h1:roomy s)(h2:x.chain.length≤100)(h3:s.start=true→s.items.length∈pd)(h4:-1000≤d∧d≤1999)(h5:0≤x.first∧x.first≤1000)(h6:-2≤i∧i≤100):
  SpecG Tryz.prog 163 [mkrP,ibP,tI .i64 line,tI .i64 i,tB store] (cmpH (0,0,1) (0,0,2) (0,1,1) C pd s d ins q lv) (.tup []) (cmpH (1,0,1) (0,0,2) (0,1,1) C pd (emitG C s d (placeC C store) (placeA C x d i) line x.chain) (d+chg) ins q lv):=by
 refine specG_of_Wo hΓ hmix Tryz.func163 rfl (by decide) rfl rfl ?_
 obtain⟨a1,a2⟩:=hC.args
 obtain⟨qf,qe,ql,qa,qi,qc,qb⟩:=q
 obtain⟨xf,xc,xl,xi,xo⟩:=x
 obtain⟨q1,q2,q3,q4,q5,q6⟩:=hq
 dsimp only at q1 q2 q3 q4 q5 q6 h2 h5
 subst q1;subst q2;subst q3
 have g1:=g_impl_add C pd s d ins ⟨qf,qe,ql,qa,qi,qc,qb⟩ lv line (placeC C store) (placeA C ⟨xf,qc,ql,qi,xo⟩ d i) chg h1 h2 h3 (by omega) (by subst hch;split <;> omega)
 cases xo with
 | true=>
  have e1:qc=[]:=q5.1 rfl
  have e2:=q4 rfl
  have e3:=q6 rfl
  subst e1;subst e2;subst e3
  cases store
  all_goals cases hfm:C.framed
  all_goals skip
  ·skip
   repeat' ((conv=>whnf);first|(with_reducible first|apply Wx|apply W6)|refine cg g1 ?_|apply oi|(apply fi<;>intro h)|refine⟨_,rfl,?_⟩|((with_reducible show _=_);rfl))
   all_goals try((with_reducible refine Obl.mk ?_);exact KP)
   all_goals try(exfalso;rw[hfm]at h;cases h;done)
   all_goals try exact K3
   all_goals try exact⟨congrArg (Tr.int .i64) (by(try subst hch);(try unfold placeC);(try unfold placeA isArg aboveK);(try simp(disch:=omega)only[IntWalk.i64_in]);simp_all <;> omega)⟩
  ·skip
   repeat' ((conv=>whnf);first|(with_reducible first|apply Wx|apply W6)|refine cg g1 ?_|apply oi|(apply fi<;>intro h)|refine⟨_,rfl,?_⟩|((with_reducible show _=_);rfl))
   all_goals try((with_reducible refine Obl.mk ?_);exact KP)
   all_goals try(exfalso;rw[hfm]at h;cases h;done)
   all_goals try exact K3
   all_goals try exact⟨congrArg (Tr.int .i64) (by(try subst hch);(try unfold placeC);(try unfold placeA isArg aboveK);(try simp(disch:=omega)only[IntWalk.i64_in]);simp_all <;> omega)⟩
  ·skip
   repeat' ((conv=>whnf);first|(with_reducible first|apply Wx|apply W6)|refine cg g1 ?_|apply oi|(apply fi<;>intro h)|refine⟨_,rfl,?_⟩|((with_reducible show _=_);rfl))
   all_goals try((with_reducible refine Obl.mk ?_);exact KP)
   all_goals try(exfalso;rw[hfm]at h;cases h;done)
   all_goals try exact K3
   all_goals try exact⟨congrArg (Tr.int .i64) (by(try subst hch);(try unfold placeC);(try unfold placeA isArg aboveK);(try simp(disch:=omega)only[IntWalk.i64_in]);simp_all <;> omega)⟩
  ·skip
   repeat' ((conv=>whnf);first|(with_reducible first|apply Wx|apply W6)|refine cg g1 ?_|apply oi|(apply fi<;>intro h)|refine⟨_,rfl,?_⟩|((with_reducible show _=_);rfl))
   all_goals try((with_reducible refine Obl.mk ?_);exact KP)
   all_goals try(exfalso;rw[hfm]at h;cases h;done)
   all_goals try exact K3
   all_goals try exact⟨congrArg (Tr.int .i64) (by(try subst hch);(try unfold placeC);(try unfold placeA isArg aboveK);(try simp(disch:=omega)only[IntWalk.i64_in]);simp_all <;> omega)⟩
 | false=>
  have hne:qc≠[]:=fun e=>by have:=q5.2 e;cases this
  obtain⟨c,cs,rfl⟩:∃c cs,qc=c::cs:=by
   cases qc with
   | nil=>exact absurd rfl hne
   | cons c cs=>exact⟨c,cs,rfl⟩
  have hcl:(((c::cs).map intRow).length:Int)=(cs.length:Int)+1:=by simp
  cases store
  all_goals cases hfm:C.framed
  all_goals skip
  ·skip
   repeat' ((conv=>whnf);first|(with_reducible first|apply Wx|apply W6)|refine cg g1 ?_|apply oi|(apply fi<;>intro h)|refine⟨_,rfl,?_⟩|((with_reducible show _=_);rfl))
   all_goals try((with_reducible refine Obl.mk ?_);exact KP)
   all_goals try(exfalso;rw[hfm]at h;cases h;done)
   all_goals try exact K3
   all_goals try exact⟨congrArg (Tr.int .i64) (by(try subst hch);(try unfold placeC);(try unfold placeA isArg aboveK);(try simp(disch:=omega)only[IntWalk.i64_in]);simp_all <;> omega)⟩
  ·skip
   repeat' ((conv=>whnf);first|(with_reducible first|apply Wx|apply W6)|refine cg g1 ?_|apply oi|(apply fi<;>intro h)|refine⟨_,rfl,?_⟩|((with_reducible show _=_);rfl))
   all_goals try((with_reducible refine Obl.mk ?_);exact KP)
   all_goals try(exfalso;rw[hfm]at h;cases h;done)
   all_goals try exact K3
   all_goals try exact⟨congrArg (Tr.int .i64) (by(try subst hch);(try unfold placeC);(try unfold placeA isArg aboveK);(try simp(disch:=omega)only[IntWalk.i64_in]);simp_all <;> omega)⟩
  ·skip
   repeat' ((conv=>whnf);first|(with_reducible first|apply Wx|apply W6)|refine cg g1 ?_|apply oi|(apply fi<;>intro h)|refine⟨_,rfl,?_⟩|((with_reducible show _=_);rfl))
   all_goals try((with_reducible refine Obl.mk ?_);exact KP)
   all_goals try(exfalso;rw[hfm]at h;cases h;done)
   all_goals try exact K3
   all_goals try exact⟨congrArg (Tr.int .i64) (by(try subst hch);(try unfold placeC);(try unfold placeA isArg aboveK);(try simp(disch:=omega)only[IntWalk.i64_in]);simp_all <;> omega)⟩
  ·skip
   repeat' ((conv=>whnf);first|(with_reducible first|apply Wx|apply W6)|refine cg g1 ?_|apply oi|(apply fi<;>intro h)|refine⟨_,rfl,?_⟩|((with_reducible show _=_);rfl))
   all_goals try((with_reducible refine Obl.mk ?_);exact KP)
   all_goals try(exfalso;rw[hfm]at h;cases h;done)
   all_goals try exact K3
   all_goals try exact⟨congrArg (Tr.int .i64) (by(try subst hch);(try unfold placeC);(try unfold placeA isArg aboveK);(try simp(disch:=omega)only[IntWalk.i64_in]);simp_all <;> omega)⟩
end Go.Proofs.YtogdbgmiigfmfaaGreat
namespace Go.Proofs.YtogdbgmiigfmfaaGreat
open Go.Sim
set_option maxRecDepth 100000
set_option maxHeartbeats 4000000
theorem g_impl_leave (C:Cx)(hC:CxOk C)(pd:List Nat)(s:Gs)(d:Int)(ins:List Nat)(q:Ib)(lv:List Int)(x:Sc)(hq:IbOk C x q)(k:Nat)(last:Bool)(h1:roomy s)(h2:x.chain.length≤100)(h3:s.start=true→s.items.length∈pd)(h4:-1000≤d∧d≤1999)(hlv:lv.length≤68719476736)(hd p:List Int):
  SpecG Tryz.prog 165 [mkrP,ibP,tI .i64 (k:Int),tB last] (cmpH (0,0,1) (0,0,2) (0,1,1) C pd s d ins q lv) (.tup []) (cmpH (1,0,1) (0,0,2) (1,1,1) C pd (leaveG C x k last d ⟨s,hd,p,lv⟩).g (if x.outer=false∧last=true then d else d - 1) ins q (leaveG C x k last d ⟨s,hd,p,lv⟩).lv):=by
 refine specG_of_Wo hΓ hmix Tryz.func165 rfl (by decide) rfl rfl ?_
 obtain⟨a1,a2⟩:=hC.args
 obtain⟨a3,a4⟩:=hC.words
 obtain⟨qf,qe,ql,qa,qi,qc,qb⟩:=q
 obtain⟨xf,xc,xl,xi,xo⟩:=x
 obtain⟨q1,q2,q3,q4,q5,q6⟩:=hq
 dsimp only at q1 q2 q3 q4 q5 q6 h2
 subst q1;subst q2;subst q3
 have hlen:=itR_clr_len pd s.items
 have hll:(lv.map intRow).length=lv.length:=by simp
 cases xo with
 | true=>
  have e1:qc=[]:=q5.1 rfl
  have e2:=q4 rfl
  subst e1;subst e2
  rw[if_neg (by simp)]
  have e4:IntKind.i64.wrap (C.args+IntKind.i64.wrap (16 * C.words))=C.args+16 * C.words:=by simp(disch:=omega)only[IntWalk.i64_in]
  cases hfm:C.framed with
  | true=>
   have g1:=g_impl_add C pd s d ins ⟨qf,qe,ql,C.args,qi,[],qb⟩ lv k 14 C.args (-1) h1 h2 h3 (by omega) (by omega)
   have e:leaveG C ⟨xf,[],ql,qi,true⟩ k last d ⟨s,hd,p,lv⟩=⟨emitG C s d 14 C.args k [],hd,p,lv⟩:=by simp[leaveG,hfm]
   rw[e]
   cases last
   all_goals skip
   ·skip
    repeat' ((conv=>whnf);first|(with_reducible first|apply Wx|apply W6)|refine cg g1 ?_|apply oi|(apply fi<;>intro h)|refine⟨_,rfl,?_⟩|((with_reducible show _=_);rfl))
    all_goals try((with_reducible refine Obl.mk ?_);exact KP)
    all_goals try exact⟨KW⟩
    all_goals try(exfalso;rw[hfm]at h;cases h;done)
   ·skip
    repeat' ((conv=>whnf);first|(with_reducible first|apply Wx|apply W6)|refine cg g1 ?_|apply oi|(apply fi<;>intro h)|refine⟨_,rfl,?_⟩|((with_reducible show _=_);rfl))
    all_goals try((with_reducible refine Obl.mk ?_);exact KP)
    all_goals try exact⟨KW⟩
    all_goals try(exfalso;rw[hfm]at h;cases h;done)
  | false=>
   have g1:=g_impl_add C pd s d ins ⟨qf,qe,ql,C.args,qi,[],qb⟩ lv k 16 (C.args+16 * C.words) (-1) h1 h2 h3 (by omega) (by omega)
   have e:leaveG C ⟨xf,[],ql,qi,true⟩ k last d ⟨s,hd,p,lv⟩=⟨emitG C s d 16 (IntKind.i64.wrap (C.args+IntKind.i64.wrap (16 * C.words))) k [],hd,p,lv⟩:=by simp[leaveG,hfm,e4]
   rw[←e4]at g1
   rw[e]
   cases last
   all_goals skip
   ·skip
    repeat' ((conv=>whnf);first|(with_reducible first|apply Wx|apply W6)|refine cg g1 ?_|apply oi|(apply fi<;>intro h)|refine⟨_,rfl,?_⟩|((with_reducible show _=_);rfl))
    all_goals try((with_reducible refine Obl.mk ?_);exact KP)
    all_goals try exact⟨KW⟩
    all_goals try(exfalso;rw[hfm]at h;cases h;done)
   ·skip
    repeat' ((conv=>whnf);first|(with_reducible first|apply Wx|apply W6)|refine cg g1 ?_|apply oi|(apply fi<;>intro h)|refine⟨_,rfl,?_⟩|((with_reducible show _=_);rfl))
    all_goals try((with_reducible refine Obl.mk ?_);exact KP)
    all_goals try exact⟨KW⟩
    all_goals try(exfalso;rw[hfm]at h;cases h;done)
 | false=>
  have hne:qc≠[]:=fun e=>by have:=q5.2 e;cases this
  obtain⟨c,cs,rfl⟩:∃c cs,qc=c::cs:=by
   cases qc with
   | nil=>exact absurd rfl hne
   | cons c cs=>exact⟨c,cs,rfl⟩
  have hcl:(((c::cs).map intRow).length:Int)=(cs.length:Int)+1:=by simp
  cases last with
  | true=>
   have e:leaveG C ⟨xf,c::cs,ql,qi,false⟩ k true d ⟨s,hd,p,lv⟩=⟨s,hd,p,lv⟩:=by simp[leaveG]
   rw[e,if_pos ⟨rfl,rfl⟩]
   repeat' ((conv=>whnf);first|(with_reducible first|apply Wx|apply W6)|apply oi|(apply fi<;>intro h)|refine⟨_,rfl,?_⟩|((with_reducible show _=_);rfl))
   all_goals try((with_reducible refine Obl.mk ?_);exact KP)
   all_goals try exact⟨KW⟩
   all_goals try exact KN
  | false=>
   have e:leaveG C ⟨xf,c::cs,ql,qi,false⟩ k false d ⟨s,hd,p,lv⟩=⟨emitG C s d 10 0 k (c::cs),hd,p,lv++[(s.items.length:Int)]⟩:=by simp[leaveG]
   rw[e,if_neg (by simp)]
   have g1:=g_impl_add C pd s d ins ⟨qf,qe,ql,qa,qi,c::cs,qb⟩ (lv++[(s.items.length:Int)]) k 10 0 (-1) h1 h2 h3 (by omega) (by omega)
   have hap:lv.map intRow++[[Tr.int .i64 ((itR (clr pd s.items)).length:Int)]]=(lv++[(s.items.length:Int)]).map intRow:=by rw[hlen];simp[intRow]
   repeat' ((conv=>whnf);first|(with_reducible first|apply Wx|apply W6)|refine cg g1 ?_|apply oi|(apply fi<;>intro h)|refine⟨_,rfl,?_⟩|((with_reducible show _=_);rfl))
   all_goals try((with_reducible refine Obl.mk ?_);exact KP)
   all_goals try exact⟨KW⟩
   all_goals try exact⟨⟨by rw[hll];(try dsimp only);simp only[List.length_cons,List.length_nil];omega,by rw[hll];(try dsimp only);simp only[List.length_cons,List.length_nil];omega⟩⟩
   all_goals try exact⟨hap⟩
   all_goals try exact KN
abbrev cmpH3 (i1 i2:Sim.Id)(C:Cx)(pd:List Nat)(s:Gs)(d:Int)(ins:List Nat):List (Sim.Id×AO):=[((0,0,0),cmpB C s d i1 i2),(i1,.dar 7 (itR (clr pd s.items)) none),(i2,.arr false 1 (insR ins))]
theorem idxN_funs {g:Nat}:∀{l:List TLine} {i j:Nat} {x:TLine},i≤g→l[g - i]?=some x→x.fKind=0→idxN ((funsF l i).map fun n:Nat=>(n:Int)) j (g:Int)=some (j+((l.take (g - i)).filter fun x=>x.fKind==0).length)
 | [],i,j,x,h,hx,_=>by simp at hx
 | y::l,i,j,x,h,hx,h0=>by
  rw[funsF]
  by_cases hgi:g=i
  ·subst hgi
   rw[Nat.sub_self,List.getElem?_cons_zero]at hx
   injection hx with hx
   subst hx
   rw[if_pos h0,List.map_append,List.map_cons,List.cons_append,idxN,if_pos (by simp),Nat.sub_self]
   simp
  ·have hs:g - i=(g - (i+1))+1:=by omega
   rw[hs,List.getElem?_cons_succ]at hx
   have ih:=fun j=>idxN_funs (g:=g) (l:=l) (i:=i+1) (j:=j) (by omega) hx h0
   rw[hs,List.take_succ_cons]
   by_cases hy:y.fKind=0
   ·rw[if_pos hy,List.map_append,List.map_cons,List.map_nil,List.cons_append,List.nil_append,idxN,if_neg (by simp;omega),ih,List.filter_cons,if_pos (by simp[hy]),List.length_cons]
    congr 1;omega
   ·rw[if_neg hy,List.nil_append,ih,List.filter_cons,if_neg (by simp[hy])]
theorem idx_funs {C:Cx}{g:Nat}(hg:isFun C g):idxOf ((funs C.p).map fun n:Nat=>(n:Int)) (g:Int)=(numOf C.p g:Int):=by
 obtain⟨x,hx,h0⟩:=hg
 have:=idxN_funs (l:=C.p) (i:=0) (j:=0) (x:=x) (Nat.zero_le g) (by simpa using hx) h0
 unfold idxOf funs
 rw[this]
 simp[endI,numOf]
theorem g_impl_numberOf (C:Cx)(hC:CxOk C)(pd:List Nat)(s:Gs)(d:Int)(ins:List Nat)(g:Nat)(hg:isFun C g):
  SpecG Tryz.prog 195 [mkrP,tI .i64 (g:Int)] (cmpH3 (0,0,1) (0,0,2) C pd s d ins) (tI .i64 (numOf C.p g:Int)) (cmpH3 (0,0,1) (0,0,2) C pd s d ins):=by
 refine specG_of_Wo hΓ hmix Tryz.func195 rfl (by decide) rfl rfl ?_
 have h60:=hC.len
 have gF:=s_impl_FunctionLines C.p (by omega)
 have hfl:=funsF_len C.p 0
 have gI:=s_slices_IndexI ((funs C.p).map fun n:Nat=>(n:Int)) (g:Int) (by unfold funs;rw[List.length_map];omega)
 rw[idx_funs hg,List.map_map]at gI
 repeat' ((conv=>whnf);first|(with_reducible first|apply Wx|apply W6)|apply oi|(apply fi<;>intro h)|refine cl gF ?_|refine cl gI ?_|refine⟨_,rfl,?_⟩|((with_reducible show _=_);rfl))
 all_goals try((with_reducible refine Obl.mk ?_);exact KP)
theorem insR_has (ins:List Nat)(g:Nat):(ins.map fun n:Nat=>(n:Int)).contains (g:Int)=ins.contains g:=by
 induction ins with
 | nil=>rfl
 | cons a l ih=>
  rw[List.map_cons,List.contains_cons,List.contains_cons,ih]
  congr 1
  rw[Bool.eq_iff_iff]
  simp
  omega
theorem g_impl_replaced (C:Cx)(hC:CxOk C)(pd:List Nat)(s:Gs)(d:Int)(ins:List Nat)(q:Ib)(lv:List Int)(g:Nat)(h1:roomy s)(hS:q.chain.length+1=ins.length)(hi:ins.length≤100)(hg:g < C.p.length):
  SpecG Tryz.prog 193 [mkrP,ibP,tI .i64 (g:Int)] (cmpH (0,0,1) (0,0,2) (0,1,1) C pd s d ins q lv) (tB (replB C ins g s.items.length)) (cmpH (0,0,1) (0,0,2) (0,1,1) C pd s d ins q lv):=by
 refine specG_of_Wo hΓ hmix Tryz.func193 rfl (by decide) rfl rfl ?_
 unfold roomy at h1
 have hlen:=itR_clr_len pd s.items
 have h60:=hC.len
 have hin:=hC.inl
 have hE:=s_impl_EndOf C.p (g:Int) (by omega)
 have gC:=s_slices_ContainsI (ins.map fun n:Nat=>(n:Int)) (g:Int) (by rw[List.length_map];omega)
 rw[insR_has,List.map_map]at gC
 have hee:=endOf_ge C.p g
 have hql:((q.chain.map intRow).length:Int)=(ins.length:Int) - 1:=by rw[List.length_map];omega
 have hw2:IntKind.i64.wrap (endOf C.p (g:Int) - (g:Int))=endOf C.p (g:Int) - g:=by rw[IntWalk.i64_in _ (by omega)]
 have hr:replB C ins g s.items.length=(decide ((ins.length:Int)≤C.b.fInline) && (decide (endOf C.p (g:Int) - g≤9) && (decide (s.items.length < 200) && !ins.contains g))):=rfl
 rw[hr]
 generalize endOf C.p (g:Int)=eg at *
 cases hcn:ins.contains g with
 | true=>
  rw[hcn]at gC
  repeat' ((conv=>whnf);first|(with_reducible first|apply Wx|apply W6)|apply oi|(apply fi<;>intro h)|refine cl gC ?_|refine cl hE ?_|refine⟨_,rfl,?_⟩|((with_reducible show _=_);rfl))
  all_goals try((with_reducible refine Obl.mk ?_);exact KP)
  all_goals exact⟨by simp⟩
 | false=>
  rw[hcn]at gC
  repeat' ((conv=>whnf);first|(with_reducible first|apply Wx|apply W6)|apply oi|(apply fi<;>intro h)|refine cl gC ?_|refine cl hE ?_|refine⟨_,rfl,?_⟩|((with_reducible show _=_);rfl))
  all_goals try((with_reducible refine Obl.mk ?_);exact KP)
  all_goals(refine⟨congrArg Tr.bool ?_⟩;(try rw[hlen]);rw[Bool.eq_iff_iff];simp only[Bool.and_eq_true,decide_eq_true_eq,Bool.not_false,and_true,Bool.false_eq_true];clear hr hcn gC hE;simp only[hw2,hql,decide_eq_true_eq,decide_eq_false_iff_not]at *;first|omega|exact iff_of_false id (by omega))
end Go.Proofs.YtogdbgmiigfmfaaGreat
namespace Go.Proofs.YtogdbgmiigfmfaaGreat
open Go.Sim
set_option maxRecDepth 100000
set_option maxHeartbeats 4000000
structure IRm (C:Cx) (lev n:Nat) (x:Sc) (q:Ib) (ins pd:List Nat) (b:Nat) (s:Gs) (d:Int):Prop where
 sc:ScOk C x ins
 ib:IbOk C x q
 rm:Rm C lev n (ins.length - 1) s d
 beg:Beg b s
 mem:b∈pd
 le:∀i∈pd,i≤b
def IExprC (C:Cx)(lev:Nat):Prop:=∀(e:Ex) (x:Sc) (q:Ib) (ins pd:List Nat) (lv:List Int) (k p b:Nat) (ln:TLine) (s:Gs) (d:Int),e.ok→C.p[k]?=some ln→stands ln.fExpr p e→callsOk C ln.fExpr→IRm C lev e.toks.length x q ins pd b s d→
 SpecG Tryz.prog 162 [mkrP,ibP,tI .i64 (k:Int),.r (.c (.t (.lst 3 (ln.fExpr.map TTok.tr)))),tI .i64 (p:Int),tI .i64 (b:Int)] (cmpH (0,0,1) (0,0,2) (0,1,1) C pd s d ins q lv) (.tup []) (cmpH (1,0,1) (1,0,2) (0,1,1) C pd (genE C (repN C lev) x ins k e d s) (d+1) ins q lv)
def IRepC (C:Cx)(lev:Nat):Prop:=∀(x:Sc) (q:Ib) (ins pd:List Nat) (lv:List Int) (k g b:Nat) (s:Gs) (d:Int),k < C.p.length→isFun C g→replB C ins g s.items.length=true→IRm C lev 1 x q ins pd b s (d - argsN C.p g)→
 SpecG Tryz.prog 194 [mkrP,ibP,tI .i64 (k:Int),tI .i64 (g:Int),tI .i64 (b:Int)] (cmpH (0,0,1) (0,0,2) (0,1,1) C pd s d ins q lv) (.tup []) (cmpH (1,0,1) (1,0,2) (0,1,1) C pd (repN C lev x ins k g d s) (d - argsN C.p g+1) ins q lv)
theorem IExprC_of {C:Cx}(hC:CxOk C){lev:Nat}(hR:IRepC C lev):∀(n:Nat) (e:Ex),e.toks.length≤n→∀(x:Sc) (q:Ib) (ins pd:List Nat) (lv:List Int) (k p b:Nat) (ln:TLine) (s:Gs) (d:Int),e.ok→C.p[k]?=some ln→stands ln.fExpr p e→callsOk C ln.fExpr→IRm C lev e.toks.length x q ins pd b s d→
  SpecG Tryz.prog 162 [mkrP,ibP,tI .i64 (k:Int),.r (.c (.t (.lst 3 (ln.fExpr.map TTok.tr)))),tI .i64 (p:Int),tI .i64 (b:Int)] (cmpH (0,0,1) (0,0,2) (0,1,1) C pd s d ins q lv) (.tup []) (cmpH (1,0,1) (1,0,2) (0,1,1) C pd (genE C (repN C lev) x ins k e d s) (d+1) ins q lv)
 | 0,e,hn,_,_,_,_,_,_,_,_,_,_,_,_,_,_,_,_=>by have:=e.toks_pos;omega
 | n+1,.node t es,hn,x,q,ins,pd,lv,k,p,b,ln,s,d,ho,hk,hs,hca,hr=>by
  refine specG_of_Wo hΓ hmix Tryz.func162 rfl (by decide) rfl rfl ?_
  obtain⟨hx,hq,hrm,hbg,hbm,hpl2⟩:=hr
  obtain⟨hsh,hnm⟩:=toks_short hC hk
  have hle:=stands_le hs
  obtain⟨ht,hsa⟩:=stands_tok hs
  obtain⟨e1,e2⟩:=ar_eq ho.1
  have hel:es.length=ar t:=ho.2.1
  have h60:=hC.len
  have h20:=(hC.line _ _ hk).2.2.2.1
  have hr1:=hrm.room
  have hr2:=hrm.depth
  have hr3:=hrm.low
  have hr4:=hrm.high
  have hin:=hC.inl
  have hchn:=hx.chain
  have htp:=tokC_pos lev
  have hO:=s_impl_Operands ln.fExpr p t es (by omega) hsh ho hs
  have hpl:((posL (p+1) es).map nR).length=es.length:=by rw[List.length_map,posL_len]
  rw[Ex.toks,List.length_cons]at hn hle hr1 hr4
  rw[genE]
  have hrepG:∀g d s,isFun C g→replB C ins g s.items.length=true→Grow (tokC lev) s (repN C lev x ins k g d s):=fun g d s hg hr=>repN_grow hC lev k g d s hx hg hr
  have hrepB:∀g d s,isFun C g→replB C ins g s.items.length=true→Beg b s→Beg b (repN C lev x ins k g d s):=fun g d s hg hr hb=>repN_beg hC lev k g d s hx hg hr hb
  repeat' ((conv=>whnf);first|(with_reducible first|apply Wx|apply W6)|apply oi|(apply fi<;>intro h)|refine⟨p,t.tr,rfl,map_get ht,?_⟩|refine cl hO ?_|refine⟨_,rfl,?_⟩|((with_reducible show _=_);rfl))
  all_goals try((with_reducible refine Obl.mk ?_);exact KP)
  conv=>whnf
  refine⟨{j:Nat // j≤es.length},fun r=>⟨[(0,mkrP),(1,ibP),(2,tI .i64 (k:Int)),(3,.r (.c (.t (.lst 3 (ln.fExpr.map TTok.tr))))),(4,tI .i64 (p:Int)),(5,tI .i64 (b:Int)),(12,.r (.c (.ptr (12,0,0) 0))),(23,.r (.c (.own (23,0,0)))),(24,tI .i64 (((posL (p+1) es).map nR).length:Int)),(25,tI .i64 (r.1:Int))],
   [(
    (0,0,0),some (cmpB C (genEs C (repN C lev) x ins k (es.take r.1) d s) (d+r.1) (12,0,1) (12,0,2))),((12,0,1),some (.dar 7 (itR (clr pd (genEs C (repN C lev) x ins k (es.take r.1) d s).items)) none)),((12,0,2),some (.arr false 1 (insR ins))),
    ((0,1,0),some (ibB q (0,1,1))),((0,1,1),some (.arr false 1 (lv.map intRow))),((12,0,0),some (.box (t.tr.map .t))),((23,0,0),some (.arr true 1 ((posL (p+1) es).map nR)))],[23,12,0]⟩,fun r=>es.length - r.1,⟨0,by omega⟩,?_,?_⟩
  ·skip
   repeat' ((conv=>whnf);first|(with_reducible first|apply Wx|apply W6)|apply oi|(apply fi<;>intro h)|refine⟨_,rfl,?_⟩|((with_reducible show _=_);rfl))
   all_goals try((with_reducible refine Obl.mk ?_);exact KP)
   all_goals try exact⟨KW⟩
  intro⟨j,hj⟩
  dsimp only at hj ⊢
  have hgr:=genEs_grow (C:=C) (x:=x) (ins:=ins) (line:=k) (lev:=lev) hrepG (es.take j) d s
  have hg2:=hgr.le
  have hb2:=genEs_beg (C:=C) (x:=x) (ins:=ins) (line:=k) (rep:=repN C lev) hrepB (es.take j) d hbg
  have htk:=exToks_take_le es j
  obtain⟨s1,hs1⟩:∃s1,genEs C (repN C lev) x ins k (es.take j) d s=s1:=⟨_,rfl⟩
  rw[hs1]at hgr hg2 hb2 ⊢
  have hpd1:s1.start=true→s1.items.length∈pd:=fun h=>by rw[hb2.2.1 h];exact hbm
  by_cases hlj:j < es.length
  ·obtain⟨a,ha⟩:=get_of_lt hlj
   obtain⟨o,ho1,ho2⟩:=posL_at hsa ha
   have hta:=exToks_take_get ha
   have htk2:=exToks_take_le es (j+1)
   have hal:=exToks_mem ha
   have hjt:j≤(exToks (es.take j)).length:=by
    have:∀(l:List Ex),l.length≤(exToks l).length:=by
     intro l
     induction l with
     | nil=>simp
     | cons b l ih=>have:=b.toks_pos;rw[exToks,List.length_append,List.length_cons];omega
    have h2:=this (es.take j)
    rw[List.length_take]at h2
    omega
   have hm:=Nat.mul_le_mul_right (tokC lev) (show(exToks (es.take j)).length+a.toks.length≤(exToks es).length+1 by omega)
   rw[Nat.add_mul]at hm
   have hI:=IExprC_of hC hR n a (by omega) x q ins pd lv k o b ln s1 (d+j) (exsOk_get ho.2.2 ha) hk ho2 hca ⟨hx,hq,⟨by omega,hr2,by omega,by omega⟩,hb2,hbm,hpl2⟩
   have hnext:=genEs_take C (repN C lev) x ins k d s ha
   rw[hs1]at hnext
   have hjl:j < ((posL (p+1) es).map nR).length:=by rw[hpl];exact hlj
   repeat' ((conv=>whnf);first|(with_reducible first|apply Wx|apply W6)|apply oi|(apply fi<;>intro h)|refine⟨j,rfl,hjl,?_⟩|refine⟨(nR o),(map_get ho1),?_⟩|refine⟨_,rfl,?_⟩|((with_reducible show _=_);rfl))
   all_goals try((with_reducible refine Obl.mk ?_);exact KP)
   all_goals try exact KX
   refine cg (hI) ?_
   repeat' ((conv=>whnf);first|(with_reducible first|apply Wx|apply W6)|apply oi|(apply fi<;>intro h)|refine⟨_,rfl,?_⟩|((with_reducible show _=_);rfl))
   all_goals try((with_reducible refine Obl.mk ?_);exact KP)
   conv=>whnf
   refine⟨⟨j+1,by omega⟩,?_,by dsimp only;omega⟩
   repeat' ((conv=>whnf);first|(with_reducible first|apply Wx|apply W6)|apply oi|(apply fi<;>intro h)|refine⟨_,rfl,?_⟩|((with_reducible show _=_);rfl))
   all_goals try((with_reducible refine Obl.mk ?_);exact KP)
   all_goals try exact⟨by dsimp only;rw[hnext]⟩
   all_goals try exact⟨KW⟩
  ·have hje:j=es.length:=by omega
   subst hje
   rw[List.take_length]at hs1 hg2 htk
   have hroom:s1.items.length+tokC lev≤68719476736:=by
    have:((exToks es).length+1) * tokC lev=(exToks es).length * tokC lev+tokC lev:=by rw[Nat.add_mul];omega
    omega
   rw[hs1]
   have hch:x.chain.length≤100:=by omega
   have hch':q.chain.length≤100:=by rw[hq.chain];exact hch
   have hro:roomy s1:=by unfold roomy;omega
   obtain⟨k1,k2,k3⟩:=ar_kind ho.1
   have htl:=hsh t (List.mem_of_getElem? ht)
   have hxf:0≤x.first∧x.first≤1000:=by
    have:=hx.first
    omega
   obtain⟨ee,_,_,_,_,hll⟩:=hx.endE hC
   rcases tok_kinds ho.1 with hk0|hk1|hk7|hk26
   ·have g1:=g_impl_add C pd s1 (d+es.length) ins q lv k 0 t.fNum 1 hro hch' hpd1 (by omega) (by omega)
    rw[hq.chain]at g1
    have hz:=k1 (.inl hk0)
    unfold finG
    rw[if_pos hk0]
    repeat' ((conv=>whnf);first|(with_reducible first|apply Wx|apply W6)|refine cg g1 ?_|apply oi|(apply fi<;>intro h)|refine⟨_,rfl,?_⟩|((with_reducible show _=_);rfl))
    all_goals try((with_reducible refine Obl.mk ?_);exact KP)
    all_goals try exact KX
    all_goals try exact⟨KW⟩
    all_goals try exact KK
   ·have g1:=g_impl_access C hC pd s1 (d+es.length) ins q lv x hq k (idxOf x.locals t.fName) 1 false rfl hro hch hpd1 (by omega) hxf (by have:=idxOf_le x.locals t.fName;omega)
    have gI:=s_slices_IndexS x.locals t.fName (by omega)
    rw[←hq.locals]at gI g1
    have hz:=k1 (.inr hk1)
    unfold finG loadG
    rw[if_neg (by omega),if_pos hk1,←hq.locals]
    generalize idxOf q.locals t.fName=ix at *
    repeat' ((conv=>whnf);first|(with_reducible first|apply Wx|apply W6)|refine cg g1 ?_|apply oi|(apply fi<;>intro h)|refine cl gI ?_|refine⟨_,rfl,?_⟩|((with_reducible show _=_);rfl))
    all_goals try((with_reducible refine Obl.mk ?_);exact KP)
    all_goals try exact KX
    all_goals try exact⟨KW⟩
    all_goals try exact KK
   ·obtain⟨f,hf,hfa⟩:=hca t (List.mem_of_getElem? ht) hk7
    obtain⟨hfl,y,hy,hy0,_⟩:=find_some hf
    have hfun:isFun C f:=⟨y,hy,hy0⟩
    have hkk:=k2 hk7
    have gF:=s_impl_FindFunction C.p t.fName (by omega)
    rw[show findF C.p t.fName=(f:Int) from endI_some hf]at gF
    have g1:=g_impl_replaced C hC pd s1 (d+es.length) ins q lv f hro (by rw[hq.chain];exact hchn) (by omega) hfl
    unfold finG
    rw[if_neg (by omega),if_neg (by omega),if_pos hk7,hf]
    dsimp only
    cases hrb:replB C ins f s1.items.length with
    | true=>
     have g2:=hR x q ins pd lv k f b s1 (d+es.length) (lt_of_get hk) hfun hrb ⟨hx,hq,⟨by omega,hr2,by omega,by omega⟩,hb2,hbm,hpl2⟩
     rw[hrb]at g1
     rw[if_pos rfl]
     repeat' ((conv=>whnf);first|(with_reducible first|apply Wx|apply W6)|refine cg g1 ?_|refine cg g2 ?_|apply oi|(apply fi<;>intro h)|refine cl gF ?_|refine⟨_,rfl,?_⟩|((with_reducible show _=_);rfl))
     all_goals try((with_reducible refine Obl.mk ?_);exact KP)
     all_goals try exact KX
     all_goals try exact⟨KW⟩
     all_goals try exact KK
    | false=>
     rw[hrb]at g1
     rw[if_neg (by simp)]
     have g2:=g_impl_numberOf C hC pd s1 (d+es.length) ins f hfun
     have g3:=g_impl_add C pd s1 (d+es.length) ins q lv k 12 (numOf C.p f) (1 - t.fNum) hro hch' hpd1 (by omega) (by omega)
     have hw1:IntKind.i64.wrap (1 - t.fNum)=1 - t.fNum:=by rw[IntWalk.i64_in _ (by omega)]
     rw[←hw1,hq.chain]at g3
     repeat' ((conv=>whnf);first|(with_reducible first|apply Wx|apply W6)|refine cg g1 ?_|refine cg g2 ?_|refine cg g3 ?_|apply oi|(apply fi<;>intro h)|refine cl gF ?_|refine⟨_,rfl,?_⟩|((with_reducible show _=_);rfl))
     all_goals try((with_reducible refine Obl.mk ?_);exact KP)
     all_goals try exact KX
     all_goals try exact⟨KW⟩
     all_goals try exact KK
   ·have g1:=g_impl_add C pd s1 (d+es.length) ins q lv k (5+t.fKind - 2) 0 (-1) hro hch' hpd1 (by omega) (by omega)
    rw[hq.chain]at g1
    have hw5:IntKind.i64.wrap (IntKind.i64.wrap (5+t.fKind) - 2)=5+t.fKind - 2:=by simp(disch:=omega)only[IntWalk.i64_in]
    rw[←hw5]at g1
    have hz:=k3 hk26.1 hk26.2
    unfold finG
    rw[if_neg (by omega),if_neg (by omega),if_neg (by omega),←hw5]
    repeat' ((conv=>whnf);first|(with_reducible first|apply Wx|apply W6)|refine cg g1 ?_|apply oi|(apply fi<;>intro h)|refine⟨_,rfl,?_⟩|((with_reducible show _=_);rfl))
    all_goals try((with_reducible refine Obl.mk ?_);exact KP)
    all_goals try exact KX
    all_goals try exact⟨KW⟩
    all_goals try exact KK
end Go.Proofs.YtogdbgmiigfmfaaGreat
