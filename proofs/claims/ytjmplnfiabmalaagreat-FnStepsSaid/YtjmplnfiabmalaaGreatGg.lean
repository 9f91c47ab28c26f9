import Derived.Test.YtjmplnfiabmalaaGreatGf
namespace Go.Proofs.YtjmplnfiabmalaaGreat
open Go.Sim
set_option maxRecDepth 100000
set_option maxHeartbeats 4000000
def LinesC (C:Cx)(lev:Nat):Prop:=∀(x:Sc) (S:List (Sc×List Int)) (s:Gs) (d:Int),ScOk C x (insOf (S++[(x,[])]))→s.items.length+(endL' C.p x.f - x.f) * (20 * tokC lev+3)≤68719476736→((lev+S.length:Nat):Int)=C.b.fInline→0≤d→d+30+100 * (lev:Int)≤1900→
 SpecG Tryz.prog 207 [mkrP] (mkrH (0,0,1) (0,0,2) C s d (scH (S++[(x,[])]))) (.tup []) (mkrH (1,0,1) (1,0,2) C (linesG C (repN C lev) x (insOf (S++[(x,[])])) d s).1 d (scH (S++[(x,(linesG C (repN C lev) x (insOf (S++[(x,[])])) d s).2)])))
theorem insOf_snoc (S:List (Sc×List Int))(y:Sc×List Int):insOf (S++[y])=insOf S++[y.1.f]:=by simp
theorem RepC_of {C:Cx}(hC:CxOk C){lev:Nat}(hL:LinesC C lev):RepC C (lev+1):=by
 intro x S lv k g s d hx hk hg hrb hr
 refine specG_of_Wo hΓ hmix Tryz.func263 rfl (by decide) rfl rfl ?_
 obtain⟨r1,r2,r3,r4⟩:=replB_spec hrb
 obtain⟨y,hy,hy0⟩:=hg
 have h60:=hC.len
 have hin:=hC.inl
 have hloc:=isFun_locals hC ⟨y,hy,hy0⟩
 have hA:argsN C.p g=y.fArgs.length:=by rw[argsN,hy]
 have hLo:=s_spec_LocalsOf C.p (g:Int) (by omega) (fun z hz=>smallRs_map hC.small hz)
 have htop:=topOf_le hC hx
 have hil:(insOf (S++[(x,lv)])).length=S.length+1:=by simp
 rw[hil]at htop r1
 have hxl:x.locals.length≤8:=by obtain⟨_,_,_,_,_,h⟩:=hx.endE hC;exact h
 have hxf:=hx.first
 rw[hil]at hxf
 have ha:=hC.args
 have hch:=hx.chain
 rw[hil]at hch
 obtain⟨q1,q2,q3,q4⟩:=hr
 have hfl:=flat_ints (x.chain++[(k:Int)])
 have hyl:(y.fArgs.map strRow).length=y.fArgs.length:=by simp
 have hxll:(x.locals.map strRow).length=x.locals.length:=by simp
 have hcl:(x.chain.map intRow).length=x.chain.length:=by simp
 have e1:IntKind.i64.wrap ((x.locals.length:Int) - C.args)=(x.locals.length:Int) - C.args:=by rw[IntWalk.i64_in _ (by omega)]
 have e2:IntKind.i64.wrap (x.first+(x.locals.length:Int))=x.first+x.locals.length:=by rw[IntWalk.i64_in _ (by omega)]
 repeat' ((conv=>whnf);first|(with_reducible apply W1;fail_if_success (with_reducible show Wo _ _ _ _ (Code.seq (Code.region 3 _ _) _) _ _))|(with_reducible first|apply W2|apply W3|apply W4|apply W5|apply W6|apply W7|apply W8|apply W9)|apply reg_inl|apply oi|(apply fi<;>intro h)|refine⟨g,y.tr,rfl,map_get hy,?_⟩|refine⟨_,rfl,?_⟩|((with_reducible show _=_);rfl))
 all_goals try((with_reducible refine Obl.mk ?_);exact KP)
 refine join_rule Unit (fun _=>⟨[(0,mkrP),(1,tI .i64 (g:Int)),(2,tI .i64 (k:Int)),(7,.r (.c (.ptr (7,0,0) 0))),(8,tI .i64 (argsN C.p g:Int)),(9,tI .i64 (topOf C x))],
  [(
   (0,0,0),some (mkrB C s d (0,0,1) (0,0,2))),((0,0,1),some (.dar 7 (itR s.items) none)),((0,0,2),some (.dar 6 (scH (S++[(x,lv)])) none)),
   ((7,0,0),some (.box [.t (.int .i64 (x.f:Int)),.t (.lst 1 (x.chain.map intRow)),.t (.lst 1 (x.locals.map strRow)),.t (.int .i64 x.first),.t (.bool x.outer),.opq]))],[7,0]⟩) ?_ ?_
 ·skip
  repeat' ((conv=>whnf);first|(with_reducible first|apply Wx|apply W6)|apply oi|(apply fi<;>intro h)|refine⟨_,rfl,?_⟩|((with_reducible show _=_);rfl))
  all_goals try((with_reducible refine Obl.mk ?_);exact KP)
  all_goals(conv=>whnf)
  all_goals(refine⟨(),?_⟩)
  repeat' ((conv=>whnf);first|(with_reducible first|apply Wx|apply W6)|apply oi|(apply fi<;>intro h)|refine⟨_,rfl,?_⟩|((with_reducible show _=_);rfl))
  all_goals try((with_reducible refine Obl.mk ?_);exact KP)
  all_goals(refine⟨congrArg (Tr.int _) ?_⟩)
  all_goals try(rw[hyl,hA];done)
  all_goals(unfold topOf;rw[hxll])
  all_goals first|(rw[if_pos (by assumption)];exact e1)|(rw[if_neg (by simp_all)];exact e2)
 intro _
 repeat' ((conv=>whnf);first|(with_reducible apply W1;fail_if_success (with_reducible show Wo _ _ _ _ (Code.region 7 _ _) _ _))|(with_reducible first|apply W2|apply W3|apply W4|apply W5|apply W6|apply W7|apply W8|apply W9)|apply reg_inl|apply oi|(apply fi<;>intro h)|refine cl hLo ?_|refine⟨_,rfl,?_⟩|((with_reducible show _=_);rfl))
 all_goals try((with_reducible refine Obl.mk ?_);exact KP)
 all_goals try exact⟨⟨by simp <;> omega,by simp <;> omega⟩⟩
 conv=>whnf
 refine view2_rule ⟨[(0,mkrP),(1,tI .i64 (g:Int)),(2,tI .i64 (k:Int)),(7,.r (.c (.ptr (7,0,0) 0))),(8,tI .i64 (argsN C.p g:Int)),(9,tI .i64 (topOf C x)),(10,.r (.c (.ptr (10,0,0) 0)))],
  [(
   (0,0,0),some (mkrB C s d (0,0,1) (0,0,2))),((0,0,1),some (.dar 7 (itR s.items) none)),((0,0,2),some (.dar 6 (scH (S++[(x,lv)])) none)),
   ((7,0,0),some (.box [.t (.int .i64 (x.f:Int)),.t (.lst 1 (x.chain.map intRow)),.t (.lst 1 (x.locals.map strRow)),.t (.int .i64 x.first),.t (.bool x.outer),.opq])),
   ((10,0,0),some (.box [.t (.int .i64 (g:Int)),.t (.lst 1 ((x.chain++[(k:Int)]).map intRow)),.t (.lst 1 ((localsOf C.p (g:Int)).map strRow)),.t (.int .i64 (topOf C x)),.t (.bool false),.nils 1]))],_⟩ ?_ ?_ rfl ?_
 ·exact⟨.inl rfl,.inl rfl,.inl rfl,.inl rfl,.inl rfl,.inl rfl,.inl rfl,trivial⟩
 ·refine⟨.inr (.inl rfl),.inr (.inl rfl),.inr (.inl rfl),.inr (.inl rfl),.inr (.inr (.inl ⟨_,_,rfl,rfl,.inl rfl,.inr (.inr ⟨_,rfl,?_,?_⟩),.inr (.inr ⟨_,rfl,rfl,?_⟩),.inl rfl,.inl rfl,.inr (.inl ⟨_,_,rfl,rfl⟩),trivial⟩)),trivial⟩
  ·show Tr.lst 1 _=Tr.lst 1 ([]++List.map intRow x.chain++[[Tr.int .i64 (k:Int)]])
   simp[intRow]
  all_goals(intro q hq;simp only[AC.ids,List.mem_cons,List.not_mem_nil,or_false]at hq;subst hq;rfl)
 have hll:((localsOf C.p (g:Int)).map strRow).length=(localsOf C.p (g:Int)).length:=by simp
 have em:IntKind.i64.wrap (topOf C x+(((localsOf C.p (g:Int)).map strRow).length:Int))=topOf C x+((localsOf C.p (g:Int)).length:Int):=by rw[hll,IntWalk.i64_in _ (by omega)]
 obtain⟨s0,hs0⟩:∃s0:Gs,(⟨s.items,max s.most (topOf C x+(localsOf C.p (g:Int)).length),s.start⟩:Gs)=s0:=⟨_,rfl⟩
 have z1:s.items=s0.items:=by rw[←hs0]
 have z2:max s.most (topOf C x+(localsOf C.p (g:Int)).length)=s0.most:=by rw[←hs0]
 have z3:s.start=s0.start:=by rw[←hs0]
 obtain⟨Y,hY⟩:∃Y,inSc C x k g=Y:=⟨_,rfl⟩
 obtain⟨T1,hT1⟩:∃T1,storesG C (inSc C x k g) x.chain k (argsN C.p g) d s0=T1:=⟨_,rfl⟩
 repeat' ((conv=>whnf);first|(with_reducible first|apply Wx|apply W6)|apply oi|(apply fi<;>intro h)|refine⟨_,rfl,?_⟩|((with_reducible show _=_);rfl))
 all_goals try((with_reducible refine Obl.mk ?_);exact KP)
 conv=>whnf
 refine⟨{q:Nat×Gs // q.1≤argsN C.p g∧storesG C (inSc C x k g) x.chain k q.1 (d - ((argsN C.p g - q.1:Nat):Int)) q.2=T1∧q.2.items.length≤300 - q.1},fun q=>⟨[(0,mkrP),(1,tI .i64 (g:Int)),(2,tI .i64 (k:Int)),(7,.r (.c (.ptr (7,0,0) 0))),(8,tI .i64 (argsN C.p g:Int)),(10,.r (.c (.ptr (10,0,0) 0))),(11,tI .i64 ((q.1.1:Int) - 1))],
  [(
   (0,0,0),some (mkrB C q.1.2 (d - ((argsN C.p g - q.1.1:Nat):Int)) (7,0,1) (7,0,2))),((7,0,1),some (.dar 7 (itR q.1.2.items) none)),((7,0,2),some (.dar 6 (scH (S++[(x,lv)])) none)),
   ((7,0,0),some (.box [.t (.int .i64 (x.f:Int)),.t (.lst 1 (x.chain.map intRow)),.t (.lst 1 (x.locals.map strRow)),.t (.int .i64 x.first),.t (.bool x.outer),.opq])),
   ((10,0,0),some (.box [.t (.int .i64 (g:Int)),.t (.lst 1 ((x.chain++[(k:Int)]).map intRow)),.t (.lst 1 ((localsOf C.p (g:Int)).map strRow)),.t (.int .i64 (topOf C x)),.t (.bool false),.nils 1]))],[10,7,0]⟩,fun q=>q.1.1,⟨(argsN C.p g,s0),by dsimp only;omega,by rw[←hT1];simp,by dsimp only;rw[←z1];omega⟩,?_,?_⟩
 ·skip
  repeat' ((conv=>whnf);first|(with_reducible first|apply Wx|apply W6)|apply oi|(apply fi<;>intro h)|refine⟨_,rfl,?_⟩|((with_reducible show _=_);rfl))
  all_goals try((with_reducible refine Obl.mk ?_);exact KP)
  all_goals try exact⟨by rw[z1]⟩
  all_goals try exact⟨by rw[z3]⟩
  all_goals try exact⟨congrArg itR z1⟩
  all_goals try exact⟨congrArg (Tr.int _) (by rw[em];exact z2)⟩
  all_goals try exact⟨KW⟩
 intro⟨⟨m,t⟩,hm,ht,htl⟩
 dsimp only at hm ht htl ⊢
 cases m with
 | succ m=>
  have g1:=g_spec_store C hC t (d - ((argsN C.p g - (m+1):Nat):Int)) (scH (S++[(x,lv)])) (inSc C x k g) m k x.chain (by unfold roomy;omega) (by omega) (by omega) (by show 0≤topOf C x∧topOf C x≤1000;omega) (by omega)
  rw[storesG]at ht
  rw[show((m+1:Nat):Int) - 1=(m:Int) by omega]
  repeat' ((conv=>whnf);first|(with_reducible first|apply Wx|apply W6)|refine cg g1 ?_|apply oi|(apply fi<;>intro h)|refine⟨_,rfl,?_⟩|((with_reducible show _=_);rfl))
  all_goals try((with_reducible refine Obl.mk ?_);exact KP)
  all_goals try exact KX
  conv=>whnf
  refine⟨⟨(m,storeG C (inSc C x k g) t (d - ((argsN C.p g - (m+1):Nat):Int)) m k x.chain),by dsimp only;omega,by rw[←ht];dsimp only;congr 1;omega,by dsimp only;simp only[storeG,emitG,List.length_append,List.length_cons,List.length_nil];omega⟩,?_,by dsimp only;omega⟩
  repeat' ((conv=>whnf);first|(with_reducible first|apply Wx|apply W6)|apply oi|(apply fi<;>intro h)|refine⟨_,rfl,?_⟩|((with_reducible show _=_);rfl))
  all_goals try((with_reducible refine Obl.mk ?_);exact KP)
  all_goals try exact⟨KW⟩
 | zero=>
  have e0:t=T1:=by rw[←ht];rfl
  subst e0
  have ed:d - ((argsN C.p g - 0:Nat):Int)=d - argsN C.p g:=by rw[Nat.sub_zero]
  rw[ed]
  obtain⟨T2,hT2⟩:∃T2,zerosG C (inSc C x k g) x.chain k (d - argsN C.p g) ((localsOf C.p (g:Int)).length - argsN C.p g) (argsN C.p g) t=T2:=⟨_,rfl⟩
  repeat' ((conv=>whnf);first|(with_reducible first|apply Wx|apply W6)|apply oi|(apply fi<;>intro h)|refine⟨_,rfl,?_⟩|((with_reducible show _=_);rfl))
  all_goals try((with_reducible refine Obl.mk ?_);exact KP)
  all_goals try exact KX
  conv=>whnf
  refine⟨{q:Nat×Gs // q.1≤(localsOf C.p (g:Int)).length∧zerosG C (inSc C x k g) x.chain k (d - argsN C.p g) ((localsOf C.p (g:Int)).length - q.1) q.1 q.2=T2∧q.2.items.length≤400 - 2 * ((localsOf C.p (g:Int)).length - q.1)},fun q=>⟨[(0,mkrP),(1,tI .i64 (g:Int)),(2,tI .i64 (k:Int)),(7,.r (.c (.ptr (7,0,0) 0))),(10,.r (.c (.ptr (10,0,0) 0))),(12,tI .i64 (q.1.1:Int))],
   [(
    (0,0,0),some (mkrB C q.1.2 (d - argsN C.p g) (7,0,1) (7,0,2))),((7,0,1),some (.dar 7 (itR q.1.2.items) none)),((7,0,2),some (.dar 6 (scH (S++[(x,lv)])) none)),
    ((7,0,0),some (.box [.t (.int .i64 (x.f:Int)),.t (.lst 1 (x.chain.map intRow)),.t (.lst 1 (x.locals.map strRow)),.t (.int .i64 x.first),.t (.bool x.outer),.opq])),
    ((10,0,0),some (.box [.t (.int .i64 (g:Int)),.t (.lst 1 ((x.chain++[(k:Int)]).map intRow)),.t (.lst 1 ((localsOf C.p (g:Int)).map strRow)),.t (.int .i64 (topOf C x)),.t (.bool false),.nils 1]))],[10,7,0]⟩,fun q=>(localsOf C.p (g:Int)).length - q.1.1,⟨(argsN C.p g,t),by dsimp only;omega,hT2,by dsimp only;omega⟩,?_,?_⟩
  ·skip
   repeat' ((conv=>whnf);first|(with_reducible first|apply Wx|apply W6)|apply oi|(apply fi<;>intro h)|refine⟨_,rfl,?_⟩|((with_reducible show _=_);rfl))
   all_goals try((with_reducible refine Obl.mk ?_);exact KP)
  intro⟨⟨i,u⟩,hi,hu,hul⟩
  dsimp only at hi hu hul ⊢
  by_cases hil2:i < (localsOf C.p (g:Int)).length
  ·obtain⟨c,hc⟩:∃c,(localsOf C.p (g:Int)).length - i=c+1:=⟨(localsOf C.p (g:Int)).length - i - 1,by omega⟩
   rw[hc,zerosG]at hu
   have g1:=g_spec_number C u (d - argsN C.p g) (scH (S++[(x,lv)])) 0 k x.chain (by unfold roomy;omega) (by omega) (by omega)
   have g2:=g_spec_store C hC (emitG C u (d - argsN C.p g) 0 0 k x.chain) (d - argsN C.p g+1) (scH (S++[(x,lv)])) (inSc C x k g) i k x.chain (by unfold roomy emitG;simp only[List.length_append,List.length_cons,List.length_nil];omega) (by omega) (by omega) (by show 0≤topOf C x∧topOf C x≤1000;omega) (by omega)
   repeat' ((conv=>whnf);first|(with_reducible first|apply Wx|apply W6)|refine cg g1 ?_|refine cg g2 ?_|apply oi|(apply fi<;>intro h)|refine⟨_,rfl,?_⟩|((with_reducible show _=_);rfl))
   all_goals try((with_reducible refine Obl.mk ?_);exact KP)
   all_goals try exact KX
   conv=>whnf
   refine⟨⟨(i+1,storeG C (inSc C x k g) (emitG C u (d - argsN C.p g) 0 0 k x.chain) (d - argsN C.p g+1) i k x.chain),by dsimp only;omega,by rw[←hu];dsimp only;rw[show(localsOf C.p (g:Int)).length - (i+1)=c by omega],by dsimp only;simp only[storeG,emitG,List.length_append,List.length_cons,List.length_nil];omega⟩,?_,by dsimp only;omega⟩
   repeat' ((conv=>whnf);first|(with_reducible first|apply Wx|apply W6)|apply oi|(apply fi<;>intro h)|refine⟨_,rfl,?_⟩|((with_reducible show _=_);rfl))
   all_goals try((with_reducible refine Obl.mk ?_);exact KP)
   all_goals try exact⟨KW⟩
  ·have hie:i=(localsOf C.p (g:Int)).length:=by omega
   subst hie
   rw[Nat.sub_self,zerosG]at hu
   subst hu
   have hpre:preG C x k g d s=u:=by rw[preG,hs0,hT1,hT2]
   repeat' ((conv=>whnf);first|(with_reducible apply W1;fail_if_success (with_reducible show Wo _ _ _ _ (Code.seq (Code.region 17 _ _) _) _ _))|(with_reducible first|apply W2|apply W3|apply W4|apply W5|apply W6|apply W7|apply W8|apply W9)|apply reg_inl|apply oi|(apply fi<;>intro h)|refine⟨_,rfl,?_⟩|((with_reducible show _=_);rfl))
   all_goals try((with_reducible refine Obl.mk ?_);exact KP)
   all_goals try exact KX
   obtain⟨v,hv⟩:∃v,spaceG C x k (d - argsN C.p g) u=v:=⟨_,rfl⟩
   have hvl:v.items.length≤500:=by rw[←hv,spaceG];split <;> first|(simp[emitG];omega)|omega
   refine join_rule Unit (fun _=>⟨[(0,mkrP),(1,tI .i64 (g:Int)),(2,tI .i64 (k:Int)),(7,.r (.c (.ptr (7,0,0) 0))),(10,.r (.c (.ptr (10,0,0) 0)))],
    [(
     (0,0,0),some (mkrB C v (d - argsN C.p g) (7,0,1) (7,0,2))),((7,0,1),some (.dar 7 (itR v.items) none)),((7,0,2),some (.dar 6 (scH (S++[(x,lv)])) none)),
     ((10,0,0),some (.box [.t (.int .i64 (g:Int)),.t (.lst 1 ((x.chain++[(k:Int)]).map intRow)),.t (.lst 1 ((localsOf C.p (g:Int)).map strRow)),.t (.int .i64 (topOf C x)),.t (.bool false),.own (10,0,1)])),((10,0,1),some (.arr true 1 []))],[10,7,0]⟩) ?_ ?_
   ·have g3:=g_spec_emit C u (d - argsN C.p g) (scH (S++[(x,lv)])) 15 0 k x.chain (by unfold roomy;omega) (by omega)
    unfold spaceG at hv
    cases hst:u.start with
    | true=>
     rw[if_pos hst]at hv
     subst hv
     repeat' ((conv=>whnf);first|(with_reducible first|apply Wx|apply W6)|refine cg g3 ?_|apply oi|(apply fi<;>intro h)|refine⟨_,rfl,?_⟩|((with_reducible show _=_);rfl))
     all_goals try((with_reducible refine Obl.mk ?_);exact KP)
     ·conv=>whnf
      refine⟨(),?_⟩
      repeat' ((conv=>whnf);first|(with_reducible first|apply Wx|apply W6)|apply oi|(apply fi<;>intro h)|refine⟨_,rfl,?_⟩|((with_reducible show _=_);rfl))
      all_goals try((with_reducible refine Obl.mk ?_);exact KP)
     ·exfalso;simp_all
    | false=>
     rw[if_neg (by simp[hst])]at hv
     subst hv
     repeat' ((conv=>whnf);first|(with_reducible first|apply Wx|apply W6)|refine cg g3 ?_|apply oi|(apply fi<;>intro h)|refine⟨_,rfl,?_⟩|((with_reducible show _=_);rfl))
     all_goals try((with_reducible refine Obl.mk ?_);exact KP)
     ·exfalso;simp_all
     ·conv=>whnf
      refine⟨(),?_⟩
      repeat' ((conv=>whnf);first|(with_reducible first|apply Wx|apply W6)|apply oi|(apply fi<;>intro h)|refine⟨_,rfl,?_⟩|((with_reducible show _=_);rfl))
      all_goals try((with_reducible refine Obl.mk ?_);exact KP)
   intro _
   have hyS:ScOk C (inSc C x k g) (insOf ((S++[(x,lv)])++[(inSc C x k g,[])])):=by rw[insOf_snoc];exact inSc_ok hC hx k ⟨y,hy,hy0⟩
   obtain⟨ye,ye1,ye2,ye3,ye4,_⟩:=hyS.endE hC
   have hye:endL' C.p (inSc C x k g).f - (inSc C x k g).f≤9:=by
    rw[ye4]
    have:endOf C.p (g:Int)=(ye:Int):=by rw[endOf_at];exact endI_some ye1
    show ye - g≤9
    omega
   have h3:=tokC_3 (n:=lev) (by omega)
   have hgL:=hL (inSc C x k g) (S++[(x,lv)]) v (d - argsN C.p g) hyS (by
    have:=Nat.mul_le_mul hye (show 20 * tokC lev+3≤20 * 8679837+3 by omega)
    omega) (by simp only[List.length_append,List.length_cons,List.length_nil];omega) q3 (by omega)
   have hsl:(scH (S++[(x,lv)])).length=S.length+1:=by simp
   obtain⟨r,hr⟩:∃r,linesG C (repN C lev) (inSc C x k g) (insOf ((S++[(x,lv)])++[(inSc C x k g,[])])) (d - argsN C.p g) v=r:=⟨_,rfl⟩
   rw[hr]at hgL
   have hsl2:(scH ((S++[(x,lv)])++[(inSc C x k g,r.2)])).length=S.length+2:=by simp
   have hw2:IntKind.i64.wrap (((scH ((S++[(x,lv)])++[(inSc C x k g,r.2)])).length:Int) - 1)=((S.length+1:Nat):Int):=by rw[hsl2,IntWalk.i64_in _ (by omega)];omega
   have hlt2:S.length+1 < (scH ((S++[(x,lv)])++[(inSc C x k g,r.2)])).length:=by omega
   have hrow2:(scH ((S++[(x,lv)])++[(inSc C x k g,r.2)]))[S.length+1]?=some (scRow (inSc C x k g) r.2):=by simp
   have hfl3:=flat_ints r.2
   repeat' ((conv=>whnf);first|(with_reducible apply W1;fail_if_success (with_reducible show Wo _ _ _ _ (Code.region 23 _ _) _ _))|(with_reducible first|apply W2|apply W3|apply W4|apply W5|apply W6|apply W7|apply W8|apply W9)|apply reg_inl|refine cg hgL ?_|apply oi|(apply fi<;>intro h)|refine⟨S.length+1,hw2,hlt2,?_⟩|refine⟨_,hrow2,?_⟩|refine⟨_,rfl,?_⟩|((with_reducible show _=_);rfl))
   all_goals try((with_reducible refine Obl.mk ?_);exact KP)
   all_goals try exact⟨⟨by rw[hsl];simp <;> omega,by rw[hsl];simp <;> omega⟩⟩
   all_goals try exact⟨hfl3⟩
   all_goals try exact⟨by simp[inSc,intRow]⟩
   conv=>whnf
   refine view2_rule ⟨[(0,mkrP),(13,tI .i64 (d - argsN C.p g)),(14,.r (.c (.t (.lst 1 (r.2.map intRow)))))],
    [((0,0,0),some (mkrB C r.1 (d - argsN C.p g) (127,0,1) (127,0,2))),((127,0,1),some (.dar 7 (itR r.1.items) none)),((127,0,2),some (.dar 6 ((scH ((S++[(x,lv)])++[(inSc C x k g,r.2)])).set (S.length+1) ((scRow (inSc C x k g) r.2).set 5 (.t (.lst 1 (r.2.map intRow))))) none))],_⟩ ?_ ?_ rfl ?_
   ·refine⟨.inl rfl,.inl rfl,.inr (.inl ⟨_,_,rfl,rfl,.inr (.inr ⟨_,rfl,rfl,?_⟩)⟩),trivial⟩
    intro q hq;simp only[AC.ids,List.mem_cons,List.not_mem_nil,or_false]at hq;subst hq;rfl
   ·exact⟨.inr (.inl rfl),.inr (.inl rfl),.inr (.inr (.inr ⟨_,_,_,_,_,_,_,rfl,hrow2,(by decide),rfl,rfl,rfl⟩)),trivial⟩
   have hsl4:((scH ((S++[(x,lv)])++[(inSc C x k g,r.2)])).set (S.length+1) ((scRow (inSc C x k g) r.2).set 5 (.t (.lst 1 (r.2.map intRow))))).length=S.length+2:=by rw[List.length_set];exact hsl2
   have hw4:IntKind.i64.wrap ((((scH ((S++[(x,lv)])++[(inSc C x k g,r.2)])).set (S.length+1) ((scRow (inSc C x k g) r.2).set 5 (.t (.lst 1 (r.2.map intRow))))).length:Int) - 1)=((S.length+1:Nat):Int):=by rw[hsl4,IntWalk.i64_in _ (by omega)];omega
   have hle4:S.length+1≤((scH ((S++[(x,lv)])++[(inSc C x k g,r.2)])).set (S.length+1) ((scRow (inSc C x k g) r.2).set 5 (.t (.lst 1 (r.2.map intRow))))).length:=by omega
   have hcut:((scH ((S++[(x,lv)])++[(inSc C x k g,r.2)])).set (S.length+1) ((scRow (inSc C x k g) r.2).set 5 (.t (.lst 1 (r.2.map intRow))))).take (S.length+1)=scH (S++[(x,lv)]):=by
    rw[List.take_set_of_le (Nat.le_refl _),←List.map_take,List.take_left' (by simp)]
   have hrl:(r.2.map intRow).length=r.2.length:=by simp
   have hin2:=linesG_lv (lev:=lev) (rep:=repN C lev) (fun line g d s hg hr=>repN_grow hC lev line g d s hyS hg hr) hC hyS (d - argsN C.p g) v
   have hgr2:=linesG_grow (lev:=lev) (rep:=repN C lev) (fun line g d s hg hr=>repN_grow hC lev line g d s hyS hg hr) hC hyS (d - argsN C.p g) v
   rw[hr]at hin2 hgr2
   have hrle:=hgr2.le
   obtain⟨hlvl,hin2⟩:=hin2
   have hmul:=Nat.mul_le_mul hye (show 20 * tokC lev+3≤20 * 8679837+3 by omega)
   repeat' ((conv=>whnf);first|(with_reducible first|apply Wx|apply W6)|apply oi|(apply fi<;>intro h)|refine⟨S.length+1,hw4,hle4,?_⟩|refine⟨_,rfl,?_⟩|((with_reducible show _=_);rfl))
   all_goals try((with_reducible refine Obl.mk ?_);exact KP)
   conv=>whnf
   refine⟨{i:Nat // i≤r.2.length},fun q=>⟨[(0,mkrP),(13,tI .i64 (d - argsN C.p g)),(14,.r (.c (.t (.lst 1 (r.2.map intRow))))),(15,tI .i64 (q.1:Int))],
    [((0,0,0),some (mkrB C r.1 (d - argsN C.p g) (127,0,1) (127,0,2))),((127,0,1),some (.dar 7 (itR (patchL r.1.items r.1.items.length (r.2.take q.1))) none)),((127,0,2),some (.dar 6 (scH (S++[(x,lv)])) none))],[127,0]⟩,fun q=>r.2.length - q.1,⟨0,by omega⟩,?_,?_⟩
   ·skip
    repeat' ((conv=>whnf);first|(with_reducible first|apply Wx|apply W6)|apply oi|(apply fi<;>intro h)|refine⟨_,rfl,?_⟩|((with_reducible show _=_);rfl))
    all_goals try((with_reducible refine Obl.mk ?_);exact KP)
    all_goals first|exact⟨hle4⟩|exact⟨hcut⟩
   intro⟨i,hi3⟩
   dsimp only at hi3 ⊢
   have hpl:=patchL_len (r.1.items.length:Int) (r.2.take i) r.1.items
   have hil4:(itR (patchL r.1.items r.1.items.length (r.2.take i))).length=r.1.items.length:=by rw[itR_len,hpl]
   by_cases hli:i < r.2.length
   ·obtain⟨j,hj⟩:=get_of_lt hli
    obtain⟨j1,j2⟩:=hin2 j (List.mem_of_getElem? hj)
    obtain⟨jn,rfl⟩:=Int.eq_ofNat_of_zero_le j1
    have hjl:jn < (itR (patchL r.1.items r.1.items.length (r.2.take i))).length:=by rw[hil4];omega
    obtain⟨it,hit⟩:=get_of_lt (l:=patchL r.1.items r.1.items.length (r.2.take i)) (k:=jn) (by rw[hpl];omega)
    have hnext:r.2.take (i+1)=r.2.take i++[(jn:Int)]:=by rw[List.take_add_one,hj];rfl
    have hps:=patchL_snoc r.1.items.length (jn:Int) (r.2.take i) r.1.items
    repeat' ((conv=>whnf);first|(with_reducible first|apply Wx|apply W6)|apply oi|(apply fi<;>intro h)|refine⟨i,(intRow jn),rfl,map_get hj,?_⟩|refine⟨jn,rfl,hjl,?_⟩|refine⟨_,(itR_get hit),?_⟩|refine⟨_,rfl,?_⟩|((with_reducible show _=_);rfl))
    all_goals try((with_reducible refine Obl.mk ?_);exact KP)
    all_goals try exact KX
    conv=>whnf
    refine⟨⟨i+1,by omega⟩,?_,by dsimp only;omega⟩
    repeat' ((conv=>whnf);first|(with_reducible first|apply Wx|apply W6)|apply oi|(apply fi<;>intro h)|refine⟨_,rfl,?_⟩|((with_reducible show _=_);rfl))
    all_goals try((with_reducible refine Obl.mk ?_);exact KP)
    all_goals try exact⟨KW⟩
    all_goals(refine⟨?_⟩;rw[hil4];dsimp only;rw[hnext,hps,itR_setArg hit];rfl)
   ·have hie:i=r.2.length:=by omega
    subst hie
    have hr':linesG C (repN C lev) (inSc C x k g) (insOf (S++[(x,lv)])++[g]) (d - argsN C.p g) v=r:=(congrArg (fun l=>linesG C (repN C lev) (inSc C x k g) l (d - argsN C.p g) v) (by simp[inSc])).trans hr
    have hfin:repN C (lev+1) x (insOf (S++[(x,lv)])) k g d s=⟨patchL r.1.items r.1.items.length r.2,r.1.most,r.1.start⟩:=by
     show replG C (linesG C (repN C lev)) x (insOf (S++[(x,lv)])) k g d s=_
     unfold replG
     rw[hpre,hv,hr']
    rw[hfin]
    rw[List.take_length]
    repeat' ((conv=>whnf);first|(with_reducible first|apply Wx|apply W6)|apply oi|(apply fi<;>intro h)|refine⟨_,rfl,?_⟩|((with_reducible show _=_);rfl))
    all_goals try((with_reducible refine Obl.mk ?_);exact KP)
    all_goals try exact KX
    all_goals try exact⟨congrArg (fun z:Gs=>Tr.bool z.start) hfin.symm⟩
    all_goals try exact⟨congrArg (fun z:Gs=>itR z.items) hfin.symm⟩
    all_goals try exact⟨congrArg (fun z:Gs=>Tr.int .i64 z.most) hfin.symm⟩
    all_goals try exact⟨KW⟩
end Go.Proofs.YtjmplnfiabmalaaGreat
namespace Go.Proofs.YtjmplnfiabmalaaGreat
open Go.Sim
set_option maxRecDepth 100000
set_option maxHeartbeats 4000000
theorem LinesC_of {C:Cx}(hC:CxOk C){lev:Nat}(hE:ExprC C lev):LinesC C lev:=by
 intro x S s d hx hroom hlev hd0 hd1
 refine specG_of_Wo hΓ hmix Tryz.func207 rfl (by decide) rfl rfl ?_
 rw[insOf_snoc]at hx
 rw[insOf_snoc]
 dsimp only at hx ⊢
 obtain⟨e,he,hfe,hel,hen,hll⟩:=hx.endE hC
 have h60:=hC.len
 have hin:=hC.inl
 have hsl:∀lv:List Int,(scH (S++[(x,lv)])).length=S.length+1:=fun lv=>by simp
 have hrow:∀lv:List Int,(scH (S++[(x,lv)]))[S.length]?=some (scRow x lv):=fun lv=>by simp
 have hlt:∀lv:List Int,S.length < (scH (S++[(x,lv)])).length:=fun lv=>by rw[hsl];omega
 have hw:∀lv:List Int,IntKind.i64.wrap (((scH (S++[(x,lv)])).length:Int) - 1)=(S.length:Int):=fun lv=>by rw[hsl,IntWalk.i64_in _ (by omega)];omega
 have gE:=s_spec_EndOf C.p (x.f:Int) (by omega)
 rw[show endOf C.p (x.f:Int)=(e:Int) by rw[endOf_at];exact endI_some he]at gE
 have hpl:(C.p.map TLine.tr).length=C.p.length:=by simp
 have hm1:(((C.p.map TLine.tr).length:Nat):Int)=(C.p.length:Int):=by rw[hpl]
 have hm2:C.p.length≤9223372036854775807:=by omega
 have hm3:C.p.length * 8≤140737488355328:=by omega
 have h3:=tokC_3 (n:=lev) (by omega)
 have hch:x.chain.length≤100:=by
  have:=hx.chain
  rw[List.length_append,List.length_map]at this
  simp only[List.length_cons,List.length_nil]at this
  omega
 have hxf:0≤x.first∧x.first≤1000:=by
  have:=hx.first
  rw[List.length_append,List.length_map]at this
  simp only[List.length_cons,List.length_nil]at this
  omega
 obtain⟨R,hR⟩:∃R,runL C (repN C lev) x (insOf S++[x.f]) d (e+1 - (x.f+1)) (x.f+1) (startL C s)=R:=⟨_,rfl⟩
 have hfin:linesG C (repN C lev) x (insOf S++[x.f]) d s=(R.g,R.lv):=by
  unfold linesG
  rw[hen,show e - x.f=e+1 - (x.f+1) by omega,hR]
 rw[hfin]
 rw[hen]at hroom
 have hI0:LInv C lev x (insOf S++[x.f]) d e R (x.f+1) (startL C s):=⟨Nat.le_refl _,by omega,by simp[startL],by simp[startL],fun i h1 h2=>by omega,⟨by simp[startL],fun j hj=>by simp[startL]at hj⟩,by rw[show e+1 - (x.f+1)=e - x.f by omega];exact hroom,hR⟩
 repeat' ((conv=>whnf);first|(with_reducible first|apply Wx|apply W6)|apply oi|(apply fi<;>intro h)|refine⟨S.length,hw [],hlt [],?_⟩|refine⟨_,hrow [],?_⟩|refine cl gE ?_|refine⟨C.p.length,hm1,hm1,hm2,hm3,?_⟩|refine⟨_,rfl,?_⟩|((with_reducible show _=_);rfl))
 all_goals try((with_reducible refine Obl.mk ?_);exact KP)
 conv=>whnf
 refine⟨{q:Nat×Ls×List TItem // LInv C lev x (insOf S++[x.f]) d e R q.1 q.2.1∧q.2.2.length=q.2.1.g.items.length∧(q.1≤e→patchE q.2.2 q.2.2.length (q.1:Int) (exitsF C.p q.2.1.pos (x.f+1) (q.1 - (x.f+1)))=q.2.1.g.items)∧(q.1=e+1→q.2.2=q.2.1.g.items)},
  fun q=>⟨[(0,mkrP),(2,tI .i64 (x.f:Int)),(3,vInts x.chain),(4,tI .i64 (e:Int)),(5,.r (.c (.own (5,0,0)))),(6,.r (.c (.own (6,0,0)))),(7,tI .i64 (q.1.1:Int))],
   [((0,0,0),some (mkrB C ⟨q.1.2.2,q.1.2.1.g.most,q.1.2.1.g.start⟩ d (5,0,1) (5,0,2))),((5,0,1),some (.dar 7 (itR q.1.2.2) none)),((5,0,2),some (.dar 6 (scH (S++[(x,q.1.2.1.lv)])) none)),((5,0,0),some (.arr false 1 (q.1.2.1.heads.map intRow))),((6,0,0),some (.arr false 2 ((exitsF C.p q.1.2.1.pos (x.f+1) (q.1.1 - (x.f+1))).map exRow)))],[6,5,0]⟩,
  fun q=>e+1 - q.1.1,⟨(x.f+1,startL C s,s.items),hI0,rfl,fun _=>by rw[Nat.sub_self];rfl,fun _=>rfl⟩,?_,?_⟩
 ·skip
  repeat' ((conv=>whnf);first|(with_reducible first|apply Wx|apply W6)|apply oi|(apply fi<;>intro h)|refine⟨_,rfl,?_⟩|((with_reducible show _=_);rfl))
  all_goals try((with_reducible refine Obl.mk ?_);exact KP)
  all_goals try exact⟨KW⟩
  ·exact⟨by simp[startL,intRow]⟩
  ·exact⟨by dsimp only;rw[Nat.sub_self];rfl⟩
 intro⟨⟨k,L,u⟩,hI,hul,hpat,hlast⟩
 dsimp only at hI hul hpat hlast ⊢
 by_cases hke:k≤e
 ·obtain⟨ln,hl⟩:=get_of_lt (l:=C.p) (k:=k) (by omega)
  have h0:=lines_kinds hC hx he hI.lo hke hl
  obtain⟨hk0,hk7,_,h20,hexp⟩:=hC.line _ _ hl
  obtain⟨hsh,hnm⟩:=toks_short hC hl
  have hkf:=hI.lo
  have hIr:=hI.room
  have hIh:=hI.heads
  have hIp:=hI.pos
  have hlvl:=hI.lv.1
  have hIroom:L.g.items.length+20 * tokC lev+3≤68719476736:=by
   obtain⟨n,hn⟩:∃n,e+1 - k=n+1:=⟨e - k,by omega⟩
   rw[hn,Nat.add_mul]at hIr
   omega
  have hEl:=exitsF_len C.p L.pos (x.f+1) (k - (x.f+1))
  have hEin:∀z∈exitsF C.p L.pos (x.f+1) (k - (x.f+1)),0≤z.2∧z.2 < (L.g.items.length:Int):=fun z hz=>by
   obtain⟨i,i1,i2,i3,rfl⟩:=exitsF_mem hz
   exact hI.at_ i (by omega) (by omega) i3
  have gP:=g_spec_patch C ⟨u,L.g.most,L.g.start⟩ d (scH (S++[(x,L.lv)])) (exitsF C.p L.pos (x.f+1) (k - (x.f+1))) k (by unfold roomy;dsimp only;omega) (by omega) (by dsimp only;rw[hul];exact hEin)
  rw[hpat hke]at gP
  obtain⟨A,hA⟩:∃A,stepA C (repN C lev) x (insOf S++[x.f]) d k ln L=A:=⟨_,rfl⟩
  have hN:=LInv.next hC hx he hI hke hl
  rw[hA]at hN
  obtain⟨hP1,hP2⟩:=patch_next hC hx he hkf hke hl A
  obtain⟨b1,b2,b3,b4,b5,b6⟩:=stepB_lens (C:=C) (x:=x) k ln A
  have hQ:LInv C lev x (insOf S++[x.f]) d e R (k+1) (stepB C x k ln A)∧A.g.items.length=(stepB C x k ln A).g.items.length∧(k+1≤e→patchE A.g.items A.g.items.length ((k+1:Nat):Int) (exitsF C.p (stepB C x k ln A).pos (x.f+1) (k+1 - (x.f+1)))=(stepB C x k ln A).g.items)∧(k+1=e+1→A.g.items=(stepB C x k ln A).g.items):=⟨hN,b4.symm,fun h=>by rw[b2];exact hP1 h,fun h=>hP2 (by omega)⟩
  have hIl:k < (L.heads.map intRow).length:=by rw[List.length_map,hIh];omega
  have hro:roomy L.g:=by unfold roomy;omega
  have hitl:=itR_len L.g.items
  have hkne:ln.fKind≠7→k < e:=fun h=>by
   rcases Nat.lt_or_eq_of_le hke with h'|h'
   ·exact h'
   ·subst h'
    obtain⟨z,hz,hz7⟩:=endAt_kind he
    rw[hl]at hz
    injection hz with hz
    subst hz
    exact absurd hz7 h
  have hcalls:ln.fKind≠7→callsOk C ln.fExpr:=fun h=>by
   obtain⟨l0,q1,q2⟩:=hx.fn
   obtain⟨e',q3,_,_,q4⟩:=hC.fn _ _ q1 q2
   rw[he]at q3
   injection q3 with q3
   subst q3
   exact(q4 k ln (by omega) (hkne h) hl).2.1
  obtain⟨g1,hg1⟩:∃g1,genE C (repN C lev) x (insOf S++[x.f]) k (exL ln.fExpr) d ⟨L.g.items,L.g.most,true⟩=g1:=⟨_,rfl⟩
  have hX:exprOk ln.fExpr=true→ln.fKind≠7→SpecG Tryz.prog 246 [mkrP,tI .i64 (k:Int),tI .i64 (0:Int)] (mkrH (0,0,1) (0,0,2) C ⟨L.g.items,L.g.most,true⟩ d (scH (S++[(x,L.lv)]))) (tI .i64 ((0+(exL ln.fExpr).toks.length:Nat):Int)) (mkrH (1,0,1) (1,0,2) C g1 (d+1) (scH (S++[(x,L.lv)]))):=fun hx1 hx7=>by
   obtain⟨eo,et⟩:=exL_ok hx1
   have h20':(exL ln.fExpr).toks.length≤20:=by rw[←et];exact h20
   have hmu:=Nat.mul_le_mul_right (tokC lev) h20'
   have:=hE (exL ln.fExpr) x S L.lv k 0 ln ⟨L.g.items,L.g.most,true⟩ d eo (by rw[insOf_snoc];exact hx) hl ⟨[],by rw[List.drop_zero,List.append_nil];exact et⟩ (hcalls hx7) ⟨by dsimp only;omega,hlev,hd0,by omega⟩
   rw[insOf_snoc]at this
   dsimp only at this
   rw[hg1]at this
   exact this
  have hG:exprOk ln.fExpr=true→g1.items.length≤L.g.items.length+20 * tokC lev:=fun hx1=>by
   have:=(genE_grow' (x:=x) (ins:=insOf S++[x.f]) (rep:=repN C lev) (line:=k) (lev:=lev) (fun g d s hg hr=>repN_grow hC lev k g d s hx hg hr) hC hl hx1 d ⟨L.g.items,L.g.most,true⟩).le
   rw[hg1]at this
   exact this
  have hhr:(L.heads.map intRow)[k]?=some (intRow (atL L.heads k)):=by
   rw[List.getElem?_map]
   have:k < L.heads.length:=by omega
   rw[List.getElem?_eq_getElem this,atL,List.getElem?_eq_getElem this]
   rfl
  have hhs:∀v:Int,(L.heads.map intRow).set k [.int .i64 v]=(L.heads.set k v).map intRow:=fun v=>by simp[List.map_set,intRow]
  unfold stepA at hA
  rw[hg1]at hA
  dsimp only at hA
  have hcase:ln.fKind=4∨ln.fKind=7∨ln.fKind=1∨ln.fKind=2∨ln.fKind=6∨(ln.fKind=3∨ln.fKind=5):=by omega
  rcases hcase with h4|h7|h1|h2|h6|h35
  ·
   rw[if_pos h4]at hA
   have a1:A.g.items=setArg (emitG C L.g d 10 0 k x.chain).items (atL L.pos (ownOf C.p k)) (emitG C L.g d 10 0 k x.chain).items.length:=by rw[←hA]
   have a2:A.g.most=L.g.most:=by rw[←hA];rfl
   have a3:A.g.start=false:=by rw[←hA];rfl
   have a4:A.heads=L.heads:=by rw[←hA]
   have a5:A.pos=L.pos.set k L.g.items.length:=by rw[←hA]
   have a6:A.lv=L.lv:=by rw[←hA]
   obtain⟨o1,o2,o3,o4⟩:=hx.own4 hC he (by omega) hke hl h4
   obtain⟨y,m,hy,y3,hm,_⟩:=elseAt_some o1
   have hkk:=kindAt_of hl
   have hto:toOf C.p k=endOf C.p (ownOf C.p k:Int)+1:=by unfold toOf;rw[if_pos (by omega)]
   have hge:=endOf_ge C.p (ownOf C.p k)
   have hEn:exitsF C.p L.pos (x.f+1) (k - (x.f+1))++[(toOf C.p k,(L.g.items.length:Int))]=exitsF C.p (L.pos.set k L.g.items.length) (x.f+1) (k+1 - (x.f+1)):=exits_jump hkf (by unfold jumps;omega) (by rw[hIp];omega) _
   have gEm:=g_spec_emit C L.g d (scH (S++[(x,L.lv)])) 10 0 k x.chain hro hch
   have gP2:=g_spec_patch C (emitG C L.g d 10 0 k x.chain) d (scH (S++[(x,L.lv)])) (exitsF C.p (L.pos.set k L.g.items.length) (x.f+1) (k+1 - (x.f+1))) (-(k:Int)) (by unfold roomy emitG;simp only[List.length_append,List.length_cons,List.length_nil];omega) (by have:=exitsF_len C.p (L.pos.set k L.g.items.length) (x.f+1) (k+1 - (x.f+1));omega) (fun z hz=>by
    rw[←hEn,List.mem_append]at hz
    simp only[emitG,List.length_append,List.length_cons,List.length_nil]
    rcases hz with hz|hz
    ·have:=hEin z hz;omega
    ·simp only[List.mem_cons,List.not_mem_nil,or_false]at hz
     subst hz
     dsimp only
     omega)
   rw[patch_else hC hx he hkf hke hl h4,atL_set (by omega)]at gP2
   have hng:IntKind.i64.wrap (0 - (k:Int))= -(k:Int):=by rw[IntWalk.i64_in _ (by omega)];omega
   rw[←hng]at gP2
   repeat' ((conv=>whnf);first|(with_reducible first|apply Wx|apply W6)|refine cg gP ?_|apply oi|(apply fi<;>intro h)|refine⟨k,ln.tr,rfl,map_get hl,?_⟩|refine⟨_,rfl,?_⟩|((with_reducible show _=_);rfl))
   all_goals try((with_reducible refine Obl.mk ?_);exact KP)
   all_goals try exact KX
   all_goals try exact KK
   conv=>whnf
   refine⟨{i:Nat // x.f≤i∧i≤k},fun q=>⟨[(0,mkrP),(2,tI .i64 (x.f:Int)),(3,vInts x.chain),(4,tI .i64 (e:Int)),(5,.r (.c (.own (5,0,0)))),(6,.r (.c (.own (6,0,0)))),(7,tI .i64 (k:Int)),(9,tI .i64 (q.1:Int))],
    [((0,0,0),some (mkrB C L.g d (5,0,1) (5,0,2))),((5,0,1),some (.dar 7 (itR L.g.items) none)),((5,0,2),some (.dar 6 (scH (S++[(x,L.lv)])) none)),((5,0,0),some (.arr false 1 (L.heads.map intRow))),((6,0,0),some (.arr false 2 ((exitsF C.p L.pos (x.f+1) (k - (x.f+1))++(if ownOf C.p k < q.1 then [(toOf C.p k,(L.g.items.length:Int))]else [])).map exRow)))],[6,5,0]⟩,
    fun q=>k - q.1,⟨x.f,by omega,by omega⟩,?_,?_⟩
   ·skip
    repeat' ((conv=>whnf);first|(with_reducible first|apply Wx|apply W6)|apply oi|(apply fi<;>intro h)|refine⟨_,rfl,?_⟩|((with_reducible show _=_);rfl))
    all_goals try((with_reducible refine Obl.mk ?_);exact KP)
    all_goals exact⟨by rw[if_neg (by dsimp only;omega)];simp⟩
   intro⟨i,hi1,hi2⟩
   dsimp only at hi1 hi2 ⊢
   by_cases hik:i < k
   ·have gEl:=s_spec_ElseOf C.p (i:Int) (by omega)
    by_cases hio:i=ownOf C.p k
    ·subst hio
     rw[show elseOf C.p (ownOf C.p k:Int)=(k:Int) by rw[elseOf_at];exact endI_some o1]at gEl
     have gEn:=s_spec_EndOf C.p (ownOf C.p k:Int) (by omega)
     rw[if_neg (by omega),List.append_nil]
     have hml:((exitsF C.p L.pos (x.f+1) (k - (x.f+1))).map exRow).length=(exitsF C.p L.pos (x.f+1) (k - (x.f+1))).length:=by simp
     have hitl:=itR_len L.g.items
     repeat' ((conv=>whnf);first|(with_reducible first|apply Wx|apply W6)|apply oi|(apply fi<;>intro h)|refine cl gEl ?_|refine cl gEn ?_|refine⟨_,rfl,?_⟩|((with_reducible show _=_);rfl))
     all_goals try((with_reducible refine Obl.mk ?_);exact KP)
     all_goals try exact KX
     all_goals try(exfalso;simp at h;done)
     all_goals try exact⟨⟨by rw[hml];simp <;> omega,by rw[hml];simp <;> omega⟩⟩
     conv=>whnf
     refine⟨⟨ownOf C.p k+1,by omega,by omega⟩,?_,by dsimp only;omega⟩
     repeat' ((conv=>whnf);first|(with_reducible first|apply Wx|apply W6)|apply oi|(apply fi<;>intro h)|refine⟨_,rfl,?_⟩|((with_reducible show _=_);rfl))
     all_goals try((with_reducible refine Obl.mk ?_);exact KP)
     all_goals try exact⟨KW⟩
     all_goals(refine⟨?_⟩;dsimp only;rw[if_pos (by omega),hto,hitl,IntWalk.i64_in _ (by omega)];simp)
    ·have hne:elseOf C.p (i:Int)≠(k:Int):=fun hh=>by
      rw[elseOf_at]at hh
      cases hz:elseAt C.p i with
      | none=>rw[hz]at hh;simp only[endI]at hh;omega
      | some j=>
       rw[hz]at hh
       simp only[endI]at hh
       have:j=k:=by omega
       subst this
       exact hio (elseAt_inj hz o1)
     generalize elseOf C.p (i:Int)=el at *
     repeat' ((conv=>whnf);first|(with_reducible first|apply Wx|apply W6)|apply oi|(apply fi<;>intro h)|refine cl gEl ?_|refine⟨_,rfl,?_⟩|((with_reducible show _=_);rfl))
     all_goals try((with_reducible refine Obl.mk ?_);exact KP)
     all_goals try exact KX
     ·exact absurd (eq_of_beq h) hne
     ·conv=>whnf
      refine⟨⟨i+1,by omega,by omega⟩,?_,by dsimp only;omega⟩
      repeat' ((conv=>whnf);first|(with_reducible first|apply Wx|apply W6)|apply oi|(apply fi<;>intro h)|refine⟨_,rfl,?_⟩|((with_reducible show _=_);rfl))
      all_goals try((with_reducible refine Obl.mk ?_);exact KP)
      all_goals try exact⟨KW⟩
      all_goals(refine⟨?_⟩;dsimp only;congr 2)
      all_goals(by_cases hh:ownOf C.p k < i)
      all_goals first|rw[if_pos hh,if_pos (by omega)]|rw[if_neg hh,if_neg (by omega)]
   ·have hie:i=k:=by omega
    subst hie
    rw[if_pos o3,hEn]
    repeat' ((conv=>whnf);first|(with_reducible first|apply Wx|apply W6)|refine cg gEm ?_|refine cg gP2 ?_|apply oi|(apply fi<;>intro h)|refine⟨_,rfl,?_⟩|((with_reducible show _=_);rfl))
    all_goals try((with_reducible refine Obl.mk ?_);exact KP)
    all_goals try exact KX
    conv=>whnf
    refine⟨⟨(i+1,stepB C x i ln A,A.g.items),hQ⟩,?_,by dsimp only;omega⟩
    repeat' ((conv=>whnf);first|(with_reducible first|apply Wx|apply W6)|apply oi|(apply fi<;>intro h)|refine⟨_,rfl,?_⟩|((with_reducible show _=_);rfl))
    all_goals try((with_reducible refine Obl.mk ?_);exact KP)
    all_goals try exact⟨KW⟩
    all_goals(refine⟨?_⟩;dsimp only;simp only[b1,b2,b3,b5,b6,a1,a2,a3,a4,a5,a6];try rfl)
  ·
   rw[if_neg (by omega),if_pos h7]at hA
   obtain⟨o1,o2⟩:=hx.own7 hC he (by omega) hke hl h7
   have hee:exitsF C.p L.pos (x.f+1) (k+1 - (x.f+1))=exitsF C.p L.pos (x.f+1) (k - (x.f+1)):=exits_next hkf (by unfold jumps;rw[kindAt_of hl,h7];decide)
   rcases o2 with⟨o2,o3⟩|⟨o2,o3,o4,y,hy,o5⟩
   ·subst o2
    rw[if_pos o3]at hA
    have gN:=g_spec_number C L.g d (scH (S++[(x,L.lv)])) 0 k x.chain hro hch (by omega)
    have gL:=g_spec_leave C hC (emitG C L.g d 0 0 k x.chain) (d+1) S x L.lv k true (by unfold roomy emitG;simp only[List.length_append,List.length_cons,List.length_nil];omega) hch (by omega) (by omega) (by omega) L.heads L.pos
    rw[show leaveG C x k true (d+1) ⟨emitG C L.g d 0 0 k x.chain,L.heads,L.pos,L.lv⟩=A from hA,Int.add_sub_cancel]at gL
    have a4:A.heads=L.heads:=by rw[←hA];unfold leaveG;(repeat' split) <;> rfl
    have a5:A.pos=L.pos:=by rw[←hA];unfold leaveG;(repeat' split) <;> rfl
    repeat' ((conv=>whnf);first|(with_reducible first|apply Wx|apply W6)|refine cg gP ?_|refine cg gN ?_|refine cg gL ?_|apply oi|(apply fi<;>intro h)|refine⟨k,ln.tr,rfl,map_get hl,?_⟩|refine⟨_,rfl,?_⟩|((with_reducible show _=_);rfl))
    all_goals try((with_reducible refine Obl.mk ?_);exact KP)
    all_goals try exact KX
    all_goals try exact KK
    all_goals try(exfalso;simp at h;done)
    conv=>whnf
    refine⟨⟨(k+1,stepB C x k ln A,A.g.items),hQ⟩,?_,by dsimp only;omega⟩
    repeat' ((conv=>whnf);first|(with_reducible first|apply Wx|apply W6)|apply oi|(apply fi<;>intro h)|refine⟨_,rfl,?_⟩|((with_reducible show _=_);rfl))
    all_goals try((with_reducible refine Obl.mk ?_);exact KP)
    all_goals try exact⟨KW⟩
    all_goals(refine⟨?_⟩;dsimp only;simp only[b1,b2,b3,b5,b6,a4,a5,hee];try rfl)
   ·rw[if_neg (by omega)]at hA
    have hky:=kindAt_of hy
    have gEm:=g_spec_emit C L.g d (scH (S++[(x,L.lv)])) 10 (atL L.heads (ownOf C.p k)) k x.chain hro hch
    have a4:A.heads=L.heads:=by rw[←hA];split <;> rfl
    have a5:A.pos=L.pos:=by rw[←hA];split <;> rfl
    have a6:A.lv=L.lv:=by rw[←hA];split <;> rfl
    have a1:A.g=if kindAt C.p (ownOf C.p k)=5 then emitG C L.g d 10 (atL L.heads (ownOf C.p k)) k x.chain else L.g:=by rw[←hA];split <;> rfl
    have hend:endOf C.p (ownOf C.p k:Int)=(k:Int):=by rw[endOf_at];exact endI_some o1
    have hhd:(L.heads.map intRow)[ownOf C.p k]?=some (intRow (atL L.heads (ownOf C.p k))):=by
     rw[List.getElem?_map]
     have:ownOf C.p k < L.heads.length:=by omega
     rw[List.getElem?_eq_getElem this,atL,List.getElem?_eq_getElem this]
     rfl
    have hol:ownOf C.p k < (L.heads.map intRow).length:=by rw[List.length_map];omega
    repeat' ((conv=>whnf);first|(with_reducible first|apply Wx|apply W6)|refine cg gP ?_|apply oi|(apply fi<;>intro h)|refine⟨k,ln.tr,rfl,map_get hl,?_⟩|refine⟨_,rfl,?_⟩|((with_reducible show _=_);rfl))
    all_goals try((with_reducible refine Obl.mk ?_);exact KP)
    all_goals try exact KX
    all_goals try exact KK
    conv=>whnf
    refine⟨{i:Nat // x.f+1≤i∧i≤k},fun q=>⟨[(0,mkrP),(2,tI .i64 (x.f:Int)),(3,vInts x.chain),(4,tI .i64 (e:Int)),(5,.r (.c (.own (5,0,0)))),(6,.r (.c (.own (6,0,0)))),(7,tI .i64 (k:Int)),(11,tI .i64 (q.1:Int))],
     [((0,0,0),some (mkrB C (if ownOf C.p k < q.1 then A.g else L.g) d (5,0,1) (5,0,2))),((5,0,1),some (.dar 7 (itR (if ownOf C.p k < q.1 then A.g else L.g).items) none)),((5,0,2),some (.dar 6 (scH (S++[(x,L.lv)])) none)),((5,0,0),some (.arr false 1 (L.heads.map intRow))),((6,0,0),some (.arr false 2 ((exitsF C.p L.pos (x.f+1) (k - (x.f+1))).map exRow)))],[6,5,0]⟩,
     fun q=>k - q.1,⟨x.f+1,by omega,by omega⟩,?_,?_⟩
    ·skip
     repeat' ((conv=>whnf);first|(with_reducible first|apply Wx|apply W6)|apply oi|(apply fi<;>intro h)|refine⟨_,rfl,?_⟩|((with_reducible show _=_);rfl))
     all_goals try((with_reducible refine Obl.mk ?_);exact KP)
     all_goals try(refine⟨?_⟩;dsimp only;rw[if_neg (by omega)];done)
     all_goals try exact⟨KW⟩
    intro⟨i,hi1,hi2⟩
    dsimp only at hi1 hi2 ⊢
    by_cases hik:i < k
    ·have gEn:=s_spec_EndOf C.p (i:Int) (by omega)
     obtain⟨z,hz⟩:=get_of_lt (l:=C.p) (k:=i) (by omega)
     by_cases hio:i=ownOf C.p k
     ·subst hio
      rw[hend]at gEn
      rw[hy]at hz
      injection hz with hz
      subst hz
      rw[if_neg (by omega)]
      by_cases h5:y.fKind=5
      ·rw[if_pos (by omega)]at a1
       repeat' ((conv=>whnf);first|(with_reducible first|apply Wx|apply W6)|refine cg gEm ?_|apply oi|(apply fi<;>intro h)|refine cl gEn ?_|refine⟨(ownOf C.p k),y.tr,rfl,map_get hy,?_⟩|refine⟨ownOf C.p k,rfl,hol,?_⟩|refine⟨_,hhd,?_⟩|refine⟨_,rfl,?_⟩|((with_reducible show _=_);rfl))
       all_goals try((with_reducible refine Obl.mk ?_);exact KP)
       all_goals try exact KX
       all_goals try exact KK
       all_goals try(exfalso;simp at h;done)
       conv=>whnf
       refine⟨⟨ownOf C.p k+1,by omega,by omega⟩,?_,by dsimp only;omega⟩
       repeat' ((conv=>whnf);first|(with_reducible first|apply Wx|apply W6)|apply oi|(apply fi<;>intro h)|refine⟨_,rfl,?_⟩|((with_reducible show _=_);rfl))
       all_goals try((with_reducible refine Obl.mk ?_);exact KP)
       all_goals try exact⟨KW⟩
       all_goals(refine⟨?_⟩;dsimp only;rw[if_pos (by omega),a1])
      ·rw[if_neg (by omega)]at a1
       repeat' ((conv=>whnf);first|(with_reducible first|apply Wx|apply W6)|refine cg gEm ?_|apply oi|(apply fi<;>intro h)|refine cl gEn ?_|refine⟨(ownOf C.p k),y.tr,rfl,map_get hy,?_⟩|refine⟨ownOf C.p k,rfl,hol,?_⟩|refine⟨_,hhd,?_⟩|refine⟨_,rfl,?_⟩|((with_reducible show _=_);rfl))
       all_goals try((with_reducible refine Obl.mk ?_);exact KP)
       all_goals try exact KX
       all_goals try exact KK
       all_goals try(exfalso;simp at h;done)
       conv=>whnf
       refine⟨⟨ownOf C.p k+1,by omega,by omega⟩,?_,by dsimp only;omega⟩
       repeat' ((conv=>whnf);first|(with_reducible first|apply Wx|apply W6)|apply oi|(apply fi<;>intro h)|refine⟨_,rfl,?_⟩|((with_reducible show _=_);rfl))
       all_goals try((with_reducible refine Obl.mk ?_);exact KP)
       all_goals try exact⟨KW⟩
       all_goals(refine⟨?_⟩;dsimp only;rw[if_pos (by omega),a1])
     ·have hne:endOf C.p (i:Int)≠(k:Int):=fun hh=>by
       have h':=endOf_some hh (by omega)
       rw[Int.toNat_natCast]at h'
       exact hio (endAt_inj h' o1)
      generalize endOf C.p (i:Int)=en at *
      repeat' ((conv=>whnf);first|(with_reducible first|apply Wx|apply W6)|apply oi|(apply fi<;>intro h)|refine cl gEn ?_|refine⟨i,z.tr,rfl,map_get hz,?_⟩|refine⟨_,rfl,?_⟩|((with_reducible show _=_);rfl))
      all_goals try((with_reducible refine Obl.mk ?_);exact KP)
      all_goals try exact KX
      all_goals try(exfalso;exact hne (eq_of_beq (by assumption)))
      conv=>whnf
      refine⟨⟨i+1,by omega,by omega⟩,?_,by dsimp only;omega⟩
      have hsm:(if ownOf C.p k < i+1 then A.g else L.g)=if ownOf C.p k < i then A.g else L.g:=by
       by_cases hh:ownOf C.p k < i
       ·rw[if_pos hh,if_pos (by omega)]
       ·rw[if_neg hh,if_neg (by omega)]
      dsimp only
      rw[hsm]
      repeat' ((conv=>whnf);first|(with_reducible first|apply Wx|apply W6)|apply oi|(apply fi<;>intro h)|refine⟨_,rfl,?_⟩|((with_reducible show _=_);rfl))
      all_goals try((with_reducible refine Obl.mk ?_);exact KP)
      all_goals try exact⟨KW⟩
    ·have hie:i=k:=by omega
     subst hie
     rw[if_pos o4]
     repeat' ((conv=>whnf);first|(with_reducible first|apply Wx|apply W6)|apply oi|(apply fi<;>intro h)|refine⟨_,rfl,?_⟩|((with_reducible show _=_);rfl))
     all_goals try((with_reducible refine Obl.mk ?_);exact KP)
     all_goals try exact KX
     conv=>whnf
     refine⟨⟨(i+1,stepB C x i ln A,A.g.items),hQ⟩,?_,by dsimp only;omega⟩
     repeat' ((conv=>whnf);first|(with_reducible first|apply Wx|apply W6)|apply oi|(apply fi<;>intro h)|refine⟨_,rfl,?_⟩|((with_reducible show _=_);rfl))
     all_goals try((with_reducible refine Obl.mk ?_);exact KP)
     all_goals try exact⟨KW⟩
     all_goals(refine⟨?_⟩;dsimp only;simp only[b1,b2,b3,b5,b6,a4,a5,a6,hee];try rfl)
  ·
   rw[if_neg (by omega),if_neg (by omega),if_pos h1]at hA
   have hx1:=hexp (.inl h1)
   have gX:=hX hx1 (by omega)
   have hG1:=hG hx1
   have hix:=idxOf_le x.locals ln.fName
   have gI:=s_spec_l04Index x.locals ln.fName (by omega)
   have gS:=g_spec_store C hC g1 (d+1) (scH (S++[(x,L.lv)])) x (idxOf x.locals ln.fName) k x.chain (by unfold roomy;omega) hch (by omega) hxf (by omega)
   rw[Int.add_sub_cancel]at gS
   have a1:A.g=storeG C x g1 (d+1) (idxOf x.locals ln.fName) k x.chain:=by rw[←hA]
   have a4:A.heads=L.heads.set k L.g.items.length:=by rw[←hA]
   have a5:A.pos=L.pos:=by rw[←hA]
   have a6:A.lv=L.lv:=by rw[←hA]
   have hee:exitsF C.p L.pos (x.f+1) (k+1 - (x.f+1))=exitsF C.p L.pos (x.f+1) (k - (x.f+1)):=exits_next hkf (by unfold jumps;rw[kindAt_of hl,h1];decide)
   generalize idxOf x.locals ln.fName=ix at *
   repeat' ((conv=>whnf);first|(with_reducible first|apply Wx|apply W6)|refine cg gP ?_|refine cg gX ?_|refine cg gS ?_|apply oi|(apply fi<;>intro h)|refine⟨k,ln.tr,rfl,map_get hl,?_⟩|refine⟨k,rfl,hIl,?_⟩|refine⟨_,hhr,?_⟩|refine⟨S.length,hw L.lv,hlt L.lv,?_⟩|refine⟨_,hrow L.lv,?_⟩|refine cl gI ?_|refine⟨_,rfl,?_⟩|((with_reducible show _=_);rfl))
   all_goals try((with_reducible refine Obl.mk ?_);exact KP)
   all_goals try exact KX
   all_goals try exact KK
   conv=>whnf
   refine⟨⟨(k+1,stepB C x k ln A,A.g.items),hQ⟩,?_,by dsimp only;omega⟩
   repeat' ((conv=>whnf);first|(with_reducible first|apply Wx|apply W6)|apply oi|(apply fi<;>intro h)|refine⟨_,rfl,?_⟩|((with_reducible show _=_);rfl))
   all_goals try((with_reducible refine Obl.mk ?_);exact KP)
   all_goals try exact⟨KW⟩
   all_goals(refine⟨?_⟩;dsimp only;simp only[b1,b2,b3,b5,b6,a1,a4,a5,a6,hee,hitl,←hhs];try rfl)
  ·
   rw[if_neg (by omega),if_neg (by omega),if_neg (by omega),if_pos h2]at hA
   have hx1:=hexp (.inr (.inl h2))
   have gX:=hX hx1 (by omega)
   have hG1:=hG hx1
   have gS:=g_spec_emit C g1 (d+1) (scH (S++[(x,L.lv)])) 17 0 k x.chain (by unfold roomy;omega) hch
   have a1:A.g=emitG C g1 (d+1) 17 0 k x.chain:=by rw[←hA]
   have a4:A.heads=L.heads.set k L.g.items.length:=by rw[←hA]
   have a5:A.pos=L.pos:=by rw[←hA]
   have a6:A.lv=L.lv:=by rw[←hA]
   have hee:exitsF C.p L.pos (x.f+1) (k+1 - (x.f+1))=exitsF C.p L.pos (x.f+1) (k - (x.f+1)):=exits_next hkf (by unfold jumps;rw[kindAt_of hl,h2];decide)
   repeat' ((conv=>whnf);first|(with_reducible first|apply Wx|apply W6)|refine cg gP ?_|refine cg gX ?_|refine cg gS ?_|apply oi|(apply fi<;>intro h)|refine⟨k,ln.tr,rfl,map_get hl,?_⟩|refine⟨k,rfl,hIl,?_⟩|refine⟨_,hhr,?_⟩|refine⟨_,rfl,?_⟩|((with_reducible show _=_);rfl))
   all_goals try((with_reducible refine Obl.mk ?_);exact KP)
   all_goals try exact KX
   all_goals try exact KK
   conv=>whnf
   refine⟨⟨(k+1,stepB C x k ln A,A.g.items),hQ⟩,?_,by dsimp only;omega⟩
   repeat' ((conv=>whnf);first|(with_reducible first|apply Wx|apply W6)|apply oi|(apply fi<;>intro h)|refine⟨_,rfl,?_⟩|((with_reducible show _=_);rfl))
   all_goals try((with_reducible refine Obl.mk ?_);exact KP)
   all_goals try exact⟨KW⟩
   all_goals(refine⟨?_⟩;dsimp only;simp only[b1,b2,b3,b5,b6,a1,a4,a5,a6,hee,hitl,←hhs];try rfl)
  ·
   rw[if_neg (by omega),if_neg (by omega),if_neg (by omega),if_neg (by omega),if_pos h6]at hA
   have hx1:=hexp (.inr (.inr (.inr (.inr h6))))
   have gX:=hX hx1 (by omega)
   have hG1:=hG hx1
   have gS:=g_spec_leave C hC g1 (d+1) S x L.lv k false (by unfold roomy;omega) hch (by omega) (by omega) (by omega) (L.heads.set k L.g.items.length) L.pos
   rw[hA,Int.add_sub_cancel]at gS
   have a4:A.heads=L.heads.set k L.g.items.length:=by rw[←hA];unfold leaveG;(repeat' split) <;> rfl
   have a5:A.pos=L.pos:=by rw[←hA];unfold leaveG;(repeat' split) <;> rfl
   have hee:exitsF C.p L.pos (x.f+1) (k+1 - (x.f+1))=exitsF C.p L.pos (x.f+1) (k - (x.f+1)):=exits_next hkf (by unfold jumps;rw[kindAt_of hl,h6];decide)
   repeat' ((conv=>whnf);first|(with_reducible first|apply Wx|apply W6)|refine cg gP ?_|refine cg gX ?_|refine cg gS ?_|apply oi|(apply fi<;>intro h)|refine⟨k,ln.tr,rfl,map_get hl,?_⟩|refine⟨k,rfl,hIl,?_⟩|refine⟨_,hhr,?_⟩|refine⟨_,rfl,?_⟩|((with_reducible show _=_);rfl))
   all_goals try((with_reducible refine Obl.mk ?_);exact KP)
   all_goals try exact KX
   all_goals try exact KK
   conv=>whnf
   refine⟨⟨(k+1,stepB C x k ln A,A.g.items),hQ⟩,?_,by dsimp only;omega⟩
   repeat' ((conv=>whnf);first|(with_reducible first|apply Wx|apply W6)|apply oi|(apply fi<;>intro h)|refine⟨_,rfl,?_⟩|((with_reducible show _=_);rfl))
   all_goals try((with_reducible refine Obl.mk ?_);exact KP)
   all_goals try exact⟨KW⟩
   all_goals(refine⟨?_⟩;dsimp only;simp only[b1,b2,b3,b5,b6,a4,a5,hee,hitl,←hhs];try rfl)
  ·
   rw[if_neg (by omega),if_neg (by omega),if_neg (by omega),if_neg (by omega),if_neg (by omega)]at hA
   have hx1:=hexp (by omega)
   have gX:=hX hx1 (by omega)
   have hG1:=hG hx1
   have gS:=g_spec_emit C g1 (d+1) (scH (S++[(x,L.lv)])) 11 0 k x.chain (by unfold roomy;omega) hch
   have a1:A.g=emitG C g1 (d+1) 11 0 k x.chain:=by rw[←hA]
   have a4:A.heads=L.heads.set k L.g.items.length:=by rw[←hA]
   have a5:A.pos=L.pos.set k g1.items.length:=by rw[←hA]
   have a6:A.lv=L.lv:=by rw[←hA]
   have hkk:=kindAt_of hl
   have hee:=exits_jump (pos:=L.pos) (p:=C.p) (f:=x.f) (k:=k) hkf (by unfold jumps;omega) (by rw[hIp];omega) (g1.items.length:Int)
   have gEn:=s_spec_EndOf C.p (k:Int) (by omega)
   have gEl:=s_spec_ElseOf C.p (k:Int) (by omega)
   have hge:=endOf_ge C.p k
   have hgl:-1≤elseOf C.p (k:Int)∧elseOf C.p (k:Int)≤C.p.length:=by
    rw[elseOf_at]
    cases hz:elseAt C.p k with
    | none=>simp only[endI];omega
    | some j=>
     obtain⟨_,_,_,_,_,_,_,w,hw,_⟩:=elseAt_some hz
     have:=lt_of_get hw
     simp only[endI];omega
   have hto:toOf C.p k=if ln.fKind=3∧0≤elseOf C.p (k:Int)then - elseOf C.p (k:Int)else endOf C.p (k:Int)+1:=by unfold toOf;rw[if_neg (by omega),hkk]
   have hml:((exitsF C.p L.pos (x.f+1) (k - (x.f+1))).map exRow).length=(exitsF C.p L.pos (x.f+1) (k - (x.f+1))).length:=by simp
   have hitg:=itR_len g1.items
   generalize toOf C.p k=to at *
   generalize endOf C.p (k:Int)=en at *
   generalize elseOf C.p (k:Int)=el at *
   have hw1:IntKind.i64.wrap (en+1)=en+1:=by rw[IntWalk.i64_in _ (by omega)]
   have hw2:IntKind.i64.wrap (0 - el)= - el:=by rw[IntWalk.i64_in _ (by omega)];omega
   repeat' ((conv=>whnf);first|(with_reducible first|apply Wx|apply W6)|refine cg gP ?_|refine cg gX ?_|refine cg gS ?_|apply oi|(apply fi<;>intro h)|refine⟨k,ln.tr,rfl,map_get hl,?_⟩|refine⟨k,rfl,hIl,?_⟩|refine⟨_,hhr,?_⟩|refine cl gEn ?_|refine cl gEl ?_|refine⟨_,rfl,?_⟩|((with_reducible show _=_);rfl))
   all_goals try((with_reducible refine Obl.mk ?_);exact KP)
   all_goals try exact KX
   all_goals try exact KK
   all_goals try exact⟨⟨by rw[hml];simp <;> omega,by rw[hml];simp <;> omega⟩⟩
   all_goals(conv=>whnf)
   all_goals(refine⟨⟨(k+1,stepB C x k ln A,A.g.items),hQ⟩,?_,by dsimp only;omega⟩)
   repeat' ((conv=>whnf);first|(with_reducible first|apply Wx|apply W6)|apply oi|(apply fi<;>intro h)|refine⟨_,rfl,?_⟩|((with_reducible show _=_);rfl))
   all_goals try((with_reducible refine Obl.mk ?_);exact KP)
   all_goals try exact⟨KW⟩
   all_goals(refine⟨?_⟩;dsimp only;simp only[b1,b2,b3,b5,b6,a1,a4,a5,a6,←hee,hitl,hitg,←hhs,hw1,hw2];try rfl)
   all_goals first
    |(rw[hto,if_pos ⟨eq_of_beq (by assumption),of_decide_eq_true (by assumption)⟩];simp)
    |(rw[hto,if_neg (fun hh=>absurd hh.2 (of_decide_eq_false (by assumption)))];simp)
    |(rw[hto,if_neg (fun hh=>by
                     have h9:(ln.fKind==3)=false:=by assumption
                     rw[hh.1]at h9;cases h9)];simp)
 ·have hk1:k=e+1:=by have:=hI.hi;omega
  subst hk1
  have hf:=hI.fin
  rw[Nat.sub_self,runL]at hf
  subst hf
  rw[hlast rfl]
  repeat' ((conv=>whnf);first|(with_reducible first|apply Wx|apply W6)|apply oi|(apply fi<;>intro h)|refine⟨_,rfl,?_⟩|((with_reducible show _=_);rfl))
  all_goals try((with_reducible refine Obl.mk ?_);exact KP)
  all_goals try exact KX
end Go.Proofs.YtjmplnfiabmalaaGreat
namespace Go.Proofs.YtjmplnfiabmalaaGreat
open Go.Sim
set_option maxRecDepth 100000
set_option maxHeartbeats 4000000
structure TCur where
 b:List UInt8
 i:Nat
 h:Int
def TCur.ok (c:TCur):Prop:=c.i≤c.b.length∧c.b.length≤1048576
abbrev curH (c:TCur):List (Sim.Id×AO):=[((0,0,0),.box [.t (.lst 1 (c.b.map byteRow)),.t (.int .i64 c.i),.t (.int .i64 c.h)])]
abbrev curP:AV:= .r (.c (.ptr (0,0,0) 0))
theorem low8 (z:Int):∃x:Nat,x < 256∧IntKind.i64.wrap ((BitVec.ofInt IntKind.i64.bits z &&& BitVec.ofInt IntKind.i64.bits 255).toNat:Int)=(x:Int):=by
 have e:(BitVec.ofInt 64 255).toNat=2 ^ 8 - 1:=by decide
 have h:(BitVec.ofInt IntKind.i64.bits z &&& BitVec.ofInt IntKind.i64.bits 255).toNat < 256:=by
  show(BitVec.ofInt 64 z &&& BitVec.ofInt 64 255).toNat < 256
  rw[BitVec.toNat_and,e,Nat.and_two_pow_sub_one_eq_mod]
  omega
 generalize(BitVec.ofInt IntKind.i64.bits z &&& BitVec.ofInt IntKind.i64.bits 255).toNat=n at *
 exact⟨n,h,IntWalk.i64_in _ (by omega)⟩
def nextH (h:Int):Int:=IntKind.i64.wrap (IntKind.i64.wrap (h * 6364136223846793005)+1442695040888963407)
theorem g_spec_l01Byte (c:TCur)(hc:c.ok):∃(x:Nat) (c':TCur),x < 256∧c'.b=c.b∧c'.ok∧SpecG Tryz.prog 203 [curP] (curH c) (tI .i64 x) (curH c'):=by
 obtain⟨hi,hl⟩:=hc
 have hbl:(c.b.map byteRow).length=c.b.length:=by simp
 obtain⟨x0,hx0,he0⟩:=low8 (IntKind.i64.wrap ((BitVec.ofInt IntKind.i64.bits ((nextH c.h).fdiv (2 ^ min (Int.toNat 33) IntKind.i64.bits)) ^^^ BitVec.ofInt IntKind.i64.bits ((nextH c.h).fdiv (2 ^ min (Int.toNat 45) IntKind.i64.bits))).toNat:Int))
 unfold nextH at he0
 by_cases hlt:c.i < c.b.length
 ·obtain⟨u,hu⟩:=get_of_lt hlt
  obtain⟨x,hx,he⟩:=low8 (IntKind.i64.wrap ((x0:Int)+IntKind.i64.wrap (u.toNat:Int)))
  rw[←he0]at he
  refine⟨x,⟨c.b,c.i+1,nextH c.h⟩,hx,rfl,⟨by dsimp only;omega,hl⟩,?_⟩
  refine specG_of_Wo hΓ hmix Tryz.func203 rfl (by decide) rfl rfl ?_
  repeat' ((conv=>whnf);first|(with_reducible first|apply Wx|apply W6)|apply oi|(apply fi<;>intro h)|refine⟨c.i,(byteRow u),rfl,map_get hu,?_⟩|refine⟨_,rfl,?_⟩|((with_reducible show _=_);rfl))
  all_goals try((with_reducible refine Obl.mk ?_);exact KP)
  all_goals try exact KX
  all_goals try exact⟨congrArg (Tr.int _) he⟩
  all_goals try exact⟨K5⟩
  all_goals exact⟨rfl⟩
 ·refine⟨x0,⟨c.b,c.i,nextH c.h⟩,hx0,rfl,⟨hi,hl⟩,?_⟩
  refine specG_of_Wo hΓ hmix Tryz.func203 rfl (by decide) rfl rfl ?_
  repeat' ((conv=>whnf);first|(with_reducible first|apply Wx|apply W6)|apply oi|(apply fi<;>intro h)|refine⟨_,rfl,?_⟩|((with_reducible show _=_);rfl))
  all_goals try((with_reducible refine Obl.mk ?_);exact KP)
  all_goals try exact KX
  all_goals try exact⟨congrArg (Tr.int _) he0⟩
  all_goals exact⟨rfl⟩
theorem tmod_below {x:Nat}{n:Int}(h:0 < n):∃y:Nat,(y:Int) < n∧(x:Int).tmod n=(y:Int):=by
 have h1:=Int.tmod_nonneg n (Int.natCast_nonneg x)
 have h2:=Int.tmod_lt_of_pos (x:Int) h
 obtain⟨y,hy⟩:=Int.eq_ofNat_of_zero_le h1
 exact⟨y,by omega,hy⟩
theorem g_spec_l01Below (c:TCur)(n:Int)(hc:c.ok):∃(x:Nat) (c':TCur),(0 < n→(x:Int) < n)∧(n≤0→x=0)∧c'.b=c.b∧c'.ok∧SpecG Tryz.prog 146 [curP,tI .i64 n] (curH c) (tI .i64 x) (curH c'):=by
 by_cases h0:n≤0
 ·refine⟨0,c,by omega,fun _=>rfl,rfl,hc,?_⟩
  refine specG_of_Wo hΓ hmix Tryz.func146 rfl (by decide) rfl rfl ?_
  repeat' ((conv=>whnf);first|(with_reducible first|apply Wx|apply W6)|apply oi|(apply fi<;>intro h)|refine⟨_,rfl,?_⟩|((with_reducible show _=_);rfl))
  all_goals try((with_reducible refine Obl.mk ?_);exact KP)
  all_goals try exact KX
 ·obtain⟨x1,c1,k1,b1,o1,g1⟩:=g_spec_l01Byte c hc
  by_cases h2:n≤256
  ·obtain⟨y,hy,hm⟩:=tmod_below (x:=x1) (n:=n) (by omega)
   refine⟨y,c1,fun _=>hy,by omega,b1,o1,?_⟩
   refine specG_of_Wo hΓ hmix Tryz.func146 rfl (by decide) rfl rfl ?_
   repeat' ((conv=>whnf);first|(with_reducible first|apply Wx|apply W6)|refine cg g1 ?_|apply oi|(apply fi<;>intro h)|refine⟨_,rfl,?_⟩|((with_reducible show _=_);rfl))
   all_goals try((with_reducible refine Obl.mk ?_);exact KP)
   all_goals try exact KX
   all_goals try exact⟨by omega⟩
   all_goals exact⟨congrArg (Tr.int _) hm⟩
  ·obtain⟨x2,c2,k2,b2,o2,g2⟩:=g_spec_l01Byte c1 o1
   obtain⟨x3,c3,k3,b3,o3,g3⟩:=g_spec_l01Byte c2 o2
   obtain⟨x4,c4,k4,b4,o4,g4⟩:=g_spec_l01Byte c3 o3
   obtain⟨y,hy,hm⟩:=tmod_below (x:=x1 * 16777216+x2 * 65536+x3 * 256+x4) (n:=n) (by omega)
   refine⟨y,c4,fun _=>hy,by omega,((b4.trans b3).trans b2).trans b1,o4,?_⟩
   refine specG_of_Wo hΓ hmix Tryz.func146 rfl (by decide) rfl rfl ?_
   repeat' ((conv=>whnf);first|(with_reducible first|apply Wx|apply W6)|apply oi|(apply fi<;>intro h)|refine⟨_,rfl,?_⟩|((with_reducible show _=_);rfl))
   all_goals try((with_reducible refine Obl.mk ?_);exact KP)
   all_goals try exact KX
   refine cg (g1) ?_
   repeat' ((conv=>whnf);first|(with_reducible first|apply Wx|apply W6)|apply oi|(apply fi<;>intro h)|refine⟨_,rfl,?_⟩|((with_reducible show _=_);rfl))
   all_goals try((with_reducible refine Obl.mk ?_);exact KP)
   refine cg (g2) ?_
   repeat' ((conv=>whnf);first|(with_reducible first|apply Wx|apply W6)|apply oi|(apply fi<;>intro h)|refine⟨_,rfl,?_⟩|((with_reducible show _=_);rfl))
   all_goals try((with_reducible refine Obl.mk ?_);exact KP)
   refine cg (g3) ?_
   repeat' ((conv=>whnf);first|(with_reducible first|apply Wx|apply W6)|apply oi|(apply fi<;>intro h)|refine⟨_,rfl,?_⟩|((with_reducible show _=_);rfl))
   all_goals try((with_reducible refine Obl.mk ?_);exact KP)
   refine cg (g4) ?_
   repeat' ((conv=>whnf);first|(with_reducible first|apply Wx|apply W6)|apply oi|(apply fi<;>intro h)|refine⟨_,rfl,?_⟩|((with_reducible show _=_);rfl))
   all_goals try((with_reducible refine Obl.mk ?_);exact KP)
   all_goals try exact⟨by omega⟩
   all_goals(
    have hw:IntKind.i64.wrap (IntKind.i64.wrap (IntKind.i64.wrap (IntKind.i64.wrap ((x1:Int) * 16777216)+IntKind.i64.wrap ((x2:Int) * 65536))+IntKind.i64.wrap ((x3:Int) * 256))+(x4:Int))=((x1 * 16777216+x2 * 65536+x3 * 256+x4:Nat):Int):=by
     rw[IntWalk.i64_in ((x1:Int) * 16777216) (by omega),IntWalk.i64_in ((x2:Int) * 65536) (by omega),IntWalk.i64_in ((x3:Int) * 256) (by omega),IntWalk.i64_in ((x1:Int) * 16777216+(x2:Int) * 65536) (by omega),IntWalk.i64_in ((x1:Int) * 16777216+(x2:Int) * 65536+(x3:Int) * 256) (by omega),IntWalk.i64_in _ (by omega)]
     omega
    exact⟨by rw[hw,hm]⟩)
theorem g_spec_l01Once (c:TCur)(n:Int)(hc:c.ok):∃(x:Bool) (c':TCur),c'.b=c.b∧c'.ok∧SpecG Tryz.prog 148 [curP,tI .i64 n] (curH c) (tB x) (curH c'):=by
 obtain⟨x,c',_,_,b1,o1,g1⟩:=g_spec_l01Below c n hc
 refine⟨(x:Int)==0,c',b1,o1,?_⟩
 refine specG_of_Wo hΓ hmix Tryz.func148 rfl (by decide) rfl rfl ?_
 repeat' ((conv=>whnf);first|(with_reducible first|apply Wx|apply W6)|refine cg g1 ?_|apply oi|(apply fi<;>intro h)|refine⟨_,rfl,?_⟩|((with_reducible show _=_);rfl))
 all_goals try((with_reducible refine Obl.mk ?_);exact KP)
theorem g_spec_l01PickIntO (c:TCur)(ns:List Int)(hc:c.ok)(hp:0 < ns.length)(hl:ns.length≤1048576):∃(v:Int) (c':TCur),v∈ns∧c'.b=c.b∧c'.ok∧SpecG Tryz.prog 147 [curP,.r (.c (.own (0,0,1)))] (curH c++[((0,0,1),.arr false 1 (ns.map intRow))]) (tI .i64 v) (curH c'++[((0,0,1),.arr false 1 (ns.map intRow))]):=by
 have hlen:(ns.map intRow).length=ns.length:=by simp
 obtain⟨x,c',h1,_,b1,o1,g1⟩:=g_spec_l01Below c ((ns.map intRow).length:Int) hc
 rw[hlen]at h1
 obtain⟨v,hv⟩:=get_of_lt (l:=ns) (k:=x) (by omega)
 have hxl:x < (ns.map intRow).length:=by rw[hlen];omega
 refine⟨v,c',List.mem_of_getElem? hv,b1,o1,?_⟩
 refine specG_of_Wo hΓ hmix Tryz.func147 rfl (by decide) rfl rfl ?_
 repeat' ((conv=>whnf);first|(with_reducible first|apply Wx|apply W6)|refine cg g1 ?_|apply oi|(apply fi<;>intro h)|refine⟨x,rfl,hxl,?_⟩|refine⟨(intRow v),map_get hv,?_⟩|refine⟨_,rfl,?_⟩|((with_reducible show _=_);rfl))
 all_goals try((with_reducible refine Obl.mk ?_);exact KP)
end Go.Proofs.YtjmplnfiabmalaaGreat
namespace Go.Proofs.YtjmplnfiabmalaaGreat
open Go.Sim
set_option maxRecDepth 100000
set_option maxHeartbeats 4000000
def buildOk (b:TBuild):Bool:=within b.fFrames 0 63 && within b.fInline 0 3
theorem s_spec_BuildOk (b:TBuild):Sim.Spec Tryz.prog 73 [.agg b.tr] (rB (buildOk b)):=by
 refine spec_of_Wo hΓ hmix Tryz.func73 rfl (by decide) rfl ?_
 have h1:=s_spec_l01In b.fFrames 0 63
 have h2:=s_spec_l01In b.fInline 0 3
 unfold buildOk
 generalize within b.fFrames 0 63=w1 at *
 generalize within b.fInline 0 3=w2 at *
 repeat' ((conv=>whnf);first|(with_reducible first|apply Wx|apply W6)|apply oi|(apply fi<;>intro h)|refine cl h1 ?_|refine cl h2 ?_|refine⟨_,rfl,?_⟩|((with_reducible show _=_);rfl))
 all_goals try((with_reducible refine Obl.mk ?_);exact KP)
 all_goals(refine⟨congrArg Tr.bool ?_⟩;simp_all)
theorem g_spec_l08Build (c:TCur)(hc:c.ok):∃(b:TBuild) (c':TCur),buildOk b=true∧c'.b=c.b∧c'.ok∧SpecG Tryz.prog 71 [curP] (curH c) (.r (.agg (b.tr.map .t))) (curH c'):=by
 obtain⟨f,c1,k1,_,b1,o1,g1⟩:=g_spec_l01Below c 64 hc
 obtain⟨v,c2,hv,b2,o2,g2⟩:=g_spec_l01PickIntO c1 [0,1,2,3] o1 (by decide) (by decide)
 obtain⟨x,c3,b3,o3,g3⟩:=g_spec_l01Once c2 2 o2
 obtain⟨y,c4,b4,o4,g4⟩:=g_spec_l01Once c3 2 o3
 refine⟨⟨f,v,x,y⟩,c4,?_,((b4.trans b3).trans b2).trans b1,o4,?_⟩
 ·have:=k1 (by omega)
  simp only[List.mem_cons,List.not_mem_nil,or_false]at hv
  unfold buildOk
  rw[within_iff.2 ⟨by dsimp only;omega,by dsimp only;omega⟩,within_iff.2 ⟨by dsimp only;omega,by dsimp only;omega⟩]
  rfl
 ·refine specG_of_Wo hΓ hmix Tryz.func71 rfl (by decide) rfl rfl ?_
  repeat' ((conv=>whnf);first|(with_reducible first|apply Wx|apply W6)|apply oi|(apply fi<;>intro h)|refine⟨_,rfl,?_⟩|((with_reducible show _=_);rfl))
  all_goals try((with_reducible refine Obl.mk ?_);exact KP)
  refine cg (g1) ?_
  repeat' ((conv=>whnf);first|(with_reducible first|apply Wx|apply W6)|apply oi|(apply fi<;>intro h)|refine⟨_,rfl,?_⟩|((with_reducible show _=_);rfl))
  all_goals try((with_reducible refine Obl.mk ?_);exact KP)
  refine cg (g2) ?_
  repeat' ((conv=>whnf);first|(with_reducible first|apply Wx|apply W6)|apply oi|(apply fi<;>intro h)|refine⟨_,rfl,?_⟩|((with_reducible show _=_);rfl))
  all_goals try((with_reducible refine Obl.mk ?_);exact KP)
  refine cg (g3) ?_
  repeat' ((conv=>whnf);first|(with_reducible first|apply Wx|apply W6)|apply oi|(apply fi<;>intro h)|refine⟨_,rfl,?_⟩|((with_reducible show _=_);rfl))
  all_goals try((with_reducible refine Obl.mk ?_);exact KP)
  refine cg (g4) ?_
  repeat' ((conv=>whnf);first|(with_reducible first|apply Wx|apply W6)|apply oi|(apply fi<;>intro h)|refine⟨_,rfl,?_⟩|((with_reducible show _=_);rfl))
  all_goals try((with_reducible refine Obl.mk ?_);exact KP)
end Go.Proofs.YtjmplnfiabmalaaGreat
namespace Go.Proofs.YtjmplnfiabmalaaGreat
open Go.Sim
set_option maxRecDepth 100000
set_option maxHeartbeats 4000000
theorem lines_all {C:Cx}(hC:CxOk C):∀lev,RepC C lev∧LinesC C lev:=by
 have hL:∀lev,RepC C lev→LinesC C lev:=fun lev hR=>LinesC_of hC fun e x S lv k p ln s d h1 h2 h3 h4 h5 h6=>ExprC_of hC hR e.toks.length e (Nat.le_refl _) x S lv k p ln s d h1 h2 h3 h4 h5 h6
 intro lev
 induction lev with
 | zero=>
  have hR:RepC C 0:=by
   intro x S lv k g s d hx hk hg hrb hr
   obtain⟨r1,_⟩:=replB_spec hrb
   have:=hr.depth
   rw[show(insOf (S++[(x,lv)])).length=S.length+1 by simp]at r1
   omega
  exact⟨hR,hL 0 hR⟩
 | succ n ih=>
  have hR:=RepC_of hC ih.2
  exact⟨hR,hL _ hR⟩
def framedB (frames f:Int):Bool:=IntKind.i64.wrap (BitVec.ofInt IntKind.i64.bits (frames.fdiv (2 ^ min f.toNat IntKind.i64.bits)) &&& BitVec.ofInt IntKind.i64.bits 1).toNat==1
theorem s_spec_l08Compile (C:Cx)(hC:CxOk C)(f g:Nat)(hf:(funs C.p)[f]?=some g)(e3:C.framed=framedB C.b.fFrames f)(e5:C.args=argsN C.p g):
  Sim.Spec Tryz.prog 150 [tvP C.p,tvI (f:Int),.agg C.b.tr,tvI C.words] (.tup [.c (.arr 7 ((compG C g).items.map TItem.tr)),.c (.t (.int .i64 (compG C g).most))]):=by
 refine spec_of_Wo hΓ hmix Tryz.func150 rfl (by decide) rfl ?_
 obtain⟨hgl,y,hy,hy0⟩:=funs_lt (List.mem_of_getElem? hf)
 have h60:=hC.len
 have hw:=hC.words
 have hin:=hC.inl
 have gF:=s_spec_FunctionLines C.p (by omega)
 have gL:=s_spec_LocalsOf C.p (g:Int) (by omega) (fun z hz=>smallRs_map hC.small hz)
 have hA:argsN C.p g=y.fArgs.length:=by rw[argsN,hy]
 have h4:=(hC.line g y hy).2.2.1
 have hfl:f < (funs C.p).length:=lt_of_get hf
 have hfr:f < ((funs C.p).map fun n:Nat=>intRow n).length:=by rw[List.length_map];exact hfl
 have hfg:((funs C.p).map fun n:Nat=>intRow n)[f]?=some (intRow (g:Int)):=by rw[List.getElem?_map,hf];rfl
 have hloc:=isFun_locals hC ⟨y,hy,hy0⟩
 have hyl:(y.fArgs.map strRow).length=y.fArgs.length:=by simp
 have hll:((localsOf C.p (g:Int)).map strRow).length=(localsOf C.p (g:Int)).length:=by simp
 have hS:ScOk C (outerSc C g) [g]:=⟨⟨y,hy,hy0⟩,rfl,⟨Int.le_refl _,by simp[outerSc]⟩,rfl,by simp[outerSc],fun _=>e5,rfl⟩
 obtain⟨e,he1,he2,he3,he4,_⟩:=hS.endE hC
 obtain⟨O,hO⟩:∃O,outerSc C g=O:=⟨_,rfl⟩
 have hOr:scRow O []=[.d (.int .i64 (g:Int)),.t (.lst 1 []),.t (.lst 1 ((localsOf C.p (g:Int)).map strRow)),.d (.int .i64 0),.d (.bool true),.d (.lst 0 [])]:=by rw[←hO,outerSc];rfl
 have hOl:(scH [(O,[])])[0]?=some [.d (.int .i64 (g:Int)),.t (.lst 1 []),.t (.lst 1 ((localsOf C.p (g:Int)).map strRow)),.d (.int .i64 0),.d (.bool true),.d (.lst 0 [])]:=by rw[←hOr];rfl
 have g1:=fun code=>g_spec_emit C ⟨[],(localsOf C.p (g:Int)).length - C.args,false⟩ 0 (scH [(O,[])]) code C.words g [] (by unfold roomy;simp) (by simp)
 have hlev:((C.b.fInline.toNat:Nat):Int)=C.b.fInline:=Int.toNat_of_nonneg hin.1
 have h3:=tokC_3 (n:=C.b.fInline.toNat) (by omega)
 have gLs:=(lines_all hC C.b.fInline.toNat).2 O [] (headG C g) C.words (by rw[←hO];exact hS) (by
  rw[←hO,he4]
  have:=Nat.mul_le_mul (show e - (outerSc C g).f≤60 by omega) (show 20 * tokC C.b.fInline.toNat+3≤20 * 8679837+3 by omega)
  simp only[headG,emitG,List.length_append,List.length_nil,List.length_cons]
  omega) (by simpa using hlev) hw.1 (by omega)
 have hcg:linesG C (repN C C.b.fInline.toNat) O (insOf ([]++[(O,[])])) C.words (headG C g)=linesG C (repN C C.b.fInline.toNat) (outerSc C g) [g] C.words (headG C g):=by rw[←hO];rfl
 rw[hcg,List.nil_append,List.nil_append]at gLs
 repeat' ((conv=>whnf);first|(with_reducible apply W1;fail_if_success (with_reducible show Wo _ _ _ _ (Code.region 4 _ _) _ _))|(with_reducible first|apply W2|apply W3|apply W4|apply W5|apply W6|apply W7|apply W8|apply W9)|apply reg_inl|apply oi|(apply fi<;>intro h)|refine cl gF ?_|refine⟨f,rfl,hfr,?_⟩|refine⟨_,hfg,?_⟩|refine⟨g,y.tr,rfl,map_get hy,?_⟩|refine cl gL ?_|refine⟨_,rfl,?_⟩|((with_reducible show _=_);rfl))
 all_goals try((with_reducible refine Obl.mk ?_);exact KP)
 all_goals try exact⟨by omega⟩
 all_goals try exact⟨flat_strs _⟩
 conv=>whnf
 refine give_rule (40,0,0) (rows':=[scRow O []]) rfl ?_ ?_
 ·rw[hOr]
  refine⟨⟨rfl,fun q c d hc hd=>?_⟩,trivial⟩
  match q with
  | 0=>simp at hc hd;subst hc;subst hd;exact .inl rfl
  | 1=>simp at hc hd;subst hc;subst hd;exact .inr (.inr ⟨0,1,rfl,rfl⟩)
  | 2=>simp at hc hd;subst hc;subst hd;exact .inr (.inl rfl)
  | 3=>simp at hc hd;subst hc;subst hd;exact .inl rfl
  | 4=>simp at hc hd;subst hc;subst hd;exact .inl rfl
  | 5=>simp at hc hd;subst hc;subst hd;exact .inl rfl
  | q+6=>simp at hc
 refine leq_rule ⟨[(0,vP C.p),(3,tI .i64 C.words),(10,tI .i64 (g:Int)),(11,.r (.c (.ptr (33,0,0) 0)))],[((33,0,0),some (mkrB C ⟨[],0,false⟩ 0 (33,0,1) (33,0,2))),((33,0,1),some (.dar 7 (itR []) none)),((33,0,2),some (.dar 6 (scH [(O,[])]) none))],[40,38,33,13,6]⟩ ?_ ?_
 ·skip
  repeat' ((conv=>whnf);first|(with_reducible first|apply Wx|apply W6)|apply oi|(apply fi<;>intro h)|refine⟨_,rfl,?_⟩|((with_reducible show _=_);rfl))
  all_goals try((with_reducible refine Obl.mk ?_);exact KP)
  all_goals try exact⟨by rw[e3];rfl⟩
  all_goals try exact⟨by rw[e5,hA,hyl]⟩
 have hwm:IntKind.i64.wrap ((((localsOf C.p (g:Int)).map strRow).length:Int) - C.args)=((localsOf C.p (g:Int)).length:Int) - C.args:=by rw[hll,IntWalk.i64_in _ (by omega)]
 cases hfm:C.framed with
 | true=>
  have hh:headG C g=emitG C ⟨[],(localsOf C.p (g:Int)).length - C.args,false⟩ 0 13 C.words g []:=by rw[headG,if_pos hfm]
  rw[hh]at gLs
  have g2:=g1 13
  have hcr:compG C g=(linesG C (repN C C.b.fInline.toNat) (outerSc C g) [g] C.words (emitG C ⟨[],(localsOf C.p (g:Int)).length - C.args,false⟩ 0 13 C.words g [])).1:=by rw[compG,hh]
  rw[hcr]
  repeat' ((conv=>whnf);first|(with_reducible first|apply Wx|apply W6)|refine cg g2 ?_|refine cg gLs ?_|apply oi|(apply fi<;>intro h)|refine⟨0,rfl,(by simp),?_⟩|refine⟨_,hOl,?_⟩|refine⟨_,rfl,?_⟩|((with_reducible show _=_);rfl))
  all_goals try((with_reducible refine Obl.mk ?_);exact KP)
  all_goals try(exfalso;rw[hfm]at h;cases h;done)
  all_goals first|exact⟨⟨_,rfl⟩⟩|exact⟨congrArg (Tr.int .i64) hwm.symm⟩
 | false=>
  have hh:headG C g=emitG C ⟨[],(localsOf C.p (g:Int)).length - C.args,false⟩ 0 15 C.words g []:=by rw[headG,if_neg (by simp[hfm])]
  rw[hh]at gLs
  have g2:=g1 15
  have hcr:compG C g=(linesG C (repN C C.b.fInline.toNat) (outerSc C g) [g] C.words (emitG C ⟨[],(localsOf C.p (g:Int)).length - C.args,false⟩ 0 15 C.words g [])).1:=by rw[compG,hh]
  rw[hcr]
  repeat' ((conv=>whnf);first|(with_reducible first|apply Wx|apply W6)|refine cg g2 ?_|refine cg gLs ?_|apply oi|(apply fi<;>intro h)|refine⟨0,rfl,(by simp),?_⟩|refine⟨_,hOl,?_⟩|refine⟨_,rfl,?_⟩|((with_reducible show _=_);rfl))
  all_goals try((with_reducible refine Obl.mk ?_);exact KP)
  all_goals try(exfalso;rw[hfm]at h;cases h;done)
  all_goals first|exact⟨⟨_,rfl⟩⟩|exact⟨congrArg (Tr.int .i64) hwm.symm⟩
theorem compG_most {C:Cx}(hC:CxOk C){g:Nat}(hg:isFun C g)(e5:C.args=argsN C.p g):0≤(compG C g).most∧(compG C g).most≤1000:=by
 have hS:ScOk C (outerSc C g) [g]:=⟨hg,rfl,⟨Int.le_refl _,by simp[outerSc]⟩,rfl,by simp[outerSc],fun _=>e5,rfl⟩
 have hG:=linesG_grow (lev:=C.b.fInline.toNat) (rep:=repN C C.b.fInline.toNat) (fun line g d s hg hr=>repN_grow hC _ line g d s hS hg hr) hC hS C.words (headG C g)
 obtain⟨l1,l2⟩:=isFun_locals hC hg
 have hm:(headG C g).most=(localsOf C.p (g:Int)).length - C.args:=rfl
 have h1:=hG.most
 have h2:=hG.cap (by rw[hm];omega)
 rw[hm]at h1
 exact⟨Int.le_trans (by omega) h1,h2⟩
def ctx (p:List TLine)(f g:Nat)(b:TBuild)(words:Int):Cx:=⟨p,b,framedB b.fFrames f,words,argsN p g⟩
noncomputable def foldIf (p:List TLine) (b:TBuild):List TLine:=if b.fFold=true then p.map foldLine else p
noncomputable def compiled (p:List TLine) (f:Nat) (b:TBuild):List TItem:=match(funs (foldIf p b))[f]? with
 | some g=>(compG (ctx (foldIf p b) f g b (compG (ctx (foldIf p b) f g b 0) g).most) g).items
 | none=>[]
noncomputable def compileF (p:List TLine) (f:Int) (b:TBuild):List TItem:=
 if programOk p=true∧buildOk b=true∧0≤f∧f < (funs p).length then compiled p f.toNat b else []
theorem alike.funsF:∀{p q:List TLine},alike p q→∀i:Nat,funsF p i=funsF q i
 | [],[],_,_=>rfl
 | x::p,y::q,h,i=>by
  simp only[alike,List.map_cons,List.cons.injEq,Prod.mk.injEq]at h
  have ih:=alike.funsF (p:=p) (q:=q) h.2
  rw[Go.Proofs.YtjmplnfiabmalaaGreat.funsF,Go.Proofs.YtjmplnfiabmalaaGreat.funsF,h.1.1,ih]
 | [],_::_,h,_=>by simp[alike]at h
 | _::_,[],h,_=>by simp[alike]at h
theorem foldIf_funs (p:List TLine)(b:TBuild):funs (foldIf p b)=funs p:=by
 unfold foldIf
 split
 ·exact(foldLine_alike p).funsF 0
 ·rfl
theorem PgOk.foldIf {p:List TLine}(h:PgOk p)(b:TBuild):PgOk (foldIf p b):=by
 unfold Go.Proofs.YtjmplnfiabmalaaGreat.foldIf
 split
 ·exact h.fold
 ·exact h
theorem s_spec_CompileFunction (p:List TLine)(f:Int)(b:TBuild)(hs:smallT 1048576 (.lst 4 (p.map TLine.tr))):Sim.Spec Tryz.prog 76 [tvP p,tvI f,.agg b.tr] (rL 7 ((compileF p f b).map TItem.tr)):=by
 refine spec_of_Wo hΓ hmix Tryz.func76 rfl (by decide) rfl ?_
 have hP:=s_spec_ProgramOk p hs
 have hB:=s_spec_BuildOk b
 have hl:=small_nat hs
 have gF:=s_spec_FunctionLines p (by omega)
 have hfl:((funs p).map fun n:Nat=>intRow n).length=(funs p).length:=by simp
 by_cases hc:programOk p=true∧buildOk b=true∧0≤f∧f < (funs p).length
 ·have hcf:compileF p f b=compiled p f.toNat b:=by rw[compileF,if_pos hc]
  rw[hcf]
  obtain⟨h1,h2,h3,h4⟩:=hc
  obtain⟨f,rfl⟩:=Int.eq_ofNat_of_zero_le h3
  rw[Int.toNat_natCast]
  rw[h1]at hP
  rw[h2]at hB
  have hb:0≤b.fInline∧b.fInline≤3:=by
   unfold buildOk at h2
   simp only[Bool.and_eq_true,within_iff]at h2
   exact h2.2
  obtain⟨g,hg⟩:=get_of_lt (l:=funs p) (k:=f) (by omega)
  have hpg:=(PgOk_of hs h1).foldIf b
  have hg':(funs (foldIf p b))[f]?=some g:=by rw[foldIf_funs];exact hg
  obtain⟨hgl,y,hy,hy0⟩:=funs_lt (List.mem_of_getElem? hg')
  have h4':=(hpg.line g y hy).2.2.1
  have ha:(0:Int)≤(argsN (foldIf p b) g:Int)∧(argsN (foldIf p b) g:Int)≤4:=by rw[argsN,hy];dsimp only;omega
  have hC0:CxOk (ctx (foldIf p b) f g b 0):=hpg.cx ha (by omega) hb
  have hm:=compG_most hC0 ⟨y,hy,hy0⟩ rfl
  have hC1:CxOk (ctx (foldIf p b) f g b (compG (ctx (foldIf p b) f g b 0) g).most):=hpg.cx ha hm hb
  have g0:=s_spec_l08Compile _ hC0 f g hg' rfl rfl
  have g1:=s_spec_l08Compile _ hC1 f g hg' rfl rfl
  have hcd:compiled p f b=(compG (ctx (foldIf p b) f g b (compG (ctx (foldIf p b) f g b 0) g).most) g).items:=by rw[compiled,hg']
  rw[hcd]
  generalize compG (ctx (foldIf p b) f g b 0) g=R0 at *
  generalize compG (ctx (foldIf p b) f g b R0.most) g=R1 at *
  have hfo:=s_spec_FoldProgram p hs
  rw[show foldProg p=p.map foldLine by rw[foldProg,if_pos h1]]at hfo
  obtain⟨fr,inl,fold,sp⟩:=b
  cases fold with
  | true=>
   have e:foldIf p ⟨fr,inl,true,sp⟩=p.map foldLine:=rfl
   simp only[ctx,e]at g0 g1
   repeat' ((conv=>whnf);first|(with_reducible first|apply Wx|apply W6)|apply oi|(apply fi<;>intro h)|refine cl hP ?_|refine cl hB ?_|refine cl gF ?_|refine cl hfo ?_|refine cl g0 ?_|refine cl g1 ?_|refine⟨_,rfl,?_⟩|((with_reducible show _=_);rfl))
   all_goals try((with_reducible refine Obl.mk ?_);exact KP)
   all_goals try exact KX
  | false=>
   have e:foldIf p ⟨fr,inl,false,sp⟩=p:=rfl
   simp only[ctx,e]at g0 g1
   repeat' ((conv=>whnf);first|(with_reducible first|apply Wx|apply W6)|apply oi|(apply fi<;>intro h)|refine cl hP ?_|refine cl hB ?_|refine cl gF ?_|refine cl hfo ?_|refine cl g0 ?_|refine cl g1 ?_|refine⟨_,rfl,?_⟩|((with_reducible show _=_);rfl))
   all_goals try((with_reducible refine Obl.mk ?_);exact KP)
   all_goals try exact KX
 ·have hcf:compileF p f b=[]:=by rw[compileF,if_neg hc]
  rw[hcf]
  cases h1:programOk p with
  | false=>
   rw[h1]at hP
   repeat' ((conv=>whnf);first|(with_reducible first|apply Wx|apply W6)|apply oi|(apply fi<;>intro h)|refine cl hP ?_|refine cl hB ?_|refine cl gF ?_|refine⟨_,rfl,?_⟩|((with_reducible show _=_);rfl))
   all_goals try((with_reducible refine Obl.mk ?_);exact KP)
   all_goals try exact KX
  | true=>
   rw[h1]at hP
   cases h2:buildOk b with
   | false=>
    rw[h2]at hB
    repeat' ((conv=>whnf);first|(with_reducible first|apply Wx|apply W6)|apply oi|(apply fi<;>intro h)|refine cl hP ?_|refine cl hB ?_|refine cl gF ?_|refine⟨_,rfl,?_⟩|((with_reducible show _=_);rfl))
    all_goals try((with_reducible refine Obl.mk ?_);exact KP)
    all_goals try exact KX
   | true=>
    rw[h2]at hB
    have hc':¬(0≤f∧f < (funs p).length):=fun hh=>hc ⟨h1,h2,hh⟩
    repeat' ((conv=>whnf);first|(with_reducible first|apply Wx|apply W6)|apply oi|(apply fi<;>intro h)|refine cl hP ?_|refine cl hB ?_|refine cl gF ?_|refine⟨_,rfl,?_⟩|((with_reducible show _=_);rfl))
    all_goals try((with_reducible refine Obl.mk ?_);exact KP)
    all_goals try exact KX
end Go.Proofs.YtjmplnfiabmalaaGreat
namespace Go.Proofs.YtjmplnfiabmalaaGreat
open Go.Sim
set_option maxRecDepth 100000
set_option maxHeartbeats 4000000
def chOk (l:List TItem):Prop:=∀it∈l,it.fChain.length≤4
structure Cap (M t:Nat) (s s':Gs):Prop where
 le:s'.items.length≤max s.items.length M+t
 ch:chOk s.items→chOk s'.items
theorem Cap.refl {M:Nat}(s:Gs):Cap M 0 s s:=⟨by omega,id⟩
theorem Cap.trans {M n m:Nat}{a b c:Gs}(h:Cap M n a b)(h':Cap M m b c):Cap M (n+m) a c:=⟨by have:=h.le;have:=h'.le;omega,fun x=>h'.ch (h.ch x)⟩
theorem Cap.mono {M n m:Nat}{a b:Gs}(h:Cap M n a b)(hn:n≤m):Cap M m a b:=⟨by have:=h.le;omega,h.ch⟩
theorem emitG_cap {M:Nat}(C:Cx)(s:Gs)(d code arg line:Int){chain:List Int}(hc:chain.length≤4):Cap M 1 s (emitG C s d code arg line chain):=by
 refine⟨by simp only[emitG,List.length_append,List.length_cons,List.length_nil];omega,fun h it hit=>?_⟩
 simp only[emitG,List.mem_append,List.mem_cons,List.not_mem_nil,or_false]at hit
 rcases hit with hit|rfl
 ·exact h it hit
 ·exact hc
theorem setArg_ch {l:List TItem}(h:chOk l)(j v:Int):chOk (setArg l j v):=by
 unfold setArg
 split
 ·split
  ·rename_i it hi
   intro z hz
   rcases List.mem_or_eq_of_mem_set hz with hz|rfl
   ·exact h z hz
   ·exact h it (List.mem_of_getElem? hi)
  ·exact h
 ·exact h
theorem patchL_ch (v:Int):∀(js:List Int) {l:List TItem},chOk l→chOk (patchL l v js)
 | [],_,h=>h
 | j::js,_,h=>by rw[patchL];exact patchL_ch v js (setArg_ch h j v)
theorem Cap.set {M n:Nat}{a b:Gs}{l:List TItem}(h:Cap M n a b)(hl:l.length=b.items.length)(hc:chOk b.items→chOk l):Cap M n a ⟨l,b.most,b.start⟩:=⟨by have:=h.le;simp only[hl];omega,fun x=>hc (h.ch x)⟩
section
variable {C:Cx} {x:Sc} {ins:List Nat} {rep:Sc→List Nat→Nat→Nat→Int→Gs→Gs} {line:Nat} {M:Nat}
theorem storesG_cap (y:Sc){chain:List Int}(hc:chain.length≤4)(line:Int):∀(n:Nat) (d:Int) (s:Gs),Cap M n s (storesG C y chain line n d s)
 | 0,d,s=>Cap.refl s
 | n+1,d,s=>by
  rw[storesG]
  exact((emitG_cap C s d _ _ _ hc).trans (storesG_cap y hc line n (d - 1) _)).mono (by omega)
theorem zerosG_cap (y:Sc){chain:List Int}(hc:chain.length≤4)(line d:Int):∀(n i:Nat) (s:Gs),Cap M (2 * n) s (zerosG C y chain line d n i s)
 | 0,i,s=>Cap.refl s
 | n+1,i,s=>by
  rw[zerosG]
  exact(((emitG_cap C s d _ _ _ hc).trans (emitG_cap C _ (d+1) _ _ _ hc)).trans (zerosG_cap y hc line d n (i+1) _)).mono (by omega)
theorem finG_cap (hx:x.chain.length≤4)(hrep:∀g d s,isFun C g→replB C ins g s.items.length=true→Cap M 0 s (rep x ins line g d s))(t:TTok)(d:Int)(s:Gs):Cap M 1 s (finG C rep x ins line t d s):=by
 unfold finG
 split
 ·exact emitG_cap _ _ _ _ _ _ hx
 ·split
  ·exact emitG_cap _ _ _ _ _ _ hx
  ·split
   ·split
    ·rename_i g hg
     split
     ·rename_i hr
      obtain⟨_,ln,h1,h2,_⟩:=find_some hg
      exact(hrep g d s ⟨ln,h1,h2⟩ hr).mono (by omega)
     ·exact emitG_cap _ _ _ _ _ _ hx
    ·exact(Cap.refl s).mono (by omega)
   ·exact emitG_cap _ _ _ _ _ _ hx
mutual
theorem genE_cap (hx:x.chain.length≤4)(hrep:∀g d s,isFun C g→replB C ins g s.items.length=true→Cap M 0 s (rep x ins line g d s)):∀(e:Ex) (d:Int) (s:Gs),Cap M e.toks.length s (genE C rep x ins line e d s)
 | .node t es,d,s=>by
  rw[genE,Ex.toks,List.length_cons]
  exact((genEs_cap hx hrep es d s).trans (finG_cap hx hrep t _ _)).mono (by omega)
theorem genEs_cap (hx:x.chain.length≤4)(hrep:∀g d s,isFun C g→replB C ins g s.items.length=true→Cap M 0 s (rep x ins line g d s)):∀(es:List Ex) (d:Int) (s:Gs),Cap M (exToks es).length s (genEs C rep x ins line es d s)
 | [],d,s=>by rw[genEs,exToks];exact(Cap.refl s).mono (by omega)
 | a::es,d,s=>by
  rw[genEs,exToks,List.length_append]
  exact(genE_cap hx hrep a d s).trans (genEs_cap hx hrep es (d+1) _)
end
theorem preG_cap (hC:CxOk C)(hx:x.chain.length≤4)(line:Nat){g:Nat}(hg:isFun C g)(d:Int)(s:Gs):Cap M 16 s (preG C x line g d s):=by
 obtain⟨h1,h2⟩:=isFun_locals hC hg
 have h0:Cap M 0 s ⟨s.items,max s.most (topOf C x+(localsOf C.p (g:Int)).length),s.start⟩:=⟨by dsimp only;omega,id⟩
 unfold preG
 exact((h0.trans (storesG_cap _ hx _ _ _ _)).trans (zerosG_cap _ hx _ _ _ _ _)).mono (by omega)
theorem spaceG_cap (hx:x.chain.length≤4)(line:Nat)(d:Int)(s:Gs):Cap M 1 s (spaceG C x line d s):=by
 unfold spaceG
 split
 ·exact emitG_cap _ _ _ _ _ _ hx
 ·exact(Cap.refl s).mono (by omega)
theorem leaveG_cap (hx:x.chain.length≤4)(k:Nat)(last:Bool)(d:Int)(L:Ls):Cap M 1 L.g (leaveG C x k last d L).g:=by
 unfold leaveG
 split
 ·split
  ·exact emitG_cap _ _ _ _ _ _ hx
  ·exact emitG_cap _ _ _ _ _ _ hx
 ·split
  ·exact(Cap.refl _).mono (by omega)
  ·exact emitG_cap _ _ _ _ _ _ hx
theorem genE_cap' (hx:x.chain.length≤4)(hrep:∀g d s,isFun C g→replB C ins g s.items.length=true→Cap M 0 s (rep x ins line g d s))(hC:CxOk C){k:Nat}{ln:TLine}(hk:C.p[k]?=some ln)(he:exprOk ln.fExpr=true)(d:Int)(s:Gs):Cap M 20 s (genE C rep x ins line (exL ln.fExpr) d s):=by
 have h1:=(exL_ok he).2
 have h2:=(hC.line _ _ hk).2.2.2.1
 rw[h1]at h2
 exact(genE_cap hx hrep _ d s).mono h2
theorem stepA_cap (hx:x.chain.length≤4)(hrep:∀line g d s,isFun C g→replB C ins g s.items.length=true→Cap M 0 s (rep x ins line g d s))(hC:CxOk C){k:Nat}{ln:TLine}(hk:C.p[k]?=some ln)(h0:ln.fKind≠0)(base:Int)(L:Ls):Cap M 22 L.g (stepA C rep x ins base k ln L).g:=by
 unfold stepA
 split
 ·exact((emitG_cap C L.g base 10 0 k hx).set (setArg_len' _ _ _) fun h=>setArg_ch h _ _).mono (by omega)
 ·split
  ·split
   ·refine Cap.mono (n:=1+1) ?_ (by omega)
    exact(emitG_cap C L.g base 0 0 k hx).trans (leaveG_cap hx k true (base+1) {L with g:=emitG C L.g base 0 0 k x.chain})
   ·split
    ·exact(emitG_cap _ _ _ _ _ _ hx).mono (by omega)
    ·exact(Cap.refl _).mono (by omega)
  ·rename_i h4 h7
   have hl:=hC.line _ _ hk
   have h20:Cap M 20 L.g (genE C rep x ins k (exL ln.fExpr) base ⟨L.g.items,L.g.most,true⟩):=by
    have:=genE_cap' hx (fun g d s=>hrep k g d s) hC hk (hl.2.2.2.2 (by omega)) base ⟨L.g.items,L.g.most,true⟩
    exact⟨this.le,this.ch⟩
   split
   ·exact(h20.trans (emitG_cap _ _ _ _ _ _ hx)).mono (by omega)
   ·split
    ·exact(h20.trans (emitG_cap _ _ _ _ _ _ hx)).mono (by omega)
    ·split
     ·refine Cap.mono (n:=20+1) ?_ (by omega)
      exact h20.trans (leaveG_cap hx k false (base+1) {L with g:=genE C rep x ins k (exL ln.fExpr) base ⟨L.g.items,L.g.most,true⟩,heads:=L.heads.set k L.g.items.length})
     ·exact(h20.trans (emitG_cap _ _ _ _ _ _ hx)).mono (by omega)
theorem stepB_cap (k:Nat)(ln:TLine)(L:Ls):Cap M 0 L.g (stepB C x k ln L).g:=by
 unfold stepB
 split
 ·exact(Cap.refl _).set (setArg_len' _ _ _) fun h=>setArg_ch h _ _
 ·exact Cap.refl _
theorem runL_cap (hx:x.chain.length≤4)(hrep:∀line g d s,isFun C g→replB C ins g s.items.length=true→Cap M 0 s (rep x ins line g d s))(hC:CxOk C)(base:Int):∀(n k:Nat) (L:Ls),(∀i y,k≤i→i < k+n→C.p[i]?=some y→y.fKind≠0)→Cap M (n * 22) L.g (runL C rep x ins base n k L).g
 | 0,k,L,_=>(Cap.refl _).mono (by omega)
 | n+1,k,L,h=>by
  rw[runL]
  split
  ·rename_i ln hk
   exact(((stepA_cap hx hrep hC hk (h k ln (Nat.le_refl _) (by omega) hk) base L).trans (stepB_cap k ln _)).trans (runL_cap hx hrep hC base n (k+1) _ fun i y h1 h2 hy=>h i y (by omega) (by omega) hy)).mono (by omega)
  ·exact(Cap.refl _).mono (by omega)
theorem linesG_cap (hc:x.chain.length≤4)(hrep:∀line g d s,isFun C g→replB C ins g s.items.length=true→Cap M 0 s (rep x ins line g d s))(hC:CxOk C)(hx:ScOk C x ins)(base:Int)(s:Gs):Cap M ((endL' C.p x.f - x.f) * 22) s (linesG C rep x ins base s).1:=by
 unfold linesG
 obtain⟨ln,h1,h2⟩:=hx.fn
 obtain⟨e,h3,_,_,h4⟩:=hC.fn _ _ h1 h2
 obtain⟨e',g3,_,_,g5,_⟩:=hx.endE hC
 rw[h3]at g3
 injection g3 with g3
 subst g3
 rw[g5]
 refine runL_cap hc hrep hC base (e - x.f) (x.f+1) (startL C s) fun i y k1 k2 hy=>?_
 by_cases hie:i=e
 ·subst hie
  obtain⟨z,hz,h7⟩:=endAt_kind h3
  rw[hy]at hz
  injection hz with hz
  subst hz
  omega
 ·exact(h4 i y (by omega) (by omega) hy).1
end
theorem repN_cap {C:Cx}(hC:CxOk C):∀(lev:Nat) {x:Sc} {ins:List Nat} (line g:Nat) (d:Int) (s:Gs),ScOk C x ins→isFun C g→replB C ins g s.items.length=true→Cap (217+198 * lev) 0 s (repN C lev x ins line g d s)
 | 0,x,ins,line,g,d,s,hx,hg,hr=>(Cap.refl s).mono (by omega)
 | lev+1,x,ins,line,g,d,s,hx,hg,hr=>by
  obtain⟨r1,r2,r3,_⟩:=replB_spec hr
  have hin:=hC.inl
  have hch:=hx.chain
  have hy:=inSc_ok hC hx line hg
  have h1:=preG_cap (M:=217) (x:=x) hC (by omega) line hg d s
  have h2:=spaceG_cap (C:=C) (M:=217) (x:=x) (by omega) line (d - argsN C.p g) (preG C x line g d s)
  have hcy:=hy.chain
  rw[List.length_append,List.length_cons,List.length_nil]at hcy
  have h3:=linesG_cap (M:=217+198 * lev) (rep:=repN C lev) (by omega) (fun line g d s hg hr=>repN_cap hC lev line g d s hy hg hr) hC hy (d - argsN C.p g) (spaceG C x line (d - argsN C.p g) (preG C x line g d s))
  obtain⟨e,e1,e2,e3,e4,_⟩:=hy.endE hC
  have e5:endOf C.p (g:Int)=(e:Int):=by rw[endOf_at];exact endI_some e1
  have e6:endL' C.p (inSc C x line g).f - (inSc C x line g).f≤9:=by rw[e4];show e - g≤9;omega
  show Cap _ 0 s (replG C (linesG C (repN C lev)) x ins line g d s)
  unfold replG
  have l1:=preG_grow hC hx (by omega) line hg d s
  have l2:=spaceG_grow (C:=C) x line (d - argsN C.p g) (preG C x line g d s)
  refine⟨?_,fun h=>patchL_ch _ _ (h3.ch (h2.ch (h1.ch h)))⟩
  simp only[patchL_len]
  have k3:=h3.le
  have k1:=l1.le
  have k2:=l2.le
  omega
theorem compG_cap {C:Cx}(hC:CxOk C){g:Nat}(hg:isFun C g)(e5:C.args=argsN C.p g):(compG C g).items.length≤2500∧chOk (compG C g).items:=by
 have hS:ScOk C (outerSc C g) [g]:=⟨hg,rfl,⟨Int.le_refl _,by simp[outerSc]⟩,rfl,by simp[outerSc],fun _=>e5,rfl⟩
 have hG:=linesG_cap (M:=217+198 * C.b.fInline.toNat) (rep:=repN C C.b.fInline.toNat) (by simp[outerSc]) (fun line g d s hg hr=>repN_cap hC _ line g d s hS hg hr) hC hS C.words (headG C g)
 obtain⟨e,e1,e2,e3,e4,_⟩:=hS.endE hC
 have hl:=hC.len
 have hin:=hC.inl
 have hh:(headG C g).items.length=1:=by simp[headG,emitG]
 have hk:=hG.le
 refine⟨?_,hG.ch fun it hit=>?_⟩
 ·show(linesG C (repN C C.b.fInline.toNat) (outerSc C g) [g] C.words (headG C g)).1.items.length≤2500
  omega
 ·simp only[headG,emitG,List.nil_append,List.mem_cons,List.not_mem_nil,or_false]at hit
  subst hit
  exact Nat.zero_le _
theorem compiled_of {p:List TLine}{f:Int}{b:TBuild}(hs:smallT 1048576 (.lst 4 (p.map TLine.tr)))(h1:programOk p=true)(h2:buildOk b=true)(h3:0≤f)(h4:f < (funs p).length):∃(g:Nat) (C:Cx),(funs p)[f.toNat]?=some g∧CxOk C∧C.p=foldIf p b∧C.b=b∧C.args=argsN C.p g∧C.framed=framedB b.fFrames f∧isFun C g∧compileF p f b=(compG C g).items∧C.words=(compG (ctx (foldIf p b) f.toNat g b 0) g).most:=by
 obtain⟨f,rfl⟩:=Int.eq_ofNat_of_zero_le h3
 have hb:0≤b.fInline∧b.fInline≤3:=by
  unfold buildOk at h2
  simp only[Bool.and_eq_true,within_iff]at h2
  exact h2.2
 obtain⟨g,hg⟩:=get_of_lt (l:=funs p) (k:=f) (by omega)
 have hpg:=(PgOk_of hs h1).foldIf b
 have hg':(funs (foldIf p b))[f]?=some g:=by rw[foldIf_funs];exact hg
 obtain⟨hgl,y,hy,hy0⟩:=funs_lt (List.mem_of_getElem? hg')
 have h4':=(hpg.line g y hy).2.2.1
 have ha:(0:Int)≤(argsN (foldIf p b) g:Int)∧(argsN (foldIf p b) g:Int)≤4:=by rw[argsN,hy];dsimp only;omega
 have hC0:CxOk (ctx (foldIf p b) f g b 0):=hpg.cx ha (by omega) hb
 have hm:=compG_most hC0 ⟨y,hy,hy0⟩ rfl
 have hC1:CxOk (ctx (foldIf p b) f g b (compG (ctx (foldIf p b) f g b 0) g).most):=hpg.cx ha hm hb
 refine⟨g,_,by rw[Int.toNat_natCast];exact hg,hC1,rfl,rfl,rfl,rfl,⟨y,hy,hy0⟩,?_,by rw[Int.toNat_natCast];rfl⟩
 rw[compileF,if_pos ⟨h1,h2,h3,h4⟩,Int.toNat_natCast,compiled,hg']
theorem compileF_cap {p:List TLine}{f:Int}{b:TBuild}(hs:smallT 1048576 (.lst 4 (p.map TLine.tr))):(compileF p f b).length≤2500∧chOk (compileF p f b):=by
 by_cases hc:programOk p=true∧buildOk b=true∧0≤f∧f < (funs p).length
 ·obtain⟨h1,h2,h3,h4⟩:=hc
  obtain⟨g,C,_,k2,_,_,k5,_,k7,k8,_⟩:=compiled_of hs h1 h2 h3 h4
  rw[k8]
  exact compG_cap k2 k7 k5
 ·rw[compileF,if_neg hc]
  exact⟨by simp,fun it h=>by cases h⟩
end Go.Proofs.YtjmplnfiabmalaaGreat
namespace Go.Proofs.YtjmplnfiabmalaaGreat
open Go.Sim
set_option maxRecDepth 100000
set_option maxHeartbeats 4000000
def opGood (c a:Int):Prop:=0≤c∧c≤17∧(c=0→-2147483648≤a∧a≤2147483647)∧(c=1∨c=2∨c=3∨c=4∨c=10∨c=11→-32768≤a∧a≤32767)∧(c=16→0≤a∧a≤65535)∧(c=12∨c=13∨c=14∨c=15→0≤a∧a≤255)∧(5≤c∧c≤9∨c=17→a=0)
def BodyL (C:Cx)(line:Int):Prop:=∃y,0≤line∧C.p[line.toNat]?=some y∧y.fKind≠0
structure GoodI (C:Cx) (n:Nat) (it:TItem):Prop where
 line:BodyL C it.fLine
 jump:it.fOp.fCode=10∨it.fOp.fCode=11→0≤it.fOp.fArg∧it.fOp.fArg≤n
 op:¬(it.fOp.fCode=10∨it.fOp.fCode=11)→opGood it.fOp.fCode it.fOp.fArg
 enter:it.fOp.fCode≠13
theorem GoodI.mono {C:Cx}{n m:Nat}{it:TItem}(h:GoodI C n it)(hn:n≤m):GoodI C m it:=⟨h.line,fun k=>by have:=h.jump k;omega,h.op,h.enter⟩
def HeadI (C:Cx)(g:Nat)(it:TItem):Prop:=(it.fOp.fCode=13∨it.fOp.fCode=15)∧it.fLine=g∧it.fOp.fArg=C.words
def InvI (C:Cx)(g:Nat)(l:List TItem):Prop:=∃h t,l=h::t∧HeadI C g h∧∀it∈t,GoodI C l.length it
def codeAt (l:List TItem)(i:Nat):Option Int:=(l[i]?).map (·.fOp.fCode)
def JP (l:List TItem)(j:Int):Prop:=0≤j∧∃c,codeAt l j.toNat=some c∧(c=10∨c=11)
structure Tr2 (C:Cx) (g:Nat) (a b:Gs):Prop where
 ext:∀i c,codeAt a.items i=some c→codeAt b.items i=some c
 inv:InvI C g a.items→InvI C g b.items
 most:a.most≤60→b.most≤60
theorem Tr2.refl {C:Cx}{g:Nat}(s:Gs):Tr2 C g s s:=⟨fun _ _ h=>h,id,id⟩
theorem Tr2.trans {C:Cx}{g:Nat}{a b c:Gs}(h:Tr2 C g a b)(h':Tr2 C g b c):Tr2 C g a c:=⟨fun i v x=>h'.ext i v (h.ext i v x),fun x=>h'.inv (h.inv x),fun x=>h'.most (h.most x)⟩
theorem codeAt_lt {l:List TItem}{i:Nat}{c:Int}(h:codeAt l i=some c):i < l.length:=by
 unfold codeAt at h
 cases hi:l[i]? with
 | none=>rw[hi]at h;cases h
 | some x=>exact lt_of_get hi
theorem codeAt_some {l:List TItem}{i:Nat}(h:i < l.length):∃c,codeAt l i=some c:=by
 obtain⟨x,hx⟩:=get_of_lt h
 exact⟨x.fOp.fCode,by rw[codeAt,hx];rfl⟩
theorem JP.ext {a b:List TItem}(h:∀i c,codeAt a i=some c→codeAt b i=some c){j:Int}(hj:JP a j):JP b j:=by
 obtain⟨h0,c,h1,h2⟩:=hj
 exact⟨h0,c,h _ _ h1,h2⟩
theorem Tr2.len {C:Cx}{g:Nat}{a b:Gs}(h:Tr2 C g a b):a.items.length≤b.items.length:=by
 rcases Nat.eq_zero_or_pos a.items.length with h0|h0
 ·omega
 ·obtain⟨c,hc⟩:=codeAt_some (l:=a.items) (i:=a.items.length - 1) (by omega)
  have:=codeAt_lt (h.ext _ _ hc)
  omega
theorem emit_tr {C:Cx}{g:Nat}{s:Gs}{d code arg line:Int}{chain:List Int}(hl:BodyL C line)(h1:code=10∨code=11→0≤arg∧arg≤s.items.length)(h2:¬(code=10∨code=11)→opGood code arg)(h3:code≠13):Tr2 C g s (emitG C s d code arg line chain):=by
 refine⟨fun i c h=>?_,fun⟨h,t,e1,e2,e3⟩=>?_,id⟩
 ·have:=codeAt_lt h
  unfold codeAt at h ⊢
  simp only[emitG]
  rw[List.getElem?_append_left this]
  exact h
 ·refine⟨h,t++[mkItem C s d code arg line chain],by simp[emitG,e1],e2,fun it hit=>?_⟩
  have hn:s.items.length≤(emitG C s d code arg line chain).items.length:=by simp[emitG]
  rw[List.mem_append,List.mem_singleton]at hit
  rcases hit with hit|rfl
  ·exact(e3 it hit).mono hn
  ·exact⟨hl,fun k=>by have:=h1 k;simp only[mkItem];omega,h2,h3⟩
theorem setArg_code {l:List TItem}{j v:Int}(i:Nat):codeAt (setArg l j v) i=codeAt l i:=by
 unfold setArg
 split
 ·split
  ·rename_i x hx
   unfold codeAt
   by_cases h:j.toNat=i
   ·subst h
    rw[List.getElem?_set_self (lt_of_get hx),hx]
    rfl
   ·rw[List.getElem?_set_ne h]
  ·rfl
 ·rfl
theorem setArg_inv {C:Cx}{g:Nat}{l:List TItem}{j:Int}(h:InvI C g l)(hj:JP l j):InvI C g (setArg l j l.length):=by
 obtain⟨a,t,e1,e2,e3⟩:=h
 obtain⟨h0,c,h1,h2⟩:=hj
 unfold setArg
 rw[if_pos h0]
 cases hx:l[j.toNat]? with
 | none=>simp only;exact⟨a,t,e1,e2,e3⟩
 | some x=>
  have hc:x.fOp.fCode=c:=by rw[codeAt,hx]at h1;simpa using h1
  have hj0:j.toNat≠0:=by
   intro h
   rw[h,e1]at hx
   simp at hx
   subst hx
   have:=e2.1
   omega
  obtain⟨m,hm⟩:∃m,j.toNat=m+1:=⟨j.toNat - 1,by omega⟩
  rw[hm,e1,List.getElem?_cons_succ]at hx
  have hg:=e3 x (List.mem_of_getElem? hx)
  refine⟨a,t.set m ⟨⟨x.fOp.fCode,l.length⟩,x.fLine,x.fStart,x.fChain,x.fDepth,x.fEntered⟩,?_,e2,fun it hit=>?_⟩
  ·rw[e1,hm];rfl
  ·rw[List.length_set]
   rcases List.mem_or_eq_of_mem_set hit with hit|rfl
   ·exact e3 it hit
   ·exact⟨hg.line,fun _=>by simp only;omega,fun k=>absurd (by rw[hc];exact h2) k,hg.enter⟩
theorem setArg_tr {C:Cx}{g:Nat}{s:Gs}{j:Int}(hj:JP s.items j):Tr2 C g s ⟨setArg s.items j s.items.length,s.most,s.start⟩:=
 ⟨fun i c h=>by rw[setArg_code];exact h,fun h=>setArg_inv h hj,id⟩
theorem patchL_tr {C:Cx}{g:Nat}:∀(js:List Int) {s:Gs},(∀j∈js,JP s.items j)→Tr2 C g s ⟨patchL s.items s.items.length js,s.most,s.start⟩
 | [],s,_=>Tr2.refl s
 | j::js,s,h=>by
  have h1:=setArg_tr (C:=C) (g:=g) (s:=s) (h j (by simp))
  have h2:=patchL_tr (C:=C) (g:=g) js (s:=⟨setArg s.items j s.items.length,s.most,s.start⟩) fun i hi=>(h i (by simp[hi])).ext h1.ext
  simp only[setArg_len']at h2
  exact h1.trans h2
theorem emit_JP {C:Cx}{s:Gs}{d code arg line:Int}{chain:List Int}(h:code=10∨code=11):JP (emitG C s d code arg line chain).items (s.items.length:Int):=by
 refine⟨by omega,code,?_,h⟩
 rw[codeAt,Int.toNat_natCast]
 simp[emitG,mkItem]
theorem exs_len:∀(es:List Ex),es.length≤(exToks es).length
 | []=>Nat.zero_le _
 | a::es=>by
  have:=exs_len es
  have:=a.toks_pos
  rw[exToks,List.length_append,List.length_cons];omega
section
variable {C:Cx} {x:Sc} {ins:List Nat} {rep:Sc→List Nat→Nat→Nat→Int→Gs→Gs} {line:Nat} {G:Nat}
theorem place_good (hC:CxOk C){y:Sc}(hf:0≤y.first∧y.first≤200){d i:Int}(hd:-100≤d∧d≤2000)(hi:-2≤i∧i≤100)(store:Bool):¬(placeC C store=10∨placeC C store=11)∧placeC C store≠13∧opGood (placeC C store) (placeA C y d i):=by
 have ha:=hC.args
 have hk:aboveK C y i≥-10∧aboveK C y i≤400:=by unfold aboveK;split <;> omega
 have hc:1≤placeC C store∧placeC C store≤4:=by unfold placeC;split <;> split <;> omega
 have hA:-10000≤placeA C y d i∧placeA C y d i≤10000:=by unfold placeA;repeat' split <;> omega
 unfold opGood
 omega
theorem load_tr (hC:CxOk C){y:Sc}(hf:0≤y.first∧y.first≤200){d i line:Int}(hd:-100≤d∧d≤2000)(hi:-2≤i∧i≤100)(hl:BodyL C line)(s:Gs):Tr2 C G s (loadG C y s d i line):=by
 obtain⟨h1,h2,h3⟩:=place_good hC hf hd hi false
 exact emit_tr hl (fun k=>absurd k h1) (fun _=>h3) h2
theorem store_tr (hC:CxOk C){y:Sc}(hf:0≤y.first∧y.first≤200){d i line:Int}(hd:-100≤d∧d≤2000)(hi:-2≤i∧i≤100)(hl:BodyL C line)(s:Gs)(chain:List Int):Tr2 C G s (storeG C y s d i line chain):=by
 obtain⟨h1,h2,h3⟩:=place_good hC hf hd hi true
 exact emit_tr hl (fun k=>absurd k h1) (fun _=>h3) h2
theorem zero_good:opGood 0 0:=by unfold opGood;omega
theorem stores_tr (hC:CxOk C){y:Sc}(hf:0≤y.first∧y.first≤200){chain:List Int}{line:Int}(hl:BodyL C line):∀(n:Nat) (d:Int) (s:Gs),n≤50→-100≤d - n→d≤2000→Tr2 C G s (storesG C y chain line n d s)
 | 0,d,s,_,_,_=>Tr2.refl s
 | n+1,d,s,h0,h1,h2=>by
  rw[storesG]
  exact(store_tr hC hf (by omega) (by omega) hl s chain).trans (stores_tr hC hf hl n (d - 1) _ (by omega) (by omega) (by omega))
theorem zeros_tr (hC:CxOk C){y:Sc}(hf:0≤y.first∧y.first≤200){chain:List Int}{line d:Int}(hl:BodyL C line)(hd:-100≤d∧d≤1999):∀(n i:Nat) (s:Gs),i+n≤50→Tr2 C G s (zerosG C y chain line d n i s)
 | 0,i,s,_=>Tr2.refl s
 | n+1,i,s,h=>by
  rw[zerosG]
  exact((emit_tr hl (fun k=>by omega) (fun _=>zero_good) (by omega)).trans (store_tr hC hf (by omega) (by omega) hl _ chain)).trans (zeros_tr hC hf hl hd n (i+1) _ (by omega))
def RepT (C:Cx)(rep:Sc→List Nat→Nat→Nat→Int→Gs→Gs)(G:Nat)(x:Sc)(ins:List Nat):Prop:=
 ∀(line g:Nat) (d:Int) (s:Gs),BodyL C line→isFun C g→-10 * (ins.length:Int)≤d→d≤1000+30 * ins.length+21→replB C ins g s.items.length=true→Tr2 C G s (rep x ins line g d s)
theorem fin_tr (hC:CxOk C)(hx:ScOk C x ins)(hi:ins.length≤4)(hrep:RepT C rep G x ins)(hl:BodyL C line){t:TTok}(ht:tokOk t=true){d:Int}(h1:-10 * (ins.length:Int)≤d)(h2:d≤1000+30 * ins.length+21)(s:Gs):Tr2 C G s (finG C rep x ins line t d s):=by
 obtain⟨e,e1,e2,e3,e4,e5⟩:=hx.endE hC
 have hfi:=hx.first
 have hli:=idxOf_le x.locals t.fName
 unfold tokOk at ht
 unfold finG
 split
 ·rename_i h0
  rw[if_pos h0]at ht
  simp only[Bool.and_eq_true,within_iff]at ht
  exact emit_tr hl (fun k=>by omega) (fun _=>by unfold opGood;omega) (by omega)
 ·rename_i h0
  rw[if_neg h0]at ht
  split
  ·exact load_tr hC (by omega) (by omega) (by omega) hl s
  ·rename_i h1
   split
   ·split
    ·rename_i g hg
     obtain⟨_,ln,k1,k2,_⟩:=find_some hg
     split
     ·rename_i hr
      exact hrep line g d s hl ⟨ln,k1,k2⟩ (by omega) (by omega) hr
     ·have hn:=numOf_le C.p g
      have:=lt_of_get k1
      have:=hC.len
      exact emit_tr hl (fun k=>by omega) (fun _=>by unfold opGood;omega) (by omega)
    ·exact Tr2.refl s
   ·rename_i h7
    rw[if_neg h7,if_neg h1]at ht
    simp only[Bool.and_eq_true,within_iff]at ht
    exact emit_tr hl (fun k=>by omega) (fun _=>by unfold opGood;omega) (by omega)
mutual
theorem genE_tr (hC:CxOk C)(hx:ScOk C x ins)(hi:ins.length≤4)(hrep:RepT C rep G x ins)(hl:BodyL C line):∀(e:Ex) (d:Int) (s:Gs),e.ok→-10 * (ins.length:Int)≤d→d+e.toks.length≤1000+30 * ins.length+21→Tr2 C G s (genE C rep x ins line e d s)
 | .node t es,d,s,h,h1,h2=>by
  rw[Ex.toks,List.length_cons]at h2
  rw[genE]
  have hle:=exs_len es
  exact(genEs_tr hC hx hi hrep hl es d s h.2.2 h1 (by omega)).trans (fin_tr hC hx hi hrep hl h.1 (by omega) (by omega) _)
theorem genEs_tr (hC:CxOk C)(hx:ScOk C x ins)(hi:ins.length≤4)(hrep:RepT C rep G x ins)(hl:BodyL C line):∀(es:List Ex) (d:Int) (s:Gs),exsOk es→-10 * (ins.length:Int)≤d→d+(exToks es).length≤1000+30 * ins.length+21→Tr2 C G s (genEs C rep x ins line es d s)
 | [],d,s,_,_,_=>by rw[genEs];exact Tr2.refl s
 | a::es,d,s,h,h1,h2=>by
  rw[exToks,List.length_append]at h2
  rw[genEs]
  have hp:=a.toks_pos
  exact(genE_tr hC hx hi hrep hl a d s h.1 h1 (by omega)).trans (genEs_tr hC hx hi hrep hl es (d+1) _ h.2 (by omega) (by omega))
end
theorem space_tr (hl:BodyL C line)(x:Sc)(d:Int)(s:Gs):Tr2 C G s (spaceG C x line d s):=by
 unfold spaceG
 split
 ·exact emit_tr hl (fun k=>by omega) (fun _=>by unfold opGood;omega) (by omega)
 ·exact Tr2.refl s
theorem pre_tr (hC:CxOk C)(hx:ScOk C x ins)(hi:ins.length≤3)(hl:BodyL C line){g:Nat}(hg:isFun C g){d:Int}(h1:-10 * (ins.length:Int)≤d)(h2:d≤1000+30 * ins.length+21)(s:Gs):Tr2 C G s (preG C x line g d s):=by
 obtain⟨k1,k2⟩:=isFun_locals hC hg
 have hy:=inSc_ok hC hx line hg
 have hf:=hy.first
 rw[List.length_append,List.length_cons,List.length_nil]at hf
 have ht:=topOf_le hC hx
 have ha:=hC.argsN g
 have h0:Tr2 C G s ⟨s.items,max s.most (topOf C x+(localsOf C.p (g:Int)).length),s.start⟩:=⟨fun _ _ h=>h,id,fun h=>by dsimp only;omega⟩
 unfold preG
 exact(h0.trans (stores_tr hC (by omega) hl _ d _ (by omega) (by omega) (by omega))).trans (zeros_tr hC (by omega) hl (by omega) _ _ _ (by omega))
structure LsI (C:Cx) (G f k:Nat) (g0:Gs) (L:Ls):Prop where
 tr:Tr2 C G g0 L.g
 heads:∀v∈L.heads,0≤v∧v≤L.g.items.length
 pos:∀i,f+1≤i→i < k→jumps C.p i→JP L.g.items (atL L.pos i)
 lv:∀j∈L.lv,JP L.g.items j
 len:L.pos.length=C.p.length
theorem LsI.step {f k k':Nat}{g0:Gs}{L L':Ls}(h:LsI C G f k g0 L)(ht:Tr2 C G L.g L'.g)(hh:∀v∈L'.heads,v∈L.heads∨(0≤v∧v≤L'.g.items.length))(hp:∀i,f+1≤i→i < k'→jumps C.p i→(i < k∧atL L'.pos i=atL L.pos i)∨JP L'.g.items (atL L'.pos i))(hv:∀j∈L'.lv,j∈L.lv∨JP L'.g.items j)(hl:L'.pos.length=L.pos.length):LsI C G f k' g0 L':=by
 have hle:=ht.len
 refine⟨h.tr.trans ht,fun v hv=>?_,fun i h1 h2 h3=>?_,fun j hj=>?_,by rw[hl,h.len]⟩
 ·rcases hh v hv with h1|h1
  ·have:=h.heads v h1;omega
  ·exact h1
 ·rcases hp i h1 h2 h3 with⟨k1,k2⟩|k1
  ·rw[k2];exact(h.pos i h1 k1 h3).ext ht.ext
  ·exact k1
 ·rcases hv j hj with h1|h1
  ·exact(h.lv j h1).ext ht.ext
  ·exact h1
theorem LsI.same {f k:Nat}{g0:Gs}{L L':Ls}(h:LsI C G f k g0 L)(ht:Tr2 C G L.g L'.g)(e1:L'.heads=L.heads)(e2:L'.pos=L.pos)(e3:L'.lv=L.lv):LsI C G f k g0 L':=
 h.step ht (fun v hv=> .inl (by rw[←e1];exact hv)) (fun i _ h2 _=> .inl ⟨h2,by rw[e2]⟩) (fun j hj=> .inl (by rw[←e3];exact hj)) (by rw[e2])
theorem LsI.next {f k:Nat}{g0:Gs}{L:Ls}(h:LsI C G f k g0 L)(hj:¬jumps C.p k):LsI C G f (k+1) g0 L:=
 h.step (Tr2.refl _) (fun v hv=> .inl hv) (fun i h1 h2 h3=> .inl ⟨by
  rcases Nat.lt_or_ge i k with h|h
  ·exact h
  ·rw[show i=k by omega]at h3;exact absurd h3 hj,rfl⟩) (fun j hj=> .inl hj) rfl
theorem leave_tr (hC:CxOk C)(hw:C.words≤255){f k k':Nat}{g0:Gs}{L:Ls}(hl:BodyL C (k':Int))(last:Bool)(d:Int)(h:LsI C G f k g0 L):LsI C G f k g0 (leaveG C x k' last d L):=by
 have ha:=hC.args
 have hww:=hC.words
 unfold leaveG
 split
 ·split
  ·exact h.same (emit_tr hl (fun k=>by omega) (fun _=>by unfold opGood;omega) (by omega)) rfl rfl rfl
  ·exact h.same (emit_tr hl (fun k=>by omega) (fun _=>by unfold opGood;omega) (by omega)) rfl rfl rfl
 ·split
  ·exact h
  ·refine h.step (emit_tr hl (fun k=>by omega) (fun k=>by omega) (by omega)) (fun v hv=> .inl hv) (fun i _ h2 _=> .inl ⟨h2,rfl⟩) (fun j hj=>?_) rfl
   simp only[List.mem_append,List.mem_singleton]at hj
   rcases hj with hj|rfl
   ·exact .inl hj
   ·exact .inr (emit_JP (.inl rfl))
theorem atL_heads {l:List Int}{n:Int}(h:∀v∈l,0≤v∧v≤n)(hn:0≤n)(k:Nat):0≤atL l k∧atL l k≤n:=by
 unfold atL
 cases hk:l[k]? with
 | none=>simp only[Option.getD];omega
 | some v=>exact h v (List.mem_of_getElem? hk)
theorem stepA_tr (hC:CxOk C)(hw:C.words≤255)(hx:ScOk C x ins)(hi:ins.length≤4)(hrep:RepT C rep G x ins){e:Nat}(he:endAt C.p x.f=some e){k:Nat}{ln:TLine}(hk:C.p[k]?=some ln)(h0:ln.fKind≠0)(hk1:x.f < k)(hk2:k≤e){base:Int}(hb1:-10 * (ins.length:Int)≤base)(hb2:base≤1000+30 * ins.length){g0:Gs}{L:Ls}(h:LsI C G x.f k g0 L):LsI C G x.f (k+1) g0 (stepA C rep x ins base k ln L):=by
 have hl:BodyL C (k:Int):=⟨ln,by omega,by rw[Int.toNat_natCast];exact hk,h0⟩
 have hkl:k < C.p.length:=lt_of_get hk
 have hka:=kindAt_of hk
 unfold stepA
 split
 ·rename_i h4
  obtain⟨o1,o2,o3,o4⟩:=hx.own4 hC he hk1 hk2 hk h4
  obtain⟨y,_,hy,hy3,_⟩:=elseAt_some o1
  have hJ:=h.pos (ownOf C.p k) o2 o3 (.inl (by rw[kindAt_of hy];exact hy3))
  have t1:Tr2 C G L.g (emitG C L.g base 10 0 k x.chain):=emit_tr hl (fun _=>by omega) (fun k=>by omega) (by omega)
  have t2:=setArg_tr (C:=C) (g:=G) (hJ.ext t1.ext)
  refine h.step (t1.trans t2) (fun v hv=> .inl hv) (fun i h1 h2 h3=>?_) (fun j hj=> .inl hj) (by simp)
  by_cases hik:i=k
  ·subst hik
   refine .inr ?_
   rw[atL_self (by rw[h.len];exact hkl)]
   exact JP.ext t2.ext (emit_JP (.inl rfl))
  ·exact .inl ⟨by omega,atL_set hik⟩
 ·rename_i h4
  split
  ·rename_i h7
   have hnj:¬jumps C.p k:=by unfold jumps;rw[hka];omega
   split
   ·exact(leave_tr hC hw (x:=x) hl true (base+1) (h.same (L':={L with g:=emitG C L.g base 0 0 k x.chain}) (emit_tr hl (fun k=>by omega) (fun _=>zero_good) (by omega)) rfl rfl rfl)).next hnj
   ·split
    ·have hh:=atL_heads h.heads (by omega) (ownOf C.p k)
     exact(h.same (L':={L with g:=emitG C L.g base 10 (atL L.heads (ownOf C.p k)) k x.chain}) (emit_tr hl (fun _=>hh) (fun k=>by omega) (by omega)) rfl rfl rfl).next hnj
    ·exact h.next hnj
  ·rename_i h7
   have hlk:=hC.line _ _ hk
   have hex:=exL_ok (hlk.2.2.2.2 (by omega))
   have h20:=hlk.2.2.2.1
   rw[hex.2]at h20
   have tg:Tr2 C G L.g (genE C rep x ins k (exL ln.fExpr) base ⟨L.g.items,L.g.most,true⟩):=by
    have:=genE_tr hC hx hi hrep hl (exL ln.fExpr) base ⟨L.g.items,L.g.most,true⟩ hex.1 hb1 (by omega)
    exact⟨this.ext,this.inv,this.most⟩
   have hL1:LsI C G x.f k g0 {L with g:=genE C rep x ins k (exL ln.fExpr) base ⟨L.g.items,L.g.most,true⟩,heads:=L.heads.set k L.g.items.length}:=by
    refine h.step tg (fun v hv=>?_) (fun i _ h2 _=> .inl ⟨h2,rfl⟩) (fun j hj=> .inl hj) rfl
    rcases List.mem_or_eq_of_mem_set hv with hv|rfl
    ·exact .inl hv
    ·exact .inr ⟨by omega,by have:=tg.len;simp only;omega⟩
   have hli:=idxOf_le x.locals ln.fName
   obtain⟨_,_,_,_,_,e5⟩:=hx.endE hC
   have hfi:=hx.first
   generalize genE C rep x ins k (exL ln.fExpr) base ⟨L.g.items,L.g.most,true⟩=GE at tg hL1 ⊢
   split
   ·rename_i k1
    have hnj:¬jumps C.p k:=by unfold jumps;rw[hka];omega
    have t2:Tr2 C G GE (storeG C x GE (base+1) (idxOf x.locals ln.fName) k x.chain):=store_tr hC (by omega) (by omega) (by omega) hl _ _
    exact(hL1.same (L':={L with g:=storeG C x GE (base+1) (idxOf x.locals ln.fName) k x.chain,heads:=L.heads.set k L.g.items.length}) t2 rfl rfl rfl).next hnj
   ·split
    ·rename_i k2
     have hnj:¬jumps C.p k:=by unfold jumps;rw[hka];omega
     have t2:Tr2 C G GE (emitG C GE (base+1) 17 0 k x.chain):=emit_tr hl (fun k=>by omega) (fun _=>by unfold opGood;omega) (by omega)
     exact(hL1.same (L':={L with g:=emitG C GE (base+1) 17 0 k x.chain,heads:=L.heads.set k L.g.items.length}) t2 rfl rfl rfl).next hnj
    ·split
     ·rename_i k6
      have hnj:¬jumps C.p k:=by unfold jumps;rw[hka];omega
      exact(leave_tr hC hw (x:=x) hl false (base+1) hL1).next hnj
     ·refine hL1.step (emit_tr hl (fun _=>by omega) (fun k=>by omega) (by omega)) (fun v hv=> .inl hv) (fun i h1 h2 h3=>?_) (fun j hj=> .inl hj) (by simp)
      by_cases hik:i=k
      ·subst hik
       refine .inr ?_
       rw[atL_self (by rw[h.len];exact hkl)]
       exact emit_JP (.inr rfl)
      ·exact .inl ⟨by omega,atL_set hik⟩
theorem stepB_tr (hC:CxOk C)(hx:ScOk C x ins){e:Nat}(he:endAt C.p x.f=some e){k:Nat}{ln:TLine}(hk:C.p[k]?=some ln)(hk1:x.f < k)(hk2:k≤e){g0:Gs}{L:Ls}(h:LsI C G x.f (k+1) g0 L):LsI C G x.f (k+1) g0 (stepB C x k ln L):=by
 unfold stepB
 split
 ·rename_i h7
  have hke:k≠e:=fun hh=>by
   rcases(hx.own7 hC he hk1 hk2 hk h7.1).2 with⟨_,o⟩|⟨o,_⟩
   ·exact h7.2 o
   ·omega
  obtain⟨k1,k2,k3,_,_⟩:=exit_to hC hx he hk1 (by omega) hk h7.1
  exact h.same (setArg_tr (h.pos _ k1 (by omega) k3)) rfl rfl rfl
 ·exact h
theorem runL_tr (hC:CxOk C)(hw:C.words≤255)(hx:ScOk C x ins)(hi:ins.length≤4)(hrep:RepT C rep G x ins){e:Nat}(he:endAt C.p x.f=some e){base:Int}(hb1:-10 * (ins.length:Int)≤base)(hb2:base≤1000+30 * ins.length)(h0:∀i y,x.f < i→i≤e→C.p[i]?=some y→y.fKind≠0){g0:Gs}:∀(n k:Nat) (L:Ls),x.f < k→k+n=e+1→LsI C G x.f k g0 L→LsI C G x.f (e+1) g0 (runL C rep x ins base n k L)
 | 0,k,L,_,h2,h=>by rw[runL,←h2];exact h
 | n+1,k,L,h1,h2,h=>by
  obtain⟨_,_,_,_,_,hel⟩:=endAt_some he
  obtain⟨ln,hk⟩:=get_of_lt (l:=C.p) (k:=k) (by omega)
  rw[runL,hk]
  exact runL_tr hC hw hx hi hrep he hb1 hb2 h0 n (k+1) _ (by omega) (by omega) (stepB_tr hC hx he hk h1 (by omega) (stepA_tr hC hw hx hi hrep he hk (h0 k ln h1 (by omega) hk) h1 (by omega) hb1 hb2 h))
theorem linesG_tr (hC:CxOk C)(hw:C.words≤255)(hx:ScOk C x ins)(hi:ins.length≤4)(hrep:RepT C rep G x ins){base:Int}(hb1:-10 * (ins.length:Int)≤base)(hb2:base≤1000+30 * ins.length)(s:Gs):Tr2 C G s (linesG C rep x ins base s).1∧∀j∈(linesG C rep x ins base s).2,JP (linesG C rep x ins base s).1.items j:=by
 obtain⟨ln,h1,h2⟩:=hx.fn
 obtain⟨e,h3,_,_,h4⟩:=hC.fn _ _ h1 h2
 obtain⟨e',g3,g4,g4',g5,_⟩:=hx.endE hC
 rw[h3]at g3
 injection g3 with g3
 subst g3
 have h:=runL_tr hC hw hx hi hrep h3 hb1 hb2 (fun i y k1 k2 hy=>by
  by_cases hie:i=e
  ·subst hie
   obtain⟨z,hz,h7⟩:=endAt_kind h3
   rw[hy]at hz
   injection hz with hz
   subst hz
   omega
  ·exact(h4 i y (by omega) (by omega) hy).1) (g0:=s) (e - x.f) (x.f+1) (startL C s) (by omega) (by omega) ⟨Tr2.refl s,fun v hv=>by
   simp only[startL,List.mem_replicate]at hv
   omega,fun i k1 k2 _=>by omega,fun j hj=>(by cases hj),by simp[startL]⟩
 unfold linesG
 rw[g5]
 exact⟨h.tr,h.lv⟩
end
theorem repN_tr {C:Cx}{G:Nat}(hC:CxOk C)(hw:C.words≤255):∀(lev:Nat) {x:Sc} {ins:List Nat},ScOk C x ins→RepT C (repN C lev) G x ins
 | 0,x,ins,hx,line,g,d,s,_,_,_,_,_=>Tr2.refl s
 | lev+1,x,ins,hx,line,g,d,s,hl,hg,h1,h2,hr=>by
  obtain⟨r1,r2,r3,_⟩:=replB_spec hr
  have hin:=hC.inl
  have hy:=inSc_ok hC hx line hg
  have ha:=hC.argsN g
  have hil:(ins++[g]).length=ins.length+1:=by simp
  have t1:=pre_tr (G:=G) hC hx (by omega) hl hg h1 h2 s
  have t2:=space_tr (G:=G) hl x (d - argsN C.p g) (preG C x line g d s)
  have t3:=linesG_tr (G:=G) hC hw hy (by omega) (repN_tr hC hw lev hy) (base:=d - argsN C.p g) (by omega) (by omega) (spaceG C x line (d - argsN C.p g) (preG C x line g d s))
  exact((t1.trans t2).trans t3.1).trans (patchL_tr _ t3.2)
theorem compG_tr {C:Cx}(hC:CxOk C)(hw:C.words≤255){g:Nat}(hg:isFun C g)(e5:C.args=argsN C.p g):InvI C g (compG C g).items∧(compG C g).most≤60:=by
 have hS:ScOk C (outerSc C g) [g]:=⟨hg,rfl,⟨Int.le_refl _,by simp[outerSc]⟩,rfl,by simp[outerSc],fun _=>e5,rfl⟩
 have hww:=hC.words
 have t:=(linesG_tr (G:=g) hC hw hS (by simp) (repN_tr hC hw C.b.fInline.toNat hS) (base:=C.words) (by simp only[List.length_cons,List.length_nil];omega) (by simp only[List.length_cons,List.length_nil];omega) (headG C g)).1
 obtain⟨l1,l2⟩:=isFun_locals hC hg
 refine⟨t.inv ⟨_,[],rfl,⟨?_,rfl,rfl⟩,fun it h=>by cases h⟩,t.most ?_⟩
 ·simp only[mkItem];split <;> omega
 ·show(localsOf C.p (g:Int)).length - C.args≤60;omega
theorem compileF_inv {p:List TLine}{f:Int}{b:TBuild}(hs:smallT 1048576 (.lst 4 (p.map TLine.tr)))(h1:programOk p=true)(h2:buildOk b=true)(h3:0≤f)(h4:f < (funs p).length):∃(g:Nat) (C:Cx),(funs p)[f.toNat]?=some g∧C.p=foldIf p b∧0≤C.words∧C.words≤255∧InvI C g (compileF p f b):=by
 obtain⟨g,C,k1,k2,k3,k4,k5,k6,k7,k8,k9⟩:=compiled_of hs h1 h2 h3 h4
 have hb:0≤b.fInline∧b.fInline≤3:=by
  unfold buildOk at h2
  simp only[Bool.and_eq_true,within_iff]at h2
  exact h2.2
 have hpg:=(PgOk_of hs h1).foldIf b
 have ha:(0:Int)≤(argsN (foldIf p b) g:Int)∧(argsN (foldIf p b) g:Int)≤4:=by have:=k2.argsN g;rw[k3]at this;omega
 have hC0:CxOk (ctx (foldIf p b) f.toNat g b 0):=hpg.cx ha (by omega) hb
 obtain⟨y,y1,y2⟩:=k7
 have hf0:isFun (ctx (foldIf p b) f.toNat g b 0) g:=⟨y,by rw[k3]at y1;exact y1,y2⟩
 have h60:=(compG_tr hC0 (by show(0:Int)≤255;omega) hf0 rfl).2
 have hw:=k2.words
 refine⟨g,C,k1,k3,hw.1,by omega,?_⟩
 rw[k8]
 exact(compG_tr k2 (by omega) ⟨y,y1,y2⟩ k5).1
end Go.Proofs.YtjmplnfiabmalaaGreat
namespace Go.Proofs.YtjmplnfiabmalaaGreat
open Go.Sim
set_option maxRecDepth 100000
set_option maxHeartbeats 4000000
theorem smallRs_of {α:Type}{g:α→List Tr}{L:Int}:∀{l:List α},(∀x∈l,smallR L (g x))→smallRs L (l.map g)
 | [],_=>by rw[List.map_nil,smallRs];trivial
 | x::l,h=>by
  rw[List.map_cons,smallRs]
  exact⟨h x (by simp),smallRs_of fun y hy=>h y (by simp[hy])⟩
theorem small_map {α:Type}{g:α→List Tr}{l:List α}{sz:Nat}(hl:l.length≤1048576)(h:∀x∈l,smallR 1048576 (g x)):smallT 1048576 (.lst sz (l.map g)):=by
 rw[smallT]
 exact⟨by simp;omega,smallRs_of h⟩
theorem small_Ints {l:List Int}(hl:l.length≤1048576):smallT 1048576 (.lst 1 (l.map intRow)):=small_map hl fun x _=>by simp[intRow,smallR,smallT]
end Go.Proofs.YtjmplnfiabmalaaGreat
namespace Go.Proofs.YtjmplnfiabmalaaGreat
open Go.Sim
set_option maxRecDepth 100000
set_option maxHeartbeats 4000000
def opArg (c:Int):Int×Bool:=
 if c=0 then(4,true)else if c=1∨c=2∨c=3∨c=4∨c=10∨c=11 then(2,true)
 else if c=16 then(2,false)else if c=12∨c=13∨c=14∨c=15 then(1,false)else(0,false)
def opSize (c:Int):Int:=if within c 0 17 then(opArg c).1+1 else 0
theorem opArg_le (c:Int):0≤(opArg c).1∧(opArg c).1≤4:=by
 unfold opArg
 repeat' split
 all_goals simp
theorem opSize_le (c:Int):0≤opSize c∧opSize c≤5:=by
 have:=opArg_le c
 unfold opSize
 split <;> omega
abbrev rArg (c:Int):Res:= .tup [.c (.t (.int .i64 (opArg c).1)),.c (.t (.bool (opArg c).2))]
theorem s_impl_argument (c:Int):Sim.Spec Tryz.prog 171 [tvI c] (rArg c):=by
 refine spec_of_W hΓ hmix Tryz.func171 rfl (by decide) rfl ?_
 repeat' ((conv=>whnf);first|refine Or.inl ?_|apply oi|(apply fi<;>intro h)|refine⟨_,rfl,?_⟩|((with_reducible show _=_);rfl))
 all_goals try((with_reducible refine Obl.mk ?_);exact KO)
 all_goals(refine⟨?_⟩;simp_all[opArg])
theorem s_spec_l07Width (c:Int):Sim.Spec Tryz.prog 151 [tvI c] (rArg c):=by
 refine spec_of_W hΓ hmix Tryz.func151 rfl (by decide) rfl ?_
 repeat' ((conv=>whnf);first|refine Or.inl ?_|apply oi|(apply fi<;>intro h)|refine⟨_,rfl,?_⟩|((with_reducible show _=_);rfl))
 all_goals try((with_reducible refine Obl.mk ?_);exact KO)
 all_goals(refine⟨?_⟩;simp_all[opArg])
theorem s_impl_OpSize (c:Int):Sim.Spec Tryz.prog 158 [tvI c] (rI (opSize c)):=by
 refine spec_of_W hΓ hmix Tryz.func158 rfl (by decide) rfl ?_
 have hb:=s_impl_between c 0 17
 have ha:=s_impl_argument c
 have hle:=opArg_le c
 unfold opSize
 cases hw:within c 0 17 with
 | false=>
  rw[hw]at hb
  repeat' ((conv=>whnf);first|refine Or.inl ?_|apply oi|(apply fi<;>intro h)|refine ci hb (ai rfl (ai rfl (ai rfl trivial))) ?_|refine⟨_,rfl,?_⟩|((with_reducible show _=_);rfl))
  all_goals try((with_reducible refine Obl.mk ?_);exact KO)
 | true=>
  rw[hw]at hb
  repeat' ((conv=>whnf);first|refine Or.inl ?_|apply oi|(apply fi<;>intro h)|refine ci hb (ai rfl (ai rfl (ai rfl trivial))) ?_|refine ci ha (ai rfl trivial) ?_|refine⟨_,rfl,?_⟩|((with_reducible show _=_);rfl))
  all_goals try((with_reducible refine Obl.mk ?_);exact KO)
  exact⟨by rw[IntWalk.i64_in _ (by omega)];rfl⟩
theorem s_spec_OpSize (c:Int):Sim.Spec Tryz.prog 77 [tvI c] (rI (opSize c)):=by
 refine spec_of_W hΓ hmix Tryz.func77 rfl (by decide) rfl ?_
 have hb:=s_spec_l01In c 0 17
 have ha:=s_spec_l07Width c
 have hle:=opArg_le c
 unfold opSize
 cases hw:within c 0 17 with
 | false=>
  rw[hw]at hb
  repeat' ((conv=>whnf);first|refine Or.inl ?_|apply oi|(apply fi<;>intro h)|refine ci hb (ai rfl (ai rfl (ai rfl trivial))) ?_|refine⟨_,rfl,?_⟩|((with_reducible show _=_);rfl))
  all_goals try((with_reducible refine Obl.mk ?_);exact KO)
 | true=>
  rw[hw]at hb
  repeat' ((conv=>whnf);first|refine Or.inl ?_|apply oi|(apply fi<;>intro h)|refine ci hb (ai rfl (ai rfl (ai rfl trivial))) ?_|refine ci ha (ai rfl trivial) ?_|refine⟨_,rfl,?_⟩|((with_reducible show _=_);rfl))
  all_goals try((with_reducible refine Obl.mk ?_);exact KO)
  exact⟨by rw[IntWalk.i64_in _ (by omega),Int.add_comm];rfl⟩
end Go.Proofs.YtjmplnfiabmalaaGreat
namespace Go.Proofs.YtjmplnfiabmalaaGreat
open Go.Sim
set_option maxRecDepth 100000
set_option maxHeartbeats 4000000
def startsF:Int→List TItem→List Int
 | at0,[]=>[at0]
 | at0,x::l=>at0::startsF (at0+opSize x.fOp.fCode) l
def endF (at0:Int)(l:List TItem):Int:=atL (startsF at0 l) l.length
def withArg (x:TItem)(a:Int):TItem:=⟨⟨x.fOp.fCode,a⟩,x.fLine,x.fStart,x.fChain,x.fDepth,x.fEntered⟩
def isJump (x:TItem):Bool:=x.fOp.fCode==10 || x.fOp.fCode==11
def jumpI (st:List Int)(k:Nat)(x:TItem):TItem:=if isJump x=true then withArg x (atL st x.fOp.fArg.toNat - atL st (k+1))else x
def placesG (st:List Int):Nat→List TItem→List TPlace
 | _,[]=>[]
 | k,x::l=>⟨atL st k,jumpI st k x⟩::placesG st (k+1) l
def placesF (l:List TItem)(at0:Int):List TPlace:=placesG (startsF at0 l) 0 l
theorem startsF_len:∀(at0:Int) (l:List TItem),(startsF at0 l).length=l.length+1
 | _,[]=>rfl
 | at0,x::l=>by rw[startsF,List.length_cons,startsF_len,List.length_cons]
theorem startsF_zero (at0:Int)(l:List TItem):atL (startsF at0 l) 0=at0:=by cases l <;> rfl
theorem atL_cons (a:Int)(l:List Int)(k:Nat):atL (a::l) (k+1)=atL l k:=by simp[atL]
theorem startsF_succ:∀{at0:Int} {l:List TItem} {k:Nat} {x:TItem},l[k]?=some x→atL (startsF at0 l) (k+1)=atL (startsF at0 l) k+opSize x.fOp.fCode
 | _,[],_,_,h=>by simp at h
 | at0,y::l,0,x,h=>by
  rw[List.getElem?_cons_zero]at h
  injection h with h
  subst h
  rw[startsF,atL_cons,startsF_zero]
  rfl
 | at0,y::l,k+1,x,h=>by
  rw[List.getElem?_cons_succ]at h
  rw[startsF,atL_cons,atL_cons,startsF_succ h]
theorem startsF_le {at0:Int}{l:List TItem}:∀{k:Nat},k≤l.length→at0≤atL (startsF at0 l) k∧atL (startsF at0 l) k≤at0+5 * k
 | 0,_=>by rw[startsF_zero];omega
 | k+1,h=>by
  obtain⟨x,hx⟩:=get_of_lt (l:=l) (k:=k) (by omega)
  have:=startsF_le (at0:=at0) (l:=l) (k:=k) (by omega)
  have:=opSize_le x.fOp.fCode
  rw[startsF_succ hx]
  omega
theorem atL_get {l:List Int}{k:Nat}(h:k < l.length):l[k]?=some (atL l k):=by
 obtain⟨x,hx⟩:=get_of_lt h
 rw[atL,hx];rfl
theorem take_one {α:Type}{l:List α}{k:Nat}{x:α}(h:l[k]?=some x):l.take (k+1)=l.take k++[x]:=by
 rw[List.take_add_one,h];rfl
theorem placesG_len (st:List Int):∀(k:Nat) (l:List TItem),(placesG st k l).length=l.length
 | _,[]=>rfl
 | k,x::l=>by rw[placesG,List.length_cons,placesG_len,List.length_cons]
theorem placesG_get (st:List Int):∀{l:List TItem} {j k:Nat} {x:TItem},l[j]?=some x→(placesG st k l)[j]?=some ⟨atL st (k+j),jumpI st (k+j) x⟩
 | [],_,_,_,h=>by simp at h
 | y::l,0,k,x,h=>by
  rw[List.getElem?_cons_zero]at h
  injection h with h
  subst h
  rfl
 | y::l,j+1,k,x,h=>by
  rw[List.getElem?_cons_succ]at h
  rw[placesG,List.getElem?_cons_succ,placesG_get st h,show k+1+j=k+(j+1) by omega]
theorem placesF_len (l:List TItem)(at0:Int):(placesF l at0).length=l.length:=placesG_len _ _ _
theorem placesF_get {l:List TItem}{at0:Int}{j:Nat}{x:TItem}(h:l[j]?=some x):(placesF l at0)[j]?=some ⟨atL (startsF at0 l) j,jumpI (startsF at0 l) j x⟩:=by
 have:=placesG_get (startsF at0 l) (k:=0) h
 rwa [Nat.zero_add]at this
def jumpsOk (l:List TItem):Prop:=∀x∈l,isJump x=true→0≤x.fOp.fArg∧x.fOp.fArg≤l.length
theorem isJump_iff {x:TItem}:isJump x=true↔x.fOp.fCode=10∨x.fOp.fCode=11:=by simp[isJump]
def inImg (b:TBuild)(image:Int)(f:Nat):Bool:=if b.fSplit=true then(f:Int) % 2==image else image==0
noncomputable def imgL (p:List TLine) (b:TBuild) (image:Int):Nat→Nat→Int→List (Nat×List TPlace)
 | 0,_,_=>[]
 | n+1,f,at0=>if inImg b image f=true then(f,placesF (compileF p f b) at0)::imgL p b image n (f+1) (endF at0 (compileF p f b))else imgL p b image n (f+1) at0
noncomputable def placesOf (p:List TLine) (b:TBuild) (image:Int):List TPlace:=
 if programOk p=true∧buildOk b=true∧within image 0 1=true then((imgL p b image (funs p).length 0 0).map Prod.snd).flatten else []
structure FnOk (p:List TLine) (b:TBuild) (f:Nat):Prop where
 pos:0 < (compileF p f b).length
 len:(compileF p f b).length≤2500
 jmp:jumpsOk (compileF p f b)
theorem InvI.jumps {C:Cx}{g:Nat}{l:List TItem}(h:InvI C g l):0 < l.length∧jumpsOk l:=by
 obtain⟨a,t,rfl,h2,h3⟩:=h
 refine⟨by simp,fun x hx hj=>?_⟩
 rw[isJump_iff]at hj
 rcases List.mem_cons.1 hx with rfl|hx
 ·have:=h2.1;omega
 ·exact(h3 x hx).jump hj
theorem fn_ok {p:List TLine}{b:TBuild}(hs:smallT 1048576 (.lst 4 (p.map TLine.tr)))(h1:programOk p=true)(h2:buildOk b=true){f:Nat}(h:f < (funs p).length):FnOk p b f:=by
 obtain⟨g,C,_,_,_,_,hi⟩:=compileF_inv (f:=(f:Int)) hs h1 h2 (by omega) (by omega)
 exact⟨hi.jumps.1,(compileF_cap hs).1,hi.jumps.2⟩
theorem funs_six {p:List TLine}(h1:programOk p=true):(funs p).length≤6∧p.length≤60:=by
 rw[programOk_S]at h1
 simp only[Bool.and_eq_true,decide_eq_true_eq]at h1
 exact⟨h1.2.1,h1.1⟩
theorem endF_le {l:List TItem}{at0:Int}:at0≤endF at0 l∧endF at0 l≤at0+5 * l.length:=startsF_le (Nat.le_refl _)
theorem imgL_step {p:List TLine}{b:TBuild}{image:Int}{n f:Nat}{at0:Int}:imgL p b image (n+1) f at0=if inImg b image f=true then(f,placesF (compileF p f b) at0)::imgL p b image n (f+1) (endF at0 (compileF p f b))else imgL p b image n (f+1) at0:=rfl
abbrev ImgIx (p:List TLine)(b:TBuild)(image:Int):={q:Nat×Int×List (Nat×List TPlace) // q.1≤(funs p).length∧(0≤q.2.1∧q.2.1≤12500 * q.1)∧q.2.2.length≤q.1∧q.2.2++imgL p b image ((funs p).length - q.1) q.1 q.2.1=imgL p b image (funs p).length 0 0}
theorem imgL_len (p:List TLine)(b:TBuild)(image:Int):∀(n f:Nat) (at0:Int),(imgL p b image n f at0).length≤n
 | 0,_,_=>Nat.le_refl _
 | n+1,f,at0=>by
  rw[imgL]
  split
  ·have:=imgL_len p b image n (f+1) (endF at0 (compileF p f b));rw[List.length_cons];omega
  ·have:=imgL_len p b image n (f+1) at0;omega
theorem imgL_cap {p:List TLine}{b:TBuild}(hs:smallT 1048576 (.lst 4 (p.map TLine.tr))){image:Int}:∀{n f:Nat} {at0:Int} {x:Nat×List TPlace},x∈imgL p b image n f at0→x.2.length≤2500∧∀y∈x.2,y.fItem.fChain.length≤4
 | 0,_,_,_,h=>by cases h
 | n+1,f,at0,x,h=>by
  rw[imgL]at h
  split at h
  ·rcases List.mem_cons.1 h with rfl|h
   ·obtain⟨c1,c2⟩:=compileF_cap (p:=p) (f:=(f:Int)) (b:=b) hs
    refine⟨by rw[placesF_len];exact c1,fun y hy=>?_⟩
    obtain⟨j,hj⟩:=List.getElem?_of_mem hy
    have hjl:=lt_of_get hj
    rw[placesF_len]at hjl
    obtain⟨z,hz⟩:=get_of_lt hjl
    rw[placesF_get hz]at hj
    injection hj with hj
    subst hj
    have:(jumpI (startsF at0 (compileF p f b)) j z).fChain=z.fChain:=by unfold jumpI;split <;> rfl
    rw[this]
    exact c2 z (List.mem_of_getElem? hz)
   ·exact imgL_cap hs h
  ·exact imgL_cap hs h
def allPl (L:List (Nat×List TPlace)):List TPlace:=(L.map Prod.snd).flatten
theorem allPl_take {L:List (Nat×List TPlace)}{k:Nat}{x:Nat×List TPlace}(h:L[k]?=some x):allPl (L.take (k+1))=allPl (L.take k)++x.2:=by
 rw[take_one h];simp[allPl]
theorem allPl_cap {L:List (Nat×List TPlace)}(h:∀x∈L,x.2.length≤2500):∀{k:Nat},k≤L.length→(allPl (L.take k)).length≤2500 * k
 | 0,_=>by simp[allPl]
 | k+1,hk=>by
  obtain⟨x,hx⟩:=get_of_lt (l:=L) (k:=k) (by omega)
  have:=allPl_cap h (k:=k) (by omega)
  have:=h x (List.mem_of_getElem? hx)
  rw[allPl_take hx,List.length_append]
  omega
end Go.Proofs.YtjmplnfiabmalaaGreat
namespace Go.Proofs.YtjmplnfiabmalaaGreat
open Go.Sim
set_option maxRecDepth 100000
set_option maxHeartbeats 4000000
def opLim (c:Int):Int×Int:=
 if c=0 then(-2147483648,2147483647)else if c=1∨c=2∨c=3∨c=4∨c=10∨c=11 then(-32768,32767)
 else if c=16 then(0,65535)else if c=12∨c=13∨c=14∨c=15 then(0,255)else(0,0)
def opOkB (c a:Int):Bool:=within c 0 17 && within a (opLim c).1 (opLim c).2
theorem op_cases (c:Int):(opArg c=(4,true)∧opLim c=(-2147483648,2147483647))∨(opArg c=(2,true)∧opLim c=(-32768,32767))∨(opArg c=(2,false)∧opLim c=(0,65535))∨(opArg c=(1,false)∧opLim c=(0,255))∨(opArg c=(0,false)∧opLim c=(0,0)):=by
 unfold opArg opLim
 repeat' split
 all_goals simp
theorem s_spec_OpOk (x:TOp):Sim.Spec Tryz.prog 180 [.agg x.tr] (rB (opOkB x.fCode x.fArg)):=by
 refine spec_of_Wo hΓ hmix Tryz.func180 rfl (by decide) rfl ?_
 have hi:=s_spec_l01In x.fCode 0 17
 have ha:=s_spec_l07Width x.fCode
 have h0:opOkB x.fCode x.fArg=(within x.fCode 0 17 && within x.fArg (opLim x.fCode).1 (opLim x.fCode).2):=rfl
 rw[h0]
 cases hw:within x.fCode 0 17 with
 | false=>
  rw[hw]at hi
  repeat' ((conv=>whnf);first|(with_reducible first|apply Wx|apply W6)|apply oi|(apply fi<;>intro h)|refine cl ha ?_|refine cl hi ?_|refine⟨_,rfl,?_⟩|((with_reducible show _=_);rfl))
  all_goals try((with_reducible refine Obl.mk ?_);exact KP)
 | true=>
  rw[hw]at hi
  rw[Bool.true_and]
  rcases op_cases x.fCode with⟨e1,e2⟩|⟨e1,e2⟩|⟨e1,e2⟩|⟨e1,e2⟩|⟨e1,e2⟩
  all_goals(
   rw[rArg,e1]at ha
   rw[e2]
   have gb:=s_spec_l01In x.fArg (opLim x.fCode).1 (opLim x.fCode).2
   rw[e2]at gb
   repeat' ((conv=>whnf);first|(with_reducible first|apply Wx|apply W6)|apply oi|(apply fi<;>intro h)|refine cl ha ?_|refine cl hi ?_|refine .inl (ci gb (ai rfl (ai KW (ai KW trivial))) ?_)|refine⟨_,rfl,?_⟩|((with_reducible show _=_);rfl))
   all_goals try((with_reducible refine Obl.mk ?_);exact KP)
   skip)
def opByte (a:Int)(k:Nat):UInt8:=UInt8.ofNat ((a.fdiv (2 ^ (8 * k))) % 256).toNat
def bytesN (a:Int)(n:Nat):List UInt8:=(List.range n).map (opByte a)
def encodeOp (x:TOp):List UInt8:=if opOkB x.fCode x.fArg=true then UInt8.ofNat x.fCode.toNat::bytesN x.fArg (opArg x.fCode).1.toNat else []
theorem bytesN_succ (a:Int)(n:Nat):bytesN a (n+1)=bytesN a n++[opByte a n]:=by simp[bytesN,List.range_succ]
theorem encodeOp_len {x:TOp}(h:opOkB x.fCode x.fArg=true):((encodeOp x).length:Int)=opSize x.fCode:=by
 have hle:=opArg_le x.fCode
 rw[encodeOp,if_pos h]
 unfold opOkB at h
 rw[Bool.and_eq_true]at h
 rw[opSize,if_pos h.1]
 simp[bytesN];omega
theorem encodeOp_le (x:TOp):(encodeOp x).length≤5:=by
 have hle:=opArg_le x.fCode
 unfold encodeOp
 split
 ·simp[bytesN];omega
 ·simp
theorem opByte_eq (a:Int){k:Nat}(h:k≤4):IntKind.u8.wrap (a.fdiv (2 ^ min (IntKind.i64.wrap (8 * (k:Int))).toNat IntKind.i64.bits))=((opByte a k).toNat:Int):=by
 have h8:IntKind.i64.wrap (8 * (k:Int))=((8 * k:Nat):Int):=by rw[IntWalk.i64_in _ (by omega)];rfl
 rw[h8,Int.toNat_natCast,Nat.min_eq_left (by show 8 * k≤64;omega)]
 unfold opByte
 generalize a.fdiv (2 ^ (8 * k))=z
 simp[IntKind.wrap,IntKind.bits,IntKind.signed]
 omega
theorem s_spec_EncodeOp (x:TOp):Sim.Spec Tryz.prog 122 [.agg x.tr] (rS (encodeOp x)):=by
 refine spec_of_Wo hΓ hmix Tryz.func122 rfl (by decide) rfl ?_
 have ho:=s_spec_OpOk x
 have ha:=s_spec_l07Width x.fCode
 unfold encodeOp
 cases hw:opOkB x.fCode x.fArg with
 | false=>
  rw[hw]at ho
  repeat' ((conv=>whnf);first|(with_reducible first|apply Wx|apply W6)|apply oi|(apply fi<;>intro h)|refine cl ho ?_|refine⟨_,rfl,?_⟩|((with_reducible show _=_);rfl))
  all_goals try((with_reducible refine Obl.mk ?_);exact KP)
 | true=>
  rw[hw]at ho
  rw[if_pos rfl]
  have hc:0≤x.fCode∧x.fCode≤17:=by
   unfold opOkB at hw
   rw[Bool.and_eq_true]at hw
   exact within_iff.1 hw.1
  obtain⟨n,hn⟩:∃n:Nat,(opArg x.fCode).1=(n:Int):=⟨(opArg x.fCode).1.toNat,by have:=opArg_le x.fCode;omega⟩
  have hnl:n≤4:=by have:=opArg_le x.fCode;omega
  rw[rArg,hn]at ha
  rw[hn,Int.toNat_natCast]
  generalize hb0:UInt8.ofNat x.fCode.toNat=b0
  have hbc:IntKind.u8.wrap x.fCode=(b0.toNat:Int):=by
   subst hb0
   simp[IntKind.wrap,IntKind.bits,IntKind.signed]
   omega
  repeat' ((conv=>whnf);first|(with_reducible first|apply Wx|apply W6)|apply oi|(apply fi<;>intro h)|refine cl ho ?_|refine cl ha ?_|refine⟨_,rfl,?_⟩|((with_reducible show _=_);rfl))
  all_goals try((with_reducible refine Obl.mk ?_);exact KP)
  conv=>whnf
  refine⟨{k:Nat // k≤n},fun k=>⟨[(1,.r (.c (.ptr (1,0,0) 0))),(3,tI .i64 (n:Int)),(5,.r (.c (.own (19,0,0)))),(6,tI .i64 (k.1:Int))],[((19,0,0),some (.arr true 1 ((b0::bytesN x.fArg k.1).map byteRow))),((1,0,0),some (.box [.t (.int .i64 x.fCode),.t (.int .i64 x.fArg)]))],[19,1]⟩,fun k=>n - k.1,⟨0,by omega⟩,?_,?_⟩
  ·skip
   repeat' ((conv=>whnf);first|(with_reducible first|apply Wx|apply W6)|apply oi|(apply fi<;>intro h)|refine⟨_,rfl,?_⟩|((with_reducible show _=_);rfl))
   all_goals try((with_reducible refine Obl.mk ?_);exact KP)
   all_goals try exact⟨by rw[hbc];rfl⟩
  intro⟨k,hk⟩
  dsimp only
  have hbl:((b0::bytesN x.fArg k).map byteRow).length=k+1:=by simp[bytesN]
  by_cases hlt:k < n
  ·have h8:IntKind.i64.wrap (8 * (k:Int))=((8 * k:Nat):Int):=by rw[IntWalk.i64_in _ (by omega)];rfl
   have hbe:=opByte_eq x.fArg (k:=k) (by omega)
   repeat' ((conv=>whnf);first|(with_reducible first|apply Wx|apply W6)|apply oi|(apply fi<;>intro h)|refine⟨_,rfl,?_⟩|((with_reducible show _=_);rfl))
   all_goals try((with_reducible refine Obl.mk ?_);exact KP)
   all_goals try exact KX
   all_goals try exact⟨by rw[h8];omega⟩
   all_goals try exact⟨⟨by simp only[List.length_nil,List.length_cons,hbl] <;> omega,by simp only[List.length_nil,List.length_cons,hbl] <;> omega⟩⟩
   conv=>whnf
   refine⟨⟨k+1,by omega⟩,?_,by dsimp only;omega⟩
   repeat' ((conv=>whnf);first|(with_reducible first|apply Wx|apply W6)|apply oi|(apply fi<;>intro h)|refine⟨_,rfl,?_⟩|((with_reducible show _=_);rfl))
   all_goals try((with_reducible refine Obl.mk ?_);exact KP)
   all_goals try exact⟨KW⟩
   all_goals try exact⟨by dsimp only;rw[bytesN_succ,hbe,←List.cons_append,List.map_append];rfl⟩
  ·have hkn:k=n:=by omega
   subst hkn
   repeat' ((conv=>whnf);first|(with_reducible first|apply Wx|apply W6)|apply oi|(apply fi<;>intro h)|refine⟨_,rfl,?_⟩|((with_reducible show _=_);rfl))
   all_goals try((with_reducible refine Obl.mk ?_);exact KP)
   all_goals try exact KX
end Go.Proofs.YtjmplnfiabmalaaGreat
namespace Go.Proofs.YtjmplnfiabmalaaGreat
open Go.Sim
set_option maxRecDepth 100000
set_option maxHeartbeats 4000000
theorem opGood_ok {c a:Int}(h:opGood c a):opOkB c a=true:=by
 obtain⟨h0,h1,h2,h3,h4,h5,h6⟩:=h
 unfold opOkB
 rw[Bool.and_eq_true,within_iff,within_iff]
 refine⟨⟨h0,h1⟩,?_⟩
 unfold opLim
 split
 ·have:=h2 (by assumption);dsimp only;omega
 split
 ·have:=h3 (by omega);dsimp only;omega
 split
 ·have:=h4 (by assumption);dsimp only;omega
 split
 ·have:=h5 (by omega);dsimp only;omega
 ·have:=h6 (by omega);dsimp only;omega
structure PlI (p:List TLine) (f j:Nat) (y:TPlace):Prop where
 head:j=0→(y.fItem.fOp.fCode=13∨y.fItem.fOp.fCode=15)∧∃g ln,(funs p)[f]?=some g∧y.fItem.fLine=(g:Int)∧p[g]?=some ln∧ln.fKind=0
 body:0 < j→y.fItem.fOp.fCode≠13∧∃(n:Nat) (ln:TLine),y.fItem.fLine=(n:Int)∧p[n]?=some ln∧ln.fKind≠0
 op:opOkB y.fItem.fOp.fCode y.fItem.fOp.fArg=true
theorem foldIf_alike (p:List TLine)(b:TBuild):alike (foldIf p b) p:=by
 unfold foldIf
 split
 ·exact foldLine_alike p
 ·rfl
theorem jumpI_code (st:List Int)(k:Nat)(x:TItem):(jumpI st k x).fOp.fCode=x.fOp.fCode:=by unfold jumpI;split <;> rfl
theorem jumpI_line (st:List Int)(k:Nat)(x:TItem):(jumpI st k x).fLine=x.fLine:=by unfold jumpI;split <;> rfl
theorem place_facts {p:List TLine}{b:TBuild}{at0:Int}(hs:smallT 1048576 (.lst 4 (p.map TLine.tr)))(h1:programOk p=true)(h2:buildOk b=true){f:Nat}(h:f < (funs p).length){j:Nat}{y:TPlace}(hy:(placesF (compileF p f b) at0)[j]?=some y):PlI p f j y:=by
 obtain⟨g,C,k1,k2,k3,k4,hi⟩:=compileF_inv (f:=(f:Int)) hs h1 h2 (by omega) (by omega)
 have hlen:=(compileF_cap (p:=p) (f:=(f:Int)) (b:=b) hs).1
 have hjl:=hi.jumps.2
 have hj:j < (compileF p (f:Int) b).length:=by have:=lt_of_get hy;rwa [placesF_len]at this
 obtain⟨x,hx⟩:=get_of_lt hj
 rw[placesF_get hx]at hy
 injection hy with hy
 subst hy
 rw[Int.toNat_natCast]at k1
 obtain⟨hgl,ln,hg1,hg2⟩:=funs_lt (List.mem_of_getElem? k1)
 generalize compileF p (f:Int) b=I at *
 obtain⟨a,t,rfl,ha,ht⟩:=hi
 have hop:¬isJump x=true→opGood x.fOp.fCode x.fOp.fArg:=fun hn=>by
  rw[isJump_iff]at hn
  cases j with
  | zero=>
   simp only[List.getElem?_cons_zero,Option.some.injEq]at hx
   subst hx
   have e3:=ha.2.2
   rcases ha.1 with e|e <;> (rw[e,e3];unfold opGood;omega)
  | succ j=>exact(ht x (List.mem_of_getElem? (by simpa using hx))).op hn
 refine⟨fun e=>?_,fun e=>?_,?_⟩
 ·subst e
  simp only[List.getElem?_cons_zero,Option.some.injEq]at hx
  subst hx
  dsimp only
  rw[jumpI_code,jumpI_line]
  exact⟨ha.1,g,ln,k1,ha.2.1,hg1,hg2⟩
 ·obtain⟨j,rfl⟩:∃i,j=i+1:=⟨j - 1,by omega⟩
  have hg:=ht x (List.mem_of_getElem? (by simpa using hx))
  dsimp only
  rw[jumpI_code,jumpI_line]
  refine⟨hg.enter,?_⟩
  obtain⟨z,z0,z1,z2⟩:=hg.line
  rw[k2]at z1
  obtain⟨w,w1,w2,_⟩:=(foldIf_alike p b).get z1
  exact⟨x.fLine.toNat,w,by omega,w1,by omega⟩
 ·dsimp only
  by_cases hn:isJump x=true
  ·rw[jumpI,if_pos hn]
   have h3:=hjl x (List.mem_of_getElem? hx) hn
   rw[isJump_iff]at hn
   have s1:=startsF_le (at0:=at0) (l:=a::t) (k:=x.fOp.fArg.toNat) (by omega)
   have s2:=startsF_le (at0:=at0) (l:=a::t) (k:=j+1) (by omega)
   refine opGood_ok ?_
   dsimp only[withArg]
   unfold opGood
   omega
  ·rw[jumpI,if_neg hn]
   exact opGood_ok (hop hn)
def codeOf (l:List TPlace):List UInt8:=l.flatMap fun x=>encodeOp x.fItem.fOp
theorem codeOf_append (a b:List TPlace):codeOf (a++b)=codeOf a++codeOf b:=by simp[codeOf]
theorem codeOf_one (x:TPlace):codeOf [x]=encodeOp x.fItem.fOp:=by simp[codeOf]
theorem codeOf_len:∀(l:List TPlace),(codeOf l).length≤5 * l.length
 | []=>by simp[codeOf]
 | x::l=>by
  have h1:=codeOf_len l
  have h2:=encodeOp_le x.fItem.fOp
  rw[show x::l=[x]++l from rfl,codeOf_append,List.length_append,List.length_append,codeOf_one]
  simp only[List.length_cons,List.length_nil]
  omega
theorem codeOf_places {l:List TItem}{at0:Int}(h:∀y∈placesF l at0,opOkB y.fItem.fOp.fCode y.fItem.fOp.fArg=true):∀{k:Nat},k≤l.length→((codeOf ((placesF l at0).take k)).length:Int)=atL (startsF at0 l) k - at0
 | 0,_=>by rw[startsF_zero];simp[codeOf]
 | k+1,hk=>by
  obtain⟨x,hx⟩:=get_of_lt (l:=l) (k:=k) (by omega)
  have hg:=placesF_get (at0:=at0) hx
  have ih:=codeOf_places h (k:=k) (by omega)
  have he:=encodeOp_len (h _ (List.mem_of_getElem? hg))
  dsimp only at he
  rw[jumpI_code]at he
  rw[take_one hg,codeOf_append,List.length_append,codeOf_one,startsF_succ hx]
  dsimp only
  omega
def nameOf (p:List TLine)(f:Nat):List UInt8:=match(funs p)[f]? with
 | some g=>(match p[g]? with|some y=>y.fName|none=>[])
 | none=>[]
def symsOf (p:List TLine):Int→List (Nat×List TPlace)→List TSymbol
 | _,[]=>[]
 | at0,(f,l)::L=>⟨nameOf p f,at0,(codeOf l).length⟩::symsOf p (at0+(codeOf l).length) L
theorem symsOf_snoc (p:List TLine):∀(L:List (Nat×List TPlace)) (at0:Int) (x:Nat×List TPlace),symsOf p at0 (L++[x])=symsOf p at0 L++[⟨nameOf p x.1,at0+(codeOf (allPl L)).length,(codeOf x.2).length⟩]
 | [],at0,(f,l)=>by simp[symsOf,allPl,codeOf]
 |(g,m)::L,at0,x=>by
  rw[List.cons_append,symsOf,symsOf_snoc p L,symsOf,List.cons_append]
  congr 3
  have:allPl ((g,m)::L)=m++allPl L:=by simp[allPl]
  rw[this,codeOf_append,List.length_append]
  simp only[TSymbol.mk.injEq,true_and,and_true]
  omega
theorem symsOf_len (p:List TLine):∀(L:List (Nat×List TPlace)) (at0:Int),(symsOf p at0 L).length=L.length
 | [],_=>rfl
 |(f,l)::L,at0=>by rw[symsOf,List.length_cons,symsOf_len p L,List.length_cons]
noncomputable def assemble (p:List TLine) (b:TBuild) (image:Int):TImage:=
 if programOk p=true∧buildOk b=true∧within image 0 1=true then⟨codeOf (allPl (imgL p b image (funs p).length 0 0)),symsOf p 0 (imgL p b image (funs p).length 0 0)⟩else⟨[],[]⟩
theorem imgL_fun {p:List TLine}{b:TBuild}{image:Int}:∀{n f:Nat} {at0:Int} {x:Nat×List TPlace},x∈imgL p b image n f at0→f≤x.1∧x.1 < f+n
 | 0,_,_,_,h=>by cases h
 | n+1,f,at0,x,h=>by
  rw[imgL]at h
  split at h
  ·rcases List.mem_cons.1 h with rfl|h
   ·exact⟨Nat.le_refl _,by dsimp only;omega⟩
   ·have:=imgL_fun h;omega
  ·have:=imgL_fun h;omega
theorem imgL_at {p:List TLine}{b:TBuild}{image:Int}(hs:smallT 1048576 (.lst 4 (p.map TLine.tr)))(h1:programOk p=true)(h2:buildOk b=true):∀{n f:Nat} {at0:Int} {i:Nat} {x:Nat×List TPlace},f+n≤(funs p).length→(imgL p b image n f at0)[i]?=some x→
  x.2=placesF (compileF p (x.1:Int) b) (at0+((codeOf (allPl ((imgL p b image n f at0).take i))).length:Int))∧x.1 < (funs p).length∧0 < x.2.length
 | 0,_,_,_,_,_,h=>by simp[imgL]at h
 | n+1,f,at0,i,x,hf,h=>by
  rw[imgL_step]at h ⊢
  split at h
  ·rename_i hin
   rw[if_pos hin]
   cases i with
   | zero=>
    simp only[List.getElem?_cons_zero,Option.some.injEq]at h
    subst h
    have:=(fn_ok (f:=f) hs h1 h2 (by omega)).pos
    refine⟨by simp[allPl,codeOf],by dsimp only;omega,by dsimp only;rw[placesF_len];exact this⟩
   | succ i=>
    rw[List.getElem?_cons_succ]at h
    obtain⟨k1,k2,k3⟩:=imgL_at hs h1 h2 (by omega) h
    refine⟨?_,k2,k3⟩
    have hl:=codeOf_places (l:=compileF p (f:Int) b) (at0:=at0) (fun y hy=>by
     obtain⟨j,hj⟩:=List.mem_iff_getElem?.1 hy
     exact(place_facts hs h1 h2 (by omega) hj).op) (k:=(compileF p (f:Int) b).length) (Nat.le_refl _)
    rw[List.take_of_length_le (by rw[placesF_len];exact Nat.le_refl _)]at hl
    rw[k1,List.take_succ_cons,show ∀(a:Nat×List TPlace) (l:List (Nat×List TPlace)),allPl (a::l)=a.2++allPl l from fun a l=>by simp[allPl],codeOf_append,List.length_append]
    congr 1
    have he:endF at0 (compileF p (f:Int) b)=atL (startsF at0 (compileF p (f:Int) b)) (compileF p (f:Int) b).length:=rfl
    dsimp only
    rw[he]at *
    omega
  ·rename_i hin
   rw[if_neg hin]
   exact imgL_at hs h1 h2 (by omega) h
theorem imgL_place {p:List TLine}{b:TBuild}{image:Int}(hs:smallT 1048576 (.lst 4 (p.map TLine.tr)))(h1:programOk p=true)(h2:buildOk b=true){i:Nat}{x:Nat×List TPlace}(h:(imgL p b image (funs p).length 0 0)[i]?=some x){j:Nat}{y:TPlace}(hy:x.2[j]?=some y):
  PlI p x.1 j y∧y.fOffset=((codeOf (allPl ((imgL p b image (funs p).length 0 0).take i))).length:Int)+(codeOf (x.2.take j)).length:=by
 obtain⟨k1,k2,_⟩:=imgL_at hs h1 h2 (by omega) h
 generalize hS:((codeOf (allPl ((imgL p b image (funs p).length 0 0).take i))).length:Int)=S at *
 rw[Int.zero_add]at k1
 rw[k1]at hy ⊢
 refine⟨place_facts hs h1 h2 k2 hy,?_⟩
 have hj:j < (compileF p (x.1:Int) b).length:=by have:=lt_of_get hy;rwa [placesF_len]at this
 rw[codeOf_places (fun z hz=>by
  obtain⟨j,hj⟩:=List.mem_iff_getElem?.1 hz
  exact(place_facts hs h1 h2 k2 hj).op) (by omega)]
 obtain⟨z,hz⟩:=get_of_lt hj
 rw[placesF_get hz]at hy
 injection hy with hy
 subst hy
 dsimp only
 omega
def curPl (L:List (Nat×List TPlace))(i j:Nat):List TPlace:=match L[i]? with|some x=>x.2.take j|none=>[]
def codeQ (L:List (Nat×List TPlace))(i j:Nat):List UInt8:=codeOf (allPl (L.take i))++codeOf (curPl L i j)
def symsQ (p:List TLine)(L:List (Nat×List TPlace))(i j:Nat):List TSymbol:=symsOf p 0 (L.take i)++(match L[i]? with
 | some x=>if j=0 then []else [⟨nameOf p x.1,((codeOf (allPl (L.take i))).length:Int),((codeOf (x.2.take j)).length:Int)⟩]
 | none=>[])
theorem allPl_snoc (L:List (Nat×List TPlace))(x:Nat×List TPlace):allPl (L++[x])=allPl L++x.2:=by simp[allPl]
theorem codeQ_next {L:List (Nat×List TPlace)}{i:Nat}{x:Nat×List TPlace}(h:L[i]?=some x):codeQ L i x.2.length=codeQ L (i+1) 0:=by
 have:curPl L (i+1) 0=[]:=by unfold curPl;split <;> simp
 rw[codeQ,codeQ,this,take_one h,allPl_snoc,codeOf_append,curPl,h]
 simp[codeOf]
theorem symsQ_next {p:List TLine}{L:List (Nat×List TPlace)}{i:Nat}{x:Nat×List TPlace}(h:L[i]?=some x)(h0:0 < x.2.length):symsQ p L i x.2.length=symsQ p L (i+1) 0:=by
 rw[symsQ,symsQ,take_one h,symsOf_snoc,h]
 dsimp only
 rw[if_neg (by omega),List.take_of_length_le (Nat.le_refl _),Int.zero_add]
 cases L[i+1]? <;> simp
theorem symsQ_end {p:List TLine}{L:List (Nat×List TPlace)}:symsQ p L L.length 0=symsOf p 0 L:=by
 rw[symsQ,List.take_of_length_le (Nat.le_refl _),List.getElem?_eq_none (Nat.le_refl _)]
 simp
theorem codeQ_end {L:List (Nat×List TPlace)}:codeQ L L.length 0=codeOf (allPl L):=by
 rw[codeQ,List.take_of_length_le (Nat.le_refl _),curPl,List.getElem?_eq_none (Nat.le_refl _)]
 simp[codeOf]
theorem allPl_at {L:List (Nat×List TPlace)}{i j:Nat}{x:Nat×List TPlace}{y:TPlace}(h:L[i]?=some x)(hy:x.2[j]?=some y):(allPl L)[(allPl (L.take i)).length+j]?=some y:=by
 have e:L=L.take i++x::L.drop (i+1):=by
  rw[←drop_at h,List.take_append_drop]
 have e2:allPl L=allPl (L.take i)++(x.2++allPl (L.drop (i+1))):=by
  conv=>lhs;rw[e]
  simp[allPl]
 rw[e2,List.getElem?_append_right (by omega),Nat.add_sub_cancel_left,List.getElem?_append_left (lt_of_get hy),hy]
theorem next_pos {p:List TLine}{L:List (Nat×List TPlace)}(hla:∀{i:Nat} {x:Nat×List TPlace},L[i]?=some x→0 < x.2.length){i j:Nat}{x:Nat×List TPlace}(hx:L[i]?=some x)(hj:j < x.2.length):∃q:Nat×Nat,q.1≤L.length∧(∀x,L[q.1]?=some x→q.2 < x.2.length)∧(q.1=L.length→q.2=0)∧
  (allPl (L.take q.1)).length+q.2=(allPl (L.take i)).length+(j+1)∧codeQ L q.1 q.2=codeQ L i (j+1)∧symsQ p L q.1 q.2=symsQ p L i (j+1):=by
 have hi:=lt_of_get hx
 by_cases hn:j+1 < x.2.length
 ·exact⟨(i,j+1),by dsimp only;omega,fun z hz=>by dsimp only at hz ⊢;rw[hx]at hz;injection hz with hz;subst hz;exact hn,fun h=>by dsimp only at h;omega,rfl,rfl,rfl⟩
 ·have e:j+1=x.2.length:=by omega
  refine⟨(i+1,0),by dsimp only;omega,fun z hz=>hla hz,fun _=>rfl,?_,?_,?_⟩
  ·dsimp only;rw[take_one hx,allPl_snoc,List.length_append];omega
  ·dsimp only;rw[e,codeQ_next hx]
  ·dsimp only;rw[e,symsQ_next hx (hla hx)]
theorem symsQ_zero {p:List TLine}{L:List (Nat×List TPlace)}{i:Nat}:symsQ p L i 0=symsOf p 0 (L.take i):=by
 rw[symsQ];cases L[i]? <;> simp
theorem codeQ_zero {L:List (Nat×List TPlace)}{i:Nat}:codeQ L i 0=codeOf (allPl (L.take i)):=by
 rw[codeQ,curPl];cases L[i]? <;> simp[codeOf]
theorem symsQ_pos {p:List TLine}{L:List (Nat×List TPlace)}{i j:Nat}{x:Nat×List TPlace}(hx:L[i]?=some x):symsQ p L i (j+1)=symsOf p 0 (L.take i)++[⟨nameOf p x.1,((codeOf (allPl (L.take i))).length:Int),((codeOf (x.2.take (j+1))).length:Int)⟩]:=by
 rw[symsQ,hx];rfl
theorem codeQ_pos {L:List (Nat×List TPlace)}{i j:Nat}{x:Nat×List TPlace}{y:TPlace}(hx:L[i]?=some x)(hy:x.2[j]?=some y):codeQ L i (j+1)=codeQ L i j++encodeOp y.fItem.fOp:=by
 rw[codeQ,codeQ,curPl,curPl,hx]
 dsimp only
 rw[take_one hy,codeOf_append,codeOf_one,List.append_assoc]
theorem codeQ_len {L:List (Nat×List TPlace)}{i j:Nat}{x:Nat×List TPlace}(hx:L[i]?=some x):(codeQ L i j).length=(codeOf (allPl (L.take i))).length+(codeOf (x.2.take j)).length:=by
 rw[codeQ,curPl,hx,List.length_append]
end Go.Proofs.YtjmplnfiabmalaaGreat
namespace Go.Proofs.YtjmplnfiabmalaaGreat
open Go.Sim
set_option maxRecDepth 100000
set_option maxHeartbeats 4000000
def oL {α:Type}(o:Option (List α)):List α:=match o with|some l=>l|none=>[]
end Go.Proofs.YtjmplnfiabmalaaGreat
namespace Go.Proofs.YtjmplnfiabmalaaGreat
open Go.Sim
set_option maxRecDepth 100000
set_option maxHeartbeats 4000000
def symHit (off:Int)(x:TSymbol):Bool:=within x.fStart 0 1000000 && (within x.fSize 0 1000000 && (decide (x.fStart≤off) && decide (off < x.fStart+x.fSize)))
def symAtF (off:Int):List TSymbol→Nat→Int
 | [],_=> -1
 | x::l,k=>if symHit off x then(k:Int)else symAtF off l (k+1)
def symbolAt (l:List TSymbol)(off:Int):Int:=symAtF off l 0
theorem symAtF_at {off:Int}{l:List TSymbol}{k:Nat}{x:TSymbol}(hx:l[k]?=some x):symAtF off (l.drop k) k=if symHit off x then(k:Int)else symAtF off (l.drop (k+1)) (k+1):=by
 rw[drop_at hx,symAtF]
theorem symAtF_range {off:Int}:∀(l:List TSymbol) (k:Nat),symAtF off l k= -1∨((k:Int)≤symAtF off l k∧symAtF off l k < k+l.length)
 | [],k=> .inl (by rw[symAtF])
 | x::l,k=>by
  rw[symAtF]
  split
  ·exact .inr ⟨by omega,by simp only[List.length_cons];omega⟩
  ·rcases symAtF_range l (k+1)with h|h
   ·exact .inl h
   ·exact .inr ⟨by omega,by simp only[List.length_cons];omega⟩
theorem symbolAt_range (l:List TSymbol)(off:Int):symbolAt l off= -1∨(0≤symbolAt l off∧symbolAt l off < l.length):=by
 have:=symAtF_range (off:=off) l 0
 unfold symbolAt
 omega
theorem s_spec_SymbolAt (i:TImage)(off:Int)(hl:i.fSymbols.length≤1048576):Sim.Spec Tryz.prog 166 [.agg i.tr,tvI off] (rI (symbolAt i.fSymbols off)):=by
 refine spec_of_W hΓ hmix Tryz.func166 rfl (by decide) rfl ?_
 obtain⟨code,l⟩:=i
 dsimp only at hl ⊢
 have hlen:(l.map TSymbol.tr).length=l.length:=by simp
 unfold symbolAt
 repeat' ((conv=>whnf);first|refine Or.inl ?_|apply oi|(apply fi<;>intro h)|refine⟨_,rfl,?_⟩|((with_reducible show _=_);rfl))
 all_goals try((with_reducible refine Obl.mk ?_);exact KO)
 conv=>whnf
 refine⟨{k:Nat // k≤l.length∧symAtF off (l.drop k) k=symAtF off l 0},fun k=>⟨[(1,tI .i64 off),(2,.r (.c (.ptr (2,0,0) 0))),(5,tI .i64 (k.1:Int))],[((2,0,0),some (.box [.t (.str code),.t (.lst 3 (l.map TSymbol.tr))]))],[2]⟩,fun k=>l.length - k.1,⟨0,by omega,by rw[List.drop_zero]⟩,?_,?_⟩
 ·skip
  repeat' ((conv=>whnf);first|refine Or.inl ?_|apply oi|(apply fi<;>intro h)|refine⟨_,rfl,?_⟩|((with_reducible show _=_);rfl))
  all_goals try((with_reducible refine Obl.mk ?_);exact KO)
 intro⟨k,hk,hr⟩
 dsimp only
 by_cases hlt:k < l.length
 ·obtain⟨x,hx⟩:=get_of_lt hlt
  rw[symAtF_at hx]at hr
  have hb1:=s_spec_l01In x.fStart 0 1000000
  have hb2:=s_spec_l01In x.fSize 0 1000000
  have hback:symHit off x=false→symAtF off (l.drop (k+1)) (k+1)=symAtF off l 0:=fun h=>by rw[h,if_neg (by simp)]at hr;exact hr
  cases hw1:within x.fStart 0 1000000 with
  | false=>
   have hh:symHit off x=false:=by rw[symHit,hw1];rfl
   rw[hw1]at hb1
   repeat' ((conv=>whnf);first|refine Or.inl ?_|apply oi|(apply fi<;>intro h)|refine⟨k,x.tr,rfl,map_get hx,?_⟩|refine ci hb1 (ai rfl (ai rfl (ai rfl trivial))) ?_|refine⟨_,rfl,?_⟩|((with_reducible show _=_);rfl))
   all_goals try((with_reducible refine Obl.mk ?_);exact KO)
   all_goals try exact KX
   all_goals conv=>whnf
   all_goals refine⟨⟨k+1,by omega,hback hh⟩,?_,by dsimp only;omega⟩
   repeat' ((conv=>whnf);first|refine Or.inl ?_|apply oi|(apply fi<;>intro h)|refine⟨_,rfl,?_⟩|((with_reducible show _=_);rfl))
   all_goals try((with_reducible refine Obl.mk ?_);exact KO)
   all_goals exact⟨by dsimp only;rw[IntWalk.i64_in _ (by omega)];rfl⟩
  | true=>
   rw[hw1]at hb1
   cases hw2:within x.fSize 0 1000000 with
   | false=>
    have hh:symHit off x=false:=by rw[symHit,hw1,hw2];rfl
    rw[hw2]at hb2
    repeat' ((conv=>whnf);first|refine Or.inl ?_|apply oi|(apply fi<;>intro h)|refine⟨k,x.tr,rfl,map_get hx,?_⟩|refine ci hb1 (ai rfl (ai rfl (ai rfl trivial))) ?_|refine ci hb2 (ai rfl (ai rfl (ai rfl trivial))) ?_|refine⟨_,rfl,?_⟩|((with_reducible show _=_);rfl))
    all_goals try((with_reducible refine Obl.mk ?_);exact KO)
    all_goals try exact KX
    all_goals conv=>whnf
    all_goals refine⟨⟨k+1,by omega,hback hh⟩,?_,by dsimp only;omega⟩
    repeat' ((conv=>whnf);first|refine Or.inl ?_|apply oi|(apply fi<;>intro h)|refine⟨_,rfl,?_⟩|((with_reducible show _=_);rfl))
    all_goals try((with_reducible refine Obl.mk ?_);exact KO)
    all_goals exact⟨by dsimp only;rw[IntWalk.i64_in _ (by omega)];rfl⟩
   | true=>
    rw[hw2]at hb2
    have hi1:=within_iff.1 hw1
    have hi2:=within_iff.1 hw2
    have hw3:IntKind.i64.wrap (x.fStart+x.fSize)=x.fStart+x.fSize:=IntWalk.i64_in _ (by omega)
    cases hh:symHit off x with
    | true=>
     rw[hh,if_pos rfl]at hr
     rw[symHit,hw1,hw2]at hh
     simp only[Bool.true_and,Bool.and_eq_true,decide_eq_true_eq]at hh
     repeat' ((conv=>whnf);first|refine Or.inl ?_|apply oi|(apply fi<;>intro h)|refine⟨k,x.tr,rfl,map_get hx,?_⟩|refine ci hb1 (ai rfl (ai rfl (ai rfl trivial))) ?_|refine ci hb2 (ai rfl (ai rfl (ai rfl trivial))) ?_|refine⟨_,rfl,?_⟩|((with_reducible show _=_);rfl))
     all_goals try((with_reducible refine Obl.mk ?_);exact KO)
     all_goals try exact KX
     all_goals try exact⟨by rw[hr]⟩
     all_goals(exfalso;(try rw[hw3]at h);simp only[decide_eq_false_iff_not]at h;omega)
    | false=>
     have hbk:=hback hh
     rw[symHit,hw1,hw2]at hh
     simp only[Bool.true_and,Bool.and_eq_false_iff,decide_eq_false_iff_not]at hh
     repeat' ((conv=>whnf);first|refine Or.inl ?_|apply oi|(apply fi<;>intro h)|refine⟨k,x.tr,rfl,map_get hx,?_⟩|refine ci hb1 (ai rfl (ai rfl (ai rfl trivial))) ?_|refine ci hb2 (ai rfl (ai rfl (ai rfl trivial))) ?_|refine⟨_,rfl,?_⟩|((with_reducible show _=_);rfl))
     all_goals try((with_reducible refine Obl.mk ?_);exact KO)
     all_goals try exact KX
     all_goals try(exfalso;rw[hw3]at *;simp only[decide_eq_true_eq]at *;omega)
     all_goals conv=>whnf
     all_goals refine⟨⟨k+1,by omega,hbk⟩,?_,by dsimp only;omega⟩
     repeat' ((conv=>whnf);first|refine Or.inl ?_|apply oi|(apply fi<;>intro h)|refine⟨_,rfl,?_⟩|((with_reducible show _=_);rfl))
     all_goals try((with_reducible refine Obl.mk ?_);exact KO)
     all_goals exact⟨by dsimp only;rw[IntWalk.i64_in _ (by omega)];rfl⟩
 ·have hge:l.length≤k:=by omega
  rw[List.drop_eq_nil_of_le hge,symAtF]at hr
  repeat' ((conv=>whnf);first|refine Or.inl ?_|apply oi|(apply fi<;>intro h)|refine⟨_,rfl,?_⟩|((with_reducible show _=_);rfl))
  all_goals try((with_reducible refine Obl.mk ?_);exact KO)
  all_goals try exact KX
  exact⟨by rw[←hr]⟩
end Go.Proofs.YtjmplnfiabmalaaGreat
