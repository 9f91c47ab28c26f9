import Derived.Test.YtoglejgmjeojoaaGreatGg
namespace Go.Proofs.YtoglejgmjeojoaaGreat
open Go.Sim
set_option maxRecDepth 100000
set_option maxHeartbeats 4000000
def wW (C:Cx)(lev:Nat):Prop:=∀(x:Sc) (S:List (Sc×List Int)) (s:Gs) (d:Int),ScOk C x (bM (S++[(x,[])]))→s.items.length+(jV C.p x.f - x.f) * (20 * bW lev+3)≤68719476736→((lev+S.length:Nat):Int)=C.b.faj→0≤d→d+30+100 * (lev:Int)≤1900→
 bx Tryz.prog 198 [cL] (fQ (0,0,1) (0,0,2) C s d (scH (S++[(x,[])]))) (.tup []) (fQ (1,0,1) (1,0,2) C (aQ C (aT C lev) x (bM (S++[(x,[])])) d s).1 d (scH (S++[(x,(aQ C (aT C lev) x (bM (S++[(x,[])])) d s).2)])))
theorem iH (S:List (Sc×List Int))(y:Sc×List Int):bM (S++[y])=bM S++[y.1.f]:=by simp
theorem Ep {C:Cx}(hC:CxOk C){lev:Nat}(hL:wW C lev):Df C (lev+1):=by
 intro x S lv k g s d hx hk hg hrb hr
 refine aD hΓ ao Tryz.func261 rfl (by decide) rfl rfl ?_
 obtain⟨r1,r2,r3,r4⟩:=dS hrb
 obtain⟨y,hy,hy0⟩:=hg
 have h60:=hC.len
 have hin:=hC.inl
 have hloc:=cG hC ⟨y,hy,hy0⟩
 have hA:argsN C.p g=y.faf.length:=by rw[argsN,hy]
 have hLo:=gK C.p (g:Int) (by omega) (fun z hz=>aA hC.small hz)
 have htop:=oW hC hx
 have hil:(bM (S++[(x,lv)])).length=S.length+1:=by simp
 rw[hil]at htop r1
 have hxl:x.locals.length≤8:=by obtain⟨_,_,_,_,_,h⟩:=hx.endE hC;exact h
 have hxf:=hx.first
 rw[hil]at hxf
 have ha:=hC.args
 have hch:=hx.chain
 rw[hil]at hch
 obtain⟨q1,q2,q3,q4⟩:=hr
 have hfl:=fj (x.chain++[(k:Int)])
 have hyl:(y.faf.map ag).length=y.faf.length:=by simp
 have hxll:(x.locals.map ag).length=x.locals.length:=by simp
 have hcl:(x.chain.map aa).length=x.chain.length:=by simp
 have e1:IntKind.i64.wrap ((x.locals.length:Int) - C.args)=(x.locals.length:Int) - C.args:=by rw[IntWalk.i64_in _ (by omega)]
 have e2:IntKind.i64.wrap (x.first+(x.locals.length:Int))=x.first+x.locals.length:=by rw[IntWalk.i64_in _ (by omega)]
 repeat' ((conv=>whnf);first|(with_reducible apply W1;fail_if_success (with_reducible show Wo _ _ _ _ (Code.seq (Code.region 3 _ _) _) _ _))|(with_reducible first|apply W2|apply W3|apply W4|apply W5|apply W6|apply W7|apply W8|apply W9)|apply aZ|apply oi|(apply fi<;>intro h)|refine⟨g,y.tr,rfl,ab hy,?_⟩|refine⟨_,rfl,?_⟩|exact rfl)
 all_goals try exact⟨KP⟩
 refine ip Unit (fun _=>⟨[(0,cL),(1,tI .i64 (g:Int)),(2,tI .i64 (k:Int)),(7,.r (.c (.ptr (7,0,0) 0))),(8,tI .i64 (argsN C.p g:Int)),(9,tI .i64 (bp C x))],
  [(
   (0,0,0),some (oe C s d (0,0,1) (0,0,2))),((0,0,1),some (.dar 7 (itR s.items) none)),((0,0,2),some (.dar 6 (scH (S++[(x,lv)])) none)),
   ((7,0,0),some (.box [.t (.int .i64 (x.f:Int)),.t (.lst 1 (x.chain.map aa)),.t (.lst 1 (x.locals.map ag)),.t (.int .i64 x.first),.t (.bool x.outer),.opq]))],[7,0]⟩) ?_ ?_
 ·skip
  repeat' ((conv=>whnf);first|apply Wx|apply W6|apply oi|(apply fi<;>intro h)|refine⟨_,rfl,?_⟩|exact rfl)
  all_goals try exact⟨KP⟩
  all_goals(conv=>whnf)
  all_goals(refine⟨(),?_⟩)
  repeat' ((conv=>whnf);first|apply Wx|apply W6|apply oi|(apply fi<;>intro h)|refine⟨_,rfl,?_⟩|exact rfl)
  all_goals try exact⟨KP⟩
  all_goals(refine⟨congrArg (Tr.int _) ?_⟩)
  all_goals try(rw[hyl,hA];done)
  all_goals(unfold bp;rw[hxll])
  all_goals first|(rw[if_pos (by assumption)];exact e1)|(rw[if_neg (by simp_all)];exact e2)
 intro _
 repeat' ((conv=>whnf);first|(with_reducible apply W1;fail_if_success (with_reducible show Wo _ _ _ _ (Code.region 7 _ _) _ _))|(with_reducible first|apply W2|apply W3|apply W4|apply W5|apply W6|apply W7|apply W8|apply W9)|apply aZ|apply oi|(apply fi<;>intro h)|refine cl hLo ?_|refine⟨_,rfl,?_⟩|exact rfl)
 all_goals try exact⟨KP⟩
 all_goals try exact⟨⟨by simp <;> omega,by simp <;> omega⟩⟩
 conv=>whnf
 refine iE ⟨[(0,cL),(1,tI .i64 (g:Int)),(2,tI .i64 (k:Int)),(7,.r (.c (.ptr (7,0,0) 0))),(8,tI .i64 (argsN C.p g:Int)),(9,tI .i64 (bp C x)),(10,.r (.c (.ptr (10,0,0) 0)))],
  [(
   (0,0,0),some (oe C s d (0,0,1) (0,0,2))),((0,0,1),some (.dar 7 (itR s.items) none)),((0,0,2),some (.dar 6 (scH (S++[(x,lv)])) none)),
   ((7,0,0),some (.box [.t (.int .i64 (x.f:Int)),.t (.lst 1 (x.chain.map aa)),.t (.lst 1 (x.locals.map ag)),.t (.int .i64 x.first),.t (.bool x.outer),.opq])),
   ((10,0,0),some (.box [.t (.int .i64 (g:Int)),.t (.lst 1 ((x.chain++[(k:Int)]).map aa)),.t (.lst 1 ((localsOf C.p (g:Int)).map ag)),.t (.int .i64 (bp C x)),.t (.bool false),.nils 1]))],_⟩ ?_ ?_ rfl ?_
 ·exact⟨.inl rfl,.inl rfl,.inl rfl,.inl rfl,.inl rfl,.inl rfl,.inl rfl,trivial⟩
 ·refine⟨.inr (.inl rfl),.inr (.inl rfl),.inr (.inl rfl),.inr (.inl rfl),.inr (.inr (.inl ⟨_,_,rfl,rfl,.inl rfl,.inr (.inr ⟨_,rfl,?_,?_⟩),.inr (.inr ⟨_,rfl,rfl,?_⟩),.inl rfl,.inl rfl,.inr (.inl ⟨_,_,rfl,rfl⟩),trivial⟩)),trivial⟩
  ·show Tr.lst 1 _=Tr.lst 1 ([]++List.map aa x.chain++[[Tr.int .i64 (k:Int)]])
   simp[aa]
  all_goals(intro q hq;simp only[AC.ids,List.mem_cons,List.not_mem_nil,or_false]at hq;subst hq;rfl)
 have hll:((localsOf C.p (g:Int)).map ag).length=(localsOf C.p (g:Int)).length:=by simp
 have em:IntKind.i64.wrap (bp C x+(((localsOf C.p (g:Int)).map ag).length:Int))=bp C x+((localsOf C.p (g:Int)).length:Int):=by rw[hll,IntWalk.i64_in _ (by omega)]
 obtain⟨s0,hs0⟩:∃s0:Gs,(⟨s.items,max s.most (bp C x+(localsOf C.p (g:Int)).length),s.start⟩:Gs)=s0:=⟨_,rfl⟩
 have z1:s.items=s0.items:=by rw[←hs0]
 have z2:max s.most (bp C x+(localsOf C.p (g:Int)).length)=s0.most:=by rw[←hs0]
 have z3:s.start=s0.start:=by rw[←hs0]
 obtain⟨Y,hY⟩:∃Y,bC C x k g=Y:=⟨_,rfl⟩
 obtain⟨T1,hT1⟩:∃T1,cz C (bC C x k g) x.chain k (argsN C.p g) d s0=T1:=⟨_,rfl⟩
 repeat' ((conv=>whnf);first|apply Wx|apply W6|apply oi|(apply fi<;>intro h)|refine⟨_,rfl,?_⟩|exact rfl)
 all_goals try exact⟨KP⟩
 conv=>whnf
 refine⟨{q:Nat×Gs // q.1≤argsN C.p g∧cz C (bC C x k g) x.chain k q.1 (d - ((argsN C.p g - q.1:Nat):Int)) q.2=T1∧q.2.items.length≤300 - q.1},fun q=>⟨[(0,cL),(1,tI .i64 (g:Int)),(2,tI .i64 (k:Int)),(7,.r (.c (.ptr (7,0,0) 0))),(8,tI .i64 (argsN C.p g:Int)),(10,.r (.c (.ptr (10,0,0) 0))),(11,tI .i64 ((q.1.1:Int) - 1))],
  [(
   (0,0,0),some (oe C q.1.2 (d - ((argsN C.p g - q.1.1:Nat):Int)) (7,0,1) (7,0,2))),((7,0,1),some (.dar 7 (itR q.1.2.items) none)),((7,0,2),some (.dar 6 (scH (S++[(x,lv)])) none)),
   ((7,0,0),some (.box [.t (.int .i64 (x.f:Int)),.t (.lst 1 (x.chain.map aa)),.t (.lst 1 (x.locals.map ag)),.t (.int .i64 x.first),.t (.bool x.outer),.opq])),
   ((10,0,0),some (.box [.t (.int .i64 (g:Int)),.t (.lst 1 ((x.chain++[(k:Int)]).map aa)),.t (.lst 1 ((localsOf C.p (g:Int)).map ag)),.t (.int .i64 (bp C x)),.t (.bool false),.nils 1]))],[10,7,0]⟩,fun q=>q.1.1,⟨(argsN C.p g,s0),by dsimp only;omega,by rw[←hT1];simp,by dsimp only;rw[←z1];omega⟩,?_,?_⟩
 ·skip
  repeat' ((conv=>whnf);first|apply Wx|apply W6|apply oi|(apply fi<;>intro h)|refine⟨_,rfl,?_⟩|exact rfl)
  all_goals try exact⟨KP⟩
  all_goals try exact⟨by rw[z1]⟩
  all_goals try exact⟨by rw[z3]⟩
  all_goals try exact⟨congrArg itR z1⟩
  all_goals try exact⟨congrArg (Tr.int _) (by rw[em];exact z2)⟩
  all_goals try exact⟨KW⟩
 intro⟨⟨m,t⟩,hm,ht,htl⟩
 dsimp only at hm ht htl ⊢
 cases m with
 | succ m=>
  have g1:=kT C hC t (d - ((argsN C.p g - (m+1):Nat):Int)) (scH (S++[(x,lv)])) (bC C x k g) m k x.chain (by unfold bl;omega) (by omega) (by omega) (by show 0≤bp C x∧bp C x≤1000;omega) (by omega)
  rw[cz]at ht
  rw[show((m+1:Nat):Int) - 1=(m:Int) by omega]
  repeat' ((conv=>whnf);first|apply Wx|apply W6|refine cg g1 ?_|apply oi|(apply fi<;>intro h)|refine⟨_,rfl,?_⟩|exact rfl)
  all_goals try exact⟨KP⟩
  all_goals try exact KX
  conv=>whnf
  refine⟨⟨(m,dp C (bC C x k g) t (d - ((argsN C.p g - (m+1):Nat):Int)) m k x.chain),by dsimp only;omega,by rw[←ht];dsimp only;congr 1;omega,by dsimp only;simp only[dp,au,List.length_append,List.length_cons,List.length_nil];omega⟩,?_,KD⟩
  repeat' ((conv=>whnf);first|apply Wx|apply W6|apply oi|(apply fi<;>intro h)|refine⟨_,rfl,?_⟩|exact rfl)
  all_goals try exact⟨KP⟩
  all_goals try exact⟨KW⟩
 | zero=>
  have e0:t=T1:=by rw[←ht];rfl
  subst e0
  have ed:d - ((argsN C.p g - 0:Nat):Int)=d - argsN C.p g:=by rw[Nat.sub_zero]
  rw[ed]
  obtain⟨T2,hT2⟩:∃T2,cT C (bC C x k g) x.chain k (d - argsN C.p g) ((localsOf C.p (g:Int)).length - argsN C.p g) (argsN C.p g) t=T2:=⟨_,rfl⟩
  repeat' ((conv=>whnf);first|apply Wx|apply W6|apply oi|(apply fi<;>intro h)|refine⟨_,rfl,?_⟩|exact rfl)
  all_goals try exact⟨KP⟩
  all_goals try exact KX
  conv=>whnf
  refine⟨{q:Nat×Gs // q.1≤(localsOf C.p (g:Int)).length∧cT C (bC C x k g) x.chain k (d - argsN C.p g) ((localsOf C.p (g:Int)).length - q.1) q.1 q.2=T2∧q.2.items.length≤400 - 2 * ((localsOf C.p (g:Int)).length - q.1)},fun q=>⟨[(0,cL),(1,tI .i64 (g:Int)),(2,tI .i64 (k:Int)),(7,.r (.c (.ptr (7,0,0) 0))),(10,.r (.c (.ptr (10,0,0) 0))),(12,tI .i64 (q.1.1:Int))],
   [(
    (0,0,0),some (oe C q.1.2 (d - argsN C.p g) (7,0,1) (7,0,2))),((7,0,1),some (.dar 7 (itR q.1.2.items) none)),((7,0,2),some (.dar 6 (scH (S++[(x,lv)])) none)),
    ((7,0,0),some (.box [.t (.int .i64 (x.f:Int)),.t (.lst 1 (x.chain.map aa)),.t (.lst 1 (x.locals.map ag)),.t (.int .i64 x.first),.t (.bool x.outer),.opq])),
    ((10,0,0),some (.box [.t (.int .i64 (g:Int)),.t (.lst 1 ((x.chain++[(k:Int)]).map aa)),.t (.lst 1 ((localsOf C.p (g:Int)).map ag)),.t (.int .i64 (bp C x)),.t (.bool false),.nils 1]))],[10,7,0]⟩,fun q=>(localsOf C.p (g:Int)).length - q.1.1,⟨(argsN C.p g,t),by dsimp only;omega,hT2,by dsimp only;omega⟩,?_,?_⟩
  ·skip
   repeat' ((conv=>whnf);first|apply Wx|apply W6|apply oi|(apply fi<;>intro h)|refine⟨_,rfl,?_⟩|exact rfl)
   all_goals try exact⟨KP⟩
  intro⟨⟨i,u⟩,hi,hu,hul⟩
  dsimp only at hi hu hul ⊢
  by_cases hil2:i < (localsOf C.p (g:Int)).length
  ·obtain⟨c,hc⟩:∃c,(localsOf C.p (g:Int)).length - i=c+1:=⟨(localsOf C.p (g:Int)).length - i - 1,by omega⟩
   rw[hc,cT]at hu
   have g1:=jB C u (d - argsN C.p g) (scH (S++[(x,lv)])) 0 k x.chain (by unfold bl;omega) (by omega) (by omega)
   have g2:=kT C hC (au C u (d - argsN C.p g) 0 0 k x.chain) (d - argsN C.p g+1) (scH (S++[(x,lv)])) (bC C x k g) i k x.chain (by unfold bl au;simp only[List.length_append,List.length_cons,List.length_nil];omega) (by omega) (by omega) (by show 0≤bp C x∧bp C x≤1000;omega) (by omega)
   repeat' ((conv=>whnf);first|apply Wx|apply W6|refine cg g1 ?_|refine cg g2 ?_|apply oi|(apply fi<;>intro h)|refine⟨_,rfl,?_⟩|exact rfl)
   all_goals try exact⟨KP⟩
   all_goals try exact KX
   conv=>whnf
   refine⟨⟨(i+1,dp C (bC C x k g) (au C u (d - argsN C.p g) 0 0 k x.chain) (d - argsN C.p g+1) i k x.chain),by dsimp only;omega,by rw[←hu];dsimp only;rw[show(localsOf C.p (g:Int)).length - (i+1)=c by omega],by dsimp only;simp only[dp,au,List.length_append,List.length_cons,List.length_nil];omega⟩,?_,KD⟩
   repeat' ((conv=>whnf);first|apply Wx|apply W6|apply oi|(apply fi<;>intro h)|refine⟨_,rfl,?_⟩|exact rfl)
   all_goals try exact⟨KP⟩
   all_goals try exact⟨KW⟩
  ·have hie:i=(localsOf C.p (g:Int)).length:=by omega
   subst hie
   rw[Nat.sub_self,cT]at hu
   subst hu
   have hpre:dK C x k g d s=u:=by rw[dK,hs0,hT1,hT2]
   repeat' ((conv=>whnf);first|(with_reducible apply W1;fail_if_success (with_reducible show Wo _ _ _ _ (Code.seq (Code.region 17 _ _) _) _ _))|(with_reducible first|apply W2|apply W3|apply W4|apply W5|apply W6|apply W7|apply W8|apply W9)|apply aZ|apply oi|(apply fi<;>intro h)|refine⟨_,rfl,?_⟩|exact rfl)
   all_goals try exact⟨KP⟩
   all_goals try exact KX
   obtain⟨v,hv⟩:∃v,bO C x k (d - argsN C.p g) u=v:=⟨_,rfl⟩
   have hvl:v.items.length≤500:=by rw[←hv,bO];split <;> first|(simp[au];omega)|omega
   refine ip Unit (fun _=>⟨[(0,cL),(1,tI .i64 (g:Int)),(2,tI .i64 (k:Int)),(7,.r (.c (.ptr (7,0,0) 0))),(10,.r (.c (.ptr (10,0,0) 0)))],
    [(
     (0,0,0),some (oe C v (d - argsN C.p g) (7,0,1) (7,0,2))),((7,0,1),some (.dar 7 (itR v.items) none)),((7,0,2),some (.dar 6 (scH (S++[(x,lv)])) none)),
     ((10,0,0),some (.box [.t (.int .i64 (g:Int)),.t (.lst 1 ((x.chain++[(k:Int)]).map aa)),.t (.lst 1 ((localsOf C.p (g:Int)).map ag)),.t (.int .i64 (bp C x)),.t (.bool false),.own (10,0,1)])),((10,0,1),some (.arr true 1 []))],[10,7,0]⟩) ?_ ?_
   ·have g3:=bG C u (d - argsN C.p g) (scH (S++[(x,lv)])) 15 0 k x.chain (by unfold bl;omega) (by omega)
    unfold bO at hv
    cases hst:u.start with
    | true=>
     rw[if_pos hst]at hv
     subst hv
     repeat' ((conv=>whnf);first|apply Wx|apply W6|refine cg g3 ?_|apply oi|(apply fi<;>intro h)|refine⟨_,rfl,?_⟩|exact rfl)
     all_goals try exact⟨KP⟩
     ·conv=>whnf
      refine⟨(),?_⟩
      repeat' ((conv=>whnf);first|apply Wx|apply W6|apply oi|(apply fi<;>intro h)|refine⟨_,rfl,?_⟩|exact rfl)
      all_goals try exact⟨KP⟩
     ·exfalso;simp_all
    | false=>
     rw[if_neg (by simp[hst])]at hv
     subst hv
     repeat' ((conv=>whnf);first|apply Wx|apply W6|refine cg g3 ?_|apply oi|(apply fi<;>intro h)|refine⟨_,rfl,?_⟩|exact rfl)
     all_goals try exact⟨KP⟩
     ·exfalso;simp_all
     ·conv=>whnf
      refine⟨(),?_⟩
      repeat' ((conv=>whnf);first|apply Wx|apply W6|apply oi|(apply fi<;>intro h)|refine⟨_,rfl,?_⟩|exact rfl)
      all_goals try exact⟨KP⟩
   intro _
   have hyS:ScOk C (bC C x k g) (bM ((S++[(x,lv)])++[(bC C x k g,[])])):=by rw[iH];exact kv hC hx k ⟨y,hy,hy0⟩
   obtain⟨ye,ye1,ye2,ye3,ye4,_⟩:=hyS.endE hC
   have hye:jV C.p (bC C x k g).f - (bC C x k g).f≤9:=by
    rw[ye4]
    have:be C.p (g:Int)=(ye:Int):=by rw[bb];exact ba ye1
    show ye - g≤9
    omega
   have h3:=qo (n:=lev) (by omega)
   have hgL:=hL (bC C x k g) (S++[(x,lv)]) v (d - argsN C.p g) hyS (by
    have:=Nat.mul_le_mul hye (show 20 * bW lev+3≤20 * 8679837+3 by omega)
    omega) (by simp only[List.length_append,List.length_cons,List.length_nil];omega) q3 (by omega)
   have hsl:(scH (S++[(x,lv)])).length=S.length+1:=by simp
   obtain⟨r,hr⟩:∃r,aQ C (aT C lev) (bC C x k g) (bM ((S++[(x,lv)])++[(bC C x k g,[])])) (d - argsN C.p g) v=r:=⟨_,rfl⟩
   rw[hr]at hgL
   have hsl2:(scH ((S++[(x,lv)])++[(bC C x k g,r.2)])).length=S.length+2:=by simp
   have hw2:IntKind.i64.wrap (((scH ((S++[(x,lv)])++[(bC C x k g,r.2)])).length:Int) - 1)=((S.length+1:Nat):Int):=by rw[hsl2,IntWalk.i64_in _ (by omega)];omega
   have hlt2:S.length+1 < (scH ((S++[(x,lv)])++[(bC C x k g,r.2)])).length:=by omega
   have hrow2:(scH ((S++[(x,lv)])++[(bC C x k g,r.2)]))[S.length+1]?=some (ke (bC C x k g) r.2):=by simp
   have hfl3:=fj r.2
   repeat' ((conv=>whnf);first|(with_reducible apply W1;fail_if_success (with_reducible show Wo _ _ _ _ (Code.region 23 _ _) _ _))|(with_reducible first|apply W2|apply W3|apply W4|apply W5|apply W6|apply W7|apply W8|apply W9)|apply aZ|refine cg hgL ?_|apply oi|(apply fi<;>intro h)|refine⟨S.length+1,hw2,hlt2,?_⟩|refine⟨_,hrow2,?_⟩|refine⟨_,rfl,?_⟩|exact rfl)
   all_goals try exact⟨KP⟩
   all_goals try exact⟨⟨by rw[hsl];simp <;> omega,by rw[hsl];simp <;> omega⟩⟩
   all_goals try exact⟨hfl3⟩
   all_goals try exact⟨by simp[bC,aa]⟩
   conv=>whnf
   refine iE ⟨[(0,cL),(13,tI .i64 (d - argsN C.p g)),(14,.r (.c (.t (.lst 1 (r.2.map aa)))))],
    [((0,0,0),some (oe C r.1 (d - argsN C.p g) (127,0,1) (127,0,2))),((127,0,1),some (.dar 7 (itR r.1.items) none)),((127,0,2),some (.dar 6 ((scH ((S++[(x,lv)])++[(bC C x k g,r.2)])).set (S.length+1) ((ke (bC C x k g) r.2).set 5 (.t (.lst 1 (r.2.map aa))))) none))],_⟩ ?_ ?_ rfl ?_
   ·refine⟨.inl rfl,.inl rfl,.inr (.inl ⟨_,_,rfl,rfl,.inr (.inr ⟨_,rfl,rfl,?_⟩)⟩),trivial⟩
    intro q hq;simp only[AC.ids,List.mem_cons,List.not_mem_nil,or_false]at hq;subst hq;rfl
   ·exact⟨.inr (.inl rfl),.inr (.inl rfl),.inr (.inr (.inr ⟨_,_,_,_,_,_,_,rfl,hrow2,(by decide),rfl,rfl,rfl⟩)),trivial⟩
   have hsl4:((scH ((S++[(x,lv)])++[(bC C x k g,r.2)])).set (S.length+1) ((ke (bC C x k g) r.2).set 5 (.t (.lst 1 (r.2.map aa))))).length=S.length+2:=by rw[List.length_set];exact hsl2
   have hw4:IntKind.i64.wrap ((((scH ((S++[(x,lv)])++[(bC C x k g,r.2)])).set (S.length+1) ((ke (bC C x k g) r.2).set 5 (.t (.lst 1 (r.2.map aa))))).length:Int) - 1)=((S.length+1:Nat):Int):=by rw[hsl4,IntWalk.i64_in _ (by omega)];omega
   have hle4:S.length+1≤((scH ((S++[(x,lv)])++[(bC C x k g,r.2)])).set (S.length+1) ((ke (bC C x k g) r.2).set 5 (.t (.lst 1 (r.2.map aa))))).length:=by omega
   have hcut:((scH ((S++[(x,lv)])++[(bC C x k g,r.2)])).set (S.length+1) ((ke (bC C x k g) r.2).set 5 (.t (.lst 1 (r.2.map aa))))).take (S.length+1)=scH (S++[(x,lv)]):=by
    rw[List.take_set_of_le (Nat.le_refl _),←List.map_take,List.take_left' (by simp)]
   have hrl:(r.2.map aa).length=r.2.length:=by simp
   have hin2:=vA (lev:=lev) (rep:=aT C lev) (fun line g d s hg hr=>cK hC lev line g d s hyS hg hr) hC hyS (d - argsN C.p g) v
   have hgr2:=gr (lev:=lev) (rep:=aT C lev) (fun line g d s hg hr=>cK hC lev line g d s hyS hg hr) hC hyS (d - argsN C.p g) v
   rw[hr]at hin2 hgr2
   have hrle:=hgr2.le
   obtain⟨hlvl,hin2⟩:=hin2
   have hmul:=Nat.mul_le_mul hye (show 20 * bW lev+3≤20 * 8679837+3 by omega)
   repeat' ((conv=>whnf);first|apply Wx|apply W6|apply oi|(apply fi<;>intro h)|refine⟨S.length+1,hw4,hle4,?_⟩|refine⟨_,rfl,?_⟩|exact rfl)
   all_goals try exact⟨KP⟩
   conv=>whnf
   refine⟨{i:Nat // i≤r.2.length},fun q=>⟨[(0,cL),(13,tI .i64 (d - argsN C.p g)),(14,.r (.c (.t (.lst 1 (r.2.map aa))))),(15,tI .i64 (q.1:Int))],
    [((0,0,0),some (oe C r.1 (d - argsN C.p g) (127,0,1) (127,0,2))),((127,0,1),some (.dar 7 (itR (cn r.1.items r.1.items.length (r.2.take q.1))) none)),((127,0,2),some (.dar 6 (scH (S++[(x,lv)])) none))],[127,0]⟩,fun q=>r.2.length - q.1,⟨0,by omega⟩,?_,?_⟩
   ·skip
    repeat' ((conv=>whnf);first|apply Wx|apply W6|apply oi|(apply fi<;>intro h)|refine⟨_,rfl,?_⟩|exact rfl)
    all_goals try exact⟨KP⟩
    all_goals first|exact⟨hle4⟩|exact⟨hcut⟩
   intro⟨i,hi3⟩
   dsimp only at hi3 ⊢
   have hpl:=fa (r.1.items.length:Int) (r.2.take i) r.1.items
   have hil4:(itR (cn r.1.items r.1.items.length (r.2.take i))).length=r.1.items.length:=by rw[ij,hpl]
   by_cases hli:i < r.2.length
   ·obtain⟨j,hj⟩:=ae hli
    obtain⟨j1,j2⟩:=hin2 j (List.mem_of_getElem? hj)
    obtain⟨jn,rfl⟩:=Int.eq_ofNat_of_zero_le j1
    have hjl:jn < (itR (cn r.1.items r.1.items.length (r.2.take i))).length:=by rw[hil4];omega
    obtain⟨it,hit⟩:=ae (l:=cn r.1.items r.1.items.length (r.2.take i)) (k:=jn) (by rw[hpl];omega)
    have hnext:r.2.take (i+1)=r.2.take i++[(jn:Int)]:=by rw[List.take_add_one,hj];rfl
    have hps:=lw r.1.items.length (jn:Int) (r.2.take i) r.1.items
    repeat' ((conv=>whnf);first|apply Wx|apply W6|apply oi|(apply fi<;>intro h)|refine⟨i,(aa jn),rfl,ab hj,?_⟩|refine⟨jn,rfl,hjl,?_⟩|refine⟨_,(eO hit),?_⟩|refine⟨_,rfl,?_⟩|exact rfl)
    all_goals try exact⟨KP⟩
    all_goals try exact KX
    conv=>whnf
    refine⟨⟨i+1,by omega⟩,?_,KD⟩
    repeat' ((conv=>whnf);first|apply Wx|apply W6|apply oi|(apply fi<;>intro h)|refine⟨_,rfl,?_⟩|exact rfl)
    all_goals try exact⟨KP⟩
    all_goals try exact⟨KW⟩
    all_goals(refine⟨?_⟩;rw[hil4];dsimp only;rw[hnext,hps,iP hit];rfl)
   ·have hie:i=r.2.length:=by omega
    subst hie
    have hr':aQ C (aT C lev) (bC C x k g) (bM (S++[(x,lv)])++[g]) (d - argsN C.p g) v=r:=(congrArg (fun l=>aQ C (aT C lev) (bC C x k g) l (d - argsN C.p g) v) (by simp[bC])).trans hr
    have hfin:aT C (lev+1) x (bM (S++[(x,lv)])) k g d s=⟨cn r.1.items r.1.items.length r.2,r.1.most,r.1.start⟩:=by
     show go C (aQ C (aT C lev)) x (bM (S++[(x,lv)])) k g d s=_
     unfold go
     rw[hpre,hv,hr']
    rw[hfin]
    rw[List.take_length]
    repeat' ((conv=>whnf);first|apply Wx|apply W6|apply oi|(apply fi<;>intro h)|refine⟨_,rfl,?_⟩|exact rfl)
    all_goals try exact⟨KP⟩
    all_goals try exact KX
    all_goals try exact⟨congrArg (fun z:Gs=>Tr.bool z.start) hfin.symm⟩
    all_goals try exact⟨congrArg (fun z:Gs=>itR z.items) hfin.symm⟩
    all_goals try exact⟨congrArg (fun z:Gs=>Tr.int .i64 z.most) hfin.symm⟩
    all_goals try exact⟨KW⟩
theorem Cd {C:Cx}(hC:CxOk C){lev:Nat}(hE:FD C lev):wW C lev:=by
 intro x S s d hx hroom hlev hd0 hd1
 refine aD hΓ ao Tryz.func198 rfl (by decide) rfl rfl ?_
 rw[iH]at hx
 rw[iH]
 dsimp only at hx ⊢
 obtain⟨e,he,hfe,hel,hen,hll⟩:=hx.endE hC
 have h60:=hC.len
 have hin:=hC.inl
 have hsl:∀lv:List Int,(scH (S++[(x,lv)])).length=S.length+1:=fun lv=>by simp
 have hrow:∀lv:List Int,(scH (S++[(x,lv)]))[S.length]?=some (ke x lv):=fun lv=>by simp
 have hlt:∀lv:List Int,S.length < (scH (S++[(x,lv)])).length:=fun lv=>by rw[hsl];omega
 have hw:∀lv:List Int,IntKind.i64.wrap (((scH (S++[(x,lv)])).length:Int) - 1)=(S.length:Int):=fun lv=>by rw[hsl,IntWalk.i64_in _ (by omega)];omega
 have gE:=cI C.p (x.f:Int) (by omega)
 rw[show be C.p (x.f:Int)=(e:Int) by rw[bb];exact ba he]at gE
 have hpl:(C.p.map FX.tr).length=C.p.length:=by simp
 have hm1:(((C.p.map FX.tr).length:Nat):Int)=(C.p.length:Int):=by rw[hpl]
 have hm2:C.p.length≤9223372036854775807:=by omega
 have hm3:C.p.length * 8≤140737488355328:=by omega
 have h3:=qo (n:=lev) (by omega)
 have hch:x.chain.length≤100:=by
  have:=hx.chain
  rw[List.length_append,List.length_map]at this
  simp only[List.length_cons,List.length_nil]at this
  omega
 have hxf:0≤x.first∧x.first≤1000:=by
  have:=hx.first
  rw[List.length_append,List.length_map]at this
  simp only[List.length_cons,List.length_nil]at this
  omega
 obtain⟨R,hR⟩:∃R,jw C (aT C lev) x (bM S++[x.f]) d (e+1 - (x.f+1)) (x.f+1) (ce C s)=R:=⟨_,rfl⟩
 have hfin:aQ C (aT C lev) x (bM S++[x.f]) d s=(R.g,R.lv):=by
  unfold aQ
  rw[hen,show e - x.f=e+1 - (x.f+1) by omega,hR]
 rw[hfin]
 rw[hen]at hroom
 have hI0:LInv C lev x (bM S++[x.f]) d e R (x.f+1) (ce C s):=⟨Nat.le_refl _,by omega,by simp[ce],by simp[ce],fun i h1 h2=>by omega,⟨by simp[ce],fun j hj=>by simp[ce]at hj⟩,by rw[show e+1 - (x.f+1)=e - x.f by omega];exact hroom,hR⟩
 repeat' ((conv=>whnf);first|apply Wx|apply W6|apply oi|(apply fi<;>intro h)|refine⟨S.length,hw [],hlt [],?_⟩|refine⟨_,hrow [],?_⟩|refine cl gE ?_|refine⟨C.p.length,hm1,hm1,hm2,hm3,?_⟩|refine⟨_,rfl,?_⟩|exact rfl)
 all_goals try exact⟨KP⟩
 conv=>whnf
 refine⟨{q:Nat×Ls×List FW // LInv C lev x (bM S++[x.f]) d e R q.1 q.2.1∧q.2.2.length=q.2.1.g.items.length∧(q.1≤e→cO q.2.2 q.2.2.length (q.1:Int) (aX C.p q.2.1.pos (x.f+1) (q.1 - (x.f+1)))=q.2.1.g.items)∧(q.1=e+1→q.2.2=q.2.1.g.items)},
  fun q=>⟨[(0,cL),(2,tI .i64 (x.f:Int)),(3,wo x.chain),(4,tI .i64 (e:Int)),(5,.r (.c (.own (5,0,0)))),(6,.r (.c (.own (6,0,0)))),(7,tI .i64 (q.1.1:Int))],
   [((0,0,0),some (oe C ⟨q.1.2.2,q.1.2.1.g.most,q.1.2.1.g.start⟩ d (5,0,1) (5,0,2))),((5,0,1),some (.dar 7 (itR q.1.2.2) none)),((5,0,2),some (.dar 6 (scH (S++[(x,q.1.2.1.lv)])) none)),((5,0,0),some (.arr false 1 (q.1.2.1.heads.map aa))),((6,0,0),some (.arr false 2 ((aX C.p q.1.2.1.pos (x.f+1) (q.1.1 - (x.f+1))).map lZ)))],[6,5,0]⟩,
  fun q=>e+1 - q.1.1,⟨(x.f+1,ce C s,s.items),hI0,rfl,fun _=>by rw[Nat.sub_self];rfl,fun _=>rfl⟩,?_,?_⟩
 ·skip
  repeat' ((conv=>whnf);first|apply Wx|apply W6|apply oi|(apply fi<;>intro h)|refine⟨_,rfl,?_⟩|exact rfl)
  all_goals try exact⟨KP⟩
  all_goals try exact⟨KW⟩
  ·exact⟨by simp[ce,aa]⟩
  ·exact⟨by dsimp only;rw[Nat.sub_self];rfl⟩
 intro⟨⟨k,L,u⟩,hI,hul,hpat,hlast⟩
 dsimp only at hI hul hpat hlast ⊢
 by_cases hke:k≤e
 ·obtain⟨ln,hl⟩:=ae (l:=C.p) (k:=k) (by omega)
  have h0:=jh hC hx he hI.lo hke hl
  obtain⟨hk0,hk7,_,h20,hexp⟩:=hC.line _ _ hl
  obtain⟨hsh,hnm⟩:=kS hC hl
  have hkf:=hI.lo
  have hIr:=hI.room
  have hIh:=hI.heads
  have hIp:=hI.pos
  have hlvl:=hI.lv.1
  have hIroom:L.g.items.length+20 * bW lev+3≤68719476736:=by
   obtain⟨n,hn⟩:∃n,e+1 - k=n+1:=⟨e - k,by omega⟩
   rw[hn,Nat.add_mul]at hIr
   omega
  have hEl:=nM C.p L.pos (x.f+1) (k - (x.f+1))
  have hEin:∀z∈aX C.p L.pos (x.f+1) (k - (x.f+1)),0≤z.2∧z.2 < (L.g.items.length:Int):=fun z hz=>by
   obtain⟨i,i1,i2,i3,rfl⟩:=kO hz
   exact hI.at_ i (by omega) (by omega) i3
  have gP:=ov C ⟨u,L.g.most,L.g.start⟩ d (scH (S++[(x,L.lv)])) (aX C.p L.pos (x.f+1) (k - (x.f+1))) k (by unfold bl;dsimp only;omega) (by omega) (by dsimp only;rw[hul];exact hEin)
  rw[hpat hke]at gP
  obtain⟨A,hA⟩:∃A,dn C (aT C lev) x (bM S++[x.f]) d k ln L=A:=⟨_,rfl⟩
  have hN:=LInv.next hC hx he hI hke hl
  rw[hA]at hN
  obtain⟨hP1,hP2⟩:=Af hC hx he hkf hke hl A
  obtain⟨b1,b2,b3,b4,b5,b6⟩:=od (C:=C) (x:=x) k ln A
  have hQ:LInv C lev x (bM S++[x.f]) d e R (k+1) (aS C x k ln A)∧A.g.items.length=(aS C x k ln A).g.items.length∧(k+1≤e→cO A.g.items A.g.items.length ((k+1:Nat):Int) (aX C.p (aS C x k ln A).pos (x.f+1) (k+1 - (x.f+1)))=(aS C x k ln A).g.items)∧(k+1=e+1→A.g.items=(aS C x k ln A).g.items):=⟨hN,b4.symm,fun h=>by rw[b2];exact hP1 h,fun h=>hP2 (by omega)⟩
  have hIl:k < (L.heads.map aa).length:=by rw[List.length_map,hIh];omega
  have hro:bl L.g:=by unfold bl;omega
  have hitl:=ij L.g.items
  have hkne:ln.faa≠7→k < e:=fun h=>by
   rcases Nat.lt_or_eq_of_le hke with h'|h'
   ·exact h'
   ·subst h'
    obtain⟨z,hz,hz7⟩:=bu he
    rw[hl]at hz
    injection hz with hz
    subst hz
    exact absurd hz7 h
  have hcalls:ln.faa≠7→mw C ln.fad:=fun h=>by
   obtain⟨l0,q1,q2⟩:=hx.fn
   obtain⟨e',q3,_,_,q4⟩:=hC.fn _ _ q1 q2
   rw[he]at q3
   injection q3 with q3
   subst q3
   exact(q4 k ln (by omega) (hkne h) hl).2.1
  obtain⟨g1,hg1⟩:∃g1,dJ C (aT C lev) x (bM S++[x.f]) k (exL ln.fad) d ⟨L.g.items,L.g.most,true⟩=g1:=⟨_,rfl⟩
  have hX:bi ln.fad=true→ln.faa≠7→bx Tryz.prog 244 [cL,tI .i64 (k:Int),tI .i64 (0:Int)] (fQ (0,0,1) (0,0,2) C ⟨L.g.items,L.g.most,true⟩ d (scH (S++[(x,L.lv)]))) (tI .i64 ((0+(exL ln.fad).toks.length:Nat):Int)) (fQ (1,0,1) (1,0,2) C g1 (d+1) (scH (S++[(x,L.lv)]))):=fun hx1 hx7=>by
   obtain⟨eo,et⟩:=pS hx1
   have h20':(exL ln.fad).toks.length≤20:=by rw[←et];exact h20
   have hmu:=Nat.mul_le_mul_right (bW lev) h20'
   have:=hE (exL ln.fad) x S L.lv k 0 ln ⟨L.g.items,L.g.most,true⟩ d eo (by rw[iH];exact hx) hl ⟨[],by rw[List.drop_zero,List.append_nil];exact et⟩ (hcalls hx7) ⟨by dsimp only;omega,hlev,hd0,by omega⟩
   rw[iH]at this
   dsimp only at this
   rw[hg1]at this
   exact this
  have hG:bi ln.fad=true→g1.items.length≤L.g.items.length+20 * bW lev:=fun hx1=>by
   have:=(ku (x:=x) (ins:=bM S++[x.f]) (rep:=aT C lev) (line:=k) (lev:=lev) (fun g d s hg hr=>cK hC lev k g d s hx hg hr) hC hl hx1 d ⟨L.g.items,L.g.most,true⟩).le
   rw[hg1]at this
   exact this
  have hhr:(L.heads.map aa)[k]?=some (aa (atL L.heads k)):=by
   rw[List.getElem?_map]
   have:k < L.heads.length:=by omega
   rw[List.getElem?_eq_getElem this,atL,List.getElem?_eq_getElem this]
   rfl
  have hhs:∀v:Int,(L.heads.map aa).set k [.int .i64 v]=(L.heads.set k v).map aa:=fun v=>by simp[List.map_set,aa]
  unfold dn at hA
  rw[hg1]at hA
  dsimp only at hA
  have hcase:ln.faa=4∨ln.faa=7∨ln.faa=1∨ln.faa=2∨ln.faa=6∨(ln.faa=3∨ln.faa=5):=by omega
  rcases hcase with h4|h7|h1|h2|h6|h35
  ·
   rw[if_pos h4]at hA
   have a1:A.g.items=bK (au C L.g d 10 0 k x.chain).items (atL L.pos (aF C.p k)) (au C L.g d 10 0 k x.chain).items.length:=by rw[←hA]
   have a2:A.g.most=L.g.most:=by rw[←hA];rfl
   have a3:A.g.start=false:=by rw[←hA];rfl
   have a4:A.heads=L.heads:=by rw[←hA]
   have a5:A.pos=L.pos.set k L.g.items.length:=by rw[←hA]
   have a6:A.lv=L.lv:=by rw[←hA]
   obtain⟨o1,o2,o3,o4⟩:=hx.own4 hC he (by omega) hke hl h4
   obtain⟨y,m,hy,y3,hm,_⟩:=aW o1
   have hkk:=bf hl
   have hto:jP C.p k=be C.p (aF C.p k:Int)+1:=by unfold jP;rw[if_pos (by omega)]
   have hge:=lG C.p (aF C.p k)
   have hEn:aX C.p L.pos (x.f+1) (k - (x.f+1))++[(jP C.p k,(L.g.items.length:Int))]=aX C.p (L.pos.set k L.g.items.length) (x.f+1) (k+1 - (x.f+1)):=sY hkf (by unfold jumps;omega) (by rw[hIp];omega) _
   have gEm:=bG C L.g d (scH (S++[(x,L.lv)])) 10 0 k x.chain hro hch
   have gP2:=ov C (au C L.g d 10 0 k x.chain) d (scH (S++[(x,L.lv)])) (aX C.p (L.pos.set k L.g.items.length) (x.f+1) (k+1 - (x.f+1))) (-(k:Int)) (by unfold bl au;simp only[List.length_append,List.length_cons,List.length_nil];omega) (by have:=nM C.p (L.pos.set k L.g.items.length) (x.f+1) (k+1 - (x.f+1));omega) (fun z hz=>by
    rw[←hEn,List.mem_append]at hz
    simp only[au,List.length_append,List.length_cons,List.length_nil]
    rcases hz with hz|hz
    ·have:=hEin z hz;omega
    ·simp only[List.mem_cons,List.not_mem_nil,or_false]at hz
     subst hz
     dsimp only
     omega)
   rw[As hC hx he hkf hke hl h4,ey (by omega)]at gP2
   have hng:IntKind.i64.wrap (0 - (k:Int))= -(k:Int):=by rw[IntWalk.i64_in _ (by omega)];omega
   rw[←hng]at gP2
   repeat' ((conv=>whnf);first|apply Wx|apply W6|refine cg gP ?_|apply oi|(apply fi<;>intro h)|refine⟨k,ln.tr,rfl,ab hl,?_⟩|refine⟨_,rfl,?_⟩|exact rfl)
   all_goals try exact⟨KP⟩
   all_goals try exact KX
   all_goals try exact KK
   conv=>whnf
   refine⟨{i:Nat // x.f≤i∧i≤k},fun q=>⟨[(0,cL),(2,tI .i64 (x.f:Int)),(3,wo x.chain),(4,tI .i64 (e:Int)),(5,.r (.c (.own (5,0,0)))),(6,.r (.c (.own (6,0,0)))),(7,tI .i64 (k:Int)),(9,tI .i64 (q.1:Int))],
    [((0,0,0),some (oe C L.g d (5,0,1) (5,0,2))),((5,0,1),some (.dar 7 (itR L.g.items) none)),((5,0,2),some (.dar 6 (scH (S++[(x,L.lv)])) none)),((5,0,0),some (.arr false 1 (L.heads.map aa))),((6,0,0),some (.arr false 2 ((aX C.p L.pos (x.f+1) (k - (x.f+1))++(if aF C.p k < q.1 then [(jP C.p k,(L.g.items.length:Int))]else [])).map lZ)))],[6,5,0]⟩,
    fun q=>k - q.1,⟨x.f,by omega,by omega⟩,?_,?_⟩
   ·skip
    repeat' ((conv=>whnf);first|apply Wx|apply W6|apply oi|(apply fi<;>intro h)|refine⟨_,rfl,?_⟩|exact rfl)
    all_goals try exact⟨KP⟩
    all_goals exact⟨by rw[if_neg (by dsimp only;omega)];simp⟩
   intro⟨i,hi1,hi2⟩
   dsimp only at hi1 hi2 ⊢
   by_cases hik:i < k
   ·have gEl:=jD C.p (i:Int) (by omega)
    by_cases hio:i=aF C.p k
    ·subst hio
     rw[show bc C.p (aF C.p k:Int)=(k:Int) by rw[fg];exact ba o1]at gEl
     have gEn:=cI C.p (aF C.p k:Int) (by omega)
     rw[if_neg (by omega),List.append_nil]
     have hml:((aX C.p L.pos (x.f+1) (k - (x.f+1))).map lZ).length=(aX C.p L.pos (x.f+1) (k - (x.f+1))).length:=by simp
     have hitl:=ij L.g.items
     repeat' ((conv=>whnf);first|apply Wx|apply W6|apply oi|(apply fi<;>intro h)|refine cl gEl ?_|refine cl gEn ?_|refine⟨_,rfl,?_⟩|exact rfl)
     all_goals try exact⟨KP⟩
     all_goals try exact KX
     all_goals try(exfalso;simp at h;done)
     all_goals try exact⟨⟨by rw[hml];simp <;> omega,by rw[hml];simp <;> omega⟩⟩
     conv=>whnf
     refine⟨⟨aF C.p k+1,by omega,by omega⟩,?_,KD⟩
     repeat' ((conv=>whnf);first|apply Wx|apply W6|apply oi|(apply fi<;>intro h)|refine⟨_,rfl,?_⟩|exact rfl)
     all_goals try exact⟨KP⟩
     all_goals try exact⟨KW⟩
     all_goals(refine⟨?_⟩;dsimp only;rw[if_pos (by omega),hto,hitl,IntWalk.i64_in _ (by omega)];simp)
    ·have hne:bc C.p (i:Int)≠(k:Int):=fun hh=>by
      rw[fg]at hh
      cases hz:elseAt C.p i with
      | none=>rw[hz]at hh;simp only[cp]at hh;omega
      | some j=>
       rw[hz]at hh
       simp only[cp]at hh
       have:j=k:=by omega
       subst this
       exact hio (km hz o1)
     generalize bc C.p (i:Int)=el at *
     repeat' ((conv=>whnf);first|apply Wx|apply W6|apply oi|(apply fi<;>intro h)|refine cl gEl ?_|refine⟨_,rfl,?_⟩|exact rfl)
     all_goals try exact⟨KP⟩
     all_goals try exact KX
     ·exact absurd (eq_of_beq h) hne
     ·conv=>whnf
      refine⟨⟨i+1,by omega,by omega⟩,?_,KD⟩
      repeat' ((conv=>whnf);first|apply Wx|apply W6|apply oi|(apply fi<;>intro h)|refine⟨_,rfl,?_⟩|exact rfl)
      all_goals try exact⟨KP⟩
      all_goals try exact⟨KW⟩
      all_goals(refine⟨?_⟩;dsimp only;congr 2)
      all_goals(by_cases hh:aF C.p k < i)
      all_goals first|rw[if_pos hh,if_pos (by omega)]|rw[if_neg hh,if_neg (by omega)]
   ·have hie:i=k:=by omega
    subst hie
    rw[if_pos o3,hEn]
    repeat' ((conv=>whnf);first|apply Wx|apply W6|refine cg gEm ?_|refine cg gP2 ?_|apply oi|(apply fi<;>intro h)|refine⟨_,rfl,?_⟩|exact rfl)
    all_goals try exact⟨KP⟩
    all_goals try exact KX
    conv=>whnf
    refine⟨⟨(i+1,aS C x i ln A,A.g.items),hQ⟩,?_,KD⟩
    repeat' ((conv=>whnf);first|apply Wx|apply W6|apply oi|(apply fi<;>intro h)|refine⟨_,rfl,?_⟩|exact rfl)
    all_goals try exact⟨KP⟩
    all_goals try exact⟨KW⟩
    all_goals(refine⟨?_⟩;dsimp only;simp only[b1,b2,b3,b5,b6,a1,a2,a3,a4,a5,a6];try rfl)
  ·
   rw[if_neg (by omega),if_pos h7]at hA
   obtain⟨o1,o2⟩:=hx.own7 hC he (by omega) hke hl h7
   have hee:aX C.p L.pos (x.f+1) (k+1 - (x.f+1))=aX C.p L.pos (x.f+1) (k - (x.f+1)):=kn hkf (by unfold jumps;rw[bf hl,h7];decide)
   rcases o2 with⟨o2,o3⟩|⟨o2,o3,o4,y,hy,o5⟩
   ·subst o2
    rw[if_pos o3]at hA
    have gN:=jB C L.g d (scH (S++[(x,L.lv)])) 0 k x.chain hro hch (by omega)
    have gL:=pl C hC (au C L.g d 0 0 k x.chain) (d+1) S x L.lv k true (by unfold bl au;simp only[List.length_append,List.length_cons,List.length_nil];omega) hch (by omega) (by omega) (by omega) L.heads L.pos
    rw[show aP C x k true (d+1) ⟨au C L.g d 0 0 k x.chain,L.heads,L.pos,L.lv⟩=A from hA,Int.add_sub_cancel]at gL
    have a4:A.heads=L.heads:=by rw[←hA];unfold aP;(repeat' split) <;> rfl
    have a5:A.pos=L.pos:=by rw[←hA];unfold aP;(repeat' split) <;> rfl
    repeat' ((conv=>whnf);first|apply Wx|apply W6|refine cg gP ?_|refine cg gN ?_|refine cg gL ?_|apply oi|(apply fi<;>intro h)|refine⟨k,ln.tr,rfl,ab hl,?_⟩|refine⟨_,rfl,?_⟩|exact rfl)
    all_goals try exact⟨KP⟩
    all_goals try exact KX
    all_goals try exact KK
    all_goals try(exfalso;simp at h;done)
    conv=>whnf
    refine⟨⟨(k+1,aS C x k ln A,A.g.items),hQ⟩,?_,KD⟩
    repeat' ((conv=>whnf);first|apply Wx|apply W6|apply oi|(apply fi<;>intro h)|refine⟨_,rfl,?_⟩|exact rfl)
    all_goals try exact⟨KP⟩
    all_goals try exact⟨KW⟩
    all_goals(refine⟨?_⟩;dsimp only;simp only[b1,b2,b3,b5,b6,a4,a5,hee];try rfl)
   ·rw[if_neg (by omega)]at hA
    have hky:=bf hy
    have gEm:=bG C L.g d (scH (S++[(x,L.lv)])) 10 (atL L.heads (aF C.p k)) k x.chain hro hch
    have a4:A.heads=L.heads:=by rw[←hA];split <;> rfl
    have a5:A.pos=L.pos:=by rw[←hA];split <;> rfl
    have a6:A.lv=L.lv:=by rw[←hA];split <;> rfl
    have a1:A.g=if cb C.p (aF C.p k)=5 then au C L.g d 10 (atL L.heads (aF C.p k)) k x.chain else L.g:=by rw[←hA];split <;> rfl
    have hend:be C.p (aF C.p k:Int)=(k:Int):=by rw[bb];exact ba o1
    have hhd:(L.heads.map aa)[aF C.p k]?=some (aa (atL L.heads (aF C.p k))):=by
     rw[List.getElem?_map]
     have:aF C.p k < L.heads.length:=by omega
     rw[List.getElem?_eq_getElem this,atL,List.getElem?_eq_getElem this]
     rfl
    have hol:aF C.p k < (L.heads.map aa).length:=by rw[List.length_map];omega
    repeat' ((conv=>whnf);first|apply Wx|apply W6|refine cg gP ?_|apply oi|(apply fi<;>intro h)|refine⟨k,ln.tr,rfl,ab hl,?_⟩|refine⟨_,rfl,?_⟩|exact rfl)
    all_goals try exact⟨KP⟩
    all_goals try exact KX
    all_goals try exact KK
    conv=>whnf
    refine⟨{i:Nat // x.f+1≤i∧i≤k},fun q=>⟨[(0,cL),(2,tI .i64 (x.f:Int)),(3,wo x.chain),(4,tI .i64 (e:Int)),(5,.r (.c (.own (5,0,0)))),(6,.r (.c (.own (6,0,0)))),(7,tI .i64 (k:Int)),(11,tI .i64 (q.1:Int))],
     [((0,0,0),some (oe C (if aF C.p k < q.1 then A.g else L.g) d (5,0,1) (5,0,2))),((5,0,1),some (.dar 7 (itR (if aF C.p k < q.1 then A.g else L.g).items) none)),((5,0,2),some (.dar 6 (scH (S++[(x,L.lv)])) none)),((5,0,0),some (.arr false 1 (L.heads.map aa))),((6,0,0),some (.arr false 2 ((aX C.p L.pos (x.f+1) (k - (x.f+1))).map lZ)))],[6,5,0]⟩,
     fun q=>k - q.1,⟨x.f+1,by omega,by omega⟩,?_,?_⟩
    ·skip
     repeat' ((conv=>whnf);first|apply Wx|apply W6|apply oi|(apply fi<;>intro h)|refine⟨_,rfl,?_⟩|exact rfl)
     all_goals try exact⟨KP⟩
     all_goals try(refine⟨?_⟩;dsimp only;rw[if_neg (by omega)];done)
     all_goals try exact⟨KW⟩
    intro⟨i,hi1,hi2⟩
    dsimp only at hi1 hi2 ⊢
    by_cases hik:i < k
    ·have gEn:=cI C.p (i:Int) (by omega)
     obtain⟨z,hz⟩:=ae (l:=C.p) (k:=i) (by omega)
     by_cases hio:i=aF C.p k
     ·subst hio
      rw[hend]at gEn
      rw[hy]at hz
      injection hz with hz
      subst hz
      rw[if_neg (by omega)]
      by_cases h5:y.faa=5
      ·rw[if_pos (by omega)]at a1
       repeat' ((conv=>whnf);first|apply Wx|apply W6|refine cg gEm ?_|apply oi|(apply fi<;>intro h)|refine cl gEn ?_|refine⟨(aF C.p k),y.tr,rfl,ab hy,?_⟩|refine⟨aF C.p k,rfl,hol,?_⟩|refine⟨_,hhd,?_⟩|refine⟨_,rfl,?_⟩|exact rfl)
       all_goals try exact⟨KP⟩
       all_goals try exact KX
       all_goals try exact KK
       all_goals try(exfalso;simp at h;done)
       conv=>whnf
       refine⟨⟨aF C.p k+1,by omega,by omega⟩,?_,KD⟩
       repeat' ((conv=>whnf);first|apply Wx|apply W6|apply oi|(apply fi<;>intro h)|refine⟨_,rfl,?_⟩|exact rfl)
       all_goals try exact⟨KP⟩
       all_goals try exact⟨KW⟩
       all_goals(refine⟨?_⟩;dsimp only;rw[if_pos (by omega),a1])
      ·rw[if_neg (by omega)]at a1
       repeat' ((conv=>whnf);first|apply Wx|apply W6|refine cg gEm ?_|apply oi|(apply fi<;>intro h)|refine cl gEn ?_|refine⟨(aF C.p k),y.tr,rfl,ab hy,?_⟩|refine⟨aF C.p k,rfl,hol,?_⟩|refine⟨_,hhd,?_⟩|refine⟨_,rfl,?_⟩|exact rfl)
       all_goals try exact⟨KP⟩
       all_goals try exact KX
       all_goals try exact KK
       all_goals try(exfalso;simp at h;done)
       conv=>whnf
       refine⟨⟨aF C.p k+1,by omega,by omega⟩,?_,KD⟩
       repeat' ((conv=>whnf);first|apply Wx|apply W6|apply oi|(apply fi<;>intro h)|refine⟨_,rfl,?_⟩|exact rfl)
       all_goals try exact⟨KP⟩
       all_goals try exact⟨KW⟩
       all_goals(refine⟨?_⟩;dsimp only;rw[if_pos (by omega),a1])
     ·have hne:be C.p (i:Int)≠(k:Int):=fun hh=>by
       have h':=ny hh (by omega)
       rw[Int.toNat_natCast]at h'
       exact hio (wq h' o1)
      generalize be C.p (i:Int)=en at *
      repeat' ((conv=>whnf);first|apply Wx|apply W6|apply oi|(apply fi<;>intro h)|refine cl gEn ?_|refine⟨i,z.tr,rfl,ab hz,?_⟩|refine⟨_,rfl,?_⟩|exact rfl)
      all_goals try exact⟨KP⟩
      all_goals try exact KX
      all_goals try(exfalso;exact hne (eq_of_beq (by assumption)))
      conv=>whnf
      refine⟨⟨i+1,by omega,by omega⟩,?_,KD⟩
      have hsm:(if aF C.p k < i+1 then A.g else L.g)=if aF C.p k < i then A.g else L.g:=by
       by_cases hh:aF C.p k < i
       ·rw[if_pos hh,if_pos (by omega)]
       ·rw[if_neg hh,if_neg (by omega)]
      dsimp only
      rw[hsm]
      repeat' ((conv=>whnf);first|apply Wx|apply W6|apply oi|(apply fi<;>intro h)|refine⟨_,rfl,?_⟩|exact rfl)
      all_goals try exact⟨KP⟩
      all_goals try exact⟨KW⟩
    ·have hie:i=k:=by omega
     subst hie
     rw[if_pos o4]
     repeat' ((conv=>whnf);first|apply Wx|apply W6|apply oi|(apply fi<;>intro h)|refine⟨_,rfl,?_⟩|exact rfl)
     all_goals try exact⟨KP⟩
     all_goals try exact KX
     conv=>whnf
     refine⟨⟨(i+1,aS C x i ln A,A.g.items),hQ⟩,?_,KD⟩
     repeat' ((conv=>whnf);first|apply Wx|apply W6|apply oi|(apply fi<;>intro h)|refine⟨_,rfl,?_⟩|exact rfl)
     all_goals try exact⟨KP⟩
     all_goals try exact⟨KW⟩
     all_goals(refine⟨?_⟩;dsimp only;simp only[b1,b2,b3,b5,b6,a4,a5,a6,hee];try rfl)
  ·
   rw[if_neg (by omega),if_neg (by omega),if_pos h1]at hA
   have hx1:=hexp (.inl h1)
   have gX:=hX hx1 (by omega)
   have hG1:=hG hx1
   have hix:=jL x.locals ln.fab
   have gI:=eR x.locals ln.fab (by omega)
   have gS:=kT C hC g1 (d+1) (scH (S++[(x,L.lv)])) x (cQ x.locals ln.fab) k x.chain (by unfold bl;omega) hch (by omega) hxf (by omega)
   rw[Int.add_sub_cancel]at gS
   have a1:A.g=dp C x g1 (d+1) (cQ x.locals ln.fab) k x.chain:=by rw[←hA]
   have a4:A.heads=L.heads.set k L.g.items.length:=by rw[←hA]
   have a5:A.pos=L.pos:=by rw[←hA]
   have a6:A.lv=L.lv:=by rw[←hA]
   have hee:aX C.p L.pos (x.f+1) (k+1 - (x.f+1))=aX C.p L.pos (x.f+1) (k - (x.f+1)):=kn hkf (by unfold jumps;rw[bf hl,h1];decide)
   generalize cQ x.locals ln.fab=ix at *
   repeat' ((conv=>whnf);first|apply Wx|apply W6|refine cg gP ?_|refine cg gX ?_|refine cg gS ?_|apply oi|(apply fi<;>intro h)|refine⟨k,ln.tr,rfl,ab hl,?_⟩|refine⟨k,rfl,hIl,?_⟩|refine⟨_,hhr,?_⟩|refine⟨S.length,hw L.lv,hlt L.lv,?_⟩|refine⟨_,hrow L.lv,?_⟩|refine cl gI ?_|refine⟨_,rfl,?_⟩|exact rfl)
   all_goals try exact⟨KP⟩
   all_goals try exact KX
   all_goals try exact KK
   conv=>whnf
   refine⟨⟨(k+1,aS C x k ln A,A.g.items),hQ⟩,?_,KD⟩
   repeat' ((conv=>whnf);first|apply Wx|apply W6|apply oi|(apply fi<;>intro h)|refine⟨_,rfl,?_⟩|exact rfl)
   all_goals try exact⟨KP⟩
   all_goals try exact⟨KW⟩
   all_goals(refine⟨?_⟩;dsimp only;simp only[b1,b2,b3,b5,b6,a1,a4,a5,a6,hee,hitl,←hhs];try rfl)
  ·
   rw[if_neg (by omega),if_neg (by omega),if_neg (by omega),if_pos h2]at hA
   have hx1:=hexp (.inr (.inl h2))
   have gX:=hX hx1 (by omega)
   have hG1:=hG hx1
   have gS:=bG C g1 (d+1) (scH (S++[(x,L.lv)])) 17 0 k x.chain (by unfold bl;omega) hch
   have a1:A.g=au C g1 (d+1) 17 0 k x.chain:=by rw[←hA]
   have a4:A.heads=L.heads.set k L.g.items.length:=by rw[←hA]
   have a5:A.pos=L.pos:=by rw[←hA]
   have a6:A.lv=L.lv:=by rw[←hA]
   have hee:aX C.p L.pos (x.f+1) (k+1 - (x.f+1))=aX C.p L.pos (x.f+1) (k - (x.f+1)):=kn hkf (by unfold jumps;rw[bf hl,h2];decide)
   repeat' ((conv=>whnf);first|apply Wx|apply W6|refine cg gP ?_|refine cg gX ?_|refine cg gS ?_|apply oi|(apply fi<;>intro h)|refine⟨k,ln.tr,rfl,ab hl,?_⟩|refine⟨k,rfl,hIl,?_⟩|refine⟨_,hhr,?_⟩|refine⟨_,rfl,?_⟩|exact rfl)
   all_goals try exact⟨KP⟩
   all_goals try exact KX
   all_goals try exact KK
   conv=>whnf
   refine⟨⟨(k+1,aS C x k ln A,A.g.items),hQ⟩,?_,KD⟩
   repeat' ((conv=>whnf);first|apply Wx|apply W6|apply oi|(apply fi<;>intro h)|refine⟨_,rfl,?_⟩|exact rfl)
   all_goals try exact⟨KP⟩
   all_goals try exact⟨KW⟩
   all_goals(refine⟨?_⟩;dsimp only;simp only[b1,b2,b3,b5,b6,a1,a4,a5,a6,hee,hitl,←hhs];try rfl)
  ·
   rw[if_neg (by omega),if_neg (by omega),if_neg (by omega),if_neg (by omega),if_pos h6]at hA
   have hx1:=hexp (.inr (.inr (.inr (.inr h6))))
   have gX:=hX hx1 (by omega)
   have hG1:=hG hx1
   have gS:=pl C hC g1 (d+1) S x L.lv k false (by unfold bl;omega) hch (by omega) (by omega) (by omega) (L.heads.set k L.g.items.length) L.pos
   rw[hA,Int.add_sub_cancel]at gS
   have a4:A.heads=L.heads.set k L.g.items.length:=by rw[←hA];unfold aP;(repeat' split) <;> rfl
   have a5:A.pos=L.pos:=by rw[←hA];unfold aP;(repeat' split) <;> rfl
   have hee:aX C.p L.pos (x.f+1) (k+1 - (x.f+1))=aX C.p L.pos (x.f+1) (k - (x.f+1)):=kn hkf (by unfold jumps;rw[bf hl,h6];decide)
   repeat' ((conv=>whnf);first|apply Wx|apply W6|refine cg gP ?_|refine cg gX ?_|refine cg gS ?_|apply oi|(apply fi<;>intro h)|refine⟨k,ln.tr,rfl,ab hl,?_⟩|refine⟨k,rfl,hIl,?_⟩|refine⟨_,hhr,?_⟩|refine⟨_,rfl,?_⟩|exact rfl)
   all_goals try exact⟨KP⟩
   all_goals try exact KX
   all_goals try exact KK
   conv=>whnf
   refine⟨⟨(k+1,aS C x k ln A,A.g.items),hQ⟩,?_,KD⟩
   repeat' ((conv=>whnf);first|apply Wx|apply W6|apply oi|(apply fi<;>intro h)|refine⟨_,rfl,?_⟩|exact rfl)
   all_goals try exact⟨KP⟩
   all_goals try exact⟨KW⟩
   all_goals(refine⟨?_⟩;dsimp only;simp only[b1,b2,b3,b5,b6,a4,a5,hee,hitl,←hhs];try rfl)
  ·
   rw[if_neg (by omega),if_neg (by omega),if_neg (by omega),if_neg (by omega),if_neg (by omega)]at hA
   have hx1:=hexp (by omega)
   have gX:=hX hx1 (by omega)
   have hG1:=hG hx1
   have gS:=bG C g1 (d+1) (scH (S++[(x,L.lv)])) 11 0 k x.chain (by unfold bl;omega) hch
   have a1:A.g=au C g1 (d+1) 11 0 k x.chain:=by rw[←hA]
   have a4:A.heads=L.heads.set k L.g.items.length:=by rw[←hA]
   have a5:A.pos=L.pos.set k g1.items.length:=by rw[←hA]
   have a6:A.lv=L.lv:=by rw[←hA]
   have hkk:=bf hl
   have hee:=sY (pos:=L.pos) (p:=C.p) (f:=x.f) (k:=k) hkf (by unfold jumps;omega) (by rw[hIp];omega) (g1.items.length:Int)
   have gEn:=cI C.p (k:Int) (by omega)
   have gEl:=jD C.p (k:Int) (by omega)
   have hge:=lG C.p k
   have hgl:-1≤bc C.p (k:Int)∧bc C.p (k:Int)≤C.p.length:=by
    rw[fg]
    cases hz:elseAt C.p k with
    | none=>simp only[cp];omega
    | some j=>
     obtain⟨_,_,_,_,_,_,_,w,hw,_⟩:=aW hz
     have:=aL hw
     simp only[cp];omega
   have hto:jP C.p k=if ln.faa=3∧0≤bc C.p (k:Int)then - bc C.p (k:Int)else be C.p (k:Int)+1:=by unfold jP;rw[if_neg (by omega),hkk]
   have hml:((aX C.p L.pos (x.f+1) (k - (x.f+1))).map lZ).length=(aX C.p L.pos (x.f+1) (k - (x.f+1))).length:=by simp
   have hitg:=ij g1.items
   generalize jP C.p k=to at *
   generalize be C.p (k:Int)=en at *
   generalize bc C.p (k:Int)=el at *
   have hw1:IntKind.i64.wrap (en+1)=en+1:=by rw[IntWalk.i64_in _ (by omega)]
   have hw2:IntKind.i64.wrap (0 - el)= - el:=by rw[IntWalk.i64_in _ (by omega)];omega
   repeat' ((conv=>whnf);first|apply Wx|apply W6|refine cg gP ?_|refine cg gX ?_|refine cg gS ?_|apply oi|(apply fi<;>intro h)|refine⟨k,ln.tr,rfl,ab hl,?_⟩|refine⟨k,rfl,hIl,?_⟩|refine⟨_,hhr,?_⟩|refine cl gEn ?_|refine cl gEl ?_|refine⟨_,rfl,?_⟩|exact rfl)
   all_goals try exact⟨KP⟩
   all_goals try exact KX
   all_goals try exact KK
   all_goals try exact⟨⟨by rw[hml];simp <;> omega,by rw[hml];simp <;> omega⟩⟩
   all_goals(conv=>whnf)
   all_goals(refine⟨⟨(k+1,aS C x k ln A,A.g.items),hQ⟩,?_,KD⟩)
   repeat' ((conv=>whnf);first|apply Wx|apply W6|apply oi|(apply fi<;>intro h)|refine⟨_,rfl,?_⟩|exact rfl)
   all_goals try exact⟨KP⟩
   all_goals try exact⟨KW⟩
   all_goals(refine⟨?_⟩;dsimp only;simp only[b1,b2,b3,b5,b6,a1,a4,a5,a6,←hee,hitl,hitg,←hhs,hw1,hw2];try rfl)
   all_goals first
    |(rw[hto,if_pos ⟨eq_of_beq (by assumption),of_decide_eq_true (by assumption)⟩];simp)
    |(rw[hto,if_neg (fun hh=>absurd hh.2 (of_decide_eq_false (by assumption)))];simp)
    |(rw[hto,if_neg (fun hh=>by
                     have h9:(ln.faa==3)=false:=by assumption
                     rw[hh.1]at h9;cases h9)];simp)
 ·have hk1:k=e+1:=by have:=hI.hi;omega
  subst hk1
  have hf:=hI.fin
  rw[Nat.sub_self,jw]at hf
  subst hf
  rw[hlast rfl]
  repeat' ((conv=>whnf);first|apply Wx|apply W6|apply oi|(apply fi<;>intro h)|refine⟨_,rfl,?_⟩|exact rfl)
  all_goals try exact⟨KP⟩
  all_goals try exact KX
structure FP where
 b:List UInt8
 i:Nat
 h:Int
def FP.ok (c:FP):Prop:=c.i≤c.b.length∧c.b.length≤1048576
def aU (b:FO):Bool:=af b.fat 0 63 && af b.faj 0 3
theorem iL (b:FO):Sim.Spec Tryz.prog 60 [.agg b.tr] (rB (aU b)):=by
 refine aJ hΓ ao Tryz.func60 rfl (by decide) rfl ?_
 have h1:=bd b.fat 0 63
 have h2:=bd b.faj 0 3
 unfold aU
 generalize af b.fat 0 63=w1 at *
 generalize af b.faj 0 3=w2 at *
 repeat' ((conv=>whnf);first|apply Wx|apply W6|apply oi|(apply fi<;>intro h)|refine cl h1 ?_|refine cl h2 ?_|refine⟨_,rfl,?_⟩|exact rfl)
 all_goals try exact⟨KP⟩
 all_goals(refine⟨congrArg Tr.bool ?_⟩;simp_all)
theorem Cs {C:Cx}(hC:CxOk C):∀lev,Df C lev∧wW C lev:=by
 have hL:∀lev,Df C lev→wW C lev:=fun lev hR=>Cd hC fun e x S lv k p ln s d h1 h2 h3 h4 h5 h6=>zk hC hR e.toks.length e (Nat.le_refl _) x S lv k p ln s d h1 h2 h3 h4 h5 h6
 intro lev
 induction lev with
 | zero=>
  have hR:Df C 0:=by
   intro x S lv k g s d hx hk hg hrb hr
   obtain⟨r1,_⟩:=dS hrb
   have:=hr.depth
   rw[show(bM (S++[(x,lv)])).length=S.length+1 by simp]at r1
   omega
  exact⟨hR,hL 0 hR⟩
 | succ n ih=>
  have hR:=Ep hC ih.2
  exact⟨hR,hL _ hR⟩
def xp (frames f:Int):Bool:=IntKind.i64.wrap (BitVec.ofInt IntKind.i64.bits (frames.fdiv (2 ^ min f.toNat IntKind.i64.bits)) &&& BitVec.ofInt IntKind.i64.bits 1).toNat==1
theorem jc (C:Cx)(hC:CxOk C)(f g:Nat)(hf:(an C.p)[f]?=some g)(e3:C.framed=xp C.b.fat f)(e5:C.args=argsN C.p g):
  Sim.Spec Tryz.prog 133 [tvP C.p,tvI (f:Int),.agg C.b.tr,tvI C.words] (.tup [.c (.arr 7 ((cF C g).items.map FW.tr)),.c (.t (.int .i64 (cF C g).most))]):=by
 refine aJ hΓ ao Tryz.func133 rfl (by decide) rfl ?_
 obtain⟨hgl,y,hy,hy0⟩:=gZ (List.mem_of_getElem? hf)
 have h60:=hC.len
 have hw:=hC.words
 have hin:=hC.inl
 have gF:=cv C.p (by omega)
 have gL:=gK C.p (g:Int) (by omega) (fun z hz=>aA hC.small hz)
 have hA:argsN C.p g=y.faf.length:=by rw[argsN,hy]
 have h4:=(hC.line g y hy).2.2.1
 have hfl:f < (an C.p).length:=aL hf
 have hfr:f < ((an C.p).map fun n:Nat=>aa n).length:=by rw[List.length_map];exact hfl
 have hfg:((an C.p).map fun n:Nat=>aa n)[f]?=some (aa (g:Int)):=by rw[List.getElem?_map,hf];rfl
 have hloc:=cG hC ⟨y,hy,hy0⟩
 have hyl:(y.faf.map ag).length=y.faf.length:=by simp
 have hll:((localsOf C.p (g:Int)).map ag).length=(localsOf C.p (g:Int)).length:=by simp
 have hS:ScOk C (bq C g) [g]:=⟨⟨y,hy,hy0⟩,rfl,⟨Int.le_refl _,by simp[bq]⟩,rfl,by simp[bq],fun _=>e5,rfl⟩
 obtain⟨e,he1,he2,he3,he4,_⟩:=hS.endE hC
 obtain⟨O,hO⟩:∃O,bq C g=O:=⟨_,rfl⟩
 have hOr:ke O []=[.d (.int .i64 (g:Int)),.t (.lst 1 []),.t (.lst 1 ((localsOf C.p (g:Int)).map ag)),.d (.int .i64 0),.d (.bool true),.d (.lst 0 [])]:=by rw[←hO,bq];rfl
 have hOl:(scH [(O,[])])[0]?=some [.d (.int .i64 (g:Int)),.t (.lst 1 []),.t (.lst 1 ((localsOf C.p (g:Int)).map ag)),.d (.int .i64 0),.d (.bool true),.d (.lst 0 [])]:=by rw[←hOr];rfl
 have g1:=fun code=>bG C ⟨[],(localsOf C.p (g:Int)).length - C.args,false⟩ 0 (scH [(O,[])]) code C.words g [] (by unfold bl;simp) (by simp)
 have hlev:((C.b.faj.toNat:Nat):Int)=C.b.faj:=Int.toNat_of_nonneg hin.1
 have h3:=qo (n:=C.b.faj.toNat) (by omega)
 have gLs:=(Cs hC C.b.faj.toNat).2 O [] (dR C g) C.words (by rw[←hO];exact hS) (by
  rw[←hO,he4]
  have:=Nat.mul_le_mul (show e - (bq C g).f≤60 by omega) (show 20 * bW C.b.faj.toNat+3≤20 * 8679837+3 by omega)
  simp only[dR,au,List.length_append,List.length_nil,List.length_cons]
  omega) (by simpa using hlev) hw.1 (by omega)
 have hcg:aQ C (aT C C.b.faj.toNat) O (bM ([]++[(O,[])])) C.words (dR C g)=aQ C (aT C C.b.faj.toNat) (bq C g) [g] C.words (dR C g):=by rw[←hO];rfl
 rw[hcg,List.nil_append,List.nil_append]at gLs
 repeat' ((conv=>whnf);first|(with_reducible apply W1;fail_if_success (with_reducible show Wo _ _ _ _ (Code.region 4 _ _) _ _))|(with_reducible first|apply W2|apply W3|apply W4|apply W5|apply W6|apply W7|apply W8|apply W9)|apply aZ|apply oi|(apply fi<;>intro h)|refine cl gF ?_|refine⟨f,rfl,hfr,?_⟩|refine⟨_,hfg,?_⟩|refine⟨g,y.tr,rfl,ab hy,?_⟩|refine cl gL ?_|refine⟨_,rfl,?_⟩|exact rfl)
 all_goals try exact⟨KP⟩
 all_goals try exact⟨by omega⟩
 all_goals try exact⟨fd _⟩
 conv=>whnf
 refine BN (40,0,0) (rows':=[ke O []]) rfl ?_ ?_
 ·rw[hOr]
  refine⟨⟨rfl,fun q c d hc hd=>?_⟩,trivial⟩
  match q with
  | 0=>simp at hc hd;subst hc;subst hd;exact .inl rfl
  | 1=>simp at hc hd;subst hc;subst hd;exact .inr (.inr ⟨0,1,rfl,rfl⟩)
  | 2=>simp at hc hd;subst hc;subst hd;exact .inr (.inl rfl)
  | 3=>simp at hc hd;subst hc;subst hd;exact .inl rfl
  | 4=>simp at hc hd;subst hc;subst hd;exact .inl rfl
  | 5=>simp at hc hd;subst hc;subst hd;exact .inl rfl
  | q+6=>simp at hc
 refine pn ⟨[(0,vP C.p),(3,tI .i64 C.words),(10,tI .i64 (g:Int)),(11,.r (.c (.ptr (33,0,0) 0)))],[((33,0,0),some (oe C ⟨[],0,false⟩ 0 (33,0,1) (33,0,2))),((33,0,1),some (.dar 7 (itR []) none)),((33,0,2),some (.dar 6 (scH [(O,[])]) none))],[40,38,33,13,6]⟩ ?_ ?_
 ·skip
  repeat' ((conv=>whnf);first|apply Wx|apply W6|apply oi|(apply fi<;>intro h)|refine⟨_,rfl,?_⟩|exact rfl)
  all_goals try exact⟨KP⟩
  all_goals try exact⟨by rw[e3];rfl⟩
  all_goals try exact⟨by rw[e5,hA,hyl]⟩
 have hwm:IntKind.i64.wrap ((((localsOf C.p (g:Int)).map ag).length:Int) - C.args)=((localsOf C.p (g:Int)).length:Int) - C.args:=by rw[hll,IntWalk.i64_in _ (by omega)]
 cases hfm:C.framed with
 | true=>
  have hh:dR C g=au C ⟨[],(localsOf C.p (g:Int)).length - C.args,false⟩ 0 13 C.words g []:=by rw[dR,if_pos hfm]
  rw[hh]at gLs
  have g2:=g1 13
  have hcr:cF C g=(aQ C (aT C C.b.faj.toNat) (bq C g) [g] C.words (au C ⟨[],(localsOf C.p (g:Int)).length - C.args,false⟩ 0 13 C.words g [])).1:=by rw[cF,hh]
  rw[hcr]
  repeat' ((conv=>whnf);first|apply Wx|apply W6|refine cg g2 ?_|refine cg gLs ?_|apply oi|(apply fi<;>intro h)|refine⟨0,rfl,(by simp),?_⟩|refine⟨_,hOl,?_⟩|refine⟨_,rfl,?_⟩|exact rfl)
  all_goals try exact⟨KP⟩
  all_goals try(exfalso;rw[hfm]at h;cases h;done)
  all_goals first|exact⟨⟨_,rfl⟩⟩|exact⟨congrArg (Tr.int .i64) hwm.symm⟩
 | false=>
  have hh:dR C g=au C ⟨[],(localsOf C.p (g:Int)).length - C.args,false⟩ 0 15 C.words g []:=by rw[dR,if_neg (by simp[hfm])]
  rw[hh]at gLs
  have g2:=g1 15
  have hcr:cF C g=(aQ C (aT C C.b.faj.toNat) (bq C g) [g] C.words (au C ⟨[],(localsOf C.p (g:Int)).length - C.args,false⟩ 0 15 C.words g [])).1:=by rw[cF,hh]
  rw[hcr]
  repeat' ((conv=>whnf);first|apply Wx|apply W6|refine cg g2 ?_|refine cg gLs ?_|apply oi|(apply fi<;>intro h)|refine⟨0,rfl,(by simp),?_⟩|refine⟨_,hOl,?_⟩|refine⟨_,rfl,?_⟩|exact rfl)
  all_goals try exact⟨KP⟩
  all_goals try(exfalso;rw[hfm]at h;cases h;done)
  all_goals first|exact⟨⟨_,rfl⟩⟩|exact⟨congrArg (Tr.int .i64) hwm.symm⟩
theorem nE {C:Cx}(hC:CxOk C){g:Nat}(hg:bz C g)(e5:C.args=argsN C.p g):0≤(cF C g).most∧(cF C g).most≤1000:=by
 have hS:ScOk C (bq C g) [g]:=⟨hg,rfl,⟨Int.le_refl _,by simp[bq]⟩,rfl,by simp[bq],fun _=>e5,rfl⟩
 have hG:=gr (lev:=C.b.faj.toNat) (rep:=aT C C.b.faj.toNat) (fun line g d s hg hr=>cK hC _ line g d s hS hg hr) hC hS C.words (dR C g)
 obtain⟨l1,l2⟩:=cG hC hg
 have hm:(dR C g).most=(localsOf C.p (g:Int)).length - C.args:=rfl
 have h1:=hG.most
 have h2:=hG.cap (by rw[hm];omega)
 rw[hm]at h1
 exact⟨Int.le_trans (by omega) h1,h2⟩
def ctx (p:List FX)(f g:Nat)(b:FO)(words:Int):Cx:=⟨p,b,xp b.fat f,words,argsN p g⟩
noncomputable def foldIf (p:List FX) (b:FO):List FX:=if b.fax=true then p.map aN else p
noncomputable def gq (p:List FX) (f:Nat) (b:FO):List FW:=match(an (foldIf p b))[f]? with
 | some g=>(cF (ctx (foldIf p b) f g b (cF (ctx (foldIf p b) f g b 0) g).most) g).items
 | none=>[]
noncomputable def aH (p:List FX) (f:Int) (b:FO):List FW:=
 if az p=true∧aU b=true∧0≤f∧f < (an p).length then gq p f.toNat b else []
theorem alike.funsF:∀{p q:List FX},alike p q→∀i:Nat,funsF p i=funsF q i
 | [],[],_,_=>rfl
 | x::p,y::q,h,i=>by
  simp only[alike,List.map_cons,List.cons.injEq,Prod.mk.injEq]at h
  have ih:=alike.funsF (p:=p) (q:=q) h.2
  rw[Go.Proofs.YtoglejgmjeojoaaGreat.funsF,Go.Proofs.YtoglejgmjeojoaaGreat.funsF,h.1.1,ih]
 | [],_::_,h,_=>by simp[alike]at h
 | _::_,[],h,_=>by simp[alike]at h
theorem jf (p:List FX)(b:FO):an (foldIf p b)=an p:=by
 unfold foldIf
 split
 ·exact(iR p).funsF 0
 ·rfl
theorem PgOk.foldIf {p:List FX}(h:PgOk p)(b:FO):PgOk (foldIf p b):=by
 unfold Go.Proofs.YtoglejgmjeojoaaGreat.foldIf
 split
 ·exact h.fold
 ·exact h
theorem kr (p:List FX)(f:Int)(b:FO)(hs:ay 1048576 (.lst 4 (p.map FX.tr))):Sim.Spec Tryz.prog 64 [tvP p,tvI f,.agg b.tr] (rL 7 ((aH p f b).map FW.tr)):=by
 refine aJ hΓ ao Tryz.func64 rfl (by decide) rfl ?_
 have hP:=eA p hs
 have hB:=iL b
 have hl:=aI hs
 have gF:=cv p (by omega)
 have hfl:((an p).map fun n:Nat=>aa n).length=(an p).length:=by simp
 by_cases hc:az p=true∧aU b=true∧0≤f∧f < (an p).length
 ·have hcf:aH p f b=gq p f.toNat b:=by rw[aH,if_pos hc]
  rw[hcf]
  obtain⟨h1,h2,h3,h4⟩:=hc
  obtain⟨f,rfl⟩:=Int.eq_ofNat_of_zero_le h3
  rw[Int.toNat_natCast]
  rw[h1]at hP
  rw[h2]at hB
  have hb:0≤b.faj∧b.faj≤3:=by
   unfold aU at h2
   simp only[Bool.and_eq_true,within_iff]at h2
   exact h2.2
  obtain⟨g,hg⟩:=ae (l:=an p) (k:=f) (by omega)
  have hpg:=(sG hs h1).foldIf b
  have hg':(an (foldIf p b))[f]?=some g:=by rw[jf];exact hg
  obtain⟨hgl,y,hy,hy0⟩:=gZ (List.mem_of_getElem? hg')
  have h4':=(hpg.line g y hy).2.2.1
  have ha:(0:Int)≤(argsN (foldIf p b) g:Int)∧(argsN (foldIf p b) g:Int)≤4:=by rw[argsN,hy];dsimp only;omega
  have hC0:CxOk (ctx (foldIf p b) f g b 0):=hpg.cx ha (by omega) hb
  have hm:=nE hC0 ⟨y,hy,hy0⟩ rfl
  have hC1:CxOk (ctx (foldIf p b) f g b (cF (ctx (foldIf p b) f g b 0) g).most):=hpg.cx ha hm hb
  have g0:=jc _ hC0 f g hg' rfl rfl
  have g1:=jc _ hC1 f g hg' rfl rfl
  have hcd:gq p f b=(cF (ctx (foldIf p b) f g b (cF (ctx (foldIf p b) f g b 0) g).most) g).items:=by rw[gq,hg']
  rw[hcd]
  generalize cF (ctx (foldIf p b) f g b 0) g=R0 at *
  generalize cF (ctx (foldIf p b) f g b R0.most) g=R1 at *
  have hfo:=nZ p hs
  rw[show dg p=p.map aN by rw[dg,if_pos h1]]at hfo
  obtain⟨fr,inl,fold,sp⟩:=b
  cases fold with
  | true=>
   have e:foldIf p ⟨fr,inl,true,sp⟩=p.map aN:=rfl
   simp only[ctx,e]at g0 g1
   repeat' ((conv=>whnf);first|apply Wx|apply W6|apply oi|(apply fi<;>intro h)|refine cl hP ?_|refine cl hB ?_|refine cl gF ?_|refine cl hfo ?_|refine cl g0 ?_|refine cl g1 ?_|refine⟨_,rfl,?_⟩|exact rfl)
   all_goals try exact⟨KP⟩
   all_goals try exact KX
  | false=>
   have e:foldIf p ⟨fr,inl,false,sp⟩=p:=rfl
   simp only[ctx,e]at g0 g1
   repeat' ((conv=>whnf);first|apply Wx|apply W6|apply oi|(apply fi<;>intro h)|refine cl hP ?_|refine cl hB ?_|refine cl gF ?_|refine cl hfo ?_|refine cl g0 ?_|refine cl g1 ?_|refine⟨_,rfl,?_⟩|exact rfl)
   all_goals try exact⟨KP⟩
   all_goals try exact KX
 ·have hcf:aH p f b=[]:=by rw[aH,if_neg hc]
  rw[hcf]
  cases h1:az p with
  | false=>
   rw[h1]at hP
   repeat' ((conv=>whnf);first|apply Wx|apply W6|apply oi|(apply fi<;>intro h)|refine cl hP ?_|refine cl hB ?_|refine cl gF ?_|refine⟨_,rfl,?_⟩|exact rfl)
   all_goals try exact⟨KP⟩
   all_goals try exact KX
  | true=>
   rw[h1]at hP
   cases h2:aU b with
   | false=>
    rw[h2]at hB
    repeat' ((conv=>whnf);first|apply Wx|apply W6|apply oi|(apply fi<;>intro h)|refine cl hP ?_|refine cl hB ?_|refine cl gF ?_|refine⟨_,rfl,?_⟩|exact rfl)
    all_goals try exact⟨KP⟩
    all_goals try exact KX
   | true=>
    rw[h2]at hB
    have hc':¬(0≤f∧f < (an p).length):=fun hh=>hc ⟨h1,h2,hh⟩
    repeat' ((conv=>whnf);first|apply Wx|apply W6|apply oi|(apply fi<;>intro h)|refine cl hP ?_|refine cl hB ?_|refine cl gF ?_|refine⟨_,rfl,?_⟩|exact rfl)
    all_goals try exact⟨KP⟩
    all_goals try exact KX
def uW (l:List FW):Prop:=∀it∈l,it.far.length≤4
structure Cap (M t:Nat) (s s':Gs):Prop where
 le:s'.items.length≤max s.items.length M+t
 ch:uW s.items→uW s'.items
theorem Cap.refl {M:Nat}(s:Gs):Cap M 0 s s:=⟨by omega,id⟩
theorem Cap.trans {M n m:Nat}{a b c:Gs}(h:Cap M n a b)(h':Cap M m b c):Cap M (n+m) a c:=⟨by have:=h.le;have:=h'.le;omega,fun x=>h'.ch (h.ch x)⟩
theorem Cap.mono {M n m:Nat}{a b:Gs}(h:Cap M n a b)(hn:n≤m):Cap M m a b:=⟨by have:=h.le;omega,h.ch⟩
theorem bR {M:Nat}(C:Cx)(s:Gs)(d code arg line:Int){chain:List Int}(hc:chain.length≤4):Cap M 1 s (au C s d code arg line chain):=by
 refine⟨by simp only[au,List.length_append,List.length_cons,List.length_nil];omega,fun h it hit=>?_⟩
 simp only[au,List.mem_append,List.mem_cons,List.not_mem_nil,or_false]at hit
 rcases hit with hit|rfl
 ·exact h it hit
 ·exact hc
theorem qO {l:List FW}(h:uW l)(j v:Int):uW (bK l j v):=by
 unfold bK
 split
 ·split
  ·rename_i it hi
   intro z hz
   rcases List.mem_or_eq_of_mem_set hz with hz|rfl
   ·exact h z hz
   ·exact h it (List.mem_of_getElem? hi)
  ·exact h
 ·exact h
theorem wj (v:Int):∀(js:List Int) {l:List FW},uW l→uW (cn l v js)
 | [],_,h=>h
 | j::js,_,h=>by rw[cn];exact wj v js (qO h j v)
theorem Cap.set {M n:Nat}{a b:Gs}{l:List FW}(h:Cap M n a b)(hl:l.length=b.items.length)(hc:uW b.items→uW l):Cap M n a ⟨l,b.most,b.start⟩:=⟨by have:=h.le;simp only[hl];omega,fun x=>hc (h.ch x)⟩
section
variable {C:Cx} {x:Sc} {ins:List Nat} {rep:Sc→List Nat→Nat→Nat→Int→Gs→Gs} {line:Nat} {M:Nat}
theorem qX (y:Sc){chain:List Int}(hc:chain.length≤4)(line:Int):∀(n:Nat) (d:Int) (s:Gs),Cap M n s (cz C y chain line n d s)
 | 0,d,s=>Cap.refl s
 | n+1,d,s=>by
  rw[cz]
  exact((bR C s d _ _ _ hc).trans (qX y hc line n (d - 1) _)).mono (by omega)
theorem uz (y:Sc){chain:List Int}(hc:chain.length≤4)(line d:Int):∀(n i:Nat) (s:Gs),Cap M (2 * n) s (cT C y chain line d n i s)
 | 0,i,s=>Cap.refl s
 | n+1,i,s=>by
  rw[cT]
  exact(((bR C s d _ _ _ hc).trans (bR C _ (d+1) _ _ _ hc)).trans (uz y hc line d n (i+1) _)).mono (by omega)
theorem DV (hx:x.chain.length≤4)(hrep:∀g d s,bz C g→bU C ins g s.items.length=true→Cap M 0 s (rep x ins line g d s))(t:Gf)(d:Int)(s:Gs):Cap M 1 s (iZ C rep x ins line t d s):=by
 unfold iZ
 split
 ·exact bR _ _ _ _ _ _ hx
 ·split
  ·exact bR _ _ _ _ _ _ hx
  ·split
   ·split
    ·rename_i g hg
     split
     ·rename_i hr
      obtain⟨_,ln,h1,h2,_⟩:=fe hg
      exact(hrep g d s ⟨ln,h1,h2⟩ hr).mono (by omega)
     ·exact bR _ _ _ _ _ _ hx
    ·exact(Cap.refl s).mono (by omega)
   ·exact bR _ _ _ _ _ _ hx
mutual
theorem xV (hx:x.chain.length≤4)(hrep:∀g d s,bz C g→bU C ins g s.items.length=true→Cap M 0 s (rep x ins line g d s)):∀(e:Ex) (d:Int) (s:Gs),Cap M e.toks.length s (dJ C rep x ins line e d s)
 | .node t es,d,s=>by
  rw[dJ,Ex.toks,List.length_cons]
  exact((wl hx hrep es d s).trans (DV hx hrep t _ _)).mono (by omega)
theorem wl (hx:x.chain.length≤4)(hrep:∀g d s,bz C g→bU C ins g s.items.length=true→Cap M 0 s (rep x ins line g d s)):∀(es:List Ex) (d:Int) (s:Gs),Cap M (ak es).length s (da C rep x ins line es d s)
 | [],d,s=>by rw[da,ak];exact(Cap.refl s).mono (by omega)
 | a::es,d,s=>by
  rw[da,ak,List.length_append]
  exact(xV hx hrep a d s).trans (wl hx hrep es (d+1) _)
end
theorem CL (hC:CxOk C)(hx:x.chain.length≤4)(line:Nat){g:Nat}(hg:bz C g)(d:Int)(s:Gs):Cap M 16 s (dK C x line g d s):=by
 obtain⟨h1,h2⟩:=cG hC hg
 have h0:Cap M 0 s ⟨s.items,max s.most (bp C x+(localsOf C.p (g:Int)).length),s.start⟩:=⟨by dsimp only;omega,id⟩
 unfold dK
 exact((h0.trans (qX _ hx _ _ _ _)).trans (uz _ hx _ _ _ _ _)).mono (by omega)
theorem zF (hx:x.chain.length≤4)(line:Nat)(d:Int)(s:Gs):Cap M 1 s (bO C x line d s):=by
 unfold bO
 split
 ·exact bR _ _ _ _ _ _ hx
 ·exact(Cap.refl s).mono (by omega)
theorem uv (hx:x.chain.length≤4)(k:Nat)(last:Bool)(d:Int)(L:Ls):Cap M 1 L.g (aP C x k last d L).g:=by
 unfold aP
 split
 ·split
  ·exact bR _ _ _ _ _ _ hx
  ·exact bR _ _ _ _ _ _ hx
 ·split
  ·exact(Cap.refl _).mono (by omega)
  ·exact bR _ _ _ _ _ _ hx
theorem BQ (hx:x.chain.length≤4)(hrep:∀g d s,bz C g→bU C ins g s.items.length=true→Cap M 0 s (rep x ins line g d s))(hC:CxOk C){k:Nat}{ln:FX}(hk:C.p[k]?=some ln)(he:bi ln.fad=true)(d:Int)(s:Gs):Cap M 20 s (dJ C rep x ins line (exL ln.fad) d s):=by
 have h1:=(pS he).2
 have h2:=(hC.line _ _ hk).2.2.2.1
 rw[h1]at h2
 exact(xV hx hrep _ d s).mono h2
theorem BT (hx:x.chain.length≤4)(hrep:∀line g d s,bz C g→bU C ins g s.items.length=true→Cap M 0 s (rep x ins line g d s))(hC:CxOk C){k:Nat}{ln:FX}(hk:C.p[k]?=some ln)(h0:ln.faa≠0)(base:Int)(L:Ls):Cap M 22 L.g (dn C rep x ins base k ln L).g:=by
 unfold dn
 split
 ·exact((bR C L.g base 10 0 k hx).set (db _ _ _) fun h=>qO h _ _).mono (by omega)
 ·split
  ·split
   ·refine Cap.mono (n:=1+1) ?_ (by omega)
    exact(bR C L.g base 0 0 k hx).trans (uv hx k true (base+1) {L with g:=au C L.g base 0 0 k x.chain})
   ·split
    ·exact(bR _ _ _ _ _ _ hx).mono (by omega)
    ·exact(Cap.refl _).mono (by omega)
  ·rename_i h4 h7
   have hl:=hC.line _ _ hk
   have h20:Cap M 20 L.g (dJ C rep x ins k (exL ln.fad) base ⟨L.g.items,L.g.most,true⟩):=by
    have:=BQ hx (fun g d s=>hrep k g d s) hC hk (hl.2.2.2.2 (by omega)) base ⟨L.g.items,L.g.most,true⟩
    exact⟨this.le,this.ch⟩
   split
   ·exact(h20.trans (bR _ _ _ _ _ _ hx)).mono (by omega)
   ·split
    ·exact(h20.trans (bR _ _ _ _ _ _ hx)).mono (by omega)
    ·split
     ·refine Cap.mono (n:=20+1) ?_ (by omega)
      exact h20.trans (uv hx k false (base+1) {L with g:=dJ C rep x ins k (exL ln.fad) base ⟨L.g.items,L.g.most,true⟩,heads:=L.heads.set k L.g.items.length})
     ·exact(h20.trans (bR _ _ _ _ _ _ hx)).mono (by omega)
theorem Cv (k:Nat)(ln:FX)(L:Ls):Cap M 0 L.g (aS C x k ln L).g:=by
 unfold aS
 split
 ·exact(Cap.refl _).set (db _ _ _) fun h=>qO h _ _
 ·exact Cap.refl _
theorem zb (hx:x.chain.length≤4)(hrep:∀line g d s,bz C g→bU C ins g s.items.length=true→Cap M 0 s (rep x ins line g d s))(hC:CxOk C)(base:Int):∀(n k:Nat) (L:Ls),(∀i y,k≤i→i < k+n→C.p[i]?=some y→y.faa≠0)→Cap M (n * 22) L.g (jw C rep x ins base n k L).g
 | 0,k,L,_=>(Cap.refl _).mono (by omega)
 | n+1,k,L,h=>by
  rw[jw]
  split
  ·rename_i ln hk
   exact(((BT hx hrep hC hk (h k ln (Nat.le_refl _) (by omega) hk) base L).trans (Cv k ln _)).trans (zb hx hrep hC base n (k+1) _ fun i y h1 h2 hy=>h i y (by omega) (by omega) hy)).mono (by omega)
  ·exact(Cap.refl _).mono (by omega)
theorem uN (hc:x.chain.length≤4)(hrep:∀line g d s,bz C g→bU C ins g s.items.length=true→Cap M 0 s (rep x ins line g d s))(hC:CxOk C)(hx:ScOk C x ins)(base:Int)(s:Gs):Cap M ((jV C.p x.f - x.f) * 22) s (aQ C rep x ins base s).1:=by
 unfold aQ
 obtain⟨ln,h1,h2⟩:=hx.fn
 obtain⟨e,h3,_,_,h4⟩:=hC.fn _ _ h1 h2
 obtain⟨e',g3,_,_,g5,_⟩:=hx.endE hC
 rw[h3]at g3
 injection g3 with g3
 subst g3
 rw[g5]
 refine zb hc hrep hC base (e - x.f) (x.f+1) (ce C s) fun i y k1 k2 hy=>?_
 by_cases hie:i=e
 ·subst hie
  obtain⟨z,hz,h7⟩:=bu h3
  rw[hy]at hz
  injection hz with hz
  subst hz
  omega
 ·exact(h4 i y (by omega) (by omega) hy).1
end
theorem yR {C:Cx}(hC:CxOk C):∀(lev:Nat) {x:Sc} {ins:List Nat} (line g:Nat) (d:Int) (s:Gs),ScOk C x ins→bz C g→bU C ins g s.items.length=true→Cap (217+198 * lev) 0 s (aT C lev x ins line g d s)
 | 0,x,ins,line,g,d,s,hx,hg,hr=>(Cap.refl s).mono (by omega)
 | lev+1,x,ins,line,g,d,s,hx,hg,hr=>by
  obtain⟨r1,r2,r3,_⟩:=dS hr
  have hin:=hC.inl
  have hch:=hx.chain
  have hy:=kv hC hx line hg
  have h1:=CL (M:=217) (x:=x) hC (by omega) line hg d s
  have h2:=zF (C:=C) (M:=217) (x:=x) (by omega) line (d - argsN C.p g) (dK C x line g d s)
  have hcy:=hy.chain
  rw[List.length_append,List.length_cons,List.length_nil]at hcy
  have h3:=uN (M:=217+198 * lev) (rep:=aT C lev) (by omega) (fun line g d s hg hr=>yR hC lev line g d s hy hg hr) hC hy (d - argsN C.p g) (bO C x line (d - argsN C.p g) (dK C x line g d s))
  obtain⟨e,e1,e2,e3,e4,_⟩:=hy.endE hC
  have e5:be C.p (g:Int)=(e:Int):=by rw[bb];exact ba e1
  have e6:jV C.p (bC C x line g).f - (bC C x line g).f≤9:=by rw[e4];show e - g≤9;omega
  show Cap _ 0 s (go C (aQ C (aT C lev)) x ins line g d s)
  unfold go
  have l1:=vy hC hx (by omega) line hg d s
  have l2:=qZ (C:=C) x line (d - argsN C.p g) (dK C x line g d s)
  refine⟨?_,fun h=>wj _ _ (h3.ch (h2.ch (h1.ch h)))⟩
  simp only[fa]
  have k3:=h3.le
  have k1:=l1.le
  have k2:=l2.le
  omega
theorem BS {C:Cx}(hC:CxOk C){g:Nat}(hg:bz C g)(e5:C.args=argsN C.p g):(cF C g).items.length≤2500∧uW (cF C g).items:=by
 have hS:ScOk C (bq C g) [g]:=⟨hg,rfl,⟨Int.le_refl _,by simp[bq]⟩,rfl,by simp[bq],fun _=>e5,rfl⟩
 have hG:=uN (M:=217+198 * C.b.faj.toNat) (rep:=aT C C.b.faj.toNat) (by simp[bq]) (fun line g d s hg hr=>yR hC _ line g d s hS hg hr) hC hS C.words (dR C g)
 obtain⟨e,e1,e2,e3,e4,_⟩:=hS.endE hC
 have hl:=hC.len
 have hin:=hC.inl
 have hh:(dR C g).items.length=1:=by simp[dR,au]
 have hk:=hG.le
 refine⟨?_,hG.ch fun it hit=>?_⟩
 ·show(aQ C (aT C C.b.faj.toNat) (bq C g) [g] C.words (dR C g)).1.items.length≤2500
  omega
 ·simp only[dR,au,List.nil_append,List.mem_cons,List.not_mem_nil,or_false]at hit
  subst hit
  exact Nat.zero_le _
theorem qV {p:List FX}{f:Int}{b:FO}(hs:ay 1048576 (.lst 4 (p.map FX.tr)))(h1:az p=true)(h2:aU b=true)(h3:0≤f)(h4:f < (an p).length):∃(g:Nat) (C:Cx),(an p)[f.toNat]?=some g∧CxOk C∧C.p=foldIf p b∧C.b=b∧C.args=argsN C.p g∧C.framed=xp b.fat f∧bz C g∧aH p f b=(cF C g).items∧C.words=(cF (ctx (foldIf p b) f.toNat g b 0) g).most:=by
 obtain⟨f,rfl⟩:=Int.eq_ofNat_of_zero_le h3
 have hb:0≤b.faj∧b.faj≤3:=by
  unfold aU at h2
  simp only[Bool.and_eq_true,within_iff]at h2
  exact h2.2
 obtain⟨g,hg⟩:=ae (l:=an p) (k:=f) (by omega)
 have hpg:=(sG hs h1).foldIf b
 have hg':(an (foldIf p b))[f]?=some g:=by rw[jf];exact hg
 obtain⟨hgl,y,hy,hy0⟩:=gZ (List.mem_of_getElem? hg')
 have h4':=(hpg.line g y hy).2.2.1
 have ha:(0:Int)≤(argsN (foldIf p b) g:Int)∧(argsN (foldIf p b) g:Int)≤4:=by rw[argsN,hy];dsimp only;omega
 have hC0:CxOk (ctx (foldIf p b) f g b 0):=hpg.cx ha (by omega) hb
 have hm:=nE hC0 ⟨y,hy,hy0⟩ rfl
 have hC1:CxOk (ctx (foldIf p b) f g b (cF (ctx (foldIf p b) f g b 0) g).most):=hpg.cx ha hm hb
 refine⟨g,_,by rw[Int.toNat_natCast];exact hg,hC1,rfl,rfl,rfl,rfl,⟨y,hy,hy0⟩,?_,by rw[Int.toNat_natCast];rfl⟩
 rw[aH,if_pos ⟨h1,h2,h3,h4⟩,Int.toNat_natCast,gq,hg']
theorem fy {p:List FX}{f:Int}{b:FO}(hs:ay 1048576 (.lst 4 (p.map FX.tr))):(aH p f b).length≤2500∧uW (aH p f b):=by
 by_cases hc:az p=true∧aU b=true∧0≤f∧f < (an p).length
 ·obtain⟨h1,h2,h3,h4⟩:=hc
  obtain⟨g,C,_,k2,_,_,k5,_,k7,k8,_⟩:=qV hs h1 h2 h3 h4
  rw[k8]
  exact BS k2 k7 k5
 ·rw[aH,if_neg hc]
  exact⟨by simp,fun it h=>by cases h⟩
end Go.Proofs.YtoglejgmjeojoaaGreat
namespace Go.Proofs.YtoglejgmjeojoaaGreat
open Go.Sim
set_option maxRecDepth 100000
set_option maxHeartbeats 4000000
def dT (c a:Int):Prop:=0≤c∧c≤17∧(c=0→-2147483648≤a∧a≤2147483647)∧(c=1∨c=2∨c=3∨c=4∨c=10∨c=11→-32768≤a∧a≤32767)∧(c=16→0≤a∧a≤65535)∧(c=12∨c=13∨c=14∨c=15→0≤a∧a≤255)∧(5≤c∧c≤9∨c=17→a=0)
def jg (C:Cx)(line:Int):Prop:=∃y,0≤line∧C.p[line.toNat]?=some y∧y.faa≠0
structure GoodI (C:Cx) (n:Nat) (it:FW):Prop where
 line:jg C it.fan
 jump:it.fag.fac=10∨it.fag.fac=11→0≤it.fag.fak∧it.fag.fak≤n
 op:¬(it.fag.fac=10∨it.fag.fac=11)→dT it.fag.fac it.fag.fak
 enter:it.fag.fac≠13
theorem GoodI.mono {C:Cx}{n m:Nat}{it:FW}(h:GoodI C n it)(hn:n≤m):GoodI C m it:=⟨h.line,fun k=>by have:=h.jump k;omega,h.op,h.enter⟩
def FE (C:Cx)(g:Nat)(it:FW):Prop:=(it.fag.fac=13∨it.fag.fac=15)∧it.fan=g∧it.fag.fak=C.words
def InvI (C:Cx)(g:Nat)(l:List FW):Prop:=∃h t,l=h::t∧FE C g h∧∀it∈t,GoodI C l.length it
def eZ (l:List FW)(i:Nat):Option Int:=(l[i]?).map (·.fag.fac)
def JP (l:List FW)(j:Int):Prop:=0≤j∧∃c,eZ l j.toNat=some c∧(c=10∨c=11)
structure Tr2 (C:Cx) (g:Nat) (a b:Gs):Prop where
 ext:∀i c,eZ a.items i=some c→eZ b.items i=some c
 inv:InvI C g a.items→InvI C g b.items
 most:a.most≤60→b.most≤60
theorem Tr2.refl {C:Cx}{g:Nat}(s:Gs):Tr2 C g s s:=⟨fun _ _ h=>h,id,id⟩
theorem Tr2.trans {C:Cx}{g:Nat}{a b c:Gs}(h:Tr2 C g a b)(h':Tr2 C g b c):Tr2 C g a c:=⟨fun i v x=>h'.ext i v (h.ext i v x),fun x=>h'.inv (h.inv x),fun x=>h'.most (h.most x)⟩
theorem wh {l:List FW}{i:Nat}{c:Int}(h:eZ l i=some c):i < l.length:=by
 unfold eZ at h
 cases hi:l[i]? with
 | none=>rw[hi]at h;cases h
 | some x=>exact aL hi
theorem yy {l:List FW}{i:Nat}(h:i < l.length):∃c,eZ l i=some c:=by
 obtain⟨x,hx⟩:=ae h
 exact⟨x.fag.fac,by rw[eZ,hx];rfl⟩
theorem JP.ext {a b:List FW}(h:∀i c,eZ a i=some c→eZ b i=some c){j:Int}(hj:JP a j):JP b j:=by
 obtain⟨h0,c,h1,h2⟩:=hj
 exact⟨h0,c,h _ _ h1,h2⟩
theorem Tr2.len {C:Cx}{g:Nat}{a b:Gs}(h:Tr2 C g a b):a.items.length≤b.items.length:=by
 rcases Nat.eq_zero_or_pos a.items.length with h0|h0
 ·omega
 ·obtain⟨c,hc⟩:=yy (l:=a.items) (i:=a.items.length - 1) (by omega)
  have:=wh (h.ext _ _ hc)
  omega
theorem dx {C:Cx}{g:Nat}{s:Gs}{d code arg line:Int}{chain:List Int}(hl:jg C line)(h1:code=10∨code=11→0≤arg∧arg≤s.items.length)(h2:¬(code=10∨code=11)→dT code arg)(h3:code≠13):Tr2 C g s (au C s d code arg line chain):=by
 refine⟨fun i c h=>?_,fun⟨h,t,e1,e2,e3⟩=>?_,id⟩
 ·have:=wh h
  unfold eZ at h ⊢
  simp only[au]
  rw[List.getElem?_append_left this]
  exact h
 ·refine⟨h,t++[kQ C s d code arg line chain],by simp[au,e1],e2,fun it hit=>?_⟩
  have hn:s.items.length≤(au C s d code arg line chain).items.length:=by simp[au]
  rw[List.mem_append,List.mem_singleton]at hit
  rcases hit with hit|rfl
  ·exact(e3 it hit).mono hn
  ·exact⟨hl,fun k=>by have:=h1 k;simp only[kQ];omega,h2,h3⟩
theorem yZ {l:List FW}{j v:Int}(i:Nat):eZ (bK l j v) i=eZ l i:=by
 unfold bK
 split
 ·split
  ·rename_i x hx
   unfold eZ
   by_cases h:j.toNat=i
   ·subst h
    rw[List.getElem?_set_self (aL hx),hx]
    rfl
   ·rw[List.getElem?_set_ne h]
  ·rfl
 ·rfl
theorem At {C:Cx}{g:Nat}{l:List FW}{j:Int}(h:InvI C g l)(hj:JP l j):InvI C g (bK l j l.length):=by
 obtain⟨a,t,e1,e2,e3⟩:=h
 obtain⟨h0,c,h1,h2⟩:=hj
 unfold bK
 rw[if_pos h0]
 cases hx:l[j.toNat]? with
 | none=>simp only;exact⟨a,t,e1,e2,e3⟩
 | some x=>
  have hc:x.fag.fac=c:=by rw[eZ,hx]at h1;simpa using h1
  have hj0:j.toNat≠0:=by
   intro h
   rw[h,e1]at hx
   simp at hx
   subst hx
   have:=e2.1
   omega
  obtain⟨m,hm⟩:∃m,j.toNat=m+1:=⟨j.toNat - 1,by omega⟩
  rw[hm,e1,List.getElem?_cons_succ]at hx
  have hg:=e3 x (List.mem_of_getElem? hx)
  refine⟨a,t.set m ⟨⟨x.fag.fac,l.length⟩,x.fan,x.fah,x.far,x.fas,x.faw⟩,?_,e2,fun it hit=>?_⟩
  ·rw[e1,hm];rfl
  ·rw[List.length_set]
   rcases List.mem_or_eq_of_mem_set hit with hit|rfl
   ·exact e3 it hit
   ·exact⟨hg.line,fun _=>by simp only;omega,fun k=>absurd (by rw[hc];exact h2) k,hg.enter⟩
theorem qC {C:Cx}{g:Nat}{s:Gs}{j:Int}(hj:JP s.items j):Tr2 C g s ⟨bK s.items j s.items.length,s.most,s.start⟩:=
 ⟨fun i c h=>by rw[yZ];exact h,fun h=>At h hj,id⟩
theorem vn {C:Cx}{g:Nat}:∀(js:List Int) {s:Gs},(∀j∈js,JP s.items j)→Tr2 C g s ⟨cn s.items s.items.length js,s.most,s.start⟩
 | [],s,_=>Tr2.refl s
 | j::js,s,h=>by
  have h1:=qC (C:=C) (g:=g) (s:=s) (h j (by simp))
  have h2:=vn (C:=C) (g:=g) js (s:=⟨bK s.items j s.items.length,s.most,s.start⟩) fun i hi=>(h i (by simp[hi])).ext h1.ext
  simp only[db]at h2
  exact h1.trans h2
theorem xB {C:Cx}{s:Gs}{d code arg line:Int}{chain:List Int}(h:code=10∨code=11):JP (au C s d code arg line chain).items (s.items.length:Int):=by
 refine⟨by omega,code,?_,h⟩
 rw[eZ,Int.toNat_natCast]
 simp[au,kQ]
theorem AQ:∀(es:List Ex),es.length≤(ak es).length
 | []=>Nat.zero_le _
 | a::es=>by
  have:=AQ es
  have:=a.toks_pos
  rw[ak,List.length_append,List.length_cons];omega
section
variable {C:Cx} {x:Sc} {ins:List Nat} {rep:Sc→List Nat→Nat→Nat→Int→Gs→Gs} {line:Nat} {G:Nat}
theorem uE (hC:CxOk C){y:Sc}(hf:0≤y.first∧y.first≤200){d i:Int}(hd:-100≤d∧d≤2000)(hi:-2≤i∧i≤100)(store:Bool):¬(bZ C store=10∨bZ C store=11)∧bZ C store≠13∧dT (bZ C store) (cw C y d i):=by
 have ha:=hC.args
 have hk:eG C y i≥-10∧eG C y i≤400:=by unfold eG;split <;> omega
 have hc:1≤bZ C store∧bZ C store≤4:=by unfold bZ;split <;> split <;> omega
 have hA:-10000≤cw C y d i∧cw C y d i≤10000:=by unfold cw;repeat' split <;> omega
 unfold dT
 omega
theorem Es (hC:CxOk C){y:Sc}(hf:0≤y.first∧y.first≤200){d i line:Int}(hd:-100≤d∧d≤2000)(hi:-2≤i∧i≤100)(hl:jg C line)(s:Gs):Tr2 C G s (Br C y s d i line):=by
 obtain⟨h1,h2,h3⟩:=uE hC hf hd hi false
 exact dx hl (fun k=>absurd k h1) (fun _=>h3) h2
theorem tL (hC:CxOk C){y:Sc}(hf:0≤y.first∧y.first≤200){d i line:Int}(hd:-100≤d∧d≤2000)(hi:-2≤i∧i≤100)(hl:jg C line)(s:Gs)(chain:List Int):Tr2 C G s (dp C y s d i line chain):=by
 obtain⟨h1,h2,h3⟩:=uE hC hf hd hi true
 exact dx hl (fun k=>absurd k h1) (fun _=>h3) h2
theorem vT:dT 0 0:=by unfold dT;omega
theorem wi (hC:CxOk C){y:Sc}(hf:0≤y.first∧y.first≤200){chain:List Int}{line:Int}(hl:jg C line):∀(n:Nat) (d:Int) (s:Gs),n≤50→-100≤d - n→d≤2000→Tr2 C G s (cz C y chain line n d s)
 | 0,d,s,_,_,_=>Tr2.refl s
 | n+1,d,s,h0,h1,h2=>by
  rw[cz]
  exact(tL hC hf (by omega) (by omega) hl s chain).trans (wi hC hf hl n (d - 1) _ (by omega) (by omega) (by omega))
theorem yo (hC:CxOk C){y:Sc}(hf:0≤y.first∧y.first≤200){chain:List Int}{line d:Int}(hl:jg C line)(hd:-100≤d∧d≤1999):∀(n i:Nat) (s:Gs),i+n≤50→Tr2 C G s (cT C y chain line d n i s)
 | 0,i,s,_=>Tr2.refl s
 | n+1,i,s,h=>by
  rw[cT]
  exact((dx hl (fun k=>by omega) (fun _=>vT) (by omega)).trans (tL hC hf (by omega) (by omega) hl _ chain)).trans (yo hC hf hl hd n (i+1) _ (by omega))
def zR (C:Cx)(rep:Sc→List Nat→Nat→Nat→Int→Gs→Gs)(G:Nat)(x:Sc)(ins:List Nat):Prop:=
 ∀(line g:Nat) (d:Int) (s:Gs),jg C line→bz C g→-10 * (ins.length:Int)≤d→d≤1000+30 * ins.length+21→bU C ins g s.items.length=true→Tr2 C G s (rep x ins line g d s)
theorem Fm (hC:CxOk C)(hx:ScOk C x ins)(hi:ins.length≤4)(hrep:zR C rep G x ins)(hl:jg C line){t:Gf}(ht:eB t=true){d:Int}(h1:-10 * (ins.length:Int)≤d)(h2:d≤1000+30 * ins.length+21)(s:Gs):Tr2 C G s (iZ C rep x ins line t d s):=by
 obtain⟨e,e1,e2,e3,e4,e5⟩:=hx.endE hC
 have hfi:=hx.first
 have hli:=jL x.locals t.fab
 unfold eB at ht
 unfold iZ
 split
 ·rename_i h0
  rw[if_pos h0]at ht
  simp only[Bool.and_eq_true,within_iff]at ht
  exact dx hl (fun k=>by omega) (fun _=>by unfold dT;omega) (by omega)
 ·rename_i h0
  rw[if_neg h0]at ht
  split
  ·exact Es hC (by omega) (by omega) (by omega) hl s
  ·rename_i h1
   split
   ·split
    ·rename_i g hg
     obtain⟨_,ln,k1,k2,_⟩:=fe hg
     split
     ·rename_i hr
      exact hrep line g d s hl ⟨ln,k1,k2⟩ (by omega) (by omega) hr
     ·have hn:=zl C.p g
      have:=aL k1
      have:=hC.len
      exact dx hl (fun k=>by omega) (fun _=>by unfold dT;omega) (by omega)
    ·exact Tr2.refl s
   ·rename_i h7
    rw[if_neg h7,if_neg h1]at ht
    simp only[Bool.and_eq_true,within_iff]at ht
    exact dx hl (fun k=>by omega) (fun _=>by unfold dT;omega) (by omega)
mutual
theorem Az (hC:CxOk C)(hx:ScOk C x ins)(hi:ins.length≤4)(hrep:zR C rep G x ins)(hl:jg C line):∀(e:Ex) (d:Int) (s:Gs),e.ok→-10 * (ins.length:Int)≤d→d+e.toks.length≤1000+30 * ins.length+21→Tr2 C G s (dJ C rep x ins line e d s)
 | .node t es,d,s,h,h1,h2=>by
  rw[Ex.toks,List.length_cons]at h2
  rw[dJ]
  have hle:=AQ es
  exact(yD hC hx hi hrep hl es d s h.2.2 h1 (by omega)).trans (Fm hC hx hi hrep hl h.1 (by omega) (by omega) _)
theorem yD (hC:CxOk C)(hx:ScOk C x ins)(hi:ins.length≤4)(hrep:zR C rep G x ins)(hl:jg C line):∀(es:List Ex) (d:Int) (s:Gs),iF es→-10 * (ins.length:Int)≤d→d+(ak es).length≤1000+30 * ins.length+21→Tr2 C G s (da C rep x ins line es d s)
 | [],d,s,_,_,_=>by rw[da];exact Tr2.refl s
 | a::es,d,s,h,h1,h2=>by
  rw[ak,List.length_append]at h2
  rw[da]
  have hp:=a.toks_pos
  exact(Az hC hx hi hrep hl a d s h.1 h1 (by omega)).trans (yD hC hx hi hrep hl es (d+1) _ h.2 (by omega) (by omega))
end
theorem Dw (hl:jg C line)(x:Sc)(d:Int)(s:Gs):Tr2 C G s (bO C x line d s):=by
 unfold bO
 split
 ·exact dx hl (fun k=>by omega) (fun _=>by unfold dT;omega) (by omega)
 ·exact Tr2.refl s
theorem Ff (hC:CxOk C)(hx:ScOk C x ins)(hi:ins.length≤3)(hl:jg C line){g:Nat}(hg:bz C g){d:Int}(h1:-10 * (ins.length:Int)≤d)(h2:d≤1000+30 * ins.length+21)(s:Gs):Tr2 C G s (dK C x line g d s):=by
 obtain⟨k1,k2⟩:=cG hC hg
 have hy:=kv hC hx line hg
 have hf:=hy.first
 rw[List.length_append,List.length_cons,List.length_nil]at hf
 have ht:=oW hC hx
 have ha:=hC.argsN g
 have h0:Tr2 C G s ⟨s.items,max s.most (bp C x+(localsOf C.p (g:Int)).length),s.start⟩:=⟨fun _ _ h=>h,id,fun h=>by dsimp only;omega⟩
 unfold dK
 exact(h0.trans (wi hC (by omega) hl _ d _ (by omega) (by omega) (by omega))).trans (yo hC (by omega) hl (by omega) _ _ _ (by omega))
structure LsI (C:Cx) (G f k:Nat) (g0:Gs) (L:Ls):Prop where
 tr:Tr2 C G g0 L.g
 heads:∀v∈L.heads,0≤v∧v≤L.g.items.length
 pos:∀i,f+1≤i→i < k→jumps C.p i→JP L.g.items (atL L.pos i)
 lv:∀j∈L.lv,JP L.g.items j
 len:L.pos.length=C.p.length
theorem LsI.step {f k k':Nat}{g0:Gs}{L L':Ls}(h:LsI C G f k g0 L)(ht:Tr2 C G L.g L'.g)(hh:∀v∈L'.heads,v∈L.heads∨(0≤v∧v≤L'.g.items.length))(hp:∀i,f+1≤i→i < k'→jumps C.p i→(i < k∧atL L'.pos i=atL L.pos i)∨JP L'.g.items (atL L'.pos i))(hv:∀j∈L'.lv,j∈L.lv∨JP L'.g.items j)(hl:L'.pos.length=L.pos.length):LsI C G f k' g0 L':=by
 have hle:=ht.len
 refine⟨h.tr.trans ht,fun v hv=>?_,fun i h1 h2 h3=>?_,fun j hj=>?_,by rw[hl,h.len]⟩
 ·rcases hh v hv with h1|h1
  ·have:=h.heads v h1;omega
  ·exact h1
 ·rcases hp i h1 h2 h3 with⟨k1,k2⟩|k1
  ·rw[k2];exact(h.pos i h1 k1 h3).ext ht.ext
  ·exact k1
 ·rcases hv j hj with h1|h1
  ·exact(h.lv j h1).ext ht.ext
  ·exact h1
theorem LsI.same {f k:Nat}{g0:Gs}{L L':Ls}(h:LsI C G f k g0 L)(ht:Tr2 C G L.g L'.g)(e1:L'.heads=L.heads)(e2:L'.pos=L.pos)(e3:L'.lv=L.lv):LsI C G f k g0 L':=
 h.step ht (fun v hv=> .inl (by rw[←e1];exact hv)) (fun i _ h2 _=> .inl ⟨h2,by rw[e2]⟩) (fun j hj=> .inl (by rw[←e3];exact hj)) (by rw[e2])
theorem LsI.next {f k:Nat}{g0:Gs}{L:Ls}(h:LsI C G f k g0 L)(hj:¬jumps C.p k):LsI C G f (k+1) g0 L:=
 h.step (Tr2.refl _) (fun v hv=> .inl hv) (fun i h1 h2 h3=> .inl ⟨by
  rcases Nat.lt_or_ge i k with h|h
  ·exact h
  ·rw[show i=k by omega]at h3;exact absurd h3 hj,rfl⟩) (fun j hj=> .inl hj) rfl
theorem yc (hC:CxOk C)(hw:C.words≤255){f k k':Nat}{g0:Gs}{L:Ls}(hl:jg C (k':Int))(last:Bool)(d:Int)(h:LsI C G f k g0 L):LsI C G f k g0 (aP C x k' last d L):=by
 have ha:=hC.args
 have hww:=hC.words
 unfold aP
 split
 ·split
  ·exact h.same (dx hl (fun k=>by omega) (fun _=>by unfold dT;omega) (by omega)) rfl rfl rfl
  ·exact h.same (dx hl (fun k=>by omega) (fun _=>by unfold dT;omega) (by omega)) rfl rfl rfl
 ·split
  ·exact h
  ·refine h.step (dx hl (fun k=>by omega) (fun k=>by omega) (by omega)) (fun v hv=> .inl hv) (fun i _ h2 _=> .inl ⟨h2,rfl⟩) (fun j hj=>?_) rfl
   simp only[List.mem_append,List.mem_singleton]at hj
   rcases hj with hj|rfl
   ·exact .inl hj
   ·exact .inr (xB (.inl rfl))
theorem Ck {l:List Int}{n:Int}(h:∀v∈l,0≤v∧v≤n)(hn:0≤n)(k:Nat):0≤atL l k∧atL l k≤n:=by
 unfold atL
 cases hk:l[k]? with
 | none=>simp only[Option.getD];omega
 | some v=>exact h v (List.mem_of_getElem? hk)
theorem DQ (hC:CxOk C)(hw:C.words≤255)(hx:ScOk C x ins)(hi:ins.length≤4)(hrep:zR C rep G x ins){e:Nat}(he:endAt C.p x.f=some e){k:Nat}{ln:FX}(hk:C.p[k]?=some ln)(h0:ln.faa≠0)(hk1:x.f < k)(hk2:k≤e){base:Int}(hb1:-10 * (ins.length:Int)≤base)(hb2:base≤1000+30 * ins.length){g0:Gs}{L:Ls}(h:LsI C G x.f k g0 L):LsI C G x.f (k+1) g0 (dn C rep x ins base k ln L):=by
 have hl:jg C (k:Int):=⟨ln,by omega,by rw[Int.toNat_natCast];exact hk,h0⟩
 have hkl:k < C.p.length:=aL hk
 have hka:=bf hk
 unfold dn
 split
 ·rename_i h4
  obtain⟨o1,o2,o3,o4⟩:=hx.own4 hC he hk1 hk2 hk h4
  obtain⟨y,_,hy,hy3,_⟩:=aW o1
  have hJ:=h.pos (aF C.p k) o2 o3 (.inl (by rw[bf hy];exact hy3))
  have t1:Tr2 C G L.g (au C L.g base 10 0 k x.chain):=dx hl (fun _=>by omega) (fun k=>by omega) (by omega)
  have t2:=qC (C:=C) (g:=G) (hJ.ext t1.ext)
  refine h.step (t1.trans t2) (fun v hv=> .inl hv) (fun i h1 h2 h3=>?_) (fun j hj=> .inl hj) (by simp)
  by_cases hik:i=k
  ·subst hik
   refine .inr ?_
   rw[gy (by rw[h.len];exact hkl)]
   exact JP.ext t2.ext (xB (.inl rfl))
  ·exact .inl ⟨by omega,ey hik⟩
 ·rename_i h4
  split
  ·rename_i h7
   have hnj:¬jumps C.p k:=by unfold jumps;rw[hka];omega
   split
   ·exact(yc hC hw (x:=x) hl true (base+1) (h.same (L':={L with g:=au C L.g base 0 0 k x.chain}) (dx hl (fun k=>by omega) (fun _=>vT) (by omega)) rfl rfl rfl)).next hnj
   ·split
    ·have hh:=Ck h.heads (by omega) (aF C.p k)
     exact(h.same (L':={L with g:=au C L.g base 10 (atL L.heads (aF C.p k)) k x.chain}) (dx hl (fun _=>hh) (fun k=>by omega) (by omega)) rfl rfl rfl).next hnj
    ·exact h.next hnj
  ·rename_i h7
   have hlk:=hC.line _ _ hk
   have hex:=pS (hlk.2.2.2.2 (by omega))
   have h20:=hlk.2.2.2.1
   rw[hex.2]at h20
   have tg:Tr2 C G L.g (dJ C rep x ins k (exL ln.fad) base ⟨L.g.items,L.g.most,true⟩):=by
    have:=Az hC hx hi hrep hl (exL ln.fad) base ⟨L.g.items,L.g.most,true⟩ hex.1 hb1 (by omega)
    exact⟨this.ext,this.inv,this.most⟩
   have hL1:LsI C G x.f k g0 {L with g:=dJ C rep x ins k (exL ln.fad) base ⟨L.g.items,L.g.most,true⟩,heads:=L.heads.set k L.g.items.length}:=by
    refine h.step tg (fun v hv=>?_) (fun i _ h2 _=> .inl ⟨h2,rfl⟩) (fun j hj=> .inl hj) rfl
    rcases List.mem_or_eq_of_mem_set hv with hv|rfl
    ·exact .inl hv
    ·exact .inr ⟨by omega,by have:=tg.len;simp only;omega⟩
   have hli:=jL x.locals ln.fab
   obtain⟨_,_,_,_,_,e5⟩:=hx.endE hC
   have hfi:=hx.first
   generalize dJ C rep x ins k (exL ln.fad) base ⟨L.g.items,L.g.most,true⟩=GE at tg hL1 ⊢
   split
   ·rename_i k1
    have hnj:¬jumps C.p k:=by unfold jumps;rw[hka];omega
    have t2:Tr2 C G GE (dp C x GE (base+1) (cQ x.locals ln.fab) k x.chain):=tL hC (by omega) (by omega) (by omega) hl _ _
    exact(hL1.same (L':={L with g:=dp C x GE (base+1) (cQ x.locals ln.fab) k x.chain,heads:=L.heads.set k L.g.items.length}) t2 rfl rfl rfl).next hnj
   ·split
    ·rename_i k2
     have hnj:¬jumps C.p k:=by unfold jumps;rw[hka];omega
     have t2:Tr2 C G GE (au C GE (base+1) 17 0 k x.chain):=dx hl (fun k=>by omega) (fun _=>by unfold dT;omega) (by omega)
     exact(hL1.same (L':={L with g:=au C GE (base+1) 17 0 k x.chain,heads:=L.heads.set k L.g.items.length}) t2 rfl rfl rfl).next hnj
    ·split
     ·rename_i k6
      have hnj:¬jumps C.p k:=by unfold jumps;rw[hka];omega
      exact(yc hC hw (x:=x) hl false (base+1) hL1).next hnj
     ·refine hL1.step (dx hl (fun _=>by omega) (fun k=>by omega) (by omega)) (fun v hv=> .inl hv) (fun i h1 h2 h3=>?_) (fun j hj=> .inl hj) (by simp)
      by_cases hik:i=k
      ·subst hik
       refine .inr ?_
       rw[gy (by rw[h.len];exact hkl)]
       exact xB (.inr rfl)
      ·exact .inl ⟨by omega,ey hik⟩
theorem CX (hC:CxOk C)(hx:ScOk C x ins){e:Nat}(he:endAt C.p x.f=some e){k:Nat}{ln:FX}(hk:C.p[k]?=some ln)(hk1:x.f < k)(hk2:k≤e){g0:Gs}{L:Ls}(h:LsI C G x.f (k+1) g0 L):LsI C G x.f (k+1) g0 (aS C x k ln L):=by
 unfold aS
 split
 ·rename_i h7
  have hke:k≠e:=fun hh=>by
   rcases(hx.own7 hC he hk1 hk2 hk h7.1).2 with⟨_,o⟩|⟨o,_⟩
   ·exact h7.2 o
   ·omega
  obtain⟨k1,k2,k3,_,_⟩:=xA hC hx he hk1 (by omega) hk h7.1
  exact h.same (qC (h.pos _ k1 (by omega) k3)) rfl rfl rfl
 ·exact h
theorem AD (hC:CxOk C)(hw:C.words≤255)(hx:ScOk C x ins)(hi:ins.length≤4)(hrep:zR C rep G x ins){e:Nat}(he:endAt C.p x.f=some e){base:Int}(hb1:-10 * (ins.length:Int)≤base)(hb2:base≤1000+30 * ins.length)(h0:∀i y,x.f < i→i≤e→C.p[i]?=some y→y.faa≠0){g0:Gs}:∀(n k:Nat) (L:Ls),x.f < k→k+n=e+1→LsI C G x.f k g0 L→LsI C G x.f (e+1) g0 (jw C rep x ins base n k L)
 | 0,k,L,_,h2,h=>by rw[jw,←h2];exact h
 | n+1,k,L,h1,h2,h=>by
  obtain⟨_,_,_,_,_,hel⟩:=aC he
  obtain⟨ln,hk⟩:=ae (l:=C.p) (k:=k) (by omega)
  rw[jw,hk]
  exact AD hC hw hx hi hrep he hb1 hb2 h0 n (k+1) _ (by omega) (by omega) (CX hC hx he hk h1 (by omega) (DQ hC hw hx hi hrep he hk (h0 k ln h1 (by omega) hk) h1 (by omega) hb1 hb2 h))
theorem vX (hC:CxOk C)(hw:C.words≤255)(hx:ScOk C x ins)(hi:ins.length≤4)(hrep:zR C rep G x ins){base:Int}(hb1:-10 * (ins.length:Int)≤base)(hb2:base≤1000+30 * ins.length)(s:Gs):Tr2 C G s (aQ C rep x ins base s).1∧∀j∈(aQ C rep x ins base s).2,JP (aQ C rep x ins base s).1.items j:=by
 obtain⟨ln,h1,h2⟩:=hx.fn
 obtain⟨e,h3,_,_,h4⟩:=hC.fn _ _ h1 h2
 obtain⟨e',g3,g4,g4',g5,_⟩:=hx.endE hC
 rw[h3]at g3
 injection g3 with g3
 subst g3
 have h:=AD hC hw hx hi hrep h3 hb1 hb2 (fun i y k1 k2 hy=>by
  by_cases hie:i=e
  ·subst hie
   obtain⟨z,hz,h7⟩:=bu h3
   rw[hy]at hz
   injection hz with hz
   subst hz
   omega
  ·exact(h4 i y (by omega) (by omega) hy).1) (g0:=s) (e - x.f) (x.f+1) (ce C s) (by omega) (by omega) ⟨Tr2.refl s,fun v hv=>by
   simp only[ce,List.mem_replicate]at hv
   omega,fun i k1 k2 _=>by omega,fun j hj=>(by cases hj),by simp[ce]⟩
 unfold aQ
 rw[g5]
 exact⟨h.tr,h.lv⟩
end
theorem Bq {C:Cx}{G:Nat}(hC:CxOk C)(hw:C.words≤255):∀(lev:Nat) {x:Sc} {ins:List Nat},ScOk C x ins→zR C (aT C lev) G x ins
 | 0,x,ins,hx,line,g,d,s,_,_,_,_,_=>Tr2.refl s
 | lev+1,x,ins,hx,line,g,d,s,hl,hg,h1,h2,hr=>by
  obtain⟨r1,r2,r3,_⟩:=dS hr
  have hin:=hC.inl
  have hy:=kv hC hx line hg
  have ha:=hC.argsN g
  have hil:(ins++[g]).length=ins.length+1:=by simp
  have t1:=Ff (G:=G) hC hx (by omega) hl hg h1 h2 s
  have t2:=Dw (G:=G) hl x (d - argsN C.p g) (dK C x line g d s)
  have t3:=vX (G:=G) hC hw hy (by omega) (Bq hC hw lev hy) (base:=d - argsN C.p g) (by omega) (by omega) (bO C x line (d - argsN C.p g) (dK C x line g d s))
  exact((t1.trans t2).trans t3.1).trans (vn _ t3.2)
theorem yQ {C:Cx}(hC:CxOk C)(hw:C.words≤255){g:Nat}(hg:bz C g)(e5:C.args=argsN C.p g):InvI C g (cF C g).items∧(cF C g).most≤60:=by
 have hS:ScOk C (bq C g) [g]:=⟨hg,rfl,⟨Int.le_refl _,by simp[bq]⟩,rfl,by simp[bq],fun _=>e5,rfl⟩
 have hww:=hC.words
 have t:=(vX (G:=g) hC hw hS (by simp) (Bq hC hw C.b.faj.toNat hS) (base:=C.words) (by simp only[List.length_cons,List.length_nil];omega) (by simp only[List.length_cons,List.length_nil];omega) (dR C g)).1
 obtain⟨l1,l2⟩:=cG hC hg
 refine⟨t.inv ⟨_,[],rfl,⟨?_,rfl,rfl⟩,fun it h=>by cases h⟩,t.most ?_⟩
 ·simp only[kQ];split <;> omega
 ·show(localsOf C.p (g:Int)).length - C.args≤60;omega
theorem pq {p:List FX}{f:Int}{b:FO}(hs:ay 1048576 (.lst 4 (p.map FX.tr)))(h1:az p=true)(h2:aU b=true)(h3:0≤f)(h4:f < (an p).length):∃(g:Nat) (C:Cx),(an p)[f.toNat]?=some g∧C.p=foldIf p b∧0≤C.words∧C.words≤255∧InvI C g (aH p f b):=by
 obtain⟨g,C,k1,k2,k3,k4,k5,k6,k7,k8,k9⟩:=qV hs h1 h2 h3 h4
 have hb:0≤b.faj∧b.faj≤3:=by
  unfold aU at h2
  simp only[Bool.and_eq_true,within_iff]at h2
  exact h2.2
 have hpg:=(sG hs h1).foldIf b
 have ha:(0:Int)≤(argsN (foldIf p b) g:Int)∧(argsN (foldIf p b) g:Int)≤4:=by have:=k2.argsN g;rw[k3]at this;omega
 have hC0:CxOk (ctx (foldIf p b) f.toNat g b 0):=hpg.cx ha (by omega) hb
 obtain⟨y,y1,y2⟩:=k7
 have hf0:bz (ctx (foldIf p b) f.toNat g b 0) g:=⟨y,by rw[k3]at y1;exact y1,y2⟩
 have h60:=(yQ hC0 (by show(0:Int)≤255;omega) hf0 rfl).2
 have hw:=k2.words
 refine⟨g,C,k1,k3,hw.1,by omega,?_⟩
 rw[k8]
 exact(yQ k2 (by omega) ⟨y,y1,y2⟩ k5).1
end Go.Proofs.YtoglejgmjeojoaaGreat
namespace Go.Proofs.YtoglejgmjeojoaaGreat
open Go.Sim
set_option maxRecDepth 100000
set_option maxHeartbeats 4000000
theorem sM {α:Type}{g:α→List Tr}{L:Int}:∀{l:List α},(∀x∈l,aw L (g x))→dz L (l.map g)
 | [],_=>by rw[List.map_nil,dz];trivial
 | x::l,h=>by
  rw[List.map_cons,dz]
  exact⟨h x (by simp),sM fun y hy=>h y (by simp[hy])⟩
theorem vL {α:Type}{g:α→List Tr}{l:List α}{sz:Nat}(hl:l.length≤1048576)(h:∀x∈l,aw 1048576 (g x)):ay 1048576 (.lst sz (l.map g)):=by
 rw[ay]
 exact⟨by simp;omega,sM h⟩
def bJ (c:Int):Int×Bool:=
 if c=0 then(4,true)else if c=1∨c=2∨c=3∨c=4∨c=10∨c=11 then(2,true)
 else if c=16 then(2,false)else if c=12∨c=13∨c=14∨c=15 then(1,false)else(0,false)
def bk (c:Int):Int:=if af c 0 17 then(bJ c).1+1 else 0
theorem dE (c:Int):0≤(bJ c).1∧(bJ c).1≤4:=by
 unfold bJ
 repeat' split
 all_goals simp
theorem fT (c:Int):0≤bk c∧bk c≤5:=by
 have:=dE c
 unfold bk
 split <;> omega
abbrev Co (c:Int):Res:= .tup [.c (.t (.int .i64 (bJ c).1)),.c (.t (.bool (bJ c).2))]
theorem eQ (c:Int):Sim.Spec Tryz.prog 220 [tvI c] (Co c):=by
 refine aj hΓ ao Tryz.func220 rfl (by decide) rfl ?_
 repeat' ((conv=>whnf);first|refine Or.inl ?_|apply oi|(apply fi<;>intro h)|refine⟨_,rfl,?_⟩|exact rfl)
 all_goals try exact⟨KO⟩
 all_goals(refine⟨?_⟩;simp_all[bJ])
theorem eT (c:Int):Sim.Spec Tryz.prog 131 [tvI c] (Co c):=by
 refine aj hΓ ao Tryz.func131 rfl (by decide) rfl ?_
 repeat' ((conv=>whnf);first|refine Or.inl ?_|apply oi|(apply fi<;>intro h)|refine⟨_,rfl,?_⟩|exact rfl)
 all_goals try exact⟨KO⟩
 all_goals(refine⟨?_⟩;simp_all[bJ])
theorem gl (c:Int):Sim.Spec Tryz.prog 160 [tvI c] (rI (bk c)):=by
 refine aj hΓ ao Tryz.func160 rfl (by decide) rfl ?_
 have hb:=aE c 0 17
 have ha:=eQ c
 have hle:=dE c
 unfold bk
 cases hw:af c 0 17 with
 | false=>
  rw[hw]at hb
  repeat' ((conv=>whnf);first|refine Or.inl ?_|apply oi|(apply fi<;>intro h)|refine ci hb (ai rfl (ai rfl (ai rfl trivial))) ?_|refine⟨_,rfl,?_⟩|exact rfl)
  all_goals try exact⟨KO⟩
 | true=>
  rw[hw]at hb
  repeat' ((conv=>whnf);first|refine Or.inl ?_|apply oi|(apply fi<;>intro h)|refine ci hb (ai rfl (ai rfl (ai rfl trivial))) ?_|refine ci ha (ai rfl trivial) ?_|refine⟨_,rfl,?_⟩|exact rfl)
  all_goals try exact⟨KO⟩
  exact⟨by rw[IntWalk.i64_in _ (by omega)];rfl⟩
theorem nj (c:Int):Sim.Spec Tryz.prog 59 [tvI c] (rI (bk c)):=by
 refine aj hΓ ao Tryz.func59 rfl (by decide) rfl ?_
 have hb:=bd c 0 17
 have ha:=eT c
 have hle:=dE c
 unfold bk
 cases hw:af c 0 17 with
 | false=>
  rw[hw]at hb
  repeat' ((conv=>whnf);first|refine Or.inl ?_|apply oi|(apply fi<;>intro h)|refine ci hb (ai rfl (ai rfl (ai rfl trivial))) ?_|refine⟨_,rfl,?_⟩|exact rfl)
  all_goals try exact⟨KO⟩
 | true=>
  rw[hw]at hb
  repeat' ((conv=>whnf);first|refine Or.inl ?_|apply oi|(apply fi<;>intro h)|refine ci hb (ai rfl (ai rfl (ai rfl trivial))) ?_|refine ci ha (ai rfl trivial) ?_|refine⟨_,rfl,?_⟩|exact rfl)
  all_goals try exact⟨KO⟩
  exact⟨by rw[IntWalk.i64_in _ (by omega),Int.add_comm];rfl⟩
def bT:Int→List FW→List Int
 | at0,[]=>[at0]
 | at0,x::l=>at0::bT (at0+bk x.fag.fac) l
def sj (at0:Int)(l:List FW):Int:=atL (bT at0 l) l.length
def so (x:FW)(a:Int):FW:=⟨⟨x.fag.fac,a⟩,x.fan,x.fah,x.far,x.fas,x.faw⟩
def lI (x:FW):Bool:=x.fag.fac==10 || x.fag.fac==11
def dZ (st:List Int)(k:Nat)(x:FW):FW:=if lI x=true then so x (atL st x.fag.fak.toNat - atL st (k+1))else x
def mq (st:List Int):Nat→List FW→List Ga
 | _,[]=>[]
 | k,x::l=>⟨atL st k,dZ st k x⟩::mq st (k+1) l
def cJ (l:List FW)(at0:Int):List Ga:=mq (bT at0 l) 0 l
theorem lA:∀(at0:Int) (l:List FW),(bT at0 l).length=l.length+1
 | _,[]=>rfl
 | at0,x::l=>by rw[bT,List.length_cons,lA,List.length_cons]
theorem fF (at0:Int)(l:List FW):atL (bT at0 l) 0=at0:=by cases l <;> rfl
theorem ua (a:Int)(l:List Int)(k:Nat):atL (a::l) (k+1)=atL l k:=by simp[atL]
theorem eh:∀{at0:Int} {l:List FW} {k:Nat} {x:FW},l[k]?=some x→atL (bT at0 l) (k+1)=atL (bT at0 l) k+bk x.fag.fac
 | _,[],_,_,h=>by simp at h
 | at0,y::l,0,x,h=>by
  rw[List.getElem?_cons_zero]at h
  injection h with h
  subst h
  rw[bT,ua,fF]
  rfl
 | at0,y::l,k+1,x,h=>by
  rw[List.getElem?_cons_succ]at h
  rw[bT,ua,ua,eh h]
theorem eY {at0:Int}{l:List FW}:∀{k:Nat},k≤l.length→at0≤atL (bT at0 l) k∧atL (bT at0 l) k≤at0+5 * k
 | 0,_=>by rw[fF];omega
 | k+1,h=>by
  obtain⟨x,hx⟩:=ae (l:=l) (k:=k) (by omega)
  have:=eY (at0:=at0) (l:=l) (k:=k) (by omega)
  have:=fT x.fag.fac
  rw[eh hx]
  omega
theorem mH {l:List Int}{k:Nat}(h:k < l.length):l[k]?=some (atL l k):=by
 obtain⟨x,hx⟩:=ae h
 rw[atL,hx];rfl
theorem ck {α:Type}{l:List α}{k:Nat}{x:α}(h:l[k]?=some x):l.take (k+1)=l.take k++[x]:=by
 rw[List.take_add_one,h];rfl
theorem rx (st:List Int):∀(k:Nat) (l:List FW),(mq st k l).length=l.length
 | _,[]=>rfl
 | k,x::l=>by rw[mq,List.length_cons,rx,List.length_cons]
theorem rq (st:List Int):∀{l:List FW} {j k:Nat} {x:FW},l[j]?=some x→(mq st k l)[j]?=some ⟨atL st (k+j),dZ st (k+j) x⟩
 | [],_,_,_,h=>by simp at h
 | y::l,0,k,x,h=>by
  rw[List.getElem?_cons_zero]at h
  injection h with h
  subst h
  rfl
 | y::l,j+1,k,x,h=>by
  rw[List.getElem?_cons_succ]at h
  rw[mq,List.getElem?_cons_succ,rq st h,show k+1+j=k+(j+1) by omega]
theorem dc (l:List FW)(at0:Int):(cJ l at0).length=l.length:=rx _ _ _
theorem dP {l:List FW}{at0:Int}{j:Nat}{x:FW}(h:l[j]?=some x):(cJ l at0)[j]?=some ⟨atL (bT at0 l) j,dZ (bT at0 l) j x⟩:=by
 have:=rq (bT at0 l) (k:=0) h
 rwa [Nat.zero_add]at this
def xC (l:List FW):Prop:=∀x∈l,lI x=true→0≤x.fag.fak∧x.fag.fak≤l.length
theorem fc {x:FW}:lI x=true↔x.fag.fac=10∨x.fag.fac=11:=by simp[lI]
def lD (b:FO)(image:Int)(f:Nat):Bool:=if b.fav=true then(f:Int) % 2==image else image==0
noncomputable def cu (p:List FX) (b:FO) (image:Int):Nat→Nat→Int→List (Nat×List Ga)
 | 0,_,_=>[]
 | n+1,f,at0=>if lD b image f=true then(f,cJ (aH p f b) at0)::cu p b image n (f+1) (sj at0 (aH p f b))else cu p b image n (f+1) at0
noncomputable def fG (p:List FX) (b:FO) (image:Int):List Ga:=
 if az p=true∧aU b=true∧af image 0 1=true then((cu p b image (an p).length 0 0).map Prod.snd).flatten else []
structure FnOk (p:List FX) (b:FO) (f:Nat):Prop where
 pos:0 < (aH p f b).length
 len:(aH p f b).length≤2500
 jmp:xC (aH p f b)
theorem InvI.jumps {C:Cx}{g:Nat}{l:List FW}(h:InvI C g l):0 < l.length∧xC l:=by
 obtain⟨a,t,rfl,h2,h3⟩:=h
 refine⟨by simp,fun x hx hj=>?_⟩
 rw[fc]at hj
 rcases List.mem_cons.1 hx with rfl|hx
 ·have:=h2.1;omega
 ·exact(h3 x hx).jump hj
theorem Dr {p:List FX}{b:FO}(hs:ay 1048576 (.lst 4 (p.map FX.tr)))(h1:az p=true)(h2:aU b=true){f:Nat}(h:f < (an p).length):FnOk p b f:=by
 obtain⟨g,C,_,_,_,_,hi⟩:=pq (f:=(f:Int)) hs h1 h2 (by omega) (by omega)
 exact⟨hi.jumps.1,(fy hs).1,hi.jumps.2⟩
theorem gA {p:List FX}(h1:az p=true):(an p).length≤6∧p.length≤60:=by
 rw[ri]at h1
 simp only[Bool.and_eq_true,decide_eq_true_eq]at h1
 exact⟨h1.2.1,h1.1⟩
theorem xg {l:List FW}{at0:Int}(h:0 < l.length):∃x:Ga,(cJ l at0)[l.length - 1]?=some x∧x.fau+bk x.fal.fag.fac=sj at0 l∧at0≤x.fau∧x.fau≤at0+5 * l.length:=by
 obtain⟨y,hy⟩:=ae (l:=l) (k:=l.length - 1) (by omega)
 refine⟨_,dP hy,?_,?_⟩
 ·have h1:=eh (at0:=at0) hy
  have hc:(dZ (bT at0 l) (l.length - 1) y).fag.fac=y.fag.fac:=by unfold dZ;split <;> rfl
  rw[hc,←h1,sj]
  congr 1;omega
 ·have:=eY (at0:=at0) (l:=l) (k:=l.length - 1) (by omega)
  dsimp only;omega
theorem AU {l:List FW}{at0:Int}:at0≤sj at0 l∧sj at0 l≤at0+5 * l.length:=eY (Nat.le_refl _)
theorem jW {p:List FX}{b:FO}{image:Int}{n f:Nat}{at0:Int}:cu p b image (n+1) f at0=if lD b image f=true then(f,cJ (aH p f b) at0)::cu p b image n (f+1) (sj at0 (aH p f b))else cu p b image n (f+1) at0:=rfl
abbrev EM (p:List FX)(b:FO)(image:Int):={q:Nat×Int×List (Nat×List Ga) // q.1≤(an p).length∧(0≤q.2.1∧q.2.1≤12500 * q.1)∧q.2.2.length≤q.1∧q.2.2++cu p b image ((an p).length - q.1) q.1 q.2.1=cu p b image (an p).length 0 0}
def dM (L:List (Nat×List Ga)):List (List Tr):=L.map fun x=>aa (x.1:Int)
def dm (L:List (Nat×List Ga)):List (List Tr):=L.map fun x=>[.lst 8 (x.2.map Ga.tr)]
theorem jO (p:List FX)(b:FO)(image:Int):∀(n f:Nat) (at0:Int),(cu p b image n f at0).length≤n
 | 0,_,_=>Nat.le_refl _
 | n+1,f,at0=>by
  rw[cu]
  split
  ·have:=jO p b image n (f+1) (sj at0 (aH p f b));rw[List.length_cons];omega
  ·have:=jO p b image n (f+1) at0;omega
theorem jI {p:List FX}{b:FO}(hs:ay 1048576 (.lst 4 (p.map FX.tr))){image:Int}:∀{n f:Nat} {at0:Int} {x:Nat×List Ga},x∈cu p b image n f at0→x.2.length≤2500∧∀y∈x.2,y.fal.far.length≤4
 | 0,_,_,_,h=>by cases h
 | n+1,f,at0,x,h=>by
  rw[cu]at h
  split at h
  ·rcases List.mem_cons.1 h with rfl|h
   ·obtain⟨c1,c2⟩:=fy (p:=p) (f:=(f:Int)) (b:=b) hs
    refine⟨by rw[dc];exact c1,fun y hy=>?_⟩
    obtain⟨j,hj⟩:=List.getElem?_of_mem hy
    have hjl:=aL hj
    rw[dc]at hjl
    obtain⟨z,hz⟩:=ae hjl
    rw[dP hz]at hj
    injection hj with hj
    subst hj
    have:(dZ (bT at0 (aH p f b)) j z).far=z.far:=by unfold dZ;split <;> rfl
    rw[this]
    exact c2 z (List.mem_of_getElem? hz)
   ·exact jI hs h
  ·exact jI hs h
def aO (L:List (Nat×List Ga)):List Ga:=(L.map Prod.snd).flatten
theorem An {L:List (Nat×List Ga)}{k:Nat}{x:Nat×List Ga}(h:L[k]?=some x):aO (L.take (k+1))=aO (L.take k)++x.2:=by
 rw[ck h];simp[aO]
theorem qd {L:List (Nat×List Ga)}(h:∀x∈L,x.2.length≤2500):∀{k:Nat},k≤L.length→(aO (L.take k)).length≤2500 * k
 | 0,_=>by simp[aO]
 | k+1,hk=>by
  obtain⟨x,hx⟩:=ae (l:=L) (k:=k) (by omega)
  have:=qd h (k:=k) (by omega)
  have:=h x (List.mem_of_getElem? hx)
  rw[An hx,List.length_append]
  omega
def gp (c:Int):Int×Int:=
 if c=0 then(-2147483648,2147483647)else if c=1∨c=2∨c=3∨c=4∨c=10∨c=11 then(-32768,32767)
 else if c=16 then(0,65535)else if c=12∨c=13∨c=14∨c=15 then(0,255)else(0,0)
def iG (c a:Int):Bool:=af c 0 17 && af a (gp c).1 (gp c).2
theorem yM (c:Int):(bJ c=(4,true)∧gp c=(-2147483648,2147483647))∨(bJ c=(2,true)∧gp c=(-32768,32767))∨(bJ c=(2,false)∧gp c=(0,65535))∨(bJ c=(1,false)∧gp c=(0,255))∨(bJ c=(0,false)∧gp c=(0,0)):=by
 unfold bJ gp
 repeat' split
 all_goals simp
theorem zf {c:Int}:(bk c==0)= !af c 0 17:=by
 have:=dE c
 unfold bk
 cases af c 0 17 with
 | false=>rfl
 | true=>simp;omega
theorem zg (x:FZ):Sim.Spec Tryz.prog 223 [.agg x.tr] (rB (iG x.fac x.fak)):=by
 refine aJ hΓ ao Tryz.func223 rfl (by decide) rfl ?_
 have ho:=gl x.fac
 have hz:=zf (c:=x.fac)
 have ha:=eQ x.fac
 have h0:iG x.fac x.fak=(af x.fac 0 17 && af x.fak (gp x.fac).1 (gp x.fac).2):=rfl
 rw[h0]
 cases hw:af x.fac 0 17 with
 | false=>
  rw[hw]at hz
  repeat' ((conv=>whnf);first|apply Wx|apply W6|apply oi|(apply fi<;>intro h)|refine cl ho ?_|refine⟨_,rfl,?_⟩|exact rfl)
  all_goals try exact⟨KP⟩
  all_goals try(exfalso;rw[hz]at h;cases h;done)
 | true=>
  rw[hw]at hz
  rw[Bool.true_and]
  rcases yM x.fac with⟨e1,e2⟩|⟨e1,e2⟩|⟨e1,e2⟩|⟨e1,e2⟩|⟨e1,e2⟩
  all_goals(
   rw[Co,e1]at ha
   rw[e2]
   have gb:=aE x.fak (gp x.fac).1 (gp x.fac).2
   rw[e2]at gb
   repeat' ((conv=>whnf);first|apply Wx|apply W6|apply oi|(apply fi<;>intro h)|refine cl ho ?_|refine cl ha ?_|refine .inl (ci gb (ai rfl (ai KW (ai KW trivial))) ?_)|refine⟨_,rfl,?_⟩|exact rfl)
   all_goals try exact⟨KP⟩
   all_goals try(exfalso;rw[hz]at h;cases h;done))
theorem xU (x:FZ):Sim.Spec Tryz.prog 193 [.agg x.tr] (rB (iG x.fac x.fak)):=by
 refine aJ hΓ ao Tryz.func193 rfl (by decide) rfl ?_
 have hi:=bd x.fac 0 17
 have ha:=eT x.fac
 have h0:iG x.fac x.fak=(af x.fac 0 17 && af x.fak (gp x.fac).1 (gp x.fac).2):=rfl
 rw[h0]
 cases hw:af x.fac 0 17 with
 | false=>
  rw[hw]at hi
  repeat' ((conv=>whnf);first|apply Wx|apply W6|apply oi|(apply fi<;>intro h)|refine cl ha ?_|refine cl hi ?_|refine⟨_,rfl,?_⟩|exact rfl)
  all_goals try exact⟨KP⟩
 | true=>
  rw[hw]at hi
  rw[Bool.true_and]
  rcases yM x.fac with⟨e1,e2⟩|⟨e1,e2⟩|⟨e1,e2⟩|⟨e1,e2⟩|⟨e1,e2⟩
  all_goals(
   rw[Co,e1]at ha
   rw[e2]
   have gb:=bd x.fak (gp x.fac).1 (gp x.fac).2
   rw[e2]at gb
   repeat' ((conv=>whnf);first|apply Wx|apply W6|apply oi|(apply fi<;>intro h)|refine cl ha ?_|refine cl hi ?_|refine .inl (ci gb (ai rfl (ai KW (ai KW trivial))) ?_)|refine⟨_,rfl,?_⟩|exact rfl)
   all_goals try exact⟨KP⟩
   skip)
def wF (a:Int)(k:Nat):UInt8:=UInt8.ofNat ((a.fdiv (2 ^ (8 * k))) % 256).toNat
def gT (a:Int)(n:Nat):List UInt8:=(List.range n).map (wF a)
def cM (x:FZ):List UInt8:=if iG x.fac x.fak=true then UInt8.ofNat x.fac.toNat::gT x.fak (bJ x.fac).1.toNat else []
theorem qS (a:Int)(n:Nat):gT a (n+1)=gT a n++[wF a n]:=by simp[gT,List.range_succ]
theorem wL {x:FZ}(h:iG x.fac x.fak=true):((cM x).length:Int)=bk x.fac:=by
 have hle:=dE x.fac
 rw[cM,if_pos h]
 unfold iG at h
 rw[Bool.and_eq_true]at h
 rw[bk,if_pos h.1]
 simp[gT];omega
theorem ls (x:FZ):(cM x).length≤5:=by
 have hle:=dE x.fac
 unfold cM
 split
 ·simp[gT];omega
 ·simp
theorem vB (a:Int){k:Nat}(h:k≤4):IntKind.u8.wrap (a.fdiv (2 ^ min (IntKind.i64.wrap (8 * (k:Int))).toNat IntKind.i64.bits))=((wF a k).toNat:Int):=by
 have h8:IntKind.i64.wrap (8 * (k:Int))=((8 * k:Nat):Int):=by rw[IntWalk.i64_in _ (by omega)];rfl
 rw[h8,Int.toNat_natCast,Nat.min_eq_left (by show 8 * k≤64;omega)]
 unfold wF
 generalize a.fdiv (2 ^ (8 * k))=z
 simp[IntKind.wrap,IntKind.bits,IntKind.signed]
 omega
theorem sk (x:FZ):Sim.Spec Tryz.prog 164 [.agg x.tr] (rS (cM x)):=by
 refine aJ hΓ ao Tryz.func164 rfl (by decide) rfl ?_
 have ho:=zg x
 have ha:=eQ x.fac
 unfold cM
 cases hw:iG x.fac x.fak with
 | false=>
  rw[hw]at ho
  repeat' ((conv=>whnf);first|apply Wx|apply W6|apply oi|(apply fi<;>intro h)|refine cl ho ?_|refine⟨_,rfl,?_⟩|exact rfl)
  all_goals try exact⟨KP⟩
 | true=>
  rw[hw]at ho
  rw[if_pos rfl]
  have hc:0≤x.fac∧x.fac≤17:=by
   unfold iG at hw
   rw[Bool.and_eq_true]at hw
   exact within_iff.1 hw.1
  obtain⟨n,hn⟩:∃n:Nat,(bJ x.fac).1=(n:Int):=⟨(bJ x.fac).1.toNat,by have:=dE x.fac;omega⟩
  have hnl:n≤4:=by have:=dE x.fac;omega
  rw[Co,hn]at ha
  rw[hn,Int.toNat_natCast]
  generalize hb0:UInt8.ofNat x.fac.toNat=b0
  have hbc:IntKind.u8.wrap x.fac=(b0.toNat:Int):=by
   subst hb0
   simp[IntKind.wrap,IntKind.bits,IntKind.signed]
   omega
  repeat' ((conv=>whnf);first|apply Wx|apply W6|apply oi|(apply fi<;>intro h)|refine cl ho ?_|refine cl ha ?_|refine⟨_,rfl,?_⟩|exact rfl)
  all_goals try exact⟨KP⟩
  conv=>whnf
  refine⟨{k:Nat // k≤n},fun k=>⟨[(1,.r (.c (.ptr (1,0,0) 0))),(3,tI .i64 (n:Int)),(5,.r (.c (.own (19,0,0)))),(6,tI .i64 (k.1:Int))],[((19,0,0),some (.arr true 1 ((b0::gT x.fak k.1).map fA))),((1,0,0),some (.box [.t (.int .i64 x.fac),.t (.int .i64 x.fak)]))],[19,1]⟩,fun k=>n - k.1,⟨0,by omega⟩,?_,?_⟩
  ·skip
   repeat' ((conv=>whnf);first|apply Wx|apply W6|apply oi|(apply fi<;>intro h)|refine⟨_,rfl,?_⟩|exact rfl)
   all_goals try exact⟨KP⟩
   all_goals try exact⟨by rw[hbc];rfl⟩
  intro⟨k,hk⟩
  dsimp only
  have hbl:((b0::gT x.fak k).map fA).length=k+1:=by simp[gT]
  by_cases hlt:k < n
  ·have h8:IntKind.i64.wrap (8 * (k:Int))=((8 * k:Nat):Int):=by rw[IntWalk.i64_in _ (by omega)];rfl
   have hbe:=vB x.fak (k:=k) (by omega)
   repeat' ((conv=>whnf);first|apply Wx|apply W6|apply oi|(apply fi<;>intro h)|refine⟨_,rfl,?_⟩|exact rfl)
   all_goals try exact⟨KP⟩
   all_goals try exact KX
   all_goals try exact⟨by rw[h8];omega⟩
   all_goals try exact⟨⟨by simp only[List.length_nil,List.length_cons,hbl] <;> omega,by simp only[List.length_nil,List.length_cons,hbl] <;> omega⟩⟩
   conv=>whnf
   refine⟨⟨k+1,by omega⟩,?_,KD⟩
   repeat' ((conv=>whnf);first|apply Wx|apply W6|apply oi|(apply fi<;>intro h)|refine⟨_,rfl,?_⟩|exact rfl)
   all_goals try exact⟨KP⟩
   all_goals try exact⟨KW⟩
   all_goals try exact⟨by dsimp only;rw[qS,hbe,←List.cons_append,List.map_append];rfl⟩
  ·have hkn:k=n:=by omega
   subst hkn
   repeat' ((conv=>whnf);first|apply Wx|apply W6|apply oi|(apply fi<;>intro h)|refine⟨_,rfl,?_⟩|exact rfl)
   all_goals try exact⟨KP⟩
   all_goals try exact KX
theorem sb (x:FZ):Sim.Spec Tryz.prog 123 [.agg x.tr] (rS (cM x)):=by
 refine aJ hΓ ao Tryz.func123 rfl (by decide) rfl ?_
 have ho:=xU x
 have ha:=eT x.fac
 unfold cM
 cases hw:iG x.fac x.fak with
 | false=>
  rw[hw]at ho
  repeat' ((conv=>whnf);first|apply Wx|apply W6|apply oi|(apply fi<;>intro h)|refine cl ho ?_|refine⟨_,rfl,?_⟩|exact rfl)
  all_goals try exact⟨KP⟩
 | true=>
  rw[hw]at ho
  rw[if_pos rfl]
  have hc:0≤x.fac∧x.fac≤17:=by
   unfold iG at hw
   rw[Bool.and_eq_true]at hw
   exact within_iff.1 hw.1
  obtain⟨n,hn⟩:∃n:Nat,(bJ x.fac).1=(n:Int):=⟨(bJ x.fac).1.toNat,by have:=dE x.fac;omega⟩
  have hnl:n≤4:=by have:=dE x.fac;omega
  rw[Co,hn]at ha
  rw[hn,Int.toNat_natCast]
  generalize hb0:UInt8.ofNat x.fac.toNat=b0
  have hbc:IntKind.u8.wrap x.fac=(b0.toNat:Int):=by
   subst hb0
   simp[IntKind.wrap,IntKind.bits,IntKind.signed]
   omega
  repeat' ((conv=>whnf);first|apply Wx|apply W6|apply oi|(apply fi<;>intro h)|refine cl ho ?_|refine cl ha ?_|refine⟨_,rfl,?_⟩|exact rfl)
  all_goals try exact⟨KP⟩
  conv=>whnf
  refine⟨{k:Nat // k≤n},fun k=>⟨[(1,.r (.c (.ptr (1,0,0) 0))),(3,tI .i64 (n:Int)),(5,.r (.c (.own (19,0,0)))),(6,tI .i64 (k.1:Int))],[((19,0,0),some (.arr true 1 ((b0::gT x.fak k.1).map fA))),((1,0,0),some (.box [.t (.int .i64 x.fac),.t (.int .i64 x.fak)]))],[19,1]⟩,fun k=>n - k.1,⟨0,by omega⟩,?_,?_⟩
  ·skip
   repeat' ((conv=>whnf);first|apply Wx|apply W6|apply oi|(apply fi<;>intro h)|refine⟨_,rfl,?_⟩|exact rfl)
   all_goals try exact⟨KP⟩
   all_goals try exact⟨by rw[hbc];rfl⟩
  intro⟨k,hk⟩
  dsimp only
  have hbl:((b0::gT x.fak k).map fA).length=k+1:=by simp[gT]
  by_cases hlt:k < n
  ·have h8:IntKind.i64.wrap (8 * (k:Int))=((8 * k:Nat):Int):=by rw[IntWalk.i64_in _ (by omega)];rfl
   have hbe:=vB x.fak (k:=k) (by omega)
   repeat' ((conv=>whnf);first|apply Wx|apply W6|apply oi|(apply fi<;>intro h)|refine⟨_,rfl,?_⟩|exact rfl)
   all_goals try exact⟨KP⟩
   all_goals try exact KX
   all_goals try exact⟨by rw[h8];omega⟩
   all_goals try exact⟨⟨by simp only[List.length_nil,List.length_cons,hbl] <;> omega,by simp only[List.length_nil,List.length_cons,hbl] <;> omega⟩⟩
   conv=>whnf
   refine⟨⟨k+1,by omega⟩,?_,KD⟩
   repeat' ((conv=>whnf);first|apply Wx|apply W6|apply oi|(apply fi<;>intro h)|refine⟨_,rfl,?_⟩|exact rfl)
   all_goals try exact⟨KP⟩
   all_goals try exact⟨KW⟩
   all_goals try exact⟨by dsimp only;rw[qS,hbe,←List.cons_append,List.map_append];rfl⟩
  ·have hkn:k=n:=by omega
   subst hkn
   repeat' ((conv=>whnf);first|apply Wx|apply W6|apply oi|(apply fi<;>intro h)|refine⟨_,rfl,?_⟩|exact rfl)
   all_goals try exact⟨KP⟩
   all_goals try exact KX
theorem vC {c a:Int}(h:dT c a):iG c a=true:=by
 obtain⟨h0,h1,h2,h3,h4,h5,h6⟩:=h
 unfold iG
 rw[Bool.and_eq_true,within_iff,within_iff]
 refine⟨⟨h0,h1⟩,?_⟩
 unfold gp
 split
 ·have:=h2 (by assumption);dsimp only;omega
 split
 ·have:=h3 (by omega);dsimp only;omega
 split
 ·have:=h4 (by assumption);dsimp only;omega
 split
 ·have:=h5 (by omega);dsimp only;omega
 ·have:=h6 (by omega);dsimp only;omega
structure PlI (p:List FX) (f j:Nat) (y:Ga):Prop where
 head:j=0→(y.fal.fag.fac=13∨y.fal.fag.fac=15)∧∃g ln,(an p)[f]?=some g∧y.fal.fan=(g:Int)∧p[g]?=some ln∧ln.faa=0
 body:0 < j→y.fal.fag.fac≠13∧∃(n:Nat) (ln:FX),y.fal.fan=(n:Int)∧p[n]?=some ln∧ln.faa≠0
 op:iG y.fal.fag.fac y.fal.fag.fak=true
theorem wH (p:List FX)(b:FO):alike (foldIf p b) p:=by
 unfold foldIf
 split
 ·exact iR p
 ·rfl
theorem ob (st:List Int)(k:Nat)(x:FW):(dZ st k x).fag.fac=x.fag.fac:=by unfold dZ;split <;> rfl
theorem uI (st:List Int)(k:Nat)(x:FW):(dZ st k x).fan=x.fan:=by unfold dZ;split <;> rfl
theorem mc {p:List FX}{b:FO}{at0:Int}(hs:ay 1048576 (.lst 4 (p.map FX.tr)))(h1:az p=true)(h2:aU b=true){f:Nat}(h:f < (an p).length){j:Nat}{y:Ga}(hy:(cJ (aH p f b) at0)[j]?=some y):PlI p f j y:=by
 obtain⟨g,C,k1,k2,k3,k4,hi⟩:=pq (f:=(f:Int)) hs h1 h2 (by omega) (by omega)
 have hlen:=(fy (p:=p) (f:=(f:Int)) (b:=b) hs).1
 have hjl:=hi.jumps.2
 have hj:j < (aH p (f:Int) b).length:=by have:=aL hy;rwa [dc]at this
 obtain⟨x,hx⟩:=ae hj
 rw[dP hx]at hy
 injection hy with hy
 subst hy
 rw[Int.toNat_natCast]at k1
 obtain⟨hgl,ln,hg1,hg2⟩:=gZ (List.mem_of_getElem? k1)
 generalize aH p (f:Int) b=I at *
 obtain⟨a,t,rfl,ha,ht⟩:=hi
 have hop:¬lI x=true→dT x.fag.fac x.fag.fak:=fun hn=>by
  rw[fc]at hn
  cases j with
  | zero=>
   simp only[List.getElem?_cons_zero,Option.some.injEq]at hx
   subst hx
   have e3:=ha.2.2
   rcases ha.1 with e|e <;> (rw[e,e3];unfold dT;omega)
  | succ j=>exact(ht x (List.mem_of_getElem? (by simpa using hx))).op hn
 refine⟨fun e=>?_,fun e=>?_,?_⟩
 ·subst e
  simp only[List.getElem?_cons_zero,Option.some.injEq]at hx
  subst hx
  dsimp only
  rw[ob,uI]
  exact⟨ha.1,g,ln,k1,ha.2.1,hg1,hg2⟩
 ·obtain⟨j,rfl⟩:∃i,j=i+1:=⟨j - 1,by omega⟩
  have hg:=ht x (List.mem_of_getElem? (by simpa using hx))
  dsimp only
  rw[ob,uI]
  refine⟨hg.enter,?_⟩
  obtain⟨z,z0,z1,z2⟩:=hg.line
  rw[k2]at z1
  obtain⟨w,w1,w2,_⟩:=(wH p b).get z1
  exact⟨x.fan.toNat,w,by omega,w1,by omega⟩
 ·dsimp only
  by_cases hn:lI x=true
  ·rw[dZ,if_pos hn]
   have h3:=hjl x (List.mem_of_getElem? hx) hn
   rw[fc]at hn
   have s1:=eY (at0:=at0) (l:=a::t) (k:=x.fag.fak.toNat) (by omega)
   have s2:=eY (at0:=at0) (l:=a::t) (k:=j+1) (by omega)
   refine vC ?_
   dsimp only[so]
   unfold dT
   omega
  ·rw[dZ,if_neg hn]
   exact vC (hop hn)
def aG (l:List Ga):List UInt8:=l.flatMap fun x=>cM x.fal.fag
theorem cr (a b:List Ga):aG (a++b)=aG a++aG b:=by simp[aG]
theorem iB (x:Ga):aG [x]=cM x.fal.fag:=by simp[aG]
theorem eW:∀(l:List Ga),(aG l).length≤5 * l.length
 | []=>by simp[aG]
 | x::l=>by
  have h1:=eW l
  have h2:=ls x.fal.fag
  rw[show x::l=[x]++l from rfl,cr,List.length_append,List.length_append,iB]
  simp only[List.length_cons,List.length_nil]
  omega
theorem jC {l:List FW}{at0:Int}(h:∀y∈cJ l at0,iG y.fal.fag.fac y.fal.fag.fak=true):∀{k:Nat},k≤l.length→((aG ((cJ l at0).take k)).length:Int)=atL (bT at0 l) k - at0
 | 0,_=>by rw[fF];simp[aG]
 | k+1,hk=>by
  obtain⟨x,hx⟩:=ae (l:=l) (k:=k) (by omega)
  have hg:=dP (at0:=at0) hx
  have ih:=jC h (k:=k) (by omega)
  have he:=wL (h _ (List.mem_of_getElem? hg))
  dsimp only at he
  rw[ob]at he
  rw[ck hg,cr,List.length_append,iB,eh hx]
  dsimp only
  omega
def bm (p:List FX)(f:Nat):List UInt8:=match(an p)[f]? with
 | some g=>(match p[g]? with|some y=>y.fab|none=>[])
 | none=>[]
def bN (p:List FX):Int→List (Nat×List Ga)→List Ge
 | _,[]=>[]
 | at0,(f,l)::L=>⟨bm p f,at0,(aG l).length⟩::bN p (at0+(aG l).length) L
theorem lP (p:List FX):∀(L:List (Nat×List Ga)) (at0:Int) (x:Nat×List Ga),bN p at0 (L++[x])=bN p at0 L++[⟨bm p x.1,at0+(aG (aO L)).length,(aG x.2).length⟩]
 | [],at0,(f,l)=>by simp[bN,aO,aG]
 |(g,m)::L,at0,x=>by
  rw[List.cons_append,bN,lP p L,bN,List.cons_append]
  congr 3
  have:aO ((g,m)::L)=m++aO L:=by simp[aO]
  rw[this,cr,List.length_append]
  simp only[Ge.mk.injEq,true_and,and_true]
  omega
theorem iV (p:List FX):∀(L:List (Nat×List Ga)) (at0:Int),(bN p at0 L).length=L.length
 | [],_=>rfl
 |(f,l)::L,at0=>by rw[bN,List.length_cons,iV p L,List.length_cons]
noncomputable def aB (p:List FX) (b:FO) (image:Int):FU:=
 if az p=true∧aU b=true∧af image 0 1=true then⟨aG (aO (cu p b image (an p).length 0 0)),bN p 0 (cu p b image (an p).length 0 0)⟩else⟨[],[]⟩
theorem lR {p:List FX}{b:FO}{image:Int}:∀{n f:Nat} {at0:Int} {x:Nat×List Ga},x∈cu p b image n f at0→f≤x.1∧x.1 < f+n
 | 0,_,_,_,h=>by cases h
 | n+1,f,at0,x,h=>by
  rw[cu]at h
  split at h
  ·rcases List.mem_cons.1 h with rfl|h
   ·exact⟨Nat.le_refl _,by dsimp only;omega⟩
   ·have:=lR h;omega
  ·have:=lR h;omega
theorem sB {p:List FX}{b:FO}{image:Int}(hs:ay 1048576 (.lst 4 (p.map FX.tr)))(h1:az p=true)(h2:aU b=true):∀{n f:Nat} {at0:Int} {i:Nat} {x:Nat×List Ga},f+n≤(an p).length→(cu p b image n f at0)[i]?=some x→
  x.2=cJ (aH p (x.1:Int) b) (at0+((aG (aO ((cu p b image n f at0).take i))).length:Int))∧x.1 < (an p).length∧0 < x.2.length
 | 0,_,_,_,_,_,h=>by simp[cu]at h
 | n+1,f,at0,i,x,hf,h=>by
  rw[jW]at h ⊢
  split at h
  ·rename_i hin
   rw[if_pos hin]
   cases i with
   | zero=>
    simp only[List.getElem?_cons_zero,Option.some.injEq]at h
    subst h
    have:=(Dr (f:=f) hs h1 h2 (by omega)).pos
    refine⟨by simp[aO,aG],by dsimp only;omega,by dsimp only;rw[dc];exact this⟩
   | succ i=>
    rw[List.getElem?_cons_succ]at h
    obtain⟨k1,k2,k3⟩:=sB hs h1 h2 (by omega) h
    refine⟨?_,k2,k3⟩
    have hl:=jC (l:=aH p (f:Int) b) (at0:=at0) (fun y hy=>by
     obtain⟨j,hj⟩:=List.mem_iff_getElem?.1 hy
     exact(mc hs h1 h2 (by omega) hj).op) (k:=(aH p (f:Int) b).length) (Nat.le_refl _)
    rw[List.take_of_length_le (by rw[dc];exact Nat.le_refl _)]at hl
    rw[k1,List.take_succ_cons,show ∀(a:Nat×List Ga) (l:List (Nat×List Ga)),aO (a::l)=a.2++aO l from fun a l=>by simp[aO],cr,List.length_append]
    congr 1
    have he:sj at0 (aH p (f:Int) b)=atL (bT at0 (aH p (f:Int) b)) (aH p (f:Int) b).length:=rfl
    dsimp only
    rw[he]at *
    omega
  ·rename_i hin
   rw[if_neg hin]
   exact sB hs h1 h2 (by omega) h
theorem zH {p:List FX}{b:FO}{image:Int}(hs:ay 1048576 (.lst 4 (p.map FX.tr)))(h1:az p=true)(h2:aU b=true){i:Nat}{x:Nat×List Ga}(h:(cu p b image (an p).length 0 0)[i]?=some x){j:Nat}{y:Ga}(hy:x.2[j]?=some y):
  PlI p x.1 j y∧y.fau=((aG (aO ((cu p b image (an p).length 0 0).take i))).length:Int)+(aG (x.2.take j)).length:=by
 obtain⟨k1,k2,_⟩:=sB hs h1 h2 (by omega) h
 generalize hS:((aG (aO ((cu p b image (an p).length 0 0).take i))).length:Int)=S at *
 rw[Int.zero_add]at k1
 rw[k1]at hy ⊢
 refine⟨mc hs h1 h2 k2 hy,?_⟩
 have hj:j < (aH p (x.1:Int) b).length:=by have:=aL hy;rwa [dc]at this
 rw[jC (fun z hz=>by
  obtain⟨j,hj⟩:=List.mem_iff_getElem?.1 hz
  exact(mc hs h1 h2 k2 hj).op) (by omega)]
 obtain⟨z,hz⟩:=ae hj
 rw[dP hz]at hy
 injection hy with hy
 subst hy
 dsimp only
 omega
def oA (L:List (Nat×List Ga))(i j:Nat):List Ga:=match L[i]? with|some x=>x.2.take j|none=>[]
def fm (L:List (Nat×List Ga))(i j:Nat):List UInt8:=aG (aO (L.take i))++aG (oA L i j)
def iQ (p:List FX)(L:List (Nat×List Ga))(i j:Nat):List Ge:=bN p 0 (L.take i)++(match L[i]? with
 | some x=>if j=0 then []else [⟨bm p x.1,((aG (aO (L.take i))).length:Int),((aG (x.2.take j)).length:Int)⟩]
 | none=>[])
theorem kD (L:List (Nat×List Ga))(x:Nat×List Ga):aO (L++[x])=aO L++x.2:=by simp[aO]
theorem Ae {L:List (Nat×List Ga)}{i:Nat}{x:Nat×List Ga}(h:L[i]?=some x):fm L i x.2.length=fm L (i+1) 0:=by
 have:oA L (i+1) 0=[]:=by unfold oA;split <;> simp
 rw[fm,fm,this,ck h,kD,cr,oA,h]
 simp[aG]
theorem zC {p:List FX}{L:List (Nat×List Ga)}{i:Nat}{x:Nat×List Ga}(h:L[i]?=some x)(h0:0 < x.2.length):iQ p L i x.2.length=iQ p L (i+1) 0:=by
 rw[iQ,iQ,ck h,lP,h]
 dsimp only
 rw[if_neg (by omega),List.take_of_length_le (Nat.le_refl _),Int.zero_add]
 cases L[i+1]? <;> simp
theorem Cq {p:List FX}{L:List (Nat×List Ga)}:iQ p L L.length 0=bN p 0 L:=by
 rw[iQ,List.take_of_length_le (Nat.le_refl _),List.getElem?_eq_none (Nat.le_refl _)]
 simp
theorem BI {L:List (Nat×List Ga)}:fm L L.length 0=aG (aO L):=by
 rw[fm,List.take_of_length_le (Nat.le_refl _),oA,List.getElem?_eq_none (Nat.le_refl _)]
 simp[aG]
theorem DJ {L:List (Nat×List Ga)}{i j:Nat}{x:Nat×List Ga}{y:Ga}(h:L[i]?=some x)(hy:x.2[j]?=some y):(aO L)[(aO (L.take i)).length+j]?=some y:=by
 have e:L=L.take i++x::L.drop (i+1):=by
  rw[←cV h,List.take_append_drop]
 have e2:aO L=aO (L.take i)++(x.2++aO (L.drop (i+1))):=by
  conv=>lhs;rw[e]
  simp[aO]
 rw[e2,List.getElem?_append_right (by omega),Nat.add_sub_cancel_left,List.getElem?_append_left (aL hy),hy]
theorem DF {p:List FX}{L:List (Nat×List Ga)}(hla:∀{i:Nat} {x:Nat×List Ga},L[i]?=some x→0 < x.2.length){i j:Nat}{x:Nat×List Ga}(hx:L[i]?=some x)(hj:j < x.2.length):∃q:Nat×Nat,q.1≤L.length∧(∀x,L[q.1]?=some x→q.2 < x.2.length)∧(q.1=L.length→q.2=0)∧
  (aO (L.take q.1)).length+q.2=(aO (L.take i)).length+(j+1)∧fm L q.1 q.2=fm L i (j+1)∧iQ p L q.1 q.2=iQ p L i (j+1):=by
 have hi:=aL hx
 by_cases hn:j+1 < x.2.length
 ·exact⟨(i,j+1),by dsimp only;omega,fun z hz=>by dsimp only at hz ⊢;rw[hx]at hz;injection hz with hz;subst hz;exact hn,fun h=>by dsimp only at h;omega,rfl,rfl,rfl⟩
 ·have e:j+1=x.2.length:=by omega
  refine⟨(i+1,0),by dsimp only;omega,fun z hz=>hla hz,fun _=>rfl,?_,?_,?_⟩
  ·dsimp only;rw[ck hx,kD,List.length_append];omega
  ·dsimp only;rw[e,Ae hx]
  ·dsimp only;rw[e,zC hx (hla hx)]
theorem tY {p:List FX}{L:List (Nat×List Ga)}{i:Nat}:iQ p L i 0=bN p 0 (L.take i):=by
 rw[iQ];cases L[i]? <;> simp
theorem Al {L:List (Nat×List Ga)}{i:Nat}:fm L i 0=aG (aO (L.take i)):=by
 rw[fm,oA];cases L[i]? <;> simp[aG]
theorem vF {p:List FX}{L:List (Nat×List Ga)}{i j:Nat}{x:Nat×List Ga}(hx:L[i]?=some x):iQ p L i (j+1)=bN p 0 (L.take i)++[⟨bm p x.1,((aG (aO (L.take i))).length:Int),((aG (x.2.take (j+1))).length:Int)⟩]:=by
 rw[iQ,hx];rfl
theorem BE {L:List (Nat×List Ga)}{i j:Nat}{x:Nat×List Ga}{y:Ga}(hx:L[i]?=some x)(hy:x.2[j]?=some y):fm L i (j+1)=fm L i j++cM y.fal.fag:=by
 rw[fm,fm,oA,oA,hx]
 dsimp only
 rw[ck hy,cr,iB,List.append_assoc]
theorem Cn {L:List (Nat×List Ga)}{i j:Nat}{x:Nat×List Ga}(hx:L[i]?=some x):(fm L i j).length=(aG (aO (L.take i))).length+(aG (x.2.take j)).length:=by
 rw[fm,oA,hx,List.length_append]
def oL {α:Type}(o:Option (List α)):List α:=match o with|some l=>l|none=>[]
def fw (off:Int)(x:Ge):Bool:=af x.fah 0 1000000 && (af x.fap 0 1000000 && (decide (x.fah≤off) && decide (off < x.fah+x.fap)))
def dY (off:Int):List Ge→Nat→Int
 | [],_=> -1
 | x::l,k=>if fw off x then(k:Int)else dY off l (k+1)
def dX (l:List Ge)(off:Int):Int:=dY off l 0
theorem BW {off:Int}{l:List Ge}{k:Nat}{x:Ge}(hx:l[k]?=some x):dY off (l.drop k) k=if fw off x then(k:Int)else dY off (l.drop (k+1)) (k+1):=by
 rw[cV hx,dY]
theorem oR {off:Int}:∀(l:List Ge) (k:Nat),dY off l k= -1∨((k:Int)≤dY off l k∧dY off l k < k+l.length)
 | [],k=> .inl (by rw[dY])
 | x::l,k=>by
  rw[dY]
  split
  ·exact .inr ⟨by omega,by simp only[List.length_cons];omega⟩
  ·rcases oR l (k+1)with h|h
   ·exact .inl h
   ·exact .inr ⟨by omega,by simp only[List.length_cons];omega⟩
theorem ma (l:List Ge)(off:Int):dX l off= -1∨(0≤dX l off∧dX l off < l.length):=by
 have:=oR (off:=off) l 0
 unfold dX
 omega
theorem lg (i:FU)(off:Int)(hl:i.fae.length≤1048576):Sim.Spec Tryz.prog 136 [.agg i.tr,tvI off] (rI (dX i.fae off)):=by
 refine aj hΓ ao Tryz.func136 rfl (by decide) rfl ?_
 obtain⟨code,l⟩:=i
 dsimp only at hl ⊢
 have hlen:(l.map Ge.tr).length=l.length:=by simp
 unfold dX
 repeat' ((conv=>whnf);first|refine Or.inl ?_|apply oi|(apply fi<;>intro h)|refine⟨_,rfl,?_⟩|exact rfl)
 all_goals try exact⟨KO⟩
 conv=>whnf
 refine⟨{k:Nat // k≤l.length∧dY off (l.drop k) k=dY off l 0},fun k=>⟨[(1,tI .i64 off),(2,.r (.c (.ptr (2,0,0) 0))),(5,tI .i64 (k.1:Int))],[((2,0,0),some (.box [.t (.str code),.t (.lst 3 (l.map Ge.tr))]))],[2]⟩,fun k=>l.length - k.1,⟨0,by omega,by rw[List.drop_zero]⟩,?_,?_⟩
 ·skip
  repeat' ((conv=>whnf);first|refine Or.inl ?_|apply oi|(apply fi<;>intro h)|refine⟨_,rfl,?_⟩|exact rfl)
  all_goals try exact⟨KO⟩
 intro⟨k,hk,hr⟩
 dsimp only
 by_cases hlt:k < l.length
 ·obtain⟨x,hx⟩:=ae hlt
  rw[BW hx]at hr
  have hb1:=bd x.fah 0 1000000
  have hb2:=bd x.fap 0 1000000
  have hback:fw off x=false→dY off (l.drop (k+1)) (k+1)=dY off l 0:=fun h=>by rw[h,if_neg (by simp)]at hr;exact hr
  cases hw1:af x.fah 0 1000000 with
  | false=>
   have hh:fw off x=false:=by rw[fw,hw1];rfl
   rw[hw1]at hb1
   repeat' ((conv=>whnf);first|refine Or.inl ?_|apply oi|(apply fi<;>intro h)|refine⟨k,x.tr,rfl,ab hx,?_⟩|refine ci hb1 (ai rfl (ai rfl (ai rfl trivial))) ?_|refine⟨_,rfl,?_⟩|exact rfl)
   all_goals try exact⟨KO⟩
   all_goals try exact KX
   all_goals conv=>whnf
   all_goals refine⟨⟨k+1,by omega,hback hh⟩,?_,KD⟩
   repeat' ((conv=>whnf);first|refine Or.inl ?_|apply oi|(apply fi<;>intro h)|refine⟨_,rfl,?_⟩|exact rfl)
   all_goals try exact⟨KO⟩
   all_goals exact⟨by dsimp only;rw[IntWalk.i64_in _ (by omega)];rfl⟩
  | true=>
   rw[hw1]at hb1
   cases hw2:af x.fap 0 1000000 with
   | false=>
    have hh:fw off x=false:=by rw[fw,hw1,hw2];rfl
    rw[hw2]at hb2
    repeat' ((conv=>whnf);first|refine Or.inl ?_|apply oi|(apply fi<;>intro h)|refine⟨k,x.tr,rfl,ab hx,?_⟩|refine ci hb1 (ai rfl (ai rfl (ai rfl trivial))) ?_|refine ci hb2 (ai rfl (ai rfl (ai rfl trivial))) ?_|refine⟨_,rfl,?_⟩|exact rfl)
    all_goals try exact⟨KO⟩
    all_goals try exact KX
    all_goals conv=>whnf
    all_goals refine⟨⟨k+1,by omega,hback hh⟩,?_,KD⟩
    repeat' ((conv=>whnf);first|refine Or.inl ?_|apply oi|(apply fi<;>intro h)|refine⟨_,rfl,?_⟩|exact rfl)
    all_goals try exact⟨KO⟩
    all_goals exact⟨by dsimp only;rw[IntWalk.i64_in _ (by omega)];rfl⟩
   | true=>
    rw[hw2]at hb2
    have hi1:=within_iff.1 hw1
    have hi2:=within_iff.1 hw2
    have hw3:IntKind.i64.wrap (x.fah+x.fap)=x.fah+x.fap:=IntWalk.i64_in _ (by omega)
    cases hh:fw off x with
    | true=>
     rw[hh,if_pos rfl]at hr
     rw[fw,hw1,hw2]at hh
     simp only[Bool.true_and,Bool.and_eq_true,decide_eq_true_eq]at hh
     repeat' ((conv=>whnf);first|refine Or.inl ?_|apply oi|(apply fi<;>intro h)|refine⟨k,x.tr,rfl,ab hx,?_⟩|refine ci hb1 (ai rfl (ai rfl (ai rfl trivial))) ?_|refine ci hb2 (ai rfl (ai rfl (ai rfl trivial))) ?_|refine⟨_,rfl,?_⟩|exact rfl)
     all_goals try exact⟨KO⟩
     all_goals try exact KX
     all_goals try exact⟨by rw[hr]⟩
     all_goals(exfalso;(try rw[hw3]at h);simp only[decide_eq_false_iff_not]at h;omega)
    | false=>
     have hbk:=hback hh
     rw[fw,hw1,hw2]at hh
     simp only[Bool.true_and,Bool.and_eq_false_iff,decide_eq_false_iff_not]at hh
     repeat' ((conv=>whnf);first|refine Or.inl ?_|apply oi|(apply fi<;>intro h)|refine⟨k,x.tr,rfl,ab hx,?_⟩|refine ci hb1 (ai rfl (ai rfl (ai rfl trivial))) ?_|refine ci hb2 (ai rfl (ai rfl (ai rfl trivial))) ?_|refine⟨_,rfl,?_⟩|exact rfl)
     all_goals try exact⟨KO⟩
     all_goals try exact KX
     all_goals try(exfalso;rw[hw3]at *;simp only[decide_eq_true_eq]at *;omega)
     all_goals conv=>whnf
     all_goals refine⟨⟨k+1,by omega,hbk⟩,?_,KD⟩
     repeat' ((conv=>whnf);first|refine Or.inl ?_|apply oi|(apply fi<;>intro h)|refine⟨_,rfl,?_⟩|exact rfl)
     all_goals try exact⟨KO⟩
     all_goals exact⟨by dsimp only;rw[IntWalk.i64_in _ (by omega)];rfl⟩
 ·have hge:l.length≤k:=by omega
  rw[List.drop_eq_nil_of_le hge,dY]at hr
  repeat' ((conv=>whnf);first|refine Or.inl ?_|apply oi|(apply fi<;>intro h)|refine⟨_,rfl,?_⟩|exact rfl)
  all_goals try exact⟨KO⟩
  all_goals try exact KX
  exact⟨by rw[←hr]⟩
def dv (s:List UInt8)(p:Nat):Nat:=match s[p]? with|some b=>b.toNat|none=>0
theorem Bz (s:List UInt8)(p:Nat):dv s p < 256:=by
 unfold dv
 split
 ·exact UInt8.toNat_lt _
 ·omega
def dh (s:List UInt8)(p:Nat):Nat→Nat
 | 0=>0
 | k+1=>dh s p k+dv s (p+k) * 256 ^ k
theorem jQ (s:List UInt8)(p:Nat):∀k,dh s p k < 256 ^ k
 | 0=>by simp[dh]
 | k+1=>by
  have h1:=jQ s p k
  have h2:=Bz s (p+k)
  rw[dh,Nat.pow_succ]
  have h3:=Nat.mul_le_mul_right (256 ^ k) (show dv s (p+k)≤255 by omega)
  omega
def Ac (c:Int)(m:Nat):Int:=if(bJ c).2=true∧2 ^ (8 * (bJ c).1.toNat - 1)≤m then(m:Int) - 2 ^ (8 * (bJ c).1.toNat)else m
def cZ (s:List UInt8)(p:Int):Option (FZ×Nat):=
 if 0≤p∧p < s.length then
  (
   if bk (dv s p.toNat)=0∨(s.length:Int) < p+bk (dv s p.toNat)then none
   else some (⟨dv s p.toNat,Ac (dv s p.toNat) (dh s (p.toNat+1) (bJ (dv s p.toNat)).1.toNat)⟩,(bk (dv s p.toNat)).toNat))
 else none
def opX (o:Option (FZ×Nat)):FZ:=match o with|some x=>x.1|none=>⟨0,0⟩
def opZ (o:Option (FZ×Nat)):Int:=match o with|some x=>x.2|none=>0
abbrev rOp (o:Option (FZ×Nat)):Res:= .tup [.agg [.t (.int .i64 (opX o).fac),.t (.int .i64 (opX o).fak)],.c (.t (.int .i64 (opZ o))),.c (.t (.bool o.isSome))]
theorem xR (c:Int):bJ c=(4,true)∨bJ c=(2,true)∨bJ c=(2,false)∨bJ c=(1,false)∨bJ c=(0,false):=by
 unfold bJ
 repeat' split
 all_goals simp
theorem Fu {n x k:Nat}(hn:n < 256 ^ k):n ||| x * 256 ^ k=n+x * 256 ^ k:=by
 have e:(256:Nat) ^ k=2 ^ (8 * k):=by rw[show(256:Nat)=2 ^ 8 from rfl,←Nat.pow_mul]
 have:=Nat.two_pow_add_eq_or_of_lt (i:=8 * k) (b:=n) (by rw[←e];exact hn) x
 rw[e,Nat.mul_comm x,Nat.or_comm,←this]
 omega
theorem vW {x k:Nat}(hk:k < 4)(hx:x < 256):IntKind.i64.wrap ((x:Int) * 2 ^ (min (Int.toNat (IntKind.i64.wrap (8 * (k:Int)))) IntKind.i64.bits))=((x * 256 ^ k:Nat):Int):=by
 rw[IntWalk.i64_in (8 * (k:Int)) (by omega)]
 have:k=0∨k=1∨k=2∨k=3:=by omega
 rcases this with rfl|rfl|rfl|rfl
 ·show IntKind.i64.wrap ((x:Int) * 1)=_
  rw[IntWalk.i64_in _ (by omega)];simp
 ·show IntKind.i64.wrap ((x:Int) * 256)=_
  rw[IntWalk.i64_in _ (by omega)];simp
 ·show IntKind.i64.wrap ((x:Int) * 65536)=_
  rw[IntWalk.i64_in _ (by omega)];simp
 ·show IntKind.i64.wrap ((x:Int) * 16777216)=_
  rw[IntWalk.i64_in _ (by omega)];simp
theorem vH {k:Nat}(hk:k < 4):256 ^ k≤16777216:=by
 have:=Nat.pow_le_pow_right (n:=256) (by omega) (show k≤3 by omega)
 exact this
theorem DN {n x k:Nat}(hk:k < 4)(hn:n < 256 ^ k)(hx:x < 256):IntKind.i64.wrap ((BitVec.ofInt IntKind.i64.bits (n:Int) ||| BitVec.ofInt IntKind.i64.bits (IntKind.i64.wrap ((x:Int) * 2 ^ (min (Int.toNat (IntKind.i64.wrap (8 * (k:Int)))) IntKind.i64.bits)))).toNat:Int)=((n+x * 256 ^ k:Nat):Int):=by
 rw[vW hk hx]
 have h4:=vH hk
 have h5:x * 256 ^ k≤255 * 16777216:=Nat.mul_le_mul (by omega) h4
 have e:(BitVec.ofInt IntKind.i64.bits (n:Int) ||| BitVec.ofInt IntKind.i64.bits ((x * 256 ^ k:Nat):Int)).toNat=n+x * 256 ^ k:=by
  show(BitVec.ofInt 64 (n:Int) ||| BitVec.ofInt 64 ((x * 256 ^ k:Nat):Int)).toNat=_
  rw[BitVec.toNat_or,BitVec.toNat_ofInt,BitVec.toNat_ofInt]
  have e1:((n:Int) % ((2 ^ 64:Nat):Int)).toNat=n:=by omega
  have e2:(((x * 256 ^ k:Nat):Int) % ((2 ^ 64:Nat):Int)).toNat=x * 256 ^ k:=by omega
  rw[e1,e2,Fu hn]
 rw[e,IntWalk.i64_in _ (by omega)]
theorem vt (c:Int):∃n:Nat,(bJ c).1=(n:Int)∧(n=0∨n=1∨n=2∨n=4)∧((bJ c).2=true→n=2∨n=4):=by
 rcases xR c with h|h|h|h|h <;> rw[h]
 ·exact⟨4,rfl,by omega,by omega⟩
 ·exact⟨2,rfl,by omega,by omega⟩
 ·exact⟨2,rfl,by omega,by simp⟩
 ·exact⟨1,rfl,by omega,by simp⟩
 ·exact⟨0,rfl,by omega,by simp⟩
theorem zj {c:Int}{n m:Nat}(hn:(bJ c).1=(n:Int))(hg:(bJ c).2=true)(h:2 ^ (8 * n - 1)≤m):Ac c m=(m:Int) - 2 ^ (8 * n):=by
 rw[Ac,hn,Int.toNat_natCast,if_pos ⟨hg,h⟩]
theorem Bo {c:Int}{n m:Nat}(hn:(bJ c).1=(n:Int))(h:¬((bJ c).2=true∧2 ^ (8 * n - 1)≤m)):Ac c m=(m:Int):=by
 rw[Ac,hn,Int.toNat_natCast,if_neg h]
theorem rT (s:List UInt8)(p:Int)(hs:s.length≤1048576)(hp:p≤9223372036854775807):Sim.Spec Tryz.prog 177 [tvS s,tvI p] (rOp (cZ s p)):=by
 refine aj hΓ ao Tryz.func177 rfl (by decide) rfl ?_
 have hb:=aE p 0 (IntKind.i64.wrap (s.length - 1))
 have hw:IntKind.i64.wrap ((s.length:Int) - 1)=(s.length:Int) - 1:=IntWalk.i64_in _ (by omega)
 by_cases hin:0≤p∧p < s.length
 ·obtain⟨p,rfl⟩:=Int.eq_ofNat_of_zero_le hin.1
  have hbt:af (p:Int) 0 (IntKind.i64.wrap (s.length - 1))=true:=by rw[hw];exact within_iff.2 ⟨by omega,by omega⟩
  rw[hbt]at hb
  obtain⟨b,hbb⟩:=ae (l:=s) (k:=p) (by omega)
  have hba:dv s p=b.toNat:=by rw[dv,hbb]
  have hz:=gl (b.toNat:Int)
  have ha:=eQ (b.toNat:Int)
  have hzl:=fT (b.toNat:Int)
  have hlt:=UInt8.toNat_lt b
  have hwb:IntKind.i64.wrap (b.toNat:Int)=b.toNat:=IntWalk.i64_in _ (by omega)
  rw[cZ,if_pos hin,Int.toNat_natCast,hba]
  by_cases hno:bk (b.toNat:Int)=0∨(s.length:Int) < (p:Int)+bk (b.toNat:Int)
  ·rw[if_pos hno]
   repeat' ((conv=>whnf);first|refine Or.inl ?_|apply oi|(apply fi<;>intro h)|refine ci hb (ai rfl (ai rfl (ai rfl trivial))) ?_|refine⟨p,b,rfl,hbb,?_⟩|refine ci hz (ai KW trivial) ?_|refine⟨_,rfl,?_⟩|exact rfl)
   all_goals try exact⟨KO⟩
   all_goals(exfalso;rename_i h0;have h1:¬bk (b.toNat:Int)=0:=(by simpa using h0);rw[IntWalk.i64_in _ (by omega)]at h;have h':=of_decide_eq_false h;omega)
  ·rw[if_neg hno]
   repeat' ((conv=>whnf);first|refine Or.inl ?_|apply oi|(apply fi<;>intro h)|refine ci hb (ai rfl (ai rfl (ai rfl trivial))) ?_|refine⟨p,b,rfl,hbb,?_⟩|refine ci hz (ai KW trivial) ?_|refine ci ha (ai KW trivial) ?_|refine⟨_,rfl,?_⟩|exact rfl)
   all_goals try exact⟨KO⟩
   all_goals try(exfalso;first|(have h1:bk (b.toNat:Int)=0:=(by simpa using h);omega)|(rw[IntWalk.i64_in _ (by omega)]at h;have h':=of_decide_eq_true h;omega))
   obtain⟨n,hn,hn4,hng⟩:=vt (b.toNat:Int)
   have hos:bk (b.toNat:Int)=n+1:=by
    have h1:¬bk (b.toNat:Int)=0:=fun h=>hno (Or.inl h)
    unfold bk at h1 ⊢
    split at h1
    ·rename_i hwi
     rw[if_pos hwi,hn]
    ·omega
   have hav1:=fun m=>zj (m:=m) hn
   have hav2:=fun m=>Bo (m:=m) hn
   rw[hn,Int.toNat_natCast]
   generalize(bJ (b.toNat:Int)).2=sg at *
   generalize hV:Ac (b.toNat:Int)=V at *
   conv=>whnf
   refine⟨{k:Nat // k≤n},fun k=>⟨[(0,tS s),(1,tI .i64 (p:Int)),(4,.r (.c (.ptr (4,0,0) 0))),(7,.r (.c (.ptr (7,0,0) 0))),(8,tI .i64 (bk (b.toNat:Int))),(9,tI .i64 (n:Int)),(10,tB sg),(11,tI .i64 (k.1:Int))],[((7,0,0),some (.box [.t (.int .i64 b.toNat),.t (.int .i64 (dh s (p+1) k.1:Nat))])),((4,0,0),some (.box [.t (.int .i64 0),.t (.int .i64 0)]))],[7,4]⟩,fun k=>n - k.1,⟨0,by omega⟩,?_,?_⟩
   ·skip
    repeat' ((conv=>whnf);first|refine Or.inl ?_|apply oi|(apply fi<;>intro h)|refine⟨_,rfl,?_⟩|exact rfl)
    all_goals try exact⟨KO⟩
    all_goals exact⟨by first|rfl|(rw[hwb];done)|(rw[hn];done)⟩
   intro⟨k,hk⟩
   dsimp only
   by_cases hlt2:k < n
   ·obtain⟨b2,hb2⟩:=ae (l:=s) (k:=p+1+k) (by omega)
    have hbb2:dv s (p+1+k)=b2.toNat:=by rw[dv,hb2]
    have hl2:=UInt8.toNat_lt b2
    have ha1:=jQ s (p+1) k
    have hix:IntKind.i64.wrap (IntKind.i64.wrap ((p:Int)+1)+k)=((p+1+k:Nat):Int):=by rw[IntWalk.i64_in ((p:Int)+1) (by omega),IntWalk.i64_in _ (by omega)];omega
    have hst:dh s (p+1) (k+1)=dh s (p+1) k+b2.toNat * 256 ^ k:=by rw[dh,hbb2]
    have hw2:IntKind.i64.wrap (b2.toNat:Int)=b2.toNat:=IntWalk.i64_in _ (by omega)
    repeat' ((conv=>whnf);first|refine Or.inl ?_|apply oi|(apply fi<;>intro h)|refine⟨(p+1+k),b2,hix,hb2,?_⟩|refine⟨_,rfl,?_⟩|exact rfl)
    all_goals try exact⟨KO⟩
    all_goals try exact KX
    all_goals try exact⟨K8⟩
    conv=>whnf
    refine⟨⟨k+1,by omega⟩,?_,KD⟩
    repeat' ((conv=>whnf);first|refine Or.inl ?_|apply oi|(apply fi<;>intro h)|refine⟨_,rfl,?_⟩|exact rfl)
    all_goals try exact⟨KO⟩
    ·exact⟨by dsimp only;rw[IntWalk.i64_in _ (by omega)];rfl⟩
    ·refine⟨congrArg (Tr.int _) ?_⟩
     dsimp only
     rw[hst,hw2]
     exact DN (by omega) ha1 hl2
   ·have hkn:k=n:=by omega
    subst hkn
    have ha1:=jQ s (p+1) k
    cases sg with
    | false=>
     have hv:=hav2 (dh s (p+1) k) (by simp)
     repeat' ((conv=>whnf);first|refine Or.inl ?_|apply oi|(apply fi<;>intro h)|refine⟨_,rfl,?_⟩|exact rfl)
     all_goals try exact⟨KO⟩
     all_goals try exact KX
     all_goals(refine⟨congrArg (Tr.int _) ?_⟩;simp only[opX,opZ];first|(rw[hv];done)|omega)
    | true=>
     have hAB:∃A B:Nat,2 ^ (8 * k - 1)=A∧2 ^ (8 * k)=B∧B≤4294967296∧IntKind.i64.wrap (1 * 2 ^ (min (Int.toNat (IntKind.i64.wrap (IntKind.i64.wrap (8 * (k:Int)) - 1))) IntKind.i64.bits))=(A:Int)∧
       IntKind.i64.wrap (1 * 2 ^ (min (Int.toNat (IntKind.i64.wrap (8 * (k:Int)))) IntKind.i64.bits))=(B:Int)∧256 ^ k=B:=by
      rcases hng rfl with h|h <;> rw[h]
      ·exact⟨32768,65536,by decide,by decide,by decide,by decide,by decide,by decide⟩
      ·exact⟨2147483648,4294967296,by decide,by decide,by decide,by decide,by decide,by decide⟩
     obtain⟨A,B,hA,hB,hBl,hc1,hc2,h256⟩:=hAB
     rw[h256]at ha1
     have hB':(2:Int) ^ (8 * k)=(B:Int):=by rw[←hB];simp
     rw[hA,hB']at hav1
     rw[hA]at hav2
     have hsh1:0≤IntKind.i64.wrap (IntKind.i64.wrap (8 * (k:Int)) - 1):=by
      rcases hng rfl with h|h <;> rw[h] <;> decide
     have hsh2:0≤IntKind.i64.wrap (8 * (k:Int)):=by
      rcases hng rfl with h|h <;> rw[h] <;> decide
     by_cases hge:A≤dh s (p+1) k
     ·have hv:=hav1 _ rfl hge
      have hws:IntKind.i64.wrap ((dh s (p+1) k:Int) - (B:Int))=(dh s (p+1) k:Int) - B:=IntWalk.i64_in _ (by omega)
      repeat' ((conv=>whnf);first|refine Or.inl ?_|apply oi|(apply fi<;>intro h)|refine⟨_,rfl,?_⟩|exact rfl)
      all_goals try exact⟨KO⟩
      all_goals try exact KX
      all_goals try(exfalso;rw[hc1]at h;have h':=of_decide_eq_false h;omega)
      all_goals first
       | exact⟨hsh1⟩
       | exact⟨hsh2⟩
       |(refine⟨congrArg (Tr.int _) ?_⟩;simp only[opX,opZ];first|(rw[hc2,hws,hv];done)|omega)
     ·have hv:=hav2 _ (fun h=>hge h.2)
      repeat' ((conv=>whnf);first|refine Or.inl ?_|apply oi|(apply fi<;>intro h)|refine⟨_,rfl,?_⟩|exact rfl)
      all_goals try exact⟨KO⟩
      all_goals try exact KX
      all_goals try(exfalso;rw[hc1]at h;have h':=of_decide_eq_true h;omega)
      all_goals first
       | exact⟨hsh1⟩
       | exact⟨hsh2⟩
       |(refine⟨congrArg (Tr.int _) ?_⟩;simp only[opX,opZ];first|(rw[hv];done)|omega)
 ·rw[cZ,if_neg hin]
  have hbt:af p 0 (IntKind.i64.wrap (s.length - 1))=false:=by
   rw[hw]
   cases h:af p 0 ((s.length:Int) - 1)with
   | false=>rfl
   | true=>exact absurd (within_iff.1 h) (by omega)
  rw[hbt]at hb
  repeat' ((conv=>whnf);first|refine Or.inl ?_|apply oi|(apply fi<;>intro h)|refine ci hb (ai rfl (ai rfl (ai rfl trivial))) ?_|refine⟨_,rfl,?_⟩|exact rfl)
  all_goals try exact⟨KO⟩
theorem se (s:List UInt8)(p:Int)(hs:s.length≤1048576)(hp:p≤9223372036854775807):Sim.Spec Tryz.prog 140 [tvS s,tvI p] (rOp (cZ s p)):=by
 refine aj hΓ ao Tryz.func140 rfl (by decide) rfl ?_
 have hw:IntKind.i64.wrap ((s.length:Int) - 1)=(s.length:Int) - 1:=IntWalk.i64_in _ (by omega)
 by_cases hin:0≤p∧p < s.length
 ·obtain⟨p,rfl⟩:=Int.eq_ofNat_of_zero_le hin.1
  obtain⟨b,hbb⟩:=ae (l:=s) (k:=p) (by omega)
  have hba:dv s p=b.toNat:=by rw[dv,hbb]
  have hz:=nj (b.toNat:Int)
  have ha:=eT (b.toNat:Int)
  have hzl:=fT (b.toNat:Int)
  have hlt:=UInt8.toNat_lt b
  have hwb:IntKind.i64.wrap (b.toNat:Int)=b.toNat:=IntWalk.i64_in _ (by omega)
  rw[cZ,if_pos hin,Int.toNat_natCast,hba]
  by_cases hno:bk (b.toNat:Int)=0∨(s.length:Int) < (p:Int)+bk (b.toNat:Int)
  ·rw[if_pos hno]
   have hw6:IntKind.i64.wrap (IntKind.i64.wrap ((p:Int)+1)+(bJ (b.toNat:Int)).1)=(p:Int)+1+(bJ (b.toNat:Int)).1:=by
    have:=dE (b.toNat:Int)
    rw[IntWalk.i64_in ((p:Int)+1) (by omega),IntWalk.i64_in _ (by omega)]
   have hos0:¬bk (b.toNat:Int)=0→bk (b.toNat:Int)=(bJ (b.toNat:Int)).1+1:=fun h=>by
    unfold bk at h ⊢
    split at h
    ·rename_i hwi;rw[if_pos hwi]
    ·omega
   repeat' ((conv=>whnf);first|refine Or.inl ?_|apply oi|(apply fi<;>intro h)|refine⟨p,b,rfl,hbb,?_⟩|refine ci hz (ai KW trivial) ?_|refine ci ha (ai KW trivial) ?_|refine⟨_,rfl,?_⟩|exact rfl)
   all_goals try exact⟨KO⟩
   all_goals try(exfalso;first|(have h':=of_decide_eq_true h;omega))
   all_goals(exfalso;rename_i h0;have h1:¬bk (b.toNat:Int)=0:=(by simpa using h0);rw[hw6]at h;have h':=of_decide_eq_false h;have:=hos0 h1;omega)
  ·rw[if_neg hno]
   have hw6:IntKind.i64.wrap (IntKind.i64.wrap ((p:Int)+1)+(bJ (b.toNat:Int)).1)=(p:Int)+1+(bJ (b.toNat:Int)).1:=by
    have:=dE (b.toNat:Int)
    rw[IntWalk.i64_in ((p:Int)+1) (by omega),IntWalk.i64_in _ (by omega)]
   have hos0:bk (b.toNat:Int)=(bJ (b.toNat:Int)).1+1:=by
    have h:¬bk (b.toNat:Int)=0:=fun h=>hno (Or.inl h)
    unfold bk at h ⊢
    split at h
    ·rename_i hwi;rw[if_pos hwi]
    ·omega
   repeat' ((conv=>whnf);first|refine Or.inl ?_|apply oi|(apply fi<;>intro h)|refine⟨p,b,rfl,hbb,?_⟩|refine ci hz (ai KW trivial) ?_|refine ci ha (ai KW trivial) ?_|refine⟨_,rfl,?_⟩|exact rfl)
   all_goals try exact⟨KO⟩
   all_goals try(exfalso;first|(have h1:bk (b.toNat:Int)=0:=(by simpa using h);omega)|(rw[hw6]at h;have h':=of_decide_eq_true h;omega)|(have h':=of_decide_eq_true h;omega))
   clear hw6
   obtain⟨n,hn,hn4,hng⟩:=vt (b.toNat:Int)
   have hos:bk (b.toNat:Int)=n+1:=by
    have h1:¬bk (b.toNat:Int)=0:=fun h=>hno (Or.inl h)
    unfold bk at h1 ⊢
    split at h1
    ·rename_i hwi
     rw[if_pos hwi,hn]
    ·omega
   have hav1:=fun m=>zj (m:=m) hn
   have hav2:=fun m=>Bo (m:=m) hn
   rw[hn,Int.toNat_natCast]
   generalize(bJ (b.toNat:Int)).2=sg at *
   generalize hV:Ac (b.toNat:Int)=V at *
   conv=>whnf
   refine⟨{k:Nat // k≤n},fun k=>⟨[(0,tS s),(1,tI .i64 (p:Int)),(4,.r (.c (.ptr (4,0,0) 0))),(7,.r (.c (.ptr (7,0,0) 0))),(8,tI .i64 (n:Int)),(9,tB sg),(10,tI .i64 (k.1:Int))],[((7,0,0),some (.box [.t (.int .i64 b.toNat),.t (.int .i64 (dh s (p+1) k.1:Nat))])),((4,0,0),some (.box [.t (.int .i64 0),.t (.int .i64 0)]))],[7,4]⟩,fun k=>n - k.1,⟨0,by omega⟩,?_,?_⟩
   ·skip
    repeat' ((conv=>whnf);first|refine Or.inl ?_|apply oi|(apply fi<;>intro h)|refine⟨_,rfl,?_⟩|exact rfl)
    all_goals try exact⟨KO⟩
    all_goals exact⟨by first|rfl|(rw[hwb];done)|(rw[hn];done)⟩
   intro⟨k,hk⟩
   dsimp only
   by_cases hlt2:k < n
   ·obtain⟨b2,hb2⟩:=ae (l:=s) (k:=p+1+k) (by omega)
    have hbb2:dv s (p+1+k)=b2.toNat:=by rw[dv,hb2]
    have hl2:=UInt8.toNat_lt b2
    have ha1:=jQ s (p+1) k
    have hix:IntKind.i64.wrap (IntKind.i64.wrap ((p:Int)+1)+k)=((p+1+k:Nat):Int):=by rw[IntWalk.i64_in ((p:Int)+1) (by omega),IntWalk.i64_in _ (by omega)];omega
    have hst:dh s (p+1) (k+1)=dh s (p+1) k+b2.toNat * 256 ^ k:=by rw[dh,hbb2]
    have hw2:IntKind.i64.wrap (b2.toNat:Int)=b2.toNat:=IntWalk.i64_in _ (by omega)
    repeat' ((conv=>whnf);first|refine Or.inl ?_|apply oi|(apply fi<;>intro h)|refine⟨(p+1+k),b2,hix,hb2,?_⟩|refine⟨_,rfl,?_⟩|exact rfl)
    all_goals try exact⟨KO⟩
    all_goals try exact KX
    all_goals try exact⟨K8⟩
    conv=>whnf
    refine⟨⟨k+1,by omega⟩,?_,KD⟩
    repeat' ((conv=>whnf);first|refine Or.inl ?_|apply oi|(apply fi<;>intro h)|refine⟨_,rfl,?_⟩|exact rfl)
    all_goals try exact⟨KO⟩
    ·exact⟨by dsimp only;rw[IntWalk.i64_in _ (by omega)];rfl⟩
    ·refine⟨congrArg (Tr.int _) ?_⟩
     dsimp only
     rw[hst,hw2]
     rw[vW (by omega) hl2]
     have h4:=vH (show k < 4 by omega)
     have h5:b2.toNat * 256 ^ k≤255 * 16777216:=Nat.mul_le_mul (by omega) h4
     rw[IntWalk.i64_in _ (by omega)]
     simp
   ·have hkn:k=n:=by omega
    subst hkn
    have ha1:=jQ s (p+1) k
    have hwz:IntKind.i64.wrap (1+(k:Int))=1+k:=IntWalk.i64_in _ (by omega)
    cases sg with
    | false=>
     have hv:=hav2 (dh s (p+1) k) (by simp)
     repeat' ((conv=>whnf);first|refine Or.inl ?_|apply oi|(apply fi<;>intro h)|refine⟨_,rfl,?_⟩|exact rfl)
     all_goals try exact⟨KO⟩
     all_goals try exact KX
     all_goals(refine⟨congrArg (Tr.int _) ?_⟩;simp only[opX,opZ];first|(rw[hv];done)|(rw[hwz];omega))
    | true=>
     have hAB:∃A B:Nat,2 ^ (8 * k - 1)=A∧2 ^ (8 * k)=B∧B≤4294967296∧IntKind.i64.wrap (1 * 2 ^ (min (Int.toNat (IntKind.i64.wrap (IntKind.i64.wrap (8 * (k:Int)) - 1))) IntKind.i64.bits))=(A:Int)∧
       IntKind.i64.wrap (1 * 2 ^ (min (Int.toNat (IntKind.i64.wrap (8 * (k:Int)))) IntKind.i64.bits))=(B:Int)∧256 ^ k=B:=by
      rcases hng rfl with h|h <;> rw[h]
      ·exact⟨32768,65536,by decide,by decide,by decide,by decide,by decide,by decide⟩
      ·exact⟨2147483648,4294967296,by decide,by decide,by decide,by decide,by decide,by decide⟩
     obtain⟨A,B,hA,hB,hBl,hc1,hc2,h256⟩:=hAB
     rw[h256]at ha1
     have hB':(2:Int) ^ (8 * k)=(B:Int):=by rw[←hB];simp
     rw[hA,hB']at hav1
     rw[hA]at hav2
     have hsh1:0≤IntKind.i64.wrap (IntKind.i64.wrap (8 * (k:Int)) - 1):=by
      rcases hng rfl with h|h <;> rw[h] <;> decide
     have hsh2:0≤IntKind.i64.wrap (8 * (k:Int)):=by
      rcases hng rfl with h|h <;> rw[h] <;> decide
     by_cases hge:A≤dh s (p+1) k
     ·have hv:=hav1 _ rfl hge
      have hws:IntKind.i64.wrap ((dh s (p+1) k:Int) - (B:Int))=(dh s (p+1) k:Int) - B:=IntWalk.i64_in _ (by omega)
      repeat' ((conv=>whnf);first|refine Or.inl ?_|apply oi|(apply fi<;>intro h)|refine⟨_,rfl,?_⟩|exact rfl)
      all_goals try exact⟨KO⟩
      all_goals try exact KX
      all_goals try(exfalso;rw[hc1]at h;have h':=of_decide_eq_false h;omega)
      all_goals first
       | exact⟨hsh1⟩
       | exact⟨hsh2⟩
       |(refine⟨congrArg (Tr.int _) ?_⟩;simp only[opX,opZ];first|(rw[hc2,hws,hv];done)|(rw[hwz];omega))
     ·have hv:=hav2 _ (fun h=>hge h.2)
      repeat' ((conv=>whnf);first|refine Or.inl ?_|apply oi|(apply fi<;>intro h)|refine⟨_,rfl,?_⟩|exact rfl)
      all_goals try exact⟨KO⟩
      all_goals try exact KX
      all_goals try(exfalso;rw[hc1]at h;have h':=of_decide_eq_true h;omega)
      all_goals first
       | exact⟨hsh1⟩
       | exact⟨hsh2⟩
       |(refine⟨congrArg (Tr.int _) ?_⟩;simp only[opX,opZ];first|(rw[hv];done)|(rw[hwz];omega))
 ·rw[cZ,if_neg hin]
  repeat' ((conv=>whnf);first|refine Or.inl ?_|apply oi|(apply fi<;>intro h)|refine⟨_,rfl,?_⟩|exact rfl)
  all_goals try exact⟨KO⟩
  all_goals(exfalso;rename_i h0;have h1:=of_decide_eq_false h0;have h2:=of_decide_eq_false h;omega)
def mT (s:List UInt8):Nat→Nat→Option (List FZ)
 | 0,p=>if p < s.length then none else some []
 | f+1,p=>if p < s.length then(match cZ s (p:Int)with
   | some x=>(mT s f (p+x.2)).map (x.1::·)
   | none=>none)else some []
def fS (s:List UInt8):Option (List FZ):=mT s s.length 0
theorem gd {s:List UInt8}{p:Nat}{x:FZ}{z:Nat}(h:cZ s (p:Int)=some (x,z)):1≤z∧z≤5∧p+z≤s.length:=by
 unfold cZ at h
 split at h
 ·rename_i hin
  split at h
  ·cases h
  ·rename_i hno
   injection h with h
   injection h with h1 h2
   rw[not_or]at hno
   have:=fT (dv s (p:Int).toNat)
   omega
 ·cases h
theorem pU {s:List UInt8}:∀{f p:Nat},s.length - p≤f→mT s f p=mT s (s.length - p) p
 | 0,p,h=>by rw[show s.length - p=0 by omega]
 | f+1,p,h=>by
  rcases Nat.lt_or_ge p s.length with hlt|hge
  ·obtain⟨m,hm⟩:∃m,s.length - p=m+1:=⟨s.length - p - 1,by omega⟩
   rw[hm,mT,mT,if_pos hlt,if_pos hlt]
   match hd:cZ s (p:Int)with
   | none=>rfl
   | some (x,z)=>
    have:=gd hd
    dsimp only
    rw[pU (f:=f) (p:=p+z) (by omega),pU (f:=m) (p:=p+z) (by omega)]
  ·rw[mT,if_neg (by omega),show s.length - p=0 by omega,mT,if_neg (by omega)]
theorem wa {s:List UInt8}{p:Nat}(hlt:p < s.length):mT s (s.length - p) p=(match cZ s (p:Int)with
  | some x=>(mT s (s.length - (p+x.2)) (p+x.2)).map (x.1::·)
  | none=>none):=by
 obtain⟨m,hm⟩:∃m,s.length - p=m+1:=⟨s.length - p - 1,by omega⟩
 rw[hm,mT,if_pos hlt]
 match hd:cZ s (p:Int)with
 | none=>rfl
 | some (x,z)=>
  have:=gd hd
  dsimp only
  rw[pU (f:=m) (p:=p+z) (by omega)]
theorem yF {s:List UInt8}{p:Nat}(hge:s.length≤p):mT s (s.length - p) p=some []:=by
 rw[show s.length - p=0 by omega,mT,if_neg (by omega)]
abbrev EO (s:List UInt8)(R:Option (List FZ)):={q:Nat×List FZ // q.1≤s.length∧q.2.length≤q.1∧(mT s (s.length - q.1) q.1).map (q.2++·)=R}
theorem nH (s:List UInt8)(hs:s.length≤1048576):Sim.Spec Tryz.prog 224 [tvS s] (.tup [.c (.arr 2 ((oL (fS s)).map FZ.tr)),.c (.t (.bool (fS s).isSome))]):=by
 refine aj hΓ ao Tryz.func224 rfl (by decide) rfl ?_
 have hR0:(mT s (s.length - 0) 0).map (([]:List FZ)++·)=fS s:=by simp[fS]
 generalize fS s=R at hR0 ⊢
 repeat' ((conv=>whnf);first|refine Or.inl ?_|apply oi|(apply fi<;>intro h)|refine⟨_,rfl,?_⟩|exact rfl)
 all_goals try exact⟨KO⟩
 conv=>whnf
 refine⟨EO s R,fun q=>⟨[(0,tS s),(4,.r (.c (.own (9,0,0)))),(5,tI .i64 (q.1.1:Int))],[((9,0,0),some (.arr true 2 (q.1.2.map FZ.tr)))],[9]⟩,fun q=>s.length - q.1.1,⟨(0,[]),by simp,by simp,hR0⟩,?_,?_⟩
 ·skip
  repeat' ((conv=>whnf);first|refine Or.inl ?_|apply oi|(apply fi<;>intro h)|refine⟨_,rfl,?_⟩|exact rfl)
  all_goals try exact⟨KO⟩
 intro⟨⟨p,acc⟩,hp,hal,hr⟩
 dsimp only at hp hal hr ⊢
 by_cases hlt:p < s.length
 ·have hD:=rT s (p:Int) hs (by omega)
  rw[wa hlt]at hr
  match hd:cZ s (p:Int)with
  | none=>
   rw[hd]at hr hD
   dsimp only[rOp,opX,opZ,Option.isSome]at hr hD
   subst hr
   repeat' ((conv=>whnf);first|refine Or.inl ?_|apply oi|(apply fi<;>intro h)|refine ci hD (ai rfl (ai rfl trivial)) ?_|refine⟨_,rfl,?_⟩|exact rfl)
   all_goals try exact⟨KO⟩
   all_goals try exact KX
  | some (x,z)=>
   rw[hd]at hr hD
   have hz:=gd hd
   dsimp only[rOp,opX,opZ,Option.isSome]at hr hD
   repeat' ((conv=>whnf);first|refine Or.inl ?_|apply oi|(apply fi<;>intro h)|refine ci hD (ai rfl (ai rfl trivial)) ?_|refine⟨_,rfl,?_⟩|exact rfl)
   all_goals try exact⟨KO⟩
   all_goals try exact KX
   all_goals try exact⟨⟨by simp only[List.length_map,List.length_cons,List.length_nil];omega,by simp only[List.length_map,List.length_cons,List.length_nil];omega⟩⟩
   conv=>whnf
   refine⟨⟨(p+z,acc++[x]),by dsimp only;omega,by simp;omega,?_⟩,?_,KD⟩
   ·dsimp only
    rw[←hr,Option.map_map]
    congr 1
    funext l
    simp
   repeat' ((conv=>whnf);first|refine Or.inl ?_|apply oi|(apply fi<;>intro h)|refine⟨_,rfl,?_⟩|exact rfl)
   all_goals try exact⟨KO⟩
   all_goals first
    |(refine⟨congrArg (Tr.int _) ?_⟩;dsimp only;rw[IntWalk.i64_in _ (by omega)];omega)
    |(refine⟨?_⟩;dsimp only;rw[List.map_append];rfl)
 ·have hge:s.length≤p:=by omega
  rw[yF hge]at hr
  simp only[Option.map_some,List.append_nil]at hr
  subst hr
  repeat' ((conv=>whnf);first|refine Or.inl ?_|apply oi|(apply fi<;>intro h)|refine⟨_,rfl,?_⟩|exact rfl)
  all_goals try exact⟨KO⟩
  all_goals try exact KX
theorem nI (s:List UInt8)(hs:s.length≤1048576):Sim.Spec Tryz.prog 199 [tvS s] (.tup [.c (.arr 2 ((oL (fS s)).map FZ.tr)),.c (.t (.bool (fS s).isSome))]):=by
 refine aj hΓ ao Tryz.func199 rfl (by decide) rfl ?_
 have hR0:(mT s (s.length - 0) 0).map (([]:List FZ)++·)=fS s:=by simp[fS]
 generalize fS s=R at hR0 ⊢
 repeat' ((conv=>whnf);first|refine Or.inl ?_|apply oi|(apply fi<;>intro h)|refine⟨_,rfl,?_⟩|exact rfl)
 all_goals try exact⟨KO⟩
 conv=>whnf
 refine⟨EO s R,fun q=>⟨[(0,tS s),(4,.r (.c (.own (9,0,0)))),(5,tI .i64 (q.1.1:Int))],[((9,0,0),some (.arr true 2 (q.1.2.map FZ.tr)))],[9]⟩,fun q=>s.length - q.1.1,⟨(0,[]),by simp,by simp,hR0⟩,?_,?_⟩
 ·skip
  repeat' ((conv=>whnf);first|refine Or.inl ?_|apply oi|(apply fi<;>intro h)|refine⟨_,rfl,?_⟩|exact rfl)
  all_goals try exact⟨KO⟩
 intro⟨⟨p,acc⟩,hp,hal,hr⟩
 dsimp only at hp hal hr ⊢
 by_cases hlt:p < s.length
 ·have hD:=se s (p:Int) hs (by omega)
  rw[wa hlt]at hr
  match hd:cZ s (p:Int)with
  | none=>
   rw[hd]at hr hD
   dsimp only[rOp,opX,opZ,Option.isSome]at hr hD
   subst hr
   repeat' ((conv=>whnf);first|refine Or.inl ?_|apply oi|(apply fi<;>intro h)|refine ci hD (ai rfl (ai rfl trivial)) ?_|refine⟨_,rfl,?_⟩|exact rfl)
   all_goals try exact⟨KO⟩
   all_goals try exact KX
  | some (x,z)=>
   rw[hd]at hr hD
   have hz:=gd hd
   dsimp only[rOp,opX,opZ,Option.isSome]at hr hD
   repeat' ((conv=>whnf);first|refine Or.inl ?_|apply oi|(apply fi<;>intro h)|refine ci hD (ai rfl (ai rfl trivial)) ?_|refine⟨_,rfl,?_⟩|exact rfl)
   all_goals try exact⟨KO⟩
   all_goals try exact KX
   all_goals try exact⟨⟨by simp only[List.length_map,List.length_cons,List.length_nil];omega,by simp only[List.length_map,List.length_cons,List.length_nil];omega⟩⟩
   conv=>whnf
   refine⟨⟨(p+z,acc++[x]),by dsimp only;omega,by simp;omega,?_⟩,?_,KD⟩
   ·dsimp only
    rw[←hr,Option.map_map]
    congr 1
    funext l
    simp
   repeat' ((conv=>whnf);first|refine Or.inl ?_|apply oi|(apply fi<;>intro h)|refine⟨_,rfl,?_⟩|exact rfl)
   all_goals try exact⟨KO⟩
   all_goals first
    |(refine⟨congrArg (Tr.int _) ?_⟩;dsimp only;rw[IntWalk.i64_in _ (by omega)];omega)
    |(refine⟨?_⟩;dsimp only;rw[List.map_append];rfl)
 ·have hge:s.length≤p:=by omega
  rw[yF hge]at hr
  simp only[Option.map_some,List.append_nil]at hr
  subst hr
  repeat' ((conv=>whnf);first|refine Or.inl ?_|apply oi|(apply fi<;>intro h)|refine⟨_,rfl,?_⟩|exact rfl)
  all_goals try exact⟨KO⟩
  all_goals try exact KX
end Go.Proofs.YtoglejgmjeojoaaGreat
