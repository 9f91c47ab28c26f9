import Derived.Test.YtjmplnfiabmalaaGreatGi
namespace Go.Proofs.YtjmplnfiabmalaaGreat
open Go.Sim
set_option maxRecDepth 100000
set_option maxHeartbeats 4000000
abbrev cpuB (m:TMachine)(bad:Bool)(st out:Sim.Id):AO:= .box [.t (.int .i64 m.fPc),.t (.int .i64 m.fSp),.t (.int .i64 m.fFp),.own st,.own out,.t (.int .i64 m.fState),.t (.int .i64 m.fValue),.t (.bool bad)]
abbrev cpuH (c:CS):List (Sim.Id×AO):=[((0,0,0),cpuB c.m c.bad (0,0,1) (0,0,2)),((0,0,1),.arr false 1 (c.m.fStack.map intRow)),((0,0,2),.arr false 1 (c.m.fOut.map intRow))]
abbrev cpuO (c:CS):List (Sim.Id×AO):=[((0,0,0),cpuB c.m c.bad (0,0,1) (1,0,0)),((0,0,1),.arr false 1 (c.m.fStack.map intRow)),((1,0,0),.arr false 1 (c.m.fOut.map intRow))]
theorem s_spec_l11Near (a n:Int):Sim.Spec Tryz.prog 224 [tvI a,tvI n] (rI (qNear a n)):=by
 refine spec_of_W hΓ hmix Tryz.func224 rfl (by decide) rfl ?_
 have hb:=s_spec_l01In a (-100000) 100000
 unfold qNear
 cases hin:within a (-100000) 100000
 all_goals
  rw[hin]at hb
  repeat' ((conv=>whnf);first|refine Or.inl ?_|apply oi|(apply fi<;>intro h)|refine ci hb (ai rfl (ai rfl (ai rfl trivial))) ?_|refine⟨_,rfl,?_⟩|((with_reducible show _=_);rfl))
  all_goals try((with_reducible refine Obl.mk ?_);exact KO)
  all_goals try(exfalso;simp at h;done)
theorem g_cpu_push (c:CS)(v:Int)(hc:c.ok):SpecG Tryz.prog 223 [coreP,tI .i64 v] (cpuH c) (.tup []) (cpuH (qPush c v)):=by
 refine specG_of_W hΓ hmix Tryz.func223 rfl (by decide) rfl rfl ?_
 obtain⟨m,bad⟩:=c
 unfold CS.ok at hc
 unfold qPush
 dsimp only at hc ⊢
 by_cases hs:m.fSp < 1∨1200 < m.fSp
 ·rw[if_pos hs]
  repeat' ((conv=>whnf);first|refine seq_inl ?_|apply reg_inl|apply oi|(apply fi<;>intro h)|refine⟨_,rfl,?_⟩|((with_reducible show _=_);rfl))
  all_goals try((with_reducible refine Obl.mk ?_);exact KO)
  all_goals try exact K8
 ·rw[if_neg hs]
  have hw:wr (m.fSp - 1)=m.fSp - 1:=IntWalk.i64_in _ (by omega)
  obtain⟨j,x,hj,hx,hlt,_⟩:=stk_at (a:=m.fSp - 1) hc (inStk_iff.2 (by omega))
  have hlen:(m.fStack.map intRow).length=m.fStack.length:=by simp
  repeat' ((conv=>whnf);first|refine seq_inl ?_|apply reg_inl|apply oi|(apply fi<;>intro h)|refine⟨_,rfl,?_⟩|((with_reducible show _=_);rfl))
  all_goals try((with_reducible refine Obl.mk ?_);exact KO)
  all_goals try exact K8
  conv=>whnf
  refine⟨j,by rw[←hj];exact hw,by rw[hlen];exact hlt,?_⟩
  repeat' ((conv=>whnf);first|refine seq_inl ?_|apply reg_inl|apply oi|(apply fi<;>intro h)|refine⟨(intRow x),map_get hx,?_⟩|refine⟨_,rfl,?_⟩|((with_reducible show _=_);rfl))
  all_goals try((with_reducible refine Obl.mk ?_);exact KO)
  all_goals first
   | exact⟨congrArg (Tr.int _) hw⟩
   |(refine⟨?_⟩;rw[←show(m.fSp - 1).toNat=j by rw[hj];rfl];exact map_set')
theorem g_cpu_word (c:CS)(a:Int)(hc:c.ok):SpecG Tryz.prog 168 [coreP,tI .i64 a] (cpuH c) (tI .i64 (qVal c a)) (cpuH (cAt c a)):=by
 refine specG_of_W hΓ hmix Tryz.func168 rfl (by decide) rfl rfl ?_
 obtain⟨m,bad⟩:=c
 unfold CS.ok at hc
 have hb:=s_spec_l01In a 0 1199
 unfold cAt qVal
 dsimp only at hc ⊢
 cases hi:inStk a with
 | false=>
  rw[show within a 0 1199=false from hi]at hb
  rw[if_neg (by simp)]
  repeat' ((conv=>whnf);first|refine Or.inl ?_|apply oi|(apply fi<;>intro h)|refine ci hb (ai rfl (ai rfl (ai rfl trivial))) ?_|refine⟨_,rfl,?_⟩|((with_reducible show _=_);rfl))
  all_goals try((with_reducible refine Obl.mk ?_);exact KO)
  all_goals try(exfalso;simp at h;done)
  all_goals try(refine⟨congrArg Tr.bool ?_⟩;simp)
 | true=>
  rw[show within a 0 1199=true from hi]at hb
  rw[if_pos rfl]
  obtain⟨j,x,hj,hx,hlt,_⟩:=stk_at hc hi
  have hlen:(m.fStack.map intRow).length=m.fStack.length:=by simp
  rw[show wordAt m a=x by simp[wordAt,hj,hx]]
  repeat' ((conv=>whnf);first|refine Or.inl ?_|apply oi|(apply fi<;>intro h)|refine ci hb (ai rfl (ai rfl (ai rfl trivial))) ?_|refine⟨_,rfl,?_⟩|((with_reducible show _=_);rfl))
  all_goals try((with_reducible refine Obl.mk ?_);exact KO)
  all_goals try(exfalso;simp at h;done)
  conv=>whnf
  refine⟨j,hj,by rw[hlen];exact hlt,?_⟩
  repeat' ((conv=>whnf);first|refine Or.inl ?_|apply oi|(apply fi<;>intro h)|refine⟨(intRow x),map_get hx,?_⟩|refine⟨_,rfl,?_⟩|((with_reducible show _=_);rfl))
  all_goals try((with_reducible refine Obl.mk ?_);exact KO)
  all_goals try(refine⟨congrArg Tr.bool ?_⟩;simp)
theorem g_cpu_pop (c:CS)(hc:c.ok):SpecG Tryz.prog 226 [coreP] (cpuH c) (tI .i64 (qTop c)) (cpuH (cPop c)):=by
 refine specG_of_W hΓ hmix Tryz.func226 rfl (by decide) rfl rfl ?_
 have hP:=g_cpu_word c c.m.fSp hc
 obtain⟨m,bad⟩:=c
 unfold qTop cPop cAt at *
 dsimp only at hP ⊢
 cases hB:(bad || !inStk m.fSp)with
 | true=>
  rw[hB]at hP
  repeat' ((conv=>whnf);first|refine cg hP ?_|refine seq_inl ?_|apply reg_inl|apply oi|(apply fi<;>intro h)|refine⟨_,rfl,?_⟩|((with_reducible show _=_);rfl))
  all_goals try((with_reducible refine Obl.mk ?_);exact KO)
  all_goals try(exfalso;simp at h;done)
 | false=>
  rw[hB]at hP
  obtain⟨_,hin⟩:=or_false2 hB
  have:=inStk_iff.1 hin
  have hw:IntKind.i64.wrap (m.fSp+1)=m.fSp+1:=IntWalk.i64_in _ (by omega)
  repeat' ((conv=>whnf);first|refine cg hP ?_|refine seq_inl ?_|apply reg_inl|apply oi|(apply fi<;>intro h)|refine⟨_,rfl,?_⟩|((with_reducible show _=_);rfl))
  all_goals try((with_reducible refine Obl.mk ?_);exact KO)
  all_goals try(exfalso;simp at h;done)
  all_goals exact⟨congrArg (Tr.int _) hw⟩
theorem g_cpu_put (c:CS)(a v:Int)(hc:c.ok):SpecG Tryz.prog 225 [coreP,tI .i64 a,tI .i64 v] (cpuH c) (.tup []) (cpuH (qPut c a v)):=by
 refine specG_of_W hΓ hmix Tryz.func225 rfl (by decide) rfl rfl ?_
 obtain⟨m,bad⟩:=c
 unfold CS.ok at hc
 have hb:=s_spec_l01In a 0 1199
 unfold qPut
 dsimp only at hc ⊢
 cases hi:inStk a with
 | false=>
  rw[show within a 0 1199=false from hi]at hb
  rw[if_neg (by simp)]
  repeat' ((conv=>whnf);first|refine Or.inl ?_|apply oi|(apply fi<;>intro h)|refine ci hb (ai rfl (ai rfl (ai rfl trivial))) ?_|refine⟨_,rfl,?_⟩|((with_reducible show _=_);rfl))
  all_goals try((with_reducible refine Obl.mk ?_);exact KO)
  all_goals try(exfalso;simp at h;done)
 | true=>
  rw[show within a 0 1199=true from hi]at hb
  rw[if_pos rfl]
  obtain⟨j,x,hj,hx,hlt,_⟩:=stk_at hc hi
  have hlen:(m.fStack.map intRow).length=m.fStack.length:=by simp
  repeat' ((conv=>whnf);first|refine Or.inl ?_|apply oi|(apply fi<;>intro h)|refine ci hb (ai rfl (ai rfl (ai rfl trivial))) ?_|refine⟨_,rfl,?_⟩|((with_reducible show _=_);rfl))
  all_goals try((with_reducible refine Obl.mk ?_);exact KO)
  all_goals try(exfalso;simp at h;done)
  conv=>whnf
  refine⟨j,hj,by rw[hlen];exact hlt,?_⟩
  repeat' ((conv=>whnf);first|refine Or.inl ?_|apply oi|(apply fi<;>intro h)|refine⟨(intRow x),map_get hx,?_⟩|refine⟨_,rfl,?_⟩|((with_reducible show _=_);rfl))
  all_goals try((with_reducible refine Obl.mk ?_);exact KO)
  all_goals try(refine⟨?_⟩;rw[←show a.toNat=j by rw[hj];rfl];exact map_set')
theorem qPush_ok {c:CS}{v:Int}(h:c.ok):(qPush c v).ok:=by
 unfold qPush CS.ok at *
 split
 ·exact h
 ·simpa [setAt]using h
theorem qZeros_ok:∀{n:Nat} {c:CS},c.ok→(qZeros n c).ok
 | 0,_,h=>h
 | n+1,c,h=>qZeros_ok (n:=n) (qPush_ok h)
theorem cAt_ok {c:CS}{a:Int}(h:c.ok):(cAt c a).ok:=h
theorem g_cpu_drop (c:CS)(n:Nat)(hc:c.ok)(hn:n≤65536):SpecG Tryz.prog 228 [coreP,tI .i64 (n:Int)] (cpuH c) (.tup []) (cpuH (cDrop n c)):=by
 refine specG_of_W hΓ hmix Tryz.func228 rfl (by decide) rfl rfl ?_
 obtain⟨R,hR⟩:∃R,cDrop n c=R:=⟨_,rfl⟩
 rw[hR]
 repeat' ((conv=>whnf);first|refine seq_inl ?_|apply reg_inl|apply oi|(apply fi<;>intro h)|refine⟨_,rfl,?_⟩|((with_reducible show _=_);rfl))
 all_goals try((with_reducible refine Obl.mk ?_);exact KO)
 conv=>whnf
 refine⟨{q:Nat×CS // q.1≤n∧q.2.ok∧cDrop (n - q.1) q.2=R},fun q=>⟨[(0,coreP),(1,tI .i64 (n:Int)),(4,tI .i64 (q.1.1:Int))],(cpuH q.1.2).map fun p=>(p.1,some p.2),[0]⟩,fun q=>n - q.1.1,⟨(0,c),by omega,hc,hR⟩,?_,?_⟩
 ·skip
  repeat' ((conv=>whnf);first|refine seq_inl ?_|apply reg_inl|apply oi|(apply fi<;>intro h)|refine⟨_,rfl,?_⟩|((with_reducible show _=_);rfl))
  all_goals try((with_reducible refine Obl.mk ?_);exact KO)
 intro⟨⟨k,d⟩,hk,hd,hr⟩
 dsimp only at hk hd hr ⊢
 by_cases hlt:k < n
 ·obtain⟨j,hj⟩:∃j,n - k=j+1:=⟨n - k - 1,by omega⟩
  rw[hj,cDrop]at hr
  have hP:=g_cpu_pop d hd
  repeat' ((conv=>whnf);first|refine cg hP ?_|refine seq_inl ?_|apply reg_inl|apply oi|(apply fi<;>intro h)|refine⟨_,rfl,?_⟩|((with_reducible show _=_);rfl))
  all_goals try((with_reducible refine Obl.mk ?_);exact KO)
  all_goals try(exfalso;have h':=of_decide_eq_false h;omega)
  conv=>whnf
  refine⟨⟨(k+1,cPop d),by dsimp only;omega,cPop_ok hd,by rw[show n - (k+1)=j by omega];exact hr⟩,?_,by dsimp only;omega⟩
  repeat' ((conv=>whnf);first|refine seq_inl ?_|apply reg_inl|apply oi|(apply fi<;>intro h)|refine⟨_,rfl,?_⟩|((with_reducible show _=_);rfl))
  all_goals try((with_reducible refine Obl.mk ?_);exact KO)
  all_goals try(refine⟨congrArg (Tr.int _) ?_⟩;dsimp only;rw[IntWalk.i64_in _ (by omega)];omega)
 ·rw[show n - k=0 by omega,cDrop]at hr
  subst hr
  repeat' ((conv=>whnf);first|refine seq_inl ?_|apply reg_inl|apply oi|(apply fi<;>intro h)|refine⟨_,rfl,?_⟩|((with_reducible show _=_);rfl))
  all_goals try((with_reducible refine Obl.mk ?_);exact KO)
  all_goals try(exfalso;have h':=of_decide_eq_true h;omega)
theorem g_cpu_zeros (c:CS)(n:Nat)(hc:c.ok)(hn:n≤65536):SpecG Tryz.prog 227 [coreP,tI .i64 (n:Int)] (cpuH c) (.tup []) (cpuH (qZeros n c)):=by
 refine specG_of_W hΓ hmix Tryz.func227 rfl (by decide) rfl rfl ?_
 obtain⟨R,hR⟩:∃R,qZeros n c=R:=⟨_,rfl⟩
 rw[hR]
 repeat' ((conv=>whnf);first|refine seq_inl ?_|apply reg_inl|apply oi|(apply fi<;>intro h)|refine⟨_,rfl,?_⟩|((with_reducible show _=_);rfl))
 all_goals try((with_reducible refine Obl.mk ?_);exact KO)
 conv=>whnf
 refine⟨{q:Nat×CS // q.1≤n∧q.2.ok∧qZeros (n - q.1) q.2=R},fun q=>⟨[(0,coreP),(1,tI .i64 (n:Int)),(4,tI .i64 (q.1.1:Int))],(cpuH q.1.2).map fun p=>(p.1,some p.2),[0]⟩,fun q=>n - q.1.1,⟨(0,c),by omega,hc,hR⟩,?_,?_⟩
 ·skip
  repeat' ((conv=>whnf);first|refine seq_inl ?_|apply reg_inl|apply oi|(apply fi<;>intro h)|refine⟨_,rfl,?_⟩|((with_reducible show _=_);rfl))
  all_goals try((with_reducible refine Obl.mk ?_);exact KO)
 intro⟨⟨k,d⟩,hk,hd,hr⟩
 dsimp only at hk hd hr ⊢
 by_cases hlt:k < n
 ·obtain⟨j,hj⟩:∃j,n - k=j+1:=⟨n - k - 1,by omega⟩
  rw[hj,qZeros]at hr
  have hP:=g_cpu_push d 0 hd
  repeat' ((conv=>whnf);first|refine cg hP ?_|refine seq_inl ?_|apply reg_inl|apply oi|(apply fi<;>intro h)|refine⟨_,rfl,?_⟩|((with_reducible show _=_);rfl))
  all_goals try((with_reducible refine Obl.mk ?_);exact KO)
  all_goals try(exfalso;have h':=of_decide_eq_false h;omega)
  conv=>whnf
  refine⟨⟨(k+1,qPush d 0),by dsimp only;omega,qPush_ok hd,by rw[show n - (k+1)=j by omega];exact hr⟩,?_,by dsimp only;omega⟩
  repeat' ((conv=>whnf);first|refine seq_inl ?_|apply reg_inl|apply oi|(apply fi<;>intro h)|refine⟨_,rfl,?_⟩|((with_reducible show _=_);rfl))
  all_goals try((with_reducible refine Obl.mk ?_);exact KO)
  all_goals try(refine⟨congrArg (Tr.int _) ?_⟩;dsimp only;rw[IntWalk.i64_in _ (by omega)];omega)
 ·rw[show n - k=0 by omega,qZeros]at hr
  subst hr
  repeat' ((conv=>whnf);first|refine seq_inl ?_|apply reg_inl|apply oi|(apply fi<;>intro h)|refine⟨_,rfl,?_⟩|((with_reducible show _=_);rfl))
  all_goals try((with_reducible refine Obl.mk ?_);exact KO)
  all_goals try(exfalso;have h':=of_decide_eq_true h;omega)
theorem eff_int {v v':Int}{R:List Sim.Id}(h:v=v'):(⟨tI .i64 v,[],none,R⟩:Eff)=⟨tI .i64 v',[],none,R⟩:=by rw[h]
def adv (c:CS)(z:Int):CS:=⟨{c.m with fPc:=wr (c.m.fPc+z)},c.bad⟩
theorem g_cpu_perform (s:TSpace)(c:CS)(x:TOp)(z:Int)(hc:c.ok)(hx:x.fCode≠17)(h0:0≤x.fCode∧x.fCode≤17)(ha:12≤x.fCode→x.fCode≤16→0≤x.fArg∧x.fArg≤65536)(he:s.fEntries.length≤1048576):SpecG Tryz.prog 167 [.r (.agg (s.tr.map .t)),coreP,opV x,tI .i64 z] (cpuH c) (.tup []) (cpuH (qPerf s.fEntries (adv c z) x)):=by
 obtain⟨k,a⟩:=x
 dsimp only at hx ha h0
 refine specG_of_W hΓ hmix Tryz.func167 rfl (by decide) rfl rfl ?_
 obtain⟨d,hd⟩:∃d,adv c z=d:=⟨_,rfl⟩
 have hdo:d.ok:=by rw[←hd];exact hc
 by_cases e0:k=0
 ·subst e0
  have hP:=g_cpu_push (adv c z) a hc
  repeat' ((conv=>whnf);first|refine cg hP ?_|refine seq_inl ?_|apply reg_inl|apply oi|(apply fi<;>intro h)|refine⟨_,rfl,?_⟩|((with_reducible show _=_);rfl))
  all_goals try((with_reducible refine Obl.mk ?_);exact KO)
 by_cases e1:k=1
 ·subst e1
  have hN:=s_spec_l11Near c.m.fFp a
  have hQ:=g_cpu_word (adv c z) (qNear c.m.fFp a) hc
  have hP:=g_cpu_push (cAt (adv c z) (qNear c.m.fFp a)) (qVal (adv c z) (qNear c.m.fFp a)) hc
  repeat' ((conv=>whnf);first|refine cg hQ ?_|refine cg hP ?_|refine seq_inl ?_|apply reg_inl|apply oi|(apply fi<;>intro h)|refine cl hN ?_|refine⟨_,rfl,?_⟩|((with_reducible show _=_);rfl))
  all_goals try((with_reducible refine Obl.mk ?_);exact KO)
 by_cases e3:k=3
 ·subst e3
  have hQ:=g_cpu_word (adv c z) (wr (c.m.fSp+a)) hc
  have hP:=g_cpu_push (cAt (adv c z) (wr (c.m.fSp+a))) (qVal (adv c z) (wr (c.m.fSp+a))) hc
  repeat' ((conv=>whnf);first|refine cg hQ ?_|refine cg hP ?_|refine seq_inl ?_|apply reg_inl|apply oi|(apply fi<;>intro h)|refine⟨_,rfl,?_⟩|((with_reducible show _=_);rfl))
  all_goals try((with_reducible refine Obl.mk ?_);exact KO)
 by_cases e2:k=2
 ·subst e2
  have hN:=s_spec_l11Near c.m.fFp a
  have hQ:=g_cpu_pop (adv c z) hc
  have hP:=g_cpu_put (cPop (adv c z)) (qNear c.m.fFp a) (qTop (adv c z)) (cPop_ok hc)
  have hf:(cPop (adv c z)).m.fFp=c.m.fFp:=by unfold cPop;split <;> rfl
  repeat' ((conv=>whnf);first|refine cg hQ ?_|refine cg hP ?_|refine seq_inl ?_|refine reg_inr 5 10 ?_|apply oi|(apply fi<;>intro h)|refine cl hN ?_|refine⟨_,rfl,?_⟩|((with_reducible show _=_);rfl))
  all_goals try((with_reducible refine Obl.mk ?_);exact KR)
  all_goals(refine⟨?_⟩;(conv=>whnf);exact eff_int hf)
 by_cases e4:k=4
 ·subst e4
  have hQ:=g_cpu_pop (adv c z) hc
  have hP:=g_cpu_put (cPop (adv c z)) (wr (c.m.fSp+a)) (qTop (adv c z)) (cPop_ok hc)
  repeat' ((conv=>whnf);first|refine cg hQ ?_|refine cg hP ?_|refine seq_inl ?_|apply reg_inl|apply oi|(apply fi<;>intro h)|refine⟨_,rfl,?_⟩|((with_reducible show _=_);rfl))
  all_goals try((with_reducible refine Obl.mk ?_);exact KO)
 by_cases e10:k=10
 ·subst e10
  repeat' ((conv=>whnf);first|refine seq_inl ?_|apply reg_inl|apply oi|(apply fi<;>intro h)|refine⟨_,rfl,?_⟩|((with_reducible show _=_);rfl))
  all_goals try((with_reducible refine Obl.mk ?_);exact KO)
 by_cases e11:k=11
 ·subst e11
  have hP:=g_cpu_pop (adv c z) hc
  by_cases hz:qTop (adv c z)=0
  ·rw[show qPerf s.fEntries (adv c z) ⟨11,a⟩=cJump (cPop (adv c z)) a by simp[qPerf,qZero,hz]]
   repeat' ((conv=>whnf);first|refine cg hP ?_|refine seq_inl ?_|apply reg_inl|apply oi|(apply fi<;>intro h)|refine⟨_,rfl,?_⟩|((with_reducible show _=_);rfl))
   all_goals try((with_reducible refine Obl.mk ?_);exact KO)
   all_goals try(exfalso;rw[hz]at h;simp at h;done)
  ·rw[show qPerf s.fEntries (adv c z) ⟨11,a⟩=cPop (adv c z) by simp[qPerf,qZero,hz]]
   repeat' ((conv=>whnf);first|refine cg hP ?_|refine seq_inl ?_|apply reg_inl|apply oi|(apply fi<;>intro h)|refine⟨_,rfl,?_⟩|((with_reducible show _=_);rfl))
   all_goals try((with_reducible refine Obl.mk ?_);exact KO)
   all_goals try(exfalso;exact hz (by simpa using h))
 by_cases e12:k=12
 ·subst e12
  obtain⟨a0,a1⟩:=ha (by omega) (by omega)
  obtain⟨n,rfl⟩:=Int.eq_ofNat_of_zero_le a0
  have hP:=g_cpu_push (adv c z) (adv c z).m.fPc hc
  have hel:(s.fEntries.map intRow).length=s.fEntries.length:=by simp
  by_cases hn:n < s.fEntries.length
  ·obtain⟨e,hee⟩:=get_of_lt hn
   rw[show qPerf s.fEntries (adv c z) ⟨12,(n:Int)⟩=⟨{(qPush (adv c z) (adv c z).m.fPc).m with fPc:=e},(qPush (adv c z) (adv c z).m.fPc).bad⟩ by simp[qPerf,qGoto,hee]]
   repeat' ((conv=>whnf);first|refine cg hP ?_|refine seq_inl ?_|apply reg_inl|apply oi|(apply fi<;>intro h)|refine⟨n,(intRow e),rfl,map_get hee,?_⟩|refine⟨_,rfl,?_⟩|((with_reducible show _=_);rfl))
   all_goals try((with_reducible refine Obl.mk ?_);exact KO)
   all_goals try(exfalso;have h':=of_decide_eq_true h;rw[hel]at h';dsimp only at h';omega)
  ·have hnone:s.fEntries[n]?=none:=List.getElem?_eq_none (by omega)
   rw[show qPerf s.fEntries (adv c z) ⟨12,(n:Int)⟩=⟨(adv c z).m,true⟩ by simp[qPerf,qGoto,hnone]]
   repeat' ((conv=>whnf);first|refine cg hP ?_|refine seq_inl ?_|apply reg_inl|apply oi|(apply fi<;>intro h)|refine⟨_,rfl,?_⟩|((with_reducible show _=_);rfl))
   all_goals try((with_reducible refine Obl.mk ?_);exact KO)
   all_goals try(exfalso;have h':=of_decide_eq_false h;rw[hel]at h';dsimp only at h';omega)
 by_cases e13:k=13
 ·subst e13
  obtain⟨a0,a1⟩:=ha (by omega) (by omega)
  obtain⟨n,rfl⟩:=Int.eq_ofNat_of_zero_le a0
  have hP:=g_cpu_push (adv c z) c.m.fFp hc
  have hZ:=g_cpu_zeros ⟨{(qPush (adv c z) c.m.fFp).m with fFp:=(qPush (adv c z) c.m.fFp).m.fSp},(qPush (adv c z) c.m.fFp).bad⟩ n (qPush_ok (c:=adv c z) hc) (by omega)
  repeat' ((conv=>whnf);first|refine cg hP ?_|refine cg hZ ?_|refine seq_inl ?_|apply reg_inl|apply oi|(apply fi<;>intro h)|refine⟨_,rfl,?_⟩|((with_reducible show _=_);rfl))
  all_goals try((with_reducible refine Obl.mk ?_);exact KO)
 by_cases e15:k=15
 ·subst e15
  obtain⟨a0,a1⟩:=ha (by omega) (by omega)
  obtain⟨n,rfl⟩:=Int.eq_ofNat_of_zero_le a0
  have hZ:=g_cpu_zeros (adv c z) n hc (by omega)
  repeat' ((conv=>whnf);first|refine cg hZ ?_|refine seq_inl ?_|apply reg_inl|apply oi|(apply fi<;>intro h)|refine⟨_,rfl,?_⟩|((with_reducible show _=_);rfl))
  all_goals try((with_reducible refine Obl.mk ?_);exact KO)
 by_cases e14:k=14
 ·subst e14
  obtain⟨a0,a1⟩:=ha (by omega) (by omega)
  obtain⟨n,rfl⟩:=Int.eq_ofNat_of_zero_le a0
  have hP1:=g_cpu_pop (adv c z) hc
  have hb:=s_spec_l01In (cPop (adv c z)).m.fFp 0 1200
  cases hw:within (cPop (adv c z)).m.fFp 0 1200 with
  | false=>
   rw[hw]at hb
   rw[show qPerf s.fEntries (adv c z) ⟨14,(n:Int)⟩=⟨(cPop (adv c z)).m,true⟩ by simp[qPerf,qLeave,hw]]
   repeat' ((conv=>whnf);first|refine cg hP1 ?_|refine seq_inl ?_|apply reg_inl|apply oi|(apply fi<;>intro h)|refine cl hb ?_|refine⟨_,rfl,?_⟩|((with_reducible show _=_);rfl))
   all_goals try((with_reducible refine Obl.mk ?_);exact KO)
   all_goals try(exfalso;simp at h;done)
  | true=>
   rw[hw]at hb
   rw[show qPerf s.fEntries (adv c z) ⟨14,(n:Int)⟩=qPush (cDrop n (qPc (qFp (cCut (cPop (adv c z)))))) (qTop (adv c z)) by simp[qPerf,qLeave,hw]]
   have o1:(cCut (cPop (adv c z))).ok:=cPop_ok (c:=adv c z) hc
   have o2:(qFp (cCut (cPop (adv c z)))).ok:=cPop_ok o1
   have o3:(qPc (qFp (cCut (cPop (adv c z))))).ok:=cPop_ok o2
   have hP2:=g_cpu_pop (cCut (cPop (adv c z))) o1
   have hP3:=g_cpu_pop (qFp (cCut (cPop (adv c z)))) o2
   have hD:=g_cpu_drop (qPc (qFp (cCut (cPop (adv c z))))) n o3 (by omega)
   have hP4:=g_cpu_push (cDrop n (qPc (qFp (cCut (cPop (adv c z)))))) (qTop (adv c z)) (cDrop_ok o3)
   repeat' ((conv=>whnf);first|refine seq_inl ?_|apply reg_inl|apply oi|(apply fi<;>intro h)|refine⟨_,rfl,?_⟩|((with_reducible show _=_);rfl))
   all_goals try((with_reducible refine Obl.mk ?_);exact KO)
   refine cg (hP1) ?_
   repeat' ((conv=>whnf);first|refine seq_inl ?_|apply reg_inl|apply oi|(apply fi<;>intro h)|refine cl hb ?_|refine⟨_,rfl,?_⟩|((with_reducible show _=_);rfl))
   all_goals try((with_reducible refine Obl.mk ?_);exact KO)
   all_goals try(exfalso;simp at h;done)
   refine cg (hP2) ?_
   repeat' ((conv=>whnf);first|refine seq_inl ?_|apply reg_inl|apply oi|(apply fi<;>intro h)|refine⟨_,rfl,?_⟩|((with_reducible show _=_);rfl))
   all_goals try((with_reducible refine Obl.mk ?_);exact KO)
   refine cg (hP3) ?_
   repeat' ((conv=>whnf);first|refine cg hD ?_|refine cg hP4 ?_|refine seq_inl ?_|apply reg_inl|apply oi|(apply fi<;>intro h)|refine⟨_,rfl,?_⟩|((with_reducible show _=_);rfl))
   all_goals try((with_reducible refine Obl.mk ?_);exact KO)
 by_cases e16:k=16
 ·subst e16
  obtain⟨a0,a1⟩:=ha (by omega) (by omega)
  obtain⟨n,rfl⟩:=Int.eq_ofNat_of_zero_le a0
  have o1:(cPop (adv c z)).ok:=cPop_ok (c:=adv c z) hc
  have o2:(cDrop (n / 16) (cPop (adv c z))).ok:=cDrop_ok o1
  have o3:(qPc (cDrop (n / 16) (cPop (adv c z)))).ok:=cPop_ok o2
  have w1:IntKind.i64.wrap ((n:Int).tdiv 16)=((n / 16:Nat):Int):=by
   rw[Int.tdiv_eq_ediv_of_nonneg (by omega),IntWalk.i64_in _ (by omega)];rfl
  have w2:(n:Int).tmod 16=((n % 16:Nat):Int):=by
   rw[Int.tmod_eq_emod_of_nonneg (by omega)];rfl
  have hP1:=g_cpu_pop (adv c z) hc
  have hD1:=g_cpu_drop (cPop (adv c z)) (n / 16) o1 (by omega)
  have hP2:=g_cpu_pop (cDrop (n / 16) (cPop (adv c z))) o2
  have hD2:=g_cpu_drop (qPc (cDrop (n / 16) (cPop (adv c z)))) (n % 16) o3 (by omega)
  have hP4:=g_cpu_push (cDrop (n % 16) (qPc (cDrop (n / 16) (cPop (adv c z))))) (qTop (adv c z)) (cDrop_ok o3)
  rw[←w1]at hD1
  rw[←w2]at hD2
  repeat' ((conv=>whnf);first|refine seq_inl ?_|apply reg_inl|apply oi|(apply fi<;>intro h)|refine⟨_,rfl,?_⟩|((with_reducible show _=_);rfl))
  all_goals try((with_reducible refine Obl.mk ?_);exact KO)
  refine cg (hP1) ?_
  repeat' ((conv=>whnf);first|refine seq_inl ?_|apply reg_inl|apply oi|(apply fi<;>intro h)|refine⟨_,rfl,?_⟩|((with_reducible show _=_);rfl))
  all_goals try((with_reducible refine Obl.mk ?_);exact KO)
  refine cg (hD1) ?_
  repeat' ((conv=>whnf);first|refine seq_inl ?_|apply reg_inl|apply oi|(apply fi<;>intro h)|refine⟨_,rfl,?_⟩|((with_reducible show _=_);rfl))
  all_goals try((with_reducible refine Obl.mk ?_);exact KO)
  refine cg (hP2) ?_
  repeat' ((conv=>whnf);first|refine seq_inl ?_|apply reg_inl|apply oi|(apply fi<;>intro h)|refine⟨_,rfl,?_⟩|((with_reducible show _=_);rfl))
  all_goals try((with_reducible refine Obl.mk ?_);exact KO)
  refine cg (hD2) ?_
  repeat' ((conv=>whnf);first|refine seq_inl ?_|apply reg_inl|apply oi|(apply fi<;>intro h)|refine⟨_,rfl,?_⟩|((with_reducible show _=_);rfl))
  all_goals try((with_reducible refine Obl.mk ?_);exact KO)
  refine cg (hP4) ?_
  repeat' ((conv=>whnf);first|refine seq_inl ?_|apply reg_inl|apply oi|(apply fi<;>intro h)|refine⟨_,rfl,?_⟩|((with_reducible show _=_);rfl))
  all_goals try((with_reducible refine Obl.mk ?_);exact KO)
 ·have o1:(cPop (adv c z)).ok:=cPop_ok (c:=adv c z) hc
  have hP1:=g_cpu_pop (adv c z) hc
  have hP2:=g_cpu_pop (cPop (adv c z)) o1
  have hP3:=g_cpu_push (cPop (cPop (adv c z))) (applyP (k - 3) (qTop (cPop (adv c z))) (qTop (adv c z))) (cPop_ok o1)
  have hA:=s_spec_Apply (k - 3) (qTop (cPop (adv c z))) (qTop (adv c z))
  have e:k=5∨k=6∨k=7∨k=8∨k=9:=by omega
  rcases e with rfl|rfl|rfl|rfl|rfl
  all_goals
   repeat' ((conv=>whnf);first|refine seq_inl ?_|apply reg_inl|apply oi|(apply fi<;>intro h)|refine⟨_,rfl,?_⟩|((with_reducible show _=_);rfl))
   all_goals try((with_reducible refine Obl.mk ?_);exact KO)
   refine cg (hP1) ?_
   repeat' ((conv=>whnf);first|refine seq_inl ?_|apply reg_inl|apply oi|(apply fi<;>intro h)|refine⟨_,rfl,?_⟩|((with_reducible show _=_);rfl))
   all_goals try((with_reducible refine Obl.mk ?_);exact KO)
   refine cg (hP2) ?_
   repeat' ((conv=>whnf);first|refine seq_inl ?_|apply reg_inl|apply oi|(apply fi<;>intro h)|refine cl hA ?_|refine⟨_,rfl,?_⟩|((with_reducible show _=_);rfl))
   all_goals try((with_reducible refine Obl.mk ?_);exact KO)
   refine cg (hP3) ?_
   repeat' ((conv=>whnf);first|refine seq_inl ?_|apply reg_inl|apply oi|(apply fi<;>intro h)|refine⟨_,rfl,?_⟩|((with_reducible show _=_);rfl))
   all_goals try((with_reducible refine Obl.mk ?_);exact KO)
theorem g_cpu_out (s:TSpace)(c:CS)(a z:Int)(hc:c.ok)(ho:c.m.fOut.length≤2000000):SpecG Tryz.prog 167 [.r (.agg (s.tr.map .t)),coreP,opV ⟨17,a⟩,tI .i64 z] (cpuH c) (.tup []) (cpuO (qOut (adv c z))):=by
 refine specG_of_W hΓ hmix Tryz.func167 rfl (by decide) rfl rfl ?_
 have hP:=g_cpu_pop (adv c z) hc
 have ho2:(cPop (adv c z)).m.fOut.length≤2000000:=by unfold cPop;split <;> exact ho
 repeat' ((conv=>whnf);first|refine cg hP ?_|refine seq_inl ?_|refine reg_inr 5 7 ?_|apply oi|(apply fi<;>intro h)|refine⟨_,rfl,?_⟩|((with_reducible show _=_);rfl))
 all_goals try((with_reducible refine Obl.mk ?_);exact KR)
 all_goals(refine⟨?_⟩;first|(refine And.intro ?_ ?_ <;> simp only[List.length_map,List.length_append,List.length_cons,List.length_nil] <;> omega)|simp[qOut,intRow])
end Go.Proofs.YtjmplnfiabmalaaGreat
namespace Go.Proofs.YtjmplnfiabmalaaGreat
open Go.Sim
set_option maxRecDepth 100000
set_option maxHeartbeats 8000000
theorem ite_q {p:Prop}[Decidable p](Q:CS→Prop){a b:CS}(ha:Q a)(hb:Q b):Q (if p then a else b):=by split <;> assumption
theorem cPerf_ok {es:List Int}{c:CS}{x:TOp}(h:c.ok):(cPerf es c x).ok:=by
 unfold cPerf
 refine ite_q (CS.ok) (by
  exact cPush_ok h) ?_
 refine ite_q (CS.ok) (by
  exact cLoad_ok h) ?_
 refine ite_q (CS.ok) (by
  exact cLoad_ok h) ?_
 refine ite_q (CS.ok) (by
  exact cStore_ok h) ?_
 refine ite_q (CS.ok) (by
  exact cStore_ok h) ?_
 refine ite_q (CS.ok) (by
  exact cPush_ok (cPop_ok (cPop_ok h))) ?_
 refine ite_q (CS.ok) (by
  exact h) ?_
 refine ite_q (CS.ok) (by
  unfold cZero;split
  ·exact cPop_ok h
  ·exact cPop_ok h) ?_
 refine ite_q (CS.ok) (by
  unfold cGoto;split
  ·exact cPush_ok h
  ·exact cPush_ok h) ?_
 refine ite_q (CS.ok) (by
  exact cZeros_ok (cPush_ok h)) ?_
 refine ite_q (CS.ok) (by
  exact cZeros_ok h) ?_
 refine ite_q (CS.ok) (by
  exact cPush_ok (cDrop_ok (cPop_ok (cPop_ok (cPop_ok h))))) ?_
 refine ite_q (CS.ok) (by
  exact cPush_ok (cDrop_ok (cPop_ok (cDrop_ok (cPop_ok h))))) ?_
 refine ite_q (CS.ok) (by
  exact cPop_ok h) ?_
 exact h
def MW (m:TMachine):Prop:=(∀w∈m.fStack,inI w)∧inI m.fPc∧inI m.fFp
theorem wr_in (n:Int):inI (wr n):=by
 have e:wr n=if n % 18446744073709551616≥9223372036854775808 then n % 18446744073709551616 - 18446744073709551616 else n % 18446744073709551616:=by simp[wr,IntKind.wrap,IntKind.bits,IntKind.signed]
 unfold inI
 rw[e]
 split <;> omega
theorem in_zero:inI 0:=by unfold inI;omega
theorem wordAt_in {m:TMachine}(h:MW m)(a:Int):inI (wordAt m a):=by
 unfold wordAt
 split
 ·rename_i x hx;exact h.1 _ (List.mem_of_getElem? hx)
 ·exact in_zero
theorem setAt_in {m:TMachine}(h:MW m){a v:Int}(hv:inI v):MW (setAt m a v):=by
 refine⟨fun w hw=>?_,h.2⟩
 rcases List.mem_or_eq_of_mem_set hw with h1|h1
 ·exact h.1 w h1
 ·rw[h1];exact hv
theorem cPush_in {c:CS}(h:MW c.m){v:Int}(hv:inI v):MW (cPush c v).m:=by
 unfold cPush
 split
 ·exact h
 ·exact⟨(setAt_in h hv).1,h.2⟩
theorem cPop_in {c:CS}(h:MW c.m):MW (cPop c).m:=by
 unfold cPop
 split
 ·exact h
 ·exact h
theorem cTop_in {c:CS}(h:MW c.m):inI (cTop c):=by
 unfold cTop
 split
 ·exact in_zero
 ·exact wordAt_in h _
theorem cDrop_in:∀{n:Nat} {c:CS},MW c.m→MW (cDrop n c).m
 | 0,_,h=>h
 | n+1,_,h=>cDrop_in (n:=n) (cPop_in h)
theorem cZeros_in:∀{n:Nat} {c:CS},MW c.m→MW (cZeros n c).m
 | 0,_,h=>h
 | n+1,_,h=>cZeros_in (n:=n) (cPush_in h in_zero)
theorem cLoad_in {c:CS}{a:Int}(h:MW c.m):MW (cLoad c a).m:=by
 unfold cLoad
 split
 ·exact h
 ·exact cPush_in (c:=⟨c.m,false⟩) h (wordAt_in h a)
theorem cStore_in {c:CS}{a:Int}(h:MW c.m):MW (cStore c a).m:=by
 have:=cPop_in h
 unfold cStore
 split
 ·exact this
 ·exact setAt_in this (cTop_in h)
theorem w32_in (n:Int):inI (w32 n):=by have:=w32_range n;unfold inI;omega
theorem applyP_in (k a b:Int):inI (applyP k a b):=by
 unfold applyP
 repeat' split
 ·exact w32_in _
 ·exact w32_in _
 ·exact w32_in _
 ·unfold inI;omega
 ·exact in_zero
theorem cFp_in {c:CS}(h:MW c.m):MW (cFp c).m:=⟨(cPop_in h).1,(cPop_in h).2.1,cTop_in h⟩
theorem cPc_in {c:CS}(h:MW c.m):MW (cPc c).m:=⟨(cPop_in h).1,cTop_in h,(cPop_in h).2.2⟩
theorem cCut_in {c:CS}(h:MW c.m):MW (cCut c).m:=h
theorem cJump_in {c:CS}(h:MW c.m)(a:Int):MW (cJump c a).m:=⟨h.1,wr_in _,h.2.2⟩
theorem cPush_sp_in {c:CS}(h:MW c.m)(hs:inI c.m.fSp)(v:Int):inI (cPush c v).m.fSp:=by
 unfold cPush
 split
 ·exact hs
 ·exact wr_in _
theorem cPerf_in {es:List Int}{c:CS}{x:TOp}(h:MW c.m)(hs:inI c.m.fSp)(ha:inI x.fArg)(he:∀e∈es,inI e):MW (cPerf es c x).m:=by
 unfold cPerf
 refine ite_q (fun c=>MW c.m) (by
  exact cPush_in h ha) ?_
 refine ite_q (fun c=>MW c.m) (by
  exact cLoad_in h) ?_
 refine ite_q (fun c=>MW c.m) (by
  exact cLoad_in h) ?_
 refine ite_q (fun c=>MW c.m) (by
  exact cStore_in h) ?_
 refine ite_q (fun c=>MW c.m) (by
  exact cStore_in h) ?_
 refine ite_q (fun c=>MW c.m) (by
  exact cPush_in (cPop_in (cPop_in h)) (applyP_in _ _ _)) ?_
 refine ite_q (fun c=>MW c.m) (by
  exact cJump_in h _) ?_
 refine ite_q (fun c=>MW c.m) (by
  unfold cZero;split
  ·exact cJump_in (cPop_in h) _
  ·exact cPop_in h) ?_
 refine ite_q (fun c=>MW c.m) (by
  have hp:=cPush_in h h.2.1
  unfold cGoto;split
  ·rename_i e hee
   exact⟨hp.1,he _ (List.mem_of_getElem? hee),hp.2.2⟩
  ·exact hp) ?_
 refine ite_q (fun c=>MW c.m) (by
  have hp:=cPush_in h h.2.2
  exact cZeros_in (c:=⟨{(cPush c c.m.fFp).m with fFp:=(cPush c c.m.fFp).m.fSp},(cPush c c.m.fFp).bad⟩) ⟨hp.1,hp.2.1,cPush_sp_in h hs _⟩) ?_
 refine ite_q (fun c=>MW c.m) (by
  exact cZeros_in h) ?_
 refine ite_q (fun c=>MW c.m) (by
  exact cPush_in (cDrop_in (cPc_in (cFp_in (cCut_in (cPop_in h))))) (cTop_in h)) ?_
 refine ite_q (fun c=>MW c.m) (by
  exact cPush_in (cDrop_in (cPc_in (cDrop_in (cPop_in h)))) (cTop_in h)) ?_
 refine ite_q (fun c=>MW c.m) (by
  exact cPop_in h) ?_
 exact h
theorem cPush_out {c:CS}{v:Int}:(cPush c v).m.fOut=c.m.fOut:=by unfold cPush;split <;> rfl
theorem cPop_out' {c:CS}:(cPop c).m.fOut=c.m.fOut:=by unfold cPop;split <;> rfl
theorem cDrop_out:∀{n:Nat} {c:CS},(cDrop n c).m.fOut=c.m.fOut
 | 0,_=>rfl
 | n+1,c=>by rw[cDrop,cDrop_out (n:=n),cPop_out']
theorem cZeros_out:∀{n:Nat} {c:CS},(cZeros n c).m.fOut=c.m.fOut
 | 0,_=>rfl
 | n+1,c=>by rw[cZeros,cZeros_out (n:=n),cPush_out]
theorem cLoad_out {c:CS}{a:Int}:(cLoad c a).m.fOut=c.m.fOut:=by
 unfold cLoad
 split
 ·rfl
 ·exact cPush_out
theorem cStore_out {c:CS}{a:Int}:(cStore c a).m.fOut=c.m.fOut:=by
 unfold cStore
 split
 ·exact cPop_out'
 ·exact cPop_out'
theorem cPerf_out {es:List Int}{c:CS}{x:TOp}:(cPerf es c x).m.fOut.length≤c.m.fOut.length+1:=by
 have key:∀l:List Int,l=c.m.fOut→l.length≤c.m.fOut.length+1:=fun l h=>by rw[h];omega
 unfold cPerf
 refine ite_q (fun d=>d.m.fOut.length≤c.m.fOut.length+1) (by
  exact key _ cPush_out) ?_
 refine ite_q (fun d=>d.m.fOut.length≤c.m.fOut.length+1) (by
  exact key _ cLoad_out) ?_
 refine ite_q (fun d=>d.m.fOut.length≤c.m.fOut.length+1) (by
  exact key _ cLoad_out) ?_
 refine ite_q (fun d=>d.m.fOut.length≤c.m.fOut.length+1) (by
  exact key _ cStore_out) ?_
 refine ite_q (fun d=>d.m.fOut.length≤c.m.fOut.length+1) (by
  exact key _ cStore_out) ?_
 refine ite_q (fun d=>d.m.fOut.length≤c.m.fOut.length+1) (by
  exact key _ (by rw[cArith,cPush_out,cPop_out',cPop_out'])) ?_
 refine ite_q (fun d=>d.m.fOut.length≤c.m.fOut.length+1) (by
  exact key _ rfl) ?_
 refine ite_q (fun d=>d.m.fOut.length≤c.m.fOut.length+1) (by
  refine key _ ?_;unfold cZero;split
  ·exact cPop_out'
  ·exact cPop_out') ?_
 refine ite_q (fun d=>d.m.fOut.length≤c.m.fOut.length+1) (by
  refine key _ ?_;unfold cGoto;split
  ·exact cPush_out
  ·exact cPush_out) ?_
 refine ite_q (fun d=>d.m.fOut.length≤c.m.fOut.length+1) (by
  refine key _ ?_;rw[cEnter,cZeros_out];exact cPush_out) ?_
 refine ite_q (fun d=>d.m.fOut.length≤c.m.fOut.length+1) (by
  exact key _ cZeros_out) ?_
 refine ite_q (fun d=>d.m.fOut.length≤c.m.fOut.length+1) (by
  refine key _ ?_
  rw[cLeave,cPush_out,cDrop_out]
  exact cPop_out'.trans (cPop_out'.trans cPop_out')) ?_
 refine ite_q (fun d=>d.m.fOut.length≤c.m.fOut.length+1) (by
  refine key _ ?_
  rw[cReturn,cPush_out,cDrop_out]
  exact cPop_out'.trans (cDrop_out.trans cPop_out')) ?_
 refine ite_q (fun d=>d.m.fOut.length≤c.m.fOut.length+1) (by
  show((cPop c).m.fOut++[cTop c]).length≤_
  rw[List.length_append,cPop_out']
  simp) ?_
 omega
def fetchP (s:TSpace)(a:Int):Option (TOp×Nat):=if(locS s a).1 < 0 then none else match s.fImages[(locS s a).1.toNat]? with
 | some im=>decodeOp im.fCode (locS s a).2
 | none=>none
def endM (c:CS):Option TMachine:=if c.bad=true then none else if c.m.fPc=0 then(if inStk c.m.fSp=true then some {c.m with fState:=1,fValue:=wordAt c.m c.m.fSp} else none)else some c.m
def stepP (s:TSpace)(m:TMachine):Option TMachine:=match fetchP s m.fPc with
 | none=>none
 | some x=>endM (cPerf s.fEntries (adv ⟨m,false⟩ x.2) x.1)
def stepQ (s:TSpace)(m:TMachine):Option TMachine:=match fetchP s m.fPc with
 | none=>none
 | some x=>endM (qPerf s.fEntries (adv ⟨m,false⟩ x.2) x.1)
theorem fetchP_arg {s:TSpace}{a:Int}{x:TOp×Nat}(h:fetchP s a=some x):∃(t:List UInt8) (p:Int),decodeOp t p=some x:=by
 unfold fetchP at h
 split at h
 ·cases h
 ·split at h
  ·exact⟨_,_,h⟩
  ·cases h
theorem endM_rel {c d:CS}(h:Rel c d):endM c=endM d:=by
 obtain⟨h1,h2⟩:=h
 cases hb:c.bad with
 | true=>rw[endM,endM,if_pos hb,if_pos (h1 ▸ hb)]
 | false=>
  obtain⟨h3,_⟩:=h2 hb
  obtain⟨m,b⟩:=c
  obtain⟨m',b'⟩:=d
  dsimp only at *
  subst h3;subst h1
  rfl
theorem step_eq {s:TSpace}{m:TMachine}(hsp:0≤m.fSp∧m.fSp≤1200)(hfp:inI m.fFp):stepP s m=stepQ s m:=by
 unfold stepP stepQ
 cases h:fetchP s m.fPc with
 | none=>rfl
 | some x=>
  obtain⟨t,p,hd⟩:=fetchP_arg h
  obtain⟨x,z⟩:=x
  obtain⟨c0,c1,c2,_⟩:=decodeOp_arg hd
  exact endM_rel (rel_perf s.fEntries {m with fPc:=wr (m.fPc+z)} x hsp hfp c0 c1 c2)
def badM (m:TMachine):TMachine:={m with fState:=2}
def mV (m:TMachine)(st out:Sim.Id):AV:= .r (.agg [.t (.int .i64 m.fPc),.t (.int .i64 m.fSp),.t (.int .i64 m.fFp),.own st,.own out,.t (.int .i64 m.fState),.t (.int .i64 m.fValue)])
theorem get2_imgs {i0 i1:TImage}{i:Nat}(hi:i < 2)(h0:i0.fCode.length≤1000000)(h1:i1.fCode.length≤1000000):∃im:TImage,[i0,i1][i]?=some im∧([i0.tr,i1.tr]:List (List Tr))[i]?=some im.tr∧im.fCode.length≤1000000:=by
 match i,hi with
 | 0,_=>exact⟨i0,rfl,rfl,h0⟩
 | 1,_=>exact⟨i1,rfl,rfl,h1⟩
theorem loc2_off {i0 i1:TImage}{b0 b1 a:Int}(h0:i0.fCode.length≤1000000)(h1:i1.fCode.length≤1000000):(loc2 i0 i1 b0 b1 a).2≤1000000:=by
 unfold loc2
 split
 ·dsimp only;omega
 ·split <;> dsimp only <;> omega
def stVT (m:TMachine):Option TMachine→AV
 | none=> .r (.agg ((badM m).tr.map .t))
 | some m'=>mV m' (1,0,0) (1,0,1)
def stHT (m:TMachine):Option TMachine→List (Sim.Id×AO)
 | none=>[]
 | some m'=>[((1,0,0),.arr false 1 (m'.fStack.map intRow)),((1,0,1),.arr false 1 (m'.fOut.map intRow))]
theorem g_impl_stepT_same (s:TSpace)(m:TMachine)(h0:m.fState≠0):SpecG Tryz.prog 93 [.r (.agg (s.tr.map .t)),.r (.agg (m.tr.map .t))] [] (.r (.agg (m.tr.map .t))) []:=by
 refine specG_of_W hΓ hmix Tryz.func93 rfl (by decide) rfl rfl ?_
 repeat' ((conv=>whnf);first|refine seq_inl ?_|apply reg_inl|apply oi|(apply fi<;>intro h)|refine⟨_,rfl,?_⟩|((with_reducible show _=_);rfl))
 all_goals try((with_reducible refine Obl.mk ?_);exact KO)
 all_goals try(exfalso;exact h0 (by simpa using h))
theorem g_impl_stepT (s:TSpace)(m:TMachine)(hok:spaceOk s=true)(hm:m.fStack.length=1200)(ho:m.fOut.length≤2000000)(h0:m.fState=0)(r:Option TMachine)(hr:stepP s m=r):SpecG Tryz.prog 93 [.r (.agg (s.tr.map .t)),.r (.agg (m.tr.map .t))] [] (stVT m r) (stHT m r):=by
 obtain⟨i0,i1,b0,b1,hsh,⟨e1,e2⟩,⟨g0,p0,p1⟩,⟨g1,q0,q1⟩,_,_⟩:=spaceOk_inv hok
 have l0:=(imageOk_iff.1 g0).1
 have l1:=(imageOk_iff.1 g1).1
 have hL:=s_impl_locate i0 i1 b0 b1 m.fPc s.fEntries (by omega) (by omega) (by omega) (by omega)
 obtain⟨im,bs,es⟩:=s
 dsimp only at hsh hL e2
 injection hsh with h1 h2
 subst h1
 subst h2
 refine specG_of_W hΓ hmix Tryz.func93 rfl (by decide) rfl rfl ?_
 have hloc:locS ⟨[i0,i1],[b0,b1],es⟩ m.fPc=loc2 i0 i1 b0 b1 m.fPc:=rfl
 rcases loc2_cases i0 i1 b0 b1 m.fPc with hx|⟨i,off,hi,hx⟩
 ·rw[hx]at hL
  have:r=none:=by rw[←hr,stepP,fetchP,hloc,hx];rfl
  subst this
  repeat' ((conv=>whnf);first|refine seq_inl ?_|apply reg_inl|apply oi|(apply fi<;>intro h)|refine cl hL ?_|refine⟨_,rfl,?_⟩|((with_reducible show _=_);rfl))
  all_goals try((with_reducible refine Obl.mk ?_);exact KO)
  all_goals try(exfalso;simp[h0]at h;done)
 ·have hoff:=loc2_off (b0:=b0) (b1:=b1) (a:=m.fPc) l0 l1
  rw[hx]at hL hoff
  dsimp only at hoff
  obtain⟨im,hi1,hi2,hil⟩:=get2_imgs hi l0 l1
  have hD:=s_impl_DecodeOp im.fCode off (by omega) (by omega)
  have hf:fetchP ⟨[i0,i1],[b0,b1],es⟩ m.fPc=decodeOp im.fCode off:=by
   rw[fetchP,hloc,hx]
   dsimp only
   rw[if_neg (by omega),Int.toNat_natCast,hi1]
  cases hd:decodeOp im.fCode off with
  | none=>
   rw[hd]at hD hf
   have:r=none:=by rw[←hr,stepP,hf]
   subst this
   repeat' ((conv=>whnf);first|refine seq_inl ?_|apply reg_inl|apply oi|(apply fi<;>intro h)|refine cl hL ?_|refine⟨i,im.tr,rfl,hi2,?_⟩|refine cl hD ?_|refine⟨_,rfl,?_⟩|((with_reducible show _=_);rfl))
   all_goals try((with_reducible refine Obl.mk ?_);exact KO)
   all_goals try(exfalso;simp[h0]at h;done)
   all_goals try(exfalso;have h':=of_decide_eq_true h;omega)
  | some xz=>
   obtain⟨x,z⟩:=xz
   rw[hd]at hD hf
   obtain⟨c0,c1,_,z5⟩:=decodeOp_arg hd
   have hC:=s_impl_copyMachine m (by omega) ho
   have hr2:endM (cPerf es (adv ⟨m,false⟩ z) x)=r:=by rw[←hr,stepP,hf]
   by_cases h17:x.fCode=17
   ·have hxx:x=⟨17,x.fArg⟩:=by rw[←h17]
    have hP:=g_core_out ⟨[i0,i1],[b0,b1],es⟩ (adv ⟨m,false⟩ z) x.fArg hm ho
    rw[←hxx]at hP
    have hcc:cPerf es (adv ⟨m,false⟩ z) x=cOut (adv ⟨m,false⟩ z):=by rw[hxx];simp[cPerf]
    rw[hcc]at hr2
    have hco:(cOut (adv ⟨m,false⟩ z)).ok:=cPop_ok (c:=adv ⟨m,false⟩ z) hm
    generalize cOut (adv ⟨m,false⟩ z)=c at *
    have hA:=g_core_at ⟨{c.m with fState:=1},c.bad⟩ c.m.fSp
    obtain⟨cm,cb⟩:=c
    unfold cAt at hA
    dsimp only at hA
    cases cb with
    | true=>
     have:r=none:=by rw[←hr2];rfl
     subst this
     repeat' ((conv=>whnf);first|refine cg hP ?_|refine seq_inl ?_|apply reg_inl|apply oi|(apply fi<;>intro h)|refine cl hL ?_|refine⟨i,im.tr,rfl,hi2,?_⟩|refine cl hD ?_|refine cl hC ?_|refine⟨_,rfl,?_⟩|((with_reducible show _=_);rfl))
     all_goals try((with_reducible refine Obl.mk ?_);exact KO)
     all_goals try(exfalso;simp[h0]at h;done)
     all_goals try(exfalso;have h':=of_decide_eq_true h;omega)
    | false=>
     by_cases hpc:cm.fPc=0
     ·cases hin:inStk cm.fSp with
      | false=>
       rw[hin]at hA
       have:r=none:=by rw[←hr2];simp[endM,hpc,hin]
       subst this
       repeat' ((conv=>whnf);first|refine cg hP ?_|refine cg hA ?_|refine seq_inl ?_|apply reg_inl|apply oi|(apply fi<;>intro h)|refine cl hL ?_|refine⟨i,im.tr,rfl,hi2,?_⟩|refine cl hD ?_|refine cl hC ?_|refine⟨_,rfl,?_⟩|((with_reducible show _=_);rfl))
       all_goals try((with_reducible refine Obl.mk ?_);exact KO)
       all_goals try(exfalso;simp[h0]at h;done)
       all_goals try(exfalso;simp[hpc]at h;done)
       all_goals try(exfalso;have h':=of_decide_eq_true h;omega)
      | true=>
       rw[hin]at hA
       obtain⟨j,v,hj,hv,hlt,_⟩:=stk_at hco hin
       have hlen:(cm.fStack.map intRow).length=cm.fStack.length:=by simp
       have hin':inStk (j:Int)=true:=hj ▸ hin
       have:r=some {cm with fState:=1,fValue:=v}:=by rw[←hr2];simp[endM,hpc,hin',wordAt,hj,hv]
       subst this
       repeat' ((conv=>whnf);first|refine cg hP ?_|refine cg hA ?_|refine seq_inl ?_|apply reg_inl|apply oi|(apply fi<;>intro h)|refine cl hL ?_|refine⟨i,im.tr,rfl,hi2,?_⟩|refine cl hD ?_|refine cl hC ?_|refine⟨_,rfl,?_⟩|((with_reducible show _=_);rfl))
       all_goals try((with_reducible refine Obl.mk ?_);exact KO)
       all_goals try(exfalso;simp[h0]at h;done)
       all_goals try(exfalso;simp[hpc]at h;done)
       all_goals try(exfalso;have h':=of_decide_eq_true h;omega)
       conv=>whnf
       refine⟨j,hj,by rw[hlen];exact hlt,?_⟩
       repeat' ((conv=>whnf);first|refine seq_inl ?_|apply reg_inl|apply oi|(apply fi<;>intro h)|refine⟨(intRow v),map_get hv,?_⟩|refine⟨_,rfl,?_⟩|((with_reducible show _=_);rfl))
       all_goals try((with_reducible refine Obl.mk ?_);exact KO)
     ·have:r=some cm:=by rw[←hr2];simp[endM,hpc]
      subst this
      repeat' ((conv=>whnf);first|refine cg hP ?_|refine seq_inl ?_|apply reg_inl|apply oi|(apply fi<;>intro h)|refine cl hL ?_|refine⟨i,im.tr,rfl,hi2,?_⟩|refine cl hD ?_|refine cl hC ?_|refine⟨_,rfl,?_⟩|((with_reducible show _=_);rfl))
      all_goals try((with_reducible refine Obl.mk ?_);exact KO)
      all_goals try(exfalso;simp[h0]at h;done)
      all_goals try(exfalso;simp[hpc]at h;done)
      all_goals try(exfalso;have h':=of_decide_eq_true h;omega)
   ·have hP:=g_core_perform ⟨[i0,i1],[b0,b1],es⟩ (adv ⟨m,false⟩ z) x hm h17 c1 (by dsimp only;omega)
    have hco:(cPerf es (adv ⟨m,false⟩ z) x).ok:=cPerf_ok hm
    dsimp only at hP
    generalize cPerf es (adv ⟨m,false⟩ z) x=c at *
    have hA:=g_core_at ⟨{c.m with fState:=1},c.bad⟩ c.m.fSp
    obtain⟨cm,cb⟩:=c
    unfold cAt at hA
    dsimp only at hA
    cases cb with
    | true=>
     have:r=none:=by rw[←hr2];rfl
     subst this
     repeat' ((conv=>whnf);first|refine cg hP ?_|refine seq_inl ?_|apply reg_inl|apply oi|(apply fi<;>intro h)|refine cl hL ?_|refine⟨i,im.tr,rfl,hi2,?_⟩|refine cl hD ?_|refine cl hC ?_|refine⟨_,rfl,?_⟩|((with_reducible show _=_);rfl))
     all_goals try((with_reducible refine Obl.mk ?_);exact KO)
     all_goals try(exfalso;simp[h0]at h;done)
     all_goals try(exfalso;have h':=of_decide_eq_true h;omega)
    | false=>
     by_cases hpc:cm.fPc=0
     ·cases hin:inStk cm.fSp with
      | false=>
       rw[hin]at hA
       have:r=none:=by rw[←hr2];simp[endM,hpc,hin]
       subst this
       repeat' ((conv=>whnf);first|refine cg hP ?_|refine cg hA ?_|refine seq_inl ?_|apply reg_inl|apply oi|(apply fi<;>intro h)|refine cl hL ?_|refine⟨i,im.tr,rfl,hi2,?_⟩|refine cl hD ?_|refine cl hC ?_|refine⟨_,rfl,?_⟩|((with_reducible show _=_);rfl))
       all_goals try((with_reducible refine Obl.mk ?_);exact KO)
       all_goals try(exfalso;simp[h0]at h;done)
       all_goals try(exfalso;simp[hpc]at h;done)
       all_goals try(exfalso;have h':=of_decide_eq_true h;omega)
      | true=>
       rw[hin]at hA
       obtain⟨j,v,hj,hv,hlt,_⟩:=stk_at hco hin
       have hlen:(cm.fStack.map intRow).length=cm.fStack.length:=by simp
       have hin':inStk (j:Int)=true:=hj ▸ hin
       have:r=some {cm with fState:=1,fValue:=v}:=by rw[←hr2];simp[endM,hpc,hin',wordAt,hj,hv]
       subst this
       repeat' ((conv=>whnf);first|refine cg hP ?_|refine cg hA ?_|refine seq_inl ?_|apply reg_inl|apply oi|(apply fi<;>intro h)|refine cl hL ?_|refine⟨i,im.tr,rfl,hi2,?_⟩|refine cl hD ?_|refine cl hC ?_|refine⟨_,rfl,?_⟩|((with_reducible show _=_);rfl))
       all_goals try((with_reducible refine Obl.mk ?_);exact KO)
       all_goals try(exfalso;simp[h0]at h;done)
       all_goals try(exfalso;simp[hpc]at h;done)
       all_goals try(exfalso;have h':=of_decide_eq_true h;omega)
       conv=>whnf
       refine⟨j,hj,by rw[hlen];exact hlt,?_⟩
       repeat' ((conv=>whnf);first|refine seq_inl ?_|apply reg_inl|apply oi|(apply fi<;>intro h)|refine⟨(intRow v),map_get hv,?_⟩|refine⟨_,rfl,?_⟩|((with_reducible show _=_);rfl))
       all_goals try((with_reducible refine Obl.mk ?_);exact KO)
     ·have:r=some cm:=by rw[←hr2];simp[endM,hpc]
      subst this
      repeat' ((conv=>whnf);first|refine cg hP ?_|refine seq_inl ?_|apply reg_inl|apply oi|(apply fi<;>intro h)|refine cl hL ?_|refine⟨i,im.tr,rfl,hi2,?_⟩|refine cl hD ?_|refine cl hC ?_|refine⟨_,rfl,?_⟩|((with_reducible show _=_);rfl))
      all_goals try((with_reducible refine Obl.mk ?_);exact KO)
      all_goals try(exfalso;simp[h0]at h;done)
      all_goals try(exfalso;simp[hpc]at h;done)
      all_goals try(exfalso;have h':=of_decide_eq_true h;omega)
end Go.Proofs.YtjmplnfiabmalaaGreat
namespace Go.Proofs.YtjmplnfiabmalaaGreat
open Go.Sim
set_option maxRecDepth 100000
set_option maxHeartbeats 8000000
theorem s_spec_l10Fetch (i0 i1:TImage)(b0 b1 a:Int)(es:List Int)(hb0:0≤b0∧b0≤1000000)(hb1:0≤b1∧b1≤1000000)(l0:i0.fCode.length≤1000000)(l1:i1.fCode.length≤1000000):Sim.Spec Tryz.prog 128 [.agg (TSpace.mk [i0,i1] [b0,b1] es).tr,tvI a] (rOp (fetchP ⟨[i0,i1],[b0,b1],es⟩ a)):=by
 have hL:=s_spec_l10Locate i0 i1 b0 b1 a es hb0 hb1 (by omega) (by omega)
 refine spec_of_W hΓ hmix Tryz.func128 rfl (by decide) rfl ?_
 have hloc:locS ⟨[i0,i1],[b0,b1],es⟩ a=loc2 i0 i1 b0 b1 a:=rfl
 rcases loc2_cases i0 i1 b0 b1 a with hx|⟨i,off,hi,hx⟩
 ·rw[hx]at hL
  have hf:fetchP ⟨[i0,i1],[b0,b1],es⟩ a=none:=by rw[fetchP,hloc,hx];rfl
  rw[hf]
  repeat' ((conv=>whnf);first|refine Or.inl ?_|apply oi|(apply fi<;>intro h)|refine ci hL (ai (ai rfl (ai rfl (ai rfl trivial))) (ai rfl trivial)) ?_|refine⟨_,rfl,?_⟩|((with_reducible show _=_);rfl))
  all_goals try((with_reducible refine Obl.mk ?_);exact KO)
  all_goals try(exfalso;simp at h;done)
 ·have hoff:=loc2_off (b0:=b0) (b1:=b1) (a:=a) l0 l1
  rw[hx]at hL hoff
  dsimp only at hoff
  obtain⟨im,hi1,hi2,hil⟩:=get2_imgs hi l0 l1
  have hD:=s_spec_DecodeOp im.fCode off (by omega) (by omega)
  have hf:fetchP ⟨[i0,i1],[b0,b1],es⟩ a=decodeOp im.fCode off:=by
   rw[fetchP,hloc,hx]
   dsimp only
   rw[if_neg (by omega),Int.toNat_natCast,hi1]
  rw[hf]
  repeat' ((conv=>whnf);first|refine Or.inl ?_|apply oi|(apply fi<;>intro h)|refine ci hL (ai (ai rfl (ai rfl (ai rfl trivial))) (ai rfl trivial)) ?_|refine⟨i,im.tr,rfl,hi2,?_⟩|refine ci hD (ai rfl (ai rfl trivial)) ?_|refine⟨_,rfl,?_⟩|((with_reducible show _=_);rfl))
  all_goals try((with_reducible refine Obl.mk ?_);exact KO)
  all_goals try(exfalso;have h':=of_decide_eq_true h;omega)
def stepR (m:TMachine):Option TMachine→TMachine
 | none=>badM m
 | some m'=>m'
theorem qPut_ok {c:CS}{a v:Int}(h:c.ok):(qPut c a v).ok:=by
 unfold qPut CS.ok at *
 split
 ·simpa [setAt]using h
 ·exact h
theorem qPerf_ok {es:List Int}{c:CS}{x:TOp}(h:c.ok):(qPerf es c x).ok:=by
 unfold qPerf
 refine ite_q (CS.ok) (qPush_ok h) ?_
 refine ite_q (CS.ok) (qPush_ok (cAt_ok h)) ?_
 refine ite_q (CS.ok) (qPush_ok (cAt_ok h)) ?_
 refine ite_q (CS.ok) (qPut_ok (cPop_ok h)) ?_
 refine ite_q (CS.ok) (qPut_ok (cPop_ok h)) ?_
 refine ite_q (CS.ok) h ?_
 refine ite_q (CS.ok) (by unfold qZero;split <;> exact cPop_ok h) ?_
 refine ite_q (CS.ok) (by
              unfold qGoto;split;· exact qPush_ok h
              ·exact h) ?_
 refine ite_q (CS.ok) (qZeros_ok (qPush_ok h)) ?_
 refine ite_q (CS.ok) (qZeros_ok h) ?_
 refine ite_q (CS.ok) (by
              unfold qLeave;split;· exact qPush_ok (cDrop_ok (cPop_ok (cPop_ok (cPop_ok h))))
              ·exact cPop_ok h) ?_
 refine ite_q (CS.ok) (qPush_ok (cDrop_ok (cPop_ok (cDrop_ok (cPop_ok h))))) ?_
 refine ite_q (CS.ok) (cPop_ok h) ?_
 exact qPush_ok (cPop_ok (cPop_ok h))
theorem s_spec_l11Step (s:TSpace)(m:TMachine)(hok:spaceOk s=true)(hm:m.fStack.length=1200)(ho:m.fOut.length≤2000000):Sim.Spec Tryz.prog 97 [.agg s.tr,.agg m.tr] (.r (.agg ((stepR m (stepQ s m)).tr.map resC))):=by
 obtain⟨i0,i1,b0,b1,hsh,⟨e1,e2⟩,⟨g0,p0,p1⟩,⟨g1,q0,q1⟩,_,_⟩:=spaceOk_inv hok
 have l0:=(imageOk_iff.1 g0).1
 have l1:=(imageOk_iff.1 g1).1
 have hF:=s_spec_l10Fetch i0 i1 b0 b1 m.fPc s.fEntries (by omega) (by omega) l0 l1
 have hC:=s_spec_l11Copy m (by omega) ho
 obtain⟨im,bs,es⟩:=s
 dsimp only at hsh hF e2
 injection hsh with h1 h2
 subst h1
 subst h2
 refine spec_of_W hΓ hmix Tryz.func97 rfl (by decide) rfl ?_
 obtain⟨r,hr⟩:∃r,stepQ ⟨[i0,i1],[b0,b1],es⟩ m=r:=⟨_,rfl⟩
 rw[hr]
 cases hf:fetchP ⟨[i0,i1],[b0,b1],es⟩ m.fPc with
 | none=>
  rw[hf]at hF
  have:r=none:=by rw[←hr,stepQ,hf]
  subst this
  repeat' ((conv=>whnf);first|refine seq_inl ?_|apply reg_inl|apply oi|(apply fi<;>intro h)|refine cl hC ?_|refine cl hF ?_|refine⟨_,rfl,?_⟩|((with_reducible show _=_);rfl))
  all_goals try((with_reducible refine Obl.mk ?_);exact KO)
  all_goals exact⟨⟨rfl,flat_ints _⟩⟩
 | some xz=>
  obtain⟨x,z⟩:=xz
  rw[hf]at hF
  obtain⟨t,p,hd⟩:=fetchP_arg hf
  obtain⟨c0,c1,_,z5⟩:=decodeOp_arg hd
  have hr2:endM (qPerf es (adv ⟨m,false⟩ z) x)=r:=by rw[←hr,stepQ,hf]
  by_cases h17:x.fCode=17
  ·have hxx:x=⟨17,x.fArg⟩:=by rw[←h17]
   have hP:=g_cpu_out ⟨[i0,i1],[b0,b1],es⟩ ⟨m,false⟩ x.fArg z hm ho
   rw[←hxx]at hP
   have hcc:qPerf es (adv ⟨m,false⟩ z) x=qOut (adv ⟨m,false⟩ z):=by rw[hxx];simp[qPerf]
   rw[hcc]at hr2
   have hco:(qOut (adv ⟨m,false⟩ z)).ok:=cPop_ok (c:=adv ⟨m,false⟩ z) hm
   generalize qOut (adv ⟨m,false⟩ z)=c at *
   have hW:=g_cpu_word c c.m.fSp hco
   obtain⟨cm,cb⟩:=c
   unfold cAt at hW
   dsimp only at hW
   cases cb with
   | true=>
    have:r=none:=by rw[←hr2];rfl
    subst this
    repeat' ((conv=>whnf);first|refine cg hP ?_|refine seq_inl ?_|apply reg_inl|apply oi|(apply fi<;>intro h)|refine cl hC ?_|refine cl hF ?_|refine⟨_,rfl,?_⟩|((with_reducible show _=_);rfl))
    all_goals try((with_reducible refine Obl.mk ?_);exact KO)
    all_goals exact⟨⟨rfl,flat_ints _⟩⟩
   | false=>
    by_cases hpc:cm.fPc=0
    ·cases hin:inStk cm.fSp with
     | false=>
      rw[hin]at hW
      have:r=none:=by rw[←hr2];simp[endM,hpc,hin]
      subst this
      repeat' ((conv=>whnf);first|refine cg hP ?_|refine cg hW ?_|refine seq_inl ?_|apply reg_inl|apply oi|(apply fi<;>intro h)|refine cl hC ?_|refine cl hF ?_|refine⟨_,rfl,?_⟩|((with_reducible show _=_);rfl))
      all_goals try((with_reducible refine Obl.mk ?_);exact KO)
      all_goals try(exfalso;simp[hpc]at h;done)
      all_goals exact⟨⟨rfl,flat_ints _⟩⟩
     | true=>
      rw[hin]at hW
      have:r=some {cm with fState:=1,fValue:=qVal ⟨cm,false⟩ cm.fSp}:=by rw[←hr2];simp[endM,hpc,hin,qVal]
      subst this
      repeat' ((conv=>whnf);first|refine cg hP ?_|refine cg hW ?_|refine seq_inl ?_|apply reg_inl|apply oi|(apply fi<;>intro h)|refine cl hC ?_|refine cl hF ?_|refine⟨_,rfl,?_⟩|((with_reducible show _=_);rfl))
      all_goals try((with_reducible refine Obl.mk ?_);exact KO)
      all_goals try(exfalso;simp[hpc]at h;done)
      all_goals exact⟨⟨rfl,flat_ints _⟩⟩
    ·have:r=some cm:=by rw[←hr2];simp[endM,hpc]
     subst this
     repeat' ((conv=>whnf);first|refine cg hP ?_|refine seq_inl ?_|apply reg_inl|apply oi|(apply fi<;>intro h)|refine cl hC ?_|refine cl hF ?_|refine⟨_,rfl,?_⟩|((with_reducible show _=_);rfl))
     all_goals try((with_reducible refine Obl.mk ?_);exact KO)
     all_goals try(exfalso;simp[hpc]at h;done)
     all_goals exact⟨⟨rfl,flat_ints _⟩⟩
  ·have hP:=g_cpu_perform ⟨[i0,i1],[b0,b1],es⟩ ⟨m,false⟩ x z hm h17 c0 c1 (by dsimp only;omega)
   have hco:(qPerf es (adv ⟨m,false⟩ z) x).ok:=qPerf_ok hm
   dsimp only at hP
   generalize qPerf es (adv ⟨m,false⟩ z) x=c at *
   have hW:=g_cpu_word c c.m.fSp hco
   obtain⟨cm,cb⟩:=c
   unfold cAt at hW
   dsimp only at hW
   cases cb with
   | true=>
    have:r=none:=by rw[←hr2];rfl
    subst this
    repeat' ((conv=>whnf);first|refine cg hP ?_|refine seq_inl ?_|apply reg_inl|apply oi|(apply fi<;>intro h)|refine cl hC ?_|refine cl hF ?_|refine⟨_,rfl,?_⟩|((with_reducible show _=_);rfl))
    all_goals try((with_reducible refine Obl.mk ?_);exact KO)
    all_goals exact⟨⟨rfl,flat_ints _⟩⟩
   | false=>
    by_cases hpc:cm.fPc=0
    ·cases hin:inStk cm.fSp with
     | false=>
      rw[hin]at hW
      have:r=none:=by rw[←hr2];simp[endM,hpc,hin]
      subst this
      repeat' ((conv=>whnf);first|refine cg hP ?_|refine cg hW ?_|refine seq_inl ?_|apply reg_inl|apply oi|(apply fi<;>intro h)|refine cl hC ?_|refine cl hF ?_|refine⟨_,rfl,?_⟩|((with_reducible show _=_);rfl))
      all_goals try((with_reducible refine Obl.mk ?_);exact KO)
      all_goals try(exfalso;simp[hpc]at h;done)
      all_goals exact⟨⟨rfl,flat_ints _⟩⟩
     | true=>
      rw[hin]at hW
      have:r=some {cm with fState:=1,fValue:=qVal ⟨cm,false⟩ cm.fSp}:=by rw[←hr2];simp[endM,hpc,hin,qVal]
      subst this
      repeat' ((conv=>whnf);first|refine cg hP ?_|refine cg hW ?_|refine seq_inl ?_|apply reg_inl|apply oi|(apply fi<;>intro h)|refine cl hC ?_|refine cl hF ?_|refine⟨_,rfl,?_⟩|((with_reducible show _=_);rfl))
      all_goals try((with_reducible refine Obl.mk ?_);exact KO)
      all_goals try(exfalso;simp[hpc]at h;done)
      all_goals exact⟨⟨rfl,flat_ints _⟩⟩
    ·have:r=some cm:=by rw[←hr2];simp[endM,hpc]
     subst this
     repeat' ((conv=>whnf);first|refine cg hP ?_|refine seq_inl ?_|apply reg_inl|apply oi|(apply fi<;>intro h)|refine cl hC ?_|refine cl hF ?_|refine⟨_,rfl,?_⟩|((with_reducible show _=_);rfl))
     all_goals try((with_reducible refine Obl.mk ?_);exact KO)
     all_goals try(exfalso;simp[hpc]at h;done)
     all_goals exact⟨⟨rfl,flat_ints _⟩⟩
theorem endM_some {c:CS}{m':TMachine}(h:endM c=some m'):m'.fStack=c.m.fStack∧m'.fOut=c.m.fOut∧m'.fSp=c.m.fSp∧m'.fFp=c.m.fFp∧m'.fPc=c.m.fPc∧c.bad=false:=by
 unfold endM at h
 split at h
 ·cases h
 ·rename_i hb
  have hb':c.bad=false:=by simpa using hb
  split at h
  ·split at h
   ·injection h with h;subst h;exact⟨rfl,rfl,rfl,rfl,rfl,hb'⟩
   ·cases h
  ·injection h with h;subst h;exact⟨rfl,rfl,rfl,rfl,rfl,hb'⟩
theorem stepP_some {s:TSpace}{m m':TMachine}(h:stepP s m=some m'):∃x,fetchP s m.fPc=some x∧endM (cPerf s.fEntries (adv ⟨m,false⟩ x.2) x.1)=some m':=by
 unfold stepP at h
 split at h
 ·cases h
 ·rename_i x hx;exact⟨x,hx,h⟩
theorem stepP_len {s:TSpace}{m:TMachine}(hm:m.fStack.length=1200):∀m',stepP s m=some m'→m'.fStack.length=1200:=by
 intro m' h
 obtain⟨x,_,h2⟩:=stepP_some h
 rw[(endM_some h2).1]
 exact cPerf_ok (c:=adv ⟨m,false⟩ x.2) hm
theorem stepP_out {s:TSpace}{m:TMachine}:∀m',stepP s m=some m'→m'.fOut.length≤m.fOut.length+1:=by
 intro m' h
 obtain⟨x,_,h2⟩:=stepP_some h
 rw[(endM_some h2).2.1]
 exact cPerf_out (c:=adv ⟨m,false⟩ x.2)
def stepMach (s:TSpace)(m:TMachine):TMachine:=if spaceOk s=true∧machineOk m=true∧m.fState=0 then stepR m (stepP s m)else m
theorem machineOk_iffL {m:TMachine}:machineOk m=true↔m.fStack.length=1200∧(0≤m.fSp∧m.fSp≤1200)∧0≤m.fState∧m.fState≤2:=by
 rw[machineOk,Bool.and_eq_true,Bool.and_eq_true,within_iff,within_iff,beq_iff_eq]
 exact⟨fun h=>⟨h.1.1,h.1.2,h.2⟩,fun h=>⟨⟨h.1,h.2.1⟩,h.2.2⟩⟩
theorem mach_small {m:TMachine}(h:smallR 1048576 m.tr):m.fStack.length≤2000000∧m.fOut.length≤1048576:=by
 simp only[TMachine.tr,smallR]at h
 have h1:=small_nat h.2.2.2.1
 have h2:=small_nat h.2.2.2.2.1
 omega
theorem s_impl_StepMachine (s:TSpace)(m:TMachine)(hs:smallR 1048576 s.tr)(hms:smallR 1048576 m.tr):Sim.Spec Tryz.prog 25 [.agg s.tr,.agg m.tr] (.r (.agg ((stepMach s m).tr.map resC))):=by
 have hS:=s_impl_SpaceOk s hs
 have hM:=s_impl_MachineOk m
 obtain⟨k1,k2⟩:=mach_small hms
 have hC:=s_impl_copyMachine m k1 (by omega)
 refine spec_of_W hΓ hmix Tryz.func25 rfl (by decide) rfl ?_
 unfold stepMach
 cases h1:spaceOk s with
 | false=>
  rw[h1]at hS
  rw[if_neg (by simp)]
  repeat' ((conv=>whnf);first|refine Or.inl ?_|apply oi|(apply fi<;>intro h)|refine ci hS (ai (ai rfl (ai rfl (ai rfl trivial))) trivial) ?_|refine ci hM (ai (ai rfl (ai rfl (ai rfl (ai rfl (ai rfl (ai rfl (ai rfl trivial))))))) trivial) ?_|refine ci hC (ai (ai rfl (ai rfl (ai rfl (ai rfl (ai rfl (ai rfl (ai rfl trivial))))))) trivial) ?_|refine⟨_,rfl,?_⟩|((with_reducible show _=_);rfl))
  all_goals try((with_reducible refine Obl.mk ?_);exact KO)
  all_goals try(exfalso;simp at h;done)
 | true=>
  rw[h1]at hS
  cases h2:machineOk m with
  | false=>
   rw[h2]at hM
   rw[if_neg (by simp)]
   repeat' ((conv=>whnf);first|refine Or.inl ?_|apply oi|(apply fi<;>intro h)|refine ci hS (ai (ai rfl (ai rfl (ai rfl trivial))) trivial) ?_|refine ci hM (ai (ai rfl (ai rfl (ai rfl (ai rfl (ai rfl (ai rfl (ai rfl trivial))))))) trivial) ?_|refine ci hC (ai (ai rfl (ai rfl (ai rfl (ai rfl (ai rfl (ai rfl (ai rfl trivial))))))) trivial) ?_|refine⟨_,rfl,?_⟩|((with_reducible show _=_);rfl))
   all_goals try((with_reducible refine Obl.mk ?_);exact KO)
   all_goals try(exfalso;simp at h;done)
  | true=>
   rw[h2]at hM
   obtain⟨m1,m2,m3⟩:=machineOk_iffL.1 h2
   by_cases h0:m.fState=0
   ·have hT:=g_impl_stepT s m h1 m1 (by omega) h0 _ rfl
    have hlen:=stepP_len (s:=s) (m:=m) m1
    have hout:=stepP_out (s:=s) (m:=m)
    rw[if_pos ⟨rfl,rfl,h0⟩]
    cases hr:stepP s m with
    | none=>
     rw[hr]at hT
     have hB:=s_impl_copyMachine (badM m) k1 (by have:(badM m).fOut=m.fOut:=rfl;rw[this];omega)
     repeat' ((conv=>whnf);first|refine cg hT ?_|refine seq_inl ?_|apply reg_inl|apply oi|(apply fi<;>intro h)|refine cl hS ?_|refine cl hM ?_|refine cl hB ?_|refine⟨_,rfl,?_⟩|((with_reducible show _=_);rfl))
     all_goals try((with_reducible refine Obl.mk ?_);exact KO)
    | some m'=>
     rw[hr]at hT hlen hout
     have hB:=s_impl_copyMachine m' (by have:=hlen m' rfl;omega) (by have:=hout m' rfl;omega)
     repeat' ((conv=>whnf);first|refine cg hT ?_|refine seq_inl ?_|apply reg_inl|apply oi|(apply fi<;>intro h)|refine cl hS ?_|refine cl hM ?_|refine cl hB ?_|refine⟨_,rfl,?_⟩|((with_reducible show _=_);rfl))
     all_goals try((with_reducible refine Obl.mk ?_);exact KO)
   ·rw[if_neg (by simp[h0])]
    have hT:=g_impl_stepT_same s m h0
    repeat' ((conv=>whnf);first|refine cg hT ?_|refine seq_inl ?_|apply reg_inl|apply oi|(apply fi<;>intro h)|refine cl hS ?_|refine cl hM ?_|refine cl hC ?_|refine⟨_,rfl,?_⟩|((with_reducible show _=_);rfl))
    all_goals try((with_reducible refine Obl.mk ?_);exact KO)
end Go.Proofs.YtjmplnfiabmalaaGreat
namespace Go.Proofs.YtjmplnfiabmalaaGreat
open Go.Sim
set_option maxRecDepth 100000
set_option maxHeartbeats 8000000
def runM (s:TSpace):Nat→TMachine→TMachine×Nat
 | 0,m=>(m,0)
 | k+1,m=>if m.fState=0 then((runM s k (stepR m (stepP s m))).1,(runM s k (stepR m (stepP s m))).2+1)else(m,0)
def runMach (s:TSpace)(m:TMachine)(l:Int):TMachine×Nat:=if spaceOk s=true∧machineOk m=true∧within l 0 20000=true then runM s l.toNat m else(m,0)
structure MInv (m:TMachine) (n:Nat):Prop where
 len:m.fStack.length=1200
 sp:0≤m.fSp∧m.fSp≤1200
 w:MW m
 out:m.fOut.length≤1048576+n
theorem argV_four {c:Int}{m:Nat}(h:opArg c=(4,true))(hm:m < 4294967296):inI (argV c m):=by
 unfold inI
 by_cases hb:2 ^ (8 * 4 - 1)≤m
 ·have e:argV c m=(m:Int) - 2 ^ (8 * 4):=argV_yes (n:=4) (by rw[h];rfl) (by rw[h]) hb
  rw[e]
  omega
 ·have e:argV c m=(m:Int):=argV_no (n:=4) (by rw[h];rfl) (fun hh=>hb hh.2)
  rw[e]
  omega
theorem decodeOp_argI {s:List UInt8}{p:Int}{x:TOp}{z:Nat}(h:decodeOp s p=some (x,z)):inI x.fArg:=by
 obtain⟨h0,h1,h2,_⟩:=decodeOp_arg h
 by_cases c1:12≤x.fCode∧x.fCode≤16
 ·have:=h1 c1.1 c1.2;unfold inI;omega
 by_cases c2:1≤x.fCode∧x.fCode≤11
 ·have:=h2 c2.1 c2.2;unfold inI;omega
 have c3:x.fCode=0∨x.fCode=17:=by omega
 unfold decodeOp at h
 split at h
 ·split at h
  ·cases h
  ·injection h with h
   injection h with h3 h4
   subst h3
   dsimp only at c3 ⊢
   rcases c3 with c3|c3
   ·rw[c3]
    have hl:=opArgN_lt s (p.toNat+1) 4
    exact argV_four (by decide) (by
                    have:(256:Nat) ^ 4=4294967296:=by decide
                    show opArgN s (p.toNat+1) 4 < 4294967296
                    omega)
   ·rw[c3]
    have hl:=opArgN_lt s (p.toNat+1) 0
    have hl:opArgN s (p.toNat+1) 0 < 1:=hl
    have e2:argV 17 (opArgN s (p.toNat+1) 0)=((opArgN s (p.toNat+1) 0:Nat):Int):=argV_no (n:=0) (by decide) (fun hh=>absurd hh.1 (by decide))
    show inI (argV 17 (opArgN s (p.toNat+1) 0))
    rw[e2]
    unfold inI
    omega
 ·cases h
theorem MInv.step {s:TSpace}{m:TMachine}{n:Nat}(h:MInv m n)(he:∀e∈s.fEntries,inI e):MInv (stepR m (stepP s m)) (n+1):=by
 obtain⟨h1,h2,h3,h4⟩:=h
 cases hr:stepP s m with
 | none=>exact⟨h1,h2,h3,by show m.fOut.length≤_;omega⟩
 | some m'=>
  obtain⟨x,hf,hx⟩:=stepP_some hr
  obtain⟨t,p,hd⟩:=fetchP_arg hf
  obtain⟨x,z⟩:=x
  obtain⟨c0,c1,c2,_⟩:=decodeOp_arg hd
  have ha:=decodeOp_argI hd
  obtain⟨e1,e2,e3,e4,e5,e6⟩:=endM_some hx
  have hrel:=rel_perf s.fEntries {m with fPc:=wr (m.fPc+z)} x h2 h3.2.2 c0 c1 c2
  have hsp:=(hrel.2 e6).2
  have hin:MW (cPerf s.fEntries (adv ⟨m,false⟩ z) x).m:=cPerf_in (c:=adv ⟨m,false⟩ z) ⟨h3.1,wr_in _,h3.2.2⟩ (by show inI m.fSp;unfold inI;omega) ha he
  refine⟨stepP_len h1 m' hr,?_,?_,?_⟩
  ·show 0≤m'.fSp∧m'.fSp≤1200
   rw[e3];exact hsp
  ·show MW m'
   refine⟨?_,?_,?_⟩
   ·rw[e1];exact hin.1
   ·rw[e5];exact hin.2.1
   ·rw[e4];exact hin.2.2
  ·have:=stepP_out m' hr
   show m'.fOut.length≤_
   omega
def stVO (m:TMachine):Option TMachine→AV
 | none=>mV (badM m) (0,0,0) (0,0,1)
 | some m'=>mV m' (1,0,0) (1,0,1)
def stHO (m:TMachine):Option TMachine→List (Sim.Id×AO)
 | none=>[((0,0,0),.arr false 1 (m.fStack.map intRow)),((0,0,1),.arr false 1 (m.fOut.map intRow))]
 | some m'=>([((0,0,0),.arr false 1 (m.fStack.map intRow)),((0,0,1),.arr false 1 (m.fOut.map intRow))]++[((1,0,0),.arr false 1 (m'.fStack.map intRow)),((1,0,1),.arr false 1 (m'.fOut.map intRow))])
theorem g_impl_stepO (s:TSpace)(m:TMachine)(hok:spaceOk s=true)(hm:m.fStack.length=1200)(ho:m.fOut.length≤2000000)(h0:m.fState=0)(r:Option TMachine)(hr:stepP s m=r):SpecG Tryz.prog 93 [.r (.agg (s.tr.map .t)),mV m (0,0,0) (0,0,1)] [((0,0,0),.arr false 1 (m.fStack.map intRow)),((0,0,1),.arr false 1 (m.fOut.map intRow))] (stVO m r) (stHO m r):=by
 obtain⟨i0,i1,b0,b1,hsh,⟨e1,e2⟩,⟨g0,p0,p1⟩,⟨g1,q0,q1⟩,_,_⟩:=spaceOk_inv hok
 have l0:=(imageOk_iff.1 g0).1
 have l1:=(imageOk_iff.1 g1).1
 have hL:=s_impl_locate i0 i1 b0 b1 m.fPc s.fEntries (by omega) (by omega) (by omega) (by omega)
 obtain⟨im,bs,es⟩:=s
 dsimp only at hsh hL e2
 injection hsh with h1 h2
 subst h1
 subst h2
 refine specG_of_W hΓ hmix Tryz.func93 rfl (by decide) rfl rfl ?_
 have hloc:locS ⟨[i0,i1],[b0,b1],es⟩ m.fPc=loc2 i0 i1 b0 b1 m.fPc:=rfl
 rcases loc2_cases i0 i1 b0 b1 m.fPc with hx|⟨i,off,hi,hx⟩
 ·rw[hx]at hL
  have:r=none:=by rw[←hr,stepP,fetchP,hloc,hx];rfl
  subst this
  repeat' ((conv=>whnf);first|refine seq_inl ?_|apply reg_inl|apply oi|(apply fi<;>intro h)|refine cl hL ?_|refine⟨_,rfl,?_⟩|((with_reducible show _=_);rfl))
  all_goals try((with_reducible refine Obl.mk ?_);exact KO)
  all_goals try(exfalso;simp[h0]at h;done)
 ·have hoff:=loc2_off (b0:=b0) (b1:=b1) (a:=m.fPc) l0 l1
  rw[hx]at hL hoff
  dsimp only at hoff
  obtain⟨im,hi1,hi2,hil⟩:=get2_imgs hi l0 l1
  have hD:=s_impl_DecodeOp im.fCode off (by omega) (by omega)
  have hf:fetchP ⟨[i0,i1],[b0,b1],es⟩ m.fPc=decodeOp im.fCode off:=by
   rw[fetchP,hloc,hx]
   dsimp only
   rw[if_neg (by omega),Int.toNat_natCast,hi1]
  cases hd:decodeOp im.fCode off with
  | none=>
   rw[hd]at hD hf
   have:r=none:=by rw[←hr,stepP,hf]
   subst this
   repeat' ((conv=>whnf);first|refine seq_inl ?_|apply reg_inl|apply oi|(apply fi<;>intro h)|refine cl hL ?_|refine⟨i,im.tr,rfl,hi2,?_⟩|refine cl hD ?_|refine⟨_,rfl,?_⟩|((with_reducible show _=_);rfl))
   all_goals try((with_reducible refine Obl.mk ?_);exact KO)
   all_goals try(exfalso;simp[h0]at h;done)
   all_goals try(exfalso;have h':=of_decide_eq_true h;omega)
  | some xz=>
   obtain⟨x,z⟩:=xz
   rw[hd]at hD hf
   obtain⟨c0,c1,_,z5⟩:=decodeOp_arg hd
   have hC:=s_impl_copyMachine m (by omega) ho
   have hr2:endM (cPerf es (adv ⟨m,false⟩ z) x)=r:=by rw[←hr,stepP,hf]
   by_cases h17:x.fCode=17
   ·have hxx:x=⟨17,x.fArg⟩:=by rw[←h17]
    have hP:=g_core_out ⟨[i0,i1],[b0,b1],es⟩ (adv ⟨m,false⟩ z) x.fArg hm ho
    rw[←hxx]at hP
    have hcc:cPerf es (adv ⟨m,false⟩ z) x=cOut (adv ⟨m,false⟩ z):=by rw[hxx];simp[cPerf]
    rw[hcc]at hr2
    have hco:(cOut (adv ⟨m,false⟩ z)).ok:=cPop_ok (c:=adv ⟨m,false⟩ z) hm
    generalize cOut (adv ⟨m,false⟩ z)=c at *
    have hA:=g_core_at ⟨{c.m with fState:=1},c.bad⟩ c.m.fSp
    obtain⟨cm,cb⟩:=c
    unfold cAt at hA
    dsimp only at hA
    cases cb with
    | true=>
     have:r=none:=by rw[←hr2];rfl
     subst this
     repeat' ((conv=>whnf);first|refine cg hP ?_|refine seq_inl ?_|apply reg_inl|apply oi|(apply fi<;>intro h)|refine cl hL ?_|refine⟨i,im.tr,rfl,hi2,?_⟩|refine cl hD ?_|refine cl hC ?_|refine⟨_,rfl,?_⟩|((with_reducible show _=_);rfl))
     all_goals try((with_reducible refine Obl.mk ?_);exact KO)
     all_goals try(exfalso;simp[h0]at h;done)
     all_goals try(exfalso;have h':=of_decide_eq_true h;omega)
    | false=>
     by_cases hpc:cm.fPc=0
     ·cases hin:inStk cm.fSp with
      | false=>
       rw[hin]at hA
       have:r=none:=by rw[←hr2];simp[endM,hpc,hin]
       subst this
       repeat' ((conv=>whnf);first|refine cg hP ?_|refine cg hA ?_|refine seq_inl ?_|apply reg_inl|apply oi|(apply fi<;>intro h)|refine cl hL ?_|refine⟨i,im.tr,rfl,hi2,?_⟩|refine cl hD ?_|refine cl hC ?_|refine⟨_,rfl,?_⟩|((with_reducible show _=_);rfl))
       all_goals try((with_reducible refine Obl.mk ?_);exact KO)
       all_goals try(exfalso;simp[h0]at h;done)
       all_goals try(exfalso;simp[hpc]at h;done)
       all_goals try(exfalso;have h':=of_decide_eq_true h;omega)
      | true=>
       rw[hin]at hA
       obtain⟨j,v,hj,hv,hlt,_⟩:=stk_at hco hin
       have hlen:(cm.fStack.map intRow).length=cm.fStack.length:=by simp
       have hin':inStk (j:Int)=true:=hj ▸ hin
       have:r=some {cm with fState:=1,fValue:=v}:=by rw[←hr2];simp[endM,hpc,hin',wordAt,hj,hv]
       subst this
       repeat' ((conv=>whnf);first|refine cg hP ?_|refine cg hA ?_|refine seq_inl ?_|apply reg_inl|apply oi|(apply fi<;>intro h)|refine cl hL ?_|refine⟨i,im.tr,rfl,hi2,?_⟩|refine cl hD ?_|refine cl hC ?_|refine⟨_,rfl,?_⟩|((with_reducible show _=_);rfl))
       all_goals try((with_reducible refine Obl.mk ?_);exact KO)
       all_goals try(exfalso;simp[h0]at h;done)
       all_goals try(exfalso;simp[hpc]at h;done)
       all_goals try(exfalso;have h':=of_decide_eq_true h;omega)
       conv=>whnf
       refine⟨j,hj,by rw[hlen];exact hlt,?_⟩
       repeat' ((conv=>whnf);first|refine seq_inl ?_|apply reg_inl|apply oi|(apply fi<;>intro h)|refine⟨(intRow v),map_get hv,?_⟩|refine⟨_,rfl,?_⟩|((with_reducible show _=_);rfl))
       all_goals try((with_reducible refine Obl.mk ?_);exact KO)
     ·have:r=some cm:=by rw[←hr2];simp[endM,hpc]
      subst this
      repeat' ((conv=>whnf);first|refine cg hP ?_|refine seq_inl ?_|apply reg_inl|apply oi|(apply fi<;>intro h)|refine cl hL ?_|refine⟨i,im.tr,rfl,hi2,?_⟩|refine cl hD ?_|refine cl hC ?_|refine⟨_,rfl,?_⟩|((with_reducible show _=_);rfl))
      all_goals try((with_reducible refine Obl.mk ?_);exact KO)
      all_goals try(exfalso;simp[h0]at h;done)
      all_goals try(exfalso;simp[hpc]at h;done)
      all_goals try(exfalso;have h':=of_decide_eq_true h;omega)
   ·have hP:=g_core_perform ⟨[i0,i1],[b0,b1],es⟩ (adv ⟨m,false⟩ z) x hm h17 c1 (by dsimp only;omega)
    have hco:(cPerf es (adv ⟨m,false⟩ z) x).ok:=cPerf_ok hm
    dsimp only at hP
    generalize cPerf es (adv ⟨m,false⟩ z) x=c at *
    have hA:=g_core_at ⟨{c.m with fState:=1},c.bad⟩ c.m.fSp
    obtain⟨cm,cb⟩:=c
    unfold cAt at hA
    dsimp only at hA
    cases cb with
    | true=>
     have:r=none:=by rw[←hr2];rfl
     subst this
     repeat' ((conv=>whnf);first|refine cg hP ?_|refine seq_inl ?_|apply reg_inl|apply oi|(apply fi<;>intro h)|refine cl hL ?_|refine⟨i,im.tr,rfl,hi2,?_⟩|refine cl hD ?_|refine cl hC ?_|refine⟨_,rfl,?_⟩|((with_reducible show _=_);rfl))
     all_goals try((with_reducible refine Obl.mk ?_);exact KO)
     all_goals try(exfalso;simp[h0]at h;done)
     all_goals try(exfalso;have h':=of_decide_eq_true h;omega)
    | false=>
     by_cases hpc:cm.fPc=0
     ·cases hin:inStk cm.fSp with
      | false=>
       rw[hin]at hA
       have:r=none:=by rw[←hr2];simp[endM,hpc,hin]
       subst this
       repeat' ((conv=>whnf);first|refine cg hP ?_|refine cg hA ?_|refine seq_inl ?_|apply reg_inl|apply oi|(apply fi<;>intro h)|refine cl hL ?_|refine⟨i,im.tr,rfl,hi2,?_⟩|refine cl hD ?_|refine cl hC ?_|refine⟨_,rfl,?_⟩|((with_reducible show _=_);rfl))
       all_goals try((with_reducible refine Obl.mk ?_);exact KO)
       all_goals try(exfalso;simp[h0]at h;done)
       all_goals try(exfalso;simp[hpc]at h;done)
       all_goals try(exfalso;have h':=of_decide_eq_true h;omega)
      | true=>
       rw[hin]at hA
       obtain⟨j,v,hj,hv,hlt,_⟩:=stk_at hco hin
       have hlen:(cm.fStack.map intRow).length=cm.fStack.length:=by simp
       have hin':inStk (j:Int)=true:=hj ▸ hin
       have:r=some {cm with fState:=1,fValue:=v}:=by rw[←hr2];simp[endM,hpc,hin',wordAt,hj,hv]
       subst this
       repeat' ((conv=>whnf);first|refine cg hP ?_|refine cg hA ?_|refine seq_inl ?_|apply reg_inl|apply oi|(apply fi<;>intro h)|refine cl hL ?_|refine⟨i,im.tr,rfl,hi2,?_⟩|refine cl hD ?_|refine cl hC ?_|refine⟨_,rfl,?_⟩|((with_reducible show _=_);rfl))
       all_goals try((with_reducible refine Obl.mk ?_);exact KO)
       all_goals try(exfalso;simp[h0]at h;done)
       all_goals try(exfalso;simp[hpc]at h;done)
       all_goals try(exfalso;have h':=of_decide_eq_true h;omega)
       conv=>whnf
       refine⟨j,hj,by rw[hlen];exact hlt,?_⟩
       repeat' ((conv=>whnf);first|refine seq_inl ?_|apply reg_inl|apply oi|(apply fi<;>intro h)|refine⟨(intRow v),map_get hv,?_⟩|refine⟨_,rfl,?_⟩|((with_reducible show _=_);rfl))
       all_goals try((with_reducible refine Obl.mk ?_);exact KO)
     ·have:r=some cm:=by rw[←hr2];simp[endM,hpc]
      subst this
      repeat' ((conv=>whnf);first|refine cg hP ?_|refine seq_inl ?_|apply reg_inl|apply oi|(apply fi<;>intro h)|refine cl hL ?_|refine⟨i,im.tr,rfl,hi2,?_⟩|refine cl hD ?_|refine cl hC ?_|refine⟨_,rfl,?_⟩|((with_reducible show _=_);rfl))
      all_goals try((with_reducible refine Obl.mk ?_);exact KO)
      all_goals try(exfalso;simp[h0]at h;done)
      all_goals try(exfalso;simp[hpc]at h;done)
      all_goals try(exfalso;have h':=of_decide_eq_true h;omega)
theorem runM_stop {s:TSpace}{k:Nat}{m:TMachine}(h:m.fState≠0∨k=0):runM s k m=(m,0):=by
 cases k with
 | zero=>rfl
 | succ k=>rw[runM,if_neg (by
                  rcases h with h|h;· exact h
                  ·cases h)]
theorem runM_go {s:TSpace}{k:Nat}{m:TMachine}(h:m.fState=0):runM s (k+1) m=((runM s k (stepR m (stepP s m))).1,(runM s k (stepR m (stepP s m))).2+1):=by rw[runM,if_pos h]
abbrev zBox:AO:= .box [.t (.int .i64 0),.t (.int .i64 0),.t (.int .i64 0),.nils 0,.nils 0,.t (.int .i64 0),.t (.int .i64 0)]
abbrev sBox (s:TSpace):AO:= .box (s.tr.map .t)
theorem s_impl_RunMachine (s:TSpace)(m:TMachine)(l:Int)(hs:smallR 1048576 s.tr)(hms:smallR 1048576 m.tr)(hw:MW m)(hsw:∀e∈s.fEntries,inI e):Sim.Spec Tryz.prog 24 [.agg s.tr,.agg m.tr,tvI l] (.tup [.agg ((runMach s m l).1.tr.map resC),.c (.t (.int .i64 ((runMach s m l).2:Int)))]):=by
 have hS:=s_impl_SpaceOk s hs
 have hM:=s_impl_MachineOk m
 have hB:=s_impl_between l 0 20000
 obtain⟨k1,k2⟩:=mach_small hms
 have hC:=s_impl_copyMachine m k1 (by omega)
 refine spec_of_W hΓ hmix Tryz.func24 rfl (by decide) rfl ?_
 unfold runMach
 cases a1:spaceOk s with
 | false=>
  rw[a1]at hS
  rw[if_neg (by simp)]
  repeat' ((conv=>whnf);first|refine seq_inl ?_|apply reg_inl|apply oi|(apply fi<;>intro h)|refine cl hC ?_|refine cl hS ?_|refine cl hM ?_|refine cl hB ?_|refine⟨_,rfl,?_⟩|((with_reducible show _=_);rfl))
  all_goals try((with_reducible refine Obl.mk ?_);exact KO)
  all_goals try(exfalso;simp at h;done)
  all_goals exact⟨⟨rfl,flat_ints _⟩⟩
 | true=>
  rw[a1]at hS
  cases a2:machineOk m with
  | false=>
   rw[a2]at hM
   rw[if_neg (by simp)]
   repeat' ((conv=>whnf);first|refine seq_inl ?_|apply reg_inl|apply oi|(apply fi<;>intro h)|refine cl hC ?_|refine cl hS ?_|refine cl hM ?_|refine cl hB ?_|refine⟨_,rfl,?_⟩|((with_reducible show _=_);rfl))
   all_goals try((with_reducible refine Obl.mk ?_);exact KO)
   all_goals try(exfalso;simp at h;done)
   all_goals exact⟨⟨rfl,flat_ints _⟩⟩
  | true=>
   rw[a2]at hM
   cases a3:within l 0 20000 with
   | false=>
    rw[a3]at hB
    rw[if_neg (by simp)]
    repeat' ((conv=>whnf);first|refine seq_inl ?_|apply reg_inl|apply oi|(apply fi<;>intro h)|refine cl hC ?_|refine cl hS ?_|refine cl hM ?_|refine cl hB ?_|refine⟨_,rfl,?_⟩|((with_reducible show _=_);rfl))
    all_goals try((with_reducible refine Obl.mk ?_);exact KO)
    all_goals try(exfalso;simp at h;done)
    all_goals exact⟨⟨rfl,flat_ints _⟩⟩
   | true=>
    rw[a3]at hB
    rw[if_pos ⟨rfl,rfl,rfl⟩]
    have hl:=within_iff.1 a3
    obtain⟨L,rfl⟩:=Int.eq_ofNat_of_zero_le hl.1
    obtain⟨m1,m2,m3⟩:=machineOk_iffL.1 a2
    have hinv:MInv m 0:=⟨m1,m2,hw,by omega⟩
    have hen:∀e∈s.fEntries,inI e:=hsw
    rw[Int.toNat_natCast]
    obtain⟨R,hR⟩:∃R,runM s L m=R:=⟨_,rfl⟩
    rw[hR]
    repeat' ((conv=>whnf);first|refine seq_inl ?_|apply reg_inl|apply oi|(apply fi<;>intro h)|refine cl hC ?_|refine cl hS ?_|refine cl hM ?_|refine cl hB ?_|refine⟨_,rfl,?_⟩|((with_reducible show _=_);rfl))
    all_goals try((with_reducible refine Obl.mk ?_);exact KO)
    all_goals try(exfalso;simp at h;done)
    conv=>whnf
    refine⟨{q:Nat×TMachine // q.1≤L∧MInv q.2 q.1∧(runM s (L - q.1) q.2).1=R.1∧(runM s (L - q.1) q.2).2+q.1=R.2},fun q=>⟨[(2,tI .i64 (L:Int)),(3,.r (.c (.ptr (3,0,0) 0))),(6,.r (.c (.ptr (6,0,0) 0))),(7,tI .i64 0),(8,.r (.c (.ptr (8,0,0) 0))),(9,tI .i64 (q.1.1:Int))],
     [((3,0,0),some (sBox s)),((6,0,0),some zBox),((8,0,0),some (mBox q.1.2 (11,0,3) (11,0,4))),((11,0,3),some (.arr false 1 (q.1.2.fStack.map intRow))),((11,0,4),some (.arr false 1 (q.1.2.fOut.map intRow)))],[3,6,8,11]⟩,fun q=>L - q.1.1,⟨(0,m),by omega,hinv,by simp[hR],by simp[hR]⟩,?_,?_⟩
    ·skip
     repeat' ((conv=>whnf);first|refine seq_inl ?_|apply reg_inl|apply oi|(apply fi<;>intro h)|refine⟨_,rfl,?_⟩|((with_reducible show _=_);rfl))
     all_goals try((with_reducible refine Obl.mk ?_);exact KO)
    intro⟨⟨n,d⟩,q1,q2,q3,q4⟩
    dsimp only at q1 q2 q3 q4 ⊢
    by_cases hgo:d.fState=0∧n < L
    ·obtain⟨g1,g2⟩:=hgo
     obtain⟨j,hj⟩:∃j,L - n=j+1:=⟨L - n - 1,by omega⟩
     rw[hj,runM_go g1]at q3 q4
     dsimp only at q3 q4
     have hnx:=q2.step hen
     have hT:=g_impl_stepO s d a1 q2.len (by have:=q2.out;omega) g1 _ rfl
     cases hr:stepP s d with
     | none=>
      rw[hr]at hT hnx q3 q4
      repeat' ((conv=>whnf);first|refine cg hT ?_|refine seq_inl ?_|apply reg_inl|apply oi|(apply fi<;>intro h)|refine⟨_,rfl,?_⟩|((with_reducible show _=_);rfl))
      all_goals try((with_reducible refine Obl.mk ?_);exact KO)
      all_goals try(exfalso;simp[g1]at h;done)
      all_goals try(exfalso;have h':=of_decide_eq_false h;omega)
      conv=>whnf
      refine⟨⟨(n+1,badM d),by dsimp only;omega,hnx,by rw[show L - (n+1)=j by omega];exact q3,by rw[show L - (n+1)=j by omega];dsimp only[stepR]at q4 ⊢;omega⟩,?_,by dsimp only;omega⟩
      repeat' ((conv=>whnf);first|refine seq_inl ?_|apply reg_inl|apply oi|(apply fi<;>intro h)|refine⟨_,rfl,?_⟩|((with_reducible show _=_);rfl))
      all_goals try((with_reducible refine Obl.mk ?_);exact KO)
      all_goals try(refine⟨congrArg (Tr.int _) ?_⟩;dsimp only;rw[IntWalk.i64_in _ (by omega)];omega)
     | some d'=>
      rw[hr]at hT hnx q3 q4
      repeat' ((conv=>whnf);first|refine cg hT ?_|refine seq_inl ?_|apply reg_inl|apply oi|(apply fi<;>intro h)|refine⟨_,rfl,?_⟩|((with_reducible show _=_);rfl))
      all_goals try((with_reducible refine Obl.mk ?_);exact KO)
      all_goals try(exfalso;simp[g1]at h;done)
      all_goals try(exfalso;have h':=of_decide_eq_false h;omega)
      conv=>whnf
      refine⟨⟨(n+1,d'),by dsimp only;omega,hnx,by rw[show L - (n+1)=j by omega];exact q3,by rw[show L - (n+1)=j by omega];dsimp only[stepR]at q4 ⊢;omega⟩,?_,by dsimp only;omega⟩
      repeat' ((conv=>whnf);first|refine seq_inl ?_|apply reg_inl|apply oi|(apply fi<;>intro h)|refine⟨_,rfl,?_⟩|((with_reducible show _=_);rfl))
      all_goals try((with_reducible refine Obl.mk ?_);exact KO)
      all_goals try(refine⟨congrArg (Tr.int _) ?_⟩;dsimp only;rw[IntWalk.i64_in _ (by omega)];omega)
    ·have hst:runM s (L - n) d=(d,0):=runM_stop (by
                                by_cases h0:d.fState=0;· exact .inr (by have:=fun h=>hgo ⟨h0,h⟩;omega)
                                ·exact .inl h0)
     rw[hst]at q3 q4
     dsimp only at q3 q4
     have hD:=s_impl_copyMachine d (by have:=q2.len;omega) (by have:=q2.out;omega)
     obtain⟨R1,R2⟩:=R
     dsimp only at q3 q4
     subst q3;subst q4
     repeat' ((conv=>whnf);first|refine seq_inl ?_|apply reg_inl|apply oi|(apply fi<;>intro h)|refine cl hD ?_|refine⟨_,rfl,?_⟩|((with_reducible show _=_);rfl))
     all_goals try((with_reducible refine Obl.mk ?_);exact KO)
     all_goals try(exfalso;apply hgo;refine⟨by simpa using ‹(d.fState==0)=true›,?_⟩;have h':=of_decide_eq_true ‹decide ((n:Int) < (L:Int))=true›;omega)
     all_goals exact⟨congrArg (Tr.int _) (by dsimp only;omega)⟩
theorem s_spec_RunMachine (s:TSpace)(m:TMachine)(l:Int)(hs:smallR 1048576 s.tr)(hms:smallR 1048576 m.tr)(hw:MW m)(hsw:∀e∈s.fEntries,inI e):Sim.Spec Tryz.prog 26 [.agg s.tr,.agg m.tr,tvI l] (.tup [.agg ((runMach s m l).1.tr.map resC),.c (.t (.int .i64 ((runMach s m l).2:Int)))]):=by
 have hS:=s_spec_SpaceOk s hs
 have hM:=s_spec_MachineOk m
 have hB:=s_spec_l01In l 0 20000
 obtain⟨k1,k2⟩:=mach_small hms
 have hC:=s_spec_l11Copy m k1 (by omega)
 refine spec_of_W hΓ hmix Tryz.func26 rfl (by decide) rfl ?_
 unfold runMach
 cases a1:spaceOk s with
 | false=>
  rw[a1]at hS
  rw[if_neg (by simp)]
  repeat' ((conv=>whnf);first|refine seq_inl ?_|apply reg_inl|apply oi|(apply fi<;>intro h)|refine cl hC ?_|refine cl hS ?_|refine cl hM ?_|refine cl hB ?_|refine⟨_,rfl,?_⟩|((with_reducible show _=_);rfl))
  all_goals try((with_reducible refine Obl.mk ?_);exact KO)
  all_goals try(exfalso;simp at h;done)
  all_goals exact⟨⟨rfl,flat_ints _⟩⟩
 | true=>
  rw[a1]at hS
  cases a2:machineOk m with
  | false=>
   rw[a2]at hM
   rw[if_neg (by simp)]
   repeat' ((conv=>whnf);first|refine seq_inl ?_|apply reg_inl|apply oi|(apply fi<;>intro h)|refine cl hC ?_|refine cl hS ?_|refine cl hM ?_|refine cl hB ?_|refine⟨_,rfl,?_⟩|((with_reducible show _=_);rfl))
   all_goals try((with_reducible refine Obl.mk ?_);exact KO)
   all_goals try(exfalso;simp at h;done)
   all_goals exact⟨⟨rfl,flat_ints _⟩⟩
  | true=>
   rw[a2]at hM
   cases a3:within l 0 20000 with
   | false=>
    rw[a3]at hB
    rw[if_neg (by simp)]
    repeat' ((conv=>whnf);first|refine seq_inl ?_|apply reg_inl|apply oi|(apply fi<;>intro h)|refine cl hC ?_|refine cl hS ?_|refine cl hM ?_|refine cl hB ?_|refine⟨_,rfl,?_⟩|((with_reducible show _=_);rfl))
    all_goals try((with_reducible refine Obl.mk ?_);exact KO)
    all_goals try(exfalso;simp at h;done)
    all_goals exact⟨⟨rfl,flat_ints _⟩⟩
   | true=>
    rw[a3]at hB
    rw[if_pos ⟨rfl,rfl,rfl⟩]
    have hl:=within_iff.1 a3
    obtain⟨L,rfl⟩:=Int.eq_ofNat_of_zero_le hl.1
    obtain⟨m1,m2,m3⟩:=machineOk_iffL.1 a2
    have hinv:MInv m 0:=⟨m1,m2,hw,by omega⟩
    have hen:∀e∈s.fEntries,inI e:=hsw
    rw[Int.toNat_natCast]
    obtain⟨R,hR⟩:∃R,runM s L m=R:=⟨_,rfl⟩
    rw[hR]
    repeat' ((conv=>whnf);first|refine seq_inl ?_|apply reg_inl|apply oi|(apply fi<;>intro h)|refine cl hC ?_|refine cl hS ?_|refine cl hM ?_|refine cl hB ?_|refine⟨_,rfl,?_⟩|((with_reducible show _=_);rfl))
    all_goals try((with_reducible refine Obl.mk ?_);exact KO)
    all_goals try(exfalso;simp at h;done)
    conv=>whnf
    refine⟨{q:Nat×TMachine // q.1≤L∧MInv q.2 q.1∧(runM s (L - q.1) q.2).1=R.1∧(runM s (L - q.1) q.2).2+q.1=R.2},fun q=>⟨[(2,tI .i64 (L:Int)),(3,.r (.c (.ptr (3,0,0) 0))),(6,.r (.c (.ptr (6,0,0) 0))),(7,tI .i64 0),(8,.r (.c (.ptr (8,0,0) 0))),(9,tI .i64 (q.1.1:Int))],
     [((3,0,0),some (sBox s)),((6,0,0),some zBox),((8,0,0),some (mBox q.1.2 (11,0,3) (11,0,4))),((11,0,3),some (.arr false 1 (q.1.2.fStack.map intRow))),((11,0,4),some (.arr false 1 (q.1.2.fOut.map intRow)))],[3,6,8,11]⟩,fun q=>L - q.1.1,⟨(0,m),by omega,hinv,by simp[hR],by simp[hR]⟩,?_,?_⟩
    ·skip
     repeat' ((conv=>whnf);first|refine seq_inl ?_|apply reg_inl|apply oi|(apply fi<;>intro h)|refine⟨_,rfl,?_⟩|((with_reducible show _=_);rfl))
     all_goals try((with_reducible refine Obl.mk ?_);exact KO)
    intro⟨⟨n,d⟩,q1,q2,q3,q4⟩
    dsimp only at q1 q2 q3 q4 ⊢
    by_cases hgo:d.fState=0∧n < L
    ·obtain⟨g1,g2⟩:=hgo
     obtain⟨j,hj⟩:∃j,L - n=j+1:=⟨L - n - 1,by omega⟩
     rw[hj,runM_go g1]at q3 q4
     dsimp only at q3 q4
     have hnx:=q2.step hen
     have hT:=s_spec_l11Step s d a1 q2.len (by have:=q2.out;omega)
     rw[←step_eq q2.sp q2.w.2.2]at hT
     generalize stepR d (stepP s d)=d' at *
     repeat' ((conv=>whnf);first|refine seq_inl ?_|apply reg_inl|apply oi|(apply fi<;>intro h)|refine cl hT ?_|refine⟨_,rfl,?_⟩|((with_reducible show _=_);rfl))
     all_goals try((with_reducible refine Obl.mk ?_);exact KO)
     all_goals try(exfalso;simp[g1]at h;done)
     all_goals try(exfalso;have h':=of_decide_eq_false h;omega)
     conv=>whnf
     refine⟨⟨(n+1,d'),by dsimp only;omega,hnx,by rw[show L - (n+1)=j by omega];exact q3,by rw[show L - (n+1)=j by omega];dsimp only at q4 ⊢;omega⟩,?_,by dsimp only;omega⟩
     repeat' ((conv=>whnf);first|refine seq_inl ?_|apply reg_inl|apply oi|(apply fi<;>intro h)|refine⟨_,rfl,?_⟩|((with_reducible show _=_);rfl))
     all_goals try((with_reducible refine Obl.mk ?_);exact KO)
     all_goals try(refine⟨congrArg (Tr.int _) ?_⟩;dsimp only;rw[IntWalk.i64_in _ (by omega)];omega)
    ·have hst:runM s (L - n) d=(d,0):=runM_stop (by
                                by_cases h0:d.fState=0;· exact .inr (by have:=fun h=>hgo ⟨h0,h⟩;omega)
                                ·exact .inl h0)
     rw[hst]at q3 q4
     dsimp only at q3 q4
     obtain⟨R1,R2⟩:=R
     dsimp only at q3 q4
     subst q3;subst q4
     repeat' ((conv=>whnf);first|refine seq_inl ?_|apply reg_inl|apply oi|(apply fi<;>intro h)|refine⟨_,rfl,?_⟩|((with_reducible show _=_);rfl))
     all_goals try((with_reducible refine Obl.mk ?_);exact KO)
     all_goals try(exfalso;apply hgo;refine⟨by simpa using ‹(d.fState==0)=true›,?_⟩;have h':=of_decide_eq_true ‹decide ((n:Int) < (L:Int))=true›;omega)
     all_goals first
      | exact⟨congrArg (Tr.int _) (by dsimp only;omega)⟩
      | exact⟨⟨rfl,flat_ints _⟩⟩
end Go.Proofs.YtjmplnfiabmalaaGreat
namespace Go.Proofs.YtjmplnfiabmalaaGreat
open Go.Sim
set_option maxRecDepth 100000
set_option maxHeartbeats 4000000
theorem cPush_st {c:CS}{v:Int}:(cPush c v).m.fState=c.m.fState:=by unfold cPush;split <;> rfl
theorem cPop_st {c:CS}:(cPop c).m.fState=c.m.fState:=by unfold cPop;split <;> rfl
theorem cDrop_st:∀{n:Nat} {c:CS},(cDrop n c).m.fState=c.m.fState
 | 0,_=>rfl
 | n+1,c=>by rw[cDrop,cDrop_st (n:=n),cPop_st]
theorem cZeros_st:∀{n:Nat} {c:CS},(cZeros n c).m.fState=c.m.fState
 | 0,_=>rfl
 | n+1,c=>by rw[cZeros,cZeros_st (n:=n),cPush_st]
theorem cLoad_st {c:CS}{a:Int}:(cLoad c a).m.fState=c.m.fState:=by
 unfold cLoad
 split
 ·rfl
 ·exact cPush_st
theorem cStore_st {c:CS}{a:Int}:(cStore c a).m.fState=c.m.fState:=by
 unfold cStore
 split
 ·exact cPop_st
 ·exact cPop_st
theorem cPerf_st {es:List Int}{c:CS}{x:TOp}:(cPerf es c x).m.fState=c.m.fState:=by
 unfold cPerf
 refine ite_q (fun d=>d.m.fState=c.m.fState) cPush_st ?_
 refine ite_q (fun d=>d.m.fState=c.m.fState) cLoad_st ?_
 refine ite_q (fun d=>d.m.fState=c.m.fState) cLoad_st ?_
 refine ite_q (fun d=>d.m.fState=c.m.fState) cStore_st ?_
 refine ite_q (fun d=>d.m.fState=c.m.fState) cStore_st ?_
 refine ite_q (fun d=>d.m.fState=c.m.fState) (by rw[cArith,cPush_st,cPop_st,cPop_st]) ?_
 refine ite_q (fun d=>d.m.fState=c.m.fState) rfl ?_
 refine ite_q (fun d=>d.m.fState=c.m.fState) (by
  unfold cZero;split
  ·exact cPop_st
  ·exact cPop_st) ?_
 refine ite_q (fun d=>d.m.fState=c.m.fState) (by
  unfold cGoto;split
  ·exact cPush_st
  ·exact cPush_st) ?_
 refine ite_q (fun d=>d.m.fState=c.m.fState) (by rw[cEnter,cZeros_st];exact cPush_st) ?_
 refine ite_q (fun d=>d.m.fState=c.m.fState) cZeros_st ?_
 refine ite_q (fun d=>d.m.fState=c.m.fState) (by
  rw[cLeave,cPush_st,cDrop_st]
  exact cPop_st.trans (cPop_st.trans cPop_st)) ?_
 refine ite_q (fun d=>d.m.fState=c.m.fState) (by
  rw[cReturn,cPush_st,cDrop_st]
  exact cPop_st.trans (cDrop_st.trans cPop_st)) ?_
 refine ite_q (fun d=>d.m.fState=c.m.fState) (by
  show(cPop c).m.fState=_
  exact cPop_st) ?_
 rfl
theorem stepR_st {s:TSpace}{m:TMachine}(h:within m.fState 0 2=true):within (stepR m (stepP s m)).fState 0 2=true:=by
 cases hr:stepP s m with
 | none=>rfl
 | some m'=>
  obtain⟨x,_,hx⟩:=stepP_some hr
  show within m'.fState 0 2=true
  unfold endM at hx
  split at hx
  ·cases hx
  ·split at hx
   ·split at hx
    ·injection hx with hx;subst hx;rfl
    ·cases hx
   ·injection hx with hx
    subst hx
    rw[cPerf_st]
    exact h
structure MOk (m:TMachine) (n:Nat):Prop where
 inv:MInv m 0
 st:within m.fState 0 2=true
 out:m.fOut.length≤n
theorem stepR_out1 {s:TSpace}{m:TMachine}:(stepR m (stepP s m)).fOut.length≤m.fOut.length+1:=by
 cases h:stepP s m with
 | none=>show m.fOut.length≤_;omega
 | some m'=>exact stepP_out m' h
theorem MOk.step {s:TSpace}{m:TMachine}{n:Nat}(h:MOk m n)(hn:n≤1000000)(he:∀e∈s.fEntries,inI e):MOk (stepR m (stepP s m)) (n+1):=by
 have h1:=h.inv.step (s:=s) he
 have h2:=stepR_out1 (s:=s) (m:=m)
 have h3:=h.out
 exact⟨⟨h1.len,h1.sp,h1.w,by omega⟩,stepR_st h.st,by omega⟩
theorem MOk.mono {m:TMachine}{n k:Nat}(h:MOk m n)(hk:n≤k):MOk m k:=⟨h.inv,h.st,by have:=h.out;omega⟩
theorem MOk.run {s:TSpace}(he:∀e∈s.fEntries,inI e):∀(k:Nat) {m:TMachine} {n:Nat},MOk m n→n+k≤1000000→MOk (runM s k m).1 (n+k)
 | 0,m,n,h,_=>h
 | k+1,m,n,h,hn=>by
  by_cases h0:m.fState=0
  ·rw[runM_go h0]
   have:=MOk.run he k (h.step (by omega) he) (by omega)
   rw[show n+1+k=n+(k+1) by omega]at this
   exact this
  ·rw[runM_stop (.inl h0)]
   exact h.mono (by omega)
theorem MOk.ok {m:TMachine}{n:Nat}(h:MOk m n):machineOk m=true:=by
 unfold machineOk
 have h1:=h.inv.len
 have h2:=h.inv.sp
 rw[h.st,within_iff.2 ⟨h2.1,h2.2⟩,h1]
 rfl
theorem MOk.small {m:TMachine}{n:Nat}(h:MOk m n)(hn:n≤1000000):smallR 1048576 m.tr:=by
 have h1:=h.inv.len
 have h2:=h.out
 simp only[TMachine.tr,smallR]
 exact⟨by simp[smallT],by simp[smallT],by simp[smallT],small_Ints (by omega),small_Ints (by omega),by simp[smallT],by simp[smallT],trivial⟩
theorem runM_add {s:TSpace}:∀(a b:Nat) (m:TMachine),runM s (a+b) m=((runM s b (runM s a m).1).1,(runM s a m).2+(runM s b (runM s a m).1).2)
 | 0,b,m=>by
  rw[Nat.zero_add,runM_stop (k:=0) (.inr rfl)]
  dsimp only
  rw[Nat.zero_add]
 | a+1,b,m=>by
  by_cases h0:m.fState=0
  ·rw[show a+1+b=(a+b)+1 by omega,runM_go h0,runM_go h0,runM_add a b]
   dsimp only
   rw[Nat.add_right_comm]
  ·rw[runM_stop (.inl h0),runM_stop (k:=a+1) (.inl h0)]
   dsimp only
   rw[runM_stop (.inl h0)]
   exact congrArg (Prod.mk m) (Nat.zero_add 0).symm
def itM (s:TSpace):Nat→TMachine→TMachine
 | 0,m=>m
 | n+1,m=>stepMach s (itM s n m)
theorem itM_run {s:TSpace}(hs:spaceOk s=true)(he:∀e∈s.fEntries,inI e){m:TMachine}(h:MOk m 0):∀n,n≤1000000→itM s n m=(runM s n m).1
 | 0,_=>rfl
 | n+1,hn=>by
  rw[itM,itM_run hs he h n (by omega),runM_add n 1 m]
  have hk:=MOk.run (s:=s) he n h (by omega)
  generalize(runM s n m).1=q at *
  dsimp only
  by_cases h0:q.fState=0
  ·rw[stepMach,if_pos ⟨hs,hk.ok,h0⟩,runM_go h0]
   rfl
  ·rw[stepMach,if_neg (fun hh=>h0 hh.2.2),runM_stop (.inl h0)]
theorem newM_ok {s:TSpace}(hs:spaceOk s=true)(he:∀e∈s.fEntries,inI e):MOk (newM s) 0:=by
 have hh:inI (s.fEntries.headD 0):=by
  cases hx:s.fEntries with
  | nil=>show inI 0;unfold inI;omega
  | cons a l=>exact he a (by rw[hx];simp)
 rw[newM,if_pos hs]
 refine⟨⟨by simp,by dsimp only;omega,⟨fun w hw=>?_,hh,by unfold inI;dsimp only;omega⟩,by simp⟩,rfl,by simp⟩
 have:=List.eq_of_mem_replicate hw
 rw[this]
 unfold inI
 omega
theorem runMach_run {s:TSpace}(hs:spaceOk s=true){m:TMachine}{n:Nat}(h:MOk m n){l:Int}(h0:0≤l)(h1:l≤20000):runMach s m l=runM s l.toNat m:=by
 rw[runMach,if_pos ⟨hs,h.ok,within_iff.2 ⟨h0,h1⟩⟩]
theorem run_split {s:TSpace}(hs:spaceOk s=true)(he:∀e∈s.fEntries,inI e){m:TMachine}(h:MOk m 0){k:Nat}(hk:k≤60):
  MOk (runMach s m k).1 60∧(runMach s (runMach s m k).1 (60 - (k:Int))).1=(runMach s m 60).1∧(runMach s m k).2+(runMach s (runMach s m k).1 (60 - (k:Int))).2=(runMach s m 60).2∧(runMach s m 60).2≤60∧MOk (runMach s m 60).1 60:=by
 have h1:=MOk.run (s:=s) he k h (by omega)
 have h2:=MOk.run (s:=s) he 60 h (by omega)
 rw[Nat.zero_add]at h1 h2
 have e1:runMach s m k=runM s k m:=by rw[runMach_run hs h (by omega) (by omega),Int.toNat_natCast]
 have e2:runMach s m 60=runM s 60 m:=runMach_run hs h (by omega) (by omega)
 have e3:runMach s (runM s k m).1 (60 - (k:Int))=runM s (60 - k) (runM s k m).1:=by
  rw[runMach_run hs h1 (by omega) (by omega),show(60 - (k:Int)).toNat=60 - k by omega]
 rw[e1,e2,e3]
 have ha:=runM_add (s:=s) k (60 - k) m
 rw[show k+(60 - k)=60 by omega]at ha
 have hle:∀(n:Nat) (q:TMachine),(runM s n q).2≤n:=by
  intro n
  induction n with
  | zero=>intro q;rw[runM];exact Nat.le_refl _
  | succ n ih=>
   intro q
   by_cases h0:q.fState=0
   ·rw[runM_go h0];have:=ih (stepR q (stepP s q));dsimp only;omega
   ·rw[runM_stop (.inl h0)];exact Nat.zero_le _
 refine⟨h1.mono hk,?_,?_,hle 60 m,h2⟩
 ·rw[ha]
 ·rw[ha]
end Go.Proofs.YtjmplnfiabmalaaGreat
