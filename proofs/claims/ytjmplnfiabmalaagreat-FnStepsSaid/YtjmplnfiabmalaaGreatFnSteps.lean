/- The law FnSteps answers true for every input and leaves its argument as it was. Conditions: none beyond the given statement. -/
import Derived.Test.YtjmplnfiabmalaaGreatGj
namespace Go.Proofs.YtjmplnfiabmalaaGreat
open Go.Sim Go.ChangeShapes Go.WideShapes Go.ChangeAt Go.RowKit
set_option maxRecDepth 100000
set_option maxHeartbeats 4000000
theorem sX (code:List UInt8):Sim.Spec Tryz.prog 4 [tvL 1 (code.map aL)] (rB true):=by
 refine bh hΓ ay Tryz.func4 rfl (by decide) rfl ?_
 repeat' ((conv=>whnf);first|apply Wx|apply W6|apply oi|(apply fi<;>intro h)|refine cl ((zV code)) ?_|refine⟨_,rfl,?_⟩|exact rfl)
 all_goals try exact⟨KP⟩
 have hl:code.length≤1048576:=by have:=of_decide_eq_false h;omega
 obtain⟨p,b,first,second,hok,g0⟩:=pt code hl
 have h6:=(jO hok.prog).1
 have hsm:=sE (b:=b) hok.small (by omega) (first:=first) (second:=second)
 have hso:=hok.space
 have hen:∀e∈(dv p b first second).faq,inI e:=fun e he=>by
  obtain⟨f,hf⟩:=List.mem_iff_getElem?.1 he
  have hfl:f < (aF p).length:=by have:=bg hf;rwa [show(dv p b first second).faq=entries p b first second from rfl,yl]at this
  rw[show(dv p b first second).faq=entries p b first second from rfl,yT hfl]at hf
  injection hf with hf
  obtain⟨i,im,bs,hi⟩:=Fs hok hfl
  have h1:=hi.entry
  have h2:=hi.range
  have h3:=hi.start
  have h4:=hi.len
  unfold inI
  omega
 have hctr:(dv p b first second).tr=[.lst 2 [(aj p b 0).tr,(aj p b 1).tr],.lst 1 [aa first,aa second],.lst 1 ((entries p b first second).map aa)]:=rfl
 have hAt:=CW code 0 (by omega) hl
 have hav:=GK code 0
 have hmod:((atV code 0:Nat):Int).tmod 60=((atV code 0 % 60:Nat):Int):=by rw[Int.tmod_eq_emod_of_nonneg (by omega)];rfl
 generalize atV code 0=av at *
 obtain⟨k,hk,hk60⟩:∃k,av % 60=k∧k < 60:=⟨_,rfl,by omega⟩
 rw[hk]at hmod
 have hN:=oV _ hsm
 have hM:=Fb hso hen
 generalize hS:dv p b first second=S at *
 generalize hm0:Dl S=m at *
 have hms:=hM.small (by omega)
 have hR1:=fm S m (k:Int) hsm hms hM.inv.w hen
 obtain⟨q1,q2,q3,q4,q5⟩:=Cq hso hen hM (k:=k) (by omega)
 have hR3:=fm S m 60 hsm hms hM.inv.w hen
 have hR2:=fm S (br S m k).1 (60 - (k:Int)) hsm (q1.small (by omega)) q1.inv.w hen
 have hit:=BE hso hen hM
 have hD:∀q,q≤20→Sim.Spec Tryz.prog 25 [.agg S.tr,.agg (itM S q m).tr] (.r (.agg ((itM S (q+1) m).tr.map sD))):=fun q hq=>by
  have h1:=MOk.run (s:=S) hen q hM (by omega)
  rw[←hit q (by omega)]at h1
  exact mU S (itM S q m) hsm (h1.small (by omega))
 have hE:=oW S m 20 hsm hms hM.inv.w hen
 rw[jh hso hM (show(0:Int)≤20 by omega) (by omega),show(20:Int).toNat=20 from rfl,←hit 20 (by omega)]at hE
 have hD2:=fun(q:Nat) (hq:q≤20)=>by have h9:=hD q hq;rw[hctr]at h9;exact h9
 rw[hctr]at hN hR1 hR2 hR3 hE
 rw[q2]at hR2
 have hcs:=q5.inv.len
 have hco:=q5.out
 have hit20:=MOk.run (s:=S) hen 20 hM (by omega)
 rw[←hit 20 (by omega)]at hit20
 have hes:=hit20.inv.len
 generalize(br S (br S m k).1 (60 - (k:Int))).2=n2 at *
 generalize br S m 60=C at *
 generalize br S m k=B at *
 have hS1:=gD C.1.fap C.1.fap (by omega)
 have hS2:=gD C.1.fah C.1.fah (by omega)
 have hS3:=gD (itM S 20 m).fap (itM S 20 m).fap (by omega)
 rw[beq_self_eq_true]at hS1 hS2 hS3
 refine cg (g0) ?_
 repeat' ((conv=>whnf);first|(with_reducible apply W1;fail_if_success (with_reducible show Wo _ _ _ _ (Code.region 9 _ _) _ _))|(with_reducible first|apply W2|apply W3|apply W4|apply W5|apply W6|apply W7|apply W8|apply W9)|apply ae|apply oi|(apply fi<;>intro h)|refine cl hN ?_|refine cl hAt ?_|refine .inl (ci hR1 (ai (ai rfl (ai rfl (ai rfl trivial))) (ai (ai rfl (ai rfl (ai rfl (ai rfl (ai rfl (ai rfl (ai rfl trivial))))))) (ai KW trivial))) ?_)|refine cl hR3 ?_|refine .inl (ci hR2 (ai (ai rfl (ai rfl (ai rfl trivial))) (ai (ai rfl (ai rfl (ai rfl (ai rfl (ai rfl (ai rfl (ai rfl trivial))))))) (ai KW trivial))) ?_)|refine⟨_,rfl,?_⟩|exact rfl)
 all_goals try exact⟨KP⟩
 conv=>whnf
 refine kp ⟨[(5,.r (.c (.ptr (5,0,0) 0))),(6,.r (.c (.ptr (6,0,0) 0))),(10,tI .i64 (B.2:Int)),(11,.r (.c (.ptr (11,0,0) 0))),(12,tI .i64 (n2:Int)),(13,.r (.c (.ptr (13,0,0) 0))),(14,tI .i64 (C.2:Int))],
  [((5,0,0),some (.box [.t (.lst 2 [(aj p b 0).tr,(aj p b 1).tr]),.t (.lst 1 [aa first,aa second]),.t (.lst 1 ((entries p b first second).map aa))])),((6,0,0),some (.box (m.tr.map .t))),((11,0,0),some (.box (C.1.tr.map .t))),((13,0,0),some (.box (C.1.tr.map .t)))],_⟩ ?_ ?_ rfl ?_
 ·exact⟨.inl rfl,.inl rfl,.inl rfl,.inl rfl,.inl rfl,.inl rfl,.inl rfl,trivial⟩
 ·have tq:∀{H H':Sim.Id→Option AO} {o:Sim.Id} {t:Tr},cQ H (.own o) t→H' o=none→vwC H H' (.own o) (.t t):=fun h1 h2=> .inr (.inr ⟨_,rfl,h1,fun q hq=>by simp only[AC.ids,List.mem_cons,List.not_mem_nil,or_false]at hq;subst hq;exact h2⟩)
  refine⟨.inr (.inr (.inl ⟨_,_,rfl,rfl,tq rfl rfl,tq rfl rfl,tq rfl rfl,trivial⟩)),.inr (.inr (.inl ⟨_,_,rfl,rfl,.inl rfl,.inl rfl,.inl rfl,tq rfl rfl,tq rfl rfl,.inl rfl,.inl rfl,trivial⟩)),.inr (.inr (.inl ⟨_,_,rfl,rfl,.inl rfl,.inl rfl,.inl rfl,tq rfl rfl,tq rfl rfl,.inl rfl,.inl rfl,trivial⟩)),.inr (.inr (.inl ⟨_,_,rfl,rfl,.inl rfl,.inl rfl,.inl rfl,tq rfl rfl,tq rfl rfl,.inl rfl,.inl rfl,trivial⟩)),trivial⟩
 repeat' ((conv=>whnf);first|apply Wx|apply W6|apply oi|(apply fi<;>intro h)|refine⟨_,rfl,?_⟩|exact rfl)
 all_goals try exact⟨KP⟩
 conv=>whnf
 refine⟨{q:Nat // q≤20},fun q=>⟨[(5,.r (.c (.ptr (5,0,0) 0))),(6,.r (.c (.ptr (6,0,0) 0))),(10,tI .i64 (B.2:Int)),(11,.r (.c (.ptr (11,0,0) 0))),(12,tI .i64 (n2:Int)),(13,.r (.c (.ptr (13,0,0) 0))),(14,tI .i64 (C.2:Int)),(15,.r (.c (.ptr (15,0,0) 0))),(16,tI .i64 (q.1:Int))],
  [((5,0,0),some (.box [.t (.lst 2 [(aj p b 0).tr,(aj p b 1).tr]),.t (.lst 1 [aa first,aa second]),.t (.lst 1 ((entries p b first second).map aa))])),((6,0,0),some (.box (m.tr.map .t))),((11,0,0),some (.box (C.1.tr.map .t))),((13,0,0),some (.box (C.1.tr.map .t))),((15,0,0),some (.box ((itM S q.1 m).tr.map .t)))],[15,13,11,6,5]⟩,fun q=>20 - q.1,⟨0,by omega⟩,?_,?_⟩
 ·skip
  repeat' ((conv=>whnf);first|apply Wx|apply W6|apply oi|(apply fi<;>intro h)|refine⟨_,rfl,?_⟩|exact rfl)
  all_goals try exact⟨KP⟩
 intro⟨q,hq⟩
 dsimp only
 by_cases hlt:q < 20
 ·have h1:=hD2 q hq
  generalize itM S q m=d at *
  generalize hd2:itM S (q+1) m=d2 at *
  repeat' ((conv=>whnf);first|apply Wx|apply W6|apply oi|(apply fi<;>intro h)|refine⟨_,rfl,?_⟩|exact rfl)
  all_goals try exact⟨KP⟩
  all_goals try exact KX
  conv=>whnf
  refine .inl (ci h1 (ai (ai rfl (ai rfl (ai rfl trivial))) (ai (ai rfl (ai rfl (ai rfl (ai rfl (ai rfl (ai rfl (ai rfl trivial))))))) trivial)) ?_)
  conv=>whnf
  refine kp ⟨[(5,.r (.c (.ptr (5,0,0) 0))),(6,.r (.c (.ptr (6,0,0) 0))),(10,tI .i64 (B.2:Int)),(11,.r (.c (.ptr (11,0,0) 0))),(12,tI .i64 (n2:Int)),(13,.r (.c (.ptr (13,0,0) 0))),(14,tI .i64 (C.2:Int)),(15,.r (.c (.ptr (15,0,0) 0))),(16,tI .i64 (q:Int))],
   [((5,0,0),some (.box [.t (.lst 2 [(aj p b 0).tr,(aj p b 1).tr]),.t (.lst 1 [aa first,aa second]),.t (.lst 1 ((entries p b first second).map aa))])),((6,0,0),some (.box (m.tr.map .t))),((11,0,0),some (.box (C.1.tr.map .t))),((13,0,0),some (.box (C.1.tr.map .t))),((15,0,0),some (.box (d2.tr.map .t)))],_⟩ ?_ ?_ rfl ?_
  ·exact⟨.inl rfl,.inl rfl,.inl rfl,.inl rfl,.inl rfl,.inl rfl,.inl rfl,.inl rfl,.inl rfl,trivial⟩
  ·have tq:∀{H H':Sim.Id→Option AO} {o:Sim.Id} {t:Tr},cQ H (.own o) t→H' o=none→vwC H H' (.own o) (.t t):=fun h1 h2=> .inr (.inr ⟨_,rfl,h1,fun q hq=>by simp only[AC.ids,List.mem_cons,List.not_mem_nil,or_false]at hq;subst hq;exact h2⟩)
   exact⟨.inr (.inl rfl),.inr (.inl rfl),.inr (.inl rfl),.inr (.inl rfl),.inr (.inr (.inl ⟨_,_,rfl,rfl,.inl rfl,.inl rfl,.inl rfl,tq rfl rfl,tq rfl rfl,.inl rfl,.inl rfl,trivial⟩)),trivial⟩
  repeat' ((conv=>whnf);first|apply Wx|apply W6|apply oi|(apply fi<;>intro h)|refine⟨_,rfl,?_⟩|exact rfl)
  all_goals try exact⟨KP⟩
  conv=>whnf
  refine⟨⟨q+1,by omega⟩,?_,KD⟩
  dsimp only
  rw[hd2]
  repeat' ((conv=>whnf);first|apply Wx|apply W6|apply oi|(apply fi<;>intro h)|refine⟨_,rfl,?_⟩|exact rfl)
  all_goals try exact⟨KP⟩
  all_goals try exact⟨KW⟩
 ·obtain rfl:q=20:=by omega
  generalize itM S 20 m=d at *
  repeat' ((conv=>whnf);first|apply Wx|apply W6|apply oi|(apply fi<;>intro h)|refine cl hE ?_|refine cl hS1 ?_|refine cl hS2 ?_|refine cl hS3 ?_|refine⟨_,rfl,?_⟩|exact rfl)
  all_goals try exact⟨KP⟩
  all_goals try exact KX
  all_goals try exact⟨by rw[List.length_map,hes];rfl⟩
  all_goals try(exfalso;rw[IntWalk.i64_in _ (by omega)]at h;simp at h;omega)
  all_goals try(exfalso;simp at h;done)
  all_goals try(exfalso;simp_all;done)
theorem fnSteps_lifted (os:Os)(started:os.Started)(H:Type)(enc:TypeId×Value→H):
  ReturnsInHanded {} Tryz.checked os 4 .any (Rows.fnStepsSpec.pre6 enc Tryz.prog Tryz.f4 Rows.fnStepsRow.domain false) (Rows.fnStepsSpec.post enc Tryz.prog Tryz.f4 false true false false):=by
 refine returnsInHanded_of_change (C:=Tryz.checked) own started (by kernel_rfl) Tryz.func4
  (ChangeSpec.witness6 (enc:=enc) (C:=Tryz.checked) false ⟨#[],#[.slice none 0 0],[]⟩ 8 (by kernel_rfl) (by kernel_rfl) (by kernel_rfl) (by kernel_rfl)) ?_
 intro W base args ds gs before hval hW _ _
 have hW0:=hW
 obtain⟨p,q,hA,_,_,_,_⟩:=hW0
 have hlen:=qB hA
 obtain⟨xs,hx,hty⟩:=tO (n:=8) hΓ (by kernel_rfl) (fun j t v h1 h2=>hval j t v (by simpa using h1) (by simpa using h2)) hA
 rw[Tryz.params4]at hty hlen
 obtain⟨_,xs0,rfl,hx0,hty0⟩:=xC hty
 obtain⟨_,rfl,rows,⟨⟩,hl,hr⟩:=hx0
 obtain rfl:=zc hty0
 obtain⟨d0,rfl⟩:=HB hlen
 obtain⟨bs,rfl⟩:=Cu (rows:=rows) (fun r hr'=>hr r hr')
 exact Ci FL rfl Tryz.underlying4 rfl (by kernel_rfl) rfl hx (sX bs) hW
theorem fnSteps_holds:Rows.FnStepsSaid:=
 OpenClaim.holds_of_wide 4 Tryz.f4 rfl rfl rfl rfl rfl rfl rfl ⟨rfl,rfl,rfl,rfl,rfl⟩ rfl rfl rfl rfl rfl (by kernel_rfl) Tryz.func4 (by kernel_rfl)
  (of_decide_eq_true (by kernel_rfl)) (by unfold Func.isWrapper;first|(rw[if_pos (by decide+kernel)];kernel_rfl)|(rw[if_neg (by decide+kernel)];exact⟨rfl,rfl⟩))
  (fun os started H enc _=>fnSteps_lifted os started H enc)
end Go.Proofs.YtjmplnfiabmalaaGreat
