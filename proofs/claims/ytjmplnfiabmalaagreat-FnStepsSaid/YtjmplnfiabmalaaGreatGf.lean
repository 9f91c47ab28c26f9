import Derived.Test.YtjmplnfiabmalaaGreatGe
namespace Go.Proofs.YtjmplnfiabmalaaGreat
open Go.Sim
set_option maxRecDepth 100000
set_option maxHeartbeats 4000000
theorem if_and_pos {p q:Prop}[Decidable p][Decidable q]{α:Type}{a b:α}{r:α}(hp:p):((if p∧q then a else b)=r)=((if q then a else b)=r):=by
 by_cases hq:q
 ·rw[if_pos ⟨hp,hq⟩,if_pos hq]
 ·rw[if_neg (fun h=>hq h.2),if_neg hq]
theorem else_eq {l:List TLine}{j i:Nat}:(elseOf l (j:Int)==(i:Int))=(elseAt l j==some i):=by
 rw[elseOf,if_pos (by omega),Int.toNat_natCast]
 cases elseAt l j with
 | none=>simp[endI]
 | some m=>rw[Bool.eq_iff_iff];simp[endI];omega
theorem s_spec_l04Body (l:List TLine)(k e:Nat)(hl:l.length≤60)(hs:∀x∈l,smallR 1048576 x.tr)(he:endAt l k=some e):Sim.Spec Tryz.prog 121 [tvP l,tvI k,tvI e] (rB (fnOkS l k e)):=by
 refine spec_of_Wo hΓ hmix Tryz.func121 rfl (by decide) rfl ?_
 have hlen:(l.map TLine.tr).length=l.length:=by simp
 have hL:=s_spec_LocalsOf l k (by omega) hs
 obtain⟨hloc1,hloc2⟩:=locals_le (l:=l) (k:=(k:Int)) (by omega) hs
 have hst0:=(endAt_some he)
 obtain⟨x0,hx0,ho0,he0,hke,hel⟩:=hst0
 unfold fnOkS
 generalize localsOf l (k:Int)=loc at *
 have hll:(loc.map strRow).length=loc.length:=by simp
 by_cases h8:loc.length≤8
 ·rw[decide_eq_true h8,Bool.true_and]
  obtain⟨R,hR⟩:∃R,bodyS l loc k e (e - (k+1)) (k+1) 0=R:=⟨_,rfl⟩
  rw[hR]
  repeat' ((conv=>whnf);first|(with_reducible first|apply Wx|apply W6)|apply oi|(apply fi<;>intro h)|refine cl hL ?_|refine⟨_,rfl,?_⟩|((with_reducible show _=_);rfl))
  all_goals try((with_reducible refine Obl.mk ?_);exact KP)
  all_goals try exact KX
  conv=>whnf
  refine⟨{q:Nat×List Nat // k < q.1∧q.1≤e∧StkOk l e q.1 q.2∧q.2.length≤4∧bodyS l loc k e (e - q.1) q.1 q.2.length=R},fun q=>⟨[(0,vP l),(1,tI .i64 (k:Int)),(2,tI .i64 (e:Int)),(7,.r (.c (.own (7,0,0)))),(8,tI .i64 ((q.1.2.length:Nat):Int)),(9,tI .i64 (q.1.1:Int))],[((7,0,0),some (.arr true 1 (loc.map strRow)))],[7]⟩,fun q=>e - q.1.1,⟨(k+1,[]),by dsimp only;omega,by dsimp only;omega,he0,by simp,hR⟩,?_,?_⟩
  ·skip
   repeat' ((conv=>whnf);first|(with_reducible first|apply Wx|apply W6)|apply oi|(apply fi<;>intro h)|refine⟨_,rfl,?_⟩|((with_reducible show _=_);rfl))
   all_goals try((with_reducible refine Obl.mk ?_);exact KP)
   all_goals try exact⟨K2⟩
  intro⟨⟨i,es⟩,q1,q2,g1,g2,g4⟩
  dsimp only at q1 q2 g1 g2 g4 ⊢
  by_cases hlt:i < e
  ·obtain⟨y,hy⟩:=get_of_lt (l:=l) (k:=i) (by omega)
   have hel3:(y.fExpr.map TTok.tr).length=y.fExpr.length:=by simp
   have hysm:=(line_small (hs y (List.mem_of_getElem? hy))).2.2.2.1
   obtain⟨K,hK⟩:∃K,exprKnown l loc y.fExpr=K:=⟨_,rfl⟩
   rw[bodyS_step hlt hy,hK]at g4
   by_cases h0:y.fKind=0
   ·rw[if_pos h0]at g4
    subst g4
    repeat' ((conv=>whnf);first|(with_reducible first|apply Wx|apply W6)|apply oi|(apply fi<;>intro h)|refine⟨i,y.tr,rfl,map_get hy,?_⟩|refine⟨_,rfl,?_⟩|((with_reducible show _=_);rfl))
    all_goals try((with_reducible refine Obl.mk ?_);exact KP)
    all_goals try exact KX
    all_goals try(exfalso;simp_all;done)
   ·rw[if_neg h0]at g4
    repeat' ((conv=>whnf);first|(with_reducible apply W1;fail_if_success (with_reducible show Wo _ _ _ _ (Code.seq (Code.region 8 _ _) _) _ _))|(with_reducible first|apply W2|apply W3|apply W4|apply W5|apply W6|apply W7|apply W8|apply W9)|apply reg_inl|apply oi|(apply fi<;>intro h)|refine⟨i,y.tr,rfl,map_get hy,?_⟩|refine⟨_,rfl,?_⟩|((with_reducible show _=_);rfl))
    all_goals try((with_reducible refine Obl.mk ?_);exact KP)
    all_goals try exact KX
    refine join_rule {q:Nat×List Nat // StkOk l e (i+1) q.2∧q.1=q.2.length∧q.1≤60∧(if q.1≤4∧K=true then bodyS l loc k e (e - (i+1)) (i+1) q.1 else false)=R} (fun q=>⟨[(0,vP l),(1,tI .i64 (k:Int)),(2,tI .i64 (e:Int)),(7,.r (.c (.own (7,0,0)))),(8,tI .i64 ((q.1.1:Nat):Int)),(9,tI .i64 (i:Int))],[((7,0,0),some (.arr true 1 (loc.map strRow)))],[7]⟩) ?_ ?_
    ·by_cases h35:y.fKind=3∨y.fKind=5
     ·rw[if_neg (fun h=>by omega)]at g4
      have hd:dep y es.length=es.length+1:=by unfold dep;rw[if_pos h35]
      rw[hd]at g4
      obtain⟨m',hm',him,hst'⟩:=g1.push hy (opensK_iff.2 (by omega))
      have hwd:IntKind.i64.wrap ((es.length:Int)+1)=((es.length+1:Nat):Int):=by rw[IntWalk.i64_in _ (by omega)];omega
      repeat' ((conv=>whnf);first|(with_reducible first|apply Wx|apply W6)|apply oi|(apply fi<;>intro h)|refine⟨i,y.tr,rfl,map_get hy,?_⟩|refine⟨_,rfl,?_⟩|((with_reducible show _=_);rfl))
      all_goals try((with_reducible refine Obl.mk ?_);exact KP)
      all_goals try exact KX
      all_goals try(exfalso;simp_all;done)
      all_goals
       conv=>whnf
       refine⟨⟨(es.length+1,m'::es),hst',rfl,by dsimp only;omega,g4⟩,?_⟩
       repeat' ((conv=>whnf);first|(with_reducible first|apply Wx|apply W6)|apply oi|(apply fi<;>intro h)|refine⟨_,rfl,?_⟩|((with_reducible show _=_);rfl))
       all_goals try((with_reducible refine Obl.mk ?_);exact KP)
       all_goals try exact⟨by dsimp only;rw[hwd]⟩
     ·by_cases h7':y.fKind=7
      ·rw[if_neg (fun h=>by omega)]at g4
       rcases g1.pop hy h7' with⟨_,h'⟩|⟨es',hes,hst'⟩
       ·omega
       have hd:dep y es.length=es'.length:=by unfold dep;rw[if_neg h35,if_pos h7',hes];simp
       have hl4:es.length=es'.length+1:=by rw[hes];rfl
       rw[hd]at g4
       have hwd:IntKind.i64.wrap ((es.length:Int) - 1)=(es'.length:Int):=by rw[IntWalk.i64_in _ (by omega)];omega
       repeat' ((conv=>whnf);first|(with_reducible first|apply Wx|apply W6)|apply oi|(apply fi<;>intro h)|refine⟨i,y.tr,rfl,map_get hy,?_⟩|refine⟨_,rfl,?_⟩|((with_reducible show _=_);rfl))
       all_goals try((with_reducible refine Obl.mk ?_);exact KP)
       all_goals try exact KX
       all_goals try(exfalso;simp_all;done)
       conv=>whnf
       refine⟨⟨(es'.length,es'),hst',rfl,by dsimp only;omega,g4⟩,?_⟩
       repeat' ((conv=>whnf);first|(with_reducible first|apply Wx|apply W6)|apply oi|(apply fi<;>intro h)|refine⟨_,rfl,?_⟩|((with_reducible show _=_);rfl))
       all_goals try((with_reducible refine Obl.mk ?_);exact KP)
       all_goals try exact⟨by dsimp only;rw[hwd]⟩
      ·have hd:dep y es.length=es.length:=by unfold dep;rw[if_neg h35,if_neg h7']
       have ho:opensK y.fKind=false:=by
        cases hh:opensK y.fKind with
        | false=>rfl
        | true=>rw[opensK_iff]at hh;omega
       have hst':=g1.other hy ho h7'
       rw[hd]at g4
       by_cases h4:y.fKind=4
       ·obtain⟨Av,hA⟩:∃Av,anyE l i (i - k) k=Av:=⟨_,rfl⟩
        rw[hA]at g4
        repeat' ((conv=>whnf);first|(with_reducible first|apply Wx|apply W6)|apply oi|(apply fi<;>intro h)|refine⟨i,y.tr,rfl,map_get hy,?_⟩|refine⟨_,rfl,?_⟩|((with_reducible show _=_);rfl))
        all_goals try((with_reducible refine Obl.mk ?_);exact KP)
        all_goals try exact KX
        all_goals try(exfalso;simp_all;done)
        conv=>whnf
        refine⟨{q:Nat×Bool // q.1≤i∧(q.2 || anyE l i (i - q.1) q.1)=Av},fun q=>⟨[(0,vP l),(1,tI .i64 (k:Int)),(2,tI .i64 (e:Int)),(7,.r (.c (.own (7,0,0)))),(8,tI .i64 ((es.length:Nat):Int)),(9,tI .i64 (i:Int)),(10,tB q.1.2),(11,tI .i64 (q.1.1:Int))],[((7,0,0),some (.arr true 1 (loc.map strRow)))],[7]⟩,fun q=>i - q.1.1,⟨(k,false),by dsimp only;omega,by simpa using hA⟩,?_,?_⟩
        ·skip
         repeat' ((conv=>whnf);first|(with_reducible first|apply Wx|apply W6)|apply oi|(apply fi<;>intro h)|refine⟨_,rfl,?_⟩|((with_reducible show _=_);rfl))
         all_goals try((with_reducible refine Obl.mk ?_);exact KP)
        intro⟨⟨j,b⟩,hj,hb⟩
        dsimp only at hj hb ⊢
        by_cases hji:j < i
        ·obtain⟨n,hn⟩:∃n,i - j=n+1:=⟨i - j - 1,by omega⟩
         have hn2:i - (j+1)=n:=by omega
         rw[hn,anyE,←else_eq]at hb
         have hS:=s_spec_ElseOf l (j:Int) (by omega)
         generalize elseOf l (j:Int)=ee at *
         cases b with
         | true=>
          repeat' ((conv=>whnf);first|(with_reducible first|apply Wx|apply W6)|apply oi|(apply fi<;>intro h)|refine cl hS ?_|refine⟨_,rfl,?_⟩|((with_reducible show _=_);rfl))
          all_goals try((with_reducible refine Obl.mk ?_);exact KP)
          all_goals try exact KX
          conv=>whnf
          refine⟨⟨(j+1,true),by dsimp only;omega,by simpa using hb⟩,?_,by dsimp only;omega⟩
          repeat' ((conv=>whnf);first|(with_reducible first|apply Wx|apply W6)|apply oi|(apply fi<;>intro h)|refine⟨_,rfl,?_⟩|((with_reducible show _=_);rfl))
          all_goals try((with_reducible refine Obl.mk ?_);exact KP)
          all_goals try exact⟨K2⟩
         | false=>
          repeat' ((conv=>whnf);first|(with_reducible first|apply Wx|apply W6)|apply oi|(apply fi<;>intro h)|refine cl hS ?_|refine⟨_,rfl,?_⟩|((with_reducible show _=_);rfl))
          all_goals try((with_reducible refine Obl.mk ?_);exact KP)
          all_goals try exact KX
          conv=>whnf
          refine⟨⟨(j+1,(ee==(i:Int))),by dsimp only;omega,by dsimp only;rw[hn2];simpa using hb⟩,?_,by dsimp only;omega⟩
          repeat' ((conv=>whnf);first|(with_reducible first|apply Wx|apply W6)|apply oi|(apply fi<;>intro h)|refine⟨_,rfl,?_⟩|((with_reducible show _=_);rfl))
          all_goals try((with_reducible refine Obl.mk ?_);exact KP)
          all_goals try exact⟨K2⟩
        ·rw[show i - j=0 by omega,anyE,Bool.or_false]at hb
         subst hb
         cases b with
         | false=>
          rw[if_pos ⟨h4,rfl⟩]at g4
          subst g4
          repeat' ((conv=>whnf);first|(with_reducible first|apply Wx|apply W6)|apply oi|(apply fi<;>intro h)|refine⟨_,rfl,?_⟩|((with_reducible show _=_);rfl))
          all_goals try((with_reducible refine Obl.mk ?_);exact KP)
          all_goals try exact KX
         | true=>
          rw[if_neg (by simp)]at g4
          repeat' ((conv=>whnf);first|(with_reducible first|apply Wx|apply W6)|apply oi|(apply fi<;>intro h)|refine⟨_,rfl,?_⟩|((with_reducible show _=_);rfl))
          all_goals try((with_reducible refine Obl.mk ?_);exact KP)
          all_goals try exact KX
          conv=>whnf
          refine⟨⟨(es.length,es),hst',rfl,by dsimp only;omega,g4⟩,?_⟩
          repeat' ((conv=>whnf);first|(with_reducible first|apply Wx|apply W6)|apply oi|(apply fi<;>intro h)|refine⟨_,rfl,?_⟩|((with_reducible show _=_);rfl))
          all_goals try((with_reducible refine Obl.mk ?_);exact KP)
       ·rw[if_neg (fun h=>h4 h.1)]at g4
        repeat' ((conv=>whnf);first|(with_reducible first|apply Wx|apply W6)|apply oi|(apply fi<;>intro h)|refine⟨i,y.tr,rfl,map_get hy,?_⟩|refine⟨_,rfl,?_⟩|((with_reducible show _=_);rfl))
        all_goals try((with_reducible refine Obl.mk ?_);exact KP)
        all_goals try exact KX
        all_goals try(exfalso;simp_all;done)
        conv=>whnf
        refine⟨⟨(es.length,es),hst',rfl,by dsimp only;omega,g4⟩,?_⟩
        repeat' ((conv=>whnf);first|(with_reducible first|apply Wx|apply W6)|apply oi|(apply fi<;>intro h)|refine⟨_,rfl,?_⟩|((with_reducible show _=_);rfl))
        all_goals try((with_reducible refine Obl.mk ?_);exact KP)
    clear g4 g1
    intro⟨⟨d,es'⟩,hst',hdl,hd60,g4⟩
    dsimp only at hst' hdl hd60 g4 ⊢
    have hwd:(d:Int)=(d:Int):=rfl
    by_cases hd4:(d)≤4
    ·rw[if_and_pos hd4]at g4
     repeat' ((conv=>whnf);first|(with_reducible first|apply Wx|apply W6)|apply oi|(apply fi<;>intro h)|refine⟨i,y.tr,rfl,map_get hy,?_⟩|refine⟨_,rfl,?_⟩|((with_reducible show _=_);rfl))
     all_goals try((with_reducible refine Obl.mk ?_);exact KP)
     all_goals try exact KX
     all_goals try(exfalso;simp only[decide_eq_false_iff_not,decide_eq_true_eq]at h;omega)
     conv=>whnf
     refine⟨{j:Nat // j≤y.fExpr.length∧(y.fExpr.drop j).all (tokKnown l loc)=K},fun q=>⟨[(0,vP l),(1,tI .i64 (k:Int)),(2,tI .i64 (e:Int)),(7,.r (.c (.own (7,0,0)))),(8,tI .i64 (d:Int)),(9,tI .i64 (i:Int)),(12,tI .i64 (q.1:Int))],[((7,0,0),some (.arr true 1 (loc.map strRow)))],[7]⟩,fun q=>y.fExpr.length - q.1,⟨0,by omega,hK⟩,?_,?_⟩
     ·skip
      repeat' ((conv=>whnf);first|(with_reducible first|apply Wx|apply W6)|apply oi|(apply fi<;>intro h)|refine⟨_,rfl,?_⟩|((with_reducible show _=_);rfl))
      all_goals try((with_reducible refine Obl.mk ?_);exact KP)
     intro⟨j,hj,hk2⟩
     dsimp only at hj hk2 ⊢
     by_cases hjl:j < y.fExpr.length
     ·obtain⟨t,ht⟩:=get_of_lt hjl
      rw[all_at ht]at hk2
      have hI:=s_spec_l04Index loc t.fName (by omega)
      have hF:=s_spec_FindFunction l t.fName (by omega)
      by_cases h1:t.fKind=1
      ·have e1:tokKnown l loc t=loc.contains t.fName:=by unfold tokKnown;rw[if_pos h1]
       rw[e1]at hk2
       have hix:=idxOf_has (l:=loc) (s:=t.fName)
       generalize idxOf loc t.fName=ix at *
       generalize findF l t.fName=ff at *
       cases hc:loc.contains t.fName with
       | false=>
        rw[hc]at hix hk2
        rw[Bool.false_and]at hk2
        subst hk2
        rw[if_neg (by simp)]at g4
        subst g4
        repeat' ((conv=>whnf);first|(with_reducible first|apply Wx|apply W6)|apply oi|(apply fi<;>intro h)|refine⟨i,y.tr,rfl,map_get hy,?_⟩|refine⟨j,t.tr,rfl,map_get ht,?_⟩|refine cl hI ?_|refine cl hF ?_|refine⟨_,rfl,?_⟩|((with_reducible show _=_);rfl))
        all_goals try((with_reducible refine Obl.mk ?_);exact KP)
        all_goals try exact KX
        all_goals try(exfalso;(try simp_all[within]);(try omega);done)
       | true=>
        rw[hc]at hix hk2
        rw[Bool.true_and]at hk2
        repeat' ((conv=>whnf);first|(with_reducible first|apply Wx|apply W6)|apply oi|(apply fi<;>intro h)|refine⟨i,y.tr,rfl,map_get hy,?_⟩|refine⟨j,t.tr,rfl,map_get ht,?_⟩|refine cl hI ?_|refine cl hF ?_|refine⟨_,rfl,?_⟩|((with_reducible show _=_);rfl))
        all_goals try((with_reducible refine Obl.mk ?_);exact KP)
        all_goals try exact KX
        all_goals try(exfalso;(try simp_all[within]);(try omega);done)
        all_goals try(exfalso;simp_all;done)
        conv=>whnf
        refine⟨⟨j+1,by omega,hk2⟩,?_,by dsimp only;omega⟩
        repeat' ((conv=>whnf);first|(with_reducible first|apply Wx|apply W6)|apply oi|(apply fi<;>intro h)|refine⟨_,rfl,?_⟩|((with_reducible show _=_);rfl))
        all_goals try((with_reducible refine Obl.mk ?_);exact KP)
        all_goals try exact⟨K2⟩
      ·by_cases h7:t.fKind=7
       ·cases hf:findN l 0 t.fName with
        | none=>
         have e1:tokKnown l loc t=false:=by unfold tokKnown;rw[if_neg h1,if_pos h7,hf]
         rw[e1,Bool.false_and]at hk2
         subst hk2
         rw[if_neg (by simp)]at g4
         subst g4
         rw[show findF l t.fName= -1 from endI_none hf]at hF
         repeat' ((conv=>whnf);first|(with_reducible first|apply Wx|apply W6)|apply oi|(apply fi<;>intro h)|refine⟨i,y.tr,rfl,map_get hy,?_⟩|refine⟨j,t.tr,rfl,map_get ht,?_⟩|refine cl hI ?_|refine cl hF ?_|refine⟨_,rfl,?_⟩|((with_reducible show _=_);rfl))
         all_goals try((with_reducible refine Obl.mk ?_);exact KP)
         all_goals try exact KX
         all_goals try(exfalso;(try simp_all[within]);(try omega);done)
        | some f=>
         obtain⟨hfl,x,hx,hx0,_⟩:=find_some hf
         have e1:tokKnown l loc t=((x.fArgs.length:Int)==t.fNum):=by unfold tokKnown;rw[if_neg h1,if_pos h7,hf];dsimp only;rw[hx]
         rw[e1]at hk2
         rw[show findF l t.fName=(f:Int) from endI_some hf]at hF
         have hxl:(x.fArgs.map strRow).length=x.fArgs.length:=by simp
         by_cases hn:(x.fArgs.length:Int)=t.fNum
         ·rw[beq_iff_eq.2 hn,Bool.true_and]at hk2
          repeat' ((conv=>whnf);first|(with_reducible first|apply Wx|apply W6)|apply oi|(apply fi<;>intro h)|refine⟨i,y.tr,rfl,map_get hy,?_⟩|refine⟨j,t.tr,rfl,map_get ht,?_⟩|refine⟨f,x.tr,rfl,map_get hx,?_⟩|refine cl hI ?_|refine cl hF ?_|refine⟨_,rfl,?_⟩|((with_reducible show _=_);rfl))
          all_goals try((with_reducible refine Obl.mk ?_);exact KP)
          all_goals try exact KX
          all_goals try(exfalso;(try simp_all[within]);(try omega);done)
          all_goals try(exfalso;simp_all;done)
          conv=>whnf
          refine⟨⟨j+1,by omega,hk2⟩,?_,by dsimp only;omega⟩
          repeat' ((conv=>whnf);first|(with_reducible first|apply Wx|apply W6)|apply oi|(apply fi<;>intro h)|refine⟨_,rfl,?_⟩|((with_reducible show _=_);rfl))
          all_goals try((with_reducible refine Obl.mk ?_);exact KP)
          all_goals try exact⟨K2⟩
         ·rw[beq_eq_false_iff_ne.2 hn,Bool.false_and]at hk2
          subst hk2
          rw[if_neg (by simp)]at g4
          subst g4
          repeat' ((conv=>whnf);first|(with_reducible first|apply Wx|apply W6)|apply oi|(apply fi<;>intro h)|refine⟨i,y.tr,rfl,map_get hy,?_⟩|refine⟨j,t.tr,rfl,map_get ht,?_⟩|refine⟨f,x.tr,rfl,map_get hx,?_⟩|refine cl hI ?_|refine cl hF ?_|refine⟨_,rfl,?_⟩|((with_reducible show _=_);rfl))
          all_goals try((with_reducible refine Obl.mk ?_);exact KP)
          all_goals try exact KX
          all_goals try(exfalso;(try simp_all[within]);(try omega);done)
          all_goals try(exfalso;simp_all;done)
       ·have e1:tokKnown l loc t=true:=by unfold tokKnown;rw[if_neg h1,if_neg h7]
        rw[e1,Bool.true_and]at hk2
        repeat' ((conv=>whnf);first|(with_reducible first|apply Wx|apply W6)|apply oi|(apply fi<;>intro h)|refine⟨i,y.tr,rfl,map_get hy,?_⟩|refine⟨j,t.tr,rfl,map_get ht,?_⟩|refine cl hI ?_|refine cl hF ?_|refine⟨_,rfl,?_⟩|((with_reducible show _=_);rfl))
        all_goals try((with_reducible refine Obl.mk ?_);exact KP)
        all_goals try exact KX
        all_goals try(exfalso;(try simp_all[within]);(try omega);done)
        all_goals try(exfalso;simp_all;done)
        conv=>whnf
        refine⟨⟨j+1,by omega,hk2⟩,?_,by dsimp only;omega⟩
        repeat' ((conv=>whnf);first|(with_reducible first|apply Wx|apply W6)|apply oi|(apply fi<;>intro h)|refine⟨_,rfl,?_⟩|((with_reducible show _=_);rfl))
        all_goals try((with_reducible refine Obl.mk ?_);exact KP)
        all_goals try exact⟨K2⟩
     ·rw[List.drop_eq_nil_of_le (by omega),List.all_nil]at hk2
      subst hk2
      rw[if_pos rfl]at g4
      repeat' ((conv=>whnf);first|(with_reducible first|apply Wx|apply W6)|apply oi|(apply fi<;>intro h)|refine⟨i,y.tr,rfl,map_get hy,?_⟩|refine⟨_,rfl,?_⟩|((with_reducible show _=_);rfl))
      all_goals try((with_reducible refine Obl.mk ?_);exact KP)
      all_goals try(exfalso;have h':=of_decide_eq_true h;rw[hel3]at h';omega)
      conv=>whnf
      refine⟨⟨(i+1,es'),by dsimp only;omega,by dsimp only;omega,hst',by dsimp only;omega,by dsimp only;rw[←hdl];exact g4⟩,?_,by dsimp only;omega⟩
      repeat' ((conv=>whnf);first|(with_reducible first|apply Wx|apply W6)|apply oi|(apply fi<;>intro h)|refine⟨_,rfl,?_⟩|((with_reducible show _=_);rfl))
      all_goals try((with_reducible refine Obl.mk ?_);exact KP)
      all_goals try exact⟨by dsimp only;rw[hdl]⟩
      all_goals try exact⟨K2⟩
    ·rw[if_neg (fun h=>hd4 h.1)]at g4
     subst g4
     repeat' ((conv=>whnf);first|(with_reducible first|apply Wx|apply W6)|apply oi|(apply fi<;>intro h)|refine⟨i,y.tr,rfl,map_get hy,?_⟩|refine⟨_,rfl,?_⟩|((with_reducible show _=_);rfl))
     all_goals try((with_reducible refine Obl.mk ?_);exact KP)
     all_goals try exact KX
     all_goals try(exfalso;simp only[decide_eq_false_iff_not,decide_eq_true_eq]at h;omega)
  ·rw[bodyS_end (by omega)]at g4
   subst g4
   repeat' ((conv=>whnf);first|(with_reducible first|apply Wx|apply W6)|apply oi|(apply fi<;>intro h)|refine⟨_,rfl,?_⟩|((with_reducible show _=_);rfl))
   all_goals try((with_reducible refine Obl.mk ?_);exact KP)
   all_goals try exact KX
 ·rw[decide_eq_false h8,Bool.false_and]
  repeat' ((conv=>whnf);first|(with_reducible first|apply Wx|apply W6)|apply oi|(apply fi<;>intro h)|refine cl hL ?_|refine⟨_,rfl,?_⟩|((with_reducible show _=_);rfl))
  all_goals try((with_reducible refine Obl.mk ?_);exact KP)
  all_goals try exact KX
theorem funs_all {l:List TLine}:(funs l).all (nameFirst l)=true↔∀k x,l[k]?=some x→x.fKind=0→nameFirst l k=true:=by
 rw[List.all_eq_true]
 constructor
 ·intro H k x hx h0
  refine H k ?_
  have key:∀(n i:Nat),l.length - i≤n→i≤k→k∈funsF (l.drop i) i:=by
   have hkl:k < l.length:=by
    rcases Nat.lt_or_ge k l.length with h|h
    ·exact h
    ·rw[List.getElem?_eq_none h]at hx;cases hx
   intro n
   induction n with
   | zero=>intro i h1 h2;omega
   | succ n ih=>
    intro i h1 h2
    obtain⟨y,hy⟩:=get_of_lt (l:=l) (k:=i) (by omega)
    rw[funsF_at hy,List.mem_append]
    by_cases hik:i=k
    ·subst hik
     rw[hx]at hy
     injection hy with hy
     subst hy
     rw[if_pos h0]
     exact .inl (by simp)
    ·exact .inr (ih (i+1) (by omega) (by omega))
  have:=key l.length 0 (by omega) (by omega)
  rwa [List.drop_zero]at this
 ·intro H k hk
  obtain⟨_,x,hx,h0⟩:=funs_lt hk
  exact H k x hx h0
def ok1 (l:List TLine)(k:Nat)(x:TLine):Bool:=lineOk x && (if x.fKind=0 then nameFirst l k else true)
def okN (l:List TLine):Nat→Nat→Bool
 | 0,_=>true
 | n+1,k=>match l[k]? with
  | some x=>ok1 l k x && okN l n (k+1)
  | none=>true
theorem okN_step {l:List TLine}{k:Nat}{x:TLine}(hx:l[k]?=some x):okN l (l.length - k) k=(ok1 l k x && okN l (l.length - (k+1)) (k+1)):=by
 have hk:k < l.length:=by
  rcases Nat.lt_or_ge k l.length with h|h
  ·exact h
  ·rw[List.getElem?_eq_none h]at hx;cases hx
 rw[show l.length - k=(l.length - (k+1))+1 by omega,okN,hx]
theorem okN_iff {l:List TLine}:∀(n k:Nat),l.length - k≤n→(okN l (l.length - k) k=true↔∀j x,k≤j→l[j]?=some x→ok1 l j x=true)
 | n,k,hn=>by
  by_cases hk:k < l.length
  ·obtain⟨x,hx⟩:=get_of_lt hk
   cases n with
   | zero=>omega
   | succ n=>
    rw[okN_step hx,Bool.and_eq_true,okN_iff n (k+1) (by omega)]
    constructor
    ·rintro⟨h1,h2⟩ j y hj hy
     by_cases hjk:j=k
     ·subst hjk
      rw[hx]at hy
      injection hy with hy
      subst hy
      exact h1
     ·exact h2 j y (by omega) hy
    ·intro H
     exact⟨H k x (Nat.le_refl _) hx,fun j y hj hy=>H j y (by omega) hy⟩
  ·rw[show l.length - k=0 by omega]
   refine⟨fun _ j x hj hx=>?_,fun _=>rfl⟩
   rw[List.getElem?_eq_none (by omega)]at hx
   cases hx
theorem okN_all (l:List TLine):okN l l.length 0=(l.all lineOk && (funs l).all (nameFirst l)):=by
 have h0:=okN_iff (l:=l) l.length 0 (by omega)
 rw[Nat.sub_zero]at h0
 rw[Bool.eq_iff_iff,h0,Bool.and_eq_true,funs_all,List.all_eq_true]
 constructor
 ·intro H
  refine⟨fun x hx=>?_,fun k x hx h0=>?_⟩
  ·obtain⟨k,hk⟩:=List.getElem?_of_mem hx
   have:=H k x (by omega) hk
   rw[ok1,Bool.and_eq_true]at this
   exact this.1
  ·have:=H k x (by omega) hx
   rw[ok1,Bool.and_eq_true,if_pos h0]at this
   exact this.2
 ·rintro⟨H1,H2⟩ j x _ hx
  rw[ok1,Bool.and_eq_true]
  refine⟨H1 x (List.mem_of_getElem? hx),?_⟩
  split
  ·exact H2 j x hx (by assumption)
  ·rfl
theorem programOk_S {l:List TLine}:programOk l=(decide (l.length≤60) && (decide ((funs l).length≤6) && (headOk l && (okN l l.length 0 && chainN (fnOkS l) l l.length 0)))):=by
 unfold programOk
 rw[okN_all,chainS_all]
 cases hh:headOk l with
 | false=>simp
 | true=>
  have h1:1≤(funs l).length:=by
   cases l with
   | nil=>cases hh
   | cons x r=>
    have:x.fKind=0:=by
     unfold headOk at hh
     simp only[Bool.and_eq_true,beq_iff_eq]at hh
     exact hh.1
    rw[funs,funsF,if_pos this]
    simp
  have e:(decide (1≤(funs l).length∧(funs l).length≤6))=decide ((funs l).length≤6):=by
   rw[decide_eq_decide]
   omega
  rw[e]
  generalize decide (l.length≤60)=b1
  generalize decide ((funs l).length≤6)=b2
  generalize l.all lineOk=b3
  generalize(funs l).all (nameFirst l)=b4
  generalize elsesOk l=b5
  generalize chainN (fnOk l) l l.length 0=b6
  cases b1 <;> cases b2 <;> cases b3 <;> cases b4 <;> cases b5 <;> cases b6 <;> rfl
theorem s_spec_ProgramOk (l:List TLine)(hsm:smallT 1048576 (.lst 4 (l.map TLine.tr))):Sim.Spec Tryz.prog 37 [tvP l] (rB (programOk l)):=by
 refine spec_of_Wo hΓ hmix Tryz.func37 rfl (by decide) rfl ?_
 have hl:=small_nat hsm
 have hs:∀x∈l,smallR 1048576 x.tr:=fun x hx=>smallRs_map hsm hx
 have hlen:(l.map TLine.tr).length=l.length:=by simp
 have hF:=s_spec_FunctionLines l hl
 have hfl:((funs l).map fun n:Nat=>intRow n).length=(funs l).length:=by simp
 rw[programOk_S]
 by_cases c1:l.length≤60
 ·rw[decide_eq_true c1,Bool.true_and]
  by_cases hpos:0 < l.length
  ·obtain⟨x0,hx0⟩:=get_of_lt hpos
   have hal:(x0.fArgs.map strRow).length=x0.fArgs.length:=by simp
   have hhd:=headOk_at hx0
   by_cases c2:(funs l).length≤6
   ·rw[decide_eq_true c2,Bool.true_and]
    cases hh:headOk l with
    | false=>
     rw[hh]at hhd
     rw[Bool.false_and]
     repeat' ((conv=>whnf);first|(with_reducible first|apply Wx|apply W6)|apply oi|(apply fi<;>intro h)|refine cl hF ?_|refine⟨0,x0.tr,rfl,map_get hx0,?_⟩|refine⟨_,rfl,?_⟩|((with_reducible show _=_);rfl))
     all_goals try((with_reducible refine Obl.mk ?_);exact KP)
     all_goals try exact KX
     all_goals try(exfalso;simp_all[mainName];done)
    | true=>
     rw[hh]at hhd
     rw[Bool.true_and]
     cases hok:okN l l.length 0 with
     | false=>
      rw[Bool.false_and]
      repeat' ((conv=>whnf);first|(with_reducible first|apply Wx|apply W6)|apply oi|(apply fi<;>intro h)|refine cl hF ?_|refine⟨0,x0.tr,rfl,map_get hx0,?_⟩|refine⟨_,rfl,?_⟩|((with_reducible show _=_);rfl))
      all_goals try((with_reducible refine Obl.mk ?_);exact KP)
      all_goals try exact KX
      all_goals try(exfalso;simp_all[mainName];done)
      conv=>whnf
      refine⟨{k:Nat // k≤l.length∧okN l (l.length - k) k=false},fun q=>⟨[(0,vP l),(3,tI .i64 (q.1:Int))],[],[]⟩,fun q=>l.length - q.1,⟨0,by omega,by rw[Nat.sub_zero];exact hok⟩,?_,?_⟩
      ·skip
       repeat' ((conv=>whnf);first|(with_reducible first|apply Wx|apply W6)|apply oi|(apply fi<;>intro h)|refine⟨_,rfl,?_⟩|((with_reducible show _=_);rfl))
       all_goals try((with_reducible refine Obl.mk ?_);exact KP)
      intro⟨k,hk,hr⟩
      dsimp only at hk hr ⊢
      by_cases hlt:k < l.length
      ·obtain⟨x,hx⟩:=get_of_lt hlt
       rw[okN_step hx,ok1]at hr
       have hL:=s_spec_LineOk x (hs x (List.mem_of_getElem? hx))
       have hN:=s_spec_FindFunction l x.fName hl
       have hnf2:(findF l x.fName==(k:Int))=nameFirst l k:=by
        unfold nameFirst
        rw[hx,findF]
        dsimp only
        cases findN l 0 x.fName with
        | none=>simp[endI]
        | some m=>rw[Bool.eq_iff_iff];simp[endI];omega
       generalize findF l x.fName=ff at *
       generalize lineOk x=lo at *
       generalize nameFirst l k=nf at *
       by_cases h0:x.fKind=0
       ·rw[if_pos h0]at hr
        repeat' ((conv=>whnf);first|(with_reducible first|apply Wx|apply W6)|apply oi|(apply fi<;>intro h)|refine cl hL ?_|refine cl hN ?_|refine⟨k,x.tr,rfl,map_get hx,?_⟩|refine⟨_,rfl,?_⟩|((with_reducible show _=_);rfl))
        all_goals try((with_reducible refine Obl.mk ?_);exact KP)
        all_goals try exact KX
        all_goals try(exfalso;simp_all;done)
        all_goals
         conv=>whnf
         refine⟨⟨k+1,by omega,by simp_all⟩,?_,by dsimp only;omega⟩
         repeat' ((conv=>whnf);first|(with_reducible first|apply Wx|apply W6)|apply oi|(apply fi<;>intro h)|refine⟨_,rfl,?_⟩|((with_reducible show _=_);rfl))
         all_goals try((with_reducible refine Obl.mk ?_);exact KP)
         all_goals try exact⟨K2⟩
       ·rw[if_neg h0,Bool.and_true]at hr
        repeat' ((conv=>whnf);first|(with_reducible first|apply Wx|apply W6)|apply oi|(apply fi<;>intro h)|refine cl hL ?_|refine cl hN ?_|refine⟨k,x.tr,rfl,map_get hx,?_⟩|refine⟨_,rfl,?_⟩|((with_reducible show _=_);rfl))
        all_goals try((with_reducible refine Obl.mk ?_);exact KP)
        all_goals try exact KX
        all_goals try(exfalso;simp_all;done)
        all_goals
         conv=>whnf
         refine⟨⟨k+1,by omega,by simp_all⟩,?_,by dsimp only;omega⟩
         repeat' ((conv=>whnf);first|(with_reducible first|apply Wx|apply W6)|apply oi|(apply fi<;>intro h)|refine⟨_,rfl,?_⟩|((with_reducible show _=_);rfl))
         all_goals try((with_reducible refine Obl.mk ?_);exact KP)
         all_goals try exact⟨K2⟩
      ·rw[show l.length - k=0 by omega]at hr
       cases hr
     | true=>
      rw[Bool.true_and]
      obtain⟨R,hR⟩:∃R,chainN (fnOkS l) l l.length 0=R:=⟨_,rfl⟩
      rw[hR]
      have hoka:=(okN_iff (l:=l) l.length 0 (by omega))
      rw[Nat.sub_zero]at hoka
      have hoka:=hoka.1 hok
      repeat' ((conv=>whnf);first|(with_reducible first|apply Wx|apply W6)|apply oi|(apply fi<;>intro h)|refine cl hF ?_|refine⟨0,x0.tr,rfl,map_get hx0,?_⟩|refine⟨_,rfl,?_⟩|((with_reducible show _=_);rfl))
      all_goals try((with_reducible refine Obl.mk ?_);exact KP)
      all_goals try exact KX
      all_goals try(exfalso;simp_all[mainName];done)
      conv=>whnf
      refine⟨{k:Nat // k≤l.length},fun q=>⟨[(0,vP l),(3,tI .i64 (q.1:Int))],[],[]⟩,fun q=>l.length - q.1,⟨0,by omega⟩,?_,?_⟩
      ·skip
       repeat' ((conv=>whnf);first|(with_reducible first|apply Wx|apply W6)|apply oi|(apply fi<;>intro h)|refine⟨_,rfl,?_⟩|((with_reducible show _=_);rfl))
       all_goals try((with_reducible refine Obl.mk ?_);exact KP)
      intro⟨k,hk⟩
      dsimp only at hk ⊢
      by_cases hlt:k < l.length
      ·obtain⟨x,hx⟩:=get_of_lt hlt
       have hr:=hoka k x (by omega) hx
       rw[ok1]at hr
       have hL:=s_spec_LineOk x (hs x (List.mem_of_getElem? hx))
       have hN:=s_spec_FindFunction l x.fName hl
       have hnf2:(findF l x.fName==(k:Int))=nameFirst l k:=by
        unfold nameFirst
        rw[hx,findF]
        dsimp only
        cases findN l 0 x.fName with
        | none=>simp[endI]
        | some m=>rw[Bool.eq_iff_iff];simp[endI];omega
       clear hoka hok
       generalize findF l x.fName=ff at *
       generalize lineOk x=lo at *
       generalize nameFirst l k=nf at *
       by_cases h0:x.fKind=0
       ·rw[if_pos h0]at hr
        repeat' ((conv=>whnf);first|(with_reducible first|apply Wx|apply W6)|apply oi|(apply fi<;>intro h)|refine cl hL ?_|refine cl hN ?_|refine⟨k,x.tr,rfl,map_get hx,?_⟩|refine⟨_,rfl,?_⟩|((with_reducible show _=_);rfl))
        all_goals try((with_reducible refine Obl.mk ?_);exact KP)
        all_goals try exact KX
        all_goals try(exfalso;simp_all;done)
        all_goals
         conv=>whnf
         refine⟨⟨k+1,by omega⟩,?_,by dsimp only;omega⟩
         repeat' ((conv=>whnf);first|(with_reducible first|apply Wx|apply W6)|apply oi|(apply fi<;>intro h)|refine⟨_,rfl,?_⟩|((with_reducible show _=_);rfl))
         all_goals try((with_reducible refine Obl.mk ?_);exact KP)
         all_goals try exact⟨K2⟩
       ·rw[if_neg h0,Bool.and_true]at hr
        repeat' ((conv=>whnf);first|(with_reducible first|apply Wx|apply W6)|apply oi|(apply fi<;>intro h)|refine cl hL ?_|refine cl hN ?_|refine⟨k,x.tr,rfl,map_get hx,?_⟩|refine⟨_,rfl,?_⟩|((with_reducible show _=_);rfl))
        all_goals try((with_reducible refine Obl.mk ?_);exact KP)
        all_goals try exact KX
        all_goals try(exfalso;simp_all;done)
        all_goals
         conv=>whnf
         refine⟨⟨k+1,by omega⟩,?_,by dsimp only;omega⟩
         repeat' ((conv=>whnf);first|(with_reducible first|apply Wx|apply W6)|apply oi|(apply fi<;>intro h)|refine⟨_,rfl,?_⟩|((with_reducible show _=_);rfl))
         all_goals try((with_reducible refine Obl.mk ?_);exact KP)
         all_goals try exact⟨K2⟩
      ·skip
       repeat' ((conv=>whnf);first|(with_reducible first|apply Wx|apply W6)|apply oi|(apply fi<;>intro h)|refine⟨_,rfl,?_⟩|((with_reducible show _=_);rfl))
       all_goals try((with_reducible refine Obl.mk ?_);exact KP)
       all_goals try exact KX
       conv=>whnf
       refine⟨{k:Nat // k≤l.length∧chainN (fnOkS l) l (l.length - k) k=R},fun q=>⟨[(0,vP l),(4,tI .i64 (q.1:Int))],[],[]⟩,fun q=>l.length - q.1,⟨0,by omega,by rw[Nat.sub_zero];exact hR⟩,?_,?_⟩
       ·skip
        repeat' ((conv=>whnf);first|(with_reducible first|apply Wx|apply W6)|apply oi|(apply fi<;>intro h)|refine⟨_,rfl,?_⟩|((with_reducible show _=_);rfl))
        all_goals try((with_reducible refine Obl.mk ?_);exact KP)
       intro⟨k,hk,hr⟩
       dsimp only at hk hr ⊢
       by_cases hlt:k < l.length
       ·obtain⟨x,hx⟩:=get_of_lt hlt
        rw[chainN_step hx (Nat.le_refl _)]at hr
        have hE:=s_spec_EndOf l (k:Int) hl
        cases he:endAt l k with
        | none=>
         rw[endOf_at,endI_none he]at hE
         rw[he]at hr
         subst hr
         repeat' ((conv=>whnf);first|(with_reducible first|apply Wx|apply W6)|apply oi|(apply fi<;>intro h)|refine cl hE ?_|refine⟨k,x.tr,rfl,map_get hx,?_⟩|refine⟨_,rfl,?_⟩|((with_reducible show _=_);rfl))
         all_goals try((with_reducible refine Obl.mk ?_);exact KP)
         all_goals try exact KX
         all_goals try(exfalso;simp_all;done)
        | some e=>
         obtain⟨_,_,_,_,hke,hel⟩:=endAt_some he
         rw[endOf_at,endI_some he]at hE
         rw[he]at hr
         dsimp only at hr
         have hK:=s_spec_l04Body l k e c1 hs he
         generalize fnOkS l k e=fb at *
         by_cases hc:x.fKind=0∧fb=true
         ·rw[if_pos hc]at hr
          obtain⟨d1,d2⟩:=hc
          subst d2
          repeat' ((conv=>whnf);first|(with_reducible first|apply Wx|apply W6)|apply oi|(apply fi<;>intro h)|refine cl hE ?_|refine cl hK ?_|refine⟨k,x.tr,rfl,map_get hx,?_⟩|refine⟨_,rfl,?_⟩|((with_reducible show _=_);rfl))
          all_goals try((with_reducible refine Obl.mk ?_);exact KP)
          all_goals try exact KX
          all_goals try(exfalso;simp_all;done)
          conv=>whnf
          refine⟨⟨e+1,by omega,hr⟩,?_,by dsimp only;omega⟩
          repeat' ((conv=>whnf);first|(with_reducible first|apply Wx|apply W6)|apply oi|(apply fi<;>intro h)|refine⟨_,rfl,?_⟩|((with_reducible show _=_);rfl))
          all_goals try((with_reducible refine Obl.mk ?_);exact KP)
          all_goals try exact⟨K2⟩
         ·rw[if_neg hc]at hr
          subst hr
          repeat' ((conv=>whnf);first|(with_reducible first|apply Wx|apply W6)|apply oi|(apply fi<;>intro h)|refine cl hE ?_|refine cl hK ?_|refine⟨k,x.tr,rfl,map_get hx,?_⟩|refine⟨_,rfl,?_⟩|((with_reducible show _=_);rfl))
          all_goals try((with_reducible refine Obl.mk ?_);exact KP)
          all_goals try exact KX
          all_goals try(exfalso;simp_all;done)
       ·rw[show l.length - k=0 by omega,chainN,decide_eq_true (by omega)]at hr
        subst hr
        repeat' ((conv=>whnf);first|(with_reducible first|apply Wx|apply W6)|apply oi|(apply fi<;>intro h)|refine⟨_,rfl,?_⟩|((with_reducible show _=_);rfl))
        all_goals try((with_reducible refine Obl.mk ?_);exact KP)
        all_goals try exact KX
   ·rw[decide_eq_false c2,Bool.false_and]
    repeat' ((conv=>whnf);first|(with_reducible first|apply Wx|apply W6)|apply oi|(apply fi<;>intro h)|refine cl hF ?_|refine⟨0,x0.tr,rfl,map_get hx0,?_⟩|refine⟨_,rfl,?_⟩|((with_reducible show _=_);rfl))
    all_goals try((with_reducible refine Obl.mk ?_);exact KP)
    all_goals try exact KX
    all_goals try(exfalso;simp_all[mainName];done)
  ·have hnil:l=[]:=List.length_eq_zero_iff.1 (by omega)
   subst hnil
   rw[show headOk ([]:List TLine)=false from rfl,Bool.false_and,Bool.and_false]
   repeat' ((conv=>whnf);first|(with_reducible first|apply Wx|apply W6)|apply oi|(apply fi<;>intro h)|refine cl hF ?_|refine⟨_,rfl,?_⟩|((with_reducible show _=_);rfl))
   all_goals try((with_reducible refine Obl.mk ?_);exact KP)
   all_goals try exact KX
 ·rw[decide_eq_false c1,Bool.false_and]
  repeat' ((conv=>whnf);first|(with_reducible first|apply Wx|apply W6)|apply oi|(apply fi<;>intro h)|refine cl hF ?_|refine⟨_,rfl,?_⟩|((with_reducible show _=_);rfl))
  all_goals try((with_reducible refine Obl.mk ?_);exact KP)
  all_goals try exact KX
  all_goals try(exfalso;simp_all;done)
end Go.Proofs.YtjmplnfiabmalaaGreat
namespace Go.Proofs.YtjmplnfiabmalaaGreat
open Go.Sim
set_option maxRecDepth 100000
set_option maxHeartbeats 4000000
theorem stands_le {l:List TTok}{p:Nat}{e:Ex}(h:stands l p e):p+e.toks.length≤l.length:=by
 obtain⟨r,h⟩:=h
 have h1:=congrArg List.length h
 rw[List.length_drop,List.length_append]at h1
 have:=e.toks_pos
 omega
theorem s_spec_Operands (l:List TTok)(p:Nat)(t:TTok)(es:List Ex)(hl:l.length≤1048576)(hn:toksShort l)(ho:(Ex.node t es).ok)(hs:stands l p (.node t es)):Sim.Spec Tryz.prog 260 [tvL 3 (l.map TTok.tr),tvI p] (rL 1 ((posL (p+1) es).map nR)):=by
 refine spec_of_Wo hΓ hmix Tryz.func260 rfl (by decide) rfl ?_
 have hlen:(l.map TTok.tr).length=l.length:=by simp
 have hle:=stands_le hs
 obtain⟨ht,hsa⟩:=stands_tok hs
 have hX:=s_spec_ExprEnd l p hl hn
 rw[stands_end hs ho]at hX
 have htn:=hn t (List.mem_of_getElem? ht)
 have hA:=s_spec_Arity t htn
 obtain⟨e1,e2⟩:=ar_eq ho.1
 have hel:es.length=ar t:=ho.2.1
 rw[e1,←hel]at hA
 obtain⟨R,hR⟩:∃R,posL (p+1) es=R:=⟨_,rfl⟩
 rw[hR]
 have hpl:p < l.length:=by
  have:=(Ex.node t es).toks_pos
  omega
 generalize p+(Ex.node t es).toks.length=pe at *
 repeat' ((conv=>whnf);first|(with_reducible first|apply Wx|apply W6)|apply oi|(apply fi<;>intro h)|refine cl hX ?_|refine⟨p,t.tr,rfl,map_get ht,?_⟩|refine cl hA ?_|refine⟨_,rfl,?_⟩|((with_reducible show _=_);rfl))
 all_goals try((with_reducible refine Obl.mk ?_);exact KP)
 all_goals try exact KX
 conv=>whnf
 refine⟨{q:Nat×List Nat×List Ex // q.2.1++posL q.1 q.2.2=R∧standAll l q.1 q.2.2∧exsOk q.2.2∧q.2.1.length+q.2.2.length≤4∧q.1≤1048577},fun q=>⟨[(0,.r (.c (.t (.lst 3 (l.map TTok.tr))))),(5,.r (.c (.own (5,0,0)))),(6,tI .i64 (q.1.1:Int)),(7,tI .i64 (q.1.2.2.length:Int))],[((5,0,0),some (.arr true 1 (q.1.2.1.map nR)))],[5]⟩,fun q=>q.1.2.2.length,⟨(p+1,[],es),hR,hsa,ho.2.2,by simp;omega,by dsimp only;omega⟩,?_,?_⟩
 ·skip
  repeat' ((conv=>whnf);first|(with_reducible first|apply Wx|apply W6)|apply oi|(apply fi<;>intro h)|refine⟨_,rfl,?_⟩|((with_reducible show _=_);rfl))
  all_goals try((with_reducible refine Obl.mk ?_);exact KP)
  all_goals try exact⟨K2⟩
 intro⟨⟨q,acc,fs⟩,h1,h2,h3,h4,h5⟩
 dsimp only at h1 h2 h3 h4 h5 ⊢
 cases fs with
 | nil=>
  rw[posL,List.append_nil]at h1
  subst h1
  repeat' ((conv=>whnf);first|(with_reducible first|apply Wx|apply W6)|apply oi|(apply fi<;>intro h)|refine⟨_,rfl,?_⟩|((with_reducible show _=_);rfl))
  all_goals try((with_reducible refine Obl.mk ?_);exact KP)
  all_goals try exact KX
  all_goals try(exfalso;simp at h;done)
 | cons a fs=>
  obtain⟨g1,g2⟩:=standAll_cons h2
  have hX2:=s_spec_ExprEnd l q hl hn
  rw[stands_end g1 h3.1]at hX2
  have hle2:=stands_le g1
  have hfl:(a::fs).length=fs.length+1:=rfl
  repeat' ((conv=>whnf);first|(with_reducible first|apply Wx|apply W6)|apply oi|(apply fi<;>intro h)|refine cl hX2 ?_|refine⟨_,rfl,?_⟩|((with_reducible show _=_);rfl))
  all_goals try((with_reducible refine Obl.mk ?_);exact KP)
  all_goals try exact KX
  all_goals try(exfalso;simp at h;done)
  all_goals try exact⟨⟨by simp <;> omega,by simp <;> omega⟩⟩
  conv=>whnf
  refine⟨⟨(q+a.toks.length,acc++[q],fs),by dsimp only;rw[←h1,posL];simp,g2,h3.2,by simp only[List.length_append,List.length_cons,List.length_nil]at *;omega,by dsimp only;omega⟩,?_,by dsimp only;simp⟩
  repeat' ((conv=>whnf);first|(with_reducible first|apply Wx|apply W6)|apply oi|(apply fi<;>intro h)|refine⟨_,rfl,?_⟩|((with_reducible show _=_);rfl))
  all_goals try((with_reducible refine Obl.mk ?_);exact KP)
  all_goals try exact⟨by dsimp only;rw[hfl,IntWalk.i64_in _ (by omega)];congr 1;omega⟩
  all_goals exact⟨by simp[intRow]⟩
end Go.Proofs.YtjmplnfiabmalaaGreat
namespace Go.Proofs.YtjmplnfiabmalaaGreat
open Go.Sim
set_option maxRecDepth 100000
set_option maxHeartbeats 4000000
def w32 (n:Int):Int:=IntKind.i32.wrap n
theorem wrap_i32' (n:Int):IntKind.i32.wrap n=if n % 4294967296≥2147483648 then n % 4294967296 - 4294967296 else n % 4294967296:=by
 simp[IntKind.wrap,IntKind.bits,IntKind.signed]
theorem wrap_u32' (n:Int):IntKind.u32.wrap n=n % 4294967296:=by simp[IntKind.wrap,IntKind.bits,IntKind.signed]
theorem w32_range (n:Int):-2147483648≤w32 n∧w32 n≤2147483647:=by
 unfold w32;rw[wrap_i32'];split <;> omega
theorem s_impl_Wrap (n:Int):Sim.Spec Tryz.prog 250 [tvI n] (rI (w32 n)):=by
 refine spec_of_W hΓ hmix Tryz.func250 rfl (by decide) rfl ?_
 repeat' ((conv=>whnf);first|refine Or.inl ?_|apply oi|(apply fi<;>intro h)|refine⟨_,rfl,?_⟩|((with_reducible show _=_);rfl))
 all_goals try((with_reducible refine Obl.mk ?_);exact KO)
 all_goals(refine⟨congrArg (Tr.int _) ?_⟩;have:=w32_range n;unfold w32 at *;rw[wrap_i32']at *;rw[wrap_i32',wrap_u32',IntWalk.i64_in _ (by split <;> omega)];simp)
theorem and_mask (n:Int):((BitVec.ofInt IntKind.i64.bits n &&& BitVec.ofInt IntKind.i64.bits 4294967295).toNat:Int)=n % 4294967296:=by
 show((BitVec.ofInt 64 n &&& BitVec.ofInt 64 4294967295).toNat:Int)=_
 have e:(BitVec.ofInt 64 4294967295).toNat=2 ^ 32 - 1:=by decide
 rw[BitVec.toNat_and,e,Nat.and_two_pow_sub_one_eq_mod,BitVec.toNat_ofInt]
 have:((2 ^ 64:Nat):Int)=18446744073709551616:=by decide
 omega
theorem s_spec_Wrap (n:Int):Sim.Spec Tryz.prog 251 [tvI n] (rI (w32 n)):=by
 refine spec_of_W hΓ hmix Tryz.func251 rfl (by decide) rfl ?_
 have hand:IntKind.i64.wrap ((BitVec.ofInt IntKind.i64.bits n &&& BitVec.ofInt IntKind.i64.bits 4294967295).toNat:Int)=n % 4294967296:=by
  rw[and_mask,IntWalk.i64_in _ (by omega)]
 unfold w32
 rw[wrap_i32']
 repeat' ((conv=>whnf);first|refine Or.inl ?_|apply oi|(apply fi<;>intro h)|refine⟨_,rfl,?_⟩|((with_reducible show _=_);rfl))
 all_goals try((with_reducible refine Obl.mk ?_);exact KO)
 all_goals(refine⟨congrArg (Tr.int _) ?_⟩;rw[hand]at h ⊢)
 ·have h':=of_decide_eq_true h
  rw[if_pos (by omega),IntWalk.i64_in _ (by omega)]
 ·have h':=of_decide_eq_false h
  rw[if_neg (by omega)]
theorem mul_bound {x y:Int}(hx:-2147483648≤x∧x≤2147483647)(hy:-2147483648≤y∧y≤2147483647):-4611686018427387904≤x * y∧x * y≤4611686018427387904:=by
 have h:(x * y).natAbs≤2147483648 * 2147483648:=by
  rw[Int.natAbs_mul]
  exact Nat.mul_le_mul (by omega) (by omega)
 omega
def applyP (k a b:Int):Int:=
 if k=2 then w32 (w32 a+w32 b)else if k=3 then w32 (w32 a - w32 b)else if k=4 then w32 (w32 a * w32 b)
 else if(k=5∧w32 a < w32 b)∨(k=6∧w32 a=w32 b)then 1 else 0
theorem s_impl_Apply (k a b:Int):Sim.Spec Tryz.prog 219 [tvI k,tvI a,tvI b] (rI (applyP k a b)):=by
 refine spec_of_W hΓ hmix Tryz.func219 rfl (by decide) rfl ?_
 have ha:=w32_range a
 have hb:=w32_range b
 have hm:=mul_bound ha hb
 have e1:IntKind.i64.wrap (w32 a+w32 b)=w32 a+w32 b:=IntWalk.i64_in _ (by omega)
 have e2:IntKind.i64.wrap (w32 a - w32 b)=w32 a - w32 b:=IntWalk.i64_in _ (by omega)
 have e3:IntKind.i64.wrap (w32 a * w32 b)=w32 a * w32 b:=IntWalk.i64_in _ (by omega)
 unfold applyP
 repeat' ((conv=>whnf);first|refine Or.inl ?_|apply oi|(apply fi<;>intro h)|refine ci (s_impl_Wrap _) (ai rfl trivial) ?_|refine⟨_,rfl,?_⟩|((with_reducible show _=_);rfl))
 all_goals try((with_reducible refine Obl.mk ?_);exact KO)
 all_goals(refine⟨congrArg (Tr.int _) ?_⟩;simp_all;try omega)
theorem s_spec_Apply (k a b:Int):Sim.Spec Tryz.prog 229 [tvI k,tvI a,tvI b] (rI (applyP k a b)):=by
 refine spec_of_W hΓ hmix Tryz.func229 rfl (by decide) rfl ?_
 have ha:=w32_range a
 have hb:=w32_range b
 have hm:=mul_bound ha hb
 have e1:IntKind.i64.wrap (w32 a+w32 b)=w32 a+w32 b:=IntWalk.i64_in _ (by omega)
 have e2:IntKind.i64.wrap (w32 a - w32 b)=w32 a - w32 b:=IntWalk.i64_in _ (by omega)
 have e3:IntKind.i64.wrap (w32 a * w32 b)=w32 a * w32 b:=IntWalk.i64_in _ (by omega)
 unfold applyP
 repeat' ((conv=>whnf);first|refine Or.inl ?_|apply oi|(apply fi<;>intro h)|refine ci (s_spec_Wrap _) (ai rfl trivial) ?_|refine⟨_,rfl,?_⟩|((with_reducible show _=_);rfl))
 all_goals try((with_reducible refine Obl.mk ?_);exact KO)
 all_goals(refine⟨congrArg (Tr.int _) ?_⟩;simp_all;try omega)
end Go.Proofs.YtjmplnfiabmalaaGreat
namespace Go.Proofs.YtjmplnfiabmalaaGreat
open Go.Sim
set_option maxRecDepth 100000
set_option maxHeartbeats 4000000
def numE (n:Int):Ex:= .node ⟨0,n,[]⟩ []
def finC (t a b:TTok):Prop:=within t.fKind 2 6=true∧a.fKind=0∧b.fKind=0∧within (applyP t.fKind a.fNum b.fNum) 0 999=true
instance (t a b:TTok):Decidable (finC t a b):=by unfold finC;infer_instance
def finF (t:TTok):List Ex→Ex
 | [.node a [],.node b []]=>if finC t a b then numE (applyP t.fKind a.fNum b.fNum)else .node t [.node a [],.node b []]
 | fs=> .node t fs
mutual
def Ex.fold:Ex→Ex
 | .node t es=>finF t (exFold es)
def exFold:List Ex→List Ex
 | []=>[]
 | a::es=>a.fold::exFold es
end
theorem flat_toks (l:List TTok):flat (l.map TTok.tr):=flat_map _ (by intro x c hc sz rs e;subst e;simp[TTok.tr]at hc)
theorem exFold_len:∀es:List Ex,(exFold es).length=es.length
 | []=>rfl
 | a::es=>by rw[exFold,List.length_cons,exFold_len,List.length_cons]
theorem exFold_take:∀(es:List Ex) (j:Nat),(exFold es).take j=exFold (es.take j)
 | [],j=>by simp[exFold]
 | a::es,0=>by rw[List.take_zero,List.take_zero,exFold]
 | a::es,j+1=>by rw[exFold,List.take_succ_cons,List.take_succ_cons,exFold,exFold_take es j]
theorem exFold_get:∀{es:List Ex} {j:Nat} {a:Ex},es[j]?=some a→exFold (es.take (j+1))=exFold (es.take j)++[a.fold]
 | [],_,_,h=>by simp at h
 | b::es,0,a,h=>by
  rw[List.getElem?_cons_zero]at h
  injection h with h
  subst h
  rfl
 | b::es,j+1,a,h=>by
  rw[List.getElem?_cons_succ]at h
  rw[List.take_succ_cons,exFold,List.take_succ_cons,exFold,exFold_get h,List.cons_append]
theorem exToks_one (a:Ex):exToks [a]=a.toks:=by rw[exToks,exToks,List.append_nil]
theorem one_tok {f:Ex}(h:f.toks.length=1):∃a,f= .node a []:=by
 cases f with
 | node a es=>
  rw[Ex.toks,List.length_cons]at h
  cases es with
  | nil=>exact⟨a,rfl⟩
  | cons b es=>
   rw[exToks,List.length_append]at h
   have:=b.toks_pos
   omega
theorem finF_plain {t:TTok}{fs:List Ex}(h:(exToks fs).length≠2∨within t.fKind 2 6=false):finF t fs= .node t fs:=by
 unfold finF
 split
 ·rename_i a b
  rw[if_neg]
  intro hc
  rcases h with h|h
  ·exact h (by simp[exToks,Ex.toks])
  ·rw[hc.1]at h;cases h
 ·rfl
theorem finF_two (t a b:TTok):finF t [.node a [],.node b []]=if finC t a b then numE (applyP t.fKind a.fNum b.fNum)else .node t [.node a [],.node b []]:=rfl
theorem finF_le (t:TTok)(fs:List Ex):(finF t fs).toks.length≤1+(exToks fs).length:=by
 unfold finF
 split
 ·split
  ·simp[numE,Ex.toks,exToks]
  ·simp[Ex.toks,exToks]
 ·rw[Ex.toks,List.length_cons];omega
mutual
theorem Ex.fold_le:∀e:Ex,e.fold.toks.length≤e.toks.length
 | .node t es=>by
  rw[Ex.fold,Ex.toks,List.length_cons]
  have h1:=finF_le t (exFold es)
  have h2:=exFold_le es
  omega
theorem exFold_le:∀es:List Ex,(exToks (exFold es)).length≤(exToks es).length
 | []=>Nat.le_refl _
 | a::es=>by
  rw[exFold,exToks,exToks,List.length_append,List.length_append]
  have h1:=Ex.fold_le a
  have h2:=exFold_le es
  omega
end
theorem exToks_take_le:∀(es:List Ex) (j:Nat),(exToks (es.take j)).length≤(exToks es).length
 | [],j=>by rw[List.take_nil];omega
 | a::es,0=>by rw[List.take_zero,exToks];simp
 | a::es,j+1=>by
  have:=exToks_take_le es j
  rw[List.take_succ_cons,exToks,exToks,List.length_append,List.length_append]
  omega
theorem exToks_mem:∀{es:List Ex} {j:Nat} {a:Ex},es[j]?=some a→a.toks.length≤(exToks es).length
 | [],_,_,h=>by simp at h
 | b::es,0,a,h=>by
  rw[List.getElem?_cons_zero]at h
  injection h with h
  subst h
  rw[exToks,List.length_append];omega
 | b::es,j+1,a,h=>by
  rw[List.getElem?_cons_succ]at h
  have:=exToks_mem h
  rw[exToks,List.length_append];omega
theorem exsOk_get:∀{es:List Ex} {j:Nat} {a:Ex},exsOk es→es[j]?=some a→a.ok
 | [],_,_,_,h=>by simp at h
 | b::es,0,a,ho,h=>by
  rw[List.getElem?_cons_zero]at h
  injection h with h
  subst h
  exact ho.1
 | b::es,j+1,a,ho,h=>by
  rw[List.getElem?_cons_succ]at h
  exact exsOk_get ho.2 h
theorem ar_two {t:TTok}(ho:tokOk t=true)(hk:within t.fKind 2 6=true):ar t=2:=by
 have:=within_iff.1 hk
 unfold ar arity
 rw[if_neg (by simp[ho]),if_neg (by omega),if_neg (by omega)]
 rfl
theorem two_of {α:Type}{l:List α}(h:l.length=2):∃a b,l=[a,b]:=by
 match l,h with
 | [a,b],_=>exact⟨a,b,rfl⟩
theorem s_spec_l06Fold:∀(n:Nat) (e:Ex),e.toks.length≤n→∀(l:List TTok) (p:Nat),l.length≤1048576→toksShort l→e.ok→stands l p e→Sim.Spec Tryz.prog 242 [tvL 3 (l.map TTok.tr),tvI p] (rL 3 (e.fold.toks.map TTok.tr))
 | 0,e,hn,_,_,_,_,_,_=>by have:=e.toks_pos;omega
 | n+1,.node t es,hn,l,p,hl,hsh,ho,hs=>by
  refine spec_of_Wo hΓ hmix Tryz.func242 rfl (by decide) rfl ?_
  have hlen:(l.map TTok.tr).length=l.length:=by simp
  have hle:=stands_le hs
  obtain⟨ht,hsa⟩:=stands_tok hs
  have hO:=s_spec_Operands l p t es hl hsh ho hs
  have hpl:((posL (p+1) es).map nR).length=es.length:=by rw[List.length_map,posL_len]
  rw[Ex.toks,List.length_cons]at hn hle
  rw[Ex.fold]
  have hfe:=exFold_le es
  obtain⟨e1,e2⟩:=ar_eq ho.1
  have hel:es.length=ar t:=ho.2.1
  repeat' ((conv=>whnf);first|(with_reducible first|apply Wx|apply W6)|apply oi|(apply fi<;>intro h)|refine cl hO ?_|refine⟨p,t.tr,rfl,map_get ht,?_⟩|refine⟨_,rfl,?_⟩|((with_reducible show _=_);rfl))
  all_goals try((with_reducible refine Obl.mk ?_);exact KP)
  conv=>whnf
  refine⟨{j:Nat // j≤es.length},fun q=>⟨[(0,.r (.c (.t (.lst 3 (l.map TTok.tr))))),(1,tI .i64 (p:Int)),(5,.r (.c (.own (5,0,0)))),(6,.r (.c (.own (6,0,0)))),(7,tI .i64 (q.1:Int))],[((5,0,0),some (.arr false 3 ((t::exToks (exFold (es.take q.1))).map TTok.tr))),((6,0,0),some (.arr true 1 ((posL (p+1) es).map nR)))],[5,6]⟩,fun q=>es.length - q.1,⟨0,by omega⟩,?_,?_⟩
  ·skip
   repeat' ((conv=>whnf);first|(with_reducible first|apply Wx|apply W6)|apply oi|(apply fi<;>intro h)|refine⟨_,rfl,?_⟩|((with_reducible show _=_);rfl))
   all_goals try((with_reducible refine Obl.mk ?_);exact KP)
   all_goals try exact⟨by simp[exFold,exToks];rfl⟩
  intro⟨j,hj⟩
  dsimp only at hj ⊢
  by_cases hlt:j < es.length
  ·obtain⟨a,ha⟩:=get_of_lt hlt
   obtain⟨q,hq,hqs⟩:=posL_at hsa ha
   have hal:=exToks_mem ha
   have hR:=s_spec_l06Fold n a (by omega) l q hl hsh (exsOk_get ho.2.2 ha) hqs
   have hjl:j < ((posL (p+1) es).map nR).length:=by rw[hpl];exact hlt
   have hfa:=a.fold_le
   have hft:=exToks_take_le (exFold es) j
   rw[exFold_take]at hft
   have hfl1:((t::exToks (exFold (es.take j))).map TTok.tr).length=1+(exToks (exFold (es.take j))).length:=by simp;omega
   have hfl2:(a.fold.toks.map TTok.tr).length=a.fold.toks.length:=by simp
   repeat' ((conv=>whnf);first|(with_reducible first|apply Wx|apply W6)|apply oi|(apply fi<;>intro h)|refine cl hR ?_|refine⟨j,rfl,hjl,?_⟩|refine⟨(nR q),(map_get hq),?_⟩|refine⟨_,rfl,?_⟩|((with_reducible show _=_);rfl))
   all_goals try((with_reducible refine Obl.mk ?_);exact KP)
   all_goals try exact KX
   all_goals try exact⟨⟨by rw[hfl1,hfl2];(try dsimp only);omega,by rw[hfl1,hfl2];(try dsimp only);omega⟩⟩
   conv=>whnf
   refine⟨⟨j+1,by omega⟩,?_,by dsimp only;omega⟩
   repeat' ((conv=>whnf);first|(with_reducible first|apply Wx|apply W6)|apply oi|(apply fi<;>intro h)|refine⟨_,rfl,?_⟩|((with_reducible show _=_);rfl))
   all_goals try((with_reducible refine Obl.mk ?_);exact KP)
   all_goals try exact⟨K2⟩
   all_goals exact⟨by rw[exFold_get ha,exToks_append,exToks_one];simp⟩
  ·have hje:j=es.length:=by omega
   subst hje
   rw[List.take_length]
   have hB:=s_spec_l01In t.fKind 2 6
   have hFl:=exFold_len es
   have hout:((t::exToks (exFold es)).map TTok.tr).length=1+(exToks (exFold es)).length:=by simp;omega
   generalize exFold es=F at *
   cases hk:within t.fKind 2 6 with
   | false=>
    rw[hk]at hB
    rw[finF_plain (.inr hk),Ex.toks]
    repeat' ((conv=>whnf);first|(with_reducible first|apply Wx|apply W6)|apply oi|(apply fi<;>intro h)|refine⟨p,t.tr,rfl,map_get ht,?_⟩|refine cl hB ?_|refine⟨_,rfl,?_⟩|((with_reducible show _=_);rfl))
    all_goals try((with_reducible refine Obl.mk ?_);exact KP)
    all_goals try exact KX
    all_goals exact⟨⟨rfl,flat_toks _⟩⟩
   | true=>
    rw[hk]at hB
    by_cases h2:(exToks F).length=2
    ·obtain⟨f1,f2,rfl⟩:=two_of (hFl.trans (hel.trans (ar_two ho.1 hk)))
     rw[exToks,exToks_one,List.length_append]at h2
     have p1:=f1.toks_pos
     have p2:=f2.toks_pos
     obtain⟨a,rfl⟩:=one_tok (f:=f1) (by omega)
     obtain⟨b,rfl⟩:=one_tok (f:=f2) (by omega)
     have e3:t::exToks [Ex.node a [],Ex.node b []]=[t,a,b]:=by simp[exToks,Ex.toks]
     have e4:(Ex.node t [Ex.node a [],Ex.node b []]).toks=[t,a,b]:=by rw[Ex.toks];exact e3
     rw[e3]
     have h1l:1 < ([t,a,b].map TTok.tr).length:=by simp
     have h2l:2 < ([t,a,b].map TTok.tr).length:=by simp
     have hAp:=s_spec_Apply t.fKind a.fNum b.fNum
     have hB2:=s_spec_l01In (applyP t.fKind a.fNum b.fNum) 0 999
     rw[finF_two]
     by_cases hc:finC t a b
     ·rw[if_pos hc]
      obtain⟨_,c1,c2,c3⟩:=hc
      rw[c3]at hB2
      have e5:(numE (applyP t.fKind a.fNum b.fNum)).toks=[⟨0,applyP t.fKind a.fNum b.fNum,[]⟩]:=by simp[numE,Ex.toks,exToks]
      rw[e5]
      generalize applyP t.fKind a.fNum b.fNum=ap at *
      repeat' ((conv=>whnf);first|(with_reducible first|apply Wx|apply W6)|apply oi|(apply fi<;>intro h)|refine⟨p,t.tr,rfl,map_get ht,?_⟩|refine cl hB ?_|refine⟨1,rfl,h1l,?_⟩|refine⟨2,rfl,h2l,?_⟩|refine⟨a.tr,rfl,?_⟩|refine⟨b.tr,rfl,?_⟩|refine cl hAp ?_|refine cl hB2 ?_|refine⟨_,rfl,?_⟩|((with_reducible show _=_);rfl))
      all_goals try((with_reducible refine Obl.mk ?_);exact KP)
      all_goals try exact KX
      all_goals try(exfalso;simp_all;done)
     ·rw[if_neg hc,e4]
      have hc2:∀w,within (applyP t.fKind a.fNum b.fNum) 0 999=w→a.fKind=0→b.fKind=0→w=true→False:=fun w h1 h2 h3 h4=>hc ⟨hk,h2,h3,h1.trans h4⟩
      cases hw:within (applyP t.fKind a.fNum b.fNum) 0 999 with
      | true=>
       rw[hw]at hB2
       have hc3:=hc2 true hw
       generalize applyP t.fKind a.fNum b.fNum=ap at *
       repeat' ((conv=>whnf);first|(with_reducible first|apply Wx|apply W6)|apply oi|(apply fi<;>intro h)|refine⟨p,t.tr,rfl,map_get ht,?_⟩|refine cl hB ?_|refine⟨1,rfl,h1l,?_⟩|refine⟨2,rfl,h2l,?_⟩|refine⟨a.tr,rfl,?_⟩|refine⟨b.tr,rfl,?_⟩|refine cl hAp ?_|refine cl hB2 ?_|refine⟨_,rfl,?_⟩|((with_reducible show _=_);rfl))
       all_goals try((with_reducible refine Obl.mk ?_);exact KP)
       all_goals try exact KX
       all_goals try exact⟨⟨rfl,flat_toks _⟩⟩
       all_goals try(exfalso;simp_all;done)
      | false=>
       rw[hw]at hB2
       generalize applyP t.fKind a.fNum b.fNum=ap at *
       repeat' ((conv=>whnf);first|(with_reducible first|apply Wx|apply W6)|apply oi|(apply fi<;>intro h)|refine⟨p,t.tr,rfl,map_get ht,?_⟩|refine cl hB ?_|refine⟨1,rfl,h1l,?_⟩|refine⟨2,rfl,h2l,?_⟩|refine⟨a.tr,rfl,?_⟩|refine⟨b.tr,rfl,?_⟩|refine cl hAp ?_|refine cl hB2 ?_|refine⟨_,rfl,?_⟩|((with_reducible show _=_);rfl))
       all_goals try((with_reducible refine Obl.mk ?_);exact KP)
       all_goals try exact KX
       all_goals try exact⟨⟨rfl,flat_toks _⟩⟩
       all_goals try(exfalso;simp_all;done)
    ·rw[finF_plain (.inl h2),Ex.toks]
     repeat' ((conv=>whnf);first|(with_reducible first|apply Wx|apply W6)|apply oi|(apply fi<;>intro h)|refine⟨p,t.tr,rfl,map_get ht,?_⟩|refine cl hB ?_|refine⟨_,rfl,?_⟩|((with_reducible show _=_);rfl))
     all_goals try((with_reducible refine Obl.mk ?_);exact KP)
     all_goals try exact KX
     all_goals try exact⟨⟨rfl,flat_toks _⟩⟩
     all_goals try(exfalso;rw[hout]at *;simp at *;omega)
end Go.Proofs.YtjmplnfiabmalaaGreat
namespace Go.Proofs.YtjmplnfiabmalaaGreat
open Go.Sim
set_option maxRecDepth 100000
set_option maxHeartbeats 4000000
structure Grow (n:Nat) (s s':Gs):Prop where
 ge:s.items.length≤s'.items.length
 le:s'.items.length≤s.items.length+n
 most:s.most≤s'.most
 cap:s.most≤1000→s'.most≤1000
theorem Grow.refl (s:Gs):Grow 0 s s:=⟨Nat.le_refl _,Nat.le_refl _,Int.le_refl _,id⟩
theorem Grow.trans {n m:Nat}{a b c:Gs}(h:Grow n a b)(h':Grow m b c):Grow (n+m) a c:=⟨Nat.le_trans h.ge h'.ge,by have:=h.le;have:=h'.le;omega,Int.le_trans h.most h'.most,fun x=>h'.cap (h.cap x)⟩
theorem Grow.mono {n m:Nat}{a b:Gs}(h:Grow n a b)(hn:n≤m):Grow m a b:=⟨h.ge,by have:=h.le;omega,h.most,h.cap⟩
theorem emitG_grow (C:Cx)(s:Gs)(d code arg line:Int)(chain:List Int):Grow 1 s (emitG C s d code arg line chain):=⟨by simp[emitG],by simp[emitG],Int.le_refl _,id⟩
theorem setArg_len' (l:List TItem)(j v:Int):(setArg l j v).length=l.length:=by
 unfold setArg
 split
 ·split
  ·rw[List.length_set]
  ·rfl
 ·rfl
theorem patchL_len (v:Int):∀(js:List Int) (l:List TItem),(patchL l v js).length=l.length
 | [],_=>rfl
 | j::js,l=>by rw[patchL,patchL_len v js,setArg_len']
def tokC:Nat→Nat
 | 0=>1
 | n+1=>30+9 * (20 * tokC n+3)
theorem tokC_pos:∀n,1≤tokC n
 | 0=>Nat.le_refl _
 | n+1=>by rw[tokC];omega
theorem tokC_le:∀{n m:Nat},n≤m→tokC n≤tokC m:=by
 intro n m h
 induction h with
 | refl=>exact Nat.le_refl _
 | step _ ih=>rw[tokC];omega
theorem tokC_3 {n:Nat}(h:n≤3):tokC n≤8679837:=Nat.le_trans (tokC_le h) (by simp[tokC])
def isFun (C:Cx)(g:Nat):Prop:=∃ln,C.p[g]?=some ln∧ln.fKind=0
section
variable {C:Cx} {x:Sc} {ins:List Nat} {rep:Sc→List Nat→Nat→Nat→Int→Gs→Gs} {line:Nat} {lev:Nat}
theorem storesG_grow (y:Sc)(chain:List Int)(line:Int):∀(n:Nat) (d:Int) (s:Gs),Grow n s (storesG C y chain line n d s)
 | 0,d,s=>Grow.refl s
 | n+1,d,s=>by
  rw[storesG]
  exact((emitG_grow C s d _ _ _ _).trans (storesG_grow y chain line n (d - 1) _)).mono (by omega)
theorem zerosG_grow (y:Sc)(chain:List Int)(line d:Int):∀(n i:Nat) (s:Gs),Grow (2 * n) s (zerosG C y chain line d n i s)
 | 0,i,s=>Grow.refl s
 | n+1,i,s=>by
  rw[zerosG]
  exact(((emitG_grow C s d _ _ _ _).trans (emitG_grow C _ (d+1) _ _ _ _)).trans (zerosG_grow y chain line d n (i+1) _)).mono (by omega)
theorem finG_grow (hrep:∀g d s,isFun C g→replB C ins g s.items.length=true→Grow (tokC lev) s (rep x ins line g d s))(t:TTok)(d:Int)(s:Gs):Grow (tokC lev) s (finG C rep x ins line t d s):=by
 have hp:=tokC_pos lev
 unfold finG
 split
 ·exact(emitG_grow ..).mono hp
 ·split
  ·exact(emitG_grow ..).mono hp
  ·split
   ·split
    ·rename_i g hg
     split
     ·rename_i hr
      obtain⟨_,ln,h1,h2,_⟩:=find_some hg
      exact hrep g d s ⟨ln,h1,h2⟩ hr
     ·exact(emitG_grow ..).mono hp
    ·exact(Grow.refl s).mono (by omega)
   ·exact(emitG_grow ..).mono hp
mutual
theorem genE_grow (hrep:∀g d s,isFun C g→replB C ins g s.items.length=true→Grow (tokC lev) s (rep x ins line g d s)):∀(e:Ex) (d:Int) (s:Gs),Grow (e.toks.length * tokC lev) s (genE C rep x ins line e d s)
 | .node t es,d,s=>by
  rw[genE,Ex.toks,List.length_cons]
  exact((genEs_grow hrep es d s).trans (finG_grow hrep t _ _)).mono (by rw[Nat.add_mul];omega)
theorem genEs_grow (hrep:∀g d s,isFun C g→replB C ins g s.items.length=true→Grow (tokC lev) s (rep x ins line g d s)):∀(es:List Ex) (d:Int) (s:Gs),Grow ((exToks es).length * tokC lev) s (genEs C rep x ins line es d s)
 | [],d,s=>by rw[genEs,exToks];exact(Grow.refl s).mono (by omega)
 | a::es,d,s=>by
  rw[genEs,exToks,List.length_append,Nat.add_mul]
  exact(genE_grow hrep a d s).trans (genEs_grow hrep es (d+1) _)
end
theorem genEs_take (C:Cx)(rep:Sc→List Nat→Nat→Nat→Int→Gs→Gs)(x:Sc)(ins:List Nat)(line:Nat):∀{es:List Ex} {j:Nat} {a:Ex} (d:Int) (s:Gs),es[j]?=some a→genEs C rep x ins line (es.take (j+1)) d s=genE C rep x ins line a (d+j) (genEs C rep x ins line (es.take j) d s)
 | [],_,_,_,_,h=>by simp at h
 | b::es,0,a,d,s,h=>by
  rw[List.getElem?_cons_zero]at h
  injection h with h
  subst h
  simp[genEs]
 | b::es,j+1,a,d,s,h=>by
  rw[List.getElem?_cons_succ]at h
  rw[List.take_succ_cons,genEs,genEs_take C rep x ins line (d+1) _ h,List.take_succ_cons,genEs]
  congr 1
  omega
theorem exToks_take_get:∀{es:List Ex} {j:Nat} {a:Ex},es[j]?=some a→(exToks (es.take (j+1))).length=(exToks (es.take j)).length+a.toks.length
 | [],_,_,h=>by simp at h
 | b::es,0,a,h=>by
  rw[List.getElem?_cons_zero]at h
  injection h with h
  subst h
  simp[exToks]
 | b::es,j+1,a,h=>by
  rw[List.getElem?_cons_succ]at h
  rw[List.take_succ_cons,exToks,List.length_append,exToks_take_get h,List.take_succ_cons,exToks,List.length_append]
  omega
theorem inSc_ok (hC:CxOk C)(hx:ScOk C x ins)(line:Nat){g:Nat}(hg:isFun C g):ScOk C (inSc C x line g) (ins++[g]):=by
 obtain⟨e,_,_,_,_,h8⟩:=hx.endE hC
 have hle:=hx.argLe hC
 refine⟨hg,rfl,?_,?_,?_,?_,by simp[inSc]⟩
 ·simp only[inSc,topOf,List.length_append,List.length_cons,List.length_nil]
  have:=hx.first
  split
  ·rename_i ho
   rw[hx.args ho]
   omega
  ·omega
 ·simp only[inSc,List.length_append,List.length_cons,List.length_nil]
  have:=hx.chain
  omega
 ·simp[inSc]
 ·simp[inSc]
theorem topOf_le (hC:CxOk C)(hx:ScOk C x ins):0≤topOf C x∧topOf C x≤8 * ins.length+8:=by
 obtain⟨e,_,_,_,_,h8⟩:=hx.endE hC
 have hle:=hx.argLe hC
 have:=hx.first
 unfold topOf
 split
 ·rename_i ho
  rw[hx.args ho]
  omega
 ·omega
theorem isFun_locals (hC:CxOk C){g:Nat}(hg:isFun C g):(localsOf C.p (g:Int)).length≤8∧argsN C.p g≤(localsOf C.p (g:Int)).length:=by
 obtain⟨ln,h1,h2⟩:=hg
 obtain⟨e,h3,h4,h5,_⟩:=hC.fn _ _ h1 h2
 rw[argsN,h1]
 exact⟨h4,h5⟩
theorem preG_grow (hC:CxOk C)(hx:ScOk C x ins)(hi:ins.length≤10)(line:Nat){g:Nat}(hg:isFun C g)(d:Int)(s:Gs):Grow 16 s (preG C x line g d s):=by
 obtain⟨h1,h2⟩:=isFun_locals hC hg
 have ht:=topOf_le hC hx
 have h0:Grow 0 s ⟨s.items,max s.most (topOf C x+(localsOf C.p (g:Int)).length),s.start⟩:=⟨Nat.le_refl _,Nat.le_refl _,by dsimp only;omega,fun h=>by dsimp only;omega⟩
 unfold preG
 exact((h0.trans (storesG_grow _ _ _ _ _ _)).trans (zerosG_grow _ _ _ _ _ _ _)).mono (by omega)
theorem spaceG_grow (x:Sc)(line:Nat)(d:Int)(s:Gs):Grow 1 s (spaceG C x line d s):=by
 unfold spaceG
 split
 ·exact emitG_grow ..
 ·exact(Grow.refl s).mono (by omega)
theorem leaveG_grow (x:Sc)(k:Nat)(last:Bool)(d:Int)(L:Ls):Grow 1 L.g (leaveG C x k last d L).g:=by
 unfold leaveG
 split
 ·split
  ·exact emitG_grow ..
  ·exact emitG_grow ..
 ·split
  ·exact(Grow.refl _).mono (by omega)
  ·exact emitG_grow ..
theorem Grow.set {n:Nat}{a b:Gs}{l:List TItem}(h:Grow n a b)(hl:l.length=b.items.length):Grow n a ⟨l,b.most,b.start⟩:=⟨by have:=h.ge;simp only[hl];omega,by have:=h.le;simp only[hl];omega,h.most,h.cap⟩
theorem genE_grow' (hrep:∀g d s,isFun C g→replB C ins g s.items.length=true→Grow (tokC lev) s (rep x ins line g d s))(hC:CxOk C){k:Nat}{ln:TLine}(hk:C.p[k]?=some ln)(he:exprOk ln.fExpr=true)(d:Int)(s:Gs):Grow (20 * tokC lev) s (genE C rep x ins line (exL ln.fExpr) d s):=by
 have h1:=(exL_ok he).2
 have h2:=(hC.line _ _ hk).2.2.2.1
 rw[h1]at h2
 exact(genE_grow hrep _ d s).mono (Nat.mul_le_mul_right _ h2)
theorem stepA_grow (hrep:∀line g d s,isFun C g→replB C ins g s.items.length=true→Grow (tokC lev) s (rep x ins line g d s))(hC:CxOk C){k:Nat}{ln:TLine}(hk:C.p[k]?=some ln)(h0:ln.fKind≠0)(base:Int)(L:Ls):Grow (20 * tokC lev+2) L.g (stepA C rep x ins base k ln L).g:=by
 unfold stepA
 split
 ·exact((emitG_grow ..).set (setArg_len' _ _ _)).mono (by omega)
 ·split
  ·split
   ·refine Grow.mono (n:=1+1) ?_ (by omega)
    exact(emitG_grow ..).trans (leaveG_grow x k true (base+1) {L with g:=emitG C L.g base 0 0 k x.chain})
   ·split
    ·exact(emitG_grow ..).mono (by omega)
    ·exact(Grow.refl _).mono (by omega)
  ·rename_i h4 h7
   have hl:=hC.line _ _ hk
   have h20:Grow (20 * tokC lev) L.g (genE C rep x ins k (exL ln.fExpr) base ⟨L.g.items,L.g.most,true⟩):=by
    have:=genE_grow' (fun g d s=>hrep k g d s) hC hk (hl.2.2.2.2 (by omega)) base ⟨L.g.items,L.g.most,true⟩
    exact⟨this.ge,this.le,this.most,this.cap⟩
   split
   ·exact(h20.trans (emitG_grow ..)).mono (by omega)
   ·split
    ·exact(h20.trans (emitG_grow ..)).mono (by omega)
    ·split
     ·refine Grow.mono (n:=20 * tokC lev+1) ?_ (by omega)
      exact h20.trans (leaveG_grow x k false (base+1) {L with g:=genE C rep x ins k (exL ln.fExpr) base ⟨L.g.items,L.g.most,true⟩,heads:=L.heads.set k L.g.items.length})
     ·exact(h20.trans (emitG_grow ..)).mono (by omega)
theorem stepB_grow (k:Nat)(ln:TLine)(L:Ls):Grow 0 L.g (stepB C x k ln L).g:=by
 unfold stepB
 split
 ·exact(Grow.refl _).set (setArg_len' _ _ _)
 ·exact Grow.refl _
theorem runL_grow (hrep:∀line g d s,isFun C g→replB C ins g s.items.length=true→Grow (tokC lev) s (rep x ins line g d s))(hC:CxOk C)(base:Int):∀(n k:Nat) (L:Ls),(∀i y,k≤i→i < k+n→C.p[i]?=some y→y.fKind≠0)→Grow (n * (20 * tokC lev+3)) L.g (runL C rep x ins base n k L).g
 | 0,k,L,_=>(Grow.refl _).mono (by omega)
 | n+1,k,L,h=>by
  rw[runL]
  split
  ·rename_i ln hk
   exact(((stepA_grow hrep hC hk (h k ln (Nat.le_refl _) (by omega) hk) base L).trans (stepB_grow k ln _)).trans (runL_grow hrep hC base n (k+1) _ fun i y h1 h2 hy=>h i y (by omega) (by omega) hy)).mono (by rw[Nat.add_mul];omega)
  ·exact(Grow.refl _).mono (by omega)
theorem linesG_grow (hrep:∀line g d s,isFun C g→replB C ins g s.items.length=true→Grow (tokC lev) s (rep x ins line g d s))(hC:CxOk C)(hx:ScOk C x ins)(base:Int)(s:Gs):Grow ((endL' C.p x.f - x.f) * (20 * tokC lev+3)) s (linesG C rep x ins base s).1:=by
 unfold linesG
 obtain⟨ln,h1,h2⟩:=hx.fn
 obtain⟨e,h3,_,_,h4⟩:=hC.fn _ _ h1 h2
 obtain⟨e',g3,_,_,g5,_⟩:=hx.endE hC
 rw[h3]at g3
 injection g3 with g3
 subst g3
 rw[g5]
 refine runL_grow hrep hC base (e - x.f) (x.f+1) (startL C s) fun i y k1 k2 hy=>?_
 by_cases hie:i=e
 ·subst hie
  obtain⟨z,hz,h7⟩:=endAt_kind h3
  rw[hy]at hz
  injection hz with hz
  subst hz
  omega
 ·exact(h4 i y (by omega) (by omega) hy).1
end
theorem replB_spec {C:Cx}{ins:List Nat}{g n:Nat}(h:replB C ins g n=true):(ins.length:Int)≤C.b.fInline∧endOf C.p (g:Int) - g≤9∧n < 200∧g∉ins:=by
 unfold replB at h
 simp only[Bool.and_eq_true,decide_eq_true_eq,Bool.not_eq_true',List.contains_eq_mem,decide_eq_false_iff_not]at h
 exact⟨h.1,h.2.1,h.2.2.1,h.2.2.2⟩
theorem repN_grow {C:Cx}(hC:CxOk C):∀(lev:Nat) {x:Sc} {ins:List Nat} (line g:Nat) (d:Int) (s:Gs),ScOk C x ins→isFun C g→replB C ins g s.items.length=true→Grow (tokC lev) s (repN C lev x ins line g d s)
 | 0,x,ins,line,g,d,s,hx,hg,hr=>(Grow.refl s).mono (by omega)
 | lev+1,x,ins,line,g,d,s,hx,hg,hr=>by
  obtain⟨r1,r2,_,_⟩:=replB_spec hr
  have hin:=hC.inl
  have hy:=inSc_ok hC hx line hg
  have h1:=preG_grow hC hx (by omega) line hg d s
  have h2:=spaceG_grow (C:=C) x line (d - argsN C.p g) (preG C x line g d s)
  have h3:=linesG_grow (lev:=lev) (rep:=repN C lev) (fun line g d s hg hr=>repN_grow hC lev line g d s hy hg hr) hC hy (d - argsN C.p g) (spaceG C x line (d - argsN C.p g) (preG C x line g d s))
  obtain⟨e,e1,e2,e3,e4,_⟩:=hy.endE hC
  have e5:endOf C.p (g:Int)=(e:Int):=by rw[endOf_at];exact endI_some e1
  have e6:endL' C.p (inSc C x line g).f - (inSc C x line g).f≤9:=by rw[e4];show e - g≤9;omega
  have h4:=((h1.trans h2).trans h3).mono (m:=tokC (lev+1)) (by
   rw[tokC]
   have:=Nat.mul_le_mul_right (20 * tokC lev+3) e6
   omega)
  show Grow _ s (replG C (linesG C (repN C lev)) x ins line g d s)
  unfold replG
  exact h4.set (patchL_len _ _ _)
def lvOk (L:Ls):Prop:=L.lv.length≤L.g.items.length∧∀j∈L.lv,0≤j∧j < L.g.items.length
section
variable {C:Cx} {x:Sc} {ins:List Nat} {rep:Sc→List Nat→Nat→Nat→Int→Gs→Gs} {lev:Nat}
theorem lvOk.grow {n:Nat}{L L':Ls}(h:lvOk L)(hl:L'.lv=L.lv)(hg:Grow n L.g L'.g):lvOk L':=⟨by rw[hl];exact Nat.le_trans h.1 hg.ge,fun j hj=>by
 rw[hl]at hj
 have:=h.2 j hj
 have:=hg.ge
 omega⟩
theorem leaveG_lv {L:Ls}(h:lvOk L)(k:Nat)(last:Bool)(d:Int):lvOk (leaveG C x k last d L):=by
 have hg:=leaveG_grow (C:=C) x k last d L
 unfold leaveG at hg ⊢
 split
 ·rename_i ho
  rw[if_pos ho]at hg
  split
  ·rename_i hf;rw[if_pos hf]at hg;exact h.grow rfl hg
  ·rename_i hf;rw[if_neg hf]at hg;exact h.grow rfl hg
 ·split
  ·exact h
  ·refine⟨by have:=h.1;simp only[emitG,List.length_append,List.length_cons,List.length_nil];omega,?_⟩
   intro j hj
   simp only[List.mem_append,List.mem_cons,List.not_mem_nil,or_false]at hj
   simp only[emitG,List.length_append,List.length_cons,List.length_nil]
   rcases hj with hj|rfl
   ·have:=h.2 j hj;omega
   ·omega
theorem stepA_lv (hrep:∀line g d s,isFun C g→replB C ins g s.items.length=true→Grow (tokC lev) s (rep x ins line g d s))(hC:CxOk C){k:Nat}{ln:TLine}(hk:C.p[k]?=some ln)(h0:ln.fKind≠0)(base:Int){L:Ls}(h:lvOk L):lvOk (stepA C rep x ins base k ln L):=by
 have hg:=stepA_grow (x:=x) (ins:=ins) (rep:=rep) (lev:=lev) hrep hC hk h0 base L
 unfold stepA at hg ⊢
 split
 ·rename_i h4;rw[if_pos h4]at hg;exact h.grow rfl hg
 ·rename_i h4
  rw[if_neg h4]at hg
  split
  ·rename_i h7
   rw[if_pos h7]at hg
   split
   ·exact leaveG_lv (h.grow (L':={L with g:=emitG C L.g base 0 0 k x.chain}) rfl (emitG_grow ..)) _ _ _
   ·rename_i ho
    rw[if_neg ho]at hg
    split
    ·rename_i h5;rw[if_pos h5]at hg;exact h.grow rfl hg
    ·exact h
  ·rename_i h7
   have hl:=hC.line _ _ hk
   have h20:=genE_grow' (x:=x) (ins:=ins) (rep:=rep) (line:=k) (lev:=lev) (fun g d s=>hrep k g d s) hC hk (hl.2.2.2.2 (by omega)) base ⟨L.g.items,L.g.most,true⟩
   have hL1:lvOk {L with g:=genE C rep x ins k (exL ln.fExpr) base ⟨L.g.items,L.g.most,true⟩,heads:=L.heads.set k L.g.items.length}:=h.grow rfl ⟨h20.ge,h20.le,h20.most,h20.cap⟩
   split
   ·exact hL1.grow rfl (emitG_grow ..)
   ·split
    ·exact hL1.grow rfl (emitG_grow ..)
    ·split
     ·exact leaveG_lv hL1 _ _ _
     ·exact hL1.grow rfl (emitG_grow ..)
theorem stepB_lv (k:Nat)(ln:TLine){L:Ls}(h:lvOk L):lvOk (stepB C x k ln L):=by
 have hg:=stepB_grow (C:=C) (x:=x) k ln L
 unfold stepB at hg ⊢
 split
 ·rename_i h1;rw[if_pos h1]at hg;exact h.grow rfl hg
 ·exact h
theorem runL_lv (hrep:∀line g d s,isFun C g→replB C ins g s.items.length=true→Grow (tokC lev) s (rep x ins line g d s))(hC:CxOk C)(base:Int):∀(n k:Nat) (L:Ls),(∀i y,k≤i→i < k+n→C.p[i]?=some y→y.fKind≠0)→lvOk L→lvOk (runL C rep x ins base n k L)
 | 0,k,L,_,h=>h
 | n+1,k,L,hf,h=>by
  rw[runL]
  split
  ·rename_i ln hk
   exact runL_lv hrep hC base n (k+1) _ (fun i y h1 h2 hy=>hf i y (by omega) (by omega) hy) (stepB_lv k ln (stepA_lv hrep hC hk (hf k ln (Nat.le_refl _) (by omega) hk) base h))
  ·exact h
theorem lines_kinds (hC:CxOk C)(hx:ScOk C x ins){e:Nat}(he:endAt C.p x.f=some e){i:Nat}{y:TLine}(h1:x.f+1≤i)(h2:i≤e)(hy:C.p[i]?=some y):y.fKind≠0:=by
 obtain⟨ln,g1,g2⟩:=hx.fn
 obtain⟨e',h3,_,_,h4⟩:=hC.fn _ _ g1 g2
 rw[he]at h3
 injection h3 with h3
 subst h3
 by_cases hie:i=e
 ·subst hie
  obtain⟨z,hz,h7⟩:=endAt_kind he
  rw[hy]at hz
  injection hz with hz
  subst hz
  omega
 ·exact(h4 i y (by omega) (by omega) hy).1
theorem linesG_lv (hrep:∀line g d s,isFun C g→replB C ins g s.items.length=true→Grow (tokC lev) s (rep x ins line g d s))(hC:CxOk C)(hx:ScOk C x ins)(base:Int)(s:Gs):(linesG C rep x ins base s).2.length≤(linesG C rep x ins base s).1.items.length∧∀j∈(linesG C rep x ins base s).2,0≤j∧j < ((linesG C rep x ins base s).1.items.length:Int):=by
 unfold linesG
 obtain⟨e,g3,g4,_,g5,_⟩:=hx.endE hC
 rw[g5]
 exact runL_lv hrep hC base (e - x.f) (x.f+1) (startL C s) (fun i y k1 k2 hy=>lines_kinds hC hx g3 k1 (by omega) hy) ⟨by simp[startL],by intro j hj;simp[startL]at hj⟩
end
theorem patchL_snoc (v j:Int):∀(js:List Int) (l:List TItem),patchL l v (js++[j])=setArg (patchL l v js) j v
 | [],l=>by rw[List.nil_append,patchL,patchL,patchL]
 | a::js,l=>by rw[List.cons_append,patchL,patchL_snoc v j js,patchL]
end Go.Proofs.YtjmplnfiabmalaaGreat
namespace Go.Proofs.YtjmplnfiabmalaaGreat
open Go.Sim
set_option maxRecDepth 100000
set_option maxHeartbeats 4000000
def patchE (l:List TItem)(v to:Int):List (Int×Int)→List TItem
 | []=>l
 | e::r=>patchE (if e.1=to then setArg l e.2 v else l) v to r
theorem patchE_len (v to:Int):∀(E:List (Int×Int)) (l:List TItem),(patchE l v to E).length=l.length
 | [],l=>rfl
 | e::r,l=>by
  rw[patchE,patchE_len v to r]
  split
  ·rw[setArg_len']
  ·rfl
theorem patchE_append (v to:Int):∀(A B:List (Int×Int)) (l:List TItem),patchE l v to (A++B)=patchE (patchE l v to A) v to B
 | [],B,l=>rfl
 | a::A,B,l=>by rw[List.cons_append,patchE,patchE_append v to A B,patchE]
theorem patchE_snoc (v to:Int)(e:Int×Int)(E:List (Int×Int))(l:List TItem):patchE l v to (E++[e])=if e.1=to then setArg (patchE l v to E) e.2 v else patchE l v to E:=by
 rw[patchE_append];rfl
def jumps (p:List TLine)(i:Nat):Prop:=kindAt p i=3∨kindAt p i=4∨kindAt p i=5
instance (p:List TLine) (i:Nat):Decidable (jumps p i):=by unfold jumps;infer_instance
def toOf (p:List TLine)(i:Nat):Int:=if kindAt p i=4 then endOf p (ownOf p i:Int)+1 else if kindAt p i=3∧0≤elseOf p (i:Int)then - elseOf p (i:Int)else endOf p (i:Int)+1
def entry (p:List TLine)(pos:List Int)(i:Nat):List (Int×Int):=if jumps p i then [(toOf p i,atL pos i)]else []
def exitsF (p:List TLine)(pos:List Int)(f:Nat):Nat→List (Int×Int)
 | 0=>[]
 | n+1=>exitsF p pos f n++entry p pos (f+n)
theorem exitsF_len (p:List TLine)(pos:List Int)(f:Nat):∀n,(exitsF p pos f n).length≤n
 | 0=>Nat.le_refl _
 | n+1=>by
  have:=exitsF_len p pos f n
  rw[exitsF,List.length_append,entry]
  split <;> simp <;> omega
theorem atL_set {l:List Int}{k i:Nat}{v:Int}(h:i≠k):atL (l.set k v) i=atL l i:=by
 unfold atL
 rw[List.getElem?_set_ne (fun e=>h e.symm)]
theorem atL_self {l:List Int}{k:Nat}{v:Int}(h:k < l.length):atL (l.set k v) k=v:=by
 unfold atL
 rw[List.getElem?_set_self h]
 rfl
theorem exitsF_set (p:List TLine)(pos:List Int)(f k:Nat)(v:Int):∀n,f+n≤k→exitsF p (pos.set k v) f n=exitsF p pos f n
 | 0,_=>rfl
 | n+1,h=>by
  rw[exitsF,exitsF,exitsF_set p pos f k v n (by omega),entry,entry,atL_set (by omega)]
theorem exits_next {p:List TLine}{pos:List Int}{f k:Nat}(h:f+1≤k)(hj:¬jumps p k):exitsF p pos (f+1) (k+1 - (f+1))=exitsF p pos (f+1) (k - (f+1)):=by
 rw[show k+1 - (f+1)=(k - (f+1))+1 by omega,exitsF,show f+1+(k - (f+1))=k by omega,entry,if_neg hj,List.append_nil]
theorem exits_jump {p:List TLine}{pos:List Int}{f k:Nat}(h:f+1≤k)(hj:jumps p k)(hk:k < pos.length)(v:Int):exitsF p pos (f+1) (k - (f+1))++[(toOf p k,v)]=exitsF p (pos.set k v) (f+1) (k+1 - (f+1)):=by
 rw[show k+1 - (f+1)=(k - (f+1))+1 by omega,exitsF,exitsF_set _ _ _ _ _ _ (by omega),show f+1+(k - (f+1))=k by omega,entry,if_pos hj,atL_self hk]
theorem exitsF_mem {p:List TLine}{pos:List Int}{f:Nat}:∀{n:Nat} {e:Int×Int},e∈exitsF p pos f n→∃i,f≤i∧i < f+n∧jumps p i∧e=(toOf p i,atL pos i)
 | 0,e,h=>by simp[exitsF]at h
 | n+1,e,h=>by
  rw[exitsF,List.mem_append]at h
  rcases h with h|h
  ·obtain⟨i,h1,h2,h3⟩:=exitsF_mem h
   exact⟨i,h1,by omega,h3⟩
  ·rw[entry]at h
   split at h
   ·rename_i hj
    simp only[List.mem_cons,List.not_mem_nil,or_false]at h
    exact⟨f+n,by omega,by omega,hj,h⟩
   ·cases h
theorem patchE_none {v to:Int}:∀{E:List (Int×Int)} {l:List TItem},(∀e∈E,e.1≠to)→patchE l v to E=l
 | [],_,_=>rfl
 | e::r,l,h=>by rw[patchE,if_neg (h e (by simp)),patchE_none fun x hx=>h x (by simp[hx])]
theorem patch_one {p:List TLine}{pos:List Int}{f i0:Nat}{v to:Int}(hj:jumps p i0)(ht:toOf p i0=to):∀{n:Nat} {l:List TItem},f≤i0→i0 < f+n→(∀i,f≤i→i < f+n→jumps p i→toOf p i=to→i=i0)→patchE l v to (exitsF p pos f n)=setArg l (atL pos i0) v
 | 0,l,h1,h2,_=>by omega
 | n+1,l,h1,h2,hu=>by
  rw[exitsF,patchE_append]
  by_cases h:i0=f+n
  ·subst h
   rw[patchE_none (E:=exitsF p pos f n) (fun e he=>by
    obtain⟨i,k1,k2,k3,rfl⟩:=exitsF_mem he
    intro hh
    have:=hu i k1 (by omega) k3 hh
    omega)]
   rw[entry,if_pos hj]
   show(if(toOf p (f+n),atL pos (f+n)).1=to then _ else _)=_
   rw[if_pos ht]
  ·rw[patch_one hj ht h1 (by omega) fun i k1 k2 k3 k4=>hu i k1 (by omega) k3 k4]
   refine patchE_none fun e he=>?_
   rw[entry]at he
   split at he
   ·rename_i hj2
    simp only[List.mem_cons,List.not_mem_nil,or_false]at he
    subst he
    intro hh
    exact h (hu (f+n) (by omega) (by omega) hj2 hh).symm
   ·cases he
theorem kindAt_of {p:List TLine}{k:Nat}{ln:TLine}(h:p[k]?=some ln):kindAt p k=ln.fKind:=by rw[kindAt,h]
theorem endOf_some {p:List TLine}{i:Nat}{m:Int}(h:endOf p (i:Int)=m)(h0:0≤m):endAt p i=some m.toNat:=by
 rw[endOf_at]at h
 cases he:endAt p i with
 | none=>rw[he]at h;simp only[endI]at h;omega
 | some e=>rw[he]at h;simp only[endI]at h;congr 1;omega
theorem endOf_ge (p:List TLine)(i:Nat):-1≤endOf p (i:Int)∧endOf p (i:Int)≤p.length:=by
 rw[endOf_at]
 cases he:endAt p i with
 | none=>simp only[endI];omega
 | some e=>obtain⟨_,_,_,_,_,h⟩:=endAt_some he;simp only[endI];omega
theorem elseOf_at {p:List TLine}{i:Nat}:elseOf p (i:Int)=endI (elseAt p i):=by rw[elseOf,if_pos (by omega),Int.toNat_natCast]
theorem elseAt_not {p:List TLine}{i:Nat}(h:kindAt p i≠3):elseAt p i=none:=by
 cases he:elseAt p i with
 | none=>rfl
 | some j=>
  obtain⟨y,_,hy,h3,_⟩:=elseAt_some he
  exact absurd (by rw[kindAt_of hy];exact h3) h
section
variable {C:Cx} {x:Sc} {ins:List Nat}
theorem to_line (hC:CxOk C)(hx:ScOk C x ins){e:Nat}(he:endAt C.p x.f=some e){k i:Nat}(h1:x.f+1≤i)(h2:i < k)(h3:k≤e)(hj:jumps C.p i)(ht:toOf C.p i=(k:Int)):kindAt C.p (k - 1)=7∧ownOf C.p (k - 1)≠x.f∧exitAt C.p (k - 1)=i:=by
 have hil:i < C.p.length:=by obtain⟨_,_,_,_,_,h⟩:=endAt_some he;omega
 obtain⟨y,hy⟩:=get_of_lt hil
 have hky:=kindAt_of hy
 unfold toOf at ht
 by_cases h4:kindAt C.p i=4
 ·rw[if_pos h4]at ht
  obtain⟨o1,o2,o3,o4⟩:=hx.own4 hC he (by omega) (by omega) hy (by rw[←hky];exact h4)
  have hee:=endOf_some (show endOf C.p (ownOf C.p i:Int)=((k - 1:Nat):Int) by omega) (by omega)
  rw[Int.toNat_natCast]at hee
  obtain⟨z,hz,h7⟩:=endAt_kind hee
  rw[own_end hee,kindAt_of hz]
  refine⟨h7,by omega,?_⟩
  rw[exitAt,own_end hee,o1]
 ·rw[if_neg h4]at ht
  split at ht
  ·omega
  ·rename_i hn
   have hee:=endOf_some (show endOf C.p (i:Int)=((k - 1:Nat):Int) by omega) (by omega)
   rw[Int.toNat_natCast]at hee
   obtain⟨z,hz,h7⟩:=endAt_kind hee
   rw[own_end hee,kindAt_of hz]
   refine⟨h7,by omega,?_⟩
   rw[exitAt,own_end hee]
   have:elseAt C.p i=none:=by
    by_cases h3':kindAt C.p i=3
    ·cases hel:elseAt C.p i with
     | none=>rfl
     | some j=>exact absurd ⟨h3',by rw[elseOf_at,hel];simp[endI]⟩ hn
    ·exact elseAt_not h3'
   rw[this]
theorem exit_to (hC:CxOk C)(hx:ScOk C x ins){e:Nat}(he:endAt C.p x.f=some e){j:Nat}{ln:TLine}(h1:x.f < j)(h2:j < e)(hl:C.p[j]?=some ln)(h7:ln.fKind=7):x.f+1≤exitAt C.p j∧exitAt C.p j < j∧jumps C.p (exitAt C.p j)∧toOf C.p (exitAt C.p j)=((j+1:Nat):Int)∧ownOf C.p j≠x.f:=by
 obtain⟨o1,o2⟩:=hx.own7 hC he h1 (by omega) hl h7
 rcases o2 with⟨o2,_⟩|⟨_,o3,o4,y,hy,ho⟩
 ·omega
 have hky:=kindAt_of hy
 have hend:endOf C.p (ownOf C.p j:Int)=(j:Int):=by rw[endOf_at];exact endI_some o1
 unfold exitAt
 cases hel:elseAt C.p (ownOf C.p j)with
 | none=>
  dsimp only
  refine⟨by omega,o4,by unfold jumps;omega,?_,by omega⟩
  unfold toOf
  rw[if_neg (by omega),if_neg (by rw[elseOf_at,hel];simp[endI]),hend]
  omega
 | some m=>
  obtain⟨z,m1,hz,z3,hm1,k1,k2,w,hw,w4⟩:=elseAt_some hel
  rw[o1]at hm1
  injection hm1 with hm1
  have hkw:=kindAt_of hw
  refine⟨by dsimp only;omega,by dsimp only;omega,by unfold jumps;dsimp only;omega,?_,by omega⟩
  unfold toOf
  dsimp only
  rw[if_pos (by omega),own_else hel,hend]
  omega
structure LInv (C:Cx) (lev:Nat) (x:Sc) (ins:List Nat) (d:Int) (e:Nat) (R:Ls) (k:Nat) (L:Ls):Prop where
 lo:x.f+1≤k
 hi:k≤e+1
 heads:L.heads.length=C.p.length
 pos:L.pos.length=C.p.length
 at_:∀i,x.f < i→i < k→jumps C.p i→0≤atL L.pos i∧atL L.pos i < L.g.items.length
 lv:lvOk L
 room:L.g.items.length+(e+1 - k) * (20 * tokC lev+3)≤68719476736
 fin:runL C (repN C lev) x ins d (e+1 - k) k L=R
theorem stepA_lens (rep:Sc→List Nat→Nat→Nat→Int→Gs→Gs)(base:Int)(k:Nat)(ln:TLine)(L:Ls):(stepA C rep x ins base k ln L).heads.length=L.heads.length∧(stepA C rep x ins base k ln L).pos.length=L.pos.length:=by
 unfold stepA leaveG
 repeat' split
 all_goals simp
theorem stepB_lens (k:Nat)(ln:TLine)(L:Ls):(stepB C x k ln L).heads=L.heads∧(stepB C x k ln L).pos=L.pos∧(stepB C x k ln L).lv=L.lv∧(stepB C x k ln L).g.items.length=L.g.items.length∧(stepB C x k ln L).g.most=L.g.most∧(stepB C x k ln L).g.start=L.g.start:=by
 unfold stepB
 split
 ·exact⟨rfl,rfl,rfl,setArg_len' _ _ _,rfl,rfl⟩
 ·exact⟨rfl,rfl,rfl,rfl,rfl,rfl⟩
theorem stepA_at (rep:Sc→List Nat→Nat→Nat→Int→Gs→Gs)(base:Int)(k:Nat)(ln:TLine)(L:Ls)(hp:k < L.pos.length)(i:Nat):
  (i≠k→atL (stepA C rep x ins base k ln L).pos i=atL L.pos i)∧((ln.fKind=3∨ln.fKind=4∨ln.fKind=5)→0≤atL (stepA C rep x ins base k ln L).pos k∧atL (stepA C rep x ins base k ln L).pos k < (stepA C rep x ins base k ln L).g.items.length):=by
 unfold stepA
 by_cases h4:ln.fKind=4
 ·rw[if_pos h4]
  refine⟨fun hi=>atL_set hi,fun _=>?_⟩
  simp only[atL_self hp,setArg_len',emitG,List.length_append,List.length_cons,List.length_nil]
  omega
 ·rw[if_neg h4]
  by_cases h7:ln.fKind=7
  ·rw[if_pos h7]
   refine⟨fun _=>?_,fun h=>by omega⟩
   unfold leaveG
   repeat' split
   all_goals rfl
  ·rw[if_neg h7]
   by_cases h1:ln.fKind=1
   ·rw[if_pos h1]
    exact⟨fun _=>rfl,fun h=>by omega⟩
   ·rw[if_neg h1]
    by_cases h2:ln.fKind=2
    ·rw[if_pos h2]
     exact⟨fun _=>rfl,fun h=>by omega⟩
    ·rw[if_neg h2]
     by_cases h6:ln.fKind=6
     ·rw[if_pos h6]
      refine⟨fun _=>?_,fun h=>by omega⟩
      unfold leaveG
      repeat' split
      all_goals rfl
     ·rw[if_neg h6]
      refine⟨fun hi=>atL_set hi,fun _=>?_⟩
      simp only[atL_self hp,emitG,List.length_append,List.length_cons,List.length_nil]
      omega
theorem LInv.next (hC:CxOk C)(hx:ScOk C x ins){lev e k:Nat}{d:Int}{R L:Ls}{ln:TLine}(he:endAt C.p x.f=some e)(h:LInv C lev x ins d e R k L)(hk:k≤e)(hl:C.p[k]?=some ln):LInv C lev x ins d e R (k+1) (stepB C x k ln (stepA C (repN C lev) x ins d k ln L)):=by
 have h0:=lines_kinds hC hx he h.lo hk hl
 have hrep:∀line g d s,isFun C g→replB C ins g s.items.length=true→Grow (tokC lev) s (repN C lev x ins line g d s):=fun line g d s hg hr=>repN_grow hC lev line g d s hx hg hr
 have hA:=stepA_grow (lev:=lev) (rep:=repN C lev) hrep hC hl h0 d L
 obtain⟨b1,b2,b3,b4,b5,b6⟩:=stepB_lens (C:=C) (x:=x) k ln (stepA C (repN C lev) x ins d k ln L)
 obtain⟨a1,a2⟩:=stepA_lens (C:=C) (x:=x) (ins:=ins) (repN C lev) d k ln L
 have hge:=hA.ge
 have hle:=hA.le
 have hr:=h.room
 refine⟨by have:=h.lo;omega,by omega,by rw[b1,a1];exact h.heads,by rw[b2,a2];exact h.pos,fun i h1 h2 hj=>?_,stepB_lv k ln (stepA_lv (lev:=lev) hrep hC hl h0 d h.lv),?_,?_⟩
 ·rw[b2,b4]
  obtain⟨p1,p2⟩:=stepA_at (C:=C) (x:=x) (ins:=ins) (repN C lev) d k ln L (by rw[h.pos];exact lt_of_get hl) i
  by_cases hik:i=k
  ·subst hik
   refine p2 ?_
   unfold jumps at hj
   rw[kindAt_of hl]at hj
   exact hj
  ·rw[p1 hik]
   have:=h.at_ i h1 (by omega) hj
   omega
 ·rw[b4]
  obtain⟨n,hn⟩:∃n,e+1 - k=n+1:=⟨e - k,by omega⟩
  rw[hn,Nat.add_mul]at hr
  rw[show e+1 - (k+1)=n by omega]
  omega
 ·have hf:=h.fin
  obtain⟨n,hn⟩:∃n,e+1 - k=n+1:=⟨e - k,by omega⟩
  rw[hn,runL,hl]at hf
  rw[show e+1 - (k+1)=n by omega]
  exact hf
theorem patch_next (hC:CxOk C)(hx:ScOk C x ins){e k:Nat}{ln:TLine}(he:endAt C.p x.f=some e)(h1:x.f+1≤k)(hk:k≤e)(hl:C.p[k]?=some ln)(A:Ls):
  (k+1≤e→patchE A.g.items A.g.items.length ((k+1:Nat):Int) (exitsF C.p A.pos (x.f+1) (k+1 - (x.f+1)))=(stepB C x k ln A).g.items)∧(k=e→A.g.items=(stepB C x k ln A).g.items):=by
 constructor
 ·intro hke
  unfold stepB
  by_cases h7:ln.fKind=7
  ·obtain⟨q1,q2,q3,q4,q5⟩:=exit_to hC hx he (by omega) (by omega) hl h7
   rw[if_pos ⟨h7,q5⟩]
   refine patch_one q3 q4 q1 (by omega) fun i k1 k2 k3 k4=>?_
   obtain⟨_,_,t3⟩:=to_line hC hx he (k:=k+1) k1 (by omega) hke k3 k4
   rw[Nat.add_sub_cancel]at t3
   exact t3.symm
  ·rw[if_neg (by omega)]
   refine patchE_none fun z hz=>?_
   obtain⟨i,k1,k2,k3,rfl⟩:=exitsF_mem hz
   intro hh
   obtain⟨t1,_⟩:=to_line hC hx he (k:=k+1) k1 (by omega) hke k3 hh
   rw[Nat.add_sub_cancel,kindAt_of hl]at t1
   exact h7 t1
 ·rintro rfl
  unfold stepB
  rw[if_neg]
  rintro⟨_,h⟩
  exact h (own_end he)
theorem patch_else (hC:CxOk C)(hx:ScOk C x ins){e k:Nat}{ln:TLine}(he:endAt C.p x.f=some e)(h1:x.f+1≤k)(hk:k≤e)(hl:C.p[k]?=some ln)(h4:ln.fKind=4)(pos:List Int)(l:List TItem)(v:Int):
  patchE l v (-(k:Int)) (exitsF C.p pos (x.f+1) (k+1 - (x.f+1)))=setArg l (atL pos (ownOf C.p k)) v:=by
 obtain⟨o1,o2,o3,o4⟩:=hx.own4 hC he h1 hk hl h4
 obtain⟨y,m,hy,y3,hm,_,_,_⟩:=elseAt_some o1
 have hky:=kindAt_of hy
 have hel:elseOf C.p (ownOf C.p k:Int)=(k:Int):=by rw[elseOf_at];exact endI_some o1
 refine patch_one (by unfold jumps;omega) (by unfold toOf;rw[if_neg (by omega),if_pos ⟨by omega,by omega⟩,hel]) (by omega) (by omega) fun i k1 k2 k3 k4=>?_
 unfold toOf at k4
 by_cases hi4:kindAt C.p i=4
 ·rw[if_pos hi4]at k4
  have:=endOf_ge C.p (ownOf C.p i)
  omega
 ·rw[if_neg hi4]at k4
  split at k4
  ·rename_i h3
   have hk':elseOf C.p (i:Int)=(k:Int):=by omega
   rw[elseOf_at]at hk'
   cases hie:elseAt C.p i with
   | none=>rw[hie]at hk';simp only[endI]at hk';omega
   | some j=>
    rw[hie]at hk'
    simp only[endI]at hk'
    have:j=k:=by omega
    subst this
    exact elseAt_inj hie o1
  ·have:=endOf_ge C.p i
   omega
end
end Go.Proofs.YtjmplnfiabmalaaGreat
namespace Go.Proofs.YtjmplnfiabmalaaGreat
open Go.Sim
set_option maxRecDepth 100000
set_option maxHeartbeats 4000000
theorem s_spec_l02CopyToks (l:List TTok)(hl:l.length≤1048576):Sim.Spec Tryz.prog 259 [tvL 3 (l.map TTok.tr)] (rL 3 (l.map TTok.tr)):=by
 refine spec_of_Wo hΓ hmix Tryz.func259 rfl (by decide) rfl ?_
 repeat' ((conv=>whnf);first|(with_reducible first|apply Wx|apply W6)|apply oi|(apply fi<;>intro h)|refine⟨_,rfl,?_⟩|((with_reducible show _=_);rfl))
 all_goals try((with_reducible refine Obl.mk ?_);exact KP)
 all_goals try exact⟨⟨by simp <;> omega,by simp <;> omega⟩⟩
 all_goals try exact⟨⟨rfl,flat_toks _⟩⟩
theorem s_spec_l03Copy (x:TLine)(hs:smallR 1048576 x.tr):Sim.Spec Tryz.prog 241 [.agg x.tr] (.r (.agg (x.tr.map resC))):=by
 refine spec_of_Wo hΓ hmix Tryz.func241 rfl (by decide) rfl ?_
 obtain⟨h1,h2,h3,h4,h5⟩:=line_small hs
 have hT:=s_spec_l02CopyToks x.fExpr h4
 repeat' ((conv=>whnf);first|(with_reducible first|apply Wx|apply W6)|apply oi|(apply fi<;>intro h)|refine cl hT ?_|refine⟨_,rfl,?_⟩|((with_reducible show _=_);rfl))
 all_goals try((with_reducible refine Obl.mk ?_);exact KP)
 all_goals try exact⟨⟨by simp <;> omega,by simp <;> omega⟩⟩
 all_goals try exact⟨⟨rfl,flat_strs _⟩⟩
theorem take_map {α β:Type}(f:α→β)(l:List α)(k:Nat)(x:α)(hx:l[k]?=some x):(l.take (k+1)).map f=(l.take k).map f++[f x]:=by
 rw[List.take_add_one,hx,List.map_append]
 rfl
theorem g_spec_l03CopyAll (l:List TLine)(hs:smallT 1048576 (.lst 4 (l.map TLine.tr))):SpecG Tryz.prog 204 [vP l] [] (.r (.c (.own (1,0,0)))) [((1,0,0),.dar 4 (deepRows (l.map TLine.tr)) none)]:=by
 refine specG_of_Wo hΓ hmix Tryz.func204 rfl (by decide) rfl rfl ?_
 have hl:=small_nat hs
 have hlen:(l.map TLine.tr).length=l.length:=by simp
 repeat' ((conv=>whnf);first|(with_reducible first|apply Wx|apply W6)|apply oi|(apply fi<;>intro h)|refine⟨_,rfl,?_⟩|((with_reducible show _=_);rfl))
 all_goals try((with_reducible refine Obl.mk ?_);exact KP)
 conv=>whnf
 refine⟨{k:Nat // k≤l.length},fun q=>⟨[(0,vP l),(3,.r (.c (.own (3,0,0)))),(4,tI .i64 (q.1:Int))],[((3,0,0),some (.dar 4 (deepRows ((l.take q.1).map TLine.tr)) none))],[3,0]⟩,fun q=>l.length - q.1,⟨0,by omega⟩,?_,?_⟩
 ·skip
  repeat' ((conv=>whnf);first|(with_reducible first|apply Wx|apply W6)|apply oi|(apply fi<;>intro h)|refine⟨_,rfl,?_⟩|((with_reducible show _=_);rfl))
  all_goals try((with_reducible refine Obl.mk ?_);exact KP)
 intro⟨k,hk⟩
 dsimp only at hk ⊢
 by_cases hlt:k < l.length
 ·obtain⟨x,hx⟩:=get_of_lt hlt
  have hdl:(deepRows ((l.take k).map TLine.tr)).length=k:=by rw[deepRows_length,List.length_map,List.length_take];omega
  have hC:=s_spec_l03Copy x (smallRs_map hs (List.mem_of_getElem? hx))
  repeat' ((conv=>whnf);first|(with_reducible first|apply Wx|apply W6)|apply oi|(apply fi<;>intro h)|refine⟨k,x.tr,rfl,map_get hx,?_⟩|refine cl hC ?_|refine⟨_,rfl,?_⟩|((with_reducible show _=_);rfl))
  all_goals try((with_reducible refine Obl.mk ?_);exact KP)
  all_goals try exact KX
  all_goals try exact⟨flat_toks _⟩
  all_goals try exact⟨flat_strs _⟩
  all_goals try exact⟨⟨by rw[hdl];(try dsimp only);simp <;> omega,by rw[hdl];(try dsimp only);simp <;> omega⟩⟩
  repeat' ((conv=>whnf);first|(with_reducible first|apply Wx|apply W6)|apply oi|(apply fi<;>intro h)|refine⟨_,rfl,?_⟩|((with_reducible show _=_);rfl))
  all_goals try((with_reducible refine Obl.mk ?_);exact KP)
  conv=>whnf
  refine⟨⟨k+1,by omega⟩,?_,by dsimp only;omega⟩
  repeat' ((conv=>whnf);first|(with_reducible first|apply Wx|apply W6)|apply oi|(apply fi<;>intro h)|refine⟨_,rfl,?_⟩|((with_reducible show _=_);rfl))
  all_goals try((with_reducible refine Obl.mk ?_);exact KP)
  all_goals try exact⟨K2⟩
  all_goals exact⟨by rw[take_map TLine.tr l k x hx];simp[deepRows,TLine.tr]⟩
 ·skip
  repeat' ((conv=>whnf);first|(with_reducible first|apply Wx|apply W6)|apply oi|(apply fi<;>intro h)|refine⟨_,rfl,?_⟩|((with_reducible show _=_);rfl))
  all_goals try((with_reducible refine Obl.mk ?_);exact KP)
  all_goals try exact KX
  all_goals exact⟨by rw[List.take_of_length_le (by omega)]⟩
noncomputable def foldL (l:List TTok):List TTok:=if h:exprOk l=true then(Classical.choose (exprOk_parse h)).fold.toks else []
theorem foldL_ok {l:List TTok}(h:exprOk l=true):∃e:Ex,e.ok∧l=e.toks∧foldL l=e.fold.toks:=by
 have hc:=Classical.choose_spec (exprOk_parse h)
 exact⟨_,hc.1,hc.2,by rw[foldL,dif_pos h]⟩
theorem foldL_no {l:List TTok}(h:exprOk l=false):foldL l=[]:=by rw[foldL,dif_neg (by simp[h])]
theorem foldL_len (l:List TTok):(foldL l).length≤l.length:=by
 cases h:exprOk l with
 | false=>rw[foldL_no h];simp
 | true=>
  obtain⟨e,_,h1,h2⟩:=foldL_ok h
  rw[h2,h1]
  exact e.fold_le
theorem s_spec_FoldExpr (l:List TTok)(hl:l.length≤1048576)(hn:toksShort l):Sim.Spec Tryz.prog 205 [tvL 3 (l.map TTok.tr)] (rL 3 ((foldL l).map TTok.tr)):=by
 refine spec_of_Wo hΓ hmix Tryz.func205 rfl (by decide) rfl ?_
 have hE:=s_spec_ExprOk l hl hn
 cases h:exprOk l with
 | false=>
  rw[h]at hE
  rw[foldL_no h]
  repeat' ((conv=>whnf);first|(with_reducible first|apply Wx|apply W6)|apply oi|(apply fi<;>intro h)|refine cl hE ?_|refine⟨_,rfl,?_⟩|((with_reducible show _=_);rfl))
  all_goals try((with_reducible refine Obl.mk ?_);exact KP)
  all_goals try exact KX
 | true=>
  rw[h]at hE
  obtain⟨e,h1,h2,h3⟩:=foldL_ok h
  have hF:=s_spec_l06Fold e.toks.length e (Nat.le_refl _) l 0 hl hn h1 ⟨[],by rw[List.drop_zero,List.append_nil];exact h2⟩
  rw[h3]
  generalize e.fold.toks=r at *
  repeat' ((conv=>whnf);first|(with_reducible first|apply Wx|apply W6)|apply oi|(apply fi<;>intro h)|refine cl hE ?_|refine cl hF ?_|refine⟨_,rfl,?_⟩|((with_reducible show _=_);rfl))
  all_goals try((with_reducible refine Obl.mk ?_);exact KP)
  all_goals try exact KX
noncomputable def foldLine (x:TLine):TLine:=if 0 < x.fExpr.length then⟨x.fKind,x.fName,x.fArgs,foldL x.fExpr⟩else x
noncomputable def foldMix (l:List TLine) (k:Nat):List TLine:=(l.take k).map foldLine++l.drop k
theorem foldMix_len (l:List TLine)(k:Nat):(foldMix l k).length=l.length:=by simp[foldMix];omega
theorem foldMix_get {l:List TLine}{k:Nat}{x:TLine}(hx:l[k]?=some x):(foldMix l k)[k]?=some x:=by
 have hk:k < l.length:=by
  rcases Nat.lt_or_ge k l.length with h|h
  ·exact h
  ·rw[List.getElem?_eq_none h]at hx;cases hx
 rw[foldMix,List.getElem?_append_right (by simp;omega)]
 simp only[List.length_map,List.length_take]
 rw[Nat.min_eq_left (by omega),Nat.sub_self,List.getElem?_drop]
 exact hx
theorem foldMix_next {l:List TLine}{k:Nat}{x:TLine}(hx:l[k]?=some x):foldMix l (k+1)=(foldMix l k).set k (foldLine x):=by
 have hk:k < l.length:=by
  rcases Nat.lt_or_ge k l.length with h|h
  ·exact h
  ·rw[List.getElem?_eq_none h]at hx;cases hx
 rw[foldMix,foldMix,take_map foldLine l k x hx,drop_at hx,List.set_append_right _ _ (by simp;omega)]
 simp only[List.length_map,List.length_take]
 rw[Nat.min_eq_left (by omega),Nat.sub_self,List.set_cons_zero,List.append_assoc]
 rfl
noncomputable def foldProg (l:List TLine):List TLine:=if programOk l=true then l.map foldLine else []
theorem s_spec_FoldProgram (l:List TLine)(hs:smallT 1048576 (.lst 4 (l.map TLine.tr))):Sim.Spec Tryz.prog 149 [tvP l] (rL 4 ((foldProg l).map TLine.tr)):=by
 refine spec_of_Wo hΓ hmix Tryz.func149 rfl (by decide) rfl ?_
 have hl:=small_nat hs
 have hP:=s_spec_ProgramOk l hs
 have hC:=g_spec_l03CopyAll l hs
 cases hpo:programOk l with
 | false=>
  rw[hpo]at hP
  have:foldProg l=[]:=by rw[foldProg,if_neg (by simp[hpo])]
  rw[this]
  repeat' ((conv=>whnf);first|(with_reducible first|apply Wx|apply W6)|apply oi|(apply fi<;>intro h)|refine cl hP ?_|refine⟨_,rfl,?_⟩|((with_reducible show _=_);rfl))
  all_goals try((with_reducible refine Obl.mk ?_);exact KP)
  all_goals try exact KX
 | true=>
  rw[hpo]at hP
  have:foldProg l=l.map foldLine:=by rw[foldProg,if_pos hpo]
  rw[this]
  repeat' ((conv=>whnf);first|(with_reducible first|apply Wx|apply W6)|refine cg hC ?_|apply oi|(apply fi<;>intro h)|refine cl hP ?_|refine⟨_,rfl,?_⟩|((with_reducible show _=_);rfl))
  all_goals try((with_reducible refine Obl.mk ?_);exact KP)
  all_goals try exact KX
  conv=>whnf
  refine⟨{k:Nat // k≤l.length},fun q=>⟨[(3,.r (.c (.own (3,0,0)))),(4,tI .i64 (q.1:Int))],[((3,0,0),some (.dar 4 (deepRows ((foldMix l q.1).map TLine.tr)) none))],[3]⟩,fun q=>l.length - q.1,⟨0,by omega⟩,?_,?_⟩
  ·skip
   repeat' ((conv=>whnf);first|(with_reducible first|apply Wx|apply W6)|apply oi|(apply fi<;>intro h)|refine⟨_,rfl,?_⟩|((with_reducible show _=_);rfl))
   all_goals try((with_reducible refine Obl.mk ?_);exact KP)
  intro⟨k,hk⟩
  dsimp only at hk ⊢
  have hdl:(deepRows ((foldMix l k).map TLine.tr)).length=l.length:=by rw[deepRows_length,List.length_map,foldMix_len]
  by_cases hlt:k < l.length
  ·obtain⟨x,hx⟩:=get_of_lt hlt
   obtain⟨h1,h2,h3,h4,h5⟩:=line_small (smallRs_map hs (List.mem_of_getElem? hx))
   have hF:=s_spec_FoldExpr x.fExpr h4 (fun y hy=>by have:=h5 y hy;omega)
   have hkl:k < (deepRows ((foldMix l k).map TLine.tr)).length:=by rw[hdl];exact hlt
   have hel3:(x.fExpr.map TTok.tr).length=x.fExpr.length:=by simp
   by_cases hpos:0 < x.fExpr.length
   ·have hfl:foldLine x=⟨x.fKind,x.fName,x.fArgs,foldL x.fExpr⟩:=by rw[foldLine,if_pos hpos]
    repeat' ((conv=>whnf);first|(with_reducible first|apply Wx|apply W6)|apply oi|(apply fi<;>intro h)|refine⟨k,rfl,hkl,?_⟩|refine⟨k,rfl,(by simpa using hkl),?_⟩|refine⟨_,deepRows_get (map_get (foldMix_get hx)),?_⟩|refine⟨_,(List.getElem?_set_self (by simpa using hkl)),?_⟩|refine cl hF ?_|refine⟨_,rfl,?_⟩|((with_reducible show _=_);rfl))
    all_goals try((with_reducible refine Obl.mk ?_);exact KP)
    all_goals try exact⟨flat_toks _⟩
    all_goals try(exfalso;have h':=of_decide_eq_false h;rw[hdl]at h';omega)
    all_goals try(exfalso;have h':=of_decide_eq_false h;rw[hel3]at h';omega)
    conv=>whnf
    refine⟨⟨k+1,by omega⟩,?_,by dsimp only;omega⟩
    repeat' ((conv=>whnf);first|(with_reducible first|apply Wx|apply W6)|apply oi|(apply fi<;>intro h)|refine⟨_,rfl,?_⟩|((with_reducible show _=_);rfl))
    all_goals try((with_reducible refine Obl.mk ?_);exact KP)
    all_goals try exact⟨flat_toks _⟩
    all_goals try exact⟨K2⟩
    all_goals(refine⟨?_⟩;(try dsimp only);rw[foldMix_next hx,List.map_set,←deepRows_set,hfl];simp[TLine.tr])
   ·have hfl:foldLine x=x:=by rw[foldLine,if_neg hpos]
    repeat' ((conv=>whnf);first|(with_reducible first|apply Wx|apply W6)|apply oi|(apply fi<;>intro h)|refine⟨k,rfl,hkl,?_⟩|refine⟨k,rfl,(by simpa using hkl),?_⟩|refine⟨_,deepRows_get (map_get (foldMix_get hx)),?_⟩|refine⟨_,(List.getElem?_set_self (by simpa using hkl)),?_⟩|refine cl hF ?_|refine⟨_,rfl,?_⟩|((with_reducible show _=_);rfl))
    all_goals try((with_reducible refine Obl.mk ?_);exact KP)
    all_goals try exact⟨flat_toks _⟩
    all_goals try(exfalso;have h':=of_decide_eq_false h;rw[hdl]at h';omega)
    all_goals try(exfalso;have h':=of_decide_eq_true h;rw[hel3]at h';omega)
    conv=>whnf
    refine⟨⟨k+1,by omega⟩,?_,by dsimp only;omega⟩
    repeat' ((conv=>whnf);first|(with_reducible first|apply Wx|apply W6)|apply oi|(apply fi<;>intro h)|refine⟨k,rfl,hkl,?_⟩|refine⟨k,rfl,(by simpa using hkl),?_⟩|refine⟨_,deepRows_get (map_get (foldMix_get hx)),?_⟩|refine⟨_,(List.getElem?_set_self (by simpa using hkl)),?_⟩|refine⟨_,rfl,?_⟩|((with_reducible show _=_);rfl))
    all_goals try((with_reducible refine Obl.mk ?_);exact KP)
    all_goals try exact⟨flat_toks _⟩
    all_goals try exact⟨K2⟩
    all_goals(refine⟨?_⟩;(try dsimp only);rw[foldMix_next hx,List.map_set,←deepRows_set,hfl];simp[TLine.tr])
  ·skip
   repeat' ((conv=>whnf);first|(with_reducible first|apply Wx|apply W6)|apply oi|(apply fi<;>intro h)|refine⟨_,rfl,?_⟩|((with_reducible show _=_);rfl))
   all_goals try((with_reducible refine Obl.mk ?_);exact KP)
   all_goals try exact KX
   all_goals exact⟨by rw[foldMix,List.take_of_length_le (by omega),List.drop_eq_nil_of_le (by omega),List.append_nil]⟩
end Go.Proofs.YtjmplnfiabmalaaGreat
namespace Go.Proofs.YtjmplnfiabmalaaGreat
open Go.Sim
set_option maxRecDepth 100000
set_option maxHeartbeats 4000000
structure PgOk (p:List TLine):Prop where
 len:p.length≤60
 small:smallT 1048576 (.lst 4 (p.map TLine.tr))
 line:∀(k:Nat) (ln:TLine),p[k]?=some ln→0≤ln.fKind∧ln.fKind≤7∧ln.fArgs.length≤4∧ln.fExpr.length≤20∧((ln.fKind=1∨ln.fKind=2∨ln.fKind=3∨ln.fKind=5∨ln.fKind=6)→exprOk ln.fExpr=true)
 fn:∀(g:Nat) (ln:TLine),p[g]?=some ln→ln.fKind=0→∃e,endAt p g=some e∧(localsOf p (g:Int)).length≤8∧ln.fArgs.length≤(localsOf p (g:Int)).length∧∀(k:Nat) (y:TLine),g < k→k < e→p[k]?=some y→y.fKind≠0∧(∀t∈y.fExpr,t.fKind=7→∃f,findN p 0 t.fName=some f∧(argsN p f:Int)=t.fNum)∧(y.fKind=4→∃i,g≤i∧i < k∧elseAt p i=some k)
theorem PgOk.cx {p:List TLine}(h:PgOk p){b:TBuild}{framed:Bool}{words args:Int}(ha:0≤args∧args≤4)(hw:0≤words∧words≤1000)(hi:0≤b.fInline∧b.fInline≤3):CxOk ⟨p,b,framed,words,args⟩:=
 ⟨h.len,h.small,h.line,h.fn,ha,hw,hi⟩
theorem chain_funs {F:Nat→Nat→Bool}{l:List TLine}(hF:∀k e,endAt l k=some e→F k e=true→∀i x,k < i→i < e→l[i]?=some x→x.fKind≠0):∀(n k:Nat),chainN F l n k=true→∀g x,k≤g→l[g]?=some x→x.fKind=0→∃e,endAt l g=some e∧F g e=true
 | 0,k,h,g,x,hk,hg,_=>by
  rw[chainN,decide_eq_true_eq]at h
  have:=lt_of_get hg
  omega
 | n+1,k,h,g,x,hk,hg,h0=>by
  rw[chainN,if_pos (by have:=lt_of_get hg;omega)]at h
  split at h
  ·rename_i y e hy he
   split at h
   ·rename_i hc
    by_cases hgk:g=k
    ·subst hgk;exact⟨e,he,hc.2⟩
    ·by_cases hge:g≤e
     ·by_cases hge2:g=e
      ·subst hge2
       obtain⟨z,hz,h7⟩:=endAt_kind he
       rw[hg]at hz
       injection hz with hz
       subst hz
       omega
      ·exact absurd h0 (hF k e he hc.2 g x (by omega) (by omega) hg)
     ·exact chain_funs hF n (e+1) h g x (by omega) hg h0
   ·cases h
  ·cases h
theorem body_known {l:List TLine}{locals:List (List UInt8)}{e:Nat}:∀(n i d:Nat),e - i≤n→e≤l.length→bodyN l locals e n i d=true→∀j x,i≤j→j < e→l[j]?=some x→exprKnown l locals x.fExpr=true
 | 0,i,d,hn,_,_,j,x,h1,h2,_=>by omega
 | n+1,i,d,hn,he,hb,j,x,h1,h2,hx=>by
  rw[bodyN,if_pos (by omega)]at hb
  obtain⟨y,hy⟩:=get_of_lt (l:=l) (k:=i) (by omega)
  rw[hy]at hb
  dsimp only at hb
  split at hb
  ·cases hb
  ·split at hb
   ·rename_i hk
    by_cases hj:j=i
    ·subst hj
     rw[hy]at hx
     injection hx with hx
     subst hx
     exact hk.2
    ·exact body_known n (i+1) _ (by omega) he hb j x (by omega) h2 hx
   ·cases hb
theorem addName_ge (acc:List (List UInt8))(s:List UInt8):acc.length≤(addName acc s).length:=by
 unfold addName
 split <;> simp
theorem locN_ge {l:List TLine}{e:Nat}:∀(n i:Nat) (acc:List (List UInt8)),acc.length≤(locN l e n i acc).length
 | 0,_,_=>by simp[locN]
 | n+1,i,acc=>by
  rw[locN]
  split
  ·split
   ·refine Nat.le_trans ?_ (locN_ge n _ _)
    split
    ·exact addName_ge _ _
    ·exact Nat.le_refl _
   ·exact Nat.le_refl _
  ·exact Nat.le_refl _
theorem hasExpr_iff {k:Int}:hasExpr k=true↔(k=1∨k=2∨k=3∨k=5∨k=6):=by
 unfold hasExpr
 simp
theorem lineOk_facts {x:TLine}(h:lineOk x=true):0≤x.fKind∧x.fKind≤7∧x.fArgs.length≤4∧x.fExpr.length≤20∧((x.fKind=1∨x.fKind=2∨x.fKind=3∨x.fKind=5∨x.fKind=6)→exprOk x.fExpr=true):=by
 have h4:x.fArgs.length≤4:=by
  rcases Nat.lt_or_ge 4 x.fArgs.length with h'|h'
  ·rw[lineOk_args h']at h;cases h
  ·exact h'
 unfold lineOk at h
 simp only[Bool.and_eq_true,within_iff]at h
 obtain⟨⟨h1,h2⟩,_,_,h3⟩:=h
 refine⟨h1,h2,h4,?_,fun hk=>by rw[if_pos (hasExpr_iff.2 hk)]at h3;exact h3⟩
 split at h3
 ·unfold exprOk at h3
  simp only[Bool.and_eq_true,decide_eq_true_eq]at h3
  exact h3.1
 ·have:=eq_of_beq h3
  omega
theorem PgOk_of {p:List TLine}(hs:smallT 1048576 (.lst 4 (p.map TLine.tr)))(h:programOk p=true):PgOk p:=by
 unfold programOk at h
 simp only[Bool.and_eq_true,decide_eq_true_eq]at h
 obtain⟨h1,_,h2,_,_,h3,h4⟩:=h
 have hS:=chainS_all p
 rw[h3,h4]at hS
 have hlines:∀(k:Nat) (ln:TLine),p[k]?=some ln→0≤ln.fKind∧ln.fKind≤7∧ln.fArgs.length≤4∧ln.fExpr.length≤20∧((ln.fKind=1∨ln.fKind=2∨ln.fKind=3∨ln.fKind=5∨ln.fKind=6)→exprOk ln.fExpr=true):=fun k ln hk=>lineOk_facts (List.all_eq_true.1 h2 ln (List.mem_of_getElem? hk))
 have hlt:∀k e,endAt p k=some e→e≤p.length:=fun k e he=>by obtain⟨_,_,_,_,_,h⟩:=endAt_some he;omega
 have hF:∀k e,endAt p k=some e→fnOkS p k e=true→∀i x,k < i→i < e→p[i]?=some x→x.fKind≠0:=fun k e he hf=>by
  rw[fnOkS_eq,Bool.and_eq_true]at hf
  exact fnOk_nofun hf.1 (hlt k e he)
 refine⟨h1,hs,hlines,fun g ln hg h0=>?_⟩
 obtain⟨e,he,hf⟩:=chain_funs hF p.length 0 hS g ln (Nat.zero_le _) hg h0
 have hf':=hf
 rw[fnOkS_eq,Bool.and_eq_true]at hf'
 obtain⟨hf1,hf2⟩:=hf'
 have hf1':=hf1
 rw[fnOk,Bool.and_eq_true,decide_eq_true_eq]at hf1'
 obtain⟨hl8,hbody⟩:=hf1'
 refine⟨e,he,hl8,?_,fun k y hk1 hk2 hy=>⟨hF g e he hf k y hk1 hk2 hy,fun t ht h7=>?_,fun h4'=>?_⟩⟩
 ·unfold localsOf
  rw[if_pos (by omega),Int.toNat_natCast,hg,he]
  dsimp only
  rw[if_pos h0]
  exact locN_ge _ _ _
 ·have hkn:=body_known (e - (g+1)) (g+1) 0 (Nat.le_refl _) (hlt g e he) hbody k y (by omega) hk2 hy
  unfold exprKnown at hkn
  have:=List.all_eq_true.1 hkn t ht
  unfold tokKnown at this
  rw[if_neg (by omega),if_pos h7]at this
  split at this
  ·rename_i f hfi
   refine⟨f,hfi,?_⟩
   unfold argsN
   split at this
   ·rename_i x hx
    (try rw[hx])
    exact eq_of_beq this
   ·cases this
  ·cases this
 ·have:=(elsesIn_iff (Nat.le_refl _)).1 hf2 k y (by omega) hk2 hy h4'
  rw[anyE_iff]at this
  obtain⟨i,i1,i2,i3⟩:=this
  exact⟨i,i1,by omega,i3⟩
def alike (p q:List TLine):Prop:=p.map (fun x=>(x.fKind,x.fName,x.fArgs))=q.map (fun x=>(x.fKind,x.fName,x.fArgs))
theorem alike.len {p q:List TLine}(h:alike p q):p.length=q.length:=by simpa using congrArg List.length h
theorem alike.get {p q:List TLine}(h:alike p q){k:Nat}{x:TLine}(hx:p[k]?=some x):∃y,q[k]?=some y∧x.fKind=y.fKind∧x.fName=y.fName∧x.fArgs=y.fArgs:=by
 have:=congrArg (·[k]?) h
 simp only[List.getElem?_map,hx,Option.map_some]at this
 cases hy:q[k]? with
 | none=>rw[hy]at this;cases this
 | some y=>
  rw[hy]at this
  simp only[Option.map_some,Option.some.injEq,Prod.mk.injEq]at this
  exact⟨y,rfl,this.1,this.2.1,this.2.2⟩
theorem alike.none {p q:List TLine}(h:alike p q){k:Nat}(hx:p[k]?=none):q[k]?=none:=by
 rw[List.getElem?_eq_none_iff]at hx ⊢
 have:=h.len
 omega
theorem alike.symm {p q:List TLine}(h:alike p q):alike q p:=Eq.symm h
theorem alike.drop {p q:List TLine}(h:alike p q)(n:Nat):alike (p.drop n) (q.drop n):=by
 unfold alike at *
 rw[List.map_drop,List.map_drop,h]
theorem alike.endN:∀{p q:List TLine},alike p q→∀(i o:Nat),endN p i o=endN q i o
 | [],[],_,_,_=>rfl
 | x::p,y::q,h,i,o=>by
  simp only[alike,List.map_cons,List.cons.injEq,Prod.mk.injEq]at h
  have ih:=alike.endN (p:=p) (q:=q) h.2
  rw[Go.Proofs.YtjmplnfiabmalaaGreat.endN,Go.Proofs.YtjmplnfiabmalaaGreat.endN,h.1.1,ih,ih,ih]
 | [],_::_,h,_,_=>by simp[alike]at h
 | _::_,[],h,_,_=>by simp[alike]at h
theorem alike.endAt {p q:List TLine}(h:alike p q)(k:Nat):endAt p k=endAt q k:=by
 unfold Go.Proofs.YtjmplnfiabmalaaGreat.endAt
 cases hx:p[k]? with
 | none=>rw[h.none hx]
 | some x=>
  obtain⟨y,hy,e1,_⟩:=h.get hx
  rw[hy]
  dsimp only
  rw[e1,(h.drop (k+1)).endN]
theorem alike.elseN {p q:List TLine}(h:alike p q){e:Nat}:∀(n i:Nat),elseN p e n i=elseN q e n i
 | 0,_=>rfl
 | n+1,i=>by
  rw[Go.Proofs.YtjmplnfiabmalaaGreat.elseN,Go.Proofs.YtjmplnfiabmalaaGreat.elseN]
  cases hx:p[i]? with
  | none=>rw[h.none hx]
  | some x=>
   obtain⟨y,hy,e1,_⟩:=h.get hx
   rw[hy]
   dsimp only
   rw[e1,h.endAt i]
   cases Go.Proofs.YtjmplnfiabmalaaGreat.endAt q i with
   | none=>dsimp only;rw[alike.elseN h n]
   | some m=>dsimp only;rw[alike.elseN h n,alike.elseN h n]
theorem alike.elseAt {p q:List TLine}(h:alike p q)(k:Nat):elseAt p k=elseAt q k:=by
 unfold Go.Proofs.YtjmplnfiabmalaaGreat.elseAt
 rw[h.endAt k]
 cases hx:p[k]? with
 | none=>rw[h.none hx]
 | some x=>
  obtain⟨y,hy,e1,_⟩:=h.get hx
  rw[hy]
  cases Go.Proofs.YtjmplnfiabmalaaGreat.endAt q k with
  | none=>rfl
  | some e=>dsimp only;rw[e1,h.elseN]
theorem alike.findN:∀{p q:List TLine},alike p q→∀(i:Nat) (s:List UInt8),findN p i s=findN q i s
 | [],[],_,_,_=>rfl
 | x::p,y::q,h,i,s=>by
  simp only[alike,List.map_cons,List.cons.injEq,Prod.mk.injEq]at h
  have ih:=alike.findN (p:=p) (q:=q) h.2
  rw[Go.Proofs.YtjmplnfiabmalaaGreat.findN,Go.Proofs.YtjmplnfiabmalaaGreat.findN,h.1.1,h.1.2.1,ih]
 | [],_::_,h,_,_=>by simp[alike]at h
 | _::_,[],h,_,_=>by simp[alike]at h
theorem alike.locN {p q:List TLine}(h:alike p q){e:Nat}:∀(n i:Nat) (acc:List (List UInt8)),locN p e n i acc=locN q e n i acc
 | 0,_,_=>rfl
 | n+1,i,acc=>by
  rw[Go.Proofs.YtjmplnfiabmalaaGreat.locN,Go.Proofs.YtjmplnfiabmalaaGreat.locN]
  cases hx:p[i]? with
  | none=>rw[h.none hx]
  | some x=>
   obtain⟨y,hy,e1,e2,_⟩:=h.get hx
   rw[hy]
   dsimp only
   rw[e1,e2,alike.locN h n]
theorem alike.localsOf {p q:List TLine}(h:alike p q)(k:Int):localsOf p k=localsOf q k:=by
 unfold Go.Proofs.YtjmplnfiabmalaaGreat.localsOf
 rw[h.endAt]
 cases hx:p[k.toNat]? with
 | none=>rw[h.none hx]
 | some x=>
  obtain⟨y,hy,e1,_,e3⟩:=h.get hx
  rw[hy]
  cases Go.Proofs.YtjmplnfiabmalaaGreat.endAt q k.toNat with
  | none=>rfl
  | some e=>dsimp only;rw[e1,e3,h.locN]
theorem alike.argsN {p q:List TLine}(h:alike p q)(g:Nat):argsN p g=argsN q g:=by
 unfold Go.Proofs.YtjmplnfiabmalaaGreat.argsN
 cases hx:p[g]? with
 | none=>rw[h.none hx]
 | some x=>
  obtain⟨y,hy,_,_,e3⟩:=h.get hx
  rw[hy]
  dsimp only
  rw[e3]
theorem foldLine_alike (p:List TLine):alike (p.map foldLine) p:=by
 unfold alike
 rw[List.map_map]
 refine List.map_congr_left fun x _=>?_
 simp only[Function.comp,foldLine]
 split <;> rfl
theorem ar_num (v:Int):ar ⟨0,v,[]⟩=0:=by
 unfold ar arity
 split <;> simp
theorem numE_ok {v:Int}(h:within v 0 999=true):(numE v).ok:=⟨by simp[tokOk,h],by rw[ar_num];rfl,trivial⟩
theorem finF_ok {t:TTok}{fs:List Ex}(h1:tokOk t=true)(h2:fs.length=ar t)(h3:exsOk fs):(finF t fs).ok:=by
 unfold finF
 split
 ·split
  ·rename_i hc
   exact numE_ok hc.2.2.2
  ·exact⟨h1,h2,h3⟩
 ·exact⟨h1,h2,h3⟩
mutual
theorem Ex.fold_ok:∀e:Ex,e.ok→e.fold.ok
 | .node t es,h=>by rw[Ex.fold];exact finF_ok h.1 (by rw[exFold_len];exact h.2.1) (exFold_ok es h.2.2)
theorem exFold_ok:∀es:List Ex,exsOk es→exsOk (exFold es)
 | [],_=>by rw[exFold];trivial
 | a::es,h=>by rw[exFold];exact⟨a.fold_ok h.1,exFold_ok es h.2⟩
end
theorem finF_mem {t:TTok}{fs:List Ex}{z:TTok}(h:z∈(finF t fs).toks):z=t∨z∈exToks fs∨∃n,z=⟨0,n,[]⟩:=by
 unfold finF at h
 split at h
 ·split at h
  ·simp only[numE,Ex.toks,exToks,List.mem_cons,List.not_mem_nil,or_false]at h
   exact .inr (.inr ⟨_,h⟩)
  ·rw[Ex.toks,List.mem_cons]at h
   exact h.imp id .inl
 ·rw[Ex.toks,List.mem_cons]at h
  exact h.imp id .inl
mutual
theorem Ex.fold_mem:∀(e:Ex) {z:TTok},z∈e.fold.toks→z∈e.toks∨∃n,z=⟨0,n,[]⟩
 | .node t es,z,h=>by
  rw[Ex.fold]at h
  rw[Ex.toks,List.mem_cons]
  rcases finF_mem h with h|h|h
  ·exact .inl (.inl h)
  ·rcases exFold_mem es h with h|h
   ·exact .inl (.inr h)
   ·exact .inr h
  ·exact .inr h
theorem exFold_mem:∀(es:List Ex) {z:TTok},z∈exToks (exFold es)→z∈exToks es∨∃n,z=⟨0,n,[]⟩
 | [],z,h=>by rw[exFold]at h;exact .inl h
 | a::es,z,h=>by
  rw[exFold,exToks,List.mem_append]at h
  rw[exToks,List.mem_append]
  rcases h with h|h
  ·exact(a.fold_mem h).imp .inl id
  ·exact(exFold_mem es h).imp .inr id
end
theorem exprOk_of {e:Ex}(ho:e.ok)(hl:e.toks.length≤20):exprOk e.toks=true:=by
 have h:=stands_end (l:=e.toks) (p:=0) ⟨[],by rw[List.drop_zero,List.append_nil]⟩ ho
 have hp:=e.toks_pos
 unfold exprOk
 rw[decide_eq_true hl,decide_eq_true hp,show exprEnd e.toks 0=_ from h]
 simp
theorem foldL_facts {l:List TTok}(h:exprOk l=true):exprOk (foldL l)=true∧∀z∈foldL l,z∈l∨∃n,z=⟨0,n,[]⟩:=by
 obtain⟨e,h1,h2,h3⟩:=foldL_ok h
 have hl:=foldL_len l
 have h20:l.length≤20:=by
  unfold exprOk at h
  simp only[Bool.and_eq_true,decide_eq_true_eq]at h
  exact h.1
 rw[h3]at hl ⊢
 refine⟨exprOk_of (e.fold_ok h1) (by omega),fun z hz=>?_⟩
 rw[h2]
 exact e.fold_mem hz
theorem smallRs_ofI {L:Int}:∀{rows:List (List Tr)},(∀r∈rows,smallR L r)→smallRs L rows
 | [],_=>by rw[smallRs];trivial
 | r::rs,h=>by rw[smallRs];exact⟨h r (by simp),smallRs_ofI fun x hx=>h x (by simp[hx])⟩
theorem foldLine_facts {x:TLine}(hs:smallR 1048576 x.tr)(he:(x.fKind=1∨x.fKind=2∨x.fKind=3∨x.fKind=5∨x.fKind=6)→exprOk x.fExpr=true)(h20:x.fExpr.length≤20):
  (foldLine x).fKind=x.fKind∧(foldLine x).fArgs=x.fArgs∧(foldLine x).fExpr.length≤20∧((x.fKind=1∨x.fKind=2∨x.fKind=3∨x.fKind=5∨x.fKind=6)→exprOk (foldLine x).fExpr=true)∧(∀z∈(foldLine x).fExpr,z∈x.fExpr∨∃n,z=⟨0,n,[]⟩)∧smallR 1048576 (foldLine x).tr:=by
 unfold foldLine
 split
 ·rename_i hpos
  have hl:=foldL_len x.fExpr
  have hz:∀z∈foldL x.fExpr,z∈x.fExpr∨∃n,z=⟨0,n,[]⟩:=by
   cases hx:exprOk x.fExpr with
   | true=>exact(foldL_facts hx).2
   | false=>rw[foldL_no hx];intro z hz;cases hz
  refine⟨rfl,rfl,by dsimp only;omega,fun hk=>(foldL_facts (he hk)).1,hz,?_⟩
  simp only[TLine.tr,smallR]at hs ⊢
  obtain⟨q0,q1,q2,q3,q4⟩:=hs
  refine⟨q0,q1,q2,?_,q4⟩
  have hsl:=small_len q3
  rw[smallT]
  refine⟨by rw[List.length_map];omega,smallRs_ofI fun r hr=>?_⟩
  obtain⟨z,hz1,rfl⟩:=List.mem_map.1 hr
  rcases hz z hz1 with h|⟨n,rfl⟩
  ·exact smallRs_map q3 h
  ·simp[TTok.tr,smallR,smallT]
 ·exact⟨rfl,rfl,h20,he,fun z hz=> .inl hz,hs⟩
theorem PgOk.fold {p:List TLine}(h:PgOk p):PgOk (p.map foldLine):=by
 have ha:=foldLine_alike p
 have hget:∀{k:Nat} {y:TLine},(p.map foldLine)[k]?=some y→∃x,p[k]?=some x∧y=foldLine x:=fun{k y} hy=>by
  rw[List.getElem?_map]at hy
  cases hx:p[k]? with
  | none=>rw[hx]at hy;cases hy
  | some x=>rw[hx]at hy;injection hy with hy;exact⟨x,rfl,hy.symm⟩
 have hf:∀{k:Nat} {x:TLine},p[k]?=some x→_:=fun{k x} hx=>foldLine_facts (smallRs_map h.small (List.mem_of_getElem? hx)) (h.line k x hx).2.2.2.2 (h.line k x hx).2.2.2.1
 refine⟨by rw[List.length_map];exact h.len,?_,fun k y hy=>?_,fun g y hy h0=>?_⟩
 ·rw[smallT]
  refine⟨by have:=h.len;simp;omega,smallRs_ofI fun r hr=>?_⟩
  obtain⟨y,hy,rfl⟩:=List.mem_map.1 hr
  obtain⟨x,hx,rfl⟩:=List.mem_map.1 hy
  obtain⟨k,hk,hkx⟩:=List.mem_iff_getElem.1 hx
  exact(hf (k:=k) (x:=x) (by rw[List.getElem?_eq_getElem hk,hkx])).2.2.2.2.2
 ·obtain⟨x,hx,rfl⟩:=hget hy
  obtain⟨f1,f2,f3,f4,_⟩:=hf hx
  obtain⟨l1,l2,l3,_⟩:=h.line k x hx
  rw[f1,f2]
  exact⟨l1,l2,l3,f3,f4⟩
 ·obtain⟨x,hx,rfl⟩:=hget hy
  obtain⟨f1,f2,_⟩:=hf hx
  rw[f1]at h0
  obtain⟨e,he,q1,q2,q3⟩:=h.fn g x hx h0
  refine⟨e,by rw[ha.endAt];exact he,by rw[ha.localsOf];exact q1,by rw[ha.localsOf,f2];exact q2,fun k y hk1 hk2 hy=>?_⟩
  obtain⟨z,hz,rfl⟩:=hget hy
  obtain⟨g1,_,_,_,g5,_⟩:=hf hz
  obtain⟨r1,r2,r3⟩:=q3 k z hk1 hk2 hz
  refine⟨by rw[g1];exact r1,fun t ht h7=>?_,fun h4=>?_⟩
  ·rcases g5 t ht with h'|⟨n,rfl⟩
   ·obtain⟨f,hf1,hf2⟩:=r2 t h' h7
    exact⟨f,by rw[ha.findN];exact hf1,by rw[ha.argsN];exact hf2⟩
   ·exact absurd h7 (show ¬(0:Int)=7 by decide)
  ·rw[g1]at h4
   obtain⟨i,i1,i2,i3⟩:=r3 h4
   exact⟨i,i1,i2,by rw[ha.elseAt];exact i3⟩
end Go.Proofs.YtjmplnfiabmalaaGreat
namespace Go.Proofs.YtjmplnfiabmalaaGreat
open Go.Sim
set_option maxRecDepth 100000
set_option maxHeartbeats 4000000
abbrev scRow (x:Sc)(lv:List Int):List DC:=[.d (.int .i64 (x.f:Int)),.t (.lst 1 (x.chain.map intRow)),.t (.lst 1 (x.locals.map strRow)),.d (.int .i64 x.first),.d (.bool x.outer),.d (.lst (if x.outer=true then 0 else 1) (lv.map intRow))]
abbrev scV (x:Sc):AV:= .r (.agg [.t (.int .i64 (x.f:Int)),.t (.lst 1 (x.chain.map intRow)),.t (.lst 1 (x.locals.map strRow)),.t (.int .i64 x.first),.t (.bool x.outer),.opq])
abbrev vInts (l:List Int):AV:= .r (.c (.t (.lst 1 (l.map intRow))))
abbrev itR (l:List TItem):List (List DC):=deepRows (l.map TItem.tr)
abbrev mkrB (C:Cx)(s:Gs)(d:Int)(i1 i2:Sim.Id):AO:= .box [.t (.lst 4 (C.p.map TLine.tr)),.t (.int .i64 C.b.fFrames),.t (.int .i64 C.b.fInline),.t (.bool C.b.fFold),.t (.bool C.b.fSplit),.t (.bool C.framed),.t (.int .i64 C.words),.t (.int .i64 s.most),.t (.int .i64 C.args),.t (.int .i64 d),.own i1,.own i2,.t (.bool s.start)]
abbrev mkrH (i1 i2:Sim.Id)(C:Cx)(s:Gs)(d:Int)(S:List (List DC)):List (Sim.Id×AO):=[((0,0,0),mkrB C s d i1 i2),(i1,.dar 7 (itR s.items) none),(i2,.dar 6 S none)]
abbrev mkrP:AV:= .r (.c (.ptr (0,0,0) 0))
theorem itR_len (l:List TItem):(itR l).length=l.length:=by rw[itR,deepRows_length,List.length_map]
theorem itR_snoc (l:List TItem)(x:TItem):itR (l++[x])=itR l++[x.tr.map .d]:=by simp[itR,deepRows]
def roomy (s:Gs):Prop:=s.items.length≤68719476736
theorem g_spec_emit (C:Cx)(s:Gs)(d:Int)(S:List (List DC))(code arg line:Int)(chain:List Int)(h1:roomy s)(h2:chain.length≤100):SpecG Tryz.prog 206 [mkrP,tI .i64 code,tI .i64 arg,tI .i64 line,vInts chain] (mkrH (0,0,1) (0,0,2) C s d S) (.tup []) (mkrH (1,0,1) (0,0,2) C (emitG C s d code arg line chain) d S):=by
 refine specG_of_Wo hΓ hmix Tryz.func206 rfl (by decide) rfl rfl ?_
 unfold roomy at h1
 have hlen:=itR_len s.items
 have hcl:(chain.map intRow).length=chain.length:=by simp
 have hfl:=flat_ints chain
 repeat' ((conv=>whnf);first|(with_reducible first|apply Wx|apply W6)|apply oi|(apply fi<;>intro h)|refine⟨_,rfl,?_⟩|((with_reducible show _=_);rfl))
 all_goals try((with_reducible refine Obl.mk ?_);exact KP)
 all_goals try exact⟨⟨by rw[hlen];(try dsimp only);omega,by rw[hlen];(try dsimp only);omega⟩⟩
 all_goals try exact⟨⟨by simp <;> omega,by simp <;> omega⟩⟩
 all_goals try exact⟨by simpa using hfl⟩
 all_goals(refine⟨?_⟩;(try rw[hlen]at *);rw[emitG,itR_snoc];congr 1;simp_all[mkItem,TItem.tr])
theorem g_spec_place (C:Cx)(hC:CxOk C)(s:Gs)(d:Int)(S:List (List DC))(x:Sc)(i:Int)(store:Bool)(hd:-2000≤d∧d≤2000)(hx:0≤x.first∧x.first≤1000)(hi:-2≤i∧i≤100):SpecG Tryz.prog 264 [mkrP,scV x,tI .i64 i,tB store] (mkrH (0,0,1) (0,0,2) C s d S) (.tup [.c (.t (.int .i64 (placeC C store))),.c (.t (.int .i64 (placeA C x d i)))]) (mkrH (0,0,1) (0,0,2) C s d S):=by
 refine specG_of_Wo hΓ hmix Tryz.func264 rfl (by decide) rfl rfl ?_
 obtain⟨a1,a2⟩:=hC.args
 repeat' ((conv=>whnf);first|(with_reducible first|apply Wx|apply W6)|apply oi|(apply fi<;>intro h)|refine⟨_,rfl,?_⟩|((with_reducible show _=_);rfl))
 all_goals try((with_reducible refine Obl.mk ?_);exact KP)
 all_goals try(exfalso;simp_all;done)
 all_goals(refine⟨congrArg (Tr.int _) ?_⟩;(try unfold placeC);(try unfold placeA isArg aboveK);(try simp(disch:=omega)only[IntWalk.i64_in]);simp_all <;> omega)
theorem g_spec_load (C:Cx)(hC:CxOk C)(s:Gs)(d:Int)(S:List (List DC))(x:Sc)(i line:Int)(h1:roomy s)(h2:x.chain.length≤100)(hd:-1000≤d∧d≤1999)(hx:0≤x.first∧x.first≤1000)(hi:-2≤i∧i≤100):SpecG Tryz.prog 261 [mkrP,scV x,tI .i64 i,tI .i64 line] (mkrH (0,0,1) (0,0,2) C s d S) (.tup []) (mkrH (1,0,1) (0,0,2) C (loadG C x s d i line) (d+1) S):=by
 refine specG_of_Wo hΓ hmix Tryz.func261 rfl (by decide) rfl rfl ?_
 have g1:=g_spec_place C hC s d S x i false (by omega) hx hi
 have g2:=g_spec_emit C s d S (placeC C false) (placeA C x d i) line x.chain h1 h2
 repeat' ((conv=>whnf);first|(with_reducible first|apply Wx|apply W6)|apply oi|(apply fi<;>intro h)|refine⟨_,rfl,?_⟩|((with_reducible show _=_);rfl))
 all_goals try((with_reducible refine Obl.mk ?_);exact KP)
 refine cg (g1) ?_
 repeat' ((conv=>whnf);first|(with_reducible first|apply Wx|apply W6)|apply oi|(apply fi<;>intro h)|refine⟨_,rfl,?_⟩|((with_reducible show _=_);rfl))
 all_goals try((with_reducible refine Obl.mk ?_);exact KP)
 refine cg (g2) ?_
 repeat' ((conv=>whnf);first|(with_reducible first|apply Wx|apply W6)|apply oi|(apply fi<;>intro h)|refine⟨_,rfl,?_⟩|((with_reducible show _=_);rfl))
 all_goals try((with_reducible refine Obl.mk ?_);exact KP)
 all_goals try exact⟨KW⟩
theorem g_spec_store (C:Cx)(hC:CxOk C)(s:Gs)(d:Int)(S:List (List DC))(x:Sc)(i line:Int)(chain:List Int)(h1:roomy s)(h2:chain.length≤100)(hd:-1000≤d∧d≤2000)(hx:0≤x.first∧x.first≤1000)(hi:-2≤i∧i≤100):SpecG Tryz.prog 247 [mkrP,scV x,tI .i64 i,tI .i64 line,vInts chain] (mkrH (0,0,1) (0,0,2) C s d S) (.tup []) (mkrH (1,0,1) (0,0,2) C (storeG C x s d i line chain) (d - 1) S):=by
 refine specG_of_Wo hΓ hmix Tryz.func247 rfl (by decide) rfl rfl ?_
 have g1:=g_spec_place C hC s d S x i true (by omega) hx hi
 have g2:=g_spec_emit C s d S (placeC C true) (placeA C x d i) line chain h1 h2
 repeat' ((conv=>whnf);first|(with_reducible first|apply Wx|apply W6)|apply oi|(apply fi<;>intro h)|refine⟨_,rfl,?_⟩|((with_reducible show _=_);rfl))
 all_goals try((with_reducible refine Obl.mk ?_);exact KP)
 refine cg (g1) ?_
 repeat' ((conv=>whnf);first|(with_reducible first|apply Wx|apply W6)|apply oi|(apply fi<;>intro h)|refine⟨_,rfl,?_⟩|((with_reducible show _=_);rfl))
 all_goals try((with_reducible refine Obl.mk ?_);exact KP)
 refine cg (g2) ?_
 repeat' ((conv=>whnf);first|(with_reducible first|apply Wx|apply W6)|apply oi|(apply fi<;>intro h)|refine⟨_,rfl,?_⟩|((with_reducible show _=_);rfl))
 all_goals try((with_reducible refine Obl.mk ?_);exact KP)
 all_goals try exact⟨KW⟩
theorem g_spec_number (C:Cx)(s:Gs)(d:Int)(S:List (List DC))(v line:Int)(chain:List Int)(h1:roomy s)(h2:chain.length≤100)(hd:-1000≤d∧d≤1999):SpecG Tryz.prog 244 [mkrP,tI .i64 v,tI .i64 line,vInts chain] (mkrH (0,0,1) (0,0,2) C s d S) (.tup []) (mkrH (1,0,1) (0,0,2) C (emitG C s d 0 v line chain) (d+1) S):=by
 refine specG_of_Wo hΓ hmix Tryz.func244 rfl (by decide) rfl rfl ?_
 have g2:=g_spec_emit C s d S 0 v line chain h1 h2
 repeat' ((conv=>whnf);first|(with_reducible first|apply Wx|apply W6)|apply oi|(apply fi<;>intro h)|refine⟨_,rfl,?_⟩|((with_reducible show _=_);rfl))
 all_goals try((with_reducible refine Obl.mk ?_);exact KP)
 refine cg (g2) ?_
 repeat' ((conv=>whnf);first|(with_reducible first|apply Wx|apply W6)|apply oi|(apply fi<;>intro h)|refine⟨_,rfl,?_⟩|((with_reducible show _=_);rfl))
 all_goals try((with_reducible refine Obl.mk ?_);exact KP)
 all_goals try exact⟨KW⟩
abbrev scH (l:List (Sc×List Int)):List (List DC):=l.map fun y=>scRow y.1 y.2
theorem g_spec_leave (C:Cx)(hC:CxOk C)(s:Gs)(d:Int)(S:List (Sc×List Int))(x:Sc)(lv:List Int)(k:Nat)(last:Bool)(h1:roomy s)(h2:x.chain.length≤100)(hd:-1000≤d∧d≤2000)(hS:S.length≤100)(hlv:lv.length≤68719476736)(hd p:List Int):
  SpecG Tryz.prog 245 [mkrP,tI .i64 (k:Int),tB last] (mkrH (0,0,1) (0,0,2) C s d (scH (S++[(x,lv)]))) (.tup []) (mkrH (1,0,1) (1,0,2) C (leaveG C x k last d ⟨s,hd,p,lv⟩).g (d - 1) (scH (S++[(x,(leaveG C x k last d ⟨s,hd,p,lv⟩).lv)]))):=by
 refine specG_of_Wo hΓ hmix Tryz.func245 rfl (by decide) rfl rfl ?_
 obtain⟨f,chain,locals,first,outer⟩:=x
 have hlen:=itR_len s.items
 have hsl:(scH (S++[(⟨f,chain,locals,first,outer⟩,lv)])).length=S.length+1:=by simp
 have hrow:(scH (S++[(⟨f,chain,locals,first,outer⟩,lv)]))[S.length]?=some (scRow ⟨f,chain,locals,first,outer⟩ lv):=by simp
 have hw:IntKind.i64.wrap (((scH (S++[(⟨f,chain,locals,first,outer⟩,lv)])).length:Int) - 1)=(S.length:Int):=by rw[hsl,IntWalk.i64_in _ (by omega)];omega
 have hfl:=flat_ints lv
 have hfl2:=flat_ints (lv++[(s.items.length:Int)])
 have hlt:S.length < (scH (S++[(⟨f,chain,locals,first,outer⟩,lv)])).length:=by omega
 have hll:(lv.map intRow).length=lv.length:=by simp
 unfold roomy at h1
 cases outer with
 | false=>
  cases last with
  | true=>
   have e:leaveG C ⟨f,chain,locals,first,false⟩ k true d ⟨s,hd,p,lv⟩=⟨s,hd,p,lv⟩:=by simp[leaveG]
   rw[e]
   repeat' ((conv=>whnf);first|(with_reducible first|apply Wx|apply W6)|apply oi|(apply fi<;>intro h)|refine⟨S.length,hw,hlt,?_⟩|refine⟨_,hrow,?_⟩|refine⟨_,rfl,?_⟩|((with_reducible show _=_);rfl))
   all_goals try((with_reducible refine Obl.mk ?_);exact KP)
   all_goals try exact⟨KW⟩
   all_goals(exfalso;simp_all;done)
  | false=>
   have e:leaveG C ⟨f,chain,locals,first,false⟩ k false d ⟨s,hd,p,lv⟩=⟨emitG C s d 10 0 k chain,hd,p,lv++[(s.items.length:Int)]⟩:=by simp[leaveG]
   rw[e]
   have g:=g_spec_emit C s d ((scH (S++[(⟨f,chain,locals,first,false⟩,lv)])).set S.length [.d (.int .i64 (f:Int)),.t (.lst 1 (chain.map intRow)),.t (.lst 1 (locals.map strRow)),.d (.int .i64 first),.d (.bool false),.d (.lst 1 (lv.map intRow++[[.int .i64 ((itR s.items).length:Int)]]))]) 10 0 k chain h1 h2
   repeat' ((conv=>whnf);first|(with_reducible first|apply Wx|apply W6)|refine cg g ?_|apply oi|(apply fi<;>intro h)|refine⟨S.length,hw,hlt,?_⟩|refine⟨_,hrow,?_⟩|refine⟨_,(List.getElem?_set_self hlt),?_⟩|refine⟨_,rfl,?_⟩|((with_reducible show _=_);rfl))
   all_goals try((with_reducible refine Obl.mk ?_);exact KP)
   all_goals try exact⟨hfl⟩
   all_goals try exact⟨⟨by rw[hll];(try dsimp only);simp <;> omega,by rw[hll];(try dsimp only);simp <;> omega⟩⟩
   all_goals try exact⟨by rw[hlen];first|(simp[intRow];done)|simpa [intRow]using hfl2⟩
   all_goals try exact⟨KW⟩
   all_goals try(exfalso;simp_all;done)
   all_goals(refine⟨?_⟩;rw[hlen];simp[List.set_append,intRow])
 | true=>
  have g1:=g_spec_emit C s d (scH (S++[(⟨f,chain,locals,first,true⟩,lv)])) 14 C.args k chain h1 h2
  have g2:=g_spec_emit C s d (scH (S++[(⟨f,chain,locals,first,true⟩,lv)])) 16 (C.args+16 * C.words) k chain h1 h2
  obtain⟨a1,a2⟩:=hC.args
  obtain⟨a3,a4⟩:=hC.words
  have e2:IntKind.i64.wrap (C.args+IntKind.i64.wrap (16 * C.words))=C.args+16 * C.words:=by simp(disch:=omega)only[IntWalk.i64_in]
  rw[←e2]at g2
  cases hf:C.framed with
  | true=>
   have e:leaveG C ⟨f,chain,locals,first,true⟩ k last d ⟨s,hd,p,lv⟩=⟨emitG C s d 14 C.args k chain,hd,p,lv⟩:=by simp[leaveG,hf]
   rw[e]
   repeat' ((conv=>whnf);first|(with_reducible first|apply Wx|apply W6)|refine cg g1 ?_|apply oi|(apply fi<;>intro h)|refine⟨S.length,hw,hlt,?_⟩|refine⟨_,hrow,?_⟩|refine⟨_,rfl,?_⟩|((with_reducible show _=_);rfl))
   all_goals try((with_reducible refine Obl.mk ?_);exact KP)
   all_goals try exact⟨KW⟩
   all_goals(exfalso;simp_all;done)
  | false=>
   have e:leaveG C ⟨f,chain,locals,first,true⟩ k last d ⟨s,hd,p,lv⟩=⟨emitG C s d 16 (IntKind.i64.wrap (C.args+IntKind.i64.wrap (16 * C.words))) k chain,hd,p,lv⟩:=by simp[leaveG,hf,e2]
   rw[e]
   repeat' ((conv=>whnf);first|(with_reducible first|apply Wx|apply W6)|refine cg g2 ?_|apply oi|(apply fi<;>intro h)|refine⟨S.length,hw,hlt,?_⟩|refine⟨_,hrow,?_⟩|refine⟨_,rfl,?_⟩|((with_reducible show _=_);rfl))
   all_goals try((with_reducible refine Obl.mk ?_);exact KP)
   all_goals try exact⟨KW⟩
   all_goals(exfalso;simp_all;done)
end Go.Proofs.YtjmplnfiabmalaaGreat
namespace Go.Proofs.YtjmplnfiabmalaaGreat
open Go.Sim
set_option maxRecDepth 100000
set_option maxHeartbeats 4000000
abbrev exRow (e:Int×Int):List Tr:=[.int .i64 e.1,.int .i64 e.2]
theorem setArg_at {l:List TItem}{j:Nat}{x:TItem}(h:l[j]?=some x)(v:Int):setArg l (j:Int) v=l.set j ⟨⟨x.fOp.fCode,v⟩,x.fLine,x.fStart,x.fChain,x.fDepth,x.fEntered⟩:=by
 rw[setArg,if_pos (by omega),Int.toNat_natCast,h]
theorem itR_setArg {l:List TItem}{j:Nat}{x:TItem}(h:l[j]?=some x)(v:Int):itR (setArg l (j:Int) v)=(itR l).set j [.d (.int .i64 x.fOp.fCode),.d (.int .i64 v),.d (.int .i64 x.fLine),.d (.bool x.fStart),.d (.lst 1 (x.fChain.map intRow)),.d (.int .i64 x.fDepth),.d (.bool x.fEntered)]:=by
 rw[setArg_at h]
 simp[deepRows,List.map_set,TItem.tr]
theorem itR_get {l:List TItem}{j:Nat}{x:TItem}(h:l[j]?=some x):(itR l)[j]?=some (x.tr.map .d):=deepRows_get (map_get h)
theorem g_spec_patch (C:Cx)(s:Gs)(d:Int)(S:List (List DC))(E:List (Int×Int))(to:Int)(h1:roomy s)(hE:E.length≤100)(hin:∀e∈E,0≤e.2∧e.2 < s.items.length):
  SpecG Tryz.prog 243 [mkrP,.r (.c (.own (0,1,0))),tI .i64 to] (mkrH (0,0,1) (0,0,2) C s d S++[((0,1,0),.arr false 2 (E.map exRow))]) (.tup []) (mkrH (0,0,1) (0,0,2) C ⟨patchE s.items s.items.length to E,s.most,s.start⟩ d S++[((0,1,0),.arr false 2 (E.map exRow))]):=by
 refine specG_of_Wo hΓ hmix Tryz.func243 rfl (by decide) rfl rfl ?_
 have hEl:(E.map exRow).length=E.length:=by simp
 unfold roomy at h1
 repeat' ((conv=>whnf);first|(with_reducible first|apply Wx|apply W6)|apply oi|(apply fi<;>intro h)|refine⟨_,rfl,?_⟩|((with_reducible show _=_);rfl))
 all_goals try((with_reducible refine Obl.mk ?_);exact KP)
 conv=>whnf
 refine⟨{k:Nat // k≤E.length},fun q=>⟨[(0,mkrP),(1,.r (.c (.own (0,1,0)))),(2,tI .i64 to),(6,tI .i64 (q.1:Int))],[((0,0,0),some (mkrB C s d (0,0,1) (0,0,2))),((0,0,1),some (.dar 7 (itR (patchE s.items s.items.length to (E.take q.1))) none)),((0,0,2),some (.dar 6 S none)),((0,1,0),some (.arr false 2 (E.map exRow)))],[0]⟩,fun q=>E.length - q.1,⟨0,by omega⟩,?_,?_⟩
 ·skip
  repeat' ((conv=>whnf);first|(with_reducible first|apply Wx|apply W6)|apply oi|(apply fi<;>intro h)|refine⟨_,rfl,?_⟩|((with_reducible show _=_);rfl))
  all_goals try((with_reducible refine Obl.mk ?_);exact KP)
 intro⟨k,hk⟩
 dsimp only at hk ⊢
 have hpl:=patchE_len s.items.length to (E.take k) s.items
 have hil:(itR (patchE s.items s.items.length to (E.take k))).length=s.items.length:=by rw[itR_len,hpl]
 by_cases hlt:k < E.length
 ·obtain⟨e,he⟩:=get_of_lt hlt
  obtain⟨i1,i2⟩:=hin e (List.mem_of_getElem? he)
  obtain⟨j,hj⟩:=Int.eq_ofNat_of_zero_le i1
  have hjl:j < (itR (patchE s.items s.items.length to (E.take k))).length:=by rw[hil];omega
  obtain⟨x,hx⟩:=get_of_lt (l:=patchE s.items s.items.length to (E.take k)) (k:=j) (by rw[hpl];omega)
  have hkl:k < (E.map exRow).length:=by rw[hEl];exact hlt
  have hnext:E.take (k+1)=E.take k++[e]:=by rw[List.take_add_one,he];rfl
  have hps:=patchE_snoc s.items.length to e (E.take k) s.items
  repeat' ((conv=>whnf);first|(with_reducible first|apply Wx|apply W6)|apply oi|(apply fi<;>intro h)|refine⟨k,rfl,hkl,?_⟩|refine⟨exRow e,(map_get he),?_⟩|refine⟨j,hj,hjl,?_⟩|refine⟨_,(itR_get hx),?_⟩|refine⟨_,rfl,?_⟩|((with_reducible show _=_);rfl))
  all_goals try((with_reducible refine Obl.mk ?_);exact KP)
  all_goals try exact KX
  all_goals(conv=>whnf)
  all_goals(refine⟨⟨k+1,by omega⟩,?_,by dsimp only;omega⟩)
  repeat' ((conv=>whnf);first|(with_reducible first|apply Wx|apply W6)|apply oi|(apply fi<;>intro h)|refine⟨_,rfl,?_⟩|((with_reducible show _=_);rfl))
  all_goals try((with_reducible refine Obl.mk ?_);exact KP)
  all_goals try exact⟨KW⟩
  all_goals(refine⟨?_⟩;(try rw[hil]);rw[hnext,hps])
  ·rw[if_pos (by simpa using h),hj,itR_setArg hx];rfl
  ·rw[if_neg (by simpa using h)]
 ·skip
  repeat' ((conv=>whnf);first|(with_reducible first|apply Wx|apply W6)|apply oi|(apply fi<;>intro h)|refine⟨_,rfl,?_⟩|((with_reducible show _=_);rfl))
  all_goals try((with_reducible refine Obl.mk ?_);exact KP)
  all_goals try exact KX
  all_goals(refine⟨?_⟩;rw[List.take_of_length_le (by omega)])
abbrev insOf (S:List (Sc×List Int)):List Nat:=S.map fun y=>y.1.f
theorem g_spec_replaced (C:Cx)(hC:CxOk C)(s:Gs)(d:Int)(S:List (Sc×List Int))(g:Nat)(h1:roomy s)(hS:1≤S.length∧S.length≤100)(hg:g < C.p.length):
  SpecG Tryz.prog 262 [mkrP,tI .i64 (g:Int)] (mkrH (0,0,1) (0,0,2) C s d (scH S)) (tB (replB C (insOf S) g s.items.length)) (mkrH (0,0,1) (0,0,2) C s d (scH S)):=by
 refine specG_of_Wo hΓ hmix Tryz.func262 rfl (by decide) rfl rfl ?_
 unfold roomy at h1
 have hlen:=itR_len s.items
 have hsl:(scH S).length=S.length:=by simp
 have hpl:(C.p.map TLine.tr).length=C.p.length:=by simp
 have hE:=s_spec_EndOf C.p (g:Int) (by have:=hC.len;omega)
 have hil:(insOf S).length=S.length:=by simp
 have h60:=hC.len
 have hin:=hC.inl
 have hee:-1≤endOf C.p (g:Int)∧endOf C.p (g:Int)≤60:=by
  rw[endOf_at]
  cases he:endAt C.p g with
  | none=>simp[endI]
  | some e=>have:=endAt_some he;obtain⟨_,_,_,_,_,h⟩:=this;simp only[endI];omega
 unfold replB
 rw[hil]
 generalize endOf C.p (g:Int)=eg at *
 have hw1:IntKind.i64.wrap (((scH S).length:Int) - 1)=(S.length:Int) - 1:=by rw[hsl,IntWalk.i64_in _ (by omega)]
 have hw2:IntKind.i64.wrap (eg - (g:Int))=eg - g:=by rw[IntWalk.i64_in _ (by omega)]
 repeat' ((conv=>whnf);first|(with_reducible first|apply Wx|apply W6)|apply oi|(apply fi<;>intro h)|refine cl hE ?_|refine⟨_,rfl,?_⟩|((with_reducible show _=_);rfl))
 all_goals try((with_reducible refine Obl.mk ?_);exact KP)
 all_goals try(refine⟨congrArg Tr.bool ?_⟩;(try rw[hw1]at h);(try rw[hw2]at h);(try rw[hlen]at h);simp only[decide_eq_true_eq]at h;symm;simp only[Bool.and_eq_false_iff,decide_eq_false_iff_not];omega)
 conv=>whnf
 refine⟨{k:Nat // k≤S.length∧((insOf S).take k).contains g=false},fun q=>⟨[(0,mkrP),(1,tI .i64 (g:Int)),(5,tI .i64 (q.1:Int))],(mkrH (0,0,1) (0,0,2) C s d (scH S)).map (fun p=>(p.1,some p.2)),[0]⟩,fun q=>S.length - q.1,⟨0,by omega,by simp⟩,?_,?_⟩
 ·skip
  repeat' ((conv=>whnf);first|(with_reducible first|apply Wx|apply W6)|apply oi|(apply fi<;>intro h)|refine⟨_,rfl,?_⟩|((with_reducible show _=_);rfl))
  all_goals try((with_reducible refine Obl.mk ?_);exact KP)
 rename_i ha hb
 rw[hw1]at ha
 rw[hw2]at hb
 rw[hlen]at h
 simp only[decide_eq_false_iff_not]at ha hb h
 have hfin:∀c:Bool,(decide ((S.length:Int)≤C.b.fInline) && (decide (eg - (g:Int)≤9) && (decide (s.items.length < 200) && !c)))= !c:=fun c=>by
  rw[decide_eq_true (by omega),decide_eq_true (by omega),decide_eq_true (by omega)];rfl
 rw[hfin]
 clear hfin
 intro⟨k,hk,hno⟩
 dsimp only at hk hno ⊢
 by_cases hlt:k < S.length
 ·obtain⟨y,hy⟩:=get_of_lt hlt
  have hyr:(scH S)[k]?=some (scRow y.1 y.2):=by simp[hy]
  have hkl:k < (scH S).length:=by omega
  have hnext:(insOf S).take (k+1)=(insOf S).take k++[y.1.f]:=by rw[List.take_add_one,List.getElem?_map,hy];rfl
  have hmem:y.1.f∈insOf S:=List.mem_map.2 ⟨y,List.mem_of_getElem? hy,rfl⟩
  repeat' ((conv=>whnf);first|(with_reducible first|apply Wx|apply W6)|apply oi|(apply fi<;>intro h)|refine⟨k,rfl,hkl,?_⟩|refine⟨_,hyr,?_⟩|refine⟨_,rfl,?_⟩|((with_reducible show _=_);rfl))
  all_goals try((with_reducible refine Obl.mk ?_);exact KP)
  all_goals try exact KX
  ·refine⟨congrArg Tr.bool ?_⟩
   have e:y.1.f=g:=by have:=eq_of_beq h;omega
   rw[←e,List.contains_iff_mem.2 hmem]
   rfl
  ·conv=>whnf
   refine⟨⟨k+1,by omega,?_⟩,?_,by dsimp only;omega⟩
   ·have e:g≠y.1.f:=fun e=>by rw[←e]at h;simp at h
    rw[hnext,List.contains_eq_any_beq,List.any_append,←List.contains_eq_any_beq,hno]
    simp[e]
   repeat' ((conv=>whnf);first|(with_reducible first|apply Wx|apply W6)|apply oi|(apply fi<;>intro h)|refine⟨_,rfl,?_⟩|((with_reducible show _=_);rfl))
   all_goals try((with_reducible refine Obl.mk ?_);exact KP)
   all_goals try exact⟨KW⟩
 ·skip
  repeat' ((conv=>whnf);first|(with_reducible first|apply Wx|apply W6)|apply oi|(apply fi<;>intro h)|refine⟨_,rfl,?_⟩|((with_reducible show _=_);rfl))
  all_goals try((with_reducible refine Obl.mk ?_);exact KP)
  all_goals try exact KX
  rw[List.take_of_length_le (by omega)]at hno
  exact⟨by rw[hno];rfl⟩
end Go.Proofs.YtjmplnfiabmalaaGreat
namespace Go.Proofs.YtjmplnfiabmalaaGreat
open Go.Sim
set_option maxRecDepth 100000
set_option maxHeartbeats 4000000
def callsOk (C:Cx)(l:List TTok):Prop:=∀t∈l,t.fKind=7→∃f,findN C.p 0 t.fName=some f∧(argsN C.p f:Int)=t.fNum
structure Rm (C:Cx) (lev n:Nat) (S:Nat) (s:Gs) (d:Int):Prop where
 room:s.items.length+n * tokC lev≤68719476736
 depth:((lev+S:Nat):Int)=C.b.fInline
 low:0≤d
 high:d+(n:Int)+100 * (lev:Int)≤1900
def ExprC (C:Cx)(lev:Nat):Prop:=∀(e:Ex) (x:Sc) (S:List (Sc×List Int)) (lv:List Int) (k p:Nat) (ln:TLine) (s:Gs) (d:Int),e.ok→ScOk C x (insOf (S++[(x,lv)]))→C.p[k]?=some ln→stands ln.fExpr p e→callsOk C ln.fExpr→Rm C lev e.toks.length S.length s d→
 SpecG Tryz.prog 246 [mkrP,tI .i64 (k:Int),tI .i64 (p:Int)] (mkrH (0,0,1) (0,0,2) C s d (scH (S++[(x,lv)]))) (tI .i64 ((p+e.toks.length:Nat):Int)) (mkrH (1,0,1) (1,0,2) C (genE C (repN C lev) x (insOf (S++[(x,lv)])) k e d s) (d+1) (scH (S++[(x,lv)])))
def RepC (C:Cx)(lev:Nat):Prop:=∀(x:Sc) (S:List (Sc×List Int)) (lv:List Int) (k g:Nat) (s:Gs) (d:Int),ScOk C x (insOf (S++[(x,lv)]))→k < C.p.length→isFun C g→replB C (insOf (S++[(x,lv)])) g s.items.length=true→Rm C lev 1 S.length s (d - argsN C.p g)→
 SpecG Tryz.prog 263 [mkrP,tI .i64 (g:Int),tI .i64 (k:Int),scV x] (mkrH (0,0,1) (0,0,2) C s d (scH (S++[(x,lv)]))) (.tup []) (mkrH (1,0,1) (1,0,2) C (repN C lev x (insOf (S++[(x,lv)])) k g d s) (d - argsN C.p g+1) (scH (S++[(x,lv)])))
theorem idxOf_le {α:Type}[BEq α](l:List α)(s:α):-1≤idxOf l s∧idxOf l s≤l.length:=by
 unfold idxOf
 cases h:idxN l 0 s with
 | none=>simp only[endI];omega
 | some k=>have:=idxN_some h;simp only[endI];omega
theorem toks_short {C:Cx}(hC:CxOk C){k:Nat}{ln:TLine}(hk:C.p[k]?=some ln):toksShort ln.fExpr∧ln.fName.length≤1048576:=by
 obtain⟨h1,_,_,_,h5⟩:=line_small (smallRs_map hC.small (List.mem_of_getElem? hk))
 exact⟨fun t ht=>by have:=h5 t ht;omega,h1⟩
theorem numOf_le (p:List TLine)(g:Nat):numOf p g≤g:=by
 unfold numOf
 have h1:=List.length_filter_le (fun x:TLine=>x.fKind==0) (p.take g)
 have h2:=List.length_take_le g p
 omega
theorem numOf_succ {p:List TLine}{i:Nat}{x:TLine}(hx:p[i]?=some x):numOf p (i+1)=numOf p i+if x.fKind=0 then 1 else 0:=by
 unfold numOf
 rw[List.take_add_one,hx,List.filter_append,List.length_append]
 by_cases h:x.fKind=0
 ·simp[h]
 ·simp[h]
theorem ExprC_of {C:Cx}(hC:CxOk C){lev:Nat}(hR:RepC C lev):∀(n:Nat) (e:Ex),e.toks.length≤n→∀(x:Sc) (S:List (Sc×List Int)) (lv:List Int) (k p:Nat) (ln:TLine) (s:Gs) (d:Int),e.ok→ScOk C x (insOf (S++[(x,lv)]))→C.p[k]?=some ln→stands ln.fExpr p e→callsOk C ln.fExpr→Rm C lev e.toks.length S.length s d→
  SpecG Tryz.prog 246 [mkrP,tI .i64 (k:Int),tI .i64 (p:Int)] (mkrH (0,0,1) (0,0,2) C s d (scH (S++[(x,lv)]))) (tI .i64 ((p+e.toks.length:Nat):Int)) (mkrH (1,0,1) (1,0,2) C (genE C (repN C lev) x (insOf (S++[(x,lv)])) k e d s) (d+1) (scH (S++[(x,lv)])))
 | 0,e,hn,_,_,_,_,_,_,_,_,_,_,_,_,_,_=>by have:=e.toks_pos;omega
 | n+1,.node t es,hn,x,S,lv,k,p,ln,s,d,ho,hx,hk,hs,hca,hr=>by
  refine specG_of_Wo hΓ hmix Tryz.func246 rfl (by decide) rfl rfl ?_
  obtain⟨hsh,hnm⟩:=toks_short hC hk
  have hle:=stands_le hs
  obtain⟨ht,hsa⟩:=stands_tok hs
  obtain⟨e1,e2⟩:=ar_eq ho.1
  have hel:es.length=ar t:=ho.2.1
  have hA:=s_spec_Arity t (hsh t (List.mem_of_getElem? ht))
  rw[e1,←hel]at hA
  have h60:=hC.len
  have h20:=(hC.line _ _ hk).2.2.2.1
  have hsl:(scH (S++[(x,lv)])).length=S.length+1:=by simp
  have hrow:(scH (S++[(x,lv)]))[S.length]?=some (scRow x lv):=by simp
  have hlt:S.length < (scH (S++[(x,lv)])).length:=by omega
  have hr1:=hr.room
  have hr2:=hr.depth
  have hr3:=hr.low
  have hr4:=hr.high
  have hin:=hC.inl
  have hw:IntKind.i64.wrap (((scH (S++[(x,lv)])).length:Int) - 1)=(S.length:Int):=by rw[hsl,IntWalk.i64_in _ (by omega)];omega
  have htp:=tokC_pos lev
  rw[Ex.toks,List.length_cons]at hn hle hr1 hr4
  rw[genE]
  repeat' ((conv=>whnf);first|(with_reducible first|apply Wx|apply W6)|apply oi|(apply fi<;>intro h)|refine⟨S.length,hw,hlt,?_⟩|refine⟨_,hrow,?_⟩|refine⟨k,ln.tr,rfl,map_get hk,?_⟩|refine⟨p,t.tr,rfl,map_get ht,?_⟩|refine cl hA ?_|refine⟨_,rfl,?_⟩|((with_reducible show _=_);rfl))
  all_goals try((with_reducible refine Obl.mk ?_);exact KP)
  conv=>whnf
  refine⟨{j:Nat // j≤es.length},fun q=>⟨[(0,mkrP),(1,tI .i64 (k:Int)),(2,tI .i64 ((p+1+(exToks (es.take q.1)).length:Nat):Int)),(9,tI .i64 ((es.length - q.1:Nat):Int)),(7,.r (.c (.ptr (7,0,0) 0))),(8,.r (.c (.ptr (8,0,0) 0)))],
   [(
    (0,0,0),some (mkrB C (genEs C (repN C lev) x (insOf (S++[(x,lv)])) k (es.take q.1) d s) (d+q.1) (7,0,1) (7,0,2))),((7,0,1),some (.dar 7 (itR (genEs C (repN C lev) x (insOf (S++[(x,lv)])) k (es.take q.1) d s).items) none)),((7,0,2),some (.dar 6 (scH (S++[(x,lv)])) none)),
    ((7,0,0),some (.box [.t (.int .i64 (x.f:Int)),.t (.lst 1 (x.chain.map intRow)),.t (.lst 1 (x.locals.map strRow)),.t (.int .i64 x.first),.t (.bool x.outer),.opq])),((8,0,0),some (.box (t.tr.map .t)))],[8,7,0]⟩,fun q=>es.length - q.1,⟨0,by omega⟩,?_,?_⟩
  ·skip
   repeat' ((conv=>whnf);first|(with_reducible first|apply Wx|apply W6)|apply oi|(apply fi<;>intro h)|refine⟨_,rfl,?_⟩|((with_reducible show _=_);rfl))
   all_goals try((with_reducible refine Obl.mk ?_);exact KP)
   ·exact⟨congrArg (Tr.int _) (by rw[IntWalk.i64_in _ (by omega)];simp[exToks])⟩
   ·exact⟨congrArg (Tr.int _) (by simp)⟩
  intro⟨j,hj⟩
  dsimp only at hj ⊢
  have hgr:=genEs_grow (C:=C) (x:=x) (ins:=insOf (S++[(x,lv)])) (line:=k) (lev:=lev) (fun g d s hg hr=>repN_grow hC lev k g d s hx hg hr) (es.take j) d s
  have hg2:=hgr.le
  have htk:=exToks_take_le es j
  obtain⟨s1,hs1⟩:∃s1,genEs C (repN C lev) x (insOf (S++[(x,lv)])) k (es.take j) d s=s1:=⟨_,rfl⟩
  rw[hs1]at hgr hg2 ⊢
  by_cases hlj:j < es.length
  ·obtain⟨a,ha⟩:=get_of_lt hlj
   have hta:=exToks_take_get ha
   have htk2:=exToks_take_le es (j+1)
   have hal:=exToks_mem ha
   have hjt:j≤(exToks (es.take j)).length:=by
    have:∀(l:List Ex),l.length≤(exToks l).length:=by
     intro l
     induction l with
     | nil=>simp
     | cons b l ih=>have:=b.toks_pos;rw[exToks,List.length_append,List.length_cons];omega
    have h2:=this (es.take j)
    rw[List.length_take]at h2
    omega
   have hm:=Nat.mul_le_mul_right (tokC lev) (show(exToks (es.take j)).length+a.toks.length≤(exToks es).length+1 by omega)
   rw[Nat.add_mul]at hm
   have hI:=ExprC_of hC hR n a (by omega) x S lv k (p+1+(exToks (es.take j)).length) ln s1 (d+j) (exsOk_get ho.2.2 ha) hx hk (standAll_at hsa ha) hca ⟨by omega,hr2,by omega,by omega⟩
   have hnext:=genEs_take C (repN C lev) x (insOf (S++[(x,lv)])) k d s ha
   rw[hs1]at hnext
   repeat' ((conv=>whnf);first|(with_reducible first|apply Wx|apply W6)|apply oi|(apply fi<;>intro h)|refine⟨_,rfl,?_⟩|((with_reducible show _=_);rfl))
   all_goals try((with_reducible refine Obl.mk ?_);exact KP)
   all_goals try exact KX
   refine cg (hI) ?_
   repeat' ((conv=>whnf);first|(with_reducible first|apply Wx|apply W6)|apply oi|(apply fi<;>intro h)|refine⟨_,rfl,?_⟩|((with_reducible show _=_);rfl))
   all_goals try((with_reducible refine Obl.mk ?_);exact KP)
   conv=>whnf
   refine⟨⟨j+1,by omega⟩,?_,by dsimp only;omega⟩
   repeat' ((conv=>whnf);first|(with_reducible first|apply Wx|apply W6)|apply oi|(apply fi<;>intro h)|refine⟨_,rfl,?_⟩|((with_reducible show _=_);rfl))
   all_goals try((with_reducible refine Obl.mk ?_);exact KP)
   all_goals try exact⟨by dsimp only;rw[hnext]⟩
   all_goals try exact⟨KW⟩
  ·have hje:j=es.length:=by omega
   subst hje
   rw[List.take_length]at hs1 hg2 htk ⊢
   have hT:(Ex.node t es).toks.length=(exToks es).length+1:=by rw[Ex.toks,List.length_cons]
   rw[hs1]
   have hroom:s1.items.length+tokC lev≤68719476736:=by
    have:((exToks es).length+1) * tokC lev=(exToks es).length * tokC lev+tokC lev:=by rw[Nat.add_mul];omega
    omega
   have hch:x.chain.length≤100:=by
    have:=hx.chain
    rw[show(insOf (S++[(x,lv)])).length=S.length+1 by simp]at this
    omega
   have hro:roomy s1:=by unfold roomy;omega
   obtain⟨k1,k2,k3⟩:=ar_kind ho.1
   have htl:=hsh t (List.mem_of_getElem? ht)
   have hxf:0≤x.first∧x.first≤1000:=by
    have:=hx.first
    rw[show(insOf (S++[(x,lv)])).length=S.length+1 by simp]at this
    omega
   obtain⟨ee,_,_,_,_,hll⟩:=hx.endE hC
   rcases tok_kinds ho.1 with hk0|hk1|hk7|hk26
   ·have g1:=g_spec_number C s1 (d+es.length) (scH (S++[(x,lv)])) t.fNum k x.chain hro hch (by omega)
    have hz:=k1 (.inl hk0)
    unfold finG
    rw[if_pos hk0]
    repeat' ((conv=>whnf);first|(with_reducible first|apply Wx|apply W6)|refine cg g1 ?_|apply oi|(apply fi<;>intro h)|refine⟨_,rfl,?_⟩|((with_reducible show _=_);rfl))
    all_goals try((with_reducible refine Obl.mk ?_);exact KP)
    all_goals try exact KX
    all_goals try exact⟨KW⟩
    all_goals try exact KK
   ·have g1:=g_spec_load C hC s1 (d+es.length) (scH (S++[(x,lv)])) x (idxOf x.locals t.fName) k hro hch (by omega) hxf (by have:=idxOf_le x.locals t.fName;omega)
    have gI:=s_spec_l04Index x.locals t.fName (by omega)
    have hz:=k1 (.inr hk1)
    unfold finG
    rw[if_neg (by omega),if_pos hk1]
    generalize idxOf x.locals t.fName=ix at *
    repeat' ((conv=>whnf);first|(with_reducible first|apply Wx|apply W6)|refine cg g1 ?_|apply oi|(apply fi<;>intro h)|refine cl gI ?_|refine⟨_,rfl,?_⟩|((with_reducible show _=_);rfl))
    all_goals try((with_reducible refine Obl.mk ?_);exact KP)
    all_goals try exact KX
    all_goals try exact⟨KW⟩
    all_goals try exact KK
   ·obtain⟨f,hf,hfa⟩:=hca t (List.mem_of_getElem? ht) hk7
    obtain⟨hfl,y,hy,hy0,_⟩:=find_some hf
    have hfun:isFun C f:=⟨y,hy,hy0⟩
    have hkk:=k2 hk7
    have gF:=s_spec_FindFunction C.p t.fName (by omega)
    rw[show findF C.p t.fName=(f:Int) from endI_some hf]at gF
    have g1:=g_spec_replaced C hC s1 (d+es.length) (S++[(x,lv)]) f hro (by simp;omega) hfl
    unfold finG
    rw[if_neg (by omega),if_neg (by omega),if_pos hk7,hf]
    dsimp only
    cases hrb:replB C (insOf (S++[(x,lv)])) f s1.items.length with
    | true=>
     have g2:=hR x S lv k f s1 (d+es.length) hx (lt_of_get hk) hfun hrb ⟨by omega,hr2,by omega,by omega⟩
     rw[hrb]at g1
     rw[if_pos rfl]
     repeat' ((conv=>whnf);first|(with_reducible first|apply Wx|apply W6)|refine cg g1 ?_|refine cg g2 ?_|apply oi|(apply fi<;>intro h)|refine cl gF ?_|refine⟨_,rfl,?_⟩|((with_reducible show _=_);rfl))
     all_goals try((with_reducible refine Obl.mk ?_);exact KP)
     all_goals try exact KX
     all_goals try exact⟨KW⟩
     all_goals try exact KK
    | false=>
     rw[hrb]at g1
     rw[if_neg (by simp)]
     have g2:=g_spec_emit C s1 (d+es.length) (scH (S++[(x,lv)])) 12 (numOf C.p f) k x.chain hro hch
     repeat' ((conv=>whnf);first|(with_reducible first|apply Wx|apply W6)|refine cg g1 ?_|apply oi|(apply fi<;>intro h)|refine cl gF ?_|refine⟨_,rfl,?_⟩|((with_reducible show _=_);rfl))
     all_goals try((with_reducible refine Obl.mk ?_);exact KP)
     all_goals try exact KX
     all_goals try exact KK
     conv=>whnf
     refine⟨{i:Nat // i≤f},fun q=>⟨[(0,mkrP),(1,tI .i64 (k:Int)),(2,tI .i64 ((p+1+(exToks es).length:Nat):Int)),(10,tI .i64 (f:Int)),(11,tI .i64 (numOf C.p q.1:Int)),(12,tI .i64 (q.1:Int)),(7,.r (.c (.ptr (7,0,0) 0))),(8,.r (.c (.ptr (8,0,0) 0)))],
      [(
       (0,0,0),some (mkrB C s1 (d+es.length) (7,0,1) (7,0,2))),((7,0,1),some (.dar 7 (itR s1.items) none)),((7,0,2),some (.dar 6 (scH (S++[(x,lv)])) none)),
       ((7,0,0),some (.box [.t (.int .i64 (x.f:Int)),.t (.lst 1 (x.chain.map intRow)),.t (.lst 1 (x.locals.map strRow)),.t (.int .i64 x.first),.t (.bool x.outer),.opq])),((8,0,0),some (.box (t.tr.map .t)))],[8,7,0]⟩,fun q=>f - q.1,⟨0,by omega⟩,?_,?_⟩
     ·skip
      repeat' ((conv=>whnf);first|(with_reducible first|apply Wx|apply W6)|apply oi|(apply fi<;>intro h)|refine⟨_,rfl,?_⟩|((with_reducible show _=_);rfl))
      all_goals try((with_reducible refine Obl.mk ?_);exact KP)
     intro⟨i,hi⟩
     dsimp only at hi ⊢
     have hnl:=numOf_le C.p i
     by_cases hif:i < f
     ·obtain⟨z,hz⟩:=get_of_lt (l:=C.p) (k:=i) (by omega)
      have hns:=numOf_succ hz
      repeat' ((conv=>whnf);first|(with_reducible first|apply Wx|apply W6)|apply oi|(apply fi<;>intro h)|refine⟨i,z.tr,rfl,map_get hz,?_⟩|refine⟨_,rfl,?_⟩|((with_reducible show _=_);rfl))
      all_goals try((with_reducible refine Obl.mk ?_);exact KP)
      all_goals try exact KX
      all_goals(conv=>whnf)
      all_goals(refine⟨⟨i+1,by omega⟩,?_,by dsimp only;omega⟩)
      repeat' ((conv=>whnf);first|(with_reducible first|apply Wx|apply W6)|apply oi|(apply fi<;>intro h)|refine⟨_,rfl,?_⟩|((with_reducible show _=_);rfl))
      all_goals try((with_reducible refine Obl.mk ?_);exact KP)
      all_goals try exact⟨KW⟩
      ·rw[if_pos (by simpa using h)]at hns
       all_goals try exact⟨KW⟩
      ·rw[if_neg (by simpa using h)]at hns
       all_goals try exact⟨KW⟩
     ·have hie:i=f:=by omega
      subst hie
      repeat' ((conv=>whnf);first|(with_reducible first|apply Wx|apply W6)|refine cg g2 ?_|apply oi|(apply fi<;>intro h)|refine⟨_,rfl,?_⟩|((with_reducible show _=_);rfl))
      all_goals try((with_reducible refine Obl.mk ?_);exact KP)
      all_goals try exact KX
      all_goals try exact⟨KW⟩
   ·have g1:=g_spec_emit C s1 (d+es.length) (scH (S++[(x,lv)])) (5+t.fKind - 2) 0 k x.chain hro hch
    have hw5:IntKind.i64.wrap (IntKind.i64.wrap (5+t.fKind) - 2)=5+t.fKind - 2:=by simp(disch:=omega)only[IntWalk.i64_in]
    rw[←hw5]at g1
    have hz:=k3 hk26.1 hk26.2
    unfold finG
    rw[if_neg (by omega),if_neg (by omega),if_neg (by omega),←hw5]
    repeat' ((conv=>whnf);first|(with_reducible first|apply Wx|apply W6)|refine cg g1 ?_|apply oi|(apply fi<;>intro h)|refine⟨_,rfl,?_⟩|((with_reducible show _=_);rfl))
    all_goals try((with_reducible refine Obl.mk ?_);exact KP)
    all_goals try exact KX
    all_goals try exact⟨KW⟩
    all_goals try exact KK
end Go.Proofs.YtjmplnfiabmalaaGreat
