import Derived.Test.YtjmplnfiabmalaaGe
namespace Go.Proofs.Ytjmplnfiabmalaa
open Go.Sim
set_option maxRecDepth 100000
set_option maxHeartbeats 4000000
abbrev vN (l:List (List UInt8)):AV:= .r (.c (.t (.lst 1 (l.map strRow))))
theorem all_at {α:Type}{f:α→Bool}{l:List α}{k:Nat}{x:α}(hx:l[k]?=some x):(l.drop k).all f=(f x && (l.drop (k+1)).all f):=by
 rw[drop_at hx,List.all_cons]
theorem s_impl_exprNames (l:List TLine)(loc:List (List UInt8))(ts:List TTok)(hl:l.length≤1048576)(hloc:loc.length≤4194304)(hts:ts.length≤1048576):Sim.Spec Try.prog 97 [tvP l,tvL 1 (loc.map strRow),tvL 3 (ts.map TTok.tr)] (rB (exprKnown l loc ts)):=by
 refine spec_of_W hΓ hmix Try.func97 rfl (by decide) rfl ?_
 have hlen:(ts.map TTok.tr).length=ts.length:=by simp
 have hlen2:(l.map TLine.tr).length=l.length:=by simp
 obtain⟨R,hR⟩:∃R,exprKnown l loc ts=R:=⟨_,rfl⟩
 rw[hR]
 repeat' ((conv=>whnf);first|refine Or.inl ?_|apply oi|(apply fi<;>intro h)|refine⟨_,rfl,?_⟩|((with_reducible show _=_);rfl))
 all_goals try((with_reducible refine Obl.mk ?_);exact KO)
 conv=>whnf
 refine⟨{k:Nat // k≤ts.length∧(ts.drop k).all (tokKnown l loc)=R},fun q=>⟨[(0,vP l),(1,vN loc),(10,.r (.c (.t (.lst 3 (ts.map TTok.tr))))),(11,tI .i64 ((ts.map TTok.tr).length:Int)),(12,tI .i64 (q.1:Int))],[],[]⟩,fun q=>ts.length - q.1,⟨0,by omega,hR⟩,?_,?_⟩
 ·skip
  repeat' ((conv=>whnf);first|refine Or.inl ?_|apply oi|(apply fi<;>intro h)|refine⟨_,rfl,?_⟩|((with_reducible show _=_);rfl))
  all_goals try((with_reducible refine Obl.mk ?_);exact KO)
 intro⟨k,hk,hr⟩
 dsimp only at hk hr ⊢
 by_cases hlt:k < ts.length
 ·obtain⟨t,ht⟩:=get_of_lt hlt
  rw[all_at ht]at hr
  have hC:=s_slices_ContainsS loc t.fName hloc
  have hF:=s_impl_FindFunction l t.fName hl
  by_cases h1:t.fKind=1
  ·have e1:tokKnown l loc t=loc.contains t.fName:=by unfold tokKnown;rw[if_pos h1]
   rw[e1]at hr
   cases hc:loc.contains t.fName with
   | false=>
    rw[hc]at hC hr
    rw[Bool.false_and]at hr
    subst hr
    repeat' ((conv=>whnf);first|refine Or.inl ?_|apply oi|(apply fi<;>intro h)|refine⟨k,t.tr,rfl,map_get ht,?_⟩|refine ci hC (ai rfl (ai rfl trivial)) ?_|refine ci hF (ai rfl (ai rfl trivial)) ?_|refine⟨_,rfl,?_⟩|((with_reducible show _=_);rfl))
    all_goals try((with_reducible refine Obl.mk ?_);exact KO)
    all_goals try exact KX
    all_goals try(exfalso;(try simp_all[within]);(try omega);done)
   | true=>
    rw[hc]at hC hr
    rw[Bool.true_and]at hr
    repeat' ((conv=>whnf);first|refine Or.inl ?_|apply oi|(apply fi<;>intro h)|refine⟨k,t.tr,rfl,map_get ht,?_⟩|refine ci hC (ai rfl (ai rfl trivial)) ?_|refine ci hF (ai rfl (ai rfl trivial)) ?_|refine⟨_,rfl,?_⟩|((with_reducible show _=_);rfl))
    all_goals try((with_reducible refine Obl.mk ?_);exact KO)
    all_goals try exact KX
    all_goals try(exfalso;(try simp_all[within]);(try omega);done)
    all_goals try(exfalso;simp_all;done)
    conv=>whnf
    refine⟨⟨k+1,by omega,hr⟩,?_,by dsimp only;omega⟩
    repeat' ((conv=>whnf);first|refine Or.inl ?_|apply oi|(apply fi<;>intro h)|refine⟨_,rfl,?_⟩|((with_reducible show _=_);rfl))
    all_goals try((with_reducible refine Obl.mk ?_);exact KO)
    all_goals try exact⟨K2⟩
  ·by_cases h7:t.fKind=7
   ·cases hf:findN l 0 t.fName with
    | none=>
     have e1:tokKnown l loc t=false:=by unfold tokKnown;rw[if_neg h1,if_pos h7,hf]
     rw[e1,Bool.false_and]at hr
     subst hr
     rw[show findF l t.fName= -1 from endI_none hf]at hF
     repeat' ((conv=>whnf);first|refine Or.inl ?_|apply oi|(apply fi<;>intro h)|refine⟨k,t.tr,rfl,map_get ht,?_⟩|refine ci hC (ai rfl (ai rfl trivial)) ?_|refine ci hF (ai rfl (ai rfl trivial)) ?_|refine⟨_,rfl,?_⟩|((with_reducible show _=_);rfl))
     all_goals try((with_reducible refine Obl.mk ?_);exact KO)
     all_goals try exact KX
     all_goals try(exfalso;(try simp_all[within]);(try omega);done)
    | some f=>
     obtain⟨hfl,x,hx,hx0,_⟩:=find_some hf
     have e1:tokKnown l loc t=((x.fArgs.length:Int)==t.fNum):=by unfold tokKnown;rw[if_neg h1,if_pos h7,hf];dsimp only;rw[hx]
     rw[e1]at hr
     rw[show findF l t.fName=(f:Int) from endI_some hf]at hF
     have hxl:(x.fArgs.map strRow).length=x.fArgs.length:=by simp
     by_cases hn:(x.fArgs.length:Int)=t.fNum
     ·rw[beq_iff_eq.2 hn,Bool.true_and]at hr
      repeat' ((conv=>whnf);first|refine Or.inl ?_|apply oi|(apply fi<;>intro h)|refine⟨k,t.tr,rfl,map_get ht,?_⟩|refine⟨f,x.tr,rfl,map_get hx,?_⟩|refine ci hC (ai rfl (ai rfl trivial)) ?_|refine ci hF (ai rfl (ai rfl trivial)) ?_|refine⟨_,rfl,?_⟩|((with_reducible show _=_);rfl))
      all_goals try((with_reducible refine Obl.mk ?_);exact KO)
      all_goals try exact KX
      all_goals try(exfalso;(try simp_all[within]);(try omega);done)
      all_goals try(exfalso;simp_all;done)
      conv=>whnf
      refine⟨⟨k+1,by omega,hr⟩,?_,by dsimp only;omega⟩
      repeat' ((conv=>whnf);first|refine Or.inl ?_|apply oi|(apply fi<;>intro h)|refine⟨_,rfl,?_⟩|((with_reducible show _=_);rfl))
      all_goals try((with_reducible refine Obl.mk ?_);exact KO)
      all_goals try exact⟨K2⟩
     ·rw[beq_eq_false_iff_ne.2 hn,Bool.false_and]at hr
      subst hr
      repeat' ((conv=>whnf);first|refine Or.inl ?_|apply oi|(apply fi<;>intro h)|refine⟨k,t.tr,rfl,map_get ht,?_⟩|refine⟨f,x.tr,rfl,map_get hx,?_⟩|refine ci hC (ai rfl (ai rfl trivial)) ?_|refine ci hF (ai rfl (ai rfl trivial)) ?_|refine⟨_,rfl,?_⟩|((with_reducible show _=_);rfl))
      all_goals try((with_reducible refine Obl.mk ?_);exact KO)
      all_goals try exact KX
      all_goals try(exfalso;(try simp_all[within]);(try omega);done)
      all_goals try(exfalso;simp_all;done)
   ·have e1:tokKnown l loc t=true:=by unfold tokKnown;rw[if_neg h1,if_neg h7]
    rw[e1,Bool.true_and]at hr
    repeat' ((conv=>whnf);first|refine Or.inl ?_|apply oi|(apply fi<;>intro h)|refine⟨k,t.tr,rfl,map_get ht,?_⟩|refine ci hC (ai rfl (ai rfl trivial)) ?_|refine ci hF (ai rfl (ai rfl trivial)) ?_|refine⟨_,rfl,?_⟩|((with_reducible show _=_);rfl))
    all_goals try((with_reducible refine Obl.mk ?_);exact KO)
    all_goals try exact KX
    all_goals try(exfalso;(try simp_all[within]);(try omega);done)
    all_goals try(exfalso;simp_all;done)
    conv=>whnf
    refine⟨⟨k+1,by omega,hr⟩,?_,by dsimp only;omega⟩
    repeat' ((conv=>whnf);first|refine Or.inl ?_|apply oi|(apply fi<;>intro h)|refine⟨_,rfl,?_⟩|((with_reducible show _=_);rfl))
    all_goals try((with_reducible refine Obl.mk ?_);exact KO)
    all_goals try exact⟨K2⟩
 ·rw[List.drop_eq_nil_of_le (by omega),List.all_nil]at hr
  subst hr
  repeat' ((conv=>whnf);first|refine Or.inl ?_|apply oi|(apply fi<;>intro h)|refine⟨_,rfl,?_⟩|((with_reducible show _=_);rfl))
  all_goals try((with_reducible refine Obl.mk ?_);exact KO)
  all_goals try exact KX
def natRow (n:Nat):List Tr:=intRow n
theorem lineOk_noexpr {x:TLine}(h:lineOk x=true)(hk:x.fKind=7):x.fExpr=[]:=by
 unfold lineOk at h
 simp only[Bool.and_eq_true]at h
 have h3:=h.2.2.2
 rw[if_neg (by rw[hk];decide)]at h3
 exact List.length_eq_zero_iff.1 (eq_of_beq h3)
def stOf (i:Nat)(st es:List Nat):Prop:=st=es∨st=(i - 1)::es
theorem revTop (m:Nat)(r:List Nat):((m::r).reverse.map natRow)[r.length]?=some (natRow m):=by simp
theorem StkOk.top {l:List TLine}{e i m:Nat}{r:List Nat}(h:StkOk l e i (m::r)):i≤m:=h.1
theorem s_impl_functionOk (l:List TLine)(k e:Nat)(hl:l.length≤60)(hs:∀x∈l,smallR 1048576 x.tr)(hok:∀x∈l,lineOk x=true)(he:endAt l k=some e):Sim.Spec Try.prog 68 [tvP l,tvI k,tvI e] (rB (fnOk l k e)):=by
 refine spec_of_W hΓ hmix Try.func68 rfl (by decide) rfl ?_
 have hlen:(l.map TLine.tr).length=l.length:=by simp
 have hL:=s_impl_LocalsOf l k (by omega) hs
 obtain⟨hloc1,hloc2⟩:=locals_le (l:=l) (k:=(k:Int)) (by omega) hs
 have hst0:=(endAt_some he)
 obtain⟨x0,hx0,ho0,he0,hke,hel⟩:=hst0
 unfold fnOk
 generalize localsOf l (k:Int)=loc at *
 have hll:(loc.map strRow).length=loc.length:=by simp
 by_cases h8:loc.length≤8
 ·rw[decide_eq_true h8,Bool.true_and]
  obtain⟨R,hR⟩:∃R,bodyN l loc e (e - (k+1)) (k+1) 0=R:=⟨_,rfl⟩
  rw[hR]
  repeat' ((conv=>whnf);first|refine Or.inl ?_|apply oi|(apply fi<;>intro h)|refine ci hL (ai rfl (ai rfl trivial)) ?_|refine⟨_,rfl,?_⟩|((with_reducible show _=_);rfl))
  all_goals try((with_reducible refine Obl.mk ?_);exact KO)
  all_goals try exact KX
  conv=>whnf
  refine⟨{q:Nat×List Nat×List Nat // k < q.1∧q.1≤e+1∧q.2.1.length≤5∧(q.1=e+1→R=true)∧(q.1≤e→StkOk l e q.1 q.2.2∧q.2.2.length≤4∧stOf q.1 q.2.1 q.2.2∧bodyN l loc e (e - q.1) q.1 q.2.2.length=R)},fun q=>⟨[(0,vP l),(2,tI .i64 (e:Int)),(7,.r (.c (.own (7,0,0)))),(8,.r (.c (.own (8,0,0)))),(9,tI .i64 (q.1.1:Int))],[((7,0,0),some (.arr true 1 (loc.map strRow))),((8,0,0),some (.arr false 1 (q.1.2.1.reverse.map natRow)))],[7,8]⟩,fun q=>e+1 - q.1.1,⟨(k+1,[],[]),by dsimp only;omega,by dsimp only;omega,by simp,fun h=>by dsimp only at h;omega,fun _=>⟨he0,by simp,.inl rfl,hR⟩⟩,?_,?_⟩
  ·skip
   repeat' ((conv=>whnf);first|refine Or.inl ?_|apply oi|(apply fi<;>intro h)|refine⟨_,rfl,?_⟩|((with_reducible show _=_);rfl))
   all_goals try((with_reducible refine Obl.mk ?_);exact KO)
   all_goals try exact⟨K2⟩
   all_goals exact⟨by simp⟩
  intro⟨⟨i,st,es⟩,q1,q2,q3,q4,q5⟩
  dsimp only at q1 q2 q3 q4 q5 ⊢
  by_cases hie:i≤e
  ·obtain⟨y,hy⟩:=get_of_lt (l:=l) (k:=i) (by omega)
   obtain⟨g1,g2,g3,g4⟩:=q5 hie
   have hE:=s_impl_EndOf l (i:Int) (by omega)
   have hX:=s_impl_exprNames l loc y.fExpr (by omega) (by omega) (by have:=(line_small (hs y (List.mem_of_getElem? hy))).2.2.2.1;omega)
   repeat' ((conv=>whnf);first|refine Or.inl ?_|apply oi|(apply fi<;>intro h)|refine⟨_,rfl,?_⟩|((with_reducible show _=_);rfl))
   all_goals try((with_reducible refine Obl.mk ?_);exact KO)
   all_goals try exact KX
   conv=>whnf
   refine⟨{u:List Nat // stOf i u es},fun q=>⟨[(0,vP l),(2,tI .i64 (e:Int)),(7,.r (.c (.own (7,0,0)))),(8,.r (.c (.own (8,0,0)))),(9,tI .i64 (i:Int))],[((7,0,0),some (.arr true 1 (loc.map strRow))),((8,0,0),some (.arr false 1 (q.1.reverse.map natRow)))],[7,8]⟩,fun q=>q.1.length,⟨st,g3⟩,?_,?_⟩
   ·skip
    repeat' ((conv=>whnf);first|refine Or.inl ?_|apply oi|(apply fi<;>intro h)|refine⟨_,rfl,?_⟩|((with_reducible show _=_);rfl))
    all_goals try((with_reducible refine Obl.mk ?_);exact KO)
   intro⟨u,hu⟩
   dsimp only at hu ⊢
   have hul:(u.reverse.map natRow).length=u.length:=by simp
   cases u with
   | nil=>
    have hes0:es=[]:=by
     rcases hu with h|h
     ·exact h.symm
     ·cases h
    subst hes0
    by_cases hlt:i < e
    ·rw[bodyN_step hlt hy]at g4
     by_cases h0:y.fKind=0
     ·rw[if_pos h0]at g4
      subst g4
      repeat' ((conv=>whnf);first|refine Or.inl ?_|apply oi|(apply fi<;>intro h)|refine ci hE (ai rfl (ai rfl trivial)) ?_|refine ci hX (ai rfl (ai rfl (ai rfl trivial))) ?_|refine⟨i,y.tr,rfl,map_get hy,?_⟩|refine⟨_,rfl,?_⟩|((with_reducible show _=_);rfl))
      all_goals try((with_reducible refine Obl.mk ?_);exact KO)
      all_goals try exact KX
      all_goals try(exfalso;(try simp_all[within]);(try omega);done)
     ·rw[if_neg h0]at g4
      by_cases h35:y.fKind=3∨y.fKind=5
      ·have hd:dep y ([]:List Nat).length=([]:List Nat).length+1:=by unfold dep;rw[if_pos h35]
       rw[hd]at g4
       obtain⟨m',hm',him,hst'⟩:=g1.push hy (opensK_iff.2 (by omega))
       rw[endOf_at,endI_some hm']at hE
       by_cases hc:([]:List Nat).length+1≤4∧exprKnown l loc y.fExpr=true
       ·obtain⟨c1,c2⟩:=hc
        rw[if_pos ⟨c1,c2⟩]at g4
        rw[c2]at hX
        repeat' ((conv=>whnf);first|refine Or.inl ?_|apply oi|(apply fi<;>intro h)|refine ci hE (ai rfl (ai rfl trivial)) ?_|refine ci hX (ai rfl (ai rfl (ai rfl trivial))) ?_|refine⟨i,y.tr,rfl,map_get hy,?_⟩|refine⟨_,rfl,?_⟩|((with_reducible show _=_);rfl))
        all_goals try((with_reducible refine Obl.mk ?_);exact KO)
        all_goals try exact KX
        all_goals try(exfalso;(try simp_all[within]);(try omega);done)
        all_goals try(exfalso;simp at h;omega)
        all_goals try exact⟨⟨by simp <;> omega,by simp <;> omega⟩⟩
        all_goals try(exfalso;simp_all;done)
        all_goals
         conv=>whnf
         refine⟨⟨(i+1,m'::([]:List Nat),m'::([]:List Nat)),by dsimp only;omega,by dsimp only;omega,by simp only[List.length_cons]at *;omega,fun h=>by dsimp only at h;omega,fun _=>⟨hst',by simp only[List.length_cons]at *;omega,.inl rfl,g4⟩⟩,?_,by dsimp only;omega⟩
         repeat' ((conv=>whnf);first|refine Or.inl ?_|apply oi|(apply fi<;>intro h)|refine⟨_,rfl,?_⟩|((with_reducible show _=_);rfl))
         all_goals try((with_reducible refine Obl.mk ?_);exact KO)
         all_goals try exact⟨K2⟩
         all_goals exact⟨by simp[natRow,intRow]⟩
       ·rw[if_neg hc]at g4
        subst g4
        cases hkn:exprKnown l loc y.fExpr with
        | true=>
         rw[hkn]at hX hc
         repeat' ((conv=>whnf);first|refine Or.inl ?_|apply oi|(apply fi<;>intro h)|refine ci hE (ai rfl (ai rfl trivial)) ?_|refine ci hX (ai rfl (ai rfl (ai rfl trivial))) ?_|refine⟨i,y.tr,rfl,map_get hy,?_⟩|refine⟨_,rfl,?_⟩|((with_reducible show _=_);rfl))
         all_goals try((with_reducible refine Obl.mk ?_);exact KO)
         all_goals try exact KX
         all_goals try(exfalso;(try simp_all[within]);(try omega);done)
         all_goals try exact⟨⟨by simp <;> omega,by simp <;> omega⟩⟩
         all_goals try(exfalso;apply hc;refine⟨?_,rfl⟩;simp at h;omega)
         all_goals try(exfalso;simp_all;done)
        | false=>
         rw[hkn]at hX hc
         repeat' ((conv=>whnf);first|refine Or.inl ?_|apply oi|(apply fi<;>intro h)|refine ci hE (ai rfl (ai rfl trivial)) ?_|refine ci hX (ai rfl (ai rfl (ai rfl trivial))) ?_|refine⟨i,y.tr,rfl,map_get hy,?_⟩|refine⟨_,rfl,?_⟩|((with_reducible show _=_);rfl))
         all_goals try((with_reducible refine Obl.mk ?_);exact KO)
         all_goals try exact KX
         all_goals try(exfalso;(try simp_all[within]);(try omega);done)
         all_goals try exact⟨⟨by simp <;> omega,by simp <;> omega⟩⟩
         all_goals try(exfalso;simp_all;done)
      ·by_cases h7:y.fKind=7
       ·rcases g1.pop hy h7 with⟨_,h'⟩|⟨es',hes,hst'⟩
        ·omega
        have hd:dep y ([]:List Nat).length=es'.length:=by unfold dep;rw[if_neg h35,if_pos h7,hes];simp
        have hl4:es'.length≤4:=by rw[hes]at g2;simp at g2;omega
        rw[hd]at g4
        cases hkn:exprKnown l loc y.fExpr with
        | true=>
         rw[hkn]at hX g4
         rw[if_pos ⟨hl4,rfl⟩]at g4
         repeat' ((conv=>whnf);first|refine Or.inl ?_|apply oi|(apply fi<;>intro h)|refine ci hE (ai rfl (ai rfl trivial)) ?_|refine ci hX (ai rfl (ai rfl (ai rfl trivial))) ?_|refine⟨i,y.tr,rfl,map_get hy,?_⟩|refine⟨_,rfl,?_⟩|((with_reducible show _=_);rfl))
         all_goals try((with_reducible refine Obl.mk ?_);exact KO)
         all_goals try exact KX
         all_goals try(exfalso;(try simp_all[within]);(try omega);done)
         all_goals try(exfalso;simp at h;omega)
         all_goals try(exfalso;simp_all;done)
         all_goals
          conv=>whnf
          refine⟨⟨(i+1,[],es'),by dsimp only;omega,by dsimp only;omega,by dsimp only;omega,fun h=>by dsimp only at h;omega,fun _=>⟨hst',hl4,.inr (by dsimp only;rw[hes];rfl),g4⟩⟩,?_,by dsimp only;omega⟩
          repeat' ((conv=>whnf);first|refine Or.inl ?_|apply oi|(apply fi<;>intro h)|refine⟨_,rfl,?_⟩|((with_reducible show _=_);rfl))
          all_goals try((with_reducible refine Obl.mk ?_);exact KO)
          all_goals try exact⟨K2⟩
        | false=>
         rw[hkn]at hX g4
         rw[if_neg (by simp)]at g4
         subst g4
         repeat' ((conv=>whnf);first|refine Or.inl ?_|apply oi|(apply fi<;>intro h)|refine ci hE (ai rfl (ai rfl trivial)) ?_|refine ci hX (ai rfl (ai rfl (ai rfl trivial))) ?_|refine⟨i,y.tr,rfl,map_get hy,?_⟩|refine⟨_,rfl,?_⟩|((with_reducible show _=_);rfl))
         all_goals try((with_reducible refine Obl.mk ?_);exact KO)
         all_goals try exact KX
         all_goals try(exfalso;(try simp_all[within]);(try omega);done)
         all_goals try(exfalso;simp_all;done)
       ·have hd:dep y ([]:List Nat).length=([]:List Nat).length:=by unfold dep;rw[if_neg h35,if_neg h7]
        have ho:opensK y.fKind=false:=by
         cases hh:opensK y.fKind with
         | false=>rfl
         | true=>rw[opensK_iff]at hh;omega
        have hst':=g1.other hy ho h7
        rw[hd]at g4
        cases hkn:exprKnown l loc y.fExpr with
        | true=>
         rw[hkn]at hX g4
         rw[if_pos ⟨g2,rfl⟩]at g4
         repeat' ((conv=>whnf);first|refine Or.inl ?_|apply oi|(apply fi<;>intro h)|refine ci hE (ai rfl (ai rfl trivial)) ?_|refine ci hX (ai rfl (ai rfl (ai rfl trivial))) ?_|refine⟨i,y.tr,rfl,map_get hy,?_⟩|refine⟨_,rfl,?_⟩|((with_reducible show _=_);rfl))
         all_goals try((with_reducible refine Obl.mk ?_);exact KO)
         all_goals try exact KX
         all_goals try(exfalso;(try simp_all[within]);(try omega);done)
         all_goals try(exfalso;simp at h;omega)
         all_goals try(exfalso;simp_all;done)
         all_goals
          conv=>whnf
          refine⟨⟨(i+1,[],[]),by dsimp only;omega,by dsimp only;omega,by dsimp only;omega,fun h=>by dsimp only at h;omega,fun _=>⟨hst',g2,.inl rfl,g4⟩⟩,?_,by dsimp only;omega⟩
          repeat' ((conv=>whnf);first|refine Or.inl ?_|apply oi|(apply fi<;>intro h)|refine⟨_,rfl,?_⟩|((with_reducible show _=_);rfl))
          all_goals try((with_reducible refine Obl.mk ?_);exact KO)
          all_goals try exact⟨K2⟩
        | false=>
         rw[hkn]at hX g4
         rw[if_neg (by simp)]at g4
         subst g4
         repeat' ((conv=>whnf);first|refine Or.inl ?_|apply oi|(apply fi<;>intro h)|refine ci hE (ai rfl (ai rfl trivial)) ?_|refine ci hX (ai rfl (ai rfl (ai rfl trivial))) ?_|refine⟨i,y.tr,rfl,map_get hy,?_⟩|refine⟨_,rfl,?_⟩|((with_reducible show _=_);rfl))
         all_goals try((with_reducible refine Obl.mk ?_);exact KO)
         all_goals try exact KX
         all_goals try(exfalso;(try simp_all[within]);(try omega);done)
         all_goals try(exfalso;simp_all;done)
    ·have hie':i=e:=by omega
     obtain⟨z,hz,hz7⟩:=endAt_kind he
     rw[←hie',hy]at hz
     injection hz with hz
     subst hz
     rw[bodyN_end (by omega)]at g4
     have hkn:exprKnown l loc y.fExpr=true:=by rw[lineOk_noexpr (hok y (List.mem_of_getElem? hy)) hz7];rfl
     rw[hkn]at hX
     repeat' ((conv=>whnf);first|refine Or.inl ?_|apply oi|(apply fi<;>intro h)|refine ci hE (ai rfl (ai rfl trivial)) ?_|refine ci hX (ai rfl (ai rfl (ai rfl trivial))) ?_|refine⟨i,y.tr,rfl,map_get hy,?_⟩|refine⟨_,rfl,?_⟩|((with_reducible show _=_);rfl))
     all_goals try((with_reducible refine Obl.mk ?_);exact KO)
     all_goals try exact KX
     all_goals try(exfalso;(try simp_all[within]);(try omega);done)
     all_goals try(exfalso;simp at h;omega)
     all_goals try(exfalso;simp_all;done)
     all_goals
      conv=>whnf
      refine⟨⟨(i+1,[],[]),by dsimp only;omega,by dsimp only;omega,by dsimp only;omega,fun _=>g4.symm,fun h=>by dsimp only at h;omega⟩,?_,by dsimp only;omega⟩
      repeat' ((conv=>whnf);first|refine Or.inl ?_|apply oi|(apply fi<;>intro h)|refine⟨_,rfl,?_⟩|((with_reducible show _=_);rfl))
      all_goals try((with_reducible refine Obl.mk ?_);exact KO)
      all_goals try exact⟨K2⟩
   | cons m r=>
    have hlen3:((m::r).reverse.map natRow).length=r.length+1:=by simp
    have hrl:r.length≤5:=by
     rcases hu with h|h
     ·rw[←h]at g2
      simp only[List.length_cons]at g2
      omega
     ·injection h with h1 h2
      rw[h2]
      omega
    have hw:IntKind.i64.wrap ((((m::r).reverse.map natRow).length:Int) - 1)=(r.length:Int):=by rw[hlen3,IntWalk.i64_in _ (by omega)];omega
    by_cases hm:m < i
    ·have hr:r=es:=by
      rcases hu with h|h
      ·subst h
       have:=g1.top
       omega
      ·injection h
     subst hr
     repeat' ((conv=>whnf);first|refine Or.inl ?_|apply oi|(apply fi<;>intro h)|refine⟨r.length,hw,(by rw[hlen3];omega),?_⟩|refine⟨(natRow m),(revTop m r),?_⟩|refine⟨_,rfl,?_⟩|((with_reducible show _=_);rfl))
     all_goals try((with_reducible refine Obl.mk ?_);exact KO)
     all_goals try exact KX
     conv=>whnf
     refine⟨⟨r,.inl rfl⟩,?_,by dsimp only;simp⟩
     repeat' ((conv=>whnf);first|refine Or.inl ?_|apply oi|(apply fi<;>intro h)|refine⟨_,rfl,?_⟩|((with_reducible show _=_);rfl))
     all_goals try((with_reducible refine Obl.mk ?_);exact KO)
     all_goals try exact⟨K5⟩
    ·have hr:es=m::r:=by
      rcases hu with h|h
      ·exact h.symm
      ·injection h with h1 h2
       omega
     subst hr
     have hbk:=0
     by_cases hlt:i < e
     ·rw[bodyN_step hlt hy]at g4
      by_cases h0:y.fKind=0
      ·rw[if_pos h0]at g4
       subst g4
       repeat' ((conv=>whnf);first|refine Or.inl ?_|apply oi|(apply fi<;>intro h)|refine⟨r.length,hw,(by rw[hlen3];omega),?_⟩|refine⟨(natRow m),(revTop m r),?_⟩|refine ci hE (ai rfl (ai rfl trivial)) ?_|refine ci hX (ai rfl (ai rfl (ai rfl trivial))) ?_|refine⟨i,y.tr,rfl,map_get hy,?_⟩|refine⟨_,rfl,?_⟩|((with_reducible show _=_);rfl))
       all_goals try((with_reducible refine Obl.mk ?_);exact KO)
       all_goals try exact KX
       all_goals try(exfalso;(try simp_all[within]);(try omega);done)
      ·rw[if_neg h0]at g4
       by_cases h35:y.fKind=3∨y.fKind=5
       ·have hd:dep y (m::r).length=(m::r).length+1:=by unfold dep;rw[if_pos h35]
        rw[hd]at g4
        obtain⟨m',hm',him,hst'⟩:=g1.push hy (opensK_iff.2 (by omega))
        rw[endOf_at,endI_some hm']at hE
        by_cases hc:(m::r).length+1≤4∧exprKnown l loc y.fExpr=true
        ·obtain⟨c1,c2⟩:=hc
         rw[if_pos ⟨c1,c2⟩]at g4
         rw[c2]at hX
         repeat' ((conv=>whnf);first|refine Or.inl ?_|apply oi|(apply fi<;>intro h)|refine⟨r.length,hw,(by rw[hlen3];omega),?_⟩|refine⟨(natRow m),(revTop m r),?_⟩|refine ci hE (ai rfl (ai rfl trivial)) ?_|refine ci hX (ai rfl (ai rfl (ai rfl trivial))) ?_|refine⟨i,y.tr,rfl,map_get hy,?_⟩|refine⟨_,rfl,?_⟩|((with_reducible show _=_);rfl))
         all_goals try((with_reducible refine Obl.mk ?_);exact KO)
         all_goals try exact KX
         all_goals try(exfalso;(try simp_all[within]);(try omega);done)
         all_goals try(exfalso;simp at h;omega)
         all_goals try exact⟨⟨by simp <;> omega,by simp <;> omega⟩⟩
         all_goals try(exfalso;simp_all;done)
         all_goals
          conv=>whnf
          refine⟨⟨(i+1,m'::(m::r),m'::(m::r)),by dsimp only;omega,by dsimp only;omega,by simp only[List.length_cons]at *;omega,fun h=>by dsimp only at h;omega,fun _=>⟨hst',by simp only[List.length_cons]at *;omega,.inl rfl,g4⟩⟩,?_,by dsimp only;omega⟩
          repeat' ((conv=>whnf);first|refine Or.inl ?_|apply oi|(apply fi<;>intro h)|refine⟨_,rfl,?_⟩|((with_reducible show _=_);rfl))
          all_goals try((with_reducible refine Obl.mk ?_);exact KO)
          all_goals try exact⟨K2⟩
          all_goals exact⟨by simp[natRow,intRow]⟩
        ·rw[if_neg hc]at g4
         subst g4
         cases hkn:exprKnown l loc y.fExpr with
         | true=>
          rw[hkn]at hX hc
          repeat' ((conv=>whnf);first|refine Or.inl ?_|apply oi|(apply fi<;>intro h)|refine⟨r.length,hw,(by rw[hlen3];omega),?_⟩|refine⟨(natRow m),(revTop m r),?_⟩|refine ci hE (ai rfl (ai rfl trivial)) ?_|refine ci hX (ai rfl (ai rfl (ai rfl trivial))) ?_|refine⟨i,y.tr,rfl,map_get hy,?_⟩|refine⟨_,rfl,?_⟩|((with_reducible show _=_);rfl))
          all_goals try((with_reducible refine Obl.mk ?_);exact KO)
          all_goals try exact KX
          all_goals try(exfalso;(try simp_all[within]);(try omega);done)
          all_goals try exact⟨⟨by simp <;> omega,by simp <;> omega⟩⟩
          all_goals try(exfalso;apply hc;refine⟨?_,rfl⟩;simp at h;omega)
          all_goals try(exfalso;simp_all;done)
         | false=>
          rw[hkn]at hX hc
          repeat' ((conv=>whnf);first|refine Or.inl ?_|apply oi|(apply fi<;>intro h)|refine⟨r.length,hw,(by rw[hlen3];omega),?_⟩|refine⟨(natRow m),(revTop m r),?_⟩|refine ci hE (ai rfl (ai rfl trivial)) ?_|refine ci hX (ai rfl (ai rfl (ai rfl trivial))) ?_|refine⟨i,y.tr,rfl,map_get hy,?_⟩|refine⟨_,rfl,?_⟩|((with_reducible show _=_);rfl))
          all_goals try((with_reducible refine Obl.mk ?_);exact KO)
          all_goals try exact KX
          all_goals try(exfalso;(try simp_all[within]);(try omega);done)
          all_goals try exact⟨⟨by simp <;> omega,by simp <;> omega⟩⟩
          all_goals try(exfalso;simp_all;done)
       ·by_cases h7:y.fKind=7
        ·rcases g1.pop hy h7 with⟨_,h'⟩|⟨es',hes,hst'⟩
         ·omega
         have hd:dep y (m::r).length=es'.length:=by unfold dep;rw[if_neg h35,if_pos h7,hes];simp
         have hl4:es'.length≤4:=by rw[hes]at g2;simp at g2;omega
         rw[hd]at g4
         cases hkn:exprKnown l loc y.fExpr with
         | true=>
          rw[hkn]at hX g4
          rw[if_pos ⟨hl4,rfl⟩]at g4
          repeat' ((conv=>whnf);first|refine Or.inl ?_|apply oi|(apply fi<;>intro h)|refine⟨r.length,hw,(by rw[hlen3];omega),?_⟩|refine⟨(natRow m),(revTop m r),?_⟩|refine ci hE (ai rfl (ai rfl trivial)) ?_|refine ci hX (ai rfl (ai rfl (ai rfl trivial))) ?_|refine⟨i,y.tr,rfl,map_get hy,?_⟩|refine⟨_,rfl,?_⟩|((with_reducible show _=_);rfl))
          all_goals try((with_reducible refine Obl.mk ?_);exact KO)
          all_goals try exact KX
          all_goals try(exfalso;(try simp_all[within]);(try omega);done)
          all_goals try(exfalso;simp at h;omega)
          all_goals try(exfalso;simp_all;done)
          all_goals
           conv=>whnf
           refine⟨⟨(i+1,(m::r),es'),by dsimp only;omega,by dsimp only;omega,by dsimp only;omega,fun h=>by dsimp only at h;omega,fun _=>⟨hst',hl4,.inr (by dsimp only;rw[hes];rfl),g4⟩⟩,?_,by dsimp only;omega⟩
           repeat' ((conv=>whnf);first|refine Or.inl ?_|apply oi|(apply fi<;>intro h)|refine⟨_,rfl,?_⟩|((with_reducible show _=_);rfl))
           all_goals try((with_reducible refine Obl.mk ?_);exact KO)
           all_goals try exact⟨K2⟩
         | false=>
          rw[hkn]at hX g4
          rw[if_neg (by simp)]at g4
          subst g4
          repeat' ((conv=>whnf);first|refine Or.inl ?_|apply oi|(apply fi<;>intro h)|refine⟨r.length,hw,(by rw[hlen3];omega),?_⟩|refine⟨(natRow m),(revTop m r),?_⟩|refine ci hE (ai rfl (ai rfl trivial)) ?_|refine ci hX (ai rfl (ai rfl (ai rfl trivial))) ?_|refine⟨i,y.tr,rfl,map_get hy,?_⟩|refine⟨_,rfl,?_⟩|((with_reducible show _=_);rfl))
          all_goals try((with_reducible refine Obl.mk ?_);exact KO)
          all_goals try exact KX
          all_goals try(exfalso;(try simp_all[within]);(try omega);done)
          all_goals try(exfalso;simp_all;done)
        ·have hd:dep y (m::r).length=(m::r).length:=by unfold dep;rw[if_neg h35,if_neg h7]
         have ho:opensK y.fKind=false:=by
          cases hh:opensK y.fKind with
          | false=>rfl
          | true=>rw[opensK_iff]at hh;omega
         have hst':=g1.other hy ho h7
         rw[hd]at g4
         cases hkn:exprKnown l loc y.fExpr with
         | true=>
          rw[hkn]at hX g4
          rw[if_pos ⟨g2,rfl⟩]at g4
          repeat' ((conv=>whnf);first|refine Or.inl ?_|apply oi|(apply fi<;>intro h)|refine⟨r.length,hw,(by rw[hlen3];omega),?_⟩|refine⟨(natRow m),(revTop m r),?_⟩|refine ci hE (ai rfl (ai rfl trivial)) ?_|refine ci hX (ai rfl (ai rfl (ai rfl trivial))) ?_|refine⟨i,y.tr,rfl,map_get hy,?_⟩|refine⟨_,rfl,?_⟩|((with_reducible show _=_);rfl))
          all_goals try((with_reducible refine Obl.mk ?_);exact KO)
          all_goals try exact KX
          all_goals try(exfalso;(try simp_all[within]);(try omega);done)
          all_goals try(exfalso;simp at h;omega)
          all_goals try(exfalso;simp_all;done)
          all_goals
           conv=>whnf
           refine⟨⟨(i+1,(m::r),(m::r)),by dsimp only;omega,by dsimp only;omega,by dsimp only;omega,fun h=>by dsimp only at h;omega,fun _=>⟨hst',g2,.inl rfl,g4⟩⟩,?_,by dsimp only;omega⟩
           repeat' ((conv=>whnf);first|refine Or.inl ?_|apply oi|(apply fi<;>intro h)|refine⟨_,rfl,?_⟩|((with_reducible show _=_);rfl))
           all_goals try((with_reducible refine Obl.mk ?_);exact KO)
           all_goals try exact⟨K2⟩
         | false=>
          rw[hkn]at hX g4
          rw[if_neg (by simp)]at g4
          subst g4
          repeat' ((conv=>whnf);first|refine Or.inl ?_|apply oi|(apply fi<;>intro h)|refine⟨r.length,hw,(by rw[hlen3];omega),?_⟩|refine⟨(natRow m),(revTop m r),?_⟩|refine ci hE (ai rfl (ai rfl trivial)) ?_|refine ci hX (ai rfl (ai rfl (ai rfl trivial))) ?_|refine⟨i,y.tr,rfl,map_get hy,?_⟩|refine⟨_,rfl,?_⟩|((with_reducible show _=_);rfl))
          all_goals try((with_reducible refine Obl.mk ?_);exact KO)
          all_goals try exact KX
          all_goals try(exfalso;(try simp_all[within]);(try omega);done)
          all_goals try(exfalso;simp_all;done)
     ·have hie':i=e:=by omega
      obtain⟨z,hz,hz7⟩:=endAt_kind he
      rw[←hie',hy]at hz
      injection hz with hz
      subst hz
      rw[bodyN_end (by omega)]at g4
      have hkn:exprKnown l loc y.fExpr=true:=by rw[lineOk_noexpr (hok y (List.mem_of_getElem? hy)) hz7];rfl
      rw[hkn]at hX
      repeat' ((conv=>whnf);first|refine Or.inl ?_|apply oi|(apply fi<;>intro h)|refine⟨r.length,hw,(by rw[hlen3];omega),?_⟩|refine⟨(natRow m),(revTop m r),?_⟩|refine ci hE (ai rfl (ai rfl trivial)) ?_|refine ci hX (ai rfl (ai rfl (ai rfl trivial))) ?_|refine⟨i,y.tr,rfl,map_get hy,?_⟩|refine⟨_,rfl,?_⟩|((with_reducible show _=_);rfl))
      all_goals try((with_reducible refine Obl.mk ?_);exact KO)
      all_goals try exact KX
      all_goals try(exfalso;(try simp_all[within]);(try omega);done)
      all_goals try(exfalso;simp at h;omega)
      all_goals try(exfalso;simp_all;done)
      all_goals
       conv=>whnf
       refine⟨⟨(i+1,(m::r),(m::r)),by dsimp only;omega,by dsimp only;omega,by dsimp only;omega,fun _=>g4.symm,fun h=>by dsimp only at h;omega⟩,?_,by dsimp only;omega⟩
       repeat' ((conv=>whnf);first|refine Or.inl ?_|apply oi|(apply fi<;>intro h)|refine⟨_,rfl,?_⟩|((with_reducible show _=_);rfl))
       all_goals try((with_reducible refine Obl.mk ?_);exact KO)
       all_goals try exact⟨K2⟩
  ·rw[q4 (by omega)]
   repeat' ((conv=>whnf);first|refine Or.inl ?_|apply oi|(apply fi<;>intro h)|refine⟨_,rfl,?_⟩|((with_reducible show _=_);rfl))
   all_goals try((with_reducible refine Obl.mk ?_);exact KO)
   all_goals try exact KX
 ·rw[decide_eq_false h8,Bool.false_and]
  repeat' ((conv=>whnf);first|refine Or.inl ?_|apply oi|(apply fi<;>intro h)|refine ci hL (ai rfl (ai rfl trivial)) ?_|refine⟨_,rfl,?_⟩|((with_reducible show _=_);rfl))
  all_goals try((with_reducible refine Obl.mk ?_);exact KO)
  all_goals try exact KX
end Go.Proofs.Ytjmplnfiabmalaa
namespace Go.Proofs.Ytjmplnfiabmalaa
open Go.Sim
set_option maxRecDepth 100000
set_option maxHeartbeats 4000000
abbrev nR (n:Nat):List Tr:=intRow n
theorem chainI_cons {l:List TLine}{k:Nat}{fs:List Nat}{next:Nat}:chainI l (k::fs) next=match endAt l k with|some e=>if k=next∧nameFirst l k=true∧fnOk l k e=true then chainI l fs (e+1)else false|none=>false:=by rw[chainI] <;> (cases endAt l k <;> rfl)
theorem headOk_at {l:List TLine}{x:TLine}(hx:l[0]?=some x):headOk l=(x.fKind==0 && (x.fName==mainName && x.fArgs.length==0)):=by
 cases l with
 | nil=>cases hx
 | cons y r=>rw[List.getElem?_cons_zero]at hx;injection hx with hx;subst hx;rfl
theorem elsesIn_step {l:List TLine}{k e i:Nat}{x:TLine}(hi:i < e)(hx:l[i]?=some x):elsesIn l k e (e - i) i=((if x.fKind=4 then anyE l i (i - k) k else true) && elsesIn l k e (e - (i+1)) (i+1)):=by
 rw[show e - i=(e - (i+1))+1 by omega,elsesIn,if_pos hi,hx]
theorem elses_has {l:List TLine}{i:Nat}(hi:i < l.length):((List.range l.length).map fun j:Nat=>elseOf l (j:Int)).contains (i:Int)=anyE l i i 0:=by
 rw[Bool.eq_iff_iff,anyE_iff,List.contains_iff_mem,List.mem_map]
 constructor
 ·rintro⟨j,hj,he⟩
  rw[elseOf,if_pos (by omega),Int.toNat_natCast]at he
  cases hx:elseAt l j with
  | none=>rw[hx]at he;simp only[endI]at he;omega
  | some m=>
   rw[hx]at he
   simp only[endI]at he
   have:m=i:=by omega
   subst this
   obtain⟨_,_,_,_,_,h1,_⟩:=elseAt_some hx
   exact⟨j,by omega,by omega,hx⟩
 ·rintro⟨j,_,hj,he⟩
  refine⟨j,by rw[List.mem_range];omega,?_⟩
  rw[elseOf,if_pos (by omega),Int.toNat_natCast,he]
  rfl
theorem s_impl_ProgramOk (l:List TLine)(hsm:smallT 1048576 (.lst 4 (l.map TLine.tr))):Sim.Spec Try.prog 30 [tvP l] (rB (programOk l)):=by
 refine spec_of_W hΓ hmix Try.func30 rfl (by decide) rfl ?_
 have hl:=small_nat hsm
 have hs:∀x∈l,smallR 1048576 x.tr:=fun x hx=>smallRs_map hsm hx
 have hlen:(l.map TLine.tr).length=l.length:=by simp
 have hF:=s_impl_FunctionLines l hl
 have hfl:((funs l).map fun n:Nat=>intRow n).length=(funs l).length:=by simp
 have hfle:(funs l).length≤l.length:=funsF_len l 0
 have hB:=s_impl_between (((funs l).map fun n:Nat=>intRow n).length:Int) 1 6
 by_cases c1:l.length≤60∧(1≤(funs l).length∧(funs l).length≤6)
 ·obtain⟨c1,c2,c3⟩:=c1
  rw[within_iff.2 ⟨by rw[hfl];omega,by rw[hfl];omega⟩]at hB
  unfold programOk
  rw[decide_eq_true c1,decide_eq_true (show 1≤(funs l).length∧(funs l).length≤6 from⟨c2,c3⟩),Bool.true_and,Bool.true_and]
  cases hall:l.all lineOk with
  | false=>
   rw[Bool.false_and]
   repeat' ((conv=>whnf);first|refine Or.inl ?_|apply oi|(apply fi<;>intro h)|refine ci hF (ai rfl trivial) ?_|refine ci hB (ai rfl (ai rfl (ai rfl trivial))) ?_|refine⟨_,rfl,?_⟩|((with_reducible show _=_);rfl))
   all_goals try((with_reducible refine Obl.mk ?_);exact KO)
   all_goals try exact KX
   all_goals try(exfalso;(try simp_all[within]);(try omega);done)
   conv=>whnf
   refine⟨{k:Nat // k≤l.length∧(l.drop k).all lineOk=false},fun q=>⟨[(0,vP l),(3,.r (.c (.own (3,0,0)))),(25,vP l),(26,tI .i64 ((l.map TLine.tr).length:Int)),(27,tI .i64 (q.1:Int))],[((3,0,0),some (.arr true 1 ((funs l).map fun n:Nat=>intRow n)))],[3]⟩,fun q=>l.length - q.1,⟨0,by omega,hall⟩,?_,?_⟩
   ·skip
    repeat' ((conv=>whnf);first|refine Or.inl ?_|apply oi|(apply fi<;>intro h)|refine⟨_,rfl,?_⟩|((with_reducible show _=_);rfl))
    all_goals try((with_reducible refine Obl.mk ?_);exact KO)
   intro⟨k,hk,hr⟩
   dsimp only at hk hr ⊢
   by_cases hlt:k < l.length
   ·obtain⟨x,hx⟩:=get_of_lt hlt
    rw[all_at hx]at hr
    have hL:=s_impl_LineOk x (hs x (List.mem_of_getElem? hx))
    cases ho:lineOk x with
    | false=>
     rw[ho]at hL
     repeat' ((conv=>whnf);first|refine Or.inl ?_|apply oi|(apply fi<;>intro h)|refine⟨k,x.tr,rfl,map_get hx,?_⟩|refine ci hL (ai (ai rfl (ai rfl (ai rfl (ai rfl trivial)))) trivial) ?_|refine⟨_,rfl,?_⟩|((with_reducible show _=_);rfl))
     all_goals try((with_reducible refine Obl.mk ?_);exact KO)
     all_goals try exact KX
     all_goals try(exfalso;(try simp_all[within]);(try omega);done)
    | true=>
     rw[ho]at hL hr
     rw[Bool.true_and]at hr
     repeat' ((conv=>whnf);first|refine Or.inl ?_|apply oi|(apply fi<;>intro h)|refine⟨k,x.tr,rfl,map_get hx,?_⟩|refine ci hL (ai (ai rfl (ai rfl (ai rfl (ai rfl trivial)))) trivial) ?_|refine⟨_,rfl,?_⟩|((with_reducible show _=_);rfl))
     all_goals try((with_reducible refine Obl.mk ?_);exact KO)
     all_goals try exact KX
     all_goals try(exfalso;(try simp_all[within]);(try omega);done)
     conv=>whnf
     refine⟨⟨k+1,by omega,hr⟩,?_,by dsimp only;omega⟩
     repeat' ((conv=>whnf);first|refine Or.inl ?_|apply oi|(apply fi<;>intro h)|refine⟨_,rfl,?_⟩|((with_reducible show _=_);rfl))
     all_goals try((with_reducible refine Obl.mk ?_);exact KO)
     all_goals try exact⟨K2⟩
   ·rw[List.drop_eq_nil_of_le (by omega)]at hr
    cases hr
  | true=>
   have hok:∀x∈l,lineOk x=true:=List.all_eq_true.1 hall
   rw[Bool.true_and]
   repeat' ((conv=>whnf);first|refine Or.inl ?_|apply oi|(apply fi<;>intro h)|refine ci hF (ai rfl trivial) ?_|refine ci hB (ai rfl (ai rfl (ai rfl trivial))) ?_|refine⟨_,rfl,?_⟩|((with_reducible show _=_);rfl))
   all_goals try((with_reducible refine Obl.mk ?_);exact KO)
   all_goals try exact KX
   all_goals try(exfalso;(try simp_all[within]);(try omega);done)
   conv=>whnf
   refine⟨{k:Nat // k≤l.length},fun q=>⟨[(0,vP l),(3,.r (.c (.own (3,0,0)))),(25,vP l),(26,tI .i64 ((l.map TLine.tr).length:Int)),(27,tI .i64 (q.1:Int))],[((3,0,0),some (.arr true 1 ((funs l).map fun n:Nat=>intRow n)))],[3]⟩,fun q=>l.length - q.1,⟨0,by omega⟩,?_,?_⟩
   ·skip
    repeat' ((conv=>whnf);first|refine Or.inl ?_|apply oi|(apply fi<;>intro h)|refine⟨_,rfl,?_⟩|((with_reducible show _=_);rfl))
    all_goals try((with_reducible refine Obl.mk ?_);exact KO)
   intro⟨k,hk⟩
   dsimp only at hk ⊢
   by_cases hlt:k < l.length
   ·obtain⟨x,hx⟩:=get_of_lt hlt
    have hL:=s_impl_LineOk x (hs x (List.mem_of_getElem? hx))
    rw[hok x (List.mem_of_getElem? hx)]at hL
    repeat' ((conv=>whnf);first|refine Or.inl ?_|apply oi|(apply fi<;>intro h)|refine⟨k,x.tr,rfl,map_get hx,?_⟩|refine ci hL (ai (ai rfl (ai rfl (ai rfl (ai rfl trivial)))) trivial) ?_|refine⟨_,rfl,?_⟩|((with_reducible show _=_);rfl))
    all_goals try((with_reducible refine Obl.mk ?_);exact KO)
    all_goals try exact KX
    all_goals try(exfalso;(try simp_all[within]);(try omega);done)
    conv=>whnf
    refine⟨⟨k+1,by omega⟩,?_,by dsimp only;omega⟩
    repeat' ((conv=>whnf);first|refine Or.inl ?_|apply oi|(apply fi<;>intro h)|refine⟨_,rfl,?_⟩|((with_reducible show _=_);rfl))
    all_goals try((with_reducible refine Obl.mk ?_);exact KO)
    all_goals try exact⟨K2⟩
   ·clear hB hF
    have hpos:0 < l.length:=by omega
    obtain⟨x0,hx0⟩:=get_of_lt hpos
    have hal:(x0.fArgs.map strRow).length=x0.fArgs.length:=by simp
    cases hho:headOk l with
    | false=>
     rw[Bool.false_and]
     rw[headOk_at hx0]at hho
     repeat' ((conv=>whnf);first|refine Or.inl ?_|apply oi|(apply fi<;>intro h)|refine⟨0,x0.tr,rfl,map_get hx0,?_⟩|refine⟨_,rfl,?_⟩|((with_reducible show _=_);rfl))
     all_goals try((with_reducible refine Obl.mk ?_);exact KO)
     all_goals try exact KX
     all_goals try(exfalso;(try simp_all[within]);(try omega);done)
     all_goals try(exfalso;simp_all[mainName];done)
    | true=>
     rw[Bool.true_and]
     obtain⟨R,hR⟩:∃R,chainI l (funs l) 0=R:=⟨_,rfl⟩
     rw[←chainI_all,hR]
     rw[headOk_at hx0]at hho
     repeat' ((conv=>whnf);first|refine Or.inl ?_|apply oi|(apply fi<;>intro h)|refine⟨0,x0.tr,rfl,map_get hx0,?_⟩|refine⟨_,rfl,?_⟩|((with_reducible show _=_);rfl))
     all_goals try((with_reducible refine Obl.mk ?_);exact KO)
     all_goals try exact KX
     all_goals try(exfalso;(try simp_all[within]);(try omega);done)
     all_goals try(exfalso;simp_all[mainName];done)
     conv=>whnf
     refine⟨{q:Nat×Nat // q.1≤(funs l).length∧q.2≤l.length∧chainI l ((funs l).drop q.1) q.2=R},fun q=>⟨[(0,vP l),(6,tI .i64 (q.1.2:Int)),(55,.r (.c (.own (3,0,0)))),(56,tI .i64 (((funs l).map fun n:Nat=>intRow n).length:Int)),(57,tI .i64 (q.1.1:Int))],[((3,0,0),some (.arr true 1 ((funs l).map fun n:Nat=>intRow n)))],[3]⟩,fun q=>(funs l).length - q.1.1,⟨(0,0),by dsimp only;omega,by dsimp only;omega,hR⟩,?_,?_⟩
     ·skip
      repeat' ((conv=>whnf);first|refine Or.inl ?_|apply oi|(apply fi<;>intro h)|refine⟨_,rfl,?_⟩|((with_reducible show _=_);rfl))
      all_goals try((with_reducible refine Obl.mk ?_);exact KO)
     intro⟨⟨j,next⟩,hj,hnx,hr⟩
     dsimp only at hj hnx hr ⊢
     by_cases hjl:j < (funs l).length
     ·obtain⟨f,hf⟩:=get_of_lt hjl
      obtain⟨hfl2,x,hx,hx0'⟩:=funs_lt (List.mem_of_getElem? hf)
      rw[drop_at hf,chainI_cons]at hr
      have hE:=s_impl_EndOf l (f:Int) hl
      have hN:=s_impl_FindFunction l x.fName hl
      have hjm:j < ((funs l).map fun n:Nat=>intRow n).length:=by rw[hfl];exact hjl
      cases he:endAt l f with
      | none=>
       rw[endOf_at,endI_none he]at hE
       rw[he]at hr
       subst hr
       generalize findF l x.fName=ff at *
       repeat' ((conv=>whnf);first|refine seq_inl ?_|apply reg_inl|apply oi|(apply fi<;>intro h)|refine⟨j,rfl,hjm,?_⟩|refine⟨(nR f),(map_get hf),?_⟩|refine⟨f,x.tr,rfl,map_get hx,?_⟩|refine cl hE ?_|refine cl hN ?_|refine⟨_,rfl,?_⟩|((with_reducible show _=_);rfl))
       all_goals try((with_reducible refine Obl.mk ?_);exact KO)
       all_goals try exact KX
       all_goals try(exfalso;(try simp_all[within]);(try omega);done)
      | some e=>
       obtain⟨_,_,_,_,hke,hel⟩:=endAt_some he
       rw[endOf_at,endI_some he]at hE
       rw[he]at hr
       dsimp only at hr
       have hK:=s_impl_functionOk l f e c1 hs hok he
       have hnf:nameFirst l f=(findN l 0 x.fName==some f):=by unfold nameFirst;rw[hx]
       have hnf2:(findF l x.fName==(f:Int))=nameFirst l f:=by
        rw[hnf,findF]
        cases findN l 0 x.fName with
        | none=>simp[endI]
        | some m=>rw[Bool.eq_iff_iff];simp[endI];omega
       generalize findF l x.fName=ff at *
       by_cases hc:f=next∧nameFirst l f=true∧fnOk l f e=true
       ·rw[if_pos hc]at hr
        obtain⟨d1,d2,d3⟩:=hc
        rw[d2]at hnf2
        have hff:=eq_of_beq hnf2
        subst hff
        rw[d3]at hK
        repeat' ((conv=>whnf);first|refine seq_inl ?_|apply reg_inl|apply oi|(apply fi<;>intro h)|refine⟨j,rfl,hjm,?_⟩|refine⟨(nR f),(map_get hf),?_⟩|refine⟨f,x.tr,rfl,map_get hx,?_⟩|refine cl hE ?_|refine cl hN ?_|refine cl hK ?_|refine⟨_,rfl,?_⟩|((with_reducible show _=_);rfl))
        all_goals try((with_reducible refine Obl.mk ?_);exact KO)
        all_goals try exact KX
        all_goals try(exfalso;(try simp_all[within]);(try omega);done)
        all_goals try(exfalso;simp_all;done)
        conv=>whnf
        refine⟨⟨(j+1,e+1),by dsimp only;omega,by dsimp only;omega,hr⟩,?_,by dsimp only;omega⟩
        repeat' ((conv=>whnf);first|refine seq_inl ?_|apply reg_inl|apply oi|(apply fi<;>intro h)|refine⟨_,rfl,?_⟩|((with_reducible show _=_);rfl))
        all_goals try((with_reducible refine Obl.mk ?_);exact KO)
        all_goals try exact⟨K2⟩
       ·rw[if_neg hc]at hr
        subst hr
        have hbad:∀b1 b2:Bool,fnOk l f e=b2→(ff==(f:Int))=b1→f=next→b1=true→b2=true→False:=by
         intro b1 b2 h1 h2 h3 h4 h5
         subst h4;subst h5
         exact hc ⟨h3,by rw[←hnf2];exact h2,h1⟩
        cases hfk:fnOk l f e with
        | true=>
         rw[hfk]at hK
         repeat' ((conv=>whnf);first|refine seq_inl ?_|apply reg_inl|apply oi|(apply fi<;>intro h)|refine⟨j,rfl,hjm,?_⟩|refine⟨(nR f),(map_get hf),?_⟩|refine⟨f,x.tr,rfl,map_get hx,?_⟩|refine cl hE ?_|refine cl hN ?_|refine cl hK ?_|refine⟨_,rfl,?_⟩|((with_reducible show _=_);rfl))
         all_goals try((with_reducible refine Obl.mk ?_);exact KO)
         all_goals try exact KX
         all_goals try(exfalso;(try simp_all[within]);(try omega);done)
         all_goals(exfalso;refine hbad true true hfk ?_ ?_ rfl rfl <;> simp_all <;> omega)
        | false=>
         rw[hfk]at hK
         repeat' ((conv=>whnf);first|refine seq_inl ?_|apply reg_inl|apply oi|(apply fi<;>intro h)|refine⟨j,rfl,hjm,?_⟩|refine⟨(nR f),(map_get hf),?_⟩|refine⟨f,x.tr,rfl,map_get hx,?_⟩|refine cl hE ?_|refine cl hN ?_|refine cl hK ?_|refine⟨_,rfl,?_⟩|((with_reducible show _=_);rfl))
         all_goals try((with_reducible refine Obl.mk ?_);exact KO)
         all_goals try exact KX
         all_goals try(exfalso;(try simp_all[within]);(try omega);done)
     ·rw[List.drop_eq_nil_of_le (by omega),chainI]at hr
      repeat' ((conv=>whnf);first|refine Or.inl ?_|apply oi|(apply fi<;>intro h)|refine⟨_,rfl,?_⟩|((with_reducible show _=_);rfl))
      all_goals try((with_reducible refine Obl.mk ?_);exact KO)
      all_goals try exact KX
      conv=>whnf
      refine⟨{k:Nat // k≤l.length},fun q=>⟨[(0,vP l),(6,tI .i64 (next:Int)),(10,.r (.c (.own (10,0,0)))),(94,tI .i64 ((l.map TLine.tr).length:Int)),(95,tI .i64 (q.1:Int))],[((10,0,0),some (.arr true 1 (((List.range q.1).map fun j:Nat=>elseOf l (j:Int)).map intRow)))],[10]⟩,fun q=>l.length - q.1,⟨0,by omega⟩,?_,?_⟩
      ·skip
       repeat' ((conv=>whnf);first|refine Or.inl ?_|apply oi|(apply fi<;>intro h)|refine⟨_,rfl,?_⟩|((with_reducible show _=_);rfl))
       all_goals try((with_reducible refine Obl.mk ?_);exact KO)
      intro⟨k,hk⟩
      dsimp only at hk ⊢
      have hral:(((List.range k).map fun j:Nat=>elseOf l (j:Int)).map intRow).length=k:=by simp
      by_cases hlt:k < l.length
      ·have hS:=s_impl_ElseOf l (k:Int) hl
       repeat' ((conv=>whnf);first|refine seq_inl ?_|apply reg_inl|apply oi|(apply fi<;>intro h)|refine cl hS ?_|refine⟨_,rfl,?_⟩|((with_reducible show _=_);rfl))
       all_goals try((with_reducible refine Obl.mk ?_);exact KO)
       all_goals try exact KX
       all_goals try exact⟨⟨by simp <;> omega,by simp <;> omega⟩⟩
       conv=>whnf
       refine⟨⟨k+1,by omega⟩,?_,by dsimp only;omega⟩
       repeat' ((conv=>whnf);first|refine seq_inl ?_|apply reg_inl|apply oi|(apply fi<;>intro h)|refine⟨_,rfl,?_⟩|((with_reducible show _=_);rfl))
       all_goals try((with_reducible refine Obl.mk ?_);exact KO)
       all_goals try exact⟨K2⟩
       all_goals exact⟨by simp[List.range_succ,intRow]⟩
      ·have hkl:k=l.length:=by omega
       subst hkl
       obtain⟨Q,hQ⟩:∃Q,elsesOk l=Q:=⟨_,rfl⟩
       rw[hQ]at hr
       rw[elsesOk]at hQ
       repeat' ((conv=>whnf);first|refine Or.inl ?_|apply oi|(apply fi<;>intro h)|refine⟨_,rfl,?_⟩|((with_reducible show _=_);rfl))
       all_goals try((with_reducible refine Obl.mk ?_);exact KO)
       all_goals try exact KX
       conv=>whnf
       refine⟨{k:Nat // k≤l.length∧elsesIn l 0 l.length (l.length - k) k=Q},fun q=>⟨[(0,vP l),(6,tI .i64 (next:Int)),(10,.r (.c (.own (10,0,0)))),(105,vP l),(106,tI .i64 ((l.map TLine.tr).length:Int)),(107,tI .i64 (q.1:Int))],[((10,0,0),some (.arr true 1 (((List.range l.length).map fun j:Nat=>elseOf l (j:Int)).map intRow)))],[10]⟩,fun q=>l.length - q.1,⟨0,by omega,by rw[Nat.sub_zero];exact hQ⟩,?_,?_⟩
       ·skip
        repeat' ((conv=>whnf);first|refine Or.inl ?_|apply oi|(apply fi<;>intro h)|refine⟨_,rfl,?_⟩|((with_reducible show _=_);rfl))
        all_goals try((with_reducible refine Obl.mk ?_);exact KO)
       intro⟨k,hk,hq⟩
       dsimp only at hk hq ⊢
       by_cases hlt:k < l.length
       ·obtain⟨x,hx⟩:=get_of_lt hlt
        rw[elsesIn_step hlt hx]at hq
        have hC:=s_slices_ContainsI ((List.range l.length).map fun j:Nat=>elseOf l (j:Int)) (k:Int) (by simp;omega)
        rw[elses_has hlt]at hC
        by_cases h4:x.fKind=4
        ·rw[if_pos h4,Nat.sub_zero]at hq
         cases ha:anyE l k k 0 with
         | false=>
          rw[ha]at hC hq
          rw[Bool.false_and]at hq
          subst hq
          rw[Bool.false_and]at hr
          subst hr
          repeat' ((conv=>whnf);first|refine Or.inl ?_|apply oi|(apply fi<;>intro h)|refine⟨k,x.tr,rfl,map_get hx,?_⟩|refine ci hC (ai rfl (ai rfl trivial)) ?_|refine⟨_,rfl,?_⟩|((with_reducible show _=_);rfl))
          all_goals try((with_reducible refine Obl.mk ?_);exact KO)
          all_goals try exact KX
          all_goals try(exfalso;(try simp_all[within]);(try omega);done)
         | true=>
          rw[ha]at hC hq
          rw[Bool.true_and]at hq
          repeat' ((conv=>whnf);first|refine Or.inl ?_|apply oi|(apply fi<;>intro h)|refine⟨k,x.tr,rfl,map_get hx,?_⟩|refine ci hC (ai rfl (ai rfl trivial)) ?_|refine⟨_,rfl,?_⟩|((with_reducible show _=_);rfl))
          all_goals try((with_reducible refine Obl.mk ?_);exact KO)
          all_goals try exact KX
          all_goals try(exfalso;(try simp_all[within]);(try omega);done)
          conv=>whnf
          refine⟨⟨k+1,by omega,hq⟩,?_,by dsimp only;omega⟩
          repeat' ((conv=>whnf);first|refine Or.inl ?_|apply oi|(apply fi<;>intro h)|refine⟨_,rfl,?_⟩|((with_reducible show _=_);rfl))
          all_goals try((with_reducible refine Obl.mk ?_);exact KO)
          all_goals try exact⟨K2⟩
        ·rw[if_neg h4,Bool.true_and]at hq
         repeat' ((conv=>whnf);first|refine Or.inl ?_|apply oi|(apply fi<;>intro h)|refine⟨k,x.tr,rfl,map_get hx,?_⟩|refine ci hC (ai rfl (ai rfl trivial)) ?_|refine⟨_,rfl,?_⟩|((with_reducible show _=_);rfl))
         all_goals try((with_reducible refine Obl.mk ?_);exact KO)
         all_goals try exact KX
         all_goals try(exfalso;(try simp_all[within]);(try omega);done)
         conv=>whnf
         refine⟨⟨k+1,by omega,hq⟩,?_,by dsimp only;omega⟩
         repeat' ((conv=>whnf);first|refine Or.inl ?_|apply oi|(apply fi<;>intro h)|refine⟨_,rfl,?_⟩|((with_reducible show _=_);rfl))
         all_goals try((with_reducible refine Obl.mk ?_);exact KO)
         all_goals try exact⟨K2⟩
       ·rw[show l.length - k=0 by omega]at hq
        have hq:true=Q:=hq
        subst hq
        rw[Bool.true_and]at hr
        subst hr
        repeat' ((conv=>whnf);first|refine Or.inl ?_|apply oi|(apply fi<;>intro h)|refine⟨_,rfl,?_⟩|((with_reducible show _=_);rfl))
        all_goals try((with_reducible refine Obl.mk ?_);exact KO)
        all_goals try exact KX
        all_goals(refine⟨congrArg Tr.bool ?_⟩;rw[hlen,Bool.eq_iff_iff];simp;omega)
 ·have:programOk l=false:=by
   unfold programOk
   by_cases h60:l.length≤60
   ·rw[decide_eq_false (show ¬(1≤(funs l).length∧(funs l).length≤6) from fun h=>c1 ⟨h60,h⟩)];simp
   ·rw[decide_eq_false h60,Bool.false_and]
  rw[this]
  by_cases h60:l.length≤60
  ·have hw:within (((funs l).map fun n:Nat=>intRow n).length:Int) 1 6=false:=by
    cases hx:within (((funs l).map fun n:Nat=>intRow n).length:Int) 1 6 with
    | false=>rfl
    | true=>have:=within_iff.1 hx;rw[hfl]at this;exact absurd ⟨h60,by omega,by omega⟩ c1
   rw[hw]at hB
   repeat' ((conv=>whnf);first|refine Or.inl ?_|apply oi|(apply fi<;>intro h)|refine ci hF (ai rfl trivial) ?_|refine ci hB (ai rfl (ai rfl (ai rfl trivial))) ?_|refine⟨_,rfl,?_⟩|((with_reducible show _=_);rfl))
   all_goals try((with_reducible refine Obl.mk ?_);exact KO)
   all_goals try exact KX
   all_goals try(exfalso;(try simp_all[within]);(try omega);done)
  ·skip
   repeat' ((conv=>whnf);first|refine Or.inl ?_|apply oi|(apply fi<;>intro h)|refine ci hF (ai rfl trivial) ?_|refine ci hB (ai rfl (ai rfl (ai rfl trivial))) ?_|refine⟨_,rfl,?_⟩|((with_reducible show _=_);rfl))
   all_goals try((with_reducible refine Obl.mk ?_);exact KO)
   all_goals try exact KX
   all_goals try(exfalso;(try simp_all[within]);(try omega);done)
end Go.Proofs.Ytjmplnfiabmalaa
namespace Go.Proofs.Ytjmplnfiabmalaa
open Go.Sim
set_option maxRecDepth 100000
set_option maxHeartbeats 4000000
theorem if_and_pos {p q:Prop}[Decidable p][Decidable q]{α:Type}{a b:α}{r:α}(hp:p):((if p∧q then a else b)=r)=((if q then a else b)=r):=by
 by_cases hq:q
 ·rw[if_pos ⟨hp,hq⟩,if_pos hq]
 ·rw[if_neg (fun h=>hq h.2),if_neg hq]
theorem else_eq {l:List TLine}{j i:Nat}:(elseOf l (j:Int)==(i:Int))=(elseAt l j==some i):=by
 rw[elseOf,if_pos (by omega),Int.toNat_natCast]
 cases elseAt l j with
 | none=>simp[endI]
 | some m=>rw[Bool.eq_iff_iff];simp[endI];omega
theorem s_spec_l04Body (l:List TLine)(k e:Nat)(hl:l.length≤60)(hs:∀x∈l,smallR 1048576 x.tr)(he:endAt l k=some e):Sim.Spec Try.prog 51 [tvP l,tvI k,tvI e] (rB (fnOkS l k e)):=by
 refine spec_of_Wo hΓ hmix Try.func51 rfl (by decide) rfl ?_
 have hlen:(l.map TLine.tr).length=l.length:=by simp
 have hL:=s_spec_LocalsOf l k (by omega) hs
 obtain⟨hloc1,hloc2⟩:=locals_le (l:=l) (k:=(k:Int)) (by omega) hs
 have hst0:=(endAt_some he)
 obtain⟨x0,hx0,ho0,he0,hke,hel⟩:=hst0
 unfold fnOkS
 generalize localsOf l (k:Int)=loc at *
 have hll:(loc.map strRow).length=loc.length:=by simp
 by_cases h8:loc.length≤8
 ·rw[decide_eq_true h8,Bool.true_and]
  obtain⟨R,hR⟩:∃R,bodyS l loc k e (e - (k+1)) (k+1) 0=R:=⟨_,rfl⟩
  rw[hR]
  repeat' ((conv=>whnf);first|(with_reducible first|apply Wx|apply W6)|apply oi|(apply fi<;>intro h)|refine cl hL ?_|refine⟨_,rfl,?_⟩|((with_reducible show _=_);rfl))
  all_goals try((with_reducible refine Obl.mk ?_);exact KP)
  all_goals try exact KX
  conv=>whnf
  refine⟨{q:Nat×List Nat // k < q.1∧q.1≤e∧StkOk l e q.1 q.2∧q.2.length≤4∧bodyS l loc k e (e - q.1) q.1 q.2.length=R},fun q=>⟨[(0,vP l),(1,tI .i64 (k:Int)),(2,tI .i64 (e:Int)),(7,.r (.c (.own (7,0,0)))),(8,tI .i64 ((q.1.2.length:Nat):Int)),(9,tI .i64 (q.1.1:Int))],[((7,0,0),some (.arr true 1 (loc.map strRow)))],[7]⟩,fun q=>e - q.1.1,⟨(k+1,[]),by dsimp only;omega,by dsimp only;omega,he0,by simp,hR⟩,?_,?_⟩
  ·skip
   repeat' ((conv=>whnf);first|(with_reducible first|apply Wx|apply W6)|apply oi|(apply fi<;>intro h)|refine⟨_,rfl,?_⟩|((with_reducible show _=_);rfl))
   all_goals try((with_reducible refine Obl.mk ?_);exact KP)
   all_goals try exact⟨K2⟩
  intro⟨⟨i,es⟩,q1,q2,g1,g2,g4⟩
  dsimp only at q1 q2 g1 g2 g4 ⊢
  by_cases hlt:i < e
  ·obtain⟨y,hy⟩:=get_of_lt (l:=l) (k:=i) (by omega)
   have hel3:(y.fExpr.map TTok.tr).length=y.fExpr.length:=by simp
   have hysm:=(line_small (hs y (List.mem_of_getElem? hy))).2.2.2.1
   obtain⟨K,hK⟩:∃K,exprKnown l loc y.fExpr=K:=⟨_,rfl⟩
   rw[bodyS_step hlt hy,hK]at g4
   by_cases h0:y.fKind=0
   ·rw[if_pos h0]at g4
    subst g4
    repeat' ((conv=>whnf);first|(with_reducible first|apply Wx|apply W6)|apply oi|(apply fi<;>intro h)|refine⟨i,y.tr,rfl,map_get hy,?_⟩|refine⟨_,rfl,?_⟩|((with_reducible show _=_);rfl))
    all_goals try((with_reducible refine Obl.mk ?_);exact KP)
    all_goals try exact KX
    all_goals try(exfalso;simp_all;done)
   ·rw[if_neg h0]at g4
    repeat' ((conv=>whnf);first|(with_reducible apply W1;fail_if_success (with_reducible show Wo _ _ _ _ (Code.seq (Code.region 8 _ _) _) _ _))|(with_reducible first|apply W2|apply W3|apply W4|apply W5|apply W6|apply W7|apply W8|apply W9)|apply reg_inl|apply oi|(apply fi<;>intro h)|refine⟨i,y.tr,rfl,map_get hy,?_⟩|refine⟨_,rfl,?_⟩|((with_reducible show _=_);rfl))
    all_goals try((with_reducible refine Obl.mk ?_);exact KP)
    all_goals try exact KX
    refine join_rule {q:Nat×List Nat // StkOk l e (i+1) q.2∧q.1=q.2.length∧q.1≤60∧(if q.1≤4∧K=true then bodyS l loc k e (e - (i+1)) (i+1) q.1 else false)=R} (fun q=>⟨[(0,vP l),(1,tI .i64 (k:Int)),(2,tI .i64 (e:Int)),(7,.r (.c (.own (7,0,0)))),(8,tI .i64 ((q.1.1:Nat):Int)),(9,tI .i64 (i:Int))],[((7,0,0),some (.arr true 1 (loc.map strRow)))],[7]⟩) ?_ ?_
    ·by_cases h35:y.fKind=3∨y.fKind=5
     ·rw[if_neg (fun h=>by omega)]at g4
      have hd:dep y es.length=es.length+1:=by unfold dep;rw[if_pos h35]
      rw[hd]at g4
      obtain⟨m',hm',him,hst'⟩:=g1.push hy (opensK_iff.2 (by omega))
      have hwd:IntKind.i64.wrap ((es.length:Int)+1)=((es.length+1:Nat):Int):=by rw[IntWalk.i64_in _ (by omega)];omega
      repeat' ((conv=>whnf);first|(with_reducible first|apply Wx|apply W6)|apply oi|(apply fi<;>intro h)|refine⟨i,y.tr,rfl,map_get hy,?_⟩|refine⟨_,rfl,?_⟩|((with_reducible show _=_);rfl))
      all_goals try((with_reducible refine Obl.mk ?_);exact KP)
      all_goals try exact KX
      all_goals try(exfalso;simp_all;done)
      all_goals
       conv=>whnf
       refine⟨⟨(es.length+1,m'::es),hst',rfl,by dsimp only;omega,g4⟩,?_⟩
       repeat' ((conv=>whnf);first|(with_reducible first|apply Wx|apply W6)|apply oi|(apply fi<;>intro h)|refine⟨_,rfl,?_⟩|((with_reducible show _=_);rfl))
       all_goals try((with_reducible refine Obl.mk ?_);exact KP)
       all_goals try exact⟨by dsimp only;rw[hwd]⟩
     ·by_cases h7':y.fKind=7
      ·rw[if_neg (fun h=>by omega)]at g4
       rcases g1.pop hy h7' with⟨_,h'⟩|⟨es',hes,hst'⟩
       ·omega
       have hd:dep y es.length=es'.length:=by unfold dep;rw[if_neg h35,if_pos h7',hes];simp
       have hl4:es.length=es'.length+1:=by rw[hes];rfl
       rw[hd]at g4
       have hwd:IntKind.i64.wrap ((es.length:Int) - 1)=(es'.length:Int):=by rw[IntWalk.i64_in _ (by omega)];omega
       repeat' ((conv=>whnf);first|(with_reducible first|apply Wx|apply W6)|apply oi|(apply fi<;>intro h)|refine⟨i,y.tr,rfl,map_get hy,?_⟩|refine⟨_,rfl,?_⟩|((with_reducible show _=_);rfl))
       all_goals try((with_reducible refine Obl.mk ?_);exact KP)
       all_goals try exact KX
       all_goals try(exfalso;simp_all;done)
       conv=>whnf
       refine⟨⟨(es'.length,es'),hst',rfl,by dsimp only;omega,g4⟩,?_⟩
       repeat' ((conv=>whnf);first|(with_reducible first|apply Wx|apply W6)|apply oi|(apply fi<;>intro h)|refine⟨_,rfl,?_⟩|((with_reducible show _=_);rfl))
       all_goals try((with_reducible refine Obl.mk ?_);exact KP)
       all_goals try exact⟨by dsimp only;rw[hwd]⟩
      ·have hd:dep y es.length=es.length:=by unfold dep;rw[if_neg h35,if_neg h7']
       have ho:opensK y.fKind=false:=by
        cases hh:opensK y.fKind with
        | false=>rfl
        | true=>rw[opensK_iff]at hh;omega
       have hst':=g1.other hy ho h7'
       rw[hd]at g4
       by_cases h4:y.fKind=4
       ·obtain⟨Av,hA⟩:∃Av,anyE l i (i - k) k=Av:=⟨_,rfl⟩
        rw[hA]at g4
        repeat' ((conv=>whnf);first|(with_reducible first|apply Wx|apply W6)|apply oi|(apply fi<;>intro h)|refine⟨i,y.tr,rfl,map_get hy,?_⟩|refine⟨_,rfl,?_⟩|((with_reducible show _=_);rfl))
        all_goals try((with_reducible refine Obl.mk ?_);exact KP)
        all_goals try exact KX
        all_goals try(exfalso;simp_all;done)
        conv=>whnf
        refine⟨{q:Nat×Bool // q.1≤i∧(q.2 || anyE l i (i - q.1) q.1)=Av},fun q=>⟨[(0,vP l),(1,tI .i64 (k:Int)),(2,tI .i64 (e:Int)),(7,.r (.c (.own (7,0,0)))),(8,tI .i64 ((es.length:Nat):Int)),(9,tI .i64 (i:Int)),(10,tB q.1.2),(11,tI .i64 (q.1.1:Int))],[((7,0,0),some (.arr true 1 (loc.map strRow)))],[7]⟩,fun q=>i - q.1.1,⟨(k,false),by dsimp only;omega,by simpa using hA⟩,?_,?_⟩
        ·skip
         repeat' ((conv=>whnf);first|(with_reducible first|apply Wx|apply W6)|apply oi|(apply fi<;>intro h)|refine⟨_,rfl,?_⟩|((with_reducible show _=_);rfl))
         all_goals try((with_reducible refine Obl.mk ?_);exact KP)
        intro⟨⟨j,b⟩,hj,hb⟩
        dsimp only at hj hb ⊢
        by_cases hji:j < i
        ·obtain⟨n,hn⟩:∃n,i - j=n+1:=⟨i - j - 1,by omega⟩
         have hn2:i - (j+1)=n:=by omega
         rw[hn,anyE,←else_eq]at hb
         have hS:=s_spec_ElseOf l (j:Int) (by omega)
         generalize elseOf l (j:Int)=ee at *
         cases b with
         | true=>
          repeat' ((conv=>whnf);first|(with_reducible first|apply Wx|apply W6)|apply oi|(apply fi<;>intro h)|refine cl hS ?_|refine⟨_,rfl,?_⟩|((with_reducible show _=_);rfl))
          all_goals try((with_reducible refine Obl.mk ?_);exact KP)
          all_goals try exact KX
          conv=>whnf
          refine⟨⟨(j+1,true),by dsimp only;omega,by simpa using hb⟩,?_,by dsimp only;omega⟩
          repeat' ((conv=>whnf);first|(with_reducible first|apply Wx|apply W6)|apply oi|(apply fi<;>intro h)|refine⟨_,rfl,?_⟩|((with_reducible show _=_);rfl))
          all_goals try((with_reducible refine Obl.mk ?_);exact KP)
          all_goals try exact⟨K2⟩
         | false=>
          repeat' ((conv=>whnf);first|(with_reducible first|apply Wx|apply W6)|apply oi|(apply fi<;>intro h)|refine cl hS ?_|refine⟨_,rfl,?_⟩|((with_reducible show _=_);rfl))
          all_goals try((with_reducible refine Obl.mk ?_);exact KP)
          all_goals try exact KX
          conv=>whnf
          refine⟨⟨(j+1,(ee==(i:Int))),by dsimp only;omega,by dsimp only;rw[hn2];simpa using hb⟩,?_,by dsimp only;omega⟩
          repeat' ((conv=>whnf);first|(with_reducible first|apply Wx|apply W6)|apply oi|(apply fi<;>intro h)|refine⟨_,rfl,?_⟩|((with_reducible show _=_);rfl))
          all_goals try((with_reducible refine Obl.mk ?_);exact KP)
          all_goals try exact⟨K2⟩
        ·rw[show i - j=0 by omega,anyE,Bool.or_false]at hb
         subst hb
         cases b with
         | false=>
          rw[if_pos ⟨h4,rfl⟩]at g4
          subst g4
          repeat' ((conv=>whnf);first|(with_reducible first|apply Wx|apply W6)|apply oi|(apply fi<;>intro h)|refine⟨_,rfl,?_⟩|((with_reducible show _=_);rfl))
          all_goals try((with_reducible refine Obl.mk ?_);exact KP)
          all_goals try exact KX
         | true=>
          rw[if_neg (by simp)]at g4
          repeat' ((conv=>whnf);first|(with_reducible first|apply Wx|apply W6)|apply oi|(apply fi<;>intro h)|refine⟨_,rfl,?_⟩|((with_reducible show _=_);rfl))
          all_goals try((with_reducible refine Obl.mk ?_);exact KP)
          all_goals try exact KX
          conv=>whnf
          refine⟨⟨(es.length,es),hst',rfl,by dsimp only;omega,g4⟩,?_⟩
          repeat' ((conv=>whnf);first|(with_reducible first|apply Wx|apply W6)|apply oi|(apply fi<;>intro h)|refine⟨_,rfl,?_⟩|((with_reducible show _=_);rfl))
          all_goals try((with_reducible refine Obl.mk ?_);exact KP)
       ·rw[if_neg (fun h=>h4 h.1)]at g4
        repeat' ((conv=>whnf);first|(with_reducible first|apply Wx|apply W6)|apply oi|(apply fi<;>intro h)|refine⟨i,y.tr,rfl,map_get hy,?_⟩|refine⟨_,rfl,?_⟩|((with_reducible show _=_);rfl))
        all_goals try((with_reducible refine Obl.mk ?_);exact KP)
        all_goals try exact KX
        all_goals try(exfalso;simp_all;done)
        conv=>whnf
        refine⟨⟨(es.length,es),hst',rfl,by dsimp only;omega,g4⟩,?_⟩
        repeat' ((conv=>whnf);first|(with_reducible first|apply Wx|apply W6)|apply oi|(apply fi<;>intro h)|refine⟨_,rfl,?_⟩|((with_reducible show _=_);rfl))
        all_goals try((with_reducible refine Obl.mk ?_);exact KP)
    clear g4 g1
    intro⟨⟨d,es'⟩,hst',hdl,hd60,g4⟩
    dsimp only at hst' hdl hd60 g4 ⊢
    have hwd:(d:Int)=(d:Int):=rfl
    by_cases hd4:(d)≤4
    ·rw[if_and_pos hd4]at g4
     repeat' ((conv=>whnf);first|(with_reducible first|apply Wx|apply W6)|apply oi|(apply fi<;>intro h)|refine⟨i,y.tr,rfl,map_get hy,?_⟩|refine⟨_,rfl,?_⟩|((with_reducible show _=_);rfl))
     all_goals try((with_reducible refine Obl.mk ?_);exact KP)
     all_goals try exact KX
     all_goals try(exfalso;simp only[decide_eq_false_iff_not,decide_eq_true_eq]at h;omega)
     conv=>whnf
     refine⟨{j:Nat // j≤y.fExpr.length∧(y.fExpr.drop j).all (tokKnown l loc)=K},fun q=>⟨[(0,vP l),(1,tI .i64 (k:Int)),(2,tI .i64 (e:Int)),(7,.r (.c (.own (7,0,0)))),(8,tI .i64 (d:Int)),(9,tI .i64 (i:Int)),(12,tI .i64 (q.1:Int))],[((7,0,0),some (.arr true 1 (loc.map strRow)))],[7]⟩,fun q=>y.fExpr.length - q.1,⟨0,by omega,hK⟩,?_,?_⟩
     ·skip
      repeat' ((conv=>whnf);first|(with_reducible first|apply Wx|apply W6)|apply oi|(apply fi<;>intro h)|refine⟨_,rfl,?_⟩|((with_reducible show _=_);rfl))
      all_goals try((with_reducible refine Obl.mk ?_);exact KP)
     intro⟨j,hj,hk2⟩
     dsimp only at hj hk2 ⊢
     by_cases hjl:j < y.fExpr.length
     ·obtain⟨t,ht⟩:=get_of_lt hjl
      rw[all_at ht]at hk2
      have hI:=s_spec_l04Index loc t.fName (by omega)
      have hF:=s_spec_FindFunction l t.fName (by omega)
      by_cases h1:t.fKind=1
      ·have e1:tokKnown l loc t=loc.contains t.fName:=by unfold tokKnown;rw[if_pos h1]
       rw[e1]at hk2
       have hix:=idxOf_has (l:=loc) (s:=t.fName)
       generalize idxOf loc t.fName=ix at *
       generalize findF l t.fName=ff at *
       cases hc:loc.contains t.fName with
       | false=>
        rw[hc]at hix hk2
        rw[Bool.false_and]at hk2
        subst hk2
        rw[if_neg (by simp)]at g4
        subst g4
        repeat' ((conv=>whnf);first|(with_reducible first|apply Wx|apply W6)|apply oi|(apply fi<;>intro h)|refine⟨i,y.tr,rfl,map_get hy,?_⟩|refine⟨j,t.tr,rfl,map_get ht,?_⟩|refine cl hI ?_|refine cl hF ?_|refine⟨_,rfl,?_⟩|((with_reducible show _=_);rfl))
        all_goals try((with_reducible refine Obl.mk ?_);exact KP)
        all_goals try exact KX
        all_goals try(exfalso;(try simp_all[within]);(try omega);done)
       | true=>
        rw[hc]at hix hk2
        rw[Bool.true_and]at hk2
        repeat' ((conv=>whnf);first|(with_reducible first|apply Wx|apply W6)|apply oi|(apply fi<;>intro h)|refine⟨i,y.tr,rfl,map_get hy,?_⟩|refine⟨j,t.tr,rfl,map_get ht,?_⟩|refine cl hI ?_|refine cl hF ?_|refine⟨_,rfl,?_⟩|((with_reducible show _=_);rfl))
        all_goals try((with_reducible refine Obl.mk ?_);exact KP)
        all_goals try exact KX
        all_goals try(exfalso;(try simp_all[within]);(try omega);done)
        all_goals try(exfalso;simp_all;done)
        conv=>whnf
        refine⟨⟨j+1,by omega,hk2⟩,?_,by dsimp only;omega⟩
        repeat' ((conv=>whnf);first|(with_reducible first|apply Wx|apply W6)|apply oi|(apply fi<;>intro h)|refine⟨_,rfl,?_⟩|((with_reducible show _=_);rfl))
        all_goals try((with_reducible refine Obl.mk ?_);exact KP)
        all_goals try exact⟨K2⟩
      ·by_cases h7:t.fKind=7
       ·cases hf:findN l 0 t.fName with
        | none=>
         have e1:tokKnown l loc t=false:=by unfold tokKnown;rw[if_neg h1,if_pos h7,hf]
         rw[e1,Bool.false_and]at hk2
         subst hk2
         rw[if_neg (by simp)]at g4
         subst g4
         rw[show findF l t.fName= -1 from endI_none hf]at hF
         repeat' ((conv=>whnf);first|(with_reducible first|apply Wx|apply W6)|apply oi|(apply fi<;>intro h)|refine⟨i,y.tr,rfl,map_get hy,?_⟩|refine⟨j,t.tr,rfl,map_get ht,?_⟩|refine cl hI ?_|refine cl hF ?_|refine⟨_,rfl,?_⟩|((with_reducible show _=_);rfl))
         all_goals try((with_reducible refine Obl.mk ?_);exact KP)
         all_goals try exact KX
         all_goals try(exfalso;(try simp_all[within]);(try omega);done)
        | some f=>
         obtain⟨hfl,x,hx,hx0,_⟩:=find_some hf
         have e1:tokKnown l loc t=((x.fArgs.length:Int)==t.fNum):=by unfold tokKnown;rw[if_neg h1,if_pos h7,hf];dsimp only;rw[hx]
         rw[e1]at hk2
         rw[show findF l t.fName=(f:Int) from endI_some hf]at hF
         have hxl:(x.fArgs.map strRow).length=x.fArgs.length:=by simp
         by_cases hn:(x.fArgs.length:Int)=t.fNum
         ·rw[beq_iff_eq.2 hn,Bool.true_and]at hk2
          repeat' ((conv=>whnf);first|(with_reducible first|apply Wx|apply W6)|apply oi|(apply fi<;>intro h)|refine⟨i,y.tr,rfl,map_get hy,?_⟩|refine⟨j,t.tr,rfl,map_get ht,?_⟩|refine⟨f,x.tr,rfl,map_get hx,?_⟩|refine cl hI ?_|refine cl hF ?_|refine⟨_,rfl,?_⟩|((with_reducible show _=_);rfl))
          all_goals try((with_reducible refine Obl.mk ?_);exact KP)
          all_goals try exact KX
          all_goals try(exfalso;(try simp_all[within]);(try omega);done)
          all_goals try(exfalso;simp_all;done)
          conv=>whnf
          refine⟨⟨j+1,by omega,hk2⟩,?_,by dsimp only;omega⟩
          repeat' ((conv=>whnf);first|(with_reducible first|apply Wx|apply W6)|apply oi|(apply fi<;>intro h)|refine⟨_,rfl,?_⟩|((with_reducible show _=_);rfl))
          all_goals try((with_reducible refine Obl.mk ?_);exact KP)
          all_goals try exact⟨K2⟩
         ·rw[beq_eq_false_iff_ne.2 hn,Bool.false_and]at hk2
          subst hk2
          rw[if_neg (by simp)]at g4
          subst g4
          repeat' ((conv=>whnf);first|(with_reducible first|apply Wx|apply W6)|apply oi|(apply fi<;>intro h)|refine⟨i,y.tr,rfl,map_get hy,?_⟩|refine⟨j,t.tr,rfl,map_get ht,?_⟩|refine⟨f,x.tr,rfl,map_get hx,?_⟩|refine cl hI ?_|refine cl hF ?_|refine⟨_,rfl,?_⟩|((with_reducible show _=_);rfl))
          all_goals try((with_reducible refine Obl.mk ?_);exact KP)
          all_goals try exact KX
          all_goals try(exfalso;(try simp_all[within]);(try omega);done)
          all_goals try(exfalso;simp_all;done)
       ·have e1:tokKnown l loc t=true:=by unfold tokKnown;rw[if_neg h1,if_neg h7]
        rw[e1,Bool.true_and]at hk2
        repeat' ((conv=>whnf);first|(with_reducible first|apply Wx|apply W6)|apply oi|(apply fi<;>intro h)|refine⟨i,y.tr,rfl,map_get hy,?_⟩|refine⟨j,t.tr,rfl,map_get ht,?_⟩|refine cl hI ?_|refine cl hF ?_|refine⟨_,rfl,?_⟩|((with_reducible show _=_);rfl))
        all_goals try((with_reducible refine Obl.mk ?_);exact KP)
        all_goals try exact KX
        all_goals try(exfalso;(try simp_all[within]);(try omega);done)
        all_goals try(exfalso;simp_all;done)
        conv=>whnf
        refine⟨⟨j+1,by omega,hk2⟩,?_,by dsimp only;omega⟩
        repeat' ((conv=>whnf);first|(with_reducible first|apply Wx|apply W6)|apply oi|(apply fi<;>intro h)|refine⟨_,rfl,?_⟩|((with_reducible show _=_);rfl))
        all_goals try((with_reducible refine Obl.mk ?_);exact KP)
        all_goals try exact⟨K2⟩
     ·rw[List.drop_eq_nil_of_le (by omega),List.all_nil]at hk2
      subst hk2
      rw[if_pos rfl]at g4
      repeat' ((conv=>whnf);first|(with_reducible first|apply Wx|apply W6)|apply oi|(apply fi<;>intro h)|refine⟨i,y.tr,rfl,map_get hy,?_⟩|refine⟨_,rfl,?_⟩|((with_reducible show _=_);rfl))
      all_goals try((with_reducible refine Obl.mk ?_);exact KP)
      all_goals try(exfalso;have h':=of_decide_eq_true h;rw[hel3]at h';omega)
      conv=>whnf
      refine⟨⟨(i+1,es'),by dsimp only;omega,by dsimp only;omega,hst',by dsimp only;omega,by dsimp only;rw[←hdl];exact g4⟩,?_,by dsimp only;omega⟩
      repeat' ((conv=>whnf);first|(with_reducible first|apply Wx|apply W6)|apply oi|(apply fi<;>intro h)|refine⟨_,rfl,?_⟩|((with_reducible show _=_);rfl))
      all_goals try((with_reducible refine Obl.mk ?_);exact KP)
      all_goals try exact⟨by dsimp only;rw[hdl]⟩
      all_goals try exact⟨K2⟩
    ·rw[if_neg (fun h=>hd4 h.1)]at g4
     subst g4
     repeat' ((conv=>whnf);first|(with_reducible first|apply Wx|apply W6)|apply oi|(apply fi<;>intro h)|refine⟨i,y.tr,rfl,map_get hy,?_⟩|refine⟨_,rfl,?_⟩|((with_reducible show _=_);rfl))
     all_goals try((with_reducible refine Obl.mk ?_);exact KP)
     all_goals try exact KX
     all_goals try(exfalso;simp only[decide_eq_false_iff_not,decide_eq_true_eq]at h;omega)
  ·rw[bodyS_end (by omega)]at g4
   subst g4
   repeat' ((conv=>whnf);first|(with_reducible first|apply Wx|apply W6)|apply oi|(apply fi<;>intro h)|refine⟨_,rfl,?_⟩|((with_reducible show _=_);rfl))
   all_goals try((with_reducible refine Obl.mk ?_);exact KP)
   all_goals try exact KX
 ·rw[decide_eq_false h8,Bool.false_and]
  repeat' ((conv=>whnf);first|(with_reducible first|apply Wx|apply W6)|apply oi|(apply fi<;>intro h)|refine cl hL ?_|refine⟨_,rfl,?_⟩|((with_reducible show _=_);rfl))
  all_goals try((with_reducible refine Obl.mk ?_);exact KP)
  all_goals try exact KX
theorem funs_all {l:List TLine}:(funs l).all (nameFirst l)=true↔∀k x,l[k]?=some x→x.fKind=0→nameFirst l k=true:=by
 rw[List.all_eq_true]
 constructor
 ·intro H k x hx h0
  refine H k ?_
  have key:∀(n i:Nat),l.length - i≤n→i≤k→k∈funsF (l.drop i) i:=by
   have hkl:k < l.length:=by
    rcases Nat.lt_or_ge k l.length with h|h
    ·exact h
    ·rw[List.getElem?_eq_none h]at hx;cases hx
   intro n
   induction n with
   | zero=>intro i h1 h2;omega
   | succ n ih=>
    intro i h1 h2
    obtain⟨y,hy⟩:=get_of_lt (l:=l) (k:=i) (by omega)
    rw[funsF_at hy,List.mem_append]
    by_cases hik:i=k
    ·subst hik
     rw[hx]at hy
     injection hy with hy
     subst hy
     rw[if_pos h0]
     exact .inl (by simp)
    ·exact .inr (ih (i+1) (by omega) (by omega))
  have:=key l.length 0 (by omega) (by omega)
  rwa [List.drop_zero]at this
 ·intro H k hk
  obtain⟨_,x,hx,h0⟩:=funs_lt hk
  exact H k x hx h0
def ok1 (l:List TLine)(k:Nat)(x:TLine):Bool:=lineOk x && (if x.fKind=0 then nameFirst l k else true)
def okN (l:List TLine):Nat→Nat→Bool
 | 0,_=>true
 | n+1,k=>match l[k]? with
  | some x=>ok1 l k x && okN l n (k+1)
  | none=>true
theorem okN_step {l:List TLine}{k:Nat}{x:TLine}(hx:l[k]?=some x):okN l (l.length - k) k=(ok1 l k x && okN l (l.length - (k+1)) (k+1)):=by
 have hk:k < l.length:=by
  rcases Nat.lt_or_ge k l.length with h|h
  ·exact h
  ·rw[List.getElem?_eq_none h]at hx;cases hx
 rw[show l.length - k=(l.length - (k+1))+1 by omega,okN,hx]
theorem okN_iff {l:List TLine}:∀(n k:Nat),l.length - k≤n→(okN l (l.length - k) k=true↔∀j x,k≤j→l[j]?=some x→ok1 l j x=true)
 | n,k,hn=>by
  by_cases hk:k < l.length
  ·obtain⟨x,hx⟩:=get_of_lt hk
   cases n with
   | zero=>omega
   | succ n=>
    rw[okN_step hx,Bool.and_eq_true,okN_iff n (k+1) (by omega)]
    constructor
    ·rintro⟨h1,h2⟩ j y hj hy
     by_cases hjk:j=k
     ·subst hjk
      rw[hx]at hy
      injection hy with hy
      subst hy
      exact h1
     ·exact h2 j y (by omega) hy
    ·intro H
     exact⟨H k x (Nat.le_refl _) hx,fun j y hj hy=>H j y (by omega) hy⟩
  ·rw[show l.length - k=0 by omega]
   refine⟨fun _ j x hj hx=>?_,fun _=>rfl⟩
   rw[List.getElem?_eq_none (by omega)]at hx
   cases hx
theorem okN_all (l:List TLine):okN l l.length 0=(l.all lineOk && (funs l).all (nameFirst l)):=by
 have h0:=okN_iff (l:=l) l.length 0 (by omega)
 rw[Nat.sub_zero]at h0
 rw[Bool.eq_iff_iff,h0,Bool.and_eq_true,funs_all,List.all_eq_true]
 constructor
 ·intro H
  refine⟨fun x hx=>?_,fun k x hx h0=>?_⟩
  ·obtain⟨k,hk⟩:=List.getElem?_of_mem hx
   have:=H k x (by omega) hk
   rw[ok1,Bool.and_eq_true]at this
   exact this.1
  ·have:=H k x (by omega) hx
   rw[ok1,Bool.and_eq_true,if_pos h0]at this
   exact this.2
 ·rintro⟨H1,H2⟩ j x _ hx
  rw[ok1,Bool.and_eq_true]
  refine⟨H1 x (List.mem_of_getElem? hx),?_⟩
  split
  ·exact H2 j x hx (by assumption)
  ·rfl
theorem programOk_S {l:List TLine}:programOk l=(decide (l.length≤60) && (decide ((funs l).length≤6) && (headOk l && (okN l l.length 0 && chainN (fnOkS l) l l.length 0)))):=by
 unfold programOk
 rw[okN_all,chainS_all]
 cases hh:headOk l with
 | false=>simp
 | true=>
  have h1:1≤(funs l).length:=by
   cases l with
   | nil=>cases hh
   | cons x r=>
    have:x.fKind=0:=by
     unfold headOk at hh
     simp only[Bool.and_eq_true,beq_iff_eq]at hh
     exact hh.1
    rw[funs,funsF,if_pos this]
    simp
  have e:(decide (1≤(funs l).length∧(funs l).length≤6))=decide ((funs l).length≤6):=by
   rw[decide_eq_decide]
   omega
  rw[e]
  generalize decide (l.length≤60)=b1
  generalize decide ((funs l).length≤6)=b2
  generalize l.all lineOk=b3
  generalize(funs l).all (nameFirst l)=b4
  generalize elsesOk l=b5
  generalize chainN (fnOk l) l l.length 0=b6
  cases b1 <;> cases b2 <;> cases b3 <;> cases b4 <;> cases b5 <;> cases b6 <;> rfl
theorem s_spec_ProgramOk (l:List TLine)(hsm:smallT 1048576 (.lst 4 (l.map TLine.tr))):Sim.Spec Try.prog 18 [tvP l] (rB (programOk l)):=by
 refine spec_of_Wo hΓ hmix Try.func18 rfl (by decide) rfl ?_
 have hl:=small_nat hsm
 have hs:∀x∈l,smallR 1048576 x.tr:=fun x hx=>smallRs_map hsm hx
 have hlen:(l.map TLine.tr).length=l.length:=by simp
 have hF:=s_spec_FunctionLines l hl
 have hfl:((funs l).map fun n:Nat=>intRow n).length=(funs l).length:=by simp
 rw[programOk_S]
 by_cases c1:l.length≤60
 ·rw[decide_eq_true c1,Bool.true_and]
  by_cases hpos:0 < l.length
  ·obtain⟨x0,hx0⟩:=get_of_lt hpos
   have hal:(x0.fArgs.map strRow).length=x0.fArgs.length:=by simp
   have hhd:=headOk_at hx0
   by_cases c2:(funs l).length≤6
   ·rw[decide_eq_true c2,Bool.true_and]
    cases hh:headOk l with
    | false=>
     rw[hh]at hhd
     rw[Bool.false_and]
     repeat' ((conv=>whnf);first|(with_reducible first|apply Wx|apply W6)|apply oi|(apply fi<;>intro h)|refine cl hF ?_|refine⟨0,x0.tr,rfl,map_get hx0,?_⟩|refine⟨_,rfl,?_⟩|((with_reducible show _=_);rfl))
     all_goals try((with_reducible refine Obl.mk ?_);exact KP)
     all_goals try exact KX
     all_goals try(exfalso;simp_all[mainName];done)
    | true=>
     rw[hh]at hhd
     rw[Bool.true_and]
     cases hok:okN l l.length 0 with
     | false=>
      rw[Bool.false_and]
      repeat' ((conv=>whnf);first|(with_reducible first|apply Wx|apply W6)|apply oi|(apply fi<;>intro h)|refine cl hF ?_|refine⟨0,x0.tr,rfl,map_get hx0,?_⟩|refine⟨_,rfl,?_⟩|((with_reducible show _=_);rfl))
      all_goals try((with_reducible refine Obl.mk ?_);exact KP)
      all_goals try exact KX
      all_goals try(exfalso;simp_all[mainName];done)
      conv=>whnf
      refine⟨{k:Nat // k≤l.length∧okN l (l.length - k) k=false},fun q=>⟨[(0,vP l),(3,tI .i64 (q.1:Int))],[],[]⟩,fun q=>l.length - q.1,⟨0,by omega,by rw[Nat.sub_zero];exact hok⟩,?_,?_⟩
      ·skip
       repeat' ((conv=>whnf);first|(with_reducible first|apply Wx|apply W6)|apply oi|(apply fi<;>intro h)|refine⟨_,rfl,?_⟩|((with_reducible show _=_);rfl))
       all_goals try((with_reducible refine Obl.mk ?_);exact KP)
      intro⟨k,hk,hr⟩
      dsimp only at hk hr ⊢
      by_cases hlt:k < l.length
      ·obtain⟨x,hx⟩:=get_of_lt hlt
       rw[okN_step hx,ok1]at hr
       have hL:=s_spec_LineOk x (hs x (List.mem_of_getElem? hx))
       have hN:=s_spec_FindFunction l x.fName hl
       have hnf2:(findF l x.fName==(k:Int))=nameFirst l k:=by
        unfold nameFirst
        rw[hx,findF]
        dsimp only
        cases findN l 0 x.fName with
        | none=>simp[endI]
        | some m=>rw[Bool.eq_iff_iff];simp[endI];omega
       generalize findF l x.fName=ff at *
       generalize lineOk x=lo at *
       generalize nameFirst l k=nf at *
       by_cases h0:x.fKind=0
       ·rw[if_pos h0]at hr
        repeat' ((conv=>whnf);first|(with_reducible first|apply Wx|apply W6)|apply oi|(apply fi<;>intro h)|refine cl hL ?_|refine cl hN ?_|refine⟨k,x.tr,rfl,map_get hx,?_⟩|refine⟨_,rfl,?_⟩|((with_reducible show _=_);rfl))
        all_goals try((with_reducible refine Obl.mk ?_);exact KP)
        all_goals try exact KX
        all_goals try(exfalso;simp_all;done)
        all_goals
         conv=>whnf
         refine⟨⟨k+1,by omega,by simp_all⟩,?_,by dsimp only;omega⟩
         repeat' ((conv=>whnf);first|(with_reducible first|apply Wx|apply W6)|apply oi|(apply fi<;>intro h)|refine⟨_,rfl,?_⟩|((with_reducible show _=_);rfl))
         all_goals try((with_reducible refine Obl.mk ?_);exact KP)
         all_goals try exact⟨K2⟩
       ·rw[if_neg h0,Bool.and_true]at hr
        repeat' ((conv=>whnf);first|(with_reducible first|apply Wx|apply W6)|apply oi|(apply fi<;>intro h)|refine cl hL ?_|refine cl hN ?_|refine⟨k,x.tr,rfl,map_get hx,?_⟩|refine⟨_,rfl,?_⟩|((with_reducible show _=_);rfl))
        all_goals try((with_reducible refine Obl.mk ?_);exact KP)
        all_goals try exact KX
        all_goals try(exfalso;simp_all;done)
        all_goals
         conv=>whnf
         refine⟨⟨k+1,by omega,by simp_all⟩,?_,by dsimp only;omega⟩
         repeat' ((conv=>whnf);first|(with_reducible first|apply Wx|apply W6)|apply oi|(apply fi<;>intro h)|refine⟨_,rfl,?_⟩|((with_reducible show _=_);rfl))
         all_goals try((with_reducible refine Obl.mk ?_);exact KP)
         all_goals try exact⟨K2⟩
      ·rw[show l.length - k=0 by omega]at hr
       cases hr
     | true=>
      rw[Bool.true_and]
      obtain⟨R,hR⟩:∃R,chainN (fnOkS l) l l.length 0=R:=⟨_,rfl⟩
      rw[hR]
      have hoka:=(okN_iff (l:=l) l.length 0 (by omega))
      rw[Nat.sub_zero]at hoka
      have hoka:=hoka.1 hok
      repeat' ((conv=>whnf);first|(with_reducible first|apply Wx|apply W6)|apply oi|(apply fi<;>intro h)|refine cl hF ?_|refine⟨0,x0.tr,rfl,map_get hx0,?_⟩|refine⟨_,rfl,?_⟩|((with_reducible show _=_);rfl))
      all_goals try((with_reducible refine Obl.mk ?_);exact KP)
      all_goals try exact KX
      all_goals try(exfalso;simp_all[mainName];done)
      conv=>whnf
      refine⟨{k:Nat // k≤l.length},fun q=>⟨[(0,vP l),(3,tI .i64 (q.1:Int))],[],[]⟩,fun q=>l.length - q.1,⟨0,by omega⟩,?_,?_⟩
      ·skip
       repeat' ((conv=>whnf);first|(with_reducible first|apply Wx|apply W6)|apply oi|(apply fi<;>intro h)|refine⟨_,rfl,?_⟩|((with_reducible show _=_);rfl))
       all_goals try((with_reducible refine Obl.mk ?_);exact KP)
      intro⟨k,hk⟩
      dsimp only at hk ⊢
      by_cases hlt:k < l.length
      ·obtain⟨x,hx⟩:=get_of_lt hlt
       have hr:=hoka k x (by omega) hx
       rw[ok1]at hr
       have hL:=s_spec_LineOk x (hs x (List.mem_of_getElem? hx))
       have hN:=s_spec_FindFunction l x.fName hl
       have hnf2:(findF l x.fName==(k:Int))=nameFirst l k:=by
        unfold nameFirst
        rw[hx,findF]
        dsimp only
        cases findN l 0 x.fName with
        | none=>simp[endI]
        | some m=>rw[Bool.eq_iff_iff];simp[endI];omega
       clear hoka hok
       generalize findF l x.fName=ff at *
       generalize lineOk x=lo at *
       generalize nameFirst l k=nf at *
       by_cases h0:x.fKind=0
       ·rw[if_pos h0]at hr
        repeat' ((conv=>whnf);first|(with_reducible first|apply Wx|apply W6)|apply oi|(apply fi<;>intro h)|refine cl hL ?_|refine cl hN ?_|refine⟨k,x.tr,rfl,map_get hx,?_⟩|refine⟨_,rfl,?_⟩|((with_reducible show _=_);rfl))
        all_goals try((with_reducible refine Obl.mk ?_);exact KP)
        all_goals try exact KX
        all_goals try(exfalso;simp_all;done)
        all_goals
         conv=>whnf
         refine⟨⟨k+1,by omega⟩,?_,by dsimp only;omega⟩
         repeat' ((conv=>whnf);first|(with_reducible first|apply Wx|apply W6)|apply oi|(apply fi<;>intro h)|refine⟨_,rfl,?_⟩|((with_reducible show _=_);rfl))
         all_goals try((with_reducible refine Obl.mk ?_);exact KP)
         all_goals try exact⟨K2⟩
       ·rw[if_neg h0,Bool.and_true]at hr
        repeat' ((conv=>whnf);first|(with_reducible first|apply Wx|apply W6)|apply oi|(apply fi<;>intro h)|refine cl hL ?_|refine cl hN ?_|refine⟨k,x.tr,rfl,map_get hx,?_⟩|refine⟨_,rfl,?_⟩|((with_reducible show _=_);rfl))
        all_goals try((with_reducible refine Obl.mk ?_);exact KP)
        all_goals try exact KX
        all_goals try(exfalso;simp_all;done)
        all_goals
         conv=>whnf
         refine⟨⟨k+1,by omega⟩,?_,by dsimp only;omega⟩
         repeat' ((conv=>whnf);first|(with_reducible first|apply Wx|apply W6)|apply oi|(apply fi<;>intro h)|refine⟨_,rfl,?_⟩|((with_reducible show _=_);rfl))
         all_goals try((with_reducible refine Obl.mk ?_);exact KP)
         all_goals try exact⟨K2⟩
      ·skip
       repeat' ((conv=>whnf);first|(with_reducible first|apply Wx|apply W6)|apply oi|(apply fi<;>intro h)|refine⟨_,rfl,?_⟩|((with_reducible show _=_);rfl))
       all_goals try((with_reducible refine Obl.mk ?_);exact KP)
       all_goals try exact KX
       conv=>whnf
       refine⟨{k:Nat // k≤l.length∧chainN (fnOkS l) l (l.length - k) k=R},fun q=>⟨[(0,vP l),(4,tI .i64 (q.1:Int))],[],[]⟩,fun q=>l.length - q.1,⟨0,by omega,by rw[Nat.sub_zero];exact hR⟩,?_,?_⟩
       ·skip
        repeat' ((conv=>whnf);first|(with_reducible first|apply Wx|apply W6)|apply oi|(apply fi<;>intro h)|refine⟨_,rfl,?_⟩|((with_reducible show _=_);rfl))
        all_goals try((with_reducible refine Obl.mk ?_);exact KP)
       intro⟨k,hk,hr⟩
       dsimp only at hk hr ⊢
       by_cases hlt:k < l.length
       ·obtain⟨x,hx⟩:=get_of_lt hlt
        rw[chainN_step hx (Nat.le_refl _)]at hr
        have hE:=s_spec_EndOf l (k:Int) hl
        cases he:endAt l k with
        | none=>
         rw[endOf_at,endI_none he]at hE
         rw[he]at hr
         subst hr
         repeat' ((conv=>whnf);first|(with_reducible first|apply Wx|apply W6)|apply oi|(apply fi<;>intro h)|refine cl hE ?_|refine⟨k,x.tr,rfl,map_get hx,?_⟩|refine⟨_,rfl,?_⟩|((with_reducible show _=_);rfl))
         all_goals try((with_reducible refine Obl.mk ?_);exact KP)
         all_goals try exact KX
         all_goals try(exfalso;simp_all;done)
        | some e=>
         obtain⟨_,_,_,_,hke,hel⟩:=endAt_some he
         rw[endOf_at,endI_some he]at hE
         rw[he]at hr
         dsimp only at hr
         have hK:=s_spec_l04Body l k e c1 hs he
         generalize fnOkS l k e=fb at *
         by_cases hc:x.fKind=0∧fb=true
         ·rw[if_pos hc]at hr
          obtain⟨d1,d2⟩:=hc
          subst d2
          repeat' ((conv=>whnf);first|(with_reducible first|apply Wx|apply W6)|apply oi|(apply fi<;>intro h)|refine cl hE ?_|refine cl hK ?_|refine⟨k,x.tr,rfl,map_get hx,?_⟩|refine⟨_,rfl,?_⟩|((with_reducible show _=_);rfl))
          all_goals try((with_reducible refine Obl.mk ?_);exact KP)
          all_goals try exact KX
          all_goals try(exfalso;simp_all;done)
          conv=>whnf
          refine⟨⟨e+1,by omega,hr⟩,?_,by dsimp only;omega⟩
          repeat' ((conv=>whnf);first|(with_reducible first|apply Wx|apply W6)|apply oi|(apply fi<;>intro h)|refine⟨_,rfl,?_⟩|((with_reducible show _=_);rfl))
          all_goals try((with_reducible refine Obl.mk ?_);exact KP)
          all_goals try exact⟨K2⟩
         ·rw[if_neg hc]at hr
          subst hr
          repeat' ((conv=>whnf);first|(with_reducible first|apply Wx|apply W6)|apply oi|(apply fi<;>intro h)|refine cl hE ?_|refine cl hK ?_|refine⟨k,x.tr,rfl,map_get hx,?_⟩|refine⟨_,rfl,?_⟩|((with_reducible show _=_);rfl))
          all_goals try((with_reducible refine Obl.mk ?_);exact KP)
          all_goals try exact KX
          all_goals try(exfalso;simp_all;done)
       ·rw[show l.length - k=0 by omega,chainN,decide_eq_true (by omega)]at hr
        subst hr
        repeat' ((conv=>whnf);first|(with_reducible first|apply Wx|apply W6)|apply oi|(apply fi<;>intro h)|refine⟨_,rfl,?_⟩|((with_reducible show _=_);rfl))
        all_goals try((with_reducible refine Obl.mk ?_);exact KP)
        all_goals try exact KX
   ·rw[decide_eq_false c2,Bool.false_and]
    repeat' ((conv=>whnf);first|(with_reducible first|apply Wx|apply W6)|apply oi|(apply fi<;>intro h)|refine cl hF ?_|refine⟨0,x0.tr,rfl,map_get hx0,?_⟩|refine⟨_,rfl,?_⟩|((with_reducible show _=_);rfl))
    all_goals try((with_reducible refine Obl.mk ?_);exact KP)
    all_goals try exact KX
    all_goals try(exfalso;simp_all[mainName];done)
  ·have hnil:l=[]:=List.length_eq_zero_iff.1 (by omega)
   subst hnil
   rw[show headOk ([]:List TLine)=false from rfl,Bool.false_and,Bool.and_false]
   repeat' ((conv=>whnf);first|(with_reducible first|apply Wx|apply W6)|apply oi|(apply fi<;>intro h)|refine cl hF ?_|refine⟨_,rfl,?_⟩|((with_reducible show _=_);rfl))
   all_goals try((with_reducible refine Obl.mk ?_);exact KP)
   all_goals try exact KX
 ·rw[decide_eq_false c1,Bool.false_and]
  repeat' ((conv=>whnf);first|(with_reducible first|apply Wx|apply W6)|apply oi|(apply fi<;>intro h)|refine cl hF ?_|refine⟨_,rfl,?_⟩|((with_reducible show _=_);rfl))
  all_goals try((with_reducible refine Obl.mk ?_);exact KP)
  all_goals try exact KX
  all_goals try(exfalso;simp_all;done)
end Go.Proofs.Ytjmplnfiabmalaa
namespace Go.Proofs.Ytjmplnfiabmalaa
open Go.Sim
set_option maxRecDepth 100000
set_option maxHeartbeats 4000000
theorem stands_le {l:List TTok}{p:Nat}{e:Ex}(h:stands l p e):p+e.toks.length≤l.length:=by
 obtain⟨r,h⟩:=h
 have h1:=congrArg List.length h
 rw[List.length_drop,List.length_append]at h1
 have:=e.toks_pos
 omega
theorem s_impl_Operands (l:List TTok)(p:Nat)(t:TTok)(es:List Ex)(hl:l.length≤1048576)(hn:toksShort l)(ho:(Ex.node t es).ok)(hs:stands l p (.node t es)):Sim.Spec Try.prog 99 [tvL 3 (l.map TTok.tr),tvI p] (rL 1 ((posL (p+1) es).map nR)):=by
 refine spec_of_Wo hΓ hmix Try.func99 rfl (by decide) rfl ?_
 have hlen:(l.map TTok.tr).length=l.length:=by simp
 have hle:=stands_le hs
 obtain⟨ht,hsa⟩:=stands_tok hs
 have hX:=s_impl_ExprEnd l p hl hn
 rw[stands_end hs ho]at hX
 have htn:=hn t (List.mem_of_getElem? ht)
 have hA:=s_impl_Arity t htn
 obtain⟨e1,e2⟩:=ar_eq ho.1
 have hel:es.length=ar t:=ho.2.1
 rw[e1,←hel]at hA
 obtain⟨R,hR⟩:∃R,posL (p+1) es=R:=⟨_,rfl⟩
 rw[hR]
 have hpl:p < l.length:=by
  have:=(Ex.node t es).toks_pos
  omega
 generalize p+(Ex.node t es).toks.length=pe at *
 repeat' ((conv=>whnf);first|(with_reducible first|apply Wx|apply W6)|apply oi|(apply fi<;>intro h)|refine cl hX ?_|refine⟨p,t.tr,rfl,map_get ht,?_⟩|refine cl hA ?_|refine⟨_,rfl,?_⟩|((with_reducible show _=_);rfl))
 all_goals try((with_reducible refine Obl.mk ?_);exact KP)
 all_goals try exact KX
 conv=>whnf
 refine⟨{q:Nat×List Nat×List Ex // q.2.1++posL q.1 q.2.2=R∧standAll l q.1 q.2.2∧exsOk q.2.2∧q.2.1.length+q.2.2.length≤4∧q.1≤1048577},fun q=>⟨[(0,.r (.c (.t (.lst 3 (l.map TTok.tr))))),(5,.r (.c (.own (5,0,0)))),(6,tI .i64 (q.1.1:Int)),(7,tI .i64 (q.1.2.2.length:Int))],[((5,0,0),some (.arr true 1 (q.1.2.1.map nR)))],[5]⟩,fun q=>q.1.2.2.length,⟨(p+1,[],es),hR,hsa,ho.2.2,by simp;omega,by dsimp only;omega⟩,?_,?_⟩
 ·skip
  repeat' ((conv=>whnf);first|(with_reducible first|apply Wx|apply W6)|apply oi|(apply fi<;>intro h)|refine⟨_,rfl,?_⟩|((with_reducible show _=_);rfl))
  all_goals try((with_reducible refine Obl.mk ?_);exact KP)
  all_goals try exact⟨K2⟩
 intro⟨⟨q,acc,fs⟩,h1,h2,h3,h4,h5⟩
 dsimp only at h1 h2 h3 h4 h5 ⊢
 cases fs with
 | nil=>
  rw[posL,List.append_nil]at h1
  subst h1
  repeat' ((conv=>whnf);first|(with_reducible first|apply Wx|apply W6)|apply oi|(apply fi<;>intro h)|refine⟨_,rfl,?_⟩|((with_reducible show _=_);rfl))
  all_goals try((with_reducible refine Obl.mk ?_);exact KP)
  all_goals try exact KX
  all_goals try(exfalso;simp at h;done)
 | cons a fs=>
  obtain⟨g1,g2⟩:=standAll_cons h2
  have hX2:=s_impl_ExprEnd l q hl hn
  rw[stands_end g1 h3.1]at hX2
  have hle2:=stands_le g1
  have hfl:(a::fs).length=fs.length+1:=rfl
  repeat' ((conv=>whnf);first|(with_reducible first|apply Wx|apply W6)|apply oi|(apply fi<;>intro h)|refine cl hX2 ?_|refine⟨_,rfl,?_⟩|((with_reducible show _=_);rfl))
  all_goals try((with_reducible refine Obl.mk ?_);exact KP)
  all_goals try exact KX
  all_goals try(exfalso;simp at h;done)
  all_goals try exact⟨⟨by simp <;> omega,by simp <;> omega⟩⟩
  conv=>whnf
  refine⟨⟨(q+a.toks.length,acc++[q],fs),by dsimp only;rw[←h1,posL];simp,g2,h3.2,by simp only[List.length_append,List.length_cons,List.length_nil]at *;omega,by dsimp only;omega⟩,?_,by dsimp only;simp⟩
  repeat' ((conv=>whnf);first|(with_reducible first|apply Wx|apply W6)|apply oi|(apply fi<;>intro h)|refine⟨_,rfl,?_⟩|((with_reducible show _=_);rfl))
  all_goals try((with_reducible refine Obl.mk ?_);exact KP)
  all_goals try exact⟨by dsimp only;rw[hfl,IntWalk.i64_in _ (by omega)];congr 1;omega⟩
  all_goals exact⟨by simp[intRow]⟩
end Go.Proofs.Ytjmplnfiabmalaa
namespace Go.Proofs.Ytjmplnfiabmalaa
open Go.Sim
set_option maxRecDepth 100000
set_option maxHeartbeats 4000000
def w32 (n:Int):Int:=IntKind.i32.wrap n
theorem wrap_i32' (n:Int):IntKind.i32.wrap n=if n % 4294967296≥2147483648 then n % 4294967296 - 4294967296 else n % 4294967296:=by
 simp[IntKind.wrap,IntKind.bits,IntKind.signed]
theorem wrap_u32' (n:Int):IntKind.u32.wrap n=n % 4294967296:=by simp[IntKind.wrap,IntKind.bits,IntKind.signed]
theorem w32_range (n:Int):-2147483648≤w32 n∧w32 n≤2147483647:=by
 unfold w32;rw[wrap_i32'];split <;> omega
theorem s_impl_Wrap (n:Int):Sim.Spec Try.prog 110 [tvI n] (rI (w32 n)):=by
 refine spec_of_W hΓ hmix Try.func110 rfl (by decide) rfl ?_
 repeat' ((conv=>whnf);first|refine Or.inl ?_|apply oi|(apply fi<;>intro h)|refine⟨_,rfl,?_⟩|((with_reducible show _=_);rfl))
 all_goals try((with_reducible refine Obl.mk ?_);exact KO)
 all_goals(refine⟨congrArg (Tr.int _) ?_⟩;have:=w32_range n;unfold w32 at *;rw[wrap_i32']at *;rw[wrap_i32',wrap_u32',IntWalk.i64_in _ (by split <;> omega)];simp)
theorem and_mask (n:Int):((BitVec.ofInt IntKind.i64.bits n &&& BitVec.ofInt IntKind.i64.bits 4294967295).toNat:Int)=n % 4294967296:=by
 show((BitVec.ofInt 64 n &&& BitVec.ofInt 64 4294967295).toNat:Int)=_
 have e:(BitVec.ofInt 64 4294967295).toNat=2 ^ 32 - 1:=by decide
 rw[BitVec.toNat_and,e,Nat.and_two_pow_sub_one_eq_mod,BitVec.toNat_ofInt]
 have:((2 ^ 64:Nat):Int)=18446744073709551616:=by decide
 omega
theorem s_spec_Wrap (n:Int):Sim.Spec Try.prog 107 [tvI n] (rI (w32 n)):=by
 refine spec_of_W hΓ hmix Try.func107 rfl (by decide) rfl ?_
 have hand:IntKind.i64.wrap ((BitVec.ofInt IntKind.i64.bits n &&& BitVec.ofInt IntKind.i64.bits 4294967295).toNat:Int)=n % 4294967296:=by
  rw[and_mask,IntWalk.i64_in _ (by omega)]
 unfold w32
 rw[wrap_i32']
 repeat' ((conv=>whnf);first|refine Or.inl ?_|apply oi|(apply fi<;>intro h)|refine⟨_,rfl,?_⟩|((with_reducible show _=_);rfl))
 all_goals try((with_reducible refine Obl.mk ?_);exact KO)
 all_goals(refine⟨congrArg (Tr.int _) ?_⟩;rw[hand]at h ⊢)
 ·have h':=of_decide_eq_true h
  rw[if_pos (by omega),IntWalk.i64_in _ (by omega)]
 ·have h':=of_decide_eq_false h
  rw[if_neg (by omega)]
theorem mul_bound {x y:Int}(hx:-2147483648≤x∧x≤2147483647)(hy:-2147483648≤y∧y≤2147483647):-4611686018427387904≤x * y∧x * y≤4611686018427387904:=by
 have h:(x * y).natAbs≤2147483648 * 2147483648:=by
  rw[Int.natAbs_mul]
  exact Nat.mul_le_mul (by omega) (by omega)
 omega
def applyP (k a b:Int):Int:=
 if k=2 then w32 (w32 a+w32 b)else if k=3 then w32 (w32 a - w32 b)else if k=4 then w32 (w32 a * w32 b)
 else if(k=5∧w32 a < w32 b)∨(k=6∧w32 a=w32 b)then 1 else 0
theorem s_impl_Apply (k a b:Int):Sim.Spec Try.prog 100 [tvI k,tvI a,tvI b] (rI (applyP k a b)):=by
 refine spec_of_W hΓ hmix Try.func100 rfl (by decide) rfl ?_
 have ha:=w32_range a
 have hb:=w32_range b
 have hm:=mul_bound ha hb
 have e1:IntKind.i64.wrap (w32 a+w32 b)=w32 a+w32 b:=IntWalk.i64_in _ (by omega)
 have e2:IntKind.i64.wrap (w32 a - w32 b)=w32 a - w32 b:=IntWalk.i64_in _ (by omega)
 have e3:IntKind.i64.wrap (w32 a * w32 b)=w32 a * w32 b:=IntWalk.i64_in _ (by omega)
 unfold applyP
 repeat' ((conv=>whnf);first|refine Or.inl ?_|apply oi|(apply fi<;>intro h)|refine ci (s_impl_Wrap _) (ai rfl trivial) ?_|refine⟨_,rfl,?_⟩|((with_reducible show _=_);rfl))
 all_goals try((with_reducible refine Obl.mk ?_);exact KO)
 all_goals(refine⟨congrArg (Tr.int _) ?_⟩;simp_all;try omega)
theorem s_spec_Apply (k a b:Int):Sim.Spec Try.prog 91 [tvI k,tvI a,tvI b] (rI (applyP k a b)):=by
 refine spec_of_W hΓ hmix Try.func91 rfl (by decide) rfl ?_
 have ha:=w32_range a
 have hb:=w32_range b
 have hm:=mul_bound ha hb
 have e1:IntKind.i64.wrap (w32 a+w32 b)=w32 a+w32 b:=IntWalk.i64_in _ (by omega)
 have e2:IntKind.i64.wrap (w32 a - w32 b)=w32 a - w32 b:=IntWalk.i64_in _ (by omega)
 have e3:IntKind.i64.wrap (w32 a * w32 b)=w32 a * w32 b:=IntWalk.i64_in _ (by omega)
 unfold applyP
 repeat' ((conv=>whnf);first|refine Or.inl ?_|apply oi|(apply fi<;>intro h)|refine ci (s_spec_Wrap _) (ai rfl trivial) ?_|refine⟨_,rfl,?_⟩|((with_reducible show _=_);rfl))
 all_goals try((with_reducible refine Obl.mk ?_);exact KO)
 all_goals(refine⟨congrArg (Tr.int _) ?_⟩;simp_all;try omega)
end Go.Proofs.Ytjmplnfiabmalaa
namespace Go.Proofs.Ytjmplnfiabmalaa
open Go.Sim
set_option maxRecDepth 100000
set_option maxHeartbeats 4000000
def numE (n:Int):Ex:= .node ⟨0,n,[]⟩ []
def finC (t a b:TTok):Prop:=within t.fKind 2 6=true∧a.fKind=0∧b.fKind=0∧within (applyP t.fKind a.fNum b.fNum) 0 999=true
instance (t a b:TTok):Decidable (finC t a b):=by unfold finC;infer_instance
def finF (t:TTok):List Ex→Ex
 | [.node a [],.node b []]=>if finC t a b then numE (applyP t.fKind a.fNum b.fNum)else .node t [.node a [],.node b []]
 | fs=> .node t fs
mutual
def Ex.fold:Ex→Ex
 | .node t es=>finF t (exFold es)
def exFold:List Ex→List Ex
 | []=>[]
 | a::es=>a.fold::exFold es
end
theorem flat_toks (l:List TTok):flat (l.map TTok.tr):=flat_map _ (by intro x c hc sz rs e;subst e;simp[TTok.tr]at hc)
theorem exFold_len:∀es:List Ex,(exFold es).length=es.length
 | []=>rfl
 | a::es=>by rw[exFold,List.length_cons,exFold_len,List.length_cons]
theorem exFold_take:∀(es:List Ex) (j:Nat),(exFold es).take j=exFold (es.take j)
 | [],j=>by simp[exFold]
 | a::es,0=>by rw[List.take_zero,List.take_zero,exFold]
 | a::es,j+1=>by rw[exFold,List.take_succ_cons,List.take_succ_cons,exFold,exFold_take es j]
theorem exFold_get:∀{es:List Ex} {j:Nat} {a:Ex},es[j]?=some a→exFold (es.take (j+1))=exFold (es.take j)++[a.fold]
 | [],_,_,h=>by simp at h
 | b::es,0,a,h=>by
  rw[List.getElem?_cons_zero]at h
  injection h with h
  subst h
  rfl
 | b::es,j+1,a,h=>by
  rw[List.getElem?_cons_succ]at h
  rw[List.take_succ_cons,exFold,List.take_succ_cons,exFold,exFold_get h,List.cons_append]
theorem exToks_one (a:Ex):exToks [a]=a.toks:=by rw[exToks,exToks,List.append_nil]
theorem one_tok {f:Ex}(h:f.toks.length=1):∃a,f= .node a []:=by
 cases f with
 | node a es=>
  rw[Ex.toks,List.length_cons]at h
  cases es with
  | nil=>exact⟨a,rfl⟩
  | cons b es=>
   rw[exToks,List.length_append]at h
   have:=b.toks_pos
   omega
theorem finF_plain {t:TTok}{fs:List Ex}(h:(exToks fs).length≠2∨within t.fKind 2 6=false):finF t fs= .node t fs:=by
 unfold finF
 split
 ·rename_i a b
  rw[if_neg]
  intro hc
  rcases h with h|h
  ·exact h (by simp[exToks,Ex.toks])
  ·rw[hc.1]at h;cases h
 ·rfl
theorem finF_two (t a b:TTok):finF t [.node a [],.node b []]=if finC t a b then numE (applyP t.fKind a.fNum b.fNum)else .node t [.node a [],.node b []]:=rfl
theorem finF_le (t:TTok)(fs:List Ex):(finF t fs).toks.length≤1+(exToks fs).length:=by
 unfold finF
 split
 ·split
  ·simp[numE,Ex.toks,exToks]
  ·simp[Ex.toks,exToks]
 ·rw[Ex.toks,List.length_cons];omega
mutual
theorem Ex.fold_le:∀e:Ex,e.fold.toks.length≤e.toks.length
 | .node t es=>by
  rw[Ex.fold,Ex.toks,List.length_cons]
  have h1:=finF_le t (exFold es)
  have h2:=exFold_le es
  omega
theorem exFold_le:∀es:List Ex,(exToks (exFold es)).length≤(exToks es).length
 | []=>Nat.le_refl _
 | a::es=>by
  rw[exFold,exToks,exToks,List.length_append,List.length_append]
  have h1:=Ex.fold_le a
  have h2:=exFold_le es
  omega
end
theorem exToks_take_le:∀(es:List Ex) (j:Nat),(exToks (es.take j)).length≤(exToks es).length
 | [],j=>by rw[List.take_nil];omega
 | a::es,0=>by rw[List.take_zero,exToks];simp
 | a::es,j+1=>by
  have:=exToks_take_le es j
  rw[List.take_succ_cons,exToks,exToks,List.length_append,List.length_append]
  omega
theorem exToks_mem:∀{es:List Ex} {j:Nat} {a:Ex},es[j]?=some a→a.toks.length≤(exToks es).length
 | [],_,_,h=>by simp at h
 | b::es,0,a,h=>by
  rw[List.getElem?_cons_zero]at h
  injection h with h
  subst h
  rw[exToks,List.length_append];omega
 | b::es,j+1,a,h=>by
  rw[List.getElem?_cons_succ]at h
  have:=exToks_mem h
  rw[exToks,List.length_append];omega
theorem exsOk_get:∀{es:List Ex} {j:Nat} {a:Ex},exsOk es→es[j]?=some a→a.ok
 | [],_,_,_,h=>by simp at h
 | b::es,0,a,ho,h=>by
  rw[List.getElem?_cons_zero]at h
  injection h with h
  subst h
  exact ho.1
 | b::es,j+1,a,ho,h=>by
  rw[List.getElem?_cons_succ]at h
  exact exsOk_get ho.2 h
theorem ar_two {t:TTok}(ho:tokOk t=true)(hk:within t.fKind 2 6=true):ar t=2:=by
 have:=within_iff.1 hk
 unfold ar arity
 rw[if_neg (by simp[ho]),if_neg (by omega),if_neg (by omega)]
 rfl
theorem two_of {α:Type}{l:List α}(h:l.length=2):∃a b,l=[a,b]:=by
 match l,h with
 | [a,b],_=>exact⟨a,b,rfl⟩
end Go.Proofs.Ytjmplnfiabmalaa
namespace Go.Proofs.Ytjmplnfiabmalaa
open Go.Sim
set_option maxRecDepth 100000
set_option maxHeartbeats 4000000
theorem take_map {α β:Type}(f:α→β)(l:List α)(k:Nat)(x:α)(hx:l[k]?=some x):(l.take (k+1)).map f=(l.take k).map f++[f x]:=by
 rw[List.take_add_one,hx,List.map_append]
 rfl
noncomputable def foldL (l:List TTok):List TTok:=if h:exprOk l=true then(Classical.choose (exprOk_parse h)).fold.toks else []
theorem foldL_ok {l:List TTok}(h:exprOk l=true):∃e:Ex,e.ok∧l=e.toks∧foldL l=e.fold.toks:=by
 have hc:=Classical.choose_spec (exprOk_parse h)
 exact⟨_,hc.1,hc.2,by rw[foldL,dif_pos h]⟩
theorem foldL_no {l:List TTok}(h:exprOk l=false):foldL l=[]:=by rw[foldL,dif_neg (by simp[h])]
theorem foldL_len (l:List TTok):(foldL l).length≤l.length:=by
 cases h:exprOk l with
 | false=>rw[foldL_no h];simp
 | true=>
  obtain⟨e,_,h1,h2⟩:=foldL_ok h
  rw[h2,h1]
  exact e.fold_le
noncomputable def foldLine (x:TLine):TLine:=if 0 < x.fExpr.length then⟨x.fKind,x.fName,x.fArgs,foldL x.fExpr⟩else x
noncomputable def foldProg (l:List TLine):List TLine:=if programOk l=true then l.map foldLine else []
end Go.Proofs.Ytjmplnfiabmalaa
namespace Go.Proofs.Ytjmplnfiabmalaa
open Go.Sim
set_option maxRecDepth 100000
set_option maxHeartbeats 4000000
structure TCur where
 b:List UInt8
 i:Nat
 h:Int
def TCur.ok (c:TCur):Prop:=c.i≤c.b.length∧c.b.length≤1048576
abbrev curH (c:TCur):List (Sim.Id×AO):=[((0,0,0),.box [.t (.lst 1 (c.b.map byteRow)),.t (.int .i64 c.i),.t (.int .i64 c.h)])]
abbrev curP:AV:= .r (.c (.ptr (0,0,0) 0))
theorem low8 (z:Int):∃x:Nat,x < 256∧IntKind.i64.wrap ((BitVec.ofInt IntKind.i64.bits z &&& BitVec.ofInt IntKind.i64.bits 255).toNat:Int)=(x:Int):=by
 have e:(BitVec.ofInt 64 255).toNat=2 ^ 8 - 1:=by decide
 have h:(BitVec.ofInt IntKind.i64.bits z &&& BitVec.ofInt IntKind.i64.bits 255).toNat < 256:=by
  show(BitVec.ofInt 64 z &&& BitVec.ofInt 64 255).toNat < 256
  rw[BitVec.toNat_and,e,Nat.and_two_pow_sub_one_eq_mod]
  omega
 generalize(BitVec.ofInt IntKind.i64.bits z &&& BitVec.ofInt IntKind.i64.bits 255).toNat=n at *
 exact⟨n,h,IntWalk.i64_in _ (by omega)⟩
def nextH (h:Int):Int:=IntKind.i64.wrap (IntKind.i64.wrap (h * 6364136223846793005)+1442695040888963407)
theorem g_spec_l01Byte (c:TCur)(hc:c.ok):∃(x:Nat) (c':TCur),x < 256∧c'.b=c.b∧c'.ok∧SpecG Try.prog 102 [curP] (curH c) (tI .i64 x) (curH c'):=by
 obtain⟨hi,hl⟩:=hc
 have hbl:(c.b.map byteRow).length=c.b.length:=by simp
 obtain⟨x0,hx0,he0⟩:=low8 (IntKind.i64.wrap ((BitVec.ofInt IntKind.i64.bits ((nextH c.h).fdiv (2 ^ min (Int.toNat 33) IntKind.i64.bits)) ^^^ BitVec.ofInt IntKind.i64.bits ((nextH c.h).fdiv (2 ^ min (Int.toNat 45) IntKind.i64.bits))).toNat:Int))
 unfold nextH at he0
 by_cases hlt:c.i < c.b.length
 ·obtain⟨u,hu⟩:=get_of_lt hlt
  obtain⟨x,hx,he⟩:=low8 (IntKind.i64.wrap ((x0:Int)+IntKind.i64.wrap (u.toNat:Int)))
  rw[←he0]at he
  refine⟨x,⟨c.b,c.i+1,nextH c.h⟩,hx,rfl,⟨by dsimp only;omega,hl⟩,?_⟩
  refine specG_of_Wo hΓ hmix Try.func102 rfl (by decide) rfl rfl ?_
  repeat' ((conv=>whnf);first|(with_reducible first|apply Wx|apply W6)|apply oi|(apply fi<;>intro h)|refine⟨c.i,(byteRow u),rfl,map_get hu,?_⟩|refine⟨_,rfl,?_⟩|((with_reducible show _=_);rfl))
  all_goals try((with_reducible refine Obl.mk ?_);exact KP)
  all_goals try exact KX
  all_goals try exact⟨congrArg (Tr.int _) he⟩
  all_goals try exact⟨K6⟩
  all_goals exact⟨rfl⟩
 ·refine⟨x0,⟨c.b,c.i,nextH c.h⟩,hx0,rfl,⟨hi,hl⟩,?_⟩
  refine specG_of_Wo hΓ hmix Try.func102 rfl (by decide) rfl rfl ?_
  repeat' ((conv=>whnf);first|(with_reducible first|apply Wx|apply W6)|apply oi|(apply fi<;>intro h)|refine⟨_,rfl,?_⟩|((with_reducible show _=_);rfl))
  all_goals try((with_reducible refine Obl.mk ?_);exact KP)
  all_goals try exact KX
  all_goals try exact⟨congrArg (Tr.int _) he0⟩
  all_goals exact⟨rfl⟩
theorem tmod_below {x:Nat}{n:Int}(h:0 < n):∃y:Nat,(y:Int) < n∧(x:Int).tmod n=(y:Int):=by
 have h1:=Int.tmod_nonneg n (Int.natCast_nonneg x)
 have h2:=Int.tmod_lt_of_pos (x:Int) h
 obtain⟨y,hy⟩:=Int.eq_ofNat_of_zero_le h1
 exact⟨y,by omega,hy⟩
theorem g_spec_l01Below (c:TCur)(n:Int)(hc:c.ok):∃(x:Nat) (c':TCur),(0 < n→(x:Int) < n)∧(n≤0→x=0)∧c'.b=c.b∧c'.ok∧SpecG Try.prog 77 [curP,tI .i64 n] (curH c) (tI .i64 x) (curH c'):=by
 by_cases h0:n≤0
 ·refine⟨0,c,by omega,fun _=>rfl,rfl,hc,?_⟩
  refine specG_of_Wo hΓ hmix Try.func77 rfl (by decide) rfl rfl ?_
  repeat' ((conv=>whnf);first|(with_reducible first|apply Wx|apply W6)|apply oi|(apply fi<;>intro h)|refine⟨_,rfl,?_⟩|((with_reducible show _=_);rfl))
  all_goals try((with_reducible refine Obl.mk ?_);exact KP)
  all_goals try exact KX
 ·obtain⟨x1,c1,k1,b1,o1,g1⟩:=g_spec_l01Byte c hc
  by_cases h2:n≤256
  ·obtain⟨y,hy,hm⟩:=tmod_below (x:=x1) (n:=n) (by omega)
   refine⟨y,c1,fun _=>hy,by omega,b1,o1,?_⟩
   refine specG_of_Wo hΓ hmix Try.func77 rfl (by decide) rfl rfl ?_
   repeat' ((conv=>whnf);first|(with_reducible first|apply Wx|apply W6)|refine cg g1 ?_|apply oi|(apply fi<;>intro h)|refine⟨_,rfl,?_⟩|((with_reducible show _=_);rfl))
   all_goals try((with_reducible refine Obl.mk ?_);exact KP)
   all_goals try exact KX
   all_goals try exact⟨by omega⟩
   all_goals exact⟨congrArg (Tr.int _) hm⟩
  ·obtain⟨x2,c2,k2,b2,o2,g2⟩:=g_spec_l01Byte c1 o1
   obtain⟨x3,c3,k3,b3,o3,g3⟩:=g_spec_l01Byte c2 o2
   obtain⟨x4,c4,k4,b4,o4,g4⟩:=g_spec_l01Byte c3 o3
   obtain⟨y,hy,hm⟩:=tmod_below (x:=x1 * 16777216+x2 * 65536+x3 * 256+x4) (n:=n) (by omega)
   refine⟨y,c4,fun _=>hy,by omega,((b4.trans b3).trans b2).trans b1,o4,?_⟩
   refine specG_of_Wo hΓ hmix Try.func77 rfl (by decide) rfl rfl ?_
   repeat' ((conv=>whnf);first|(with_reducible first|apply Wx|apply W6)|apply oi|(apply fi<;>intro h)|refine⟨_,rfl,?_⟩|((with_reducible show _=_);rfl))
   all_goals try((with_reducible refine Obl.mk ?_);exact KP)
   all_goals try exact KX
   refine cg (g1) ?_
   repeat' ((conv=>whnf);first|(with_reducible first|apply Wx|apply W6)|apply oi|(apply fi<;>intro h)|refine⟨_,rfl,?_⟩|((with_reducible show _=_);rfl))
   all_goals try((with_reducible refine Obl.mk ?_);exact KP)
   refine cg (g2) ?_
   repeat' ((conv=>whnf);first|(with_reducible first|apply Wx|apply W6)|apply oi|(apply fi<;>intro h)|refine⟨_,rfl,?_⟩|((with_reducible show _=_);rfl))
   all_goals try((with_reducible refine Obl.mk ?_);exact KP)
   refine cg (g3) ?_
   repeat' ((conv=>whnf);first|(with_reducible first|apply Wx|apply W6)|apply oi|(apply fi<;>intro h)|refine⟨_,rfl,?_⟩|((with_reducible show _=_);rfl))
   all_goals try((with_reducible refine Obl.mk ?_);exact KP)
   refine cg (g4) ?_
   repeat' ((conv=>whnf);first|(with_reducible first|apply Wx|apply W6)|apply oi|(apply fi<;>intro h)|refine⟨_,rfl,?_⟩|((with_reducible show _=_);rfl))
   all_goals try((with_reducible refine Obl.mk ?_);exact KP)
   all_goals try exact⟨by omega⟩
   all_goals(
    have hw:IntKind.i64.wrap (IntKind.i64.wrap (IntKind.i64.wrap (IntKind.i64.wrap ((x1:Int) * 16777216)+IntKind.i64.wrap ((x2:Int) * 65536))+IntKind.i64.wrap ((x3:Int) * 256))+(x4:Int))=((x1 * 16777216+x2 * 65536+x3 * 256+x4:Nat):Int):=by
     rw[IntWalk.i64_in ((x1:Int) * 16777216) (by omega),IntWalk.i64_in ((x2:Int) * 65536) (by omega),IntWalk.i64_in ((x3:Int) * 256) (by omega),IntWalk.i64_in ((x1:Int) * 16777216+(x2:Int) * 65536) (by omega),IntWalk.i64_in ((x1:Int) * 16777216+(x2:Int) * 65536+(x3:Int) * 256) (by omega),IntWalk.i64_in _ (by omega)]
     omega
    exact⟨by rw[hw,hm]⟩)
theorem g_spec_l01Once (c:TCur)(n:Int)(hc:c.ok):∃(x:Bool) (c':TCur),c'.b=c.b∧c'.ok∧SpecG Try.prog 78 [curP,tI .i64 n] (curH c) (tB x) (curH c'):=by
 obtain⟨x,c',_,_,b1,o1,g1⟩:=g_spec_l01Below c n hc
 refine⟨(x:Int)==0,c',b1,o1,?_⟩
 refine specG_of_Wo hΓ hmix Try.func78 rfl (by decide) rfl rfl ?_
 repeat' ((conv=>whnf);first|(with_reducible first|apply Wx|apply W6)|refine cg g1 ?_|apply oi|(apply fi<;>intro h)|refine⟨_,rfl,?_⟩|((with_reducible show _=_);rfl))
 all_goals try((with_reducible refine Obl.mk ?_);exact KP)
theorem g_spec_l01PickIntO (c:TCur)(ns:List Int)(hc:c.ok)(hp:0 < ns.length)(hl:ns.length≤1048576):∃(v:Int) (c':TCur),v∈ns∧c'.b=c.b∧c'.ok∧SpecG Try.prog 111 [curP,.r (.c (.own (0,0,1)))] (curH c++[((0,0,1),.arr false 1 (ns.map intRow))]) (tI .i64 v) (curH c'++[((0,0,1),.arr false 1 (ns.map intRow))]):=by
 have hlen:(ns.map intRow).length=ns.length:=by simp
 obtain⟨x,c',h1,_,b1,o1,g1⟩:=g_spec_l01Below c ((ns.map intRow).length:Int) hc
 rw[hlen]at h1
 obtain⟨v,hv⟩:=get_of_lt (l:=ns) (k:=x) (by omega)
 have hxl:x < (ns.map intRow).length:=by rw[hlen];omega
 refine⟨v,c',List.mem_of_getElem? hv,b1,o1,?_⟩
 refine specG_of_Wo hΓ hmix Try.func111 rfl (by decide) rfl rfl ?_
 repeat' ((conv=>whnf);first|(with_reducible first|apply Wx|apply W6)|refine cg g1 ?_|apply oi|(apply fi<;>intro h)|refine⟨x,rfl,hxl,?_⟩|refine⟨(intRow v),map_get hv,?_⟩|refine⟨_,rfl,?_⟩|((with_reducible show _=_);rfl))
 all_goals try((with_reducible refine Obl.mk ?_);exact KP)
end Go.Proofs.Ytjmplnfiabmalaa
namespace Go.Proofs.Ytjmplnfiabmalaa
open Go.Sim
set_option maxRecDepth 100000
set_option maxHeartbeats 4000000
def toks8 (R:List TTok)(d:Nat):Prop:=0 < R.length∧R.length≤5 ^ d∧∀t∈R,t.fName.length≤8
abbrev exIn (vars:List (List UInt8))(c:TCur):List (Sim.Id×AO):=curH c++[((0,0,1),.arr false 1 (vars.map strRow))]
abbrev exArgs (m:Int)(names:List (List UInt8))(ars:List Int):List AV:=[curP,tI .i64 m,.r (.c (.own (0,0,1))),vN names,.r (.c (.t (.lst 1 (ars.map intRow))))]
abbrev exOut (vars:List (List UInt8))(c:TCur)(R:List TTok):List (Sim.Id×AO):=exIn vars c++[((1,0,0),.arr false 3 (R.map TTok.tr))]
theorem pow5_pos (d:Nat):1≤5 ^ d:=Nat.one_le_pow _ _ (by omega)
theorem pow5_le {d:Nat}(h:d≤8):5 ^ d≤390625:=Nat.pow_le_pow_right (n:=5) (by omega) h
theorem quart_lt {m:Int}{d:Nat}(h0:0≤m)(h1:m < 2 ^ (d+1))(hb:m≤1000):0≤IntKind.i64.wrap (m.tdiv 4)∧IntKind.i64.wrap (m.tdiv 4) < 2 ^ d∧IntKind.i64.wrap (m.tdiv 4)≤1000:=by
 rw[Int.tdiv_eq_ediv_of_nonneg h0,IntWalk.i64_in _ (by omega)]
 have:(2:Int) ^ (d+1)=2 * 2 ^ d:=by rw[Int.pow_succ];omega
 omega
def ExChain (P:TCur→List TTok→TCur→Prop)(d:Nat):Nat→TCur→List TTok→TCur→List TTok→Prop
 | 0,c,acc,c',acc'=>c'=c∧acc'=acc
 | k+1,c,acc,c',acc'=>∃R c1,toks8 R d∧c1.b=c.b∧c1.ok∧P c R c1∧ExChain P d k c1 (acc++R) c' acc'
theorem chain_ex {P:TCur→List TTok→TCur→Prop}{d:Nat}(ih:∀c:TCur,c.ok→∃R c1,toks8 R d∧c1.b=c.b∧c1.ok∧P c R c1):∀(k:Nat) (c:TCur) (acc:List TTok),c.ok→∃c' acc',ExChain P d k c acc c' acc'
 | 0,c,acc,_=>⟨c,acc,rfl,rfl⟩
 | k+1,c,acc,hc=>by
  obtain⟨R,c1,h1,h2,h3,h4⟩:=ih c hc
  obtain⟨c',acc',h5⟩:=chain_ex ih k c1 (acc++R) h3
  exact⟨c',acc',R,c1,h1,h2,h3,h4,h5⟩
theorem chain_props {P:TCur→List TTok→TCur→Prop}{d:Nat}:∀{k:Nat} {c c':TCur} {acc acc':List TTok},ExChain P d k c acc c' acc'→c.ok→c'.b=c.b∧c'.ok∧acc.length≤acc'.length∧acc'.length≤acc.length+k * 5 ^ d∧((∀t∈acc,t.fName.length≤8)→∀t∈acc',t.fName.length≤8)
 | 0,c,c',acc,acc',h,hc=>by
  obtain⟨rfl,rfl⟩:=h
  exact⟨rfl,hc,Nat.le_refl _,by omega,fun h=>h⟩
 | k+1,c,c',acc,acc',h,hc=>by
  obtain⟨R,c1,h1,h2,h3,_,h5⟩:=h
  obtain⟨g1,g2,g3,g4,g5⟩:=chain_props h5 h3
  rw[List.length_append]at g3 g4
  have hR:=h1.2.1
  refine⟨g1.trans h2,g2,by omega,by rw[Nat.add_mul];omega,fun H=>g5 fun t ht=>?_⟩
  rcases List.mem_append.1 ht with ht|ht
  ·exact H t ht
  ·exact h1.2.2 t ht
theorem half_lt {m:Int}{d:Nat}(h0:0≤m)(h1:m < 2 ^ (d+1))(hb:m≤1000):0≤IntKind.i64.wrap (m.tdiv 2)∧IntKind.i64.wrap (m.tdiv 2) < 2 ^ d∧IntKind.i64.wrap (m.tdiv 2)≤1000:=by
 rw[Int.tdiv_eq_ediv_of_nonneg h0,IntWalk.i64_in _ (by omega)]
 have:(2:Int) ^ (d+1)=2 * 2 ^ d:=by rw[Int.pow_succ];omega
 omega
theorem g_spec_l02Expr (vars names:List (List UInt8))(ars:List Int)(hv:vars.length≤100)(hn:names.length≤100)(ha:ars.length=names.length)(ha4:∀a∈ars,0≤a∧a≤4)(hv8:∀s∈vars,s.length≤8)(hn8:∀s∈names,s.length≤8):
  ∀(d:Nat) (m:Int) (c:TCur),d≤8→0≤m→m < 2 ^ d→m≤1000→c.ok→∃(R:List TTok) (c':TCur),toks8 R d∧c'.b=c.b∧c'.ok∧SpecG Try.prog 103 (exArgs m names ars) (exIn vars c) (.r (.c (.own (1,0,0)))) (exOut vars c' R)
 | d,m,c,hd,h0,h1,hm,hc=>by
  have p5d:=pow5_le hd
  have hvl:(vars.map strRow).length=vars.length:=by simp
  have hnl:(names.map strRow).length=names.length:=by simp
  obtain⟨k,c1,k1,_,b1,o1,g1⟩:=g_spec_l01Below c 10 hc
  by_cases hbin:2 < m∧k < 5
  ·cases d with
   | zero=>omega
   | succ d=>
    obtain⟨kd,c2,k2,_,b2,o2,g2⟩:=g_spec_l01Below c1 5 o1
    obtain⟨q1,q2,q3⟩:=half_lt h0 h1 hm
    obtain⟨R3,c3,t3,b3,o3,g3⟩:=g_spec_l02Expr vars names ars hv hn ha ha4 hv8 hn8 d _ c2 (by omega) q1 q2 q3 o2
    obtain⟨R4,c4,t4,b4,o4,g4⟩:=g_spec_l02Expr vars names ars hv hn ha ha4 hv8 hn8 d _ c3 (by omega) q1 q2 q3 o3
    have p5:=pow5_pos d
    have p5':5 ^ (d+1)=5 * 5 ^ d:=by rw[Nat.pow_succ];omega
    have t3l:=t3.2.1
    have t4l:=t4.2.1
    refine⟨⟨2+kd,0,[]⟩::(R3++R4),c4,⟨by simp,?_,?_⟩,((b4.trans b3).trans b2).trans b1,o4,?_⟩
    ·have:=t3.2.1
     have:=t4.2.1
     rw[List.length_cons,List.length_append]
     omega
    ·intro t ht
     rcases List.mem_cons.1 ht with rfl|ht
     ·simp
     ·rcases List.mem_append.1 ht with ht|ht
      ·exact t3.2.2 t ht
      ·exact t4.2.2 t ht
    ·refine specG_of_Wo hΓ hmix Try.func103 rfl (by decide) rfl rfl ?_
     repeat' ((conv=>whnf);first|(with_reducible first|apply Wx|apply W6)|apply oi|(apply fi<;>intro h)|refine⟨_,rfl,?_⟩|((with_reducible show _=_);rfl))
     all_goals try((with_reducible refine Obl.mk ?_);exact KP)
     refine cg (g1) ?_
     repeat' ((conv=>whnf);first|(with_reducible first|apply Wx|apply W6)|apply oi|(apply fi<;>intro h)|refine⟨_,rfl,?_⟩|((with_reducible show _=_);rfl))
     all_goals try((with_reducible refine Obl.mk ?_);exact KP)
     all_goals try exact KX
     all_goals try(exfalso;simp at h;omega)
     refine cg (g2) ?_
     repeat' ((conv=>whnf);first|(with_reducible first|apply Wx|apply W6)|apply oi|(apply fi<;>intro h)|refine⟨_,rfl,?_⟩|((with_reducible show _=_);rfl))
     all_goals try((with_reducible refine Obl.mk ?_);exact KP)
     refine cg (g3) ?_
     repeat' ((conv=>whnf);first|(with_reducible first|apply Wx|apply W6)|apply oi|(apply fi<;>intro h)|refine⟨_,rfl,?_⟩|((with_reducible show _=_);rfl))
     all_goals try((with_reducible refine Obl.mk ?_);exact KP)
     all_goals try exact⟨⟨by simp <;> omega,by simp <;> omega⟩⟩
     refine cg (g4) ?_
     repeat' ((conv=>whnf);first|(with_reducible first|apply Wx|apply W6)|apply oi|(apply fi<;>intro h)|refine⟨_,rfl,?_⟩|((with_reducible show _=_);rfl))
     all_goals try((with_reducible refine Obl.mk ?_);exact KP)
     all_goals try exact⟨⟨by simp <;> omega,by simp <;> omega⟩⟩
     all_goals exact⟨by rw[IntWalk.i64_in _ (by omega)];simp[TTok.tr]⟩
  ·by_cases hcall:0 < names.length∧1 < m∧k < 8
   ·cases d with
    | zero=>omega
    | succ d=>
     obtain⟨hc1,hc2,hc3⟩:=hcall
     obtain⟨f,c2,kf,_,b2,o2,g2⟩:=g_spec_l01Below c1 ((names.map strRow).length:Int) o1
     rw[hnl]at kf
     have hfn:f < names.length:=by have:=kf (by omega);omega
     obtain⟨nm,hnm⟩:=get_of_lt hfn
     obtain⟨a,haf⟩:=get_of_lt (l:=ars) (k:=f) (by omega)
     have hab:=ha4 a (List.mem_of_getElem? haf)
     obtain⟨an,rfl⟩:=Int.eq_ofNat_of_zero_le hab.1
     obtain⟨q1,q2,q3⟩:=quart_lt h0 h1 hm
     have ih:=fun c hc=>g_spec_l02Expr vars names ars hv hn ha ha4 hv8 hn8 d (IntKind.i64.wrap (m.tdiv 4)) c (by omega) q1 q2 q3 hc
     have p5:=pow5_pos d
     have p5':5 ^ (d+1)=5 * 5 ^ d:=by rw[Nat.pow_succ];omega
     obtain⟨c',R,hch⟩:=chain_ex (P:=fun c R c'=>SpecG Try.prog 103 (exArgs (IntKind.i64.wrap (m.tdiv 4)) names ars) (exIn vars c) (.r (.c (.own (1,0,0)))) (exOut vars c' R)) (d:=d) ih an c2 [⟨7,an,nm⟩] o2
     have hcp:=chain_props hch o2
     refine⟨R,c',⟨by have:=hcp.2.2.1;simp at this;omega,by have:=hcp.2.2.2.1;have h4:an * 5 ^ d≤4 * 5 ^ d:=Nat.mul_le_mul_right _ (by omega);simp at this;omega,hcp.2.2.2.2 (by intro t ht;simp at ht;subst ht;exact hn8 nm (List.mem_of_getElem? hnm))⟩,(hcp.1.trans b2).trans b1,hcp.2.1,?_⟩
     refine specG_of_Wo hΓ hmix Try.func103 rfl (by decide) rfl rfl ?_
     repeat' ((conv=>whnf);first|(with_reducible first|apply Wx|apply W6)|apply oi|(apply fi<;>intro h)|refine⟨_,rfl,?_⟩|((with_reducible show _=_);rfl))
     all_goals try((with_reducible refine Obl.mk ?_);exact KP)
     refine cg (g1) ?_
     repeat' ((conv=>whnf);first|(with_reducible first|apply Wx|apply W6)|apply oi|(apply fi<;>intro h)|refine⟨_,rfl,?_⟩|((with_reducible show _=_);rfl))
     all_goals try((with_reducible refine Obl.mk ?_);exact KP)
     all_goals try exact KX
     all_goals(
      refine cg (g2) ?_
      have hci:(ars.map intRow).length=ars.length:=by simp
      repeat' ((conv=>whnf);first|(with_reducible first|apply Wx|apply W6)|apply oi|(apply fi<;>intro h)|refine⟨f,(intRow an),rfl,map_get haf,?_⟩|refine⟨f,(strRow nm),rfl,map_get hnm,?_⟩|refine⟨_,rfl,?_⟩|((with_reducible show _=_);rfl))
      all_goals try((with_reducible refine Obl.mk ?_);exact KP)
      conv=>whnf
      refine⟨{q:Nat×TCur×List TTok // q.1≤an∧q.2.1.ok∧q.2.2.length≤1+q.1 * 5 ^ d∧ExChain (fun c R c'=>SpecG Try.prog 103 (exArgs (IntKind.i64.wrap (m.tdiv 4)) names ars) (exIn vars c) (.r (.c (.own (1,0,0)))) (exOut vars c' R)) d (an - q.1) q.2.1 q.2.2 c' R},fun q=>⟨[(0,curP),(1,tI .i64 m),(2,.r (.c (.own (0,0,1)))),(3,vN names),(4,.r (.c (.t (.lst 1 (ars.map intRow))))),(13,tI .i64 (f:Int)),(14,.r (.c (.own (14,0,0)))),(15,tI .i64 (q.1.1:Int))],[((0,0,0),some (.box [.t (.lst 1 (q.1.2.1.b.map byteRow)),.t (.int .i64 q.1.2.1.i),.t (.int .i64 q.1.2.1.h)])),((0,0,1),some (.arr false 1 (vars.map strRow))),((14,0,0),some (.arr false 3 (q.1.2.2.map TTok.tr)))],[14,0]⟩,fun q=>an - q.1.1,⟨(0,c2,[⟨7,an,nm⟩]),by dsimp only;omega,o2,by simp,hch⟩,?_,?_⟩
      ·skip
       repeat' ((conv=>whnf);first|(with_reducible first|apply Wx|apply W6)|apply oi|(apply fi<;>intro h)|refine⟨_,rfl,?_⟩|((with_reducible show _=_);rfl))
       all_goals try((with_reducible refine Obl.mk ?_);exact KP)
      intro⟨⟨i,ci,acc⟩,r1,r2,r3,r4⟩
      dsimp only at r1 r2 r3 r4 ⊢
      by_cases hlt:i < an
      ·obtain⟨w,hw⟩:∃w,an - i=w+1:=⟨an - i - 1,by omega⟩
       rw[hw]at r4
       obtain⟨R5,c5,t5,b5,o5,g5,r5⟩:=r4
       have t5l:=t5.2.1
       have i5:i * 5 ^ d≤4 * 5 ^ d:=Nat.mul_le_mul_right _ (by omega)
       have i6:(i+1) * 5 ^ d=i * 5 ^ d+5 ^ d:=by rw[Nat.add_mul];omega
       repeat' ((conv=>whnf);first|(with_reducible first|apply Wx|apply W6)|apply oi|(apply fi<;>intro h)|refine⟨f,(intRow an),rfl,map_get haf,?_⟩|refine⟨_,rfl,?_⟩|((with_reducible show _=_);rfl))
       all_goals try((with_reducible refine Obl.mk ?_);exact KP)
       all_goals try exact KX
       refine cg (g5) ?_
       repeat' ((conv=>whnf);first|(with_reducible first|apply Wx|apply W6)|apply oi|(apply fi<;>intro h)|refine⟨_,rfl,?_⟩|((with_reducible show _=_);rfl))
       all_goals try((with_reducible refine Obl.mk ?_);exact KP)
       all_goals try exact⟨⟨by simp <;> omega,by simp <;> omega⟩⟩
       conv=>whnf
       refine⟨⟨(i+1,c5,acc++R5),by dsimp only;omega,o5,by simp;omega,by rw[show an - (i+1)=w by omega];exact r5⟩,?_,by dsimp only;omega⟩
       repeat' ((conv=>whnf);first|(with_reducible first|apply Wx|apply W6)|apply oi|(apply fi<;>intro h)|refine⟨_,rfl,?_⟩|((with_reducible show _=_);rfl))
       all_goals try((with_reducible refine Obl.mk ?_);exact KP)
       all_goals try exact⟨K2⟩
       all_goals exact⟨by simp⟩
      ·rw[show an - i=0 by omega]at r4
       obtain⟨rfl,rfl⟩:=r4
       repeat' ((conv=>whnf);first|(with_reducible first|apply Wx|apply W6)|apply oi|(apply fi<;>intro h)|refine⟨f,(intRow an),rfl,map_get haf,?_⟩|refine⟨_,rfl,?_⟩|((with_reducible show _=_);rfl))
       all_goals try((with_reducible refine Obl.mk ?_);exact KP)
       all_goals try exact KX
     )
   ·have pick:∀c:TCur,c.ok→∃(v:Int) (c':TCur),c'.b=c.b∧c'.ok∧SpecG Try.prog 111 [curP,.r (.c (.own (0,0,1)))] (curH c++[((0,0,1),.arr false 1 (([0,1,2,3,10,999]:List Int).map intRow))]) (tI .i64 v) (curH c'++[((0,0,1),.arr false 1 (([0,1,2,3,10,999]:List Int).map intRow))]):=fun c hc=>by
     obtain⟨v,c',_,b,o,g⟩:=g_spec_l01PickIntO c [0,1,2,3,10,999] hc (by decide) (by decide)
     exact⟨v,c',b,o,g⟩
    have p5:=pow5_pos d
    have hsk:∀(t:TTok),t.fName.length≤8→toks8 [t] d:=fun t ht=>⟨by simp,by simpa using p5,by intro u hu;simp at hu;subst hu;exact ht⟩
    by_cases hvar:0 < vars.length
    ·obtain⟨o,c2,b2,o2,g2⟩:=g_spec_l01Once c1 2 o1
     cases o with
     | true=>
      obtain⟨f,c3,kf,_,b3,o3,g3⟩:=g_spec_l01Below c2 ((vars.map strRow).length:Int) o2
      rw[hvl]at kf
      have hfn:f < vars.length:=by have:=kf (by omega);omega
      obtain⟨nm,hnm⟩:=get_of_lt hfn
      have hfl:f < (vars.map strRow).length:=by rw[hvl];exact hfn
      refine⟨[⟨1,0,nm⟩],c3,hsk _ (hv8 nm (List.mem_of_getElem? hnm)),(b3.trans b2).trans b1,o3,?_⟩
      refine specG_of_Wo hΓ hmix Try.func103 rfl (by decide) rfl rfl ?_
      repeat' ((conv=>whnf);first|(with_reducible first|apply Wx|apply W6)|apply oi|(apply fi<;>intro h)|refine⟨_,rfl,?_⟩|((with_reducible show _=_);rfl))
      all_goals try((with_reducible refine Obl.mk ?_);exact KP)
      refine cg (g1) ?_
      repeat' ((conv=>whnf);first|(with_reducible first|apply Wx|apply W6)|apply oi|(apply fi<;>intro h)|refine⟨_,rfl,?_⟩|((with_reducible show _=_);rfl))
      all_goals try((with_reducible refine Obl.mk ?_);exact KP)
      all_goals try exact KX
      all_goals try(exfalso;simp at h;omega)
      all_goals(
       refine cg (g2) ?_
       repeat' ((conv=>whnf);first|(with_reducible first|apply Wx|apply W6)|apply oi|(apply fi<;>intro h)|refine⟨_,rfl,?_⟩|((with_reducible show _=_);rfl))
       all_goals try((with_reducible refine Obl.mk ?_);exact KP)
       refine cg (g3) ?_
       repeat' ((conv=>whnf);first|(with_reducible first|apply Wx|apply W6)|apply oi|(apply fi<;>intro h)|refine⟨f,rfl,hfl,?_⟩|refine⟨(strRow nm),map_get hnm,?_⟩|refine⟨_,rfl,?_⟩|((with_reducible show _=_);rfl))
       all_goals try((with_reducible refine Obl.mk ?_);exact KP)
      )
     | false=>
      obtain⟨v,c3,b3,o3,g3⟩:=pick c2 o2
      refine⟨[⟨0,v,[]⟩],c3,hsk _ (by simp),(b3.trans b2).trans b1,o3,?_⟩
      refine specG_of_Wo hΓ hmix Try.func103 rfl (by decide) rfl rfl ?_
      repeat' ((conv=>whnf);first|(with_reducible first|apply Wx|apply W6)|apply oi|(apply fi<;>intro h)|refine⟨_,rfl,?_⟩|((with_reducible show _=_);rfl))
      all_goals try((with_reducible refine Obl.mk ?_);exact KP)
      refine cg (g1) ?_
      repeat' ((conv=>whnf);first|(with_reducible first|apply Wx|apply W6)|apply oi|(apply fi<;>intro h)|refine⟨_,rfl,?_⟩|((with_reducible show _=_);rfl))
      all_goals try((with_reducible refine Obl.mk ?_);exact KP)
      all_goals try exact KX
      all_goals try(exfalso;simp at h;omega)
      all_goals(
       refine cg (g2) ?_
       repeat' ((conv=>whnf);first|(with_reducible first|apply Wx|apply W6)|apply oi|(apply fi<;>intro h)|refine⟨_,rfl,?_⟩|((with_reducible show _=_);rfl))
       all_goals try((with_reducible refine Obl.mk ?_);exact KP)
       refine cg (g3) ?_
       repeat' ((conv=>whnf);first|(with_reducible first|apply Wx|apply W6)|apply oi|(apply fi<;>intro h)|refine⟨_,rfl,?_⟩|((with_reducible show _=_);rfl))
       all_goals try((with_reducible refine Obl.mk ?_);exact KP)
      )
    ·obtain⟨v,c3,b3,o3,g3⟩:=pick c1 o1
     refine⟨[⟨0,v,[]⟩],c3,hsk _ (by simp),b3.trans b1,o3,?_⟩
     refine specG_of_Wo hΓ hmix Try.func103 rfl (by decide) rfl rfl ?_
     repeat' ((conv=>whnf);first|(with_reducible first|apply Wx|apply W6)|apply oi|(apply fi<;>intro h)|refine⟨_,rfl,?_⟩|((with_reducible show _=_);rfl))
     all_goals try((with_reducible refine Obl.mk ?_);exact KP)
     refine cg (g1) ?_
     repeat' ((conv=>whnf);first|(with_reducible first|apply Wx|apply W6)|apply oi|(apply fi<;>intro h)|refine⟨_,rfl,?_⟩|((with_reducible show _=_);rfl))
     all_goals try((with_reducible refine Obl.mk ?_);exact KP)
     all_goals try exact KX
     all_goals try(exfalso;simp at h;omega)
     all_goals(
      refine cg (g3) ?_
      repeat' ((conv=>whnf);first|(with_reducible first|apply Wx|apply W6)|apply oi|(apply fi<;>intro h)|refine⟨_,rfl,?_⟩|((with_reducible show _=_);rfl))
      all_goals try((with_reducible refine Obl.mk ?_);exact KP)
     )
termination_by d=>d
end Go.Proofs.Ytjmplnfiabmalaa
namespace Go.Proofs.Ytjmplnfiabmalaa
open Go.Sim
set_option maxRecDepth 100000
set_option maxHeartbeats 4000000
def hashS (h:Int)(u:UInt8):Int:=IntKind.i64.wrap ((BitVec.ofInt IntKind.i64.bits (IntKind.i64.wrap (IntKind.i64.wrap (IntKind.i64.wrap (h * 131)+IntKind.i64.wrap (u.toNat:Int))+7)) &&& BitVec.ofInt IntKind.i64.bits 1073741823).toNat:Int)
def hashC (code:List UInt8):Int:=(code.take 4000).foldl hashS (IntKind.i64.wrap (33147+((code.map byteRow).length:Int)))
theorem g_spec_l01New (code:List UInt8)(hl:code.length≤1048576):SpecG Try.prog 46 [.r (.c (.t (.lst 1 (code.map byteRow))))] [] (.r (.c (.ptr (1,0,0) 0))) [((1,0,0),.box [.t (.lst 1 (code.map byteRow)),.t (.int .i64 0),.t (.int .i64 (hashC code))])]:=by
 refine specG_of_Wo hΓ hmix Try.func46 rfl (by decide) rfl rfl ?_
 have hlen:(code.map byteRow).length=code.length:=by simp
 obtain⟨H,hH⟩:∃H,hashC code=H:=⟨_,rfl⟩
 rw[hH]
 have ht:(code.take 4000).length≤4000:=by simp;omega
 repeat' ((conv=>whnf);first|(with_reducible first|apply Wx|apply W6)|apply oi|(apply fi<;>intro h)|refine⟨_,rfl,?_⟩|((with_reducible show _=_);rfl))
 all_goals try((with_reducible refine Obl.mk ?_);exact KP)
 conv=>whnf
 refine⟨{q:Nat×Int // q.1≤code.length∧((code.take 4000).drop q.1).foldl hashS q.2=H},fun q=>⟨[(0,.r (.c (.t (.lst 1 (code.map byteRow))))),(3,tI .i64 q.1.2),(4,tI .i64 (q.1.1:Int))],[],[0]⟩,fun q=>code.length - q.1.1,⟨(0,IntKind.i64.wrap (33147+((code.map byteRow).length:Int))),by dsimp only;omega,hH⟩,?_,?_⟩
 ·skip
  repeat' ((conv=>whnf);first|(with_reducible first|apply Wx|apply W6)|apply oi|(apply fi<;>intro h)|refine⟨_,rfl,?_⟩|((with_reducible show _=_);rfl))
  all_goals try((with_reducible refine Obl.mk ?_);exact KP)
 intro⟨⟨i,hv⟩,hi,hr⟩
 dsimp only at hi hr ⊢
 by_cases hlt:i < code.length∧i < 4000
 ·obtain⟨u,hu⟩:=get_of_lt hlt.1
  rw[drop_at (x:=u) (by rw[List.getElem?_take,if_pos hlt.2];exact hu),List.foldl_cons]at hr
  repeat' ((conv=>whnf);first|(with_reducible first|apply Wx|apply W6)|apply oi|(apply fi<;>intro h)|refine⟨i,(byteRow u),rfl,map_get hu,?_⟩|refine⟨_,rfl,?_⟩|((with_reducible show _=_);rfl))
  all_goals try((with_reducible refine Obl.mk ?_);exact KP)
  all_goals try exact KX
  conv=>whnf
  refine⟨⟨(i+1,hashS hv u),by dsimp only;omega,hr⟩,?_,by dsimp only;omega⟩
  repeat' ((conv=>whnf);first|(with_reducible first|apply Wx|apply W6)|apply oi|(apply fi<;>intro h)|refine⟨_,rfl,?_⟩|((with_reducible show _=_);rfl))
  all_goals try((with_reducible refine Obl.mk ?_);exact KP)
  all_goals try exact⟨K2⟩
  all_goals exact⟨rfl⟩
 ·rw[List.drop_eq_nil_of_le (by simp;omega)]at hr
  have hr:hv=H:=hr
  subst hr
  repeat' ((conv=>whnf);first|(with_reducible first|apply Wx|apply W6)|apply oi|(apply fi<;>intro h)|refine⟨_,rfl,?_⟩|((with_reducible show _=_);rfl))
  all_goals try((with_reducible refine Obl.mk ?_);exact KP)
  all_goals try exact KX
end Go.Proofs.Ytjmplnfiabmalaa
namespace Go.Proofs.Ytjmplnfiabmalaa
open Go.Sim
set_option maxRecDepth 100000
set_option maxHeartbeats 4000000
abbrev genH (vars names:List (List UInt8))(ars:List Int)(c:TCur):List (Sim.Id×AO):=[((0,0,0),.box [.ptr (0,0,1) 0,.own (0,0,2),.t (.lst 1 (names.map strRow)),.t (.lst 1 (ars.map intRow))]),((0,0,1),.box [.t (.lst 1 (c.b.map byteRow)),.t (.int .i64 c.i),.t (.int .i64 c.h)]),((0,0,2),.arr false 1 (vars.map strRow))]
theorem g_spec_l03GenExpr (vars names:List (List UInt8))(ars:List Int)(hv:vars.length≤100)(hn:names.length≤100)(ha:ars.length=names.length)(ha4:∀a∈ars,0≤a∧a≤4)(hv8:∀s∈vars,s.length≤8)(hn8:∀s∈names,s.length≤8)
  (d:Nat) (m:Int) (c:TCur) (hd:d≤8) (h0:0≤m) (h1:m < 2 ^ d) (hm:m≤1000) (hc:c.ok):∃(R:List TTok) (c':TCur),toks8 R d∧c'.b=c.b∧c'.ok∧SpecG Try.prog 80 [curP,tI .i64 m] (genH vars names ars c) (.r (.c (.own (1,0,0)))) (genH vars names ars c'++[((1,0,0),.arr false 3 (R.map TTok.tr))]):=by
 obtain⟨R,c',t1,b1,o1,g1⟩:=g_spec_l02Expr vars names ars hv hn ha ha4 hv8 hn8 d m c hd h0 h1 hm hc
 refine⟨R,c',t1,b1,o1,?_⟩
 refine specG_of_Wo hΓ hmix Try.func80 rfl (by decide) rfl rfl ?_
 repeat' ((conv=>whnf);first|(with_reducible first|apply Wx|apply W6)|apply oi|(apply fi<;>intro h)|refine⟨_,rfl,?_⟩|((with_reducible show _=_);rfl))
 all_goals try((with_reducible refine Obl.mk ?_);exact KP)
 refine cg (g1) ?_
 repeat' ((conv=>whnf);first|(with_reducible first|apply Wx|apply W6)|apply oi|(apply fi<;>intro h)|refine⟨_,rfl,?_⟩|((with_reducible show _=_);rfl))
 all_goals try((with_reducible refine Obl.mk ?_);exact KP)
end Go.Proofs.Ytjmplnfiabmalaa
namespace Go.Proofs.Ytjmplnfiabmalaa
open Go.Sim
set_option maxRecDepth 100000
set_option maxHeartbeats 4000000
noncomputable section
open Classical (propDecidable)
attribute [local instance] propDecidable
def belV (n:Int)(c:TCur):Nat×TCur:=if h:c.ok then(Classical.choose (g_spec_l01Below c n h),Classical.choose (Classical.choose_spec (g_spec_l01Below c n h)))else(0,c)
theorem belV_spec {c:TCur}(h:c.ok)(n:Int):(0 < n→((belV n c).1:Int) < n)∧(belV n c).2.b=c.b∧(belV n c).2.ok∧SpecG Try.prog 77 [curP,tI .i64 n] (curH c) (tI .i64 (belV n c).1) (curH (belV n c).2):=by
 rw[belV,dif_pos h]
 have:=Classical.choose_spec (Classical.choose_spec (g_spec_l01Below c n h))
 exact⟨this.1,this.2.2.1,this.2.2.2.1,this.2.2.2.2⟩
def onceV (n:Int)(c:TCur):Bool×TCur:=if h:c.ok then(Classical.choose (g_spec_l01Once c n h),Classical.choose (Classical.choose_spec (g_spec_l01Once c n h)))else(false,c)
theorem onceV_spec {c:TCur}(h:c.ok)(n:Int):(onceV n c).2.b=c.b∧(onceV n c).2.ok∧SpecG Try.prog 78 [curP,tI .i64 n] (curH c) (tB (onceV n c).1) (curH (onceV n c).2):=by
 rw[onceV,dif_pos h]
 exact Classical.choose_spec (Classical.choose_spec (g_spec_l01Once c n h))
structure GP where
 vars:List (List UInt8)
 names:List (List UInt8)
 ars:List Int
structure GP.ok (G:GP):Prop where
 v1:0 < G.vars.length
 v:G.vars.length≤100
 n:G.names.length≤100
 a:G.ars.length=G.names.length
 a4:∀a∈G.ars,0≤a∧a≤4
 v8:∀s∈G.vars,s.length≤8
 n8:∀s∈G.names,s.length≤8
abbrev gH (G:GP)(c:TCur):List (Sim.Id×AO):=genH G.vars G.names G.ars c
theorem gex {G:GP}(hG:G.ok){c:TCur}(hc:c.ok)(m:Nat)(hm:m < 8):∃(R:List TTok) (c':TCur),toks8 R 3∧c'.b=c.b∧c'.ok∧SpecG Try.prog 80 [curP,tI .i64 (m:Int)] (gH G c) (.r (.c (.own (1,0,0)))) (gH G c'++[((1,0,0),.arr false 3 (R.map TTok.tr))]):=
 g_spec_l03GenExpr G.vars G.names G.ars hG.v hG.n hG.a hG.a4 hG.v8 hG.n8 3 (m:Int) c (by omega) (by omega) (by show(m:Int) < 8;omega) (by omega) hc
def exV (G:GP)(m:Nat)(c:TCur):List TTok×TCur:=if h:G.ok∧c.ok∧m < 8 then(Classical.choose (gex h.1 h.2.1 m h.2.2),Classical.choose (Classical.choose_spec (gex h.1 h.2.1 m h.2.2)))else([],c)
theorem exV_spec {G:GP}(hG:G.ok){c:TCur}(hc:c.ok)(m:Nat)(hm:m < 8):toks8 (exV G m c).1 3∧(exV G m c).2.b=c.b∧(exV G m c).2.ok∧SpecG Try.prog 80 [curP,tI .i64 (m:Int)] (gH G c) (.r (.c (.own (1,0,0)))) (gH G (exV G m c).2++[((1,0,0),.arr false 3 ((exV G m c).1.map TTok.tr))]):=by
 rw[exV,dif_pos ⟨hG,hc,hm⟩]
 exact Classical.choose_spec (Classical.choose_spec (gex hG hc m hm))
def stepV (G:GP)(rc:Nat→TCur→List TLine×TCur)(dp:Bool)(c:TCur):List TLine×TCur:=
 let k:=(belV 9 c).1
 let c1:=(belV 9 c).2
 if k < 4 then
  let v:=belV G.vars.length c1
  let e:=exV G 6 v.2
  ([⟨1,G.vars[v.1]?.getD [],[],e.1⟩],e.2)
 else if k < 6 then
  let e:=exV G 5 c1
  ([⟨2,[],[],e.1⟩],e.2)
 else if k=6∧dp=true then
  let e:=exV G 4 c1
  let t:=belV 2 e.2
  let B:=rc (1+t.1) t.2
  let o:=onceV 2 B.2
  if o.1=true then
   let E:=rc 1 o.2
   (⟨3,[],[],e.1⟩::(B.1++(⟨4,[],[],[]⟩::(E.1++[⟨7,[],[],[]⟩]))),E.2)
  else(⟨3,[],[],e.1⟩::(B.1++[⟨7,[],[],[]⟩]),o.2)
 else if k=7∧dp=true then
  let t:=belV 3 c1
  let B:=rc 1 t.2
  (⟨5,[],[],[⟨5,0,[]⟩,⟨1,0,[105]⟩,⟨0,(1+t.1:Nat),[]⟩]⟩::(B.1++[⟨1,[105],[],[⟨2,0,[]⟩,⟨1,0,[105]⟩,⟨0,1,[]⟩]⟩,⟨7,[],[],[]⟩]),B.2)
 else
  let o:=onceV 3 c1
  if o.1=true then
   let e:=exV G 4 o.2
   ([⟨6,[],[],e.1⟩],e.2)
  else([],o.2)
def runV (G:GP)(rc:Nat→TCur→List TLine×TCur)(dp:Bool):Nat→TCur→List TLine×TCur
 | 0,c=>([],c)
 | n+1,c=>((stepV G rc dp c).1++(runV G rc dp n (stepV G rc dp c).2).1,(runV G rc dp n (stepV G rc dp c).2).2)
def bodyV (G:GP):Nat→Nat→TCur→List TLine×TCur
 | 0=>runV G (fun _ c=>([],c)) false
 | d+1=>runV G (bodyV G d) true
end
def sB:Nat→Nat
 | 0=>1
 | d+1=>3+3 * sB d
structure BL (x:TLine):Prop where
 name:x.fName.length≤8
 args:x.fArgs=[]
 len:x.fExpr.length≤125
 tok:∀t∈x.fExpr,t.fName.length≤8
 kind:1≤x.fKind∧x.fKind≤7
structure RcOk (s:Nat) (rc:Nat→TCur→List TLine×TCur):Prop where
 len:∀n c,c.ok→(rc n c).1.length≤n * s
 b:∀n c,c.ok→(rc n c).2.b=c.b
 ok:∀n c,c.ok→(rc n c).2.ok
 bl:∀n c,c.ok→∀x∈(rc n c).1,BL x
theorem bl_ex {k:Int}{n:List UInt8}{e:List TTok}(hn:n.length≤8)(h:toks8 e 3)(hk:1≤k∧k≤7:=by omega):BL ⟨k,n,[],e⟩:=⟨hn,rfl,h.2.1,h.2.2,hk⟩
theorem bl_nil {k:Int}(hk:1≤k∧k≤7:=by omega):BL ⟨k,[],[],[]⟩:=⟨by simp,rfl,by simp,by simp,hk⟩
theorem step_ok {G:GP}(hG:G.ok){s:Nat}{rc:Nat→TCur→List TLine×TCur}{dp:Bool}(h:dp=true→RcOk s rc){c:TCur}(hc:c.ok):
  (stepV G rc dp c).1.length≤3+3 * s∧(dp=false→(stepV G rc dp c).1.length≤1)∧(stepV G rc dp c).2.b=c.b∧(stepV G rc dp c).2.ok∧∀x∈(stepV G rc dp c).1,BL x:=by
 obtain⟨k1,b1,o1,_⟩:=belV_spec hc 9
 unfold stepV
 dsimp only
 generalize(belV 9 c).1=k at *
 generalize(belV 9 c).2=c1 at *
 split
 ·obtain⟨k2,b2,o2,_⟩:=belV_spec o1 (G.vars.length:Int)
  obtain⟨t3,b3,o3,_⟩:=exV_spec hG o2 6 (by omega)
  refine⟨by simp;omega,fun _=>by simp,(b3.trans b2).trans b1,o3,fun x hx=>?_⟩
  simp only[List.mem_singleton]at hx
  subst hx
  refine bl_ex ?_ t3
  cases hv:G.vars[(belV (G.vars.length:Int) c1).1]? with
  | none=>simp
  | some v=>exact hG.v8 v (List.mem_of_getElem? hv)
 split
 ·obtain⟨t3,b3,o3,_⟩:=exV_spec hG o1 5 (by omega)
  refine⟨by simp;omega,fun _=>by simp,b3.trans b1,o3,fun x hx=>?_⟩
  simp only[List.mem_singleton]at hx
  subst hx
  exact bl_ex (by simp) t3
 split
 ·rename_i hk
  have hr:=h hk.2
  obtain⟨t3,b3,o3,_⟩:=exV_spec hG o1 4 (by omega)
  obtain⟨k4,b4,o4,_⟩:=belV_spec o3 2
  have hl:=hr.len (1+(belV 2 (exV G 4 c1).2).1) _ o4
  have hbb:=hr.b (1+(belV 2 (exV G 4 c1).2).1) _ o4
  have hob:=hr.ok (1+(belV 2 (exV G 4 c1).2).1) _ o4
  have hbl:=hr.bl (1+(belV 2 (exV G 4 c1).2).1) _ o4
  have k4':=k4 (by omega)
  have hl2:(rc (1+(belV 2 (exV G 4 c1).2).1) (belV 2 (exV G 4 c1).2).2).1.length≤2 * s:=Nat.le_trans hl (Nat.mul_le_mul_right _ (by omega))
  generalize rc (1+(belV 2 (exV G 4 c1).2).1) (belV 2 (exV G 4 c1).2).2=B at *
  obtain⟨b5,o5,_⟩:=onceV_spec hob 2
  split
  ·have hl3:=hr.len 1 _ o5
   have hb3:=hr.b 1 _ o5
   have ho3:=hr.ok 1 _ o5
   have hx3:=hr.bl 1 _ o5
   generalize rc 1 (onceV 2 B.2).2=E at *
   refine⟨by simp;omega,(fun e=>by rw[e]at hk;cases hk.2),((((hb3.trans b5).trans hbb).trans b4).trans b3).trans b1,ho3,fun x hx=>?_⟩
   simp only[List.mem_cons,List.mem_append,List.not_mem_nil,or_false]at hx
   rcases hx with rfl|hx|rfl|hx|rfl
   ·exact bl_ex (by simp) t3
   ·exact hbl x hx
   ·exact bl_nil
   ·exact hx3 x hx
   ·exact bl_nil
  ·refine⟨by simp;omega,(fun e=>by rw[e]at hk;cases hk.2),(((b5.trans hbb).trans b4).trans b3).trans b1,o5,fun x hx=>?_⟩
   simp only[List.mem_cons,List.mem_append,List.not_mem_nil,or_false]at hx
   rcases hx with rfl|hx|rfl
   ·exact bl_ex (by simp) t3
   ·exact hbl x hx
   ·exact bl_nil
 split
 ·rename_i hk
  have hr:=h hk.2
  obtain⟨k4,b4,o4,_⟩:=belV_spec o1 3
  have hl3:=hr.len 1 _ o4
  have hb3:=hr.b 1 _ o4
  have ho3:=hr.ok 1 _ o4
  have hx3:=hr.bl 1 _ o4
  generalize rc 1 (belV 3 c1).2=B at *
  refine⟨by simp;omega,(fun e=>by rw[e]at hk;cases hk.2),(hb3.trans b4).trans b1,ho3,fun x hx=>?_⟩
  simp only[List.mem_cons,List.mem_append,List.not_mem_nil,or_false]at hx
  rcases hx with rfl|hx|rfl|rfl
  ·exact⟨by simp,rfl,by simp,by simp,by simp⟩
  ·exact hx3 x hx
  ·exact⟨by simp,rfl,by simp,by simp,by simp⟩
  ·exact bl_nil
 ·obtain⟨b5,o5,_⟩:=onceV_spec o1 3
  split
  ·obtain⟨t3,b3,o3,_⟩:=exV_spec hG o5 4 (by omega)
   refine⟨by simp;omega,fun _=>by simp,(b3.trans b5).trans b1,o3,fun x hx=>?_⟩
   simp only[List.mem_singleton]at hx
   subst hx
   exact bl_ex (by simp) t3
  ·exact⟨by simp,fun _=>by simp,b5.trans b1,o5,fun x hx=>by cases hx⟩
theorem run_ok {G:GP}{rc:Nat→TCur→List TLine×TCur}{dp:Bool}{s:Nat}(hs:∀c:TCur,c.ok→(stepV G rc dp c).1.length≤s∧(stepV G rc dp c).2.b=c.b∧(stepV G rc dp c).2.ok∧∀x∈(stepV G rc dp c).1,BL x):RcOk s (runV G rc dp):=by
 have key:∀n c,c.ok→(runV G rc dp n c).1.length≤n * s∧(runV G rc dp n c).2.b=c.b∧(runV G rc dp n c).2.ok∧∀x∈(runV G rc dp n c).1,BL x:=by
  intro n
  induction n with
  | zero=>exact fun c hc=>⟨by simp[runV],rfl,hc,fun x hx=>by simp[runV]at hx⟩
  | succ n ih=>
   intro c hc
   obtain⟨h1,h2,h3,h4⟩:=hs c hc
   obtain⟨i1,i2,i3,i4⟩:=ih _ h3
   rw[runV]
   refine⟨by simp only[List.length_append];rw[Nat.succ_mul];omega,i2.trans h2,i3,fun x hx=>?_⟩
   rcases List.mem_append.1 hx with hx|hx
   ·exact h4 x hx
   ·exact i4 x hx
 exact⟨fun n c hc=>(key n c hc).1,fun n c hc=>(key n c hc).2.1,fun n c hc=>(key n c hc).2.2.1,fun n c hc=>(key n c hc).2.2.2⟩
theorem body_ok {G:GP}(hG:G.ok):∀d,RcOk (sB d) (bodyV G d)
 | 0=>run_ok fun c hc=>by
  have:=step_ok hG (s:=0) (rc:=fun _ c=>([],c)) (dp:=false) (fun e=>by cases e) hc
  exact⟨this.2.1 rfl,this.2.2⟩
 | d+1=>run_ok fun c hc=>by
  have:=step_ok hG (dp:=true) (fun _=>body_ok hG d) hc
  exact⟨this.1,this.2.2⟩
end Go.Proofs.Ytjmplnfiabmalaa
namespace Go.Proofs.Ytjmplnfiabmalaa
open Go.Sim
set_option maxRecDepth 100000
set_option maxHeartbeats 4000000
def dr (x:TLine):List DC:=match x.fExpr with
 | []=>[.t (.int .i64 x.fKind),.t (.str x.fName),.t (.lst 0 []),.t (.lst 0 [])]
 | t::l=>[.d (.int .i64 x.fKind),.d (.str x.fName),.d (.lst 0 []),.d (.lst 3 ((t::l).map TTok.tr))]
theorem dr_nil (k:Int)(n:List UInt8)(a:List (List UInt8)):dr ⟨k,n,a,[]⟩=[.t (.int .i64 k),.t (.str n),.t (.lst 0 []),.t (.lst 0 [])]:=rfl
theorem dr_cons (k:Int)(n:List UInt8)(a:List (List UInt8))(t:TTok)(l:List TTok):dr ⟨k,n,a,t::l⟩=[.d (.int .i64 k),.d (.str n),.d (.lst 0 []),.d (.lst 3 ((t::l).map TTok.tr))]:=rfl
theorem dr_pos {e:List TTok}(h:0 < e.length)(k:Int)(n:List UInt8)(a:List (List UInt8)):dr ⟨k,n,a,e⟩=[.d (.int .i64 k),.d (.str n),.d (.lst 0 []),.d (.lst 3 (e.map TTok.tr))]:=by
 cases e with
 | nil=>cases h
 | cons t l=>rfl
abbrev bodyC (G:GP)(n:Nat)(d:Int)(c:TCur)(R:List TLine×TCur):Prop:=SpecG Try.prog 79 [curP,tI .i64 (n:Int),tI .i64 d] (gH G c) (.r (.c (.own (1,0,0)))) (gH G R.2++[((1,0,0),.dar 4 (R.1.map dr) none)])
theorem g_run {G:GP}(hG:G.ok){rc:Nat→TCur→List TLine×TCur}{dp:Bool}{s d:Nat}(hd:d≤5)(hdp:dp=decide (0 < d))(hs:3+3 * s≤1000)(hR:dp=true→RcOk s rc)(hrc:dp=true→∀n c,n≤2→c.ok→bodyC G n ((d:Int) - 1) c (rc n c))(n:Nat)(c:TCur)(hn:n≤4)(hc:c.ok):
  bodyC G n d c (runV G rc dp n c):=by
 refine specG_of_Wo hΓ hmix Try.func79 rfl (by decide) rfl rfl ?_
 obtain⟨R,c',hRR⟩:∃R c',runV G rc dp n c=(R,c'):=⟨_,_,rfl⟩
 rw[hRR]
 have hvl:(G.vars.map strRow).length=G.vars.length:=by simp
 repeat' ((conv=>whnf);first|(with_reducible first|apply Wx|apply W6)|apply oi|(apply fi<;>intro h)|refine⟨_,rfl,?_⟩|((with_reducible show _=_);rfl))
 all_goals try((with_reducible refine Obl.mk ?_);exact KP)
 conv=>whnf
 refine⟨{q:Nat×TCur×List TLine // q.1≤n∧q.2.1.ok∧q.2.2.length+q.1 * 1000≤4000∧q.2.2++(runV G rc dp q.1 q.2.1).1=R∧(runV G rc dp q.1 q.2.1).2=c'},fun q=>⟨[(0,curP),(1,tI .i64 (q.1.1:Int)),(2,tI .i64 (d:Int)),(7,.r (.c (.own (10,0,0))))],[((0,0,0),some (.box [.ptr (0,0,1) 0,.own (0,0,2),.t (.lst 1 (G.names.map strRow)),.t (.lst 1 (G.ars.map intRow))])),((0,0,1),some (.box [.t (.lst 1 (q.1.2.1.b.map byteRow)),.t (.int .i64 q.1.2.1.i),.t (.int .i64 q.1.2.1.h)])),((0,0,2),some (.arr false 1 (G.vars.map strRow))),((10,0,0),some (.dar 4 (q.1.2.2.map dr) none))],[10,0]⟩,fun q=>q.1.1,⟨(n,c,[]),by dsimp only;omega,hc,by simp;omega,by rw[hRR];rfl,by rw[hRR]⟩,?_,?_⟩
 ·skip
  repeat' ((conv=>whnf);first|(with_reducible first|apply Wx|apply W6)|apply oi|(apply fi<;>intro h)|refine⟨_,rfl,?_⟩|((with_reducible show _=_);rfl))
  all_goals try((with_reducible refine Obl.mk ?_);exact KP)
  all_goals try exact⟨rfl⟩
 intro⟨⟨rem,ci,acc⟩,hi,hci,hal,hr1,hr2⟩
 dsimp only at hi hci hal hr1 hr2 ⊢
 cases rem with
 | zero=>
  simp only[runV,List.append_nil]at hr1 hr2
  subst hr1;subst hr2
  repeat' ((conv=>whnf);first|(with_reducible first|apply Wx|apply W6)|apply oi|(apply fi<;>intro h)|refine⟨_,rfl,?_⟩|((with_reducible show _=_);rfl))
  all_goals try((with_reducible refine Obl.mk ?_);exact KP)
  all_goals try exact KX
 | succ m=>
  rw[runV]at hr1 hr2
  dsimp only at hr1 hr2
  obtain⟨s1,_,s3,s4,_⟩:=step_ok hG hR hci
  generalize hS:stepV G rc dp ci=S at *
  obtain⟨k1,b1,o1,g1⟩:=belV_spec hci 9
  unfold stepV at hS
  dsimp only at hS
  generalize belV 9 ci=q at *
  rw[←List.append_assoc]at hr1
  have hlen:(acc++S.1).length+m * 1000≤4000:=by rw[List.length_append];omega
  by_cases hk4:q.1 < 4
  ·rw[if_pos hk4]at hS
   obtain⟨k2,b2,o2,g2⟩:=belV_spec o1 (G.vars.length:Int)
   obtain⟨t3,b3,o3,g3⟩:=exV_spec hG o2 6 (by omega)
   generalize belV (G.vars.length:Int) q.2=v at *
   generalize exV G 6 v.2=e at *
   subst hS
   have kv:=hG.v1
   have hvv:v.1 < (G.vars.map strRow).length:=by have:=k2 (by omega);omega
   obtain⟨nm,hnm⟩:=get_of_lt (l:=G.vars) (k:=v.1) (by omega)
   have hvg:(G.vars.map strRow)[v.1]?=some (strRow nm):=map_get hnm
   rw[hvl.symm]at g2
   repeat' ((conv=>whnf);first|(with_reducible first|apply Wx|apply W6)|apply oi|(apply fi<;>intro h)|refine⟨_,rfl,?_⟩|((with_reducible show _=_);rfl))
   all_goals try((with_reducible refine Obl.mk ?_);exact KP)
   refine cg (g1) ?_
   repeat' ((conv=>whnf);first|(with_reducible first|apply Wx|apply W6)|apply oi|(apply fi<;>intro h)|refine⟨_,rfl,?_⟩|((with_reducible show _=_);rfl))
   all_goals try((with_reducible refine Obl.mk ?_);exact KP)
   all_goals try exact KX
   refine cg (g2) ?_
   repeat' ((conv=>whnf);first|(with_reducible first|apply Wx|apply W6)|apply oi|(apply fi<;>intro h)|refine⟨_,rfl,hvv,?_⟩|refine⟨_,hvg,?_⟩|refine⟨_,rfl,?_⟩|((with_reducible show _=_);rfl))
   all_goals try((with_reducible refine Obl.mk ?_);exact KP)
   refine cg (g3) ?_
   repeat' ((conv=>whnf);first|(with_reducible first|apply Wx|apply W6)|apply oi|(apply fi<;>intro h)|refine⟨_,rfl,?_⟩|((with_reducible show _=_);rfl))
   all_goals try((with_reducible refine Obl.mk ?_);exact KP)
   all_goals try exact⟨flat_toks _⟩
   all_goals try exact⟨⟨by simp <;> omega,by simp <;> omega⟩⟩
   all_goals try exact⟨KW⟩
   conv=>whnf
   refine⟨⟨(m,_,_),by dsimp only;omega,s4,hlen,hr1,hr2⟩,?_,by dsimp only;omega⟩
   repeat' ((conv=>whnf);first|(with_reducible first|apply Wx|apply W6)|apply oi|(apply fi<;>intro h)|refine⟨_,rfl,?_⟩|((with_reducible show _=_);rfl))
   all_goals try((with_reducible refine Obl.mk ?_);exact KP)
   all_goals try exact⟨K7⟩
   all_goals exact⟨by simp[dr_pos t3.1,hnm]⟩
  rw[if_neg hk4]at hS
  by_cases hk6:q.1 < 6
  ·rw[if_pos hk6]at hS
   obtain⟨t3,b3,o3,g3⟩:=exV_spec hG o1 5 (by omega)
   generalize exV G 5 q.2=e at *
   subst hS
   repeat' ((conv=>whnf);first|(with_reducible first|apply Wx|apply W6)|apply oi|(apply fi<;>intro h)|refine⟨_,rfl,?_⟩|((with_reducible show _=_);rfl))
   all_goals try((with_reducible refine Obl.mk ?_);exact KP)
   refine cg (g1) ?_
   repeat' ((conv=>whnf);first|(with_reducible first|apply Wx|apply W6)|apply oi|(apply fi<;>intro h)|refine⟨_,rfl,?_⟩|((with_reducible show _=_);rfl))
   all_goals try((with_reducible refine Obl.mk ?_);exact KP)
   all_goals try exact KX
   refine cg (g3) ?_
   repeat' ((conv=>whnf);first|(with_reducible first|apply Wx|apply W6)|apply oi|(apply fi<;>intro h)|refine⟨_,rfl,?_⟩|((with_reducible show _=_);rfl))
   all_goals try((with_reducible refine Obl.mk ?_);exact KP)
   all_goals try exact⟨flat_toks _⟩
   all_goals try exact⟨⟨by simp <;> omega,by simp <;> omega⟩⟩
   all_goals try exact⟨KW⟩
   conv=>whnf
   refine⟨⟨(m,_,_),by dsimp only;omega,s4,hlen,hr1,hr2⟩,?_,by dsimp only;omega⟩
   repeat' ((conv=>whnf);first|(with_reducible first|apply Wx|apply W6)|apply oi|(apply fi<;>intro h)|refine⟨_,rfl,?_⟩|((with_reducible show _=_);rfl))
   all_goals try((with_reducible refine Obl.mk ?_);exact KP)
   all_goals try exact⟨K7⟩
   all_goals exact⟨by simp[dr_pos t3.1]⟩
  rw[if_neg hk6]at hS
  by_cases hk7:q.1=6∧dp=true
  ·rw[if_pos hk7]at hS
   obtain⟨hk7,hdt⟩:=hk7
   have hd0:0 < d:=by rw[hdp]at hdt;exact of_decide_eq_true hdt
   have hRo:=hR hdt
   obtain⟨t3,b3,o3,g3⟩:=exV_spec hG o1 4 (by omega)
   generalize exV G 4 q.2=e at *
   obtain⟨k4,b4,o4,g4⟩:=belV_spec o3 2
   generalize belV 2 e.2=t at *
   have g5:=hrc hdt (1+t.1) t.2 (by have:=k4 (by omega);omega) o4
   have l5:=hRo.len (1+t.1) t.2 o4
   have ob5:=hRo.ok (1+t.1) t.2 o4
   have l5':(rc (1+t.1) t.2).1.length≤2 * s:=Nat.le_trans l5 (Nat.mul_le_mul_right _ (by have:=k4 (by omega);omega))
   generalize rc (1+t.1) t.2=B at *
   obtain⟨b6,o6,g6⟩:=onceV_spec ob5 2
   generalize onceV 2 B.2=o at *
   cases ho:o.1 with
   | true=>
    rw[if_pos ho]at hS
    rw[ho]at g6
    have g7:=hrc hdt 1 o.2 (by omega) o6
    have l7:=hRo.len 1 o.2 o6
    generalize rc 1 o.2=E at *
    subst hS
    repeat' ((conv=>whnf);first|(with_reducible first|apply Wx|apply W6)|apply oi|(apply fi<;>intro h)|refine⟨_,rfl,?_⟩|((with_reducible show _=_);rfl))
    all_goals try((with_reducible refine Obl.mk ?_);exact KP)
    refine cg (g1) ?_
    repeat' ((conv=>whnf);first|(with_reducible first|apply Wx|apply W6)|apply oi|(apply fi<;>intro h)|refine⟨_,rfl,?_⟩|((with_reducible show _=_);rfl))
    all_goals try((with_reducible refine Obl.mk ?_);exact KP)
    all_goals try exact KK
    refine cg (g3) ?_
    repeat' ((conv=>whnf);first|(with_reducible first|apply Wx|apply W6)|apply oi|(apply fi<;>intro h)|refine⟨_,rfl,?_⟩|((with_reducible show _=_);rfl))
    all_goals try((with_reducible refine Obl.mk ?_);exact KP)
    all_goals try exact⟨flat_toks _⟩
    all_goals try exact⟨⟨by simp <;> omega,by simp <;> omega⟩⟩
    all_goals try exact⟨KW⟩
    refine cg (g4) ?_
    repeat' ((conv=>whnf);first|(with_reducible first|apply Wx|apply W6)|apply oi|(apply fi<;>intro h)|refine⟨_,rfl,?_⟩|((with_reducible show _=_);rfl))
    all_goals try((with_reducible refine Obl.mk ?_);exact KP)
    all_goals try exact⟨flat_toks _⟩
    all_goals try exact⟨⟨by simp <;> omega,by simp <;> omega⟩⟩
    all_goals try exact⟨KW⟩
    refine cg (g5) ?_
    repeat' ((conv=>whnf);first|(with_reducible first|apply Wx|apply W6)|apply oi|(apply fi<;>intro h)|refine⟨_,rfl,?_⟩|((with_reducible show _=_);rfl))
    all_goals try((with_reducible refine Obl.mk ?_);exact KP)
    all_goals try exact⟨flat_toks _⟩
    all_goals try exact⟨⟨by simp <;> omega,by simp <;> omega⟩⟩
    all_goals try exact⟨KW⟩
    refine cg (g6) ?_
    repeat' ((conv=>whnf);first|(with_reducible first|apply Wx|apply W6)|apply oi|(apply fi<;>intro h)|refine⟨_,rfl,?_⟩|((with_reducible show _=_);rfl))
    all_goals try((with_reducible refine Obl.mk ?_);exact KP)
    all_goals try exact⟨flat_toks _⟩
    all_goals try exact⟨⟨by simp <;> omega,by simp <;> omega⟩⟩
    all_goals try exact⟨KW⟩
    refine cg (g7) ?_
    repeat' ((conv=>whnf);first|(with_reducible first|apply Wx|apply W6)|apply oi|(apply fi<;>intro h)|refine⟨_,rfl,?_⟩|((with_reducible show _=_);rfl))
    all_goals try((with_reducible refine Obl.mk ?_);exact KP)
    all_goals try exact⟨flat_toks _⟩
    all_goals try exact⟨⟨by simp <;> omega,by simp <;> omega⟩⟩
    all_goals try exact⟨KW⟩
    conv=>whnf
    refine⟨⟨(m,_,_),by dsimp only;omega,s4,hlen,hr1,hr2⟩,?_,by dsimp only;omega⟩
    repeat' ((conv=>whnf);first|(with_reducible first|apply Wx|apply W6)|apply oi|(apply fi<;>intro h)|refine⟨_,rfl,?_⟩|((with_reducible show _=_);rfl))
    all_goals try((with_reducible refine Obl.mk ?_);exact KP)
    all_goals try exact⟨K7⟩
    all_goals exact⟨by simp[dr_pos t3.1,dr_nil]⟩
   | false=>
    rw[if_neg (by simp[ho])]at hS
    rw[ho]at g6
    subst hS
    repeat' ((conv=>whnf);first|(with_reducible first|apply Wx|apply W6)|apply oi|(apply fi<;>intro h)|refine⟨_,rfl,?_⟩|((with_reducible show _=_);rfl))
    all_goals try((with_reducible refine Obl.mk ?_);exact KP)
    refine cg (g1) ?_
    repeat' ((conv=>whnf);first|(with_reducible first|apply Wx|apply W6)|apply oi|(apply fi<;>intro h)|refine⟨_,rfl,?_⟩|((with_reducible show _=_);rfl))
    all_goals try((with_reducible refine Obl.mk ?_);exact KP)
    all_goals try exact KK
    refine cg (g3) ?_
    repeat' ((conv=>whnf);first|(with_reducible first|apply Wx|apply W6)|apply oi|(apply fi<;>intro h)|refine⟨_,rfl,?_⟩|((with_reducible show _=_);rfl))
    all_goals try((with_reducible refine Obl.mk ?_);exact KP)
    all_goals try exact⟨flat_toks _⟩
    all_goals try exact⟨⟨by simp <;> omega,by simp <;> omega⟩⟩
    all_goals try exact⟨KW⟩
    refine cg (g4) ?_
    repeat' ((conv=>whnf);first|(with_reducible first|apply Wx|apply W6)|apply oi|(apply fi<;>intro h)|refine⟨_,rfl,?_⟩|((with_reducible show _=_);rfl))
    all_goals try((with_reducible refine Obl.mk ?_);exact KP)
    all_goals try exact⟨flat_toks _⟩
    all_goals try exact⟨⟨by simp <;> omega,by simp <;> omega⟩⟩
    all_goals try exact⟨KW⟩
    refine cg (g5) ?_
    repeat' ((conv=>whnf);first|(with_reducible first|apply Wx|apply W6)|apply oi|(apply fi<;>intro h)|refine⟨_,rfl,?_⟩|((with_reducible show _=_);rfl))
    all_goals try((with_reducible refine Obl.mk ?_);exact KP)
    all_goals try exact⟨flat_toks _⟩
    all_goals try exact⟨⟨by simp <;> omega,by simp <;> omega⟩⟩
    all_goals try exact⟨KW⟩
    refine cg (g6) ?_
    repeat' ((conv=>whnf);first|(with_reducible first|apply Wx|apply W6)|apply oi|(apply fi<;>intro h)|refine⟨_,rfl,?_⟩|((with_reducible show _=_);rfl))
    all_goals try((with_reducible refine Obl.mk ?_);exact KP)
    all_goals try exact⟨flat_toks _⟩
    all_goals try exact⟨⟨by simp <;> omega,by simp <;> omega⟩⟩
    all_goals try exact⟨KW⟩
    conv=>whnf
    refine⟨⟨(m,_,_),by dsimp only;omega,s4,hlen,hr1,hr2⟩,?_,by dsimp only;omega⟩
    repeat' ((conv=>whnf);first|(with_reducible first|apply Wx|apply W6)|apply oi|(apply fi<;>intro h)|refine⟨_,rfl,?_⟩|((with_reducible show _=_);rfl))
    all_goals try((with_reducible refine Obl.mk ?_);exact KP)
    all_goals try exact⟨K7⟩
    all_goals exact⟨by simp[dr_pos t3.1,dr_nil]⟩
  rw[if_neg hk7]at hS
  by_cases hk8:q.1=7∧dp=true
  ·rw[if_pos hk8]at hS
   obtain⟨hk8,hdt⟩:=hk8
   have hd0:0 < d:=by rw[hdp]at hdt;exact of_decide_eq_true hdt
   have hRo:=hR hdt
   obtain⟨k4,b4,o4,g4⟩:=belV_spec o1 3
   generalize belV 3 q.2=t at *
   have k4':=k4 (by omega)
   have hwi:IntKind.i64.wrap (1+(t.1:Int))=1+(t.1:Int):=IntWalk.i64_in _ (by omega)
   have g5:=hrc hdt 1 t.2 (by omega) o4
   have l5:=hRo.len 1 t.2 o4
   generalize rc 1 t.2=B at *
   subst hS
   repeat' ((conv=>whnf);first|(with_reducible first|apply Wx|apply W6)|apply oi|(apply fi<;>intro h)|refine⟨_,rfl,?_⟩|((with_reducible show _=_);rfl))
   all_goals try((with_reducible refine Obl.mk ?_);exact KP)
   refine cg (g1) ?_
   repeat' ((conv=>whnf);first|(with_reducible first|apply Wx|apply W6)|apply oi|(apply fi<;>intro h)|refine⟨_,rfl,?_⟩|((with_reducible show _=_);rfl))
   all_goals try((with_reducible refine Obl.mk ?_);exact KP)
   all_goals try exact KK
   refine cg (g4) ?_
   repeat' ((conv=>whnf);first|(with_reducible first|apply Wx|apply W6)|apply oi|(apply fi<;>intro h)|refine⟨_,rfl,?_⟩|((with_reducible show _=_);rfl))
   all_goals try((with_reducible refine Obl.mk ?_);exact KP)
   all_goals try exact⟨flat_toks [⟨5,0,[]⟩,⟨1,0,[105]⟩,⟨0,IntKind.i64.wrap (1+(t.1:Int)),[]⟩]⟩
   all_goals try exact⟨flat_toks _⟩
   all_goals try exact⟨⟨by simp <;> omega,by simp <;> omega⟩⟩
   all_goals try exact⟨KW⟩
   refine cg (g5) ?_
   repeat' ((conv=>whnf);first|(with_reducible first|apply Wx|apply W6)|apply oi|(apply fi<;>intro h)|refine⟨_,rfl,?_⟩|((with_reducible show _=_);rfl))
   all_goals try((with_reducible refine Obl.mk ?_);exact KP)
   all_goals try exact⟨flat_toks [⟨2,0,[]⟩,⟨1,0,[105]⟩,⟨0,1,[]⟩]⟩
   all_goals try exact⟨flat_toks _⟩
   all_goals try exact⟨⟨by simp <;> omega,by simp <;> omega⟩⟩
   all_goals try exact⟨KW⟩
   conv=>whnf
   refine⟨⟨(m,_,_),by dsimp only;omega,s4,hlen,hr1,hr2⟩,?_,by dsimp only;omega⟩
   repeat' ((conv=>whnf);first|(with_reducible first|apply Wx|apply W6)|apply oi|(apply fi<;>intro h)|refine⟨_,rfl,?_⟩|((with_reducible show _=_);rfl))
   all_goals try((with_reducible refine Obl.mk ?_);exact KP)
   all_goals try exact⟨K7⟩
   all_goals exact⟨by simp[dr_nil,dr_cons,TTok.tr,hwi]⟩
  rw[if_neg hk8]at hS
  have hnd:¬(q.1=6∧0 < d)∧¬(q.1=7∧0 < d):=⟨fun h=>hk7 ⟨h.1,by rw[hdp];exact decide_eq_true h.2⟩,fun h=>hk8 ⟨h.1,by rw[hdp];exact decide_eq_true h.2⟩⟩
  obtain⟨b6,o6,g6⟩:=onceV_spec o1 3
  generalize onceV 3 q.2=o at *
  cases ho:o.1 with
  | true=>
   rw[if_pos ho]at hS
   rw[ho]at g6
   obtain⟨t3,b3,o3,g3⟩:=exV_spec hG o6 4 (by omega)
   generalize exV G 4 o.2=e at *
   subst hS
   repeat' ((conv=>whnf);first|(with_reducible first|apply Wx|apply W6)|apply oi|(apply fi<;>intro h)|refine⟨_,rfl,?_⟩|((with_reducible show _=_);rfl))
   all_goals try((with_reducible refine Obl.mk ?_);exact KP)
   refine cg (g1) ?_
   repeat' ((conv=>whnf);first|(with_reducible first|apply Wx|apply W6)|apply oi|(apply fi<;>intro h)|refine⟨_,rfl,?_⟩|((with_reducible show _=_);rfl))
   all_goals try((with_reducible refine Obl.mk ?_);exact KP)
   all_goals try exact KK
   all_goals(
    refine cg (g6) ?_
    repeat' ((conv=>whnf);first|(with_reducible first|apply Wx|apply W6)|apply oi|(apply fi<;>intro h)|refine⟨_,rfl,?_⟩|((with_reducible show _=_);rfl))
    all_goals try((with_reducible refine Obl.mk ?_);exact KP)
    refine cg (g3) ?_
    repeat' ((conv=>whnf);first|(with_reducible first|apply Wx|apply W6)|apply oi|(apply fi<;>intro h)|refine⟨_,rfl,?_⟩|((with_reducible show _=_);rfl))
    all_goals try((with_reducible refine Obl.mk ?_);exact KP)
    all_goals try exact⟨flat_toks _⟩
    all_goals try exact⟨⟨by simp <;> omega,by simp <;> omega⟩⟩
    all_goals try exact⟨KW⟩
    conv=>whnf
    refine⟨⟨(m,_,_),by dsimp only;omega,s4,hlen,hr1,hr2⟩,?_,by dsimp only;omega⟩
    repeat' ((conv=>whnf);first|(with_reducible first|apply Wx|apply W6)|apply oi|(apply fi<;>intro h)|refine⟨_,rfl,?_⟩|((with_reducible show _=_);rfl))
    all_goals try((with_reducible refine Obl.mk ?_);exact KP)
    all_goals try exact⟨K7⟩
    all_goals exact⟨by simp[dr_pos t3.1]⟩)
  | false=>
   rw[if_neg (by simp[ho])]at hS
   rw[ho]at g6
   subst hS
   repeat' ((conv=>whnf);first|(with_reducible first|apply Wx|apply W6)|apply oi|(apply fi<;>intro h)|refine⟨_,rfl,?_⟩|((with_reducible show _=_);rfl))
   all_goals try((with_reducible refine Obl.mk ?_);exact KP)
   refine cg (g1) ?_
   repeat' ((conv=>whnf);first|(with_reducible first|apply Wx|apply W6)|apply oi|(apply fi<;>intro h)|refine⟨_,rfl,?_⟩|((with_reducible show _=_);rfl))
   all_goals try((with_reducible refine Obl.mk ?_);exact KP)
   all_goals try exact KK
   all_goals(
    refine cg (g6) ?_
    repeat' ((conv=>whnf);first|(with_reducible first|apply Wx|apply W6)|apply oi|(apply fi<;>intro h)|refine⟨_,rfl,?_⟩|((with_reducible show _=_);rfl))
    all_goals try((with_reducible refine Obl.mk ?_);exact KP)
    conv=>whnf
    refine⟨⟨(m,_,_),by dsimp only;omega,s4,hlen,hr1,hr2⟩,?_,by dsimp only;omega⟩
    repeat' ((conv=>whnf);first|(with_reducible first|apply Wx|apply W6)|apply oi|(apply fi<;>intro h)|refine⟨_,rfl,?_⟩|((with_reducible show _=_);rfl))
    all_goals try((with_reducible refine Obl.mk ?_);exact KP)
    all_goals try exact⟨K7⟩
    all_goals exact⟨by simp⟩)
theorem g_body {G:GP}(hG:G.ok):∀(d n:Nat) (c:TCur),d≤2→n≤4→c.ok→bodyC G n d c (bodyV G d n c)
 | 0,n,c,_,hn,hc=>g_run hG (s:=0) (by omega) rfl (by omega) (fun h=>by cases h) (fun h=>by cases h) n c hn hc
 | d+1,n,c,hd,hn,hc=>g_run hG (s:=sB d) (by omega) (by simp) (by
   have:d=0∨d=1:=by omega
   rcases this with rfl|rfl <;> simp[sB]) (fun _=>body_ok hG d) (fun _ m c' hm hc'=>by
   have e:(((d+1:Nat):Int) - 1)=(d:Int):=by omega
   rw[e]
   exact g_body hG d m c' (by omega) (by omega) hc') n c hn hc
end Go.Proofs.Ytjmplnfiabmalaa
