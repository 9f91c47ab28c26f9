import Derived.Test.YtjmplnfiabmalaaGf
namespace Go.Proofs.Ytjmplnfiabmalaa
open Go.Sim
set_option maxRecDepth 100000
set_option maxHeartbeats 4000000
abbrev vN (l:List (List UInt8)):AV:= .r (.c (.t (.lst 1 (l.map ah))))
theorem tK {α:Type}{f:α→Bool}{l:List α}{k:Nat}{x:α}(hx:l[k]?=some x):(l.drop k).all f=(f x && (l.drop (k+1)).all f):=by
 rw[eA hx,List.all_cons]
theorem lV (l:List Ai)(loc:List (List UInt8))(ts:List Ar)(hl:l.length≤1048576)(hloc:loc.length≤4194304)(hts:ts.length≤1048576):Sim.Spec Try.prog 97 [tvP l,tvL 1 (loc.map ah),tvL 3 (ts.map Ar.tr)] (rB (aN l loc ts)):=by
 refine ap hΓ au Try.func97 rfl (by decide) rfl ?_
 have hlen:(ts.map Ar.tr).length=ts.length:=by simp
 have hlen2:(l.map Ai.tr).length=l.length:=by simp
 obtain⟨R,hR⟩:∃R,aN l loc ts=R:=⟨_,rfl⟩
 rw[hR]
 repeat' ((conv=>whnf);first|refine Or.inl ?_|apply oi|(apply fi<;>intro h)|refine⟨_,rfl,?_⟩|exact rfl)
 all_goals try exact⟨KO⟩
 conv=>whnf
 refine⟨{k:Nat // k≤ts.length∧(ts.drop k).all (aR l loc)=R},fun q=>⟨[(0,vP l),(1,vN loc),(10,.r (.c (.t (.lst 3 (ts.map Ar.tr))))),(11,tI .i64 ((ts.map Ar.tr).length:Int)),(12,tI .i64 (q.1:Int))],[],[]⟩,fun q=>ts.length - q.1,⟨0,by omega,hR⟩,?_,?_⟩
 ·skip
  repeat' ((conv=>whnf);first|refine Or.inl ?_|apply oi|(apply fi<;>intro h)|refine⟨_,rfl,?_⟩|exact rfl)
  all_goals try exact⟨KO⟩
 intro⟨k,hk,hr⟩
 dsimp only at hk hr ⊢
 by_cases hlt:k < ts.length
 ·obtain⟨t,ht⟩:=af hlt
  rw[tK ht]at hr
  have hC:=cT loc t.fab hloc
  have hF:=cL l t.fab hl
  by_cases h1:t.faa=1
  ·have e1:aR l loc t=loc.contains t.fab:=by unfold aR;rw[if_pos h1]
   rw[e1]at hr
   cases hc:loc.contains t.fab with
   | false=>
    rw[hc]at hC hr
    rw[Bool.false_and]at hr
    subst hr
    repeat' ((conv=>whnf);first|refine Or.inl ?_|apply oi|(apply fi<;>intro h)|refine⟨k,t.tr,rfl,aa ht,?_⟩|refine ci hC (ai rfl (ai rfl trivial)) ?_|refine ci hF (ai rfl (ai rfl trivial)) ?_|refine⟨_,rfl,?_⟩|exact rfl)
    all_goals try exact⟨KO⟩
    all_goals try exact KX
    all_goals try(exfalso;(try simp_all[ae]);(try omega);done)
   | true=>
    rw[hc]at hC hr
    rw[Bool.true_and]at hr
    repeat' ((conv=>whnf);first|refine Or.inl ?_|apply oi|(apply fi<;>intro h)|refine⟨k,t.tr,rfl,aa ht,?_⟩|refine ci hC (ai rfl (ai rfl trivial)) ?_|refine ci hF (ai rfl (ai rfl trivial)) ?_|refine⟨_,rfl,?_⟩|exact rfl)
    all_goals try exact⟨KO⟩
    all_goals try exact KX
    all_goals try(exfalso;(try simp_all[ae]);(try omega);done)
    all_goals try(exfalso;simp_all;done)
    conv=>whnf
    refine⟨⟨k+1,by omega,hr⟩,?_,KD⟩
    repeat' ((conv=>whnf);first|refine Or.inl ?_|apply oi|(apply fi<;>intro h)|refine⟨_,rfl,?_⟩|exact rfl)
    all_goals try exact⟨KO⟩
    all_goals try exact⟨K2⟩
  ·by_cases h7:t.faa=7
   ·cases hf:findN l 0 t.fab with
    | none=>
     have e1:aR l loc t=false:=by unfold aR;rw[if_neg h1,if_pos h7,hf]
     rw[e1,Bool.false_and]at hr
     subst hr
     rw[show cA l t.fab= -1 from eC hf]at hF
     repeat' ((conv=>whnf);first|refine Or.inl ?_|apply oi|(apply fi<;>intro h)|refine⟨k,t.tr,rfl,aa ht,?_⟩|refine ci hC (ai rfl (ai rfl trivial)) ?_|refine ci hF (ai rfl (ai rfl trivial)) ?_|refine⟨_,rfl,?_⟩|exact rfl)
     all_goals try exact⟨KO⟩
     all_goals try exact KX
     all_goals try(exfalso;(try simp_all[ae]);(try omega);done)
    | some f=>
     obtain⟨hfl,x,hx,hx0,_⟩:=dF hf
     have e1:aR l loc t=((x.fad.length:Int)==t.fae):=by unfold aR;rw[if_neg h1,if_pos h7,hf];dsimp only;rw[hx]
     rw[e1]at hr
     rw[show cA l t.fab=(f:Int) from aK hf]at hF
     have hxl:(x.fad.map ah).length=x.fad.length:=by simp
     by_cases hn:(x.fad.length:Int)=t.fae
     ·rw[beq_iff_eq.2 hn,Bool.true_and]at hr
      repeat' ((conv=>whnf);first|refine Or.inl ?_|apply oi|(apply fi<;>intro h)|refine⟨k,t.tr,rfl,aa ht,?_⟩|refine⟨f,x.tr,rfl,aa hx,?_⟩|refine ci hC (ai rfl (ai rfl trivial)) ?_|refine ci hF (ai rfl (ai rfl trivial)) ?_|refine⟨_,rfl,?_⟩|exact rfl)
      all_goals try exact⟨KO⟩
      all_goals try exact KX
      all_goals try(exfalso;(try simp_all[ae]);(try omega);done)
      all_goals try(exfalso;simp_all;done)
      conv=>whnf
      refine⟨⟨k+1,by omega,hr⟩,?_,KD⟩
      repeat' ((conv=>whnf);first|refine Or.inl ?_|apply oi|(apply fi<;>intro h)|refine⟨_,rfl,?_⟩|exact rfl)
      all_goals try exact⟨KO⟩
      all_goals try exact⟨K2⟩
     ·rw[beq_eq_false_iff_ne.2 hn,Bool.false_and]at hr
      subst hr
      repeat' ((conv=>whnf);first|refine Or.inl ?_|apply oi|(apply fi<;>intro h)|refine⟨k,t.tr,rfl,aa ht,?_⟩|refine⟨f,x.tr,rfl,aa hx,?_⟩|refine ci hC (ai rfl (ai rfl trivial)) ?_|refine ci hF (ai rfl (ai rfl trivial)) ?_|refine⟨_,rfl,?_⟩|exact rfl)
      all_goals try exact⟨KO⟩
      all_goals try exact KX
      all_goals try(exfalso;(try simp_all[ae]);(try omega);done)
      all_goals try(exfalso;simp_all;done)
   ·have e1:aR l loc t=true:=by unfold aR;rw[if_neg h1,if_neg h7]
    rw[e1,Bool.true_and]at hr
    repeat' ((conv=>whnf);first|refine Or.inl ?_|apply oi|(apply fi<;>intro h)|refine⟨k,t.tr,rfl,aa ht,?_⟩|refine ci hC (ai rfl (ai rfl trivial)) ?_|refine ci hF (ai rfl (ai rfl trivial)) ?_|refine⟨_,rfl,?_⟩|exact rfl)
    all_goals try exact⟨KO⟩
    all_goals try exact KX
    all_goals try(exfalso;(try simp_all[ae]);(try omega);done)
    all_goals try(exfalso;simp_all;done)
    conv=>whnf
    refine⟨⟨k+1,by omega,hr⟩,?_,KD⟩
    repeat' ((conv=>whnf);first|refine Or.inl ?_|apply oi|(apply fi<;>intro h)|refine⟨_,rfl,?_⟩|exact rfl)
    all_goals try exact⟨KO⟩
    all_goals try exact⟨K2⟩
 ·rw[List.drop_eq_nil_of_le (by omega),List.all_nil]at hr
  subst hr
  repeat' ((conv=>whnf);first|refine Or.inl ?_|apply oi|(apply fi<;>intro h)|refine⟨_,rfl,?_⟩|exact rfl)
  all_goals try exact⟨KO⟩
  all_goals try exact KX
def cd (n:Nat):List Tr:=ab n
theorem jw {x:Ai}(h:bm x=true)(hk:x.faa=7):x.fac=[]:=by
 unfold bm at h
 simp only[Bool.and_eq_true]at h
 have h3:=h.2.2.2
 rw[if_neg (by rw[hk];decide)]at h3
 exact List.length_eq_zero_iff.1 (eq_of_beq h3)
def zg (i:Nat)(st es:List Nat):Prop:=st=es∨st=(i - 1)::es
theorem fI (m:Nat)(r:List Nat):((m::r).reverse.map cd)[r.length]?=some (cd m):=by simp
theorem StkOk.top {l:List Ai}{e i m:Nat}{r:List Nat}(h:StkOk l e i (m::r)):i≤m:=h.1
theorem lg (l:List Ai)(k e:Nat)(hl:l.length≤60)(hs:∀x∈l,bI 1048576 x.tr)(hok:∀x∈l,bm x=true)(he:endAt l k=some e):Sim.Spec Try.prog 68 [tvP l,tvI k,tvI e] (rB (eS l k e)):=by
 refine ap hΓ au Try.func68 rfl (by decide) rfl ?_
 have hlen:(l.map Ai.tr).length=l.length:=by simp
 have hL:=mS l k (by omega) hs
 obtain⟨hloc1,hloc2⟩:=qc (l:=l) (k:=(k:Int)) (by omega) hs
 have hst0:=(aw he)
 obtain⟨x0,hx0,ho0,he0,hke,hel⟩:=hst0
 unfold eS
 generalize localsOf l (k:Int)=loc at *
 have hll:(loc.map ah).length=loc.length:=by simp
 by_cases h8:loc.length≤8
 ·rw[decide_eq_true h8,Bool.true_and]
  obtain⟨R,hR⟩:∃R,eJ l loc e (e - (k+1)) (k+1) 0=R:=⟨_,rfl⟩
  rw[hR]
  repeat' ((conv=>whnf);first|refine Or.inl ?_|apply oi|(apply fi<;>intro h)|refine ci hL (ai rfl (ai rfl trivial)) ?_|refine⟨_,rfl,?_⟩|exact rfl)
  all_goals try exact⟨KO⟩
  all_goals try exact KX
  conv=>whnf
  refine⟨{q:Nat×List Nat×List Nat // k < q.1∧q.1≤e+1∧q.2.1.length≤5∧(q.1=e+1→R=true)∧(q.1≤e→StkOk l e q.1 q.2.2∧q.2.2.length≤4∧zg q.1 q.2.1 q.2.2∧eJ l loc e (e - q.1) q.1 q.2.2.length=R)},fun q=>⟨[(0,vP l),(2,tI .i64 (e:Int)),(7,.r (.c (.own (7,0,0)))),(8,.r (.c (.own (8,0,0)))),(9,tI .i64 (q.1.1:Int))],[((7,0,0),some (.arr true 1 (loc.map ah))),((8,0,0),some (.arr false 1 (q.1.2.1.reverse.map cd)))],[7,8]⟩,fun q=>e+1 - q.1.1,⟨(k+1,[],[]),by dsimp only;omega,by dsimp only;omega,by simp,fun h=>by dsimp only at h;omega,fun _=>⟨he0,by simp,.inl rfl,hR⟩⟩,?_,?_⟩
  ·skip
   repeat' ((conv=>whnf);first|refine Or.inl ?_|apply oi|(apply fi<;>intro h)|refine⟨_,rfl,?_⟩|exact rfl)
   all_goals try exact⟨KO⟩
   all_goals try exact⟨K2⟩
   all_goals exact⟨by simp⟩
  intro⟨⟨i,st,es⟩,q1,q2,q3,q4,q5⟩
  dsimp only at q1 q2 q3 q4 q5 ⊢
  by_cases hie:i≤e
  ·obtain⟨y,hy⟩:=af (l:=l) (k:=i) (by omega)
   obtain⟨g1,g2,g3,g4⟩:=q5 hie
   have hE:=bF l (i:Int) (by omega)
   have hX:=lV l loc y.fac (by omega) (by omega) (by have:=(cb (hs y (List.mem_of_getElem? hy))).2.2.2.1;omega)
   repeat' ((conv=>whnf);first|refine Or.inl ?_|apply oi|(apply fi<;>intro h)|refine⟨_,rfl,?_⟩|exact rfl)
   all_goals try exact⟨KO⟩
   all_goals try exact KX
   conv=>whnf
   refine⟨{u:List Nat // zg i u es},fun q=>⟨[(0,vP l),(2,tI .i64 (e:Int)),(7,.r (.c (.own (7,0,0)))),(8,.r (.c (.own (8,0,0)))),(9,tI .i64 (i:Int))],[((7,0,0),some (.arr true 1 (loc.map ah))),((8,0,0),some (.arr false 1 (q.1.reverse.map cd)))],[7,8]⟩,fun q=>q.1.length,⟨st,g3⟩,?_,?_⟩
   ·skip
    repeat' ((conv=>whnf);first|refine Or.inl ?_|apply oi|(apply fi<;>intro h)|refine⟨_,rfl,?_⟩|exact rfl)
    all_goals try exact⟨KO⟩
   intro⟨u,hu⟩
   dsimp only at hu ⊢
   have hul:(u.reverse.map cd).length=u.length:=by simp
   cases u with
   | nil=>
    have hes0:es=[]:=by
     rcases hu with h|h
     ·exact h.symm
     ·cases h
    subst hes0
    by_cases hlt:i < e
    ·rw[nt hlt hy]at g4
     by_cases h0:y.faa=0
     ·rw[if_pos h0]at g4
      subst g4
      repeat' ((conv=>whnf);first|refine Or.inl ?_|apply oi|(apply fi<;>intro h)|refine ci hE (ai rfl (ai rfl trivial)) ?_|refine ci hX (ai rfl (ai rfl (ai rfl trivial))) ?_|refine⟨i,y.tr,rfl,aa hy,?_⟩|refine⟨_,rfl,?_⟩|exact rfl)
      all_goals try exact⟨KO⟩
      all_goals try exact KX
      all_goals try(exfalso;(try simp_all[ae]);(try omega);done)
     ·rw[if_neg h0]at g4
      by_cases h35:y.faa=3∨y.faa=5
      ·have hd:dep y ([]:List Nat).length=([]:List Nat).length+1:=by unfold dep;rw[if_pos h35]
       rw[hd]at g4
       obtain⟨m',hm',him,hst'⟩:=g1.push hy (opensK_iff.2 (by omega))
       rw[aG,aK hm']at hE
       by_cases hc:([]:List Nat).length+1≤4∧aN l loc y.fac=true
       ·obtain⟨c1,c2⟩:=hc
        rw[if_pos ⟨c1,c2⟩]at g4
        rw[c2]at hX
        repeat' ((conv=>whnf);first|refine Or.inl ?_|apply oi|(apply fi<;>intro h)|refine ci hE (ai rfl (ai rfl trivial)) ?_|refine ci hX (ai rfl (ai rfl (ai rfl trivial))) ?_|refine⟨i,y.tr,rfl,aa hy,?_⟩|refine⟨_,rfl,?_⟩|exact rfl)
        all_goals try exact⟨KO⟩
        all_goals try exact KX
        all_goals try(exfalso;(try simp_all[ae]);(try omega);done)
        all_goals try(exfalso;simp at h;omega)
        all_goals try exact⟨⟨by simp <;> omega,by simp <;> omega⟩⟩
        all_goals try(exfalso;simp_all;done)
        all_goals
         conv=>whnf
         refine⟨⟨(i+1,m'::([]:List Nat),m'::([]:List Nat)),by dsimp only;omega,by dsimp only;omega,by simp only[List.length_cons]at *;omega,fun h=>by dsimp only at h;omega,fun _=>⟨hst',by simp only[List.length_cons]at *;omega,.inl rfl,g4⟩⟩,?_,KD⟩
         repeat' ((conv=>whnf);first|refine Or.inl ?_|apply oi|(apply fi<;>intro h)|refine⟨_,rfl,?_⟩|exact rfl)
         all_goals try exact⟨KO⟩
         all_goals try exact⟨K2⟩
         all_goals exact⟨by simp[cd,ab]⟩
       ·rw[if_neg hc]at g4
        subst g4
        cases hkn:aN l loc y.fac with
        | true=>
         rw[hkn]at hX hc
         repeat' ((conv=>whnf);first|refine Or.inl ?_|apply oi|(apply fi<;>intro h)|refine ci hE (ai rfl (ai rfl trivial)) ?_|refine ci hX (ai rfl (ai rfl (ai rfl trivial))) ?_|refine⟨i,y.tr,rfl,aa hy,?_⟩|refine⟨_,rfl,?_⟩|exact rfl)
         all_goals try exact⟨KO⟩
         all_goals try exact KX
         all_goals try(exfalso;(try simp_all[ae]);(try omega);done)
         all_goals try exact⟨⟨by simp <;> omega,by simp <;> omega⟩⟩
         all_goals try(exfalso;apply hc;refine⟨?_,rfl⟩;simp at h;omega)
         all_goals try(exfalso;simp_all;done)
        | false=>
         rw[hkn]at hX hc
         repeat' ((conv=>whnf);first|refine Or.inl ?_|apply oi|(apply fi<;>intro h)|refine ci hE (ai rfl (ai rfl trivial)) ?_|refine ci hX (ai rfl (ai rfl (ai rfl trivial))) ?_|refine⟨i,y.tr,rfl,aa hy,?_⟩|refine⟨_,rfl,?_⟩|exact rfl)
         all_goals try exact⟨KO⟩
         all_goals try exact KX
         all_goals try(exfalso;(try simp_all[ae]);(try omega);done)
         all_goals try exact⟨⟨by simp <;> omega,by simp <;> omega⟩⟩
         all_goals try(exfalso;simp_all;done)
      ·by_cases h7:y.faa=7
       ·rcases g1.pop hy h7 with⟨_,h'⟩|⟨es',hes,hst'⟩
        ·omega
        have hd:dep y ([]:List Nat).length=es'.length:=by unfold dep;rw[if_neg h35,if_pos h7,hes];simp
        have hl4:es'.length≤4:=by rw[hes]at g2;simp at g2;omega
        rw[hd]at g4
        cases hkn:aN l loc y.fac with
        | true=>
         rw[hkn]at hX g4
         rw[if_pos ⟨hl4,rfl⟩]at g4
         repeat' ((conv=>whnf);first|refine Or.inl ?_|apply oi|(apply fi<;>intro h)|refine ci hE (ai rfl (ai rfl trivial)) ?_|refine ci hX (ai rfl (ai rfl (ai rfl trivial))) ?_|refine⟨i,y.tr,rfl,aa hy,?_⟩|refine⟨_,rfl,?_⟩|exact rfl)
         all_goals try exact⟨KO⟩
         all_goals try exact KX
         all_goals try(exfalso;(try simp_all[ae]);(try omega);done)
         all_goals try(exfalso;simp at h;omega)
         all_goals try(exfalso;simp_all;done)
         all_goals
          conv=>whnf
          refine⟨⟨(i+1,[],es'),by dsimp only;omega,by dsimp only;omega,by dsimp only;omega,fun h=>by dsimp only at h;omega,fun _=>⟨hst',hl4,.inr (by dsimp only;rw[hes];rfl),g4⟩⟩,?_,KD⟩
          repeat' ((conv=>whnf);first|refine Or.inl ?_|apply oi|(apply fi<;>intro h)|refine⟨_,rfl,?_⟩|exact rfl)
          all_goals try exact⟨KO⟩
          all_goals try exact⟨K2⟩
        | false=>
         rw[hkn]at hX g4
         rw[if_neg (by simp)]at g4
         subst g4
         repeat' ((conv=>whnf);first|refine Or.inl ?_|apply oi|(apply fi<;>intro h)|refine ci hE (ai rfl (ai rfl trivial)) ?_|refine ci hX (ai rfl (ai rfl (ai rfl trivial))) ?_|refine⟨i,y.tr,rfl,aa hy,?_⟩|refine⟨_,rfl,?_⟩|exact rfl)
         all_goals try exact⟨KO⟩
         all_goals try exact KX
         all_goals try(exfalso;(try simp_all[ae]);(try omega);done)
         all_goals try(exfalso;simp_all;done)
       ·have hd:dep y ([]:List Nat).length=([]:List Nat).length:=by unfold dep;rw[if_neg h35,if_neg h7]
        have ho:be y.faa=false:=by
         cases hh:be y.faa with
         | false=>rfl
         | true=>rw[opensK_iff]at hh;omega
        have hst':=g1.other hy ho h7
        rw[hd]at g4
        cases hkn:aN l loc y.fac with
        | true=>
         rw[hkn]at hX g4
         rw[if_pos ⟨g2,rfl⟩]at g4
         repeat' ((conv=>whnf);first|refine Or.inl ?_|apply oi|(apply fi<;>intro h)|refine ci hE (ai rfl (ai rfl trivial)) ?_|refine ci hX (ai rfl (ai rfl (ai rfl trivial))) ?_|refine⟨i,y.tr,rfl,aa hy,?_⟩|refine⟨_,rfl,?_⟩|exact rfl)
         all_goals try exact⟨KO⟩
         all_goals try exact KX
         all_goals try(exfalso;(try simp_all[ae]);(try omega);done)
         all_goals try(exfalso;simp at h;omega)
         all_goals try(exfalso;simp_all;done)
         all_goals
          conv=>whnf
          refine⟨⟨(i+1,[],[]),by dsimp only;omega,by dsimp only;omega,by dsimp only;omega,fun h=>by dsimp only at h;omega,fun _=>⟨hst',g2,.inl rfl,g4⟩⟩,?_,KD⟩
          repeat' ((conv=>whnf);first|refine Or.inl ?_|apply oi|(apply fi<;>intro h)|refine⟨_,rfl,?_⟩|exact rfl)
          all_goals try exact⟨KO⟩
          all_goals try exact⟨K2⟩
        | false=>
         rw[hkn]at hX g4
         rw[if_neg (by simp)]at g4
         subst g4
         repeat' ((conv=>whnf);first|refine Or.inl ?_|apply oi|(apply fi<;>intro h)|refine ci hE (ai rfl (ai rfl trivial)) ?_|refine ci hX (ai rfl (ai rfl (ai rfl trivial))) ?_|refine⟨i,y.tr,rfl,aa hy,?_⟩|refine⟨_,rfl,?_⟩|exact rfl)
         all_goals try exact⟨KO⟩
         all_goals try exact KX
         all_goals try(exfalso;(try simp_all[ae]);(try omega);done)
         all_goals try(exfalso;simp_all;done)
    ·have hie':i=e:=by omega
     obtain⟨z,hz,hz7⟩:=bc he
     rw[←hie',hy]at hz
     injection hz with hz
     subst hz
     rw[pG (by omega)]at g4
     have hkn:aN l loc y.fac=true:=by rw[jw (hok y (List.mem_of_getElem? hy)) hz7];rfl
     rw[hkn]at hX
     repeat' ((conv=>whnf);first|refine Or.inl ?_|apply oi|(apply fi<;>intro h)|refine ci hE (ai rfl (ai rfl trivial)) ?_|refine ci hX (ai rfl (ai rfl (ai rfl trivial))) ?_|refine⟨i,y.tr,rfl,aa hy,?_⟩|refine⟨_,rfl,?_⟩|exact rfl)
     all_goals try exact⟨KO⟩
     all_goals try exact KX
     all_goals try(exfalso;(try simp_all[ae]);(try omega);done)
     all_goals try(exfalso;simp at h;omega)
     all_goals try(exfalso;simp_all;done)
     all_goals
      conv=>whnf
      refine⟨⟨(i+1,[],[]),by dsimp only;omega,by dsimp only;omega,by dsimp only;omega,fun _=>g4.symm,fun h=>by dsimp only at h;omega⟩,?_,KD⟩
      repeat' ((conv=>whnf);first|refine Or.inl ?_|apply oi|(apply fi<;>intro h)|refine⟨_,rfl,?_⟩|exact rfl)
      all_goals try exact⟨KO⟩
      all_goals try exact⟨K2⟩
   | cons m r=>
    have hlen3:((m::r).reverse.map cd).length=r.length+1:=by simp
    have hrl:r.length≤5:=by
     rcases hu with h|h
     ·rw[←h]at g2
      simp only[List.length_cons]at g2
      omega
     ·injection h with h1 h2
      rw[h2]
      omega
    have hw:IntKind.i64.wrap ((((m::r).reverse.map cd).length:Int) - 1)=(r.length:Int):=by rw[hlen3,IntWalk.i64_in _ (by omega)];omega
    by_cases hm:m < i
    ·have hr:r=es:=by
      rcases hu with h|h
      ·subst h
       have:=g1.top
       omega
      ·injection h
     subst hr
     repeat' ((conv=>whnf);first|refine Or.inl ?_|apply oi|(apply fi<;>intro h)|refine⟨r.length,hw,(by rw[hlen3];omega),?_⟩|refine⟨(cd m),(fI m r),?_⟩|refine⟨_,rfl,?_⟩|exact rfl)
     all_goals try exact⟨KO⟩
     all_goals try exact KX
     conv=>whnf
     refine⟨⟨r,.inl rfl⟩,?_,by dsimp only;simp⟩
     repeat' ((conv=>whnf);first|refine Or.inl ?_|apply oi|(apply fi<;>intro h)|refine⟨_,rfl,?_⟩|exact rfl)
     all_goals try exact⟨KO⟩
     all_goals try exact⟨K5⟩
    ·have hr:es=m::r:=by
      rcases hu with h|h
      ·exact h.symm
      ·injection h with h1 h2
       omega
     subst hr
     have hbk:=0
     by_cases hlt:i < e
     ·rw[nt hlt hy]at g4
      by_cases h0:y.faa=0
      ·rw[if_pos h0]at g4
       subst g4
       repeat' ((conv=>whnf);first|refine Or.inl ?_|apply oi|(apply fi<;>intro h)|refine⟨r.length,hw,(by rw[hlen3];omega),?_⟩|refine⟨(cd m),(fI m r),?_⟩|refine ci hE (ai rfl (ai rfl trivial)) ?_|refine ci hX (ai rfl (ai rfl (ai rfl trivial))) ?_|refine⟨i,y.tr,rfl,aa hy,?_⟩|refine⟨_,rfl,?_⟩|exact rfl)
       all_goals try exact⟨KO⟩
       all_goals try exact KX
       all_goals try(exfalso;(try simp_all[ae]);(try omega);done)
      ·rw[if_neg h0]at g4
       by_cases h35:y.faa=3∨y.faa=5
       ·have hd:dep y (m::r).length=(m::r).length+1:=by unfold dep;rw[if_pos h35]
        rw[hd]at g4
        obtain⟨m',hm',him,hst'⟩:=g1.push hy (opensK_iff.2 (by omega))
        rw[aG,aK hm']at hE
        by_cases hc:(m::r).length+1≤4∧aN l loc y.fac=true
        ·obtain⟨c1,c2⟩:=hc
         rw[if_pos ⟨c1,c2⟩]at g4
         rw[c2]at hX
         repeat' ((conv=>whnf);first|refine Or.inl ?_|apply oi|(apply fi<;>intro h)|refine⟨r.length,hw,(by rw[hlen3];omega),?_⟩|refine⟨(cd m),(fI m r),?_⟩|refine ci hE (ai rfl (ai rfl trivial)) ?_|refine ci hX (ai rfl (ai rfl (ai rfl trivial))) ?_|refine⟨i,y.tr,rfl,aa hy,?_⟩|refine⟨_,rfl,?_⟩|exact rfl)
         all_goals try exact⟨KO⟩
         all_goals try exact KX
         all_goals try(exfalso;(try simp_all[ae]);(try omega);done)
         all_goals try(exfalso;simp at h;omega)
         all_goals try exact⟨⟨by simp <;> omega,by simp <;> omega⟩⟩
         all_goals try(exfalso;simp_all;done)
         all_goals
          conv=>whnf
          refine⟨⟨(i+1,m'::(m::r),m'::(m::r)),by dsimp only;omega,by dsimp only;omega,by simp only[List.length_cons]at *;omega,fun h=>by dsimp only at h;omega,fun _=>⟨hst',by simp only[List.length_cons]at *;omega,.inl rfl,g4⟩⟩,?_,KD⟩
          repeat' ((conv=>whnf);first|refine Or.inl ?_|apply oi|(apply fi<;>intro h)|refine⟨_,rfl,?_⟩|exact rfl)
          all_goals try exact⟨KO⟩
          all_goals try exact⟨K2⟩
          all_goals exact⟨by simp[cd,ab]⟩
        ·rw[if_neg hc]at g4
         subst g4
         cases hkn:aN l loc y.fac with
         | true=>
          rw[hkn]at hX hc
          repeat' ((conv=>whnf);first|refine Or.inl ?_|apply oi|(apply fi<;>intro h)|refine⟨r.length,hw,(by rw[hlen3];omega),?_⟩|refine⟨(cd m),(fI m r),?_⟩|refine ci hE (ai rfl (ai rfl trivial)) ?_|refine ci hX (ai rfl (ai rfl (ai rfl trivial))) ?_|refine⟨i,y.tr,rfl,aa hy,?_⟩|refine⟨_,rfl,?_⟩|exact rfl)
          all_goals try exact⟨KO⟩
          all_goals try exact KX
          all_goals try(exfalso;(try simp_all[ae]);(try omega);done)
          all_goals try exact⟨⟨by simp <;> omega,by simp <;> omega⟩⟩
          all_goals try(exfalso;apply hc;refine⟨?_,rfl⟩;simp at h;omega)
          all_goals try(exfalso;simp_all;done)
         | false=>
          rw[hkn]at hX hc
          repeat' ((conv=>whnf);first|refine Or.inl ?_|apply oi|(apply fi<;>intro h)|refine⟨r.length,hw,(by rw[hlen3];omega),?_⟩|refine⟨(cd m),(fI m r),?_⟩|refine ci hE (ai rfl (ai rfl trivial)) ?_|refine ci hX (ai rfl (ai rfl (ai rfl trivial))) ?_|refine⟨i,y.tr,rfl,aa hy,?_⟩|refine⟨_,rfl,?_⟩|exact rfl)
          all_goals try exact⟨KO⟩
          all_goals try exact KX
          all_goals try(exfalso;(try simp_all[ae]);(try omega);done)
          all_goals try exact⟨⟨by simp <;> omega,by simp <;> omega⟩⟩
          all_goals try(exfalso;simp_all;done)
       ·by_cases h7:y.faa=7
        ·rcases g1.pop hy h7 with⟨_,h'⟩|⟨es',hes,hst'⟩
         ·omega
         have hd:dep y (m::r).length=es'.length:=by unfold dep;rw[if_neg h35,if_pos h7,hes];simp
         have hl4:es'.length≤4:=by rw[hes]at g2;simp at g2;omega
         rw[hd]at g4
         cases hkn:aN l loc y.fac with
         | true=>
          rw[hkn]at hX g4
          rw[if_pos ⟨hl4,rfl⟩]at g4
          repeat' ((conv=>whnf);first|refine Or.inl ?_|apply oi|(apply fi<;>intro h)|refine⟨r.length,hw,(by rw[hlen3];omega),?_⟩|refine⟨(cd m),(fI m r),?_⟩|refine ci hE (ai rfl (ai rfl trivial)) ?_|refine ci hX (ai rfl (ai rfl (ai rfl trivial))) ?_|refine⟨i,y.tr,rfl,aa hy,?_⟩|refine⟨_,rfl,?_⟩|exact rfl)
          all_goals try exact⟨KO⟩
          all_goals try exact KX
          all_goals try(exfalso;(try simp_all[ae]);(try omega);done)
          all_goals try(exfalso;simp at h;omega)
          all_goals try(exfalso;simp_all;done)
          all_goals
           conv=>whnf
           refine⟨⟨(i+1,(m::r),es'),by dsimp only;omega,by dsimp only;omega,by dsimp only;omega,fun h=>by dsimp only at h;omega,fun _=>⟨hst',hl4,.inr (by dsimp only;rw[hes];rfl),g4⟩⟩,?_,KD⟩
           repeat' ((conv=>whnf);first|refine Or.inl ?_|apply oi|(apply fi<;>intro h)|refine⟨_,rfl,?_⟩|exact rfl)
           all_goals try exact⟨KO⟩
           all_goals try exact⟨K2⟩
         | false=>
          rw[hkn]at hX g4
          rw[if_neg (by simp)]at g4
          subst g4
          repeat' ((conv=>whnf);first|refine Or.inl ?_|apply oi|(apply fi<;>intro h)|refine⟨r.length,hw,(by rw[hlen3];omega),?_⟩|refine⟨(cd m),(fI m r),?_⟩|refine ci hE (ai rfl (ai rfl trivial)) ?_|refine ci hX (ai rfl (ai rfl (ai rfl trivial))) ?_|refine⟨i,y.tr,rfl,aa hy,?_⟩|refine⟨_,rfl,?_⟩|exact rfl)
          all_goals try exact⟨KO⟩
          all_goals try exact KX
          all_goals try(exfalso;(try simp_all[ae]);(try omega);done)
          all_goals try(exfalso;simp_all;done)
        ·have hd:dep y (m::r).length=(m::r).length:=by unfold dep;rw[if_neg h35,if_neg h7]
         have ho:be y.faa=false:=by
          cases hh:be y.faa with
          | false=>rfl
          | true=>rw[opensK_iff]at hh;omega
         have hst':=g1.other hy ho h7
         rw[hd]at g4
         cases hkn:aN l loc y.fac with
         | true=>
          rw[hkn]at hX g4
          rw[if_pos ⟨g2,rfl⟩]at g4
          repeat' ((conv=>whnf);first|refine Or.inl ?_|apply oi|(apply fi<;>intro h)|refine⟨r.length,hw,(by rw[hlen3];omega),?_⟩|refine⟨(cd m),(fI m r),?_⟩|refine ci hE (ai rfl (ai rfl trivial)) ?_|refine ci hX (ai rfl (ai rfl (ai rfl trivial))) ?_|refine⟨i,y.tr,rfl,aa hy,?_⟩|refine⟨_,rfl,?_⟩|exact rfl)
          all_goals try exact⟨KO⟩
          all_goals try exact KX
          all_goals try(exfalso;(try simp_all[ae]);(try omega);done)
          all_goals try(exfalso;simp at h;omega)
          all_goals try(exfalso;simp_all;done)
          all_goals
           conv=>whnf
           refine⟨⟨(i+1,(m::r),(m::r)),by dsimp only;omega,by dsimp only;omega,by dsimp only;omega,fun h=>by dsimp only at h;omega,fun _=>⟨hst',g2,.inl rfl,g4⟩⟩,?_,KD⟩
           repeat' ((conv=>whnf);first|refine Or.inl ?_|apply oi|(apply fi<;>intro h)|refine⟨_,rfl,?_⟩|exact rfl)
           all_goals try exact⟨KO⟩
           all_goals try exact⟨K2⟩
         | false=>
          rw[hkn]at hX g4
          rw[if_neg (by simp)]at g4
          subst g4
          repeat' ((conv=>whnf);first|refine Or.inl ?_|apply oi|(apply fi<;>intro h)|refine⟨r.length,hw,(by rw[hlen3];omega),?_⟩|refine⟨(cd m),(fI m r),?_⟩|refine ci hE (ai rfl (ai rfl trivial)) ?_|refine ci hX (ai rfl (ai rfl (ai rfl trivial))) ?_|refine⟨i,y.tr,rfl,aa hy,?_⟩|refine⟨_,rfl,?_⟩|exact rfl)
          all_goals try exact⟨KO⟩
          all_goals try exact KX
          all_goals try(exfalso;(try simp_all[ae]);(try omega);done)
          all_goals try(exfalso;simp_all;done)
     ·have hie':i=e:=by omega
      obtain⟨z,hz,hz7⟩:=bc he
      rw[←hie',hy]at hz
      injection hz with hz
      subst hz
      rw[pG (by omega)]at g4
      have hkn:aN l loc y.fac=true:=by rw[jw (hok y (List.mem_of_getElem? hy)) hz7];rfl
      rw[hkn]at hX
      repeat' ((conv=>whnf);first|refine Or.inl ?_|apply oi|(apply fi<;>intro h)|refine⟨r.length,hw,(by rw[hlen3];omega),?_⟩|refine⟨(cd m),(fI m r),?_⟩|refine ci hE (ai rfl (ai rfl trivial)) ?_|refine ci hX (ai rfl (ai rfl (ai rfl trivial))) ?_|refine⟨i,y.tr,rfl,aa hy,?_⟩|refine⟨_,rfl,?_⟩|exact rfl)
      all_goals try exact⟨KO⟩
      all_goals try exact KX
      all_goals try(exfalso;(try simp_all[ae]);(try omega);done)
      all_goals try(exfalso;simp at h;omega)
      all_goals try(exfalso;simp_all;done)
      all_goals
       conv=>whnf
       refine⟨⟨(i+1,(m::r),(m::r)),by dsimp only;omega,by dsimp only;omega,by dsimp only;omega,fun _=>g4.symm,fun h=>by dsimp only at h;omega⟩,?_,KD⟩
       repeat' ((conv=>whnf);first|refine Or.inl ?_|apply oi|(apply fi<;>intro h)|refine⟨_,rfl,?_⟩|exact rfl)
       all_goals try exact⟨KO⟩
       all_goals try exact⟨K2⟩
  ·rw[q4 (by omega)]
   repeat' ((conv=>whnf);first|refine Or.inl ?_|apply oi|(apply fi<;>intro h)|refine⟨_,rfl,?_⟩|exact rfl)
   all_goals try exact⟨KO⟩
   all_goals try exact KX
 ·rw[decide_eq_false h8,Bool.false_and]
  repeat' ((conv=>whnf);first|refine Or.inl ?_|apply oi|(apply fi<;>intro h)|refine ci hL (ai rfl (ai rfl trivial)) ?_|refine⟨_,rfl,?_⟩|exact rfl)
  all_goals try exact⟨KO⟩
  all_goals try exact KX
abbrev nR (n:Nat):List Tr:=ab n
theorem sP {l:List Ai}{k:Nat}{fs:List Nat}{next:Nat}:dH l (k::fs) next=match endAt l k with|some e=>if k=next∧aJ l k=true∧eS l k e=true then dH l fs (e+1)else false|none=>false:=by rw[dH] <;> (cases endAt l k <;> rfl)
theorem lF {l:List Ai}{x:Ai}(hx:l[0]?=some x):gD l=(x.faa==0 && (x.fab==cB && x.fad.length==0)):=by
 cases l with
 | nil=>cases hx
 | cons y r=>rw[List.getElem?_cons_zero]at hx;injection hx with hx;subst hx;rfl
theorem qT {l:List Ai}{k e i:Nat}{x:Ai}(hi:i < e)(hx:l[i]?=some x):bN l k e (e - i) i=((if x.faa=4 then jo l i (i - k) k else true) && bN l k e (e - (i+1)) (i+1)):=by
 rw[show e - i=(e - (i+1))+1 by omega,bN,if_pos hi,hx]
theorem vG {l:List Ai}{i:Nat}(hi:i < l.length):((List.range l.length).map fun j:Nat=>aH l (j:Int)).contains (i:Int)=jo l i i 0:=by
 rw[Bool.eq_iff_iff,ik,List.contains_iff_mem,List.mem_map]
 constructor
 ·rintro⟨j,hj,he⟩
  rw[aH,if_pos (by omega),Int.toNat_natCast]at he
  cases hx:elseAt l j with
  | none=>rw[hx]at he;simp only[bM]at he;omega
  | some m=>
   rw[hx]at he
   simp only[bM]at he
   have:m=i:=by omega
   subst this
   obtain⟨_,_,_,_,_,h1,_⟩:=aL hx
   exact⟨j,by omega,by omega,hx⟩
 ·rintro⟨j,_,hj,he⟩
  refine⟨j,by rw[List.mem_range];omega,?_⟩
  rw[aH,if_pos (by omega),Int.toNat_natCast,he]
  rfl
theorem gi (l:List Ai)(hsm:bd 1048576 (.lst 4 (l.map Ai.tr))):Sim.Spec Try.prog 30 [tvP l] (rB (aB l)):=by
 refine ap hΓ au Try.func30 rfl (by decide) rfl ?_
 have hl:=pV hsm
 have hs:∀x∈l,bI 1048576 x.tr:=fun x hx=>cz hsm hx
 have hlen:(l.map Ai.tr).length=l.length:=by simp
 have hF:=iP l hl
 have hfl:((bx l).map fun n:Nat=>ab n).length=(bx l).length:=by simp
 have hfle:(bx l).length≤l.length:=pK l 0
 have hB:=aV (((bx l).map fun n:Nat=>ab n).length:Int) 1 6
 by_cases c1:l.length≤60∧(1≤(bx l).length∧(bx l).length≤6)
 ·obtain⟨c1,c2,c3⟩:=c1
  rw[within_iff.2 ⟨by rw[hfl];omega,by rw[hfl];omega⟩]at hB
  unfold aB
  rw[decide_eq_true c1,decide_eq_true (show 1≤(bx l).length∧(bx l).length≤6 from⟨c2,c3⟩),Bool.true_and,Bool.true_and]
  cases hall:l.all bm with
  | false=>
   rw[Bool.false_and]
   repeat' ((conv=>whnf);first|refine Or.inl ?_|apply oi|(apply fi<;>intro h)|refine ci hF (ai rfl trivial) ?_|refine ci hB (ai rfl (ai rfl (ai rfl trivial))) ?_|refine⟨_,rfl,?_⟩|exact rfl)
   all_goals try exact⟨KO⟩
   all_goals try exact KX
   all_goals try(exfalso;(try simp_all[ae]);(try omega);done)
   conv=>whnf
   refine⟨{k:Nat // k≤l.length∧(l.drop k).all bm=false},fun q=>⟨[(0,vP l),(3,.r (.c (.own (3,0,0)))),(25,vP l),(26,tI .i64 ((l.map Ai.tr).length:Int)),(27,tI .i64 (q.1:Int))],[((3,0,0),some (.arr true 1 ((bx l).map fun n:Nat=>ab n)))],[3]⟩,fun q=>l.length - q.1,⟨0,by omega,hall⟩,?_,?_⟩
   ·skip
    repeat' ((conv=>whnf);first|refine Or.inl ?_|apply oi|(apply fi<;>intro h)|refine⟨_,rfl,?_⟩|exact rfl)
    all_goals try exact⟨KO⟩
   intro⟨k,hk,hr⟩
   dsimp only at hk hr ⊢
   by_cases hlt:k < l.length
   ·obtain⟨x,hx⟩:=af hlt
    rw[tK hx]at hr
    have hL:=jt x (hs x (List.mem_of_getElem? hx))
    cases ho:bm x with
    | false=>
     rw[ho]at hL
     repeat' ((conv=>whnf);first|refine Or.inl ?_|apply oi|(apply fi<;>intro h)|refine⟨k,x.tr,rfl,aa hx,?_⟩|refine ci hL (ai (ai rfl (ai rfl (ai rfl (ai rfl trivial)))) trivial) ?_|refine⟨_,rfl,?_⟩|exact rfl)
     all_goals try exact⟨KO⟩
     all_goals try exact KX
     all_goals try(exfalso;(try simp_all[ae]);(try omega);done)
    | true=>
     rw[ho]at hL hr
     rw[Bool.true_and]at hr
     repeat' ((conv=>whnf);first|refine Or.inl ?_|apply oi|(apply fi<;>intro h)|refine⟨k,x.tr,rfl,aa hx,?_⟩|refine ci hL (ai (ai rfl (ai rfl (ai rfl (ai rfl trivial)))) trivial) ?_|refine⟨_,rfl,?_⟩|exact rfl)
     all_goals try exact⟨KO⟩
     all_goals try exact KX
     all_goals try(exfalso;(try simp_all[ae]);(try omega);done)
     conv=>whnf
     refine⟨⟨k+1,by omega,hr⟩,?_,KD⟩
     repeat' ((conv=>whnf);first|refine Or.inl ?_|apply oi|(apply fi<;>intro h)|refine⟨_,rfl,?_⟩|exact rfl)
     all_goals try exact⟨KO⟩
     all_goals try exact⟨K2⟩
   ·rw[List.drop_eq_nil_of_le (by omega)]at hr
    cases hr
  | true=>
   have hok:∀x∈l,bm x=true:=List.all_eq_true.1 hall
   rw[Bool.true_and]
   repeat' ((conv=>whnf);first|refine Or.inl ?_|apply oi|(apply fi<;>intro h)|refine ci hF (ai rfl trivial) ?_|refine ci hB (ai rfl (ai rfl (ai rfl trivial))) ?_|refine⟨_,rfl,?_⟩|exact rfl)
   all_goals try exact⟨KO⟩
   all_goals try exact KX
   all_goals try(exfalso;(try simp_all[ae]);(try omega);done)
   conv=>whnf
   refine⟨{k:Nat // k≤l.length},fun q=>⟨[(0,vP l),(3,.r (.c (.own (3,0,0)))),(25,vP l),(26,tI .i64 ((l.map Ai.tr).length:Int)),(27,tI .i64 (q.1:Int))],[((3,0,0),some (.arr true 1 ((bx l).map fun n:Nat=>ab n)))],[3]⟩,fun q=>l.length - q.1,⟨0,by omega⟩,?_,?_⟩
   ·skip
    repeat' ((conv=>whnf);first|refine Or.inl ?_|apply oi|(apply fi<;>intro h)|refine⟨_,rfl,?_⟩|exact rfl)
    all_goals try exact⟨KO⟩
   intro⟨k,hk⟩
   dsimp only at hk ⊢
   by_cases hlt:k < l.length
   ·obtain⟨x,hx⟩:=af hlt
    have hL:=jt x (hs x (List.mem_of_getElem? hx))
    rw[hok x (List.mem_of_getElem? hx)]at hL
    repeat' ((conv=>whnf);first|refine Or.inl ?_|apply oi|(apply fi<;>intro h)|refine⟨k,x.tr,rfl,aa hx,?_⟩|refine ci hL (ai (ai rfl (ai rfl (ai rfl (ai rfl trivial)))) trivial) ?_|refine⟨_,rfl,?_⟩|exact rfl)
    all_goals try exact⟨KO⟩
    all_goals try exact KX
    all_goals try(exfalso;(try simp_all[ae]);(try omega);done)
    conv=>whnf
    refine⟨⟨k+1,by omega⟩,?_,KD⟩
    repeat' ((conv=>whnf);first|refine Or.inl ?_|apply oi|(apply fi<;>intro h)|refine⟨_,rfl,?_⟩|exact rfl)
    all_goals try exact⟨KO⟩
    all_goals try exact⟨K2⟩
   ·clear hB hF
    have hpos:0 < l.length:=by omega
    obtain⟨x0,hx0⟩:=af hpos
    have hal:(x0.fad.map ah).length=x0.fad.length:=by simp
    cases hho:gD l with
    | false=>
     rw[Bool.false_and]
     rw[lF hx0]at hho
     repeat' ((conv=>whnf);first|refine Or.inl ?_|apply oi|(apply fi<;>intro h)|refine⟨0,x0.tr,rfl,aa hx0,?_⟩|refine⟨_,rfl,?_⟩|exact rfl)
     all_goals try exact⟨KO⟩
     all_goals try exact KX
     all_goals try(exfalso;(try simp_all[ae]);(try omega);done)
     all_goals try(exfalso;simp_all[cB];done)
    | true=>
     rw[Bool.true_and]
     obtain⟨R,hR⟩:∃R,dH l (bx l) 0=R:=⟨_,rfl⟩
     rw[←tZ,hR]
     rw[lF hx0]at hho
     repeat' ((conv=>whnf);first|refine Or.inl ?_|apply oi|(apply fi<;>intro h)|refine⟨0,x0.tr,rfl,aa hx0,?_⟩|refine⟨_,rfl,?_⟩|exact rfl)
     all_goals try exact⟨KO⟩
     all_goals try exact KX
     all_goals try(exfalso;(try simp_all[ae]);(try omega);done)
     all_goals try(exfalso;simp_all[cB];done)
     conv=>whnf
     refine⟨{q:Nat×Nat // q.1≤(bx l).length∧q.2≤l.length∧dH l ((bx l).drop q.1) q.2=R},fun q=>⟨[(0,vP l),(6,tI .i64 (q.1.2:Int)),(55,.r (.c (.own (3,0,0)))),(56,tI .i64 (((bx l).map fun n:Nat=>ab n).length:Int)),(57,tI .i64 (q.1.1:Int))],[((3,0,0),some (.arr true 1 ((bx l).map fun n:Nat=>ab n)))],[3]⟩,fun q=>(bx l).length - q.1.1,⟨(0,0),by dsimp only;omega,by dsimp only;omega,hR⟩,?_,?_⟩
     ·skip
      repeat' ((conv=>whnf);first|refine Or.inl ?_|apply oi|(apply fi<;>intro h)|refine⟨_,rfl,?_⟩|exact rfl)
      all_goals try exact⟨KO⟩
     intro⟨⟨j,next⟩,hj,hnx,hr⟩
     dsimp only at hj hnx hr ⊢
     by_cases hjl:j < (bx l).length
     ·obtain⟨f,hf⟩:=af hjl
      obtain⟨hfl2,x,hx,hx0'⟩:=vb (List.mem_of_getElem? hf)
      rw[eA hf,sP]at hr
      have hE:=bF l (f:Int) hl
      have hN:=cL l x.fab hl
      have hjm:j < ((bx l).map fun n:Nat=>ab n).length:=by rw[hfl];exact hjl
      cases he:endAt l f with
      | none=>
       rw[aG,eC he]at hE
       rw[he]at hr
       subst hr
       generalize cA l x.fab=ff at *
       repeat' ((conv=>whnf);first|refine gr ?_|apply bB|apply oi|(apply fi<;>intro h)|refine⟨j,rfl,hjm,?_⟩|refine⟨(nR f),(aa hf),?_⟩|refine⟨f,x.tr,rfl,aa hx,?_⟩|refine cl hE ?_|refine cl hN ?_|refine⟨_,rfl,?_⟩|exact rfl)
       all_goals try exact⟨KO⟩
       all_goals try exact KX
       all_goals try(exfalso;(try simp_all[ae]);(try omega);done)
      | some e=>
       obtain⟨_,_,_,_,hke,hel⟩:=aw he
       rw[aG,aK he]at hE
       rw[he]at hr
       dsimp only at hr
       have hK:=lg l f e c1 hs hok he
       have hnf:aJ l f=(findN l 0 x.fab==some f):=by unfold aJ;rw[hx]
       have hnf2:(cA l x.fab==(f:Int))=aJ l f:=by
        rw[hnf,cA]
        cases findN l 0 x.fab with
        | none=>simp[bM]
        | some m=>rw[Bool.eq_iff_iff];simp[bM];omega
       generalize cA l x.fab=ff at *
       by_cases hc:f=next∧aJ l f=true∧eS l f e=true
       ·rw[if_pos hc]at hr
        obtain⟨d1,d2,d3⟩:=hc
        rw[d2]at hnf2
        have hff:=eq_of_beq hnf2
        subst hff
        rw[d3]at hK
        repeat' ((conv=>whnf);first|refine gr ?_|apply bB|apply oi|(apply fi<;>intro h)|refine⟨j,rfl,hjm,?_⟩|refine⟨(nR f),(aa hf),?_⟩|refine⟨f,x.tr,rfl,aa hx,?_⟩|refine cl hE ?_|refine cl hN ?_|refine cl hK ?_|refine⟨_,rfl,?_⟩|exact rfl)
        all_goals try exact⟨KO⟩
        all_goals try exact KX
        all_goals try(exfalso;(try simp_all[ae]);(try omega);done)
        all_goals try(exfalso;simp_all;done)
        conv=>whnf
        refine⟨⟨(j+1,e+1),by dsimp only;omega,by dsimp only;omega,hr⟩,?_,KD⟩
        repeat' ((conv=>whnf);first|refine gr ?_|apply bB|apply oi|(apply fi<;>intro h)|refine⟨_,rfl,?_⟩|exact rfl)
        all_goals try exact⟨KO⟩
        all_goals try exact⟨K2⟩
       ·rw[if_neg hc]at hr
        subst hr
        have hbad:∀b1 b2:Bool,eS l f e=b2→(ff==(f:Int))=b1→f=next→b1=true→b2=true→False:=by
         intro b1 b2 h1 h2 h3 h4 h5
         subst h4;subst h5
         exact hc ⟨h3,by rw[←hnf2];exact h2,h1⟩
        cases hfk:eS l f e with
        | true=>
         rw[hfk]at hK
         repeat' ((conv=>whnf);first|refine gr ?_|apply bB|apply oi|(apply fi<;>intro h)|refine⟨j,rfl,hjm,?_⟩|refine⟨(nR f),(aa hf),?_⟩|refine⟨f,x.tr,rfl,aa hx,?_⟩|refine cl hE ?_|refine cl hN ?_|refine cl hK ?_|refine⟨_,rfl,?_⟩|exact rfl)
         all_goals try exact⟨KO⟩
         all_goals try exact KX
         all_goals try(exfalso;(try simp_all[ae]);(try omega);done)
         all_goals(exfalso;refine hbad true true hfk ?_ ?_ rfl rfl <;> simp_all <;> omega)
        | false=>
         rw[hfk]at hK
         repeat' ((conv=>whnf);first|refine gr ?_|apply bB|apply oi|(apply fi<;>intro h)|refine⟨j,rfl,hjm,?_⟩|refine⟨(nR f),(aa hf),?_⟩|refine⟨f,x.tr,rfl,aa hx,?_⟩|refine cl hE ?_|refine cl hN ?_|refine cl hK ?_|refine⟨_,rfl,?_⟩|exact rfl)
         all_goals try exact⟨KO⟩
         all_goals try exact KX
         all_goals try(exfalso;(try simp_all[ae]);(try omega);done)
     ·rw[List.drop_eq_nil_of_le (by omega),dH]at hr
      repeat' ((conv=>whnf);first|refine Or.inl ?_|apply oi|(apply fi<;>intro h)|refine⟨_,rfl,?_⟩|exact rfl)
      all_goals try exact⟨KO⟩
      all_goals try exact KX
      conv=>whnf
      refine⟨{k:Nat // k≤l.length},fun q=>⟨[(0,vP l),(6,tI .i64 (next:Int)),(10,.r (.c (.own (10,0,0)))),(94,tI .i64 ((l.map Ai.tr).length:Int)),(95,tI .i64 (q.1:Int))],[((10,0,0),some (.arr true 1 (((List.range q.1).map fun j:Nat=>aH l (j:Int)).map ab)))],[10]⟩,fun q=>l.length - q.1,⟨0,by omega⟩,?_,?_⟩
      ·skip
       repeat' ((conv=>whnf);first|refine Or.inl ?_|apply oi|(apply fi<;>intro h)|refine⟨_,rfl,?_⟩|exact rfl)
       all_goals try exact⟨KO⟩
      intro⟨k,hk⟩
      dsimp only at hk ⊢
      have hral:(((List.range k).map fun j:Nat=>aH l (j:Int)).map ab).length=k:=by simp
      by_cases hlt:k < l.length
      ·have hS:=fG l (k:Int) hl
       repeat' ((conv=>whnf);first|refine gr ?_|apply bB|apply oi|(apply fi<;>intro h)|refine cl hS ?_|refine⟨_,rfl,?_⟩|exact rfl)
       all_goals try exact⟨KO⟩
       all_goals try exact KX
       all_goals try exact⟨⟨by simp <;> omega,by simp <;> omega⟩⟩
       conv=>whnf
       refine⟨⟨k+1,by omega⟩,?_,KD⟩
       repeat' ((conv=>whnf);first|refine gr ?_|apply bB|apply oi|(apply fi<;>intro h)|refine⟨_,rfl,?_⟩|exact rfl)
       all_goals try exact⟨KO⟩
       all_goals try exact⟨K2⟩
       all_goals exact⟨by simp[List.range_succ,ab]⟩
      ·have hkl:k=l.length:=by omega
       subst hkl
       obtain⟨Q,hQ⟩:∃Q,fB l=Q:=⟨_,rfl⟩
       rw[hQ]at hr
       rw[fB]at hQ
       repeat' ((conv=>whnf);first|refine Or.inl ?_|apply oi|(apply fi<;>intro h)|refine⟨_,rfl,?_⟩|exact rfl)
       all_goals try exact⟨KO⟩
       all_goals try exact KX
       conv=>whnf
       refine⟨{k:Nat // k≤l.length∧bN l 0 l.length (l.length - k) k=Q},fun q=>⟨[(0,vP l),(6,tI .i64 (next:Int)),(10,.r (.c (.own (10,0,0)))),(105,vP l),(106,tI .i64 ((l.map Ai.tr).length:Int)),(107,tI .i64 (q.1:Int))],[((10,0,0),some (.arr true 1 (((List.range l.length).map fun j:Nat=>aH l (j:Int)).map ab)))],[10]⟩,fun q=>l.length - q.1,⟨0,by omega,by rw[Nat.sub_zero];exact hQ⟩,?_,?_⟩
       ·skip
        repeat' ((conv=>whnf);first|refine Or.inl ?_|apply oi|(apply fi<;>intro h)|refine⟨_,rfl,?_⟩|exact rfl)
        all_goals try exact⟨KO⟩
       intro⟨k,hk,hq⟩
       dsimp only at hk hq ⊢
       by_cases hlt:k < l.length
       ·obtain⟨x,hx⟩:=af hlt
        rw[qT hlt hx]at hq
        have hC:=jV ((List.range l.length).map fun j:Nat=>aH l (j:Int)) (k:Int) (by simp;omega)
        rw[vG hlt]at hC
        by_cases h4:x.faa=4
        ·rw[if_pos h4,Nat.sub_zero]at hq
         cases ha:jo l k k 0 with
         | false=>
          rw[ha]at hC hq
          rw[Bool.false_and]at hq
          subst hq
          rw[Bool.false_and]at hr
          subst hr
          repeat' ((conv=>whnf);first|refine Or.inl ?_|apply oi|(apply fi<;>intro h)|refine⟨k,x.tr,rfl,aa hx,?_⟩|refine ci hC (ai rfl (ai rfl trivial)) ?_|refine⟨_,rfl,?_⟩|exact rfl)
          all_goals try exact⟨KO⟩
          all_goals try exact KX
          all_goals try(exfalso;(try simp_all[ae]);(try omega);done)
         | true=>
          rw[ha]at hC hq
          rw[Bool.true_and]at hq
          repeat' ((conv=>whnf);first|refine Or.inl ?_|apply oi|(apply fi<;>intro h)|refine⟨k,x.tr,rfl,aa hx,?_⟩|refine ci hC (ai rfl (ai rfl trivial)) ?_|refine⟨_,rfl,?_⟩|exact rfl)
          all_goals try exact⟨KO⟩
          all_goals try exact KX
          all_goals try(exfalso;(try simp_all[ae]);(try omega);done)
          conv=>whnf
          refine⟨⟨k+1,by omega,hq⟩,?_,KD⟩
          repeat' ((conv=>whnf);first|refine Or.inl ?_|apply oi|(apply fi<;>intro h)|refine⟨_,rfl,?_⟩|exact rfl)
          all_goals try exact⟨KO⟩
          all_goals try exact⟨K2⟩
        ·rw[if_neg h4,Bool.true_and]at hq
         repeat' ((conv=>whnf);first|refine Or.inl ?_|apply oi|(apply fi<;>intro h)|refine⟨k,x.tr,rfl,aa hx,?_⟩|refine ci hC (ai rfl (ai rfl trivial)) ?_|refine⟨_,rfl,?_⟩|exact rfl)
         all_goals try exact⟨KO⟩
         all_goals try exact KX
         all_goals try(exfalso;(try simp_all[ae]);(try omega);done)
         conv=>whnf
         refine⟨⟨k+1,by omega,hq⟩,?_,KD⟩
         repeat' ((conv=>whnf);first|refine Or.inl ?_|apply oi|(apply fi<;>intro h)|refine⟨_,rfl,?_⟩|exact rfl)
         all_goals try exact⟨KO⟩
         all_goals try exact⟨K2⟩
       ·rw[show l.length - k=0 by omega]at hq
        have hq:true=Q:=hq
        subst hq
        rw[Bool.true_and]at hr
        subst hr
        repeat' ((conv=>whnf);first|refine Or.inl ?_|apply oi|(apply fi<;>intro h)|refine⟨_,rfl,?_⟩|exact rfl)
        all_goals try exact⟨KO⟩
        all_goals try exact KX
        all_goals(refine⟨congrArg Tr.bool ?_⟩;rw[hlen,Bool.eq_iff_iff];simp;omega)
 ·have:aB l=false:=by
   unfold aB
   by_cases h60:l.length≤60
   ·rw[decide_eq_false (show ¬(1≤(bx l).length∧(bx l).length≤6) from fun h=>c1 ⟨h60,h⟩)];simp
   ·rw[decide_eq_false h60,Bool.false_and]
  rw[this]
  by_cases h60:l.length≤60
  ·have hw:ae (((bx l).map fun n:Nat=>ab n).length:Int) 1 6=false:=by
    cases hx:ae (((bx l).map fun n:Nat=>ab n).length:Int) 1 6 with
    | false=>rfl
    | true=>have:=within_iff.1 hx;rw[hfl]at this;exact absurd ⟨h60,by omega,by omega⟩ c1
   rw[hw]at hB
   repeat' ((conv=>whnf);first|refine Or.inl ?_|apply oi|(apply fi<;>intro h)|refine ci hF (ai rfl trivial) ?_|refine ci hB (ai rfl (ai rfl (ai rfl trivial))) ?_|refine⟨_,rfl,?_⟩|exact rfl)
   all_goals try exact⟨KO⟩
   all_goals try exact KX
   all_goals try(exfalso;(try simp_all[ae]);(try omega);done)
  ·skip
   repeat' ((conv=>whnf);first|refine Or.inl ?_|apply oi|(apply fi<;>intro h)|refine ci hF (ai rfl trivial) ?_|refine ci hB (ai rfl (ai rfl (ai rfl trivial))) ?_|refine⟨_,rfl,?_⟩|exact rfl)
   all_goals try exact⟨KO⟩
   all_goals try exact KX
   all_goals try(exfalso;(try simp_all[ae]);(try omega);done)
theorem uk {p q:Prop}[Decidable p][Decidable q]{α:Type}{a b:α}{r:α}(hp:p):((if p∧q then a else b)=r)=((if q then a else b)=r):=by
 by_cases hq:q
 ·rw[if_pos ⟨hp,hq⟩,if_pos hq]
 ·rw[if_neg (fun h=>hq h.2),if_neg hq]
theorem xG {l:List Ai}{j i:Nat}:(aH l (j:Int)==(i:Int))=(elseAt l j==some i):=by
 rw[aH,if_pos (by omega),Int.toNat_natCast]
 cases elseAt l j with
 | none=>simp[bM]
 | some m=>rw[Bool.eq_iff_iff];simp[bM];omega
theorem oT (l:List Ai)(k e:Nat)(hl:l.length≤60)(hs:∀x∈l,bI 1048576 x.tr)(he:endAt l k=some e):Sim.Spec Try.prog 51 [tvP l,tvI k,tvI e] (rB (gS l k e)):=by
 refine eY hΓ au Try.func51 rfl (by decide) rfl ?_
 have hlen:(l.map Ai.tr).length=l.length:=by simp
 have hL:=gR l k (by omega) hs
 obtain⟨hloc1,hloc2⟩:=qc (l:=l) (k:=(k:Int)) (by omega) hs
 have hst0:=(aw he)
 obtain⟨x0,hx0,ho0,he0,hke,hel⟩:=hst0
 unfold gS
 generalize localsOf l (k:Int)=loc at *
 have hll:(loc.map ah).length=loc.length:=by simp
 by_cases h8:loc.length≤8
 ·rw[decide_eq_true h8,Bool.true_and]
  obtain⟨R,hR⟩:∃R,gQ l loc k e (e - (k+1)) (k+1) 0=R:=⟨_,rfl⟩
  rw[hR]
  repeat' ((conv=>whnf);first|apply Wx|apply W6|apply oi|(apply fi<;>intro h)|refine cl hL ?_|refine⟨_,rfl,?_⟩|exact rfl)
  all_goals try exact⟨KP⟩
  all_goals try exact KX
  conv=>whnf
  refine⟨{q:Nat×List Nat // k < q.1∧q.1≤e∧StkOk l e q.1 q.2∧q.2.length≤4∧gQ l loc k e (e - q.1) q.1 q.2.length=R},fun q=>⟨[(0,vP l),(1,tI .i64 (k:Int)),(2,tI .i64 (e:Int)),(7,.r (.c (.own (7,0,0)))),(8,tI .i64 ((q.1.2.length:Nat):Int)),(9,tI .i64 (q.1.1:Int))],[((7,0,0),some (.arr true 1 (loc.map ah)))],[7]⟩,fun q=>e - q.1.1,⟨(k+1,[]),by dsimp only;omega,by dsimp only;omega,he0,by simp,hR⟩,?_,?_⟩
  ·skip
   repeat' ((conv=>whnf);first|apply Wx|apply W6|apply oi|(apply fi<;>intro h)|refine⟨_,rfl,?_⟩|exact rfl)
   all_goals try exact⟨KP⟩
   all_goals try exact⟨K2⟩
  intro⟨⟨i,es⟩,q1,q2,g1,g2,g4⟩
  dsimp only at q1 q2 g1 g2 g4 ⊢
  by_cases hlt:i < e
  ·obtain⟨y,hy⟩:=af (l:=l) (k:=i) (by omega)
   have hel3:(y.fac.map Ar.tr).length=y.fac.length:=by simp
   have hysm:=(cb (hs y (List.mem_of_getElem? hy))).2.2.2.1
   obtain⟨K,hK⟩:∃K,aN l loc y.fac=K:=⟨_,rfl⟩
   rw[uq hlt hy,hK]at g4
   by_cases h0:y.faa=0
   ·rw[if_pos h0]at g4
    subst g4
    repeat' ((conv=>whnf);first|apply Wx|apply W6|apply oi|(apply fi<;>intro h)|refine⟨i,y.tr,rfl,aa hy,?_⟩|refine⟨_,rfl,?_⟩|exact rfl)
    all_goals try exact⟨KP⟩
    all_goals try exact KX
    all_goals try(exfalso;simp_all;done)
   ·rw[if_neg h0]at g4
    repeat' ((conv=>whnf);first|(with_reducible apply W1;fail_if_success (with_reducible show Wo _ _ _ _ (Code.seq (Code.region 8 _ _) _) _ _))|(with_reducible first|apply W2|apply W3|apply W4|apply W5|apply W6|apply W7|apply W8|apply W9)|apply bB|apply oi|(apply fi<;>intro h)|refine⟨i,y.tr,rfl,aa hy,?_⟩|refine⟨_,rfl,?_⟩|exact rfl)
    all_goals try exact⟨KP⟩
    all_goals try exact KX
    refine vz {q:Nat×List Nat // StkOk l e (i+1) q.2∧q.1=q.2.length∧q.1≤60∧(if q.1≤4∧K=true then gQ l loc k e (e - (i+1)) (i+1) q.1 else false)=R} (fun q=>⟨[(0,vP l),(1,tI .i64 (k:Int)),(2,tI .i64 (e:Int)),(7,.r (.c (.own (7,0,0)))),(8,tI .i64 ((q.1.1:Nat):Int)),(9,tI .i64 (i:Int))],[((7,0,0),some (.arr true 1 (loc.map ah)))],[7]⟩) ?_ ?_
    ·by_cases h35:y.faa=3∨y.faa=5
     ·rw[if_neg (fun h=>by omega)]at g4
      have hd:dep y es.length=es.length+1:=by unfold dep;rw[if_pos h35]
      rw[hd]at g4
      obtain⟨m',hm',him,hst'⟩:=g1.push hy (opensK_iff.2 (by omega))
      have hwd:IntKind.i64.wrap ((es.length:Int)+1)=((es.length+1:Nat):Int):=by rw[IntWalk.i64_in _ (by omega)];omega
      repeat' ((conv=>whnf);first|apply Wx|apply W6|apply oi|(apply fi<;>intro h)|refine⟨i,y.tr,rfl,aa hy,?_⟩|refine⟨_,rfl,?_⟩|exact rfl)
      all_goals try exact⟨KP⟩
      all_goals try exact KX
      all_goals try(exfalso;simp_all;done)
      all_goals
       conv=>whnf
       refine⟨⟨(es.length+1,m'::es),hst',rfl,by dsimp only;omega,g4⟩,?_⟩
       repeat' ((conv=>whnf);first|apply Wx|apply W6|apply oi|(apply fi<;>intro h)|refine⟨_,rfl,?_⟩|exact rfl)
       all_goals try exact⟨KP⟩
       all_goals try exact⟨by dsimp only;rw[hwd]⟩
     ·by_cases h7':y.faa=7
      ·rw[if_neg (fun h=>by omega)]at g4
       rcases g1.pop hy h7' with⟨_,h'⟩|⟨es',hes,hst'⟩
       ·omega
       have hd:dep y es.length=es'.length:=by unfold dep;rw[if_neg h35,if_pos h7',hes];simp
       have hl4:es.length=es'.length+1:=by rw[hes];rfl
       rw[hd]at g4
       have hwd:IntKind.i64.wrap ((es.length:Int) - 1)=(es'.length:Int):=by rw[IntWalk.i64_in _ (by omega)];omega
       repeat' ((conv=>whnf);first|apply Wx|apply W6|apply oi|(apply fi<;>intro h)|refine⟨i,y.tr,rfl,aa hy,?_⟩|refine⟨_,rfl,?_⟩|exact rfl)
       all_goals try exact⟨KP⟩
       all_goals try exact KX
       all_goals try(exfalso;simp_all;done)
       conv=>whnf
       refine⟨⟨(es'.length,es'),hst',rfl,by dsimp only;omega,g4⟩,?_⟩
       repeat' ((conv=>whnf);first|apply Wx|apply W6|apply oi|(apply fi<;>intro h)|refine⟨_,rfl,?_⟩|exact rfl)
       all_goals try exact⟨KP⟩
       all_goals try exact⟨by dsimp only;rw[hwd]⟩
      ·have hd:dep y es.length=es.length:=by unfold dep;rw[if_neg h35,if_neg h7']
       have ho:be y.faa=false:=by
        cases hh:be y.faa with
        | false=>rfl
        | true=>rw[opensK_iff]at hh;omega
       have hst':=g1.other hy ho h7'
       rw[hd]at g4
       by_cases h4:y.faa=4
       ·obtain⟨Av,hA⟩:∃Av,jo l i (i - k) k=Av:=⟨_,rfl⟩
        rw[hA]at g4
        repeat' ((conv=>whnf);first|apply Wx|apply W6|apply oi|(apply fi<;>intro h)|refine⟨i,y.tr,rfl,aa hy,?_⟩|refine⟨_,rfl,?_⟩|exact rfl)
        all_goals try exact⟨KP⟩
        all_goals try exact KX
        all_goals try(exfalso;simp_all;done)
        conv=>whnf
        refine⟨{q:Nat×Bool // q.1≤i∧(q.2 || jo l i (i - q.1) q.1)=Av},fun q=>⟨[(0,vP l),(1,tI .i64 (k:Int)),(2,tI .i64 (e:Int)),(7,.r (.c (.own (7,0,0)))),(8,tI .i64 ((es.length:Nat):Int)),(9,tI .i64 (i:Int)),(10,tB q.1.2),(11,tI .i64 (q.1.1:Int))],[((7,0,0),some (.arr true 1 (loc.map ah)))],[7]⟩,fun q=>i - q.1.1,⟨(k,false),by dsimp only;omega,by simpa using hA⟩,?_,?_⟩
        ·skip
         repeat' ((conv=>whnf);first|apply Wx|apply W6|apply oi|(apply fi<;>intro h)|refine⟨_,rfl,?_⟩|exact rfl)
         all_goals try exact⟨KP⟩
        intro⟨⟨j,b⟩,hj,hb⟩
        dsimp only at hj hb ⊢
        by_cases hji:j < i
        ·obtain⟨n,hn⟩:∃n,i - j=n+1:=⟨i - j - 1,by omega⟩
         have hn2:i - (j+1)=n:=by omega
         rw[hn,jo,←xG]at hb
         have hS:=fJ l (j:Int) (by omega)
         generalize aH l (j:Int)=ee at *
         cases b with
         | true=>
          repeat' ((conv=>whnf);first|apply Wx|apply W6|apply oi|(apply fi<;>intro h)|refine cl hS ?_|refine⟨_,rfl,?_⟩|exact rfl)
          all_goals try exact⟨KP⟩
          all_goals try exact KX
          conv=>whnf
          refine⟨⟨(j+1,true),by dsimp only;omega,by simpa using hb⟩,?_,KD⟩
          repeat' ((conv=>whnf);first|apply Wx|apply W6|apply oi|(apply fi<;>intro h)|refine⟨_,rfl,?_⟩|exact rfl)
          all_goals try exact⟨KP⟩
          all_goals try exact⟨K2⟩
         | false=>
          repeat' ((conv=>whnf);first|apply Wx|apply W6|apply oi|(apply fi<;>intro h)|refine cl hS ?_|refine⟨_,rfl,?_⟩|exact rfl)
          all_goals try exact⟨KP⟩
          all_goals try exact KX
          conv=>whnf
          refine⟨⟨(j+1,(ee==(i:Int))),by dsimp only;omega,by dsimp only;rw[hn2];simpa using hb⟩,?_,KD⟩
          repeat' ((conv=>whnf);first|apply Wx|apply W6|apply oi|(apply fi<;>intro h)|refine⟨_,rfl,?_⟩|exact rfl)
          all_goals try exact⟨KP⟩
          all_goals try exact⟨K2⟩
        ·rw[show i - j=0 by omega,jo,Bool.or_false]at hb
         subst hb
         cases b with
         | false=>
          rw[if_pos ⟨h4,rfl⟩]at g4
          subst g4
          repeat' ((conv=>whnf);first|apply Wx|apply W6|apply oi|(apply fi<;>intro h)|refine⟨_,rfl,?_⟩|exact rfl)
          all_goals try exact⟨KP⟩
          all_goals try exact KX
         | true=>
          rw[if_neg (by simp)]at g4
          repeat' ((conv=>whnf);first|apply Wx|apply W6|apply oi|(apply fi<;>intro h)|refine⟨_,rfl,?_⟩|exact rfl)
          all_goals try exact⟨KP⟩
          all_goals try exact KX
          conv=>whnf
          refine⟨⟨(es.length,es),hst',rfl,by dsimp only;omega,g4⟩,?_⟩
          repeat' ((conv=>whnf);first|apply Wx|apply W6|apply oi|(apply fi<;>intro h)|refine⟨_,rfl,?_⟩|exact rfl)
          all_goals try exact⟨KP⟩
       ·rw[if_neg (fun h=>h4 h.1)]at g4
        repeat' ((conv=>whnf);first|apply Wx|apply W6|apply oi|(apply fi<;>intro h)|refine⟨i,y.tr,rfl,aa hy,?_⟩|refine⟨_,rfl,?_⟩|exact rfl)
        all_goals try exact⟨KP⟩
        all_goals try exact KX
        all_goals try(exfalso;simp_all;done)
        conv=>whnf
        refine⟨⟨(es.length,es),hst',rfl,by dsimp only;omega,g4⟩,?_⟩
        repeat' ((conv=>whnf);first|apply Wx|apply W6|apply oi|(apply fi<;>intro h)|refine⟨_,rfl,?_⟩|exact rfl)
        all_goals try exact⟨KP⟩
    clear g4 g1
    intro⟨⟨d,es'⟩,hst',hdl,hd60,g4⟩
    dsimp only at hst' hdl hd60 g4 ⊢
    have hwd:(d:Int)=(d:Int):=rfl
    by_cases hd4:(d)≤4
    ·rw[uk hd4]at g4
     repeat' ((conv=>whnf);first|apply Wx|apply W6|apply oi|(apply fi<;>intro h)|refine⟨i,y.tr,rfl,aa hy,?_⟩|refine⟨_,rfl,?_⟩|exact rfl)
     all_goals try exact⟨KP⟩
     all_goals try exact KX
     all_goals try(exfalso;simp only[decide_eq_false_iff_not,decide_eq_true_eq]at h;omega)
     conv=>whnf
     refine⟨{j:Nat // j≤y.fac.length∧(y.fac.drop j).all (aR l loc)=K},fun q=>⟨[(0,vP l),(1,tI .i64 (k:Int)),(2,tI .i64 (e:Int)),(7,.r (.c (.own (7,0,0)))),(8,tI .i64 (d:Int)),(9,tI .i64 (i:Int)),(12,tI .i64 (q.1:Int))],[((7,0,0),some (.arr true 1 (loc.map ah)))],[7]⟩,fun q=>y.fac.length - q.1,⟨0,by omega,hK⟩,?_,?_⟩
     ·skip
      repeat' ((conv=>whnf);first|apply Wx|apply W6|apply oi|(apply fi<;>intro h)|refine⟨_,rfl,?_⟩|exact rfl)
      all_goals try exact⟨KP⟩
     intro⟨j,hj,hk2⟩
     dsimp only at hj hk2 ⊢
     by_cases hjl:j < y.fac.length
     ·obtain⟨t,ht⟩:=af hjl
      rw[tK ht]at hk2
      have hI:=cS loc t.fab (by omega)
      have hF:=bO l t.fab (by omega)
      by_cases h1:t.faa=1
      ·have e1:aR l loc t=loc.contains t.fab:=by unfold aR;rw[if_pos h1]
       rw[e1]at hk2
       have hix:=jc (l:=loc) (s:=t.fab)
       generalize dB loc t.fab=ix at *
       generalize cA l t.fab=ff at *
       cases hc:loc.contains t.fab with
       | false=>
        rw[hc]at hix hk2
        rw[Bool.false_and]at hk2
        subst hk2
        rw[if_neg (by simp)]at g4
        subst g4
        repeat' ((conv=>whnf);first|apply Wx|apply W6|apply oi|(apply fi<;>intro h)|refine⟨i,y.tr,rfl,aa hy,?_⟩|refine⟨j,t.tr,rfl,aa ht,?_⟩|refine cl hI ?_|refine cl hF ?_|refine⟨_,rfl,?_⟩|exact rfl)
        all_goals try exact⟨KP⟩
        all_goals try exact KX
        all_goals try(exfalso;(try simp_all[ae]);(try omega);done)
       | true=>
        rw[hc]at hix hk2
        rw[Bool.true_and]at hk2
        repeat' ((conv=>whnf);first|apply Wx|apply W6|apply oi|(apply fi<;>intro h)|refine⟨i,y.tr,rfl,aa hy,?_⟩|refine⟨j,t.tr,rfl,aa ht,?_⟩|refine cl hI ?_|refine cl hF ?_|refine⟨_,rfl,?_⟩|exact rfl)
        all_goals try exact⟨KP⟩
        all_goals try exact KX
        all_goals try(exfalso;(try simp_all[ae]);(try omega);done)
        all_goals try(exfalso;simp_all;done)
        conv=>whnf
        refine⟨⟨j+1,by omega,hk2⟩,?_,KD⟩
        repeat' ((conv=>whnf);first|apply Wx|apply W6|apply oi|(apply fi<;>intro h)|refine⟨_,rfl,?_⟩|exact rfl)
        all_goals try exact⟨KP⟩
        all_goals try exact⟨K2⟩
      ·by_cases h7:t.faa=7
       ·cases hf:findN l 0 t.fab with
        | none=>
         have e1:aR l loc t=false:=by unfold aR;rw[if_neg h1,if_pos h7,hf]
         rw[e1,Bool.false_and]at hk2
         subst hk2
         rw[if_neg (by simp)]at g4
         subst g4
         rw[show cA l t.fab= -1 from eC hf]at hF
         repeat' ((conv=>whnf);first|apply Wx|apply W6|apply oi|(apply fi<;>intro h)|refine⟨i,y.tr,rfl,aa hy,?_⟩|refine⟨j,t.tr,rfl,aa ht,?_⟩|refine cl hI ?_|refine cl hF ?_|refine⟨_,rfl,?_⟩|exact rfl)
         all_goals try exact⟨KP⟩
         all_goals try exact KX
         all_goals try(exfalso;(try simp_all[ae]);(try omega);done)
        | some f=>
         obtain⟨hfl,x,hx,hx0,_⟩:=dF hf
         have e1:aR l loc t=((x.fad.length:Int)==t.fae):=by unfold aR;rw[if_neg h1,if_pos h7,hf];dsimp only;rw[hx]
         rw[e1]at hk2
         rw[show cA l t.fab=(f:Int) from aK hf]at hF
         have hxl:(x.fad.map ah).length=x.fad.length:=by simp
         by_cases hn:(x.fad.length:Int)=t.fae
         ·rw[beq_iff_eq.2 hn,Bool.true_and]at hk2
          repeat' ((conv=>whnf);first|apply Wx|apply W6|apply oi|(apply fi<;>intro h)|refine⟨i,y.tr,rfl,aa hy,?_⟩|refine⟨j,t.tr,rfl,aa ht,?_⟩|refine⟨f,x.tr,rfl,aa hx,?_⟩|refine cl hI ?_|refine cl hF ?_|refine⟨_,rfl,?_⟩|exact rfl)
          all_goals try exact⟨KP⟩
          all_goals try exact KX
          all_goals try(exfalso;(try simp_all[ae]);(try omega);done)
          all_goals try(exfalso;simp_all;done)
          conv=>whnf
          refine⟨⟨j+1,by omega,hk2⟩,?_,KD⟩
          repeat' ((conv=>whnf);first|apply Wx|apply W6|apply oi|(apply fi<;>intro h)|refine⟨_,rfl,?_⟩|exact rfl)
          all_goals try exact⟨KP⟩
          all_goals try exact⟨K2⟩
         ·rw[beq_eq_false_iff_ne.2 hn,Bool.false_and]at hk2
          subst hk2
          rw[if_neg (by simp)]at g4
          subst g4
          repeat' ((conv=>whnf);first|apply Wx|apply W6|apply oi|(apply fi<;>intro h)|refine⟨i,y.tr,rfl,aa hy,?_⟩|refine⟨j,t.tr,rfl,aa ht,?_⟩|refine⟨f,x.tr,rfl,aa hx,?_⟩|refine cl hI ?_|refine cl hF ?_|refine⟨_,rfl,?_⟩|exact rfl)
          all_goals try exact⟨KP⟩
          all_goals try exact KX
          all_goals try(exfalso;(try simp_all[ae]);(try omega);done)
          all_goals try(exfalso;simp_all;done)
       ·have e1:aR l loc t=true:=by unfold aR;rw[if_neg h1,if_neg h7]
        rw[e1,Bool.true_and]at hk2
        repeat' ((conv=>whnf);first|apply Wx|apply W6|apply oi|(apply fi<;>intro h)|refine⟨i,y.tr,rfl,aa hy,?_⟩|refine⟨j,t.tr,rfl,aa ht,?_⟩|refine cl hI ?_|refine cl hF ?_|refine⟨_,rfl,?_⟩|exact rfl)
        all_goals try exact⟨KP⟩
        all_goals try exact KX
        all_goals try(exfalso;(try simp_all[ae]);(try omega);done)
        all_goals try(exfalso;simp_all;done)
        conv=>whnf
        refine⟨⟨j+1,by omega,hk2⟩,?_,KD⟩
        repeat' ((conv=>whnf);first|apply Wx|apply W6|apply oi|(apply fi<;>intro h)|refine⟨_,rfl,?_⟩|exact rfl)
        all_goals try exact⟨KP⟩
        all_goals try exact⟨K2⟩
     ·rw[List.drop_eq_nil_of_le (by omega),List.all_nil]at hk2
      subst hk2
      rw[if_pos rfl]at g4
      repeat' ((conv=>whnf);first|apply Wx|apply W6|apply oi|(apply fi<;>intro h)|refine⟨i,y.tr,rfl,aa hy,?_⟩|refine⟨_,rfl,?_⟩|exact rfl)
      all_goals try exact⟨KP⟩
      all_goals try(exfalso;have h':=of_decide_eq_true h;rw[hel3]at h';omega)
      conv=>whnf
      refine⟨⟨(i+1,es'),by dsimp only;omega,by dsimp only;omega,hst',by dsimp only;omega,by dsimp only;rw[←hdl];exact g4⟩,?_,KD⟩
      repeat' ((conv=>whnf);first|apply Wx|apply W6|apply oi|(apply fi<;>intro h)|refine⟨_,rfl,?_⟩|exact rfl)
      all_goals try exact⟨KP⟩
      all_goals try exact⟨by dsimp only;rw[hdl]⟩
      all_goals try exact⟨K2⟩
    ·rw[if_neg (fun h=>hd4 h.1)]at g4
     subst g4
     repeat' ((conv=>whnf);first|apply Wx|apply W6|apply oi|(apply fi<;>intro h)|refine⟨i,y.tr,rfl,aa hy,?_⟩|refine⟨_,rfl,?_⟩|exact rfl)
     all_goals try exact⟨KP⟩
     all_goals try exact KX
     all_goals try(exfalso;simp only[decide_eq_false_iff_not,decide_eq_true_eq]at h;omega)
  ·rw[vq (by omega)]at g4
   subst g4
   repeat' ((conv=>whnf);first|apply Wx|apply W6|apply oi|(apply fi<;>intro h)|refine⟨_,rfl,?_⟩|exact rfl)
   all_goals try exact⟨KP⟩
   all_goals try exact KX
 ·rw[decide_eq_false h8,Bool.false_and]
  repeat' ((conv=>whnf);first|apply Wx|apply W6|apply oi|(apply fi<;>intro h)|refine cl hL ?_|refine⟨_,rfl,?_⟩|exact rfl)
  all_goals try exact⟨KP⟩
  all_goals try exact KX
theorem xe {l:List Ai}:(bx l).all (aJ l)=true↔∀k x,l[k]?=some x→x.faa=0→aJ l k=true:=by
 rw[List.all_eq_true]
 constructor
 ·intro H k x hx h0
  refine H k ?_
  have key:∀(n i:Nat),l.length - i≤n→i≤k→k∈bW (l.drop i) i:=by
   have hkl:k < l.length:=by
    rcases Nat.lt_or_ge k l.length with h|h
    ·exact h
    ·rw[List.getElem?_eq_none h]at hx;cases hx
   intro n
   induction n with
   | zero=>intro i h1 h2;omega
   | succ n ih=>
    intro i h1 h2
    obtain⟨y,hy⟩:=af (l:=l) (k:=i) (by omega)
    rw[fS hy,List.mem_append]
    by_cases hik:i=k
    ·subst hik
     rw[hx]at hy
     injection hy with hy
     subst hy
     rw[if_pos h0]
     exact .inl (by simp)
    ·exact .inr (ih (i+1) (by omega) (by omega))
  have:=key l.length 0 (by omega) (by omega)
  rwa [List.drop_zero]at this
 ·intro H k hk
  obtain⟨_,x,hx,h0⟩:=vb hk
  exact H k x hx h0
def ok1 (l:List Ai)(k:Nat)(x:Ai):Bool:=bm x && (if x.faa=0 then aJ l k else true)
def okN (l:List Ai):Nat→Nat→Bool
 | 0,_=>true
 | n+1,k=>match l[k]? with
  | some x=>ok1 l k x && okN l n (k+1)
  | none=>true
theorem tc {l:List Ai}{k:Nat}{x:Ai}(hx:l[k]?=some x):okN l (l.length - k) k=(ok1 l k x && okN l (l.length - (k+1)) (k+1)):=by
 have hk:k < l.length:=by
  rcases Nat.lt_or_ge k l.length with h|h
  ·exact h
  ·rw[List.getElem?_eq_none h]at hx;cases hx
 rw[show l.length - k=(l.length - (k+1))+1 by omega,okN,hx]
theorem ru {l:List Ai}:∀(n k:Nat),l.length - k≤n→(okN l (l.length - k) k=true↔∀j x,k≤j→l[j]?=some x→ok1 l j x=true)
 | n,k,hn=>by
  by_cases hk:k < l.length
  ·obtain⟨x,hx⟩:=af hk
   cases n with
   | zero=>omega
   | succ n=>
    rw[tc hx,Bool.and_eq_true,ru n (k+1) (by omega)]
    constructor
    ·rintro⟨h1,h2⟩ j y hj hy
     by_cases hjk:j=k
     ·subst hjk
      rw[hx]at hy
      injection hy with hy
      subst hy
      exact h1
     ·exact h2 j y (by omega) hy
    ·intro H
     exact⟨H k x (Nat.le_refl _) hx,fun j y hj hy=>H j y (by omega) hy⟩
  ·rw[show l.length - k=0 by omega]
   refine⟨fun _ j x hj hx=>?_,fun _=>rfl⟩
   rw[List.getElem?_eq_none (by omega)]at hx
   cases hx
theorem xP (l:List Ai):okN l l.length 0=(l.all bm && (bx l).all (aJ l)):=by
 have h0:=ru (l:=l) l.length 0 (by omega)
 rw[Nat.sub_zero]at h0
 rw[Bool.eq_iff_iff,h0,Bool.and_eq_true,xe,List.all_eq_true]
 constructor
 ·intro H
  refine⟨fun x hx=>?_,fun k x hx h0=>?_⟩
  ·obtain⟨k,hk⟩:=List.getElem?_of_mem hx
   have:=H k x (by omega) hk
   rw[ok1,Bool.and_eq_true]at this
   exact this.1
  ·have:=H k x (by omega) hx
   rw[ok1,Bool.and_eq_true,if_pos h0]at this
   exact this.2
 ·rintro⟨H1,H2⟩ j x _ hx
  rw[ok1,Bool.and_eq_true]
  refine⟨H1 x (List.mem_of_getElem? hx),?_⟩
  split
  ·exact H2 j x hx (by assumption)
  ·rfl
theorem sl {l:List Ai}:aB l=(decide (l.length≤60) && (decide ((bx l).length≤6) && (gD l && (okN l l.length 0 && aW (gS l) l l.length 0)))):=by
 unfold aB
 rw[xP,jT]
 cases hh:gD l with
 | false=>simp
 | true=>
  have h1:1≤(bx l).length:=by
   cases l with
   | nil=>cases hh
   | cons x r=>
    have:x.faa=0:=by
     unfold gD at hh
     simp only[Bool.and_eq_true,beq_iff_eq]at hh
     exact hh.1
    rw[bx,bW,if_pos this]
    simp
  have e:(decide (1≤(bx l).length∧(bx l).length≤6))=decide ((bx l).length≤6):=by
   rw[decide_eq_decide]
   omega
  rw[e]
  generalize decide (l.length≤60)=b1
  generalize decide ((bx l).length≤6)=b2
  generalize l.all bm=b3
  generalize(bx l).all (aJ l)=b4
  generalize fB l=b5
  generalize aW (eS l) l l.length 0=b6
  cases b1 <;> cases b2 <;> cases b3 <;> cases b4 <;> cases b5 <;> cases b6 <;> rfl
theorem fV (l:List Ai)(hsm:bd 1048576 (.lst 4 (l.map Ai.tr))):Sim.Spec Try.prog 18 [tvP l] (rB (aB l)):=by
 refine eY hΓ au Try.func18 rfl (by decide) rfl ?_
 have hl:=pV hsm
 have hs:∀x∈l,bI 1048576 x.tr:=fun x hx=>cz hsm hx
 have hlen:(l.map Ai.tr).length=l.length:=by simp
 have hF:=ir l hl
 have hfl:((bx l).map fun n:Nat=>ab n).length=(bx l).length:=by simp
 rw[sl]
 by_cases c1:l.length≤60
 ·rw[decide_eq_true c1,Bool.true_and]
  by_cases hpos:0 < l.length
  ·obtain⟨x0,hx0⟩:=af hpos
   have hal:(x0.fad.map ah).length=x0.fad.length:=by simp
   have hhd:=lF hx0
   by_cases c2:(bx l).length≤6
   ·rw[decide_eq_true c2,Bool.true_and]
    cases hh:gD l with
    | false=>
     rw[hh]at hhd
     rw[Bool.false_and]
     repeat' ((conv=>whnf);first|apply Wx|apply W6|apply oi|(apply fi<;>intro h)|refine cl hF ?_|refine⟨0,x0.tr,rfl,aa hx0,?_⟩|refine⟨_,rfl,?_⟩|exact rfl)
     all_goals try exact⟨KP⟩
     all_goals try exact KX
     all_goals try(exfalso;simp_all[cB];done)
    | true=>
     rw[hh]at hhd
     rw[Bool.true_and]
     cases hok:okN l l.length 0 with
     | false=>
      rw[Bool.false_and]
      repeat' ((conv=>whnf);first|apply Wx|apply W6|apply oi|(apply fi<;>intro h)|refine cl hF ?_|refine⟨0,x0.tr,rfl,aa hx0,?_⟩|refine⟨_,rfl,?_⟩|exact rfl)
      all_goals try exact⟨KP⟩
      all_goals try exact KX
      all_goals try(exfalso;simp_all[cB];done)
      conv=>whnf
      refine⟨{k:Nat // k≤l.length∧okN l (l.length - k) k=false},fun q=>⟨[(0,vP l),(3,tI .i64 (q.1:Int))],[],[]⟩,fun q=>l.length - q.1,⟨0,by omega,by rw[Nat.sub_zero];exact hok⟩,?_,?_⟩
      ·skip
       repeat' ((conv=>whnf);first|apply Wx|apply W6|apply oi|(apply fi<;>intro h)|refine⟨_,rfl,?_⟩|exact rfl)
       all_goals try exact⟨KP⟩
      intro⟨k,hk,hr⟩
      dsimp only at hk hr ⊢
      by_cases hlt:k < l.length
      ·obtain⟨x,hx⟩:=af hlt
       rw[tc hx,ok1]at hr
       have hL:=jp x (hs x (List.mem_of_getElem? hx))
       have hN:=bO l x.fab hl
       have hnf2:(cA l x.fab==(k:Int))=aJ l k:=by
        unfold aJ
        rw[hx,cA]
        dsimp only
        cases findN l 0 x.fab with
        | none=>simp[bM]
        | some m=>rw[Bool.eq_iff_iff];simp[bM];omega
       generalize cA l x.fab=ff at *
       generalize bm x=lo at *
       generalize aJ l k=nf at *
       by_cases h0:x.faa=0
       ·rw[if_pos h0]at hr
        repeat' ((conv=>whnf);first|apply Wx|apply W6|apply oi|(apply fi<;>intro h)|refine cl hL ?_|refine cl hN ?_|refine⟨k,x.tr,rfl,aa hx,?_⟩|refine⟨_,rfl,?_⟩|exact rfl)
        all_goals try exact⟨KP⟩
        all_goals try exact KX
        all_goals try(exfalso;simp_all;done)
        all_goals
         conv=>whnf
         refine⟨⟨k+1,by omega,by simp_all⟩,?_,KD⟩
         repeat' ((conv=>whnf);first|apply Wx|apply W6|apply oi|(apply fi<;>intro h)|refine⟨_,rfl,?_⟩|exact rfl)
         all_goals try exact⟨KP⟩
         all_goals try exact⟨K2⟩
       ·rw[if_neg h0,Bool.and_true]at hr
        repeat' ((conv=>whnf);first|apply Wx|apply W6|apply oi|(apply fi<;>intro h)|refine cl hL ?_|refine cl hN ?_|refine⟨k,x.tr,rfl,aa hx,?_⟩|refine⟨_,rfl,?_⟩|exact rfl)
        all_goals try exact⟨KP⟩
        all_goals try exact KX
        all_goals try(exfalso;simp_all;done)
        all_goals
         conv=>whnf
         refine⟨⟨k+1,by omega,by simp_all⟩,?_,KD⟩
         repeat' ((conv=>whnf);first|apply Wx|apply W6|apply oi|(apply fi<;>intro h)|refine⟨_,rfl,?_⟩|exact rfl)
         all_goals try exact⟨KP⟩
         all_goals try exact⟨K2⟩
      ·rw[show l.length - k=0 by omega]at hr
       cases hr
     | true=>
      rw[Bool.true_and]
      obtain⟨R,hR⟩:∃R,aW (gS l) l l.length 0=R:=⟨_,rfl⟩
      rw[hR]
      have hoka:=(ru (l:=l) l.length 0 (by omega))
      rw[Nat.sub_zero]at hoka
      have hoka:=hoka.1 hok
      repeat' ((conv=>whnf);first|apply Wx|apply W6|apply oi|(apply fi<;>intro h)|refine cl hF ?_|refine⟨0,x0.tr,rfl,aa hx0,?_⟩|refine⟨_,rfl,?_⟩|exact rfl)
      all_goals try exact⟨KP⟩
      all_goals try exact KX
      all_goals try(exfalso;simp_all[cB];done)
      conv=>whnf
      refine⟨{k:Nat // k≤l.length},fun q=>⟨[(0,vP l),(3,tI .i64 (q.1:Int))],[],[]⟩,fun q=>l.length - q.1,⟨0,by omega⟩,?_,?_⟩
      ·skip
       repeat' ((conv=>whnf);first|apply Wx|apply W6|apply oi|(apply fi<;>intro h)|refine⟨_,rfl,?_⟩|exact rfl)
       all_goals try exact⟨KP⟩
      intro⟨k,hk⟩
      dsimp only at hk ⊢
      by_cases hlt:k < l.length
      ·obtain⟨x,hx⟩:=af hlt
       have hr:=hoka k x (by omega) hx
       rw[ok1]at hr
       have hL:=jp x (hs x (List.mem_of_getElem? hx))
       have hN:=bO l x.fab hl
       have hnf2:(cA l x.fab==(k:Int))=aJ l k:=by
        unfold aJ
        rw[hx,cA]
        dsimp only
        cases findN l 0 x.fab with
        | none=>simp[bM]
        | some m=>rw[Bool.eq_iff_iff];simp[bM];omega
       clear hoka hok
       generalize cA l x.fab=ff at *
       generalize bm x=lo at *
       generalize aJ l k=nf at *
       by_cases h0:x.faa=0
       ·rw[if_pos h0]at hr
        repeat' ((conv=>whnf);first|apply Wx|apply W6|apply oi|(apply fi<;>intro h)|refine cl hL ?_|refine cl hN ?_|refine⟨k,x.tr,rfl,aa hx,?_⟩|refine⟨_,rfl,?_⟩|exact rfl)
        all_goals try exact⟨KP⟩
        all_goals try exact KX
        all_goals try(exfalso;simp_all;done)
        all_goals
         conv=>whnf
         refine⟨⟨k+1,by omega⟩,?_,KD⟩
         repeat' ((conv=>whnf);first|apply Wx|apply W6|apply oi|(apply fi<;>intro h)|refine⟨_,rfl,?_⟩|exact rfl)
         all_goals try exact⟨KP⟩
         all_goals try exact⟨K2⟩
       ·rw[if_neg h0,Bool.and_true]at hr
        repeat' ((conv=>whnf);first|apply Wx|apply W6|apply oi|(apply fi<;>intro h)|refine cl hL ?_|refine cl hN ?_|refine⟨k,x.tr,rfl,aa hx,?_⟩|refine⟨_,rfl,?_⟩|exact rfl)
        all_goals try exact⟨KP⟩
        all_goals try exact KX
        all_goals try(exfalso;simp_all;done)
        all_goals
         conv=>whnf
         refine⟨⟨k+1,by omega⟩,?_,KD⟩
         repeat' ((conv=>whnf);first|apply Wx|apply W6|apply oi|(apply fi<;>intro h)|refine⟨_,rfl,?_⟩|exact rfl)
         all_goals try exact⟨KP⟩
         all_goals try exact⟨K2⟩
      ·skip
       repeat' ((conv=>whnf);first|apply Wx|apply W6|apply oi|(apply fi<;>intro h)|refine⟨_,rfl,?_⟩|exact rfl)
       all_goals try exact⟨KP⟩
       all_goals try exact KX
       conv=>whnf
       refine⟨{k:Nat // k≤l.length∧aW (gS l) l (l.length - k) k=R},fun q=>⟨[(0,vP l),(4,tI .i64 (q.1:Int))],[],[]⟩,fun q=>l.length - q.1,⟨0,by omega,by rw[Nat.sub_zero];exact hR⟩,?_,?_⟩
       ·skip
        repeat' ((conv=>whnf);first|apply Wx|apply W6|apply oi|(apply fi<;>intro h)|refine⟨_,rfl,?_⟩|exact rfl)
        all_goals try exact⟨KP⟩
       intro⟨k,hk,hr⟩
       dsimp only at hk hr ⊢
       by_cases hlt:k < l.length
       ·obtain⟨x,hx⟩:=af hlt
        rw[fq hx (Nat.le_refl _)]at hr
        have hE:=bo l (k:Int) hl
        cases he:endAt l k with
        | none=>
         rw[aG,eC he]at hE
         rw[he]at hr
         subst hr
         repeat' ((conv=>whnf);first|apply Wx|apply W6|apply oi|(apply fi<;>intro h)|refine cl hE ?_|refine⟨k,x.tr,rfl,aa hx,?_⟩|refine⟨_,rfl,?_⟩|exact rfl)
         all_goals try exact⟨KP⟩
         all_goals try exact KX
         all_goals try(exfalso;simp_all;done)
        | some e=>
         obtain⟨_,_,_,_,hke,hel⟩:=aw he
         rw[aG,aK he]at hE
         rw[he]at hr
         dsimp only at hr
         have hK:=oT l k e c1 hs he
         generalize gS l k e=fb at *
         by_cases hc:x.faa=0∧fb=true
         ·rw[if_pos hc]at hr
          obtain⟨d1,d2⟩:=hc
          subst d2
          repeat' ((conv=>whnf);first|apply Wx|apply W6|apply oi|(apply fi<;>intro h)|refine cl hE ?_|refine cl hK ?_|refine⟨k,x.tr,rfl,aa hx,?_⟩|refine⟨_,rfl,?_⟩|exact rfl)
          all_goals try exact⟨KP⟩
          all_goals try exact KX
          all_goals try(exfalso;simp_all;done)
          conv=>whnf
          refine⟨⟨e+1,by omega,hr⟩,?_,KD⟩
          repeat' ((conv=>whnf);first|apply Wx|apply W6|apply oi|(apply fi<;>intro h)|refine⟨_,rfl,?_⟩|exact rfl)
          all_goals try exact⟨KP⟩
          all_goals try exact⟨K2⟩
         ·rw[if_neg hc]at hr
          subst hr
          repeat' ((conv=>whnf);first|apply Wx|apply W6|apply oi|(apply fi<;>intro h)|refine cl hE ?_|refine cl hK ?_|refine⟨k,x.tr,rfl,aa hx,?_⟩|refine⟨_,rfl,?_⟩|exact rfl)
          all_goals try exact⟨KP⟩
          all_goals try exact KX
          all_goals try(exfalso;simp_all;done)
       ·rw[show l.length - k=0 by omega,aW,decide_eq_true (by omega)]at hr
        subst hr
        repeat' ((conv=>whnf);first|apply Wx|apply W6|apply oi|(apply fi<;>intro h)|refine⟨_,rfl,?_⟩|exact rfl)
        all_goals try exact⟨KP⟩
        all_goals try exact KX
   ·rw[decide_eq_false c2,Bool.false_and]
    repeat' ((conv=>whnf);first|apply Wx|apply W6|apply oi|(apply fi<;>intro h)|refine cl hF ?_|refine⟨0,x0.tr,rfl,aa hx0,?_⟩|refine⟨_,rfl,?_⟩|exact rfl)
    all_goals try exact⟨KP⟩
    all_goals try exact KX
    all_goals try(exfalso;simp_all[cB];done)
  ·have hnil:l=[]:=List.length_eq_zero_iff.1 (by omega)
   subst hnil
   rw[show gD ([]:List Ai)=false from rfl,Bool.false_and,Bool.and_false]
   repeat' ((conv=>whnf);first|apply Wx|apply W6|apply oi|(apply fi<;>intro h)|refine cl hF ?_|refine⟨_,rfl,?_⟩|exact rfl)
   all_goals try exact⟨KP⟩
   all_goals try exact KX
 ·rw[decide_eq_false c1,Bool.false_and]
  repeat' ((conv=>whnf);first|apply Wx|apply W6|apply oi|(apply fi<;>intro h)|refine cl hF ?_|refine⟨_,rfl,?_⟩|exact rfl)
  all_goals try exact⟨KP⟩
  all_goals try exact KX
  all_goals try(exfalso;simp_all;done)
theorem iR {l:List Ar}{p:Nat}{e:Ex}(h:gI l p e):p+e.toks.length≤l.length:=by
 obtain⟨r,h⟩:=h
 have h1:=congrArg List.length h
 rw[List.length_drop,List.length_append]at h1
 have:=e.toks_pos
 omega
theorem mR (l:List Ar)(p:Nat)(t:Ar)(es:List Ex)(hl:l.length≤1048576)(hn:eF l)(ho:(Ex.node t es).ok)(hs:gI l p (.node t es)):Sim.Spec Try.prog 99 [tvL 3 (l.map Ar.tr),tvI p] (rL 1 ((cV (p+1) es).map nR)):=by
 refine eY hΓ au Try.func99 rfl (by decide) rfl ?_
 have hlen:(l.map Ar.tr).length=l.length:=by simp
 have hle:=iR hs
 obtain⟨ht,hsa⟩:=jL hs
 have hX:=eU l p hl hn
 rw[pc hs ho]at hX
 have htn:=hn t (List.mem_of_getElem? ht)
 have hA:=ko t htn
 obtain⟨e1,e2⟩:=qb ho.1
 have hel:es.length=ar t:=ho.2.1
 rw[e1,←hel]at hA
 obtain⟨R,hR⟩:∃R,cV (p+1) es=R:=⟨_,rfl⟩
 rw[hR]
 have hpl:p < l.length:=by
  have:=(Ex.node t es).toks_pos
  omega
 generalize p+(Ex.node t es).toks.length=pe at *
 repeat' ((conv=>whnf);first|apply Wx|apply W6|apply oi|(apply fi<;>intro h)|refine cl hX ?_|refine⟨p,t.tr,rfl,aa ht,?_⟩|refine cl hA ?_|refine⟨_,rfl,?_⟩|exact rfl)
 all_goals try exact⟨KP⟩
 all_goals try exact KX
 conv=>whnf
 refine⟨{q:Nat×List Nat×List Ex // q.2.1++cV q.1 q.2.2=R∧fU l q.1 q.2.2∧jv q.2.2∧q.2.1.length+q.2.2.length≤4∧q.1≤1048577},fun q=>⟨[(0,.r (.c (.t (.lst 3 (l.map Ar.tr))))),(5,.r (.c (.own (5,0,0)))),(6,tI .i64 (q.1.1:Int)),(7,tI .i64 (q.1.2.2.length:Int))],[((5,0,0),some (.arr true 1 (q.1.2.1.map nR)))],[5]⟩,fun q=>q.1.2.2.length,⟨(p+1,[],es),hR,hsa,ho.2.2,by simp;omega,by dsimp only;omega⟩,?_,?_⟩
 ·skip
  repeat' ((conv=>whnf);first|apply Wx|apply W6|apply oi|(apply fi<;>intro h)|refine⟨_,rfl,?_⟩|exact rfl)
  all_goals try exact⟨KP⟩
  all_goals try exact⟨K2⟩
 intro⟨⟨q,acc,fs⟩,h1,h2,h3,h4,h5⟩
 dsimp only at h1 h2 h3 h4 h5 ⊢
 cases fs with
 | nil=>
  rw[cV,List.append_nil]at h1
  subst h1
  repeat' ((conv=>whnf);first|apply Wx|apply W6|apply oi|(apply fi<;>intro h)|refine⟨_,rfl,?_⟩|exact rfl)
  all_goals try exact⟨KP⟩
  all_goals try exact KX
  all_goals try(exfalso;simp at h;done)
 | cons a fs=>
  obtain⟨g1,g2⟩:=cQ h2
  have hX2:=eU l q hl hn
  rw[pc g1 h3.1]at hX2
  have hle2:=iR g1
  have hfl:(a::fs).length=fs.length+1:=rfl
  repeat' ((conv=>whnf);first|apply Wx|apply W6|apply oi|(apply fi<;>intro h)|refine cl hX2 ?_|refine⟨_,rfl,?_⟩|exact rfl)
  all_goals try exact⟨KP⟩
  all_goals try exact KX
  all_goals try(exfalso;simp at h;done)
  all_goals try exact⟨⟨by simp <;> omega,by simp <;> omega⟩⟩
  conv=>whnf
  refine⟨⟨(q+a.toks.length,acc++[q],fs),by dsimp only;rw[←h1,cV];simp,g2,h3.2,by simp only[List.length_append,List.length_cons,List.length_nil]at *;omega,by dsimp only;omega⟩,?_,by dsimp only;simp⟩
  repeat' ((conv=>whnf);first|apply Wx|apply W6|apply oi|(apply fi<;>intro h)|refine⟨_,rfl,?_⟩|exact rfl)
  all_goals try exact⟨KP⟩
  all_goals try exact⟨by dsimp only;rw[hfl,IntWalk.i64_in _ (by omega)];congr 1;omega⟩
  all_goals exact⟨by simp[ab]⟩
def w32 (n:Int):Int:=IntKind.i32.wrap n
theorem iV (n:Int):IntKind.i32.wrap n=if n % 4294967296≥2147483648 then n % 4294967296 - 4294967296 else n % 4294967296:=by
 simp[IntKind.wrap,IntKind.bits,IntKind.signed]
theorem vA (n:Int):IntKind.u32.wrap n=n % 4294967296:=by simp[IntKind.wrap,IntKind.bits,IntKind.signed]
theorem ga (n:Int):-2147483648≤w32 n∧w32 n≤2147483647:=by
 unfold w32;rw[iV];split <;> omega
theorem sm (n:Int):Sim.Spec Try.prog 110 [tvI n] (rI (w32 n)):=by
 refine ap hΓ au Try.func110 rfl (by decide) rfl ?_
 repeat' ((conv=>whnf);first|refine Or.inl ?_|apply oi|(apply fi<;>intro h)|refine⟨_,rfl,?_⟩|exact rfl)
 all_goals try exact⟨KO⟩
 all_goals(refine⟨congrArg (Tr.int _) ?_⟩;have:=ga n;unfold w32 at *;rw[iV]at *;rw[iV,vA,IntWalk.i64_in _ (by split <;> omega)];simp)
theorem wW (n:Int):((BitVec.ofInt IntKind.i64.bits n &&& BitVec.ofInt IntKind.i64.bits 4294967295).toNat:Int)=n % 4294967296:=by
 show((BitVec.ofInt 64 n &&& BitVec.ofInt 64 4294967295).toNat:Int)=_
 have e:(BitVec.ofInt 64 4294967295).toNat=2 ^ 32 - 1:=by decide
 rw[BitVec.toNat_and,e,Nat.and_two_pow_sub_one_eq_mod,BitVec.toNat_ofInt]
 have:((2 ^ 64:Nat):Int)=18446744073709551616:=by decide
 omega
theorem sZ (n:Int):Sim.Spec Try.prog 107 [tvI n] (rI (w32 n)):=by
 refine ap hΓ au Try.func107 rfl (by decide) rfl ?_
 have hand:IntKind.i64.wrap ((BitVec.ofInt IntKind.i64.bits n &&& BitVec.ofInt IntKind.i64.bits 4294967295).toNat:Int)=n % 4294967296:=by
  rw[wW,IntWalk.i64_in _ (by omega)]
 unfold w32
 rw[iV]
 repeat' ((conv=>whnf);first|refine Or.inl ?_|apply oi|(apply fi<;>intro h)|refine⟨_,rfl,?_⟩|exact rfl)
 all_goals try exact⟨KO⟩
 all_goals(refine⟨congrArg (Tr.int _) ?_⟩;rw[hand]at h ⊢)
 ·have h':=of_decide_eq_true h
  rw[if_pos (by omega),IntWalk.i64_in _ (by omega)]
 ·have h':=of_decide_eq_false h
  rw[if_neg (by omega)]
theorem pB {x y:Int}(hx:-2147483648≤x∧x≤2147483647)(hy:-2147483648≤y∧y≤2147483647):-4611686018427387904≤x * y∧x * y≤4611686018427387904:=by
 have h:(x * y).natAbs≤2147483648 * 2147483648:=by
  rw[Int.natAbs_mul]
  exact Nat.mul_le_mul (by omega) (by omega)
 omega
def gY (k a b:Int):Int:=
 if k=2 then w32 (w32 a+w32 b)else if k=3 then w32 (w32 a - w32 b)else if k=4 then w32 (w32 a * w32 b)
 else if(k=5∧w32 a < w32 b)∨(k=6∧w32 a=w32 b)then 1 else 0
theorem qN (k a b:Int):Sim.Spec Try.prog 100 [tvI k,tvI a,tvI b] (rI (gY k a b)):=by
 refine ap hΓ au Try.func100 rfl (by decide) rfl ?_
 have ha:=ga a
 have hb:=ga b
 have hm:=pB ha hb
 have e1:IntKind.i64.wrap (w32 a+w32 b)=w32 a+w32 b:=IntWalk.i64_in _ (by omega)
 have e2:IntKind.i64.wrap (w32 a - w32 b)=w32 a - w32 b:=IntWalk.i64_in _ (by omega)
 have e3:IntKind.i64.wrap (w32 a * w32 b)=w32 a * w32 b:=IntWalk.i64_in _ (by omega)
 unfold gY
 repeat' ((conv=>whnf);first|refine Or.inl ?_|apply oi|(apply fi<;>intro h)|refine ci (sm _) (ai rfl trivial) ?_|refine⟨_,rfl,?_⟩|exact rfl)
 all_goals try exact⟨KO⟩
 all_goals(refine⟨congrArg (Tr.int _) ?_⟩;simp_all;try omega)
theorem rD (k a b:Int):Sim.Spec Try.prog 91 [tvI k,tvI a,tvI b] (rI (gY k a b)):=by
 refine ap hΓ au Try.func91 rfl (by decide) rfl ?_
 have ha:=ga a
 have hb:=ga b
 have hm:=pB ha hb
 have e1:IntKind.i64.wrap (w32 a+w32 b)=w32 a+w32 b:=IntWalk.i64_in _ (by omega)
 have e2:IntKind.i64.wrap (w32 a - w32 b)=w32 a - w32 b:=IntWalk.i64_in _ (by omega)
 have e3:IntKind.i64.wrap (w32 a * w32 b)=w32 a * w32 b:=IntWalk.i64_in _ (by omega)
 unfold gY
 repeat' ((conv=>whnf);first|refine Or.inl ?_|apply oi|(apply fi<;>intro h)|refine ci (sZ _) (ai rfl trivial) ?_|refine⟨_,rfl,?_⟩|exact rfl)
 all_goals try exact⟨KO⟩
 all_goals(refine⟨congrArg (Tr.int _) ?_⟩;simp_all;try omega)
def zi (t a b:Ar):Prop:=ae t.faa 2 6=true∧a.faa=0∧b.faa=0∧ae (gY t.faa a.fae b.fae) 0 999=true
instance (t a b:Ar):Decidable (zi t a b):=by unfold zi;infer_instance
theorem aQ (l:List Ar):flat (l.map Ar.tr):=nu _ (by intro x c hc sz rs e;subst e;simp[Ar.tr]at hc)
theorem eX:∀(es:List Ex) (j:Nat),(ay (es.take j)).length≤(ay es).length
 | [],j=>by rw[List.take_nil];omega
 | a::es,0=>by rw[List.take_zero,ay];simp
 | a::es,j+1=>by
  have:=eX es j
  rw[List.take_succ_cons,ay,ay,List.length_append,List.length_append]
  omega
theorem jQ:∀{es:List Ex} {j:Nat} {a:Ex},es[j]?=some a→a.toks.length≤(ay es).length
 | [],_,_,h=>by simp at h
 | b::es,0,a,h=>by
  rw[List.getElem?_cons_zero]at h
  injection h with h
  subst h
  rw[ay,List.length_append];omega
 | b::es,j+1,a,h=>by
  rw[List.getElem?_cons_succ]at h
  have:=jQ h
  rw[ay,List.length_append];omega
theorem cq:∀{es:List Ex} {j:Nat} {a:Ex},jv es→es[j]?=some a→a.ok
 | [],_,_,_,h=>by simp at h
 | b::es,0,a,ho,h=>by
  rw[List.getElem?_cons_zero]at h
  injection h with h
  subst h
  exact ho.1
 | b::es,j+1,a,ho,h=>by
  rw[List.getElem?_cons_succ]at h
  exact cq ho.2 h
structure Ab where
 b:List UInt8
 i:Nat
 h:Int
def Ab.ok (c:Ab):Prop:=c.i≤c.b.length∧c.b.length≤1048576
abbrev ij (c:Ab):List (Sim.Id×AO):=[((0,0,0),.box [.t (.lst 1 (c.b.map aI)),.t (.int .i64 c.i),.t (.int .i64 c.h)])]
abbrev gX:AV:= .r (.c (.ptr (0,0,0) 0))
theorem zh (z:Int):∃x:Nat,x < 256∧IntKind.i64.wrap ((BitVec.ofInt IntKind.i64.bits z &&& BitVec.ofInt IntKind.i64.bits 255).toNat:Int)=(x:Int):=by
 have e:(BitVec.ofInt 64 255).toNat=2 ^ 8 - 1:=by decide
 have h:(BitVec.ofInt IntKind.i64.bits z &&& BitVec.ofInt IntKind.i64.bits 255).toNat < 256:=by
  show(BitVec.ofInt 64 z &&& BitVec.ofInt 64 255).toNat < 256
  rw[BitVec.toNat_and,e,Nat.and_two_pow_sub_one_eq_mod]
  omega
 generalize(BitVec.ofInt IntKind.i64.bits z &&& BitVec.ofInt IntKind.i64.bits 255).toNat=n at *
 exact⟨n,h,IntWalk.i64_in _ (by omega)⟩
def rK (h:Int):Int:=IntKind.i64.wrap (IntKind.i64.wrap (h * 6364136223846793005)+1442695040888963407)
theorem dn (c:Ab)(hc:c.ok):∃(x:Nat) (c':Ab),x < 256∧c'.b=c.b∧c'.ok∧bt Try.prog 102 [gX] (ij c) (tI .i64 x) (ij c'):=by
 obtain⟨hi,hl⟩:=hc
 have hbl:(c.b.map aI).length=c.b.length:=by simp
 obtain⟨x0,hx0,he0⟩:=zh (IntKind.i64.wrap ((BitVec.ofInt IntKind.i64.bits ((rK c.h).fdiv (2 ^ min (Int.toNat 33) IntKind.i64.bits)) ^^^ BitVec.ofInt IntKind.i64.bits ((rK c.h).fdiv (2 ^ min (Int.toNat 45) IntKind.i64.bits))).toNat:Int))
 unfold rK at he0
 by_cases hlt:c.i < c.b.length
 ·obtain⟨u,hu⟩:=af hlt
  obtain⟨x,hx,he⟩:=zh (IntKind.i64.wrap ((x0:Int)+IntKind.i64.wrap (u.toNat:Int)))
  rw[←he0]at he
  refine⟨x,⟨c.b,c.i+1,rK c.h⟩,hx,rfl,⟨by dsimp only;omega,hl⟩,?_⟩
  refine aq hΓ au Try.func102 rfl (by decide) rfl rfl ?_
  repeat' ((conv=>whnf);first|apply Wx|apply W6|apply oi|(apply fi<;>intro h)|refine⟨c.i,(aI u),rfl,aa hu,?_⟩|refine⟨_,rfl,?_⟩|exact rfl)
  all_goals try exact⟨KP⟩
  all_goals try exact KX
  all_goals try exact⟨congrArg (Tr.int _) he⟩
  all_goals try exact⟨K6⟩
  all_goals exact⟨rfl⟩
 ·refine⟨x0,⟨c.b,c.i,rK c.h⟩,hx0,rfl,⟨hi,hl⟩,?_⟩
  refine aq hΓ au Try.func102 rfl (by decide) rfl rfl ?_
  repeat' ((conv=>whnf);first|apply Wx|apply W6|apply oi|(apply fi<;>intro h)|refine⟨_,rfl,?_⟩|exact rfl)
  all_goals try exact⟨KP⟩
  all_goals try exact KX
  all_goals try exact⟨congrArg (Tr.int _) he0⟩
  all_goals exact⟨rfl⟩
theorem oG {x:Nat}{n:Int}(h:0 < n):∃y:Nat,(y:Int) < n∧(x:Int).tmod n=(y:Int):=by
 have h1:=Int.tmod_nonneg n (Int.natCast_nonneg x)
 have h2:=Int.tmod_lt_of_pos (x:Int) h
 obtain⟨y,hy⟩:=Int.eq_ofNat_of_zero_le h1
 exact⟨y,by omega,hy⟩
theorem aX (c:Ab)(n:Int)(hc:c.ok):∃(x:Nat) (c':Ab),(0 < n→(x:Int) < n)∧(n≤0→x=0)∧c'.b=c.b∧c'.ok∧bt Try.prog 77 [gX,tI .i64 n] (ij c) (tI .i64 x) (ij c'):=by
 by_cases h0:n≤0
 ·refine⟨0,c,by omega,fun _=>rfl,rfl,hc,?_⟩
  refine aq hΓ au Try.func77 rfl (by decide) rfl rfl ?_
  repeat' ((conv=>whnf);first|apply Wx|apply W6|apply oi|(apply fi<;>intro h)|refine⟨_,rfl,?_⟩|exact rfl)
  all_goals try exact⟨KP⟩
  all_goals try exact KX
 ·obtain⟨x1,c1,k1,b1,o1,g1⟩:=dn c hc
  by_cases h2:n≤256
  ·obtain⟨y,hy,hm⟩:=oG (x:=x1) (n:=n) (by omega)
   refine⟨y,c1,fun _=>hy,by omega,b1,o1,?_⟩
   refine aq hΓ au Try.func77 rfl (by decide) rfl rfl ?_
   repeat' ((conv=>whnf);first|apply Wx|apply W6|refine cg g1 ?_|apply oi|(apply fi<;>intro h)|refine⟨_,rfl,?_⟩|exact rfl)
   all_goals try exact⟨KP⟩
   all_goals try exact KX
   all_goals try exact⟨by omega⟩
   all_goals exact⟨congrArg (Tr.int _) hm⟩
  ·obtain⟨x2,c2,k2,b2,o2,g2⟩:=dn c1 o1
   obtain⟨x3,c3,k3,b3,o3,g3⟩:=dn c2 o2
   obtain⟨x4,c4,k4,b4,o4,g4⟩:=dn c3 o3
   obtain⟨y,hy,hm⟩:=oG (x:=x1 * 16777216+x2 * 65536+x3 * 256+x4) (n:=n) (by omega)
   refine⟨y,c4,fun _=>hy,by omega,((b4.trans b3).trans b2).trans b1,o4,?_⟩
   refine aq hΓ au Try.func77 rfl (by decide) rfl rfl ?_
   repeat' ((conv=>whnf);first|apply Wx|apply W6|apply oi|(apply fi<;>intro h)|refine⟨_,rfl,?_⟩|exact rfl)
   all_goals try exact⟨KP⟩
   all_goals try exact KX
   refine cg (g1) ?_
   repeat' ((conv=>whnf);first|apply Wx|apply W6|apply oi|(apply fi<;>intro h)|refine⟨_,rfl,?_⟩|exact rfl)
   all_goals try exact⟨KP⟩
   refine cg (g2) ?_
   repeat' ((conv=>whnf);first|apply Wx|apply W6|apply oi|(apply fi<;>intro h)|refine⟨_,rfl,?_⟩|exact rfl)
   all_goals try exact⟨KP⟩
   refine cg (g3) ?_
   repeat' ((conv=>whnf);first|apply Wx|apply W6|apply oi|(apply fi<;>intro h)|refine⟨_,rfl,?_⟩|exact rfl)
   all_goals try exact⟨KP⟩
   refine cg (g4) ?_
   repeat' ((conv=>whnf);first|apply Wx|apply W6|apply oi|(apply fi<;>intro h)|refine⟨_,rfl,?_⟩|exact rfl)
   all_goals try exact⟨KP⟩
   all_goals try exact⟨by omega⟩
   all_goals(
    have hw:IntKind.i64.wrap (IntKind.i64.wrap (IntKind.i64.wrap (IntKind.i64.wrap ((x1:Int) * 16777216)+IntKind.i64.wrap ((x2:Int) * 65536))+IntKind.i64.wrap ((x3:Int) * 256))+(x4:Int))=((x1 * 16777216+x2 * 65536+x3 * 256+x4:Nat):Int):=by
     rw[IntWalk.i64_in ((x1:Int) * 16777216) (by omega),IntWalk.i64_in ((x2:Int) * 65536) (by omega),IntWalk.i64_in ((x3:Int) * 256) (by omega),IntWalk.i64_in ((x1:Int) * 16777216+(x2:Int) * 65536) (by omega),IntWalk.i64_in ((x1:Int) * 16777216+(x2:Int) * 65536+(x3:Int) * 256) (by omega),IntWalk.i64_in _ (by omega)]
     omega
    exact⟨by rw[hw,hm]⟩)
theorem dv (c:Ab)(n:Int)(hc:c.ok):∃(x:Bool) (c':Ab),c'.b=c.b∧c'.ok∧bt Try.prog 78 [gX,tI .i64 n] (ij c) (tB x) (ij c'):=by
 obtain⟨x,c',_,_,b1,o1,g1⟩:=aX c n hc
 refine⟨(x:Int)==0,c',b1,o1,?_⟩
 refine aq hΓ au Try.func78 rfl (by decide) rfl rfl ?_
 repeat' ((conv=>whnf);first|apply Wx|apply W6|refine cg g1 ?_|apply oi|(apply fi<;>intro h)|refine⟨_,rfl,?_⟩|exact rfl)
 all_goals try exact⟨KP⟩
theorem jP (c:Ab)(ns:List Int)(hc:c.ok)(hp:0 < ns.length)(hl:ns.length≤1048576):∃(v:Int) (c':Ab),v∈ns∧c'.b=c.b∧c'.ok∧bt Try.prog 111 [gX,.r (.c (.own (0,0,1)))] (ij c++[((0,0,1),.arr false 1 (ns.map ab))]) (tI .i64 v) (ij c'++[((0,0,1),.arr false 1 (ns.map ab))]):=by
 have hlen:(ns.map ab).length=ns.length:=by simp
 obtain⟨x,c',h1,_,b1,o1,g1⟩:=aX c ((ns.map ab).length:Int) hc
 rw[hlen]at h1
 obtain⟨v,hv⟩:=af (l:=ns) (k:=x) (by omega)
 have hxl:x < (ns.map ab).length:=by rw[hlen];omega
 refine⟨v,c',List.mem_of_getElem? hv,b1,o1,?_⟩
 refine aq hΓ au Try.func111 rfl (by decide) rfl rfl ?_
 repeat' ((conv=>whnf);first|apply Wx|apply W6|refine cg g1 ?_|apply oi|(apply fi<;>intro h)|refine⟨x,rfl,hxl,?_⟩|refine⟨(ab v),aa hv,?_⟩|refine⟨_,rfl,?_⟩|exact rfl)
 all_goals try exact⟨KP⟩
def mw (R:List Ar)(d:Nat):Prop:=0 < R.length∧R.length≤5 ^ d∧∀t∈R,t.fab.length≤8
abbrev xT (vars:List (List UInt8))(c:Ab):List (Sim.Id×AO):=ij c++[((0,0,1),.arr false 1 (vars.map ah))]
abbrev uf (m:Int)(names:List (List UInt8))(ars:List Int):List AV:=[gX,tI .i64 m,.r (.c (.own (0,0,1))),vN names,.r (.c (.t (.lst 1 (ars.map ab))))]
abbrev wE (vars:List (List UInt8))(c:Ab)(R:List Ar):List (Sim.Id×AO):=xT vars c++[((1,0,0),.arr false 3 (R.map Ar.tr))]
theorem nB (d:Nat):1≤5 ^ d:=Nat.one_le_pow _ _ (by omega)
theorem yg {d:Nat}(h:d≤8):5 ^ d≤390625:=Nat.pow_le_pow_right (n:=5) (by omega) h
theorem xb {m:Int}{d:Nat}(h0:0≤m)(h1:m < 2 ^ (d+1))(hb:m≤1000):0≤IntKind.i64.wrap (m.tdiv 4)∧IntKind.i64.wrap (m.tdiv 4) < 2 ^ d∧IntKind.i64.wrap (m.tdiv 4)≤1000:=by
 rw[Int.tdiv_eq_ediv_of_nonneg h0,IntWalk.i64_in _ (by omega)]
 have:(2:Int) ^ (d+1)=2 * 2 ^ d:=by rw[Int.pow_succ];omega
 omega
def mY (P:Ab→List Ar→Ab→Prop)(d:Nat):Nat→Ab→List Ar→Ab→List Ar→Prop
 | 0,c,acc,c',acc'=>c'=c∧acc'=acc
 | k+1,c,acc,c',acc'=>∃R c1,mw R d∧c1.b=c.b∧c1.ok∧P c R c1∧mY P d k c1 (acc++R) c' acc'
theorem tj {P:Ab→List Ar→Ab→Prop}{d:Nat}(ih:∀c:Ab,c.ok→∃R c1,mw R d∧c1.b=c.b∧c1.ok∧P c R c1):∀(k:Nat) (c:Ab) (acc:List Ar),c.ok→∃c' acc',mY P d k c acc c' acc'
 | 0,c,acc,_=>⟨c,acc,rfl,rfl⟩
 | k+1,c,acc,hc=>by
  obtain⟨R,c1,h1,h2,h3,h4⟩:=ih c hc
  obtain⟨c',acc',h5⟩:=tj ih k c1 (acc++R) h3
  exact⟨c',acc',R,c1,h1,h2,h3,h4,h5⟩
theorem mH {P:Ab→List Ar→Ab→Prop}{d:Nat}:∀{k:Nat} {c c':Ab} {acc acc':List Ar},mY P d k c acc c' acc'→c.ok→c'.b=c.b∧c'.ok∧acc.length≤acc'.length∧acc'.length≤acc.length+k * 5 ^ d∧((∀t∈acc,t.fab.length≤8)→∀t∈acc',t.fab.length≤8)
 | 0,c,c',acc,acc',h,hc=>by
  obtain⟨rfl,rfl⟩:=h
  exact⟨rfl,hc,Nat.le_refl _,by omega,fun h=>h⟩
 | k+1,c,c',acc,acc',h,hc=>by
  obtain⟨R,c1,h1,h2,h3,_,h5⟩:=h
  obtain⟨g1,g2,g3,g4,g5⟩:=mH h5 h3
  rw[List.length_append]at g3 g4
  have hR:=h1.2.1
  refine⟨g1.trans h2,g2,by omega,by rw[Nat.add_mul];omega,fun H=>g5 fun t ht=>?_⟩
  rcases List.mem_append.1 ht with ht|ht
  ·exact H t ht
  ·exact h1.2.2 t ht
theorem xE {m:Int}{d:Nat}(h0:0≤m)(h1:m < 2 ^ (d+1))(hb:m≤1000):0≤IntKind.i64.wrap (m.tdiv 2)∧IntKind.i64.wrap (m.tdiv 2) < 2 ^ d∧IntKind.i64.wrap (m.tdiv 2)≤1000:=by
 rw[Int.tdiv_eq_ediv_of_nonneg h0,IntWalk.i64_in _ (by omega)]
 have:(2:Int) ^ (d+1)=2 * 2 ^ d:=by rw[Int.pow_succ];omega
 omega
theorem dw (vars names:List (List UInt8))(ars:List Int)(hv:vars.length≤100)(hn:names.length≤100)(ha:ars.length=names.length)(ha4:∀a∈ars,0≤a∧a≤4)(hv8:∀s∈vars,s.length≤8)(hn8:∀s∈names,s.length≤8):
  ∀(d:Nat) (m:Int) (c:Ab),d≤8→0≤m→m < 2 ^ d→m≤1000→c.ok→∃(R:List Ar) (c':Ab),mw R d∧c'.b=c.b∧c'.ok∧bt Try.prog 103 (uf m names ars) (xT vars c) (.r (.c (.own (1,0,0)))) (wE vars c' R)
 | d,m,c,hd,h0,h1,hm,hc=>by
  have p5d:=yg hd
  have hvl:(vars.map ah).length=vars.length:=by simp
  have hnl:(names.map ah).length=names.length:=by simp
  obtain⟨k,c1,k1,_,b1,o1,g1⟩:=aX c 10 hc
  by_cases hbin:2 < m∧k < 5
  ·cases d with
   | zero=>omega
   | succ d=>
    obtain⟨kd,c2,k2,_,b2,o2,g2⟩:=aX c1 5 o1
    obtain⟨q1,q2,q3⟩:=xE h0 h1 hm
    obtain⟨R3,c3,t3,b3,o3,g3⟩:=dw vars names ars hv hn ha ha4 hv8 hn8 d _ c2 (by omega) q1 q2 q3 o2
    obtain⟨R4,c4,t4,b4,o4,g4⟩:=dw vars names ars hv hn ha ha4 hv8 hn8 d _ c3 (by omega) q1 q2 q3 o3
    have p5:=nB d
    have p5':5 ^ (d+1)=5 * 5 ^ d:=by rw[Nat.pow_succ];omega
    have t3l:=t3.2.1
    have t4l:=t4.2.1
    refine⟨⟨2+kd,0,[]⟩::(R3++R4),c4,⟨by simp,?_,?_⟩,((b4.trans b3).trans b2).trans b1,o4,?_⟩
    ·have:=t3.2.1
     have:=t4.2.1
     rw[List.length_cons,List.length_append]
     omega
    ·intro t ht
     rcases List.mem_cons.1 ht with rfl|ht
     ·simp
     ·rcases List.mem_append.1 ht with ht|ht
      ·exact t3.2.2 t ht
      ·exact t4.2.2 t ht
    ·refine aq hΓ au Try.func103 rfl (by decide) rfl rfl ?_
     repeat' ((conv=>whnf);first|apply Wx|apply W6|apply oi|(apply fi<;>intro h)|refine⟨_,rfl,?_⟩|exact rfl)
     all_goals try exact⟨KP⟩
     refine cg (g1) ?_
     repeat' ((conv=>whnf);first|apply Wx|apply W6|apply oi|(apply fi<;>intro h)|refine⟨_,rfl,?_⟩|exact rfl)
     all_goals try exact⟨KP⟩
     all_goals try exact KX
     all_goals try(exfalso;simp at h;omega)
     refine cg (g2) ?_
     repeat' ((conv=>whnf);first|apply Wx|apply W6|apply oi|(apply fi<;>intro h)|refine⟨_,rfl,?_⟩|exact rfl)
     all_goals try exact⟨KP⟩
     refine cg (g3) ?_
     repeat' ((conv=>whnf);first|apply Wx|apply W6|apply oi|(apply fi<;>intro h)|refine⟨_,rfl,?_⟩|exact rfl)
     all_goals try exact⟨KP⟩
     all_goals try exact⟨⟨by simp <;> omega,by simp <;> omega⟩⟩
     refine cg (g4) ?_
     repeat' ((conv=>whnf);first|apply Wx|apply W6|apply oi|(apply fi<;>intro h)|refine⟨_,rfl,?_⟩|exact rfl)
     all_goals try exact⟨KP⟩
     all_goals try exact⟨⟨by simp <;> omega,by simp <;> omega⟩⟩
     all_goals exact⟨by rw[IntWalk.i64_in _ (by omega)];simp[Ar.tr]⟩
  ·by_cases hcall:0 < names.length∧1 < m∧k < 8
   ·cases d with
    | zero=>omega
    | succ d=>
     obtain⟨hc1,hc2,hc3⟩:=hcall
     obtain⟨f,c2,kf,_,b2,o2,g2⟩:=aX c1 ((names.map ah).length:Int) o1
     rw[hnl]at kf
     have hfn:f < names.length:=by have:=kf (by omega);omega
     obtain⟨nm,hnm⟩:=af hfn
     obtain⟨a,haf⟩:=af (l:=ars) (k:=f) (by omega)
     have hab:=ha4 a (List.mem_of_getElem? haf)
     obtain⟨an,rfl⟩:=Int.eq_ofNat_of_zero_le hab.1
     obtain⟨q1,q2,q3⟩:=xb h0 h1 hm
     have ih:=fun c hc=>dw vars names ars hv hn ha ha4 hv8 hn8 d (IntKind.i64.wrap (m.tdiv 4)) c (by omega) q1 q2 q3 hc
     have p5:=nB d
     have p5':5 ^ (d+1)=5 * 5 ^ d:=by rw[Nat.pow_succ];omega
     obtain⟨c',R,hch⟩:=tj (P:=fun c R c'=>bt Try.prog 103 (uf (IntKind.i64.wrap (m.tdiv 4)) names ars) (xT vars c) (.r (.c (.own (1,0,0)))) (wE vars c' R)) (d:=d) ih an c2 [⟨7,an,nm⟩] o2
     have hcp:=mH hch o2
     refine⟨R,c',⟨by have:=hcp.2.2.1;simp at this;omega,by have:=hcp.2.2.2.1;have h4:an * 5 ^ d≤4 * 5 ^ d:=Nat.mul_le_mul_right _ (by omega);simp at this;omega,hcp.2.2.2.2 (by intro t ht;simp at ht;subst ht;exact hn8 nm (List.mem_of_getElem? hnm))⟩,(hcp.1.trans b2).trans b1,hcp.2.1,?_⟩
     refine aq hΓ au Try.func103 rfl (by decide) rfl rfl ?_
     repeat' ((conv=>whnf);first|apply Wx|apply W6|apply oi|(apply fi<;>intro h)|refine⟨_,rfl,?_⟩|exact rfl)
     all_goals try exact⟨KP⟩
     refine cg (g1) ?_
     repeat' ((conv=>whnf);first|apply Wx|apply W6|apply oi|(apply fi<;>intro h)|refine⟨_,rfl,?_⟩|exact rfl)
     all_goals try exact⟨KP⟩
     all_goals try exact KX
     all_goals(
      refine cg (g2) ?_
      have hci:(ars.map ab).length=ars.length:=by simp
      repeat' ((conv=>whnf);first|apply Wx|apply W6|apply oi|(apply fi<;>intro h)|refine⟨f,(ab an),rfl,aa haf,?_⟩|refine⟨f,(ah nm),rfl,aa hnm,?_⟩|refine⟨_,rfl,?_⟩|exact rfl)
      all_goals try exact⟨KP⟩
      conv=>whnf
      refine⟨{q:Nat×Ab×List Ar // q.1≤an∧q.2.1.ok∧q.2.2.length≤1+q.1 * 5 ^ d∧mY (fun c R c'=>bt Try.prog 103 (uf (IntKind.i64.wrap (m.tdiv 4)) names ars) (xT vars c) (.r (.c (.own (1,0,0)))) (wE vars c' R)) d (an - q.1) q.2.1 q.2.2 c' R},fun q=>⟨[(0,gX),(1,tI .i64 m),(2,.r (.c (.own (0,0,1)))),(3,vN names),(4,.r (.c (.t (.lst 1 (ars.map ab))))),(13,tI .i64 (f:Int)),(14,.r (.c (.own (14,0,0)))),(15,tI .i64 (q.1.1:Int))],[((0,0,0),some (.box [.t (.lst 1 (q.1.2.1.b.map aI)),.t (.int .i64 q.1.2.1.i),.t (.int .i64 q.1.2.1.h)])),((0,0,1),some (.arr false 1 (vars.map ah))),((14,0,0),some (.arr false 3 (q.1.2.2.map Ar.tr)))],[14,0]⟩,fun q=>an - q.1.1,⟨(0,c2,[⟨7,an,nm⟩]),by dsimp only;omega,o2,by simp,hch⟩,?_,?_⟩
      ·skip
       repeat' ((conv=>whnf);first|apply Wx|apply W6|apply oi|(apply fi<;>intro h)|refine⟨_,rfl,?_⟩|exact rfl)
       all_goals try exact⟨KP⟩
      intro⟨⟨i,ci,acc⟩,r1,r2,r3,r4⟩
      dsimp only at r1 r2 r3 r4 ⊢
      by_cases hlt:i < an
      ·obtain⟨w,hw⟩:∃w,an - i=w+1:=⟨an - i - 1,by omega⟩
       rw[hw]at r4
       obtain⟨R5,c5,t5,b5,o5,g5,r5⟩:=r4
       have t5l:=t5.2.1
       have i5:i * 5 ^ d≤4 * 5 ^ d:=Nat.mul_le_mul_right _ (by omega)
       have i6:(i+1) * 5 ^ d=i * 5 ^ d+5 ^ d:=by rw[Nat.add_mul];omega
       repeat' ((conv=>whnf);first|apply Wx|apply W6|apply oi|(apply fi<;>intro h)|refine⟨f,(ab an),rfl,aa haf,?_⟩|refine⟨_,rfl,?_⟩|exact rfl)
       all_goals try exact⟨KP⟩
       all_goals try exact KX
       refine cg (g5) ?_
       repeat' ((conv=>whnf);first|apply Wx|apply W6|apply oi|(apply fi<;>intro h)|refine⟨_,rfl,?_⟩|exact rfl)
       all_goals try exact⟨KP⟩
       all_goals try exact⟨⟨by simp <;> omega,by simp <;> omega⟩⟩
       conv=>whnf
       refine⟨⟨(i+1,c5,acc++R5),by dsimp only;omega,o5,by simp;omega,by rw[show an - (i+1)=w by omega];exact r5⟩,?_,KD⟩
       repeat' ((conv=>whnf);first|apply Wx|apply W6|apply oi|(apply fi<;>intro h)|refine⟨_,rfl,?_⟩|exact rfl)
       all_goals try exact⟨KP⟩
       all_goals try exact⟨K2⟩
       all_goals exact⟨by simp⟩
      ·rw[show an - i=0 by omega]at r4
       obtain⟨rfl,rfl⟩:=r4
       repeat' ((conv=>whnf);first|apply Wx|apply W6|apply oi|(apply fi<;>intro h)|refine⟨f,(ab an),rfl,aa haf,?_⟩|refine⟨_,rfl,?_⟩|exact rfl)
       all_goals try exact⟨KP⟩
       all_goals try exact KX
     )
   ·have pick:∀c:Ab,c.ok→∃(v:Int) (c':Ab),c'.b=c.b∧c'.ok∧bt Try.prog 111 [gX,.r (.c (.own (0,0,1)))] (ij c++[((0,0,1),.arr false 1 (([0,1,2,3,10,999]:List Int).map ab))]) (tI .i64 v) (ij c'++[((0,0,1),.arr false 1 (([0,1,2,3,10,999]:List Int).map ab))]):=fun c hc=>by
     obtain⟨v,c',_,b,o,g⟩:=jP c [0,1,2,3,10,999] hc (by decide) (by decide)
     exact⟨v,c',b,o,g⟩
    have p5:=nB d
    have hsk:∀(t:Ar),t.fab.length≤8→mw [t] d:=fun t ht=>⟨by simp,by simpa using p5,by intro u hu;simp at hu;subst hu;exact ht⟩
    by_cases hvar:0 < vars.length
    ·obtain⟨o,c2,b2,o2,g2⟩:=dv c1 2 o1
     cases o with
     | true=>
      obtain⟨f,c3,kf,_,b3,o3,g3⟩:=aX c2 ((vars.map ah).length:Int) o2
      rw[hvl]at kf
      have hfn:f < vars.length:=by have:=kf (by omega);omega
      obtain⟨nm,hnm⟩:=af hfn
      have hfl:f < (vars.map ah).length:=by rw[hvl];exact hfn
      refine⟨[⟨1,0,nm⟩],c3,hsk _ (hv8 nm (List.mem_of_getElem? hnm)),(b3.trans b2).trans b1,o3,?_⟩
      refine aq hΓ au Try.func103 rfl (by decide) rfl rfl ?_
      repeat' ((conv=>whnf);first|apply Wx|apply W6|apply oi|(apply fi<;>intro h)|refine⟨_,rfl,?_⟩|exact rfl)
      all_goals try exact⟨KP⟩
      refine cg (g1) ?_
      repeat' ((conv=>whnf);first|apply Wx|apply W6|apply oi|(apply fi<;>intro h)|refine⟨_,rfl,?_⟩|exact rfl)
      all_goals try exact⟨KP⟩
      all_goals try exact KX
      all_goals try(exfalso;simp at h;omega)
      all_goals(
       refine cg (g2) ?_
       repeat' ((conv=>whnf);first|apply Wx|apply W6|apply oi|(apply fi<;>intro h)|refine⟨_,rfl,?_⟩|exact rfl)
       all_goals try exact⟨KP⟩
       refine cg (g3) ?_
       repeat' ((conv=>whnf);first|apply Wx|apply W6|apply oi|(apply fi<;>intro h)|refine⟨f,rfl,hfl,?_⟩|refine⟨(ah nm),aa hnm,?_⟩|refine⟨_,rfl,?_⟩|exact rfl)
       all_goals try exact⟨KP⟩
      )
     | false=>
      obtain⟨v,c3,b3,o3,g3⟩:=pick c2 o2
      refine⟨[⟨0,v,[]⟩],c3,hsk _ (by simp),(b3.trans b2).trans b1,o3,?_⟩
      refine aq hΓ au Try.func103 rfl (by decide) rfl rfl ?_
      repeat' ((conv=>whnf);first|apply Wx|apply W6|apply oi|(apply fi<;>intro h)|refine⟨_,rfl,?_⟩|exact rfl)
      all_goals try exact⟨KP⟩
      refine cg (g1) ?_
      repeat' ((conv=>whnf);first|apply Wx|apply W6|apply oi|(apply fi<;>intro h)|refine⟨_,rfl,?_⟩|exact rfl)
      all_goals try exact⟨KP⟩
      all_goals try exact KX
      all_goals try(exfalso;simp at h;omega)
      all_goals(
       refine cg (g2) ?_
       repeat' ((conv=>whnf);first|apply Wx|apply W6|apply oi|(apply fi<;>intro h)|refine⟨_,rfl,?_⟩|exact rfl)
       all_goals try exact⟨KP⟩
       refine cg (g3) ?_
       repeat' ((conv=>whnf);first|apply Wx|apply W6|apply oi|(apply fi<;>intro h)|refine⟨_,rfl,?_⟩|exact rfl)
       all_goals try exact⟨KP⟩
      )
    ·obtain⟨v,c3,b3,o3,g3⟩:=pick c1 o1
     refine⟨[⟨0,v,[]⟩],c3,hsk _ (by simp),b3.trans b1,o3,?_⟩
     refine aq hΓ au Try.func103 rfl (by decide) rfl rfl ?_
     repeat' ((conv=>whnf);first|apply Wx|apply W6|apply oi|(apply fi<;>intro h)|refine⟨_,rfl,?_⟩|exact rfl)
     all_goals try exact⟨KP⟩
     refine cg (g1) ?_
     repeat' ((conv=>whnf);first|apply Wx|apply W6|apply oi|(apply fi<;>intro h)|refine⟨_,rfl,?_⟩|exact rfl)
     all_goals try exact⟨KP⟩
     all_goals try exact KX
     all_goals try(exfalso;simp at h;omega)
     all_goals(
      refine cg (g3) ?_
      repeat' ((conv=>whnf);first|apply Wx|apply W6|apply oi|(apply fi<;>intro h)|refine⟨_,rfl,?_⟩|exact rfl)
      all_goals try exact⟨KP⟩
     )
termination_by d=>d
def xn (h:Int)(u:UInt8):Int:=IntKind.i64.wrap ((BitVec.ofInt IntKind.i64.bits (IntKind.i64.wrap (IntKind.i64.wrap (IntKind.i64.wrap (h * 131)+IntKind.i64.wrap (u.toNat:Int))+7)) &&& BitVec.ofInt IntKind.i64.bits 1073741823).toNat:Int)
def uD (code:List UInt8):Int:=(code.take 4000).foldl xn (IntKind.i64.wrap (33147+((code.map aI).length:Int)))
theorem pw (code:List UInt8)(hl:code.length≤1048576):bt Try.prog 46 [.r (.c (.t (.lst 1 (code.map aI))))] [] (.r (.c (.ptr (1,0,0) 0))) [((1,0,0),.box [.t (.lst 1 (code.map aI)),.t (.int .i64 0),.t (.int .i64 (uD code))])]:=by
 refine aq hΓ au Try.func46 rfl (by decide) rfl rfl ?_
 have hlen:(code.map aI).length=code.length:=by simp
 obtain⟨H,hH⟩:∃H,uD code=H:=⟨_,rfl⟩
 rw[hH]
 have ht:(code.take 4000).length≤4000:=by simp;omega
 repeat' ((conv=>whnf);first|apply Wx|apply W6|apply oi|(apply fi<;>intro h)|refine⟨_,rfl,?_⟩|exact rfl)
 all_goals try exact⟨KP⟩
 conv=>whnf
 refine⟨{q:Nat×Int // q.1≤code.length∧((code.take 4000).drop q.1).foldl xn q.2=H},fun q=>⟨[(0,.r (.c (.t (.lst 1 (code.map aI))))),(3,tI .i64 q.1.2),(4,tI .i64 (q.1.1:Int))],[],[0]⟩,fun q=>code.length - q.1.1,⟨(0,IntKind.i64.wrap (33147+((code.map aI).length:Int))),by dsimp only;omega,hH⟩,?_,?_⟩
 ·skip
  repeat' ((conv=>whnf);first|apply Wx|apply W6|apply oi|(apply fi<;>intro h)|refine⟨_,rfl,?_⟩|exact rfl)
  all_goals try exact⟨KP⟩
 intro⟨⟨i,hv⟩,hi,hr⟩
 dsimp only at hi hr ⊢
 by_cases hlt:i < code.length∧i < 4000
 ·obtain⟨u,hu⟩:=af hlt.1
  rw[eA (x:=u) (by rw[List.getElem?_take,if_pos hlt.2];exact hu),List.foldl_cons]at hr
  repeat' ((conv=>whnf);first|apply Wx|apply W6|apply oi|(apply fi<;>intro h)|refine⟨i,(aI u),rfl,aa hu,?_⟩|refine⟨_,rfl,?_⟩|exact rfl)
  all_goals try exact⟨KP⟩
  all_goals try exact KX
  conv=>whnf
  refine⟨⟨(i+1,xn hv u),by dsimp only;omega,hr⟩,?_,KD⟩
  repeat' ((conv=>whnf);first|apply Wx|apply W6|apply oi|(apply fi<;>intro h)|refine⟨_,rfl,?_⟩|exact rfl)
  all_goals try exact⟨KP⟩
  all_goals try exact⟨K2⟩
  all_goals exact⟨rfl⟩
 ·rw[List.drop_eq_nil_of_le (by simp;omega)]at hr
  have hr:hv=H:=hr
  subst hr
  repeat' ((conv=>whnf);first|apply Wx|apply W6|apply oi|(apply fi<;>intro h)|refine⟨_,rfl,?_⟩|exact rfl)
  all_goals try exact⟨KP⟩
  all_goals try exact KX
abbrev yI (vars names:List (List UInt8))(ars:List Int)(c:Ab):List (Sim.Id×AO):=[((0,0,0),.box [.ptr (0,0,1) 0,.own (0,0,2),.t (.lst 1 (names.map ah)),.t (.lst 1 (ars.map ab))]),((0,0,1),.box [.t (.lst 1 (c.b.map aI)),.t (.int .i64 c.i),.t (.int .i64 c.h)]),((0,0,2),.arr false 1 (vars.map ah))]
theorem kM (vars names:List (List UInt8))(ars:List Int)(hv:vars.length≤100)(hn:names.length≤100)(ha:ars.length=names.length)(ha4:∀a∈ars,0≤a∧a≤4)(hv8:∀s∈vars,s.length≤8)(hn8:∀s∈names,s.length≤8)
  (d:Nat) (m:Int) (c:Ab) (hd:d≤8) (h0:0≤m) (h1:m < 2 ^ d) (hm:m≤1000) (hc:c.ok):∃(R:List Ar) (c':Ab),mw R d∧c'.b=c.b∧c'.ok∧bt Try.prog 80 [gX,tI .i64 m] (yI vars names ars c) (.r (.c (.own (1,0,0)))) (yI vars names ars c'++[((1,0,0),.arr false 3 (R.map Ar.tr))]):=by
 obtain⟨R,c',t1,b1,o1,g1⟩:=dw vars names ars hv hn ha ha4 hv8 hn8 d m c hd h0 h1 hm hc
 refine⟨R,c',t1,b1,o1,?_⟩
 refine aq hΓ au Try.func80 rfl (by decide) rfl rfl ?_
 repeat' ((conv=>whnf);first|apply Wx|apply W6|apply oi|(apply fi<;>intro h)|refine⟨_,rfl,?_⟩|exact rfl)
 all_goals try exact⟨KP⟩
 refine cg (g1) ?_
 repeat' ((conv=>whnf);first|apply Wx|apply W6|apply oi|(apply fi<;>intro h)|refine⟨_,rfl,?_⟩|exact rfl)
 all_goals try exact⟨KP⟩
noncomputable section
open Classical (propDecidable)
attribute [local instance] propDecidable
def aZ (n:Int)(c:Ab):Nat×Ab:=if h:c.ok then(Classical.choose (aX c n h),Classical.choose (Classical.choose_spec (aX c n h)))else(0,c)
theorem aT {c:Ab}(h:c.ok)(n:Int):(0 < n→((aZ n c).1:Int) < n)∧(aZ n c).2.b=c.b∧(aZ n c).2.ok∧bt Try.prog 77 [gX,tI .i64 n] (ij c) (tI .i64 (aZ n c).1) (ij (aZ n c).2):=by
 rw[aZ,dif_pos h]
 have:=Classical.choose_spec (Classical.choose_spec (aX c n h))
 exact⟨this.1,this.2.2.1,this.2.2.2.1,this.2.2.2.2⟩
def eR (n:Int)(c:Ab):Bool×Ab:=if h:c.ok then(Classical.choose (dv c n h),Classical.choose (Classical.choose_spec (dv c n h)))else(false,c)
theorem dK {c:Ab}(h:c.ok)(n:Int):(eR n c).2.b=c.b∧(eR n c).2.ok∧bt Try.prog 78 [gX,tI .i64 n] (ij c) (tB (eR n c).1) (ij (eR n c).2):=by
 rw[eR,dif_pos h]
 exact Classical.choose_spec (Classical.choose_spec (dv c n h))
structure GP where
 vars:List (List UInt8)
 names:List (List UInt8)
 ars:List Int
structure GP.ok (G:GP):Prop where
 v1:0 < G.vars.length
 v:G.vars.length≤100
 n:G.names.length≤100
 a:G.ars.length=G.names.length
 a4:∀a∈G.ars,0≤a∧a≤4
 v8:∀s∈G.vars,s.length≤8
 n8:∀s∈G.names,s.length≤8
abbrev gH (G:GP)(c:Ab):List (Sim.Id×AO):=yI G.vars G.names G.ars c
theorem gex {G:GP}(hG:G.ok){c:Ab}(hc:c.ok)(m:Nat)(hm:m < 8):∃(R:List Ar) (c':Ab),mw R 3∧c'.b=c.b∧c'.ok∧bt Try.prog 80 [gX,tI .i64 (m:Int)] (gH G c) (.r (.c (.own (1,0,0)))) (gH G c'++[((1,0,0),.arr false 3 (R.map Ar.tr))]):=
 kM G.vars G.names G.ars hG.v hG.n hG.a hG.a4 hG.v8 hG.n8 3 (m:Int) c (by omega) (by omega) (by show(m:Int) < 8;omega) (by omega) hc
def exV (G:GP)(m:Nat)(c:Ab):List Ar×Ab:=if h:G.ok∧c.ok∧m < 8 then(Classical.choose (gex h.1 h.2.1 m h.2.2),Classical.choose (Classical.choose_spec (gex h.1 h.2.1 m h.2.2)))else([],c)
theorem cf {G:GP}(hG:G.ok){c:Ab}(hc:c.ok)(m:Nat)(hm:m < 8):mw (exV G m c).1 3∧(exV G m c).2.b=c.b∧(exV G m c).2.ok∧bt Try.prog 80 [gX,tI .i64 (m:Int)] (gH G c) (.r (.c (.own (1,0,0)))) (gH G (exV G m c).2++[((1,0,0),.arr false 3 ((exV G m c).1.map Ar.tr))]):=by
 rw[exV,dif_pos ⟨hG,hc,hm⟩]
 exact Classical.choose_spec (Classical.choose_spec (gex hG hc m hm))
def eZ (G:GP)(rc:Nat→Ab→List Ai×Ab)(dp:Bool)(c:Ab):List Ai×Ab:=
 let k:=(aZ 9 c).1
 let c1:=(aZ 9 c).2
 if k < 4 then
  let v:=aZ G.vars.length c1
  let e:=exV G 6 v.2
  ([⟨1,G.vars[v.1]?.getD [],[],e.1⟩],e.2)
 else if k < 6 then
  let e:=exV G 5 c1
  ([⟨2,[],[],e.1⟩],e.2)
 else if k=6∧dp=true then
  let e:=exV G 4 c1
  let t:=aZ 2 e.2
  let B:=rc (1+t.1) t.2
  let o:=eR 2 B.2
  if o.1=true then
   let E:=rc 1 o.2
   (⟨3,[],[],e.1⟩::(B.1++(⟨4,[],[],[]⟩::(E.1++[⟨7,[],[],[]⟩]))),E.2)
  else(⟨3,[],[],e.1⟩::(B.1++[⟨7,[],[],[]⟩]),o.2)
 else if k=7∧dp=true then
  let t:=aZ 3 c1
  let B:=rc 1 t.2
  (⟨5,[],[],[⟨5,0,[]⟩,⟨1,0,[105]⟩,⟨0,(1+t.1:Nat),[]⟩]⟩::(B.1++[⟨1,[105],[],[⟨2,0,[]⟩,⟨1,0,[105]⟩,⟨0,1,[]⟩]⟩,⟨7,[],[],[]⟩]),B.2)
 else
  let o:=eR 3 c1
  if o.1=true then
   let e:=exV G 4 o.2
   ([⟨6,[],[],e.1⟩],e.2)
  else([],o.2)
def gW (G:GP)(rc:Nat→Ab→List Ai×Ab)(dp:Bool):Nat→Ab→List Ai×Ab
 | 0,c=>([],c)
 | n+1,c=>((eZ G rc dp c).1++(gW G rc dp n (eZ G rc dp c).2).1,(gW G rc dp n (eZ G rc dp c).2).2)
def mJ (G:GP):Nat→Nat→Ab→List Ai×Ab
 | 0=>gW G (fun _ c=>([],c)) false
 | d+1=>gW G (mJ G d) true
end
def sB:Nat→Nat
 | 0=>1
 | d+1=>3+3 * sB d
structure BL (x:Ai):Prop where
 name:x.fab.length≤8
 args:x.fad=[]
 len:x.fac.length≤125
 tok:∀t∈x.fac,t.fab.length≤8
 kind:1≤x.faa∧x.faa≤7
structure RcOk (s:Nat) (rc:Nat→Ab→List Ai×Ab):Prop where
 len:∀n c,c.ok→(rc n c).1.length≤n * s
 b:∀n c,c.ok→(rc n c).2.b=c.b
 ok:∀n c,c.ok→(rc n c).2.ok
 bl:∀n c,c.ok→∀x∈(rc n c).1,BL x
theorem pS {k:Int}{n:List UInt8}{e:List Ar}(hn:n.length≤8)(h:mw e 3)(hk:1≤k∧k≤7:=by omega):BL ⟨k,n,[],e⟩:=⟨hn,rfl,h.2.1,h.2.2,hk⟩
theorem ow {k:Int}(hk:1≤k∧k≤7:=by omega):BL ⟨k,[],[],[]⟩:=⟨by simp,rfl,by simp,by simp,hk⟩
theorem ry {G:GP}(hG:G.ok){s:Nat}{rc:Nat→Ab→List Ai×Ab}{dp:Bool}(h:dp=true→RcOk s rc){c:Ab}(hc:c.ok):
  (eZ G rc dp c).1.length≤3+3 * s∧(dp=false→(eZ G rc dp c).1.length≤1)∧(eZ G rc dp c).2.b=c.b∧(eZ G rc dp c).2.ok∧∀x∈(eZ G rc dp c).1,BL x:=by
 obtain⟨k1,b1,o1,_⟩:=aT hc 9
 unfold eZ
 dsimp only
 generalize(aZ 9 c).1=k at *
 generalize(aZ 9 c).2=c1 at *
 split
 ·obtain⟨k2,b2,o2,_⟩:=aT o1 (G.vars.length:Int)
  obtain⟨t3,b3,o3,_⟩:=cf hG o2 6 (by omega)
  refine⟨by simp;omega,fun _=>by simp,(b3.trans b2).trans b1,o3,fun x hx=>?_⟩
  simp only[List.mem_singleton]at hx
  subst hx
  refine pS ?_ t3
  cases hv:G.vars[(aZ (G.vars.length:Int) c1).1]? with
  | none=>simp
  | some v=>exact hG.v8 v (List.mem_of_getElem? hv)
 split
 ·obtain⟨t3,b3,o3,_⟩:=cf hG o1 5 (by omega)
  refine⟨by simp;omega,fun _=>by simp,b3.trans b1,o3,fun x hx=>?_⟩
  simp only[List.mem_singleton]at hx
  subst hx
  exact pS (by simp) t3
 split
 ·rename_i hk
  have hr:=h hk.2
  obtain⟨t3,b3,o3,_⟩:=cf hG o1 4 (by omega)
  obtain⟨k4,b4,o4,_⟩:=aT o3 2
  have hl:=hr.len (1+(aZ 2 (exV G 4 c1).2).1) _ o4
  have hbb:=hr.b (1+(aZ 2 (exV G 4 c1).2).1) _ o4
  have hob:=hr.ok (1+(aZ 2 (exV G 4 c1).2).1) _ o4
  have hbl:=hr.bl (1+(aZ 2 (exV G 4 c1).2).1) _ o4
  have k4':=k4 (by omega)
  have hl2:(rc (1+(aZ 2 (exV G 4 c1).2).1) (aZ 2 (exV G 4 c1).2).2).1.length≤2 * s:=Nat.le_trans hl (Nat.mul_le_mul_right _ (by omega))
  generalize rc (1+(aZ 2 (exV G 4 c1).2).1) (aZ 2 (exV G 4 c1).2).2=B at *
  obtain⟨b5,o5,_⟩:=dK hob 2
  split
  ·have hl3:=hr.len 1 _ o5
   have hb3:=hr.b 1 _ o5
   have ho3:=hr.ok 1 _ o5
   have hx3:=hr.bl 1 _ o5
   generalize rc 1 (eR 2 B.2).2=E at *
   refine⟨by simp;omega,(fun e=>by rw[e]at hk;cases hk.2),((((hb3.trans b5).trans hbb).trans b4).trans b3).trans b1,ho3,fun x hx=>?_⟩
   simp only[List.mem_cons,List.mem_append,List.not_mem_nil,or_false]at hx
   rcases hx with rfl|hx|rfl|hx|rfl
   ·exact pS (by simp) t3
   ·exact hbl x hx
   ·exact ow
   ·exact hx3 x hx
   ·exact ow
  ·refine⟨by simp;omega,(fun e=>by rw[e]at hk;cases hk.2),(((b5.trans hbb).trans b4).trans b3).trans b1,o5,fun x hx=>?_⟩
   simp only[List.mem_cons,List.mem_append,List.not_mem_nil,or_false]at hx
   rcases hx with rfl|hx|rfl
   ·exact pS (by simp) t3
   ·exact hbl x hx
   ·exact ow
 split
 ·rename_i hk
  have hr:=h hk.2
  obtain⟨k4,b4,o4,_⟩:=aT o1 3
  have hl3:=hr.len 1 _ o4
  have hb3:=hr.b 1 _ o4
  have ho3:=hr.ok 1 _ o4
  have hx3:=hr.bl 1 _ o4
  generalize rc 1 (aZ 3 c1).2=B at *
  refine⟨by simp;omega,(fun e=>by rw[e]at hk;cases hk.2),(hb3.trans b4).trans b1,ho3,fun x hx=>?_⟩
  simp only[List.mem_cons,List.mem_append,List.not_mem_nil,or_false]at hx
  rcases hx with rfl|hx|rfl|rfl
  ·exact⟨by simp,rfl,by simp,by simp,by simp⟩
  ·exact hx3 x hx
  ·exact⟨by simp,rfl,by simp,by simp,by simp⟩
  ·exact ow
 ·obtain⟨b5,o5,_⟩:=dK o1 3
  split
  ·obtain⟨t3,b3,o3,_⟩:=cf hG o5 4 (by omega)
   refine⟨by simp;omega,fun _=>by simp,(b3.trans b5).trans b1,o3,fun x hx=>?_⟩
   simp only[List.mem_singleton]at hx
   subst hx
   exact pS (by simp) t3
  ·exact⟨by simp,fun _=>by simp,b5.trans b1,o5,fun x hx=>by cases hx⟩
theorem wX {G:GP}{rc:Nat→Ab→List Ai×Ab}{dp:Bool}{s:Nat}(hs:∀c:Ab,c.ok→(eZ G rc dp c).1.length≤s∧(eZ G rc dp c).2.b=c.b∧(eZ G rc dp c).2.ok∧∀x∈(eZ G rc dp c).1,BL x):RcOk s (gW G rc dp):=by
 have key:∀n c,c.ok→(gW G rc dp n c).1.length≤n * s∧(gW G rc dp n c).2.b=c.b∧(gW G rc dp n c).2.ok∧∀x∈(gW G rc dp n c).1,BL x:=by
  intro n
  induction n with
  | zero=>exact fun c hc=>⟨by simp[gW],rfl,hc,fun x hx=>by simp[gW]at hx⟩
  | succ n ih=>
   intro c hc
   obtain⟨h1,h2,h3,h4⟩:=hs c hc
   obtain⟨i1,i2,i3,i4⟩:=ih _ h3
   rw[gW]
   refine⟨by simp only[List.length_append];rw[Nat.succ_mul];omega,i2.trans h2,i3,fun x hx=>?_⟩
   rcases List.mem_append.1 hx with hx|hx
   ·exact h4 x hx
   ·exact i4 x hx
 exact⟨fun n c hc=>(key n c hc).1,fun n c hc=>(key n c hc).2.1,fun n c hc=>(key n c hc).2.2.1,fun n c hc=>(key n c hc).2.2.2⟩
theorem ji {G:GP}(hG:G.ok):∀d,RcOk (sB d) (mJ G d)
 | 0=>wX fun c hc=>by
  have:=ry hG (s:=0) (rc:=fun _ c=>([],c)) (dp:=false) (fun e=>by cases e) hc
  exact⟨this.2.1 rfl,this.2.2⟩
 | d+1=>wX fun c hc=>by
  have:=ry hG (dp:=true) (fun _=>ji hG d) hc
  exact⟨this.1,this.2.2⟩
end Go.Proofs.Ytjmplnfiabmalaa
namespace Go.Proofs.Ytjmplnfiabmalaa
open Go.Sim
set_option maxRecDepth 100000
set_option maxHeartbeats 4000000
def dr (x:Ai):List DC:=match x.fac with
 | []=>[.t (.int .i64 x.faa),.t (.str x.fab),.t (.lst 0 []),.t (.lst 0 [])]
 | t::l=>[.d (.int .i64 x.faa),.d (.str x.fab),.d (.lst 0 []),.d (.lst 3 ((t::l).map Ar.tr))]
theorem lC (k:Int)(n:List UInt8)(a:List (List UInt8)):dr ⟨k,n,a,[]⟩=[.t (.int .i64 k),.t (.str n),.t (.lst 0 []),.t (.lst 0 [])]:=rfl
theorem ya (k:Int)(n:List UInt8)(a:List (List UInt8))(t:Ar)(l:List Ar):dr ⟨k,n,a,t::l⟩=[.d (.int .i64 k),.d (.str n),.d (.lst 0 []),.d (.lst 3 ((t::l).map Ar.tr))]:=rfl
theorem il {e:List Ar}(h:0 < e.length)(k:Int)(n:List UInt8)(a:List (List UInt8)):dr ⟨k,n,a,e⟩=[.d (.int .i64 k),.d (.str n),.d (.lst 0 []),.d (.lst 3 (e.map Ar.tr))]:=by
 cases e with
 | nil=>cases h
 | cons t l=>rfl
abbrev wh (G:GP)(n:Nat)(d:Int)(c:Ab)(R:List Ai×Ab):Prop:=bt Try.prog 79 [gX,tI .i64 (n:Int),tI .i64 d] (gH G c) (.r (.c (.own (1,0,0)))) (gH G R.2++[((1,0,0),.dar 4 (R.1.map dr) none)])
theorem yk {G:GP}(hG:G.ok){rc:Nat→Ab→List Ai×Ab}{dp:Bool}{s d:Nat}(hd:d≤5)(hdp:dp=decide (0 < d))(hs:3+3 * s≤1000)(hR:dp=true→RcOk s rc)(hrc:dp=true→∀n c,n≤2→c.ok→wh G n ((d:Int) - 1) c (rc n c))(n:Nat)(c:Ab)(hn:n≤4)(hc:c.ok):
  wh G n d c (gW G rc dp n c):=by
 refine aq hΓ au Try.func79 rfl (by decide) rfl rfl ?_
 obtain⟨R,c',hRR⟩:∃R c',gW G rc dp n c=(R,c'):=⟨_,_,rfl⟩
 rw[hRR]
 have hvl:(G.vars.map ah).length=G.vars.length:=by simp
 repeat' ((conv=>whnf);first|apply Wx|apply W6|apply oi|(apply fi<;>intro h)|refine⟨_,rfl,?_⟩|exact rfl)
 all_goals try exact⟨KP⟩
 conv=>whnf
 refine⟨{q:Nat×Ab×List Ai // q.1≤n∧q.2.1.ok∧q.2.2.length+q.1 * 1000≤4000∧q.2.2++(gW G rc dp q.1 q.2.1).1=R∧(gW G rc dp q.1 q.2.1).2=c'},fun q=>⟨[(0,gX),(1,tI .i64 (q.1.1:Int)),(2,tI .i64 (d:Int)),(7,.r (.c (.own (10,0,0))))],[((0,0,0),some (.box [.ptr (0,0,1) 0,.own (0,0,2),.t (.lst 1 (G.names.map ah)),.t (.lst 1 (G.ars.map ab))])),((0,0,1),some (.box [.t (.lst 1 (q.1.2.1.b.map aI)),.t (.int .i64 q.1.2.1.i),.t (.int .i64 q.1.2.1.h)])),((0,0,2),some (.arr false 1 (G.vars.map ah))),((10,0,0),some (.dar 4 (q.1.2.2.map dr) none))],[10,0]⟩,fun q=>q.1.1,⟨(n,c,[]),by dsimp only;omega,hc,by simp;omega,by rw[hRR];rfl,by rw[hRR]⟩,?_,?_⟩
 ·skip
  repeat' ((conv=>whnf);first|apply Wx|apply W6|apply oi|(apply fi<;>intro h)|refine⟨_,rfl,?_⟩|exact rfl)
  all_goals try exact⟨KP⟩
  all_goals try exact⟨rfl⟩
 intro⟨⟨rem,ci,acc⟩,hi,hci,hal,hr1,hr2⟩
 dsimp only at hi hci hal hr1 hr2 ⊢
 cases rem with
 | zero=>
  simp only[gW,List.append_nil]at hr1 hr2
  subst hr1;subst hr2
  repeat' ((conv=>whnf);first|apply Wx|apply W6|apply oi|(apply fi<;>intro h)|refine⟨_,rfl,?_⟩|exact rfl)
  all_goals try exact⟨KP⟩
  all_goals try exact KX
 | succ m=>
  rw[gW]at hr1 hr2
  dsimp only at hr1 hr2
  obtain⟨s1,_,s3,s4,_⟩:=ry hG hR hci
  generalize hS:eZ G rc dp ci=S at *
  obtain⟨k1,b1,o1,g1⟩:=aT hci 9
  unfold eZ at hS
  dsimp only at hS
  generalize aZ 9 ci=q at *
  rw[←List.append_assoc]at hr1
  have hlen:(acc++S.1).length+m * 1000≤4000:=by rw[List.length_append];omega
  by_cases hk4:q.1 < 4
  ·rw[if_pos hk4]at hS
   obtain⟨k2,b2,o2,g2⟩:=aT o1 (G.vars.length:Int)
   obtain⟨t3,b3,o3,g3⟩:=cf hG o2 6 (by omega)
   generalize aZ (G.vars.length:Int) q.2=v at *
   generalize exV G 6 v.2=e at *
   subst hS
   have kv:=hG.v1
   have hvv:v.1 < (G.vars.map ah).length:=by have:=k2 (by omega);omega
   obtain⟨nm,hnm⟩:=af (l:=G.vars) (k:=v.1) (by omega)
   have hvg:(G.vars.map ah)[v.1]?=some (ah nm):=aa hnm
   rw[hvl.symm]at g2
   repeat' ((conv=>whnf);first|apply Wx|apply W6|apply oi|(apply fi<;>intro h)|refine⟨_,rfl,?_⟩|exact rfl)
   all_goals try exact⟨KP⟩
   refine cg (g1) ?_
   repeat' ((conv=>whnf);first|apply Wx|apply W6|apply oi|(apply fi<;>intro h)|refine⟨_,rfl,?_⟩|exact rfl)
   all_goals try exact⟨KP⟩
   all_goals try exact KX
   refine cg (g2) ?_
   repeat' ((conv=>whnf);first|apply Wx|apply W6|apply oi|(apply fi<;>intro h)|refine⟨_,rfl,hvv,?_⟩|refine⟨_,hvg,?_⟩|refine⟨_,rfl,?_⟩|exact rfl)
   all_goals try exact⟨KP⟩
   refine cg (g3) ?_
   repeat' ((conv=>whnf);first|apply Wx|apply W6|apply oi|(apply fi<;>intro h)|refine⟨_,rfl,?_⟩|exact rfl)
   all_goals try exact⟨KP⟩
   all_goals try exact⟨aQ _⟩
   all_goals try exact⟨⟨by simp <;> omega,by simp <;> omega⟩⟩
   all_goals try exact⟨KW⟩
   conv=>whnf
   refine⟨⟨(m,_,_),by dsimp only;omega,s4,hlen,hr1,hr2⟩,?_,KD⟩
   repeat' ((conv=>whnf);first|apply Wx|apply W6|apply oi|(apply fi<;>intro h)|refine⟨_,rfl,?_⟩|exact rfl)
   all_goals try exact⟨KP⟩
   all_goals try exact⟨K7⟩
   all_goals exact⟨by simp[il t3.1,hnm]⟩
  rw[if_neg hk4]at hS
  by_cases hk6:q.1 < 6
  ·rw[if_pos hk6]at hS
   obtain⟨t3,b3,o3,g3⟩:=cf hG o1 5 (by omega)
   generalize exV G 5 q.2=e at *
   subst hS
   repeat' ((conv=>whnf);first|apply Wx|apply W6|apply oi|(apply fi<;>intro h)|refine⟨_,rfl,?_⟩|exact rfl)
   all_goals try exact⟨KP⟩
   refine cg (g1) ?_
   repeat' ((conv=>whnf);first|apply Wx|apply W6|apply oi|(apply fi<;>intro h)|refine⟨_,rfl,?_⟩|exact rfl)
   all_goals try exact⟨KP⟩
   all_goals try exact KX
   refine cg (g3) ?_
   repeat' ((conv=>whnf);first|apply Wx|apply W6|apply oi|(apply fi<;>intro h)|refine⟨_,rfl,?_⟩|exact rfl)
   all_goals try exact⟨KP⟩
   all_goals try exact⟨aQ _⟩
   all_goals try exact⟨⟨by simp <;> omega,by simp <;> omega⟩⟩
   all_goals try exact⟨KW⟩
   conv=>whnf
   refine⟨⟨(m,_,_),by dsimp only;omega,s4,hlen,hr1,hr2⟩,?_,KD⟩
   repeat' ((conv=>whnf);first|apply Wx|apply W6|apply oi|(apply fi<;>intro h)|refine⟨_,rfl,?_⟩|exact rfl)
   all_goals try exact⟨KP⟩
   all_goals try exact⟨K7⟩
   all_goals exact⟨by simp[il t3.1]⟩
  rw[if_neg hk6]at hS
  by_cases hk7:q.1=6∧dp=true
  ·rw[if_pos hk7]at hS
   obtain⟨hk7,hdt⟩:=hk7
   have hd0:0 < d:=by rw[hdp]at hdt;exact of_decide_eq_true hdt
   have hRo:=hR hdt
   obtain⟨t3,b3,o3,g3⟩:=cf hG o1 4 (by omega)
   generalize exV G 4 q.2=e at *
   obtain⟨k4,b4,o4,g4⟩:=aT o3 2
   generalize aZ 2 e.2=t at *
   have g5:=hrc hdt (1+t.1) t.2 (by have:=k4 (by omega);omega) o4
   have l5:=hRo.len (1+t.1) t.2 o4
   have ob5:=hRo.ok (1+t.1) t.2 o4
   have l5':(rc (1+t.1) t.2).1.length≤2 * s:=Nat.le_trans l5 (Nat.mul_le_mul_right _ (by have:=k4 (by omega);omega))
   generalize rc (1+t.1) t.2=B at *
   obtain⟨b6,o6,g6⟩:=dK ob5 2
   generalize eR 2 B.2=o at *
   cases ho:o.1 with
   | true=>
    rw[if_pos ho]at hS
    rw[ho]at g6
    have g7:=hrc hdt 1 o.2 (by omega) o6
    have l7:=hRo.len 1 o.2 o6
    generalize rc 1 o.2=E at *
    subst hS
    repeat' ((conv=>whnf);first|apply Wx|apply W6|apply oi|(apply fi<;>intro h)|refine⟨_,rfl,?_⟩|exact rfl)
    all_goals try exact⟨KP⟩
    refine cg (g1) ?_
    repeat' ((conv=>whnf);first|apply Wx|apply W6|apply oi|(apply fi<;>intro h)|refine⟨_,rfl,?_⟩|exact rfl)
    all_goals try exact⟨KP⟩
    all_goals try exact KK
    refine cg (g3) ?_
    repeat' ((conv=>whnf);first|apply Wx|apply W6|apply oi|(apply fi<;>intro h)|refine⟨_,rfl,?_⟩|exact rfl)
    all_goals try exact⟨KP⟩
    all_goals try exact⟨aQ _⟩
    all_goals try exact⟨⟨by simp <;> omega,by simp <;> omega⟩⟩
    all_goals try exact⟨KW⟩
    refine cg (g4) ?_
    repeat' ((conv=>whnf);first|apply Wx|apply W6|apply oi|(apply fi<;>intro h)|refine⟨_,rfl,?_⟩|exact rfl)
    all_goals try exact⟨KP⟩
    all_goals try exact⟨aQ _⟩
    all_goals try exact⟨⟨by simp <;> omega,by simp <;> omega⟩⟩
    all_goals try exact⟨KW⟩
    refine cg (g5) ?_
    repeat' ((conv=>whnf);first|apply Wx|apply W6|apply oi|(apply fi<;>intro h)|refine⟨_,rfl,?_⟩|exact rfl)
    all_goals try exact⟨KP⟩
    all_goals try exact⟨aQ _⟩
    all_goals try exact⟨⟨by simp <;> omega,by simp <;> omega⟩⟩
    all_goals try exact⟨KW⟩
    refine cg (g6) ?_
    repeat' ((conv=>whnf);first|apply Wx|apply W6|apply oi|(apply fi<;>intro h)|refine⟨_,rfl,?_⟩|exact rfl)
    all_goals try exact⟨KP⟩
    all_goals try exact⟨aQ _⟩
    all_goals try exact⟨⟨by simp <;> omega,by simp <;> omega⟩⟩
    all_goals try exact⟨KW⟩
    refine cg (g7) ?_
    repeat' ((conv=>whnf);first|apply Wx|apply W6|apply oi|(apply fi<;>intro h)|refine⟨_,rfl,?_⟩|exact rfl)
    all_goals try exact⟨KP⟩
    all_goals try exact⟨aQ _⟩
    all_goals try exact⟨⟨by simp <;> omega,by simp <;> omega⟩⟩
    all_goals try exact⟨KW⟩
    conv=>whnf
    refine⟨⟨(m,_,_),by dsimp only;omega,s4,hlen,hr1,hr2⟩,?_,KD⟩
    repeat' ((conv=>whnf);first|apply Wx|apply W6|apply oi|(apply fi<;>intro h)|refine⟨_,rfl,?_⟩|exact rfl)
    all_goals try exact⟨KP⟩
    all_goals try exact⟨K7⟩
    all_goals exact⟨by simp[il t3.1,lC]⟩
   | false=>
    rw[if_neg (by simp[ho])]at hS
    rw[ho]at g6
    subst hS
    repeat' ((conv=>whnf);first|apply Wx|apply W6|apply oi|(apply fi<;>intro h)|refine⟨_,rfl,?_⟩|exact rfl)
    all_goals try exact⟨KP⟩
    refine cg (g1) ?_
    repeat' ((conv=>whnf);first|apply Wx|apply W6|apply oi|(apply fi<;>intro h)|refine⟨_,rfl,?_⟩|exact rfl)
    all_goals try exact⟨KP⟩
    all_goals try exact KK
    refine cg (g3) ?_
    repeat' ((conv=>whnf);first|apply Wx|apply W6|apply oi|(apply fi<;>intro h)|refine⟨_,rfl,?_⟩|exact rfl)
    all_goals try exact⟨KP⟩
    all_goals try exact⟨aQ _⟩
    all_goals try exact⟨⟨by simp <;> omega,by simp <;> omega⟩⟩
    all_goals try exact⟨KW⟩
    refine cg (g4) ?_
    repeat' ((conv=>whnf);first|apply Wx|apply W6|apply oi|(apply fi<;>intro h)|refine⟨_,rfl,?_⟩|exact rfl)
    all_goals try exact⟨KP⟩
    all_goals try exact⟨aQ _⟩
    all_goals try exact⟨⟨by simp <;> omega,by simp <;> omega⟩⟩
    all_goals try exact⟨KW⟩
    refine cg (g5) ?_
    repeat' ((conv=>whnf);first|apply Wx|apply W6|apply oi|(apply fi<;>intro h)|refine⟨_,rfl,?_⟩|exact rfl)
    all_goals try exact⟨KP⟩
    all_goals try exact⟨aQ _⟩
    all_goals try exact⟨⟨by simp <;> omega,by simp <;> omega⟩⟩
    all_goals try exact⟨KW⟩
    refine cg (g6) ?_
    repeat' ((conv=>whnf);first|apply Wx|apply W6|apply oi|(apply fi<;>intro h)|refine⟨_,rfl,?_⟩|exact rfl)
    all_goals try exact⟨KP⟩
    all_goals try exact⟨aQ _⟩
    all_goals try exact⟨⟨by simp <;> omega,by simp <;> omega⟩⟩
    all_goals try exact⟨KW⟩
    conv=>whnf
    refine⟨⟨(m,_,_),by dsimp only;omega,s4,hlen,hr1,hr2⟩,?_,KD⟩
    repeat' ((conv=>whnf);first|apply Wx|apply W6|apply oi|(apply fi<;>intro h)|refine⟨_,rfl,?_⟩|exact rfl)
    all_goals try exact⟨KP⟩
    all_goals try exact⟨K7⟩
    all_goals exact⟨by simp[il t3.1,lC]⟩
  rw[if_neg hk7]at hS
  by_cases hk8:q.1=7∧dp=true
  ·rw[if_pos hk8]at hS
   obtain⟨hk8,hdt⟩:=hk8
   have hd0:0 < d:=by rw[hdp]at hdt;exact of_decide_eq_true hdt
   have hRo:=hR hdt
   obtain⟨k4,b4,o4,g4⟩:=aT o1 3
   generalize aZ 3 q.2=t at *
   have k4':=k4 (by omega)
   have hwi:IntKind.i64.wrap (1+(t.1:Int))=1+(t.1:Int):=IntWalk.i64_in _ (by omega)
   have g5:=hrc hdt 1 t.2 (by omega) o4
   have l5:=hRo.len 1 t.2 o4
   generalize rc 1 t.2=B at *
   subst hS
   repeat' ((conv=>whnf);first|apply Wx|apply W6|apply oi|(apply fi<;>intro h)|refine⟨_,rfl,?_⟩|exact rfl)
   all_goals try exact⟨KP⟩
   refine cg (g1) ?_
   repeat' ((conv=>whnf);first|apply Wx|apply W6|apply oi|(apply fi<;>intro h)|refine⟨_,rfl,?_⟩|exact rfl)
   all_goals try exact⟨KP⟩
   all_goals try exact KK
   refine cg (g4) ?_
   repeat' ((conv=>whnf);first|apply Wx|apply W6|apply oi|(apply fi<;>intro h)|refine⟨_,rfl,?_⟩|exact rfl)
   all_goals try exact⟨KP⟩
   all_goals try exact⟨aQ [⟨5,0,[]⟩,⟨1,0,[105]⟩,⟨0,IntKind.i64.wrap (1+(t.1:Int)),[]⟩]⟩
   all_goals try exact⟨aQ _⟩
   all_goals try exact⟨⟨by simp <;> omega,by simp <;> omega⟩⟩
   all_goals try exact⟨KW⟩
   refine cg (g5) ?_
   repeat' ((conv=>whnf);first|apply Wx|apply W6|apply oi|(apply fi<;>intro h)|refine⟨_,rfl,?_⟩|exact rfl)
   all_goals try exact⟨KP⟩
   all_goals try exact⟨aQ [⟨2,0,[]⟩,⟨1,0,[105]⟩,⟨0,1,[]⟩]⟩
   all_goals try exact⟨aQ _⟩
   all_goals try exact⟨⟨by simp <;> omega,by simp <;> omega⟩⟩
   all_goals try exact⟨KW⟩
   conv=>whnf
   refine⟨⟨(m,_,_),by dsimp only;omega,s4,hlen,hr1,hr2⟩,?_,KD⟩
   repeat' ((conv=>whnf);first|apply Wx|apply W6|apply oi|(apply fi<;>intro h)|refine⟨_,rfl,?_⟩|exact rfl)
   all_goals try exact⟨KP⟩
   all_goals try exact⟨K7⟩
   all_goals exact⟨by simp[lC,ya,Ar.tr,hwi]⟩
  rw[if_neg hk8]at hS
  have hnd:¬(q.1=6∧0 < d)∧¬(q.1=7∧0 < d):=⟨fun h=>hk7 ⟨h.1,by rw[hdp];exact decide_eq_true h.2⟩,fun h=>hk8 ⟨h.1,by rw[hdp];exact decide_eq_true h.2⟩⟩
  obtain⟨b6,o6,g6⟩:=dK o1 3
  generalize eR 3 q.2=o at *
  cases ho:o.1 with
  | true=>
   rw[if_pos ho]at hS
   rw[ho]at g6
   obtain⟨t3,b3,o3,g3⟩:=cf hG o6 4 (by omega)
   generalize exV G 4 o.2=e at *
   subst hS
   repeat' ((conv=>whnf);first|apply Wx|apply W6|apply oi|(apply fi<;>intro h)|refine⟨_,rfl,?_⟩|exact rfl)
   all_goals try exact⟨KP⟩
   refine cg (g1) ?_
   repeat' ((conv=>whnf);first|apply Wx|apply W6|apply oi|(apply fi<;>intro h)|refine⟨_,rfl,?_⟩|exact rfl)
   all_goals try exact⟨KP⟩
   all_goals try exact KK
   all_goals(
    refine cg (g6) ?_
    repeat' ((conv=>whnf);first|apply Wx|apply W6|apply oi|(apply fi<;>intro h)|refine⟨_,rfl,?_⟩|exact rfl)
    all_goals try exact⟨KP⟩
    refine cg (g3) ?_
    repeat' ((conv=>whnf);first|apply Wx|apply W6|apply oi|(apply fi<;>intro h)|refine⟨_,rfl,?_⟩|exact rfl)
    all_goals try exact⟨KP⟩
    all_goals try exact⟨aQ _⟩
    all_goals try exact⟨⟨by simp <;> omega,by simp <;> omega⟩⟩
    all_goals try exact⟨KW⟩
    conv=>whnf
    refine⟨⟨(m,_,_),by dsimp only;omega,s4,hlen,hr1,hr2⟩,?_,KD⟩
    repeat' ((conv=>whnf);first|apply Wx|apply W6|apply oi|(apply fi<;>intro h)|refine⟨_,rfl,?_⟩|exact rfl)
    all_goals try exact⟨KP⟩
    all_goals try exact⟨K7⟩
    all_goals exact⟨by simp[il t3.1]⟩)
  | false=>
   rw[if_neg (by simp[ho])]at hS
   rw[ho]at g6
   subst hS
   repeat' ((conv=>whnf);first|apply Wx|apply W6|apply oi|(apply fi<;>intro h)|refine⟨_,rfl,?_⟩|exact rfl)
   all_goals try exact⟨KP⟩
   refine cg (g1) ?_
   repeat' ((conv=>whnf);first|apply Wx|apply W6|apply oi|(apply fi<;>intro h)|refine⟨_,rfl,?_⟩|exact rfl)
   all_goals try exact⟨KP⟩
   all_goals try exact KK
   all_goals(
    refine cg (g6) ?_
    repeat' ((conv=>whnf);first|apply Wx|apply W6|apply oi|(apply fi<;>intro h)|refine⟨_,rfl,?_⟩|exact rfl)
    all_goals try exact⟨KP⟩
    conv=>whnf
    refine⟨⟨(m,_,_),by dsimp only;omega,s4,hlen,hr1,hr2⟩,?_,KD⟩
    repeat' ((conv=>whnf);first|apply Wx|apply W6|apply oi|(apply fi<;>intro h)|refine⟨_,rfl,?_⟩|exact rfl)
    all_goals try exact⟨KP⟩
    all_goals try exact⟨K7⟩
    all_goals exact⟨by simp⟩)
theorem qn {G:GP}(hG:G.ok):∀(d n:Nat) (c:Ab),d≤2→n≤4→c.ok→wh G n d c (mJ G d n c)
 | 0,n,c,_,hn,hc=>yk hG (s:=0) (by omega) rfl (by omega) (fun h=>by cases h) (fun h=>by cases h) n c hn hc
 | d+1,n,c,hd,hn,hc=>yk hG (s:=sB d) (by omega) (by simp) (by
   have:d=0∨d=1:=by omega
   rcases this with rfl|rfl <;> simp[sB]) (fun _=>ji hG d) (fun _ m c' hm hc'=>by
   have e:(((d+1:Nat):Int) - 1)=(d:Int):=by omega
   rw[e]
   exact qn hG d m c' (by omega) (by omega) hc') n c hn hc
def nm0:List (List UInt8):=[[109,97,105,110],[102],[103,103],[104]]
def ar0:List Int:=[0,1,2,1]
def arg0:List (List UInt8):=[[120],[121]]
def arN (k:Nat):Nat:=(ar0[k]?.getD 0).toNat
def nmN (k:Nat):List UInt8:=nm0[k]?.getD []
def gpV (n k:Nat)(b:Bool):GP:=⟨arg0.take (arN k)++[[105],[122]],(nm0.take n).drop (if b=true then k else k+1),(ar0.take n).drop (if b=true then k else k+1)⟩
theorem qt {n k:Nat}(b:Bool):(gpV n k b).ok:=by
 refine⟨by simp[gpV],by simp[gpV,arg0];omega,by simp[gpV,nm0];omega,by simp[gpV,nm0,ar0],fun a ha=>?_,fun s hs=>?_,fun s hs=>?_⟩
 ·have:=List.mem_of_mem_take (List.mem_of_mem_drop ha)
  simp[ar0]at this
  omega
 ·simp only[gpV,List.mem_append]at hs
  rcases hs with hs|hs
  ·have:=List.mem_of_mem_take hs
   simp[arg0]at this
   rcases this with rfl|rfl <;> simp
  ·simp at hs
   rcases hs with rfl|rfl <;> simp
 ·have:=List.mem_of_mem_take (List.mem_of_mem_drop hs)
  simp[nm0]at this
  rcases this with rfl|rfl|rfl|rfl <;> simp
noncomputable def pp (n k:Nat) (c:Ab):List Ai×Ab:=
 let o:=if 0 < k then eR 5 c else(false,c)
 let G:=gpV n k o.1
 let t:=aZ 4 o.2
 let u:=aZ 2 t.2
 let B:=mJ G (1+u.1) (1+t.1) u.2
 let e:=exV G 3 B.2
 (⟨0,nmN k,arg0.take (arN k),[]⟩::(B.1++[⟨6,[],[],e.1⟩,⟨7,[],[],[]⟩]),e.2)
noncomputable def eP (n:Nat):Nat→Nat→Ab→List Ai×Ab
 | 0,_,c=>([],c)
 | r+1,k,c=>((pp n k c).1++(eP n r (k+1) (pp n k c).2).1,(eP n r (k+1) (pp n k c).2).2)
noncomputable def kT (c:Ab):List Ai×Ab:=eP (1+(aZ 4 c).1) (1+(aZ 4 c).1) 0 (aZ 4 c).2
def drP (x:Ai):List DC:=if x.faa=0 then [.d (.int .i64 0),.d (.str x.fab),.d (.lst 1 (x.fad.map ah)),.d (.lst 0 [])]else dr x
structure PL (x:Ai):Prop where
 name:x.fab.length≤8
 args:x.fad.length≤2∧∀s∈x.fad,s.length≤8
 len:x.fac.length≤125
 tok:∀t∈x.fac,t.fab.length≤8
 fe:x.faa=0→x.fac=[]
 fa:x.faa≠0→x.fad=[]
theorem wJ {n k:Nat}{c:Ab}(hc:c.ok):(pp n k c).1.length≤200∧(pp n k c).2.b=c.b∧(pp n k c).2.ok∧∀x∈(pp n k c).1,PL x:=by
 unfold pp
 dsimp only
 have ho:(if 0 < k then eR 5 c else(false,c)).2.b=c.b∧(if 0 < k then eR 5 c else(false,c)).2.ok:=by
  split
  ·have:=dK hc 5;exact⟨this.1,this.2.1⟩
  ·exact⟨rfl,hc⟩
 generalize(if 0 < k then eR 5 c else(false,c))=o at *
 have hG:=qt (n:=n) (k:=k) o.1
 generalize gpV n k o.1=G at *
 obtain⟨k4,b4,o4,_⟩:=aT ho.2 4
 obtain⟨k2,b2,o2,_⟩:=aT o4 2
 have k4':=k4 (by omega)
 have k2':=k2 (by omega)
 have hB:=ji hG (1+(aZ 2 (aZ 4 o.2).2).1)
 have hl:=hB.len (1+(aZ 4 o.2).1) _ o2
 have hb:=hB.b (1+(aZ 4 o.2).1) _ o2
 have hk:=hB.ok (1+(aZ 4 o.2).1) _ o2
 have hx:=hB.bl (1+(aZ 4 o.2).1) _ o2
 have hs:sB (1+(aZ 2 (aZ 4 o.2).2).1)≤21:=by
  have:(aZ 2 (aZ 4 o.2).2).1=0∨(aZ 2 (aZ 4 o.2).2).1=1:=by omega
  rcases this with e|e <;> rw[e] <;> simp[sB]
 have hl2:=Nat.mul_le_mul (show 1+(aZ 4 o.2).1≤4 by omega) hs
 generalize mJ G (1+(aZ 2 (aZ 4 o.2).2).1) (1+(aZ 4 o.2).1) (aZ 2 (aZ 4 o.2).2).2=B at *
 obtain⟨t3,b3,o3,_⟩:=cf hG hk 3 (by omega)
 refine⟨by simp;omega,((b3.trans hb).trans b2).trans (b4.trans ho.1),o3,fun x h=>?_⟩
 have hbl:∀{x:Ai},BL x→PL x:=fun h=>⟨h.name,by rw[h.args];simp,h.len,h.tok,fun e=>by have:=h.kind;omega,fun _=>h.args⟩
 simp only[List.mem_cons,List.mem_append,List.not_mem_nil,or_false]at h
 rcases h with rfl|h|rfl|rfl
 ·refine⟨?_,⟨?_,fun s hs=>?_⟩,by simp,by simp,fun _=>rfl,fun e=>absurd rfl e⟩
  ·show(nmN k).length≤8
   unfold nmN
   cases hn:nm0[k]? with
   | none=>simp
   | some v=>
    have:=List.mem_of_getElem? hn
    simp[nm0]at this
    rcases this with rfl|rfl|rfl|rfl <;> simp
  ·simp[arg0];omega
  ·have:=List.mem_of_mem_take hs
   simp[arg0]at this
   rcases this with rfl|rfl <;> simp
 ·exact hbl (hx x h)
 ·exact hbl (pS (by simp) t3)
 ·exact hbl ow
theorem rA (n:Nat):∀(r k:Nat) (c:Ab),c.ok→(eP n r k c).1.length≤r * 200∧(eP n r k c).2.b=c.b∧(eP n r k c).2.ok∧∀x∈(eP n r k c).1,PL x
 | 0,_,c,hc=>⟨by simp[eP],rfl,hc,fun x hx=>by simp[eP]at hx⟩
 | r+1,k,c,hc=>by
  obtain⟨h1,h2,h3,h4⟩:=wJ (n:=n) (k:=k) hc
  obtain⟨i1,i2,i3,i4⟩:=rA n r (k+1) _ h3
  rw[eP]
  refine⟨by simp only[List.length_append];omega,i2.trans h2,i3,fun x hx=>?_⟩
  rcases List.mem_append.1 hx with hx|hx
  ·exact h4 x hx
  ·exact i4 x hx
theorem xO {c:Ab}(hc:c.ok):(kT c).1.length≤800∧(kT c).2.b=c.b∧(kT c).2.ok∧∀x∈(kT c).1,PL x:=by
 obtain⟨k1,b1,o1,_⟩:=aT hc 4
 have k1':=k1 (by omega)
 obtain⟨h1,h2,h3,h4⟩:=rA (1+(aZ 4 c).1) (1+(aZ 4 c).1) 0 _ o1
 have:=Nat.mul_le_mul_right 200 (show 1+(aZ 4 c).1≤4 by omega)
 exact⟨by unfold kT;omega,h2.trans b1,h3,h4⟩
theorem tG {l:List Ai}(h:∀x∈l,BL x):l.map dr=l.map drP:=by
 refine List.map_congr_left fun x hx=>?_
 have:=(h x hx).kind
 rw[drP,if_neg (by omega)]
theorem xK {x:Ai}(h:PL x):((drP x).map DC.tr).length=x.tr.length∧∀(p:Nat) (c d:Tr),((drP x).map DC.tr)[p]?=some c→x.tr[p]?=some d→emE c d:=by
 obtain⟨k,n,a,e⟩:=x
 have key:∃u v,(drP ⟨k,n,a,e⟩).map DC.tr=[.int .i64 k,.str n,u,v]∧emE u (.lst 1 (a.map ah))∧emE v (.lst 3 (e.map Ar.tr)):=by
  by_cases h0:k=0
  ·subst h0
   have he:=h.fe rfl
   dsimp only at he
   subst he
   exact⟨_,_,rfl,.inl rfl,.inr ⟨_,_,rfl,rfl⟩⟩
  ·have ha:=h.fa h0
   dsimp only at ha
   subst ha
   rw[drP,if_neg h0]
   cases e with
   | nil=>exact⟨_,_,rfl,.inr ⟨_,_,rfl,rfl⟩,.inr ⟨_,_,rfl,rfl⟩⟩
   | cons t l=>exact⟨_,_,rfl,.inr ⟨_,_,rfl,rfl⟩,.inl rfl⟩
 obtain⟨u,v,e1,e2,e3⟩:=key
 rw[e1]
 refine⟨rfl,fun p c d hc hd=>?_⟩
 match p with
 | 0=>simp[Ai.tr]at hc hd;subst hc;subst hd;exact .inl rfl
 | 1=>simp[Ai.tr]at hc hd;subst hc;subst hd;exact .inl rfl
 | 2=>simp[Ai.tr]at hc hd;subst hc;subst hd;exact e2
 | 3=>simp[Ai.tr]at hc hd;subst hc;subst hd;exact e3
 | p+4=>simp at hc
theorem uC:∀{l:List Ai},(∀x∈l,PL x)→emR ((l.map drP).map fun x=>x.map DC.tr) (l.map Ai.tr)
 | [],_=>trivial
 | x::l,h=>⟨xK (h x (by simp)),uC fun y hy=>h y (by simp[hy])⟩
theorem kx (c:Ab)(hc:c.ok):bt Try.prog 45 [gX] (ij c) (.r (.c (.t (.lst 4 ((kT c).1.map Ai.tr))))) (ij (kT c).2):=by
 obtain⟨k1,b1,o1,g1⟩:=aT hc 4
 have k1':=k1 (by omega)
 refine aq hΓ au Try.func45 rfl (by decide) rfl rfl ?_
 unfold kT
 generalize(aZ 4 c).2=c1 at *
 obtain⟨n,hn⟩:∃n,1+(aZ 4 c).1=n:=⟨_,rfl⟩
 have hw:IntKind.i64.wrap (1+((aZ 4 c).1:Int))=(n:Int):=by rw[IntWalk.i64_in _ (by omega)];omega
 rw[hn]
 obtain⟨R,c',hRR⟩:∃R c',eP n n 0 c1=(R,c'):=⟨_,_,rfl⟩
 have hPL:=(rA n n 0 _ o1).2.2.2
 rw[hRR]at hPL ⊢
 repeat' ((conv=>whnf);first|(with_reducible apply W1;fail_if_success (with_reducible show Wo _ _ _ _ (Code.seq (Code.region 5 _ _) _) _ _))|(with_reducible first|apply W2|apply W3|apply W4|apply W5|apply W6|apply W7|apply W8|apply W9)|apply bB|apply oi|(apply fi<;>intro h)|refine⟨_,rfl,?_⟩|exact rfl)
 all_goals try exact⟨KP⟩
 refine cg (g1) ?_
 repeat' ((conv=>whnf);first|(with_reducible apply W1;fail_if_success (with_reducible show Wo _ _ _ _ (Code.seq (Code.region 5 _ _) _) _ _))|(with_reducible first|apply W2|apply W3|apply W4|apply W5|apply W6|apply W7|apply W8|apply W9)|apply bB|apply oi|(apply fi<;>intro h)|refine⟨_,rfl,?_⟩|exact rfl)
 all_goals try exact⟨KP⟩
 conv=>whnf
 refine eI ⟨[(0,gX),(3,vN nm0),(4,.r (.c (.t (.lst 1 (ar0.map ab))))),(5,tI .i64 (IntKind.i64.wrap (1+((aZ 4 c).1:Int)))),(6,.r (.c (.own (15,0,0))))],[((0,0,0),some (.box [.t (.lst 1 (c1.b.map aI)),.t (.int .i64 c1.i),.t (.int .i64 c1.h)])),((15,0,0),some (.arr true 4 []))],[15,13,11,10,0]⟩ ?_ ?_ rfl ?_
 ·refine⟨.inl rfl,.inr ⟨_,_,rfl,rfl,rfl,?_⟩,.inr ⟨_,_,rfl,rfl,rfl,?_⟩,.inl rfl,.inl rfl,trivial⟩
  all_goals(intro q hq;simp only[AC.ids,List.mem_cons,List.not_mem_nil,or_false]at hq;subst hq;rfl)
 ·exact⟨.inr rfl,.inr rfl,trivial⟩
 rw[hw]
 repeat' ((conv=>whnf);first|apply Wx|apply W6|apply oi|(apply fi<;>intro h)|refine⟨_,rfl,?_⟩|exact rfl)
 all_goals try exact⟨KP⟩
 conv=>whnf
 refine⟨{q:Nat×Ab×List Ai // q.1≤n∧q.2.1.ok∧q.2.2.length+(n - q.1) * 200≤800∧q.2.2++(eP n (n - q.1) q.1 q.2.1).1=R∧(eP n (n - q.1) q.1 q.2.1).2=c'},fun q=>⟨[(0,gX),(3,vN nm0),(4,.r (.c (.t (.lst 1 (ar0.map ab))))),(5,tI .i64 (n:Int)),(6,.r (.c (.own (15,0,0)))),(7,tI .i64 (q.1.1:Int))],[((0,0,0),some (.box [.t (.lst 1 (q.1.2.1.b.map aI)),.t (.int .i64 q.1.2.1.i),.t (.int .i64 q.1.2.1.h)])),((15,0,0),some (.dar 4 (q.1.2.2.map drP) none))],[15,0]⟩,fun q=>n - q.1.1,⟨(0,c1,[]),by dsimp only;omega,o1,by simp;omega,by dsimp only;rw[Nat.sub_zero,hRR];rfl,by dsimp only;rw[Nat.sub_zero,hRR]⟩,?_,?_⟩
 ·skip
  repeat' ((conv=>whnf);first|apply Wx|apply W6|apply oi|(apply fi<;>intro h)|refine⟨_,rfl,?_⟩|exact rfl)
  all_goals try exact⟨KP⟩
  all_goals try exact⟨rfl⟩
 intro⟨⟨k,ci,acc⟩,hi,hci,hal,hr1,hr2⟩
 dsimp only at hi hci hal hr1 hr2 ⊢
 by_cases hlt:k < n
 ·obtain⟨m,hm⟩:∃m,n - k=m+1:=⟨n - k - 1,by omega⟩
  rw[hm]at hr1 hr2 hal
  rw[eP]at hr1 hr2
  dsimp only at hr1 hr2
  obtain⟨s1,_,s3,s4⟩:=wJ (n:=n) (k:=k) hci
  generalize hF:pp n k ci=F at *
  rw[←List.append_assoc]at hr1
  have hlen:(acc++F.1).length+(n - (k+1)) * 200≤800:=by rw[List.length_append];omega
  rw[show m=n - (k+1) by omega]at hr1 hr2
  unfold pp at hF
  dsimp only at hF
  have hk4:k < 4:=by omega
  have hnm:nm0[k]?=some (nmN k):=by
   have:k=0∨k=1∨k=2∨k=3:=by omega
   rcases this with rfl|rfl|rfl|rfl <;> rfl
  have har:ar0[k]?=some (arN k:Int):=by
   have:k=0∨k=1∨k=2∨k=3:=by omega
   rcases this with rfl|rfl|rfl|rfl <;> rfl
  have har2:arN k≤2:=by
   have:k=0∨k=1∨k=2∨k=3:=by omega
   rcases this with rfl|rfl|rfl|rfl <;> decide
  have hw1:IntKind.i64.wrap ((k:Int)+1)=((k+1:Nat):Int):=by rw[IntWalk.i64_in _ (by omega)];omega
  have hnl:(nm0.map ah).length=4:=rfl
  have hal4:(ar0.map ab).length=4:=rfl
  have hfl:flat ([]++List.take (arN k) (arg0.map ah)):=by rw[List.nil_append,←List.map_take];exact lA _
  rcases Nat.eq_zero_or_pos k with hk0|hk0
  ·rw[if_neg (by omega)]at hF
   (try dsimp only at hF)
   have hG:=qt (n:=n) (k:=k) false
   obtain⟨k4,b4,o4,g4⟩:=aT hci 4
   generalize aZ 4 ci=t at *
   obtain⟨k5,b5,o5,g5⟩:=aT o4 2
   generalize aZ 2 t.2=u at *
   have k4':=k4 (by omega)
   have k5':=k5 (by omega)
   have g6:=qn hG (1+u.1) (1+t.1) u.2 (by omega) (by omega) o5
   have hB:=ji hG (1+u.1)
   have hl:=hB.len (1+t.1) _ o5
   have hk:=hB.ok (1+t.1) _ o5
   have hx:=tG (hB.bl (1+t.1) _ o5)
   have hs:sB (1+u.1)≤21:=by
    have:u.1=0∨u.1=1:=by omega
    rcases this with e|e <;> rw[e] <;> simp[sB]
   have hl2:=Nat.mul_le_mul (show 1+t.1≤4 by omega) hs
   generalize mJ (gpV n k false) (1+u.1) (1+t.1) u.2=B at *
   obtain⟨t3,b3,o3,g3⟩:=cf hG hk 3 (by omega)
   generalize exV (gpV n k false) 3 B.2=e at *
   subst hF
   have hnames:Tr.lst 1 ((gpV n k false).names.map ah)=Tr.lst 1 (((nm0.map ah).take n).drop (k+1)):=by simp[gpV,List.map_drop,List.map_take]
   have hars:Tr.lst 1 ((gpV n k false).ars.map ab)=Tr.lst 1 (((ar0.map ab).take n).drop (k+1)):=by simp[gpV,List.map_drop,List.map_take]
   have hvars:[]++List.take (arN k) (arg0.map ah)++([[105],[122]]:List (List UInt8)).map ah=(gpV n k false).vars.map ah:=by simp[gpV,List.map_take]
   have hn1:Tr.int .i64 ((1+t.1:Nat):Int)=Tr.int .i64 (IntKind.i64.wrap (1+(t.1:Int))):=by rw[IntWalk.i64_in _ (by omega)];simp
   have hn2:Tr.int .i64 ((1+u.1:Nat):Int)=Tr.int .i64 (IntKind.i64.wrap (1+(u.1:Int))):=by rw[IntWalk.i64_in _ (by omega)];simp
   repeat' ((conv=>whnf);first|apply Wx|apply W6|apply oi|(apply fi<;>intro h)|refine⟨k,(ab (arN k)),rfl,aa har,?_⟩|refine⟨0,arN k,rfl,rfl,Nat.zero_le _,har2,?_⟩|refine⟨k+1,n,hw1,rfl,by omega,by(rw[hnl];omega),?_⟩|refine⟨k+1,n,hw1,rfl,by omega,by(rw[hal4];omega),?_⟩|refine⟨k,(ah (nmN k)),rfl,aa hnm,?_⟩|refine⟨_,rfl,?_⟩|exact rfl)
   all_goals try exact⟨KP⟩
   all_goals try exact KX
   all_goals try exact⟨har2⟩
   all_goals try exact⟨⟨by simp <;> omega,by simp <;> omega⟩⟩
   all_goals try exact⟨hfl⟩
   refine cg (g4) ?_
   repeat' ((conv=>whnf);first|apply Wx|apply W6|apply oi|(apply fi<;>intro h)|refine⟨_,rfl,?_⟩|exact rfl)
   all_goals try exact⟨KP⟩
   refine cg (g5) ?_
   repeat' ((conv=>whnf);first|apply Wx|apply W6|apply oi|(apply fi<;>intro h)|refine⟨_,rfl,?_⟩|exact rfl)
   all_goals try exact⟨KP⟩
   refine cg (g6) ?_
   repeat' ((conv=>whnf);first|apply Wx|apply W6|apply oi|(apply fi<;>intro h)|refine⟨_,rfl,?_⟩|exact rfl)
   all_goals try exact⟨KP⟩
   all_goals try exact⟨hnames⟩
   all_goals try exact⟨hars⟩
   all_goals try exact⟨hn1⟩
   all_goals try exact⟨hn2⟩
   all_goals try exact⟨hvars⟩
   all_goals try exact⟨⟨by simp <;> omega,by simp <;> omega⟩⟩
   refine cg (g3) ?_
   repeat' ((conv=>whnf);first|apply Wx|apply W6|apply oi|(apply fi<;>intro h)|refine⟨_,rfl,?_⟩|exact rfl)
   all_goals try exact⟨KP⟩
   all_goals try exact⟨aQ _⟩
   all_goals try exact⟨⟨by simp <;> omega,by simp <;> omega⟩⟩
   conv=>whnf
   refine⟨⟨(k+1,_,_),by dsimp only;omega,s3,hlen,hr1,hr2⟩,?_,KD⟩
   repeat' ((conv=>whnf);first|apply Wx|apply W6|apply oi|(apply fi<;>intro h)|refine⟨_,rfl,?_⟩|exact rfl)
   all_goals try exact⟨KP⟩
   all_goals try exact⟨KW⟩
   all_goals try exact⟨by simp[drP,il t3.1,lC,hx,List.map_take,arg0,ah]⟩
  ·rw[if_pos hk0]at hF
   obtain⟨b7,o7,g7⟩:=dK hci 5
   generalize eR 5 ci=o at *
   (try dsimp only at hF)
   cases ho:o.1 with
   | true=>
    rw[ho]at hF g7
    have hG:=qt (n:=n) (k:=k) true
    obtain⟨k4,b4,o4,g4⟩:=aT o7 4
    generalize aZ 4 o.2=t at *
    obtain⟨k5,b5,o5,g5⟩:=aT o4 2
    generalize aZ 2 t.2=u at *
    have k4':=k4 (by omega)
    have k5':=k5 (by omega)
    have g6:=qn hG (1+u.1) (1+t.1) u.2 (by omega) (by omega) o5
    have hB:=ji hG (1+u.1)
    have hl:=hB.len (1+t.1) _ o5
    have hk:=hB.ok (1+t.1) _ o5
    have hx:=tG (hB.bl (1+t.1) _ o5)
    have hs:sB (1+u.1)≤21:=by
     have:u.1=0∨u.1=1:=by omega
     rcases this with e|e <;> rw[e] <;> simp[sB]
    have hl2:=Nat.mul_le_mul (show 1+t.1≤4 by omega) hs
    generalize mJ (gpV n k true) (1+u.1) (1+t.1) u.2=B at *
    obtain⟨t3,b3,o3,g3⟩:=cf hG hk 3 (by omega)
    generalize exV (gpV n k true) 3 B.2=e at *
    subst hF
    have hnames:Tr.lst 1 ((gpV n k true).names.map ah)=Tr.lst 1 (((nm0.map ah).take n).drop (k)):=by simp[gpV,List.map_drop,List.map_take]
    have hars:Tr.lst 1 ((gpV n k true).ars.map ab)=Tr.lst 1 (((ar0.map ab).take n).drop (k)):=by simp[gpV,List.map_drop,List.map_take]
    have hvars:[]++List.take (arN k) (arg0.map ah)++([[105],[122]]:List (List UInt8)).map ah=(gpV n k true).vars.map ah:=by simp[gpV,List.map_take]
    have hn1:Tr.int .i64 ((1+t.1:Nat):Int)=Tr.int .i64 (IntKind.i64.wrap (1+(t.1:Int))):=by rw[IntWalk.i64_in _ (by omega)];simp
    have hn2:Tr.int .i64 ((1+u.1:Nat):Int)=Tr.int .i64 (IntKind.i64.wrap (1+(u.1:Int))):=by rw[IntWalk.i64_in _ (by omega)];simp
    repeat' ((conv=>whnf);first|apply Wx|apply W6|apply oi|(apply fi<;>intro h)|refine⟨k,(ab (arN k)),rfl,aa har,?_⟩|refine⟨0,arN k,rfl,rfl,Nat.zero_le _,har2,?_⟩|refine⟨k+1,n,hw1,rfl,by omega,by(rw[hnl];omega),?_⟩|refine⟨k+1,n,hw1,rfl,by omega,by(rw[hal4];omega),?_⟩|refine⟨k,(ah (nmN k)),rfl,aa hnm,?_⟩|refine⟨_,rfl,?_⟩|exact rfl)
    all_goals try exact⟨KP⟩
    all_goals try exact KX
    all_goals try exact⟨har2⟩
    all_goals try exact⟨⟨by simp <;> omega,by simp <;> omega⟩⟩
    all_goals try exact⟨hfl⟩
    refine cg (g7) ?_
    repeat' ((conv=>whnf);first|apply Wx|apply W6|apply oi|(apply fi<;>intro h)|refine⟨k,(ah (nmN k)),rfl,aa hnm,?_⟩|refine⟨k,n,rfl,rfl,by omega,by(rw[hnl];omega),?_⟩|refine⟨k,n,rfl,rfl,by omega,by(rw[hal4];omega),?_⟩|refine⟨_,rfl,?_⟩|exact rfl)
    all_goals try exact⟨KP⟩
    all_goals try exact KX
    all_goals try exact⟨har2⟩
    all_goals try exact⟨⟨by simp <;> omega,by simp <;> omega⟩⟩
    all_goals try exact⟨hfl⟩
    refine cg (g4) ?_
    repeat' ((conv=>whnf);first|apply Wx|apply W6|apply oi|(apply fi<;>intro h)|refine⟨_,rfl,?_⟩|exact rfl)
    all_goals try exact⟨KP⟩
    refine cg (g5) ?_
    repeat' ((conv=>whnf);first|apply Wx|apply W6|apply oi|(apply fi<;>intro h)|refine⟨_,rfl,?_⟩|exact rfl)
    all_goals try exact⟨KP⟩
    refine cg (g6) ?_
    repeat' ((conv=>whnf);first|apply Wx|apply W6|apply oi|(apply fi<;>intro h)|refine⟨_,rfl,?_⟩|exact rfl)
    all_goals try exact⟨KP⟩
    all_goals try exact⟨hnames⟩
    all_goals try exact⟨hars⟩
    all_goals try exact⟨hn1⟩
    all_goals try exact⟨hn2⟩
    all_goals try exact⟨hvars⟩
    all_goals try exact⟨⟨by simp <;> omega,by simp <;> omega⟩⟩
    refine cg (g3) ?_
    repeat' ((conv=>whnf);first|apply Wx|apply W6|apply oi|(apply fi<;>intro h)|refine⟨_,rfl,?_⟩|exact rfl)
    all_goals try exact⟨KP⟩
    all_goals try exact⟨aQ _⟩
    all_goals try exact⟨⟨by simp <;> omega,by simp <;> omega⟩⟩
    conv=>whnf
    refine⟨⟨(k+1,_,_),by dsimp only;omega,s3,hlen,hr1,hr2⟩,?_,KD⟩
    repeat' ((conv=>whnf);first|apply Wx|apply W6|apply oi|(apply fi<;>intro h)|refine⟨_,rfl,?_⟩|exact rfl)
    all_goals try exact⟨KP⟩
    all_goals try exact⟨KW⟩
    all_goals try exact⟨by simp[drP,il t3.1,lC,hx,List.map_take,arg0,ah]⟩
   | false=>
    rw[ho]at hF g7
    have hG:=qt (n:=n) (k:=k) false
    obtain⟨k4,b4,o4,g4⟩:=aT o7 4
    generalize aZ 4 o.2=t at *
    obtain⟨k5,b5,o5,g5⟩:=aT o4 2
    generalize aZ 2 t.2=u at *
    have k4':=k4 (by omega)
    have k5':=k5 (by omega)
    have g6:=qn hG (1+u.1) (1+t.1) u.2 (by omega) (by omega) o5
    have hB:=ji hG (1+u.1)
    have hl:=hB.len (1+t.1) _ o5
    have hk:=hB.ok (1+t.1) _ o5
    have hx:=tG (hB.bl (1+t.1) _ o5)
    have hs:sB (1+u.1)≤21:=by
     have:u.1=0∨u.1=1:=by omega
     rcases this with e|e <;> rw[e] <;> simp[sB]
    have hl2:=Nat.mul_le_mul (show 1+t.1≤4 by omega) hs
    generalize mJ (gpV n k false) (1+u.1) (1+t.1) u.2=B at *
    obtain⟨t3,b3,o3,g3⟩:=cf hG hk 3 (by omega)
    generalize exV (gpV n k false) 3 B.2=e at *
    subst hF
    have hnames:Tr.lst 1 ((gpV n k false).names.map ah)=Tr.lst 1 (((nm0.map ah).take n).drop (k+1)):=by simp[gpV,List.map_drop,List.map_take]
    have hars:Tr.lst 1 ((gpV n k false).ars.map ab)=Tr.lst 1 (((ar0.map ab).take n).drop (k+1)):=by simp[gpV,List.map_drop,List.map_take]
    have hvars:[]++List.take (arN k) (arg0.map ah)++([[105],[122]]:List (List UInt8)).map ah=(gpV n k false).vars.map ah:=by simp[gpV,List.map_take]
    have hn1:Tr.int .i64 ((1+t.1:Nat):Int)=Tr.int .i64 (IntKind.i64.wrap (1+(t.1:Int))):=by rw[IntWalk.i64_in _ (by omega)];simp
    have hn2:Tr.int .i64 ((1+u.1:Nat):Int)=Tr.int .i64 (IntKind.i64.wrap (1+(u.1:Int))):=by rw[IntWalk.i64_in _ (by omega)];simp
    repeat' ((conv=>whnf);first|apply Wx|apply W6|apply oi|(apply fi<;>intro h)|refine⟨k,(ab (arN k)),rfl,aa har,?_⟩|refine⟨0,arN k,rfl,rfl,Nat.zero_le _,har2,?_⟩|refine⟨k+1,n,hw1,rfl,by omega,by(rw[hnl];omega),?_⟩|refine⟨k+1,n,hw1,rfl,by omega,by(rw[hal4];omega),?_⟩|refine⟨k,(ah (nmN k)),rfl,aa hnm,?_⟩|refine⟨_,rfl,?_⟩|exact rfl)
    all_goals try exact⟨KP⟩
    all_goals try exact KX
    all_goals try exact⟨har2⟩
    all_goals try exact⟨⟨by simp <;> omega,by simp <;> omega⟩⟩
    all_goals try exact⟨hfl⟩
    refine cg (g7) ?_
    repeat' ((conv=>whnf);first|apply Wx|apply W6|apply oi|(apply fi<;>intro h)|refine⟨k,(ah (nmN k)),rfl,aa hnm,?_⟩|refine⟨_,rfl,?_⟩|exact rfl)
    all_goals try exact⟨KP⟩
    all_goals try exact KX
    all_goals try exact⟨har2⟩
    all_goals try exact⟨⟨by simp <;> omega,by simp <;> omega⟩⟩
    all_goals try exact⟨hfl⟩
    refine cg (g4) ?_
    repeat' ((conv=>whnf);first|apply Wx|apply W6|apply oi|(apply fi<;>intro h)|refine⟨_,rfl,?_⟩|exact rfl)
    all_goals try exact⟨KP⟩
    refine cg (g5) ?_
    repeat' ((conv=>whnf);first|apply Wx|apply W6|apply oi|(apply fi<;>intro h)|refine⟨_,rfl,?_⟩|exact rfl)
    all_goals try exact⟨KP⟩
    refine cg (g6) ?_
    repeat' ((conv=>whnf);first|apply Wx|apply W6|apply oi|(apply fi<;>intro h)|refine⟨_,rfl,?_⟩|exact rfl)
    all_goals try exact⟨KP⟩
    all_goals try exact⟨hnames⟩
    all_goals try exact⟨hars⟩
    all_goals try exact⟨hn1⟩
    all_goals try exact⟨hn2⟩
    all_goals try exact⟨hvars⟩
    all_goals try exact⟨⟨by simp <;> omega,by simp <;> omega⟩⟩
    refine cg (g3) ?_
    repeat' ((conv=>whnf);first|apply Wx|apply W6|apply oi|(apply fi<;>intro h)|refine⟨_,rfl,?_⟩|exact rfl)
    all_goals try exact⟨KP⟩
    all_goals try exact⟨aQ _⟩
    all_goals try exact⟨⟨by simp <;> omega,by simp <;> omega⟩⟩
    conv=>whnf
    refine⟨⟨(k+1,_,_),by dsimp only;omega,s3,hlen,hr1,hr2⟩,?_,KD⟩
    repeat' ((conv=>whnf);first|apply Wx|apply W6|apply oi|(apply fi<;>intro h)|refine⟨_,rfl,?_⟩|exact rfl)
    all_goals try exact⟨KP⟩
    all_goals try exact⟨KW⟩
    all_goals try exact⟨by simp[drP,il t3.1,lC,hx,List.map_take,arg0,ah]⟩
 ·have hkn:k=n:=by omega
  subst hkn
  rw[Nat.sub_self]at hr1 hr2
  simp only[eP,List.append_nil]at hr1 hr2
  subst hr1;subst hr2
  dsimp only at hPL
  refine eI ⟨[(0,gX),(5,tI .i64 (k:Int)),(6,.r (.c (.t (.lst 4 ((acc.map drP).map fun x=>x.map DC.tr))))),(7,tI .i64 (k:Int))],[((0,0,0),some (.box [.t (.lst 1 (ci.b.map aI)),.t (.int .i64 ci.i),.t (.int .i64 ci.h)]))],[15,0]⟩ ?_ ?_ rfl ?_
  ·refine⟨.inl rfl,.inl rfl,.inr ⟨_,_,rfl,rfl,rfl,?_⟩,.inl rfl,trivial⟩
   intro q hq;simp only[AC.ids,List.mem_cons,List.not_mem_nil,or_false]at hq;subst hq;rfl
  ·exact⟨.inr rfl,trivial⟩
  refine sd 6 rfl (uC hPL) ?_
  repeat' ((conv=>whnf);first|apply Wx|apply W6|apply oi|(apply fi<;>intro h)|refine⟨_,rfl,?_⟩|exact rfl)
  all_goals try exact⟨KP⟩
  all_goals try exact KX
theorem ot {α:Type}{g:α→List Tr}{L:Int}:∀{l:List α},(∀x∈l,bI L (g x))→gw L (l.map g)
 | [],_=>by rw[List.map_nil,gw];trivial
 | x::l,h=>by
  rw[List.map_cons,gw]
  exact⟨h x (by simp),ot fun y hy=>h y (by simp[hy])⟩
theorem lw {α:Type}{g:α→List Tr}{l:List α}{sz:Nat}(hl:l.length≤1048576)(h:∀x∈l,bI 1048576 (g x)):bd 1048576 (.lst sz (l.map g)):=by
 rw[bd]
 exact⟨by simp;omega,ot h⟩
theorem tz {l:List Ai}(h:∀x∈l,PL x)(hl:l.length≤800):bd 1048576 (.lst 4 (l.map Ai.tr)):=by
 refine lw (by omega) fun x hx=>?_
 have hp:=h x hx
 have h1:bd 1048576 (.lst 1 (x.fad.map ah)):=lw (by have:=hp.args.1;omega) fun s hs=>by
  have:=hp.args.2 s hs
  simp only[ah,bI,bd]
  exact⟨by omega,trivial⟩
 have h2:bd 1048576 (.lst 3 (x.fac.map Ar.tr)):=lw (by have:=hp.len;omega) fun t ht=>by
  have:=hp.tok t ht
  simp only[Ar.tr,bI,bd]
  exact⟨trivial,trivial,by omega,trivial⟩
 have h3:=hp.name
 exact⟨trivial,by simp only[bd];omega,h1,h2,trivial⟩
abbrev zd (code:List UInt8):AV:= .r (.c (.t (.lst 1 (code.map aI))))
theorem uF {code:List UInt8}(hl:code.length≤1048576):(⟨code,0,uD code⟩:Ab).ok:=⟨by simp,hl⟩
theorem jR (code:List UInt8)(hl:code.length≤1048576):∃(p:List Ai),(∀x∈p,PL x)∧p.length≤800∧bd 1048576 (.lst 4 (p.map Ai.tr))∧
  bt Try.prog 17 [zd code] [] (.r (.c (.t (.lst 4 (p.map Ai.tr))))) []:=by
 have g0:=pw code hl
 have g1:=kx _ (uF hl)
 obtain⟨h2,h3,h4,h5⟩:=xO (uF hl)
 generalize kT ⟨code,0,uD code⟩=R at *
 refine⟨R.1,h5,h2,tz h5 h2,?_⟩
 refine aq hΓ au Try.func17 rfl (by decide) rfl rfl ?_
 repeat' ((conv=>whnf);first|apply Wx|apply W6|apply oi|(apply fi<;>intro h)|refine⟨_,rfl,?_⟩|exact rfl)
 all_goals try exact⟨KP⟩
 refine cg (g0) ?_
 repeat' ((conv=>whnf);first|apply Wx|apply W6|apply oi|(apply fi<;>intro h)|refine⟨_,rfl,?_⟩|exact rfl)
 all_goals try exact⟨KP⟩
 refine cg (g1) ?_
 repeat' ((conv=>whnf);first|apply Wx|apply W6|apply oi|(apply fi<;>intro h)|refine⟨_,rfl,?_⟩|exact rfl)
 all_goals try exact⟨KP⟩
theorem vZ {rows:List (List Tr)}(h:∀r∈rows,∃n,r=[.int .u8 n]∧(Lit.int .u8 n).wf=true):∃bs:List UInt8,rows=bs.map aI:=by
 obtain⟨bs,hb,_⟩:=rR (g:=aI) (Q:=fun _=>True) (rows:=rows) fun r hr=>by
  obtain⟨n,rfl,hw⟩:=h r hr
  have h1:IntKind.u8.min≤n∧n≤IntKind.u8.max:=by simpa [Lit.wf]using hw
  have h2:0≤n∧n≤255:=h1
  refine⟨UInt8.ofNat n.toNat,?_,trivial⟩
  rw[aI,show(UInt8.ofNat n.toNat).toNat=n.toNat by simp;omega,Int.toNat_of_nonneg h2.1]
 exact⟨bs,hb⟩
structure RunS where
 out:List Int
 visits:List (List Int)
 value:Int
 code:Int
 calls:List Int
abbrev aP (v:List Int):List Tr:=[.lst 1 (v.map ab)]
abbrev vR (i1 i2 i3:Sim.Id)(p:List Ai)(limit:Int)(s:RunS):List (Sim.Id×AO):=[((0,0,0),.box [.t (.lst 4 (p.map Ai.tr)),.t (.int .i64 limit),.own i1,.own i2,.t (.int .i64 s.value),.t (.int .i64 s.code),.own i3]),(i1,.arr false 1 (s.out.map ab)),(i2,.dar 1 (ak (s.visits.map aP)) none),(i3,.arr false 1 (s.calls.map ab))]
theorem kI (p:List Ai)(limit k:Int)(s:RunS)(h0:(s.visits.length:Int)=limit):bt Try.prog 59 [.r (.c (.ptr (0,0,0) 0)),tI .i64 k] (vR (0,0,1) (0,0,2) (0,0,3) p limit s) (tB false) (vR (0,0,1) (0,0,2) (0,0,3) p limit {s with code:=1}):=by
 refine aq hΓ au Try.func59 rfl (by decide) rfl rfl ?_
 have hdl:(ak (s.visits.map aP)).length=s.visits.length:=by rw[bh,List.length_map]
 have hb:((s.visits.length:Int)==limit)=true:=beq_iff_eq.2 h0
 repeat' ((conv=>whnf);first|apply Wx|apply W6|apply oi|(apply fi<;>intro h)|refine⟨_,rfl,?_⟩|exact rfl)
 all_goals try exact⟨KP⟩
 all_goals try(exfalso;rw[hdl,hb]at h;cases h;done)
theorem rk (p:List Ai)(limit k:Int)(s:RunS)(hv:s.visits.length≤1000)(hc:s.calls.length≤6)(h0:(s.visits.length:Int)≠limit):bt Try.prog 59 [.r (.c (.ptr (0,0,0) 0)),tI .i64 k] (vR (0,0,1) (0,0,2) (0,0,3) p limit s) (tB true) (vR (0,0,1) (1,0,2) (0,0,3) p limit {s with visits:=s.visits++[s.calls++[k]]}):=by
 refine aq hΓ au Try.func59 rfl (by decide) rfl rfl ?_
 have hdl:(ak (s.visits.map aP)).length=s.visits.length:=by rw[bh,List.length_map]
 have hb:((s.visits.length:Int)==limit)=false:=beq_eq_false_iff_ne.2 h0
 have hf:flat ([]++s.calls.map ab++[[Tr.int .i64 k]]):=by
  have:=da (s.calls++[k])
  simpa [ab]using this
 repeat' ((conv=>whnf);first|apply Wx|apply W6|apply oi|(apply fi<;>intro h)|refine⟨_,rfl,?_⟩|exact rfl)
 all_goals try exact⟨KP⟩
 all_goals try(exfalso;rw[hdl,hb]at h;cases h;done)
 all_goals try exact⟨⟨by simp[bh] <;> omega,by simp[bh] <;> omega⟩⟩
 all_goals try exact⟨hf⟩
 all_goals exact⟨by simp[ak,aP,ab]⟩
end Go.Proofs.Ytjmplnfiabmalaa
