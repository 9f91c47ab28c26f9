import Derived.Test.YtoglejgmjeojoaaGreatGf
namespace Go.Proofs.YtoglejgmjeojoaaGreat
open Go.Sim
set_option maxRecDepth 100000
set_option maxHeartbeats 4000000
theorem wE {p q:Prop}[Decidable p][Decidable q]{α:Type}{a b:α}{r:α}(hp:p):((if p∧q then a else b)=r)=((if q then a else b)=r):=by
 by_cases hq:q
 ·rw[if_pos ⟨hp,hq⟩,if_pos hq]
 ·rw[if_neg (fun h=>hq h.2),if_neg hq]
theorem AQ {l:List CM}{j i:Nat}:(aX l (j:Int)==(i:Int))=(elseAt l j==some i):=by
 rw[aX,if_pos (by omega),Int.toNat_natCast]
 cases elseAt l j with
 | none=>simp[bS]
 | some m=>rw[Bool.eq_iff_iff];simp[bS];omega
theorem qH (l:List CM)(k e:Nat)(hl:l.length≤60)(hs:∀x∈l,aE 1048576 x.tr)(he:endAt l k=some e):Sim.Spec Tryz.prog 122 [tvP l,tvI k,tvI e] (rB (jT l k e)):=by
 refine aR hΓ aq Tryz.func122 rfl (by decide) rfl ?_
 have hlen:(l.map CM.tr).length=l.length:=by simp
 have hL:=fw l k (by omega) hs
 obtain⟨hloc1,hloc2⟩:=sT (l:=l) (k:=(k:Int)) (by omega) hs
 have hst0:=(au he)
 obtain⟨x0,hx0,ho0,he0,hke,hel⟩:=hst0
 unfold jT
 generalize localsOf l (k:Int)=loc at *
 have hll:(loc.map ag).length=loc.length:=by simp
 by_cases h8:loc.length≤8
 ·rw[decide_eq_true h8,Bool.true_and]
  obtain⟨R,hR⟩:∃R,jM l loc k e (e - (k+1)) (k+1) 0=R:=⟨_,rfl⟩
  rw[hR]
  repeat' ((conv=>whnf);first|apply Wx|apply W6|apply oi|(apply fi<;>intro h)|refine cl hL ?_|refine⟨_,rfl,?_⟩|exact rfl)
  all_goals try exact⟨KP⟩
  all_goals try exact KX
  conv=>whnf
  refine⟨{q:Nat×List Nat // k < q.1∧q.1≤e∧StkOk l e q.1 q.2∧q.2.length≤4∧jM l loc k e (e - q.1) q.1 q.2.length=R},fun q=>⟨[(0,vP l),(1,tI .i64 (k:Int)),(2,tI .i64 (e:Int)),(7,.r (.c (.own (7,0,0)))),(8,tI .i64 ((q.1.2.length:Nat):Int)),(9,tI .i64 (q.1.1:Int))],[((7,0,0),some (.arr true 1 (loc.map ag)))],[7]⟩,fun q=>e - q.1.1,⟨(k+1,[]),by dsimp only;omega,by dsimp only;omega,he0,by simp,hR⟩,?_,?_⟩
  ·skip
   repeat' ((conv=>whnf);first|apply Wx|apply W6|apply oi|(apply fi<;>intro h)|refine⟨_,rfl,?_⟩|exact rfl)
   all_goals try exact⟨KP⟩
   all_goals try exact⟨K4⟩
  intro⟨⟨i,es⟩,q1,q2,g1,g2,g4⟩
  dsimp only at q1 q2 g1 g2 g4 ⊢
  by_cases hlt:i < e
  ·obtain⟨y,hy⟩:=af (l:=l) (k:=i) (by omega)
   have hel3:(y.fac.map CU.tr).length=y.fac.length:=by simp
   have hysm:=(cd (hs y (List.mem_of_getElem? hy))).2.2.2.1
   obtain⟨K,hK⟩:∃K,bm l loc y.fac=K:=⟨_,rfl⟩
   rw[xA hlt hy,hK]at g4
   by_cases h0:y.faa=0
   ·rw[if_pos h0]at g4
    subst g4
    repeat' ((conv=>whnf);first|apply Wx|apply W6|apply oi|(apply fi<;>intro h)|refine⟨i,y.tr,rfl,aa hy,?_⟩|refine⟨_,rfl,?_⟩|exact rfl)
    all_goals try exact⟨KP⟩
    all_goals try exact KX
    all_goals try(exfalso;simp_all;done)
   ·rw[if_neg h0]at g4
    repeat' ((conv=>whnf);first|(with_reducible apply W1;fail_if_success (with_reducible show Wo _ _ _ _ (Code.seq (Code.region 8 _ _) _) _ _))|(with_reducible first|apply W2|apply W3|apply W4|apply W5|apply W6|apply W7|apply W8|apply W9)|apply bg|apply oi|(apply fi<;>intro h)|refine⟨i,y.tr,rfl,aa hy,?_⟩|refine⟨_,rfl,?_⟩|exact rfl)
    all_goals try exact⟨KP⟩
    all_goals try exact KX
    refine iK {q:Nat×List Nat // StkOk l e (i+1) q.2∧q.1=q.2.length∧q.1≤60∧(if q.1≤4∧K=true then jM l loc k e (e - (i+1)) (i+1) q.1 else false)=R} (fun q=>⟨[(0,vP l),(1,tI .i64 (k:Int)),(2,tI .i64 (e:Int)),(7,.r (.c (.own (7,0,0)))),(8,tI .i64 ((q.1.1:Nat):Int)),(9,tI .i64 (i:Int))],[((7,0,0),some (.arr true 1 (loc.map ag)))],[7]⟩) ?_ ?_
    ·by_cases h35:y.faa=3∨y.faa=5
     ·rw[if_neg (fun h=>by omega)]at g4
      have hd:dep y es.length=es.length+1:=by unfold dep;rw[if_pos h35]
      rw[hd]at g4
      obtain⟨m',hm',him,hst'⟩:=g1.push hy (opensK_iff.2 (by omega))
      have hwd:IntKind.i64.wrap ((es.length:Int)+1)=((es.length+1:Nat):Int):=by rw[IntWalk.i64_in _ (by omega)];omega
      repeat' ((conv=>whnf);first|apply Wx|apply W6|apply oi|(apply fi<;>intro h)|refine⟨i,y.tr,rfl,aa hy,?_⟩|refine⟨_,rfl,?_⟩|exact rfl)
      all_goals try exact⟨KP⟩
      all_goals try exact KX
      all_goals try(exfalso;simp_all;done)
      all_goals
       conv=>whnf
       refine⟨⟨(es.length+1,m'::es),hst',rfl,by dsimp only;omega,g4⟩,?_⟩
       repeat' ((conv=>whnf);first|apply Wx|apply W6|apply oi|(apply fi<;>intro h)|refine⟨_,rfl,?_⟩|exact rfl)
       all_goals try exact⟨KP⟩
       all_goals try exact⟨by dsimp only;rw[hwd]⟩
     ·by_cases h7':y.faa=7
      ·rw[if_neg (fun h=>by omega)]at g4
       rcases g1.pop hy h7' with⟨_,h'⟩|⟨es',hes,hst'⟩
       ·omega
       have hd:dep y es.length=es'.length:=by unfold dep;rw[if_neg h35,if_pos h7',hes];simp
       have hl4:es.length=es'.length+1:=by rw[hes];rfl
       rw[hd]at g4
       have hwd:IntKind.i64.wrap ((es.length:Int) - 1)=(es'.length:Int):=by rw[IntWalk.i64_in _ (by omega)];omega
       repeat' ((conv=>whnf);first|apply Wx|apply W6|apply oi|(apply fi<;>intro h)|refine⟨i,y.tr,rfl,aa hy,?_⟩|refine⟨_,rfl,?_⟩|exact rfl)
       all_goals try exact⟨KP⟩
       all_goals try exact KX
       all_goals try(exfalso;simp_all;done)
       conv=>whnf
       refine⟨⟨(es'.length,es'),hst',rfl,by dsimp only;omega,g4⟩,?_⟩
       repeat' ((conv=>whnf);first|apply Wx|apply W6|apply oi|(apply fi<;>intro h)|refine⟨_,rfl,?_⟩|exact rfl)
       all_goals try exact⟨KP⟩
       all_goals try exact⟨by dsimp only;rw[hwd]⟩
      ·have hd:dep y es.length=es.length:=by unfold dep;rw[if_neg h35,if_neg h7']
       have ho:bO y.faa=false:=by
        cases hh:bO y.faa with
        | false=>rfl
        | true=>rw[opensK_iff]at hh;omega
       have hst':=g1.other hy ho h7'
       rw[hd]at g4
       by_cases h4:y.faa=4
       ·obtain⟨Av,hA⟩:∃Av,lz l i (i - k) k=Av:=⟨_,rfl⟩
        rw[hA]at g4
        repeat' ((conv=>whnf);first|apply Wx|apply W6|apply oi|(apply fi<;>intro h)|refine⟨i,y.tr,rfl,aa hy,?_⟩|refine⟨_,rfl,?_⟩|exact rfl)
        all_goals try exact⟨KP⟩
        all_goals try exact KX
        all_goals try(exfalso;simp_all;done)
        conv=>whnf
        refine⟨{q:Nat×Bool // q.1≤i∧(q.2 || lz l i (i - q.1) q.1)=Av},fun q=>⟨[(0,vP l),(1,tI .i64 (k:Int)),(2,tI .i64 (e:Int)),(7,.r (.c (.own (7,0,0)))),(8,tI .i64 ((es.length:Nat):Int)),(9,tI .i64 (i:Int)),(10,tB q.1.2),(11,tI .i64 (q.1.1:Int))],[((7,0,0),some (.arr true 1 (loc.map ag)))],[7]⟩,fun q=>i - q.1.1,⟨(k,false),by dsimp only;omega,by simpa using hA⟩,?_,?_⟩
        ·skip
         repeat' ((conv=>whnf);first|apply Wx|apply W6|apply oi|(apply fi<;>intro h)|refine⟨_,rfl,?_⟩|exact rfl)
         all_goals try exact⟨KP⟩
        intro⟨⟨j,b⟩,hj,hb⟩
        dsimp only at hj hb ⊢
        by_cases hji:j < i
        ·obtain⟨n,hn⟩:∃n,i - j=n+1:=⟨i - j - 1,by omega⟩
         have hn2:i - (j+1)=n:=by omega
         rw[hn,lz,←AQ]at hb
         have hS:=im l (j:Int) (by omega)
         generalize aX l (j:Int)=ee at *
         cases b with
         | true=>
          repeat' ((conv=>whnf);first|apply Wx|apply W6|apply oi|(apply fi<;>intro h)|refine cl hS ?_|refine⟨_,rfl,?_⟩|exact rfl)
          all_goals try exact⟨KP⟩
          all_goals try exact KX
          conv=>whnf
          refine⟨⟨(j+1,true),by dsimp only;omega,by simpa using hb⟩,?_,KD⟩
          repeat' ((conv=>whnf);first|apply Wx|apply W6|apply oi|(apply fi<;>intro h)|refine⟨_,rfl,?_⟩|exact rfl)
          all_goals try exact⟨KP⟩
          all_goals try exact⟨K4⟩
         | false=>
          repeat' ((conv=>whnf);first|apply Wx|apply W6|apply oi|(apply fi<;>intro h)|refine cl hS ?_|refine⟨_,rfl,?_⟩|exact rfl)
          all_goals try exact⟨KP⟩
          all_goals try exact KX
          conv=>whnf
          refine⟨⟨(j+1,(ee==(i:Int))),by dsimp only;omega,by dsimp only;rw[hn2];simpa using hb⟩,?_,KD⟩
          repeat' ((conv=>whnf);first|apply Wx|apply W6|apply oi|(apply fi<;>intro h)|refine⟨_,rfl,?_⟩|exact rfl)
          all_goals try exact⟨KP⟩
          all_goals try exact⟨K4⟩
        ·rw[show i - j=0 by omega,lz,Bool.or_false]at hb
         subst hb
         cases b with
         | false=>
          rw[if_pos ⟨h4,rfl⟩]at g4
          subst g4
          repeat' ((conv=>whnf);first|apply Wx|apply W6|apply oi|(apply fi<;>intro h)|refine⟨_,rfl,?_⟩|exact rfl)
          all_goals try exact⟨KP⟩
          all_goals try exact KX
         | true=>
          rw[if_neg (by simp)]at g4
          repeat' ((conv=>whnf);first|apply Wx|apply W6|apply oi|(apply fi<;>intro h)|refine⟨_,rfl,?_⟩|exact rfl)
          all_goals try exact⟨KP⟩
          all_goals try exact KX
          conv=>whnf
          refine⟨⟨(es.length,es),hst',rfl,by dsimp only;omega,g4⟩,?_⟩
          repeat' ((conv=>whnf);first|apply Wx|apply W6|apply oi|(apply fi<;>intro h)|refine⟨_,rfl,?_⟩|exact rfl)
          all_goals try exact⟨KP⟩
       ·rw[if_neg (fun h=>h4 h.1)]at g4
        repeat' ((conv=>whnf);first|apply Wx|apply W6|apply oi|(apply fi<;>intro h)|refine⟨i,y.tr,rfl,aa hy,?_⟩|refine⟨_,rfl,?_⟩|exact rfl)
        all_goals try exact⟨KP⟩
        all_goals try exact KX
        all_goals try(exfalso;simp_all;done)
        conv=>whnf
        refine⟨⟨(es.length,es),hst',rfl,by dsimp only;omega,g4⟩,?_⟩
        repeat' ((conv=>whnf);first|apply Wx|apply W6|apply oi|(apply fi<;>intro h)|refine⟨_,rfl,?_⟩|exact rfl)
        all_goals try exact⟨KP⟩
    clear g4 g1
    intro⟨⟨d,es'⟩,hst',hdl,hd60,g4⟩
    dsimp only at hst' hdl hd60 g4 ⊢
    have hwd:(d:Int)=(d:Int):=rfl
    by_cases hd4:(d)≤4
    ·rw[wE hd4]at g4
     repeat' ((conv=>whnf);first|apply Wx|apply W6|apply oi|(apply fi<;>intro h)|refine⟨i,y.tr,rfl,aa hy,?_⟩|refine⟨_,rfl,?_⟩|exact rfl)
     all_goals try exact⟨KP⟩
     all_goals try exact KX
     all_goals try(exfalso;simp only[decide_eq_false_iff_not,decide_eq_true_eq]at h;omega)
     conv=>whnf
     refine⟨{j:Nat // j≤y.fac.length∧(y.fac.drop j).all (bB l loc)=K},fun q=>⟨[(0,vP l),(1,tI .i64 (k:Int)),(2,tI .i64 (e:Int)),(7,.r (.c (.own (7,0,0)))),(8,tI .i64 (d:Int)),(9,tI .i64 (i:Int)),(12,tI .i64 (q.1:Int))],[((7,0,0),some (.arr true 1 (loc.map ag)))],[7]⟩,fun q=>y.fac.length - q.1,⟨0,by omega,hK⟩,?_,?_⟩
     ·skip
      repeat' ((conv=>whnf);first|apply Wx|apply W6|apply oi|(apply fi<;>intro h)|refine⟨_,rfl,?_⟩|exact rfl)
      all_goals try exact⟨KP⟩
     intro⟨j,hj,hk2⟩
     dsimp only at hj hk2 ⊢
     by_cases hjl:j < y.fac.length
     ·obtain⟨t,ht⟩:=af hjl
      rw[wS ht]at hk2
      have hI:=dN loc t.fab (by omega)
      have hF:=cN l t.fab (by omega)
      by_cases h1:t.faa=1
      ·have e1:bB l loc t=loc.contains t.fab:=by unfold bB;rw[if_pos h1]
       rw[e1]at hk2
       have hix:=lh (l:=loc) (s:=t.fab)
       generalize ct loc t.fab=ix at *
       generalize dF l t.fab=ff at *
       cases hc:loc.contains t.fab with
       | false=>
        rw[hc]at hix hk2
        rw[Bool.false_and]at hk2
        subst hk2
        rw[if_neg (by simp)]at g4
        subst g4
        repeat' ((conv=>whnf);first|apply Wx|apply W6|apply oi|(apply fi<;>intro h)|refine⟨i,y.tr,rfl,aa hy,?_⟩|refine⟨j,t.tr,rfl,aa ht,?_⟩|refine cl hI ?_|refine cl hF ?_|refine⟨_,rfl,?_⟩|exact rfl)
        all_goals try exact⟨KP⟩
        all_goals try exact KX
        all_goals try(exfalso;(try simp_all[ah]);(try omega);done)
       | true=>
        rw[hc]at hix hk2
        rw[Bool.true_and]at hk2
        repeat' ((conv=>whnf);first|apply Wx|apply W6|apply oi|(apply fi<;>intro h)|refine⟨i,y.tr,rfl,aa hy,?_⟩|refine⟨j,t.tr,rfl,aa ht,?_⟩|refine cl hI ?_|refine cl hF ?_|refine⟨_,rfl,?_⟩|exact rfl)
        all_goals try exact⟨KP⟩
        all_goals try exact KX
        all_goals try(exfalso;(try simp_all[ah]);(try omega);done)
        all_goals try(exfalso;simp_all;done)
        conv=>whnf
        refine⟨⟨j+1,by omega,hk2⟩,?_,KD⟩
        repeat' ((conv=>whnf);first|apply Wx|apply W6|apply oi|(apply fi<;>intro h)|refine⟨_,rfl,?_⟩|exact rfl)
        all_goals try exact⟨KP⟩
        all_goals try exact⟨K4⟩
      ·by_cases h7:t.faa=7
       ·cases hf:findN l 0 t.fab with
        | none=>
         have e1:bB l loc t=false:=by unfold bB;rw[if_neg h1,if_pos h7,hf]
         rw[e1,Bool.false_and]at hk2
         subst hk2
         rw[if_neg (by simp)]at g4
         subst g4
         rw[show dF l t.fab= -1 from fQ hf]at hF
         repeat' ((conv=>whnf);first|apply Wx|apply W6|apply oi|(apply fi<;>intro h)|refine⟨i,y.tr,rfl,aa hy,?_⟩|refine⟨j,t.tr,rfl,aa ht,?_⟩|refine cl hI ?_|refine cl hF ?_|refine⟨_,rfl,?_⟩|exact rfl)
         all_goals try exact⟨KP⟩
         all_goals try exact KX
         all_goals try(exfalso;(try simp_all[ah]);(try omega);done)
        | some f=>
         obtain⟨hfl,x,hx,hx0,_⟩:=dZ hf
         have e1:bB l loc t=((x.fad.length:Int)==t.faf):=by unfold bB;rw[if_neg h1,if_pos h7,hf];dsimp only;rw[hx]
         rw[e1]at hk2
         rw[show dF l t.fab=(f:Int) from aU hf]at hF
         have hxl:(x.fad.map ag).length=x.fad.length:=by simp
         by_cases hn:(x.fad.length:Int)=t.faf
         ·rw[beq_iff_eq.2 hn,Bool.true_and]at hk2
          repeat' ((conv=>whnf);first|apply Wx|apply W6|apply oi|(apply fi<;>intro h)|refine⟨i,y.tr,rfl,aa hy,?_⟩|refine⟨j,t.tr,rfl,aa ht,?_⟩|refine⟨f,x.tr,rfl,aa hx,?_⟩|refine cl hI ?_|refine cl hF ?_|refine⟨_,rfl,?_⟩|exact rfl)
          all_goals try exact⟨KP⟩
          all_goals try exact KX
          all_goals try(exfalso;(try simp_all[ah]);(try omega);done)
          all_goals try(exfalso;simp_all;done)
          conv=>whnf
          refine⟨⟨j+1,by omega,hk2⟩,?_,KD⟩
          repeat' ((conv=>whnf);first|apply Wx|apply W6|apply oi|(apply fi<;>intro h)|refine⟨_,rfl,?_⟩|exact rfl)
          all_goals try exact⟨KP⟩
          all_goals try exact⟨K4⟩
         ·rw[beq_eq_false_iff_ne.2 hn,Bool.false_and]at hk2
          subst hk2
          rw[if_neg (by simp)]at g4
          subst g4
          repeat' ((conv=>whnf);first|apply Wx|apply W6|apply oi|(apply fi<;>intro h)|refine⟨i,y.tr,rfl,aa hy,?_⟩|refine⟨j,t.tr,rfl,aa ht,?_⟩|refine⟨f,x.tr,rfl,aa hx,?_⟩|refine cl hI ?_|refine cl hF ?_|refine⟨_,rfl,?_⟩|exact rfl)
          all_goals try exact⟨KP⟩
          all_goals try exact KX
          all_goals try(exfalso;(try simp_all[ah]);(try omega);done)
          all_goals try(exfalso;simp_all;done)
       ·have e1:bB l loc t=true:=by unfold bB;rw[if_neg h1,if_neg h7]
        rw[e1,Bool.true_and]at hk2
        repeat' ((conv=>whnf);first|apply Wx|apply W6|apply oi|(apply fi<;>intro h)|refine⟨i,y.tr,rfl,aa hy,?_⟩|refine⟨j,t.tr,rfl,aa ht,?_⟩|refine cl hI ?_|refine cl hF ?_|refine⟨_,rfl,?_⟩|exact rfl)
        all_goals try exact⟨KP⟩
        all_goals try exact KX
        all_goals try(exfalso;(try simp_all[ah]);(try omega);done)
        all_goals try(exfalso;simp_all;done)
        conv=>whnf
        refine⟨⟨j+1,by omega,hk2⟩,?_,KD⟩
        repeat' ((conv=>whnf);first|apply Wx|apply W6|apply oi|(apply fi<;>intro h)|refine⟨_,rfl,?_⟩|exact rfl)
        all_goals try exact⟨KP⟩
        all_goals try exact⟨K4⟩
     ·rw[List.drop_eq_nil_of_le (by omega),List.all_nil]at hk2
      subst hk2
      rw[if_pos rfl]at g4
      repeat' ((conv=>whnf);first|apply Wx|apply W6|apply oi|(apply fi<;>intro h)|refine⟨i,y.tr,rfl,aa hy,?_⟩|refine⟨_,rfl,?_⟩|exact rfl)
      all_goals try exact⟨KP⟩
      all_goals try(exfalso;have h':=of_decide_eq_true h;rw[hel3]at h';omega)
      conv=>whnf
      refine⟨⟨(i+1,es'),by dsimp only;omega,by dsimp only;omega,hst',by dsimp only;omega,by dsimp only;rw[←hdl];exact g4⟩,?_,KD⟩
      repeat' ((conv=>whnf);first|apply Wx|apply W6|apply oi|(apply fi<;>intro h)|refine⟨_,rfl,?_⟩|exact rfl)
      all_goals try exact⟨KP⟩
      all_goals try exact⟨by dsimp only;rw[hdl]⟩
      all_goals try exact⟨K4⟩
    ·rw[if_neg (fun h=>hd4 h.1)]at g4
     subst g4
     repeat' ((conv=>whnf);first|apply Wx|apply W6|apply oi|(apply fi<;>intro h)|refine⟨i,y.tr,rfl,aa hy,?_⟩|refine⟨_,rfl,?_⟩|exact rfl)
     all_goals try exact⟨KP⟩
     all_goals try exact KX
     all_goals try(exfalso;simp only[decide_eq_false_iff_not,decide_eq_true_eq]at h;omega)
  ·rw[yD (by omega)]at g4
   subst g4
   repeat' ((conv=>whnf);first|apply Wx|apply W6|apply oi|(apply fi<;>intro h)|refine⟨_,rfl,?_⟩|exact rfl)
   all_goals try exact⟨KP⟩
   all_goals try exact KX
 ·rw[decide_eq_false h8,Bool.false_and]
  repeat' ((conv=>whnf);first|apply Wx|apply W6|apply oi|(apply fi<;>intro h)|refine cl hL ?_|refine⟨_,rfl,?_⟩|exact rfl)
  all_goals try exact⟨KP⟩
  all_goals try exact KX
theorem AB {l:List CM}:(ay l).all (bb l)=true↔∀k x,l[k]?=some x→x.faa=0→bb l k=true:=by
 rw[List.all_eq_true]
 constructor
 ·intro H k x hx h0
  refine H k ?_
  have key:∀(n i:Nat),l.length - i≤n→i≤k→k∈funsF (l.drop i) i:=by
   have hkl:k < l.length:=by
    rcases Nat.lt_or_ge k l.length with h|h
    ·exact h
    ·rw[List.getElem?_eq_none h]at hx;cases hx
   intro n
   induction n with
   | zero=>intro i h1 h2;omega
   | succ n ih=>
    intro i h1 h2
    obtain⟨y,hy⟩:=af (l:=l) (k:=i) (by omega)
    rw[iF hy,List.mem_append]
    by_cases hik:i=k
    ·subst hik
     rw[hx]at hy
     injection hy with hy
     subst hy
     rw[if_pos h0]
     exact .inl (by simp)
    ·exact .inr (ih (i+1) (by omega) (by omega))
  have:=key l.length 0 (by omega) (by omega)
  rwa [List.drop_zero]at this
 ·intro H k hk
  obtain⟨_,x,hx,h0⟩:=kS hk
  exact H k x hx h0
def ok1 (l:List CM)(k:Nat)(x:CM):Bool:=bZ x && (if x.faa=0 then bb l k else true)
def okN (l:List CM):Nat→Nat→Bool
 | 0,_=>true
 | n+1,k=>match l[k]? with
  | some x=>ok1 l k x && okN l n (k+1)
  | none=>true
theorem vD {l:List CM}{k:Nat}{x:CM}(hx:l[k]?=some x):okN l (l.length - k) k=(ok1 l k x && okN l (l.length - (k+1)) (k+1)):=by
 have hk:k < l.length:=by
  rcases Nat.lt_or_ge k l.length with h|h
  ·exact h
  ·rw[List.getElem?_eq_none h]at hx;cases hx
 rw[show l.length - k=(l.length - (k+1))+1 by omega,okN,hx]
theorem ul {l:List CM}:∀(n k:Nat),l.length - k≤n→(okN l (l.length - k) k=true↔∀j x,k≤j→l[j]?=some x→ok1 l j x=true)
 | n,k,hn=>by
  by_cases hk:k < l.length
  ·obtain⟨x,hx⟩:=af hk
   cases n with
   | zero=>omega
   | succ n=>
    rw[vD hx,Bool.and_eq_true,ul n (k+1) (by omega)]
    constructor
    ·rintro⟨h1,h2⟩ j y hj hy
     by_cases hjk:j=k
     ·subst hjk
      rw[hx]at hy
      injection hy with hy
      subst hy
      exact h1
     ·exact h2 j y (by omega) hy
    ·intro H
     exact⟨H k x (Nat.le_refl _) hx,fun j y hj hy=>H j y (by omega) hy⟩
  ·rw[show l.length - k=0 by omega]
   refine⟨fun _ j x hj hx=>?_,fun _=>rfl⟩
   rw[List.getElem?_eq_none (by omega)]at hx
   cases hx
theorem Bb (l:List CM):okN l l.length 0=(l.all bZ && (ay l).all (bb l)):=by
 have h0:=ul (l:=l) l.length 0 (by omega)
 rw[Nat.sub_zero]at h0
 rw[Bool.eq_iff_iff,h0,Bool.and_eq_true,AB,List.all_eq_true]
 constructor
 ·intro H
  refine⟨fun x hx=>?_,fun k x hx h0=>?_⟩
  ·obtain⟨k,hk⟩:=List.getElem?_of_mem hx
   have:=H k x (by omega) hk
   rw[ok1,Bool.and_eq_true]at this
   exact this.1
  ·have:=H k x (by omega) hx
   rw[ok1,Bool.and_eq_true,if_pos h0]at this
   exact this.2
 ·rintro⟨H1,H2⟩ j x _ hx
  rw[ok1,Bool.and_eq_true]
  refine⟨H1 x (List.mem_of_getElem? hx),?_⟩
  split
  ·exact H2 j x hx (by assumption)
  ·rfl
theorem ph {l:List CM}:aF l=(decide (l.length≤60) && (decide ((ay l).length≤6) && (ka l && (okN l l.length 0 && bv (jT l) l l.length 0)))):=by
 unfold aF
 rw[Bb,rj]
 cases hh:ka l with
 | false=>simp
 | true=>
  have h1:1≤(ay l).length:=by
   cases l with
   | nil=>cases hh
   | cons x r=>
    have:x.faa=0:=by
     unfold ka at hh
     simp only[Bool.and_eq_true,beq_iff_eq]at hh
     exact hh.1
    rw[ay,funsF,if_pos this]
    simp
  have e:(decide (1≤(ay l).length∧(ay l).length≤6))=decide ((ay l).length≤6):=by
   rw[decide_eq_decide]
   omega
  rw[e]
  generalize decide (l.length≤60)=b1
  generalize decide ((ay l).length≤6)=b2
  generalize l.all bZ=b3
  generalize(ay l).all (bb l)=b4
  generalize gr l=b5
  generalize bv (gn l) l l.length 0=b6
  cases b1 <;> cases b2 <;> cases b3 <;> cases b4 <;> cases b5 <;> cases b6 <;> rfl
theorem eP (l:List CM)(hsm:aA 1048576 (.lst 4 (l.map CM.tr))):Sim.Spec Tryz.prog 47 [tvP l] (rB (aF l)):=by
 refine aR hΓ aq Tryz.func47 rfl (by decide) rfl ?_
 have hl:=bo hsm
 have hs:∀x∈l,aE 1048576 x.tr:=fun x hx=>aC hsm hx
 have hlen:(l.map CM.tr).length=l.length:=by simp
 have hF:=cK l hl
 have hfl:((ay l).map fun n:Nat=>ab n).length=(ay l).length:=by simp
 rw[ph]
 by_cases c1:l.length≤60
 ·rw[decide_eq_true c1,Bool.true_and]
  by_cases hpos:0 < l.length
  ·obtain⟨x0,hx0⟩:=af hpos
   have hal:(x0.fad.map ag).length=x0.fad.length:=by simp
   have hhd:=nW hx0
   by_cases c2:(ay l).length≤6
   ·rw[decide_eq_true c2,Bool.true_and]
    cases hh:ka l with
    | false=>
     rw[hh]at hhd
     rw[Bool.false_and]
     repeat' ((conv=>whnf);first|apply Wx|apply W6|apply oi|(apply fi<;>intro h)|refine cl hF ?_|refine⟨0,x0.tr,rfl,aa hx0,?_⟩|refine⟨_,rfl,?_⟩|exact rfl)
     all_goals try exact⟨KP⟩
     all_goals try exact KX
     all_goals try(exfalso;simp_all[fa];done)
    | true=>
     rw[hh]at hhd
     rw[Bool.true_and]
     cases hok:okN l l.length 0 with
     | false=>
      rw[Bool.false_and]
      repeat' ((conv=>whnf);first|apply Wx|apply W6|apply oi|(apply fi<;>intro h)|refine cl hF ?_|refine⟨0,x0.tr,rfl,aa hx0,?_⟩|refine⟨_,rfl,?_⟩|exact rfl)
      all_goals try exact⟨KP⟩
      all_goals try exact KX
      all_goals try(exfalso;simp_all[fa];done)
      conv=>whnf
      refine⟨{k:Nat // k≤l.length∧okN l (l.length - k) k=false},fun q=>⟨[(0,vP l),(3,tI .i64 (q.1:Int))],[],[]⟩,fun q=>l.length - q.1,⟨0,by omega,by rw[Nat.sub_zero];exact hok⟩,?_,?_⟩
      ·skip
       repeat' ((conv=>whnf);first|apply Wx|apply W6|apply oi|(apply fi<;>intro h)|refine⟨_,rfl,?_⟩|exact rfl)
       all_goals try exact⟨KP⟩
      intro⟨k,hk,hr⟩
      dsimp only at hk hr ⊢
      by_cases hlt:k < l.length
      ·obtain⟨x,hx⟩:=af hlt
       rw[vD hx,ok1]at hr
       have hL:=lJ x (hs x (List.mem_of_getElem? hx))
       have hN:=cN l x.fab hl
       have hnf2:(dF l x.fab==(k:Int))=bb l k:=by
        unfold bb
        rw[hx,dF]
        dsimp only
        cases findN l 0 x.fab with
        | none=>simp[bS]
        | some m=>rw[Bool.eq_iff_iff];simp[bS];omega
       generalize dF l x.fab=ff at *
       generalize bZ x=lo at *
       generalize bb l k=nf at *
       by_cases h0:x.faa=0
       ·rw[if_pos h0]at hr
        repeat' ((conv=>whnf);first|apply Wx|apply W6|apply oi|(apply fi<;>intro h)|refine cl hL ?_|refine cl hN ?_|refine⟨k,x.tr,rfl,aa hx,?_⟩|refine⟨_,rfl,?_⟩|exact rfl)
        all_goals try exact⟨KP⟩
        all_goals try exact KX
        all_goals try(exfalso;simp_all;done)
        all_goals
         conv=>whnf
         refine⟨⟨k+1,by omega,by simp_all⟩,?_,KD⟩
         repeat' ((conv=>whnf);first|apply Wx|apply W6|apply oi|(apply fi<;>intro h)|refine⟨_,rfl,?_⟩|exact rfl)
         all_goals try exact⟨KP⟩
         all_goals try exact⟨K4⟩
       ·rw[if_neg h0,Bool.and_true]at hr
        repeat' ((conv=>whnf);first|apply Wx|apply W6|apply oi|(apply fi<;>intro h)|refine cl hL ?_|refine cl hN ?_|refine⟨k,x.tr,rfl,aa hx,?_⟩|refine⟨_,rfl,?_⟩|exact rfl)
        all_goals try exact⟨KP⟩
        all_goals try exact KX
        all_goals try(exfalso;simp_all;done)
        all_goals
         conv=>whnf
         refine⟨⟨k+1,by omega,by simp_all⟩,?_,KD⟩
         repeat' ((conv=>whnf);first|apply Wx|apply W6|apply oi|(apply fi<;>intro h)|refine⟨_,rfl,?_⟩|exact rfl)
         all_goals try exact⟨KP⟩
         all_goals try exact⟨K4⟩
      ·rw[show l.length - k=0 by omega]at hr
       cases hr
     | true=>
      rw[Bool.true_and]
      obtain⟨R,hR⟩:∃R,bv (jT l) l l.length 0=R:=⟨_,rfl⟩
      rw[hR]
      have hoka:=(ul (l:=l) l.length 0 (by omega))
      rw[Nat.sub_zero]at hoka
      have hoka:=hoka.1 hok
      repeat' ((conv=>whnf);first|apply Wx|apply W6|apply oi|(apply fi<;>intro h)|refine cl hF ?_|refine⟨0,x0.tr,rfl,aa hx0,?_⟩|refine⟨_,rfl,?_⟩|exact rfl)
      all_goals try exact⟨KP⟩
      all_goals try exact KX
      all_goals try(exfalso;simp_all[fa];done)
      conv=>whnf
      refine⟨{k:Nat // k≤l.length},fun q=>⟨[(0,vP l),(3,tI .i64 (q.1:Int))],[],[]⟩,fun q=>l.length - q.1,⟨0,by omega⟩,?_,?_⟩
      ·skip
       repeat' ((conv=>whnf);first|apply Wx|apply W6|apply oi|(apply fi<;>intro h)|refine⟨_,rfl,?_⟩|exact rfl)
       all_goals try exact⟨KP⟩
      intro⟨k,hk⟩
      dsimp only at hk ⊢
      by_cases hlt:k < l.length
      ·obtain⟨x,hx⟩:=af hlt
       have hr:=hoka k x (by omega) hx
       rw[ok1]at hr
       have hL:=lJ x (hs x (List.mem_of_getElem? hx))
       have hN:=cN l x.fab hl
       have hnf2:(dF l x.fab==(k:Int))=bb l k:=by
        unfold bb
        rw[hx,dF]
        dsimp only
        cases findN l 0 x.fab with
        | none=>simp[bS]
        | some m=>rw[Bool.eq_iff_iff];simp[bS];omega
       clear hoka hok
       generalize dF l x.fab=ff at *
       generalize bZ x=lo at *
       generalize bb l k=nf at *
       by_cases h0:x.faa=0
       ·rw[if_pos h0]at hr
        repeat' ((conv=>whnf);first|apply Wx|apply W6|apply oi|(apply fi<;>intro h)|refine cl hL ?_|refine cl hN ?_|refine⟨k,x.tr,rfl,aa hx,?_⟩|refine⟨_,rfl,?_⟩|exact rfl)
        all_goals try exact⟨KP⟩
        all_goals try exact KX
        all_goals try(exfalso;simp_all;done)
        all_goals
         conv=>whnf
         refine⟨⟨k+1,by omega⟩,?_,KD⟩
         repeat' ((conv=>whnf);first|apply Wx|apply W6|apply oi|(apply fi<;>intro h)|refine⟨_,rfl,?_⟩|exact rfl)
         all_goals try exact⟨KP⟩
         all_goals try exact⟨K4⟩
       ·rw[if_neg h0,Bool.and_true]at hr
        repeat' ((conv=>whnf);first|apply Wx|apply W6|apply oi|(apply fi<;>intro h)|refine cl hL ?_|refine cl hN ?_|refine⟨k,x.tr,rfl,aa hx,?_⟩|refine⟨_,rfl,?_⟩|exact rfl)
        all_goals try exact⟨KP⟩
        all_goals try exact KX
        all_goals try(exfalso;simp_all;done)
        all_goals
         conv=>whnf
         refine⟨⟨k+1,by omega⟩,?_,KD⟩
         repeat' ((conv=>whnf);first|apply Wx|apply W6|apply oi|(apply fi<;>intro h)|refine⟨_,rfl,?_⟩|exact rfl)
         all_goals try exact⟨KP⟩
         all_goals try exact⟨K4⟩
      ·skip
       repeat' ((conv=>whnf);first|apply Wx|apply W6|apply oi|(apply fi<;>intro h)|refine⟨_,rfl,?_⟩|exact rfl)
       all_goals try exact⟨KP⟩
       all_goals try exact KX
       conv=>whnf
       refine⟨{k:Nat // k≤l.length∧bv (jT l) l (l.length - k) k=R},fun q=>⟨[(0,vP l),(4,tI .i64 (q.1:Int))],[],[]⟩,fun q=>l.length - q.1,⟨0,by omega,by rw[Nat.sub_zero];exact hR⟩,?_,?_⟩
       ·skip
        repeat' ((conv=>whnf);first|apply Wx|apply W6|apply oi|(apply fi<;>intro h)|refine⟨_,rfl,?_⟩|exact rfl)
        all_goals try exact⟨KP⟩
       intro⟨k,hk,hr⟩
       dsimp only at hk hr ⊢
       by_cases hlt:k < l.length
       ·obtain⟨x,hx⟩:=af hlt
        rw[gQ hx (Nat.le_refl _)]at hr
        have hE:=cm l (k:Int) hl
        cases he:endAt l k with
        | none=>
         rw[aV,fQ he]at hE
         rw[he]at hr
         subst hr
         repeat' ((conv=>whnf);first|apply Wx|apply W6|apply oi|(apply fi<;>intro h)|refine cl hE ?_|refine⟨k,x.tr,rfl,aa hx,?_⟩|refine⟨_,rfl,?_⟩|exact rfl)
         all_goals try exact⟨KP⟩
         all_goals try exact KX
         all_goals try(exfalso;simp_all;done)
        | some e=>
         obtain⟨_,_,_,_,hke,hel⟩:=au he
         rw[aV,aU he]at hE
         rw[he]at hr
         dsimp only at hr
         have hK:=qH l k e c1 hs he
         generalize jT l k e=fb at *
         by_cases hc:x.faa=0∧fb=true
         ·rw[if_pos hc]at hr
          obtain⟨d1,d2⟩:=hc
          subst d2
          repeat' ((conv=>whnf);first|apply Wx|apply W6|apply oi|(apply fi<;>intro h)|refine cl hE ?_|refine cl hK ?_|refine⟨k,x.tr,rfl,aa hx,?_⟩|refine⟨_,rfl,?_⟩|exact rfl)
          all_goals try exact⟨KP⟩
          all_goals try exact KX
          all_goals try(exfalso;simp_all;done)
          conv=>whnf
          refine⟨⟨e+1,by omega,hr⟩,?_,KD⟩
          repeat' ((conv=>whnf);first|apply Wx|apply W6|apply oi|(apply fi<;>intro h)|refine⟨_,rfl,?_⟩|exact rfl)
          all_goals try exact⟨KP⟩
          all_goals try exact⟨K4⟩
         ·rw[if_neg hc]at hr
          subst hr
          repeat' ((conv=>whnf);first|apply Wx|apply W6|apply oi|(apply fi<;>intro h)|refine cl hE ?_|refine cl hK ?_|refine⟨k,x.tr,rfl,aa hx,?_⟩|refine⟨_,rfl,?_⟩|exact rfl)
          all_goals try exact⟨KP⟩
          all_goals try exact KX
          all_goals try(exfalso;simp_all;done)
       ·rw[show l.length - k=0 by omega,bv,decide_eq_true (by omega)]at hr
        subst hr
        repeat' ((conv=>whnf);first|apply Wx|apply W6|apply oi|(apply fi<;>intro h)|refine⟨_,rfl,?_⟩|exact rfl)
        all_goals try exact⟨KP⟩
        all_goals try exact KX
   ·rw[decide_eq_false c2,Bool.false_and]
    repeat' ((conv=>whnf);first|apply Wx|apply W6|apply oi|(apply fi<;>intro h)|refine cl hF ?_|refine⟨0,x0.tr,rfl,aa hx0,?_⟩|refine⟨_,rfl,?_⟩|exact rfl)
    all_goals try exact⟨KP⟩
    all_goals try exact KX
    all_goals try(exfalso;simp_all[fa];done)
  ·have hnil:l=[]:=List.length_eq_zero_iff.1 (by omega)
   subst hnil
   rw[show ka ([]:List CM)=false from rfl,Bool.false_and,Bool.and_false]
   repeat' ((conv=>whnf);first|apply Wx|apply W6|apply oi|(apply fi<;>intro h)|refine cl hF ?_|refine⟨_,rfl,?_⟩|exact rfl)
   all_goals try exact⟨KP⟩
   all_goals try exact KX
 ·rw[decide_eq_false c1,Bool.false_and]
  repeat' ((conv=>whnf);first|apply Wx|apply W6|apply oi|(apply fi<;>intro h)|refine cl hF ?_|refine⟨_,rfl,?_⟩|exact rfl)
  all_goals try exact⟨KP⟩
  all_goals try exact KX
  all_goals try(exfalso;simp_all;done)
theorem eb {l:List CU}{p:Nat}{e:Ex}(h:eB l p e):p+e.toks.length≤l.length:=by
 obtain⟨r,h⟩:=h
 have h1:=congrArg List.length h
 rw[List.length_drop,List.length_append]at h1
 have:=e.toks_pos
 omega
theorem jI (l:List CU)(p:Nat)(t:CU)(es:List Ex)(hl:l.length≤1048576)(hn:cP l)(ho:(Ex.node t es).ok)(hs:eB l p (.node t es)):Sim.Spec Tryz.prog 272 [tvL 3 (l.map CU.tr),tvI p] (rL 1 ((er (p+1) es).map nR)):=by
 refine aR hΓ aq Tryz.func272 rfl (by decide) rfl ?_
 have hlen:(l.map CU.tr).length=l.length:=by simp
 have hle:=eb hs
 obtain⟨ht,hsa⟩:=eO hs
 have hX:=gk l p hl hn
 rw[fX hs ho]at hX
 have htn:=hn t (List.mem_of_getElem? ht)
 have hA:=mM t htn
 obtain⟨e1,e2⟩:=nJ ho.1
 have hel:es.length=ar t:=ho.2.1
 rw[e1,←hel]at hA
 obtain⟨R,hR⟩:∃R,er (p+1) es=R:=⟨_,rfl⟩
 rw[hR]
 have hpl:p < l.length:=by
  have:=(Ex.node t es).toks_pos
  omega
 generalize p+(Ex.node t es).toks.length=pe at *
 repeat' ((conv=>whnf);first|apply Wx|apply W6|apply oi|(apply fi<;>intro h)|refine cl hX ?_|refine⟨p,t.tr,rfl,aa ht,?_⟩|refine cl hA ?_|refine⟨_,rfl,?_⟩|exact rfl)
 all_goals try exact⟨KP⟩
 all_goals try exact KX
 conv=>whnf
 refine⟨{q:Nat×List Nat×List Ex // q.2.1++er q.1 q.2.2=R∧gl l q.1 q.2.2∧gh q.2.2∧q.2.1.length+q.2.2.length≤4∧q.1≤1048577},fun q=>⟨[(0,.r (.c (.t (.lst 3 (l.map CU.tr))))),(5,.r (.c (.own (5,0,0)))),(6,tI .i64 (q.1.1:Int)),(7,tI .i64 (q.1.2.2.length:Int))],[((5,0,0),some (.arr true 1 (q.1.2.1.map nR)))],[5]⟩,fun q=>q.1.2.2.length,⟨(p+1,[],es),hR,hsa,ho.2.2,by simp;omega,by dsimp only;omega⟩,?_,?_⟩
 ·skip
  repeat' ((conv=>whnf);first|apply Wx|apply W6|apply oi|(apply fi<;>intro h)|refine⟨_,rfl,?_⟩|exact rfl)
  all_goals try exact⟨KP⟩
  all_goals try exact⟨K4⟩
 intro⟨⟨q,acc,fs⟩,h1,h2,h3,h4,h5⟩
 dsimp only at h1 h2 h3 h4 h5 ⊢
 cases fs with
 | nil=>
  rw[er,List.append_nil]at h1
  subst h1
  repeat' ((conv=>whnf);first|apply Wx|apply W6|apply oi|(apply fi<;>intro h)|refine⟨_,rfl,?_⟩|exact rfl)
  all_goals try exact⟨KP⟩
  all_goals try exact KX
  all_goals try(exfalso;simp at h;done)
 | cons a fs=>
  obtain⟨g1,g2⟩:=dc h2
  have hX2:=gk l q hl hn
  rw[fX g1 h3.1]at hX2
  have hle2:=eb g1
  have hfl:(a::fs).length=fs.length+1:=rfl
  repeat' ((conv=>whnf);first|apply Wx|apply W6|apply oi|(apply fi<;>intro h)|refine cl hX2 ?_|refine⟨_,rfl,?_⟩|exact rfl)
  all_goals try exact⟨KP⟩
  all_goals try exact KX
  all_goals try(exfalso;simp at h;done)
  all_goals try exact⟨⟨by simp <;> omega,by simp <;> omega⟩⟩
  conv=>whnf
  refine⟨⟨(q+a.toks.length,acc++[q],fs),by dsimp only;rw[←h1,er];simp,g2,h3.2,by simp only[List.length_append,List.length_cons,List.length_nil]at *;omega,by dsimp only;omega⟩,?_,by dsimp only;simp⟩
  repeat' ((conv=>whnf);first|apply Wx|apply W6|apply oi|(apply fi<;>intro h)|refine⟨_,rfl,?_⟩|exact rfl)
  all_goals try exact⟨KP⟩
  all_goals try exact⟨by dsimp only;rw[hfl,IntWalk.i64_in _ (by omega)];congr 1;omega⟩
  all_goals exact⟨by simp[ab]⟩
theorem pE (l:List CU)(p:Nat)(t:CU)(es:List Ex)(hl:l.length≤1048576)(hn:cP l)(ho:(Ex.node t es).ok)(hs:eB l p (.node t es)):Sim.Spec Tryz.prog 258 [tvL 3 (l.map CU.tr),tvI p] (rL 1 ((er (p+1) es).map nR)):=by
 refine aR hΓ aq Tryz.func258 rfl (by decide) rfl ?_
 have hlen:(l.map CU.tr).length=l.length:=by simp
 have hle:=eb hs
 obtain⟨ht,hsa⟩:=eO hs
 have hX:=gg l p hl hn
 rw[fX hs ho]at hX
 have htn:=hn t (List.mem_of_getElem? ht)
 have hA:=jC t htn
 obtain⟨e1,e2⟩:=nJ ho.1
 have hel:es.length=ar t:=ho.2.1
 rw[e1,←hel]at hA
 obtain⟨R,hR⟩:∃R,er (p+1) es=R:=⟨_,rfl⟩
 rw[hR]
 have hpl:p < l.length:=by
  have:=(Ex.node t es).toks_pos
  omega
 generalize p+(Ex.node t es).toks.length=pe at *
 repeat' ((conv=>whnf);first|apply Wx|apply W6|apply oi|(apply fi<;>intro h)|refine cl hX ?_|refine⟨p,t.tr,rfl,aa ht,?_⟩|refine cl hA ?_|refine⟨_,rfl,?_⟩|exact rfl)
 all_goals try exact⟨KP⟩
 all_goals try exact KX
 conv=>whnf
 refine⟨{q:Nat×List Nat×List Ex // q.2.1++er q.1 q.2.2=R∧gl l q.1 q.2.2∧gh q.2.2∧q.2.1.length+q.2.2.length≤4∧q.1≤1048577},fun q=>⟨[(0,.r (.c (.t (.lst 3 (l.map CU.tr))))),(5,.r (.c (.own (5,0,0)))),(6,tI .i64 (q.1.1:Int)),(7,tI .i64 (q.1.2.2.length:Int))],[((5,0,0),some (.arr true 1 (q.1.2.1.map nR)))],[5]⟩,fun q=>q.1.2.2.length,⟨(p+1,[],es),hR,hsa,ho.2.2,by simp;omega,by dsimp only;omega⟩,?_,?_⟩
 ·skip
  repeat' ((conv=>whnf);first|apply Wx|apply W6|apply oi|(apply fi<;>intro h)|refine⟨_,rfl,?_⟩|exact rfl)
  all_goals try exact⟨KP⟩
  all_goals try exact⟨K4⟩
 intro⟨⟨q,acc,fs⟩,h1,h2,h3,h4,h5⟩
 dsimp only at h1 h2 h3 h4 h5 ⊢
 cases fs with
 | nil=>
  rw[er,List.append_nil]at h1
  subst h1
  repeat' ((conv=>whnf);first|apply Wx|apply W6|apply oi|(apply fi<;>intro h)|refine⟨_,rfl,?_⟩|exact rfl)
  all_goals try exact⟨KP⟩
  all_goals try exact KX
  all_goals try(exfalso;simp at h;done)
 | cons a fs=>
  obtain⟨g1,g2⟩:=dc h2
  have hX2:=gg l q hl hn
  rw[fX g1 h3.1]at hX2
  have hle2:=eb g1
  have hfl:(a::fs).length=fs.length+1:=rfl
  repeat' ((conv=>whnf);first|apply Wx|apply W6|apply oi|(apply fi<;>intro h)|refine cl hX2 ?_|refine⟨_,rfl,?_⟩|exact rfl)
  all_goals try exact⟨KP⟩
  all_goals try exact KX
  all_goals try(exfalso;simp at h;done)
  all_goals try exact⟨⟨by simp <;> omega,by simp <;> omega⟩⟩
  conv=>whnf
  refine⟨⟨(q+a.toks.length,acc++[q],fs),by dsimp only;rw[←h1,er];simp,g2,h3.2,by simp only[List.length_append,List.length_cons,List.length_nil]at *;omega,by dsimp only;omega⟩,?_,by dsimp only;simp⟩
  repeat' ((conv=>whnf);first|apply Wx|apply W6|apply oi|(apply fi<;>intro h)|refine⟨_,rfl,?_⟩|exact rfl)
  all_goals try exact⟨KP⟩
  all_goals try exact⟨by dsimp only;rw[hfl,IntWalk.i64_in _ (by omega)];congr 1;omega⟩
  all_goals exact⟨by simp[ab]⟩
def w32 (n:Int):Int:=IntKind.i32.wrap n
theorem kR (n:Int):IntKind.i32.wrap n=if n % 4294967296≥2147483648 then n % 4294967296 - 4294967296 else n % 4294967296:=by
 simp[IntKind.wrap,IntKind.bits,IntKind.signed]
theorem yU (n:Int):IntKind.u32.wrap n=n % 4294967296:=by simp[IntKind.wrap,IntKind.bits,IntKind.signed]
theorem iD (n:Int):-2147483648≤w32 n∧w32 n≤2147483647:=by
 unfold w32;rw[kR];split <;> omega
theorem vl (n:Int):Sim.Spec Tryz.prog 256 [tvI n] (rI (w32 n)):=by
 refine aj hΓ aq Tryz.func256 rfl (by decide) rfl ?_
 repeat' ((conv=>whnf);first|refine Or.inl ?_|apply oi|(apply fi<;>intro h)|refine⟨_,rfl,?_⟩|exact rfl)
 all_goals try exact⟨KO⟩
 all_goals(refine⟨congrArg (Tr.int _) ?_⟩;have:=iD n;unfold w32 at *;rw[kR]at *;rw[kR,yU,IntWalk.i64_in _ (by split <;> omega)];simp)
theorem AM (n:Int):((BitVec.ofInt IntKind.i64.bits n &&& BitVec.ofInt IntKind.i64.bits 4294967295).toNat:Int)=n % 4294967296:=by
 show((BitVec.ofInt 64 n &&& BitVec.ofInt 64 4294967295).toNat:Int)=_
 have e:(BitVec.ofInt 64 4294967295).toNat=2 ^ 32 - 1:=by decide
 rw[BitVec.toNat_and,e,Nat.and_two_pow_sub_one_eq_mod,BitVec.toNat_ofInt]
 have:((2 ^ 64:Nat):Int)=18446744073709551616:=by decide
 omega
theorem va (n:Int):Sim.Spec Tryz.prog 246 [tvI n] (rI (w32 n)):=by
 refine aj hΓ aq Tryz.func246 rfl (by decide) rfl ?_
 have hand:IntKind.i64.wrap ((BitVec.ofInt IntKind.i64.bits n &&& BitVec.ofInt IntKind.i64.bits 4294967295).toNat:Int)=n % 4294967296:=by
  rw[AM,IntWalk.i64_in _ (by omega)]
 unfold w32
 rw[kR]
 repeat' ((conv=>whnf);first|refine Or.inl ?_|apply oi|(apply fi<;>intro h)|refine⟨_,rfl,?_⟩|exact rfl)
 all_goals try exact⟨KO⟩
 all_goals(refine⟨congrArg (Tr.int _) ?_⟩;rw[hand]at h ⊢)
 ·have h':=of_decide_eq_true h
  rw[if_pos (by omega),IntWalk.i64_in _ (by omega)]
 ·have h':=of_decide_eq_false h
  rw[if_neg (by omega)]
theorem tE {x y:Int}(hx:-2147483648≤x∧x≤2147483647)(hy:-2147483648≤y∧y≤2147483647):-4611686018427387904≤x * y∧x * y≤4611686018427387904:=by
 have h:(x * y).natAbs≤2147483648 * 2147483648:=by
  rw[Int.natAbs_mul]
  exact Nat.mul_le_mul (by omega) (by omega)
 omega
def cw (k a b:Int):Int:=
 if k=2 then w32 (w32 a+w32 b)else if k=3 then w32 (w32 a - w32 b)else if k=4 then w32 (w32 a * w32 b)
 else if(k=5∧w32 a < w32 b)∨(k=6∧w32 a=w32 b)then 1 else 0
theorem uH (k a b:Int):Sim.Spec Tryz.prog 233 [tvI k,tvI a,tvI b] (rI (cw k a b)):=by
 refine aj hΓ aq Tryz.func233 rfl (by decide) rfl ?_
 have ha:=iD a
 have hb:=iD b
 have hm:=tE ha hb
 have e1:IntKind.i64.wrap (w32 a+w32 b)=w32 a+w32 b:=IntWalk.i64_in _ (by omega)
 have e2:IntKind.i64.wrap (w32 a - w32 b)=w32 a - w32 b:=IntWalk.i64_in _ (by omega)
 have e3:IntKind.i64.wrap (w32 a * w32 b)=w32 a * w32 b:=IntWalk.i64_in _ (by omega)
 unfold cw
 repeat' ((conv=>whnf);first|refine Or.inl ?_|apply oi|(apply fi<;>intro h)|refine ci (vl _) (ai rfl trivial) ?_|refine⟨_,rfl,?_⟩|exact rfl)
 all_goals try exact⟨KO⟩
 all_goals(refine⟨congrArg (Tr.int _) ?_⟩;simp_all;try omega)
theorem uK (k a b:Int):Sim.Spec Tryz.prog 206 [tvI k,tvI a,tvI b] (rI (cw k a b)):=by
 refine aj hΓ aq Tryz.func206 rfl (by decide) rfl ?_
 have ha:=iD a
 have hb:=iD b
 have hm:=tE ha hb
 have e1:IntKind.i64.wrap (w32 a+w32 b)=w32 a+w32 b:=IntWalk.i64_in _ (by omega)
 have e2:IntKind.i64.wrap (w32 a - w32 b)=w32 a - w32 b:=IntWalk.i64_in _ (by omega)
 have e3:IntKind.i64.wrap (w32 a * w32 b)=w32 a * w32 b:=IntWalk.i64_in _ (by omega)
 unfold cw
 repeat' ((conv=>whnf);first|refine Or.inl ?_|apply oi|(apply fi<;>intro h)|refine ci (va _) (ai rfl trivial) ?_|refine⟨_,rfl,?_⟩|exact rfl)
 all_goals try exact⟨KO⟩
 all_goals(refine⟨congrArg (Tr.int _) ?_⟩;simp_all;try omega)
def ub (n:Int):Ex:= .node ⟨0,n,[]⟩ []
def ze (t a b:CU):Prop:=ah t.faa 2 6=true∧a.faa=0∧b.faa=0∧ah (cw t.faa a.faf b.faf) 0 999=true
instance (t a b:CU):Decidable (ze t a b):=by unfold ze;infer_instance
def sD (t:CU):List Ex→Ex
 | [.node a [],.node b []]=>if ze t a b then ub (cw t.faa a.faf b.faf)else .node t [.node a [],.node b []]
 | fs=> .node t fs
mutual
def Ex.fold:Ex→Ex
 | .node t es=>sD t (aO es)
def aO:List Ex→List Ex
 | []=>[]
 | a::es=>a.fold::aO es
end
theorem bD (l:List CU):flat (l.map CU.tr):=dG _ (by intro x c hc sz rs e;subst e;simp[CU.tr]at hc)
theorem fZ:∀es:List Ex,(aO es).length=es.length
 | []=>rfl
 | a::es=>by rw[aO,List.length_cons,fZ,List.length_cons]
theorem kh:∀(es:List Ex) (j:Nat),(aO es).take j=aO (es.take j)
 | [],j=>by simp[aO]
 | a::es,0=>by rw[List.take_zero,List.take_zero,aO]
 | a::es,j+1=>by rw[aO,List.take_succ_cons,List.take_succ_cons,aO,kh es j]
theorem jc:∀{es:List Ex} {j:Nat} {a:Ex},es[j]?=some a→aO (es.take (j+1))=aO (es.take j)++[a.fold]
 | [],_,_,h=>by simp at h
 | b::es,0,a,h=>by
  rw[List.getElem?_cons_zero]at h
  injection h with h
  subst h
  rfl
 | b::es,j+1,a,h=>by
  rw[List.getElem?_cons_succ]at h
  rw[List.take_succ_cons,aO,List.take_succ_cons,aO,jc h,List.cons_append]
theorem jm (a:Ex):ak [a]=a.toks:=by rw[ak,ak,List.append_nil]
theorem qp {f:Ex}(h:f.toks.length=1):∃a,f= .node a []:=by
 cases f with
 | node a es=>
  rw[Ex.toks,List.length_cons]at h
  cases es with
  | nil=>exact⟨a,rfl⟩
  | cons b es=>
   rw[ak,List.length_append]at h
   have:=b.toks_pos
   omega
theorem jF {t:CU}{fs:List Ex}(h:(ak fs).length≠2∨ah t.faa 2 6=false):sD t fs= .node t fs:=by
 unfold sD
 split
 ·rename_i a b
  rw[if_neg]
  intro hc
  rcases h with h|h
  ·exact h (by simp[ak,Ex.toks])
  ·rw[hc.1]at h;cases h
 ·rfl
theorem wx (t a b:CU):sD t [.node a [],.node b []]=if ze t a b then ub (cw t.faa a.faf b.faf)else .node t [.node a [],.node b []]:=rfl
theorem Bs (t:CU)(fs:List Ex):(sD t fs).toks.length≤1+(ak fs).length:=by
 unfold sD
 split
 ·split
  ·simp[ub,Ex.toks,ak]
  ·simp[Ex.toks,ak]
 ·rw[Ex.toks,List.length_cons];omega
mutual
theorem Ex.fold_le:∀e:Ex,e.fold.toks.length≤e.toks.length
 | .node t es=>by
  rw[Ex.fold,Ex.toks,List.length_cons]
  have h1:=Bs t (aO es)
  have h2:=kQ es
  omega
theorem kQ:∀es:List Ex,(ak (aO es)).length≤(ak es).length
 | []=>Nat.le_refl _
 | a::es=>by
  rw[aO,ak,ak,List.length_append,List.length_append]
  have h1:=Ex.fold_le a
  have h2:=kQ es
  omega
end
theorem cy:∀(es:List Ex) (j:Nat),(ak (es.take j)).length≤(ak es).length
 | [],j=>by rw[List.take_nil];omega
 | a::es,0=>by rw[List.take_zero,ak];simp
 | a::es,j+1=>by
  have:=cy es j
  rw[List.take_succ_cons,ak,ak,List.length_append,List.length_append]
  omega
theorem fV:∀{es:List Ex} {j:Nat} {a:Ex},es[j]?=some a→a.toks.length≤(ak es).length
 | [],_,_,h=>by simp at h
 | b::es,0,a,h=>by
  rw[List.getElem?_cons_zero]at h
  injection h with h
  subst h
  rw[ak,List.length_append];omega
 | b::es,j+1,a,h=>by
  rw[List.getElem?_cons_succ]at h
  have:=fV h
  rw[ak,List.length_append];omega
theorem iw:∀{es:List Ex} {j:Nat} {a:Ex},gh es→es[j]?=some a→a.ok
 | [],_,_,_,h=>by simp at h
 | b::es,0,a,ho,h=>by
  rw[List.getElem?_cons_zero]at h
  injection h with h
  subst h
  exact ho.1
 | b::es,j+1,a,ho,h=>by
  rw[List.getElem?_cons_succ]at h
  exact iw ho.2 h
theorem zN {t:CU}(ho:dB t=true)(hk:ah t.faa 2 6=true):ar t=2:=by
 have:=within_iff.1 hk
 unfold ar lI
 rw[if_neg (by simp[ho]),if_neg (by omega),if_neg (by omega)]
 rfl
theorem zE {α:Type}{l:List α}(h:l.length=2):∃a b,l=[a,b]:=by
 match l,h with
 | [a,b],_=>exact⟨a,b,rfl⟩
theorem ku:∀(n:Nat) (e:Ex),e.toks.length≤n→∀(l:List CU) (p:Nat),l.length≤1048576→cP l→e.ok→eB l p e→Sim.Spec Tryz.prog 240 [tvL 3 (l.map CU.tr),tvI p] (rL 3 (e.fold.toks.map CU.tr))
 | 0,e,hn,_,_,_,_,_,_=>by have:=e.toks_pos;omega
 | n+1,.node t es,hn,l,p,hl,hsh,ho,hs=>by
  refine aR hΓ aq Tryz.func240 rfl (by decide) rfl ?_
  have hlen:(l.map CU.tr).length=l.length:=by simp
  have hle:=eb hs
  obtain⟨ht,hsa⟩:=eO hs
  have hO:=pE l p t es hl hsh ho hs
  have hpl:((er (p+1) es).map nR).length=es.length:=by rw[List.length_map,mN]
  rw[Ex.toks,List.length_cons]at hn hle
  rw[Ex.fold]
  have hfe:=kQ es
  obtain⟨e1,e2⟩:=nJ ho.1
  have hel:es.length=ar t:=ho.2.1
  repeat' ((conv=>whnf);first|apply Wx|apply W6|apply oi|(apply fi<;>intro h)|refine cl hO ?_|refine⟨p,t.tr,rfl,aa ht,?_⟩|refine⟨_,rfl,?_⟩|exact rfl)
  all_goals try exact⟨KP⟩
  conv=>whnf
  refine⟨{j:Nat // j≤es.length},fun q=>⟨[(0,.r (.c (.t (.lst 3 (l.map CU.tr))))),(1,tI .i64 (p:Int)),(5,.r (.c (.own (5,0,0)))),(6,.r (.c (.own (6,0,0)))),(7,tI .i64 (q.1:Int))],[((5,0,0),some (.arr false 3 ((t::ak (aO (es.take q.1))).map CU.tr))),((6,0,0),some (.arr true 1 ((er (p+1) es).map nR)))],[5,6]⟩,fun q=>es.length - q.1,⟨0,by omega⟩,?_,?_⟩
  ·skip
   repeat' ((conv=>whnf);first|apply Wx|apply W6|apply oi|(apply fi<;>intro h)|refine⟨_,rfl,?_⟩|exact rfl)
   all_goals try exact⟨KP⟩
   all_goals try exact⟨by simp[aO,ak];rfl⟩
  intro⟨j,hj⟩
  dsimp only at hj ⊢
  by_cases hlt:j < es.length
  ·obtain⟨a,ha⟩:=af hlt
   obtain⟨q,hq,hqs⟩:=qg hsa ha
   have hal:=fV ha
   have hR:=ku n a (by omega) l q hl hsh (iw ho.2.2 ha) hqs
   have hjl:j < ((er (p+1) es).map nR).length:=by rw[hpl];exact hlt
   have hfa:=a.fold_le
   have hft:=cy (aO es) j
   rw[kh]at hft
   have hfl1:((t::ak (aO (es.take j))).map CU.tr).length=1+(ak (aO (es.take j))).length:=by simp;omega
   have hfl2:(a.fold.toks.map CU.tr).length=a.fold.toks.length:=by simp
   repeat' ((conv=>whnf);first|apply Wx|apply W6|apply oi|(apply fi<;>intro h)|refine cl hR ?_|refine⟨j,rfl,hjl,?_⟩|refine⟨(nR q),(aa hq),?_⟩|refine⟨_,rfl,?_⟩|exact rfl)
   all_goals try exact⟨KP⟩
   all_goals try exact KX
   all_goals try exact⟨⟨by rw[hfl1,hfl2];(try dsimp only);omega,by rw[hfl1,hfl2];(try dsimp only);omega⟩⟩
   conv=>whnf
   refine⟨⟨j+1,by omega⟩,?_,KD⟩
   repeat' ((conv=>whnf);first|apply Wx|apply W6|apply oi|(apply fi<;>intro h)|refine⟨_,rfl,?_⟩|exact rfl)
   all_goals try exact⟨KP⟩
   all_goals try exact⟨K4⟩
   all_goals exact⟨by rw[jc ha,dH,jm];simp⟩
  ·have hje:j=es.length:=by omega
   subst hje
   rw[List.take_length]
   have hB:=cn t.faa 2 6
   have hFl:=fZ es
   have hout:((t::ak (aO es)).map CU.tr).length=1+(ak (aO es)).length:=by simp;omega
   generalize aO es=F at *
   cases hk:ah t.faa 2 6 with
   | false=>
    rw[hk]at hB
    rw[jF (.inr hk),Ex.toks]
    repeat' ((conv=>whnf);first|apply Wx|apply W6|apply oi|(apply fi<;>intro h)|refine⟨p,t.tr,rfl,aa ht,?_⟩|refine cl hB ?_|refine⟨_,rfl,?_⟩|exact rfl)
    all_goals try exact⟨KP⟩
    all_goals try exact KX
    all_goals exact⟨⟨rfl,bD _⟩⟩
   | true=>
    rw[hk]at hB
    by_cases h2:(ak F).length=2
    ·obtain⟨f1,f2,rfl⟩:=zE (hFl.trans (hel.trans (zN ho.1 hk)))
     rw[ak,jm,List.length_append]at h2
     have p1:=f1.toks_pos
     have p2:=f2.toks_pos
     obtain⟨a,rfl⟩:=qp (f:=f1) (by omega)
     obtain⟨b,rfl⟩:=qp (f:=f2) (by omega)
     have e3:t::ak [Ex.node a [],Ex.node b []]=[t,a,b]:=by simp[ak,Ex.toks]
     have e4:(Ex.node t [Ex.node a [],Ex.node b []]).toks=[t,a,b]:=by rw[Ex.toks];exact e3
     rw[e3]
     have h1l:1 < ([t,a,b].map CU.tr).length:=by simp
     have h2l:2 < ([t,a,b].map CU.tr).length:=by simp
     have hAp:=uK t.faa a.faf b.faf
     have hB2:=cn (cw t.faa a.faf b.faf) 0 999
     rw[wx]
     by_cases hc:ze t a b
     ·rw[if_pos hc]
      obtain⟨_,c1,c2,c3⟩:=hc
      rw[c3]at hB2
      have e5:(ub (cw t.faa a.faf b.faf)).toks=[⟨0,cw t.faa a.faf b.faf,[]⟩]:=by simp[ub,Ex.toks,ak]
      rw[e5]
      generalize cw t.faa a.faf b.faf=ap at *
      repeat' ((conv=>whnf);first|apply Wx|apply W6|apply oi|(apply fi<;>intro h)|refine⟨p,t.tr,rfl,aa ht,?_⟩|refine cl hB ?_|refine⟨1,rfl,h1l,?_⟩|refine⟨2,rfl,h2l,?_⟩|refine⟨a.tr,rfl,?_⟩|refine⟨b.tr,rfl,?_⟩|refine cl hAp ?_|refine cl hB2 ?_|refine⟨_,rfl,?_⟩|exact rfl)
      all_goals try exact⟨KP⟩
      all_goals try exact KX
      all_goals try(exfalso;simp_all;done)
     ·rw[if_neg hc,e4]
      have hc2:∀w,ah (cw t.faa a.faf b.faf) 0 999=w→a.faa=0→b.faa=0→w=true→False:=fun w h1 h2 h3 h4=>hc ⟨hk,h2,h3,h1.trans h4⟩
      cases hw:ah (cw t.faa a.faf b.faf) 0 999 with
      | true=>
       rw[hw]at hB2
       have hc3:=hc2 true hw
       generalize cw t.faa a.faf b.faf=ap at *
       repeat' ((conv=>whnf);first|apply Wx|apply W6|apply oi|(apply fi<;>intro h)|refine⟨p,t.tr,rfl,aa ht,?_⟩|refine cl hB ?_|refine⟨1,rfl,h1l,?_⟩|refine⟨2,rfl,h2l,?_⟩|refine⟨a.tr,rfl,?_⟩|refine⟨b.tr,rfl,?_⟩|refine cl hAp ?_|refine cl hB2 ?_|refine⟨_,rfl,?_⟩|exact rfl)
       all_goals try exact⟨KP⟩
       all_goals try exact KX
       all_goals try exact⟨⟨rfl,bD _⟩⟩
       all_goals try(exfalso;simp_all;done)
      | false=>
       rw[hw]at hB2
       generalize cw t.faa a.faf b.faf=ap at *
       repeat' ((conv=>whnf);first|apply Wx|apply W6|apply oi|(apply fi<;>intro h)|refine⟨p,t.tr,rfl,aa ht,?_⟩|refine cl hB ?_|refine⟨1,rfl,h1l,?_⟩|refine⟨2,rfl,h2l,?_⟩|refine⟨a.tr,rfl,?_⟩|refine⟨b.tr,rfl,?_⟩|refine cl hAp ?_|refine cl hB2 ?_|refine⟨_,rfl,?_⟩|exact rfl)
       all_goals try exact⟨KP⟩
       all_goals try exact KX
       all_goals try exact⟨⟨rfl,bD _⟩⟩
       all_goals try(exfalso;simp_all;done)
    ·rw[jF (.inl h2),Ex.toks]
     repeat' ((conv=>whnf);first|apply Wx|apply W6|apply oi|(apply fi<;>intro h)|refine⟨p,t.tr,rfl,aa ht,?_⟩|refine cl hB ?_|refine⟨_,rfl,?_⟩|exact rfl)
     all_goals try exact⟨KP⟩
     all_goals try exact KX
     all_goals try exact⟨⟨rfl,bD _⟩⟩
     all_goals try(exfalso;rw[hout]at *;simp at *;omega)
end Go.Proofs.YtoglejgmjeojoaaGreat
namespace Go.Proofs.YtoglejgmjeojoaaGreat
open Go.Sim
set_option maxRecDepth 100000
set_option maxHeartbeats 4000000
structure Grow (n:Nat) (s s':Gs):Prop where
 ge:s.items.length≤s'.items.length
 le:s'.items.length≤s.items.length+n
 most:s.most≤s'.most
 cap:s.most≤1000→s'.most≤1000
theorem Grow.refl (s:Gs):Grow 0 s s:=⟨Nat.le_refl _,Nat.le_refl _,Int.le_refl _,id⟩
theorem Grow.trans {n m:Nat}{a b c:Gs}(h:Grow n a b)(h':Grow m b c):Grow (n+m) a c:=⟨Nat.le_trans h.ge h'.ge,by have:=h.le;have:=h'.le;omega,Int.le_trans h.most h'.most,fun x=>h'.cap (h.cap x)⟩
theorem Grow.mono {n m:Nat}{a b:Gs}(h:Grow n a b)(hn:n≤m):Grow m a b:=⟨h.ge,by have:=h.le;omega,h.most,h.cap⟩
theorem aS (C:Cx)(s:Gs)(d code arg line:Int)(chain:List Int):Grow 1 s (an C s d code arg line chain):=⟨by simp[an],by simp[an],Int.le_refl _,id⟩
theorem cJ (l:List CL)(j v:Int):(bx l j v).length=l.length:=by
 unfold bx
 split
 ·split
  ·rw[List.length_set]
  ·rfl
 ·rfl
theorem dT (v:Int):∀(js:List Int) (l:List CL),(bT l v js).length=l.length
 | [],_=>rfl
 | j::js,l=>by rw[bT,dT v js,cJ]
def bG:Nat→Nat
 | 0=>1
 | n+1=>30+9 * (20 * bG n+3)
theorem rd:∀n,1≤bG n
 | 0=>Nat.le_refl _
 | n+1=>by rw[bG];omega
theorem BC:∀{n m:Nat},n≤m→bG n≤bG m:=by
 intro n m h
 induction h with
 | refl=>exact Nat.le_refl _
 | step _ ih=>rw[bG];omega
theorem oD {n:Nat}(h:n≤3):bG n≤8679837:=Nat.le_trans (BC h) (by simp[bG])
def bl (C:Cx)(g:Nat):Prop:=∃ln,C.p[g]?=some ln∧ln.faa=0
section
variable {C:Cx} {x:Sc} {ins:List Nat} {rep:Sc→List Nat→Nat→Nat→Int→Gs→Gs} {line:Nat} {lev:Nat}
theorem nK (y:Sc)(chain:List Int)(line:Int):∀(n:Nat) (d:Int) (s:Gs),Grow n s (cb C y chain line n d s)
 | 0,d,s=>Grow.refl s
 | n+1,d,s=>by
  rw[cb]
  exact((aS C s d _ _ _ _).trans (nK y chain line n (d - 1) _)).mono (by omega)
theorem oZ (y:Sc)(chain:List Int)(line d:Int):∀(n i:Nat) (s:Gs),Grow (2 * n) s (cB C y chain line d n i s)
 | 0,i,s=>Grow.refl s
 | n+1,i,s=>by
  rw[cB]
  exact(((aS C s d _ _ _ _).trans (aS C _ (d+1) _ _ _ _)).trans (oZ y chain line d n (i+1) _)).mono (by omega)
theorem yG (hrep:∀g d s,bl C g→bI C ins g s.items.length=true→Grow (bG lev) s (rep x ins line g d s))(t:CU)(d:Int)(s:Gs):Grow (bG lev) s (gq C rep x ins line t d s):=by
 have hp:=rd lev
 unfold gq
 split
 ·exact(aS ..).mono hp
 ·split
  ·exact(aS ..).mono hp
  ·split
   ·split
    ·rename_i g hg
     split
     ·rename_i hr
      obtain⟨_,ln,h1,h2,_⟩:=dZ hg
      exact hrep g d s ⟨ln,h1,h2⟩ hr
     ·exact(aS ..).mono hp
    ·exact(Grow.refl s).mono (by omega)
   ·exact(aS ..).mono hp
mutual
theorem tA (hrep:∀g d s,bl C g→bI C ins g s.items.length=true→Grow (bG lev) s (rep x ins line g d s)):∀(e:Ex) (d:Int) (s:Gs),Grow (e.toks.length * bG lev) s (dh C rep x ins line e d s)
 | .node t es,d,s=>by
  rw[dh,Ex.toks,List.length_cons]
  exact((jy hrep es d s).trans (yG hrep t _ _)).mono (by rw[Nat.add_mul];omega)
theorem jy (hrep:∀g d s,bl C g→bI C ins g s.items.length=true→Grow (bG lev) s (rep x ins line g d s)):∀(es:List Ex) (d:Int) (s:Gs),Grow ((ak es).length * bG lev) s (cD C rep x ins line es d s)
 | [],d,s=>by rw[cD,ak];exact(Grow.refl s).mono (by omega)
 | a::es,d,s=>by
  rw[cD,ak,List.length_append,Nat.add_mul]
  exact(tA hrep a d s).trans (jy hrep es (d+1) _)
end
theorem mA (C:Cx)(rep:Sc→List Nat→Nat→Nat→Int→Gs→Gs)(x:Sc)(ins:List Nat)(line:Nat):∀{es:List Ex} {j:Nat} {a:Ex} (d:Int) (s:Gs),es[j]?=some a→cD C rep x ins line (es.take (j+1)) d s=dh C rep x ins line a (d+j) (cD C rep x ins line (es.take j) d s)
 | [],_,_,_,_,h=>by simp at h
 | b::es,0,a,d,s,h=>by
  rw[List.getElem?_cons_zero]at h
  injection h with h
  subst h
  simp[cD]
 | b::es,j+1,a,d,s,h=>by
  rw[List.getElem?_cons_succ]at h
  rw[List.take_succ_cons,cD,mA C rep x ins line (d+1) _ h,List.take_succ_cons,cD]
  congr 1
  omega
theorem fD:∀{es:List Ex} {j:Nat} {a:Ex},es[j]?=some a→(ak (es.take (j+1))).length=(ak (es.take j)).length+a.toks.length
 | [],_,_,h=>by simp at h
 | b::es,0,a,h=>by
  rw[List.getElem?_cons_zero]at h
  injection h with h
  subst h
  simp[ak]
 | b::es,j+1,a,h=>by
  rw[List.getElem?_cons_succ]at h
  rw[List.take_succ_cons,ak,List.length_append,fD h,List.take_succ_cons,ak,List.length_append]
  omega
theorem iR (hC:CxOk C)(hx:ScOk C x ins)(line:Nat){g:Nat}(hg:bl C g):ScOk C (bq C x line g) (ins++[g]):=by
 obtain⟨e,_,_,_,_,h8⟩:=hx.endE hC
 have hle:=hx.argLe hC
 refine⟨hg,rfl,?_,?_,?_,?_,by simp[bq]⟩
 ·simp only[bq,be,List.length_append,List.length_cons,List.length_nil]
  have:=hx.first
  split
  ·rename_i ho
   rw[hx.args ho]
   omega
  ·omega
 ·simp only[bq,List.length_append,List.length_cons,List.length_nil]
  have:=hx.chain
  omega
 ·simp[bq]
 ·simp[bq]
theorem mJ (hC:CxOk C)(hx:ScOk C x ins):0≤be C x∧be C x≤8 * ins.length+8:=by
 obtain⟨e,_,_,_,_,h8⟩:=hx.endE hC
 have hle:=hx.argLe hC
 have:=hx.first
 unfold be
 split
 ·rename_i ho
  rw[hx.args ho]
  omega
 ·omega
theorem ck (hC:CxOk C){g:Nat}(hg:bl C g):(localsOf C.p (g:Int)).length≤8∧argsN C.p g≤(localsOf C.p (g:Int)).length:=by
 obtain⟨ln,h1,h2⟩:=hg
 obtain⟨e,h3,h4,h5,_⟩:=hC.fn _ _ h1 h2
 rw[argsN,h1]
 exact⟨h4,h5⟩
theorem tn (hC:CxOk C)(hx:ScOk C x ins)(hi:ins.length≤10)(line:Nat){g:Nat}(hg:bl C g)(d:Int)(s:Gs):Grow 16 s (di C x line g d s):=by
 obtain⟨h1,h2⟩:=ck hC hg
 have ht:=mJ hC hx
 have h0:Grow 0 s ⟨s.items,max s.most (be C x+(localsOf C.p (g:Int)).length),s.start⟩:=⟨Nat.le_refl _,Nat.le_refl _,by dsimp only;omega,fun h=>by dsimp only;omega⟩
 unfold di
 exact((h0.trans (nK _ _ _ _ _ _)).trans (oZ _ _ _ _ _ _ _)).mono (by omega)
theorem pn (x:Sc)(line:Nat)(d:Int)(s:Gs):Grow 1 s (bA C x line d s):=by
 unfold bA
 split
 ·exact aS ..
 ·exact(Grow.refl s).mono (by omega)
theorem jZ (x:Sc)(k:Nat)(last:Bool)(d:Int)(L:Ls):Grow 1 L.g (aH C x k last d L).g:=by
 unfold aH
 split
 ·split
  ·exact aS ..
  ·exact aS ..
 ·split
  ·exact(Grow.refl _).mono (by omega)
  ·exact aS ..
theorem Grow.set {n:Nat}{a b:Gs}{l:List CL}(h:Grow n a b)(hl:l.length=b.items.length):Grow n a ⟨l,b.most,b.start⟩:=⟨by have:=h.ge;simp only[hl];omega,by have:=h.le;simp only[hl];omega,h.most,h.cap⟩
theorem iQ (hrep:∀g d s,bl C g→bI C ins g s.items.length=true→Grow (bG lev) s (rep x ins line g d s))(hC:CxOk C){k:Nat}{ln:CM}(hk:C.p[k]?=some ln)(he:ba ln.fac=true)(d:Int)(s:Gs):Grow (20 * bG lev) s (dh C rep x ins line (exL ln.fac) d s):=by
 have h1:=(ox he).2
 have h2:=(hC.line _ _ hk).2.2.2.1
 rw[h1]at h2
 exact(tA hrep _ d s).mono (Nat.mul_le_mul_right _ h2)
theorem jH (hrep:∀line g d s,bl C g→bI C ins g s.items.length=true→Grow (bG lev) s (rep x ins line g d s))(hC:CxOk C){k:Nat}{ln:CM}(hk:C.p[k]?=some ln)(h0:ln.faa≠0)(base:Int)(L:Ls):Grow (20 * bG lev+2) L.g (cO C rep x ins base k ln L).g:=by
 unfold cO
 split
 ·exact((aS ..).set (cJ _ _ _)).mono (by omega)
 ·split
  ·split
   ·refine Grow.mono (n:=1+1) ?_ (by omega)
    exact(aS ..).trans (jZ x k true (base+1) {L with g:=an C L.g base 0 0 k x.chain})
   ·split
    ·exact(aS ..).mono (by omega)
    ·exact(Grow.refl _).mono (by omega)
  ·rename_i h4 h7
   have hl:=hC.line _ _ hk
   have h20:Grow (20 * bG lev) L.g (dh C rep x ins k (exL ln.fac) base ⟨L.g.items,L.g.most,true⟩):=by
    have:=iQ (fun g d s=>hrep k g d s) hC hk (hl.2.2.2.2 (by omega)) base ⟨L.g.items,L.g.most,true⟩
    exact⟨this.ge,this.le,this.most,this.cap⟩
   split
   ·exact(h20.trans (aS ..)).mono (by omega)
   ·split
    ·exact(h20.trans (aS ..)).mono (by omega)
    ·split
     ·refine Grow.mono (n:=20 * bG lev+1) ?_ (by omega)
      exact h20.trans (jZ x k false (base+1) {L with g:=dh C rep x ins k (exL ln.fac) base ⟨L.g.items,L.g.most,true⟩,heads:=L.heads.set k L.g.items.length})
     ·exact(h20.trans (aS ..)).mono (by omega)
theorem qN (k:Nat)(ln:CM)(L:Ls):Grow 0 L.g (aK C x k ln L).g:=by
 unfold aK
 split
 ·exact(Grow.refl _).set (cJ _ _ _)
 ·exact Grow.refl _
theorem tY (hrep:∀line g d s,bl C g→bI C ins g s.items.length=true→Grow (bG lev) s (rep x ins line g d s))(hC:CxOk C)(base:Int):∀(n k:Nat) (L:Ls),(∀i y,k≤i→i < k+n→C.p[i]?=some y→y.faa≠0)→Grow (n * (20 * bG lev+3)) L.g (gY C rep x ins base n k L).g
 | 0,k,L,_=>(Grow.refl _).mono (by omega)
 | n+1,k,L,h=>by
  rw[gY]
  split
  ·rename_i ln hk
   exact(((jH hrep hC hk (h k ln (Nat.le_refl _) (by omega) hk) base L).trans (qN k ln _)).trans (tY hrep hC base n (k+1) _ fun i y h1 h2 hy=>h i y (by omega) (by omega) hy)).mono (by rw[Nat.add_mul];omega)
  ·exact(Grow.refl _).mono (by omega)
theorem eY (hrep:∀line g d s,bl C g→bI C ins g s.items.length=true→Grow (bG lev) s (rep x ins line g d s))(hC:CxOk C)(hx:ScOk C x ins)(base:Int)(s:Gs):Grow ((ir C.p x.f - x.f) * (20 * bG lev+3)) s (aI C rep x ins base s).1:=by
 unfold aI
 obtain⟨ln,h1,h2⟩:=hx.fn
 obtain⟨e,h3,_,_,h4⟩:=hC.fn _ _ h1 h2
 obtain⟨e',g3,_,_,g5,_⟩:=hx.endE hC
 rw[h3]at g3
 injection g3 with g3
 subst g3
 rw[g5]
 refine tY hrep hC base (e - x.f) (x.f+1) (bN C s) fun i y k1 k2 hy=>?_
 by_cases hie:i=e
 ·subst hie
  obtain⟨z,hz,h7⟩:=bk h3
  rw[hy]at hz
  injection hz with hz
  subst hz
  omega
 ·exact(h4 i y (by omega) (by omega) hy).1
end
theorem dq {C:Cx}{ins:List Nat}{g n:Nat}(h:bI C ins g n=true):(ins.length:Int)≤C.b.fag∧aY C.p (g:Int) - g≤9∧n < 200∧g∉ins:=by
 unfold bI at h
 simp only[Bool.and_eq_true,decide_eq_true_eq,Bool.not_eq_true',List.contains_eq_mem,decide_eq_false_iff_not]at h
 exact⟨h.1,h.2.1,h.2.2.1,h.2.2.2⟩
theorem cq {C:Cx}(hC:CxOk C):∀(lev:Nat) {x:Sc} {ins:List Nat} (line g:Nat) (d:Int) (s:Gs),ScOk C x ins→bl C g→bI C ins g s.items.length=true→Grow (bG lev) s (aL C lev x ins line g d s)
 | 0,x,ins,line,g,d,s,hx,hg,hr=>(Grow.refl s).mono (by omega)
 | lev+1,x,ins,line,g,d,s,hx,hg,hr=>by
  obtain⟨r1,r2,_,_⟩:=dq hr
  have hin:=hC.inl
  have hy:=iR hC hx line hg
  have h1:=tn hC hx (by omega) line hg d s
  have h2:=pn (C:=C) x line (d - argsN C.p g) (di C x line g d s)
  have h3:=eY (lev:=lev) (rep:=aL C lev) (fun line g d s hg hr=>cq hC lev line g d s hy hg hr) hC hy (d - argsN C.p g) (bA C x line (d - argsN C.p g) (di C x line g d s))
  obtain⟨e,e1,e2,e3,e4,_⟩:=hy.endE hC
  have e5:aY C.p (g:Int)=(e:Int):=by rw[aV];exact aU e1
  have e6:ir C.p (bq C x line g).f - (bq C x line g).f≤9:=by rw[e4];show e - g≤9;omega
  have h4:=((h1.trans h2).trans h3).mono (m:=bG (lev+1)) (by
   rw[bG]
   have:=Nat.mul_le_mul_right (20 * bG lev+3) e6
   omega)
  show Grow _ s (fv C (aI C (aL C lev)) x ins line g d s)
  unfold fv
  exact h4.set (dT _ _ _)
def lvOk (L:Ls):Prop:=L.lv.length≤L.g.items.length∧∀j∈L.lv,0≤j∧j < L.g.items.length
section
variable {C:Cx} {x:Sc} {ins:List Nat} {rep:Sc→List Nat→Nat→Nat→Int→Gs→Gs} {lev:Nat}
theorem lvOk.grow {n:Nat}{L L':Ls}(h:lvOk L)(hl:L'.lv=L.lv)(hg:Grow n L.g L'.g):lvOk L':=⟨by rw[hl];exact Nat.le_trans h.1 hg.ge,fun j hj=>by
 rw[hl]at hj
 have:=h.2 j hj
 have:=hg.ge
 omega⟩
theorem sS {L:Ls}(h:lvOk L)(k:Nat)(last:Bool)(d:Int):lvOk (aH C x k last d L):=by
 have hg:=jZ (C:=C) x k last d L
 unfold aH at hg ⊢
 split
 ·rename_i ho
  rw[if_pos ho]at hg
  split
  ·rename_i hf;rw[if_pos hf]at hg;exact h.grow rfl hg
  ·rename_i hf;rw[if_neg hf]at hg;exact h.grow rfl hg
 ·split
  ·exact h
  ·refine⟨by have:=h.1;simp only[an,List.length_append,List.length_cons,List.length_nil];omega,?_⟩
   intro j hj
   simp only[List.mem_append,List.mem_cons,List.not_mem_nil,or_false]at hj
   simp only[an,List.length_append,List.length_cons,List.length_nil]
   rcases hj with hj|rfl
   ·have:=h.2 j hj;omega
   ·omega
theorem vB (hrep:∀line g d s,bl C g→bI C ins g s.items.length=true→Grow (bG lev) s (rep x ins line g d s))(hC:CxOk C){k:Nat}{ln:CM}(hk:C.p[k]?=some ln)(h0:ln.faa≠0)(base:Int){L:Ls}(h:lvOk L):lvOk (cO C rep x ins base k ln L):=by
 have hg:=jH (x:=x) (ins:=ins) (rep:=rep) (lev:=lev) hrep hC hk h0 base L
 unfold cO at hg ⊢
 split
 ·rename_i h4;rw[if_pos h4]at hg;exact h.grow rfl hg
 ·rename_i h4
  rw[if_neg h4]at hg
  split
  ·rename_i h7
   rw[if_pos h7]at hg
   split
   ·exact sS (h.grow (L':={L with g:=an C L.g base 0 0 k x.chain}) rfl (aS ..)) _ _ _
   ·rename_i ho
    rw[if_neg ho]at hg
    split
    ·rename_i h5;rw[if_pos h5]at hg;exact h.grow rfl hg
    ·exact h
  ·rename_i h7
   have hl:=hC.line _ _ hk
   have h20:=iQ (x:=x) (ins:=ins) (rep:=rep) (line:=k) (lev:=lev) (fun g d s=>hrep k g d s) hC hk (hl.2.2.2.2 (by omega)) base ⟨L.g.items,L.g.most,true⟩
   have hL1:lvOk {L with g:=dh C rep x ins k (exL ln.fac) base ⟨L.g.items,L.g.most,true⟩,heads:=L.heads.set k L.g.items.length}:=h.grow rfl ⟨h20.ge,h20.le,h20.most,h20.cap⟩
   split
   ·exact hL1.grow rfl (aS ..)
   ·split
    ·exact hL1.grow rfl (aS ..)
    ·split
     ·exact sS hL1 _ _ _
     ·exact hL1.grow rfl (aS ..)
theorem vy (k:Nat)(ln:CM){L:Ls}(h:lvOk L):lvOk (aK C x k ln L):=by
 have hg:=qN (C:=C) (x:=x) k ln L
 unfold aK at hg ⊢
 split
 ·rename_i h1;rw[if_pos h1]at hg;exact h.grow rfl hg
 ·exact h
theorem xX (hrep:∀line g d s,bl C g→bI C ins g s.items.length=true→Grow (bG lev) s (rep x ins line g d s))(hC:CxOk C)(base:Int):∀(n k:Nat) (L:Ls),(∀i y,k≤i→i < k+n→C.p[i]?=some y→y.faa≠0)→lvOk L→lvOk (gY C rep x ins base n k L)
 | 0,k,L,_,h=>h
 | n+1,k,L,hf,h=>by
  rw[gY]
  split
  ·rename_i ln hk
   exact xX hrep hC base n (k+1) _ (fun i y h1 h2 hy=>hf i y (by omega) (by omega) hy) (vy k ln (vB hrep hC hk (hf k ln (Nat.le_refl _) (by omega) hk) base h))
  ·exact h
theorem gz (hC:CxOk C)(hx:ScOk C x ins){e:Nat}(he:endAt C.p x.f=some e){i:Nat}{y:CM}(h1:x.f+1≤i)(h2:i≤e)(hy:C.p[i]?=some y):y.faa≠0:=by
 obtain⟨ln,g1,g2⟩:=hx.fn
 obtain⟨e',h3,_,_,h4⟩:=hC.fn _ _ g1 g2
 rw[he]at h3
 injection h3 with h3
 subst h3
 by_cases hie:i=e
 ·subst hie
  obtain⟨z,hz,h7⟩:=bk he
  rw[hy]at hz
  injection hz with hz
  subst hz
  omega
 ·exact(h4 i y (by omega) (by omega) hy).1
theorem sY (hrep:∀line g d s,bl C g→bI C ins g s.items.length=true→Grow (bG lev) s (rep x ins line g d s))(hC:CxOk C)(hx:ScOk C x ins)(base:Int)(s:Gs):(aI C rep x ins base s).2.length≤(aI C rep x ins base s).1.items.length∧∀j∈(aI C rep x ins base s).2,0≤j∧j < ((aI C rep x ins base s).1.items.length:Int):=by
 unfold aI
 obtain⟨e,g3,g4,_,g5,_⟩:=hx.endE hC
 rw[g5]
 exact xX hrep hC base (e - x.f) (x.f+1) (bN C s) (fun i y k1 k2 hy=>gz hC hx g3 k1 (by omega) hy) ⟨by simp[bN],by intro j hj;simp[bN]at hj⟩
end
theorem jX (v j:Int):∀(js:List Int) (l:List CL),bT l v (js++[j])=bx (bT l v js) j v
 | [],l=>by rw[List.nil_append,bT,bT,bT]
 | a::js,l=>by rw[List.cons_append,bT,jX v j js,bT]
end Go.Proofs.YtoglejgmjeojoaaGreat
namespace Go.Proofs.YtoglejgmjeojoaaGreat
open Go.Sim
set_option maxRecDepth 100000
set_option maxHeartbeats 4000000
def cu (l:List CL)(v to:Int):List (Int×Int)→List CL
 | []=>l
 | e::r=>cu (if e.1=to then bx l e.2 v else l) v to r
theorem sm (v to:Int):∀(E:List (Int×Int)) (l:List CL),(cu l v to E).length=l.length
 | [],l=>rfl
 | e::r,l=>by
  rw[cu,sm v to r]
  split
  ·rw[cJ]
  ·rfl
theorem ip (v to:Int):∀(A B:List (Int×Int)) (l:List CL),cu l v to (A++B)=cu (cu l v to A) v to B
 | [],B,l=>rfl
 | a::A,B,l=>by rw[List.cons_append,cu,ip v to A B,cu]
theorem vc (v to:Int)(e:Int×Int)(E:List (Int×Int))(l:List CL):cu l v to (E++[e])=if e.1=to then bx (cu l v to E) e.2 v else cu l v to E:=by
 rw[ip];rfl
def jumps (p:List CM)(i:Nat):Prop:=bH p i=3∨bH p i=4∨bH p i=5
instance (p:List CM) (i:Nat):Decidable (jumps p i):=by unfold jumps;infer_instance
def iM (p:List CM)(i:Nat):Int:=if bH p i=4 then aY p (az p i:Int)+1 else if bH p i=3∧0≤aX p (i:Int)then - aX p (i:Int)else aY p (i:Int)+1
def nl (p:List CM)(pos:List Int)(i:Nat):List (Int×Int):=if jumps p i then [(iM p i,atL pos i)]else []
def aT (p:List CM)(pos:List Int)(f:Nat):Nat→List (Int×Int)
 | 0=>[]
 | n+1=>aT p pos f n++nl p pos (f+n)
theorem lX (p:List CM)(pos:List Int)(f:Nat):∀n,(aT p pos f n).length≤n
 | 0=>Nat.le_refl _
 | n+1=>by
  have:=lX p pos f n
  rw[aT,List.length_append,nl]
  split <;> simp <;> omega
theorem dA {l:List Int}{k i:Nat}{v:Int}(h:i≠k):atL (l.set k v) i=atL l i:=by
 unfold atL
 rw[List.getElem?_set_ne (fun e=>h e.symm)]
theorem fc {l:List Int}{k:Nat}{v:Int}(h:k < l.length):atL (l.set k v) k=v:=by
 unfold atL
 rw[List.getElem?_set_self h]
 rfl
theorem rH (p:List CM)(pos:List Int)(f k:Nat)(v:Int):∀n,f+n≤k→aT p (pos.set k v) f n=aT p pos f n
 | 0,_=>rfl
 | n+1,h=>by
  rw[aT,aT,rH p pos f k v n (by omega),nl,nl,dA (by omega)]
theorem iP {p:List CM}{pos:List Int}{f k:Nat}(h:f+1≤k)(hj:¬jumps p k):aT p pos (f+1) (k+1 - (f+1))=aT p pos (f+1) (k - (f+1)):=by
 rw[show k+1 - (f+1)=(k - (f+1))+1 by omega,aT,show f+1+(k - (f+1))=k by omega,nl,if_neg hj,List.append_nil]
theorem rh {p:List CM}{pos:List Int}{f k:Nat}(h:f+1≤k)(hj:jumps p k)(hk:k < pos.length)(v:Int):aT p pos (f+1) (k - (f+1))++[(iM p k,v)]=aT p (pos.set k v) (f+1) (k+1 - (f+1)):=by
 rw[show k+1 - (f+1)=(k - (f+1))+1 by omega,aT,rH _ _ _ _ _ _ (by omega),show f+1+(k - (f+1))=k by omega,nl,if_pos hj,fc hk]
theorem jg {p:List CM}{pos:List Int}{f:Nat}:∀{n:Nat} {e:Int×Int},e∈aT p pos f n→∃i,f≤i∧i < f+n∧jumps p i∧e=(iM p i,atL pos i)
 | 0,e,h=>by simp[aT]at h
 | n+1,e,h=>by
  rw[aT,List.mem_append]at h
  rcases h with h|h
  ·obtain⟨i,h1,h2,h3⟩:=jg h
   exact⟨i,h1,by omega,h3⟩
  ·rw[nl]at h
   split at h
   ·rename_i hj
    simp only[List.mem_cons,List.not_mem_nil,or_false]at h
    exact⟨f+n,by omega,by omega,hj,h⟩
   ·cases h
theorem gV {v to:Int}:∀{E:List (Int×Int)} {l:List CL},(∀e∈E,e.1≠to)→cu l v to E=l
 | [],_,_=>rfl
 | e::r,l,h=>by rw[cu,if_neg (h e (by simp)),gV fun x hx=>h x (by simp[hx])]
theorem ol {p:List CM}{pos:List Int}{f i0:Nat}{v to:Int}(hj:jumps p i0)(ht:iM p i0=to):∀{n:Nat} {l:List CL},f≤i0→i0 < f+n→(∀i,f≤i→i < f+n→jumps p i→iM p i=to→i=i0)→cu l v to (aT p pos f n)=bx l (atL pos i0) v
 | 0,l,h1,h2,_=>by omega
 | n+1,l,h1,h2,hu=>by
  rw[aT,ip]
  by_cases h:i0=f+n
  ·subst h
   rw[gV (E:=aT p pos f n) (fun e he=>by
    obtain⟨i,k1,k2,k3,rfl⟩:=jg he
    intro hh
    have:=hu i k1 (by omega) k3 hh
    omega)]
   rw[nl,if_pos hj]
   show(if(iM p (f+n),atL pos (f+n)).1=to then _ else _)=_
   rw[if_pos ht]
  ·rw[ol hj ht h1 (by omega) fun i k1 k2 k3 k4=>hu i k1 (by omega) k3 k4]
   refine gV fun e he=>?_
   rw[nl]at he
   split at he
   ·rename_i hj2
    simp only[List.mem_cons,List.not_mem_nil,or_false]at he
    subst he
    intro hh
    exact h (hu (f+n) (by omega) (by omega) hj2 hh).symm
   ·cases he
theorem aZ {p:List CM}{k:Nat}{ln:CM}(h:p[k]?=some ln):bH p k=ln.faa:=by rw[bH,h]
theorem mb {p:List CM}{i:Nat}{m:Int}(h:aY p (i:Int)=m)(h0:0≤m):endAt p i=some m.toNat:=by
 rw[aV]at h
 cases he:endAt p i with
 | none=>rw[he]at h;simp only[bS]at h;omega
 | some e=>rw[he]at h;simp only[bS]at h;congr 1;omega
theorem km (p:List CM)(i:Nat):-1≤aY p (i:Int)∧aY p (i:Int)≤p.length:=by
 rw[aV]
 cases he:endAt p i with
 | none=>simp only[bS];omega
 | some e=>obtain⟨_,_,_,_,_,h⟩:=au he;simp only[bS];omega
theorem dW {p:List CM}{i:Nat}:aX p (i:Int)=bS (elseAt p i):=by rw[aX,if_pos (by omega),Int.toNat_natCast]
theorem xC {p:List CM}{i:Nat}(h:bH p i≠3):elseAt p i=none:=by
 cases he:elseAt p i with
 | none=>rfl
 | some j=>
  obtain⟨y,_,hy,h3,_⟩:=aP he
  exact absurd (by rw[aZ hy];exact h3) h
section
variable {C:Cx} {x:Sc} {ins:List Nat}
theorem yl (hC:CxOk C)(hx:ScOk C x ins){e:Nat}(he:endAt C.p x.f=some e){k i:Nat}(h1:x.f+1≤i)(h2:i < k)(h3:k≤e)(hj:jumps C.p i)(ht:iM C.p i=(k:Int)):bH C.p (k - 1)=7∧az C.p (k - 1)≠x.f∧fE C.p (k - 1)=i:=by
 have hil:i < C.p.length:=by obtain⟨_,_,_,_,_,h⟩:=au he;omega
 obtain⟨y,hy⟩:=af hil
 have hky:=aZ hy
 unfold iM at ht
 by_cases h4:bH C.p i=4
 ·rw[if_pos h4]at ht
  obtain⟨o1,o2,o3,o4⟩:=hx.own4 hC he (by omega) (by omega) hy (by rw[←hky];exact h4)
  have hee:=mb (show aY C.p (az C.p i:Int)=((k - 1:Nat):Int) by omega) (by omega)
  rw[Int.toNat_natCast]at hee
  obtain⟨z,hz,h7⟩:=bk hee
  rw[fJ hee,aZ hz]
  refine⟨h7,by omega,?_⟩
  rw[fE,fJ hee,o1]
 ·rw[if_neg h4]at ht
  split at ht
  ·omega
  ·rename_i hn
   have hee:=mb (show aY C.p (i:Int)=((k - 1:Nat):Int) by omega) (by omega)
   rw[Int.toNat_natCast]at hee
   obtain⟨z,hz,h7⟩:=bk hee
   rw[fJ hee,aZ hz]
   refine⟨h7,by omega,?_⟩
   rw[fE,fJ hee]
   have:elseAt C.p i=none:=by
    by_cases h3':bH C.p i=3
    ·cases hel:elseAt C.p i with
     | none=>rfl
     | some j=>exact absurd ⟨h3',by rw[dW,hel];simp[bS]⟩ hn
    ·exact xC h3'
   rw[this]
theorem ut (hC:CxOk C)(hx:ScOk C x ins){e:Nat}(he:endAt C.p x.f=some e){j:Nat}{ln:CM}(h1:x.f < j)(h2:j < e)(hl:C.p[j]?=some ln)(h7:ln.faa=7):x.f+1≤fE C.p j∧fE C.p j < j∧jumps C.p (fE C.p j)∧iM C.p (fE C.p j)=((j+1:Nat):Int)∧az C.p j≠x.f:=by
 obtain⟨o1,o2⟩:=hx.own7 hC he h1 (by omega) hl h7
 rcases o2 with⟨o2,_⟩|⟨_,o3,o4,y,hy,ho⟩
 ·omega
 have hky:=aZ hy
 have hend:aY C.p (az C.p j:Int)=(j:Int):=by rw[aV];exact aU o1
 unfold fE
 cases hel:elseAt C.p (az C.p j)with
 | none=>
  dsimp only
  refine⟨by omega,o4,by unfold jumps;omega,?_,by omega⟩
  unfold iM
  rw[if_neg (by omega),if_neg (by rw[dW,hel];simp[bS]),hend]
  omega
 | some m=>
  obtain⟨z,m1,hz,z3,hm1,k1,k2,w,hw,w4⟩:=aP hel
  rw[o1]at hm1
  injection hm1 with hm1
  have hkw:=aZ hw
  refine⟨by dsimp only;omega,by dsimp only;omega,by unfold jumps;dsimp only;omega,?_,by omega⟩
  unfold iM
  dsimp only
  rw[if_pos (by omega),mE hel,hend]
  omega
structure LInv (C:Cx) (lev:Nat) (x:Sc) (ins:List Nat) (d:Int) (e:Nat) (R:Ls) (k:Nat) (L:Ls):Prop where
 lo:x.f+1≤k
 hi:k≤e+1
 heads:L.heads.length=C.p.length
 pos:L.pos.length=C.p.length
 at_:∀i,x.f < i→i < k→jumps C.p i→0≤atL L.pos i∧atL L.pos i < L.g.items.length
 lv:lvOk L
 room:L.g.items.length+(e+1 - k) * (20 * bG lev+3)≤68719476736
 fin:gY C (aL C lev) x ins d (e+1 - k) k L=R
theorem xx (rep:Sc→List Nat→Nat→Nat→Int→Gs→Gs)(base:Int)(k:Nat)(ln:CM)(L:Ls):(cO C rep x ins base k ln L).heads.length=L.heads.length∧(cO C rep x ins base k ln L).pos.length=L.pos.length:=by
 unfold cO aH
 repeat' split
 all_goals simp
theorem mz (k:Nat)(ln:CM)(L:Ls):(aK C x k ln L).heads=L.heads∧(aK C x k ln L).pos=L.pos∧(aK C x k ln L).lv=L.lv∧(aK C x k ln L).g.items.length=L.g.items.length∧(aK C x k ln L).g.most=L.g.most∧(aK C x k ln L).g.start=L.g.start:=by
 unfold aK
 split
 ·exact⟨rfl,rfl,rfl,cJ _ _ _,rfl,rfl⟩
 ·exact⟨rfl,rfl,rfl,rfl,rfl,rfl⟩
theorem Ad (rep:Sc→List Nat→Nat→Nat→Int→Gs→Gs)(base:Int)(k:Nat)(ln:CM)(L:Ls)(hp:k < L.pos.length)(i:Nat):
  (i≠k→atL (cO C rep x ins base k ln L).pos i=atL L.pos i)∧((ln.faa=3∨ln.faa=4∨ln.faa=5)→0≤atL (cO C rep x ins base k ln L).pos k∧atL (cO C rep x ins base k ln L).pos k < (cO C rep x ins base k ln L).g.items.length):=by
 unfold cO
 by_cases h4:ln.faa=4
 ·rw[if_pos h4]
  refine⟨fun hi=>dA hi,fun _=>?_⟩
  simp only[fc hp,cJ,an,List.length_append,List.length_cons,List.length_nil]
  omega
 ·rw[if_neg h4]
  by_cases h7:ln.faa=7
  ·rw[if_pos h7]
   refine⟨fun _=>?_,fun h=>by omega⟩
   unfold aH
   repeat' split
   all_goals rfl
  ·rw[if_neg h7]
   by_cases h1:ln.faa=1
   ·rw[if_pos h1]
    exact⟨fun _=>rfl,fun h=>by omega⟩
   ·rw[if_neg h1]
    by_cases h2:ln.faa=2
    ·rw[if_pos h2]
     exact⟨fun _=>rfl,fun h=>by omega⟩
    ·rw[if_neg h2]
     by_cases h6:ln.faa=6
     ·rw[if_pos h6]
      refine⟨fun _=>?_,fun h=>by omega⟩
      unfold aH
      repeat' split
      all_goals rfl
     ·rw[if_neg h6]
      refine⟨fun hi=>dA hi,fun _=>?_⟩
      simp only[fc hp,an,List.length_append,List.length_cons,List.length_nil]
      omega
theorem LInv.next (hC:CxOk C)(hx:ScOk C x ins){lev e k:Nat}{d:Int}{R L:Ls}{ln:CM}(he:endAt C.p x.f=some e)(h:LInv C lev x ins d e R k L)(hk:k≤e)(hl:C.p[k]?=some ln):LInv C lev x ins d e R (k+1) (aK C x k ln (cO C (aL C lev) x ins d k ln L)):=by
 have h0:=gz hC hx he h.lo hk hl
 have hrep:∀line g d s,bl C g→bI C ins g s.items.length=true→Grow (bG lev) s (aL C lev x ins line g d s):=fun line g d s hg hr=>cq hC lev line g d s hx hg hr
 have hA:=jH (lev:=lev) (rep:=aL C lev) hrep hC hl h0 d L
 obtain⟨b1,b2,b3,b4,b5,b6⟩:=mz (C:=C) (x:=x) k ln (cO C (aL C lev) x ins d k ln L)
 obtain⟨a1,a2⟩:=xx (C:=C) (x:=x) (ins:=ins) (aL C lev) d k ln L
 have hge:=hA.ge
 have hle:=hA.le
 have hr:=h.room
 refine⟨by have:=h.lo;omega,by omega,by rw[b1,a1];exact h.heads,by rw[b2,a2];exact h.pos,fun i h1 h2 hj=>?_,vy k ln (vB (lev:=lev) hrep hC hl h0 d h.lv),?_,?_⟩
 ·rw[b2,b4]
  obtain⟨p1,p2⟩:=Ad (C:=C) (x:=x) (ins:=ins) (aL C lev) d k ln L (by rw[h.pos];exact aM hl) i
  by_cases hik:i=k
  ·subst hik
   refine p2 ?_
   unfold jumps at hj
   rw[aZ hl]at hj
   exact hj
  ·rw[p1 hik]
   have:=h.at_ i h1 (by omega) hj
   omega
 ·rw[b4]
  obtain⟨n,hn⟩:∃n,e+1 - k=n+1:=⟨e - k,by omega⟩
  rw[hn,Nat.add_mul]at hr
  rw[show e+1 - (k+1)=n by omega]
  omega
 ·have hf:=h.fin
  obtain⟨n,hn⟩:∃n,e+1 - k=n+1:=⟨e - k,by omega⟩
  rw[hn,gY,hl]at hf
  rw[show e+1 - (k+1)=n by omega]
  exact hf
theorem xh (hC:CxOk C)(hx:ScOk C x ins){e k:Nat}{ln:CM}(he:endAt C.p x.f=some e)(h1:x.f+1≤k)(hk:k≤e)(hl:C.p[k]?=some ln)(A:Ls):
  (k+1≤e→cu A.g.items A.g.items.length ((k+1:Nat):Int) (aT C.p A.pos (x.f+1) (k+1 - (x.f+1)))=(aK C x k ln A).g.items)∧(k=e→A.g.items=(aK C x k ln A).g.items):=by
 constructor
 ·intro hke
  unfold aK
  by_cases h7:ln.faa=7
  ·obtain⟨q1,q2,q3,q4,q5⟩:=ut hC hx he (by omega) (by omega) hl h7
   rw[if_pos ⟨h7,q5⟩]
   refine ol q3 q4 q1 (by omega) fun i k1 k2 k3 k4=>?_
   obtain⟨_,_,t3⟩:=yl hC hx he (k:=k+1) k1 (by omega) hke k3 k4
   rw[Nat.add_sub_cancel]at t3
   exact t3.symm
  ·rw[if_neg (by omega)]
   refine gV fun z hz=>?_
   obtain⟨i,k1,k2,k3,rfl⟩:=jg hz
   intro hh
   obtain⟨t1,_⟩:=yl hC hx he (k:=k+1) k1 (by omega) hke k3 hh
   rw[Nat.add_sub_cancel,aZ hl]at t1
   exact h7 t1
 ·rintro rfl
  unfold aK
  rw[if_neg]
  rintro⟨_,h⟩
  exact h (fJ he)
theorem xw (hC:CxOk C)(hx:ScOk C x ins){e k:Nat}{ln:CM}(he:endAt C.p x.f=some e)(h1:x.f+1≤k)(hk:k≤e)(hl:C.p[k]?=some ln)(h4:ln.faa=4)(pos:List Int)(l:List CL)(v:Int):
  cu l v (-(k:Int)) (aT C.p pos (x.f+1) (k+1 - (x.f+1)))=bx l (atL pos (az C.p k)) v:=by
 obtain⟨o1,o2,o3,o4⟩:=hx.own4 hC he h1 hk hl h4
 obtain⟨y,m,hy,y3,hm,_,_,_⟩:=aP o1
 have hky:=aZ hy
 have hel:aX C.p (az C.p k:Int)=(k:Int):=by rw[dW];exact aU o1
 refine ol (by unfold jumps;omega) (by unfold iM;rw[if_neg (by omega),if_pos ⟨by omega,by omega⟩,hel]) (by omega) (by omega) fun i k1 k2 k3 k4=>?_
 unfold iM at k4
 by_cases hi4:bH C.p i=4
 ·rw[if_pos hi4]at k4
  have:=km C.p (az C.p i)
  omega
 ·rw[if_neg hi4]at k4
  split at k4
  ·rename_i h3
   have hk':aX C.p (i:Int)=(k:Int):=by omega
   rw[dW]at hk'
   cases hie:elseAt C.p i with
   | none=>rw[hie]at hk';simp only[bS]at hk';omega
   | some j=>
    rw[hie]at hk'
    simp only[bS]at hk'
    have:j=k:=by omega
    subst this
    exact jo hie o1
  ·have:=km C.p i
   omega
end
theorem lU (l:List CU)(hl:l.length≤1048576):Sim.Spec Tryz.prog 257 [tvL 3 (l.map CU.tr)] (rL 3 (l.map CU.tr)):=by
 refine aR hΓ aq Tryz.func257 rfl (by decide) rfl ?_
 repeat' ((conv=>whnf);first|apply Wx|apply W6|apply oi|(apply fi<;>intro h)|refine⟨_,rfl,?_⟩|exact rfl)
 all_goals try exact⟨KP⟩
 all_goals try exact⟨⟨by simp <;> omega,by simp <;> omega⟩⟩
 all_goals try exact⟨⟨rfl,bD _⟩⟩
theorem sr (x:CM)(hs:aE 1048576 x.tr):Sim.Spec Tryz.prog 239 [.agg x.tr] (.r (.agg (x.tr.map zG))):=by
 refine aR hΓ aq Tryz.func239 rfl (by decide) rfl ?_
 obtain⟨h1,h2,h3,h4,h5⟩:=cd hs
 have hT:=lU x.fac h4
 repeat' ((conv=>whnf);first|apply Wx|apply W6|apply oi|(apply fi<;>intro h)|refine cl hT ?_|refine⟨_,rfl,?_⟩|exact rfl)
 all_goals try exact⟨KP⟩
 all_goals try exact⟨⟨by simp <;> omega,by simp <;> omega⟩⟩
 all_goals try exact⟨⟨rfl,dX _⟩⟩
theorem qW {α β:Type}(f:α→β)(l:List α)(k:Nat)(x:α)(hx:l[k]?=some x):(l.take (k+1)).map f=(l.take k).map f++[f x]:=by
 rw[List.take_add_one,hx,List.map_append]
 rfl
theorem nL (l:List CM)(hs:aA 1048576 (.lst 4 (l.map CM.tr))):bp Tryz.prog 195 [vP l] [] (.r (.c (.own (1,0,0)))) [((1,0,0),.dar 4 (ae (l.map CM.tr)) none)]:=by
 refine ax hΓ aq Tryz.func195 rfl (by decide) rfl rfl ?_
 have hl:=bo hs
 have hlen:(l.map CM.tr).length=l.length:=by simp
 repeat' ((conv=>whnf);first|apply Wx|apply W6|apply oi|(apply fi<;>intro h)|refine⟨_,rfl,?_⟩|exact rfl)
 all_goals try exact⟨KP⟩
 conv=>whnf
 refine⟨{k:Nat // k≤l.length},fun q=>⟨[(0,vP l),(3,.r (.c (.own (3,0,0)))),(4,tI .i64 (q.1:Int))],[((3,0,0),some (.dar 4 (ae ((l.take q.1).map CM.tr)) none))],[3,0]⟩,fun q=>l.length - q.1,⟨0,by omega⟩,?_,?_⟩
 ·skip
  repeat' ((conv=>whnf);first|apply Wx|apply W6|apply oi|(apply fi<;>intro h)|refine⟨_,rfl,?_⟩|exact rfl)
  all_goals try exact⟨KP⟩
 intro⟨k,hk⟩
 dsimp only at hk ⊢
 by_cases hlt:k < l.length
 ·obtain⟨x,hx⟩:=af hlt
  have hdl:(ae ((l.take k).map CM.tr)).length=k:=by rw[aB,List.length_map,List.length_take];omega
  have hC:=sr x (aC hs (List.mem_of_getElem? hx))
  repeat' ((conv=>whnf);first|apply Wx|apply W6|apply oi|(apply fi<;>intro h)|refine⟨k,x.tr,rfl,aa hx,?_⟩|refine cl hC ?_|refine⟨_,rfl,?_⟩|exact rfl)
  all_goals try exact⟨KP⟩
  all_goals try exact KX
  all_goals try exact⟨bD _⟩
  all_goals try exact⟨dX _⟩
  all_goals try exact⟨⟨by rw[hdl];(try dsimp only);simp <;> omega,by rw[hdl];(try dsimp only);simp <;> omega⟩⟩
  repeat' ((conv=>whnf);first|apply Wx|apply W6|apply oi|(apply fi<;>intro h)|refine⟨_,rfl,?_⟩|exact rfl)
  all_goals try exact⟨KP⟩
  conv=>whnf
  refine⟨⟨k+1,by omega⟩,?_,KD⟩
  repeat' ((conv=>whnf);first|apply Wx|apply W6|apply oi|(apply fi<;>intro h)|refine⟨_,rfl,?_⟩|exact rfl)
  all_goals try exact⟨KP⟩
  all_goals try exact⟨K4⟩
  all_goals exact⟨by rw[qW CM.tr l k x hx];simp[ae,CM.tr]⟩
 ·skip
  repeat' ((conv=>whnf);first|apply Wx|apply W6|apply oi|(apply fi<;>intro h)|refine⟨_,rfl,?_⟩|exact rfl)
  all_goals try exact⟨KP⟩
  all_goals try exact KX
  all_goals exact⟨by rw[List.take_of_length_le (by omega)]⟩
noncomputable def iL (l:List CU):List CU:=if h:ba l=true then(Classical.choose (fH h)).fold.toks else []
theorem mR {l:List CU}(h:ba l=true):∃e:Ex,e.ok∧l=e.toks∧iL l=e.fold.toks:=by
 have hc:=Classical.choose_spec (fH h)
 exact⟨_,hc.1,hc.2,by rw[iL,dif_pos h]⟩
theorem mT {l:List CU}(h:ba l=false):iL l=[]:=by rw[iL,dif_neg (by simp[h])]
theorem ta (l:List CU):(iL l).length≤l.length:=by
 cases h:ba l with
 | false=>rw[mT h];simp
 | true=>
  obtain⟨e,_,h1,h2⟩:=mR h
  rw[h2,h1]
  exact e.fold_le
theorem pR (l:List CU)(hl:l.length≤1048576)(hn:cP l):Sim.Spec Tryz.prog 196 [tvL 3 (l.map CU.tr)] (rL 3 ((iL l).map CU.tr)):=by
 refine aR hΓ aq Tryz.func196 rfl (by decide) rfl ?_
 have hE:=lH l hl hn
 cases h:ba l with
 | false=>
  rw[h]at hE
  rw[mT h]
  repeat' ((conv=>whnf);first|apply Wx|apply W6|apply oi|(apply fi<;>intro h)|refine cl hE ?_|refine⟨_,rfl,?_⟩|exact rfl)
  all_goals try exact⟨KP⟩
  all_goals try exact KX
 | true=>
  rw[h]at hE
  obtain⟨e,h1,h2,h3⟩:=mR h
  have hF:=ku e.toks.length e (Nat.le_refl _) l 0 hl hn h1 ⟨[],by rw[List.drop_zero,List.append_nil];exact h2⟩
  rw[h3]
  generalize e.fold.toks=r at *
  repeat' ((conv=>whnf);first|apply Wx|apply W6|apply oi|(apply fi<;>intro h)|refine cl hE ?_|refine cl hF ?_|refine⟨_,rfl,?_⟩|exact rfl)
  all_goals try exact⟨KP⟩
  all_goals try exact KX
noncomputable def aG (x:CM):CM:=if 0 < x.fac.length then⟨x.faa,x.fab,x.fad,iL x.fac⟩else x
noncomputable def dQ (l:List CM) (k:Nat):List CM:=(l.take k).map aG++l.drop k
theorem vg (l:List CM)(k:Nat):(dQ l k).length=l.length:=by simp[dQ];omega
theorem kE {l:List CM}{k:Nat}{x:CM}(hx:l[k]?=some x):(dQ l k)[k]?=some x:=by
 have hk:k < l.length:=by
  rcases Nat.lt_or_ge k l.length with h|h
  ·exact h
  ·rw[List.getElem?_eq_none h]at hx;cases hx
 rw[dQ,List.getElem?_append_right (by simp;omega)]
 simp only[List.length_map,List.length_take]
 rw[Nat.min_eq_left (by omega),Nat.sub_self,List.getElem?_drop]
 exact hx
theorem nc {l:List CM}{k:Nat}{x:CM}(hx:l[k]?=some x):dQ l (k+1)=(dQ l k).set k (aG x):=by
 have hk:k < l.length:=by
  rcases Nat.lt_or_ge k l.length with h|h
  ·exact h
  ·rw[List.getElem?_eq_none h]at hx;cases hx
 rw[dQ,dQ,qW aG l k x hx,dP hx,List.set_append_right _ _ (by simp;omega)]
 simp only[List.length_map,List.length_take]
 rw[Nat.min_eq_left (by omega),Nat.sub_self,List.set_cons_zero,List.append_assoc]
 rfl
noncomputable def cI (l:List CM):List CM:=if aF l=true then l.map aG else []
theorem mf (l:List CM)(hs:aA 1048576 (.lst 4 (l.map CM.tr))):Sim.Spec Tryz.prog 132 [tvP l] (rL 4 ((cI l).map CM.tr)):=by
 refine aR hΓ aq Tryz.func132 rfl (by decide) rfl ?_
 have hl:=bo hs
 have hP:=eP l hs
 have hC:=nL l hs
 cases hpo:aF l with
 | false=>
  rw[hpo]at hP
  have:cI l=[]:=by rw[cI,if_neg (by simp[hpo])]
  rw[this]
  repeat' ((conv=>whnf);first|apply Wx|apply W6|apply oi|(apply fi<;>intro h)|refine cl hP ?_|refine⟨_,rfl,?_⟩|exact rfl)
  all_goals try exact⟨KP⟩
  all_goals try exact KX
 | true=>
  rw[hpo]at hP
  have:cI l=l.map aG:=by rw[cI,if_pos hpo]
  rw[this]
  repeat' ((conv=>whnf);first|apply Wx|apply W6|refine cg hC ?_|apply oi|(apply fi<;>intro h)|refine cl hP ?_|refine⟨_,rfl,?_⟩|exact rfl)
  all_goals try exact⟨KP⟩
  all_goals try exact KX
  conv=>whnf
  refine⟨{k:Nat // k≤l.length},fun q=>⟨[(3,.r (.c (.own (3,0,0)))),(4,tI .i64 (q.1:Int))],[((3,0,0),some (.dar 4 (ae ((dQ l q.1).map CM.tr)) none))],[3]⟩,fun q=>l.length - q.1,⟨0,by omega⟩,?_,?_⟩
  ·skip
   repeat' ((conv=>whnf);first|apply Wx|apply W6|apply oi|(apply fi<;>intro h)|refine⟨_,rfl,?_⟩|exact rfl)
   all_goals try exact⟨KP⟩
  intro⟨k,hk⟩
  dsimp only at hk ⊢
  have hdl:(ae ((dQ l k).map CM.tr)).length=l.length:=by rw[aB,List.length_map,vg]
  by_cases hlt:k < l.length
  ·obtain⟨x,hx⟩:=af hlt
   obtain⟨h1,h2,h3,h4,h5⟩:=cd (aC hs (List.mem_of_getElem? hx))
   have hF:=pR x.fac h4 (fun y hy=>by have:=h5 y hy;omega)
   have hkl:k < (ae ((dQ l k).map CM.tr)).length:=by rw[hdl];exact hlt
   have hel3:(x.fac.map CU.tr).length=x.fac.length:=by simp
   by_cases hpos:0 < x.fac.length
   ·have hfl:aG x=⟨x.faa,x.fab,x.fad,iL x.fac⟩:=by rw[aG,if_pos hpos]
    repeat' ((conv=>whnf);first|apply Wx|apply W6|apply oi|(apply fi<;>intro h)|refine⟨k,rfl,hkl,?_⟩|refine⟨k,rfl,(by simpa using hkl),?_⟩|refine⟨_,ey (aa (kE hx)),?_⟩|refine⟨_,(List.getElem?_set_self (by simpa using hkl)),?_⟩|refine cl hF ?_|refine⟨_,rfl,?_⟩|exact rfl)
    all_goals try exact⟨KP⟩
    all_goals try exact⟨bD _⟩
    all_goals try(exfalso;have h':=of_decide_eq_false h;rw[hdl]at h';omega)
    all_goals try(exfalso;have h':=of_decide_eq_false h;rw[hel3]at h';omega)
    conv=>whnf
    refine⟨⟨k+1,by omega⟩,?_,KD⟩
    repeat' ((conv=>whnf);first|apply Wx|apply W6|apply oi|(apply fi<;>intro h)|refine⟨_,rfl,?_⟩|exact rfl)
    all_goals try exact⟨KP⟩
    all_goals try exact⟨bD _⟩
    all_goals try exact⟨K4⟩
    all_goals(refine⟨?_⟩;(try dsimp only);rw[nc hx,List.map_set,←iX,hfl];simp[CM.tr])
   ·have hfl:aG x=x:=by rw[aG,if_neg hpos]
    repeat' ((conv=>whnf);first|apply Wx|apply W6|apply oi|(apply fi<;>intro h)|refine⟨k,rfl,hkl,?_⟩|refine⟨k,rfl,(by simpa using hkl),?_⟩|refine⟨_,ey (aa (kE hx)),?_⟩|refine⟨_,(List.getElem?_set_self (by simpa using hkl)),?_⟩|refine cl hF ?_|refine⟨_,rfl,?_⟩|exact rfl)
    all_goals try exact⟨KP⟩
    all_goals try exact⟨bD _⟩
    all_goals try(exfalso;have h':=of_decide_eq_false h;rw[hdl]at h';omega)
    all_goals try(exfalso;have h':=of_decide_eq_true h;rw[hel3]at h';omega)
    conv=>whnf
    refine⟨⟨k+1,by omega⟩,?_,KD⟩
    repeat' ((conv=>whnf);first|apply Wx|apply W6|apply oi|(apply fi<;>intro h)|refine⟨k,rfl,hkl,?_⟩|refine⟨k,rfl,(by simpa using hkl),?_⟩|refine⟨_,ey (aa (kE hx)),?_⟩|refine⟨_,(List.getElem?_set_self (by simpa using hkl)),?_⟩|refine⟨_,rfl,?_⟩|exact rfl)
    all_goals try exact⟨KP⟩
    all_goals try exact⟨bD _⟩
    all_goals try exact⟨K4⟩
    all_goals(refine⟨?_⟩;(try dsimp only);rw[nc hx,List.map_set,←iX,hfl];simp[CM.tr])
  ·skip
   repeat' ((conv=>whnf);first|apply Wx|apply W6|apply oi|(apply fi<;>intro h)|refine⟨_,rfl,?_⟩|exact rfl)
   all_goals try exact⟨KP⟩
   all_goals try exact KX
   all_goals exact⟨by rw[dQ,List.take_of_length_le (by omega),List.drop_eq_nil_of_le (by omega),List.append_nil]⟩
structure PgOk (p:List CM):Prop where
 len:p.length≤60
 small:aA 1048576 (.lst 4 (p.map CM.tr))
 line:∀(k:Nat) (ln:CM),p[k]?=some ln→0≤ln.faa∧ln.faa≤7∧ln.fad.length≤4∧ln.fac.length≤20∧((ln.faa=1∨ln.faa=2∨ln.faa=3∨ln.faa=5∨ln.faa=6)→ba ln.fac=true)
 fn:∀(g:Nat) (ln:CM),p[g]?=some ln→ln.faa=0→∃e,endAt p g=some e∧(localsOf p (g:Int)).length≤8∧ln.fad.length≤(localsOf p (g:Int)).length∧∀(k:Nat) (y:CM),g < k→k < e→p[k]?=some y→y.faa≠0∧(∀t∈y.fac,t.faa=7→∃f,findN p 0 t.fab=some f∧(argsN p f:Int)=t.faf)∧(y.faa=4→∃i,g≤i∧i < k∧elseAt p i=some k)
theorem PgOk.cx {p:List CM}(h:PgOk p){b:CE}{framed:Bool}{words args:Int}(ha:0≤args∧args≤4)(hw:0≤words∧words≤1000)(hi:0≤b.fag∧b.fag≤3):CxOk ⟨p,b,framed,words,args⟩:=
 ⟨h.len,h.small,h.line,h.fn,ha,hw,hi⟩
theorem rE {F:Nat→Nat→Bool}{l:List CM}(hF:∀k e,endAt l k=some e→F k e=true→∀i x,k < i→i < e→l[i]?=some x→x.faa≠0):∀(n k:Nat),bv F l n k=true→∀g x,k≤g→l[g]?=some x→x.faa=0→∃e,endAt l g=some e∧F g e=true
 | 0,k,h,g,x,hk,hg,_=>by
  rw[bv,decide_eq_true_eq]at h
  have:=aM hg
  omega
 | n+1,k,h,g,x,hk,hg,h0=>by
  rw[bv,if_pos (by have:=aM hg;omega)]at h
  split at h
  ·rename_i y e hy he
   split at h
   ·rename_i hc
    by_cases hgk:g=k
    ·subst hgk;exact⟨e,he,hc.2⟩
    ·by_cases hge:g≤e
     ·by_cases hge2:g=e
      ·subst hge2
       obtain⟨z,hz,h7⟩:=bk he
       rw[hg]at hz
       injection hz with hz
       subst hz
       omega
      ·exact absurd h0 (hF k e he hc.2 g x (by omega) (by omega) hg)
     ·exact rE hF n (e+1) h g x (by omega) hg h0
   ·cases h
  ·cases h
theorem rz {l:List CM}{locals:List (List UInt8)}{e:Nat}:∀(n i d:Nat),e - i≤n→e≤l.length→fS l locals e n i d=true→∀j x,i≤j→j < e→l[j]?=some x→bm l locals x.fac=true
 | 0,i,d,hn,_,_,j,x,h1,h2,_=>by omega
 | n+1,i,d,hn,he,hb,j,x,h1,h2,hx=>by
  rw[fS,if_pos (by omega)]at hb
  obtain⟨y,hy⟩:=af (l:=l) (k:=i) (by omega)
  rw[hy]at hb
  dsimp only at hb
  split at hb
  ·cases hb
  ·split at hb
   ·rename_i hk
    by_cases hj:j=i
    ·subst hj
     rw[hy]at hx
     injection hx with hx
     subst hx
     exact hk.2
    ·exact rz n (i+1) _ (by omega) he hb j x (by omega) h2 hx
   ·cases hb
theorem xp (acc:List (List UInt8))(s:List UInt8):acc.length≤(gw acc s).length:=by
 unfold gw
 split <;> simp
theorem yu {l:List CM}{e:Nat}:∀(n i:Nat) (acc:List (List UInt8)),acc.length≤(locN l e n i acc).length
 | 0,_,_=>by simp[locN]
 | n+1,i,acc=>by
  rw[locN]
  split
  ·split
   ·refine Nat.le_trans ?_ (yu n _ _)
    split
    ·exact xp _ _
    ·exact Nat.le_refl _
   ·exact Nat.le_refl _
  ·exact Nat.le_refl _
theorem hasExpr_iff {k:Int}:cz k=true↔(k=1∨k=2∨k=3∨k=5∨k=6):=by
 unfold cz
 simp
theorem uo {x:CM}(h:bZ x=true):0≤x.faa∧x.faa≤7∧x.fad.length≤4∧x.fac.length≤20∧((x.faa=1∨x.faa=2∨x.faa=3∨x.faa=5∨x.faa=6)→ba x.fac=true):=by
 have h4:x.fad.length≤4:=by
  rcases Nat.lt_or_ge 4 x.fad.length with h'|h'
  ·rw[po h']at h;cases h
  ·exact h'
 unfold bZ at h
 simp only[Bool.and_eq_true,within_iff]at h
 obtain⟨⟨h1,h2⟩,_,_,h3⟩:=h
 refine⟨h1,h2,h4,?_,fun hk=>by rw[if_pos (hasExpr_iff.2 hk)]at h3;exact h3⟩
 split at h3
 ·unfold ba at h3
  simp only[Bool.and_eq_true,decide_eq_true_eq]at h3
  exact h3.1
 ·have:=eq_of_beq h3
  omega
theorem pY {p:List CM}(hs:aA 1048576 (.lst 4 (p.map CM.tr)))(h:aF p=true):PgOk p:=by
 unfold aF at h
 simp only[Bool.and_eq_true,decide_eq_true_eq]at h
 obtain⟨h1,_,h2,_,_,h3,h4⟩:=h
 have hS:=rj p
 rw[h3,h4]at hS
 have hlines:∀(k:Nat) (ln:CM),p[k]?=some ln→0≤ln.faa∧ln.faa≤7∧ln.fad.length≤4∧ln.fac.length≤20∧((ln.faa=1∨ln.faa=2∨ln.faa=3∨ln.faa=5∨ln.faa=6)→ba ln.fac=true):=fun k ln hk=>uo (List.all_eq_true.1 h2 ln (List.mem_of_getElem? hk))
 have hlt:∀k e,endAt p k=some e→e≤p.length:=fun k e he=>by obtain⟨_,_,_,_,_,h⟩:=au he;omega
 have hF:∀k e,endAt p k=some e→jT p k e=true→∀i x,k < i→i < e→p[i]?=some x→x.faa≠0:=fun k e he hf=>by
  rw[sk,Bool.and_eq_true]at hf
  exact sl hf.1 (hlt k e he)
 refine⟨h1,hs,hlines,fun g ln hg h0=>?_⟩
 obtain⟨e,he,hf⟩:=rE hF p.length 0 hS g ln (Nat.zero_le _) hg h0
 have hf':=hf
 rw[sk,Bool.and_eq_true]at hf'
 obtain⟨hf1,hf2⟩:=hf'
 have hf1':=hf1
 rw[gn,Bool.and_eq_true,decide_eq_true_eq]at hf1'
 obtain⟨hl8,hbody⟩:=hf1'
 refine⟨e,he,hl8,?_,fun k y hk1 hk2 hy=>⟨hF g e he hf k y hk1 hk2 hy,fun t ht h7=>?_,fun h4'=>?_⟩⟩
 ·unfold localsOf
  rw[if_pos (by omega),Int.toNat_natCast,hg,he]
  dsimp only
  rw[if_pos h0]
  exact yu _ _ _
 ·have hkn:=rz (e - (g+1)) (g+1) 0 (Nat.le_refl _) (hlt g e he) hbody k y (by omega) hk2 hy
  unfold bm at hkn
  have:=List.all_eq_true.1 hkn t ht
  unfold bB at this
  rw[if_neg (by omega),if_pos h7]at this
  split at this
  ·rename_i f hfi
   refine⟨f,hfi,?_⟩
   unfold argsN
   split at this
   ·rename_i x hx
    (try rw[hx])
    exact eq_of_beq this
   ·cases this
  ·cases this
 ·have:=(fk (Nat.le_refl _)).1 hf2 k y (by omega) hk2 hy h4'
  rw[kf]at this
  obtain⟨i,i1,i2,i3⟩:=this
  exact⟨i,i1,by omega,i3⟩
def alike (p q:List CM):Prop:=p.map (fun x=>(x.faa,x.fab,x.fad))=q.map (fun x=>(x.faa,x.fab,x.fad))
theorem alike.len {p q:List CM}(h:alike p q):p.length=q.length:=by simpa using congrArg List.length h
theorem alike.get {p q:List CM}(h:alike p q){k:Nat}{x:CM}(hx:p[k]?=some x):∃y,q[k]?=some y∧x.faa=y.faa∧x.fab=y.fab∧x.fad=y.fad:=by
 have:=congrArg (·[k]?) h
 simp only[List.getElem?_map,hx,Option.map_some]at this
 cases hy:q[k]? with
 | none=>rw[hy]at this;cases this
 | some y=>
  rw[hy]at this
  simp only[Option.map_some,Option.some.injEq,Prod.mk.injEq]at this
  exact⟨y,rfl,this.1,this.2.1,this.2.2⟩
theorem alike.none {p q:List CM}(h:alike p q){k:Nat}(hx:p[k]?=none):q[k]?=none:=by
 rw[List.getElem?_eq_none_iff]at hx ⊢
 have:=h.len
 omega
theorem alike.symm {p q:List CM}(h:alike p q):alike q p:=Eq.symm h
theorem alike.drop {p q:List CM}(h:alike p q)(n:Nat):alike (p.drop n) (q.drop n):=by
 unfold alike at *
 rw[List.map_drop,List.map_drop,h]
theorem alike.endN:∀{p q:List CM},alike p q→∀(i o:Nat),endN p i o=endN q i o
 | [],[],_,_,_=>rfl
 | x::p,y::q,h,i,o=>by
  simp only[alike,List.map_cons,List.cons.injEq,Prod.mk.injEq]at h
  have ih:=alike.endN (p:=p) (q:=q) h.2
  rw[Go.Proofs.YtoglejgmjeojoaaGreat.endN,Go.Proofs.YtoglejgmjeojoaaGreat.endN,h.1.1,ih,ih,ih]
 | [],_::_,h,_,_=>by simp[alike]at h
 | _::_,[],h,_,_=>by simp[alike]at h
theorem alike.endAt {p q:List CM}(h:alike p q)(k:Nat):endAt p k=endAt q k:=by
 unfold Go.Proofs.YtoglejgmjeojoaaGreat.endAt
 cases hx:p[k]? with
 | none=>rw[h.none hx]
 | some x=>
  obtain⟨y,hy,e1,_⟩:=h.get hx
  rw[hy]
  dsimp only
  rw[e1,(h.drop (k+1)).endN]
theorem alike.elseN {p q:List CM}(h:alike p q){e:Nat}:∀(n i:Nat),elseN p e n i=elseN q e n i
 | 0,_=>rfl
 | n+1,i=>by
  rw[Go.Proofs.YtoglejgmjeojoaaGreat.elseN,Go.Proofs.YtoglejgmjeojoaaGreat.elseN]
  cases hx:p[i]? with
  | none=>rw[h.none hx]
  | some x=>
   obtain⟨y,hy,e1,_⟩:=h.get hx
   rw[hy]
   dsimp only
   rw[e1,h.endAt i]
   cases Go.Proofs.YtoglejgmjeojoaaGreat.endAt q i with
   | none=>dsimp only;rw[alike.elseN h n]
   | some m=>dsimp only;rw[alike.elseN h n,alike.elseN h n]
theorem alike.elseAt {p q:List CM}(h:alike p q)(k:Nat):elseAt p k=elseAt q k:=by
 unfold Go.Proofs.YtoglejgmjeojoaaGreat.elseAt
 rw[h.endAt k]
 cases hx:p[k]? with
 | none=>rw[h.none hx]
 | some x=>
  obtain⟨y,hy,e1,_⟩:=h.get hx
  rw[hy]
  cases Go.Proofs.YtoglejgmjeojoaaGreat.endAt q k with
  | none=>rfl
  | some e=>dsimp only;rw[e1,h.elseN]
theorem alike.findN:∀{p q:List CM},alike p q→∀(i:Nat) (s:List UInt8),findN p i s=findN q i s
 | [],[],_,_,_=>rfl
 | x::p,y::q,h,i,s=>by
  simp only[alike,List.map_cons,List.cons.injEq,Prod.mk.injEq]at h
  have ih:=alike.findN (p:=p) (q:=q) h.2
  rw[Go.Proofs.YtoglejgmjeojoaaGreat.findN,Go.Proofs.YtoglejgmjeojoaaGreat.findN,h.1.1,h.1.2.1,ih]
 | [],_::_,h,_,_=>by simp[alike]at h
 | _::_,[],h,_,_=>by simp[alike]at h
theorem alike.locN {p q:List CM}(h:alike p q){e:Nat}:∀(n i:Nat) (acc:List (List UInt8)),locN p e n i acc=locN q e n i acc
 | 0,_,_=>rfl
 | n+1,i,acc=>by
  rw[Go.Proofs.YtoglejgmjeojoaaGreat.locN,Go.Proofs.YtoglejgmjeojoaaGreat.locN]
  cases hx:p[i]? with
  | none=>rw[h.none hx]
  | some x=>
   obtain⟨y,hy,e1,e2,_⟩:=h.get hx
   rw[hy]
   dsimp only
   rw[e1,e2,alike.locN h n]
theorem alike.localsOf {p q:List CM}(h:alike p q)(k:Int):localsOf p k=localsOf q k:=by
 unfold Go.Proofs.YtoglejgmjeojoaaGreat.localsOf
 rw[h.endAt]
 cases hx:p[k.toNat]? with
 | none=>rw[h.none hx]
 | some x=>
  obtain⟨y,hy,e1,_,e3⟩:=h.get hx
  rw[hy]
  cases Go.Proofs.YtoglejgmjeojoaaGreat.endAt q k.toNat with
  | none=>rfl
  | some e=>dsimp only;rw[e1,e3,h.locN]
theorem alike.argsN {p q:List CM}(h:alike p q)(g:Nat):argsN p g=argsN q g:=by
 unfold Go.Proofs.YtoglejgmjeojoaaGreat.argsN
 cases hx:p[g]? with
 | none=>rw[h.none hx]
 | some x=>
  obtain⟨y,hy,_,_,e3⟩:=h.get hx
  rw[hy]
  dsimp only
  rw[e3]
theorem kC (p:List CM):alike (p.map aG) p:=by
 unfold alike
 rw[List.map_map]
 refine List.map_congr_left fun x _=>?_
 simp only[Function.comp,aG]
 split <;> rfl
theorem BV (v:Int):ar ⟨0,v,[]⟩=0:=by
 unfold ar lI
 split <;> simp
theorem Bl {v:Int}(h:ah v 0 999=true):(ub v).ok:=⟨by simp[dB,h],by rw[BV];rfl,trivial⟩
theorem Bt {t:CU}{fs:List Ex}(h1:dB t=true)(h2:fs.length=ar t)(h3:gh fs):(sD t fs).ok:=by
 unfold sD
 split
 ·split
  ·rename_i hc
   exact Bl hc.2.2.2
  ·exact⟨h1,h2,h3⟩
 ·exact⟨h1,h2,h3⟩
mutual
theorem Ex.fold_ok:∀e:Ex,e.ok→e.fold.ok
 | .node t es,h=>by rw[Ex.fold];exact Bt h.1 (by rw[fZ];exact h.2.1) (tq es h.2.2)
theorem tq:∀es:List Ex,gh es→gh (aO es)
 | [],_=>by rw[aO];trivial
 | a::es,h=>by rw[aO];exact⟨a.fold_ok h.1,tq es h.2⟩
end
theorem zC {t:CU}{fs:List Ex}{z:CU}(h:z∈(sD t fs).toks):z=t∨z∈ak fs∨∃n,z=⟨0,n,[]⟩:=by
 unfold sD at h
 split at h
 ·split at h
  ·simp only[ub,Ex.toks,ak,List.mem_cons,List.not_mem_nil,or_false]at h
   exact .inr (.inr ⟨_,h⟩)
  ·rw[Ex.toks,List.mem_cons]at h
   exact h.imp id .inl
 ·rw[Ex.toks,List.mem_cons]at h
  exact h.imp id .inl
mutual
theorem Ex.fold_mem:∀(e:Ex) {z:CU},z∈e.fold.toks→z∈e.toks∨∃n,z=⟨0,n,[]⟩
 | .node t es,z,h=>by
  rw[Ex.fold]at h
  rw[Ex.toks,List.mem_cons]
  rcases zC h with h|h|h
  ·exact .inl (.inl h)
  ·rcases sj es h with h|h
   ·exact .inl (.inr h)
   ·exact .inr h
  ·exact .inr h
theorem sj:∀(es:List Ex) {z:CU},z∈ak (aO es)→z∈ak es∨∃n,z=⟨0,n,[]⟩
 | [],z,h=>by rw[aO]at h;exact .inl h
 | a::es,z,h=>by
  rw[aO,ak,List.mem_append]at h
  rw[ak,List.mem_append]
  rcases h with h|h
  ·exact(a.fold_mem h).imp .inl id
  ·exact(sj es h).imp .inr id
end
theorem zn {e:Ex}(ho:e.ok)(hl:e.toks.length≤20):ba e.toks=true:=by
 have h:=fX (l:=e.toks) (p:=0) ⟨[],by rw[List.drop_zero,List.append_nil]⟩ ho
 have hp:=e.toks_pos
 unfold ba
 rw[decide_eq_true hl,decide_eq_true hp,show cH e.toks 0=_ from h]
 simp
theorem oV {l:List CU}(h:ba l=true):ba (iL l)=true∧∀z∈iL l,z∈l∨∃n,z=⟨0,n,[]⟩:=by
 obtain⟨e,h1,h2,h3⟩:=mR h
 have hl:=ta l
 have h20:l.length≤20:=by
  unfold ba at h
  simp only[Bool.and_eq_true,decide_eq_true_eq]at h
  exact h.1
 rw[h3]at hl ⊢
 refine⟨zn (e.fold_ok h1) (by omega),fun z hz=>?_⟩
 rw[h2]
 exact e.fold_mem hz
theorem kG {L:Int}:∀{rows:List (List Tr)},(∀r∈rows,aE L r)→dy L rows
 | [],_=>by rw[dy];trivial
 | r::rs,h=>by rw[dy];exact⟨h r (by simp),kG fun x hx=>h x (by simp[hx])⟩
theorem rt {x:CM}(hs:aE 1048576 x.tr)(he:(x.faa=1∨x.faa=2∨x.faa=3∨x.faa=5∨x.faa=6)→ba x.fac=true)(h20:x.fac.length≤20):
  (aG x).faa=x.faa∧(aG x).fad=x.fad∧(aG x).fac.length≤20∧((x.faa=1∨x.faa=2∨x.faa=3∨x.faa=5∨x.faa=6)→ba (aG x).fac=true)∧(∀z∈(aG x).fac,z∈x.fac∨∃n,z=⟨0,n,[]⟩)∧aE 1048576 (aG x).tr:=by
 unfold aG
 split
 ·rename_i hpos
  have hl:=ta x.fac
  have hz:∀z∈iL x.fac,z∈x.fac∨∃n,z=⟨0,n,[]⟩:=by
   cases hx:ba x.fac with
   | true=>exact(oV hx).2
   | false=>rw[mT hx];intro z hz;cases hz
  refine⟨rfl,rfl,by dsimp only;omega,fun hk=>(oV (he hk)).1,hz,?_⟩
  simp only[CM.tr,aE]at hs ⊢
  obtain⟨q0,q1,q2,q3,q4⟩:=hs
  refine⟨q0,q1,q2,?_,q4⟩
  have hsl:=cR q3
  rw[aA]
  refine⟨by rw[List.length_map];omega,kG fun r hr=>?_⟩
  obtain⟨z,hz1,rfl⟩:=List.mem_map.1 hr
  rcases hz z hz1 with h|⟨n,rfl⟩
  ·exact aC q3 h
  ·simp[CU.tr,aE,aA]
 ·exact⟨rfl,rfl,h20,he,fun z hz=> .inl hz,hs⟩
theorem PgOk.fold {p:List CM}(h:PgOk p):PgOk (p.map aG):=by
 have ha:=kC p
 have aQ:∀{k:Nat} {y:CM},(p.map aG)[k]?=some y→∃x,p[k]?=some x∧y=aG x:=fun{k y} hy=>by
  rw[List.getElem?_map]at hy
  cases hx:p[k]? with
  | none=>rw[hx]at hy;cases hy
  | some x=>rw[hx]at hy;injection hy with hy;exact⟨x,rfl,hy.symm⟩
 have hf:∀{k:Nat} {x:CM},p[k]?=some x→_:=fun{k x} hx=>rt (aC h.small (List.mem_of_getElem? hx)) (h.line k x hx).2.2.2.2 (h.line k x hx).2.2.2.1
 refine⟨by rw[List.length_map];exact h.len,?_,fun k y hy=>?_,fun g y hy h0=>?_⟩
 ·rw[aA]
  refine⟨by have:=h.len;simp;omega,kG fun r hr=>?_⟩
  obtain⟨y,hy,rfl⟩:=List.mem_map.1 hr
  obtain⟨x,hx,rfl⟩:=List.mem_map.1 hy
  obtain⟨k,hk,hkx⟩:=List.mem_iff_getElem.1 hx
  exact(hf (k:=k) (x:=x) (by rw[List.getElem?_eq_getElem hk,hkx])).2.2.2.2.2
 ·obtain⟨x,hx,rfl⟩:=aQ hy
  obtain⟨f1,f2,f3,f4,_⟩:=hf hx
  obtain⟨l1,l2,l3,_⟩:=h.line k x hx
  rw[f1,f2]
  exact⟨l1,l2,l3,f3,f4⟩
 ·obtain⟨x,hx,rfl⟩:=aQ hy
  obtain⟨f1,f2,_⟩:=hf hx
  rw[f1]at h0
  obtain⟨e,he,q1,q2,q3⟩:=h.fn g x hx h0
  refine⟨e,by rw[ha.endAt];exact he,by rw[ha.localsOf];exact q1,by rw[ha.localsOf,f2];exact q2,fun k y hk1 hk2 hy=>?_⟩
  obtain⟨z,hz,rfl⟩:=aQ hy
  obtain⟨g1,_,_,_,g5,_⟩:=hf hz
  obtain⟨r1,r2,r3⟩:=q3 k z hk1 hk2 hz
  refine⟨by rw[g1];exact r1,fun t ht h7=>?_,fun h4=>?_⟩
  ·rcases g5 t ht with h'|⟨n,rfl⟩
   ·obtain⟨f,hf1,hf2⟩:=r2 t h' h7
    exact⟨f,by rw[ha.findN];exact hf1,by rw[ha.argsN];exact hf2⟩
   ·exact absurd h7 (show ¬(0:Int)=7 by decide)
  ·rw[g1]at h4
   obtain⟨i,i1,i2,i3⟩:=r3 h4
   exact⟨i,i1,i2,by rw[ha.elseAt];exact i3⟩
end Go.Proofs.YtoglejgmjeojoaaGreat
namespace Go.Proofs.YtoglejgmjeojoaaGreat
open Go.Sim
set_option maxRecDepth 100000
set_option maxHeartbeats 4000000
abbrev iv (x:Sc)(lv:List Int):List DC:=[.d (.int .i64 (x.f:Int)),.t (.lst 1 (x.chain.map ab)),.t (.lst 1 (x.locals.map ag)),.d (.int .i64 x.first),.d (.bool x.outer),.d (.lst (if x.outer=true then 0 else 1) (lv.map ab))]
abbrev scV (x:Sc):AV:= .r (.agg [.t (.int .i64 (x.f:Int)),.t (.lst 1 (x.chain.map ab)),.t (.lst 1 (x.locals.map ag)),.t (.int .i64 x.first),.t (.bool x.outer),.opq])
abbrev sQ (l:List Int):AV:= .r (.c (.t (.lst 1 (l.map ab))))
abbrev itR (l:List CL):List (List DC):=ae (l.map CL.tr)
abbrev md (C:Cx)(s:Gs)(d:Int)(i1 i2:Sim.Id):AO:= .box [.t (.lst 4 (C.p.map CM.tr)),.t (.int .i64 C.b.fan),.t (.int .i64 C.b.fag),.t (.bool C.b.faq),.t (.bool C.b.far),.t (.bool C.framed),.t (.int .i64 C.words),.t (.int .i64 s.most),.t (.int .i64 C.args),.t (.int .i64 d),.own i1,.own i2,.t (.bool s.start)]
abbrev eM (i1 i2:Sim.Id)(C:Cx)(s:Gs)(d:Int)(S:List (List DC)):List (Sim.Id×AO):=[((0,0,0),md C s d i1 i2),(i1,.dar 7 (itR s.items) none),(i2,.dar 6 S none)]
abbrev cr:AV:= .r (.c (.ptr (0,0,0) 0))
theorem fK (l:List CL):(itR l).length=l.length:=by rw[itR,aB,List.length_map]
theorem wz (l:List CL)(x:CL):itR (l++[x])=itR l++[x.tr.map .d]:=by simp[itR,ae]
def bc (s:Gs):Prop:=s.items.length≤68719476736
theorem bt (C:Cx)(s:Gs)(d:Int)(S:List (List DC))(code arg line:Int)(chain:List Int)(h1:bc s)(h2:chain.length≤100):bp Tryz.prog 197 [cr,tI .i64 code,tI .i64 arg,tI .i64 line,sQ chain] (eM (0,0,1) (0,0,2) C s d S) (.tup []) (eM (1,0,1) (0,0,2) C (an C s d code arg line chain) d S):=by
 refine ax hΓ aq Tryz.func197 rfl (by decide) rfl rfl ?_
 unfold bc at h1
 have hlen:=fK s.items
 have hcl:(chain.map ab).length=chain.length:=by simp
 have hfl:=dY chain
 repeat' ((conv=>whnf);first|apply Wx|apply W6|apply oi|(apply fi<;>intro h)|refine⟨_,rfl,?_⟩|exact rfl)
 all_goals try exact⟨KP⟩
 all_goals try exact⟨⟨by rw[hlen];(try dsimp only);omega,by rw[hlen];(try dsimp only);omega⟩⟩
 all_goals try exact⟨⟨by simp <;> omega,by simp <;> omega⟩⟩
 all_goals try exact⟨by simpa using hfl⟩
 all_goals(refine⟨?_⟩;(try rw[hlen]at *);rw[an,wz];congr 1;simp_all[iW,CL.tr])
theorem mS (C:Cx)(hC:CxOk C)(s:Gs)(d:Int)(S:List (List DC))(x:Sc)(i:Int)(store:Bool)(hd:-2000≤d∧d≤2000)(hx:0≤x.first∧x.first≤1000)(hi:-2≤i∧i≤100):bp Tryz.prog 262 [cr,scV x,tI .i64 i,tB store] (eM (0,0,1) (0,0,2) C s d S) (.tup [.c (.t (.int .i64 (bF C store))),.c (.t (.int .i64 (ca C x d i)))]) (eM (0,0,1) (0,0,2) C s d S):=by
 refine ax hΓ aq Tryz.func262 rfl (by decide) rfl rfl ?_
 obtain⟨a1,a2⟩:=hC.args
 repeat' ((conv=>whnf);first|apply Wx|apply W6|apply oi|(apply fi<;>intro h)|refine⟨_,rfl,?_⟩|exact rfl)
 all_goals try exact⟨KP⟩
 all_goals try(exfalso;simp_all;done)
 all_goals(refine⟨congrArg (Tr.int _) ?_⟩;(try unfold bF);(try unfold ca iG dD);(try simp(disch:=omega)only[IntWalk.i64_in]);simp_all <;> omega)
theorem vK (C:Cx)(hC:CxOk C)(s:Gs)(d:Int)(S:List (List DC))(x:Sc)(i line:Int)(h1:bc s)(h2:x.chain.length≤100)(hd:-1000≤d∧d≤1999)(hx:0≤x.first∧x.first≤1000)(hi:-2≤i∧i≤100):bp Tryz.prog 259 [cr,scV x,tI .i64 i,tI .i64 line] (eM (0,0,1) (0,0,2) C s d S) (.tup []) (eM (1,0,1) (0,0,2) C (xT C x s d i line) (d+1) S):=by
 refine ax hΓ aq Tryz.func259 rfl (by decide) rfl rfl ?_
 have g1:=mS C hC s d S x i false (by omega) hx hi
 have g2:=bt C s d S (bF C false) (ca C x d i) line x.chain h1 h2
 repeat' ((conv=>whnf);first|apply Wx|apply W6|apply oi|(apply fi<;>intro h)|refine⟨_,rfl,?_⟩|exact rfl)
 all_goals try exact⟨KP⟩
 refine cg (g1) ?_
 repeat' ((conv=>whnf);first|apply Wx|apply W6|apply oi|(apply fi<;>intro h)|refine⟨_,rfl,?_⟩|exact rfl)
 all_goals try exact⟨KP⟩
 refine cg (g2) ?_
 repeat' ((conv=>whnf);first|apply Wx|apply W6|apply oi|(apply fi<;>intro h)|refine⟨_,rfl,?_⟩|exact rfl)
 all_goals try exact⟨KP⟩
 all_goals try exact⟨KW⟩
theorem iZ (C:Cx)(hC:CxOk C)(s:Gs)(d:Int)(S:List (List DC))(x:Sc)(i line:Int)(chain:List Int)(h1:bc s)(h2:chain.length≤100)(hd:-1000≤d∧d≤2000)(hx:0≤x.first∧x.first≤1000)(hi:-2≤i∧i≤100):bp Tryz.prog 245 [cr,scV x,tI .i64 i,tI .i64 line,sQ chain] (eM (0,0,1) (0,0,2) C s d S) (.tup []) (eM (1,0,1) (0,0,2) C (cQ C x s d i line chain) (d - 1) S):=by
 refine ax hΓ aq Tryz.func245 rfl (by decide) rfl rfl ?_
 have g1:=mS C hC s d S x i true (by omega) hx hi
 have g2:=bt C s d S (bF C true) (ca C x d i) line chain h1 h2
 repeat' ((conv=>whnf);first|apply Wx|apply W6|apply oi|(apply fi<;>intro h)|refine⟨_,rfl,?_⟩|exact rfl)
 all_goals try exact⟨KP⟩
 refine cg (g1) ?_
 repeat' ((conv=>whnf);first|apply Wx|apply W6|apply oi|(apply fi<;>intro h)|refine⟨_,rfl,?_⟩|exact rfl)
 all_goals try exact⟨KP⟩
 refine cg (g2) ?_
 repeat' ((conv=>whnf);first|apply Wx|apply W6|apply oi|(apply fi<;>intro h)|refine⟨_,rfl,?_⟩|exact rfl)
 all_goals try exact⟨KP⟩
 all_goals try exact⟨KW⟩
theorem gZ (C:Cx)(s:Gs)(d:Int)(S:List (List DC))(v line:Int)(chain:List Int)(h1:bc s)(h2:chain.length≤100)(hd:-1000≤d∧d≤1999):bp Tryz.prog 242 [cr,tI .i64 v,tI .i64 line,sQ chain] (eM (0,0,1) (0,0,2) C s d S) (.tup []) (eM (1,0,1) (0,0,2) C (an C s d 0 v line chain) (d+1) S):=by
 refine ax hΓ aq Tryz.func242 rfl (by decide) rfl rfl ?_
 have g2:=bt C s d S 0 v line chain h1 h2
 repeat' ((conv=>whnf);first|apply Wx|apply W6|apply oi|(apply fi<;>intro h)|refine⟨_,rfl,?_⟩|exact rfl)
 all_goals try exact⟨KP⟩
 refine cg (g2) ?_
 repeat' ((conv=>whnf);first|apply Wx|apply W6|apply oi|(apply fi<;>intro h)|refine⟨_,rfl,?_⟩|exact rfl)
 all_goals try exact⟨KP⟩
 all_goals try exact⟨KW⟩
abbrev scH (l:List (Sc×List Int)):List (List DC):=l.map fun y=>iv y.1 y.2
theorem mD (C:Cx)(hC:CxOk C)(s:Gs)(d:Int)(S:List (Sc×List Int))(x:Sc)(lv:List Int)(k:Nat)(last:Bool)(h1:bc s)(h2:x.chain.length≤100)(hd:-1000≤d∧d≤2000)(hS:S.length≤100)(hlv:lv.length≤68719476736)(hd p:List Int):
  bp Tryz.prog 243 [cr,tI .i64 (k:Int),tB last] (eM (0,0,1) (0,0,2) C s d (scH (S++[(x,lv)]))) (.tup []) (eM (1,0,1) (1,0,2) C (aH C x k last d ⟨s,hd,p,lv⟩).g (d - 1) (scH (S++[(x,(aH C x k last d ⟨s,hd,p,lv⟩).lv)]))):=by
 refine ax hΓ aq Tryz.func243 rfl (by decide) rfl rfl ?_
 obtain⟨f,chain,locals,first,outer⟩:=x
 have hlen:=fK s.items
 have hsl:(scH (S++[(⟨f,chain,locals,first,outer⟩,lv)])).length=S.length+1:=by simp
 have hrow:(scH (S++[(⟨f,chain,locals,first,outer⟩,lv)]))[S.length]?=some (iv ⟨f,chain,locals,first,outer⟩ lv):=by simp
 have hw:IntKind.i64.wrap (((scH (S++[(⟨f,chain,locals,first,outer⟩,lv)])).length:Int) - 1)=(S.length:Int):=by rw[hsl,IntWalk.i64_in _ (by omega)];omega
 have hfl:=dY lv
 have hfl2:=dY (lv++[(s.items.length:Int)])
 have hlt:S.length < (scH (S++[(⟨f,chain,locals,first,outer⟩,lv)])).length:=by omega
 have hll:(lv.map ab).length=lv.length:=by simp
 unfold bc at h1
 cases outer with
 | false=>
  cases last with
  | true=>
   have e:aH C ⟨f,chain,locals,first,false⟩ k true d ⟨s,hd,p,lv⟩=⟨s,hd,p,lv⟩:=by simp[aH]
   rw[e]
   repeat' ((conv=>whnf);first|apply Wx|apply W6|apply oi|(apply fi<;>intro h)|refine⟨S.length,hw,hlt,?_⟩|refine⟨_,hrow,?_⟩|refine⟨_,rfl,?_⟩|exact rfl)
   all_goals try exact⟨KP⟩
   all_goals try exact⟨KW⟩
   all_goals(exfalso;simp_all;done)
  | false=>
   have e:aH C ⟨f,chain,locals,first,false⟩ k false d ⟨s,hd,p,lv⟩=⟨an C s d 10 0 k chain,hd,p,lv++[(s.items.length:Int)]⟩:=by simp[aH]
   rw[e]
   have g:=bt C s d ((scH (S++[(⟨f,chain,locals,first,false⟩,lv)])).set S.length [.d (.int .i64 (f:Int)),.t (.lst 1 (chain.map ab)),.t (.lst 1 (locals.map ag)),.d (.int .i64 first),.d (.bool false),.d (.lst 1 (lv.map ab++[[.int .i64 ((itR s.items).length:Int)]]))]) 10 0 k chain h1 h2
   repeat' ((conv=>whnf);first|apply Wx|apply W6|refine cg g ?_|apply oi|(apply fi<;>intro h)|refine⟨S.length,hw,hlt,?_⟩|refine⟨_,hrow,?_⟩|refine⟨_,(List.getElem?_set_self hlt),?_⟩|refine⟨_,rfl,?_⟩|exact rfl)
   all_goals try exact⟨KP⟩
   all_goals try exact⟨hfl⟩
   all_goals try exact⟨⟨by rw[hll];(try dsimp only);simp <;> omega,by rw[hll];(try dsimp only);simp <;> omega⟩⟩
   all_goals try exact⟨by rw[hlen];first|(simp[ab];done)|simpa [ab]using hfl2⟩
   all_goals try exact⟨KW⟩
   all_goals try(exfalso;simp_all;done)
   all_goals(refine⟨?_⟩;rw[hlen];simp[List.set_append,ab])
 | true=>
  have g1:=bt C s d (scH (S++[(⟨f,chain,locals,first,true⟩,lv)])) 14 C.args k chain h1 h2
  have g2:=bt C s d (scH (S++[(⟨f,chain,locals,first,true⟩,lv)])) 16 (C.args+16 * C.words) k chain h1 h2
  obtain⟨a1,a2⟩:=hC.args
  obtain⟨a3,a4⟩:=hC.words
  have e2:IntKind.i64.wrap (C.args+IntKind.i64.wrap (16 * C.words))=C.args+16 * C.words:=by simp(disch:=omega)only[IntWalk.i64_in]
  rw[←e2]at g2
  cases hf:C.framed with
  | true=>
   have e:aH C ⟨f,chain,locals,first,true⟩ k last d ⟨s,hd,p,lv⟩=⟨an C s d 14 C.args k chain,hd,p,lv⟩:=by simp[aH,hf]
   rw[e]
   repeat' ((conv=>whnf);first|apply Wx|apply W6|refine cg g1 ?_|apply oi|(apply fi<;>intro h)|refine⟨S.length,hw,hlt,?_⟩|refine⟨_,hrow,?_⟩|refine⟨_,rfl,?_⟩|exact rfl)
   all_goals try exact⟨KP⟩
   all_goals try exact⟨KW⟩
   all_goals(exfalso;simp_all;done)
  | false=>
   have e:aH C ⟨f,chain,locals,first,true⟩ k last d ⟨s,hd,p,lv⟩=⟨an C s d 16 (IntKind.i64.wrap (C.args+IntKind.i64.wrap (16 * C.words))) k chain,hd,p,lv⟩:=by simp[aH,hf,e2]
   rw[e]
   repeat' ((conv=>whnf);first|apply Wx|apply W6|refine cg g2 ?_|apply oi|(apply fi<;>intro h)|refine⟨S.length,hw,hlt,?_⟩|refine⟨_,hrow,?_⟩|refine⟨_,rfl,?_⟩|exact rfl)
   all_goals try exact⟨KP⟩
   all_goals try exact⟨KW⟩
   all_goals(exfalso;simp_all;done)
abbrev kF (e:Int×Int):List Tr:=[.int .i64 e.1,.int .i64 e.2]
theorem yP {l:List CL}{j:Nat}{x:CL}(h:l[j]?=some x)(v:Int):bx l (j:Int) v=l.set j ⟨⟨x.fae.fah,v⟩,x.fam,x.fai,x.faj,x.fao,x.fap⟩:=by
 rw[bx,if_pos (by omega),Int.toNat_natCast,h]
theorem fW {l:List CL}{j:Nat}{x:CL}(h:l[j]?=some x)(v:Int):itR (bx l (j:Int) v)=(itR l).set j [.d (.int .i64 x.fae.fah),.d (.int .i64 v),.d (.int .i64 x.fam),.d (.bool x.fai),.d (.lst 1 (x.faj.map ab)),.d (.int .i64 x.fao),.d (.bool x.fap)]:=by
 rw[yP h]
 simp[ae,List.map_set,CL.tr]
theorem dM {l:List CL}{j:Nat}{x:CL}(h:l[j]?=some x):(itR l)[j]?=some (x.tr.map .d):=ey (aa h)
theorem nT (C:Cx)(s:Gs)(d:Int)(S:List (List DC))(E:List (Int×Int))(to:Int)(h1:bc s)(hE:E.length≤100)(hin:∀e∈E,0≤e.2∧e.2 < s.items.length):
  bp Tryz.prog 241 [cr,.r (.c (.own (0,1,0))),tI .i64 to] (eM (0,0,1) (0,0,2) C s d S++[((0,1,0),.arr false 2 (E.map kF))]) (.tup []) (eM (0,0,1) (0,0,2) C ⟨cu s.items s.items.length to E,s.most,s.start⟩ d S++[((0,1,0),.arr false 2 (E.map kF))]):=by
 refine ax hΓ aq Tryz.func241 rfl (by decide) rfl rfl ?_
 have hEl:(E.map kF).length=E.length:=by simp
 unfold bc at h1
 repeat' ((conv=>whnf);first|apply Wx|apply W6|apply oi|(apply fi<;>intro h)|refine⟨_,rfl,?_⟩|exact rfl)
 all_goals try exact⟨KP⟩
 conv=>whnf
 refine⟨{k:Nat // k≤E.length},fun q=>⟨[(0,cr),(1,.r (.c (.own (0,1,0)))),(2,tI .i64 to),(6,tI .i64 (q.1:Int))],[((0,0,0),some (md C s d (0,0,1) (0,0,2))),((0,0,1),some (.dar 7 (itR (cu s.items s.items.length to (E.take q.1))) none)),((0,0,2),some (.dar 6 S none)),((0,1,0),some (.arr false 2 (E.map kF)))],[0]⟩,fun q=>E.length - q.1,⟨0,by omega⟩,?_,?_⟩
 ·skip
  repeat' ((conv=>whnf);first|apply Wx|apply W6|apply oi|(apply fi<;>intro h)|refine⟨_,rfl,?_⟩|exact rfl)
  all_goals try exact⟨KP⟩
 intro⟨k,hk⟩
 dsimp only at hk ⊢
 have hpl:=sm s.items.length to (E.take k) s.items
 have hil:(itR (cu s.items s.items.length to (E.take k))).length=s.items.length:=by rw[fK,hpl]
 by_cases hlt:k < E.length
 ·obtain⟨e,he⟩:=af hlt
  obtain⟨i1,i2⟩:=hin e (List.mem_of_getElem? he)
  obtain⟨j,hj⟩:=Int.eq_ofNat_of_zero_le i1
  have hjl:j < (itR (cu s.items s.items.length to (E.take k))).length:=by rw[hil];omega
  obtain⟨x,hx⟩:=af (l:=cu s.items s.items.length to (E.take k)) (k:=j) (by rw[hpl];omega)
  have hkl:k < (E.map kF).length:=by rw[hEl];exact hlt
  have hnext:E.take (k+1)=E.take k++[e]:=by rw[List.take_add_one,he];rfl
  have hps:=vc s.items.length to e (E.take k) s.items
  repeat' ((conv=>whnf);first|apply Wx|apply W6|apply oi|(apply fi<;>intro h)|refine⟨k,rfl,hkl,?_⟩|refine⟨kF e,(aa he),?_⟩|refine⟨j,hj,hjl,?_⟩|refine⟨_,(dM hx),?_⟩|refine⟨_,rfl,?_⟩|exact rfl)
  all_goals try exact⟨KP⟩
  all_goals try exact KX
  all_goals(conv=>whnf)
  all_goals(refine⟨⟨k+1,by omega⟩,?_,KD⟩)
  repeat' ((conv=>whnf);first|apply Wx|apply W6|apply oi|(apply fi<;>intro h)|refine⟨_,rfl,?_⟩|exact rfl)
  all_goals try exact⟨KP⟩
  all_goals try exact⟨KW⟩
  all_goals(refine⟨?_⟩;(try rw[hil]);rw[hnext,hps])
  ·rw[if_pos (by simpa using h),hj,fW hx];rfl
  ·rw[if_neg (by simpa using h)]
 ·skip
  repeat' ((conv=>whnf);first|apply Wx|apply W6|apply oi|(apply fi<;>intro h)|refine⟨_,rfl,?_⟩|exact rfl)
  all_goals try exact⟨KP⟩
  all_goals try exact KX
  all_goals(refine⟨?_⟩;rw[List.take_of_length_le (by omega)])
abbrev bz (S:List (Sc×List Int)):List Nat:=S.map fun y=>y.1.f
theorem pJ (C:Cx)(hC:CxOk C)(s:Gs)(d:Int)(S:List (Sc×List Int))(g:Nat)(h1:bc s)(hS:1≤S.length∧S.length≤100)(hg:g < C.p.length):
  bp Tryz.prog 260 [cr,tI .i64 (g:Int)] (eM (0,0,1) (0,0,2) C s d (scH S)) (tB (bI C (bz S) g s.items.length)) (eM (0,0,1) (0,0,2) C s d (scH S)):=by
 refine ax hΓ aq Tryz.func260 rfl (by decide) rfl rfl ?_
 unfold bc at h1
 have hlen:=fK s.items
 have hsl:(scH S).length=S.length:=by simp
 have hpl:(C.p.map CM.tr).length=C.p.length:=by simp
 have hE:=cm C.p (g:Int) (by have:=hC.len;omega)
 have hil:(bz S).length=S.length:=by simp
 have h60:=hC.len
 have hin:=hC.inl
 have hee:-1≤aY C.p (g:Int)∧aY C.p (g:Int)≤60:=by
  rw[aV]
  cases he:endAt C.p g with
  | none=>simp[bS]
  | some e=>have:=au he;obtain⟨_,_,_,_,_,h⟩:=this;simp only[bS];omega
 unfold bI
 rw[hil]
 generalize aY C.p (g:Int)=eg at *
 have hw1:IntKind.i64.wrap (((scH S).length:Int) - 1)=(S.length:Int) - 1:=by rw[hsl,IntWalk.i64_in _ (by omega)]
 have hw2:IntKind.i64.wrap (eg - (g:Int))=eg - g:=by rw[IntWalk.i64_in _ (by omega)]
 repeat' ((conv=>whnf);first|apply Wx|apply W6|apply oi|(apply fi<;>intro h)|refine cl hE ?_|refine⟨_,rfl,?_⟩|exact rfl)
 all_goals try exact⟨KP⟩
 all_goals try(refine⟨congrArg Tr.bool ?_⟩;(try rw[hw1]at h);(try rw[hw2]at h);(try rw[hlen]at h);simp only[decide_eq_true_eq]at h;symm;simp only[Bool.and_eq_false_iff,decide_eq_false_iff_not];omega)
 conv=>whnf
 refine⟨{k:Nat // k≤S.length∧((bz S).take k).contains g=false},fun q=>⟨[(0,cr),(1,tI .i64 (g:Int)),(5,tI .i64 (q.1:Int))],(eM (0,0,1) (0,0,2) C s d (scH S)).map (fun p=>(p.1,some p.2)),[0]⟩,fun q=>S.length - q.1,⟨0,by omega,by simp⟩,?_,?_⟩
 ·skip
  repeat' ((conv=>whnf);first|apply Wx|apply W6|apply oi|(apply fi<;>intro h)|refine⟨_,rfl,?_⟩|exact rfl)
  all_goals try exact⟨KP⟩
 rename_i ha hb
 rw[hw1]at ha
 rw[hw2]at hb
 rw[hlen]at h
 simp only[decide_eq_false_iff_not]at ha hb h
 have hfin:∀c:Bool,(decide ((S.length:Int)≤C.b.fag) && (decide (eg - (g:Int)≤9) && (decide (s.items.length < 200) && !c)))= !c:=fun c=>by
  rw[decide_eq_true (by omega),decide_eq_true (by omega),decide_eq_true (by omega)];rfl
 rw[hfin]
 clear hfin
 intro⟨k,hk,hno⟩
 dsimp only at hk hno ⊢
 by_cases hlt:k < S.length
 ·obtain⟨y,hy⟩:=af hlt
  have hyr:(scH S)[k]?=some (iv y.1 y.2):=by simp[hy]
  have hkl:k < (scH S).length:=by omega
  have hnext:(bz S).take (k+1)=(bz S).take k++[y.1.f]:=by rw[List.take_add_one,List.getElem?_map,hy];rfl
  have hmem:y.1.f∈bz S:=List.mem_map.2 ⟨y,List.mem_of_getElem? hy,rfl⟩
  repeat' ((conv=>whnf);first|apply Wx|apply W6|apply oi|(apply fi<;>intro h)|refine⟨k,rfl,hkl,?_⟩|refine⟨_,hyr,?_⟩|refine⟨_,rfl,?_⟩|exact rfl)
  all_goals try exact⟨KP⟩
  all_goals try exact KX
  ·refine⟨congrArg Tr.bool ?_⟩
   have e:y.1.f=g:=by have:=eq_of_beq h;omega
   rw[←e,List.contains_iff_mem.2 hmem]
   rfl
  ·conv=>whnf
   refine⟨⟨k+1,by omega,?_⟩,?_,KD⟩
   ·have e:g≠y.1.f:=fun e=>by rw[←e]at h;simp at h
    rw[hnext,List.contains_eq_any_beq,List.any_append,←List.contains_eq_any_beq,hno]
    simp[e]
   repeat' ((conv=>whnf);first|apply Wx|apply W6|apply oi|(apply fi<;>intro h)|refine⟨_,rfl,?_⟩|exact rfl)
   all_goals try exact⟨KP⟩
   all_goals try exact⟨KW⟩
 ·skip
  repeat' ((conv=>whnf);first|apply Wx|apply W6|apply oi|(apply fi<;>intro h)|refine⟨_,rfl,?_⟩|exact rfl)
  all_goals try exact⟨KP⟩
  all_goals try exact KX
  rw[List.take_of_length_le (by omega)]at hno
  exact⟨by rw[hno];rfl⟩
def kT (C:Cx)(l:List CU):Prop:=∀t∈l,t.faa=7→∃f,findN C.p 0 t.fab=some f∧(argsN C.p f:Int)=t.faf
structure Rm (C:Cx) (lev n:Nat) (S:Nat) (s:Gs) (d:Int):Prop where
 room:s.items.length+n * bG lev≤68719476736
 depth:((lev+S:Nat):Int)=C.b.fag
 low:0≤d
 high:d+(n:Int)+100 * (lev:Int)≤1900
def Cs (C:Cx)(lev:Nat):Prop:=∀(e:Ex) (x:Sc) (S:List (Sc×List Int)) (lv:List Int) (k p:Nat) (ln:CM) (s:Gs) (d:Int),e.ok→ScOk C x (bz (S++[(x,lv)]))→C.p[k]?=some ln→eB ln.fac p e→kT C ln.fac→Rm C lev e.toks.length S.length s d→
 bp Tryz.prog 244 [cr,tI .i64 (k:Int),tI .i64 (p:Int)] (eM (0,0,1) (0,0,2) C s d (scH (S++[(x,lv)]))) (tI .i64 ((p+e.toks.length:Nat):Int)) (eM (1,0,1) (1,0,2) C (dh C (aL C lev) x (bz (S++[(x,lv)])) k e d s) (d+1) (scH (S++[(x,lv)])))
def Ab (C:Cx)(lev:Nat):Prop:=∀(x:Sc) (S:List (Sc×List Int)) (lv:List Int) (k g:Nat) (s:Gs) (d:Int),ScOk C x (bz (S++[(x,lv)]))→k < C.p.length→bl C g→bI C (bz (S++[(x,lv)])) g s.items.length=true→Rm C lev 1 S.length s (d - argsN C.p g)→
 bp Tryz.prog 261 [cr,tI .i64 (g:Int),tI .i64 (k:Int),scV x] (eM (0,0,1) (0,0,2) C s d (scH (S++[(x,lv)]))) (.tup []) (eM (1,0,1) (1,0,2) C (aL C lev x (bz (S++[(x,lv)])) k g d s) (d - argsN C.p g+1) (scH (S++[(x,lv)])))
theorem iC {α:Type}[BEq α](l:List α)(s:α):-1≤ct l s∧ct l s≤l.length:=by
 unfold ct
 cases h:ia l 0 s with
 | none=>simp only[bS];omega
 | some k=>have:=sR h;simp only[bS];omega
theorem iU {C:Cx}(hC:CxOk C){k:Nat}{ln:CM}(hk:C.p[k]?=some ln):cP ln.fac∧ln.fab.length≤1048576:=by
 obtain⟨h1,_,_,_,h5⟩:=cd (aC hC.small (List.mem_of_getElem? hk))
 exact⟨fun t ht=>by have:=h5 t ht;omega,h1⟩
theorem wh (p:List CM)(g:Nat):jN p g≤g:=by
 unfold jN
 have h1:=List.length_filter_le (fun x:CM=>x.faa==0) (p.take g)
 have h2:=List.length_take_le g p
 omega
theorem wN {p:List CM}{i:Nat}{x:CM}(hx:p[i]?=some x):jN p (i+1)=jN p i+if x.faa=0 then 1 else 0:=by
 unfold jN
 rw[List.take_add_one,hx,List.filter_append,List.length_append]
 by_cases h:x.faa=0
 ·simp[h]
 ·simp[h]
theorem vQ {C:Cx}(hC:CxOk C){lev:Nat}(hR:Ab C lev):∀(n:Nat) (e:Ex),e.toks.length≤n→∀(x:Sc) (S:List (Sc×List Int)) (lv:List Int) (k p:Nat) (ln:CM) (s:Gs) (d:Int),e.ok→ScOk C x (bz (S++[(x,lv)]))→C.p[k]?=some ln→eB ln.fac p e→kT C ln.fac→Rm C lev e.toks.length S.length s d→
  bp Tryz.prog 244 [cr,tI .i64 (k:Int),tI .i64 (p:Int)] (eM (0,0,1) (0,0,2) C s d (scH (S++[(x,lv)]))) (tI .i64 ((p+e.toks.length:Nat):Int)) (eM (1,0,1) (1,0,2) C (dh C (aL C lev) x (bz (S++[(x,lv)])) k e d s) (d+1) (scH (S++[(x,lv)])))
 | 0,e,hn,_,_,_,_,_,_,_,_,_,_,_,_,_,_=>by have:=e.toks_pos;omega
 | n+1,.node t es,hn,x,S,lv,k,p,ln,s,d,ho,hx,hk,hs,hca,hr=>by
  refine ax hΓ aq Tryz.func244 rfl (by decide) rfl rfl ?_
  obtain⟨hsh,hnm⟩:=iU hC hk
  have hle:=eb hs
  obtain⟨ht,hsa⟩:=eO hs
  obtain⟨e1,e2⟩:=nJ ho.1
  have hel:es.length=ar t:=ho.2.1
  have hA:=jC t (hsh t (List.mem_of_getElem? ht))
  rw[e1,←hel]at hA
  have h60:=hC.len
  have h20:=(hC.line _ _ hk).2.2.2.1
  have hsl:(scH (S++[(x,lv)])).length=S.length+1:=by simp
  have hrow:(scH (S++[(x,lv)]))[S.length]?=some (iv x lv):=by simp
  have hlt:S.length < (scH (S++[(x,lv)])).length:=by omega
  have hr1:=hr.room
  have hr2:=hr.depth
  have hr3:=hr.low
  have hr4:=hr.high
  have hin:=hC.inl
  have hw:IntKind.i64.wrap (((scH (S++[(x,lv)])).length:Int) - 1)=(S.length:Int):=by rw[hsl,IntWalk.i64_in _ (by omega)];omega
  have htp:=rd lev
  rw[Ex.toks,List.length_cons]at hn hle hr1 hr4
  rw[dh]
  repeat' ((conv=>whnf);first|apply Wx|apply W6|apply oi|(apply fi<;>intro h)|refine⟨S.length,hw,hlt,?_⟩|refine⟨_,hrow,?_⟩|refine⟨k,ln.tr,rfl,aa hk,?_⟩|refine⟨p,t.tr,rfl,aa ht,?_⟩|refine cl hA ?_|refine⟨_,rfl,?_⟩|exact rfl)
  all_goals try exact⟨KP⟩
  conv=>whnf
  refine⟨{j:Nat // j≤es.length},fun q=>⟨[(0,cr),(1,tI .i64 (k:Int)),(2,tI .i64 ((p+1+(ak (es.take q.1)).length:Nat):Int)),(9,tI .i64 ((es.length - q.1:Nat):Int)),(7,.r (.c (.ptr (7,0,0) 0))),(8,.r (.c (.ptr (8,0,0) 0)))],
   [(
    (0,0,0),some (md C (cD C (aL C lev) x (bz (S++[(x,lv)])) k (es.take q.1) d s) (d+q.1) (7,0,1) (7,0,2))),((7,0,1),some (.dar 7 (itR (cD C (aL C lev) x (bz (S++[(x,lv)])) k (es.take q.1) d s).items) none)),((7,0,2),some (.dar 6 (scH (S++[(x,lv)])) none)),
    ((7,0,0),some (.box [.t (.int .i64 (x.f:Int)),.t (.lst 1 (x.chain.map ab)),.t (.lst 1 (x.locals.map ag)),.t (.int .i64 x.first),.t (.bool x.outer),.opq])),((8,0,0),some (.box (t.tr.map .t)))],[8,7,0]⟩,fun q=>es.length - q.1,⟨0,by omega⟩,?_,?_⟩
  ·skip
   repeat' ((conv=>whnf);first|apply Wx|apply W6|apply oi|(apply fi<;>intro h)|refine⟨_,rfl,?_⟩|exact rfl)
   all_goals try exact⟨KP⟩
   ·exact⟨congrArg (Tr.int _) (by rw[IntWalk.i64_in _ (by omega)];simp[ak])⟩
   ·exact⟨congrArg (Tr.int _) (by simp)⟩
  intro⟨j,hj⟩
  dsimp only at hj ⊢
  have hgr:=jy (C:=C) (x:=x) (ins:=bz (S++[(x,lv)])) (line:=k) (lev:=lev) (fun g d s hg hr=>cq hC lev k g d s hx hg hr) (es.take j) d s
  have hg2:=hgr.le
  have htk:=cy es j
  obtain⟨s1,hs1⟩:∃s1,cD C (aL C lev) x (bz (S++[(x,lv)])) k (es.take j) d s=s1:=⟨_,rfl⟩
  rw[hs1]at hgr hg2 ⊢
  by_cases hlj:j < es.length
  ·obtain⟨a,ha⟩:=af hlj
   have hta:=fD ha
   have htk2:=cy es (j+1)
   have hal:=fV ha
   have hjt:j≤(ak (es.take j)).length:=by
    have:∀(l:List Ex),l.length≤(ak l).length:=by
     intro l
     induction l with
     | nil=>simp
     | cons b l ih=>have:=b.toks_pos;rw[ak,List.length_append,List.length_cons];omega
    have h2:=this (es.take j)
    rw[List.length_take]at h2
    omega
   have hm:=Nat.mul_le_mul_right (bG lev) (show(ak (es.take j)).length+a.toks.length≤(ak es).length+1 by omega)
   rw[Nat.add_mul]at hm
   have hI:=vQ hC hR n a (by omega) x S lv k (p+1+(ak (es.take j)).length) ln s1 (d+j) (iw ho.2.2 ha) hx hk (pl hsa ha) hca ⟨by omega,hr2,by omega,by omega⟩
   have hnext:=mA C (aL C lev) x (bz (S++[(x,lv)])) k d s ha
   rw[hs1]at hnext
   repeat' ((conv=>whnf);first|apply Wx|apply W6|apply oi|(apply fi<;>intro h)|refine⟨_,rfl,?_⟩|exact rfl)
   all_goals try exact⟨KP⟩
   all_goals try exact KX
   refine cg (hI) ?_
   repeat' ((conv=>whnf);first|apply Wx|apply W6|apply oi|(apply fi<;>intro h)|refine⟨_,rfl,?_⟩|exact rfl)
   all_goals try exact⟨KP⟩
   conv=>whnf
   refine⟨⟨j+1,by omega⟩,?_,KD⟩
   repeat' ((conv=>whnf);first|apply Wx|apply W6|apply oi|(apply fi<;>intro h)|refine⟨_,rfl,?_⟩|exact rfl)
   all_goals try exact⟨KP⟩
   all_goals try exact⟨by dsimp only;rw[hnext]⟩
   all_goals try exact⟨KW⟩
  ·have hje:j=es.length:=by omega
   subst hje
   rw[List.take_length]at hs1 hg2 htk ⊢
   have hT:(Ex.node t es).toks.length=(ak es).length+1:=by rw[Ex.toks,List.length_cons]
   rw[hs1]
   have hroom:s1.items.length+bG lev≤68719476736:=by
    have:((ak es).length+1) * bG lev=(ak es).length * bG lev+bG lev:=by rw[Nat.add_mul];omega
    omega
   have hch:x.chain.length≤100:=by
    have:=hx.chain
    rw[show(bz (S++[(x,lv)])).length=S.length+1 by simp]at this
    omega
   have hro:bc s1:=by unfold bc;omega
   obtain⟨k1,k2,k3⟩:=yi ho.1
   have htl:=hsh t (List.mem_of_getElem? ht)
   have hxf:0≤x.first∧x.first≤1000:=by
    have:=hx.first
    rw[show(bz (S++[(x,lv)])).length=S.length+1 by simp]at this
    omega
   obtain⟨ee,_,_,_,_,hll⟩:=hx.endE hC
   rcases tz ho.1 with hk0|hk1|hk7|hk26
   ·have g1:=gZ C s1 (d+es.length) (scH (S++[(x,lv)])) t.faf k x.chain hro hch (by omega)
    have hz:=k1 (.inl hk0)
    unfold gq
    rw[if_pos hk0]
    repeat' ((conv=>whnf);first|apply Wx|apply W6|refine cg g1 ?_|apply oi|(apply fi<;>intro h)|refine⟨_,rfl,?_⟩|exact rfl)
    all_goals try exact⟨KP⟩
    all_goals try exact KX
    all_goals try exact⟨KW⟩
    all_goals try exact KK
   ·have g1:=vK C hC s1 (d+es.length) (scH (S++[(x,lv)])) x (ct x.locals t.fab) k hro hch (by omega) hxf (by have:=iC x.locals t.fab;omega)
    have gI:=dN x.locals t.fab (by omega)
    have hz:=k1 (.inr hk1)
    unfold gq
    rw[if_neg (by omega),if_pos hk1]
    generalize ct x.locals t.fab=ix at *
    repeat' ((conv=>whnf);first|apply Wx|apply W6|refine cg g1 ?_|apply oi|(apply fi<;>intro h)|refine cl gI ?_|refine⟨_,rfl,?_⟩|exact rfl)
    all_goals try exact⟨KP⟩
    all_goals try exact KX
    all_goals try exact⟨KW⟩
    all_goals try exact KK
   ·obtain⟨f,hf,hfa⟩:=hca t (List.mem_of_getElem? ht) hk7
    obtain⟨hfl,y,hy,hy0,_⟩:=dZ hf
    have hfun:bl C f:=⟨y,hy,hy0⟩
    have hkk:=k2 hk7
    have gF:=cN C.p t.fab (by omega)
    rw[show dF C.p t.fab=(f:Int) from aU hf]at gF
    have g1:=pJ C hC s1 (d+es.length) (S++[(x,lv)]) f hro (by simp;omega) hfl
    unfold gq
    rw[if_neg (by omega),if_neg (by omega),if_pos hk7,hf]
    dsimp only
    cases hrb:bI C (bz (S++[(x,lv)])) f s1.items.length with
    | true=>
     have g2:=hR x S lv k f s1 (d+es.length) hx (aM hk) hfun hrb ⟨by omega,hr2,by omega,by omega⟩
     rw[hrb]at g1
     rw[if_pos rfl]
     repeat' ((conv=>whnf);first|apply Wx|apply W6|refine cg g1 ?_|refine cg g2 ?_|apply oi|(apply fi<;>intro h)|refine cl gF ?_|refine⟨_,rfl,?_⟩|exact rfl)
     all_goals try exact⟨KP⟩
     all_goals try exact KX
     all_goals try exact⟨KW⟩
     all_goals try exact KK
    | false=>
     rw[hrb]at g1
     rw[if_neg (by simp)]
     have g2:=bt C s1 (d+es.length) (scH (S++[(x,lv)])) 12 (jN C.p f) k x.chain hro hch
     repeat' ((conv=>whnf);first|apply Wx|apply W6|refine cg g1 ?_|apply oi|(apply fi<;>intro h)|refine cl gF ?_|refine⟨_,rfl,?_⟩|exact rfl)
     all_goals try exact⟨KP⟩
     all_goals try exact KX
     all_goals try exact KK
     conv=>whnf
     refine⟨{i:Nat // i≤f},fun q=>⟨[(0,cr),(1,tI .i64 (k:Int)),(2,tI .i64 ((p+1+(ak es).length:Nat):Int)),(10,tI .i64 (f:Int)),(11,tI .i64 (jN C.p q.1:Int)),(12,tI .i64 (q.1:Int)),(7,.r (.c (.ptr (7,0,0) 0))),(8,.r (.c (.ptr (8,0,0) 0)))],
      [(
       (0,0,0),some (md C s1 (d+es.length) (7,0,1) (7,0,2))),((7,0,1),some (.dar 7 (itR s1.items) none)),((7,0,2),some (.dar 6 (scH (S++[(x,lv)])) none)),
       ((7,0,0),some (.box [.t (.int .i64 (x.f:Int)),.t (.lst 1 (x.chain.map ab)),.t (.lst 1 (x.locals.map ag)),.t (.int .i64 x.first),.t (.bool x.outer),.opq])),((8,0,0),some (.box (t.tr.map .t)))],[8,7,0]⟩,fun q=>f - q.1,⟨0,by omega⟩,?_,?_⟩
     ·skip
      repeat' ((conv=>whnf);first|apply Wx|apply W6|apply oi|(apply fi<;>intro h)|refine⟨_,rfl,?_⟩|exact rfl)
      all_goals try exact⟨KP⟩
     intro⟨i,hi⟩
     dsimp only at hi ⊢
     have hnl:=wh C.p i
     by_cases hif:i < f
     ·obtain⟨z,hz⟩:=af (l:=C.p) (k:=i) (by omega)
      have hns:=wN hz
      repeat' ((conv=>whnf);first|apply Wx|apply W6|apply oi|(apply fi<;>intro h)|refine⟨i,z.tr,rfl,aa hz,?_⟩|refine⟨_,rfl,?_⟩|exact rfl)
      all_goals try exact⟨KP⟩
      all_goals try exact KX
      all_goals(conv=>whnf)
      all_goals(refine⟨⟨i+1,by omega⟩,?_,KD⟩)
      repeat' ((conv=>whnf);first|apply Wx|apply W6|apply oi|(apply fi<;>intro h)|refine⟨_,rfl,?_⟩|exact rfl)
      all_goals try exact⟨KP⟩
      all_goals try exact⟨KW⟩
      ·rw[if_pos (by simpa using h)]at hns
       all_goals try exact⟨KW⟩
      ·rw[if_neg (by simpa using h)]at hns
       all_goals try exact⟨KW⟩
     ·have hie:i=f:=by omega
      subst hie
      repeat' ((conv=>whnf);first|apply Wx|apply W6|refine cg g2 ?_|apply oi|(apply fi<;>intro h)|refine⟨_,rfl,?_⟩|exact rfl)
      all_goals try exact⟨KP⟩
      all_goals try exact KX
      all_goals try exact⟨KW⟩
   ·have g1:=bt C s1 (d+es.length) (scH (S++[(x,lv)])) (5+t.faa - 2) 0 k x.chain hro hch
    have hw5:IntKind.i64.wrap (IntKind.i64.wrap (5+t.faa) - 2)=5+t.faa - 2:=by simp(disch:=omega)only[IntWalk.i64_in]
    rw[←hw5]at g1
    have hz:=k3 hk26.1 hk26.2
    unfold gq
    rw[if_neg (by omega),if_neg (by omega),if_neg (by omega),←hw5]
    repeat' ((conv=>whnf);first|apply Wx|apply W6|refine cg g1 ?_|apply oi|(apply fi<;>intro h)|refine⟨_,rfl,?_⟩|exact rfl)
    all_goals try exact⟨KP⟩
    all_goals try exact KX
    all_goals try exact⟨KW⟩
    all_goals try exact KK
def uB (C:Cx)(lev:Nat):Prop:=∀(x:Sc) (S:List (Sc×List Int)) (s:Gs) (d:Int),ScOk C x (bz (S++[(x,[])]))→s.items.length+(ir C.p x.f - x.f) * (20 * bG lev+3)≤68719476736→((lev+S.length:Nat):Int)=C.b.fag→0≤d→d+30+100 * (lev:Int)≤1900→
 bp Tryz.prog 198 [cr] (eM (0,0,1) (0,0,2) C s d (scH (S++[(x,[])]))) (.tup []) (eM (1,0,1) (1,0,2) C (aI C (aL C lev) x (bz (S++[(x,[])])) d s).1 d (scH (S++[(x,(aI C (aL C lev) x (bz (S++[(x,[])])) d s).2)])))
theorem fU (S:List (Sc×List Int))(y:Sc×List Int):bz (S++[y])=bz S++[y.1.f]:=by simp
theorem AW {C:Cx}(hC:CxOk C){lev:Nat}(hL:uB C lev):Ab C (lev+1):=by
 intro x S lv k g s d hx hk hg hrb hr
 refine ax hΓ aq Tryz.func261 rfl (by decide) rfl rfl ?_
 obtain⟨r1,r2,r3,r4⟩:=dq hrb
 obtain⟨y,hy,hy0⟩:=hg
 have h60:=hC.len
 have hin:=hC.inl
 have hloc:=ck hC ⟨y,hy,hy0⟩
 have hA:argsN C.p g=y.fad.length:=by rw[argsN,hy]
 have hLo:=fw C.p (g:Int) (by omega) (fun z hz=>aC hC.small hz)
 have htop:=mJ hC hx
 have hil:(bz (S++[(x,lv)])).length=S.length+1:=by simp
 rw[hil]at htop r1
 have hxl:x.locals.length≤8:=by obtain⟨_,_,_,_,_,h⟩:=hx.endE hC;exact h
 have hxf:=hx.first
 rw[hil]at hxf
 have ha:=hC.args
 have hch:=hx.chain
 rw[hil]at hch
 obtain⟨q1,q2,q3,q4⟩:=hr
 have hfl:=dY (x.chain++[(k:Int)])
 have hyl:(y.fad.map ag).length=y.fad.length:=by simp
 have hxll:(x.locals.map ag).length=x.locals.length:=by simp
 have hcl:(x.chain.map ab).length=x.chain.length:=by simp
 have e1:IntKind.i64.wrap ((x.locals.length:Int) - C.args)=(x.locals.length:Int) - C.args:=by rw[IntWalk.i64_in _ (by omega)]
 have e2:IntKind.i64.wrap (x.first+(x.locals.length:Int))=x.first+x.locals.length:=by rw[IntWalk.i64_in _ (by omega)]
 repeat' ((conv=>whnf);first|(with_reducible apply W1;fail_if_success (with_reducible show Wo _ _ _ _ (Code.seq (Code.region 3 _ _) _) _ _))|(with_reducible first|apply W2|apply W3|apply W4|apply W5|apply W6|apply W7|apply W8|apply W9)|apply bg|apply oi|(apply fi<;>intro h)|refine⟨g,y.tr,rfl,aa hy,?_⟩|refine⟨_,rfl,?_⟩|exact rfl)
 all_goals try exact⟨KP⟩
 refine iK Unit (fun _=>⟨[(0,cr),(1,tI .i64 (g:Int)),(2,tI .i64 (k:Int)),(7,.r (.c (.ptr (7,0,0) 0))),(8,tI .i64 (argsN C.p g:Int)),(9,tI .i64 (be C x))],
  [(
   (0,0,0),some (md C s d (0,0,1) (0,0,2))),((0,0,1),some (.dar 7 (itR s.items) none)),((0,0,2),some (.dar 6 (scH (S++[(x,lv)])) none)),
   ((7,0,0),some (.box [.t (.int .i64 (x.f:Int)),.t (.lst 1 (x.chain.map ab)),.t (.lst 1 (x.locals.map ag)),.t (.int .i64 x.first),.t (.bool x.outer),.opq]))],[7,0]⟩) ?_ ?_
 ·skip
  repeat' ((conv=>whnf);first|apply Wx|apply W6|apply oi|(apply fi<;>intro h)|refine⟨_,rfl,?_⟩|exact rfl)
  all_goals try exact⟨KP⟩
  all_goals(conv=>whnf)
  all_goals(refine⟨(),?_⟩)
  repeat' ((conv=>whnf);first|apply Wx|apply W6|apply oi|(apply fi<;>intro h)|refine⟨_,rfl,?_⟩|exact rfl)
  all_goals try exact⟨KP⟩
  all_goals(refine⟨congrArg (Tr.int _) ?_⟩)
  all_goals try(rw[hyl,hA];done)
  all_goals(unfold be;rw[hxll])
  all_goals first|(rw[if_pos (by assumption)];exact e1)|(rw[if_neg (by simp_all)];exact e2)
 intro _
 repeat' ((conv=>whnf);first|(with_reducible apply W1;fail_if_success (with_reducible show Wo _ _ _ _ (Code.region 7 _ _) _ _))|(with_reducible first|apply W2|apply W3|apply W4|apply W5|apply W6|apply W7|apply W8|apply W9)|apply bg|apply oi|(apply fi<;>intro h)|refine cl hLo ?_|refine⟨_,rfl,?_⟩|exact rfl)
 all_goals try exact⟨KP⟩
 all_goals try exact⟨⟨by simp <;> omega,by simp <;> omega⟩⟩
 conv=>whnf
 refine gf ⟨[(0,cr),(1,tI .i64 (g:Int)),(2,tI .i64 (k:Int)),(7,.r (.c (.ptr (7,0,0) 0))),(8,tI .i64 (argsN C.p g:Int)),(9,tI .i64 (be C x)),(10,.r (.c (.ptr (10,0,0) 0)))],
  [(
   (0,0,0),some (md C s d (0,0,1) (0,0,2))),((0,0,1),some (.dar 7 (itR s.items) none)),((0,0,2),some (.dar 6 (scH (S++[(x,lv)])) none)),
   ((7,0,0),some (.box [.t (.int .i64 (x.f:Int)),.t (.lst 1 (x.chain.map ab)),.t (.lst 1 (x.locals.map ag)),.t (.int .i64 x.first),.t (.bool x.outer),.opq])),
   ((10,0,0),some (.box [.t (.int .i64 (g:Int)),.t (.lst 1 ((x.chain++[(k:Int)]).map ab)),.t (.lst 1 ((localsOf C.p (g:Int)).map ag)),.t (.int .i64 (be C x)),.t (.bool false),.nils 1]))],_⟩ ?_ ?_ rfl ?_
 ·exact⟨.inl rfl,.inl rfl,.inl rfl,.inl rfl,.inl rfl,.inl rfl,.inl rfl,trivial⟩
 ·refine⟨.inr (.inl rfl),.inr (.inl rfl),.inr (.inl rfl),.inr (.inl rfl),.inr (.inr (.inl ⟨_,_,rfl,rfl,.inl rfl,.inr (.inr ⟨_,rfl,?_,?_⟩),.inr (.inr ⟨_,rfl,rfl,?_⟩),.inl rfl,.inl rfl,.inr (.inl ⟨_,_,rfl,rfl⟩),trivial⟩)),trivial⟩
  ·show Tr.lst 1 _=Tr.lst 1 ([]++List.map ab x.chain++[[Tr.int .i64 (k:Int)]])
   simp[ab]
  all_goals(intro q hq;simp only[AC.ids,List.mem_cons,List.not_mem_nil,or_false]at hq;subst hq;rfl)
 have hll:((localsOf C.p (g:Int)).map ag).length=(localsOf C.p (g:Int)).length:=by simp
 have em:IntKind.i64.wrap (be C x+(((localsOf C.p (g:Int)).map ag).length:Int))=be C x+((localsOf C.p (g:Int)).length:Int):=by rw[hll,IntWalk.i64_in _ (by omega)]
 obtain⟨s0,hs0⟩:∃s0:Gs,(⟨s.items,max s.most (be C x+(localsOf C.p (g:Int)).length),s.start⟩:Gs)=s0:=⟨_,rfl⟩
 have z1:s.items=s0.items:=by rw[←hs0]
 have z2:max s.most (be C x+(localsOf C.p (g:Int)).length)=s0.most:=by rw[←hs0]
 have z3:s.start=s0.start:=by rw[←hs0]
 obtain⟨Y,hY⟩:∃Y,bq C x k g=Y:=⟨_,rfl⟩
 obtain⟨T1,hT1⟩:∃T1,cb C (bq C x k g) x.chain k (argsN C.p g) d s0=T1:=⟨_,rfl⟩
 repeat' ((conv=>whnf);first|apply Wx|apply W6|apply oi|(apply fi<;>intro h)|refine⟨_,rfl,?_⟩|exact rfl)
 all_goals try exact⟨KP⟩
 conv=>whnf
 refine⟨{q:Nat×Gs // q.1≤argsN C.p g∧cb C (bq C x k g) x.chain k q.1 (d - ((argsN C.p g - q.1:Nat):Int)) q.2=T1∧q.2.items.length≤300 - q.1},fun q=>⟨[(0,cr),(1,tI .i64 (g:Int)),(2,tI .i64 (k:Int)),(7,.r (.c (.ptr (7,0,0) 0))),(8,tI .i64 (argsN C.p g:Int)),(10,.r (.c (.ptr (10,0,0) 0))),(11,tI .i64 ((q.1.1:Int) - 1))],
  [(
   (0,0,0),some (md C q.1.2 (d - ((argsN C.p g - q.1.1:Nat):Int)) (7,0,1) (7,0,2))),((7,0,1),some (.dar 7 (itR q.1.2.items) none)),((7,0,2),some (.dar 6 (scH (S++[(x,lv)])) none)),
   ((7,0,0),some (.box [.t (.int .i64 (x.f:Int)),.t (.lst 1 (x.chain.map ab)),.t (.lst 1 (x.locals.map ag)),.t (.int .i64 x.first),.t (.bool x.outer),.opq])),
   ((10,0,0),some (.box [.t (.int .i64 (g:Int)),.t (.lst 1 ((x.chain++[(k:Int)]).map ab)),.t (.lst 1 ((localsOf C.p (g:Int)).map ag)),.t (.int .i64 (be C x)),.t (.bool false),.nils 1]))],[10,7,0]⟩,fun q=>q.1.1,⟨(argsN C.p g,s0),by dsimp only;omega,by rw[←hT1];simp,by dsimp only;rw[←z1];omega⟩,?_,?_⟩
 ·skip
  repeat' ((conv=>whnf);first|apply Wx|apply W6|apply oi|(apply fi<;>intro h)|refine⟨_,rfl,?_⟩|exact rfl)
  all_goals try exact⟨KP⟩
  all_goals try exact⟨by rw[z1]⟩
  all_goals try exact⟨by rw[z3]⟩
  all_goals try exact⟨congrArg itR z1⟩
  all_goals try exact⟨congrArg (Tr.int _) (by rw[em];exact z2)⟩
  all_goals try exact⟨KW⟩
 intro⟨⟨m,t⟩,hm,ht,htl⟩
 dsimp only at hm ht htl ⊢
 cases m with
 | succ m=>
  have g1:=iZ C hC t (d - ((argsN C.p g - (m+1):Nat):Int)) (scH (S++[(x,lv)])) (bq C x k g) m k x.chain (by unfold bc;omega) (by omega) (by omega) (by show 0≤be C x∧be C x≤1000;omega) (by omega)
  rw[cb]at ht
  rw[show((m+1:Nat):Int) - 1=(m:Int) by omega]
  repeat' ((conv=>whnf);first|apply Wx|apply W6|refine cg g1 ?_|apply oi|(apply fi<;>intro h)|refine⟨_,rfl,?_⟩|exact rfl)
  all_goals try exact⟨KP⟩
  all_goals try exact KX
  conv=>whnf
  refine⟨⟨(m,cQ C (bq C x k g) t (d - ((argsN C.p g - (m+1):Nat):Int)) m k x.chain),by dsimp only;omega,by rw[←ht];dsimp only;congr 1;omega,by dsimp only;simp only[cQ,an,List.length_append,List.length_cons,List.length_nil];omega⟩,?_,KD⟩
  repeat' ((conv=>whnf);first|apply Wx|apply W6|apply oi|(apply fi<;>intro h)|refine⟨_,rfl,?_⟩|exact rfl)
  all_goals try exact⟨KP⟩
  all_goals try exact⟨KW⟩
 | zero=>
  have e0:t=T1:=by rw[←ht];rfl
  subst e0
  have ed:d - ((argsN C.p g - 0:Nat):Int)=d - argsN C.p g:=by rw[Nat.sub_zero]
  rw[ed]
  obtain⟨T2,hT2⟩:∃T2,cB C (bq C x k g) x.chain k (d - argsN C.p g) ((localsOf C.p (g:Int)).length - argsN C.p g) (argsN C.p g) t=T2:=⟨_,rfl⟩
  repeat' ((conv=>whnf);first|apply Wx|apply W6|apply oi|(apply fi<;>intro h)|refine⟨_,rfl,?_⟩|exact rfl)
  all_goals try exact⟨KP⟩
  all_goals try exact KX
  conv=>whnf
  refine⟨{q:Nat×Gs // q.1≤(localsOf C.p (g:Int)).length∧cB C (bq C x k g) x.chain k (d - argsN C.p g) ((localsOf C.p (g:Int)).length - q.1) q.1 q.2=T2∧q.2.items.length≤400 - 2 * ((localsOf C.p (g:Int)).length - q.1)},fun q=>⟨[(0,cr),(1,tI .i64 (g:Int)),(2,tI .i64 (k:Int)),(7,.r (.c (.ptr (7,0,0) 0))),(10,.r (.c (.ptr (10,0,0) 0))),(12,tI .i64 (q.1.1:Int))],
   [(
    (0,0,0),some (md C q.1.2 (d - argsN C.p g) (7,0,1) (7,0,2))),((7,0,1),some (.dar 7 (itR q.1.2.items) none)),((7,0,2),some (.dar 6 (scH (S++[(x,lv)])) none)),
    ((7,0,0),some (.box [.t (.int .i64 (x.f:Int)),.t (.lst 1 (x.chain.map ab)),.t (.lst 1 (x.locals.map ag)),.t (.int .i64 x.first),.t (.bool x.outer),.opq])),
    ((10,0,0),some (.box [.t (.int .i64 (g:Int)),.t (.lst 1 ((x.chain++[(k:Int)]).map ab)),.t (.lst 1 ((localsOf C.p (g:Int)).map ag)),.t (.int .i64 (be C x)),.t (.bool false),.nils 1]))],[10,7,0]⟩,fun q=>(localsOf C.p (g:Int)).length - q.1.1,⟨(argsN C.p g,t),by dsimp only;omega,hT2,by dsimp only;omega⟩,?_,?_⟩
  ·skip
   repeat' ((conv=>whnf);first|apply Wx|apply W6|apply oi|(apply fi<;>intro h)|refine⟨_,rfl,?_⟩|exact rfl)
   all_goals try exact⟨KP⟩
  intro⟨⟨i,u⟩,hi,hu,hul⟩
  dsimp only at hi hu hul ⊢
  by_cases hil2:i < (localsOf C.p (g:Int)).length
  ·obtain⟨c,hc⟩:∃c,(localsOf C.p (g:Int)).length - i=c+1:=⟨(localsOf C.p (g:Int)).length - i - 1,by omega⟩
   rw[hc,cB]at hu
   have g1:=gZ C u (d - argsN C.p g) (scH (S++[(x,lv)])) 0 k x.chain (by unfold bc;omega) (by omega) (by omega)
   have g2:=iZ C hC (an C u (d - argsN C.p g) 0 0 k x.chain) (d - argsN C.p g+1) (scH (S++[(x,lv)])) (bq C x k g) i k x.chain (by unfold bc an;simp only[List.length_append,List.length_cons,List.length_nil];omega) (by omega) (by omega) (by show 0≤be C x∧be C x≤1000;omega) (by omega)
   repeat' ((conv=>whnf);first|apply Wx|apply W6|refine cg g1 ?_|refine cg g2 ?_|apply oi|(apply fi<;>intro h)|refine⟨_,rfl,?_⟩|exact rfl)
   all_goals try exact⟨KP⟩
   all_goals try exact KX
   conv=>whnf
   refine⟨⟨(i+1,cQ C (bq C x k g) (an C u (d - argsN C.p g) 0 0 k x.chain) (d - argsN C.p g+1) i k x.chain),by dsimp only;omega,by rw[←hu];dsimp only;rw[show(localsOf C.p (g:Int)).length - (i+1)=c by omega],by dsimp only;simp only[cQ,an,List.length_append,List.length_cons,List.length_nil];omega⟩,?_,KD⟩
   repeat' ((conv=>whnf);first|apply Wx|apply W6|apply oi|(apply fi<;>intro h)|refine⟨_,rfl,?_⟩|exact rfl)
   all_goals try exact⟨KP⟩
   all_goals try exact⟨KW⟩
  ·have hie:i=(localsOf C.p (g:Int)).length:=by omega
   subst hie
   rw[Nat.sub_self,cB]at hu
   subst hu
   have hpre:di C x k g d s=u:=by rw[di,hs0,hT1,hT2]
   repeat' ((conv=>whnf);first|(with_reducible apply W1;fail_if_success (with_reducible show Wo _ _ _ _ (Code.seq (Code.region 17 _ _) _) _ _))|(with_reducible first|apply W2|apply W3|apply W4|apply W5|apply W6|apply W7|apply W8|apply W9)|apply bg|apply oi|(apply fi<;>intro h)|refine⟨_,rfl,?_⟩|exact rfl)
   all_goals try exact⟨KP⟩
   all_goals try exact KX
   obtain⟨v,hv⟩:∃v,bA C x k (d - argsN C.p g) u=v:=⟨_,rfl⟩
   have hvl:v.items.length≤500:=by rw[←hv,bA];split <;> first|(simp[an];omega)|omega
   refine iK Unit (fun _=>⟨[(0,cr),(1,tI .i64 (g:Int)),(2,tI .i64 (k:Int)),(7,.r (.c (.ptr (7,0,0) 0))),(10,.r (.c (.ptr (10,0,0) 0)))],
    [(
     (0,0,0),some (md C v (d - argsN C.p g) (7,0,1) (7,0,2))),((7,0,1),some (.dar 7 (itR v.items) none)),((7,0,2),some (.dar 6 (scH (S++[(x,lv)])) none)),
     ((10,0,0),some (.box [.t (.int .i64 (g:Int)),.t (.lst 1 ((x.chain++[(k:Int)]).map ab)),.t (.lst 1 ((localsOf C.p (g:Int)).map ag)),.t (.int .i64 (be C x)),.t (.bool false),.own (10,0,1)])),((10,0,1),some (.arr true 1 []))],[10,7,0]⟩) ?_ ?_
   ·have g3:=bt C u (d - argsN C.p g) (scH (S++[(x,lv)])) 15 0 k x.chain (by unfold bc;omega) (by omega)
    unfold bA at hv
    cases hst:u.start with
    | true=>
     rw[if_pos hst]at hv
     subst hv
     repeat' ((conv=>whnf);first|apply Wx|apply W6|refine cg g3 ?_|apply oi|(apply fi<;>intro h)|refine⟨_,rfl,?_⟩|exact rfl)
     all_goals try exact⟨KP⟩
     ·conv=>whnf
      refine⟨(),?_⟩
      repeat' ((conv=>whnf);first|apply Wx|apply W6|apply oi|(apply fi<;>intro h)|refine⟨_,rfl,?_⟩|exact rfl)
      all_goals try exact⟨KP⟩
     ·exfalso;simp_all
    | false=>
     rw[if_neg (by simp[hst])]at hv
     subst hv
     repeat' ((conv=>whnf);first|apply Wx|apply W6|refine cg g3 ?_|apply oi|(apply fi<;>intro h)|refine⟨_,rfl,?_⟩|exact rfl)
     all_goals try exact⟨KP⟩
     ·exfalso;simp_all
     ·conv=>whnf
      refine⟨(),?_⟩
      repeat' ((conv=>whnf);first|apply Wx|apply W6|apply oi|(apply fi<;>intro h)|refine⟨_,rfl,?_⟩|exact rfl)
      all_goals try exact⟨KP⟩
   intro _
   have hyS:ScOk C (bq C x k g) (bz ((S++[(x,lv)])++[(bq C x k g,[])])):=by rw[fU];exact iR hC hx k ⟨y,hy,hy0⟩
   obtain⟨ye,ye1,ye2,ye3,ye4,_⟩:=hyS.endE hC
   have hye:ir C.p (bq C x k g).f - (bq C x k g).f≤9:=by
    rw[ye4]
    have:aY C.p (g:Int)=(ye:Int):=by rw[aV];exact aU ye1
    show ye - g≤9
    omega
   have h3:=oD (n:=lev) (by omega)
   have hgL:=hL (bq C x k g) (S++[(x,lv)]) v (d - argsN C.p g) hyS (by
    have:=Nat.mul_le_mul hye (show 20 * bG lev+3≤20 * 8679837+3 by omega)
    omega) (by simp only[List.length_append,List.length_cons,List.length_nil];omega) q3 (by omega)
   have hsl:(scH (S++[(x,lv)])).length=S.length+1:=by simp
   obtain⟨r,hr⟩:∃r,aI C (aL C lev) (bq C x k g) (bz ((S++[(x,lv)])++[(bq C x k g,[])])) (d - argsN C.p g) v=r:=⟨_,rfl⟩
   rw[hr]at hgL
   have hsl2:(scH ((S++[(x,lv)])++[(bq C x k g,r.2)])).length=S.length+2:=by simp
   have hw2:IntKind.i64.wrap (((scH ((S++[(x,lv)])++[(bq C x k g,r.2)])).length:Int) - 1)=((S.length+1:Nat):Int):=by rw[hsl2,IntWalk.i64_in _ (by omega)];omega
   have hlt2:S.length+1 < (scH ((S++[(x,lv)])++[(bq C x k g,r.2)])).length:=by omega
   have hrow2:(scH ((S++[(x,lv)])++[(bq C x k g,r.2)]))[S.length+1]?=some (iv (bq C x k g) r.2):=by simp
   have hfl3:=dY r.2
   repeat' ((conv=>whnf);first|(with_reducible apply W1;fail_if_success (with_reducible show Wo _ _ _ _ (Code.region 23 _ _) _ _))|(with_reducible first|apply W2|apply W3|apply W4|apply W5|apply W6|apply W7|apply W8|apply W9)|apply bg|refine cg hgL ?_|apply oi|(apply fi<;>intro h)|refine⟨S.length+1,hw2,hlt2,?_⟩|refine⟨_,hrow2,?_⟩|refine⟨_,rfl,?_⟩|exact rfl)
   all_goals try exact⟨KP⟩
   all_goals try exact⟨⟨by rw[hsl];simp <;> omega,by rw[hsl];simp <;> omega⟩⟩
   all_goals try exact⟨hfl3⟩
   all_goals try exact⟨by simp[bq,ab]⟩
   conv=>whnf
   refine gf ⟨[(0,cr),(13,tI .i64 (d - argsN C.p g)),(14,.r (.c (.t (.lst 1 (r.2.map ab)))))],
    [((0,0,0),some (md C r.1 (d - argsN C.p g) (127,0,1) (127,0,2))),((127,0,1),some (.dar 7 (itR r.1.items) none)),((127,0,2),some (.dar 6 ((scH ((S++[(x,lv)])++[(bq C x k g,r.2)])).set (S.length+1) ((iv (bq C x k g) r.2).set 5 (.t (.lst 1 (r.2.map ab))))) none))],_⟩ ?_ ?_ rfl ?_
   ·refine⟨.inl rfl,.inl rfl,.inr (.inl ⟨_,_,rfl,rfl,.inr (.inr ⟨_,rfl,rfl,?_⟩)⟩),trivial⟩
    intro q hq;simp only[AC.ids,List.mem_cons,List.not_mem_nil,or_false]at hq;subst hq;rfl
   ·exact⟨.inr (.inl rfl),.inr (.inl rfl),.inr (.inr (.inr ⟨_,_,_,_,_,_,_,rfl,hrow2,(by decide),rfl,rfl,rfl⟩)),trivial⟩
   have hsl4:((scH ((S++[(x,lv)])++[(bq C x k g,r.2)])).set (S.length+1) ((iv (bq C x k g) r.2).set 5 (.t (.lst 1 (r.2.map ab))))).length=S.length+2:=by rw[List.length_set];exact hsl2
   have hw4:IntKind.i64.wrap ((((scH ((S++[(x,lv)])++[(bq C x k g,r.2)])).set (S.length+1) ((iv (bq C x k g) r.2).set 5 (.t (.lst 1 (r.2.map ab))))).length:Int) - 1)=((S.length+1:Nat):Int):=by rw[hsl4,IntWalk.i64_in _ (by omega)];omega
   have hle4:S.length+1≤((scH ((S++[(x,lv)])++[(bq C x k g,r.2)])).set (S.length+1) ((iv (bq C x k g) r.2).set 5 (.t (.lst 1 (r.2.map ab))))).length:=by omega
   have hcut:((scH ((S++[(x,lv)])++[(bq C x k g,r.2)])).set (S.length+1) ((iv (bq C x k g) r.2).set 5 (.t (.lst 1 (r.2.map ab))))).take (S.length+1)=scH (S++[(x,lv)]):=by
    rw[List.take_set_of_le (Nat.le_refl _),←List.map_take,List.take_left' (by simp)]
   have hrl:(r.2.map ab).length=r.2.length:=by simp
   have hin2:=sY (lev:=lev) (rep:=aL C lev) (fun line g d s hg hr=>cq hC lev line g d s hyS hg hr) hC hyS (d - argsN C.p g) v
   have hgr2:=eY (lev:=lev) (rep:=aL C lev) (fun line g d s hg hr=>cq hC lev line g d s hyS hg hr) hC hyS (d - argsN C.p g) v
   rw[hr]at hin2 hgr2
   have hrle:=hgr2.le
   obtain⟨hlvl,hin2⟩:=hin2
   have hmul:=Nat.mul_le_mul hye (show 20 * bG lev+3≤20 * 8679837+3 by omega)
   repeat' ((conv=>whnf);first|apply Wx|apply W6|apply oi|(apply fi<;>intro h)|refine⟨S.length+1,hw4,hle4,?_⟩|refine⟨_,rfl,?_⟩|exact rfl)
   all_goals try exact⟨KP⟩
   conv=>whnf
   refine⟨{i:Nat // i≤r.2.length},fun q=>⟨[(0,cr),(13,tI .i64 (d - argsN C.p g)),(14,.r (.c (.t (.lst 1 (r.2.map ab))))),(15,tI .i64 (q.1:Int))],
    [((0,0,0),some (md C r.1 (d - argsN C.p g) (127,0,1) (127,0,2))),((127,0,1),some (.dar 7 (itR (bT r.1.items r.1.items.length (r.2.take q.1))) none)),((127,0,2),some (.dar 6 (scH (S++[(x,lv)])) none))],[127,0]⟩,fun q=>r.2.length - q.1,⟨0,by omega⟩,?_,?_⟩
   ·skip
    repeat' ((conv=>whnf);first|apply Wx|apply W6|apply oi|(apply fi<;>intro h)|refine⟨_,rfl,?_⟩|exact rfl)
    all_goals try exact⟨KP⟩
    all_goals first|exact⟨hle4⟩|exact⟨hcut⟩
   intro⟨i,hi3⟩
   dsimp only at hi3 ⊢
   have hpl:=dT (r.1.items.length:Int) (r.2.take i) r.1.items
   have hil4:(itR (bT r.1.items r.1.items.length (r.2.take i))).length=r.1.items.length:=by rw[fK,hpl]
   by_cases hli:i < r.2.length
   ·obtain⟨j,hj⟩:=af hli
    obtain⟨j1,j2⟩:=hin2 j (List.mem_of_getElem? hj)
    obtain⟨jn,rfl⟩:=Int.eq_ofNat_of_zero_le j1
    have hjl:jn < (itR (bT r.1.items r.1.items.length (r.2.take i))).length:=by rw[hil4];omega
    obtain⟨it,hit⟩:=af (l:=bT r.1.items r.1.items.length (r.2.take i)) (k:=jn) (by rw[hpl];omega)
    have hnext:r.2.take (i+1)=r.2.take i++[(jn:Int)]:=by rw[List.take_add_one,hj];rfl
    have hps:=jX r.1.items.length (jn:Int) (r.2.take i) r.1.items
    repeat' ((conv=>whnf);first|apply Wx|apply W6|apply oi|(apply fi<;>intro h)|refine⟨i,(ab jn),rfl,aa hj,?_⟩|refine⟨jn,rfl,hjl,?_⟩|refine⟨_,(dM hit),?_⟩|refine⟨_,rfl,?_⟩|exact rfl)
    all_goals try exact⟨KP⟩
    all_goals try exact KX
    conv=>whnf
    refine⟨⟨i+1,by omega⟩,?_,KD⟩
    repeat' ((conv=>whnf);first|apply Wx|apply W6|apply oi|(apply fi<;>intro h)|refine⟨_,rfl,?_⟩|exact rfl)
    all_goals try exact⟨KP⟩
    all_goals try exact⟨KW⟩
    all_goals(refine⟨?_⟩;rw[hil4];dsimp only;rw[hnext,hps,fW hit];rfl)
   ·have hie:i=r.2.length:=by omega
    subst hie
    have hr':aI C (aL C lev) (bq C x k g) (bz (S++[(x,lv)])++[g]) (d - argsN C.p g) v=r:=(congrArg (fun l=>aI C (aL C lev) (bq C x k g) l (d - argsN C.p g) v) (by simp[bq])).trans hr
    have hfin:aL C (lev+1) x (bz (S++[(x,lv)])) k g d s=⟨bT r.1.items r.1.items.length r.2,r.1.most,r.1.start⟩:=by
     show fv C (aI C (aL C lev)) x (bz (S++[(x,lv)])) k g d s=_
     unfold fv
     rw[hpre,hv,hr']
    rw[hfin]
    rw[List.take_length]
    repeat' ((conv=>whnf);first|apply Wx|apply W6|apply oi|(apply fi<;>intro h)|refine⟨_,rfl,?_⟩|exact rfl)
    all_goals try exact⟨KP⟩
    all_goals try exact KX
    all_goals try exact⟨congrArg (fun z:Gs=>Tr.bool z.start) hfin.symm⟩
    all_goals try exact⟨congrArg (fun z:Gs=>itR z.items) hfin.symm⟩
    all_goals try exact⟨congrArg (fun z:Gs=>Tr.int .i64 z.most) hfin.symm⟩
    all_goals try exact⟨KW⟩
end Go.Proofs.YtoglejgmjeojoaaGreat
