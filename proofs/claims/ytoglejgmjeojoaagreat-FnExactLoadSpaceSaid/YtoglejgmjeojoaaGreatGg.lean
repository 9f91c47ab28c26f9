import Derived.Test.YtoglejgmjeojoaaGreatGf
namespace Go.Proofs.YtoglejgmjeojoaaGreat
open Go.Sim
set_option maxRecDepth 100000
set_option maxHeartbeats 4000000
abbrev nR (n:Nat):List Tr:=aa n
theorem yd {l:List FX}{k:Nat}{fs:List Nat}{next:Nat}:fP l (k::fs) next=match endAt l k with|some e=>if k=next∧bg l k=true∧iW l k e=true then fP l fs (e+1)else false|none=>false:=by rw[fP] <;> (cases endAt l k <;> rfl)
theorem pZ {l:List FX}{x:FX}(hx:l[0]?=some x):lz l=(x.faa==0 && (x.fab==gz && x.faf.length==0)):=by
 cases l with
 | nil=>cases hx
 | cons y r=>rw[List.getElem?_cons_zero]at hx;injection hx with hx;subst hx;rfl
theorem wE {l:List FX}{k e i:Nat}{x:FX}(hi:i < e)(hx:l[i]?=some x):dl l k e (e - i) i=((if x.faa=4 then mW l i (i - k) k else true) && dl l k e (e - (i+1)) (i+1)):=by
 rw[show e - i=(e - (i+1))+1 by omega,dl,if_pos hi,hx]
theorem Cw {l:List FX}{i:Nat}(hi:i < l.length):((List.range l.length).map fun j:Nat=>bc l (j:Int)).contains (i:Int)=mW l i i 0:=by
 rw[Bool.eq_iff_iff,me,List.contains_iff_mem,List.mem_map]
 constructor
 ·rintro⟨j,hj,he⟩
  rw[bc,if_pos (by omega),Int.toNat_natCast]at he
  cases hx:elseAt l j with
  | none=>rw[hx]at he;simp only[cp]at he;omega
  | some m=>
   rw[hx]at he
   simp only[cp]at he
   have:m=i:=by omega
   subst this
   obtain⟨_,_,_,_,_,h1,_⟩:=aW hx
   exact⟨j,by omega,by omega,hx⟩
 ·rintro⟨j,_,hj,he⟩
  refine⟨j,by rw[List.mem_range];omega,?_⟩
  rw[bc,if_pos (by omega),Int.toNat_natCast,he]
  rfl
theorem eu (l:List FX)(hsm:ay 1048576 (.lst 4 (l.map FX.tr))):Sim.Spec Tryz.prog 77 [tvP l] (rB (az l)):=by
 refine aj hΓ ao Tryz.func77 rfl (by decide) rfl ?_
 have hl:=aI hsm
 have hs:∀x∈l,aw 1048576 x.tr:=fun x hx=>aA hsm hx
 have hlen:(l.map FX.tr).length=l.length:=by simp
 have hF:=br l hl
 have hfl:((an l).map fun n:Nat=>aa n).length=(an l).length:=by simp
 have hfle:(an l).length≤l.length:=my l 0
 have hB:=aE (((an l).map fun n:Nat=>aa n).length:Int) 1 6
 by_cases c1:l.length≤60∧(1≤(an l).length∧(an l).length≤6)
 ·obtain⟨c1,c2,c3⟩:=c1
  rw[within_iff.2 ⟨by rw[hfl];omega,by rw[hfl];omega⟩]at hB
  unfold az
  rw[decide_eq_true c1,decide_eq_true (show 1≤(an l).length∧(an l).length≤6 from⟨c2,c3⟩),Bool.true_and,Bool.true_and]
  cases hall:l.all co with
  | false=>
   rw[Bool.false_and]
   repeat' ((conv=>whnf);first|refine Or.inl ?_|apply oi|(apply fi<;>intro h)|refine ci hF (ai rfl trivial) ?_|refine ci hB (ai rfl (ai rfl (ai rfl trivial))) ?_|refine⟨_,rfl,?_⟩|exact rfl)
   all_goals try exact⟨KO⟩
   all_goals try exact KX
   all_goals try(exfalso;(try simp_all[af]);(try omega);done)
   conv=>whnf
   refine⟨{k:Nat // k≤l.length∧(l.drop k).all co=false},fun q=>⟨[(0,vP l),(3,.r (.c (.own (3,0,0)))),(25,vP l),(26,tI .i64 ((l.map FX.tr).length:Int)),(27,tI .i64 (q.1:Int))],[((3,0,0),some (.arr true 1 ((an l).map fun n:Nat=>aa n)))],[3]⟩,fun q=>l.length - q.1,⟨0,by omega,hall⟩,?_,?_⟩
   ·skip
    repeat' ((conv=>whnf);first|refine Or.inl ?_|apply oi|(apply fi<;>intro h)|refine⟨_,rfl,?_⟩|exact rfl)
    all_goals try exact⟨KO⟩
   intro⟨k,hk,hr⟩
   dsimp only at hk hr ⊢
   by_cases hlt:k < l.length
   ·obtain⟨x,hx⟩:=ae hlt
    rw[zx hx]at hr
    have hL:=mX x (hs x (List.mem_of_getElem? hx))
    cases ho:co x with
    | false=>
     rw[ho]at hL
     repeat' ((conv=>whnf);first|refine Or.inl ?_|apply oi|(apply fi<;>intro h)|refine⟨k,x.tr,rfl,ab hx,?_⟩|refine ci hL (ai (ai rfl (ai rfl (ai rfl (ai rfl trivial)))) trivial) ?_|refine⟨_,rfl,?_⟩|exact rfl)
     all_goals try exact⟨KO⟩
     all_goals try exact KX
     all_goals try(exfalso;(try simp_all[af]);(try omega);done)
    | true=>
     rw[ho]at hL hr
     rw[Bool.true_and]at hr
     repeat' ((conv=>whnf);first|refine Or.inl ?_|apply oi|(apply fi<;>intro h)|refine⟨k,x.tr,rfl,ab hx,?_⟩|refine ci hL (ai (ai rfl (ai rfl (ai rfl (ai rfl trivial)))) trivial) ?_|refine⟨_,rfl,?_⟩|exact rfl)
     all_goals try exact⟨KO⟩
     all_goals try exact KX
     all_goals try(exfalso;(try simp_all[af]);(try omega);done)
     conv=>whnf
     refine⟨⟨k+1,by omega,hr⟩,?_,KD⟩
     repeat' ((conv=>whnf);first|refine Or.inl ?_|apply oi|(apply fi<;>intro h)|refine⟨_,rfl,?_⟩|exact rfl)
     all_goals try exact⟨KO⟩
     all_goals try exact⟨K4⟩
   ·rw[List.drop_eq_nil_of_le (by omega)]at hr
    cases hr
  | true=>
   have hok:∀x∈l,co x=true:=List.all_eq_true.1 hall
   rw[Bool.true_and]
   repeat' ((conv=>whnf);first|refine Or.inl ?_|apply oi|(apply fi<;>intro h)|refine ci hF (ai rfl trivial) ?_|refine ci hB (ai rfl (ai rfl (ai rfl trivial))) ?_|refine⟨_,rfl,?_⟩|exact rfl)
   all_goals try exact⟨KO⟩
   all_goals try exact KX
   all_goals try(exfalso;(try simp_all[af]);(try omega);done)
   conv=>whnf
   refine⟨{k:Nat // k≤l.length},fun q=>⟨[(0,vP l),(3,.r (.c (.own (3,0,0)))),(25,vP l),(26,tI .i64 ((l.map FX.tr).length:Int)),(27,tI .i64 (q.1:Int))],[((3,0,0),some (.arr true 1 ((an l).map fun n:Nat=>aa n)))],[3]⟩,fun q=>l.length - q.1,⟨0,by omega⟩,?_,?_⟩
   ·skip
    repeat' ((conv=>whnf);first|refine Or.inl ?_|apply oi|(apply fi<;>intro h)|refine⟨_,rfl,?_⟩|exact rfl)
    all_goals try exact⟨KO⟩
   intro⟨k,hk⟩
   dsimp only at hk ⊢
   by_cases hlt:k < l.length
   ·obtain⟨x,hx⟩:=ae hlt
    have hL:=mX x (hs x (List.mem_of_getElem? hx))
    rw[hok x (List.mem_of_getElem? hx)]at hL
    repeat' ((conv=>whnf);first|refine Or.inl ?_|apply oi|(apply fi<;>intro h)|refine⟨k,x.tr,rfl,ab hx,?_⟩|refine ci hL (ai (ai rfl (ai rfl (ai rfl (ai rfl trivial)))) trivial) ?_|refine⟨_,rfl,?_⟩|exact rfl)
    all_goals try exact⟨KO⟩
    all_goals try exact KX
    all_goals try(exfalso;(try simp_all[af]);(try omega);done)
    conv=>whnf
    refine⟨⟨k+1,by omega⟩,?_,KD⟩
    repeat' ((conv=>whnf);first|refine Or.inl ?_|apply oi|(apply fi<;>intro h)|refine⟨_,rfl,?_⟩|exact rfl)
    all_goals try exact⟨KO⟩
    all_goals try exact⟨K4⟩
   ·clear hB hF
    have hpos:0 < l.length:=by omega
    obtain⟨x0,hx0⟩:=ae hpos
    have hal:(x0.faf.map ag).length=x0.faf.length:=by simp
    cases hho:lz l with
    | false=>
     rw[Bool.false_and]
     rw[pZ hx0]at hho
     repeat' ((conv=>whnf);first|refine Or.inl ?_|apply oi|(apply fi<;>intro h)|refine⟨0,x0.tr,rfl,ab hx0,?_⟩|refine⟨_,rfl,?_⟩|exact rfl)
     all_goals try exact⟨KO⟩
     all_goals try exact KX
     all_goals try(exfalso;(try simp_all[af]);(try omega);done)
     all_goals try(exfalso;simp_all[gz];done)
    | true=>
     rw[Bool.true_and]
     obtain⟨R,hR⟩:∃R,fP l (an l) 0=R:=⟨_,rfl⟩
     rw[←Aa,hR]
     rw[pZ hx0]at hho
     repeat' ((conv=>whnf);first|refine Or.inl ?_|apply oi|(apply fi<;>intro h)|refine⟨0,x0.tr,rfl,ab hx0,?_⟩|refine⟨_,rfl,?_⟩|exact rfl)
     all_goals try exact⟨KO⟩
     all_goals try exact KX
     all_goals try(exfalso;(try simp_all[af]);(try omega);done)
     all_goals try(exfalso;simp_all[gz];done)
     conv=>whnf
     refine⟨{q:Nat×Nat // q.1≤(an l).length∧q.2≤l.length∧fP l ((an l).drop q.1) q.2=R},fun q=>⟨[(0,vP l),(6,tI .i64 (q.1.2:Int)),(55,.r (.c (.own (3,0,0)))),(56,tI .i64 (((an l).map fun n:Nat=>aa n).length:Int)),(57,tI .i64 (q.1.1:Int))],[((3,0,0),some (.arr true 1 ((an l).map fun n:Nat=>aa n)))],[3]⟩,fun q=>(an l).length - q.1.1,⟨(0,0),by dsimp only;omega,by dsimp only;omega,hR⟩,?_,?_⟩
     ·skip
      repeat' ((conv=>whnf);first|refine Or.inl ?_|apply oi|(apply fi<;>intro h)|refine⟨_,rfl,?_⟩|exact rfl)
      all_goals try exact⟨KO⟩
     intro⟨⟨j,next⟩,hj,hnx,hr⟩
     dsimp only at hj hnx hr ⊢
     by_cases hjl:j < (an l).length
     ·obtain⟨f,hf⟩:=ae hjl
      obtain⟨hfl2,x,hx,hx0'⟩:=gZ (List.mem_of_getElem? hf)
      rw[cV hf,yd]at hr
      have hE:=cH l (f:Int) hl
      have hN:=eC l x.fab hl
      have hjm:j < ((an l).map fun n:Nat=>aa n).length:=by rw[hfl];exact hjl
      cases he:endAt l f with
      | none=>
       rw[bb,ir he]at hE
       rw[he]at hr
       subst hr
       generalize eH l x.fab=ff at *
       repeat' ((conv=>whnf);first|refine ep ?_|apply aZ|apply oi|(apply fi<;>intro h)|refine⟨j,rfl,hjm,?_⟩|refine⟨(nR f),(ab hf),?_⟩|refine⟨f,x.tr,rfl,ab hx,?_⟩|refine cl hE ?_|refine cl hN ?_|refine⟨_,rfl,?_⟩|exact rfl)
       all_goals try exact⟨KO⟩
       all_goals try exact KX
       all_goals try(exfalso;(try simp_all[af]);(try omega);done)
      | some e=>
       obtain⟨_,_,_,_,hke,hel⟩:=aC he
       rw[bb,ba he]at hE
       rw[he]at hr
       dsimp only at hr
       have hK:=oJ l f e c1 hs hok he
       have hnf:bg l f=(findN l 0 x.fab==some f):=by unfold bg;rw[hx]
       have hnf2:(eH l x.fab==(f:Int))=bg l f:=by
        rw[hnf,eH]
        cases findN l 0 x.fab with
        | none=>simp[cp]
        | some m=>rw[Bool.eq_iff_iff];simp[cp];omega
       generalize eH l x.fab=ff at *
       by_cases hc:f=next∧bg l f=true∧iW l f e=true
       ·rw[if_pos hc]at hr
        obtain⟨d1,d2,d3⟩:=hc
        rw[d2]at hnf2
        have hff:=eq_of_beq hnf2
        subst hff
        rw[d3]at hK
        repeat' ((conv=>whnf);first|refine ep ?_|apply aZ|apply oi|(apply fi<;>intro h)|refine⟨j,rfl,hjm,?_⟩|refine⟨(nR f),(ab hf),?_⟩|refine⟨f,x.tr,rfl,ab hx,?_⟩|refine cl hE ?_|refine cl hN ?_|refine cl hK ?_|refine⟨_,rfl,?_⟩|exact rfl)
        all_goals try exact⟨KO⟩
        all_goals try exact KX
        all_goals try(exfalso;(try simp_all[af]);(try omega);done)
        all_goals try(exfalso;simp_all;done)
        conv=>whnf
        refine⟨⟨(j+1,e+1),by dsimp only;omega,by dsimp only;omega,hr⟩,?_,KD⟩
        repeat' ((conv=>whnf);first|refine ep ?_|apply aZ|apply oi|(apply fi<;>intro h)|refine⟨_,rfl,?_⟩|exact rfl)
        all_goals try exact⟨KO⟩
        all_goals try exact⟨K4⟩
       ·rw[if_neg hc]at hr
        subst hr
        have hbad:∀b1 b2:Bool,iW l f e=b2→(ff==(f:Int))=b1→f=next→b1=true→b2=true→False:=by
         intro b1 b2 h1 h2 h3 h4 h5
         subst h4;subst h5
         exact hc ⟨h3,by rw[←hnf2];exact h2,h1⟩
        cases hfk:iW l f e with
        | true=>
         rw[hfk]at hK
         repeat' ((conv=>whnf);first|refine ep ?_|apply aZ|apply oi|(apply fi<;>intro h)|refine⟨j,rfl,hjm,?_⟩|refine⟨(nR f),(ab hf),?_⟩|refine⟨f,x.tr,rfl,ab hx,?_⟩|refine cl hE ?_|refine cl hN ?_|refine cl hK ?_|refine⟨_,rfl,?_⟩|exact rfl)
         all_goals try exact⟨KO⟩
         all_goals try exact KX
         all_goals try(exfalso;(try simp_all[af]);(try omega);done)
         all_goals(exfalso;refine hbad true true hfk ?_ ?_ rfl rfl <;> simp_all <;> omega)
        | false=>
         rw[hfk]at hK
         repeat' ((conv=>whnf);first|refine ep ?_|apply aZ|apply oi|(apply fi<;>intro h)|refine⟨j,rfl,hjm,?_⟩|refine⟨(nR f),(ab hf),?_⟩|refine⟨f,x.tr,rfl,ab hx,?_⟩|refine cl hE ?_|refine cl hN ?_|refine cl hK ?_|refine⟨_,rfl,?_⟩|exact rfl)
         all_goals try exact⟨KO⟩
         all_goals try exact KX
         all_goals try(exfalso;(try simp_all[af]);(try omega);done)
     ·rw[List.drop_eq_nil_of_le (by omega),fP]at hr
      repeat' ((conv=>whnf);first|refine Or.inl ?_|apply oi|(apply fi<;>intro h)|refine⟨_,rfl,?_⟩|exact rfl)
      all_goals try exact⟨KO⟩
      all_goals try exact KX
      conv=>whnf
      refine⟨{k:Nat // k≤l.length},fun q=>⟨[(0,vP l),(6,tI .i64 (next:Int)),(10,.r (.c (.own (10,0,0)))),(94,tI .i64 ((l.map FX.tr).length:Int)),(95,tI .i64 (q.1:Int))],[((10,0,0),some (.arr true 1 (((List.range q.1).map fun j:Nat=>bc l (j:Int)).map aa)))],[10]⟩,fun q=>l.length - q.1,⟨0,by omega⟩,?_,?_⟩
      ·skip
       repeat' ((conv=>whnf);first|refine Or.inl ?_|apply oi|(apply fi<;>intro h)|refine⟨_,rfl,?_⟩|exact rfl)
       all_goals try exact⟨KO⟩
      intro⟨k,hk⟩
      dsimp only at hk ⊢
      have hral:(((List.range k).map fun j:Nat=>bc l (j:Int)).map aa).length=k:=by simp
      by_cases hlt:k < l.length
      ·have hS:=ng l (k:Int) hl
       repeat' ((conv=>whnf);first|refine ep ?_|apply aZ|apply oi|(apply fi<;>intro h)|refine cl hS ?_|refine⟨_,rfl,?_⟩|exact rfl)
       all_goals try exact⟨KO⟩
       all_goals try exact KX
       all_goals try exact⟨⟨by simp <;> omega,by simp <;> omega⟩⟩
       conv=>whnf
       refine⟨⟨k+1,by omega⟩,?_,KD⟩
       repeat' ((conv=>whnf);first|refine ep ?_|apply aZ|apply oi|(apply fi<;>intro h)|refine⟨_,rfl,?_⟩|exact rfl)
       all_goals try exact⟨KO⟩
       all_goals try exact⟨K4⟩
       all_goals exact⟨by simp[List.range_succ,aa]⟩
      ·have hkl:k=l.length:=by omega
       subst hkl
       obtain⟨Q,hQ⟩:∃Q,jq l=Q:=⟨_,rfl⟩
       rw[hQ]at hr
       rw[jq]at hQ
       repeat' ((conv=>whnf);first|refine Or.inl ?_|apply oi|(apply fi<;>intro h)|refine⟨_,rfl,?_⟩|exact rfl)
       all_goals try exact⟨KO⟩
       all_goals try exact KX
       conv=>whnf
       refine⟨{k:Nat // k≤l.length∧dl l 0 l.length (l.length - k) k=Q},fun q=>⟨[(0,vP l),(6,tI .i64 (next:Int)),(10,.r (.c (.own (10,0,0)))),(105,vP l),(106,tI .i64 ((l.map FX.tr).length:Int)),(107,tI .i64 (q.1:Int))],[((10,0,0),some (.arr true 1 (((List.range l.length).map fun j:Nat=>bc l (j:Int)).map aa)))],[10]⟩,fun q=>l.length - q.1,⟨0,by omega,by rw[Nat.sub_zero];exact hQ⟩,?_,?_⟩
       ·skip
        repeat' ((conv=>whnf);first|refine Or.inl ?_|apply oi|(apply fi<;>intro h)|refine⟨_,rfl,?_⟩|exact rfl)
        all_goals try exact⟨KO⟩
       intro⟨k,hk,hq⟩
       dsimp only at hk hq ⊢
       by_cases hlt:k < l.length
       ·obtain⟨x,hx⟩:=ae hlt
        rw[wE hlt hx]at hq
        have hC:=iA ((List.range l.length).map fun j:Nat=>bc l (j:Int)) (k:Int) (by simp;omega)
        rw[Cw hlt]at hC
        by_cases h4:x.faa=4
        ·rw[if_pos h4,Nat.sub_zero]at hq
         cases ha:mW l k k 0 with
         | false=>
          rw[ha]at hC hq
          rw[Bool.false_and]at hq
          subst hq
          rw[Bool.false_and]at hr
          subst hr
          repeat' ((conv=>whnf);first|refine Or.inl ?_|apply oi|(apply fi<;>intro h)|refine⟨k,x.tr,rfl,ab hx,?_⟩|refine ci hC (ai rfl (ai rfl trivial)) ?_|refine⟨_,rfl,?_⟩|exact rfl)
          all_goals try exact⟨KO⟩
          all_goals try exact KX
          all_goals try(exfalso;(try simp_all[af]);(try omega);done)
         | true=>
          rw[ha]at hC hq
          rw[Bool.true_and]at hq
          repeat' ((conv=>whnf);first|refine Or.inl ?_|apply oi|(apply fi<;>intro h)|refine⟨k,x.tr,rfl,ab hx,?_⟩|refine ci hC (ai rfl (ai rfl trivial)) ?_|refine⟨_,rfl,?_⟩|exact rfl)
          all_goals try exact⟨KO⟩
          all_goals try exact KX
          all_goals try(exfalso;(try simp_all[af]);(try omega);done)
          conv=>whnf
          refine⟨⟨k+1,by omega,hq⟩,?_,KD⟩
          repeat' ((conv=>whnf);first|refine Or.inl ?_|apply oi|(apply fi<;>intro h)|refine⟨_,rfl,?_⟩|exact rfl)
          all_goals try exact⟨KO⟩
          all_goals try exact⟨K4⟩
        ·rw[if_neg h4,Bool.true_and]at hq
         repeat' ((conv=>whnf);first|refine Or.inl ?_|apply oi|(apply fi<;>intro h)|refine⟨k,x.tr,rfl,ab hx,?_⟩|refine ci hC (ai rfl (ai rfl trivial)) ?_|refine⟨_,rfl,?_⟩|exact rfl)
         all_goals try exact⟨KO⟩
         all_goals try exact KX
         all_goals try(exfalso;(try simp_all[af]);(try omega);done)
         conv=>whnf
         refine⟨⟨k+1,by omega,hq⟩,?_,KD⟩
         repeat' ((conv=>whnf);first|refine Or.inl ?_|apply oi|(apply fi<;>intro h)|refine⟨_,rfl,?_⟩|exact rfl)
         all_goals try exact⟨KO⟩
         all_goals try exact⟨K4⟩
       ·rw[show l.length - k=0 by omega]at hq
        have hq:true=Q:=hq
        subst hq
        rw[Bool.true_and]at hr
        subst hr
        repeat' ((conv=>whnf);first|refine Or.inl ?_|apply oi|(apply fi<;>intro h)|refine⟨_,rfl,?_⟩|exact rfl)
        all_goals try exact⟨KO⟩
        all_goals try exact KX
        all_goals(refine⟨congrArg Tr.bool ?_⟩;rw[hlen,Bool.eq_iff_iff];simp;omega)
 ·have:az l=false:=by
   unfold az
   by_cases h60:l.length≤60
   ·rw[decide_eq_false (show ¬(1≤(an l).length∧(an l).length≤6) from fun h=>c1 ⟨h60,h⟩)];simp
   ·rw[decide_eq_false h60,Bool.false_and]
  rw[this]
  by_cases h60:l.length≤60
  ·have hw:af (((an l).map fun n:Nat=>aa n).length:Int) 1 6=false:=by
    cases hx:af (((an l).map fun n:Nat=>aa n).length:Int) 1 6 with
    | false=>rfl
    | true=>have:=within_iff.1 hx;rw[hfl]at this;exact absurd ⟨h60,by omega,by omega⟩ c1
   rw[hw]at hB
   repeat' ((conv=>whnf);first|refine Or.inl ?_|apply oi|(apply fi<;>intro h)|refine ci hF (ai rfl trivial) ?_|refine ci hB (ai rfl (ai rfl (ai rfl trivial))) ?_|refine⟨_,rfl,?_⟩|exact rfl)
   all_goals try exact⟨KO⟩
   all_goals try exact KX
   all_goals try(exfalso;(try simp_all[af]);(try omega);done)
  ·skip
   repeat' ((conv=>whnf);first|refine Or.inl ?_|apply oi|(apply fi<;>intro h)|refine ci hF (ai rfl trivial) ?_|refine ci hB (ai rfl (ai rfl (ai rfl trivial))) ?_|refine⟨_,rfl,?_⟩|exact rfl)
   all_goals try exact⟨KO⟩
   all_goals try exact KX
   all_goals try(exfalso;(try simp_all[af]);(try omega);done)
theorem Ap {p q:Prop}[Decidable p][Decidable q]{α:Type}{a b:α}{r:α}(hp:p):((if p∧q then a else b)=r)=((if q then a else b)=r):=by
 by_cases hq:q
 ·rw[if_pos ⟨hp,hq⟩,if_pos hq]
 ·rw[if_neg (fun h=>hq h.2),if_neg hq]
theorem Em {l:List FX}{j i:Nat}:(bc l (j:Int)==(i:Int))=(elseAt l j==some i):=by
 rw[bc,if_pos (by omega),Int.toNat_natCast]
 cases elseAt l j with
 | none=>simp[cp]
 | some m=>rw[Bool.eq_iff_iff];simp[cp];omega
theorem sX (l:List FX)(k e:Nat)(hl:l.length≤60)(hs:∀x∈l,aw 1048576 x.tr)(he:endAt l k=some e):Sim.Spec Tryz.prog 122 [tvP l,tvI k,tvI e] (rB (mi l k e)):=by
 refine aJ hΓ ao Tryz.func122 rfl (by decide) rfl ?_
 have hlen:(l.map FX.tr).length=l.length:=by simp
 have hL:=gK l k (by omega) hs
 obtain⟨hloc1,hloc2⟩:=wg (l:=l) (k:=(k:Int)) (by omega) hs
 have hst0:=(aC he)
 obtain⟨x0,hx0,ho0,he0,hke,hel⟩:=hst0
 unfold mi
 generalize localsOf l (k:Int)=loc at *
 have hll:(loc.map ag).length=loc.length:=by simp
 by_cases h8:loc.length≤8
 ·rw[decide_eq_true h8,Bool.true_and]
  obtain⟨R,hR⟩:∃R,lh l loc k e (e - (k+1)) (k+1) 0=R:=⟨_,rfl⟩
  rw[hR]
  repeat' ((conv=>whnf);first|apply Wx|apply W6|apply oi|(apply fi<;>intro h)|refine cl hL ?_|refine⟨_,rfl,?_⟩|exact rfl)
  all_goals try exact⟨KP⟩
  all_goals try exact KX
  conv=>whnf
  refine⟨{q:Nat×List Nat // k < q.1∧q.1≤e∧StkOk l e q.1 q.2∧q.2.length≤4∧lh l loc k e (e - q.1) q.1 q.2.length=R},fun q=>⟨[(0,vP l),(1,tI .i64 (k:Int)),(2,tI .i64 (e:Int)),(7,.r (.c (.own (7,0,0)))),(8,tI .i64 ((q.1.2.length:Nat):Int)),(9,tI .i64 (q.1.1:Int))],[((7,0,0),some (.arr true 1 (loc.map ag)))],[7]⟩,fun q=>e - q.1.1,⟨(k+1,[]),by dsimp only;omega,by dsimp only;omega,he0,by simp,hR⟩,?_,?_⟩
  ·skip
   repeat' ((conv=>whnf);first|apply Wx|apply W6|apply oi|(apply fi<;>intro h)|refine⟨_,rfl,?_⟩|exact rfl)
   all_goals try exact⟨KP⟩
   all_goals try exact⟨K4⟩
  intro⟨⟨i,es⟩,q1,q2,g1,g2,g4⟩
  dsimp only at q1 q2 g1 g2 g4 ⊢
  by_cases hlt:i < e
  ·obtain⟨y,hy⟩:=ae (l:=l) (k:=i) (by omega)
   have hel3:(y.fad.map Gf.tr).length=y.fad.length:=by simp
   have hysm:=(cD (hs y (List.mem_of_getElem? hy))).2.2.2.1
   obtain⟨K,hK⟩:∃K,bB l loc y.fad=K:=⟨_,rfl⟩
   rw[Ag hlt hy,hK]at g4
   by_cases h0:y.faa=0
   ·rw[if_pos h0]at g4
    subst g4
    repeat' ((conv=>whnf);first|apply Wx|apply W6|apply oi|(apply fi<;>intro h)|refine⟨i,y.tr,rfl,ab hy,?_⟩|refine⟨_,rfl,?_⟩|exact rfl)
    all_goals try exact⟨KP⟩
    all_goals try exact KX
    all_goals try(exfalso;simp_all;done)
   ·rw[if_neg h0]at g4
    repeat' ((conv=>whnf);first|(with_reducible apply W1;fail_if_success (with_reducible show Wo _ _ _ _ (Code.seq (Code.region 8 _ _) _) _ _))|(with_reducible first|apply W2|apply W3|apply W4|apply W5|apply W6|apply W7|apply W8|apply W9)|apply aZ|apply oi|(apply fi<;>intro h)|refine⟨i,y.tr,rfl,ab hy,?_⟩|refine⟨_,rfl,?_⟩|exact rfl)
    all_goals try exact⟨KP⟩
    all_goals try exact KX
    refine ip {q:Nat×List Nat // StkOk l e (i+1) q.2∧q.1=q.2.length∧q.1≤60∧(if q.1≤4∧K=true then lh l loc k e (e - (i+1)) (i+1) q.1 else false)=R} (fun q=>⟨[(0,vP l),(1,tI .i64 (k:Int)),(2,tI .i64 (e:Int)),(7,.r (.c (.own (7,0,0)))),(8,tI .i64 ((q.1.1:Nat):Int)),(9,tI .i64 (i:Int))],[((7,0,0),some (.arr true 1 (loc.map ag)))],[7]⟩) ?_ ?_
    ·by_cases h35:y.faa=3∨y.faa=5
     ·rw[if_neg (fun h=>by omega)]at g4
      have hd:dep y es.length=es.length+1:=by unfold dep;rw[if_pos h35]
      rw[hd]at g4
      obtain⟨m',hm',him,hst'⟩:=g1.push hy (opensK_iff.2 (by omega))
      have hwd:IntKind.i64.wrap ((es.length:Int)+1)=((es.length+1:Nat):Int):=by rw[IntWalk.i64_in _ (by omega)];omega
      repeat' ((conv=>whnf);first|apply Wx|apply W6|apply oi|(apply fi<;>intro h)|refine⟨i,y.tr,rfl,ab hy,?_⟩|refine⟨_,rfl,?_⟩|exact rfl)
      all_goals try exact⟨KP⟩
      all_goals try exact KX
      all_goals try(exfalso;simp_all;done)
      all_goals
       conv=>whnf
       refine⟨⟨(es.length+1,m'::es),hst',rfl,by dsimp only;omega,g4⟩,?_⟩
       repeat' ((conv=>whnf);first|apply Wx|apply W6|apply oi|(apply fi<;>intro h)|refine⟨_,rfl,?_⟩|exact rfl)
       all_goals try exact⟨KP⟩
       all_goals try exact⟨by dsimp only;rw[hwd]⟩
     ·by_cases h7':y.faa=7
      ·rw[if_neg (fun h=>by omega)]at g4
       rcases g1.pop hy h7' with⟨_,h'⟩|⟨es',hes,hst'⟩
       ·omega
       have hd:dep y es.length=es'.length:=by unfold dep;rw[if_neg h35,if_pos h7',hes];simp
       have hl4:es.length=es'.length+1:=by rw[hes];rfl
       rw[hd]at g4
       have hwd:IntKind.i64.wrap ((es.length:Int) - 1)=(es'.length:Int):=by rw[IntWalk.i64_in _ (by omega)];omega
       repeat' ((conv=>whnf);first|apply Wx|apply W6|apply oi|(apply fi<;>intro h)|refine⟨i,y.tr,rfl,ab hy,?_⟩|refine⟨_,rfl,?_⟩|exact rfl)
       all_goals try exact⟨KP⟩
       all_goals try exact KX
       all_goals try(exfalso;simp_all;done)
       conv=>whnf
       refine⟨⟨(es'.length,es'),hst',rfl,by dsimp only;omega,g4⟩,?_⟩
       repeat' ((conv=>whnf);first|apply Wx|apply W6|apply oi|(apply fi<;>intro h)|refine⟨_,rfl,?_⟩|exact rfl)
       all_goals try exact⟨KP⟩
       all_goals try exact⟨by dsimp only;rw[hwd]⟩
      ·have hd:dep y es.length=es.length:=by unfold dep;rw[if_neg h35,if_neg h7']
       have ho:cf y.faa=false:=by
        cases hh:cf y.faa with
        | false=>rfl
        | true=>rw[opensK_iff]at hh;omega
       have hst':=g1.other hy ho h7'
       rw[hd]at g4
       by_cases h4:y.faa=4
       ·obtain⟨Av,hA⟩:∃Av,mW l i (i - k) k=Av:=⟨_,rfl⟩
        rw[hA]at g4
        repeat' ((conv=>whnf);first|apply Wx|apply W6|apply oi|(apply fi<;>intro h)|refine⟨i,y.tr,rfl,ab hy,?_⟩|refine⟨_,rfl,?_⟩|exact rfl)
        all_goals try exact⟨KP⟩
        all_goals try exact KX
        all_goals try(exfalso;simp_all;done)
        conv=>whnf
        refine⟨{q:Nat×Bool // q.1≤i∧(q.2 || mW l i (i - q.1) q.1)=Av},fun q=>⟨[(0,vP l),(1,tI .i64 (k:Int)),(2,tI .i64 (e:Int)),(7,.r (.c (.own (7,0,0)))),(8,tI .i64 ((es.length:Nat):Int)),(9,tI .i64 (i:Int)),(10,tB q.1.2),(11,tI .i64 (q.1.1:Int))],[((7,0,0),some (.arr true 1 (loc.map ag)))],[7]⟩,fun q=>i - q.1.1,⟨(k,false),by dsimp only;omega,by simpa using hA⟩,?_,?_⟩
        ·skip
         repeat' ((conv=>whnf);first|apply Wx|apply W6|apply oi|(apply fi<;>intro h)|refine⟨_,rfl,?_⟩|exact rfl)
         all_goals try exact⟨KP⟩
        intro⟨⟨j,b⟩,hj,hb⟩
        dsimp only at hj hb ⊢
        by_cases hji:j < i
        ·obtain⟨n,hn⟩:∃n,i - j=n+1:=⟨i - j - 1,by omega⟩
         have hn2:i - (j+1)=n:=by omega
         rw[hn,mW,←Em]at hb
         have hS:=jD l (j:Int) (by omega)
         generalize bc l (j:Int)=ee at *
         cases b with
         | true=>
          repeat' ((conv=>whnf);first|apply Wx|apply W6|apply oi|(apply fi<;>intro h)|refine cl hS ?_|refine⟨_,rfl,?_⟩|exact rfl)
          all_goals try exact⟨KP⟩
          all_goals try exact KX
          conv=>whnf
          refine⟨⟨(j+1,true),by dsimp only;omega,by simpa using hb⟩,?_,KD⟩
          repeat' ((conv=>whnf);first|apply Wx|apply W6|apply oi|(apply fi<;>intro h)|refine⟨_,rfl,?_⟩|exact rfl)
          all_goals try exact⟨KP⟩
          all_goals try exact⟨K4⟩
         | false=>
          repeat' ((conv=>whnf);first|apply Wx|apply W6|apply oi|(apply fi<;>intro h)|refine cl hS ?_|refine⟨_,rfl,?_⟩|exact rfl)
          all_goals try exact⟨KP⟩
          all_goals try exact KX
          conv=>whnf
          refine⟨⟨(j+1,(ee==(i:Int))),by dsimp only;omega,by dsimp only;rw[hn2];simpa using hb⟩,?_,KD⟩
          repeat' ((conv=>whnf);first|apply Wx|apply W6|apply oi|(apply fi<;>intro h)|refine⟨_,rfl,?_⟩|exact rfl)
          all_goals try exact⟨KP⟩
          all_goals try exact⟨K4⟩
        ·rw[show i - j=0 by omega,mW,Bool.or_false]at hb
         subst hb
         cases b with
         | false=>
          rw[if_pos ⟨h4,rfl⟩]at g4
          subst g4
          repeat' ((conv=>whnf);first|apply Wx|apply W6|apply oi|(apply fi<;>intro h)|refine⟨_,rfl,?_⟩|exact rfl)
          all_goals try exact⟨KP⟩
          all_goals try exact KX
         | true=>
          rw[if_neg (by simp)]at g4
          repeat' ((conv=>whnf);first|apply Wx|apply W6|apply oi|(apply fi<;>intro h)|refine⟨_,rfl,?_⟩|exact rfl)
          all_goals try exact⟨KP⟩
          all_goals try exact KX
          conv=>whnf
          refine⟨⟨(es.length,es),hst',rfl,by dsimp only;omega,g4⟩,?_⟩
          repeat' ((conv=>whnf);first|apply Wx|apply W6|apply oi|(apply fi<;>intro h)|refine⟨_,rfl,?_⟩|exact rfl)
          all_goals try exact⟨KP⟩
       ·rw[if_neg (fun h=>h4 h.1)]at g4
        repeat' ((conv=>whnf);first|apply Wx|apply W6|apply oi|(apply fi<;>intro h)|refine⟨i,y.tr,rfl,ab hy,?_⟩|refine⟨_,rfl,?_⟩|exact rfl)
        all_goals try exact⟨KP⟩
        all_goals try exact KX
        all_goals try(exfalso;simp_all;done)
        conv=>whnf
        refine⟨⟨(es.length,es),hst',rfl,by dsimp only;omega,g4⟩,?_⟩
        repeat' ((conv=>whnf);first|apply Wx|apply W6|apply oi|(apply fi<;>intro h)|refine⟨_,rfl,?_⟩|exact rfl)
        all_goals try exact⟨KP⟩
    clear g4 g1
    intro⟨⟨d,es'⟩,hst',hdl,hd60,g4⟩
    dsimp only at hst' hdl hd60 g4 ⊢
    have hwd:(d:Int)=(d:Int):=rfl
    by_cases hd4:(d)≤4
    ·rw[Ap hd4]at g4
     repeat' ((conv=>whnf);first|apply Wx|apply W6|apply oi|(apply fi<;>intro h)|refine⟨i,y.tr,rfl,ab hy,?_⟩|refine⟨_,rfl,?_⟩|exact rfl)
     all_goals try exact⟨KP⟩
     all_goals try exact KX
     all_goals try(exfalso;simp only[decide_eq_false_iff_not,decide_eq_true_eq]at h;omega)
     conv=>whnf
     refine⟨{j:Nat // j≤y.fad.length∧(y.fad.drop j).all (bP l loc)=K},fun q=>⟨[(0,vP l),(1,tI .i64 (k:Int)),(2,tI .i64 (e:Int)),(7,.r (.c (.own (7,0,0)))),(8,tI .i64 (d:Int)),(9,tI .i64 (i:Int)),(12,tI .i64 (q.1:Int))],[((7,0,0),some (.arr true 1 (loc.map ag)))],[7]⟩,fun q=>y.fad.length - q.1,⟨0,by omega,hK⟩,?_,?_⟩
     ·skip
      repeat' ((conv=>whnf);first|apply Wx|apply W6|apply oi|(apply fi<;>intro h)|refine⟨_,rfl,?_⟩|exact rfl)
      all_goals try exact⟨KP⟩
     intro⟨j,hj,hk2⟩
     dsimp only at hj hk2 ⊢
     by_cases hjl:j < y.fad.length
     ·obtain⟨t,ht⟩:=ae hjl
      rw[zx ht]at hk2
      have hI:=eR loc t.fab (by omega)
      have hF:=dk l t.fab (by omega)
      by_cases h1:t.faa=1
      ·have e1:bP l loc t=loc.contains t.fab:=by unfold bP;rw[if_pos h1]
       rw[e1]at hk2
       have hix:=mz (l:=loc) (s:=t.fab)
       generalize cQ loc t.fab=ix at *
       generalize eH l t.fab=ff at *
       cases hc:loc.contains t.fab with
       | false=>
        rw[hc]at hix hk2
        rw[Bool.false_and]at hk2
        subst hk2
        rw[if_neg (by simp)]at g4
        subst g4
        repeat' ((conv=>whnf);first|apply Wx|apply W6|apply oi|(apply fi<;>intro h)|refine⟨i,y.tr,rfl,ab hy,?_⟩|refine⟨j,t.tr,rfl,ab ht,?_⟩|refine cl hI ?_|refine cl hF ?_|refine⟨_,rfl,?_⟩|exact rfl)
        all_goals try exact⟨KP⟩
        all_goals try exact KX
        all_goals try(exfalso;(try simp_all[af]);(try omega);done)
       | true=>
        rw[hc]at hix hk2
        rw[Bool.true_and]at hk2
        repeat' ((conv=>whnf);first|apply Wx|apply W6|apply oi|(apply fi<;>intro h)|refine⟨i,y.tr,rfl,ab hy,?_⟩|refine⟨j,t.tr,rfl,ab ht,?_⟩|refine cl hI ?_|refine cl hF ?_|refine⟨_,rfl,?_⟩|exact rfl)
        all_goals try exact⟨KP⟩
        all_goals try exact KX
        all_goals try(exfalso;(try simp_all[af]);(try omega);done)
        all_goals try(exfalso;simp_all;done)
        conv=>whnf
        refine⟨⟨j+1,by omega,hk2⟩,?_,KD⟩
        repeat' ((conv=>whnf);first|apply Wx|apply W6|apply oi|(apply fi<;>intro h)|refine⟨_,rfl,?_⟩|exact rfl)
        all_goals try exact⟨KP⟩
        all_goals try exact⟨K4⟩
      ·by_cases h7:t.faa=7
       ·cases hf:findN l 0 t.fab with
        | none=>
         have e1:bP l loc t=false:=by unfold bP;rw[if_neg h1,if_pos h7,hf]
         rw[e1,Bool.false_and]at hk2
         subst hk2
         rw[if_neg (by simp)]at g4
         subst g4
         rw[show eH l t.fab= -1 from ir hf]at hF
         repeat' ((conv=>whnf);first|apply Wx|apply W6|apply oi|(apply fi<;>intro h)|refine⟨i,y.tr,rfl,ab hy,?_⟩|refine⟨j,t.tr,rfl,ab ht,?_⟩|refine cl hI ?_|refine cl hF ?_|refine⟨_,rfl,?_⟩|exact rfl)
         all_goals try exact⟨KP⟩
         all_goals try exact KX
         all_goals try(exfalso;(try simp_all[af]);(try omega);done)
        | some f=>
         obtain⟨hfl,x,hx,hx0,_⟩:=fe hf
         have e1:bP l loc t=((x.faf.length:Int)==t.fai):=by unfold bP;rw[if_neg h1,if_pos h7,hf];dsimp only;rw[hx]
         rw[e1]at hk2
         rw[show eH l t.fab=(f:Int) from ba hf]at hF
         have hxl:(x.faf.map ag).length=x.faf.length:=by simp
         by_cases hn:(x.faf.length:Int)=t.fai
         ·rw[beq_iff_eq.2 hn,Bool.true_and]at hk2
          repeat' ((conv=>whnf);first|apply Wx|apply W6|apply oi|(apply fi<;>intro h)|refine⟨i,y.tr,rfl,ab hy,?_⟩|refine⟨j,t.tr,rfl,ab ht,?_⟩|refine⟨f,x.tr,rfl,ab hx,?_⟩|refine cl hI ?_|refine cl hF ?_|refine⟨_,rfl,?_⟩|exact rfl)
          all_goals try exact⟨KP⟩
          all_goals try exact KX
          all_goals try(exfalso;(try simp_all[af]);(try omega);done)
          all_goals try(exfalso;simp_all;done)
          conv=>whnf
          refine⟨⟨j+1,by omega,hk2⟩,?_,KD⟩
          repeat' ((conv=>whnf);first|apply Wx|apply W6|apply oi|(apply fi<;>intro h)|refine⟨_,rfl,?_⟩|exact rfl)
          all_goals try exact⟨KP⟩
          all_goals try exact⟨K4⟩
         ·rw[beq_eq_false_iff_ne.2 hn,Bool.false_and]at hk2
          subst hk2
          rw[if_neg (by simp)]at g4
          subst g4
          repeat' ((conv=>whnf);first|apply Wx|apply W6|apply oi|(apply fi<;>intro h)|refine⟨i,y.tr,rfl,ab hy,?_⟩|refine⟨j,t.tr,rfl,ab ht,?_⟩|refine⟨f,x.tr,rfl,ab hx,?_⟩|refine cl hI ?_|refine cl hF ?_|refine⟨_,rfl,?_⟩|exact rfl)
          all_goals try exact⟨KP⟩
          all_goals try exact KX
          all_goals try(exfalso;(try simp_all[af]);(try omega);done)
          all_goals try(exfalso;simp_all;done)
       ·have e1:bP l loc t=true:=by unfold bP;rw[if_neg h1,if_neg h7]
        rw[e1,Bool.true_and]at hk2
        repeat' ((conv=>whnf);first|apply Wx|apply W6|apply oi|(apply fi<;>intro h)|refine⟨i,y.tr,rfl,ab hy,?_⟩|refine⟨j,t.tr,rfl,ab ht,?_⟩|refine cl hI ?_|refine cl hF ?_|refine⟨_,rfl,?_⟩|exact rfl)
        all_goals try exact⟨KP⟩
        all_goals try exact KX
        all_goals try(exfalso;(try simp_all[af]);(try omega);done)
        all_goals try(exfalso;simp_all;done)
        conv=>whnf
        refine⟨⟨j+1,by omega,hk2⟩,?_,KD⟩
        repeat' ((conv=>whnf);first|apply Wx|apply W6|apply oi|(apply fi<;>intro h)|refine⟨_,rfl,?_⟩|exact rfl)
        all_goals try exact⟨KP⟩
        all_goals try exact⟨K4⟩
     ·rw[List.drop_eq_nil_of_le (by omega),List.all_nil]at hk2
      subst hk2
      rw[if_pos rfl]at g4
      repeat' ((conv=>whnf);first|apply Wx|apply W6|apply oi|(apply fi<;>intro h)|refine⟨i,y.tr,rfl,ab hy,?_⟩|refine⟨_,rfl,?_⟩|exact rfl)
      all_goals try exact⟨KP⟩
      all_goals try(exfalso;have h':=of_decide_eq_true h;rw[hel3]at h';omega)
      conv=>whnf
      refine⟨⟨(i+1,es'),by dsimp only;omega,by dsimp only;omega,hst',by dsimp only;omega,by dsimp only;rw[←hdl];exact g4⟩,?_,KD⟩
      repeat' ((conv=>whnf);first|apply Wx|apply W6|apply oi|(apply fi<;>intro h)|refine⟨_,rfl,?_⟩|exact rfl)
      all_goals try exact⟨KP⟩
      all_goals try exact⟨by dsimp only;rw[hdl]⟩
      all_goals try exact⟨K4⟩
    ·rw[if_neg (fun h=>hd4 h.1)]at g4
     subst g4
     repeat' ((conv=>whnf);first|apply Wx|apply W6|apply oi|(apply fi<;>intro h)|refine⟨i,y.tr,rfl,ab hy,?_⟩|refine⟨_,rfl,?_⟩|exact rfl)
     all_goals try exact⟨KP⟩
     all_goals try exact KX
     all_goals try(exfalso;simp only[decide_eq_false_iff_not,decide_eq_true_eq]at h;omega)
  ·rw[Ce (by omega)]at g4
   subst g4
   repeat' ((conv=>whnf);first|apply Wx|apply W6|apply oi|(apply fi<;>intro h)|refine⟨_,rfl,?_⟩|exact rfl)
   all_goals try exact⟨KP⟩
   all_goals try exact KX
 ·rw[decide_eq_false h8,Bool.false_and]
  repeat' ((conv=>whnf);first|apply Wx|apply W6|apply oi|(apply fi<;>intro h)|refine cl hL ?_|refine⟨_,rfl,?_⟩|exact rfl)
  all_goals try exact⟨KP⟩
  all_goals try exact KX
theorem Du {l:List FX}:(an l).all (bg l)=true↔∀k x,l[k]?=some x→x.faa=0→bg l k=true:=by
 rw[List.all_eq_true]
 constructor
 ·intro H k x hx h0
  refine H k ?_
  have key:∀(n i:Nat),l.length - i≤n→i≤k→k∈funsF (l.drop i) i:=by
   have hkl:k < l.length:=by
    rcases Nat.lt_or_ge k l.length with h|h
    ·exact h
    ·rw[List.getElem?_eq_none h]at hx;cases hx
   intro n
   induction n with
   | zero=>intro i h1 h2;omega
   | succ n ih=>
    intro i h1 h2
    obtain⟨y,hy⟩:=ae (l:=l) (k:=i) (by omega)
    rw[jN hy,List.mem_append]
    by_cases hik:i=k
    ·subst hik
     rw[hx]at hy
     injection hy with hy
     subst hy
     rw[if_pos h0]
     exact .inl (by simp)
    ·exact .inr (ih (i+1) (by omega) (by omega))
  have:=key l.length 0 (by omega) (by omega)
  rwa [List.drop_zero]at this
 ·intro H k hk
  obtain⟨_,x,hx,h0⟩:=gZ hk
  exact H k x hx h0
def ok1 (l:List FX)(k:Nat)(x:FX):Bool:=co x && (if x.faa=0 then bg l k else true)
def okN (l:List FX):Nat→Nat→Bool
 | 0,_=>true
 | n+1,k=>match l[k]? with
  | some x=>ok1 l k x && okN l n (k+1)
  | none=>true
theorem zr {l:List FX}{k:Nat}{x:FX}(hx:l[k]?=some x):okN l (l.length - k) k=(ok1 l k x && okN l (l.length - (k+1)) (k+1)):=by
 have hk:k < l.length:=by
  rcases Nat.lt_or_ge k l.length with h|h
  ·exact h
  ·rw[List.getElem?_eq_none h]at hx;cases hx
 rw[show l.length - k=(l.length - (k+1))+1 by omega,okN,hx]
theorem xq {l:List FX}:∀(n k:Nat),l.length - k≤n→(okN l (l.length - k) k=true↔∀j x,k≤j→l[j]?=some x→ok1 l j x=true)
 | n,k,hn=>by
  by_cases hk:k < l.length
  ·obtain⟨x,hx⟩:=ae hk
   cases n with
   | zero=>omega
   | succ n=>
    rw[zr hx,Bool.and_eq_true,xq n (k+1) (by omega)]
    constructor
    ·rintro⟨h1,h2⟩ j y hj hy
     by_cases hjk:j=k
     ·subst hjk
      rw[hx]at hy
      injection hy with hy
      subst hy
      exact h1
     ·exact h2 j y (by omega) hy
    ·intro H
     exact⟨H k x (Nat.le_refl _) hx,fun j y hj hy=>H j y (by omega) hy⟩
  ·rw[show l.length - k=0 by omega]
   refine⟨fun _ j x hj hx=>?_,fun _=>rfl⟩
   rw[List.getElem?_eq_none (by omega)]at hx
   cases hx
theorem Ec (l:List FX):okN l l.length 0=(l.all co && (an l).all (bg l)):=by
 have h0:=xq (l:=l) l.length 0 (by omega)
 rw[Nat.sub_zero]at h0
 rw[Bool.eq_iff_iff,h0,Bool.and_eq_true,Du,List.all_eq_true]
 constructor
 ·intro H
  refine⟨fun x hx=>?_,fun k x hx h0=>?_⟩
  ·obtain⟨k,hk⟩:=List.getElem?_of_mem hx
   have:=H k x (by omega) hk
   rw[ok1,Bool.and_eq_true]at this
   exact this.1
  ·have:=H k x (by omega) hx
   rw[ok1,Bool.and_eq_true,if_pos h0]at this
   exact this.2
 ·rintro⟨H1,H2⟩ j x _ hx
  rw[ok1,Bool.and_eq_true]
  refine⟨H1 x (List.mem_of_getElem? hx),?_⟩
  split
  ·exact H2 j x hx (by assumption)
  ·rfl
theorem ri {l:List FX}:az l=(decide (l.length≤60) && (decide ((an l).length≤6) && (lz l && (okN l l.length 0 && bH (mi l) l l.length 0)))):=by
 unfold az
 rw[Ec,uc]
 cases hh:lz l with
 | false=>simp
 | true=>
  have h1:1≤(an l).length:=by
   cases l with
   | nil=>cases hh
   | cons x r=>
    have:x.faa=0:=by
     unfold lz at hh
     simp only[Bool.and_eq_true,beq_iff_eq]at hh
     exact hh.1
    rw[an,funsF,if_pos this]
    simp
  have e:(decide (1≤(an l).length∧(an l).length≤6))=decide ((an l).length≤6):=by
   rw[decide_eq_decide]
   omega
  rw[e]
  generalize decide (l.length≤60)=b1
  generalize decide ((an l).length≤6)=b2
  generalize l.all co=b3
  generalize(an l).all (bg l)=b4
  generalize jq l=b5
  generalize bH (iW l) l l.length 0=b6
  cases b1 <;> cases b2 <;> cases b3 <;> cases b4 <;> cases b5 <;> cases b6 <;> rfl
theorem eA (l:List FX)(hsm:ay 1048576 (.lst 4 (l.map FX.tr))):Sim.Spec Tryz.prog 47 [tvP l] (rB (az l)):=by
 refine aJ hΓ ao Tryz.func47 rfl (by decide) rfl ?_
 have hl:=aI hsm
 have hs:∀x∈l,aw 1048576 x.tr:=fun x hx=>aA hsm hx
 have hlen:(l.map FX.tr).length=l.length:=by simp
 have hF:=cv l hl
 have hfl:((an l).map fun n:Nat=>aa n).length=(an l).length:=by simp
 rw[ri]
 by_cases c1:l.length≤60
 ·rw[decide_eq_true c1,Bool.true_and]
  by_cases hpos:0 < l.length
  ·obtain⟨x0,hx0⟩:=ae hpos
   have hal:(x0.faf.map ag).length=x0.faf.length:=by simp
   have hhd:=pZ hx0
   by_cases c2:(an l).length≤6
   ·rw[decide_eq_true c2,Bool.true_and]
    cases hh:lz l with
    | false=>
     rw[hh]at hhd
     rw[Bool.false_and]
     repeat' ((conv=>whnf);first|apply Wx|apply W6|apply oi|(apply fi<;>intro h)|refine cl hF ?_|refine⟨0,x0.tr,rfl,ab hx0,?_⟩|refine⟨_,rfl,?_⟩|exact rfl)
     all_goals try exact⟨KP⟩
     all_goals try exact KX
     all_goals try(exfalso;simp_all[gz];done)
    | true=>
     rw[hh]at hhd
     rw[Bool.true_and]
     cases hok:okN l l.length 0 with
     | false=>
      rw[Bool.false_and]
      repeat' ((conv=>whnf);first|apply Wx|apply W6|apply oi|(apply fi<;>intro h)|refine cl hF ?_|refine⟨0,x0.tr,rfl,ab hx0,?_⟩|refine⟨_,rfl,?_⟩|exact rfl)
      all_goals try exact⟨KP⟩
      all_goals try exact KX
      all_goals try(exfalso;simp_all[gz];done)
      conv=>whnf
      refine⟨{k:Nat // k≤l.length∧okN l (l.length - k) k=false},fun q=>⟨[(0,vP l),(3,tI .i64 (q.1:Int))],[],[]⟩,fun q=>l.length - q.1,⟨0,by omega,by rw[Nat.sub_zero];exact hok⟩,?_,?_⟩
      ·skip
       repeat' ((conv=>whnf);first|apply Wx|apply W6|apply oi|(apply fi<;>intro h)|refine⟨_,rfl,?_⟩|exact rfl)
       all_goals try exact⟨KP⟩
      intro⟨k,hk,hr⟩
      dsimp only at hk hr ⊢
      by_cases hlt:k < l.length
      ·obtain⟨x,hx⟩:=ae hlt
       rw[zr hx,ok1]at hr
       have hL:=nq x (hs x (List.mem_of_getElem? hx))
       have hN:=dk l x.fab hl
       have hnf2:(eH l x.fab==(k:Int))=bg l k:=by
        unfold bg
        rw[hx,eH]
        dsimp only
        cases findN l 0 x.fab with
        | none=>simp[cp]
        | some m=>rw[Bool.eq_iff_iff];simp[cp];omega
       generalize eH l x.fab=ff at *
       generalize co x=lo at *
       generalize bg l k=nf at *
       by_cases h0:x.faa=0
       ·rw[if_pos h0]at hr
        repeat' ((conv=>whnf);first|apply Wx|apply W6|apply oi|(apply fi<;>intro h)|refine cl hL ?_|refine cl hN ?_|refine⟨k,x.tr,rfl,ab hx,?_⟩|refine⟨_,rfl,?_⟩|exact rfl)
        all_goals try exact⟨KP⟩
        all_goals try exact KX
        all_goals try(exfalso;simp_all;done)
        all_goals
         conv=>whnf
         refine⟨⟨k+1,by omega,by simp_all⟩,?_,KD⟩
         repeat' ((conv=>whnf);first|apply Wx|apply W6|apply oi|(apply fi<;>intro h)|refine⟨_,rfl,?_⟩|exact rfl)
         all_goals try exact⟨KP⟩
         all_goals try exact⟨K4⟩
       ·rw[if_neg h0,Bool.and_true]at hr
        repeat' ((conv=>whnf);first|apply Wx|apply W6|apply oi|(apply fi<;>intro h)|refine cl hL ?_|refine cl hN ?_|refine⟨k,x.tr,rfl,ab hx,?_⟩|refine⟨_,rfl,?_⟩|exact rfl)
        all_goals try exact⟨KP⟩
        all_goals try exact KX
        all_goals try(exfalso;simp_all;done)
        all_goals
         conv=>whnf
         refine⟨⟨k+1,by omega,by simp_all⟩,?_,KD⟩
         repeat' ((conv=>whnf);first|apply Wx|apply W6|apply oi|(apply fi<;>intro h)|refine⟨_,rfl,?_⟩|exact rfl)
         all_goals try exact⟨KP⟩
         all_goals try exact⟨K4⟩
      ·rw[show l.length - k=0 by omega]at hr
       cases hr
     | true=>
      rw[Bool.true_and]
      obtain⟨R,hR⟩:∃R,bH (mi l) l l.length 0=R:=⟨_,rfl⟩
      rw[hR]
      have hoka:=(xq (l:=l) l.length 0 (by omega))
      rw[Nat.sub_zero]at hoka
      have hoka:=hoka.1 hok
      repeat' ((conv=>whnf);first|apply Wx|apply W6|apply oi|(apply fi<;>intro h)|refine cl hF ?_|refine⟨0,x0.tr,rfl,ab hx0,?_⟩|refine⟨_,rfl,?_⟩|exact rfl)
      all_goals try exact⟨KP⟩
      all_goals try exact KX
      all_goals try(exfalso;simp_all[gz];done)
      conv=>whnf
      refine⟨{k:Nat // k≤l.length},fun q=>⟨[(0,vP l),(3,tI .i64 (q.1:Int))],[],[]⟩,fun q=>l.length - q.1,⟨0,by omega⟩,?_,?_⟩
      ·skip
       repeat' ((conv=>whnf);first|apply Wx|apply W6|apply oi|(apply fi<;>intro h)|refine⟨_,rfl,?_⟩|exact rfl)
       all_goals try exact⟨KP⟩
      intro⟨k,hk⟩
      dsimp only at hk ⊢
      by_cases hlt:k < l.length
      ·obtain⟨x,hx⟩:=ae hlt
       have hr:=hoka k x (by omega) hx
       rw[ok1]at hr
       have hL:=nq x (hs x (List.mem_of_getElem? hx))
       have hN:=dk l x.fab hl
       have hnf2:(eH l x.fab==(k:Int))=bg l k:=by
        unfold bg
        rw[hx,eH]
        dsimp only
        cases findN l 0 x.fab with
        | none=>simp[cp]
        | some m=>rw[Bool.eq_iff_iff];simp[cp];omega
       clear hoka hok
       generalize eH l x.fab=ff at *
       generalize co x=lo at *
       generalize bg l k=nf at *
       by_cases h0:x.faa=0
       ·rw[if_pos h0]at hr
        repeat' ((conv=>whnf);first|apply Wx|apply W6|apply oi|(apply fi<;>intro h)|refine cl hL ?_|refine cl hN ?_|refine⟨k,x.tr,rfl,ab hx,?_⟩|refine⟨_,rfl,?_⟩|exact rfl)
        all_goals try exact⟨KP⟩
        all_goals try exact KX
        all_goals try(exfalso;simp_all;done)
        all_goals
         conv=>whnf
         refine⟨⟨k+1,by omega⟩,?_,KD⟩
         repeat' ((conv=>whnf);first|apply Wx|apply W6|apply oi|(apply fi<;>intro h)|refine⟨_,rfl,?_⟩|exact rfl)
         all_goals try exact⟨KP⟩
         all_goals try exact⟨K4⟩
       ·rw[if_neg h0,Bool.and_true]at hr
        repeat' ((conv=>whnf);first|apply Wx|apply W6|apply oi|(apply fi<;>intro h)|refine cl hL ?_|refine cl hN ?_|refine⟨k,x.tr,rfl,ab hx,?_⟩|refine⟨_,rfl,?_⟩|exact rfl)
        all_goals try exact⟨KP⟩
        all_goals try exact KX
        all_goals try(exfalso;simp_all;done)
        all_goals
         conv=>whnf
         refine⟨⟨k+1,by omega⟩,?_,KD⟩
         repeat' ((conv=>whnf);first|apply Wx|apply W6|apply oi|(apply fi<;>intro h)|refine⟨_,rfl,?_⟩|exact rfl)
         all_goals try exact⟨KP⟩
         all_goals try exact⟨K4⟩
      ·skip
       repeat' ((conv=>whnf);first|apply Wx|apply W6|apply oi|(apply fi<;>intro h)|refine⟨_,rfl,?_⟩|exact rfl)
       all_goals try exact⟨KP⟩
       all_goals try exact KX
       conv=>whnf
       refine⟨{k:Nat // k≤l.length∧bH (mi l) l (l.length - k) k=R},fun q=>⟨[(0,vP l),(4,tI .i64 (q.1:Int))],[],[]⟩,fun q=>l.length - q.1,⟨0,by omega,by rw[Nat.sub_zero];exact hR⟩,?_,?_⟩
       ·skip
        repeat' ((conv=>whnf);first|apply Wx|apply W6|apply oi|(apply fi<;>intro h)|refine⟨_,rfl,?_⟩|exact rfl)
        all_goals try exact⟨KP⟩
       intro⟨k,hk,hr⟩
       dsimp only at hk hr ⊢
       by_cases hlt:k < l.length
       ·obtain⟨x,hx⟩:=ae hlt
        rw[jj hx (Nat.le_refl _)]at hr
        have hE:=cI l (k:Int) hl
        cases he:endAt l k with
        | none=>
         rw[bb,ir he]at hE
         rw[he]at hr
         subst hr
         repeat' ((conv=>whnf);first|apply Wx|apply W6|apply oi|(apply fi<;>intro h)|refine cl hE ?_|refine⟨k,x.tr,rfl,ab hx,?_⟩|refine⟨_,rfl,?_⟩|exact rfl)
         all_goals try exact⟨KP⟩
         all_goals try exact KX
         all_goals try(exfalso;simp_all;done)
        | some e=>
         obtain⟨_,_,_,_,hke,hel⟩:=aC he
         rw[bb,ba he]at hE
         rw[he]at hr
         dsimp only at hr
         have hK:=sX l k e c1 hs he
         generalize mi l k e=fb at *
         by_cases hc:x.faa=0∧fb=true
         ·rw[if_pos hc]at hr
          obtain⟨d1,d2⟩:=hc
          subst d2
          repeat' ((conv=>whnf);first|apply Wx|apply W6|apply oi|(apply fi<;>intro h)|refine cl hE ?_|refine cl hK ?_|refine⟨k,x.tr,rfl,ab hx,?_⟩|refine⟨_,rfl,?_⟩|exact rfl)
          all_goals try exact⟨KP⟩
          all_goals try exact KX
          all_goals try(exfalso;simp_all;done)
          conv=>whnf
          refine⟨⟨e+1,by omega,hr⟩,?_,KD⟩
          repeat' ((conv=>whnf);first|apply Wx|apply W6|apply oi|(apply fi<;>intro h)|refine⟨_,rfl,?_⟩|exact rfl)
          all_goals try exact⟨KP⟩
          all_goals try exact⟨K4⟩
         ·rw[if_neg hc]at hr
          subst hr
          repeat' ((conv=>whnf);first|apply Wx|apply W6|apply oi|(apply fi<;>intro h)|refine cl hE ?_|refine cl hK ?_|refine⟨k,x.tr,rfl,ab hx,?_⟩|refine⟨_,rfl,?_⟩|exact rfl)
          all_goals try exact⟨KP⟩
          all_goals try exact KX
          all_goals try(exfalso;simp_all;done)
       ·rw[show l.length - k=0 by omega,bH,decide_eq_true (by omega)]at hr
        subst hr
        repeat' ((conv=>whnf);first|apply Wx|apply W6|apply oi|(apply fi<;>intro h)|refine⟨_,rfl,?_⟩|exact rfl)
        all_goals try exact⟨KP⟩
        all_goals try exact KX
   ·rw[decide_eq_false c2,Bool.false_and]
    repeat' ((conv=>whnf);first|apply Wx|apply W6|apply oi|(apply fi<;>intro h)|refine cl hF ?_|refine⟨0,x0.tr,rfl,ab hx0,?_⟩|refine⟨_,rfl,?_⟩|exact rfl)
    all_goals try exact⟨KP⟩
    all_goals try exact KX
    all_goals try(exfalso;simp_all[gz];done)
  ·have hnil:l=[]:=List.length_eq_zero_iff.1 (by omega)
   subst hnil
   rw[show lz ([]:List FX)=false from rfl,Bool.false_and,Bool.and_false]
   repeat' ((conv=>whnf);first|apply Wx|apply W6|apply oi|(apply fi<;>intro h)|refine cl hF ?_|refine⟨_,rfl,?_⟩|exact rfl)
   all_goals try exact⟨KP⟩
   all_goals try exact KX
 ·rw[decide_eq_false c1,Bool.false_and]
  repeat' ((conv=>whnf);first|apply Wx|apply W6|apply oi|(apply fi<;>intro h)|refine cl hF ?_|refine⟨_,rfl,?_⟩|exact rfl)
  all_goals try exact⟨KP⟩
  all_goals try exact KX
  all_goals try(exfalso;simp_all;done)
theorem fk {l:List Gf}{p:Nat}{e:Ex}(h:fK l p e):p+e.toks.length≤l.length:=by
 obtain⟨r,h⟩:=h
 have h1:=congrArg List.length h
 rw[List.length_drop,List.length_append]at h1
 have:=e.toks_pos
 omega
theorem li (l:List Gf)(p:Nat)(t:Gf)(es:List Ex)(hl:l.length≤1048576)(hn:dq l)(ho:(Ex.node t es).ok)(hs:fK l p (.node t es)):Sim.Spec Tryz.prog 272 [tvL 3 (l.map Gf.tr),tvI p] (rL 1 ((fv (p+1) es).map nR)):=by
 refine aJ hΓ ao Tryz.func272 rfl (by decide) rfl ?_
 have hlen:(l.map Gf.tr).length=l.length:=by simp
 have hle:=fk hs
 obtain⟨ht,hsa⟩:=fR hs
 have hX:=iI l p hl hn
 rw[iS hs ho]at hX
 have htn:=hn t (List.mem_of_getElem? ht)
 have hA:=pr t htn
 obtain⟨e1,e2⟩:=pi ho.1
 have hel:es.length=ar t:=ho.2.1
 rw[e1,←hel]at hA
 obtain⟨R,hR⟩:∃R,fv (p+1) es=R:=⟨_,rfl⟩
 rw[hR]
 have hpl:p < l.length:=by
  have:=(Ex.node t es).toks_pos
  omega
 generalize p+(Ex.node t es).toks.length=pe at *
 repeat' ((conv=>whnf);first|apply Wx|apply W6|apply oi|(apply fi<;>intro h)|refine cl hX ?_|refine⟨p,t.tr,rfl,ab ht,?_⟩|refine cl hA ?_|refine⟨_,rfl,?_⟩|exact rfl)
 all_goals try exact⟨KP⟩
 all_goals try exact KX
 conv=>whnf
 refine⟨{q:Nat×List Nat×List Ex // q.2.1++fv q.1 q.2.2=R∧iN l q.1 q.2.2∧iF q.2.2∧q.2.1.length+q.2.2.length≤4∧q.1≤1048577},fun q=>⟨[(0,.r (.c (.t (.lst 3 (l.map Gf.tr))))),(5,.r (.c (.own (5,0,0)))),(6,tI .i64 (q.1.1:Int)),(7,tI .i64 (q.1.2.2.length:Int))],[((5,0,0),some (.arr true 1 (q.1.2.1.map nR)))],[5]⟩,fun q=>q.1.2.2.length,⟨(p+1,[],es),hR,hsa,ho.2.2,by simp;omega,by dsimp only;omega⟩,?_,?_⟩
 ·skip
  repeat' ((conv=>whnf);first|apply Wx|apply W6|apply oi|(apply fi<;>intro h)|refine⟨_,rfl,?_⟩|exact rfl)
  all_goals try exact⟨KP⟩
  all_goals try exact⟨K4⟩
 intro⟨⟨q,acc,fs⟩,h1,h2,h3,h4,h5⟩
 dsimp only at h1 h2 h3 h4 h5 ⊢
 cases fs with
 | nil=>
  rw[fv,List.append_nil]at h1
  subst h1
  repeat' ((conv=>whnf);first|apply Wx|apply W6|apply oi|(apply fi<;>intro h)|refine⟨_,rfl,?_⟩|exact rfl)
  all_goals try exact⟨KP⟩
  all_goals try exact KX
  all_goals try(exfalso;simp at h;done)
 | cons a fs=>
  obtain⟨g1,g2⟩:=dG h2
  have hX2:=iI l q hl hn
  rw[iS g1 h3.1]at hX2
  have hle2:=fk g1
  have hfl:(a::fs).length=fs.length+1:=rfl
  repeat' ((conv=>whnf);first|apply Wx|apply W6|apply oi|(apply fi<;>intro h)|refine cl hX2 ?_|refine⟨_,rfl,?_⟩|exact rfl)
  all_goals try exact⟨KP⟩
  all_goals try exact KX
  all_goals try(exfalso;simp at h;done)
  all_goals try exact⟨⟨by simp <;> omega,by simp <;> omega⟩⟩
  conv=>whnf
  refine⟨⟨(q+a.toks.length,acc++[q],fs),by dsimp only;rw[←h1,fv];simp,g2,h3.2,by simp only[List.length_append,List.length_cons,List.length_nil]at *;omega,by dsimp only;omega⟩,?_,by dsimp only;simp⟩
  repeat' ((conv=>whnf);first|apply Wx|apply W6|apply oi|(apply fi<;>intro h)|refine⟨_,rfl,?_⟩|exact rfl)
  all_goals try exact⟨KP⟩
  all_goals try exact⟨by dsimp only;rw[hfl,IntWalk.i64_in _ (by omega)];congr 1;omega⟩
  all_goals exact⟨by simp[aa]⟩
theorem rX (l:List Gf)(p:Nat)(t:Gf)(es:List Ex)(hl:l.length≤1048576)(hn:dq l)(ho:(Ex.node t es).ok)(hs:fK l p (.node t es)):Sim.Spec Tryz.prog 258 [tvL 3 (l.map Gf.tr),tvI p] (rL 1 ((fv (p+1) es).map nR)):=by
 refine aJ hΓ ao Tryz.func258 rfl (by decide) rfl ?_
 have hlen:(l.map Gf.tr).length=l.length:=by simp
 have hle:=fk hs
 obtain⟨ht,hsa⟩:=fR hs
 have hX:=iU l p hl hn
 rw[iS hs ho]at hX
 have htn:=hn t (List.mem_of_getElem? ht)
 have hA:=kp t htn
 obtain⟨e1,e2⟩:=pi ho.1
 have hel:es.length=ar t:=ho.2.1
 rw[e1,←hel]at hA
 obtain⟨R,hR⟩:∃R,fv (p+1) es=R:=⟨_,rfl⟩
 rw[hR]
 have hpl:p < l.length:=by
  have:=(Ex.node t es).toks_pos
  omega
 generalize p+(Ex.node t es).toks.length=pe at *
 repeat' ((conv=>whnf);first|apply Wx|apply W6|apply oi|(apply fi<;>intro h)|refine cl hX ?_|refine⟨p,t.tr,rfl,ab ht,?_⟩|refine cl hA ?_|refine⟨_,rfl,?_⟩|exact rfl)
 all_goals try exact⟨KP⟩
 all_goals try exact KX
 conv=>whnf
 refine⟨{q:Nat×List Nat×List Ex // q.2.1++fv q.1 q.2.2=R∧iN l q.1 q.2.2∧iF q.2.2∧q.2.1.length+q.2.2.length≤4∧q.1≤1048577},fun q=>⟨[(0,.r (.c (.t (.lst 3 (l.map Gf.tr))))),(5,.r (.c (.own (5,0,0)))),(6,tI .i64 (q.1.1:Int)),(7,tI .i64 (q.1.2.2.length:Int))],[((5,0,0),some (.arr true 1 (q.1.2.1.map nR)))],[5]⟩,fun q=>q.1.2.2.length,⟨(p+1,[],es),hR,hsa,ho.2.2,by simp;omega,by dsimp only;omega⟩,?_,?_⟩
 ·skip
  repeat' ((conv=>whnf);first|apply Wx|apply W6|apply oi|(apply fi<;>intro h)|refine⟨_,rfl,?_⟩|exact rfl)
  all_goals try exact⟨KP⟩
  all_goals try exact⟨K4⟩
 intro⟨⟨q,acc,fs⟩,h1,h2,h3,h4,h5⟩
 dsimp only at h1 h2 h3 h4 h5 ⊢
 cases fs with
 | nil=>
  rw[fv,List.append_nil]at h1
  subst h1
  repeat' ((conv=>whnf);first|apply Wx|apply W6|apply oi|(apply fi<;>intro h)|refine⟨_,rfl,?_⟩|exact rfl)
  all_goals try exact⟨KP⟩
  all_goals try exact KX
  all_goals try(exfalso;simp at h;done)
 | cons a fs=>
  obtain⟨g1,g2⟩:=dG h2
  have hX2:=iU l q hl hn
  rw[iS g1 h3.1]at hX2
  have hle2:=fk g1
  have hfl:(a::fs).length=fs.length+1:=rfl
  repeat' ((conv=>whnf);first|apply Wx|apply W6|apply oi|(apply fi<;>intro h)|refine cl hX2 ?_|refine⟨_,rfl,?_⟩|exact rfl)
  all_goals try exact⟨KP⟩
  all_goals try exact KX
  all_goals try(exfalso;simp at h;done)
  all_goals try exact⟨⟨by simp <;> omega,by simp <;> omega⟩⟩
  conv=>whnf
  refine⟨⟨(q+a.toks.length,acc++[q],fs),by dsimp only;rw[←h1,fv];simp,g2,h3.2,by simp only[List.length_append,List.length_cons,List.length_nil]at *;omega,by dsimp only;omega⟩,?_,by dsimp only;simp⟩
  repeat' ((conv=>whnf);first|apply Wx|apply W6|apply oi|(apply fi<;>intro h)|refine⟨_,rfl,?_⟩|exact rfl)
  all_goals try exact⟨KP⟩
  all_goals try exact⟨by dsimp only;rw[hfl,IntWalk.i64_in _ (by omega)];congr 1;omega⟩
  all_goals exact⟨by simp[aa]⟩
def w32 (n:Int):Int:=IntKind.i32.wrap n
theorem mP (n:Int):IntKind.i32.wrap n=if n % 4294967296≥2147483648 then n % 4294967296 - 4294967296 else n % 4294967296:=by
 simp[IntKind.wrap,IntKind.bits,IntKind.signed]
theorem Cp (n:Int):IntKind.u32.wrap n=n % 4294967296:=by simp[IntKind.wrap,IntKind.bits,IntKind.signed]
theorem jK (n:Int):-2147483648≤w32 n∧w32 n≤2147483647:=by
 unfold w32;rw[mP];split <;> omega
theorem xI (n:Int):Sim.Spec Tryz.prog 256 [tvI n] (rI (w32 n)):=by
 refine aj hΓ ao Tryz.func256 rfl (by decide) rfl ?_
 repeat' ((conv=>whnf);first|refine Or.inl ?_|apply oi|(apply fi<;>intro h)|refine⟨_,rfl,?_⟩|exact rfl)
 all_goals try exact⟨KO⟩
 all_goals(refine⟨congrArg (Tr.int _) ?_⟩;have:=jK n;unfold w32 at *;rw[mP]at *;rw[mP,Cp,IntWalk.i64_in _ (by split <;> omega)];simp)
theorem Do (n:Int):((BitVec.ofInt IntKind.i64.bits n &&& BitVec.ofInt IntKind.i64.bits 4294967295).toNat:Int)=n % 4294967296:=by
 show((BitVec.ofInt 64 n &&& BitVec.ofInt 64 4294967295).toNat:Int)=_
 have e:(BitVec.ofInt 64 4294967295).toNat=2 ^ 32 - 1:=by decide
 rw[BitVec.toNat_and,e,Nat.and_two_pow_sub_one_eq_mod,BitVec.toNat_ofInt]
 have:((2 ^ 64:Nat):Int)=18446744073709551616:=by decide
 omega
theorem zd (n:Int):Sim.Spec Tryz.prog 246 [tvI n] (rI (w32 n)):=by
 refine aj hΓ ao Tryz.func246 rfl (by decide) rfl ?_
 have hand:IntKind.i64.wrap ((BitVec.ofInt IntKind.i64.bits n &&& BitVec.ofInt IntKind.i64.bits 4294967295).toNat:Int)=n % 4294967296:=by
  rw[Do,IntWalk.i64_in _ (by omega)]
 unfold w32
 rw[mP]
 repeat' ((conv=>whnf);first|refine Or.inl ?_|apply oi|(apply fi<;>intro h)|refine⟨_,rfl,?_⟩|exact rfl)
 all_goals try exact⟨KO⟩
 all_goals(refine⟨congrArg (Tr.int _) ?_⟩;rw[hand]at h ⊢)
 ·have h':=of_decide_eq_true h
  rw[if_pos (by omega),IntWalk.i64_in _ (by omega)]
 ·have h':=of_decide_eq_false h
  rw[if_neg (by omega)]
theorem vl {x y:Int}(hx:-2147483648≤x∧x≤2147483647)(hy:-2147483648≤y∧y≤2147483647):-4611686018427387904≤x * y∧x * y≤4611686018427387904:=by
 have h:(x * y).natAbs≤2147483648 * 2147483648:=by
  rw[Int.natAbs_mul]
  exact Nat.mul_le_mul (by omega) (by omega)
 omega
def cN (k a b:Int):Int:=
 if k=2 then w32 (w32 a+w32 b)else if k=3 then w32 (w32 a - w32 b)else if k=4 then w32 (w32 a * w32 b)
 else if(k=5∧w32 a < w32 b)∨(k=6∧w32 a=w32 b)then 1 else 0
theorem wB (k a b:Int):Sim.Spec Tryz.prog 233 [tvI k,tvI a,tvI b] (rI (cN k a b)):=by
 refine aj hΓ ao Tryz.func233 rfl (by decide) rfl ?_
 have ha:=jK a
 have hb:=jK b
 have hm:=vl ha hb
 have e1:IntKind.i64.wrap (w32 a+w32 b)=w32 a+w32 b:=IntWalk.i64_in _ (by omega)
 have e2:IntKind.i64.wrap (w32 a - w32 b)=w32 a - w32 b:=IntWalk.i64_in _ (by omega)
 have e3:IntKind.i64.wrap (w32 a * w32 b)=w32 a * w32 b:=IntWalk.i64_in _ (by omega)
 unfold cN
 repeat' ((conv=>whnf);first|refine Or.inl ?_|apply oi|(apply fi<;>intro h)|refine ci (xI _) (ai rfl trivial) ?_|refine⟨_,rfl,?_⟩|exact rfl)
 all_goals try exact⟨KO⟩
 all_goals(refine⟨congrArg (Tr.int _) ?_⟩;simp_all;try omega)
theorem xt (k a b:Int):Sim.Spec Tryz.prog 206 [tvI k,tvI a,tvI b] (rI (cN k a b)):=by
 refine aj hΓ ao Tryz.func206 rfl (by decide) rfl ?_
 have ha:=jK a
 have hb:=jK b
 have hm:=vl ha hb
 have e1:IntKind.i64.wrap (w32 a+w32 b)=w32 a+w32 b:=IntWalk.i64_in _ (by omega)
 have e2:IntKind.i64.wrap (w32 a - w32 b)=w32 a - w32 b:=IntWalk.i64_in _ (by omega)
 have e3:IntKind.i64.wrap (w32 a * w32 b)=w32 a * w32 b:=IntWalk.i64_in _ (by omega)
 unfold cN
 repeat' ((conv=>whnf);first|refine Or.inl ?_|apply oi|(apply fi<;>intro h)|refine ci (zd _) (ai rfl trivial) ?_|refine⟨_,rfl,?_⟩|exact rfl)
 all_goals try exact⟨KO⟩
 all_goals(refine⟨congrArg (Tr.int _) ?_⟩;simp_all;try omega)
def wC (n:Int):Ex:= .node ⟨0,n,[]⟩ []
def Cy (t a b:Gf):Prop:=af t.faa 2 6=true∧a.faa=0∧b.faa=0∧af (cN t.faa a.fai b.fai) 0 999=true
instance (t a b:Gf):Decidable (Cy t a b):=by unfold Cy;infer_instance
def vg (t:Gf):List Ex→Ex
 | [.node a [],.node b []]=>if Cy t a b then wC (cN t.faa a.fai b.fai)else .node t [.node a [],.node b []]
 | fs=> .node t fs
mutual
def Ex.fold:Ex→Ex
 | .node t es=>vg t (aV es)
def aV:List Ex→List Ex
 | []=>[]
 | a::es=>a.fold::aV es
end
theorem bQ (l:List Gf):flat (l.map Gf.tr):=dr _ (by intro x c hc sz rs e;subst e;simp[Gf.tr]at hc)
theorem iM:∀es:List Ex,(aV es).length=es.length
 | []=>rfl
 | a::es=>by rw[aV,List.length_cons,iM,List.length_cons]
theorem ml:∀(es:List Ex) (j:Nat),(aV es).take j=aV (es.take j)
 | [],j=>by simp[aV]
 | a::es,0=>by rw[List.take_zero,List.take_zero,aV]
 | a::es,j+1=>by rw[aV,List.take_succ_cons,List.take_succ_cons,aV,ml es j]
theorem kP:∀{es:List Ex} {j:Nat} {a:Ex},es[j]?=some a→aV (es.take (j+1))=aV (es.take j)++[a.fold]
 | [],_,_,h=>by simp at h
 | b::es,0,a,h=>by
  rw[List.getElem?_cons_zero]at h
  injection h with h
  subst h
  rfl
 | b::es,j+1,a,h=>by
  rw[List.getElem?_cons_succ]at h
  rw[List.take_succ_cons,aV,List.take_succ_cons,aV,kP h,List.cons_append]
theorem kq (a:Ex):ak [a]=a.toks:=by rw[ak,ak,List.append_nil]
theorem sw {f:Ex}(h:f.toks.length=1):∃a,f= .node a []:=by
 cases f with
 | node a es=>
  rw[Ex.toks,List.length_cons]at h
  cases es with
  | nil=>exact⟨a,rfl⟩
  | cons b es=>
   rw[ak,List.length_append]at h
   have:=b.toks_pos
   omega
theorem ky {t:Gf}{fs:List Ex}(h:(ak fs).length≠2∨af t.faa 2 6=false):vg t fs= .node t fs:=by
 unfold vg
 split
 ·rename_i a b
  rw[if_neg]
  intro hc
  rcases h with h|h
  ·exact h (by simp[ak,Ex.toks])
  ·rw[hc.1]at h;cases h
 ·rfl
theorem yG (t a b:Gf):vg t [.node a [],.node b []]=if Cy t a b then wC (cN t.faa a.fai b.fai)else .node t [.node a [],.node b []]:=rfl
theorem DZ (t:Gf)(fs:List Ex):(vg t fs).toks.length≤1+(ak fs).length:=by
 unfold vg
 split
 ·split
  ·simp[wC,Ex.toks,ak]
  ·simp[Ex.toks,ak]
 ·rw[Ex.toks,List.length_cons];omega
mutual
theorem Ex.fold_le:∀e:Ex,e.fold.toks.length≤e.toks.length
 | .node t es=>by
  rw[Ex.fold,Ex.toks,List.length_cons]
  have h1:=DZ t (aV es)
  have h2:=mE es
  omega
theorem mE:∀es:List Ex,(ak (aV es)).length≤(ak es).length
 | []=>Nat.le_refl _
 | a::es=>by
  rw[aV,ak,ak,List.length_append,List.length_append]
  have h1:=Ex.fold_le a
  have h2:=mE es
  omega
end
theorem cP:∀(es:List Ex) (j:Nat),(ak (es.take j)).length≤(ak es).length
 | [],j=>by rw[List.take_nil];omega
 | a::es,0=>by rw[List.take_zero,ak];simp
 | a::es,j+1=>by
  have:=cP es j
  rw[List.take_succ_cons,ak,ak,List.length_append,List.length_append]
  omega
theorem iD:∀{es:List Ex} {j:Nat} {a:Ex},es[j]?=some a→a.toks.length≤(ak es).length
 | [],_,_,h=>by simp at h
 | b::es,0,a,h=>by
  rw[List.getElem?_cons_zero]at h
  injection h with h
  subst h
  rw[ak,List.length_append];omega
 | b::es,j+1,a,h=>by
  rw[List.getElem?_cons_succ]at h
  have:=iD h
  rw[ak,List.length_append];omega
theorem jZ:∀{es:List Ex} {j:Nat} {a:Ex},iF es→es[j]?=some a→a.ok
 | [],_,_,_,h=>by simp at h
 | b::es,0,a,ho,h=>by
  rw[List.getElem?_cons_zero]at h
  injection h with h
  subst h
  exact ho.1
 | b::es,j+1,a,ho,h=>by
  rw[List.getElem?_cons_succ]at h
  exact jZ ho.2 h
theorem Dn {t:Gf}(ho:eB t=true)(hk:af t.faa 2 6=true):ar t=2:=by
 have:=within_iff.1 hk
 unfold ar nw
 rw[if_neg (by simp[ho]),if_neg (by omega),if_neg (by omega)]
 rfl
theorem DD {α:Type}{l:List α}(h:l.length=2):∃a b,l=[a,b]:=by
 match l,h with
 | [a,b],_=>exact⟨a,b,rfl⟩
theorem lm:∀(n:Nat) (e:Ex),e.toks.length≤n→∀(l:List Gf) (p:Nat),l.length≤1048576→dq l→e.ok→fK l p e→Sim.Spec Tryz.prog 240 [tvL 3 (l.map Gf.tr),tvI p] (rL 3 (e.fold.toks.map Gf.tr))
 | 0,e,hn,_,_,_,_,_,_=>by have:=e.toks_pos;omega
 | n+1,.node t es,hn,l,p,hl,hsh,ho,hs=>by
  refine aJ hΓ ao Tryz.func240 rfl (by decide) rfl ?_
  have hlen:(l.map Gf.tr).length=l.length:=by simp
  have hle:=fk hs
  obtain⟨ht,hsa⟩:=fR hs
  have hO:=rX l p t es hl hsh ho hs
  have hpl:((fv (p+1) es).map nR).length=es.length:=by rw[List.length_map,oy]
  rw[Ex.toks,List.length_cons]at hn hle
  rw[Ex.fold]
  have hfe:=mE es
  obtain⟨e1,e2⟩:=pi ho.1
  have hel:es.length=ar t:=ho.2.1
  repeat' ((conv=>whnf);first|apply Wx|apply W6|apply oi|(apply fi<;>intro h)|refine cl hO ?_|refine⟨p,t.tr,rfl,ab ht,?_⟩|refine⟨_,rfl,?_⟩|exact rfl)
  all_goals try exact⟨KP⟩
  conv=>whnf
  refine⟨{j:Nat // j≤es.length},fun q=>⟨[(0,.r (.c (.t (.lst 3 (l.map Gf.tr))))),(1,tI .i64 (p:Int)),(5,.r (.c (.own (5,0,0)))),(6,.r (.c (.own (6,0,0)))),(7,tI .i64 (q.1:Int))],[((5,0,0),some (.arr false 3 ((t::ak (aV (es.take q.1))).map Gf.tr))),((6,0,0),some (.arr true 1 ((fv (p+1) es).map nR)))],[5,6]⟩,fun q=>es.length - q.1,⟨0,by omega⟩,?_,?_⟩
  ·skip
   repeat' ((conv=>whnf);first|apply Wx|apply W6|apply oi|(apply fi<;>intro h)|refine⟨_,rfl,?_⟩|exact rfl)
   all_goals try exact⟨KP⟩
   all_goals try exact⟨by simp[aV,ak];rfl⟩
  intro⟨j,hj⟩
  dsimp only at hj ⊢
  by_cases hlt:j < es.length
  ·obtain⟨a,ha⟩:=ae hlt
   obtain⟨q,hq,hqs⟩:=sF hsa ha
   have hal:=iD ha
   have hR:=lm n a (by omega) l q hl hsh (jZ ho.2.2 ha) hqs
   have hjl:j < ((fv (p+1) es).map nR).length:=by rw[hpl];exact hlt
   have hfa:=a.fold_le
   have hft:=cP (aV es) j
   rw[ml]at hft
   have hfl1:((t::ak (aV (es.take j))).map Gf.tr).length=1+(ak (aV (es.take j))).length:=by simp;omega
   have hfl2:(a.fold.toks.map Gf.tr).length=a.fold.toks.length:=by simp
   repeat' ((conv=>whnf);first|apply Wx|apply W6|apply oi|(apply fi<;>intro h)|refine cl hR ?_|refine⟨j,rfl,hjl,?_⟩|refine⟨(nR q),(ab hq),?_⟩|refine⟨_,rfl,?_⟩|exact rfl)
   all_goals try exact⟨KP⟩
   all_goals try exact KX
   all_goals try exact⟨⟨by rw[hfl1,hfl2];(try dsimp only);omega,by rw[hfl1,hfl2];(try dsimp only);omega⟩⟩
   conv=>whnf
   refine⟨⟨j+1,by omega⟩,?_,KD⟩
   repeat' ((conv=>whnf);first|apply Wx|apply W6|apply oi|(apply fi<;>intro h)|refine⟨_,rfl,?_⟩|exact rfl)
   all_goals try exact⟨KP⟩
   all_goals try exact⟨K4⟩
   all_goals exact⟨by rw[kP ha,eK,kq];simp⟩
  ·have hje:j=es.length:=by omega
   subst hje
   rw[List.take_length]
   have hB:=bd t.faa 2 6
   have hFl:=iM es
   have hout:((t::ak (aV es)).map Gf.tr).length=1+(ak (aV es)).length:=by simp;omega
   generalize aV es=F at *
   cases hk:af t.faa 2 6 with
   | false=>
    rw[hk]at hB
    rw[ky (.inr hk),Ex.toks]
    repeat' ((conv=>whnf);first|apply Wx|apply W6|apply oi|(apply fi<;>intro h)|refine⟨p,t.tr,rfl,ab ht,?_⟩|refine cl hB ?_|refine⟨_,rfl,?_⟩|exact rfl)
    all_goals try exact⟨KP⟩
    all_goals try exact KX
    all_goals exact⟨⟨rfl,bQ _⟩⟩
   | true=>
    rw[hk]at hB
    by_cases h2:(ak F).length=2
    ·obtain⟨f1,f2,rfl⟩:=DD (hFl.trans (hel.trans (Dn ho.1 hk)))
     rw[ak,kq,List.length_append]at h2
     have p1:=f1.toks_pos
     have p2:=f2.toks_pos
     obtain⟨a,rfl⟩:=sw (f:=f1) (by omega)
     obtain⟨b,rfl⟩:=sw (f:=f2) (by omega)
     have e3:t::ak [Ex.node a [],Ex.node b []]=[t,a,b]:=by simp[ak,Ex.toks]
     have e4:(Ex.node t [Ex.node a [],Ex.node b []]).toks=[t,a,b]:=by rw[Ex.toks];exact e3
     rw[e3]
     have h1l:1 < ([t,a,b].map Gf.tr).length:=by simp
     have h2l:2 < ([t,a,b].map Gf.tr).length:=by simp
     have hAp:=xt t.faa a.fai b.fai
     have hB2:=bd (cN t.faa a.fai b.fai) 0 999
     rw[yG]
     by_cases hc:Cy t a b
     ·rw[if_pos hc]
      obtain⟨_,c1,c2,c3⟩:=hc
      rw[c3]at hB2
      have e5:(wC (cN t.faa a.fai b.fai)).toks=[⟨0,cN t.faa a.fai b.fai,[]⟩]:=by simp[wC,Ex.toks,ak]
      rw[e5]
      generalize cN t.faa a.fai b.fai=ap at *
      repeat' ((conv=>whnf);first|apply Wx|apply W6|apply oi|(apply fi<;>intro h)|refine⟨p,t.tr,rfl,ab ht,?_⟩|refine cl hB ?_|refine⟨1,rfl,h1l,?_⟩|refine⟨2,rfl,h2l,?_⟩|refine⟨a.tr,rfl,?_⟩|refine⟨b.tr,rfl,?_⟩|refine cl hAp ?_|refine cl hB2 ?_|refine⟨_,rfl,?_⟩|exact rfl)
      all_goals try exact⟨KP⟩
      all_goals try exact KX
      all_goals try(exfalso;simp_all;done)
     ·rw[if_neg hc,e4]
      have hc2:∀w,af (cN t.faa a.fai b.fai) 0 999=w→a.faa=0→b.faa=0→w=true→False:=fun w h1 h2 h3 h4=>hc ⟨hk,h2,h3,h1.trans h4⟩
      cases hw:af (cN t.faa a.fai b.fai) 0 999 with
      | true=>
       rw[hw]at hB2
       have hc3:=hc2 true hw
       generalize cN t.faa a.fai b.fai=ap at *
       repeat' ((conv=>whnf);first|apply Wx|apply W6|apply oi|(apply fi<;>intro h)|refine⟨p,t.tr,rfl,ab ht,?_⟩|refine cl hB ?_|refine⟨1,rfl,h1l,?_⟩|refine⟨2,rfl,h2l,?_⟩|refine⟨a.tr,rfl,?_⟩|refine⟨b.tr,rfl,?_⟩|refine cl hAp ?_|refine cl hB2 ?_|refine⟨_,rfl,?_⟩|exact rfl)
       all_goals try exact⟨KP⟩
       all_goals try exact KX
       all_goals try exact⟨⟨rfl,bQ _⟩⟩
       all_goals try(exfalso;simp_all;done)
      | false=>
       rw[hw]at hB2
       generalize cN t.faa a.fai b.fai=ap at *
       repeat' ((conv=>whnf);first|apply Wx|apply W6|apply oi|(apply fi<;>intro h)|refine⟨p,t.tr,rfl,ab ht,?_⟩|refine cl hB ?_|refine⟨1,rfl,h1l,?_⟩|refine⟨2,rfl,h2l,?_⟩|refine⟨a.tr,rfl,?_⟩|refine⟨b.tr,rfl,?_⟩|refine cl hAp ?_|refine cl hB2 ?_|refine⟨_,rfl,?_⟩|exact rfl)
       all_goals try exact⟨KP⟩
       all_goals try exact KX
       all_goals try exact⟨⟨rfl,bQ _⟩⟩
       all_goals try(exfalso;simp_all;done)
    ·rw[ky (.inl h2),Ex.toks]
     repeat' ((conv=>whnf);first|apply Wx|apply W6|apply oi|(apply fi<;>intro h)|refine⟨p,t.tr,rfl,ab ht,?_⟩|refine cl hB ?_|refine⟨_,rfl,?_⟩|exact rfl)
     all_goals try exact⟨KP⟩
     all_goals try exact KX
     all_goals try exact⟨⟨rfl,bQ _⟩⟩
     all_goals try(exfalso;rw[hout]at *;simp at *;omega)
end Go.Proofs.YtoglejgmjeojoaaGreat
namespace Go.Proofs.YtoglejgmjeojoaaGreat
open Go.Sim
set_option maxRecDepth 100000
set_option maxHeartbeats 4000000
structure Grow (n:Nat) (s s':Gs):Prop where
 ge:s.items.length≤s'.items.length
 le:s'.items.length≤s.items.length+n
 most:s.most≤s'.most
 cap:s.most≤1000→s'.most≤1000
theorem Grow.refl (s:Gs):Grow 0 s s:=⟨Nat.le_refl _,Nat.le_refl _,Int.le_refl _,id⟩
theorem Grow.trans {n m:Nat}{a b c:Gs}(h:Grow n a b)(h':Grow m b c):Grow (n+m) a c:=⟨Nat.le_trans h.ge h'.ge,by have:=h.le;have:=h'.le;omega,Int.le_trans h.most h'.most,fun x=>h'.cap (h.cap x)⟩
theorem Grow.mono {n m:Nat}{a b:Gs}(h:Grow n a b)(hn:n≤m):Grow m a b:=⟨h.ge,by have:=h.le;omega,h.most,h.cap⟩
theorem aY (C:Cx)(s:Gs)(d code arg line:Int)(chain:List Int):Grow 1 s (au C s d code arg line chain):=⟨by simp[au],by simp[au],Int.le_refl _,id⟩
theorem db (l:List FW)(j v:Int):(bK l j v).length=l.length:=by
 unfold bK
 split
 ·split
  ·rw[List.length_set]
  ·rfl
 ·rfl
theorem fa (v:Int):∀(js:List Int) (l:List FW),(cn l v js).length=l.length
 | [],_=>rfl
 | j::js,l=>by rw[cn,fa v js,db]
def bW:Nat→Nat
 | 0=>1
 | n+1=>30+9 * (20 * bW n+3)
theorem um:∀n,1≤bW n
 | 0=>Nat.le_refl _
 | n+1=>by rw[bW];omega
theorem EE:∀{n m:Nat},n≤m→bW n≤bW m:=by
 intro n m h
 induction h with
 | refl=>exact Nat.le_refl _
 | step _ ih=>rw[bW];omega
theorem qo {n:Nat}(h:n≤3):bW n≤8679837:=Nat.le_trans (EE h) (by simp[bW])
def bz (C:Cx)(g:Nat):Prop:=∃ln,C.p[g]?=some ln∧ln.faa=0
section
variable {C:Cx} {x:Sc} {ins:List Nat} {rep:Sc→List Nat→Nat→Nat→Int→Gs→Gs} {line:Nat} {lev:Nat}
theorem pH (y:Sc)(chain:List Int)(line:Int):∀(n:Nat) (d:Int) (s:Gs),Grow n s (cz C y chain line n d s)
 | 0,d,s=>Grow.refl s
 | n+1,d,s=>by
  rw[cz]
  exact((aY C s d _ _ _ _).trans (pH y chain line n (d - 1) _)).mono (by omega)
theorem rc (y:Sc)(chain:List Int)(line d:Int):∀(n i:Nat) (s:Gs),Grow (2 * n) s (cT C y chain line d n i s)
 | 0,i,s=>Grow.refl s
 | n+1,i,s=>by
  rw[cT]
  exact(((aY C s d _ _ _ _).trans (aY C _ (d+1) _ _ _ _)).trans (rc y chain line d n (i+1) _)).mono (by omega)
theorem BL (hrep:∀g d s,bz C g→bU C ins g s.items.length=true→Grow (bW lev) s (rep x ins line g d s))(t:Gf)(d:Int)(s:Gs):Grow (bW lev) s (iZ C rep x ins line t d s):=by
 have hp:=um lev
 unfold iZ
 split
 ·exact(aY ..).mono hp
 ·split
  ·exact(aY ..).mono hp
  ·split
   ·split
    ·rename_i g hg
     split
     ·rename_i hr
      obtain⟨_,ln,h1,h2,_⟩:=fe hg
      exact hrep g d s ⟨ln,h1,h2⟩ hr
     ·exact(aY ..).mono hp
    ·exact(Grow.refl s).mono (by omega)
   ·exact(aY ..).mono hp
mutual
theorem wv (hrep:∀g d s,bz C g→bU C ins g s.items.length=true→Grow (bW lev) s (rep x ins line g d s)):∀(e:Ex) (d:Int) (s:Gs),Grow (e.toks.length * bW lev) s (dJ C rep x ins line e d s)
 | .node t es,d,s=>by
  rw[dJ,Ex.toks,List.length_cons]
  exact((kR hrep es d s).trans (BL hrep t _ _)).mono (by rw[Nat.add_mul];omega)
theorem kR (hrep:∀g d s,bz C g→bU C ins g s.items.length=true→Grow (bW lev) s (rep x ins line g d s)):∀(es:List Ex) (d:Int) (s:Gs),Grow ((ak es).length * bW lev) s (da C rep x ins line es d s)
 | [],d,s=>by rw[da,ak];exact(Grow.refl s).mono (by omega)
 | a::es,d,s=>by
  rw[da,ak,List.length_append,Nat.add_mul]
  exact(wv hrep a d s).trans (kR hrep es (d+1) _)
end
theorem nK (C:Cx)(rep:Sc→List Nat→Nat→Nat→Int→Gs→Gs)(x:Sc)(ins:List Nat)(line:Nat):∀{es:List Ex} {j:Nat} {a:Ex} (d:Int) (s:Gs),es[j]?=some a→da C rep x ins line (es.take (j+1)) d s=dJ C rep x ins line a (d+j) (da C rep x ins line (es.take j) d s)
 | [],_,_,_,_,h=>by simp at h
 | b::es,0,a,d,s,h=>by
  rw[List.getElem?_cons_zero]at h
  injection h with h
  subst h
  simp[da]
 | b::es,j+1,a,d,s,h=>by
  rw[List.getElem?_cons_succ]at h
  rw[List.take_succ_cons,da,nK C rep x ins line (d+1) _ h,List.take_succ_cons,da]
  congr 1
  omega
theorem gU:∀{es:List Ex} {j:Nat} {a:Ex},es[j]?=some a→(ak (es.take (j+1))).length=(ak (es.take j)).length+a.toks.length
 | [],_,_,h=>by simp at h
 | b::es,0,a,h=>by
  rw[List.getElem?_cons_zero]at h
  injection h with h
  subst h
  simp[ak]
 | b::es,j+1,a,h=>by
  rw[List.getElem?_cons_succ]at h
  rw[List.take_succ_cons,ak,List.length_append,gU h,List.take_succ_cons,ak,List.length_append]
  omega
theorem kv (hC:CxOk C)(hx:ScOk C x ins)(line:Nat){g:Nat}(hg:bz C g):ScOk C (bC C x line g) (ins++[g]):=by
 obtain⟨e,_,_,_,_,h8⟩:=hx.endE hC
 have hle:=hx.argLe hC
 refine⟨hg,rfl,?_,?_,?_,?_,by simp[bC]⟩
 ·simp only[bC,bp,List.length_append,List.length_cons,List.length_nil]
  have:=hx.first
  split
  ·rename_i ho
   rw[hx.args ho]
   omega
  ·omega
 ·simp only[bC,List.length_append,List.length_cons,List.length_nil]
  have:=hx.chain
  omega
 ·simp[bC]
 ·simp[bC]
theorem oW (hC:CxOk C)(hx:ScOk C x ins):0≤bp C x∧bp C x≤8 * ins.length+8:=by
 obtain⟨e,_,_,_,_,h8⟩:=hx.endE hC
 have hle:=hx.argLe hC
 have:=hx.first
 unfold bp
 split
 ·rename_i ho
  rw[hx.args ho]
  omega
 ·omega
theorem cG (hC:CxOk C){g:Nat}(hg:bz C g):(localsOf C.p (g:Int)).length≤8∧argsN C.p g≤(localsOf C.p (g:Int)).length:=by
 obtain⟨ln,h1,h2⟩:=hg
 obtain⟨e,h3,h4,h5,_⟩:=hC.fn _ _ h1 h2
 rw[argsN,h1]
 exact⟨h4,h5⟩
theorem vy (hC:CxOk C)(hx:ScOk C x ins)(hi:ins.length≤10)(line:Nat){g:Nat}(hg:bz C g)(d:Int)(s:Gs):Grow 16 s (dK C x line g d s):=by
 obtain⟨h1,h2⟩:=cG hC hg
 have ht:=oW hC hx
 have h0:Grow 0 s ⟨s.items,max s.most (bp C x+(localsOf C.p (g:Int)).length),s.start⟩:=⟨Nat.le_refl _,Nat.le_refl _,by dsimp only;omega,fun h=>by dsimp only;omega⟩
 unfold dK
 exact((h0.trans (pH _ _ _ _ _ _)).trans (rc _ _ _ _ _ _ _)).mono (by omega)
theorem qZ (x:Sc)(line:Nat)(d:Int)(s:Gs):Grow 1 s (bO C x line d s):=by
 unfold bO
 split
 ·exact aY ..
 ·exact(Grow.refl s).mono (by omega)
theorem lM (x:Sc)(k:Nat)(last:Bool)(d:Int)(L:Ls):Grow 1 L.g (aP C x k last d L).g:=by
 unfold aP
 split
 ·split
  ·exact aY ..
  ·exact aY ..
 ·split
  ·exact(Grow.refl _).mono (by omega)
  ·exact aY ..
theorem Grow.set {n:Nat}{a b:Gs}{l:List FW}(h:Grow n a b)(hl:l.length=b.items.length):Grow n a ⟨l,b.most,b.start⟩:=⟨by have:=h.ge;simp only[hl];omega,by have:=h.le;simp only[hl];omega,h.most,h.cap⟩
theorem ku (hrep:∀g d s,bz C g→bU C ins g s.items.length=true→Grow (bW lev) s (rep x ins line g d s))(hC:CxOk C){k:Nat}{ln:FX}(hk:C.p[k]?=some ln)(he:bi ln.fad=true)(d:Int)(s:Gs):Grow (20 * bW lev) s (dJ C rep x ins line (exL ln.fad) d s):=by
 have h1:=(pS he).2
 have h2:=(hC.line _ _ hk).2.2.2.1
 rw[h1]at h2
 exact(wv hrep _ d s).mono (Nat.mul_le_mul_right _ h2)
theorem kh (hrep:∀line g d s,bz C g→bU C ins g s.items.length=true→Grow (bW lev) s (rep x ins line g d s))(hC:CxOk C){k:Nat}{ln:FX}(hk:C.p[k]?=some ln)(h0:ln.faa≠0)(base:Int)(L:Ls):Grow (20 * bW lev+2) L.g (dn C rep x ins base k ln L).g:=by
 unfold dn
 split
 ·exact((aY ..).set (db _ _ _)).mono (by omega)
 ·split
  ·split
   ·refine Grow.mono (n:=1+1) ?_ (by omega)
    exact(aY ..).trans (lM x k true (base+1) {L with g:=au C L.g base 0 0 k x.chain})
   ·split
    ·exact(aY ..).mono (by omega)
    ·exact(Grow.refl _).mono (by omega)
  ·rename_i h4 h7
   have hl:=hC.line _ _ hk
   have h20:Grow (20 * bW lev) L.g (dJ C rep x ins k (exL ln.fad) base ⟨L.g.items,L.g.most,true⟩):=by
    have:=ku (fun g d s=>hrep k g d s) hC hk (hl.2.2.2.2 (by omega)) base ⟨L.g.items,L.g.most,true⟩
    exact⟨this.ge,this.le,this.most,this.cap⟩
   split
   ·exact(h20.trans (aY ..)).mono (by omega)
   ·split
    ·exact(h20.trans (aY ..)).mono (by omega)
    ·split
     ·refine Grow.mono (n:=20 * bW lev+1) ?_ (by omega)
      exact h20.trans (lM x k false (base+1) {L with g:=dJ C rep x ins k (exL ln.fad) base ⟨L.g.items,L.g.most,true⟩,heads:=L.heads.set k L.g.items.length})
     ·exact(h20.trans (aY ..)).mono (by omega)
theorem ub (k:Nat)(ln:FX)(L:Ls):Grow 0 L.g (aS C x k ln L).g:=by
 unfold aS
 split
 ·exact(Grow.refl _).set (db _ _ _)
 ·exact Grow.refl _
theorem we (hrep:∀line g d s,bz C g→bU C ins g s.items.length=true→Grow (bW lev) s (rep x ins line g d s))(hC:CxOk C)(base:Int):∀(n k:Nat) (L:Ls),(∀i y,k≤i→i < k+n→C.p[i]?=some y→y.faa≠0)→Grow (n * (20 * bW lev+3)) L.g (jw C rep x ins base n k L).g
 | 0,k,L,_=>(Grow.refl _).mono (by omega)
 | n+1,k,L,h=>by
  rw[jw]
  split
  ·rename_i ln hk
   exact(((kh hrep hC hk (h k ln (Nat.le_refl _) (by omega) hk) base L).trans (ub k ln _)).trans (we hrep hC base n (k+1) _ fun i y h1 h2 hy=>h i y (by omega) (by omega) hy)).mono (by rw[Nat.add_mul];omega)
  ·exact(Grow.refl _).mono (by omega)
theorem gr (hrep:∀line g d s,bz C g→bU C ins g s.items.length=true→Grow (bW lev) s (rep x ins line g d s))(hC:CxOk C)(hx:ScOk C x ins)(base:Int)(s:Gs):Grow ((jV C.p x.f - x.f) * (20 * bW lev+3)) s (aQ C rep x ins base s).1:=by
 unfold aQ
 obtain⟨ln,h1,h2⟩:=hx.fn
 obtain⟨e,h3,_,_,h4⟩:=hC.fn _ _ h1 h2
 obtain⟨e',g3,_,_,g5,_⟩:=hx.endE hC
 rw[h3]at g3
 injection g3 with g3
 subst g3
 rw[g5]
 refine we hrep hC base (e - x.f) (x.f+1) (ce C s) fun i y k1 k2 hy=>?_
 by_cases hie:i=e
 ·subst hie
  obtain⟨z,hz,h7⟩:=bu h3
  rw[hy]at hz
  injection hz with hz
  subst hz
  omega
 ·exact(h4 i y (by omega) (by omega) hy).1
end
theorem dS {C:Cx}{ins:List Nat}{g n:Nat}(h:bU C ins g n=true):(ins.length:Int)≤C.b.faj∧be C.p (g:Int) - g≤9∧n < 200∧g∉ins:=by
 unfold bU at h
 simp only[Bool.and_eq_true,decide_eq_true_eq,Bool.not_eq_true',List.contains_eq_mem,decide_eq_false_iff_not]at h
 exact⟨h.1,h.2.1,h.2.2.1,h.2.2.2⟩
theorem cK {C:Cx}(hC:CxOk C):∀(lev:Nat) {x:Sc} {ins:List Nat} (line g:Nat) (d:Int) (s:Gs),ScOk C x ins→bz C g→bU C ins g s.items.length=true→Grow (bW lev) s (aT C lev x ins line g d s)
 | 0,x,ins,line,g,d,s,hx,hg,hr=>(Grow.refl s).mono (by omega)
 | lev+1,x,ins,line,g,d,s,hx,hg,hr=>by
  obtain⟨r1,r2,_,_⟩:=dS hr
  have hin:=hC.inl
  have hy:=kv hC hx line hg
  have h1:=vy hC hx (by omega) line hg d s
  have h2:=qZ (C:=C) x line (d - argsN C.p g) (dK C x line g d s)
  have h3:=gr (lev:=lev) (rep:=aT C lev) (fun line g d s hg hr=>cK hC lev line g d s hy hg hr) hC hy (d - argsN C.p g) (bO C x line (d - argsN C.p g) (dK C x line g d s))
  obtain⟨e,e1,e2,e3,e4,_⟩:=hy.endE hC
  have e5:be C.p (g:Int)=(e:Int):=by rw[bb];exact ba e1
  have e6:jV C.p (bC C x line g).f - (bC C x line g).f≤9:=by rw[e4];show e - g≤9;omega
  have h4:=((h1.trans h2).trans h3).mono (m:=bW (lev+1)) (by
   rw[bW]
   have:=Nat.mul_le_mul_right (20 * bW lev+3) e6
   omega)
  show Grow _ s (go C (aQ C (aT C lev)) x ins line g d s)
  unfold go
  exact h4.set (fa _ _ _)
def lvOk (L:Ls):Prop:=L.lv.length≤L.g.items.length∧∀j∈L.lv,0≤j∧j < L.g.items.length
section
variable {C:Cx} {x:Sc} {ins:List Nat} {rep:Sc→List Nat→Nat→Nat→Int→Gs→Gs} {lev:Nat}
theorem lvOk.grow {n:Nat}{L L':Ls}(h:lvOk L)(hl:L'.lv=L.lv)(hg:Grow n L.g L'.g):lvOk L':=⟨by rw[hl];exact Nat.le_trans h.1 hg.ge,fun j hj=>by
 rw[hl]at hj
 have:=h.2 j hj
 have:=hg.ge
 omega⟩
theorem vx {L:Ls}(h:lvOk L)(k:Nat)(last:Bool)(d:Int):lvOk (aP C x k last d L):=by
 have hg:=lM (C:=C) x k last d L
 unfold aP at hg ⊢
 split
 ·rename_i ho
  rw[if_pos ho]at hg
  split
  ·rename_i hf;rw[if_pos hf]at hg;exact h.grow rfl hg
  ·rename_i hf;rw[if_neg hf]at hg;exact h.grow rfl hg
 ·split
  ·exact h
  ·refine⟨by have:=h.1;simp only[au,List.length_append,List.length_cons,List.length_nil];omega,?_⟩
   intro j hj
   simp only[List.mem_append,List.mem_cons,List.not_mem_nil,or_false]at hj
   simp only[au,List.length_append,List.length_cons,List.length_nil]
   rcases hj with hj|rfl
   ·have:=h.2 j hj;omega
   ·omega
theorem yb (hrep:∀line g d s,bz C g→bU C ins g s.items.length=true→Grow (bW lev) s (rep x ins line g d s))(hC:CxOk C){k:Nat}{ln:FX}(hk:C.p[k]?=some ln)(h0:ln.faa≠0)(base:Int){L:Ls}(h:lvOk L):lvOk (dn C rep x ins base k ln L):=by
 have hg:=kh (x:=x) (ins:=ins) (rep:=rep) (lev:=lev) hrep hC hk h0 base L
 unfold dn at hg ⊢
 split
 ·rename_i h4;rw[if_pos h4]at hg;exact h.grow rfl hg
 ·rename_i h4
  rw[if_neg h4]at hg
  split
  ·rename_i h7
   rw[if_pos h7]at hg
   split
   ·exact vx (h.grow (L':={L with g:=au C L.g base 0 0 k x.chain}) rfl (aY ..)) _ _ _
   ·rename_i ho
    rw[if_neg ho]at hg
    split
    ·rename_i h5;rw[if_pos h5]at hg;exact h.grow rfl hg
    ·exact h
  ·rename_i h7
   have hl:=hC.line _ _ hk
   have h20:=ku (x:=x) (ins:=ins) (rep:=rep) (line:=k) (lev:=lev) (fun g d s=>hrep k g d s) hC hk (hl.2.2.2.2 (by omega)) base ⟨L.g.items,L.g.most,true⟩
   have hL1:lvOk {L with g:=dJ C rep x ins k (exL ln.fad) base ⟨L.g.items,L.g.most,true⟩,heads:=L.heads.set k L.g.items.length}:=h.grow rfl ⟨h20.ge,h20.le,h20.most,h20.cap⟩
   split
   ·exact hL1.grow rfl (aY ..)
   ·split
    ·exact hL1.grow rfl (aY ..)
    ·split
     ·exact vx hL1 _ _ _
     ·exact hL1.grow rfl (aY ..)
theorem yx (k:Nat)(ln:FX){L:Ls}(h:lvOk L):lvOk (aS C x k ln L):=by
 have hg:=ub (C:=C) (x:=x) k ln L
 unfold aS at hg ⊢
 split
 ·rename_i h1;rw[if_pos h1]at hg;exact h.grow rfl hg
 ·exact h
theorem AH (hrep:∀line g d s,bz C g→bU C ins g s.items.length=true→Grow (bW lev) s (rep x ins line g d s))(hC:CxOk C)(base:Int):∀(n k:Nat) (L:Ls),(∀i y,k≤i→i < k+n→C.p[i]?=some y→y.faa≠0)→lvOk L→lvOk (jw C rep x ins base n k L)
 | 0,k,L,_,h=>h
 | n+1,k,L,hf,h=>by
  rw[jw]
  split
  ·rename_i ln hk
   exact AH hrep hC base n (k+1) _ (fun i y h1 h2 hy=>hf i y (by omega) (by omega) hy) (yx k ln (yb hrep hC hk (hf k ln (Nat.le_refl _) (by omega) hk) base h))
  ·exact h
theorem jh (hC:CxOk C)(hx:ScOk C x ins){e:Nat}(he:endAt C.p x.f=some e){i:Nat}{y:FX}(h1:x.f+1≤i)(h2:i≤e)(hy:C.p[i]?=some y):y.faa≠0:=by
 obtain⟨ln,g1,g2⟩:=hx.fn
 obtain⟨e',h3,_,_,h4⟩:=hC.fn _ _ g1 g2
 rw[he]at h3
 injection h3 with h3
 subst h3
 by_cases hie:i=e
 ·subst hie
  obtain⟨z,hz,h7⟩:=bu he
  rw[hy]at hz
  injection hz with hz
  subst hz
  omega
 ·exact(h4 i y (by omega) (by omega) hy).1
theorem vA (hrep:∀line g d s,bz C g→bU C ins g s.items.length=true→Grow (bW lev) s (rep x ins line g d s))(hC:CxOk C)(hx:ScOk C x ins)(base:Int)(s:Gs):(aQ C rep x ins base s).2.length≤(aQ C rep x ins base s).1.items.length∧∀j∈(aQ C rep x ins base s).2,0≤j∧j < ((aQ C rep x ins base s).1.items.length:Int):=by
 unfold aQ
 obtain⟨e,g3,g4,_,g5,_⟩:=hx.endE hC
 rw[g5]
 exact AH hrep hC base (e - x.f) (x.f+1) (ce C s) (fun i y k1 k2 hy=>jh hC hx g3 k1 (by omega) hy) ⟨by simp[ce],by intro j hj;simp[ce]at hj⟩
end
theorem lw (v j:Int):∀(js:List Int) (l:List FW),cn l v (js++[j])=bK (cn l v js) j v
 | [],l=>by rw[List.nil_append,cn,cn,cn]
 | a::js,l=>by rw[List.cons_append,cn,lw v j js,cn]
end Go.Proofs.YtoglejgmjeojoaaGreat
namespace Go.Proofs.YtoglejgmjeojoaaGreat
open Go.Sim
set_option maxRecDepth 100000
set_option maxHeartbeats 4000000
def cO (l:List FW)(v to:Int):List (Int×Int)→List FW
 | []=>l
 | e::r=>cO (if e.1=to then bK l e.2 v else l) v to r
theorem tT (v to:Int):∀(E:List (Int×Int)) (l:List FW),(cO l v to E).length=l.length
 | [],l=>rfl
 | e::r,l=>by
  rw[cO,tT v to r]
  split
  ·rw[db]
  ·rfl
theorem jE (v to:Int):∀(A B:List (Int×Int)) (l:List FW),cO l v to (A++B)=cO (cO l v to A) v to B
 | [],B,l=>rfl
 | a::A,B,l=>by rw[List.cons_append,cO,jE v to A B,cO]
theorem yg (v to:Int)(e:Int×Int)(E:List (Int×Int))(l:List FW):cO l v to (E++[e])=if e.1=to then bK (cO l v to E) e.2 v else cO l v to E:=by
 rw[jE];rfl
def jumps (p:List FX)(i:Nat):Prop:=cb p i=3∨cb p i=4∨cb p i=5
instance (p:List FX) (i:Nat):Decidable (jumps p i):=by unfold jumps;infer_instance
def jP (p:List FX)(i:Nat):Int:=if cb p i=4 then be p (aF p i:Int)+1 else if cb p i=3∧0≤bc p (i:Int)then - bc p (i:Int)else be p (i:Int)+1
def oC (p:List FX)(pos:List Int)(i:Nat):List (Int×Int):=if jumps p i then [(jP p i,atL pos i)]else []
def aX (p:List FX)(pos:List Int)(f:Nat):Nat→List (Int×Int)
 | 0=>[]
 | n+1=>aX p pos f n++oC p pos (f+n)
theorem nM (p:List FX)(pos:List Int)(f:Nat):∀n,(aX p pos f n).length≤n
 | 0=>Nat.le_refl _
 | n+1=>by
  have:=nM p pos f n
  rw[aX,List.length_append,oC]
  split <;> simp <;> omega
theorem ey {l:List Int}{k i:Nat}{v:Int}(h:i≠k):atL (l.set k v) i=atL l i:=by
 unfold atL
 rw[List.getElem?_set_ne (fun e=>h e.symm)]
theorem gy {l:List Int}{k:Nat}{v:Int}(h:k < l.length):atL (l.set k v) k=v:=by
 unfold atL
 rw[List.getElem?_set_self h]
 rfl
theorem ug (p:List FX)(pos:List Int)(f k:Nat)(v:Int):∀n,f+n≤k→aX p (pos.set k v) f n=aX p pos f n
 | 0,_=>rfl
 | n+1,h=>by
  rw[aX,aX,ug p pos f k v n (by omega),oC,oC,ey (by omega)]
theorem kn {p:List FX}{pos:List Int}{f k:Nat}(h:f+1≤k)(hj:¬jumps p k):aX p pos (f+1) (k+1 - (f+1))=aX p pos (f+1) (k - (f+1)):=by
 rw[show k+1 - (f+1)=(k - (f+1))+1 by omega,aX,show f+1+(k - (f+1))=k by omega,oC,if_neg hj,List.append_nil]
theorem sY {p:List FX}{pos:List Int}{f k:Nat}(h:f+1≤k)(hj:jumps p k)(hk:k < pos.length)(v:Int):aX p pos (f+1) (k - (f+1))++[(jP p k,v)]=aX p (pos.set k v) (f+1) (k+1 - (f+1)):=by
 rw[show k+1 - (f+1)=(k - (f+1))+1 by omega,aX,ug _ _ _ _ _ _ (by omega),show f+1+(k - (f+1))=k by omega,oC,if_pos hj,gy hk]
theorem kO {p:List FX}{pos:List Int}{f:Nat}:∀{n:Nat} {e:Int×Int},e∈aX p pos f n→∃i,f≤i∧i < f+n∧jumps p i∧e=(jP p i,atL pos i)
 | 0,e,h=>by simp[aX]at h
 | n+1,e,h=>by
  rw[aX,List.mem_append]at h
  rcases h with h|h
  ·obtain⟨i,h1,h2,h3⟩:=kO h
   exact⟨i,h1,by omega,h3⟩
  ·rw[oC]at h
   split at h
   ·rename_i hj
    simp only[List.mem_cons,List.not_mem_nil,or_false]at h
    exact⟨f+n,by omega,by omega,hj,h⟩
   ·cases h
theorem je {v to:Int}:∀{E:List (Int×Int)} {l:List FW},(∀e∈E,e.1≠to)→cO l v to E=l
 | [],_,_=>rfl
 | e::r,l,h=>by rw[cO,if_neg (h e (by simp)),je fun x hx=>h x (by simp[hx])]
theorem qq {p:List FX}{pos:List Int}{f i0:Nat}{v to:Int}(hj:jumps p i0)(ht:jP p i0=to):∀{n:Nat} {l:List FW},f≤i0→i0 < f+n→(∀i,f≤i→i < f+n→jumps p i→jP p i=to→i=i0)→cO l v to (aX p pos f n)=bK l (atL pos i0) v
 | 0,l,h1,h2,_=>by omega
 | n+1,l,h1,h2,hu=>by
  rw[aX,jE]
  by_cases h:i0=f+n
  ·subst h
   rw[je (E:=aX p pos f n) (fun e he=>by
    obtain⟨i,k1,k2,k3,rfl⟩:=kO he
    intro hh
    have:=hu i k1 (by omega) k3 hh
    omega)]
   rw[oC,if_pos hj]
   show(if(jP p (f+n),atL pos (f+n)).1=to then _ else _)=_
   rw[if_pos ht]
  ·rw[qq hj ht h1 (by omega) fun i k1 k2 k3 k4=>hu i k1 (by omega) k3 k4]
   refine je fun e he=>?_
   rw[oC]at he
   split at he
   ·rename_i hj2
    simp only[List.mem_cons,List.not_mem_nil,or_false]at he
    subst he
    intro hh
    exact h (hu (f+n) (by omega) (by omega) hj2 hh).symm
   ·cases he
theorem bf {p:List FX}{k:Nat}{ln:FX}(h:p[k]?=some ln):cb p k=ln.faa:=by rw[cb,h]
theorem ny {p:List FX}{i:Nat}{m:Int}(h:be p (i:Int)=m)(h0:0≤m):endAt p i=some m.toNat:=by
 rw[bb]at h
 cases he:endAt p i with
 | none=>rw[he]at h;simp only[cp]at h;omega
 | some e=>rw[he]at h;simp only[cp]at h;congr 1;omega
theorem lG (p:List FX)(i:Nat):-1≤be p (i:Int)∧be p (i:Int)≤p.length:=by
 rw[bb]
 cases he:endAt p i with
 | none=>simp only[cp];omega
 | some e=>obtain⟨_,_,_,_,_,h⟩:=aC he;simp only[cp];omega
theorem fg {p:List FX}{i:Nat}:bc p (i:Int)=cp (elseAt p i):=by rw[bc,if_pos (by omega),Int.toNat_natCast]
theorem zY {p:List FX}{i:Nat}(h:cb p i≠3):elseAt p i=none:=by
 cases he:elseAt p i with
 | none=>rfl
 | some j=>
  obtain⟨y,_,hy,h3,_⟩:=aW he
  exact absurd (by rw[bf hy];exact h3) h
section
variable {C:Cx} {x:Sc} {ins:List Nat}
theorem Bv (hC:CxOk C)(hx:ScOk C x ins){e:Nat}(he:endAt C.p x.f=some e){k i:Nat}(h1:x.f+1≤i)(h2:i < k)(h3:k≤e)(hj:jumps C.p i)(ht:jP C.p i=(k:Int)):cb C.p (k - 1)=7∧aF C.p (k - 1)≠x.f∧gV C.p (k - 1)=i:=by
 have hil:i < C.p.length:=by obtain⟨_,_,_,_,_,h⟩:=aC he;omega
 obtain⟨y,hy⟩:=ae hil
 have hky:=bf hy
 unfold jP at ht
 by_cases h4:cb C.p i=4
 ·rw[if_pos h4]at ht
  obtain⟨o1,o2,o3,o4⟩:=hx.own4 hC he (by omega) (by omega) hy (by rw[←hky];exact h4)
  have hee:=ny (show be C.p (aF C.p i:Int)=((k - 1:Nat):Int) by omega) (by omega)
  rw[Int.toNat_natCast]at hee
  obtain⟨z,hz,h7⟩:=bu hee
  rw[ig hee,bf hz]
  refine⟨h7,by omega,?_⟩
  rw[gV,ig hee,o1]
 ·rw[if_neg h4]at ht
  split at ht
  ·omega
  ·rename_i hn
   have hee:=ny (show be C.p (i:Int)=((k - 1:Nat):Int) by omega) (by omega)
   rw[Int.toNat_natCast]at hee
   obtain⟨z,hz,h7⟩:=bu hee
   rw[ig hee,bf hz]
   refine⟨h7,by omega,?_⟩
   rw[gV,ig hee]
   have:elseAt C.p i=none:=by
    by_cases h3':cb C.p i=3
    ·cases hel:elseAt C.p i with
     | none=>rfl
     | some j=>exact absurd ⟨h3',by rw[fg,hel];simp[cp]⟩ hn
    ·exact zY h3'
   rw[this]
theorem xA (hC:CxOk C)(hx:ScOk C x ins){e:Nat}(he:endAt C.p x.f=some e){j:Nat}{ln:FX}(h1:x.f < j)(h2:j < e)(hl:C.p[j]?=some ln)(h7:ln.faa=7):x.f+1≤gV C.p j∧gV C.p j < j∧jumps C.p (gV C.p j)∧jP C.p (gV C.p j)=((j+1:Nat):Int)∧aF C.p j≠x.f:=by
 obtain⟨o1,o2⟩:=hx.own7 hC he h1 (by omega) hl h7
 rcases o2 with⟨o2,_⟩|⟨_,o3,o4,y,hy,ho⟩
 ·omega
 have hky:=bf hy
 have hend:be C.p (aF C.p j:Int)=(j:Int):=by rw[bb];exact ba o1
 unfold gV
 cases hel:elseAt C.p (aF C.p j)with
 | none=>
  dsimp only
  refine⟨by omega,o4,by unfold jumps;omega,?_,by omega⟩
  unfold jP
  rw[if_neg (by omega),if_neg (by rw[fg,hel];simp[cp]),hend]
  omega
 | some m=>
  obtain⟨z,m1,hz,z3,hm1,k1,k2,w,hw,w4⟩:=aW hel
  rw[o1]at hm1
  injection hm1 with hm1
  have hkw:=bf hw
  refine⟨by dsimp only;omega,by dsimp only;omega,by unfold jumps;dsimp only;omega,?_,by omega⟩
  unfold jP
  dsimp only
  rw[if_pos (by omega),oQ hel,hend]
  omega
structure LInv (C:Cx) (lev:Nat) (x:Sc) (ins:List Nat) (d:Int) (e:Nat) (R:Ls) (k:Nat) (L:Ls):Prop where
 lo:x.f+1≤k
 hi:k≤e+1
 heads:L.heads.length=C.p.length
 pos:L.pos.length=C.p.length
 at_:∀i,x.f < i→i < k→jumps C.p i→0≤atL L.pos i∧atL L.pos i < L.g.items.length
 lv:lvOk L
 room:L.g.items.length+(e+1 - k) * (20 * bW lev+3)≤68719476736
 fin:jw C (aT C lev) x ins d (e+1 - k) k L=R
theorem zv (rep:Sc→List Nat→Nat→Nat→Int→Gs→Gs)(base:Int)(k:Nat)(ln:FX)(L:Ls):(dn C rep x ins base k ln L).heads.length=L.heads.length∧(dn C rep x ins base k ln L).pos.length=L.pos.length:=by
 unfold dn aP
 repeat' split
 all_goals simp
theorem od (k:Nat)(ln:FX)(L:Ls):(aS C x k ln L).heads=L.heads∧(aS C x k ln L).pos=L.pos∧(aS C x k ln L).lv=L.lv∧(aS C x k ln L).g.items.length=L.g.items.length∧(aS C x k ln L).g.most=L.g.most∧(aS C x k ln L).g.start=L.g.start:=by
 unfold aS
 split
 ·exact⟨rfl,rfl,rfl,db _ _ _,rfl,rfl⟩
 ·exact⟨rfl,rfl,rfl,rfl,rfl,rfl⟩
theorem Dp (rep:Sc→List Nat→Nat→Nat→Int→Gs→Gs)(base:Int)(k:Nat)(ln:FX)(L:Ls)(hp:k < L.pos.length)(i:Nat):
  (i≠k→atL (dn C rep x ins base k ln L).pos i=atL L.pos i)∧((ln.faa=3∨ln.faa=4∨ln.faa=5)→0≤atL (dn C rep x ins base k ln L).pos k∧atL (dn C rep x ins base k ln L).pos k < (dn C rep x ins base k ln L).g.items.length):=by
 unfold dn
 by_cases h4:ln.faa=4
 ·rw[if_pos h4]
  refine⟨fun hi=>ey hi,fun _=>?_⟩
  simp only[gy hp,db,au,List.length_append,List.length_cons,List.length_nil]
  omega
 ·rw[if_neg h4]
  by_cases h7:ln.faa=7
  ·rw[if_pos h7]
   refine⟨fun _=>?_,fun h=>by omega⟩
   unfold aP
   repeat' split
   all_goals rfl
  ·rw[if_neg h7]
   by_cases h1:ln.faa=1
   ·rw[if_pos h1]
    exact⟨fun _=>rfl,fun h=>by omega⟩
   ·rw[if_neg h1]
    by_cases h2:ln.faa=2
    ·rw[if_pos h2]
     exact⟨fun _=>rfl,fun h=>by omega⟩
    ·rw[if_neg h2]
     by_cases h6:ln.faa=6
     ·rw[if_pos h6]
      refine⟨fun _=>?_,fun h=>by omega⟩
      unfold aP
      repeat' split
      all_goals rfl
     ·rw[if_neg h6]
      refine⟨fun hi=>ey hi,fun _=>?_⟩
      simp only[gy hp,au,List.length_append,List.length_cons,List.length_nil]
      omega
theorem LInv.next (hC:CxOk C)(hx:ScOk C x ins){lev e k:Nat}{d:Int}{R L:Ls}{ln:FX}(he:endAt C.p x.f=some e)(h:LInv C lev x ins d e R k L)(hk:k≤e)(hl:C.p[k]?=some ln):LInv C lev x ins d e R (k+1) (aS C x k ln (dn C (aT C lev) x ins d k ln L)):=by
 have h0:=jh hC hx he h.lo hk hl
 have hrep:∀line g d s,bz C g→bU C ins g s.items.length=true→Grow (bW lev) s (aT C lev x ins line g d s):=fun line g d s hg hr=>cK hC lev line g d s hx hg hr
 have hA:=kh (lev:=lev) (rep:=aT C lev) hrep hC hl h0 d L
 obtain⟨b1,b2,b3,b4,b5,b6⟩:=od (C:=C) (x:=x) k ln (dn C (aT C lev) x ins d k ln L)
 obtain⟨a1,a2⟩:=zv (C:=C) (x:=x) (ins:=ins) (aT C lev) d k ln L
 have hge:=hA.ge
 have hle:=hA.le
 have hr:=h.room
 refine⟨by have:=h.lo;omega,by omega,by rw[b1,a1];exact h.heads,by rw[b2,a2];exact h.pos,fun i h1 h2 hj=>?_,yx k ln (yb (lev:=lev) hrep hC hl h0 d h.lv),?_,?_⟩
 ·rw[b2,b4]
  obtain⟨p1,p2⟩:=Dp (C:=C) (x:=x) (ins:=ins) (aT C lev) d k ln L (by rw[h.pos];exact aL hl) i
  by_cases hik:i=k
  ·subst hik
   refine p2 ?_
   unfold jumps at hj
   rw[bf hl]at hj
   exact hj
  ·rw[p1 hik]
   have:=h.at_ i h1 (by omega) hj
   omega
 ·rw[b4]
  obtain⟨n,hn⟩:∃n,e+1 - k=n+1:=⟨e - k,by omega⟩
  rw[hn,Nat.add_mul]at hr
  rw[show e+1 - (k+1)=n by omega]
  omega
 ·have hf:=h.fin
  obtain⟨n,hn⟩:∃n,e+1 - k=n+1:=⟨e - k,by omega⟩
  rw[hn,jw,hl]at hf
  rw[show e+1 - (k+1)=n by omega]
  exact hf
theorem Af (hC:CxOk C)(hx:ScOk C x ins){e k:Nat}{ln:FX}(he:endAt C.p x.f=some e)(h1:x.f+1≤k)(hk:k≤e)(hl:C.p[k]?=some ln)(A:Ls):
  (k+1≤e→cO A.g.items A.g.items.length ((k+1:Nat):Int) (aX C.p A.pos (x.f+1) (k+1 - (x.f+1)))=(aS C x k ln A).g.items)∧(k=e→A.g.items=(aS C x k ln A).g.items):=by
 constructor
 ·intro hke
  unfold aS
  by_cases h7:ln.faa=7
  ·obtain⟨q1,q2,q3,q4,q5⟩:=xA hC hx he (by omega) (by omega) hl h7
   rw[if_pos ⟨h7,q5⟩]
   refine qq q3 q4 q1 (by omega) fun i k1 k2 k3 k4=>?_
   obtain⟨_,_,t3⟩:=Bv hC hx he (k:=k+1) k1 (by omega) hke k3 k4
   rw[Nat.add_sub_cancel]at t3
   exact t3.symm
  ·rw[if_neg (by omega)]
   refine je fun z hz=>?_
   obtain⟨i,k1,k2,k3,rfl⟩:=kO hz
   intro hh
   obtain⟨t1,_⟩:=Bv hC hx he (k:=k+1) k1 (by omega) hke k3 hh
   rw[Nat.add_sub_cancel,bf hl]at t1
   exact h7 t1
 ·rintro rfl
  unfold aS
  rw[if_neg]
  rintro⟨_,h⟩
  exact h (ig he)
theorem As (hC:CxOk C)(hx:ScOk C x ins){e k:Nat}{ln:FX}(he:endAt C.p x.f=some e)(h1:x.f+1≤k)(hk:k≤e)(hl:C.p[k]?=some ln)(h4:ln.faa=4)(pos:List Int)(l:List FW)(v:Int):
  cO l v (-(k:Int)) (aX C.p pos (x.f+1) (k+1 - (x.f+1)))=bK l (atL pos (aF C.p k)) v:=by
 obtain⟨o1,o2,o3,o4⟩:=hx.own4 hC he h1 hk hl h4
 obtain⟨y,m,hy,y3,hm,_,_,_⟩:=aW o1
 have hky:=bf hy
 have hel:bc C.p (aF C.p k:Int)=(k:Int):=by rw[fg];exact ba o1
 refine qq (by unfold jumps;omega) (by unfold jP;rw[if_neg (by omega),if_pos ⟨by omega,by omega⟩,hel]) (by omega) (by omega) fun i k1 k2 k3 k4=>?_
 unfold jP at k4
 by_cases hi4:cb C.p i=4
 ·rw[if_pos hi4]at k4
  have:=lG C.p (aF C.p i)
  omega
 ·rw[if_neg hi4]at k4
  split at k4
  ·rename_i h3
   have hk':bc C.p (i:Int)=(k:Int):=by omega
   rw[fg]at hk'
   cases hie:elseAt C.p i with
   | none=>rw[hie]at hk';simp only[cp]at hk';omega
   | some j=>
    rw[hie]at hk'
    simp only[cp]at hk'
    have:j=k:=by omega
    subst this
    exact km hie o1
  ·have:=lG C.p i
   omega
end
theorem nz (l:List Gf)(hl:l.length≤1048576):Sim.Spec Tryz.prog 257 [tvL 3 (l.map Gf.tr)] (rL 3 (l.map Gf.tr)):=by
 refine aJ hΓ ao Tryz.func257 rfl (by decide) rfl ?_
 repeat' ((conv=>whnf);first|apply Wx|apply W6|apply oi|(apply fi<;>intro h)|refine⟨_,rfl,?_⟩|exact rfl)
 all_goals try exact⟨KP⟩
 all_goals try exact⟨⟨by simp <;> omega,by simp <;> omega⟩⟩
 all_goals try exact⟨⟨rfl,bQ _⟩⟩
theorem uD (x:FX)(hs:aw 1048576 x.tr):Sim.Spec Tryz.prog 239 [.agg x.tr] (.r (.agg (x.tr.map zh))):=by
 refine aJ hΓ ao Tryz.func239 rfl (by decide) rfl ?_
 obtain⟨h1,h2,h3,h4,h5⟩:=cD hs
 have hT:=nz x.fad h4
 repeat' ((conv=>whnf);first|apply Wx|apply W6|apply oi|(apply fi<;>intro h)|refine cl hT ?_|refine⟨_,rfl,?_⟩|exact rfl)
 all_goals try exact⟨KP⟩
 all_goals try exact⟨⟨by simp <;> omega,by simp <;> omega⟩⟩
 all_goals try exact⟨⟨rfl,fd _⟩⟩
theorem sK {α β:Type}(f:α→β)(l:List α)(k:Nat)(x:α)(hx:l[k]?=some x):(l.take (k+1)).map f=(l.take k).map f++[f x]:=by
 rw[List.take_add_one,hx,List.map_append]
 rfl
theorem oG (l:List FX)(hs:ay 1048576 (.lst 4 (l.map FX.tr))):bx Tryz.prog 195 [vP l] [] (.r (.c (.own (1,0,0)))) [((1,0,0),.dar 4 (ah (l.map FX.tr)) none)]:=by
 refine aD hΓ ao Tryz.func195 rfl (by decide) rfl rfl ?_
 have hl:=aI hs
 have hlen:(l.map FX.tr).length=l.length:=by simp
 repeat' ((conv=>whnf);first|apply Wx|apply W6|apply oi|(apply fi<;>intro h)|refine⟨_,rfl,?_⟩|exact rfl)
 all_goals try exact⟨KP⟩
 conv=>whnf
 refine⟨{k:Nat // k≤l.length},fun q=>⟨[(0,vP l),(3,.r (.c (.own (3,0,0)))),(4,tI .i64 (q.1:Int))],[((3,0,0),some (.dar 4 (ah ((l.take q.1).map FX.tr)) none))],[3,0]⟩,fun q=>l.length - q.1,⟨0,by omega⟩,?_,?_⟩
 ·skip
  repeat' ((conv=>whnf);first|apply Wx|apply W6|apply oi|(apply fi<;>intro h)|refine⟨_,rfl,?_⟩|exact rfl)
  all_goals try exact⟨KP⟩
 intro⟨k,hk⟩
 dsimp only at hk ⊢
 by_cases hlt:k < l.length
 ·obtain⟨x,hx⟩:=ae hlt
  have hdl:(ah ((l.take k).map FX.tr)).length=k:=by rw[aR,List.length_map,List.length_take];omega
  have hC:=uD x (aA hs (List.mem_of_getElem? hx))
  repeat' ((conv=>whnf);first|apply Wx|apply W6|apply oi|(apply fi<;>intro h)|refine⟨k,x.tr,rfl,ab hx,?_⟩|refine cl hC ?_|refine⟨_,rfl,?_⟩|exact rfl)
  all_goals try exact⟨KP⟩
  all_goals try exact KX
  all_goals try exact⟨bQ _⟩
  all_goals try exact⟨fd _⟩
  all_goals try exact⟨⟨by rw[hdl];(try dsimp only);simp <;> omega,by rw[hdl];(try dsimp only);simp <;> omega⟩⟩
  repeat' ((conv=>whnf);first|apply Wx|apply W6|apply oi|(apply fi<;>intro h)|refine⟨_,rfl,?_⟩|exact rfl)
  all_goals try exact⟨KP⟩
  conv=>whnf
  refine⟨⟨k+1,by omega⟩,?_,KD⟩
  repeat' ((conv=>whnf);first|apply Wx|apply W6|apply oi|(apply fi<;>intro h)|refine⟨_,rfl,?_⟩|exact rfl)
  all_goals try exact⟨KP⟩
  all_goals try exact⟨K4⟩
  all_goals exact⟨by rw[sK FX.tr l k x hx];simp[ah,FX.tr]⟩
 ·skip
  repeat' ((conv=>whnf);first|apply Wx|apply W6|apply oi|(apply fi<;>intro h)|refine⟨_,rfl,?_⟩|exact rfl)
  all_goals try exact⟨KP⟩
  all_goals try exact KX
  all_goals exact⟨by rw[List.take_of_length_le (by omega)]⟩
noncomputable def jY (l:List Gf):List Gf:=if h:bi l=true then(Classical.choose (ia h)).fold.toks else []
theorem pO {l:List Gf}(h:bi l=true):∃e:Ex,e.ok∧l=e.toks∧jY l=e.fold.toks:=by
 have hc:=Classical.choose_spec (ia h)
 exact⟨_,hc.1,hc.2,by rw[jY,dif_pos h]⟩
theorem px {l:List Gf}(h:bi l=false):jY l=[]:=by rw[jY,dif_neg (by simp[h])]
theorem vo (l:List Gf):(jY l).length≤l.length:=by
 cases h:bi l with
 | false=>rw[px h];simp
 | true=>
  obtain⟨e,_,h1,h2⟩:=pO h
  rw[h2,h1]
  exact e.fold_le
theorem rP (l:List Gf)(hl:l.length≤1048576)(hn:dq l):Sim.Spec Tryz.prog 196 [tvL 3 (l.map Gf.tr)] (rL 3 ((jY l).map Gf.tr)):=by
 refine aJ hΓ ao Tryz.func196 rfl (by decide) rfl ?_
 have hE:=np l hl hn
 cases h:bi l with
 | false=>
  rw[h]at hE
  rw[px h]
  repeat' ((conv=>whnf);first|apply Wx|apply W6|apply oi|(apply fi<;>intro h)|refine cl hE ?_|refine⟨_,rfl,?_⟩|exact rfl)
  all_goals try exact⟨KP⟩
  all_goals try exact KX
 | true=>
  rw[h]at hE
  obtain⟨e,h1,h2,h3⟩:=pO h
  have hF:=lm e.toks.length e (Nat.le_refl _) l 0 hl hn h1 ⟨[],by rw[List.drop_zero,List.append_nil];exact h2⟩
  rw[h3]
  generalize e.fold.toks=r at *
  repeat' ((conv=>whnf);first|apply Wx|apply W6|apply oi|(apply fi<;>intro h)|refine cl hE ?_|refine cl hF ?_|refine⟨_,rfl,?_⟩|exact rfl)
  all_goals try exact⟨KP⟩
  all_goals try exact KX
noncomputable def aN (x:FX):FX:=if 0 < x.fad.length then⟨x.faa,x.fab,x.faf,jY x.fad⟩else x
noncomputable def eP (l:List FX) (k:Nat):List FX:=(l.take k).map aN++l.drop k
theorem zo (l:List FX)(k:Nat):(eP l k).length=l.length:=by simp[eP];omega
theorem lp {l:List FX}{k:Nat}{x:FX}(hx:l[k]?=some x):(eP l k)[k]?=some x:=by
 have hk:k < l.length:=by
  rcases Nat.lt_or_ge k l.length with h|h
  ·exact h
  ·rw[List.getElem?_eq_none h]at hx;cases hx
 rw[eP,List.getElem?_append_right (by simp;omega)]
 simp only[List.length_map,List.length_take]
 rw[Nat.min_eq_left (by omega),Nat.sub_self,List.getElem?_drop]
 exact hx
theorem pt {l:List FX}{k:Nat}{x:FX}(hx:l[k]?=some x):eP l (k+1)=(eP l k).set k (aN x):=by
 have hk:k < l.length:=by
  rcases Nat.lt_or_ge k l.length with h|h
  ·exact h
  ·rw[List.getElem?_eq_none h]at hx;cases hx
 rw[eP,eP,sK aN l k x hx,cV hx,List.set_append_right _ _ (by simp;omega)]
 simp only[List.length_map,List.length_take]
 rw[Nat.min_eq_left (by omega),Nat.sub_self,List.set_cons_zero,List.append_assoc]
 rfl
noncomputable def dg (l:List FX):List FX:=if az l=true then l.map aN else []
theorem nZ (l:List FX)(hs:ay 1048576 (.lst 4 (l.map FX.tr))):Sim.Spec Tryz.prog 132 [tvP l] (rL 4 ((dg l).map FX.tr)):=by
 refine aJ hΓ ao Tryz.func132 rfl (by decide) rfl ?_
 have hl:=aI hs
 have hP:=eA l hs
 have hC:=oG l hs
 cases hpo:az l with
 | false=>
  rw[hpo]at hP
  have:dg l=[]:=by rw[dg,if_neg (by simp[hpo])]
  rw[this]
  repeat' ((conv=>whnf);first|apply Wx|apply W6|apply oi|(apply fi<;>intro h)|refine cl hP ?_|refine⟨_,rfl,?_⟩|exact rfl)
  all_goals try exact⟨KP⟩
  all_goals try exact KX
 | true=>
  rw[hpo]at hP
  have:dg l=l.map aN:=by rw[dg,if_pos hpo]
  rw[this]
  repeat' ((conv=>whnf);first|apply Wx|apply W6|refine cg hC ?_|apply oi|(apply fi<;>intro h)|refine cl hP ?_|refine⟨_,rfl,?_⟩|exact rfl)
  all_goals try exact⟨KP⟩
  all_goals try exact KX
  conv=>whnf
  refine⟨{k:Nat // k≤l.length},fun q=>⟨[(3,.r (.c (.own (3,0,0)))),(4,tI .i64 (q.1:Int))],[((3,0,0),some (.dar 4 (ah ((eP l q.1).map FX.tr)) none))],[3]⟩,fun q=>l.length - q.1,⟨0,by omega⟩,?_,?_⟩
  ·skip
   repeat' ((conv=>whnf);first|apply Wx|apply W6|apply oi|(apply fi<;>intro h)|refine⟨_,rfl,?_⟩|exact rfl)
   all_goals try exact⟨KP⟩
  intro⟨k,hk⟩
  dsimp only at hk ⊢
  have hdl:(ah ((eP l k).map FX.tr)).length=l.length:=by rw[aR,List.length_map,zo]
  by_cases hlt:k < l.length
  ·obtain⟨x,hx⟩:=ae hlt
   obtain⟨h1,h2,h3,h4,h5⟩:=cD (aA hs (List.mem_of_getElem? hx))
   have hF:=rP x.fad h4 (fun y hy=>by have:=h5 y hy;omega)
   have hkl:k < (ah ((eP l k).map FX.tr)).length:=by rw[hdl];exact hlt
   have hel3:(x.fad.map Gf.tr).length=x.fad.length:=by simp
   by_cases hpos:0 < x.fad.length
   ·have hfl:aN x=⟨x.faa,x.fab,x.faf,jY x.fad⟩:=by rw[aN,if_pos hpos]
    repeat' ((conv=>whnf);first|apply Wx|apply W6|apply oi|(apply fi<;>intro h)|refine⟨k,rfl,hkl,?_⟩|refine⟨k,rfl,(by simpa using hkl),?_⟩|refine⟨_,fJ (ab (lp hx)),?_⟩|refine⟨_,(List.getElem?_set_self (by simpa using hkl)),?_⟩|refine cl hF ?_|refine⟨_,rfl,?_⟩|exact rfl)
    all_goals try exact⟨KP⟩
    all_goals try exact⟨bQ _⟩
    all_goals try(exfalso;have h':=of_decide_eq_false h;rw[hdl]at h';omega)
    all_goals try(exfalso;have h':=of_decide_eq_false h;rw[hel3]at h';omega)
    conv=>whnf
    refine⟨⟨k+1,by omega⟩,?_,KD⟩
    repeat' ((conv=>whnf);first|apply Wx|apply W6|apply oi|(apply fi<;>intro h)|refine⟨_,rfl,?_⟩|exact rfl)
    all_goals try exact⟨KP⟩
    all_goals try exact⟨bQ _⟩
    all_goals try exact⟨K4⟩
    all_goals(refine⟨?_⟩;(try dsimp only);rw[pt hx,List.map_set,←kC,hfl];simp[FX.tr])
   ·have hfl:aN x=x:=by rw[aN,if_neg hpos]
    repeat' ((conv=>whnf);first|apply Wx|apply W6|apply oi|(apply fi<;>intro h)|refine⟨k,rfl,hkl,?_⟩|refine⟨k,rfl,(by simpa using hkl),?_⟩|refine⟨_,fJ (ab (lp hx)),?_⟩|refine⟨_,(List.getElem?_set_self (by simpa using hkl)),?_⟩|refine cl hF ?_|refine⟨_,rfl,?_⟩|exact rfl)
    all_goals try exact⟨KP⟩
    all_goals try exact⟨bQ _⟩
    all_goals try(exfalso;have h':=of_decide_eq_false h;rw[hdl]at h';omega)
    all_goals try(exfalso;have h':=of_decide_eq_true h;rw[hel3]at h';omega)
    conv=>whnf
    refine⟨⟨k+1,by omega⟩,?_,KD⟩
    repeat' ((conv=>whnf);first|apply Wx|apply W6|apply oi|(apply fi<;>intro h)|refine⟨k,rfl,hkl,?_⟩|refine⟨k,rfl,(by simpa using hkl),?_⟩|refine⟨_,fJ (ab (lp hx)),?_⟩|refine⟨_,(List.getElem?_set_self (by simpa using hkl)),?_⟩|refine⟨_,rfl,?_⟩|exact rfl)
    all_goals try exact⟨KP⟩
    all_goals try exact⟨bQ _⟩
    all_goals try exact⟨K4⟩
    all_goals(refine⟨?_⟩;(try dsimp only);rw[pt hx,List.map_set,←kC,hfl];simp[FX.tr])
  ·skip
   repeat' ((conv=>whnf);first|apply Wx|apply W6|apply oi|(apply fi<;>intro h)|refine⟨_,rfl,?_⟩|exact rfl)
   all_goals try exact⟨KP⟩
   all_goals try exact KX
   all_goals exact⟨by rw[eP,List.take_of_length_le (by omega),List.drop_eq_nil_of_le (by omega),List.append_nil]⟩
structure PgOk (p:List FX):Prop where
 len:p.length≤60
 small:ay 1048576 (.lst 4 (p.map FX.tr))
 line:∀(k:Nat) (ln:FX),p[k]?=some ln→0≤ln.faa∧ln.faa≤7∧ln.faf.length≤4∧ln.fad.length≤20∧((ln.faa=1∨ln.faa=2∨ln.faa=3∨ln.faa=5∨ln.faa=6)→bi ln.fad=true)
 fn:∀(g:Nat) (ln:FX),p[g]?=some ln→ln.faa=0→∃e,endAt p g=some e∧(localsOf p (g:Int)).length≤8∧ln.faf.length≤(localsOf p (g:Int)).length∧∀(k:Nat) (y:FX),g < k→k < e→p[k]?=some y→y.faa≠0∧(∀t∈y.fad,t.faa=7→∃f,findN p 0 t.fab=some f∧(argsN p f:Int)=t.fai)∧(y.faa=4→∃i,g≤i∧i < k∧elseAt p i=some k)
theorem PgOk.cx {p:List FX}(h:PgOk p){b:FO}{framed:Bool}{words args:Int}(ha:0≤args∧args≤4)(hw:0≤words∧words≤1000)(hi:0≤b.faj∧b.faj≤3):CxOk ⟨p,b,framed,words,args⟩:=
 ⟨h.len,h.small,h.line,h.fn,ha,hw,hi⟩
theorem tJ {F:Nat→Nat→Bool}{l:List FX}(hF:∀k e,endAt l k=some e→F k e=true→∀i x,k < i→i < e→l[i]?=some x→x.faa≠0):∀(n k:Nat),bH F l n k=true→∀g x,k≤g→l[g]?=some x→x.faa=0→∃e,endAt l g=some e∧F g e=true
 | 0,k,h,g,x,hk,hg,_=>by
  rw[bH,decide_eq_true_eq]at h
  have:=aL hg
  omega
 | n+1,k,h,g,x,hk,hg,h0=>by
  rw[bH,if_pos (by have:=aL hg;omega)]at h
  split at h
  ·rename_i y e hy he
   split at h
   ·rename_i hc
    by_cases hgk:g=k
    ·subst hgk;exact⟨e,he,hc.2⟩
    ·by_cases hge:g≤e
     ·by_cases hge2:g=e
      ·subst hge2
       obtain⟨z,hz,h7⟩:=bu he
       rw[hg]at hz
       injection hz with hz
       subst hz
       omega
      ·exact absurd h0 (hF k e he hc.2 g x (by omega) (by omega) hg)
     ·exact tJ hF n (e+1) h g x (by omega) hg h0
   ·cases h
  ·cases h
theorem tW {l:List FX}{locals:List (List UInt8)}{e:Nat}:∀(n i d:Nat),e - i≤n→e≤l.length→iK l locals e n i d=true→∀j x,i≤j→j < e→l[j]?=some x→bB l locals x.fad=true
 | 0,i,d,hn,_,_,j,x,h1,h2,_=>by omega
 | n+1,i,d,hn,he,hb,j,x,h1,h2,hx=>by
  rw[iK,if_pos (by omega)]at hb
  obtain⟨y,hy⟩:=ae (l:=l) (k:=i) (by omega)
  rw[hy]at hb
  dsimp only at hb
  split at hb
  ·cases hb
  ·split at hb
   ·rename_i hk
    by_cases hj:j=i
    ·subst hj
     rw[hy]at hx
     injection hx with hx
     subst hx
     exact hk.2
    ·exact tW n (i+1) _ (by omega) he hb j x (by omega) h2 hx
   ·cases hb
theorem Ah (acc:List (List UInt8))(s:List UInt8):acc.length≤(jl acc s).length:=by
 unfold jl
 split <;> simp
theorem Bu {l:List FX}{e:Nat}:∀(n i:Nat) (acc:List (List UInt8)),acc.length≤(locN l e n i acc).length
 | 0,_,_=>by simp[locN]
 | n+1,i,acc=>by
  rw[locN]
  split
  ·split
   ·refine Nat.le_trans ?_ (Bu n _ _)
    split
    ·exact Ah _ _
    ·exact Nat.le_refl _
   ·exact Nat.le_refl _
  ·exact Nat.le_refl _
theorem hasExpr_iff {k:Int}:cR k=true↔(k=1∨k=2∨k=3∨k=5∨k=6):=by
 unfold cR
 simp
theorem wD {x:FX}(h:co x=true):0≤x.faa∧x.faa≤7∧x.faf.length≤4∧x.fad.length≤20∧((x.faa=1∨x.faa=2∨x.faa=3∨x.faa=5∨x.faa=6)→bi x.fad=true):=by
 have h4:x.faf.length≤4:=by
  rcases Nat.lt_or_ge 4 x.faf.length with h'|h'
  ·rw[rg h']at h;cases h
  ·exact h'
 unfold co at h
 simp only[Bool.and_eq_true,within_iff]at h
 obtain⟨⟨h1,h2⟩,_,_,h3⟩:=h
 refine⟨h1,h2,h4,?_,fun hk=>by rw[if_pos (hasExpr_iff.2 hk)]at h3;exact h3⟩
 split at h3
 ·unfold bi at h3
  simp only[Bool.and_eq_true,decide_eq_true_eq]at h3
  exact h3.1
 ·have:=eq_of_beq h3
  omega
theorem sG {p:List FX}(hs:ay 1048576 (.lst 4 (p.map FX.tr)))(h:az p=true):PgOk p:=by
 unfold az at h
 simp only[Bool.and_eq_true,decide_eq_true_eq]at h
 obtain⟨h1,_,h2,_,_,h3,h4⟩:=h
 have hS:=uc p
 rw[h3,h4]at hS
 have hlines:∀(k:Nat) (ln:FX),p[k]?=some ln→0≤ln.faa∧ln.faa≤7∧ln.faf.length≤4∧ln.fad.length≤20∧((ln.faa=1∨ln.faa=2∨ln.faa=3∨ln.faa=5∨ln.faa=6)→bi ln.fad=true):=fun k ln hk=>wD (List.all_eq_true.1 h2 ln (List.mem_of_getElem? hk))
 have hlt:∀k e,endAt p k=some e→e≤p.length:=fun k e he=>by obtain⟨_,_,_,_,_,h⟩:=aC he;omega
 have hF:∀k e,endAt p k=some e→mi p k e=true→∀i x,k < i→i < e→p[i]?=some x→x.faa≠0:=fun k e he hf=>by
  rw[uh,Bool.and_eq_true]at hf
  exact uG hf.1 (hlt k e he)
 refine⟨h1,hs,hlines,fun g ln hg h0=>?_⟩
 obtain⟨e,he,hf⟩:=tJ hF p.length 0 hS g ln (Nat.zero_le _) hg h0
 have hf':=hf
 rw[uh,Bool.and_eq_true]at hf'
 obtain⟨hf1,hf2⟩:=hf'
 have hf1':=hf1
 rw[iW,Bool.and_eq_true,decide_eq_true_eq]at hf1'
 obtain⟨hl8,hbody⟩:=hf1'
 refine⟨e,he,hl8,?_,fun k y hk1 hk2 hy=>⟨hF g e he hf k y hk1 hk2 hy,fun t ht h7=>?_,fun h4'=>?_⟩⟩
 ·unfold localsOf
  rw[if_pos (by omega),Int.toNat_natCast,hg,he]
  dsimp only
  rw[if_pos h0]
  exact Bu _ _ _
 ·have hkn:=tW (e - (g+1)) (g+1) 0 (Nat.le_refl _) (hlt g e he) hbody k y (by omega) hk2 hy
  unfold bB at hkn
  have:=List.all_eq_true.1 hkn t ht
  unfold bP at this
  rw[if_neg (by omega),if_pos h7]at this
  split at this
  ·rename_i f hfi
   refine⟨f,hfi,?_⟩
   unfold argsN
   split at this
   ·rename_i x hx
    (try rw[hx])
    exact eq_of_beq this
   ·cases this
  ·cases this
 ·have:=(gG (Nat.le_refl _)).1 hf2 k y (by omega) hk2 hy h4'
  rw[me]at this
  obtain⟨i,i1,i2,i3⟩:=this
  exact⟨i,i1,by omega,i3⟩
def alike (p q:List FX):Prop:=p.map (fun x=>(x.faa,x.fab,x.faf))=q.map (fun x=>(x.faa,x.fab,x.faf))
theorem alike.len {p q:List FX}(h:alike p q):p.length=q.length:=by simpa using congrArg List.length h
theorem alike.get {p q:List FX}(h:alike p q){k:Nat}{x:FX}(hx:p[k]?=some x):∃y,q[k]?=some y∧x.faa=y.faa∧x.fab=y.fab∧x.faf=y.faf:=by
 have:=congrArg (·[k]?) h
 simp only[List.getElem?_map,hx,Option.map_some]at this
 cases hy:q[k]? with
 | none=>rw[hy]at this;cases this
 | some y=>
  rw[hy]at this
  simp only[Option.map_some,Option.some.injEq,Prod.mk.injEq]at this
  exact⟨y,rfl,this.1,this.2.1,this.2.2⟩
theorem alike.none {p q:List FX}(h:alike p q){k:Nat}(hx:p[k]?=none):q[k]?=none:=by
 rw[List.getElem?_eq_none_iff]at hx ⊢
 have:=h.len
 omega
theorem alike.symm {p q:List FX}(h:alike p q):alike q p:=Eq.symm h
theorem alike.drop {p q:List FX}(h:alike p q)(n:Nat):alike (p.drop n) (q.drop n):=by
 unfold alike at *
 rw[List.map_drop,List.map_drop,h]
theorem alike.endN:∀{p q:List FX},alike p q→∀(i o:Nat),endN p i o=endN q i o
 | [],[],_,_,_=>rfl
 | x::p,y::q,h,i,o=>by
  simp only[alike,List.map_cons,List.cons.injEq,Prod.mk.injEq]at h
  have ih:=alike.endN (p:=p) (q:=q) h.2
  rw[Go.Proofs.YtoglejgmjeojoaaGreat.endN,Go.Proofs.YtoglejgmjeojoaaGreat.endN,h.1.1,ih,ih,ih]
 | [],_::_,h,_,_=>by simp[alike]at h
 | _::_,[],h,_,_=>by simp[alike]at h
theorem alike.endAt {p q:List FX}(h:alike p q)(k:Nat):endAt p k=endAt q k:=by
 unfold Go.Proofs.YtoglejgmjeojoaaGreat.endAt
 cases hx:p[k]? with
 | none=>rw[h.none hx]
 | some x=>
  obtain⟨y,hy,e1,_⟩:=h.get hx
  rw[hy]
  dsimp only
  rw[e1,(h.drop (k+1)).endN]
theorem alike.elseN {p q:List FX}(h:alike p q){e:Nat}:∀(n i:Nat),elseN p e n i=elseN q e n i
 | 0,_=>rfl
 | n+1,i=>by
  rw[Go.Proofs.YtoglejgmjeojoaaGreat.elseN,Go.Proofs.YtoglejgmjeojoaaGreat.elseN]
  cases hx:p[i]? with
  | none=>rw[h.none hx]
  | some x=>
   obtain⟨y,hy,e1,_⟩:=h.get hx
   rw[hy]
   dsimp only
   rw[e1,h.endAt i]
   cases Go.Proofs.YtoglejgmjeojoaaGreat.endAt q i with
   | none=>dsimp only;rw[alike.elseN h n]
   | some m=>dsimp only;rw[alike.elseN h n,alike.elseN h n]
theorem alike.elseAt {p q:List FX}(h:alike p q)(k:Nat):elseAt p k=elseAt q k:=by
 unfold Go.Proofs.YtoglejgmjeojoaaGreat.elseAt
 rw[h.endAt k]
 cases hx:p[k]? with
 | none=>rw[h.none hx]
 | some x=>
  obtain⟨y,hy,e1,_⟩:=h.get hx
  rw[hy]
  cases Go.Proofs.YtoglejgmjeojoaaGreat.endAt q k with
  | none=>rfl
  | some e=>dsimp only;rw[e1,h.elseN]
theorem alike.findN:∀{p q:List FX},alike p q→∀(i:Nat) (s:List UInt8),findN p i s=findN q i s
 | [],[],_,_,_=>rfl
 | x::p,y::q,h,i,s=>by
  simp only[alike,List.map_cons,List.cons.injEq,Prod.mk.injEq]at h
  have ih:=alike.findN (p:=p) (q:=q) h.2
  rw[Go.Proofs.YtoglejgmjeojoaaGreat.findN,Go.Proofs.YtoglejgmjeojoaaGreat.findN,h.1.1,h.1.2.1,ih]
 | [],_::_,h,_,_=>by simp[alike]at h
 | _::_,[],h,_,_=>by simp[alike]at h
theorem alike.locN {p q:List FX}(h:alike p q){e:Nat}:∀(n i:Nat) (acc:List (List UInt8)),locN p e n i acc=locN q e n i acc
 | 0,_,_=>rfl
 | n+1,i,acc=>by
  rw[Go.Proofs.YtoglejgmjeojoaaGreat.locN,Go.Proofs.YtoglejgmjeojoaaGreat.locN]
  cases hx:p[i]? with
  | none=>rw[h.none hx]
  | some x=>
   obtain⟨y,hy,e1,e2,_⟩:=h.get hx
   rw[hy]
   dsimp only
   rw[e1,e2,alike.locN h n]
theorem alike.localsOf {p q:List FX}(h:alike p q)(k:Int):localsOf p k=localsOf q k:=by
 unfold Go.Proofs.YtoglejgmjeojoaaGreat.localsOf
 rw[h.endAt]
 cases hx:p[k.toNat]? with
 | none=>rw[h.none hx]
 | some x=>
  obtain⟨y,hy,e1,_,e3⟩:=h.get hx
  rw[hy]
  cases Go.Proofs.YtoglejgmjeojoaaGreat.endAt q k.toNat with
  | none=>rfl
  | some e=>dsimp only;rw[e1,e3,h.locN]
theorem alike.argsN {p q:List FX}(h:alike p q)(g:Nat):argsN p g=argsN q g:=by
 unfold Go.Proofs.YtoglejgmjeojoaaGreat.argsN
 cases hx:p[g]? with
 | none=>rw[h.none hx]
 | some x=>
  obtain⟨y,hy,_,_,e3⟩:=h.get hx
  rw[hy]
  dsimp only
  rw[e3]
theorem iR (p:List FX):alike (p.map aN) p:=by
 unfold alike
 rw[List.map_map]
 refine List.map_congr_left fun x _=>?_
 simp only[Function.comp,aN]
 split <;> rfl
theorem Fo (v:Int):ar ⟨0,v,[]⟩=0:=by
 unfold ar nw
 split <;> simp
theorem EF {v:Int}(h:af v 0 999=true):(wC v).ok:=⟨by simp[eB,h],by rw[Fo];rfl,trivial⟩
theorem EK {t:Gf}{fs:List Ex}(h1:eB t=true)(h2:fs.length=ar t)(h3:iF fs):(vg t fs).ok:=by
 unfold vg
 split
 ·split
  ·rename_i hc
   exact EF hc.2.2.2
  ·exact⟨h1,h2,h3⟩
 ·exact⟨h1,h2,h3⟩
mutual
theorem Ex.fold_ok:∀e:Ex,e.ok→e.fold.ok
 | .node t es,h=>by rw[Ex.fold];exact EK h.1 (by rw[iM];exact h.2.1) (vK es h.2.2)
theorem vK:∀es:List Ex,iF es→iF (aV es)
 | [],_=>by rw[aV];trivial
 | a::es,h=>by rw[aV];exact⟨a.fold_ok h.1,vK es h.2⟩
end
theorem CO {t:Gf}{fs:List Ex}{z:Gf}(h:z∈(vg t fs).toks):z=t∨z∈ak fs∨∃n,z=⟨0,n,[]⟩:=by
 unfold vg at h
 split at h
 ·split at h
  ·simp only[wC,Ex.toks,ak,List.mem_cons,List.not_mem_nil,or_false]at h
   exact .inr (.inr ⟨_,h⟩)
  ·rw[Ex.toks,List.mem_cons]at h
   exact h.imp id .inl
 ·rw[Ex.toks,List.mem_cons]at h
  exact h.imp id .inl
mutual
theorem Ex.fold_mem:∀(e:Ex) {z:Gf},z∈e.fold.toks→z∈e.toks∨∃n,z=⟨0,n,[]⟩
 | .node t es,z,h=>by
  rw[Ex.fold]at h
  rw[Ex.toks,List.mem_cons]
  rcases CO h with h|h|h
  ·exact .inl (.inl h)
  ·rcases tm es h with h|h
   ·exact .inl (.inr h)
   ·exact .inr h
  ·exact .inr h
theorem tm:∀(es:List Ex) {z:Gf},z∈ak (aV es)→z∈ak es∨∃n,z=⟨0,n,[]⟩
 | [],z,h=>by rw[aV]at h;exact .inl h
 | a::es,z,h=>by
  rw[aV,ak,List.mem_append]at h
  rw[ak,List.mem_append]
  rcases h with h|h
  ·exact(a.fold_mem h).imp .inl id
  ·exact(tm es h).imp .inr id
end
theorem Cf {e:Ex}(ho:e.ok)(hl:e.toks.length≤20):bi e.toks=true:=by
 have h:=iS (l:=e.toks) (p:=0) ⟨[],by rw[List.drop_zero,List.append_nil]⟩ ho
 have hp:=e.toks_pos
 unfold bi
 rw[decide_eq_true hl,decide_eq_true hp,show cY e.toks 0=_ from h]
 simp
theorem qT {l:List Gf}(h:bi l=true):bi (jY l)=true∧∀z∈jY l,z∈l∨∃n,z=⟨0,n,[]⟩:=by
 obtain⟨e,h1,h2,h3⟩:=pO h
 have hl:=vo l
 have h20:l.length≤20:=by
  unfold bi at h
  simp only[Bool.and_eq_true,decide_eq_true_eq]at h
  exact h.1
 rw[h3]at hl ⊢
 refine⟨Cf (e.fold_ok h1) (by omega),fun z hz=>?_⟩
 rw[h2]
 exact e.fold_mem hz
theorem lT {L:Int}:∀{rows:List (List Tr)},(∀r∈rows,aw L r)→dz L rows
 | [],_=>by rw[dz];trivial
 | r::rs,h=>by rw[dz];exact⟨h r (by simp),lT fun x hx=>h x (by simp[hx])⟩
theorem tO {x:FX}(hs:aw 1048576 x.tr)(he:(x.faa=1∨x.faa=2∨x.faa=3∨x.faa=5∨x.faa=6)→bi x.fad=true)(h20:x.fad.length≤20):
  (aN x).faa=x.faa∧(aN x).faf=x.faf∧(aN x).fad.length≤20∧((x.faa=1∨x.faa=2∨x.faa=3∨x.faa=5∨x.faa=6)→bi (aN x).fad=true)∧(∀z∈(aN x).fad,z∈x.fad∨∃n,z=⟨0,n,[]⟩)∧aw 1048576 (aN x).tr:=by
 unfold aN
 split
 ·rename_i hpos
  have hl:=vo x.fad
  have hz:∀z∈jY x.fad,z∈x.fad∨∃n,z=⟨0,n,[]⟩:=by
   cases hx:bi x.fad with
   | true=>exact(qT hx).2
   | false=>rw[px hx];intro z hz;cases hz
  refine⟨rfl,rfl,by dsimp only;omega,fun hk=>(qT (he hk)).1,hz,?_⟩
  simp only[FX.tr,aw]at hs ⊢
  obtain⟨q0,q1,q2,q3,q4⟩:=hs
  refine⟨q0,q1,q2,?_,q4⟩
  have hsl:=cU q3
  rw[ay]
  refine⟨by rw[List.length_map];omega,lT fun r hr=>?_⟩
  obtain⟨z,hz1,rfl⟩:=List.mem_map.1 hr
  rcases hz z hz1 with h|⟨n,rfl⟩
  ·exact aA q3 h
  ·simp[Gf.tr,aw,ay]
 ·exact⟨rfl,rfl,h20,he,fun z hz=> .inl hz,hs⟩
theorem PgOk.fold {p:List FX}(h:PgOk p):PgOk (p.map aN):=by
 have ha:=iR p
 have bh:∀{k:Nat} {y:FX},(p.map aN)[k]?=some y→∃x,p[k]?=some x∧y=aN x:=fun{k y} hy=>by
  rw[List.getElem?_map]at hy
  cases hx:p[k]? with
  | none=>rw[hx]at hy;cases hy
  | some x=>rw[hx]at hy;injection hy with hy;exact⟨x,rfl,hy.symm⟩
 have hf:∀{k:Nat} {x:FX},p[k]?=some x→_:=fun{k x} hx=>tO (aA h.small (List.mem_of_getElem? hx)) (h.line k x hx).2.2.2.2 (h.line k x hx).2.2.2.1
 refine⟨by rw[List.length_map];exact h.len,?_,fun k y hy=>?_,fun g y hy h0=>?_⟩
 ·rw[ay]
  refine⟨by have:=h.len;simp;omega,lT fun r hr=>?_⟩
  obtain⟨y,hy,rfl⟩:=List.mem_map.1 hr
  obtain⟨x,hx,rfl⟩:=List.mem_map.1 hy
  obtain⟨k,hk,hkx⟩:=List.mem_iff_getElem.1 hx
  exact(hf (k:=k) (x:=x) (by rw[List.getElem?_eq_getElem hk,hkx])).2.2.2.2.2
 ·obtain⟨x,hx,rfl⟩:=bh hy
  obtain⟨f1,f2,f3,f4,_⟩:=hf hx
  obtain⟨l1,l2,l3,_⟩:=h.line k x hx
  rw[f1,f2]
  exact⟨l1,l2,l3,f3,f4⟩
 ·obtain⟨x,hx,rfl⟩:=bh hy
  obtain⟨f1,f2,_⟩:=hf hx
  rw[f1]at h0
  obtain⟨e,he,q1,q2,q3⟩:=h.fn g x hx h0
  refine⟨e,by rw[ha.endAt];exact he,by rw[ha.localsOf];exact q1,by rw[ha.localsOf,f2];exact q2,fun k y hk1 hk2 hy=>?_⟩
  obtain⟨z,hz,rfl⟩:=bh hy
  obtain⟨g1,_,_,_,g5,_⟩:=hf hz
  obtain⟨r1,r2,r3⟩:=q3 k z hk1 hk2 hz
  refine⟨by rw[g1];exact r1,fun t ht h7=>?_,fun h4=>?_⟩
  ·rcases g5 t ht with h'|⟨n,rfl⟩
   ·obtain⟨f,hf1,hf2⟩:=r2 t h' h7
    exact⟨f,by rw[ha.findN];exact hf1,by rw[ha.argsN];exact hf2⟩
   ·exact absurd h7 (show ¬(0:Int)=7 by decide)
  ·rw[g1]at h4
   obtain⟨i,i1,i2,i3⟩:=r3 h4
   exact⟨i,i1,i2,by rw[ha.elseAt];exact i3⟩
end Go.Proofs.YtoglejgmjeojoaaGreat
namespace Go.Proofs.YtoglejgmjeojoaaGreat
open Go.Sim
set_option maxRecDepth 100000
set_option maxHeartbeats 4000000
abbrev ke (x:Sc)(lv:List Int):List DC:=[.d (.int .i64 (x.f:Int)),.t (.lst 1 (x.chain.map aa)),.t (.lst 1 (x.locals.map ag)),.d (.int .i64 x.first),.d (.bool x.outer),.d (.lst (if x.outer=true then 0 else 1) (lv.map aa))]
abbrev scV (x:Sc):AV:= .r (.agg [.t (.int .i64 (x.f:Int)),.t (.lst 1 (x.chain.map aa)),.t (.lst 1 (x.locals.map ag)),.t (.int .i64 x.first),.t (.bool x.outer),.opq])
abbrev wo (l:List Int):AV:= .r (.c (.t (.lst 1 (l.map aa))))
abbrev itR (l:List FW):List (List DC):=ah (l.map FW.tr)
abbrev oe (C:Cx)(s:Gs)(d:Int)(i1 i2:Sim.Id):AO:= .box [.t (.lst 4 (C.p.map FX.tr)),.t (.int .i64 C.b.fat),.t (.int .i64 C.b.faj),.t (.bool C.b.fax),.t (.bool C.b.fav),.t (.bool C.framed),.t (.int .i64 C.words),.t (.int .i64 s.most),.t (.int .i64 C.args),.t (.int .i64 d),.own i1,.own i2,.t (.bool s.start)]
abbrev fQ (i1 i2:Sim.Id)(C:Cx)(s:Gs)(d:Int)(S:List (List DC)):List (Sim.Id×AO):=[((0,0,0),oe C s d i1 i2),(i1,.dar 7 (itR s.items) none),(i2,.dar 6 S none)]
abbrev cL:AV:= .r (.c (.ptr (0,0,0) 0))
theorem ij (l:List FW):(itR l).length=l.length:=by rw[itR,aR,List.length_map]
theorem xS (l:List FW)(x:FW):itR (l++[x])=itR l++[x.tr.map .d]:=by simp[itR,ah]
def bl (s:Gs):Prop:=s.items.length≤68719476736
theorem bG (C:Cx)(s:Gs)(d:Int)(S:List (List DC))(code arg line:Int)(chain:List Int)(h1:bl s)(h2:chain.length≤100):bx Tryz.prog 197 [cL,tI .i64 code,tI .i64 arg,tI .i64 line,wo chain] (fQ (0,0,1) (0,0,2) C s d S) (.tup []) (fQ (1,0,1) (0,0,2) C (au C s d code arg line chain) d S):=by
 refine aD hΓ ao Tryz.func197 rfl (by decide) rfl rfl ?_
 unfold bl at h1
 have hlen:=ij s.items
 have hcl:(chain.map aa).length=chain.length:=by simp
 have hfl:=fj chain
 repeat' ((conv=>whnf);first|apply Wx|apply W6|apply oi|(apply fi<;>intro h)|refine⟨_,rfl,?_⟩|exact rfl)
 all_goals try exact⟨KP⟩
 all_goals try exact⟨⟨by rw[hlen];(try dsimp only);omega,by rw[hlen];(try dsimp only);omega⟩⟩
 all_goals try exact⟨⟨by simp <;> omega,by simp <;> omega⟩⟩
 all_goals try exact⟨by simpa using hfl⟩
 all_goals(refine⟨?_⟩;(try rw[hlen]at *);rw[au,xS];congr 1;simp_all[kQ,FW.tr])
theorem pf (C:Cx)(hC:CxOk C)(s:Gs)(d:Int)(S:List (List DC))(x:Sc)(i:Int)(store:Bool)(hd:-2000≤d∧d≤2000)(hx:0≤x.first∧x.first≤1000)(hi:-2≤i∧i≤100):bx Tryz.prog 262 [cL,scV x,tI .i64 i,tB store] (fQ (0,0,1) (0,0,2) C s d S) (.tup [.c (.t (.int .i64 (bZ C store))),.c (.t (.int .i64 (cw C x d i)))]) (fQ (0,0,1) (0,0,2) C s d S):=by
 refine aD hΓ ao Tryz.func262 rfl (by decide) rfl rfl ?_
 obtain⟨a1,a2⟩:=hC.args
 repeat' ((conv=>whnf);first|apply Wx|apply W6|apply oi|(apply fi<;>intro h)|refine⟨_,rfl,?_⟩|exact rfl)
 all_goals try exact⟨KP⟩
 all_goals try(exfalso;simp_all;done)
 all_goals(refine⟨congrArg (Tr.int _) ?_⟩;(try unfold bZ);(try unfold cw jJ eG);(try simp(disch:=omega)only[IntWalk.i64_in]);simp_all <;> omega)
theorem xW (C:Cx)(hC:CxOk C)(s:Gs)(d:Int)(S:List (List DC))(x:Sc)(i line:Int)(h1:bl s)(h2:x.chain.length≤100)(hd:-1000≤d∧d≤1999)(hx:0≤x.first∧x.first≤1000)(hi:-2≤i∧i≤100):bx Tryz.prog 259 [cL,scV x,tI .i64 i,tI .i64 line] (fQ (0,0,1) (0,0,2) C s d S) (.tup []) (fQ (1,0,1) (0,0,2) C (Br C x s d i line) (d+1) S):=by
 refine aD hΓ ao Tryz.func259 rfl (by decide) rfl rfl ?_
 have g1:=pf C hC s d S x i false (by omega) hx hi
 have g2:=bG C s d S (bZ C false) (cw C x d i) line x.chain h1 h2
 repeat' ((conv=>whnf);first|apply Wx|apply W6|apply oi|(apply fi<;>intro h)|refine⟨_,rfl,?_⟩|exact rfl)
 all_goals try exact⟨KP⟩
 refine cg (g1) ?_
 repeat' ((conv=>whnf);first|apply Wx|apply W6|apply oi|(apply fi<;>intro h)|refine⟨_,rfl,?_⟩|exact rfl)
 all_goals try exact⟨KP⟩
 refine cg (g2) ?_
 repeat' ((conv=>whnf);first|apply Wx|apply W6|apply oi|(apply fi<;>intro h)|refine⟨_,rfl,?_⟩|exact rfl)
 all_goals try exact⟨KP⟩
 all_goals try exact⟨KW⟩
theorem kT (C:Cx)(hC:CxOk C)(s:Gs)(d:Int)(S:List (List DC))(x:Sc)(i line:Int)(chain:List Int)(h1:bl s)(h2:chain.length≤100)(hd:-1000≤d∧d≤2000)(hx:0≤x.first∧x.first≤1000)(hi:-2≤i∧i≤100):bx Tryz.prog 245 [cL,scV x,tI .i64 i,tI .i64 line,wo chain] (fQ (0,0,1) (0,0,2) C s d S) (.tup []) (fQ (1,0,1) (0,0,2) C (dp C x s d i line chain) (d - 1) S):=by
 refine aD hΓ ao Tryz.func245 rfl (by decide) rfl rfl ?_
 have g1:=pf C hC s d S x i true (by omega) hx hi
 have g2:=bG C s d S (bZ C true) (cw C x d i) line chain h1 h2
 repeat' ((conv=>whnf);first|apply Wx|apply W6|apply oi|(apply fi<;>intro h)|refine⟨_,rfl,?_⟩|exact rfl)
 all_goals try exact⟨KP⟩
 refine cg (g1) ?_
 repeat' ((conv=>whnf);first|apply Wx|apply W6|apply oi|(apply fi<;>intro h)|refine⟨_,rfl,?_⟩|exact rfl)
 all_goals try exact⟨KP⟩
 refine cg (g2) ?_
 repeat' ((conv=>whnf);first|apply Wx|apply W6|apply oi|(apply fi<;>intro h)|refine⟨_,rfl,?_⟩|exact rfl)
 all_goals try exact⟨KP⟩
 all_goals try exact⟨KW⟩
theorem jB (C:Cx)(s:Gs)(d:Int)(S:List (List DC))(v line:Int)(chain:List Int)(h1:bl s)(h2:chain.length≤100)(hd:-1000≤d∧d≤1999):bx Tryz.prog 242 [cL,tI .i64 v,tI .i64 line,wo chain] (fQ (0,0,1) (0,0,2) C s d S) (.tup []) (fQ (1,0,1) (0,0,2) C (au C s d 0 v line chain) (d+1) S):=by
 refine aD hΓ ao Tryz.func242 rfl (by decide) rfl rfl ?_
 have g2:=bG C s d S 0 v line chain h1 h2
 repeat' ((conv=>whnf);first|apply Wx|apply W6|apply oi|(apply fi<;>intro h)|refine⟨_,rfl,?_⟩|exact rfl)
 all_goals try exact⟨KP⟩
 refine cg (g2) ?_
 repeat' ((conv=>whnf);first|apply Wx|apply W6|apply oi|(apply fi<;>intro h)|refine⟨_,rfl,?_⟩|exact rfl)
 all_goals try exact⟨KP⟩
 all_goals try exact⟨KW⟩
abbrev scH (l:List (Sc×List Int)):List (List DC):=l.map fun y=>ke y.1 y.2
theorem pl (C:Cx)(hC:CxOk C)(s:Gs)(d:Int)(S:List (Sc×List Int))(x:Sc)(lv:List Int)(k:Nat)(last:Bool)(h1:bl s)(h2:x.chain.length≤100)(hd:-1000≤d∧d≤2000)(hS:S.length≤100)(hlv:lv.length≤68719476736)(hd p:List Int):
  bx Tryz.prog 243 [cL,tI .i64 (k:Int),tB last] (fQ (0,0,1) (0,0,2) C s d (scH (S++[(x,lv)]))) (.tup []) (fQ (1,0,1) (1,0,2) C (aP C x k last d ⟨s,hd,p,lv⟩).g (d - 1) (scH (S++[(x,(aP C x k last d ⟨s,hd,p,lv⟩).lv)]))):=by
 refine aD hΓ ao Tryz.func243 rfl (by decide) rfl rfl ?_
 obtain⟨f,chain,locals,first,outer⟩:=x
 have hlen:=ij s.items
 have hsl:(scH (S++[(⟨f,chain,locals,first,outer⟩,lv)])).length=S.length+1:=by simp
 have hrow:(scH (S++[(⟨f,chain,locals,first,outer⟩,lv)]))[S.length]?=some (ke ⟨f,chain,locals,first,outer⟩ lv):=by simp
 have hw:IntKind.i64.wrap (((scH (S++[(⟨f,chain,locals,first,outer⟩,lv)])).length:Int) - 1)=(S.length:Int):=by rw[hsl,IntWalk.i64_in _ (by omega)];omega
 have hfl:=fj lv
 have hfl2:=fj (lv++[(s.items.length:Int)])
 have hlt:S.length < (scH (S++[(⟨f,chain,locals,first,outer⟩,lv)])).length:=by omega
 have hll:(lv.map aa).length=lv.length:=by simp
 unfold bl at h1
 cases outer with
 | false=>
  cases last with
  | true=>
   have e:aP C ⟨f,chain,locals,first,false⟩ k true d ⟨s,hd,p,lv⟩=⟨s,hd,p,lv⟩:=by simp[aP]
   rw[e]
   repeat' ((conv=>whnf);first|apply Wx|apply W6|apply oi|(apply fi<;>intro h)|refine⟨S.length,hw,hlt,?_⟩|refine⟨_,hrow,?_⟩|refine⟨_,rfl,?_⟩|exact rfl)
   all_goals try exact⟨KP⟩
   all_goals try exact⟨KW⟩
   all_goals(exfalso;simp_all;done)
  | false=>
   have e:aP C ⟨f,chain,locals,first,false⟩ k false d ⟨s,hd,p,lv⟩=⟨au C s d 10 0 k chain,hd,p,lv++[(s.items.length:Int)]⟩:=by simp[aP]
   rw[e]
   have g:=bG C s d ((scH (S++[(⟨f,chain,locals,first,false⟩,lv)])).set S.length [.d (.int .i64 (f:Int)),.t (.lst 1 (chain.map aa)),.t (.lst 1 (locals.map ag)),.d (.int .i64 first),.d (.bool false),.d (.lst 1 (lv.map aa++[[.int .i64 ((itR s.items).length:Int)]]))]) 10 0 k chain h1 h2
   repeat' ((conv=>whnf);first|apply Wx|apply W6|refine cg g ?_|apply oi|(apply fi<;>intro h)|refine⟨S.length,hw,hlt,?_⟩|refine⟨_,hrow,?_⟩|refine⟨_,(List.getElem?_set_self hlt),?_⟩|refine⟨_,rfl,?_⟩|exact rfl)
   all_goals try exact⟨KP⟩
   all_goals try exact⟨hfl⟩
   all_goals try exact⟨⟨by rw[hll];(try dsimp only);simp <;> omega,by rw[hll];(try dsimp only);simp <;> omega⟩⟩
   all_goals try exact⟨by rw[hlen];first|(simp[aa];done)|simpa [aa]using hfl2⟩
   all_goals try exact⟨KW⟩
   all_goals try(exfalso;simp_all;done)
   all_goals(refine⟨?_⟩;rw[hlen];simp[List.set_append,aa])
 | true=>
  have g1:=bG C s d (scH (S++[(⟨f,chain,locals,first,true⟩,lv)])) 14 C.args k chain h1 h2
  have g2:=bG C s d (scH (S++[(⟨f,chain,locals,first,true⟩,lv)])) 16 (C.args+16 * C.words) k chain h1 h2
  obtain⟨a1,a2⟩:=hC.args
  obtain⟨a3,a4⟩:=hC.words
  have e2:IntKind.i64.wrap (C.args+IntKind.i64.wrap (16 * C.words))=C.args+16 * C.words:=by simp(disch:=omega)only[IntWalk.i64_in]
  rw[←e2]at g2
  cases hf:C.framed with
  | true=>
   have e:aP C ⟨f,chain,locals,first,true⟩ k last d ⟨s,hd,p,lv⟩=⟨au C s d 14 C.args k chain,hd,p,lv⟩:=by simp[aP,hf]
   rw[e]
   repeat' ((conv=>whnf);first|apply Wx|apply W6|refine cg g1 ?_|apply oi|(apply fi<;>intro h)|refine⟨S.length,hw,hlt,?_⟩|refine⟨_,hrow,?_⟩|refine⟨_,rfl,?_⟩|exact rfl)
   all_goals try exact⟨KP⟩
   all_goals try exact⟨KW⟩
   all_goals(exfalso;simp_all;done)
  | false=>
   have e:aP C ⟨f,chain,locals,first,true⟩ k last d ⟨s,hd,p,lv⟩=⟨au C s d 16 (IntKind.i64.wrap (C.args+IntKind.i64.wrap (16 * C.words))) k chain,hd,p,lv⟩:=by simp[aP,hf,e2]
   rw[e]
   repeat' ((conv=>whnf);first|apply Wx|apply W6|refine cg g2 ?_|apply oi|(apply fi<;>intro h)|refine⟨S.length,hw,hlt,?_⟩|refine⟨_,hrow,?_⟩|refine⟨_,rfl,?_⟩|exact rfl)
   all_goals try exact⟨KP⟩
   all_goals try exact⟨KW⟩
   all_goals(exfalso;simp_all;done)
abbrev lZ (e:Int×Int):List Tr:=[.int .i64 e.1,.int .i64 e.2]
theorem BP {l:List FW}{j:Nat}{x:FW}(h:l[j]?=some x)(v:Int):bK l (j:Int) v=l.set j ⟨⟨x.fag.fac,v⟩,x.fan,x.fah,x.far,x.fas,x.faw⟩:=by
 rw[bK,if_pos (by omega),Int.toNat_natCast,h]
theorem iP {l:List FW}{j:Nat}{x:FW}(h:l[j]?=some x)(v:Int):itR (bK l (j:Int) v)=(itR l).set j [.d (.int .i64 x.fag.fac),.d (.int .i64 v),.d (.int .i64 x.fan),.d (.bool x.fah),.d (.lst 1 (x.far.map aa)),.d (.int .i64 x.fas),.d (.bool x.faw)]:=by
 rw[BP h]
 simp[ah,List.map_set,FW.tr]
theorem eO {l:List FW}{j:Nat}{x:FW}(h:l[j]?=some x):(itR l)[j]?=some (x.tr.map .d):=fJ (ab h)
theorem ov (C:Cx)(s:Gs)(d:Int)(S:List (List DC))(E:List (Int×Int))(to:Int)(h1:bl s)(hE:E.length≤100)(hin:∀e∈E,0≤e.2∧e.2 < s.items.length):
  bx Tryz.prog 241 [cL,.r (.c (.own (0,1,0))),tI .i64 to] (fQ (0,0,1) (0,0,2) C s d S++[((0,1,0),.arr false 2 (E.map lZ))]) (.tup []) (fQ (0,0,1) (0,0,2) C ⟨cO s.items s.items.length to E,s.most,s.start⟩ d S++[((0,1,0),.arr false 2 (E.map lZ))]):=by
 refine aD hΓ ao Tryz.func241 rfl (by decide) rfl rfl ?_
 have hEl:(E.map lZ).length=E.length:=by simp
 unfold bl at h1
 repeat' ((conv=>whnf);first|apply Wx|apply W6|apply oi|(apply fi<;>intro h)|refine⟨_,rfl,?_⟩|exact rfl)
 all_goals try exact⟨KP⟩
 conv=>whnf
 refine⟨{k:Nat // k≤E.length},fun q=>⟨[(0,cL),(1,.r (.c (.own (0,1,0)))),(2,tI .i64 to),(6,tI .i64 (q.1:Int))],[((0,0,0),some (oe C s d (0,0,1) (0,0,2))),((0,0,1),some (.dar 7 (itR (cO s.items s.items.length to (E.take q.1))) none)),((0,0,2),some (.dar 6 S none)),((0,1,0),some (.arr false 2 (E.map lZ)))],[0]⟩,fun q=>E.length - q.1,⟨0,by omega⟩,?_,?_⟩
 ·skip
  repeat' ((conv=>whnf);first|apply Wx|apply W6|apply oi|(apply fi<;>intro h)|refine⟨_,rfl,?_⟩|exact rfl)
  all_goals try exact⟨KP⟩
 intro⟨k,hk⟩
 dsimp only at hk ⊢
 have hpl:=tT s.items.length to (E.take k) s.items
 have hil:(itR (cO s.items s.items.length to (E.take k))).length=s.items.length:=by rw[ij,hpl]
 by_cases hlt:k < E.length
 ·obtain⟨e,he⟩:=ae hlt
  obtain⟨i1,i2⟩:=hin e (List.mem_of_getElem? he)
  obtain⟨j,hj⟩:=Int.eq_ofNat_of_zero_le i1
  have hjl:j < (itR (cO s.items s.items.length to (E.take k))).length:=by rw[hil];omega
  obtain⟨x,hx⟩:=ae (l:=cO s.items s.items.length to (E.take k)) (k:=j) (by rw[hpl];omega)
  have hkl:k < (E.map lZ).length:=by rw[hEl];exact hlt
  have hnext:E.take (k+1)=E.take k++[e]:=by rw[List.take_add_one,he];rfl
  have hps:=yg s.items.length to e (E.take k) s.items
  repeat' ((conv=>whnf);first|apply Wx|apply W6|apply oi|(apply fi<;>intro h)|refine⟨k,rfl,hkl,?_⟩|refine⟨lZ e,(ab he),?_⟩|refine⟨j,hj,hjl,?_⟩|refine⟨_,(eO hx),?_⟩|refine⟨_,rfl,?_⟩|exact rfl)
  all_goals try exact⟨KP⟩
  all_goals try exact KX
  all_goals(conv=>whnf)
  all_goals(refine⟨⟨k+1,by omega⟩,?_,KD⟩)
  repeat' ((conv=>whnf);first|apply Wx|apply W6|apply oi|(apply fi<;>intro h)|refine⟨_,rfl,?_⟩|exact rfl)
  all_goals try exact⟨KP⟩
  all_goals try exact⟨KW⟩
  all_goals(refine⟨?_⟩;(try rw[hil]);rw[hnext,hps])
  ·rw[if_pos (by simpa using h),hj,iP hx];rfl
  ·rw[if_neg (by simpa using h)]
 ·skip
  repeat' ((conv=>whnf);first|apply Wx|apply W6|apply oi|(apply fi<;>intro h)|refine⟨_,rfl,?_⟩|exact rfl)
  all_goals try exact⟨KP⟩
  all_goals try exact KX
  all_goals(refine⟨?_⟩;rw[List.take_of_length_le (by omega)])
abbrev bM (S:List (Sc×List Int)):List Nat:=S.map fun y=>y.1.f
theorem rW (C:Cx)(hC:CxOk C)(s:Gs)(d:Int)(S:List (Sc×List Int))(g:Nat)(h1:bl s)(hS:1≤S.length∧S.length≤100)(hg:g < C.p.length):
  bx Tryz.prog 260 [cL,tI .i64 (g:Int)] (fQ (0,0,1) (0,0,2) C s d (scH S)) (tB (bU C (bM S) g s.items.length)) (fQ (0,0,1) (0,0,2) C s d (scH S)):=by
 refine aD hΓ ao Tryz.func260 rfl (by decide) rfl rfl ?_
 unfold bl at h1
 have hlen:=ij s.items
 have hsl:(scH S).length=S.length:=by simp
 have hpl:(C.p.map FX.tr).length=C.p.length:=by simp
 have hE:=cI C.p (g:Int) (by have:=hC.len;omega)
 have hil:(bM S).length=S.length:=by simp
 have h60:=hC.len
 have hin:=hC.inl
 have hee:-1≤be C.p (g:Int)∧be C.p (g:Int)≤60:=by
  rw[bb]
  cases he:endAt C.p g with
  | none=>simp[cp]
  | some e=>have:=aC he;obtain⟨_,_,_,_,_,h⟩:=this;simp only[cp];omega
 unfold bU
 rw[hil]
 generalize be C.p (g:Int)=eg at *
 have hw1:IntKind.i64.wrap (((scH S).length:Int) - 1)=(S.length:Int) - 1:=by rw[hsl,IntWalk.i64_in _ (by omega)]
 have hw2:IntKind.i64.wrap (eg - (g:Int))=eg - g:=by rw[IntWalk.i64_in _ (by omega)]
 repeat' ((conv=>whnf);first|apply Wx|apply W6|apply oi|(apply fi<;>intro h)|refine cl hE ?_|refine⟨_,rfl,?_⟩|exact rfl)
 all_goals try exact⟨KP⟩
 all_goals try(refine⟨congrArg Tr.bool ?_⟩;(try rw[hw1]at h);(try rw[hw2]at h);(try rw[hlen]at h);simp only[decide_eq_true_eq]at h;symm;simp only[Bool.and_eq_false_iff,decide_eq_false_iff_not];omega)
 conv=>whnf
 refine⟨{k:Nat // k≤S.length∧((bM S).take k).contains g=false},fun q=>⟨[(0,cL),(1,tI .i64 (g:Int)),(5,tI .i64 (q.1:Int))],(fQ (0,0,1) (0,0,2) C s d (scH S)).map (fun p=>(p.1,some p.2)),[0]⟩,fun q=>S.length - q.1,⟨0,by omega,by simp⟩,?_,?_⟩
 ·skip
  repeat' ((conv=>whnf);first|apply Wx|apply W6|apply oi|(apply fi<;>intro h)|refine⟨_,rfl,?_⟩|exact rfl)
  all_goals try exact⟨KP⟩
 rename_i ha hb
 rw[hw1]at ha
 rw[hw2]at hb
 rw[hlen]at h
 simp only[decide_eq_false_iff_not]at ha hb h
 have hfin:∀c:Bool,(decide ((S.length:Int)≤C.b.faj) && (decide (eg - (g:Int)≤9) && (decide (s.items.length < 200) && !c)))= !c:=fun c=>by
  rw[decide_eq_true (by omega),decide_eq_true (by omega),decide_eq_true (by omega)];rfl
 rw[hfin]
 clear hfin
 intro⟨k,hk,hno⟩
 dsimp only at hk hno ⊢
 by_cases hlt:k < S.length
 ·obtain⟨y,hy⟩:=ae hlt
  have hyr:(scH S)[k]?=some (ke y.1 y.2):=by simp[hy]
  have hkl:k < (scH S).length:=by omega
  have hnext:(bM S).take (k+1)=(bM S).take k++[y.1.f]:=by rw[List.take_add_one,List.getElem?_map,hy];rfl
  have hmem:y.1.f∈bM S:=List.mem_map.2 ⟨y,List.mem_of_getElem? hy,rfl⟩
  repeat' ((conv=>whnf);first|apply Wx|apply W6|apply oi|(apply fi<;>intro h)|refine⟨k,rfl,hkl,?_⟩|refine⟨_,hyr,?_⟩|refine⟨_,rfl,?_⟩|exact rfl)
  all_goals try exact⟨KP⟩
  all_goals try exact KX
  ·refine⟨congrArg Tr.bool ?_⟩
   have e:y.1.f=g:=by have:=eq_of_beq h;omega
   rw[←e,List.contains_iff_mem.2 hmem]
   rfl
  ·conv=>whnf
   refine⟨⟨k+1,by omega,?_⟩,?_,KD⟩
   ·have e:g≠y.1.f:=fun e=>by rw[←e]at h;simp at h
    rw[hnext,List.contains_eq_any_beq,List.any_append,←List.contains_eq_any_beq,hno]
    simp[e]
   repeat' ((conv=>whnf);first|apply Wx|apply W6|apply oi|(apply fi<;>intro h)|refine⟨_,rfl,?_⟩|exact rfl)
   all_goals try exact⟨KP⟩
   all_goals try exact⟨KW⟩
 ·skip
  repeat' ((conv=>whnf);first|apply Wx|apply W6|apply oi|(apply fi<;>intro h)|refine⟨_,rfl,?_⟩|exact rfl)
  all_goals try exact⟨KP⟩
  all_goals try exact KX
  rw[List.take_of_length_le (by omega)]at hno
  exact⟨by rw[hno];rfl⟩
def mw (C:Cx)(l:List Gf):Prop:=∀t∈l,t.faa=7→∃f,findN C.p 0 t.fab=some f∧(argsN C.p f:Int)=t.fai
structure Rm (C:Cx) (lev n:Nat) (S:Nat) (s:Gs) (d:Int):Prop where
 room:s.items.length+n * bW lev≤68719476736
 depth:((lev+S:Nat):Int)=C.b.faj
 low:0≤d
 high:d+(n:Int)+100 * (lev:Int)≤1900
def FD (C:Cx)(lev:Nat):Prop:=∀(e:Ex) (x:Sc) (S:List (Sc×List Int)) (lv:List Int) (k p:Nat) (ln:FX) (s:Gs) (d:Int),e.ok→ScOk C x (bM (S++[(x,lv)]))→C.p[k]?=some ln→fK ln.fad p e→mw C ln.fad→Rm C lev e.toks.length S.length s d→
 bx Tryz.prog 244 [cL,tI .i64 (k:Int),tI .i64 (p:Int)] (fQ (0,0,1) (0,0,2) C s d (scH (S++[(x,lv)]))) (tI .i64 ((p+e.toks.length:Nat):Int)) (fQ (1,0,1) (1,0,2) C (dJ C (aT C lev) x (bM (S++[(x,lv)])) k e d s) (d+1) (scH (S++[(x,lv)])))
def Df (C:Cx)(lev:Nat):Prop:=∀(x:Sc) (S:List (Sc×List Int)) (lv:List Int) (k g:Nat) (s:Gs) (d:Int),ScOk C x (bM (S++[(x,lv)]))→k < C.p.length→bz C g→bU C (bM (S++[(x,lv)])) g s.items.length=true→Rm C lev 1 S.length s (d - argsN C.p g)→
 bx Tryz.prog 261 [cL,tI .i64 (g:Int),tI .i64 (k:Int),scV x] (fQ (0,0,1) (0,0,2) C s d (scH (S++[(x,lv)]))) (.tup []) (fQ (1,0,1) (1,0,2) C (aT C lev x (bM (S++[(x,lv)])) k g d s) (d - argsN C.p g+1) (scH (S++[(x,lv)])))
theorem jL {α:Type}[BEq α](l:List α)(s:α):-1≤cQ l s∧cQ l s≤l.length:=by
 unfold cQ
 cases h:jA l 0 s with
 | none=>simp only[cp];omega
 | some k=>have:=vw h;simp only[cp];omega
theorem kS {C:Cx}(hC:CxOk C){k:Nat}{ln:FX}(hk:C.p[k]?=some ln):dq ln.fad∧ln.fab.length≤1048576:=by
 obtain⟨h1,_,_,_,h5⟩:=cD (aA hC.small (List.mem_of_getElem? hk))
 exact⟨fun t ht=>by have:=h5 t ht;omega,h1⟩
theorem zl (p:List FX)(g:Nat):kX p g≤g:=by
 unfold kX
 have h1:=List.length_filter_le (fun x:FX=>x.faa==0) (p.take g)
 have h2:=List.length_take_le g p
 omega
theorem zV {p:List FX}{i:Nat}{x:FX}(hx:p[i]?=some x):kX p (i+1)=kX p i+if x.faa=0 then 1 else 0:=by
 unfold kX
 rw[List.take_add_one,hx,List.filter_append,List.length_append]
 by_cases h:x.faa=0
 ·simp[h]
 ·simp[h]
theorem zk {C:Cx}(hC:CxOk C){lev:Nat}(hR:Df C lev):∀(n:Nat) (e:Ex),e.toks.length≤n→∀(x:Sc) (S:List (Sc×List Int)) (lv:List Int) (k p:Nat) (ln:FX) (s:Gs) (d:Int),e.ok→ScOk C x (bM (S++[(x,lv)]))→C.p[k]?=some ln→fK ln.fad p e→mw C ln.fad→Rm C lev e.toks.length S.length s d→
  bx Tryz.prog 244 [cL,tI .i64 (k:Int),tI .i64 (p:Int)] (fQ (0,0,1) (0,0,2) C s d (scH (S++[(x,lv)]))) (tI .i64 ((p+e.toks.length:Nat):Int)) (fQ (1,0,1) (1,0,2) C (dJ C (aT C lev) x (bM (S++[(x,lv)])) k e d s) (d+1) (scH (S++[(x,lv)])))
 | 0,e,hn,_,_,_,_,_,_,_,_,_,_,_,_,_,_=>by have:=e.toks_pos;omega
 | n+1,.node t es,hn,x,S,lv,k,p,ln,s,d,ho,hx,hk,hs,hca,hr=>by
  refine aD hΓ ao Tryz.func244 rfl (by decide) rfl rfl ?_
  obtain⟨hsh,hnm⟩:=kS hC hk
  have hle:=fk hs
  obtain⟨ht,hsa⟩:=fR hs
  obtain⟨e1,e2⟩:=pi ho.1
  have hel:es.length=ar t:=ho.2.1
  have hA:=kp t (hsh t (List.mem_of_getElem? ht))
  rw[e1,←hel]at hA
  have h60:=hC.len
  have h20:=(hC.line _ _ hk).2.2.2.1
  have hsl:(scH (S++[(x,lv)])).length=S.length+1:=by simp
  have hrow:(scH (S++[(x,lv)]))[S.length]?=some (ke x lv):=by simp
  have hlt:S.length < (scH (S++[(x,lv)])).length:=by omega
  have hr1:=hr.room
  have hr2:=hr.depth
  have hr3:=hr.low
  have hr4:=hr.high
  have hin:=hC.inl
  have hw:IntKind.i64.wrap (((scH (S++[(x,lv)])).length:Int) - 1)=(S.length:Int):=by rw[hsl,IntWalk.i64_in _ (by omega)];omega
  have htp:=um lev
  rw[Ex.toks,List.length_cons]at hn hle hr1 hr4
  rw[dJ]
  repeat' ((conv=>whnf);first|apply Wx|apply W6|apply oi|(apply fi<;>intro h)|refine⟨S.length,hw,hlt,?_⟩|refine⟨_,hrow,?_⟩|refine⟨k,ln.tr,rfl,ab hk,?_⟩|refine⟨p,t.tr,rfl,ab ht,?_⟩|refine cl hA ?_|refine⟨_,rfl,?_⟩|exact rfl)
  all_goals try exact⟨KP⟩
  conv=>whnf
  refine⟨{j:Nat // j≤es.length},fun q=>⟨[(0,cL),(1,tI .i64 (k:Int)),(2,tI .i64 ((p+1+(ak (es.take q.1)).length:Nat):Int)),(9,tI .i64 ((es.length - q.1:Nat):Int)),(7,.r (.c (.ptr (7,0,0) 0))),(8,.r (.c (.ptr (8,0,0) 0)))],
   [(
    (0,0,0),some (oe C (da C (aT C lev) x (bM (S++[(x,lv)])) k (es.take q.1) d s) (d+q.1) (7,0,1) (7,0,2))),((7,0,1),some (.dar 7 (itR (da C (aT C lev) x (bM (S++[(x,lv)])) k (es.take q.1) d s).items) none)),((7,0,2),some (.dar 6 (scH (S++[(x,lv)])) none)),
    ((7,0,0),some (.box [.t (.int .i64 (x.f:Int)),.t (.lst 1 (x.chain.map aa)),.t (.lst 1 (x.locals.map ag)),.t (.int .i64 x.first),.t (.bool x.outer),.opq])),((8,0,0),some (.box (t.tr.map .t)))],[8,7,0]⟩,fun q=>es.length - q.1,⟨0,by omega⟩,?_,?_⟩
  ·skip
   repeat' ((conv=>whnf);first|apply Wx|apply W6|apply oi|(apply fi<;>intro h)|refine⟨_,rfl,?_⟩|exact rfl)
   all_goals try exact⟨KP⟩
   ·exact⟨congrArg (Tr.int _) (by rw[IntWalk.i64_in _ (by omega)];simp[ak])⟩
   ·exact⟨congrArg (Tr.int _) (by simp)⟩
  intro⟨j,hj⟩
  dsimp only at hj ⊢
  have hgr:=kR (C:=C) (x:=x) (ins:=bM (S++[(x,lv)])) (line:=k) (lev:=lev) (fun g d s hg hr=>cK hC lev k g d s hx hg hr) (es.take j) d s
  have hg2:=hgr.le
  have htk:=cP es j
  obtain⟨s1,hs1⟩:∃s1,da C (aT C lev) x (bM (S++[(x,lv)])) k (es.take j) d s=s1:=⟨_,rfl⟩
  rw[hs1]at hgr hg2 ⊢
  by_cases hlj:j < es.length
  ·obtain⟨a,ha⟩:=ae hlj
   have hta:=gU ha
   have htk2:=cP es (j+1)
   have hal:=iD ha
   have hjt:j≤(ak (es.take j)).length:=by
    have:∀(l:List Ex),l.length≤(ak l).length:=by
     intro l
     induction l with
     | nil=>simp
     | cons b l ih=>have:=b.toks_pos;rw[ak,List.length_append,List.length_cons];omega
    have h2:=this (es.take j)
    rw[List.length_take]at h2
    omega
   have hm:=Nat.mul_le_mul_right (bW lev) (show(ak (es.take j)).length+a.toks.length≤(ak es).length+1 by omega)
   rw[Nat.add_mul]at hm
   have hI:=zk hC hR n a (by omega) x S lv k (p+1+(ak (es.take j)).length) ln s1 (d+j) (jZ ho.2.2 ha) hx hk (rk hsa ha) hca ⟨by omega,hr2,by omega,by omega⟩
   have hnext:=nK C (aT C lev) x (bM (S++[(x,lv)])) k d s ha
   rw[hs1]at hnext
   repeat' ((conv=>whnf);first|apply Wx|apply W6|apply oi|(apply fi<;>intro h)|refine⟨_,rfl,?_⟩|exact rfl)
   all_goals try exact⟨KP⟩
   all_goals try exact KX
   refine cg (hI) ?_
   repeat' ((conv=>whnf);first|apply Wx|apply W6|apply oi|(apply fi<;>intro h)|refine⟨_,rfl,?_⟩|exact rfl)
   all_goals try exact⟨KP⟩
   conv=>whnf
   refine⟨⟨j+1,by omega⟩,?_,KD⟩
   repeat' ((conv=>whnf);first|apply Wx|apply W6|apply oi|(apply fi<;>intro h)|refine⟨_,rfl,?_⟩|exact rfl)
   all_goals try exact⟨KP⟩
   all_goals try exact⟨by dsimp only;rw[hnext]⟩
   all_goals try exact⟨KW⟩
  ·have hje:j=es.length:=by omega
   subst hje
   rw[List.take_length]at hs1 hg2 htk ⊢
   have hT:(Ex.node t es).toks.length=(ak es).length+1:=by rw[Ex.toks,List.length_cons]
   rw[hs1]
   have hroom:s1.items.length+bW lev≤68719476736:=by
    have:((ak es).length+1) * bW lev=(ak es).length * bW lev+bW lev:=by rw[Nat.add_mul];omega
    omega
   have hch:x.chain.length≤100:=by
    have:=hx.chain
    rw[show(bM (S++[(x,lv)])).length=S.length+1 by simp]at this
    omega
   have hro:bl s1:=by unfold bl;omega
   obtain⟨k1,k2,k3⟩:=AM ho.1
   have htl:=hsh t (List.mem_of_getElem? ht)
   have hxf:0≤x.first∧x.first≤1000:=by
    have:=hx.first
    rw[show(bM (S++[(x,lv)])).length=S.length+1 by simp]at this
    omega
   obtain⟨ee,_,_,_,_,hll⟩:=hx.endE hC
   rcases vz ho.1 with hk0|hk1|hk7|hk26
   ·have g1:=jB C s1 (d+es.length) (scH (S++[(x,lv)])) t.fai k x.chain hro hch (by omega)
    have hz:=k1 (.inl hk0)
    unfold iZ
    rw[if_pos hk0]
    repeat' ((conv=>whnf);first|apply Wx|apply W6|refine cg g1 ?_|apply oi|(apply fi<;>intro h)|refine⟨_,rfl,?_⟩|exact rfl)
    all_goals try exact⟨KP⟩
    all_goals try exact KX
    all_goals try exact⟨KW⟩
    all_goals try exact KK
   ·have g1:=xW C hC s1 (d+es.length) (scH (S++[(x,lv)])) x (cQ x.locals t.fab) k hro hch (by omega) hxf (by have:=jL x.locals t.fab;omega)
    have gI:=eR x.locals t.fab (by omega)
    have hz:=k1 (.inr hk1)
    unfold iZ
    rw[if_neg (by omega),if_pos hk1]
    generalize cQ x.locals t.fab=ix at *
    repeat' ((conv=>whnf);first|apply Wx|apply W6|refine cg g1 ?_|apply oi|(apply fi<;>intro h)|refine cl gI ?_|refine⟨_,rfl,?_⟩|exact rfl)
    all_goals try exact⟨KP⟩
    all_goals try exact KX
    all_goals try exact⟨KW⟩
    all_goals try exact KK
   ·obtain⟨f,hf,hfa⟩:=hca t (List.mem_of_getElem? ht) hk7
    obtain⟨hfl,y,hy,hy0,_⟩:=fe hf
    have hfun:bz C f:=⟨y,hy,hy0⟩
    have hkk:=k2 hk7
    have gF:=dk C.p t.fab (by omega)
    rw[show eH C.p t.fab=(f:Int) from ba hf]at gF
    have g1:=rW C hC s1 (d+es.length) (S++[(x,lv)]) f hro (by simp;omega) hfl
    unfold iZ
    rw[if_neg (by omega),if_neg (by omega),if_pos hk7,hf]
    dsimp only
    cases hrb:bU C (bM (S++[(x,lv)])) f s1.items.length with
    | true=>
     have g2:=hR x S lv k f s1 (d+es.length) hx (aL hk) hfun hrb ⟨by omega,hr2,by omega,by omega⟩
     rw[hrb]at g1
     rw[if_pos rfl]
     repeat' ((conv=>whnf);first|apply Wx|apply W6|refine cg g1 ?_|refine cg g2 ?_|apply oi|(apply fi<;>intro h)|refine cl gF ?_|refine⟨_,rfl,?_⟩|exact rfl)
     all_goals try exact⟨KP⟩
     all_goals try exact KX
     all_goals try exact⟨KW⟩
     all_goals try exact KK
    | false=>
     rw[hrb]at g1
     rw[if_neg (by simp)]
     have g2:=bG C s1 (d+es.length) (scH (S++[(x,lv)])) 12 (kX C.p f) k x.chain hro hch
     repeat' ((conv=>whnf);first|apply Wx|apply W6|refine cg g1 ?_|apply oi|(apply fi<;>intro h)|refine cl gF ?_|refine⟨_,rfl,?_⟩|exact rfl)
     all_goals try exact⟨KP⟩
     all_goals try exact KX
     all_goals try exact KK
     conv=>whnf
     refine⟨{i:Nat // i≤f},fun q=>⟨[(0,cL),(1,tI .i64 (k:Int)),(2,tI .i64 ((p+1+(ak es).length:Nat):Int)),(10,tI .i64 (f:Int)),(11,tI .i64 (kX C.p q.1:Int)),(12,tI .i64 (q.1:Int)),(7,.r (.c (.ptr (7,0,0) 0))),(8,.r (.c (.ptr (8,0,0) 0)))],
      [(
       (0,0,0),some (oe C s1 (d+es.length) (7,0,1) (7,0,2))),((7,0,1),some (.dar 7 (itR s1.items) none)),((7,0,2),some (.dar 6 (scH (S++[(x,lv)])) none)),
       ((7,0,0),some (.box [.t (.int .i64 (x.f:Int)),.t (.lst 1 (x.chain.map aa)),.t (.lst 1 (x.locals.map ag)),.t (.int .i64 x.first),.t (.bool x.outer),.opq])),((8,0,0),some (.box (t.tr.map .t)))],[8,7,0]⟩,fun q=>f - q.1,⟨0,by omega⟩,?_,?_⟩
     ·skip
      repeat' ((conv=>whnf);first|apply Wx|apply W6|apply oi|(apply fi<;>intro h)|refine⟨_,rfl,?_⟩|exact rfl)
      all_goals try exact⟨KP⟩
     intro⟨i,hi⟩
     dsimp only at hi ⊢
     have hnl:=zl C.p i
     by_cases hif:i < f
     ·obtain⟨z,hz⟩:=ae (l:=C.p) (k:=i) (by omega)
      have hns:=zV hz
      repeat' ((conv=>whnf);first|apply Wx|apply W6|apply oi|(apply fi<;>intro h)|refine⟨i,z.tr,rfl,ab hz,?_⟩|refine⟨_,rfl,?_⟩|exact rfl)
      all_goals try exact⟨KP⟩
      all_goals try exact KX
      all_goals(conv=>whnf)
      all_goals(refine⟨⟨i+1,by omega⟩,?_,KD⟩)
      repeat' ((conv=>whnf);first|apply Wx|apply W6|apply oi|(apply fi<;>intro h)|refine⟨_,rfl,?_⟩|exact rfl)
      all_goals try exact⟨KP⟩
      all_goals try exact⟨KW⟩
      ·rw[if_pos (by simpa using h)]at hns
       all_goals try exact⟨KW⟩
      ·rw[if_neg (by simpa using h)]at hns
       all_goals try exact⟨KW⟩
     ·have hie:i=f:=by omega
      subst hie
      repeat' ((conv=>whnf);first|apply Wx|apply W6|refine cg g2 ?_|apply oi|(apply fi<;>intro h)|refine⟨_,rfl,?_⟩|exact rfl)
      all_goals try exact⟨KP⟩
      all_goals try exact KX
      all_goals try exact⟨KW⟩
   ·have g1:=bG C s1 (d+es.length) (scH (S++[(x,lv)])) (5+t.faa - 2) 0 k x.chain hro hch
    have hw5:IntKind.i64.wrap (IntKind.i64.wrap (5+t.faa) - 2)=5+t.faa - 2:=by simp(disch:=omega)only[IntWalk.i64_in]
    rw[←hw5]at g1
    have hz:=k3 hk26.1 hk26.2
    unfold iZ
    rw[if_neg (by omega),if_neg (by omega),if_neg (by omega),←hw5]
    repeat' ((conv=>whnf);first|apply Wx|apply W6|refine cg g1 ?_|apply oi|(apply fi<;>intro h)|refine⟨_,rfl,?_⟩|exact rfl)
    all_goals try exact⟨KP⟩
    all_goals try exact KX
    all_goals try exact⟨KW⟩
    all_goals try exact KK
end Go.Proofs.YtoglejgmjeojoaaGreat
