import Derived.Test.YtjmplnfiabmalaaGreatGe
namespace Go.Proofs.YtjmplnfiabmalaaGreat
open Go.Sim
set_option maxRecDepth 100000
set_option maxHeartbeats 4000000
theorem eN (l:List (List UInt8)):flat (l.map ah):=mr _ (by intro x c hc sz rs e;subst e;simp[ah]at hc)
theorem vg {l:List HH}{k:Nat}{x:HH}(hx:l[k]?=some x)(h:x.faa≠3∨endAt l k=none):elseAt l k=none:=by
 unfold elseAt
 rw[hx]
 cases he:endAt l k with
 | none=>rfl
 | some e=>
  dsimp only
  rw[if_neg]
  rcases h with h|h
  ·exact h
  ·rw[he]at h;cases h
theorem nC (l:List HH)(k:Int)(hl:l.length≤1048576):Sim.Spec Tryz.prog 156 [tvP l,tvI k] (rI (bg l k)):=by
 refine aq hΓ ay Tryz.func156 rfl (by decide) rfl ?_
 have hlen:(l.map HH.tr).length=l.length:=by simp
 have hE:=cM l k hl
 cases he:endAt l k.toNat with
 | none=>
  have h1:bn l k= -1:=by rw[bn,he];split <;> rfl
  have h2:bg l k= -1:=by
   rw[bg]
   split
   ·unfold elseAt;rw[he];cases l[k.toNat]? <;> rfl
   ·rfl
  rw[h1]at hE
  rw[h2]
  repeat' ((conv=>whnf);first|refine Or.inl ?_|apply oi|(apply fi<;>intro h)|refine ci hE (ai rfl (ai rfl trivial)) ?_|refine⟨_,rfl,?_⟩|exact rfl)
  all_goals try exact⟨KO⟩
  all_goals try exact KX
 | some e=>
  obtain⟨x,hx,ho,_,hke,hel⟩:=aF he
  by_cases h0:0≤k
  ·obtain⟨k,rfl⟩:=Int.eq_ofNat_of_zero_le h0
   rw[Int.toNat_natCast]at he hx hke
   rw[bf,be he]at hE
   by_cases h3:x.faa=3
   ·obtain⟨R,hR⟩:∃R,bg l (k:Int)=R:=⟨_,rfl⟩
    rw[hR]
    have hR:cu (elseN l e (e - (k+1)) (k+1))=R:=by
     rw[bg,if_pos h0,Int.toNat_natCast,elseAt,hx,he]at hR
     dsimp only at hR
     rw[if_pos h3]at hR
     exact hR
    repeat' ((conv=>whnf);first|refine Or.inl ?_|apply oi|(apply fi<;>intro h)|refine ci hE (ai rfl (ai rfl trivial)) ?_|refine⟨k,x.tr,rfl,ab hx,?_⟩|refine⟨_,rfl,?_⟩|exact rfl)
    all_goals try exact⟨KO⟩
    all_goals try exact KX
    all_goals try(exfalso;(try simp_all[af]);(try omega);done)
    conv=>whnf
    refine⟨{i:Nat // k < i∧i≤e∧cu (elseN l e (e - i) i)=R},fun q=>⟨[(0,vP l),(5,tI .i64 (e:Int)),(6,tI .i64 (q.1:Int))],[],[]⟩,fun q=>e - q.1,⟨k+1,by omega,by omega,hR⟩,?_,?_⟩
    ·skip
     repeat' ((conv=>whnf);first|refine Or.inl ?_|apply oi|(apply fi<;>intro h)|refine⟨_,rfl,?_⟩|exact rfl)
     all_goals try exact⟨KO⟩
     all_goals exact⟨by dsimp only;rw[IntWalk.i64_in _ (by omega)];rfl⟩
    intro⟨i,hki,hi,hr⟩
    dsimp only at hki hi hr ⊢
    by_cases hlt:i < e
    ·obtain⟨y,hy⟩:=ae (l:=l) (k:=i) (by omega)
     rw[ud hlt hy]at hr
     have hE2:=cM l (i:Int) hl
     by_cases h4:y.faa=4
     ·rw[if_pos h4]at hr
      subst hr
      repeat' ((conv=>whnf);first|refine Or.inl ?_|apply oi|(apply fi<;>intro h)|refine ci hE2 (ai rfl (ai rfl trivial)) ?_|refine⟨i,y.tr,rfl,ab hy,?_⟩|refine⟨_,rfl,?_⟩|exact rfl)
      all_goals try exact⟨KO⟩
      all_goals try exact KX
      all_goals try(exfalso;(try simp_all[af]);(try omega);done)
     ·rw[if_neg h4]at hr
      by_cases h5:y.faa=3∨y.faa=5
      ·rw[if_pos h5]at hr
       obtain⟨m,hm,hm1,hm2⟩:=mb he (i:=i) hki hlt hy (opensK_iff.2 (by omega))
       rw[hm]at hr
       dsimp only at hr
       rw[bf,be hm]at hE2
       repeat' ((conv=>whnf);first|refine Or.inl ?_|apply oi|(apply fi<;>intro h)|refine ci hE2 (ai rfl (ai rfl trivial)) ?_|refine⟨i,y.tr,rfl,ab hy,?_⟩|refine⟨_,rfl,?_⟩|exact rfl)
       all_goals try exact⟨KO⟩
       all_goals try exact KX
       all_goals try(exfalso;(try simp_all[af]);(try omega);done)
       all_goals
        conv=>whnf
        refine⟨⟨m+1,by omega,by omega,hr⟩,?_,KD⟩
        repeat' ((conv=>whnf);first|refine Or.inl ?_|apply oi|(apply fi<;>intro h)|refine⟨_,rfl,?_⟩|exact rfl)
        all_goals try exact⟨KO⟩
        all_goals try exact⟨K2⟩
        all_goals exact⟨by dsimp only;rw[IntWalk.i64_in _ (by omega)];rfl⟩
      ·rw[if_neg h5]at hr
       repeat' ((conv=>whnf);first|refine Or.inl ?_|apply oi|(apply fi<;>intro h)|refine ci hE2 (ai rfl (ai rfl trivial)) ?_|refine⟨i,y.tr,rfl,ab hy,?_⟩|refine⟨_,rfl,?_⟩|exact rfl)
       all_goals try exact⟨KO⟩
       all_goals try exact KX
       all_goals try(exfalso;(try simp_all[af]);(try omega);done)
       all_goals try(exfalso;simp_all;done)
       conv=>whnf
       refine⟨⟨i+1,by omega,by omega,hr⟩,?_,KD⟩
       repeat' ((conv=>whnf);first|refine Or.inl ?_|apply oi|(apply fi<;>intro h)|refine⟨_,rfl,?_⟩|exact rfl)
       all_goals try exact⟨KO⟩
       all_goals try exact⟨K2⟩
       all_goals exact⟨by dsimp only;rw[IntWalk.i64_in _ (by omega)];rfl⟩
    ·rw[wH (by omega)]at hr
     subst hr
     repeat' ((conv=>whnf);first|refine Or.inl ?_|apply oi|(apply fi<;>intro h)|refine⟨_,rfl,?_⟩|exact rfl)
     all_goals try exact⟨KO⟩
     all_goals try exact KX
   ·have h2:bg l (k:Int)= -1:=by
     rw[bg,if_pos h0,Int.toNat_natCast,vg hx (.inl h3)];rfl
    rw[h2]
    repeat' ((conv=>whnf);first|refine Or.inl ?_|apply oi|(apply fi<;>intro h)|refine ci hE (ai rfl (ai rfl trivial)) ?_|refine⟨k,x.tr,rfl,ab hx,?_⟩|refine⟨_,rfl,?_⟩|exact rfl)
    all_goals try exact⟨KO⟩
    all_goals try exact KX
    all_goals try(exfalso;(try simp_all[af]);(try omega);done)
  ·have h1:bn l k= -1:=by rw[bn,if_neg h0]
   have h2:bg l k= -1:=by rw[bg,if_neg h0]
   rw[h1]at hE
   rw[h2]
   repeat' ((conv=>whnf);first|refine Or.inl ?_|apply oi|(apply fi<;>intro h)|refine ci hE (ai rfl (ai rfl trivial)) ?_|refine⟨_,rfl,?_⟩|exact rfl)
   all_goals try exact⟨KO⟩
   all_goals try exact KX
theorem jZ (l:List HH)(k:Int)(hl:l.length≤1048576):Sim.Spec Tryz.prog 178 [tvP l,tvI k] (rI (bg l k)):=by
 refine aq hΓ ay Tryz.func178 rfl (by decide) rfl ?_
 have hlen:(l.map HH.tr).length=l.length:=by simp
 have hE:=cN l k hl
 cases he:endAt l k.toNat with
 | none=>
  have h1:bn l k= -1:=by rw[bn,he];split <;> rfl
  have h2:bg l k= -1:=by
   rw[bg]
   split
   ·unfold elseAt;rw[he];cases l[k.toNat]? <;> rfl
   ·rfl
  rw[h1]at hE
  rw[h2]
  repeat' ((conv=>whnf);first|refine Or.inl ?_|apply oi|(apply fi<;>intro h)|refine ci hE (ai rfl (ai rfl trivial)) ?_|refine⟨_,rfl,?_⟩|exact rfl)
  all_goals try exact⟨KO⟩
  all_goals try exact KX
 | some e=>
  obtain⟨x,hx,ho,_,hke,hel⟩:=aF he
  by_cases h0:0≤k
  ·obtain⟨k,rfl⟩:=Int.eq_ofNat_of_zero_le h0
   rw[Int.toNat_natCast]at he hx hke
   rw[bf,be he]at hE
   by_cases h3:x.faa=3
   ·obtain⟨R,hR⟩:∃R,bg l (k:Int)=R:=⟨_,rfl⟩
    rw[hR]
    have hR:cu (elseN l e (e - (k+1)) (k+1))=R:=by
     rw[bg,if_pos h0,Int.toNat_natCast,elseAt,hx,he]at hR
     dsimp only at hR
     rw[if_pos h3]at hR
     exact hR
    repeat' ((conv=>whnf);first|refine Or.inl ?_|apply oi|(apply fi<;>intro h)|refine ci hE (ai rfl (ai rfl trivial)) ?_|refine⟨k,x.tr,rfl,ab hx,?_⟩|refine⟨_,rfl,?_⟩|exact rfl)
    all_goals try exact⟨KO⟩
    all_goals try exact KX
    all_goals try(exfalso;(try simp_all[af]);(try omega);done)
    conv=>whnf
    refine⟨{i:Nat // k < i∧i≤e∧cu (elseN l e (e - i) i)=R},fun q=>⟨[(0,vP l),(5,tI .i64 (e:Int)),(6,tI .i64 (q.1:Int))],[],[]⟩,fun q=>e - q.1,⟨k+1,by omega,by omega,hR⟩,?_,?_⟩
    ·skip
     repeat' ((conv=>whnf);first|refine Or.inl ?_|apply oi|(apply fi<;>intro h)|refine⟨_,rfl,?_⟩|exact rfl)
     all_goals try exact⟨KO⟩
     all_goals exact⟨by dsimp only;rw[IntWalk.i64_in _ (by omega)];rfl⟩
    intro⟨i,hki,hi,hr⟩
    dsimp only at hki hi hr ⊢
    by_cases hlt:i < e
    ·obtain⟨y,hy⟩:=ae (l:=l) (k:=i) (by omega)
     rw[ud hlt hy]at hr
     have hE2:=cN l (i:Int) hl
     by_cases h4:y.faa=4
     ·rw[if_pos h4]at hr
      subst hr
      repeat' ((conv=>whnf);first|refine Or.inl ?_|apply oi|(apply fi<;>intro h)|refine ci hE2 (ai rfl (ai rfl trivial)) ?_|refine⟨i,y.tr,rfl,ab hy,?_⟩|refine⟨_,rfl,?_⟩|exact rfl)
      all_goals try exact⟨KO⟩
      all_goals try exact KX
      all_goals try(exfalso;(try simp_all[af]);(try omega);done)
     ·rw[if_neg h4]at hr
      by_cases h5:y.faa=3∨y.faa=5
      ·rw[if_pos h5]at hr
       obtain⟨m,hm,hm1,hm2⟩:=mb he (i:=i) hki hlt hy (opensK_iff.2 (by omega))
       rw[hm]at hr
       dsimp only at hr
       rw[bf,be hm]at hE2
       repeat' ((conv=>whnf);first|refine Or.inl ?_|apply oi|(apply fi<;>intro h)|refine ci hE2 (ai rfl (ai rfl trivial)) ?_|refine⟨i,y.tr,rfl,ab hy,?_⟩|refine⟨_,rfl,?_⟩|exact rfl)
       all_goals try exact⟨KO⟩
       all_goals try exact KX
       all_goals try(exfalso;(try simp_all[af]);(try omega);done)
       all_goals
        conv=>whnf
        refine⟨⟨m+1,by omega,by omega,hr⟩,?_,KD⟩
        repeat' ((conv=>whnf);first|refine Or.inl ?_|apply oi|(apply fi<;>intro h)|refine⟨_,rfl,?_⟩|exact rfl)
        all_goals try exact⟨KO⟩
        all_goals try exact⟨K2⟩
        all_goals exact⟨by dsimp only;rw[IntWalk.i64_in _ (by omega)];rfl⟩
      ·rw[if_neg h5]at hr
       repeat' ((conv=>whnf);first|refine Or.inl ?_|apply oi|(apply fi<;>intro h)|refine ci hE2 (ai rfl (ai rfl trivial)) ?_|refine⟨i,y.tr,rfl,ab hy,?_⟩|refine⟨_,rfl,?_⟩|exact rfl)
       all_goals try exact⟨KO⟩
       all_goals try exact KX
       all_goals try(exfalso;(try simp_all[af]);(try omega);done)
       all_goals try(exfalso;simp_all;done)
       conv=>whnf
       refine⟨⟨i+1,by omega,by omega,hr⟩,?_,KD⟩
       repeat' ((conv=>whnf);first|refine Or.inl ?_|apply oi|(apply fi<;>intro h)|refine⟨_,rfl,?_⟩|exact rfl)
       all_goals try exact⟨KO⟩
       all_goals try exact⟨K2⟩
       all_goals exact⟨by dsimp only;rw[IntWalk.i64_in _ (by omega)];rfl⟩
    ·rw[wH (by omega)]at hr
     subst hr
     repeat' ((conv=>whnf);first|refine Or.inl ?_|apply oi|(apply fi<;>intro h)|refine⟨_,rfl,?_⟩|exact rfl)
     all_goals try exact⟨KO⟩
     all_goals try exact KX
   ·have h2:bg l (k:Int)= -1:=by
     rw[bg,if_pos h0,Int.toNat_natCast,vg hx (.inl h3)];rfl
    rw[h2]
    repeat' ((conv=>whnf);first|refine Or.inl ?_|apply oi|(apply fi<;>intro h)|refine ci hE (ai rfl (ai rfl trivial)) ?_|refine⟨k,x.tr,rfl,ab hx,?_⟩|refine⟨_,rfl,?_⟩|exact rfl)
    all_goals try exact⟨KO⟩
    all_goals try exact KX
    all_goals try(exfalso;(try simp_all[af]);(try omega);done)
  ·have h1:bn l k= -1:=by rw[bn,if_neg h0]
   have h2:bg l k= -1:=by rw[bg,if_neg h0]
   rw[h1]at hE
   rw[h2]
   repeat' ((conv=>whnf);first|refine Or.inl ?_|apply oi|(apply fi<;>intro h)|refine ci hE (ai rfl (ai rfl trivial)) ?_|refine⟨_,rfl,?_⟩|exact rfl)
   all_goals try exact⟨KO⟩
   all_goals try exact KX
theorem bE (l:List HH)(hl:l.length≤1048576):Sim.Spec Tryz.prog 100 [tvP l] (rL 1 ((ak l).map fun n:Nat=>aa n)):=by
 refine aq hΓ ay Tryz.func100 rfl (by decide) rfl ?_
 have hlen:(l.map HH.tr).length=l.length:=by simp
 obtain⟨R,hR⟩:∃R,ak l=R:=⟨_,rfl⟩
 rw[hR]
 repeat' ((conv=>whnf);first|refine Or.inl ?_|apply oi|(apply fi<;>intro h)|refine⟨_,rfl,?_⟩|exact rfl)
 all_goals try exact⟨KO⟩
 conv=>whnf
 refine⟨{q:Nat×List Nat // q.1≤l.length∧q.2.length≤q.1∧q.2++funsF (l.drop q.1) q.1=R},fun q=>⟨[(0,vP l),(3,.r (.c (.own (6,0,0)))),(7,vP l),(8,tI .i64 ((l.map HH.tr).length:Int)),(9,tI .i64 (q.1.1:Int))],[((6,0,0),some (.arr true 1 (q.1.2.map fun n:Nat=>aa n)))],[6]⟩,fun q=>l.length - q.1.1,⟨(0,[]),by simp,by simp,by simpa [ak]using hR⟩,?_,?_⟩
 ·skip
  repeat' ((conv=>whnf);first|refine Or.inl ?_|apply oi|(apply fi<;>intro h)|refine⟨_,rfl,?_⟩|exact rfl)
  all_goals try exact⟨KO⟩
 intro⟨⟨k,acc⟩,hk,hal,hr⟩
 dsimp only at hk hal hr ⊢
 have hacc:(acc.map fun n:Nat=>aa n).length=acc.length:=by simp
 by_cases hlt:k < l.length
 ·obtain⟨x,hx⟩:=ae hlt
  rw[kq hx]at hr
  by_cases h0:x.faa=0
  ·rw[if_pos h0]at hr
   repeat' ((conv=>whnf);first|refine Or.inl ?_|apply oi|(apply fi<;>intro h)|refine⟨k,x.tr,rfl,ab hx,?_⟩|refine⟨_,rfl,?_⟩|exact rfl)
   all_goals try exact⟨KO⟩
   all_goals try exact KX
   all_goals try(exfalso;(try simp_all[af]);(try omega);done)
   all_goals try exact⟨⟨by simp;omega,by simp;omega⟩⟩
   conv=>whnf
   refine⟨⟨(k+1,acc++[k]),by dsimp only;omega,by simp;omega,by rw[←hr];simp⟩,?_,KD⟩
   repeat' ((conv=>whnf);first|refine Or.inl ?_|apply oi|(apply fi<;>intro h)|refine⟨_,rfl,?_⟩|exact rfl)
   all_goals try exact⟨KO⟩
   all_goals try exact⟨K2⟩
   all_goals exact⟨by simp[aa]⟩
  ·rw[if_neg h0,List.nil_append]at hr
   repeat' ((conv=>whnf);first|refine Or.inl ?_|apply oi|(apply fi<;>intro h)|refine⟨k,x.tr,rfl,ab hx,?_⟩|refine⟨_,rfl,?_⟩|exact rfl)
   all_goals try exact⟨KO⟩
   all_goals try exact KX
   all_goals try(exfalso;(try simp_all[af]);(try omega);done)
   conv=>whnf
   refine⟨⟨(k+1,acc),by dsimp only;omega,by dsimp only;omega,hr⟩,?_,KD⟩
   repeat' ((conv=>whnf);first|refine Or.inl ?_|apply oi|(apply fi<;>intro h)|refine⟨_,rfl,?_⟩|exact rfl)
   all_goals try exact⟨KO⟩
   all_goals try exact⟨K2⟩
 ·rw[List.drop_eq_nil_of_le (by omega),funsF,List.append_nil]at hr
  subst hr
  repeat' ((conv=>whnf);first|refine Or.inl ?_|apply oi|(apply fi<;>intro h)|refine⟨_,rfl,?_⟩|exact rfl)
  all_goals try exact⟨KO⟩
  all_goals try exact KX
theorem bS (l:List HH)(hl:l.length≤1048576):Sim.Spec Tryz.prog 33 [tvP l] (rL 1 ((ak l).map fun n:Nat=>aa n)):=by
 refine aq hΓ ay Tryz.func33 rfl (by decide) rfl ?_
 have hlen:(l.map HH.tr).length=l.length:=by simp
 obtain⟨R,hR⟩:∃R,ak l=R:=⟨_,rfl⟩
 rw[hR]
 repeat' ((conv=>whnf);first|refine Or.inl ?_|apply oi|(apply fi<;>intro h)|refine⟨_,rfl,?_⟩|exact rfl)
 all_goals try exact⟨KO⟩
 conv=>whnf
 refine⟨{q:Nat×List Nat // q.1≤l.length∧q.2.length≤q.1∧q.2++funsF (l.drop q.1) q.1=R},fun q=>⟨[(0,vP l),(3,.r (.c (.own (5,0,0)))),(4,tI .i64 (q.1.1:Int))],[((5,0,0),some (.arr true 1 (q.1.2.map fun n:Nat=>aa n)))],[5]⟩,fun q=>l.length - q.1.1,⟨(0,[]),by simp,by simp,by simpa [ak]using hR⟩,?_,?_⟩
 ·skip
  repeat' ((conv=>whnf);first|refine Or.inl ?_|apply oi|(apply fi<;>intro h)|refine⟨_,rfl,?_⟩|exact rfl)
  all_goals try exact⟨KO⟩
 intro⟨⟨k,acc⟩,hk,hal,hr⟩
 dsimp only at hk hal hr ⊢
 have hacc:(acc.map fun n:Nat=>aa n).length=acc.length:=by simp
 by_cases hlt:k < l.length
 ·obtain⟨x,hx⟩:=ae hlt
  rw[kq hx]at hr
  by_cases h0:x.faa=0
  ·rw[if_pos h0]at hr
   repeat' ((conv=>whnf);first|refine Or.inl ?_|apply oi|(apply fi<;>intro h)|refine⟨k,x.tr,rfl,ab hx,?_⟩|refine⟨_,rfl,?_⟩|exact rfl)
   all_goals try exact⟨KO⟩
   all_goals try exact KX
   all_goals try(exfalso;(try simp_all[af]);(try omega);done)
   all_goals try exact⟨⟨by simp;omega,by simp;omega⟩⟩
   conv=>whnf
   refine⟨⟨(k+1,acc++[k]),by dsimp only;omega,by simp;omega,by rw[←hr];simp⟩,?_,KD⟩
   repeat' ((conv=>whnf);first|refine Or.inl ?_|apply oi|(apply fi<;>intro h)|refine⟨_,rfl,?_⟩|exact rfl)
   all_goals try exact⟨KO⟩
   all_goals try exact⟨K2⟩
   all_goals exact⟨by simp[aa]⟩
  ·rw[if_neg h0,List.nil_append]at hr
   repeat' ((conv=>whnf);first|refine Or.inl ?_|apply oi|(apply fi<;>intro h)|refine⟨k,x.tr,rfl,ab hx,?_⟩|refine⟨_,rfl,?_⟩|exact rfl)
   all_goals try exact⟨KO⟩
   all_goals try exact KX
   all_goals try(exfalso;(try simp_all[af]);(try omega);done)
   conv=>whnf
   refine⟨⟨(k+1,acc),by dsimp only;omega,by dsimp only;omega,hr⟩,?_,KD⟩
   repeat' ((conv=>whnf);first|refine Or.inl ?_|apply oi|(apply fi<;>intro h)|refine⟨_,rfl,?_⟩|exact rfl)
   all_goals try exact⟨KO⟩
   all_goals try exact⟨K2⟩
 ·rw[List.drop_eq_nil_of_le (by omega),funsF,List.append_nil]at hr
  subst hr
  repeat' ((conv=>whnf);first|refine Or.inl ?_|apply oi|(apply fi<;>intro h)|refine⟨_,rfl,?_⟩|exact rfl)
  all_goals try exact⟨KO⟩
  all_goals try exact KX
theorem eT (l:List HH)(s:List UInt8)(hl:l.length≤1048576):Sim.Spec Tryz.prog 154 [tvP l,tvS s] (rI (eW l s)):=by
 refine aq hΓ ay Tryz.func154 rfl (by decide) rfl ?_
 have hlen:(l.map HH.tr).length=l.length:=by simp
 obtain⟨R,hR⟩:∃R,eW l s=R:=⟨_,rfl⟩
 rw[hR]
 repeat' ((conv=>whnf);first|refine Or.inl ?_|apply oi|(apply fi<;>intro h)|refine⟨_,rfl,?_⟩|exact rfl)
 all_goals try exact⟨KO⟩
 conv=>whnf
 refine⟨{k:Nat // k≤l.length∧cu (findN (l.drop k) k s)=R},fun q=>⟨[(0,vP l),(1,tS s),(7,vP l),(8,tI .i64 ((l.map HH.tr).length:Int)),(9,tI .i64 (q.1:Int))],[],[]⟩,fun q=>l.length - q.1,⟨0,by omega,hR⟩,?_,?_⟩
 ·skip
  repeat' ((conv=>whnf);first|refine Or.inl ?_|apply oi|(apply fi<;>intro h)|refine⟨_,rfl,?_⟩|exact rfl)
  all_goals try exact⟨KO⟩
 intro⟨k,hk,hr⟩
 dsimp only at hk hr ⊢
 by_cases hlt:k < l.length
 ·obtain⟨x,hx⟩:=ae hlt
  rw[zm hx]at hr
  by_cases h0:x.faa=0∧x.fac=s
  ·rw[if_pos h0]at hr
   obtain⟨h1,h2⟩:=h0
   subst h2
   subst hr
   repeat' ((conv=>whnf);first|refine Or.inl ?_|apply oi|(apply fi<;>intro h)|refine⟨k,x.tr,rfl,ab hx,?_⟩|refine⟨_,rfl,?_⟩|exact rfl)
   all_goals try exact⟨KO⟩
   all_goals try exact KX
   all_goals try(exfalso;(try simp_all[af]);(try omega);done)
  ·rw[if_neg h0]at hr
   repeat' ((conv=>whnf);first|refine Or.inl ?_|apply oi|(apply fi<;>intro h)|refine⟨k,x.tr,rfl,ab hx,?_⟩|refine⟨_,rfl,?_⟩|exact rfl)
   all_goals try exact⟨KO⟩
   all_goals try exact KX
   all_goals try(exfalso;apply h0;simp_all;done)
   all_goals
    conv=>whnf
    refine⟨⟨k+1,by omega,hr⟩,?_,KD⟩
    repeat' ((conv=>whnf);first|refine Or.inl ?_|apply oi|(apply fi<;>intro h)|refine⟨_,rfl,?_⟩|exact rfl)
    all_goals try exact⟨KO⟩
    all_goals try exact⟨K2⟩
 ·rw[List.drop_eq_nil_of_le (by omega),findN]at hr
  subst hr
  repeat' ((conv=>whnf);first|refine Or.inl ?_|apply oi|(apply fi<;>intro h)|refine⟨_,rfl,?_⟩|exact rfl)
  all_goals try exact⟨KO⟩
  all_goals try exact KX
theorem dC (l:List HH)(s:List UInt8)(hl:l.length≤1048576):Sim.Spec Tryz.prog 119 [tvP l,tvS s] (rI (eW l s)):=by
 refine aq hΓ ay Tryz.func119 rfl (by decide) rfl ?_
 have hlen:(l.map HH.tr).length=l.length:=by simp
 obtain⟨R,hR⟩:∃R,eW l s=R:=⟨_,rfl⟩
 rw[hR]
 repeat' ((conv=>whnf);first|refine Or.inl ?_|apply oi|(apply fi<;>intro h)|refine⟨_,rfl,?_⟩|exact rfl)
 all_goals try exact⟨KO⟩
 conv=>whnf
 refine⟨{k:Nat // k≤l.length∧cu (findN (l.drop k) k s)=R},fun q=>⟨[(0,vP l),(1,tS s),(5,tI .i64 (q.1:Int))],[],[]⟩,fun q=>l.length - q.1,⟨0,by omega,hR⟩,?_,?_⟩
 ·skip
  repeat' ((conv=>whnf);first|refine Or.inl ?_|apply oi|(apply fi<;>intro h)|refine⟨_,rfl,?_⟩|exact rfl)
  all_goals try exact⟨KO⟩
 intro⟨k,hk,hr⟩
 dsimp only at hk hr ⊢
 by_cases hlt:k < l.length
 ·obtain⟨x,hx⟩:=ae hlt
  rw[zm hx]at hr
  by_cases h0:x.faa=0∧x.fac=s
  ·rw[if_pos h0]at hr
   obtain⟨h1,h2⟩:=h0
   subst h2
   subst hr
   repeat' ((conv=>whnf);first|refine Or.inl ?_|apply oi|(apply fi<;>intro h)|refine⟨k,x.tr,rfl,ab hx,?_⟩|refine⟨_,rfl,?_⟩|exact rfl)
   all_goals try exact⟨KO⟩
   all_goals try exact KX
   all_goals try(exfalso;(try simp_all[af]);(try omega);done)
  ·rw[if_neg h0]at hr
   repeat' ((conv=>whnf);first|refine Or.inl ?_|apply oi|(apply fi<;>intro h)|refine⟨k,x.tr,rfl,ab hx,?_⟩|refine⟨_,rfl,?_⟩|exact rfl)
   all_goals try exact⟨KO⟩
   all_goals try exact KX
   all_goals try(exfalso;apply h0;simp_all;done)
   all_goals
    conv=>whnf
    refine⟨⟨k+1,by omega,hr⟩,?_,KD⟩
    repeat' ((conv=>whnf);first|refine Or.inl ?_|apply oi|(apply fi<;>intro h)|refine⟨_,rfl,?_⟩|exact rfl)
    all_goals try exact⟨KO⟩
    all_goals try exact⟨K2⟩
 ·rw[List.drop_eq_nil_of_le (by omega),findN]at hr
  subst hr
  repeat' ((conv=>whnf);first|refine Or.inl ?_|apply oi|(apply fi<;>intro h)|refine⟨_,rfl,?_⟩|exact rfl)
  all_goals try exact⟨KO⟩
  all_goals try exact KX
abbrev rN (l:List (List UInt8)):Res:=rL 1 (l.map ah)
theorem sa {l:List HH}{k e:Nat}{x:HH}(hx:l[k]?=some x)(he:endAt l k=some e)(h0:x.faa=0):localsOf l (k:Int)=locN l e (e - k) k x.fag:=by
 rw[localsOf,if_pos (by omega),Int.toNat_natCast,hx,he]
 dsimp only
 rw[if_pos h0]
theorem gu {l:List HH}{k:Int}(h:∀e x,endAt l k.toNat=some e→l[k.toNat]?=some x→0≤k→x.faa≠0):localsOf l k=[]:=by
 rw[localsOf]
 split
 ·split
  ·rename_i x e hx he
   rw[if_neg (h e x he hx (by assumption))]
  ·rfl
 ·rfl
theorem wn {l:List HH}{k:Int}(hl:l.length≤1048576)(hs:∀x∈l,aK 1048576 x.tr):(localsOf l k).length≤2097152∧True:=by
 refine⟨?_,trivial⟩
 rw[localsOf]
 split
 ·split
  ·rename_i x e hx he
   obtain⟨_,_,_,_,h1,h2⟩:=aF he
   have:=(cG (hs x (List.mem_of_getElem? hx))).2.1
   split
   ·have:=Ah (l:=l) (e:=e) (e - k.toNat) k.toNat x.fag
    omega
   ·simp
  ·simp
 ·simp
theorem fh (l:List (List UInt8))(s:List UInt8)(hl:l.length≤2097152):Sim.Spec Tryz.prog 179 [tvL 1 (l.map ah),tvS s] (rI (cY l s)):=by
 refine aq hΓ ay Tryz.func179 rfl (by decide) rfl ?_
 have hlen:(l.map ah).length=l.length:=by simp
 obtain⟨R,hR⟩:∃R,cY l s=R:=⟨_,rfl⟩
 rw[hR]
 repeat' ((conv=>whnf);first|refine Or.inl ?_|apply oi|(apply fi<;>intro h)|refine⟨_,rfl,?_⟩|exact rfl)
 all_goals try exact⟨KO⟩
 conv=>whnf
 refine⟨{k:Nat // k≤l.length∧cu (ka (l.drop k) k s)=R},fun k=>⟨[(0,.r (.c (.t (.lst 1 (l.map ah))))),(1,tS s),(5,tI .i64 (k.1:Int))],[],[]⟩,fun k=>l.length - k.1,⟨0,by omega,hR⟩,?_,?_⟩
 ·skip
  repeat' ((conv=>whnf);first|refine Or.inl ?_|apply oi|(apply fi<;>intro h)|refine⟨_,rfl,?_⟩|exact rfl)
  all_goals try exact⟨KO⟩
 intro⟨k,hk,hr⟩
 dsimp only at hk hr ⊢
 by_cases hlt:k < l.length
 ·obtain⟨x,hx⟩:=ae hlt
  rw[xz hx]at hr
  cases he:(x==s)with
  | true=>
   rw[he,if_pos rfl]at hr
   have he2:=eq_of_beq he
   subst he2
   subst hr
   repeat' ((conv=>whnf);first|refine Or.inl ?_|apply oi|(apply fi<;>intro h)|refine⟨k,(ah x),rfl,ab hx,?_⟩|refine⟨_,rfl,?_⟩|exact rfl)
   all_goals try exact⟨KO⟩
   all_goals try exact KX
   all_goals try(exfalso;(try simp_all[af]);(try omega);done)
  | false=>
   rw[he,if_neg (by simp)]at hr
   repeat' ((conv=>whnf);first|refine Or.inl ?_|apply oi|(apply fi<;>intro h)|refine⟨k,(ah x),rfl,ab hx,?_⟩|refine⟨_,rfl,?_⟩|exact rfl)
   all_goals try exact⟨KO⟩
   all_goals try exact KX
   all_goals try(exfalso;(try simp_all[af]);(try omega);done)
   conv=>whnf
   refine⟨⟨k+1,by omega,hr⟩,?_,KD⟩
   repeat' ((conv=>whnf);first|refine Or.inl ?_|apply oi|(apply fi<;>intro h)|refine⟨_,rfl,?_⟩|exact rfl)
   all_goals try exact⟨KO⟩
   all_goals try exact⟨K2⟩
 ·rw[List.drop_eq_nil_of_le (by omega),ka]at hr
  subst hr
  repeat' ((conv=>whnf);first|refine Or.inl ?_|apply oi|(apply fi<;>intro h)|refine⟨_,rfl,?_⟩|exact rfl)
  all_goals try exact⟨KO⟩
  all_goals try exact KX
theorem iz (l:List HH)(k:Int)(hl:l.length≤1048576)(hs:∀x∈l,aK 1048576 x.tr):Sim.Spec Tryz.prog 212 [tvP l,tvI k] (rN (localsOf l k)):=by
 refine aq hΓ ay Tryz.func212 rfl (by decide) rfl ?_
 have hlen:(l.map HH.tr).length=l.length:=by simp
 have hE:=cM l k hl
 by_cases h0:0≤k
 ·obtain⟨k,rfl⟩:=Int.eq_ofNat_of_zero_le h0
  rw[bf]at hE
  cases he:endAt l k with
  | none=>
   rw[iM he]at hE
   rw[gu (fun e x h1 _ _=>by rw[Int.toNat_natCast,he]at h1;cases h1)]
   repeat' ((conv=>whnf);first|refine Or.inl ?_|apply oi|(apply fi<;>intro h)|refine ci hE (ai rfl (ai rfl trivial)) ?_|refine⟨_,rfl,?_⟩|exact rfl)
   all_goals try exact⟨KO⟩
   all_goals try exact KX
  | some e=>
   rw[be he]at hE
   obtain⟨x,hx,ho,_,hke,hel⟩:=aF he
   by_cases hk0:x.faa=0
   ·have hsm:=cG (hs x (List.mem_of_getElem? hx))
    rw[sa hx he hk0]
    obtain⟨R,hR⟩:∃R,locN l e (e - k) k x.fag=R:=⟨_,rfl⟩
    rw[hR]
    have hal:(x.fag.map ah).length=x.fag.length:=by simp
    repeat' ((conv=>whnf);first|refine Or.inl ?_|apply oi|(apply fi<;>intro h)|refine ci hE (ai rfl (ai rfl trivial)) ?_|refine⟨k,x.tr,rfl,ab hx,?_⟩|refine⟨_,rfl,?_⟩|exact rfl)
    all_goals try exact⟨KO⟩
    all_goals try exact KX
    all_goals try(exfalso;(try simp_all[af]);(try omega);done)
    all_goals try exact⟨⟨by simp;omega,by simp;omega⟩⟩
    conv=>whnf
    refine⟨{q:Nat×List (List UInt8) // k≤q.1∧q.1≤e∧q.2.length≤1048576+q.1∧locN l e (e - q.1) q.1 q.2=R},fun q=>⟨[(0,vP l),(5,tI .i64 (e:Int)),(6,.r (.c (.own (6,0,0)))),(7,tI .i64 (q.1.1:Int))],[((6,0,0),some (.arr false 1 (q.1.2.map ah)))],[6]⟩,fun q=>e - q.1.1,⟨(k,x.fag),by dsimp only;omega,by dsimp only;omega,by dsimp only;omega,hR⟩,?_,?_⟩
    ·skip
     repeat' ((conv=>whnf);first|refine Or.inl ?_|apply oi|(apply fi<;>intro h)|refine⟨_,rfl,?_⟩|exact rfl)
     all_goals try exact⟨KO⟩
     all_goals exact⟨by simp⟩
    intro⟨⟨i,acc⟩,hki,hi,hac,hr⟩
    dsimp only at hki hi hac hr ⊢
    have hal2:(acc.map ah).length=acc.length:=by simp
    by_cases hlt:i < e
    ·obtain⟨y,hy⟩:=ae (l:=l) (k:=i) (by omega)
     rw[wU hlt hy]at hr
     have hC:=fw acc y.fac (by omega)
     by_cases h1:y.faa=1
     ·rw[if_pos h1]at hr
      unfold jI at hr
      cases hc:acc.contains y.fac with
      | true=>
       rw[hc]at hC hr
       rw[if_pos rfl]at hr
       repeat' ((conv=>whnf);first|refine Or.inl ?_|apply oi|(apply fi<;>intro h)|refine ci hC (ai rfl (ai rfl trivial)) ?_|refine⟨i,y.tr,rfl,ab hy,?_⟩|refine⟨_,rfl,?_⟩|exact rfl)
       all_goals try exact⟨KO⟩
       all_goals try exact KX
       all_goals try(exfalso;(try simp_all[af]);(try omega);done)
       all_goals
        conv=>whnf
        refine⟨⟨(i+1,acc),by dsimp only;omega,by dsimp only;omega,by dsimp only;omega,hr⟩,?_,KD⟩
        repeat' ((conv=>whnf);first|refine Or.inl ?_|apply oi|(apply fi<;>intro h)|refine⟨_,rfl,?_⟩|exact rfl)
        all_goals try exact⟨KO⟩
        all_goals try exact⟨K2⟩
      | false=>
       rw[hc]at hC hr
       rw[if_neg (by simp)]at hr
       repeat' ((conv=>whnf);first|refine Or.inl ?_|apply oi|(apply fi<;>intro h)|refine ci hC (ai rfl (ai rfl trivial)) ?_|refine⟨i,y.tr,rfl,ab hy,?_⟩|refine⟨_,rfl,?_⟩|exact rfl)
       all_goals try exact⟨KO⟩
       all_goals try exact KX
       all_goals try(exfalso;(try simp_all[af]);(try omega);done)
       all_goals try exact⟨⟨by simp;omega,by simp;omega⟩⟩
       all_goals
        conv=>whnf
        refine⟨⟨(i+1,acc++[y.fac]),by dsimp only;omega,by dsimp only;omega,by simp;omega,hr⟩,?_,KD⟩
        repeat' ((conv=>whnf);first|refine Or.inl ?_|apply oi|(apply fi<;>intro h)|refine⟨_,rfl,?_⟩|exact rfl)
        all_goals try exact⟨KO⟩
        all_goals try exact⟨K2⟩
        all_goals exact⟨by simp[ah]⟩
     ·rw[if_neg h1]at hr
      repeat' ((conv=>whnf);first|refine Or.inl ?_|apply oi|(apply fi<;>intro h)|refine ci hC (ai rfl (ai rfl trivial)) ?_|refine⟨i,y.tr,rfl,ab hy,?_⟩|refine⟨_,rfl,?_⟩|exact rfl)
      all_goals try exact⟨KO⟩
      all_goals try exact KX
      all_goals try(exfalso;(try simp_all[af]);(try omega);done)
      all_goals try(exfalso;simp_all;done)
      conv=>whnf
      refine⟨⟨(i+1,acc),by dsimp only;omega,by dsimp only;omega,by dsimp only;omega,hr⟩,?_,KD⟩
      repeat' ((conv=>whnf);first|refine Or.inl ?_|apply oi|(apply fi<;>intro h)|refine⟨_,rfl,?_⟩|exact rfl)
      all_goals try exact⟨KO⟩
      all_goals try exact⟨K2⟩
    ·rw[za (by omega)]at hr
     subst hr
     repeat' ((conv=>whnf);first|refine Or.inl ?_|apply oi|(apply fi<;>intro h)|refine⟨_,rfl,?_⟩|exact rfl)
     all_goals try exact⟨KO⟩
     all_goals try exact KX
     all_goals exact⟨⟨rfl,eN _⟩⟩
   ·rw[gu (fun e x' h1 h2 _=>by rw[Int.toNat_natCast,hx]at h2;injection h2 with h2;subst h2;exact hk0)]
    repeat' ((conv=>whnf);first|refine Or.inl ?_|apply oi|(apply fi<;>intro h)|refine ci hE (ai rfl (ai rfl trivial)) ?_|refine⟨k,x.tr,rfl,ab hx,?_⟩|refine⟨_,rfl,?_⟩|exact rfl)
    all_goals try exact⟨KO⟩
    all_goals try exact KX
    all_goals try(exfalso;(try simp_all[af]);(try omega);done)
 ·have h1:bn l k= -1:=by rw[bn,if_neg h0]
  rw[h1]at hE
  rw[gu (fun e x _ _ h=>absurd h h0)]
  repeat' ((conv=>whnf);first|refine Or.inl ?_|apply oi|(apply fi<;>intro h)|refine ci hE (ai rfl (ai rfl trivial)) ?_|refine⟨_,rfl,?_⟩|exact rfl)
  all_goals try exact⟨KO⟩
  all_goals try exact KX
theorem ir (l:List HH)(k:Int)(hl:l.length≤1048576)(hs:∀x∈l,aK 1048576 x.tr):Sim.Spec Tryz.prog 177 [tvP l,tvI k] (rN (localsOf l k)):=by
 refine aq hΓ ay Tryz.func177 rfl (by decide) rfl ?_
 have hlen:(l.map HH.tr).length=l.length:=by simp
 have hE:=cN l k hl
 by_cases h0:0≤k
 ·obtain⟨k,rfl⟩:=Int.eq_ofNat_of_zero_le h0
  rw[bf]at hE
  cases he:endAt l k with
  | none=>
   rw[iM he]at hE
   rw[gu (fun e x h1 _ _=>by rw[Int.toNat_natCast,he]at h1;cases h1)]
   repeat' ((conv=>whnf);first|refine Or.inl ?_|apply oi|(apply fi<;>intro h)|refine ci hE (ai rfl (ai rfl trivial)) ?_|refine⟨_,rfl,?_⟩|exact rfl)
   all_goals try exact⟨KO⟩
   all_goals try exact KX
  | some e=>
   rw[be he]at hE
   obtain⟨x,hx,ho,_,hke,hel⟩:=aF he
   by_cases hk0:x.faa=0
   ·have hsm:=cG (hs x (List.mem_of_getElem? hx))
    rw[sa hx he hk0]
    obtain⟨R,hR⟩:∃R,locN l e (e - k) k x.fag=R:=⟨_,rfl⟩
    rw[hR]
    have hal:(x.fag.map ah).length=x.fag.length:=by simp
    repeat' ((conv=>whnf);first|refine Or.inl ?_|apply oi|(apply fi<;>intro h)|refine ci hE (ai rfl (ai rfl trivial)) ?_|refine⟨k,x.tr,rfl,ab hx,?_⟩|refine⟨_,rfl,?_⟩|exact rfl)
    all_goals try exact⟨KO⟩
    all_goals try exact KX
    all_goals try(exfalso;(try simp_all[af]);(try omega);done)
    all_goals try exact⟨⟨by simp;omega,by simp;omega⟩⟩
    conv=>whnf
    refine⟨{q:Nat×List (List UInt8) // k≤q.1∧q.1≤e∧q.2.length≤1048576+q.1∧locN l e (e - q.1) q.1 q.2=R},fun q=>⟨[(0,vP l),(5,tI .i64 (e:Int)),(6,.r (.c (.own (6,0,0)))),(7,tI .i64 (q.1.1:Int))],[((6,0,0),some (.arr false 1 (q.1.2.map ah)))],[6]⟩,fun q=>e - q.1.1,⟨(k,x.fag),by dsimp only;omega,by dsimp only;omega,by dsimp only;omega,hR⟩,?_,?_⟩
    ·skip
     repeat' ((conv=>whnf);first|refine Or.inl ?_|apply oi|(apply fi<;>intro h)|refine⟨_,rfl,?_⟩|exact rfl)
     all_goals try exact⟨KO⟩
     all_goals exact⟨by simp⟩
    intro⟨⟨i,acc⟩,hki,hi,hac,hr⟩
    dsimp only at hki hi hac hr ⊢
    have hal2:(acc.map ah).length=acc.length:=by simp
    by_cases hlt:i < e
    ·obtain⟨y,hy⟩:=ae (l:=l) (k:=i) (by omega)
     rw[wU hlt hy]at hr
     have hC:=fh acc y.fac (by omega)
     by_cases h1:y.faa=1
     ·rw[if_pos h1]at hr
      have hix:=nz (l:=acc) (s:=y.fac)
      generalize cY acc y.fac=ix at *
      unfold jI at hr
      cases hc:acc.contains y.fac with
      | true=>
       rw[hc]at hix hr
       rw[if_pos rfl]at hr
       repeat' ((conv=>whnf);first|refine Or.inl ?_|apply oi|(apply fi<;>intro h)|refine ci hC (ai rfl (ai rfl trivial)) ?_|refine⟨i,y.tr,rfl,ab hy,?_⟩|refine⟨_,rfl,?_⟩|exact rfl)
       all_goals try exact⟨KO⟩
       all_goals try exact KX
       all_goals try(exfalso;(try simp_all[af]);(try omega);done)
       all_goals
        conv=>whnf
        refine⟨⟨(i+1,acc),by dsimp only;omega,by dsimp only;omega,by dsimp only;omega,hr⟩,?_,KD⟩
        repeat' ((conv=>whnf);first|refine Or.inl ?_|apply oi|(apply fi<;>intro h)|refine⟨_,rfl,?_⟩|exact rfl)
        all_goals try exact⟨KO⟩
        all_goals try exact⟨K2⟩
      | false=>
       rw[hc]at hix hr
       rw[if_neg (by simp)]at hr
       repeat' ((conv=>whnf);first|refine Or.inl ?_|apply oi|(apply fi<;>intro h)|refine ci hC (ai rfl (ai rfl trivial)) ?_|refine⟨i,y.tr,rfl,ab hy,?_⟩|refine⟨_,rfl,?_⟩|exact rfl)
       all_goals try exact⟨KO⟩
       all_goals try exact KX
       all_goals try(exfalso;(try simp_all[af]);(try omega);done)
       all_goals try exact⟨⟨by simp;omega,by simp;omega⟩⟩
       all_goals
        conv=>whnf
        refine⟨⟨(i+1,acc++[y.fac]),by dsimp only;omega,by dsimp only;omega,by simp;omega,hr⟩,?_,KD⟩
        repeat' ((conv=>whnf);first|refine Or.inl ?_|apply oi|(apply fi<;>intro h)|refine⟨_,rfl,?_⟩|exact rfl)
        all_goals try exact⟨KO⟩
        all_goals try exact⟨K2⟩
        all_goals exact⟨by simp[ah]⟩
     ·rw[if_neg h1]at hr
      repeat' ((conv=>whnf);first|refine Or.inl ?_|apply oi|(apply fi<;>intro h)|refine ci hC (ai rfl (ai rfl trivial)) ?_|refine⟨i,y.tr,rfl,ab hy,?_⟩|refine⟨_,rfl,?_⟩|exact rfl)
      all_goals try exact⟨KO⟩
      all_goals try exact KX
      all_goals try(exfalso;(try simp_all[af]);(try omega);done)
      all_goals try(exfalso;simp_all;done)
      conv=>whnf
      refine⟨⟨(i+1,acc),by dsimp only;omega,by dsimp only;omega,by dsimp only;omega,hr⟩,?_,KD⟩
      repeat' ((conv=>whnf);first|refine Or.inl ?_|apply oi|(apply fi<;>intro h)|refine⟨_,rfl,?_⟩|exact rfl)
      all_goals try exact⟨KO⟩
      all_goals try exact⟨K2⟩
    ·rw[za (by omega)]at hr
     subst hr
     repeat' ((conv=>whnf);first|refine Or.inl ?_|apply oi|(apply fi<;>intro h)|refine⟨_,rfl,?_⟩|exact rfl)
     all_goals try exact⟨KO⟩
     all_goals try exact KX
     all_goals exact⟨⟨rfl,eN _⟩⟩
   ·rw[gu (fun e x' h1 h2 _=>by rw[Int.toNat_natCast,hx]at h2;injection h2 with h2;subst h2;exact hk0)]
    repeat' ((conv=>whnf);first|refine Or.inl ?_|apply oi|(apply fi<;>intro h)|refine ci hE (ai rfl (ai rfl trivial)) ?_|refine⟨k,x.tr,rfl,ab hx,?_⟩|refine⟨_,rfl,?_⟩|exact rfl)
    all_goals try exact⟨KO⟩
    all_goals try exact KX
    all_goals try(exfalso;(try simp_all[af]);(try omega);done)
 ·have h1:bn l k= -1:=by rw[bn,if_neg h0]
  rw[h1]at hE
  rw[gu (fun e x _ _ h=>absurd h h0)]
  repeat' ((conv=>whnf);first|refine Or.inl ?_|apply oi|(apply fi<;>intro h)|refine ci hE (ai rfl (ai rfl trivial)) ?_|refine⟨_,rfl,?_⟩|exact rfl)
  all_goals try exact⟨KO⟩
  all_goals try exact KX
abbrev vN (l:List (List UInt8)):AV:= .r (.c (.t (.lst 1 (l.map ah))))
theorem Bq {α:Type}{f:α→Bool}{l:List α}{k:Nat}{x:α}(hx:l[k]?=some x):(l.drop k).all f=(f x && (l.drop (k+1)).all f):=by
 rw[dq hx,List.all_cons]
theorem rh (l:List HH)(loc:List (List UInt8))(ts:List HP)(hl:l.length≤1048576)(hloc:loc.length≤4194304)(hts:ts.length≤1048576):Sim.Spec Tryz.prog 213 [tvP l,tvL 1 (loc.map ah),tvL 3 (ts.map HP.tr)] (rB (bH l loc ts)):=by
 refine aq hΓ ay Tryz.func213 rfl (by decide) rfl ?_
 have hlen:(ts.map HP.tr).length=ts.length:=by simp
 have hlen2:(l.map HH.tr).length=l.length:=by simp
 obtain⟨R,hR⟩:∃R,bH l loc ts=R:=⟨_,rfl⟩
 rw[hR]
 repeat' ((conv=>whnf);first|refine Or.inl ?_|apply oi|(apply fi<;>intro h)|refine⟨_,rfl,?_⟩|exact rfl)
 all_goals try exact⟨KO⟩
 conv=>whnf
 refine⟨{k:Nat // k≤ts.length∧(ts.drop k).all (bW l loc)=R},fun q=>⟨[(0,vP l),(1,vN loc),(10,.r (.c (.t (.lst 3 (ts.map HP.tr))))),(11,tI .i64 ((ts.map HP.tr).length:Int)),(12,tI .i64 (q.1:Int))],[],[]⟩,fun q=>ts.length - q.1,⟨0,by omega,hR⟩,?_,?_⟩
 ·skip
  repeat' ((conv=>whnf);first|refine Or.inl ?_|apply oi|(apply fi<;>intro h)|refine⟨_,rfl,?_⟩|exact rfl)
  all_goals try exact⟨KO⟩
 intro⟨k,hk,hr⟩
 dsimp only at hk hr ⊢
 by_cases hlt:k < ts.length
 ·obtain⟨t,ht⟩:=ae hlt
  rw[Bq ht]at hr
  have hC:=fw loc t.fac hloc
  have hF:=eT l t.fac hl
  by_cases h1:t.faa=1
  ·have e1:bW l loc t=loc.contains t.fac:=by unfold bW;rw[if_pos h1]
   rw[e1]at hr
   cases hc:loc.contains t.fac with
   | false=>
    rw[hc]at hC hr
    rw[Bool.false_and]at hr
    subst hr
    repeat' ((conv=>whnf);first|refine Or.inl ?_|apply oi|(apply fi<;>intro h)|refine⟨k,t.tr,rfl,ab ht,?_⟩|refine ci hC (ai rfl (ai rfl trivial)) ?_|refine ci hF (ai rfl (ai rfl trivial)) ?_|refine⟨_,rfl,?_⟩|exact rfl)
    all_goals try exact⟨KO⟩
    all_goals try exact KX
    all_goals try(exfalso;(try simp_all[af]);(try omega);done)
   | true=>
    rw[hc]at hC hr
    rw[Bool.true_and]at hr
    repeat' ((conv=>whnf);first|refine Or.inl ?_|apply oi|(apply fi<;>intro h)|refine⟨k,t.tr,rfl,ab ht,?_⟩|refine ci hC (ai rfl (ai rfl trivial)) ?_|refine ci hF (ai rfl (ai rfl trivial)) ?_|refine⟨_,rfl,?_⟩|exact rfl)
    all_goals try exact⟨KO⟩
    all_goals try exact KX
    all_goals try(exfalso;(try simp_all[af]);(try omega);done)
    all_goals try(exfalso;simp_all;done)
    conv=>whnf
    refine⟨⟨k+1,by omega,hr⟩,?_,KD⟩
    repeat' ((conv=>whnf);first|refine Or.inl ?_|apply oi|(apply fi<;>intro h)|refine⟨_,rfl,?_⟩|exact rfl)
    all_goals try exact⟨KO⟩
    all_goals try exact⟨K2⟩
  ·by_cases h7:t.faa=7
   ·cases hf:findN l 0 t.fac with
    | none=>
     have e1:bW l loc t=false:=by unfold bW;rw[if_neg h1,if_pos h7,hf]
     rw[e1,Bool.false_and]at hr
     subst hr
     rw[show eW l t.fac= -1 from iM hf]at hF
     repeat' ((conv=>whnf);first|refine Or.inl ?_|apply oi|(apply fi<;>intro h)|refine⟨k,t.tr,rfl,ab ht,?_⟩|refine ci hC (ai rfl (ai rfl trivial)) ?_|refine ci hF (ai rfl (ai rfl trivial)) ?_|refine⟨_,rfl,?_⟩|exact rfl)
     all_goals try exact⟨KO⟩
     all_goals try exact KX
     all_goals try(exfalso;(try simp_all[af]);(try omega);done)
    | some f=>
     obtain⟨hfl,x,hx,hx0,_⟩:=fD hf
     have e1:bW l loc t=((x.fag.length:Int)==t.faj):=by unfold bW;rw[if_neg h1,if_pos h7,hf];dsimp only;rw[hx]
     rw[e1]at hr
     rw[show eW l t.fac=(f:Int) from be hf]at hF
     have hxl:(x.fag.map ah).length=x.fag.length:=by simp
     by_cases hn:(x.fag.length:Int)=t.faj
     ·rw[beq_iff_eq.2 hn,Bool.true_and]at hr
      repeat' ((conv=>whnf);first|refine Or.inl ?_|apply oi|(apply fi<;>intro h)|refine⟨k,t.tr,rfl,ab ht,?_⟩|refine⟨f,x.tr,rfl,ab hx,?_⟩|refine ci hC (ai rfl (ai rfl trivial)) ?_|refine ci hF (ai rfl (ai rfl trivial)) ?_|refine⟨_,rfl,?_⟩|exact rfl)
      all_goals try exact⟨KO⟩
      all_goals try exact KX
      all_goals try(exfalso;(try simp_all[af]);(try omega);done)
      all_goals try(exfalso;simp_all;done)
      conv=>whnf
      refine⟨⟨k+1,by omega,hr⟩,?_,KD⟩
      repeat' ((conv=>whnf);first|refine Or.inl ?_|apply oi|(apply fi<;>intro h)|refine⟨_,rfl,?_⟩|exact rfl)
      all_goals try exact⟨KO⟩
      all_goals try exact⟨K2⟩
     ·rw[beq_eq_false_iff_ne.2 hn,Bool.false_and]at hr
      subst hr
      repeat' ((conv=>whnf);first|refine Or.inl ?_|apply oi|(apply fi<;>intro h)|refine⟨k,t.tr,rfl,ab ht,?_⟩|refine⟨f,x.tr,rfl,ab hx,?_⟩|refine ci hC (ai rfl (ai rfl trivial)) ?_|refine ci hF (ai rfl (ai rfl trivial)) ?_|refine⟨_,rfl,?_⟩|exact rfl)
      all_goals try exact⟨KO⟩
      all_goals try exact KX
      all_goals try(exfalso;(try simp_all[af]);(try omega);done)
      all_goals try(exfalso;simp_all;done)
   ·have e1:bW l loc t=true:=by unfold bW;rw[if_neg h1,if_neg h7]
    rw[e1,Bool.true_and]at hr
    repeat' ((conv=>whnf);first|refine Or.inl ?_|apply oi|(apply fi<;>intro h)|refine⟨k,t.tr,rfl,ab ht,?_⟩|refine ci hC (ai rfl (ai rfl trivial)) ?_|refine ci hF (ai rfl (ai rfl trivial)) ?_|refine⟨_,rfl,?_⟩|exact rfl)
    all_goals try exact⟨KO⟩
    all_goals try exact KX
    all_goals try(exfalso;(try simp_all[af]);(try omega);done)
    all_goals try(exfalso;simp_all;done)
    conv=>whnf
    refine⟨⟨k+1,by omega,hr⟩,?_,KD⟩
    repeat' ((conv=>whnf);first|refine Or.inl ?_|apply oi|(apply fi<;>intro h)|refine⟨_,rfl,?_⟩|exact rfl)
    all_goals try exact⟨KO⟩
    all_goals try exact⟨K2⟩
 ·rw[List.drop_eq_nil_of_le (by omega),List.all_nil]at hr
  subst hr
  repeat' ((conv=>whnf);first|refine Or.inl ?_|apply oi|(apply fi<;>intro h)|refine⟨_,rfl,?_⟩|exact rfl)
  all_goals try exact⟨KO⟩
  all_goals try exact KX
def dQ (n:Nat):List Tr:=aa n
theorem nN {x:HH}(h:cy x=true)(hk:x.faa=7):x.fad=[]:=by
 unfold cy at h
 simp only[Bool.and_eq_true]at h
 have h3:=h.2.2.2
 rw[if_neg (by rw[hk];decide)]at h3
 exact List.length_eq_zero_iff.1 (eq_of_beq h3)
def Hs (i:Nat)(st es:List Nat):Prop:=st=es∨st=(i - 1)::es
theorem jV (m:Nat)(r:List Nat):((m::r).reverse.map dQ)[r.length]?=some (dQ m):=by simp
theorem StkOk.top {l:List HH}{e i m:Nat}{r:List Nat}(h:StkOk l e i (m::r)):i≤m:=h.1
theorem qm (l:List HH)(k e:Nat)(hl:l.length≤60)(hs:∀x∈l,aK 1048576 x.tr)(hok:∀x∈l,cy x=true)(he:endAt l k=some e):Sim.Spec Tryz.prog 155 [tvP l,tvI k,tvI e] (rB (jA l k e)):=by
 refine aq hΓ ay Tryz.func155 rfl (by decide) rfl ?_
 have hlen:(l.map HH.tr).length=l.length:=by simp
 have hL:=iz l k (by omega) hs
 obtain⟨hloc1,hloc2⟩:=wn (l:=l) (k:=(k:Int)) (by omega) hs
 have hst0:=(aF he)
 obtain⟨x0,hx0,ho0,he0,hke,hel⟩:=hst0
 unfold jA
 generalize localsOf l (k:Int)=loc at *
 have hll:(loc.map ah).length=loc.length:=by simp
 by_cases h8:loc.length≤8
 ·rw[decide_eq_true h8,Bool.true_and]
  obtain⟨R,hR⟩:∃R,iY l loc e (e - (k+1)) (k+1) 0=R:=⟨_,rfl⟩
  rw[hR]
  repeat' ((conv=>whnf);first|refine Or.inl ?_|apply oi|(apply fi<;>intro h)|refine ci hL (ai rfl (ai rfl trivial)) ?_|refine⟨_,rfl,?_⟩|exact rfl)
  all_goals try exact⟨KO⟩
  all_goals try exact KX
  conv=>whnf
  refine⟨{q:Nat×List Nat×List Nat // k < q.1∧q.1≤e+1∧q.2.1.length≤5∧(q.1=e+1→R=true)∧(q.1≤e→StkOk l e q.1 q.2.2∧q.2.2.length≤4∧Hs q.1 q.2.1 q.2.2∧iY l loc e (e - q.1) q.1 q.2.2.length=R)},fun q=>⟨[(0,vP l),(2,tI .i64 (e:Int)),(7,.r (.c (.own (7,0,0)))),(8,.r (.c (.own (8,0,0)))),(9,tI .i64 (q.1.1:Int))],[((7,0,0),some (.arr true 1 (loc.map ah))),((8,0,0),some (.arr false 1 (q.1.2.1.reverse.map dQ)))],[7,8]⟩,fun q=>e+1 - q.1.1,⟨(k+1,[],[]),by dsimp only;omega,by dsimp only;omega,by simp,fun h=>by dsimp only at h;omega,fun _=>⟨he0,by simp,.inl rfl,hR⟩⟩,?_,?_⟩
  ·skip
   repeat' ((conv=>whnf);first|refine Or.inl ?_|apply oi|(apply fi<;>intro h)|refine⟨_,rfl,?_⟩|exact rfl)
   all_goals try exact⟨KO⟩
   all_goals try exact⟨K2⟩
   all_goals exact⟨by simp⟩
  intro⟨⟨i,st,es⟩,q1,q2,q3,q4,q5⟩
  dsimp only at q1 q2 q3 q4 q5 ⊢
  by_cases hie:i≤e
  ·obtain⟨y,hy⟩:=ae (l:=l) (k:=i) (by omega)
   obtain⟨g1,g2,g3,g4⟩:=q5 hie
   have hE:=cM l (i:Int) (by omega)
   have hX:=rh l loc y.fad (by omega) (by omega) (by have:=(cG (hs y (List.mem_of_getElem? hy))).2.2.2.1;omega)
   repeat' ((conv=>whnf);first|refine Or.inl ?_|apply oi|(apply fi<;>intro h)|refine⟨_,rfl,?_⟩|exact rfl)
   all_goals try exact⟨KO⟩
   all_goals try exact KX
   conv=>whnf
   refine⟨{u:List Nat // Hs i u es},fun q=>⟨[(0,vP l),(2,tI .i64 (e:Int)),(7,.r (.c (.own (7,0,0)))),(8,.r (.c (.own (8,0,0)))),(9,tI .i64 (i:Int))],[((7,0,0),some (.arr true 1 (loc.map ah))),((8,0,0),some (.arr false 1 (q.1.reverse.map dQ)))],[7,8]⟩,fun q=>q.1.length,⟨st,g3⟩,?_,?_⟩
   ·skip
    repeat' ((conv=>whnf);first|refine Or.inl ?_|apply oi|(apply fi<;>intro h)|refine⟨_,rfl,?_⟩|exact rfl)
    all_goals try exact⟨KO⟩
   intro⟨u,hu⟩
   dsimp only at hu ⊢
   have hul:(u.reverse.map dQ).length=u.length:=by simp
   cases u with
   | nil=>
    have hes0:es=[]:=by
     rcases hu with h|h
     ·exact h.symm
     ·cases h
    subst hes0
    by_cases hlt:i < e
    ·rw[uM hlt hy]at g4
     by_cases h0:y.faa=0
     ·rw[if_pos h0]at g4
      subst g4
      repeat' ((conv=>whnf);first|refine Or.inl ?_|apply oi|(apply fi<;>intro h)|refine ci hE (ai rfl (ai rfl trivial)) ?_|refine ci hX (ai rfl (ai rfl (ai rfl trivial))) ?_|refine⟨i,y.tr,rfl,ab hy,?_⟩|refine⟨_,rfl,?_⟩|exact rfl)
      all_goals try exact⟨KO⟩
      all_goals try exact KX
      all_goals try(exfalso;(try simp_all[af]);(try omega);done)
     ·rw[if_neg h0]at g4
      by_cases h35:y.faa=3∨y.faa=5
      ·have hd:dep y ([]:List Nat).length=([]:List Nat).length+1:=by unfold dep;rw[if_pos h35]
       rw[hd]at g4
       obtain⟨m',hm',him,hst'⟩:=g1.push hy (opensK_iff.2 (by omega))
       rw[bf,be hm']at hE
       by_cases hc:([]:List Nat).length+1≤4∧bH l loc y.fad=true
       ·obtain⟨c1,c2⟩:=hc
        rw[if_pos ⟨c1,c2⟩]at g4
        rw[c2]at hX
        repeat' ((conv=>whnf);first|refine Or.inl ?_|apply oi|(apply fi<;>intro h)|refine ci hE (ai rfl (ai rfl trivial)) ?_|refine ci hX (ai rfl (ai rfl (ai rfl trivial))) ?_|refine⟨i,y.tr,rfl,ab hy,?_⟩|refine⟨_,rfl,?_⟩|exact rfl)
        all_goals try exact⟨KO⟩
        all_goals try exact KX
        all_goals try(exfalso;(try simp_all[af]);(try omega);done)
        all_goals try(exfalso;simp at h;omega)
        all_goals try exact⟨⟨by simp <;> omega,by simp <;> omega⟩⟩
        all_goals try(exfalso;simp_all;done)
        all_goals
         conv=>whnf
         refine⟨⟨(i+1,m'::([]:List Nat),m'::([]:List Nat)),by dsimp only;omega,by dsimp only;omega,by simp only[List.length_cons]at *;omega,fun h=>by dsimp only at h;omega,fun _=>⟨hst',by simp only[List.length_cons]at *;omega,.inl rfl,g4⟩⟩,?_,KD⟩
         repeat' ((conv=>whnf);first|refine Or.inl ?_|apply oi|(apply fi<;>intro h)|refine⟨_,rfl,?_⟩|exact rfl)
         all_goals try exact⟨KO⟩
         all_goals try exact⟨K2⟩
         all_goals exact⟨by simp[dQ,aa]⟩
       ·rw[if_neg hc]at g4
        subst g4
        cases hkn:bH l loc y.fad with
        | true=>
         rw[hkn]at hX hc
         repeat' ((conv=>whnf);first|refine Or.inl ?_|apply oi|(apply fi<;>intro h)|refine ci hE (ai rfl (ai rfl trivial)) ?_|refine ci hX (ai rfl (ai rfl (ai rfl trivial))) ?_|refine⟨i,y.tr,rfl,ab hy,?_⟩|refine⟨_,rfl,?_⟩|exact rfl)
         all_goals try exact⟨KO⟩
         all_goals try exact KX
         all_goals try(exfalso;(try simp_all[af]);(try omega);done)
         all_goals try exact⟨⟨by simp <;> omega,by simp <;> omega⟩⟩
         all_goals try(exfalso;apply hc;refine⟨?_,rfl⟩;simp at h;omega)
         all_goals try(exfalso;simp_all;done)
        | false=>
         rw[hkn]at hX hc
         repeat' ((conv=>whnf);first|refine Or.inl ?_|apply oi|(apply fi<;>intro h)|refine ci hE (ai rfl (ai rfl trivial)) ?_|refine ci hX (ai rfl (ai rfl (ai rfl trivial))) ?_|refine⟨i,y.tr,rfl,ab hy,?_⟩|refine⟨_,rfl,?_⟩|exact rfl)
         all_goals try exact⟨KO⟩
         all_goals try exact KX
         all_goals try(exfalso;(try simp_all[af]);(try omega);done)
         all_goals try exact⟨⟨by simp <;> omega,by simp <;> omega⟩⟩
         all_goals try(exfalso;simp_all;done)
      ·by_cases h7:y.faa=7
       ·rcases g1.pop hy h7 with⟨_,h'⟩|⟨es',hes,hst'⟩
        ·omega
        have hd:dep y ([]:List Nat).length=es'.length:=by unfold dep;rw[if_neg h35,if_pos h7,hes];simp
        have hl4:es'.length≤4:=by rw[hes]at g2;simp at g2;omega
        rw[hd]at g4
        cases hkn:bH l loc y.fad with
        | true=>
         rw[hkn]at hX g4
         rw[if_pos ⟨hl4,rfl⟩]at g4
         repeat' ((conv=>whnf);first|refine Or.inl ?_|apply oi|(apply fi<;>intro h)|refine ci hE (ai rfl (ai rfl trivial)) ?_|refine ci hX (ai rfl (ai rfl (ai rfl trivial))) ?_|refine⟨i,y.tr,rfl,ab hy,?_⟩|refine⟨_,rfl,?_⟩|exact rfl)
         all_goals try exact⟨KO⟩
         all_goals try exact KX
         all_goals try(exfalso;(try simp_all[af]);(try omega);done)
         all_goals try(exfalso;simp at h;omega)
         all_goals try(exfalso;simp_all;done)
         all_goals
          conv=>whnf
          refine⟨⟨(i+1,[],es'),by dsimp only;omega,by dsimp only;omega,by dsimp only;omega,fun h=>by dsimp only at h;omega,fun _=>⟨hst',hl4,.inr (by dsimp only;rw[hes];rfl),g4⟩⟩,?_,KD⟩
          repeat' ((conv=>whnf);first|refine Or.inl ?_|apply oi|(apply fi<;>intro h)|refine⟨_,rfl,?_⟩|exact rfl)
          all_goals try exact⟨KO⟩
          all_goals try exact⟨K2⟩
        | false=>
         rw[hkn]at hX g4
         rw[if_neg (by simp)]at g4
         subst g4
         repeat' ((conv=>whnf);first|refine Or.inl ?_|apply oi|(apply fi<;>intro h)|refine ci hE (ai rfl (ai rfl trivial)) ?_|refine ci hX (ai rfl (ai rfl (ai rfl trivial))) ?_|refine⟨i,y.tr,rfl,ab hy,?_⟩|refine⟨_,rfl,?_⟩|exact rfl)
         all_goals try exact⟨KO⟩
         all_goals try exact KX
         all_goals try(exfalso;(try simp_all[af]);(try omega);done)
         all_goals try(exfalso;simp_all;done)
       ·have hd:dep y ([]:List Nat).length=([]:List Nat).length:=by unfold dep;rw[if_neg h35,if_neg h7]
        have ho:cp y.faa=false:=by
         cases hh:cp y.faa with
         | false=>rfl
         | true=>rw[opensK_iff]at hh;omega
        have hst':=g1.other hy ho h7
        rw[hd]at g4
        cases hkn:bH l loc y.fad with
        | true=>
         rw[hkn]at hX g4
         rw[if_pos ⟨g2,rfl⟩]at g4
         repeat' ((conv=>whnf);first|refine Or.inl ?_|apply oi|(apply fi<;>intro h)|refine ci hE (ai rfl (ai rfl trivial)) ?_|refine ci hX (ai rfl (ai rfl (ai rfl trivial))) ?_|refine⟨i,y.tr,rfl,ab hy,?_⟩|refine⟨_,rfl,?_⟩|exact rfl)
         all_goals try exact⟨KO⟩
         all_goals try exact KX
         all_goals try(exfalso;(try simp_all[af]);(try omega);done)
         all_goals try(exfalso;simp at h;omega)
         all_goals try(exfalso;simp_all;done)
         all_goals
          conv=>whnf
          refine⟨⟨(i+1,[],[]),by dsimp only;omega,by dsimp only;omega,by dsimp only;omega,fun h=>by dsimp only at h;omega,fun _=>⟨hst',g2,.inl rfl,g4⟩⟩,?_,KD⟩
          repeat' ((conv=>whnf);first|refine Or.inl ?_|apply oi|(apply fi<;>intro h)|refine⟨_,rfl,?_⟩|exact rfl)
          all_goals try exact⟨KO⟩
          all_goals try exact⟨K2⟩
        | false=>
         rw[hkn]at hX g4
         rw[if_neg (by simp)]at g4
         subst g4
         repeat' ((conv=>whnf);first|refine Or.inl ?_|apply oi|(apply fi<;>intro h)|refine ci hE (ai rfl (ai rfl trivial)) ?_|refine ci hX (ai rfl (ai rfl (ai rfl trivial))) ?_|refine⟨i,y.tr,rfl,ab hy,?_⟩|refine⟨_,rfl,?_⟩|exact rfl)
         all_goals try exact⟨KO⟩
         all_goals try exact KX
         all_goals try(exfalso;(try simp_all[af]);(try omega);done)
         all_goals try(exfalso;simp_all;done)
    ·have hie':i=e:=by omega
     obtain⟨z,hz,hz7⟩:=bC he
     rw[←hie',hy]at hz
     injection hz with hz
     subst hz
     rw[xu (by omega)]at g4
     have hkn:bH l loc y.fad=true:=by rw[nN (hok y (List.mem_of_getElem? hy)) hz7];rfl
     rw[hkn]at hX
     repeat' ((conv=>whnf);first|refine Or.inl ?_|apply oi|(apply fi<;>intro h)|refine ci hE (ai rfl (ai rfl trivial)) ?_|refine ci hX (ai rfl (ai rfl (ai rfl trivial))) ?_|refine⟨i,y.tr,rfl,ab hy,?_⟩|refine⟨_,rfl,?_⟩|exact rfl)
     all_goals try exact⟨KO⟩
     all_goals try exact KX
     all_goals try(exfalso;(try simp_all[af]);(try omega);done)
     all_goals try(exfalso;simp at h;omega)
     all_goals try(exfalso;simp_all;done)
     all_goals
      conv=>whnf
      refine⟨⟨(i+1,[],[]),by dsimp only;omega,by dsimp only;omega,by dsimp only;omega,fun _=>g4.symm,fun h=>by dsimp only at h;omega⟩,?_,KD⟩
      repeat' ((conv=>whnf);first|refine Or.inl ?_|apply oi|(apply fi<;>intro h)|refine⟨_,rfl,?_⟩|exact rfl)
      all_goals try exact⟨KO⟩
      all_goals try exact⟨K2⟩
   | cons m r=>
    have hlen3:((m::r).reverse.map dQ).length=r.length+1:=by simp
    have hrl:r.length≤5:=by
     rcases hu with h|h
     ·rw[←h]at g2
      simp only[List.length_cons]at g2
      omega
     ·injection h with h1 h2
      rw[h2]
      omega
    have hw:IntKind.i64.wrap ((((m::r).reverse.map dQ).length:Int) - 1)=(r.length:Int):=by rw[hlen3,IntWalk.i64_in _ (by omega)];omega
    by_cases hm:m < i
    ·have hr:r=es:=by
      rcases hu with h|h
      ·subst h
       have:=g1.top
       omega
      ·injection h
     subst hr
     repeat' ((conv=>whnf);first|refine Or.inl ?_|apply oi|(apply fi<;>intro h)|refine⟨r.length,hw,(by rw[hlen3];omega),?_⟩|refine⟨(dQ m),(jV m r),?_⟩|refine⟨_,rfl,?_⟩|exact rfl)
     all_goals try exact⟨KO⟩
     all_goals try exact KX
     conv=>whnf
     refine⟨⟨r,.inl rfl⟩,?_,by dsimp only;simp⟩
     repeat' ((conv=>whnf);first|refine Or.inl ?_|apply oi|(apply fi<;>intro h)|refine⟨_,rfl,?_⟩|exact rfl)
     all_goals try exact⟨KO⟩
     all_goals try exact⟨K5⟩
    ·have hr:es=m::r:=by
      rcases hu with h|h
      ·exact h.symm
      ·injection h with h1 h2
       omega
     subst hr
     have hbk:=0
     by_cases hlt:i < e
     ·rw[uM hlt hy]at g4
      by_cases h0:y.faa=0
      ·rw[if_pos h0]at g4
       subst g4
       repeat' ((conv=>whnf);first|refine Or.inl ?_|apply oi|(apply fi<;>intro h)|refine⟨r.length,hw,(by rw[hlen3];omega),?_⟩|refine⟨(dQ m),(jV m r),?_⟩|refine ci hE (ai rfl (ai rfl trivial)) ?_|refine ci hX (ai rfl (ai rfl (ai rfl trivial))) ?_|refine⟨i,y.tr,rfl,ab hy,?_⟩|refine⟨_,rfl,?_⟩|exact rfl)
       all_goals try exact⟨KO⟩
       all_goals try exact KX
       all_goals try(exfalso;(try simp_all[af]);(try omega);done)
      ·rw[if_neg h0]at g4
       by_cases h35:y.faa=3∨y.faa=5
       ·have hd:dep y (m::r).length=(m::r).length+1:=by unfold dep;rw[if_pos h35]
        rw[hd]at g4
        obtain⟨m',hm',him,hst'⟩:=g1.push hy (opensK_iff.2 (by omega))
        rw[bf,be hm']at hE
        by_cases hc:(m::r).length+1≤4∧bH l loc y.fad=true
        ·obtain⟨c1,c2⟩:=hc
         rw[if_pos ⟨c1,c2⟩]at g4
         rw[c2]at hX
         repeat' ((conv=>whnf);first|refine Or.inl ?_|apply oi|(apply fi<;>intro h)|refine⟨r.length,hw,(by rw[hlen3];omega),?_⟩|refine⟨(dQ m),(jV m r),?_⟩|refine ci hE (ai rfl (ai rfl trivial)) ?_|refine ci hX (ai rfl (ai rfl (ai rfl trivial))) ?_|refine⟨i,y.tr,rfl,ab hy,?_⟩|refine⟨_,rfl,?_⟩|exact rfl)
         all_goals try exact⟨KO⟩
         all_goals try exact KX
         all_goals try(exfalso;(try simp_all[af]);(try omega);done)
         all_goals try(exfalso;simp at h;omega)
         all_goals try exact⟨⟨by simp <;> omega,by simp <;> omega⟩⟩
         all_goals try(exfalso;simp_all;done)
         all_goals
          conv=>whnf
          refine⟨⟨(i+1,m'::(m::r),m'::(m::r)),by dsimp only;omega,by dsimp only;omega,by simp only[List.length_cons]at *;omega,fun h=>by dsimp only at h;omega,fun _=>⟨hst',by simp only[List.length_cons]at *;omega,.inl rfl,g4⟩⟩,?_,KD⟩
          repeat' ((conv=>whnf);first|refine Or.inl ?_|apply oi|(apply fi<;>intro h)|refine⟨_,rfl,?_⟩|exact rfl)
          all_goals try exact⟨KO⟩
          all_goals try exact⟨K2⟩
          all_goals exact⟨by simp[dQ,aa]⟩
        ·rw[if_neg hc]at g4
         subst g4
         cases hkn:bH l loc y.fad with
         | true=>
          rw[hkn]at hX hc
          repeat' ((conv=>whnf);first|refine Or.inl ?_|apply oi|(apply fi<;>intro h)|refine⟨r.length,hw,(by rw[hlen3];omega),?_⟩|refine⟨(dQ m),(jV m r),?_⟩|refine ci hE (ai rfl (ai rfl trivial)) ?_|refine ci hX (ai rfl (ai rfl (ai rfl trivial))) ?_|refine⟨i,y.tr,rfl,ab hy,?_⟩|refine⟨_,rfl,?_⟩|exact rfl)
          all_goals try exact⟨KO⟩
          all_goals try exact KX
          all_goals try(exfalso;(try simp_all[af]);(try omega);done)
          all_goals try exact⟨⟨by simp <;> omega,by simp <;> omega⟩⟩
          all_goals try(exfalso;apply hc;refine⟨?_,rfl⟩;simp at h;omega)
          all_goals try(exfalso;simp_all;done)
         | false=>
          rw[hkn]at hX hc
          repeat' ((conv=>whnf);first|refine Or.inl ?_|apply oi|(apply fi<;>intro h)|refine⟨r.length,hw,(by rw[hlen3];omega),?_⟩|refine⟨(dQ m),(jV m r),?_⟩|refine ci hE (ai rfl (ai rfl trivial)) ?_|refine ci hX (ai rfl (ai rfl (ai rfl trivial))) ?_|refine⟨i,y.tr,rfl,ab hy,?_⟩|refine⟨_,rfl,?_⟩|exact rfl)
          all_goals try exact⟨KO⟩
          all_goals try exact KX
          all_goals try(exfalso;(try simp_all[af]);(try omega);done)
          all_goals try exact⟨⟨by simp <;> omega,by simp <;> omega⟩⟩
          all_goals try(exfalso;simp_all;done)
       ·by_cases h7:y.faa=7
        ·rcases g1.pop hy h7 with⟨_,h'⟩|⟨es',hes,hst'⟩
         ·omega
         have hd:dep y (m::r).length=es'.length:=by unfold dep;rw[if_neg h35,if_pos h7,hes];simp
         have hl4:es'.length≤4:=by rw[hes]at g2;simp at g2;omega
         rw[hd]at g4
         cases hkn:bH l loc y.fad with
         | true=>
          rw[hkn]at hX g4
          rw[if_pos ⟨hl4,rfl⟩]at g4
          repeat' ((conv=>whnf);first|refine Or.inl ?_|apply oi|(apply fi<;>intro h)|refine⟨r.length,hw,(by rw[hlen3];omega),?_⟩|refine⟨(dQ m),(jV m r),?_⟩|refine ci hE (ai rfl (ai rfl trivial)) ?_|refine ci hX (ai rfl (ai rfl (ai rfl trivial))) ?_|refine⟨i,y.tr,rfl,ab hy,?_⟩|refine⟨_,rfl,?_⟩|exact rfl)
          all_goals try exact⟨KO⟩
          all_goals try exact KX
          all_goals try(exfalso;(try simp_all[af]);(try omega);done)
          all_goals try(exfalso;simp at h;omega)
          all_goals try(exfalso;simp_all;done)
          all_goals
           conv=>whnf
           refine⟨⟨(i+1,(m::r),es'),by dsimp only;omega,by dsimp only;omega,by dsimp only;omega,fun h=>by dsimp only at h;omega,fun _=>⟨hst',hl4,.inr (by dsimp only;rw[hes];rfl),g4⟩⟩,?_,KD⟩
           repeat' ((conv=>whnf);first|refine Or.inl ?_|apply oi|(apply fi<;>intro h)|refine⟨_,rfl,?_⟩|exact rfl)
           all_goals try exact⟨KO⟩
           all_goals try exact⟨K2⟩
         | false=>
          rw[hkn]at hX g4
          rw[if_neg (by simp)]at g4
          subst g4
          repeat' ((conv=>whnf);first|refine Or.inl ?_|apply oi|(apply fi<;>intro h)|refine⟨r.length,hw,(by rw[hlen3];omega),?_⟩|refine⟨(dQ m),(jV m r),?_⟩|refine ci hE (ai rfl (ai rfl trivial)) ?_|refine ci hX (ai rfl (ai rfl (ai rfl trivial))) ?_|refine⟨i,y.tr,rfl,ab hy,?_⟩|refine⟨_,rfl,?_⟩|exact rfl)
          all_goals try exact⟨KO⟩
          all_goals try exact KX
          all_goals try(exfalso;(try simp_all[af]);(try omega);done)
          all_goals try(exfalso;simp_all;done)
        ·have hd:dep y (m::r).length=(m::r).length:=by unfold dep;rw[if_neg h35,if_neg h7]
         have ho:cp y.faa=false:=by
          cases hh:cp y.faa with
          | false=>rfl
          | true=>rw[opensK_iff]at hh;omega
         have hst':=g1.other hy ho h7
         rw[hd]at g4
         cases hkn:bH l loc y.fad with
         | true=>
          rw[hkn]at hX g4
          rw[if_pos ⟨g2,rfl⟩]at g4
          repeat' ((conv=>whnf);first|refine Or.inl ?_|apply oi|(apply fi<;>intro h)|refine⟨r.length,hw,(by rw[hlen3];omega),?_⟩|refine⟨(dQ m),(jV m r),?_⟩|refine ci hE (ai rfl (ai rfl trivial)) ?_|refine ci hX (ai rfl (ai rfl (ai rfl trivial))) ?_|refine⟨i,y.tr,rfl,ab hy,?_⟩|refine⟨_,rfl,?_⟩|exact rfl)
          all_goals try exact⟨KO⟩
          all_goals try exact KX
          all_goals try(exfalso;(try simp_all[af]);(try omega);done)
          all_goals try(exfalso;simp at h;omega)
          all_goals try(exfalso;simp_all;done)
          all_goals
           conv=>whnf
           refine⟨⟨(i+1,(m::r),(m::r)),by dsimp only;omega,by dsimp only;omega,by dsimp only;omega,fun h=>by dsimp only at h;omega,fun _=>⟨hst',g2,.inl rfl,g4⟩⟩,?_,KD⟩
           repeat' ((conv=>whnf);first|refine Or.inl ?_|apply oi|(apply fi<;>intro h)|refine⟨_,rfl,?_⟩|exact rfl)
           all_goals try exact⟨KO⟩
           all_goals try exact⟨K2⟩
         | false=>
          rw[hkn]at hX g4
          rw[if_neg (by simp)]at g4
          subst g4
          repeat' ((conv=>whnf);first|refine Or.inl ?_|apply oi|(apply fi<;>intro h)|refine⟨r.length,hw,(by rw[hlen3];omega),?_⟩|refine⟨(dQ m),(jV m r),?_⟩|refine ci hE (ai rfl (ai rfl trivial)) ?_|refine ci hX (ai rfl (ai rfl (ai rfl trivial))) ?_|refine⟨i,y.tr,rfl,ab hy,?_⟩|refine⟨_,rfl,?_⟩|exact rfl)
          all_goals try exact⟨KO⟩
          all_goals try exact KX
          all_goals try(exfalso;(try simp_all[af]);(try omega);done)
          all_goals try(exfalso;simp_all;done)
     ·have hie':i=e:=by omega
      obtain⟨z,hz,hz7⟩:=bC he
      rw[←hie',hy]at hz
      injection hz with hz
      subst hz
      rw[xu (by omega)]at g4
      have hkn:bH l loc y.fad=true:=by rw[nN (hok y (List.mem_of_getElem? hy)) hz7];rfl
      rw[hkn]at hX
      repeat' ((conv=>whnf);first|refine Or.inl ?_|apply oi|(apply fi<;>intro h)|refine⟨r.length,hw,(by rw[hlen3];omega),?_⟩|refine⟨(dQ m),(jV m r),?_⟩|refine ci hE (ai rfl (ai rfl trivial)) ?_|refine ci hX (ai rfl (ai rfl (ai rfl trivial))) ?_|refine⟨i,y.tr,rfl,ab hy,?_⟩|refine⟨_,rfl,?_⟩|exact rfl)
      all_goals try exact⟨KO⟩
      all_goals try exact KX
      all_goals try(exfalso;(try simp_all[af]);(try omega);done)
      all_goals try(exfalso;simp at h;omega)
      all_goals try(exfalso;simp_all;done)
      all_goals
       conv=>whnf
       refine⟨⟨(i+1,(m::r),(m::r)),by dsimp only;omega,by dsimp only;omega,by dsimp only;omega,fun _=>g4.symm,fun h=>by dsimp only at h;omega⟩,?_,KD⟩
       repeat' ((conv=>whnf);first|refine Or.inl ?_|apply oi|(apply fi<;>intro h)|refine⟨_,rfl,?_⟩|exact rfl)
       all_goals try exact⟨KO⟩
       all_goals try exact⟨K2⟩
  ·rw[q4 (by omega)]
   repeat' ((conv=>whnf);first|refine Or.inl ?_|apply oi|(apply fi<;>intro h)|refine⟨_,rfl,?_⟩|exact rfl)
   all_goals try exact⟨KO⟩
   all_goals try exact KX
 ·rw[decide_eq_false h8,Bool.false_and]
  repeat' ((conv=>whnf);first|refine Or.inl ?_|apply oi|(apply fi<;>intro h)|refine ci hL (ai rfl (ai rfl trivial)) ?_|refine⟨_,rfl,?_⟩|exact rfl)
  all_goals try exact⟨KO⟩
  all_goals try exact KX
abbrev nR (n:Nat):List Tr:=aa n
theorem zJ {l:List HH}{k:Nat}{fs:List Nat}{next:Nat}:gA l (k::fs) next=match endAt l k with|some e=>if k=next∧bo l k=true∧jA l k e=true then gA l fs (e+1)else false|none=>false:=by rw[gA] <;> (cases endAt l k <;> rfl)
theorem qu {l:List HH}{x:HH}(hx:l[0]?=some x):md l=(x.faa==0 && (x.fac==gV && x.fag.length==0)):=by
 cases l with
 | nil=>cases hx
 | cons y r=>rw[List.getElem?_cons_zero]at hx;injection hx with hx;subst hx;rfl
theorem xY {l:List HH}{k e i:Nat}{x:HH}(hi:i < e)(hx:l[i]?=some x):dA l k e (e - i) i=((if x.faa=4 then nB l i (i - k) k else true) && dA l k e (e - (i+1)) (i+1)):=by
 rw[show e - i=(e - (i+1))+1 by omega,dA,if_pos hi,hx]
theorem CE {l:List HH}{i:Nat}(hi:i < l.length):((List.range l.length).map fun j:Nat=>bg l (j:Int)).contains (i:Int)=nB l i i 0:=by
 rw[Bool.eq_iff_iff,mu,List.contains_iff_mem,List.mem_map]
 constructor
 ·rintro⟨j,hj,he⟩
  rw[bg,if_pos (by omega),Int.toNat_natCast]at he
  cases hx:elseAt l j with
  | none=>rw[hx]at he;simp only[cu]at he;omega
  | some m=>
   rw[hx]at he
   simp only[cu]at he
   have:m=i:=by omega
   subst this
   obtain⟨_,_,_,_,_,h1,_⟩:=aY hx
   exact⟨j,by omega,by omega,hx⟩
 ·rintro⟨j,_,hj,he⟩
  refine⟨j,by rw[List.mem_range];omega,?_⟩
  rw[bg,if_pos (by omega),Int.toNat_natCast,he]
  rfl
theorem eJ (l:List HH)(hsm:aB 1048576 (.lst 4 (l.map HH.tr))):Sim.Spec Tryz.prog 78 [tvP l] (rB (aw l)):=by
 refine aq hΓ ay Tryz.func78 rfl (by decide) rfl ?_
 have hl:=cv hsm
 have hs:∀x∈l,aK 1048576 x.tr:=fun x hx=>aT hsm hx
 have hlen:(l.map HH.tr).length=l.length:=by simp
 have hF:=bE l hl
 have hfl:((ak l).map fun n:Nat=>aa n).length=(ak l).length:=by simp
 have hfle:(ak l).length≤l.length:=nl l 0
 have hB:=aD (((ak l).map fun n:Nat=>aa n).length:Int) 1 6
 by_cases c1:l.length≤60∧(1≤(ak l).length∧(ak l).length≤6)
 ·obtain⟨c1,c2,c3⟩:=c1
  rw[within_iff.2 ⟨by rw[hfl];omega,by rw[hfl];omega⟩]at hB
  unfold aw
  rw[decide_eq_true c1,decide_eq_true (show 1≤(ak l).length∧(ak l).length≤6 from⟨c2,c3⟩),Bool.true_and,Bool.true_and]
  cases hall:l.all cy with
  | false=>
   rw[Bool.false_and]
   repeat' ((conv=>whnf);first|refine Or.inl ?_|apply oi|(apply fi<;>intro h)|refine ci hF (ai rfl trivial) ?_|refine ci hB (ai rfl (ai rfl (ai rfl trivial))) ?_|refine⟨_,rfl,?_⟩|exact rfl)
   all_goals try exact⟨KO⟩
   all_goals try exact KX
   all_goals try(exfalso;(try simp_all[af]);(try omega);done)
   conv=>whnf
   refine⟨{k:Nat // k≤l.length∧(l.drop k).all cy=false},fun q=>⟨[(0,vP l),(3,.r (.c (.own (3,0,0)))),(25,vP l),(26,tI .i64 ((l.map HH.tr).length:Int)),(27,tI .i64 (q.1:Int))],[((3,0,0),some (.arr true 1 ((ak l).map fun n:Nat=>aa n)))],[3]⟩,fun q=>l.length - q.1,⟨0,by omega,hall⟩,?_,?_⟩
   ·skip
    repeat' ((conv=>whnf);first|refine Or.inl ?_|apply oi|(apply fi<;>intro h)|refine⟨_,rfl,?_⟩|exact rfl)
    all_goals try exact⟨KO⟩
   intro⟨k,hk,hr⟩
   dsimp only at hk hr ⊢
   by_cases hlt:k < l.length
   ·obtain⟨x,hx⟩:=ae hlt
    rw[Bq hx]at hr
    have hL:=nT x (hs x (List.mem_of_getElem? hx))
    cases ho:cy x with
    | false=>
     rw[ho]at hL
     repeat' ((conv=>whnf);first|refine Or.inl ?_|apply oi|(apply fi<;>intro h)|refine⟨k,x.tr,rfl,ab hx,?_⟩|refine ci hL (ai (ai rfl (ai rfl (ai rfl (ai rfl trivial)))) trivial) ?_|refine⟨_,rfl,?_⟩|exact rfl)
     all_goals try exact⟨KO⟩
     all_goals try exact KX
     all_goals try(exfalso;(try simp_all[af]);(try omega);done)
    | true=>
     rw[ho]at hL hr
     rw[Bool.true_and]at hr
     repeat' ((conv=>whnf);first|refine Or.inl ?_|apply oi|(apply fi<;>intro h)|refine⟨k,x.tr,rfl,ab hx,?_⟩|refine ci hL (ai (ai rfl (ai rfl (ai rfl (ai rfl trivial)))) trivial) ?_|refine⟨_,rfl,?_⟩|exact rfl)
     all_goals try exact⟨KO⟩
     all_goals try exact KX
     all_goals try(exfalso;(try simp_all[af]);(try omega);done)
     conv=>whnf
     refine⟨⟨k+1,by omega,hr⟩,?_,KD⟩
     repeat' ((conv=>whnf);first|refine Or.inl ?_|apply oi|(apply fi<;>intro h)|refine⟨_,rfl,?_⟩|exact rfl)
     all_goals try exact⟨KO⟩
     all_goals try exact⟨K2⟩
   ·rw[List.drop_eq_nil_of_le (by omega)]at hr
    cases hr
  | true=>
   have hok:∀x∈l,cy x=true:=List.all_eq_true.1 hall
   rw[Bool.true_and]
   repeat' ((conv=>whnf);first|refine Or.inl ?_|apply oi|(apply fi<;>intro h)|refine ci hF (ai rfl trivial) ?_|refine ci hB (ai rfl (ai rfl (ai rfl trivial))) ?_|refine⟨_,rfl,?_⟩|exact rfl)
   all_goals try exact⟨KO⟩
   all_goals try exact KX
   all_goals try(exfalso;(try simp_all[af]);(try omega);done)
   conv=>whnf
   refine⟨{k:Nat // k≤l.length},fun q=>⟨[(0,vP l),(3,.r (.c (.own (3,0,0)))),(25,vP l),(26,tI .i64 ((l.map HH.tr).length:Int)),(27,tI .i64 (q.1:Int))],[((3,0,0),some (.arr true 1 ((ak l).map fun n:Nat=>aa n)))],[3]⟩,fun q=>l.length - q.1,⟨0,by omega⟩,?_,?_⟩
   ·skip
    repeat' ((conv=>whnf);first|refine Or.inl ?_|apply oi|(apply fi<;>intro h)|refine⟨_,rfl,?_⟩|exact rfl)
    all_goals try exact⟨KO⟩
   intro⟨k,hk⟩
   dsimp only at hk ⊢
   by_cases hlt:k < l.length
   ·obtain⟨x,hx⟩:=ae hlt
    have hL:=nT x (hs x (List.mem_of_getElem? hx))
    rw[hok x (List.mem_of_getElem? hx)]at hL
    repeat' ((conv=>whnf);first|refine Or.inl ?_|apply oi|(apply fi<;>intro h)|refine⟨k,x.tr,rfl,ab hx,?_⟩|refine ci hL (ai (ai rfl (ai rfl (ai rfl (ai rfl trivial)))) trivial) ?_|refine⟨_,rfl,?_⟩|exact rfl)
    all_goals try exact⟨KO⟩
    all_goals try exact KX
    all_goals try(exfalso;(try simp_all[af]);(try omega);done)
    conv=>whnf
    refine⟨⟨k+1,by omega⟩,?_,KD⟩
    repeat' ((conv=>whnf);first|refine Or.inl ?_|apply oi|(apply fi<;>intro h)|refine⟨_,rfl,?_⟩|exact rfl)
    all_goals try exact⟨KO⟩
    all_goals try exact⟨K2⟩
   ·clear hB hF
    have hpos:0 < l.length:=by omega
    obtain⟨x0,hx0⟩:=ae hpos
    have hal:(x0.fag.map ah).length=x0.fag.length:=by simp
    cases hho:md l with
    | false=>
     rw[Bool.false_and]
     rw[qu hx0]at hho
     repeat' ((conv=>whnf);first|refine Or.inl ?_|apply oi|(apply fi<;>intro h)|refine⟨0,x0.tr,rfl,ab hx0,?_⟩|refine⟨_,rfl,?_⟩|exact rfl)
     all_goals try exact⟨KO⟩
     all_goals try exact KX
     all_goals try(exfalso;(try simp_all[af]);(try omega);done)
     all_goals try(exfalso;simp_all[gV];done)
    | true=>
     rw[Bool.true_and]
     obtain⟨R,hR⟩:∃R,gA l (ak l) 0=R:=⟨_,rfl⟩
     rw[←AK,hR]
     rw[qu hx0]at hho
     repeat' ((conv=>whnf);first|refine Or.inl ?_|apply oi|(apply fi<;>intro h)|refine⟨0,x0.tr,rfl,ab hx0,?_⟩|refine⟨_,rfl,?_⟩|exact rfl)
     all_goals try exact⟨KO⟩
     all_goals try exact KX
     all_goals try(exfalso;(try simp_all[af]);(try omega);done)
     all_goals try(exfalso;simp_all[gV];done)
     conv=>whnf
     refine⟨{q:Nat×Nat // q.1≤(ak l).length∧q.2≤l.length∧gA l ((ak l).drop q.1) q.2=R},fun q=>⟨[(0,vP l),(6,tI .i64 (q.1.2:Int)),(55,.r (.c (.own (3,0,0)))),(56,tI .i64 (((ak l).map fun n:Nat=>aa n).length:Int)),(57,tI .i64 (q.1.1:Int))],[((3,0,0),some (.arr true 1 ((ak l).map fun n:Nat=>aa n)))],[3]⟩,fun q=>(ak l).length - q.1.1,⟨(0,0),by dsimp only;omega,by dsimp only;omega,hR⟩,?_,?_⟩
     ·skip
      repeat' ((conv=>whnf);first|refine Or.inl ?_|apply oi|(apply fi<;>intro h)|refine⟨_,rfl,?_⟩|exact rfl)
      all_goals try exact⟨KO⟩
     intro⟨⟨j,next⟩,hj,hnx,hr⟩
     dsimp only at hj hnx hr ⊢
     by_cases hjl:j < (ak l).length
     ·obtain⟨f,hf⟩:=ae hjl
      obtain⟨hfl2,x,hx,hx0'⟩:=iC (List.mem_of_getElem? hf)
      rw[dq hf,zJ]at hr
      have hE:=cM l (f:Int) hl
      have hN:=eT l x.fac hl
      have hjm:j < ((ak l).map fun n:Nat=>aa n).length:=by rw[hfl];exact hjl
      cases he:endAt l f with
      | none=>
       rw[bf,iM he]at hE
       rw[he]at hr
       subst hr
       generalize eW l x.fac=ff at *
       repeat' ((conv=>whnf);first|refine kT ?_|apply bh|apply oi|(apply fi<;>intro h)|refine⟨j,rfl,hjm,?_⟩|refine⟨(nR f),(ab hf),?_⟩|refine⟨f,x.tr,rfl,ab hx,?_⟩|refine cl hE ?_|refine cl hN ?_|refine⟨_,rfl,?_⟩|exact rfl)
       all_goals try exact⟨KO⟩
       all_goals try exact KX
       all_goals try(exfalso;(try simp_all[af]);(try omega);done)
      | some e=>
       obtain⟨_,_,_,_,hke,hel⟩:=aF he
       rw[bf,be he]at hE
       rw[he]at hr
       dsimp only at hr
       have hK:=qm l f e c1 hs hok he
       have hnf:bo l f=(findN l 0 x.fac==some f):=by unfold bo;rw[hx]
       have hnf2:(eW l x.fac==(f:Int))=bo l f:=by
        rw[hnf,eW]
        cases findN l 0 x.fac with
        | none=>simp[cu]
        | some m=>rw[Bool.eq_iff_iff];simp[cu];omega
       generalize eW l x.fac=ff at *
       by_cases hc:f=next∧bo l f=true∧jA l f e=true
       ·rw[if_pos hc]at hr
        obtain⟨d1,d2,d3⟩:=hc
        rw[d2]at hnf2
        have hff:=eq_of_beq hnf2
        subst hff
        rw[d3]at hK
        repeat' ((conv=>whnf);first|refine kT ?_|apply bh|apply oi|(apply fi<;>intro h)|refine⟨j,rfl,hjm,?_⟩|refine⟨(nR f),(ab hf),?_⟩|refine⟨f,x.tr,rfl,ab hx,?_⟩|refine cl hE ?_|refine cl hN ?_|refine cl hK ?_|refine⟨_,rfl,?_⟩|exact rfl)
        all_goals try exact⟨KO⟩
        all_goals try exact KX
        all_goals try(exfalso;(try simp_all[af]);(try omega);done)
        all_goals try(exfalso;simp_all;done)
        conv=>whnf
        refine⟨⟨(j+1,e+1),by dsimp only;omega,by dsimp only;omega,hr⟩,?_,KD⟩
        repeat' ((conv=>whnf);first|refine kT ?_|apply bh|apply oi|(apply fi<;>intro h)|refine⟨_,rfl,?_⟩|exact rfl)
        all_goals try exact⟨KO⟩
        all_goals try exact⟨K2⟩
       ·rw[if_neg hc]at hr
        subst hr
        have hbad:∀b1 b2:Bool,jA l f e=b2→(ff==(f:Int))=b1→f=next→b1=true→b2=true→False:=by
         intro b1 b2 h1 h2 h3 h4 h5
         subst h4;subst h5
         exact hc ⟨h3,by rw[←hnf2];exact h2,h1⟩
        cases hfk:jA l f e with
        | true=>
         rw[hfk]at hK
         repeat' ((conv=>whnf);first|refine kT ?_|apply bh|apply oi|(apply fi<;>intro h)|refine⟨j,rfl,hjm,?_⟩|refine⟨(nR f),(ab hf),?_⟩|refine⟨f,x.tr,rfl,ab hx,?_⟩|refine cl hE ?_|refine cl hN ?_|refine cl hK ?_|refine⟨_,rfl,?_⟩|exact rfl)
         all_goals try exact⟨KO⟩
         all_goals try exact KX
         all_goals try(exfalso;(try simp_all[af]);(try omega);done)
         all_goals(exfalso;refine hbad true true hfk ?_ ?_ rfl rfl <;> simp_all <;> omega)
        | false=>
         rw[hfk]at hK
         repeat' ((conv=>whnf);first|refine kT ?_|apply bh|apply oi|(apply fi<;>intro h)|refine⟨j,rfl,hjm,?_⟩|refine⟨(nR f),(ab hf),?_⟩|refine⟨f,x.tr,rfl,ab hx,?_⟩|refine cl hE ?_|refine cl hN ?_|refine cl hK ?_|refine⟨_,rfl,?_⟩|exact rfl)
         all_goals try exact⟨KO⟩
         all_goals try exact KX
         all_goals try(exfalso;(try simp_all[af]);(try omega);done)
     ·rw[List.drop_eq_nil_of_le (by omega),gA]at hr
      repeat' ((conv=>whnf);first|refine Or.inl ?_|apply oi|(apply fi<;>intro h)|refine⟨_,rfl,?_⟩|exact rfl)
      all_goals try exact⟨KO⟩
      all_goals try exact KX
      conv=>whnf
      refine⟨{k:Nat // k≤l.length},fun q=>⟨[(0,vP l),(6,tI .i64 (next:Int)),(10,.r (.c (.own (10,0,0)))),(94,tI .i64 ((l.map HH.tr).length:Int)),(95,tI .i64 (q.1:Int))],[((10,0,0),some (.arr true 1 (((List.range q.1).map fun j:Nat=>bg l (j:Int)).map aa)))],[10]⟩,fun q=>l.length - q.1,⟨0,by omega⟩,?_,?_⟩
      ·skip
       repeat' ((conv=>whnf);first|refine Or.inl ?_|apply oi|(apply fi<;>intro h)|refine⟨_,rfl,?_⟩|exact rfl)
       all_goals try exact⟨KO⟩
      intro⟨k,hk⟩
      dsimp only at hk ⊢
      have hral:(((List.range k).map fun j:Nat=>bg l (j:Int)).map aa).length=k:=by simp
      by_cases hlt:k < l.length
      ·have hS:=nC l (k:Int) hl
       repeat' ((conv=>whnf);first|refine kT ?_|apply bh|apply oi|(apply fi<;>intro h)|refine cl hS ?_|refine⟨_,rfl,?_⟩|exact rfl)
       all_goals try exact⟨KO⟩
       all_goals try exact KX
       all_goals try exact⟨⟨by simp <;> omega,by simp <;> omega⟩⟩
       conv=>whnf
       refine⟨⟨k+1,by omega⟩,?_,KD⟩
       repeat' ((conv=>whnf);first|refine kT ?_|apply bh|apply oi|(apply fi<;>intro h)|refine⟨_,rfl,?_⟩|exact rfl)
       all_goals try exact⟨KO⟩
       all_goals try exact⟨K2⟩
       all_goals exact⟨by simp[List.range_succ,aa]⟩
      ·have hkl:k=l.length:=by omega
       subst hkl
       obtain⟨Q,hQ⟩:∃Q,jH l=Q:=⟨_,rfl⟩
       rw[hQ]at hr
       rw[jH]at hQ
       repeat' ((conv=>whnf);first|refine Or.inl ?_|apply oi|(apply fi<;>intro h)|refine⟨_,rfl,?_⟩|exact rfl)
       all_goals try exact⟨KO⟩
       all_goals try exact KX
       conv=>whnf
       refine⟨{k:Nat // k≤l.length∧dA l 0 l.length (l.length - k) k=Q},fun q=>⟨[(0,vP l),(6,tI .i64 (next:Int)),(10,.r (.c (.own (10,0,0)))),(105,vP l),(106,tI .i64 ((l.map HH.tr).length:Int)),(107,tI .i64 (q.1:Int))],[((10,0,0),some (.arr true 1 (((List.range l.length).map fun j:Nat=>bg l (j:Int)).map aa)))],[10]⟩,fun q=>l.length - q.1,⟨0,by omega,by rw[Nat.sub_zero];exact hQ⟩,?_,?_⟩
       ·skip
        repeat' ((conv=>whnf);first|refine Or.inl ?_|apply oi|(apply fi<;>intro h)|refine⟨_,rfl,?_⟩|exact rfl)
        all_goals try exact⟨KO⟩
       intro⟨k,hk,hq⟩
       dsimp only at hk hq ⊢
       by_cases hlt:k < l.length
       ·obtain⟨x,hx⟩:=ae hlt
        rw[xY hlt hx]at hq
        have hC:=iQ ((List.range l.length).map fun j:Nat=>bg l (j:Int)) (k:Int) (by simp;omega)
        rw[CE hlt]at hC
        by_cases h4:x.faa=4
        ·rw[if_pos h4,Nat.sub_zero]at hq
         cases ha:nB l k k 0 with
         | false=>
          rw[ha]at hC hq
          rw[Bool.false_and]at hq
          subst hq
          rw[Bool.false_and]at hr
          subst hr
          repeat' ((conv=>whnf);first|refine Or.inl ?_|apply oi|(apply fi<;>intro h)|refine⟨k,x.tr,rfl,ab hx,?_⟩|refine ci hC (ai rfl (ai rfl trivial)) ?_|refine⟨_,rfl,?_⟩|exact rfl)
          all_goals try exact⟨KO⟩
          all_goals try exact KX
          all_goals try(exfalso;(try simp_all[af]);(try omega);done)
         | true=>
          rw[ha]at hC hq
          rw[Bool.true_and]at hq
          repeat' ((conv=>whnf);first|refine Or.inl ?_|apply oi|(apply fi<;>intro h)|refine⟨k,x.tr,rfl,ab hx,?_⟩|refine ci hC (ai rfl (ai rfl trivial)) ?_|refine⟨_,rfl,?_⟩|exact rfl)
          all_goals try exact⟨KO⟩
          all_goals try exact KX
          all_goals try(exfalso;(try simp_all[af]);(try omega);done)
          conv=>whnf
          refine⟨⟨k+1,by omega,hq⟩,?_,KD⟩
          repeat' ((conv=>whnf);first|refine Or.inl ?_|apply oi|(apply fi<;>intro h)|refine⟨_,rfl,?_⟩|exact rfl)
          all_goals try exact⟨KO⟩
          all_goals try exact⟨K2⟩
        ·rw[if_neg h4,Bool.true_and]at hq
         repeat' ((conv=>whnf);first|refine Or.inl ?_|apply oi|(apply fi<;>intro h)|refine⟨k,x.tr,rfl,ab hx,?_⟩|refine ci hC (ai rfl (ai rfl trivial)) ?_|refine⟨_,rfl,?_⟩|exact rfl)
         all_goals try exact⟨KO⟩
         all_goals try exact KX
         all_goals try(exfalso;(try simp_all[af]);(try omega);done)
         conv=>whnf
         refine⟨⟨k+1,by omega,hq⟩,?_,KD⟩
         repeat' ((conv=>whnf);first|refine Or.inl ?_|apply oi|(apply fi<;>intro h)|refine⟨_,rfl,?_⟩|exact rfl)
         all_goals try exact⟨KO⟩
         all_goals try exact⟨K2⟩
       ·rw[show l.length - k=0 by omega]at hq
        have hq:true=Q:=hq
        subst hq
        rw[Bool.true_and]at hr
        subst hr
        repeat' ((conv=>whnf);first|refine Or.inl ?_|apply oi|(apply fi<;>intro h)|refine⟨_,rfl,?_⟩|exact rfl)
        all_goals try exact⟨KO⟩
        all_goals try exact KX
        all_goals(refine⟨congrArg Tr.bool ?_⟩;rw[hlen,Bool.eq_iff_iff];simp;omega)
 ·have:aw l=false:=by
   unfold aw
   by_cases h60:l.length≤60
   ·rw[decide_eq_false (show ¬(1≤(ak l).length∧(ak l).length≤6) from fun h=>c1 ⟨h60,h⟩)];simp
   ·rw[decide_eq_false h60,Bool.false_and]
  rw[this]
  by_cases h60:l.length≤60
  ·have hw:af (((ak l).map fun n:Nat=>aa n).length:Int) 1 6=false:=by
    cases hx:af (((ak l).map fun n:Nat=>aa n).length:Int) 1 6 with
    | false=>rfl
    | true=>have:=within_iff.1 hx;rw[hfl]at this;exact absurd ⟨h60,by omega,by omega⟩ c1
   rw[hw]at hB
   repeat' ((conv=>whnf);first|refine Or.inl ?_|apply oi|(apply fi<;>intro h)|refine ci hF (ai rfl trivial) ?_|refine ci hB (ai rfl (ai rfl (ai rfl trivial))) ?_|refine⟨_,rfl,?_⟩|exact rfl)
   all_goals try exact⟨KO⟩
   all_goals try exact KX
   all_goals try(exfalso;(try simp_all[af]);(try omega);done)
  ·skip
   repeat' ((conv=>whnf);first|refine Or.inl ?_|apply oi|(apply fi<;>intro h)|refine ci hF (ai rfl trivial) ?_|refine ci hB (ai rfl (ai rfl (ai rfl trivial))) ?_|refine⟨_,rfl,?_⟩|exact rfl)
   all_goals try exact⟨KO⟩
   all_goals try exact KX
   all_goals try(exfalso;(try simp_all[af]);(try omega);done)
theorem Aw {p q:Prop}[Decidable p][Decidable q]{α:Type}{a b:α}{r:α}(hp:p):((if p∧q then a else b)=r)=((if q then a else b)=r):=by
 by_cases hq:q
 ·rw[if_pos ⟨hp,hq⟩,if_pos hq]
 ·rw[if_neg (fun h=>hq h.2),if_neg hq]
theorem FX {l:List HH}{j i:Nat}:(bg l (j:Int)==(i:Int))=(elseAt l j==some i):=by
 rw[bg,if_pos (by omega),Int.toNat_natCast]
 cases elseAt l j with
 | none=>simp[cu]
 | some m=>rw[Bool.eq_iff_iff];simp[cu];omega
theorem vM (l:List HH)(k e:Nat)(hl:l.length≤60)(hs:∀x∈l,aK 1048576 x.tr)(he:endAt l k=some e):Sim.Spec Tryz.prog 121 [tvP l,tvI k,tvI e] (rB (mE l k e)):=by
 refine aE hΓ ay Tryz.func121 rfl (by decide) rfl ?_
 have hlen:(l.map HH.tr).length=l.length:=by simp
 have hL:=ir l k (by omega) hs
 obtain⟨hloc1,hloc2⟩:=wn (l:=l) (k:=(k:Int)) (by omega) hs
 have hst0:=(aF he)
 obtain⟨x0,hx0,ho0,he0,hke,hel⟩:=hst0
 unfold mE
 generalize localsOf l (k:Int)=loc at *
 have hll:(loc.map ah).length=loc.length:=by simp
 by_cases h8:loc.length≤8
 ·rw[decide_eq_true h8,Bool.true_and]
  obtain⟨R,hR⟩:∃R,lE l loc k e (e - (k+1)) (k+1) 0=R:=⟨_,rfl⟩
  rw[hR]
  repeat' ((conv=>whnf);first|apply Wx|apply W6|apply oi|(apply fi<;>intro h)|refine cl hL ?_|refine⟨_,rfl,?_⟩|exact rfl)
  all_goals try exact⟨KP⟩
  all_goals try exact KX
  conv=>whnf
  refine⟨{q:Nat×List Nat // k < q.1∧q.1≤e∧StkOk l e q.1 q.2∧q.2.length≤4∧lE l loc k e (e - q.1) q.1 q.2.length=R},fun q=>⟨[(0,vP l),(1,tI .i64 (k:Int)),(2,tI .i64 (e:Int)),(7,.r (.c (.own (7,0,0)))),(8,tI .i64 ((q.1.2.length:Nat):Int)),(9,tI .i64 (q.1.1:Int))],[((7,0,0),some (.arr true 1 (loc.map ah)))],[7]⟩,fun q=>e - q.1.1,⟨(k+1,[]),by dsimp only;omega,by dsimp only;omega,he0,by simp,hR⟩,?_,?_⟩
  ·skip
   repeat' ((conv=>whnf);first|apply Wx|apply W6|apply oi|(apply fi<;>intro h)|refine⟨_,rfl,?_⟩|exact rfl)
   all_goals try exact⟨KP⟩
   all_goals try exact⟨K2⟩
  intro⟨⟨i,es⟩,q1,q2,g1,g2,g4⟩
  dsimp only at q1 q2 g1 g2 g4 ⊢
  by_cases hlt:i < e
  ·obtain⟨y,hy⟩:=ae (l:=l) (k:=i) (by omega)
   have hel3:(y.fad.map HP.tr).length=y.fad.length:=by simp
   have hysm:=(cG (hs y (List.mem_of_getElem? hy))).2.2.2.1
   obtain⟨K,hK⟩:∃K,bH l loc y.fad=K:=⟨_,rfl⟩
   rw[BE hlt hy,hK]at g4
   by_cases h0:y.faa=0
   ·rw[if_pos h0]at g4
    subst g4
    repeat' ((conv=>whnf);first|apply Wx|apply W6|apply oi|(apply fi<;>intro h)|refine⟨i,y.tr,rfl,ab hy,?_⟩|refine⟨_,rfl,?_⟩|exact rfl)
    all_goals try exact⟨KP⟩
    all_goals try exact KX
    all_goals try(exfalso;simp_all;done)
   ·rw[if_neg h0]at g4
    repeat' ((conv=>whnf);first|(with_reducible apply W1;fail_if_success (with_reducible show Wo _ _ _ _ (Code.seq (Code.region 8 _ _) _) _ _))|(with_reducible first|apply W2|apply W3|apply W4|apply W5|apply W6|apply W7|apply W8|apply W9)|apply bh|apply oi|(apply fi<;>intro h)|refine⟨i,y.tr,rfl,ab hy,?_⟩|refine⟨_,rfl,?_⟩|exact rfl)
    all_goals try exact⟨KP⟩
    all_goals try exact KX
    refine iN {q:Nat×List Nat // StkOk l e (i+1) q.2∧q.1=q.2.length∧q.1≤60∧(if q.1≤4∧K=true then lE l loc k e (e - (i+1)) (i+1) q.1 else false)=R} (fun q=>⟨[(0,vP l),(1,tI .i64 (k:Int)),(2,tI .i64 (e:Int)),(7,.r (.c (.own (7,0,0)))),(8,tI .i64 ((q.1.1:Nat):Int)),(9,tI .i64 (i:Int))],[((7,0,0),some (.arr true 1 (loc.map ah)))],[7]⟩) ?_ ?_
    ·by_cases h35:y.faa=3∨y.faa=5
     ·rw[if_neg (fun h=>by omega)]at g4
      have hd:dep y es.length=es.length+1:=by unfold dep;rw[if_pos h35]
      rw[hd]at g4
      obtain⟨m',hm',him,hst'⟩:=g1.push hy (opensK_iff.2 (by omega))
      have hwd:IntKind.i64.wrap ((es.length:Int)+1)=((es.length+1:Nat):Int):=by rw[IntWalk.i64_in _ (by omega)];omega
      repeat' ((conv=>whnf);first|apply Wx|apply W6|apply oi|(apply fi<;>intro h)|refine⟨i,y.tr,rfl,ab hy,?_⟩|refine⟨_,rfl,?_⟩|exact rfl)
      all_goals try exact⟨KP⟩
      all_goals try exact KX
      all_goals try(exfalso;simp_all;done)
      all_goals
       conv=>whnf
       refine⟨⟨(es.length+1,m'::es),hst',rfl,by dsimp only;omega,g4⟩,?_⟩
       repeat' ((conv=>whnf);first|apply Wx|apply W6|apply oi|(apply fi<;>intro h)|refine⟨_,rfl,?_⟩|exact rfl)
       all_goals try exact⟨KP⟩
       all_goals try exact⟨by dsimp only;rw[hwd]⟩
     ·by_cases h7':y.faa=7
      ·rw[if_neg (fun h=>by omega)]at g4
       rcases g1.pop hy h7' with⟨_,h'⟩|⟨es',hes,hst'⟩
       ·omega
       have hd:dep y es.length=es'.length:=by unfold dep;rw[if_neg h35,if_pos h7',hes];simp
       have hl4:es.length=es'.length+1:=by rw[hes];rfl
       rw[hd]at g4
       have hwd:IntKind.i64.wrap ((es.length:Int) - 1)=(es'.length:Int):=by rw[IntWalk.i64_in _ (by omega)];omega
       repeat' ((conv=>whnf);first|apply Wx|apply W6|apply oi|(apply fi<;>intro h)|refine⟨i,y.tr,rfl,ab hy,?_⟩|refine⟨_,rfl,?_⟩|exact rfl)
       all_goals try exact⟨KP⟩
       all_goals try exact KX
       all_goals try(exfalso;simp_all;done)
       conv=>whnf
       refine⟨⟨(es'.length,es'),hst',rfl,by dsimp only;omega,g4⟩,?_⟩
       repeat' ((conv=>whnf);first|apply Wx|apply W6|apply oi|(apply fi<;>intro h)|refine⟨_,rfl,?_⟩|exact rfl)
       all_goals try exact⟨KP⟩
       all_goals try exact⟨by dsimp only;rw[hwd]⟩
      ·have hd:dep y es.length=es.length:=by unfold dep;rw[if_neg h35,if_neg h7']
       have ho:cp y.faa=false:=by
        cases hh:cp y.faa with
        | false=>rfl
        | true=>rw[opensK_iff]at hh;omega
       have hst':=g1.other hy ho h7'
       rw[hd]at g4
       by_cases h4:y.faa=4
       ·obtain⟨Av,hA⟩:∃Av,nB l i (i - k) k=Av:=⟨_,rfl⟩
        rw[hA]at g4
        repeat' ((conv=>whnf);first|apply Wx|apply W6|apply oi|(apply fi<;>intro h)|refine⟨i,y.tr,rfl,ab hy,?_⟩|refine⟨_,rfl,?_⟩|exact rfl)
        all_goals try exact⟨KP⟩
        all_goals try exact KX
        all_goals try(exfalso;simp_all;done)
        conv=>whnf
        refine⟨{q:Nat×Bool // q.1≤i∧(q.2 || nB l i (i - q.1) q.1)=Av},fun q=>⟨[(0,vP l),(1,tI .i64 (k:Int)),(2,tI .i64 (e:Int)),(7,.r (.c (.own (7,0,0)))),(8,tI .i64 ((es.length:Nat):Int)),(9,tI .i64 (i:Int)),(10,tB q.1.2),(11,tI .i64 (q.1.1:Int))],[((7,0,0),some (.arr true 1 (loc.map ah)))],[7]⟩,fun q=>i - q.1.1,⟨(k,false),by dsimp only;omega,by simpa using hA⟩,?_,?_⟩
        ·skip
         repeat' ((conv=>whnf);first|apply Wx|apply W6|apply oi|(apply fi<;>intro h)|refine⟨_,rfl,?_⟩|exact rfl)
         all_goals try exact⟨KP⟩
        intro⟨⟨j,b⟩,hj,hb⟩
        dsimp only at hj hb ⊢
        by_cases hji:j < i
        ·obtain⟨n,hn⟩:∃n,i - j=n+1:=⟨i - j - 1,by omega⟩
         have hn2:i - (j+1)=n:=by omega
         rw[hn,nB,←FX]at hb
         have hS:=jZ l (j:Int) (by omega)
         generalize bg l (j:Int)=ee at *
         cases b with
         | true=>
          repeat' ((conv=>whnf);first|apply Wx|apply W6|apply oi|(apply fi<;>intro h)|refine cl hS ?_|refine⟨_,rfl,?_⟩|exact rfl)
          all_goals try exact⟨KP⟩
          all_goals try exact KX
          conv=>whnf
          refine⟨⟨(j+1,true),by dsimp only;omega,by simpa using hb⟩,?_,KD⟩
          repeat' ((conv=>whnf);first|apply Wx|apply W6|apply oi|(apply fi<;>intro h)|refine⟨_,rfl,?_⟩|exact rfl)
          all_goals try exact⟨KP⟩
          all_goals try exact⟨K2⟩
         | false=>
          repeat' ((conv=>whnf);first|apply Wx|apply W6|apply oi|(apply fi<;>intro h)|refine cl hS ?_|refine⟨_,rfl,?_⟩|exact rfl)
          all_goals try exact⟨KP⟩
          all_goals try exact KX
          conv=>whnf
          refine⟨⟨(j+1,(ee==(i:Int))),by dsimp only;omega,by dsimp only;rw[hn2];simpa using hb⟩,?_,KD⟩
          repeat' ((conv=>whnf);first|apply Wx|apply W6|apply oi|(apply fi<;>intro h)|refine⟨_,rfl,?_⟩|exact rfl)
          all_goals try exact⟨KP⟩
          all_goals try exact⟨K2⟩
        ·rw[show i - j=0 by omega,nB,Bool.or_false]at hb
         subst hb
         cases b with
         | false=>
          rw[if_pos ⟨h4,rfl⟩]at g4
          subst g4
          repeat' ((conv=>whnf);first|apply Wx|apply W6|apply oi|(apply fi<;>intro h)|refine⟨_,rfl,?_⟩|exact rfl)
          all_goals try exact⟨KP⟩
          all_goals try exact KX
         | true=>
          rw[if_neg (by simp)]at g4
          repeat' ((conv=>whnf);first|apply Wx|apply W6|apply oi|(apply fi<;>intro h)|refine⟨_,rfl,?_⟩|exact rfl)
          all_goals try exact⟨KP⟩
          all_goals try exact KX
          conv=>whnf
          refine⟨⟨(es.length,es),hst',rfl,by dsimp only;omega,g4⟩,?_⟩
          repeat' ((conv=>whnf);first|apply Wx|apply W6|apply oi|(apply fi<;>intro h)|refine⟨_,rfl,?_⟩|exact rfl)
          all_goals try exact⟨KP⟩
       ·rw[if_neg (fun h=>h4 h.1)]at g4
        repeat' ((conv=>whnf);first|apply Wx|apply W6|apply oi|(apply fi<;>intro h)|refine⟨i,y.tr,rfl,ab hy,?_⟩|refine⟨_,rfl,?_⟩|exact rfl)
        all_goals try exact⟨KP⟩
        all_goals try exact KX
        all_goals try(exfalso;simp_all;done)
        conv=>whnf
        refine⟨⟨(es.length,es),hst',rfl,by dsimp only;omega,g4⟩,?_⟩
        repeat' ((conv=>whnf);first|apply Wx|apply W6|apply oi|(apply fi<;>intro h)|refine⟨_,rfl,?_⟩|exact rfl)
        all_goals try exact⟨KP⟩
    clear g4 g1
    intro⟨⟨d,es'⟩,hst',hdl,hd60,g4⟩
    dsimp only at hst' hdl hd60 g4 ⊢
    have hwd:(d:Int)=(d:Int):=rfl
    by_cases hd4:(d)≤4
    ·rw[Aw hd4]at g4
     repeat' ((conv=>whnf);first|apply Wx|apply W6|apply oi|(apply fi<;>intro h)|refine⟨i,y.tr,rfl,ab hy,?_⟩|refine⟨_,rfl,?_⟩|exact rfl)
     all_goals try exact⟨KP⟩
     all_goals try exact KX
     all_goals try(exfalso;simp only[decide_eq_false_iff_not,decide_eq_true_eq]at h;omega)
     conv=>whnf
     refine⟨{j:Nat // j≤y.fad.length∧(y.fad.drop j).all (bW l loc)=K},fun q=>⟨[(0,vP l),(1,tI .i64 (k:Int)),(2,tI .i64 (e:Int)),(7,.r (.c (.own (7,0,0)))),(8,tI .i64 (d:Int)),(9,tI .i64 (i:Int)),(12,tI .i64 (q.1:Int))],[((7,0,0),some (.arr true 1 (loc.map ah)))],[7]⟩,fun q=>y.fad.length - q.1,⟨0,by omega,hK⟩,?_,?_⟩
     ·skip
      repeat' ((conv=>whnf);first|apply Wx|apply W6|apply oi|(apply fi<;>intro h)|refine⟨_,rfl,?_⟩|exact rfl)
      all_goals try exact⟨KP⟩
     intro⟨j,hj,hk2⟩
     dsimp only at hj hk2 ⊢
     by_cases hjl:j < y.fad.length
     ·obtain⟨t,ht⟩:=ae hjl
      rw[Bq ht]at hk2
      have hI:=fh loc t.fac (by omega)
      have hF:=dC l t.fac (by omega)
      by_cases h1:t.faa=1
      ·have e1:bW l loc t=loc.contains t.fac:=by unfold bW;rw[if_pos h1]
       rw[e1]at hk2
       have hix:=nz (l:=loc) (s:=t.fac)
       generalize cY loc t.fac=ix at *
       generalize eW l t.fac=ff at *
       cases hc:loc.contains t.fac with
       | false=>
        rw[hc]at hix hk2
        rw[Bool.false_and]at hk2
        subst hk2
        rw[if_neg (by simp)]at g4
        subst g4
        repeat' ((conv=>whnf);first|apply Wx|apply W6|apply oi|(apply fi<;>intro h)|refine⟨i,y.tr,rfl,ab hy,?_⟩|refine⟨j,t.tr,rfl,ab ht,?_⟩|refine cl hI ?_|refine cl hF ?_|refine⟨_,rfl,?_⟩|exact rfl)
        all_goals try exact⟨KP⟩
        all_goals try exact KX
        all_goals try(exfalso;(try simp_all[af]);(try omega);done)
       | true=>
        rw[hc]at hix hk2
        rw[Bool.true_and]at hk2
        repeat' ((conv=>whnf);first|apply Wx|apply W6|apply oi|(apply fi<;>intro h)|refine⟨i,y.tr,rfl,ab hy,?_⟩|refine⟨j,t.tr,rfl,ab ht,?_⟩|refine cl hI ?_|refine cl hF ?_|refine⟨_,rfl,?_⟩|exact rfl)
        all_goals try exact⟨KP⟩
        all_goals try exact KX
        all_goals try(exfalso;(try simp_all[af]);(try omega);done)
        all_goals try(exfalso;simp_all;done)
        conv=>whnf
        refine⟨⟨j+1,by omega,hk2⟩,?_,KD⟩
        repeat' ((conv=>whnf);first|apply Wx|apply W6|apply oi|(apply fi<;>intro h)|refine⟨_,rfl,?_⟩|exact rfl)
        all_goals try exact⟨KP⟩
        all_goals try exact⟨K2⟩
      ·by_cases h7:t.faa=7
       ·cases hf:findN l 0 t.fac with
        | none=>
         have e1:bW l loc t=false:=by unfold bW;rw[if_neg h1,if_pos h7,hf]
         rw[e1,Bool.false_and]at hk2
         subst hk2
         rw[if_neg (by simp)]at g4
         subst g4
         rw[show eW l t.fac= -1 from iM hf]at hF
         repeat' ((conv=>whnf);first|apply Wx|apply W6|apply oi|(apply fi<;>intro h)|refine⟨i,y.tr,rfl,ab hy,?_⟩|refine⟨j,t.tr,rfl,ab ht,?_⟩|refine cl hI ?_|refine cl hF ?_|refine⟨_,rfl,?_⟩|exact rfl)
         all_goals try exact⟨KP⟩
         all_goals try exact KX
         all_goals try(exfalso;(try simp_all[af]);(try omega);done)
        | some f=>
         obtain⟨hfl,x,hx,hx0,_⟩:=fD hf
         have e1:bW l loc t=((x.fag.length:Int)==t.faj):=by unfold bW;rw[if_neg h1,if_pos h7,hf];dsimp only;rw[hx]
         rw[e1]at hk2
         rw[show eW l t.fac=(f:Int) from be hf]at hF
         have hxl:(x.fag.map ah).length=x.fag.length:=by simp
         by_cases hn:(x.fag.length:Int)=t.faj
         ·rw[beq_iff_eq.2 hn,Bool.true_and]at hk2
          repeat' ((conv=>whnf);first|apply Wx|apply W6|apply oi|(apply fi<;>intro h)|refine⟨i,y.tr,rfl,ab hy,?_⟩|refine⟨j,t.tr,rfl,ab ht,?_⟩|refine⟨f,x.tr,rfl,ab hx,?_⟩|refine cl hI ?_|refine cl hF ?_|refine⟨_,rfl,?_⟩|exact rfl)
          all_goals try exact⟨KP⟩
          all_goals try exact KX
          all_goals try(exfalso;(try simp_all[af]);(try omega);done)
          all_goals try(exfalso;simp_all;done)
          conv=>whnf
          refine⟨⟨j+1,by omega,hk2⟩,?_,KD⟩
          repeat' ((conv=>whnf);first|apply Wx|apply W6|apply oi|(apply fi<;>intro h)|refine⟨_,rfl,?_⟩|exact rfl)
          all_goals try exact⟨KP⟩
          all_goals try exact⟨K2⟩
         ·rw[beq_eq_false_iff_ne.2 hn,Bool.false_and]at hk2
          subst hk2
          rw[if_neg (by simp)]at g4
          subst g4
          repeat' ((conv=>whnf);first|apply Wx|apply W6|apply oi|(apply fi<;>intro h)|refine⟨i,y.tr,rfl,ab hy,?_⟩|refine⟨j,t.tr,rfl,ab ht,?_⟩|refine⟨f,x.tr,rfl,ab hx,?_⟩|refine cl hI ?_|refine cl hF ?_|refine⟨_,rfl,?_⟩|exact rfl)
          all_goals try exact⟨KP⟩
          all_goals try exact KX
          all_goals try(exfalso;(try simp_all[af]);(try omega);done)
          all_goals try(exfalso;simp_all;done)
       ·have e1:bW l loc t=true:=by unfold bW;rw[if_neg h1,if_neg h7]
        rw[e1,Bool.true_and]at hk2
        repeat' ((conv=>whnf);first|apply Wx|apply W6|apply oi|(apply fi<;>intro h)|refine⟨i,y.tr,rfl,ab hy,?_⟩|refine⟨j,t.tr,rfl,ab ht,?_⟩|refine cl hI ?_|refine cl hF ?_|refine⟨_,rfl,?_⟩|exact rfl)
        all_goals try exact⟨KP⟩
        all_goals try exact KX
        all_goals try(exfalso;(try simp_all[af]);(try omega);done)
        all_goals try(exfalso;simp_all;done)
        conv=>whnf
        refine⟨⟨j+1,by omega,hk2⟩,?_,KD⟩
        repeat' ((conv=>whnf);first|apply Wx|apply W6|apply oi|(apply fi<;>intro h)|refine⟨_,rfl,?_⟩|exact rfl)
        all_goals try exact⟨KP⟩
        all_goals try exact⟨K2⟩
     ·rw[List.drop_eq_nil_of_le (by omega),List.all_nil]at hk2
      subst hk2
      rw[if_pos rfl]at g4
      repeat' ((conv=>whnf);first|apply Wx|apply W6|apply oi|(apply fi<;>intro h)|refine⟨i,y.tr,rfl,ab hy,?_⟩|refine⟨_,rfl,?_⟩|exact rfl)
      all_goals try exact⟨KP⟩
      all_goals try(exfalso;have h':=of_decide_eq_true h;rw[hel3]at h';omega)
      conv=>whnf
      refine⟨⟨(i+1,es'),by dsimp only;omega,by dsimp only;omega,hst',by dsimp only;omega,by dsimp only;rw[←hdl];exact g4⟩,?_,KD⟩
      repeat' ((conv=>whnf);first|apply Wx|apply W6|apply oi|(apply fi<;>intro h)|refine⟨_,rfl,?_⟩|exact rfl)
      all_goals try exact⟨KP⟩
      all_goals try exact⟨by dsimp only;rw[hdl]⟩
      all_goals try exact⟨K2⟩
    ·rw[if_neg (fun h=>hd4 h.1)]at g4
     subst g4
     repeat' ((conv=>whnf);first|apply Wx|apply W6|apply oi|(apply fi<;>intro h)|refine⟨i,y.tr,rfl,ab hy,?_⟩|refine⟨_,rfl,?_⟩|exact rfl)
     all_goals try exact⟨KP⟩
     all_goals try exact KX
     all_goals try(exfalso;simp only[decide_eq_false_iff_not,decide_eq_true_eq]at h;omega)
  ·rw[Dw (by omega)]at g4
   subst g4
   repeat' ((conv=>whnf);first|apply Wx|apply W6|apply oi|(apply fi<;>intro h)|refine⟨_,rfl,?_⟩|exact rfl)
   all_goals try exact⟨KP⟩
   all_goals try exact KX
 ·rw[decide_eq_false h8,Bool.false_and]
  repeat' ((conv=>whnf);first|apply Wx|apply W6|apply oi|(apply fi<;>intro h)|refine cl hL ?_|refine⟨_,rfl,?_⟩|exact rfl)
  all_goals try exact⟨KP⟩
  all_goals try exact KX
theorem DJ {l:List HH}:(ak l).all (bo l)=true↔∀k x,l[k]?=some x→x.faa=0→bo l k=true:=by
 rw[List.all_eq_true]
 constructor
 ·intro H k x hx h0
  refine H k ?_
  have key:∀(n i:Nat),l.length - i≤n→i≤k→k∈funsF (l.drop i) i:=by
   have hkl:k < l.length:=by
    rcases Nat.lt_or_ge k l.length with h|h
    ·exact h
    ·rw[List.getElem?_eq_none h]at hx;cases hx
   intro n
   induction n with
   | zero=>intro i h1 h2;omega
   | succ n ih=>
    intro i h1 h2
    obtain⟨y,hy⟩:=ae (l:=l) (k:=i) (by omega)
    rw[kq hy,List.mem_append]
    by_cases hik:i=k
    ·subst hik
     rw[hx]at hy
     injection hy with hy
     subst hy
     rw[if_pos h0]
     exact .inl (by simp)
    ·exact .inr (ih (i+1) (by omega) (by omega))
  have:=key l.length 0 (by omega) (by omega)
  rwa [List.drop_zero]at this
 ·intro H k hk
  obtain⟨_,x,hx,h0⟩:=iC hk
  exact H k x hx h0
def ok1 (l:List HH)(k:Nat)(x:HH):Bool:=cy x && (if x.faa=0 then bo l k else true)
def okN (l:List HH):Nat→Nat→Bool
 | 0,_=>true
 | n+1,k=>match l[k]? with
  | some x=>ok1 l k x && okN l n (k+1)
  | none=>true
theorem yW {l:List HH}{k:Nat}{x:HH}(hx:l[k]?=some x):okN l (l.length - k) k=(ok1 l k x && okN l (l.length - (k+1)) (k+1)):=by
 have hk:k < l.length:=by
  rcases Nat.lt_or_ge k l.length with h|h
  ·exact h
  ·rw[List.getElem?_eq_none h]at hx;cases hx
 rw[show l.length - k=(l.length - (k+1))+1 by omega,okN,hx]
theorem ya {l:List HH}:∀(n k:Nat),l.length - k≤n→(okN l (l.length - k) k=true↔∀j x,k≤j→l[j]?=some x→ok1 l j x=true)
 | n,k,hn=>by
  by_cases hk:k < l.length
  ·obtain⟨x,hx⟩:=ae hk
   cases n with
   | zero=>omega
   | succ n=>
    rw[yW hx,Bool.and_eq_true,ya n (k+1) (by omega)]
    constructor
    ·rintro⟨h1,h2⟩ j y hj hy
     by_cases hjk:j=k
     ·subst hjk
      rw[hx]at hy
      injection hy with hy
      subst hy
      exact h1
     ·exact h2 j y (by omega) hy
    ·intro H
     exact⟨H k x (Nat.le_refl _) hx,fun j y hj hy=>H j y (by omega) hy⟩
  ·rw[show l.length - k=0 by omega]
   refine⟨fun _ j x hj hx=>?_,fun _=>rfl⟩
   rw[List.getElem?_eq_none (by omega)]at hx
   cases hx
theorem Fs (l:List HH):okN l l.length 0=(l.all cy && (ak l).all (bo l)):=by
 have h0:=ya (l:=l) l.length 0 (by omega)
 rw[Nat.sub_zero]at h0
 rw[Bool.eq_iff_iff,h0,Bool.and_eq_true,DJ,List.all_eq_true]
 constructor
 ·intro H
  refine⟨fun x hx=>?_,fun k x hx h0=>?_⟩
  ·obtain⟨k,hk⟩:=List.getElem?_of_mem hx
   have:=H k x (by omega) hk
   rw[ok1,Bool.and_eq_true]at this
   exact this.1
  ·have:=H k x (by omega) hx
   rw[ok1,Bool.and_eq_true,if_pos h0]at this
   exact this.2
 ·rintro⟨H1,H2⟩ j x _ hx
  rw[ok1,Bool.and_eq_true]
  refine⟨H1 x (List.mem_of_getElem? hx),?_⟩
  split
  ·exact H2 j x hx (by assumption)
  ·rfl
theorem rJ {l:List HH}:aw l=(decide (l.length≤60) && (decide ((ak l).length≤6) && (md l && (okN l l.length 0 && bO (mE l) l l.length 0)))):=by
 unfold aw
 rw[Fs,vo]
 cases hh:md l with
 | false=>simp
 | true=>
  have h1:1≤(ak l).length:=by
   cases l with
   | nil=>cases hh
   | cons x r=>
    have:x.faa=0:=by
     unfold md at hh
     simp only[Bool.and_eq_true,beq_iff_eq]at hh
     exact hh.1
    rw[ak,funsF,if_pos this]
    simp
  have e:(decide (1≤(ak l).length∧(ak l).length≤6))=decide ((ak l).length≤6):=by
   rw[decide_eq_decide]
   omega
  rw[e]
  generalize decide (l.length≤60)=b1
  generalize decide ((ak l).length≤6)=b2
  generalize l.all cy=b3
  generalize(ak l).all (bo l)=b4
  generalize jH l=b5
  generalize bO (jA l) l l.length 0=b6
  cases b1 <;> cases b2 <;> cases b3 <;> cases b4 <;> cases b5 <;> cases b6 <;> rfl
theorem dF (l:List HH)(hsm:aB 1048576 (.lst 4 (l.map HH.tr))):Sim.Spec Tryz.prog 37 [tvP l] (rB (aw l)):=by
 refine aE hΓ ay Tryz.func37 rfl (by decide) rfl ?_
 have hl:=cv hsm
 have hs:∀x∈l,aK 1048576 x.tr:=fun x hx=>aT hsm hx
 have hlen:(l.map HH.tr).length=l.length:=by simp
 have hF:=bS l hl
 have hfl:((ak l).map fun n:Nat=>aa n).length=(ak l).length:=by simp
 rw[rJ]
 by_cases c1:l.length≤60
 ·rw[decide_eq_true c1,Bool.true_and]
  by_cases hpos:0 < l.length
  ·obtain⟨x0,hx0⟩:=ae hpos
   have hal:(x0.fag.map ah).length=x0.fag.length:=by simp
   have hhd:=qu hx0
   by_cases c2:(ak l).length≤6
   ·rw[decide_eq_true c2,Bool.true_and]
    cases hh:md l with
    | false=>
     rw[hh]at hhd
     rw[Bool.false_and]
     repeat' ((conv=>whnf);first|apply Wx|apply W6|apply oi|(apply fi<;>intro h)|refine cl hF ?_|refine⟨0,x0.tr,rfl,ab hx0,?_⟩|refine⟨_,rfl,?_⟩|exact rfl)
     all_goals try exact⟨KP⟩
     all_goals try exact KX
     all_goals try(exfalso;simp_all[gV];done)
    | true=>
     rw[hh]at hhd
     rw[Bool.true_and]
     cases hok:okN l l.length 0 with
     | false=>
      rw[Bool.false_and]
      repeat' ((conv=>whnf);first|apply Wx|apply W6|apply oi|(apply fi<;>intro h)|refine cl hF ?_|refine⟨0,x0.tr,rfl,ab hx0,?_⟩|refine⟨_,rfl,?_⟩|exact rfl)
      all_goals try exact⟨KP⟩
      all_goals try exact KX
      all_goals try(exfalso;simp_all[gV];done)
      conv=>whnf
      refine⟨{k:Nat // k≤l.length∧okN l (l.length - k) k=false},fun q=>⟨[(0,vP l),(3,tI .i64 (q.1:Int))],[],[]⟩,fun q=>l.length - q.1,⟨0,by omega,by rw[Nat.sub_zero];exact hok⟩,?_,?_⟩
      ·skip
       repeat' ((conv=>whnf);first|apply Wx|apply W6|apply oi|(apply fi<;>intro h)|refine⟨_,rfl,?_⟩|exact rfl)
       all_goals try exact⟨KP⟩
      intro⟨k,hk,hr⟩
      dsimp only at hk hr ⊢
      by_cases hlt:k < l.length
      ·obtain⟨x,hx⟩:=ae hlt
       rw[yW hx,ok1]at hr
       have hL:=nP x (hs x (List.mem_of_getElem? hx))
       have hN:=dC l x.fac hl
       have hnf2:(eW l x.fac==(k:Int))=bo l k:=by
        unfold bo
        rw[hx,eW]
        dsimp only
        cases findN l 0 x.fac with
        | none=>simp[cu]
        | some m=>rw[Bool.eq_iff_iff];simp[cu];omega
       generalize eW l x.fac=ff at *
       generalize cy x=lo at *
       generalize bo l k=nf at *
       by_cases h0:x.faa=0
       ·rw[if_pos h0]at hr
        repeat' ((conv=>whnf);first|apply Wx|apply W6|apply oi|(apply fi<;>intro h)|refine cl hL ?_|refine cl hN ?_|refine⟨k,x.tr,rfl,ab hx,?_⟩|refine⟨_,rfl,?_⟩|exact rfl)
        all_goals try exact⟨KP⟩
        all_goals try exact KX
        all_goals try(exfalso;simp_all;done)
        all_goals
         conv=>whnf
         refine⟨⟨k+1,by omega,by simp_all⟩,?_,KD⟩
         repeat' ((conv=>whnf);first|apply Wx|apply W6|apply oi|(apply fi<;>intro h)|refine⟨_,rfl,?_⟩|exact rfl)
         all_goals try exact⟨KP⟩
         all_goals try exact⟨K2⟩
       ·rw[if_neg h0,Bool.and_true]at hr
        repeat' ((conv=>whnf);first|apply Wx|apply W6|apply oi|(apply fi<;>intro h)|refine cl hL ?_|refine cl hN ?_|refine⟨k,x.tr,rfl,ab hx,?_⟩|refine⟨_,rfl,?_⟩|exact rfl)
        all_goals try exact⟨KP⟩
        all_goals try exact KX
        all_goals try(exfalso;simp_all;done)
        all_goals
         conv=>whnf
         refine⟨⟨k+1,by omega,by simp_all⟩,?_,KD⟩
         repeat' ((conv=>whnf);first|apply Wx|apply W6|apply oi|(apply fi<;>intro h)|refine⟨_,rfl,?_⟩|exact rfl)
         all_goals try exact⟨KP⟩
         all_goals try exact⟨K2⟩
      ·rw[show l.length - k=0 by omega]at hr
       cases hr
     | true=>
      rw[Bool.true_and]
      obtain⟨R,hR⟩:∃R,bO (mE l) l l.length 0=R:=⟨_,rfl⟩
      rw[hR]
      have hoka:=(ya (l:=l) l.length 0 (by omega))
      rw[Nat.sub_zero]at hoka
      have hoka:=hoka.1 hok
      repeat' ((conv=>whnf);first|apply Wx|apply W6|apply oi|(apply fi<;>intro h)|refine cl hF ?_|refine⟨0,x0.tr,rfl,ab hx0,?_⟩|refine⟨_,rfl,?_⟩|exact rfl)
      all_goals try exact⟨KP⟩
      all_goals try exact KX
      all_goals try(exfalso;simp_all[gV];done)
      conv=>whnf
      refine⟨{k:Nat // k≤l.length},fun q=>⟨[(0,vP l),(3,tI .i64 (q.1:Int))],[],[]⟩,fun q=>l.length - q.1,⟨0,by omega⟩,?_,?_⟩
      ·skip
       repeat' ((conv=>whnf);first|apply Wx|apply W6|apply oi|(apply fi<;>intro h)|refine⟨_,rfl,?_⟩|exact rfl)
       all_goals try exact⟨KP⟩
      intro⟨k,hk⟩
      dsimp only at hk ⊢
      by_cases hlt:k < l.length
      ·obtain⟨x,hx⟩:=ae hlt
       have hr:=hoka k x (by omega) hx
       rw[ok1]at hr
       have hL:=nP x (hs x (List.mem_of_getElem? hx))
       have hN:=dC l x.fac hl
       have hnf2:(eW l x.fac==(k:Int))=bo l k:=by
        unfold bo
        rw[hx,eW]
        dsimp only
        cases findN l 0 x.fac with
        | none=>simp[cu]
        | some m=>rw[Bool.eq_iff_iff];simp[cu];omega
       clear hoka hok
       generalize eW l x.fac=ff at *
       generalize cy x=lo at *
       generalize bo l k=nf at *
       by_cases h0:x.faa=0
       ·rw[if_pos h0]at hr
        repeat' ((conv=>whnf);first|apply Wx|apply W6|apply oi|(apply fi<;>intro h)|refine cl hL ?_|refine cl hN ?_|refine⟨k,x.tr,rfl,ab hx,?_⟩|refine⟨_,rfl,?_⟩|exact rfl)
        all_goals try exact⟨KP⟩
        all_goals try exact KX
        all_goals try(exfalso;simp_all;done)
        all_goals
         conv=>whnf
         refine⟨⟨k+1,by omega⟩,?_,KD⟩
         repeat' ((conv=>whnf);first|apply Wx|apply W6|apply oi|(apply fi<;>intro h)|refine⟨_,rfl,?_⟩|exact rfl)
         all_goals try exact⟨KP⟩
         all_goals try exact⟨K2⟩
       ·rw[if_neg h0,Bool.and_true]at hr
        repeat' ((conv=>whnf);first|apply Wx|apply W6|apply oi|(apply fi<;>intro h)|refine cl hL ?_|refine cl hN ?_|refine⟨k,x.tr,rfl,ab hx,?_⟩|refine⟨_,rfl,?_⟩|exact rfl)
        all_goals try exact⟨KP⟩
        all_goals try exact KX
        all_goals try(exfalso;simp_all;done)
        all_goals
         conv=>whnf
         refine⟨⟨k+1,by omega⟩,?_,KD⟩
         repeat' ((conv=>whnf);first|apply Wx|apply W6|apply oi|(apply fi<;>intro h)|refine⟨_,rfl,?_⟩|exact rfl)
         all_goals try exact⟨KP⟩
         all_goals try exact⟨K2⟩
      ·skip
       repeat' ((conv=>whnf);first|apply Wx|apply W6|apply oi|(apply fi<;>intro h)|refine⟨_,rfl,?_⟩|exact rfl)
       all_goals try exact⟨KP⟩
       all_goals try exact KX
       conv=>whnf
       refine⟨{k:Nat // k≤l.length∧bO (mE l) l (l.length - k) k=R},fun q=>⟨[(0,vP l),(4,tI .i64 (q.1:Int))],[],[]⟩,fun q=>l.length - q.1,⟨0,by omega,by rw[Nat.sub_zero];exact hR⟩,?_,?_⟩
       ·skip
        repeat' ((conv=>whnf);first|apply Wx|apply W6|apply oi|(apply fi<;>intro h)|refine⟨_,rfl,?_⟩|exact rfl)
        all_goals try exact⟨KP⟩
       intro⟨k,hk,hr⟩
       dsimp only at hk hr ⊢
       by_cases hlt:k < l.length
       ·obtain⟨x,hx⟩:=ae hlt
        rw[jB hx (Nat.le_refl _)]at hr
        have hE:=cN l (k:Int) hl
        cases he:endAt l k with
        | none=>
         rw[bf,iM he]at hE
         rw[he]at hr
         subst hr
         repeat' ((conv=>whnf);first|apply Wx|apply W6|apply oi|(apply fi<;>intro h)|refine cl hE ?_|refine⟨k,x.tr,rfl,ab hx,?_⟩|refine⟨_,rfl,?_⟩|exact rfl)
         all_goals try exact⟨KP⟩
         all_goals try exact KX
         all_goals try(exfalso;simp_all;done)
        | some e=>
         obtain⟨_,_,_,_,hke,hel⟩:=aF he
         rw[bf,be he]at hE
         rw[he]at hr
         dsimp only at hr
         have hK:=vM l k e c1 hs he
         generalize mE l k e=fb at *
         by_cases hc:x.faa=0∧fb=true
         ·rw[if_pos hc]at hr
          obtain⟨d1,d2⟩:=hc
          subst d2
          repeat' ((conv=>whnf);first|apply Wx|apply W6|apply oi|(apply fi<;>intro h)|refine cl hE ?_|refine cl hK ?_|refine⟨k,x.tr,rfl,ab hx,?_⟩|refine⟨_,rfl,?_⟩|exact rfl)
          all_goals try exact⟨KP⟩
          all_goals try exact KX
          all_goals try(exfalso;simp_all;done)
          conv=>whnf
          refine⟨⟨e+1,by omega,hr⟩,?_,KD⟩
          repeat' ((conv=>whnf);first|apply Wx|apply W6|apply oi|(apply fi<;>intro h)|refine⟨_,rfl,?_⟩|exact rfl)
          all_goals try exact⟨KP⟩
          all_goals try exact⟨K2⟩
         ·rw[if_neg hc]at hr
          subst hr
          repeat' ((conv=>whnf);first|apply Wx|apply W6|apply oi|(apply fi<;>intro h)|refine cl hE ?_|refine cl hK ?_|refine⟨k,x.tr,rfl,ab hx,?_⟩|refine⟨_,rfl,?_⟩|exact rfl)
          all_goals try exact⟨KP⟩
          all_goals try exact KX
          all_goals try(exfalso;simp_all;done)
       ·rw[show l.length - k=0 by omega,bO,decide_eq_true (by omega)]at hr
        subst hr
        repeat' ((conv=>whnf);first|apply Wx|apply W6|apply oi|(apply fi<;>intro h)|refine⟨_,rfl,?_⟩|exact rfl)
        all_goals try exact⟨KP⟩
        all_goals try exact KX
   ·rw[decide_eq_false c2,Bool.false_and]
    repeat' ((conv=>whnf);first|apply Wx|apply W6|apply oi|(apply fi<;>intro h)|refine cl hF ?_|refine⟨0,x0.tr,rfl,ab hx0,?_⟩|refine⟨_,rfl,?_⟩|exact rfl)
    all_goals try exact⟨KP⟩
    all_goals try exact KX
    all_goals try(exfalso;simp_all[gV];done)
  ·have hnil:l=[]:=List.length_eq_zero_iff.1 (by omega)
   subst hnil
   rw[show md ([]:List HH)=false from rfl,Bool.false_and,Bool.and_false]
   repeat' ((conv=>whnf);first|apply Wx|apply W6|apply oi|(apply fi<;>intro h)|refine cl hF ?_|refine⟨_,rfl,?_⟩|exact rfl)
   all_goals try exact⟨KP⟩
   all_goals try exact KX
 ·rw[decide_eq_false c1,Bool.false_and]
  repeat' ((conv=>whnf);first|apply Wx|apply W6|apply oi|(apply fi<;>intro h)|refine cl hF ?_|refine⟨_,rfl,?_⟩|exact rfl)
  all_goals try exact⟨KP⟩
  all_goals try exact KX
  all_goals try(exfalso;simp_all;done)
theorem fF {l:List HP}{p:Nat}{e:Ex}(h:fZ l p e):p+e.toks.length≤l.length:=by
 obtain⟨r,h⟩:=h
 have h1:=congrArg List.length h
 rw[List.length_drop,List.length_append]at h1
 have:=e.toks_pos
 omega
theorem lF (l:List HP)(p:Nat)(t:HP)(es:List Ex)(hl:l.length≤1048576)(hn:dH l)(ho:(Ex.node t es).ok)(hs:fZ l p (.node t es)):Sim.Spec Tryz.prog 274 [tvL 3 (l.map HP.tr),tvI p] (rL 1 ((fK (p+1) es).map nR)):=by
 refine aE hΓ ay Tryz.func274 rfl (by decide) rfl ?_
 have hlen:(l.map HP.tr).length=l.length:=by simp
 have hle:=fF hs
 obtain⟨ht,hsa⟩:=go hs
 have hX:=iW l p hl hn
 rw[jq hs ho]at hX
 have htn:=hn t (List.mem_of_getElem? ht)
 have hA:=pP t htn
 obtain⟨e1,e2⟩:=qk ho.1
 have hel:es.length=ar t:=ho.2.1
 rw[e1,←hel]at hA
 obtain⟨R,hR⟩:∃R,fK (p+1) es=R:=⟨_,rfl⟩
 rw[hR]
 have hpl:p < l.length:=by
  have:=(Ex.node t es).toks_pos
  omega
 generalize p+(Ex.node t es).toks.length=pe at *
 repeat' ((conv=>whnf);first|apply Wx|apply W6|apply oi|(apply fi<;>intro h)|refine cl hX ?_|refine⟨p,t.tr,rfl,ab ht,?_⟩|refine cl hA ?_|refine⟨_,rfl,?_⟩|exact rfl)
 all_goals try exact⟨KP⟩
 all_goals try exact KX
 conv=>whnf
 refine⟨{q:Nat×List Nat×List Ex // q.2.1++fK q.1 q.2.2=R∧ju l q.1 q.2.2∧iU q.2.2∧q.2.1.length+q.2.2.length≤4∧q.1≤1048577},fun q=>⟨[(0,.r (.c (.t (.lst 3 (l.map HP.tr))))),(5,.r (.c (.own (5,0,0)))),(6,tI .i64 (q.1.1:Int)),(7,tI .i64 (q.1.2.2.length:Int))],[((5,0,0),some (.arr true 1 (q.1.2.1.map nR)))],[5]⟩,fun q=>q.1.2.2.length,⟨(p+1,[],es),hR,hsa,ho.2.2,by simp;omega,by dsimp only;omega⟩,?_,?_⟩
 ·skip
  repeat' ((conv=>whnf);first|apply Wx|apply W6|apply oi|(apply fi<;>intro h)|refine⟨_,rfl,?_⟩|exact rfl)
  all_goals try exact⟨KP⟩
  all_goals try exact⟨K2⟩
 intro⟨⟨q,acc,fs⟩,h1,h2,h3,h4,h5⟩
 dsimp only at h1 h2 h3 h4 h5 ⊢
 cases fs with
 | nil=>
  rw[fK,List.append_nil]at h1
  subst h1
  repeat' ((conv=>whnf);first|apply Wx|apply W6|apply oi|(apply fi<;>intro h)|refine⟨_,rfl,?_⟩|exact rfl)
  all_goals try exact⟨KP⟩
  all_goals try exact KX
  all_goals try(exfalso;simp at h;done)
 | cons a fs=>
  obtain⟨g1,g2⟩:=dZ h2
  have hX2:=iW l q hl hn
  rw[jq g1 h3.1]at hX2
  have hle2:=fF g1
  have hfl:(a::fs).length=fs.length+1:=rfl
  repeat' ((conv=>whnf);first|apply Wx|apply W6|apply oi|(apply fi<;>intro h)|refine cl hX2 ?_|refine⟨_,rfl,?_⟩|exact rfl)
  all_goals try exact⟨KP⟩
  all_goals try exact KX
  all_goals try(exfalso;simp at h;done)
  all_goals try exact⟨⟨by simp <;> omega,by simp <;> omega⟩⟩
  conv=>whnf
  refine⟨⟨(q+a.toks.length,acc++[q],fs),by dsimp only;rw[←h1,fK];simp,g2,h3.2,by simp only[List.length_append,List.length_cons,List.length_nil]at *;omega,by dsimp only;omega⟩,?_,by dsimp only;simp⟩
  repeat' ((conv=>whnf);first|apply Wx|apply W6|apply oi|(apply fi<;>intro h)|refine⟨_,rfl,?_⟩|exact rfl)
  all_goals try exact⟨KP⟩
  all_goals try exact⟨by dsimp only;rw[hfl,IntWalk.i64_in _ (by omega)];congr 1;omega⟩
  all_goals exact⟨by simp[aa]⟩
theorem sE (l:List HP)(p:Nat)(t:HP)(es:List Ex)(hl:l.length≤1048576)(hn:dH l)(ho:(Ex.node t es).ok)(hs:fZ l p (.node t es)):Sim.Spec Tryz.prog 260 [tvL 3 (l.map HP.tr),tvI p] (rL 1 ((fK (p+1) es).map nR)):=by
 refine aE hΓ ay Tryz.func260 rfl (by decide) rfl ?_
 have hlen:(l.map HP.tr).length=l.length:=by simp
 have hle:=fF hs
 obtain⟨ht,hsa⟩:=go hs
 have hX:=jl l p hl hn
 rw[jq hs ho]at hX
 have htn:=hn t (List.mem_of_getElem? ht)
 have hA:=ly t htn
 obtain⟨e1,e2⟩:=qk ho.1
 have hel:es.length=ar t:=ho.2.1
 rw[e1,←hel]at hA
 obtain⟨R,hR⟩:∃R,fK (p+1) es=R:=⟨_,rfl⟩
 rw[hR]
 have hpl:p < l.length:=by
  have:=(Ex.node t es).toks_pos
  omega
 generalize p+(Ex.node t es).toks.length=pe at *
 repeat' ((conv=>whnf);first|apply Wx|apply W6|apply oi|(apply fi<;>intro h)|refine cl hX ?_|refine⟨p,t.tr,rfl,ab ht,?_⟩|refine cl hA ?_|refine⟨_,rfl,?_⟩|exact rfl)
 all_goals try exact⟨KP⟩
 all_goals try exact KX
 conv=>whnf
 refine⟨{q:Nat×List Nat×List Ex // q.2.1++fK q.1 q.2.2=R∧ju l q.1 q.2.2∧iU q.2.2∧q.2.1.length+q.2.2.length≤4∧q.1≤1048577},fun q=>⟨[(0,.r (.c (.t (.lst 3 (l.map HP.tr))))),(5,.r (.c (.own (5,0,0)))),(6,tI .i64 (q.1.1:Int)),(7,tI .i64 (q.1.2.2.length:Int))],[((5,0,0),some (.arr true 1 (q.1.2.1.map nR)))],[5]⟩,fun q=>q.1.2.2.length,⟨(p+1,[],es),hR,hsa,ho.2.2,by simp;omega,by dsimp only;omega⟩,?_,?_⟩
 ·skip
  repeat' ((conv=>whnf);first|apply Wx|apply W6|apply oi|(apply fi<;>intro h)|refine⟨_,rfl,?_⟩|exact rfl)
  all_goals try exact⟨KP⟩
  all_goals try exact⟨K2⟩
 intro⟨⟨q,acc,fs⟩,h1,h2,h3,h4,h5⟩
 dsimp only at h1 h2 h3 h4 h5 ⊢
 cases fs with
 | nil=>
  rw[fK,List.append_nil]at h1
  subst h1
  repeat' ((conv=>whnf);first|apply Wx|apply W6|apply oi|(apply fi<;>intro h)|refine⟨_,rfl,?_⟩|exact rfl)
  all_goals try exact⟨KP⟩
  all_goals try exact KX
  all_goals try(exfalso;simp at h;done)
 | cons a fs=>
  obtain⟨g1,g2⟩:=dZ h2
  have hX2:=jl l q hl hn
  rw[jq g1 h3.1]at hX2
  have hle2:=fF g1
  have hfl:(a::fs).length=fs.length+1:=rfl
  repeat' ((conv=>whnf);first|apply Wx|apply W6|apply oi|(apply fi<;>intro h)|refine cl hX2 ?_|refine⟨_,rfl,?_⟩|exact rfl)
  all_goals try exact⟨KP⟩
  all_goals try exact KX
  all_goals try(exfalso;simp at h;done)
  all_goals try exact⟨⟨by simp <;> omega,by simp <;> omega⟩⟩
  conv=>whnf
  refine⟨⟨(q+a.toks.length,acc++[q],fs),by dsimp only;rw[←h1,fK];simp,g2,h3.2,by simp only[List.length_append,List.length_cons,List.length_nil]at *;omega,by dsimp only;omega⟩,?_,by dsimp only;simp⟩
  repeat' ((conv=>whnf);first|apply Wx|apply W6|apply oi|(apply fi<;>intro h)|refine⟨_,rfl,?_⟩|exact rfl)
  all_goals try exact⟨KP⟩
  all_goals try exact⟨by dsimp only;rw[hfl,IntWalk.i64_in _ (by omega)];congr 1;omega⟩
  all_goals exact⟨by simp[aa]⟩
def w32 (n:Int):Int:=IntKind.i32.wrap n
theorem ny (n:Int):IntKind.i32.wrap n=if n % 4294967296≥2147483648 then n % 4294967296 - 4294967296 else n % 4294967296:=by
 simp[IntKind.wrap,IntKind.bits,IntKind.signed]
theorem CD (n:Int):IntKind.u32.wrap n=n % 4294967296:=by simp[IntKind.wrap,IntKind.bits,IntKind.signed]
theorem kE (n:Int):-2147483648≤w32 n∧w32 n≤2147483647:=by
 unfold w32;rw[ny];split <;> omega
theorem zY (n:Int):Sim.Spec Tryz.prog 250 [tvI n] (rI (w32 n)):=by
 refine aq hΓ ay Tryz.func250 rfl (by decide) rfl ?_
 repeat' ((conv=>whnf);first|refine Or.inl ?_|apply oi|(apply fi<;>intro h)|refine⟨_,rfl,?_⟩|exact rfl)
 all_goals try exact⟨KO⟩
 all_goals(refine⟨congrArg (Tr.int _) ?_⟩;have:=kE n;unfold w32 at *;rw[ny]at *;rw[ny,CD,IntWalk.i64_in _ (by split <;> omega)];simp)
theorem Fl (n:Int):((BitVec.ofInt IntKind.i64.bits n &&& BitVec.ofInt IntKind.i64.bits 4294967295).toNat:Int)=n % 4294967296:=by
 show((BitVec.ofInt 64 n &&& BitVec.ofInt 64 4294967295).toNat:Int)=_
 have e:(BitVec.ofInt 64 4294967295).toNat=2 ^ 32 - 1:=by decide
 rw[BitVec.toNat_and,e,Nat.and_two_pow_sub_one_eq_mod,BitVec.toNat_ofInt]
 have:((2 ^ 64:Nat):Int)=18446744073709551616:=by decide
 omega
theorem ze (n:Int):Sim.Spec Tryz.prog 251 [tvI n] (rI (w32 n)):=by
 refine aq hΓ ay Tryz.func251 rfl (by decide) rfl ?_
 have hand:IntKind.i64.wrap ((BitVec.ofInt IntKind.i64.bits n &&& BitVec.ofInt IntKind.i64.bits 4294967295).toNat:Int)=n % 4294967296:=by
  rw[Fl,IntWalk.i64_in _ (by omega)]
 unfold w32
 rw[ny]
 repeat' ((conv=>whnf);first|refine Or.inl ?_|apply oi|(apply fi<;>intro h)|refine⟨_,rfl,?_⟩|exact rfl)
 all_goals try exact⟨KO⟩
 all_goals(refine⟨congrArg (Tr.int _) ?_⟩;rw[hand]at h ⊢)
 ·have h':=of_decide_eq_true h
  rw[if_pos (by omega),IntWalk.i64_in _ (by omega)]
 ·have h':=of_decide_eq_false h
  rw[if_neg (by omega)]
theorem ws {x y:Int}(hx:-2147483648≤x∧x≤2147483647)(hy:-2147483648≤y∧y≤2147483647):-4611686018427387904≤x * y∧x * y≤4611686018427387904:=by
 have h:(x * y).natAbs≤2147483648 * 2147483648:=by
  rw[Int.natAbs_mul]
  exact Nat.mul_le_mul (by omega) (by omega)
 omega
def cT (k a b:Int):Int:=
 if k=2 then w32 (w32 a+w32 b)else if k=3 then w32 (w32 a - w32 b)else if k=4 then w32 (w32 a * w32 b)
 else if(k=5∧w32 a < w32 b)∨(k=6∧w32 a=w32 b)then 1 else 0
theorem yu (k a b:Int):Sim.Spec Tryz.prog 219 [tvI k,tvI a,tvI b] (rI (cT k a b)):=by
 refine aq hΓ ay Tryz.func219 rfl (by decide) rfl ?_
 have ha:=kE a
 have hb:=kE b
 have hm:=ws ha hb
 have e1:IntKind.i64.wrap (w32 a+w32 b)=w32 a+w32 b:=IntWalk.i64_in _ (by omega)
 have e2:IntKind.i64.wrap (w32 a - w32 b)=w32 a - w32 b:=IntWalk.i64_in _ (by omega)
 have e3:IntKind.i64.wrap (w32 a * w32 b)=w32 a * w32 b:=IntWalk.i64_in _ (by omega)
 unfold cT
 repeat' ((conv=>whnf);first|refine Or.inl ?_|apply oi|(apply fi<;>intro h)|refine ci (zY _) (ai rfl trivial) ?_|refine⟨_,rfl,?_⟩|exact rfl)
 all_goals try exact⟨KO⟩
 all_goals(refine⟨congrArg (Tr.int _) ?_⟩;simp_all;try omega)
theorem yE (k a b:Int):Sim.Spec Tryz.prog 229 [tvI k,tvI a,tvI b] (rI (cT k a b)):=by
 refine aq hΓ ay Tryz.func229 rfl (by decide) rfl ?_
 have ha:=kE a
 have hb:=kE b
 have hm:=ws ha hb
 have e1:IntKind.i64.wrap (w32 a+w32 b)=w32 a+w32 b:=IntWalk.i64_in _ (by omega)
 have e2:IntKind.i64.wrap (w32 a - w32 b)=w32 a - w32 b:=IntWalk.i64_in _ (by omega)
 have e3:IntKind.i64.wrap (w32 a * w32 b)=w32 a * w32 b:=IntWalk.i64_in _ (by omega)
 unfold cT
 repeat' ((conv=>whnf);first|refine Or.inl ?_|apply oi|(apply fi<;>intro h)|refine ci (ze _) (ai rfl trivial) ?_|refine⟨_,rfl,?_⟩|exact rfl)
 all_goals try exact⟨KO⟩
 all_goals(refine⟨congrArg (Tr.int _) ?_⟩;simp_all;try omega)
def yF (n:Int):Ex:= .node ⟨0,n,[]⟩ []
def Db (t a b:HP):Prop:=af t.faa 2 6=true∧a.faa=0∧b.faa=0∧af (cT t.faa a.faj b.faj) 0 999=true
instance (t a b:HP):Decidable (Db t a b):=by unfold Db;infer_instance
def wb (t:HP):List Ex→Ex
 | [.node a [],.node b []]=>if Db t a b then yF (cT t.faa a.faj b.faj)else .node t [.node a [],.node b []]
 | fs=> .node t fs
mutual
def Ex.fold:Ex→Ex
 | .node t es=>wb t (aZ es)
def aZ:List Ex→List Ex
 | []=>[]
 | a::es=>a.fold::aZ es
end
theorem aG (l:List HP):flat (l.map HP.tr):=mr _ (by intro x c hc sz rs e;subst e;simp[HP.tr]at hc)
theorem jo:∀es:List Ex,(aZ es).length=es.length
 | []=>rfl
 | a::es=>by rw[aZ,List.length_cons,jo,List.length_cons]
theorem mh:∀(es:List Ex) (j:Nat),(aZ es).take j=aZ (es.take j)
 | [],j=>by simp[aZ]
 | a::es,0=>by rw[List.take_zero,List.take_zero,aZ]
 | a::es,j+1=>by rw[aZ,List.take_succ_cons,List.take_succ_cons,aZ,mh es j]
theorem lC:∀{es:List Ex} {j:Nat} {a:Ex},es[j]?=some a→aZ (es.take (j+1))=aZ (es.take j)++[a.fold]
 | [],_,_,h=>by simp at h
 | b::es,0,a,h=>by
  rw[List.getElem?_cons_zero]at h
  injection h with h
  subst h
  rfl
 | b::es,j+1,a,h=>by
  rw[List.getElem?_cons_succ]at h
  rw[List.take_succ_cons,aZ,List.take_succ_cons,aZ,lC h,List.cons_append]
theorem lz (a:Ex):au [a]=a.toks:=by rw[au,au,List.append_nil]
theorem tn {f:Ex}(h:f.toks.length=1):∃a,f= .node a []:=by
 cases f with
 | node a es=>
  rw[Ex.toks,List.length_cons]at h
  cases es with
  | nil=>exact⟨a,rfl⟩
  | cons b es=>
   rw[au,List.length_append]at h
   have:=b.toks_pos
   omega
theorem ls {t:HP}{fs:List Ex}(h:(au fs).length≠2∨af t.faa 2 6=false):wb t fs= .node t fs:=by
 unfold wb
 split
 ·rename_i a b
  rw[if_neg]
  intro hc
  rcases h with h|h
  ·exact h (by simp[au,Ex.toks])
  ·rw[hc.1]at h;cases h
 ·rfl
theorem zb (t a b:HP):wb t [.node a [],.node b []]=if Db t a b then yF (cT t.faa a.faj b.faj)else .node t [.node a [],.node b []]:=rfl
theorem FE (t:HP)(fs:List Ex):(wb t fs).toks.length≤1+(au fs).length:=by
 unfold wb
 split
 ·split
  ·simp[yF,Ex.toks,au]
  ·simp[Ex.toks,au]
 ·rw[Ex.toks,List.length_cons];omega
mutual
theorem Ex.fold_le:∀e:Ex,e.fold.toks.length≤e.toks.length
 | .node t es=>by
  rw[Ex.fold,Ex.toks,List.length_cons]
  have h1:=FE t (aZ es)
  have h2:=nn es
  omega
theorem nn:∀es:List Ex,(au (aZ es)).length≤(au es).length
 | []=>Nat.le_refl _
 | a::es=>by
  rw[aZ,au,au,List.length_append,List.length_append]
  have h1:=Ex.fold_le a
  have h2:=nn es
  omega
end
theorem cV:∀(es:List Ex) (j:Nat),(au (es.take j)).length≤(au es).length
 | [],j=>by rw[List.take_nil];omega
 | a::es,0=>by rw[List.take_zero,au];simp
 | a::es,j+1=>by
  have:=cV es j
  rw[List.take_succ_cons,au,au,List.length_append,List.length_append]
  omega
theorem iX:∀{es:List Ex} {j:Nat} {a:Ex},es[j]?=some a→a.toks.length≤(au es).length
 | [],_,_,h=>by simp at h
 | b::es,0,a,h=>by
  rw[List.getElem?_cons_zero]at h
  injection h with h
  subst h
  rw[au,List.length_append];omega
 | b::es,j+1,a,h=>by
  rw[List.getElem?_cons_succ]at h
  have:=iX h
  rw[au,List.length_append];omega
theorem kw:∀{es:List Ex} {j:Nat} {a:Ex},iU es→es[j]?=some a→a.ok
 | [],_,_,_,h=>by simp at h
 | b::es,0,a,ho,h=>by
  rw[List.getElem?_cons_zero]at h
  injection h with h
  subst h
  exact ho.1
 | b::es,j+1,a,ho,h=>by
  rw[List.getElem?_cons_succ]at h
  exact kw ho.2 h
theorem DO {t:HP}(ho:eO t=true)(hk:af t.faa 2 6=true):ar t=2:=by
 have:=within_iff.1 hk
 unfold ar nE
 rw[if_neg (by simp[ho]),if_neg (by omega),if_neg (by omega)]
 rfl
theorem ET {α:Type}{l:List α}(h:l.length=2):∃a b,l=[a,b]:=by
 match l,h with
 | [a,b],_=>exact⟨a,b,rfl⟩
theorem mw:∀(n:Nat) (e:Ex),e.toks.length≤n→∀(l:List HP) (p:Nat),l.length≤1048576→dH l→e.ok→fZ l p e→Sim.Spec Tryz.prog 242 [tvL 3 (l.map HP.tr),tvI p] (rL 3 (e.fold.toks.map HP.tr))
 | 0,e,hn,_,_,_,_,_,_=>by have:=e.toks_pos;omega
 | n+1,.node t es,hn,l,p,hl,hsh,ho,hs=>by
  refine aE hΓ ay Tryz.func242 rfl (by decide) rfl ?_
  have hlen:(l.map HP.tr).length=l.length:=by simp
  have hle:=fF hs
  obtain⟨ht,hsa⟩:=go hs
  have hO:=sE l p t es hl hsh ho hs
  have hpl:((fK (p+1) es).map nR).length=es.length:=by rw[List.length_map,pC]
  rw[Ex.toks,List.length_cons]at hn hle
  rw[Ex.fold]
  have hfe:=nn es
  obtain⟨e1,e2⟩:=qk ho.1
  have hel:es.length=ar t:=ho.2.1
  repeat' ((conv=>whnf);first|apply Wx|apply W6|apply oi|(apply fi<;>intro h)|refine cl hO ?_|refine⟨p,t.tr,rfl,ab ht,?_⟩|refine⟨_,rfl,?_⟩|exact rfl)
  all_goals try exact⟨KP⟩
  conv=>whnf
  refine⟨{j:Nat // j≤es.length},fun q=>⟨[(0,.r (.c (.t (.lst 3 (l.map HP.tr))))),(1,tI .i64 (p:Int)),(5,.r (.c (.own (5,0,0)))),(6,.r (.c (.own (6,0,0)))),(7,tI .i64 (q.1:Int))],[((5,0,0),some (.arr false 3 ((t::au (aZ (es.take q.1))).map HP.tr))),((6,0,0),some (.arr true 1 ((fK (p+1) es).map nR)))],[5,6]⟩,fun q=>es.length - q.1,⟨0,by omega⟩,?_,?_⟩
  ·skip
   repeat' ((conv=>whnf);first|apply Wx|apply W6|apply oi|(apply fi<;>intro h)|refine⟨_,rfl,?_⟩|exact rfl)
   all_goals try exact⟨KP⟩
   all_goals try exact⟨by simp[aZ,au];rfl⟩
  intro⟨j,hj⟩
  dsimp only at hj ⊢
  by_cases hlt:j < es.length
  ·obtain⟨a,ha⟩:=ae hlt
   obtain⟨q,hq,hqs⟩:=tF hsa ha
   have hal:=iX ha
   have hR:=mw n a (by omega) l q hl hsh (kw ho.2.2 ha) hqs
   have hjl:j < ((fK (p+1) es).map nR).length:=by rw[hpl];exact hlt
   have hfa:=a.fold_le
   have hft:=cV (aZ es) j
   rw[mh]at hft
   have hfl1:((t::au (aZ (es.take j))).map HP.tr).length=1+(au (aZ (es.take j))).length:=by simp;omega
   have hfl2:(a.fold.toks.map HP.tr).length=a.fold.toks.length:=by simp
   repeat' ((conv=>whnf);first|apply Wx|apply W6|apply oi|(apply fi<;>intro h)|refine cl hR ?_|refine⟨j,rfl,hjl,?_⟩|refine⟨(nR q),(ab hq),?_⟩|refine⟨_,rfl,?_⟩|exact rfl)
   all_goals try exact⟨KP⟩
   all_goals try exact KX
   all_goals try exact⟨⟨by rw[hfl1,hfl2];(try dsimp only);omega,by rw[hfl1,hfl2];(try dsimp only);omega⟩⟩
   conv=>whnf
   refine⟨⟨j+1,by omega⟩,?_,KD⟩
   repeat' ((conv=>whnf);first|apply Wx|apply W6|apply oi|(apply fi<;>intro h)|refine⟨_,rfl,?_⟩|exact rfl)
   all_goals try exact⟨KP⟩
   all_goals try exact⟨K2⟩
   all_goals exact⟨by rw[lC ha,eV,lz];simp⟩
  ·have hje:j=es.length:=by omega
   subst hje
   rw[List.take_length]
   have hB:=bi t.faa 2 6
   have hFl:=jo es
   have hout:((t::au (aZ es)).map HP.tr).length=1+(au (aZ es)).length:=by simp;omega
   generalize aZ es=F at *
   cases hk:af t.faa 2 6 with
   | false=>
    rw[hk]at hB
    rw[ls (.inr hk),Ex.toks]
    repeat' ((conv=>whnf);first|apply Wx|apply W6|apply oi|(apply fi<;>intro h)|refine⟨p,t.tr,rfl,ab ht,?_⟩|refine cl hB ?_|refine⟨_,rfl,?_⟩|exact rfl)
    all_goals try exact⟨KP⟩
    all_goals try exact KX
    all_goals exact⟨⟨rfl,aG _⟩⟩
   | true=>
    rw[hk]at hB
    by_cases h2:(au F).length=2
    ·obtain⟨f1,f2,rfl⟩:=ET (hFl.trans (hel.trans (DO ho.1 hk)))
     rw[au,lz,List.length_append]at h2
     have p1:=f1.toks_pos
     have p2:=f2.toks_pos
     obtain⟨a,rfl⟩:=tn (f:=f1) (by omega)
     obtain⟨b,rfl⟩:=tn (f:=f2) (by omega)
     have e3:t::au [Ex.node a [],Ex.node b []]=[t,a,b]:=by simp[au,Ex.toks]
     have e4:(Ex.node t [Ex.node a [],Ex.node b []]).toks=[t,a,b]:=by rw[Ex.toks];exact e3
     rw[e3]
     have h1l:1 < ([t,a,b].map HP.tr).length:=by simp
     have h2l:2 < ([t,a,b].map HP.tr).length:=by simp
     have hAp:=yE t.faa a.faj b.faj
     have hB2:=bi (cT t.faa a.faj b.faj) 0 999
     rw[zb]
     by_cases hc:Db t a b
     ·rw[if_pos hc]
      obtain⟨_,c1,c2,c3⟩:=hc
      rw[c3]at hB2
      have e5:(yF (cT t.faa a.faj b.faj)).toks=[⟨0,cT t.faa a.faj b.faj,[]⟩]:=by simp[yF,Ex.toks,au]
      rw[e5]
      generalize cT t.faa a.faj b.faj=ap at *
      repeat' ((conv=>whnf);first|apply Wx|apply W6|apply oi|(apply fi<;>intro h)|refine⟨p,t.tr,rfl,ab ht,?_⟩|refine cl hB ?_|refine⟨1,rfl,h1l,?_⟩|refine⟨2,rfl,h2l,?_⟩|refine⟨a.tr,rfl,?_⟩|refine⟨b.tr,rfl,?_⟩|refine cl hAp ?_|refine cl hB2 ?_|refine⟨_,rfl,?_⟩|exact rfl)
      all_goals try exact⟨KP⟩
      all_goals try exact KX
      all_goals try(exfalso;simp_all;done)
     ·rw[if_neg hc,e4]
      have hc2:∀w,af (cT t.faa a.faj b.faj) 0 999=w→a.faa=0→b.faa=0→w=true→False:=fun w h1 h2 h3 h4=>hc ⟨hk,h2,h3,h1.trans h4⟩
      cases hw:af (cT t.faa a.faj b.faj) 0 999 with
      | true=>
       rw[hw]at hB2
       have hc3:=hc2 true hw
       generalize cT t.faa a.faj b.faj=ap at *
       repeat' ((conv=>whnf);first|apply Wx|apply W6|apply oi|(apply fi<;>intro h)|refine⟨p,t.tr,rfl,ab ht,?_⟩|refine cl hB ?_|refine⟨1,rfl,h1l,?_⟩|refine⟨2,rfl,h2l,?_⟩|refine⟨a.tr,rfl,?_⟩|refine⟨b.tr,rfl,?_⟩|refine cl hAp ?_|refine cl hB2 ?_|refine⟨_,rfl,?_⟩|exact rfl)
       all_goals try exact⟨KP⟩
       all_goals try exact KX
       all_goals try exact⟨⟨rfl,aG _⟩⟩
       all_goals try(exfalso;simp_all;done)
      | false=>
       rw[hw]at hB2
       generalize cT t.faa a.faj b.faj=ap at *
       repeat' ((conv=>whnf);first|apply Wx|apply W6|apply oi|(apply fi<;>intro h)|refine⟨p,t.tr,rfl,ab ht,?_⟩|refine cl hB ?_|refine⟨1,rfl,h1l,?_⟩|refine⟨2,rfl,h2l,?_⟩|refine⟨a.tr,rfl,?_⟩|refine⟨b.tr,rfl,?_⟩|refine cl hAp ?_|refine cl hB2 ?_|refine⟨_,rfl,?_⟩|exact rfl)
       all_goals try exact⟨KP⟩
       all_goals try exact KX
       all_goals try exact⟨⟨rfl,aG _⟩⟩
       all_goals try(exfalso;simp_all;done)
    ·rw[ls (.inl h2),Ex.toks]
     repeat' ((conv=>whnf);first|apply Wx|apply W6|apply oi|(apply fi<;>intro h)|refine⟨p,t.tr,rfl,ab ht,?_⟩|refine cl hB ?_|refine⟨_,rfl,?_⟩|exact rfl)
     all_goals try exact⟨KP⟩
     all_goals try exact KX
     all_goals try exact⟨⟨rfl,aG _⟩⟩
     all_goals try(exfalso;rw[hout]at *;simp at *;omega)
end Go.Proofs.YtjmplnfiabmalaaGreat
namespace Go.Proofs.YtjmplnfiabmalaaGreat
open Go.Sim
set_option maxRecDepth 100000
set_option maxHeartbeats 4000000
structure Grow (n:Nat) (s s':Gs):Prop where
 ge:s.items.length≤s'.items.length
 le:s'.items.length≤s.items.length+n
 most:s.most≤s'.most
 cap:s.most≤1000→s'.most≤1000
theorem Grow.refl (s:Gs):Grow 0 s s:=⟨Nat.le_refl _,Nat.le_refl _,Int.le_refl _,id⟩
theorem Grow.trans {n m:Nat}{a b c:Gs}(h:Grow n a b)(h':Grow m b c):Grow (n+m) a c:=⟨Nat.le_trans h.ge h'.ge,by have:=h.le;have:=h'.le;omega,Int.le_trans h.most h'.most,fun x=>h'.cap (h.cap x)⟩
theorem Grow.mono {n m:Nat}{a b:Gs}(h:Grow n a b)(hn:n≤m):Grow m a b:=⟨h.ge,by have:=h.le;omega,h.most,h.cap⟩
theorem ba (C:Cx)(s:Gs)(d code arg line:Int)(chain:List Int):Grow 1 s (az C s d code arg line chain):=⟨by simp[az],by simp[az],Int.le_refl _,id⟩
theorem dl (l:List HG)(j v:Int):(bN l j v).length=l.length:=by
 unfold bN
 split
 ·split
  ·rw[List.length_set]
  ·rfl
 ·rfl
theorem fy (v:Int):∀(js:List Int) (l:List HG),(cz l v js).length=l.length
 | [],_=>rfl
 | j::js,l=>by rw[cz,fy v js,dl]
def cf:Nat→Nat
 | 0=>1
 | n+1=>30+9 * (20 * cf n+3)
theorem ui:∀n,1≤cf n
 | 0=>Nat.le_refl _
 | n+1=>by rw[cf];omega
theorem FG:∀{n m:Nat},n≤m→cf n≤cf m:=by
 intro n m h
 induction h with
 | refl=>exact Nat.le_refl _
 | step _ ih=>rw[cf];omega
theorem qW {n:Nat}(h:n≤3):cf n≤8679837:=Nat.le_trans (FG h) (by simp[cf])
def bG (C:Cx)(g:Nat):Prop:=∃ln,C.p[g]?=some ln∧ln.faa=0
section
variable {C:Cx} {x:Sc} {ins:List Nat} {rep:Sc→List Nat→Nat→Nat→Int→Gs→Gs} {line:Nat} {lev:Nat}
theorem qn (y:Sc)(chain:List Int)(line:Int):∀(n:Nat) (d:Int) (s:Gs),Grow n s (cF C y chain line n d s)
 | 0,d,s=>Grow.refl s
 | n+1,d,s=>by
  rw[cF]
  exact((ba C s d _ _ _ _).trans (qn y chain line n (d - 1) _)).mono (by omega)
theorem rW (y:Sc)(chain:List Int)(line d:Int):∀(n i:Nat) (s:Gs),Grow (2 * n) s (db C y chain line d n i s)
 | 0,i,s=>Grow.refl s
 | n+1,i,s=>by
  rw[db]
  exact(((ba C s d _ _ _ _).trans (ba C _ (d+1) _ _ _ _)).trans (rW y chain line d n (i+1) _)).mono (by omega)
theorem CW (hrep:∀g d s,bG C g→cb C ins g s.items.length=true→Grow (cf lev) s (rep x ins line g d s))(t:HP)(d:Int)(s:Gs):Grow (cf lev) s (jy C rep x ins line t d s):=by
 have hp:=ui lev
 unfold jy
 split
 ·exact(ba ..).mono hp
 ·split
  ·exact(ba ..).mono hp
  ·split
   ·split
    ·rename_i g hg
     split
     ·rename_i hr
      obtain⟨_,ln,h1,h2,_⟩:=fD hg
      exact hrep g d s ⟨ln,h1,h2⟩ hr
     ·exact(ba ..).mono hp
    ·exact(Grow.refl s).mono (by omega)
   ·exact(ba ..).mono hp
mutual
theorem wz (hrep:∀g d s,bG C g→cb C ins g s.items.length=true→Grow (cf lev) s (rep x ins line g d s)):∀(e:Ex) (d:Int) (s:Gs),Grow (e.toks.length * cf lev) s (eb C rep x ins line e d s)
 | .node t es,d,s=>by
  rw[eb,Ex.toks,List.length_cons]
  exact((kV hrep es d s).trans (CW hrep t _ _)).mono (by rw[Nat.add_mul];omega)
theorem kV (hrep:∀g d s,bG C g→cb C ins g s.items.length=true→Grow (cf lev) s (rep x ins line g d s)):∀(es:List Ex) (d:Int) (s:Gs),Grow ((au es).length * cf lev) s (dt C rep x ins line es d s)
 | [],d,s=>by rw[dt,au];exact(Grow.refl s).mono (by omega)
 | a::es,d,s=>by
  rw[dt,au,List.length_append,Nat.add_mul]
  exact(wz hrep a d s).trans (kV hrep es (d+1) _)
end
theorem oK (C:Cx)(rep:Sc→List Nat→Nat→Nat→Int→Gs→Gs)(x:Sc)(ins:List Nat)(line:Nat):∀{es:List Ex} {j:Nat} {a:Ex} (d:Int) (s:Gs),es[j]?=some a→dt C rep x ins line (es.take (j+1)) d s=eb C rep x ins line a (d+j) (dt C rep x ins line (es.take j) d s)
 | [],_,_,_,_,h=>by simp at h
 | b::es,0,a,d,s,h=>by
  rw[List.getElem?_cons_zero]at h
  injection h with h
  subst h
  simp[dt]
 | b::es,j+1,a,d,s,h=>by
  rw[List.getElem?_cons_succ]at h
  rw[List.take_succ_cons,dt,oK C rep x ins line (d+1) _ h,List.take_succ_cons,dt]
  congr 1
  omega
theorem iw:∀{es:List Ex} {j:Nat} {a:Ex},es[j]?=some a→(au (es.take (j+1))).length=(au (es.take j)).length+a.toks.length
 | [],_,_,h=>by simp at h
 | b::es,0,a,h=>by
  rw[List.getElem?_cons_zero]at h
  injection h with h
  subst h
  simp[au]
 | b::es,j+1,a,h=>by
  rw[List.getElem?_cons_succ]at h
  rw[List.take_succ_cons,au,List.length_append,iw h,List.take_succ_cons,au,List.length_append]
  omega
theorem lj (hC:CxOk C)(hx:ScOk C x ins)(line:Nat){g:Nat}(hg:bG C g):ScOk C (bI C x line g) (ins++[g]):=by
 obtain⟨e,_,_,_,_,h8⟩:=hx.endE hC
 have hle:=hx.argLe hC
 refine⟨hg,rfl,?_,?_,?_,?_,by simp[bI]⟩
 ·simp only[bI,bz,List.length_append,List.length_cons,List.length_nil]
  have:=hx.first
  split
  ·rename_i ho
   rw[hx.args ho]
   omega
  ·omega
 ·simp only[bI,List.length_append,List.length_cons,List.length_nil]
  have:=hx.chain
  omega
 ·simp[bI]
 ·simp[bI]
theorem oY (hC:CxOk C)(hx:ScOk C x ins):0≤bz C x∧bz C x≤8 * ins.length+8:=by
 obtain⟨e,_,_,_,_,h8⟩:=hx.endE hC
 have hle:=hx.argLe hC
 have:=hx.first
 unfold bz
 split
 ·rename_i ho
  rw[hx.args ho]
  omega
 ·omega
theorem cO (hC:CxOk C){g:Nat}(hg:bG C g):(localsOf C.p (g:Int)).length≤8∧argsN C.p g≤(localsOf C.p (g:Int)).length:=by
 obtain⟨ln,h1,h2⟩:=hg
 obtain⟨e,h3,h4,h5,_⟩:=hC.fn _ _ h1 h2
 rw[argsN,h1]
 exact⟨h4,h5⟩
theorem xt (hC:CxOk C)(hx:ScOk C x ins)(hi:ins.length≤10)(line:Nat){g:Nat}(hg:bG C g)(d:Int)(s:Gs):Grow 16 s (ec C x line g d s):=by
 obtain⟨h1,h2⟩:=cO hC hg
 have ht:=oY hC hx
 have h0:Grow 0 s ⟨s.items,max s.most (bz C x+(localsOf C.p (g:Int)).length),s.start⟩:=⟨Nat.le_refl _,Nat.le_refl _,by dsimp only;omega,fun h=>by dsimp only;omega⟩
 unfold ec
 exact((h0.trans (qn _ _ _ _ _ _)).trans (rW _ _ _ _ _ _ _)).mono (by omega)
theorem sj (x:Sc)(line:Nat)(d:Int)(s:Gs):Grow 1 s (bQ C x line d s):=by
 unfold bQ
 split
 ·exact ba ..
 ·exact(Grow.refl s).mono (by omega)
theorem lQ (x:Sc)(k:Nat)(last:Bool)(d:Int)(L:Ls):Grow 1 L.g (aR C x k last d L).g:=by
 unfold aR
 split
 ·split
  ·exact ba ..
  ·exact ba ..
 ·split
  ·exact(Grow.refl _).mono (by omega)
  ·exact ba ..
theorem Grow.set {n:Nat}{a b:Gs}{l:List HG}(h:Grow n a b)(hl:l.length=b.items.length):Grow n a ⟨l,b.most,b.start⟩:=⟨by have:=h.ge;simp only[hl];omega,by have:=h.le;simp only[hl];omega,h.most,h.cap⟩
theorem kS (hrep:∀g d s,bG C g→cb C ins g s.items.length=true→Grow (cf lev) s (rep x ins line g d s))(hC:CxOk C){k:Nat}{ln:HH}(hk:C.p[k]?=some ln)(he:br ln.fad=true)(d:Int)(s:Gs):Grow (20 * cf lev) s (eb C rep x ins line (exL ln.fad) d s):=by
 have h1:=(qS he).2
 have h2:=(hC.line _ _ hk).2.2.2.1
 rw[h1]at h2
 exact(wz hrep _ d s).mono (Nat.mul_le_mul_right _ h2)
theorem li (hrep:∀line g d s,bG C g→cb C ins g s.items.length=true→Grow (cf lev) s (rep x ins line g d s))(hC:CxOk C){k:Nat}{ln:HH}(hk:C.p[k]?=some ln)(h0:ln.faa≠0)(base:Int)(L:Ls):Grow (20 * cf lev+2) L.g (dI C rep x ins base k ln L).g:=by
 unfold dI
 split
 ·exact((ba ..).set (dl _ _ _)).mono (by omega)
 ·split
  ·split
   ·refine Grow.mono (n:=1+1) ?_ (by omega)
    exact(ba ..).trans (lQ x k true (base+1) {L with g:=az C L.g base 0 0 k x.chain})
   ·split
    ·exact(ba ..).mono (by omega)
    ·exact(Grow.refl _).mono (by omega)
  ·rename_i h4 h7
   have hl:=hC.line _ _ hk
   have h20:Grow (20 * cf lev) L.g (eb C rep x ins k (exL ln.fad) base ⟨L.g.items,L.g.most,true⟩):=by
    have:=kS (fun g d s=>hrep k g d s) hC hk (hl.2.2.2.2 (by omega)) base ⟨L.g.items,L.g.most,true⟩
    exact⟨this.ge,this.le,this.most,this.cap⟩
   split
   ·exact(h20.trans (ba ..)).mono (by omega)
   ·split
    ·exact(h20.trans (ba ..)).mono (by omega)
    ·split
     ·refine Grow.mono (n:=20 * cf lev+1) ?_ (by omega)
      exact h20.trans (lQ x k false (base+1) {L with g:=eb C rep x ins k (exL ln.fad) base ⟨L.g.items,L.g.most,true⟩,heads:=L.heads.set k L.g.items.length})
     ·exact(h20.trans (ba ..)).mono (by omega)
theorem tR (k:Nat)(ln:HH)(L:Ls):Grow 0 L.g (aW C x k ln L).g:=by
 unfold aW
 split
 ·exact(Grow.refl _).set (dl _ _ _)
 ·exact Grow.refl _
theorem wB (hrep:∀line g d s,bG C g→cb C ins g s.items.length=true→Grow (cf lev) s (rep x ins line g d s))(hC:CxOk C)(base:Int):∀(n k:Nat) (L:Ls),(∀i y,k≤i→i < k+n→C.p[i]?=some y→y.faa≠0)→Grow (n * (20 * cf lev+3)) L.g (jX C rep x ins base n k L).g
 | 0,k,L,_=>(Grow.refl _).mono (by omega)
 | n+1,k,L,h=>by
  rw[jX]
  split
  ·rename_i ln hk
   exact(((li hrep hC hk (h k ln (Nat.le_refl _) (by omega) hk) base L).trans (tR k ln _)).trans (wB hrep hC base n (k+1) _ fun i y h1 h2 hy=>h i y (by omega) (by omega) hy)).mono (by rw[Nat.add_mul];omega)
  ·exact(Grow.refl _).mono (by omega)
theorem gZ (hrep:∀line g d s,bG C g→cb C ins g s.items.length=true→Grow (cf lev) s (rep x ins line g d s))(hC:CxOk C)(hx:ScOk C x ins)(base:Int)(s:Gs):Grow ((ko C.p x.f - x.f) * (20 * cf lev+3)) s (aU C rep x ins base s).1:=by
 unfold aU
 obtain⟨ln,h1,h2⟩:=hx.fn
 obtain⟨e,h3,_,_,h4⟩:=hC.fn _ _ h1 h2
 obtain⟨e',g3,_,_,g5,_⟩:=hx.endE hC
 rw[h3]at g3
 injection g3 with g3
 subst g3
 rw[g5]
 refine wB hrep hC base (e - x.f) (x.f+1) (cq C s) fun i y k1 k2 hy=>?_
 by_cases hie:i=e
 ·subst hie
  obtain⟨z,hz,h7⟩:=bC h3
  rw[hy]at hz
  injection hz with hz
  subst hz
  omega
 ·exact(h4 i y (by omega) (by omega) hy).1
end
theorem eA {C:Cx}{ins:List Nat}{g n:Nat}(h:cb C ins g n=true):(ins.length:Int)≤C.b.fal∧bn C.p (g:Int) - g≤9∧n < 200∧g∉ins:=by
 unfold cb at h
 simp only[Bool.and_eq_true,decide_eq_true_eq,Bool.not_eq_true',List.contains_eq_mem,decide_eq_false_iff_not]at h
 exact⟨h.1,h.2.1,h.2.2.1,h.2.2.2⟩
theorem cR {C:Cx}(hC:CxOk C):∀(lev:Nat) {x:Sc} {ins:List Nat} (line g:Nat) (d:Int) (s:Gs),ScOk C x ins→bG C g→cb C ins g s.items.length=true→Grow (cf lev) s (aX C lev x ins line g d s)
 | 0,x,ins,line,g,d,s,hx,hg,hr=>(Grow.refl s).mono (by omega)
 | lev+1,x,ins,line,g,d,s,hx,hg,hr=>by
  obtain⟨r1,r2,_,_⟩:=eA hr
  have hin:=hC.inl
  have hy:=lj hC hx line hg
  have h1:=xt hC hx (by omega) line hg d s
  have h2:=sj (C:=C) x line (d - argsN C.p g) (ec C x line g d s)
  have h3:=gZ (lev:=lev) (rep:=aX C lev) (fun line g d s hg hr=>cR hC lev line g d s hy hg hr) hC hy (d - argsN C.p g) (bQ C x line (d - argsN C.p g) (ec C x line g d s))
  obtain⟨e,e1,e2,e3,e4,_⟩:=hy.endE hC
  have e5:bn C.p (g:Int)=(e:Int):=by rw[bf];exact be e1
  have e6:ko C.p (bI C x line g).f - (bI C x line g).f≤9:=by rw[e4];show e - g≤9;omega
  have h4:=((h1.trans h2).trans h3).mono (m:=cf (lev+1)) (by
   rw[cf]
   have:=Nat.mul_le_mul_right (20 * cf lev+3) e6
   omega)
  show Grow _ s (ia C (aU C (aX C lev)) x ins line g d s)
  unfold ia
  exact h4.set (fy _ _ _)
def lvOk (L:Ls):Prop:=L.lv.length≤L.g.items.length∧∀j∈L.lv,0≤j∧j < L.g.items.length
section
variable {C:Cx} {x:Sc} {ins:List Nat} {rep:Sc→List Nat→Nat→Nat→Int→Gs→Gs} {lev:Nat}
theorem lvOk.grow {n:Nat}{L L':Ls}(h:lvOk L)(hl:L'.lv=L.lv)(hg:Grow n L.g L'.g):lvOk L':=⟨by rw[hl];exact Nat.le_trans h.1 hg.ge,fun j hj=>by
 rw[hl]at hj
 have:=h.2 j hj
 have:=hg.ge
 omega⟩
theorem xm {L:Ls}(h:lvOk L)(k:Nat)(last:Bool)(d:Int):lvOk (aR C x k last d L):=by
 have hg:=lQ (C:=C) x k last d L
 unfold aR at hg ⊢
 split
 ·rename_i ho
  rw[if_pos ho]at hg
  split
  ·rename_i hf;rw[if_pos hf]at hg;exact h.grow rfl hg
  ·rename_i hf;rw[if_neg hf]at hg;exact h.grow rfl hg
 ·split
  ·exact h
  ·refine⟨by have:=h.1;simp only[az,List.length_append,List.length_cons,List.length_nil];omega,?_⟩
   intro j hj
   simp only[List.mem_append,List.mem_cons,List.not_mem_nil,or_false]at hj
   simp only[az,List.length_append,List.length_cons,List.length_nil]
   rcases hj with hj|rfl
   ·have:=h.2 j hj;omega
   ·omega
theorem Ar (hrep:∀line g d s,bG C g→cb C ins g s.items.length=true→Grow (cf lev) s (rep x ins line g d s))(hC:CxOk C){k:Nat}{ln:HH}(hk:C.p[k]?=some ln)(h0:ln.faa≠0)(base:Int){L:Ls}(h:lvOk L):lvOk (dI C rep x ins base k ln L):=by
 have hg:=li (x:=x) (ins:=ins) (rep:=rep) (lev:=lev) hrep hC hk h0 base L
 unfold dI at hg ⊢
 split
 ·rename_i h4;rw[if_pos h4]at hg;exact h.grow rfl hg
 ·rename_i h4
  rw[if_neg h4]at hg
  split
  ·rename_i h7
   rw[if_pos h7]at hg
   split
   ·exact xm (h.grow (L':={L with g:=az C L.g base 0 0 k x.chain}) rfl (ba ..)) _ _ _
   ·rename_i ho
    rw[if_neg ho]at hg
    split
    ·rename_i h5;rw[if_pos h5]at hg;exact h.grow rfl hg
    ·exact h
  ·rename_i h7
   have hl:=hC.line _ _ hk
   have h20:=kS (x:=x) (ins:=ins) (rep:=rep) (line:=k) (lev:=lev) (fun g d s=>hrep k g d s) hC hk (hl.2.2.2.2 (by omega)) base ⟨L.g.items,L.g.most,true⟩
   have hL1:lvOk {L with g:=eb C rep x ins k (exL ln.fad) base ⟨L.g.items,L.g.most,true⟩,heads:=L.heads.set k L.g.items.length}:=h.grow rfl ⟨h20.ge,h20.le,h20.most,h20.cap⟩
   split
   ·exact hL1.grow rfl (ba ..)
   ·split
    ·exact hL1.grow rfl (ba ..)
    ·split
     ·exact xm hL1 _ _ _
     ·exact hL1.grow rfl (ba ..)
theorem zR (k:Nat)(ln:HH){L:Ls}(h:lvOk L):lvOk (aW C x k ln L):=by
 have hg:=tR (C:=C) (x:=x) k ln L
 unfold aW at hg ⊢
 split
 ·rename_i h1;rw[if_pos h1]at hg;exact h.grow rfl hg
 ·exact h
theorem BR (hrep:∀line g d s,bG C g→cb C ins g s.items.length=true→Grow (cf lev) s (rep x ins line g d s))(hC:CxOk C)(base:Int):∀(n k:Nat) (L:Ls),(∀i y,k≤i→i < k+n→C.p[i]?=some y→y.faa≠0)→lvOk L→lvOk (jX C rep x ins base n k L)
 | 0,k,L,_,h=>h
 | n+1,k,L,hf,h=>by
  rw[jX]
  split
  ·rename_i ln hk
   exact BR hrep hC base n (k+1) _ (fun i y h1 h2 hy=>hf i y (by omega) (by omega) hy) (zR k ln (Ar hrep hC hk (hf k ln (Nat.le_refl _) (by omega) hk) base h))
  ·exact h
theorem jN (hC:CxOk C)(hx:ScOk C x ins){e:Nat}(he:endAt C.p x.f=some e){i:Nat}{y:HH}(h1:x.f+1≤i)(h2:i≤e)(hy:C.p[i]?=some y):y.faa≠0:=by
 obtain⟨ln,g1,g2⟩:=hx.fn
 obtain⟨e',h3,_,_,h4⟩:=hC.fn _ _ g1 g2
 rw[he]at h3
 injection h3 with h3
 subst h3
 by_cases hie:i=e
 ·subst hie
  obtain⟨z,hz,h7⟩:=bC he
  rw[hy]at hz
  injection hz with hz
  subst hz
  omega
 ·exact(h4 i y (by omega) (by omega) hy).1
theorem wG (hrep:∀line g d s,bG C g→cb C ins g s.items.length=true→Grow (cf lev) s (rep x ins line g d s))(hC:CxOk C)(hx:ScOk C x ins)(base:Int)(s:Gs):(aU C rep x ins base s).2.length≤(aU C rep x ins base s).1.items.length∧∀j∈(aU C rep x ins base s).2,0≤j∧j < ((aU C rep x ins base s).1.items.length:Int):=by
 unfold aU
 obtain⟨e,g3,g4,_,g5,_⟩:=hx.endE hC
 rw[g5]
 exact BR hrep hC base (e - x.f) (x.f+1) (cq C s) (fun i y k1 k2 hy=>jN hC hx g3 k1 (by omega) hy) ⟨by simp[cq],by intro j hj;simp[cq]at hj⟩
end
theorem ml (v j:Int):∀(js:List Int) (l:List HG),cz l v (js++[j])=bN (cz l v js) j v
 | [],l=>by rw[List.nil_append,cz,cz,cz]
 | a::js,l=>by rw[List.cons_append,cz,ml v j js,cz]
end Go.Proofs.YtjmplnfiabmalaaGreat
namespace Go.Proofs.YtjmplnfiabmalaaGreat
open Go.Sim
set_option maxRecDepth 100000
set_option maxHeartbeats 4000000
def cX (l:List HG)(v to:Int):List (Int×Int)→List HG
 | []=>l
 | e::r=>cX (if e.1=to then bN l e.2 v else l) v to r
theorem tH (v to:Int):∀(E:List (Int×Int)) (l:List HG),(cX l v to E).length=l.length
 | [],l=>rfl
 | e::r,l=>by
  rw[cX,tH v to r]
  split
  ·rw[dl]
  ·rfl
theorem jU (v to:Int):∀(A B:List (Int×Int)) (l:List HG),cX l v to (A++B)=cX (cX l v to A) v to B
 | [],B,l=>rfl
 | a::A,B,l=>by rw[List.cons_append,cX,jU v to A B,cX]
theorem Ao (v to:Int)(e:Int×Int)(E:List (Int×Int))(l:List HG):cX l v to (E++[e])=if e.1=to then bN (cX l v to E) e.2 v else cX l v to E:=by
 rw[jU];rfl
def jumps (p:List HH)(i:Nat):Prop:=cm p i=3∨cm p i=4∨cm p i=5
instance (p:List HH) (i:Nat):Decidable (jumps p i):=by unfold jumps;infer_instance
def kj (p:List HH)(i:Nat):Int:=if cm p i=4 then bn p (aI p i:Int)+1 else if cm p i=3∧0≤bg p (i:Int)then - bg p (i:Int)else bn p (i:Int)+1
def entry (p:List HH)(pos:List Int)(i:Nat):List (Int×Int):=if jumps p i then [(kj p i,atL pos i)]else []
def bc (p:List HH)(pos:List Int)(f:Nat):Nat→List (Int×Int)
 | 0=>[]
 | n+1=>bc p pos f n++entry p pos (f+n)
theorem ou (p:List HH)(pos:List Int)(f:Nat):∀n,(bc p pos f n).length≤n
 | 0=>Nat.le_refl _
 | n+1=>by
  have:=ou p pos f n
  rw[bc,List.length_append,entry]
  split <;> simp <;> omega
theorem eM {l:List Int}{k i:Nat}{v:Int}(h:i≠k):atL (l.set k v) i=atL l i:=by
 unfold atL
 rw[List.getElem?_set_ne (fun e=>h e.symm)]
theorem gQ {l:List Int}{k:Nat}{v:Int}(h:k < l.length):atL (l.set k v) k=v:=by
 unfold atL
 rw[List.getElem?_set_self h]
 rfl
theorem vz (p:List HH)(pos:List Int)(f k:Nat)(v:Int):∀n,f+n≤k→bc p (pos.set k v) f n=bc p pos f n
 | 0,_=>rfl
 | n+1,h=>by
  rw[bc,bc,vz p pos f k v n (by omega),entry,entry,eM (by omega)]
theorem kW {p:List HH}{pos:List Int}{f k:Nat}(h:f+1≤k)(hj:¬jumps p k):bc p pos (f+1) (k+1 - (f+1))=bc p pos (f+1) (k - (f+1)):=by
 rw[show k+1 - (f+1)=(k - (f+1))+1 by omega,bc,show f+1+(k - (f+1))=k by omega,entry,if_neg hj,List.append_nil]
theorem uy {p:List HH}{pos:List Int}{f k:Nat}(h:f+1≤k)(hj:jumps p k)(hk:k < pos.length)(v:Int):bc p pos (f+1) (k - (f+1))++[(kj p k,v)]=bc p (pos.set k v) (f+1) (k+1 - (f+1)):=by
 rw[show k+1 - (f+1)=(k - (f+1))+1 by omega,bc,vz _ _ _ _ _ _ (by omega),show f+1+(k - (f+1))=k by omega,entry,if_pos hj,gQ hk]
theorem lb {p:List HH}{pos:List Int}{f:Nat}:∀{n:Nat} {e:Int×Int},e∈bc p pos f n→∃i,f≤i∧i < f+n∧jumps p i∧e=(kj p i,atL pos i)
 | 0,e,h=>by simp[bc]at h
 | n+1,e,h=>by
  rw[bc,List.mem_append]at h
  rcases h with h|h
  ·obtain⟨i,h1,h2,h3⟩:=lb h
   exact⟨i,h1,by omega,h3⟩
  ·rw[entry]at h
   split at h
   ·rename_i hj
    simp only[List.mem_cons,List.not_mem_nil,or_false]at h
    exact⟨f+n,by omega,by omega,hj,h⟩
   ·cases h
theorem jF {v to:Int}:∀{E:List (Int×Int)} {l:List HG},(∀e∈E,e.1≠to)→cX l v to E=l
 | [],_,_=>rfl
 | e::r,l,h=>by rw[cX,if_neg (h e (by simp)),jF fun x hx=>h x (by simp[hx])]
theorem qs {p:List HH}{pos:List Int}{f i0:Nat}{v to:Int}(hj:jumps p i0)(ht:kj p i0=to):∀{n:Nat} {l:List HG},f≤i0→i0 < f+n→(∀i,f≤i→i < f+n→jumps p i→kj p i=to→i=i0)→cX l v to (bc p pos f n)=bN l (atL pos i0) v
 | 0,l,h1,h2,_=>by omega
 | n+1,l,h1,h2,hu=>by
  rw[bc,jU]
  by_cases h:i0=f+n
  ·subst h
   rw[jF (E:=bc p pos f n) (fun e he=>by
    obtain⟨i,k1,k2,k3,rfl⟩:=lb he
    intro hh
    have:=hu i k1 (by omega) k3 hh
    omega)]
   rw[entry,if_pos hj]
   show(if(kj p (f+n),atL pos (f+n)).1=to then _ else _)=_
   rw[if_pos ht]
  ·rw[qs hj ht h1 (by omega) fun i k1 k2 k3 k4=>hu i k1 (by omega) k3 k4]
   refine jF fun e he=>?_
   rw[entry]at he
   split at he
   ·rename_i hj2
    simp only[List.mem_cons,List.not_mem_nil,or_false]at he
    subst he
    intro hh
    exact h (hu (f+n) (by omega) (by omega) hj2 hh).symm
   ·cases he
theorem bp {p:List HH}{k:Nat}{ln:HH}(h:p[k]?=some ln):cm p k=ln.faa:=by rw[cm,h]
theorem nX {p:List HH}{i:Nat}{m:Int}(h:bn p (i:Int)=m)(h0:0≤m):endAt p i=some m.toNat:=by
 rw[bf]at h
 cases he:endAt p i with
 | none=>rw[he]at h;simp only[cu]at h;omega
 | some e=>rw[he]at h;simp only[cu]at h;congr 1;omega
theorem mq (p:List HH)(i:Nat):-1≤bn p (i:Int)∧bn p (i:Int)≤p.length:=by
 rw[bf]
 cases he:endAt p i with
 | none=>simp only[cu];omega
 | some e=>obtain⟨_,_,_,_,_,h⟩:=aF he;simp only[cu];omega
theorem fB {p:List HH}{i:Nat}:bg p (i:Int)=cu (elseAt p i):=by rw[bg,if_pos (by omega),Int.toNat_natCast]
theorem Bd {p:List HH}{i:Nat}(h:cm p i≠3):elseAt p i=none:=by
 cases he:elseAt p i with
 | none=>rfl
 | some j=>
  obtain⟨y,_,hy,h3,_⟩:=aY he
  exact absurd (by rw[bp hy];exact h3) h
section
variable {C:Cx} {x:Sc} {ins:List Nat}
theorem BJ (hC:CxOk C)(hx:ScOk C x ins){e:Nat}(he:endAt C.p x.f=some e){k i:Nat}(h1:x.f+1≤i)(h2:i < k)(h3:k≤e)(hj:jumps C.p i)(ht:kj C.p i=(k:Int)):cm C.p (k - 1)=7∧aI C.p (k - 1)≠x.f∧ik C.p (k - 1)=i:=by
 have hil:i < C.p.length:=by obtain⟨_,_,_,_,_,h⟩:=aF he;omega
 obtain⟨y,hy⟩:=ae hil
 have hky:=bp hy
 unfold kj at ht
 by_cases h4:cm C.p i=4
 ·rw[if_pos h4]at ht
  obtain⟨o1,o2,o3,o4⟩:=hx.own4 hC he (by omega) (by omega) hy (by rw[←hky];exact h4)
  have hee:=nX (show bn C.p (aI C.p i:Int)=((k - 1:Nat):Int) by omega) (by omega)
  rw[Int.toNat_natCast]at hee
  obtain⟨z,hz,h7⟩:=bC hee
  rw[iF hee,bp hz]
  refine⟨h7,by omega,?_⟩
  rw[ik,iF hee,o1]
 ·rw[if_neg h4]at ht
  split at ht
  ·omega
  ·rename_i hn
   have hee:=nX (show bn C.p (i:Int)=((k - 1:Nat):Int) by omega) (by omega)
   rw[Int.toNat_natCast]at hee
   obtain⟨z,hz,h7⟩:=bC hee
   rw[iF hee,bp hz]
   refine⟨h7,by omega,?_⟩
   rw[ik,iF hee]
   have:elseAt C.p i=none:=by
    by_cases h3':cm C.p i=3
    ·cases hel:elseAt C.p i with
     | none=>rfl
     | some j=>exact absurd ⟨h3',by rw[fB,hel];simp[cu]⟩ hn
    ·exact Bd h3'
   rw[this]
theorem xI (hC:CxOk C)(hx:ScOk C x ins){e:Nat}(he:endAt C.p x.f=some e){j:Nat}{ln:HH}(h1:x.f < j)(h2:j < e)(hl:C.p[j]?=some ln)(h7:ln.faa=7):x.f+1≤ik C.p j∧ik C.p j < j∧jumps C.p (ik C.p j)∧kj C.p (ik C.p j)=((j+1:Nat):Int)∧aI C.p j≠x.f:=by
 obtain⟨o1,o2⟩:=hx.own7 hC he h1 (by omega) hl h7
 rcases o2 with⟨o2,_⟩|⟨_,o3,o4,y,hy,ho⟩
 ·omega
 have hky:=bp hy
 have hend:bn C.p (aI C.p j:Int)=(j:Int):=by rw[bf];exact be o1
 unfold ik
 cases hel:elseAt C.p (aI C.p j)with
 | none=>
  dsimp only
  refine⟨by omega,o4,by unfold jumps;omega,?_,by omega⟩
  unfold kj
  rw[if_neg (by omega),if_neg (by rw[fB,hel];simp[cu]),hend]
  omega
 | some m=>
  obtain⟨z,m1,hz,z3,hm1,k1,k2,w,hw,w4⟩:=aY hel
  rw[o1]at hm1
  injection hm1 with hm1
  have hkw:=bp hw
  refine⟨by dsimp only;omega,by dsimp only;omega,by unfold jumps;dsimp only;omega,?_,by omega⟩
  unfold kj
  dsimp only
  rw[if_pos (by omega),pK hel,hend]
  omega
structure LInv (C:Cx) (lev:Nat) (x:Sc) (ins:List Nat) (d:Int) (e:Nat) (R:Ls) (k:Nat) (L:Ls):Prop where
 lo:x.f+1≤k
 hi:k≤e+1
 heads:L.heads.length=C.p.length
 pos:L.pos.length=C.p.length
 at_:∀i,x.f < i→i < k→jumps C.p i→0≤atL L.pos i∧atL L.pos i < L.g.items.length
 lv:lvOk L
 room:L.g.items.length+(e+1 - k) * (20 * cf lev+3)≤68719476736
 fin:jX C (aX C lev) x ins d (e+1 - k) k L=R
theorem Bp (rep:Sc→List Nat→Nat→Nat→Int→Gs→Gs)(base:Int)(k:Nat)(ln:HH)(L:Ls):(dI C rep x ins base k ln L).heads.length=L.heads.length∧(dI C rep x ins base k ln L).pos.length=L.pos.length:=by
 unfold dI aR
 repeat' split
 all_goals simp
theorem ot (k:Nat)(ln:HH)(L:Ls):(aW C x k ln L).heads=L.heads∧(aW C x k ln L).pos=L.pos∧(aW C x k ln L).lv=L.lv∧(aW C x k ln L).g.items.length=L.g.items.length∧(aW C x k ln L).g.most=L.g.most∧(aW C x k ln L).g.start=L.g.start:=by
 unfold aW
 split
 ·exact⟨rfl,rfl,rfl,dl _ _ _,rfl,rfl⟩
 ·exact⟨rfl,rfl,rfl,rfl,rfl,rfl⟩
theorem El (rep:Sc→List Nat→Nat→Nat→Int→Gs→Gs)(base:Int)(k:Nat)(ln:HH)(L:Ls)(hp:k < L.pos.length)(i:Nat):
  (i≠k→atL (dI C rep x ins base k ln L).pos i=atL L.pos i)∧((ln.faa=3∨ln.faa=4∨ln.faa=5)→0≤atL (dI C rep x ins base k ln L).pos k∧atL (dI C rep x ins base k ln L).pos k < (dI C rep x ins base k ln L).g.items.length):=by
 unfold dI
 by_cases h4:ln.faa=4
 ·rw[if_pos h4]
  refine⟨fun hi=>eM hi,fun _=>?_⟩
  simp only[gQ hp,dl,az,List.length_append,List.length_cons,List.length_nil]
  omega
 ·rw[if_neg h4]
  by_cases h7:ln.faa=7
  ·rw[if_pos h7]
   refine⟨fun _=>?_,fun h=>by omega⟩
   unfold aR
   repeat' split
   all_goals rfl
  ·rw[if_neg h7]
   by_cases h1:ln.faa=1
   ·rw[if_pos h1]
    exact⟨fun _=>rfl,fun h=>by omega⟩
   ·rw[if_neg h1]
    by_cases h2:ln.faa=2
    ·rw[if_pos h2]
     exact⟨fun _=>rfl,fun h=>by omega⟩
    ·rw[if_neg h2]
     by_cases h6:ln.faa=6
     ·rw[if_pos h6]
      refine⟨fun _=>?_,fun h=>by omega⟩
      unfold aR
      repeat' split
      all_goals rfl
     ·rw[if_neg h6]
      refine⟨fun hi=>eM hi,fun _=>?_⟩
      simp only[gQ hp,az,List.length_append,List.length_cons,List.length_nil]
      omega
theorem LInv.next (hC:CxOk C)(hx:ScOk C x ins){lev e k:Nat}{d:Int}{R L:Ls}{ln:HH}(he:endAt C.p x.f=some e)(h:LInv C lev x ins d e R k L)(hk:k≤e)(hl:C.p[k]?=some ln):LInv C lev x ins d e R (k+1) (aW C x k ln (dI C (aX C lev) x ins d k ln L)):=by
 have h0:=jN hC hx he h.lo hk hl
 have hrep:∀line g d s,bG C g→cb C ins g s.items.length=true→Grow (cf lev) s (aX C lev x ins line g d s):=fun line g d s hg hr=>cR hC lev line g d s hx hg hr
 have hA:=li (lev:=lev) (rep:=aX C lev) hrep hC hl h0 d L
 obtain⟨b1,b2,b3,b4,b5,b6⟩:=ot (C:=C) (x:=x) k ln (dI C (aX C lev) x ins d k ln L)
 obtain⟨a1,a2⟩:=Bp (C:=C) (x:=x) (ins:=ins) (aX C lev) d k ln L
 have hge:=hA.ge
 have hle:=hA.le
 have hr:=h.room
 refine⟨by have:=h.lo;omega,by omega,by rw[b1,a1];exact h.heads,by rw[b2,a2];exact h.pos,fun i h1 h2 hj=>?_,zR k ln (Ar (lev:=lev) hrep hC hl h0 d h.lv),?_,?_⟩
 ·rw[b2,b4]
  obtain⟨p1,p2⟩:=El (C:=C) (x:=x) (ins:=ins) (aX C lev) d k ln L (by rw[h.pos];exact aM hl) i
  by_cases hik:i=k
  ·subst hik
   refine p2 ?_
   unfold jumps at hj
   rw[bp hl]at hj
   exact hj
  ·rw[p1 hik]
   have:=h.at_ i h1 (by omega) hj
   omega
 ·rw[b4]
  obtain⟨n,hn⟩:∃n,e+1 - k=n+1:=⟨e - k,by omega⟩
  rw[hn,Nat.add_mul]at hr
  rw[show e+1 - (k+1)=n by omega]
  omega
 ·have hf:=h.fin
  obtain⟨n,hn⟩:∃n,e+1 - k=n+1:=⟨e - k,by omega⟩
  rw[hn,jX,hl]at hf
  rw[show e+1 - (k+1)=n by omega]
  exact hf
theorem AU (hC:CxOk C)(hx:ScOk C x ins){e k:Nat}{ln:HH}(he:endAt C.p x.f=some e)(h1:x.f+1≤k)(hk:k≤e)(hl:C.p[k]?=some ln)(A:Ls):
  (k+1≤e→cX A.g.items A.g.items.length ((k+1:Nat):Int) (bc C.p A.pos (x.f+1) (k+1 - (x.f+1)))=(aW C x k ln A).g.items)∧(k=e→A.g.items=(aW C x k ln A).g.items):=by
 constructor
 ·intro hke
  unfold aW
  by_cases h7:ln.faa=7
  ·obtain⟨q1,q2,q3,q4,q5⟩:=xI hC hx he (by omega) (by omega) hl h7
   rw[if_pos ⟨h7,q5⟩]
   refine qs q3 q4 q1 (by omega) fun i k1 k2 k3 k4=>?_
   obtain⟨_,_,t3⟩:=BJ hC hx he (k:=k+1) k1 (by omega) hke k3 k4
   rw[Nat.add_sub_cancel]at t3
   exact t3.symm
  ·rw[if_neg (by omega)]
   refine jF fun z hz=>?_
   obtain⟨i,k1,k2,k3,rfl⟩:=lb hz
   intro hh
   obtain⟨t1,_⟩:=BJ hC hx he (k:=k+1) k1 (by omega) hke k3 hh
   rw[Nat.add_sub_cancel,bp hl]at t1
   exact h7 t1
 ·rintro rfl
  unfold aW
  rw[if_neg]
  rintro⟨_,h⟩
  exact h (iF he)
theorem AQ (hC:CxOk C)(hx:ScOk C x ins){e k:Nat}{ln:HH}(he:endAt C.p x.f=some e)(h1:x.f+1≤k)(hk:k≤e)(hl:C.p[k]?=some ln)(h4:ln.faa=4)(pos:List Int)(l:List HG)(v:Int):
  cX l v (-(k:Int)) (bc C.p pos (x.f+1) (k+1 - (x.f+1)))=bN l (atL pos (aI C.p k)) v:=by
 obtain⟨o1,o2,o3,o4⟩:=hx.own4 hC he h1 hk hl h4
 obtain⟨y,m,hy,y3,hm,_,_,_⟩:=aY o1
 have hky:=bp hy
 have hel:bg C.p (aI C.p k:Int)=(k:Int):=by rw[fB];exact be o1
 refine qs (by unfold jumps;omega) (by unfold kj;rw[if_neg (by omega),if_pos ⟨by omega,by omega⟩,hel]) (by omega) (by omega) fun i k1 k2 k3 k4=>?_
 unfold kj at k4
 by_cases hi4:cm C.p i=4
 ·rw[if_pos hi4]at k4
  have:=mq C.p (aI C.p i)
  omega
 ·rw[if_neg hi4]at k4
  split at k4
  ·rename_i h3
   have hk':bg C.p (i:Int)=(k:Int):=by omega
   rw[fB]at hk'
   cases hie:elseAt C.p i with
   | none=>rw[hie]at hk';simp only[cu]at hk';omega
   | some j=>
    rw[hie]at hk'
    simp only[cu]at hk'
    have:j=k:=by omega
    subst this
    exact kZ hie o1
  ·have:=mq C.p i
   omega
end
end Go.Proofs.YtjmplnfiabmalaaGreat
