import Derived.Test.YtjmplnfiabmalaaGf
namespace Go.Proofs.Ytjmplnfiabmalaa
open Go.Sim
set_option maxRecDepth 100000
set_option maxHeartbeats 4000000
abbrev tvP (l:List Ah):TV:=tvL 4 (l.map Ah.tr)
abbrev vP (l:List Ah):AV:= .r (.c (.t (.lst 4 (l.map Ah.tr))))
theorem kZ (k:Int):Sim.Spec Try.prog 95 [tvI k] (rB (bh k)):=by
 refine an hΓ ap Try.func95 rfl (by decide) rfl ?_
 unfold bh
 repeat' ((conv=>whnf);first|refine Or.inl ?_|apply oi|(apply fi<;>intro h)|refine⟨_,rfl,?_⟩|exact rfl)
 all_goals try exact⟨KO⟩
 all_goals(refine⟨congrArg Tr.bool ?_⟩;simp_all;(try(rw[Bool.eq_iff_iff];simp;omega)))
theorem gP (k:Int):Sim.Spec Try.prog 84 [tvI k] (rB (bh k)):=by
 refine an hΓ ap Try.func84 rfl (by decide) rfl ?_
 unfold bh
 repeat' ((conv=>whnf);first|refine Or.inl ?_|apply oi|(apply fi<;>intro h)|refine⟨_,rfl,?_⟩|exact rfl)
 all_goals try exact⟨KO⟩
 all_goals(refine⟨congrArg Tr.bool ?_⟩;simp_all;(try(rw[Bool.eq_iff_iff];simp;omega)))
abbrev wJ (l:List Ah)(k:Nat)(R:Int):={q:Nat×Nat // q.1≤l.length∧q.2≤q.1∧(q.2=0→q.1=k)∧bN (endN (l.drop q.1) q.1 q.2)=R}
theorem nP {l:List Ah}{k:Nat}{x:Ah}(hx:l[k]?=some x)(ho:bh x.faa=true):endN (l.drop k) k 0=endAt l k:=by
 rw[bF hx,if_pos ho,kq hx ho]
theorem bI (l:List Ah)(k:Int)(hl:l.length≤1048576):Sim.Spec Try.prog 66 [tvP l,tvI k] (rI (br l k)):=by
 refine an hΓ ap Try.func66 rfl (by decide) rfl ?_
 have hlen:(l.map Ah.tr).length=l.length:=by simp
 by_cases hin:0≤k∧k < l.length
 ·obtain⟨h0,h1⟩:=hin
  obtain⟨k,rfl⟩:=Int.eq_ofNat_of_zero_le h0
  obtain⟨x,hx⟩:=ak (l:=l) (k:=k) (by omega)
  have hO:=kZ x.faa
  have hw:IntKind.i64.wrap (((l.map Ah.tr).length:Int) - 1)=(l.length:Int) - 1:=by rw[IntWalk.i64_in _ (by omega)];omega
  have hb:=aZ (k:Int) 0 (IntKind.i64.wrap (((l.map Ah.tr).length:Int) - 1))
  rw[within_iff.2 ⟨h0,by rw[hw];omega⟩]at hb
  cases ho:bh x.faa with
  | false=>
   rw[ho]at hO
   have:br l (k:Int)= -1:=by rw[aK,endAt,hx];dsimp only;rw[if_neg (by simp[ho])];rfl
   rw[this]
   repeat' ((conv=>whnf);first|refine Or.inl ?_|apply oi|(apply fi<;>intro h)|refine ci hb (ai rfl (ai rfl (ai rfl trivial))) ?_|refine⟨k,x.tr,rfl,ab hx,?_⟩|refine ci hO (ai rfl trivial) ?_|refine⟨_,rfl,?_⟩|exact rfl)
   all_goals try exact⟨KO⟩
   all_goals try exact KX
  | true=>
   rw[ho]at hO
   obtain⟨R,hR⟩:∃R,br l (k:Int)=R:=⟨_,rfl⟩
   rw[hR]
   rw[aK,←nP hx ho]at hR
   repeat' ((conv=>whnf);first|refine Or.inl ?_|apply oi|(apply fi<;>intro h)|refine ci hb (ai rfl (ai rfl (ai rfl trivial))) ?_|refine⟨k,x.tr,rfl,ab hx,?_⟩|refine ci hO (ai rfl trivial) ?_|refine⟨_,rfl,?_⟩|exact rfl)
   all_goals try exact⟨KO⟩
   all_goals try exact KX
   conv=>whnf
   refine⟨wJ l k R,fun q=>⟨[(0,vP l),(5,tI .i64 (q.1.2:Int)),(6,tI .i64 (q.1.1:Int))],[],[]⟩,fun q=>l.length - q.1.1,⟨(k,0),by dsimp only;omega,by omega,fun _=>rfl,hR⟩,?_,?_⟩
   ·skip
    repeat' ((conv=>whnf);first|refine Or.inl ?_|apply oi|(apply fi<;>intro h)|refine⟨_,rfl,?_⟩|exact rfl)
    all_goals try exact⟨KO⟩
   intro⟨⟨i,o⟩,hi,hoi,hs,hr⟩
   dsimp only at hi hoi hs hr ⊢
   by_cases hlt:i < l.length
   ·obtain⟨y,hy⟩:=ak hlt
    have hO2:=kZ y.faa
    rw[bF hy]at hr
    cases hoy:bh y.faa with
    | true=>
     rw[hoy]at hO2
     rw[if_pos hoy]at hr
     have h7:y.faa≠7:=by rw[opensK_iff]at hoy;omega
     repeat' ((conv=>whnf);first|refine Or.inl ?_|apply oi|(apply fi<;>intro h)|refine⟨i,y.tr,rfl,ab hy,?_⟩|refine ci hO2 (ai rfl trivial) ?_|refine⟨_,rfl,?_⟩|exact rfl)
     all_goals try exact⟨KO⟩
     all_goals try exact KX
     all_goals try(exfalso;(try simp_all[af]);(try omega);done)
     all_goals try exact K5
     conv=>whnf
     refine⟨⟨(i+1,o+1),by dsimp only;omega,by dsimp only;omega,fun h=>by omega,hr⟩,?_,KD⟩
     repeat' ((conv=>whnf);first|refine Or.inl ?_|apply oi|(apply fi<;>intro h)|refine⟨_,rfl,?_⟩|exact rfl)
     all_goals try exact⟨KO⟩
     all_goals try exact⟨K4⟩
     all_goals exact⟨by dsimp only;rw[IntWalk.i64_in _ (by omega)];rfl⟩
    | false=>
     rw[hoy]at hO2
     rw[if_neg (by simp[hoy])]at hr
     have hne:o≠0:=fun h=>by
      have:=hs h
      subst this
      rw[hx]at hy
      injection hy with hy
      subst hy
      rw[ho]at hoy
      cases hoy
     by_cases h7:y.faa=7
     ·rw[if_pos h7]at hr
      by_cases h1:o=1
      ·rw[if_pos h1]at hr
       subst hr
       subst h1
       repeat' ((conv=>whnf);first|refine Or.inl ?_|apply oi|(apply fi<;>intro h)|refine⟨i,y.tr,rfl,ab hy,?_⟩|refine ci hO2 (ai rfl trivial) ?_|refine⟨_,rfl,?_⟩|exact rfl)
       all_goals try exact⟨KO⟩
       all_goals try exact KX
       all_goals try(exfalso;(try simp_all[af]);(try omega);done)
      ·rw[if_neg h1]at hr
       repeat' ((conv=>whnf);first|refine Or.inl ?_|apply oi|(apply fi<;>intro h)|refine⟨i,y.tr,rfl,ab hy,?_⟩|refine ci hO2 (ai rfl trivial) ?_|refine⟨_,rfl,?_⟩|exact rfl)
       all_goals try exact⟨KO⟩
       all_goals try exact KX
       all_goals try(exfalso;(try simp_all[af]);(try omega);done)
       all_goals try exact K5
       conv=>whnf
       refine⟨⟨(i+1,o - 1),by dsimp only;omega,by dsimp only;omega,fun h=>by omega,hr⟩,?_,KD⟩
       repeat' ((conv=>whnf);first|refine Or.inl ?_|apply oi|(apply fi<;>intro h)|refine⟨_,rfl,?_⟩|exact rfl)
       all_goals try exact⟨KO⟩
       all_goals try exact⟨K4⟩
       all_goals exact⟨by dsimp only;congr 1;rw[IntWalk.i64_in _ (by omega)];omega⟩
     ·rw[if_neg h7]at hr
      repeat' ((conv=>whnf);first|refine Or.inl ?_|apply oi|(apply fi<;>intro h)|refine⟨i,y.tr,rfl,ab hy,?_⟩|refine ci hO2 (ai rfl trivial) ?_|refine⟨_,rfl,?_⟩|exact rfl)
      all_goals try exact⟨KO⟩
      all_goals try exact KX
      all_goals try(exfalso;(try simp_all[af]);(try omega);done)
      all_goals try exact K6
      conv=>whnf
      refine⟨⟨(i+1,o),by dsimp only;omega,by dsimp only;omega,fun h=>by omega,hr⟩,?_,KD⟩
      repeat' ((conv=>whnf);first|refine Or.inl ?_|apply oi|(apply fi<;>intro h)|refine⟨_,rfl,?_⟩|exact rfl)
      all_goals try exact⟨KO⟩
      all_goals try exact⟨K4⟩
   ·rw[fm (by omega)]at hr
    subst hr
    repeat' ((conv=>whnf);first|refine Or.inl ?_|apply oi|(apply fi<;>intro h)|refine⟨_,rfl,?_⟩|exact rfl)
    all_goals try exact⟨KO⟩
    all_goals try exact KX
 ·have:br l k= -1:=by
   rw[br]
   split
   ·rw[endAt,List.getElem?_eq_none (by omega)];rfl
   ·rfl
  rw[this]
  have hb:=aZ k 0 (IntKind.i64.wrap (((l.map Ah.tr).length:Int) - 1))
  have hw:IntKind.i64.wrap (((l.map Ah.tr).length:Int) - 1)=(l.length:Int) - 1:=by rw[IntWalk.i64_in _ (by omega)];omega
  have hf:af k 0 (IntKind.i64.wrap (((l.map Ah.tr).length:Int) - 1))=false:=by
   cases hx:af k 0 (IntKind.i64.wrap (((l.map Ah.tr).length:Int) - 1))with
   | false=>rfl
   | true=>have:=within_iff.1 hx;rw[hw]at this;exact absurd ⟨this.1,by omega⟩ hin
  rw[hf]at hb
  repeat' ((conv=>whnf);first|refine Or.inl ?_|apply oi|(apply fi<;>intro h)|refine ci hb (ai rfl (ai rfl (ai rfl trivial))) ?_|refine⟨_,rfl,?_⟩|exact rfl)
  all_goals try exact⟨KO⟩
  all_goals try exact KX
theorem bp (l:List Ah)(k:Int)(hl:l.length≤1048576):Sim.Spec Try.prog 50 [tvP l,tvI k] (rI (br l k)):=by
 refine an hΓ ap Try.func50 rfl (by decide) rfl ?_
 have hlen:(l.map Ah.tr).length=l.length:=by simp
 by_cases hin:0≤k∧k < l.length
 ·obtain⟨h0,h1⟩:=hin
  obtain⟨k,rfl⟩:=Int.eq_ofNat_of_zero_le h0
  obtain⟨x,hx⟩:=ak (l:=l) (k:=k) (by omega)
  have hO:=gP x.faa
  skip
  cases ho:bh x.faa with
  | false=>
   rw[ho]at hO
   have:br l (k:Int)= -1:=by rw[aK,endAt,hx];dsimp only;rw[if_neg (by simp[ho])];rfl
   rw[this]
   repeat' ((conv=>whnf);first|refine Or.inl ?_|apply oi|(apply fi<;>intro h)|refine⟨k,x.tr,rfl,ab hx,?_⟩|refine ci hO (ai rfl trivial) ?_|refine⟨_,rfl,?_⟩|exact rfl)
   all_goals try exact⟨KO⟩
   all_goals try exact KX
  | true=>
   rw[ho]at hO
   obtain⟨R,hR⟩:∃R,br l (k:Int)=R:=⟨_,rfl⟩
   rw[hR]
   rw[aK,←nP hx ho]at hR
   repeat' ((conv=>whnf);first|refine Or.inl ?_|apply oi|(apply fi<;>intro h)|refine⟨k,x.tr,rfl,ab hx,?_⟩|refine ci hO (ai rfl trivial) ?_|refine⟨_,rfl,?_⟩|exact rfl)
   all_goals try exact⟨KO⟩
   all_goals try exact KX
   conv=>whnf
   refine⟨wJ l k R,fun q=>⟨[(0,vP l),(5,tI .i64 (q.1.2:Int)),(6,tI .i64 (q.1.1:Int))],[],[]⟩,fun q=>l.length - q.1.1,⟨(k,0),by dsimp only;omega,by omega,fun _=>rfl,hR⟩,?_,?_⟩
   ·skip
    repeat' ((conv=>whnf);first|refine Or.inl ?_|apply oi|(apply fi<;>intro h)|refine⟨_,rfl,?_⟩|exact rfl)
    all_goals try exact⟨KO⟩
   intro⟨⟨i,o⟩,hi,hoi,hs,hr⟩
   dsimp only at hi hoi hs hr ⊢
   by_cases hlt:i < l.length
   ·obtain⟨y,hy⟩:=ak hlt
    have hO2:=gP y.faa
    rw[bF hy]at hr
    cases hoy:bh y.faa with
    | true=>
     rw[hoy]at hO2
     rw[if_pos hoy]at hr
     have h7:y.faa≠7:=by rw[opensK_iff]at hoy;omega
     repeat' ((conv=>whnf);first|refine Or.inl ?_|apply oi|(apply fi<;>intro h)|refine⟨i,y.tr,rfl,ab hy,?_⟩|refine ci hO2 (ai rfl trivial) ?_|refine⟨_,rfl,?_⟩|exact rfl)
     all_goals try exact⟨KO⟩
     all_goals try exact KX
     all_goals try(exfalso;(try simp_all[af]);(try omega);done)
     all_goals try exact K5
     conv=>whnf
     refine⟨⟨(i+1,o+1),by dsimp only;omega,by dsimp only;omega,fun h=>by omega,hr⟩,?_,KD⟩
     repeat' ((conv=>whnf);first|refine Or.inl ?_|apply oi|(apply fi<;>intro h)|refine⟨_,rfl,?_⟩|exact rfl)
     all_goals try exact⟨KO⟩
     all_goals try exact⟨K4⟩
     all_goals exact⟨by dsimp only;rw[IntWalk.i64_in _ (by omega)];rfl⟩
    | false=>
     rw[hoy]at hO2
     rw[if_neg (by simp[hoy])]at hr
     have hne:o≠0:=fun h=>by
      have:=hs h
      subst this
      rw[hx]at hy
      injection hy with hy
      subst hy
      rw[ho]at hoy
      cases hoy
     by_cases h7:y.faa=7
     ·rw[if_pos h7]at hr
      by_cases h1:o=1
      ·rw[if_pos h1]at hr
       subst hr
       subst h1
       repeat' ((conv=>whnf);first|refine Or.inl ?_|apply oi|(apply fi<;>intro h)|refine⟨i,y.tr,rfl,ab hy,?_⟩|refine ci hO2 (ai rfl trivial) ?_|refine⟨_,rfl,?_⟩|exact rfl)
       all_goals try exact⟨KO⟩
       all_goals try exact KX
       all_goals try(exfalso;(try simp_all[af]);(try omega);done)
      ·rw[if_neg h1]at hr
       repeat' ((conv=>whnf);first|refine Or.inl ?_|apply oi|(apply fi<;>intro h)|refine⟨i,y.tr,rfl,ab hy,?_⟩|refine ci hO2 (ai rfl trivial) ?_|refine⟨_,rfl,?_⟩|exact rfl)
       all_goals try exact⟨KO⟩
       all_goals try exact KX
       all_goals try(exfalso;(try simp_all[af]);(try omega);done)
       all_goals try exact K5
       conv=>whnf
       refine⟨⟨(i+1,o - 1),by dsimp only;omega,by dsimp only;omega,fun h=>by omega,hr⟩,?_,KD⟩
       repeat' ((conv=>whnf);first|refine Or.inl ?_|apply oi|(apply fi<;>intro h)|refine⟨_,rfl,?_⟩|exact rfl)
       all_goals try exact⟨KO⟩
       all_goals try exact⟨K4⟩
       all_goals exact⟨by dsimp only;congr 1;rw[IntWalk.i64_in _ (by omega)];omega⟩
     ·rw[if_neg h7]at hr
      repeat' ((conv=>whnf);first|refine Or.inl ?_|apply oi|(apply fi<;>intro h)|refine⟨i,y.tr,rfl,ab hy,?_⟩|refine ci hO2 (ai rfl trivial) ?_|refine⟨_,rfl,?_⟩|exact rfl)
      all_goals try exact⟨KO⟩
      all_goals try exact KX
      all_goals try(exfalso;(try simp_all[af]);(try omega);done)
      all_goals try exact K6
      conv=>whnf
      refine⟨⟨(i+1,o),by dsimp only;omega,by dsimp only;omega,fun h=>by omega,hr⟩,?_,KD⟩
      repeat' ((conv=>whnf);first|refine Or.inl ?_|apply oi|(apply fi<;>intro h)|refine⟨_,rfl,?_⟩|exact rfl)
      all_goals try exact⟨KO⟩
      all_goals try exact⟨K4⟩
   ·rw[fm (by omega)]at hr
    subst hr
    repeat' ((conv=>whnf);first|refine Or.inl ?_|apply oi|(apply fi<;>intro h)|refine⟨_,rfl,?_⟩|exact rfl)
    all_goals try exact⟨KO⟩
    all_goals try exact KX
 ·have:br l k= -1:=by
   rw[br]
   split
   ·rw[endAt,List.getElem?_eq_none (by omega)];rfl
   ·rfl
  rw[this]
  repeat' ((conv=>whnf);first|refine Or.inl ?_|apply oi|(apply fi<;>intro h)|refine⟨_,rfl,?_⟩|exact rfl)
  all_goals try exact⟨KO⟩
  all_goals try exact KX
theorem qe (l:List (List UInt8)):flat (l.map ah):=dq _ (by intro x c hc sz rs e;subst e;simp[ah]at hc)
theorem oc {l:List Ah}{k:Nat}{x:Ah}(hx:l[k]?=some x)(h:x.faa≠3∨endAt l k=none):elseAt l k=none:=by
 unfold elseAt
 rw[hx]
 cases he:endAt l k with
 | none=>rfl
 | some e=>
  dsimp only
  rw[if_neg]
  rcases h with h|h
  ·exact h
  ·rw[he]at h;cases h
theorem fA (l:List Ah)(k:Int)(hl:l.length≤1048576):Sim.Spec Try.prog 69 [tvP l,tvI k] (rI (aL l k)):=by
 refine an hΓ ap Try.func69 rfl (by decide) rfl ?_
 have hlen:(l.map Ah.tr).length=l.length:=by simp
 have hE:=bI l k hl
 cases he:endAt l k.toNat with
 | none=>
  have h1:br l k= -1:=by rw[br,he];split <;> rfl
  have h2:aL l k= -1:=by
   rw[aL]
   split
   ·unfold elseAt;rw[he];cases l[k.toNat]? <;> rfl
   ·rfl
  rw[h1]at hE
  rw[h2]
  repeat' ((conv=>whnf);first|refine Or.inl ?_|apply oi|(apply fi<;>intro h)|refine ci hE (ai rfl (ai rfl trivial)) ?_|refine⟨_,rfl,?_⟩|exact rfl)
  all_goals try exact⟨KO⟩
  all_goals try exact KX
 | some e=>
  obtain⟨x,hx,ho,_,hke,hel⟩:=aw he
  by_cases h0:0≤k
  ·obtain⟨k,rfl⟩:=Int.eq_ofNat_of_zero_le h0
   rw[Int.toNat_natCast]at he hx hke
   rw[aK,aN he]at hE
   by_cases h3:x.faa=3
   ·obtain⟨R,hR⟩:∃R,aL l (k:Int)=R:=⟨_,rfl⟩
    rw[hR]
    have hR:bN (elseN l e (e - (k+1)) (k+1))=R:=by
     rw[aL,if_pos h0,Int.toNat_natCast,elseAt,hx,he]at hR
     dsimp only at hR
     rw[if_pos h3]at hR
     exact hR
    repeat' ((conv=>whnf);first|refine Or.inl ?_|apply oi|(apply fi<;>intro h)|refine ci hE (ai rfl (ai rfl trivial)) ?_|refine⟨k,x.tr,rfl,ab hx,?_⟩|refine⟨_,rfl,?_⟩|exact rfl)
    all_goals try exact⟨KO⟩
    all_goals try exact KX
    all_goals try(exfalso;(try simp_all[af]);(try omega);done)
    conv=>whnf
    refine⟨{i:Nat // k < i∧i≤e∧bN (elseN l e (e - i) i)=R},fun q=>⟨[(0,vP l),(5,tI .i64 (e:Int)),(6,tI .i64 (q.1:Int))],[],[]⟩,fun q=>e - q.1,⟨k+1,by omega,by omega,hR⟩,?_,?_⟩
    ·skip
     repeat' ((conv=>whnf);first|refine Or.inl ?_|apply oi|(apply fi<;>intro h)|refine⟨_,rfl,?_⟩|exact rfl)
     all_goals try exact⟨KO⟩
     all_goals exact⟨by dsimp only;rw[IntWalk.i64_in _ (by omega)];rfl⟩
    intro⟨i,hki,hi,hr⟩
    dsimp only at hki hi hr ⊢
    by_cases hlt:i < e
    ·obtain⟨y,hy⟩:=ak (l:=l) (k:=i) (by omega)
     rw[oL hlt hy]at hr
     have hE2:=bI l (i:Int) hl
     by_cases h4:y.faa=4
     ·rw[if_pos h4]at hr
      subst hr
      repeat' ((conv=>whnf);first|refine Or.inl ?_|apply oi|(apply fi<;>intro h)|refine ci hE2 (ai rfl (ai rfl trivial)) ?_|refine⟨i,y.tr,rfl,ab hy,?_⟩|refine⟨_,rfl,?_⟩|exact rfl)
      all_goals try exact⟨KO⟩
      all_goals try exact KX
      all_goals try(exfalso;(try simp_all[af]);(try omega);done)
     ·rw[if_neg h4]at hr
      by_cases h5:y.faa=3∨y.faa=5
      ·rw[if_pos h5]at hr
       obtain⟨m,hm,hm1,hm2⟩:=bt he (i:=i) hki hlt hy (opensK_iff.2 (by omega))
       rw[hm]at hr
       dsimp only at hr
       rw[aK,aN hm]at hE2
       repeat' ((conv=>whnf);first|refine Or.inl ?_|apply oi|(apply fi<;>intro h)|refine ci hE2 (ai rfl (ai rfl trivial)) ?_|refine⟨i,y.tr,rfl,ab hy,?_⟩|refine⟨_,rfl,?_⟩|exact rfl)
       all_goals try exact⟨KO⟩
       all_goals try exact KX
       all_goals try(exfalso;(try simp_all[af]);(try omega);done)
       all_goals
        conv=>whnf
        refine⟨⟨m+1,by omega,by omega,hr⟩,?_,KD⟩
        repeat' ((conv=>whnf);first|refine Or.inl ?_|apply oi|(apply fi<;>intro h)|refine⟨_,rfl,?_⟩|exact rfl)
        all_goals try exact⟨KO⟩
        all_goals try exact⟨K4⟩
        all_goals exact⟨by dsimp only;rw[IntWalk.i64_in _ (by omega)];rfl⟩
      ·rw[if_neg h5]at hr
       repeat' ((conv=>whnf);first|refine Or.inl ?_|apply oi|(apply fi<;>intro h)|refine ci hE2 (ai rfl (ai rfl trivial)) ?_|refine⟨i,y.tr,rfl,ab hy,?_⟩|refine⟨_,rfl,?_⟩|exact rfl)
       all_goals try exact⟨KO⟩
       all_goals try exact KX
       all_goals try(exfalso;(try simp_all[af]);(try omega);done)
       all_goals try(exfalso;simp_all;done)
       conv=>whnf
       refine⟨⟨i+1,by omega,by omega,hr⟩,?_,KD⟩
       repeat' ((conv=>whnf);first|refine Or.inl ?_|apply oi|(apply fi<;>intro h)|refine⟨_,rfl,?_⟩|exact rfl)
       all_goals try exact⟨KO⟩
       all_goals try exact⟨K4⟩
       all_goals exact⟨by dsimp only;rw[IntWalk.i64_in _ (by omega)];rfl⟩
    ·rw[pM (by omega)]at hr
     subst hr
     repeat' ((conv=>whnf);first|refine Or.inl ?_|apply oi|(apply fi<;>intro h)|refine⟨_,rfl,?_⟩|exact rfl)
     all_goals try exact⟨KO⟩
     all_goals try exact KX
   ·have h2:aL l (k:Int)= -1:=by
     rw[aL,if_pos h0,Int.toNat_natCast,oc hx (.inl h3)];rfl
    rw[h2]
    repeat' ((conv=>whnf);first|refine Or.inl ?_|apply oi|(apply fi<;>intro h)|refine ci hE (ai rfl (ai rfl trivial)) ?_|refine⟨k,x.tr,rfl,ab hx,?_⟩|refine⟨_,rfl,?_⟩|exact rfl)
    all_goals try exact⟨KO⟩
    all_goals try exact KX
    all_goals try(exfalso;(try simp_all[af]);(try omega);done)
  ·have h1:br l k= -1:=by rw[br,if_neg h0]
   have h2:aL l k= -1:=by rw[aL,if_neg h0]
   rw[h1]at hE
   rw[h2]
   repeat' ((conv=>whnf);first|refine Or.inl ?_|apply oi|(apply fi<;>intro h)|refine ci hE (ai rfl (ai rfl trivial)) ?_|refine⟨_,rfl,?_⟩|exact rfl)
   all_goals try exact⟨KO⟩
   all_goals try exact KX
theorem fH (l:List Ah)(k:Int)(hl:l.length≤1048576):Sim.Spec Try.prog 58 [tvP l,tvI k] (rI (aL l k)):=by
 refine an hΓ ap Try.func58 rfl (by decide) rfl ?_
 have hlen:(l.map Ah.tr).length=l.length:=by simp
 have hE:=bp l k hl
 cases he:endAt l k.toNat with
 | none=>
  have h1:br l k= -1:=by rw[br,he];split <;> rfl
  have h2:aL l k= -1:=by
   rw[aL]
   split
   ·unfold elseAt;rw[he];cases l[k.toNat]? <;> rfl
   ·rfl
  rw[h1]at hE
  rw[h2]
  repeat' ((conv=>whnf);first|refine Or.inl ?_|apply oi|(apply fi<;>intro h)|refine ci hE (ai rfl (ai rfl trivial)) ?_|refine⟨_,rfl,?_⟩|exact rfl)
  all_goals try exact⟨KO⟩
  all_goals try exact KX
 | some e=>
  obtain⟨x,hx,ho,_,hke,hel⟩:=aw he
  by_cases h0:0≤k
  ·obtain⟨k,rfl⟩:=Int.eq_ofNat_of_zero_le h0
   rw[Int.toNat_natCast]at he hx hke
   rw[aK,aN he]at hE
   by_cases h3:x.faa=3
   ·obtain⟨R,hR⟩:∃R,aL l (k:Int)=R:=⟨_,rfl⟩
    rw[hR]
    have hR:bN (elseN l e (e - (k+1)) (k+1))=R:=by
     rw[aL,if_pos h0,Int.toNat_natCast,elseAt,hx,he]at hR
     dsimp only at hR
     rw[if_pos h3]at hR
     exact hR
    repeat' ((conv=>whnf);first|refine Or.inl ?_|apply oi|(apply fi<;>intro h)|refine ci hE (ai rfl (ai rfl trivial)) ?_|refine⟨k,x.tr,rfl,ab hx,?_⟩|refine⟨_,rfl,?_⟩|exact rfl)
    all_goals try exact⟨KO⟩
    all_goals try exact KX
    all_goals try(exfalso;(try simp_all[af]);(try omega);done)
    conv=>whnf
    refine⟨{i:Nat // k < i∧i≤e∧bN (elseN l e (e - i) i)=R},fun q=>⟨[(0,vP l),(5,tI .i64 (e:Int)),(6,tI .i64 (q.1:Int))],[],[]⟩,fun q=>e - q.1,⟨k+1,by omega,by omega,hR⟩,?_,?_⟩
    ·skip
     repeat' ((conv=>whnf);first|refine Or.inl ?_|apply oi|(apply fi<;>intro h)|refine⟨_,rfl,?_⟩|exact rfl)
     all_goals try exact⟨KO⟩
     all_goals exact⟨by dsimp only;rw[IntWalk.i64_in _ (by omega)];rfl⟩
    intro⟨i,hki,hi,hr⟩
    dsimp only at hki hi hr ⊢
    by_cases hlt:i < e
    ·obtain⟨y,hy⟩:=ak (l:=l) (k:=i) (by omega)
     rw[oL hlt hy]at hr
     have hE2:=bp l (i:Int) hl
     by_cases h4:y.faa=4
     ·rw[if_pos h4]at hr
      subst hr
      repeat' ((conv=>whnf);first|refine Or.inl ?_|apply oi|(apply fi<;>intro h)|refine ci hE2 (ai rfl (ai rfl trivial)) ?_|refine⟨i,y.tr,rfl,ab hy,?_⟩|refine⟨_,rfl,?_⟩|exact rfl)
      all_goals try exact⟨KO⟩
      all_goals try exact KX
      all_goals try(exfalso;(try simp_all[af]);(try omega);done)
     ·rw[if_neg h4]at hr
      by_cases h5:y.faa=3∨y.faa=5
      ·rw[if_pos h5]at hr
       obtain⟨m,hm,hm1,hm2⟩:=bt he (i:=i) hki hlt hy (opensK_iff.2 (by omega))
       rw[hm]at hr
       dsimp only at hr
       rw[aK,aN hm]at hE2
       repeat' ((conv=>whnf);first|refine Or.inl ?_|apply oi|(apply fi<;>intro h)|refine ci hE2 (ai rfl (ai rfl trivial)) ?_|refine⟨i,y.tr,rfl,ab hy,?_⟩|refine⟨_,rfl,?_⟩|exact rfl)
       all_goals try exact⟨KO⟩
       all_goals try exact KX
       all_goals try(exfalso;(try simp_all[af]);(try omega);done)
       all_goals
        conv=>whnf
        refine⟨⟨m+1,by omega,by omega,hr⟩,?_,KD⟩
        repeat' ((conv=>whnf);first|refine Or.inl ?_|apply oi|(apply fi<;>intro h)|refine⟨_,rfl,?_⟩|exact rfl)
        all_goals try exact⟨KO⟩
        all_goals try exact⟨K4⟩
        all_goals exact⟨by dsimp only;rw[IntWalk.i64_in _ (by omega)];rfl⟩
      ·rw[if_neg h5]at hr
       repeat' ((conv=>whnf);first|refine Or.inl ?_|apply oi|(apply fi<;>intro h)|refine ci hE2 (ai rfl (ai rfl trivial)) ?_|refine⟨i,y.tr,rfl,ab hy,?_⟩|refine⟨_,rfl,?_⟩|exact rfl)
       all_goals try exact⟨KO⟩
       all_goals try exact KX
       all_goals try(exfalso;(try simp_all[af]);(try omega);done)
       all_goals try(exfalso;simp_all;done)
       conv=>whnf
       refine⟨⟨i+1,by omega,by omega,hr⟩,?_,KD⟩
       repeat' ((conv=>whnf);first|refine Or.inl ?_|apply oi|(apply fi<;>intro h)|refine⟨_,rfl,?_⟩|exact rfl)
       all_goals try exact⟨KO⟩
       all_goals try exact⟨K4⟩
       all_goals exact⟨by dsimp only;rw[IntWalk.i64_in _ (by omega)];rfl⟩
    ·rw[pM (by omega)]at hr
     subst hr
     repeat' ((conv=>whnf);first|refine Or.inl ?_|apply oi|(apply fi<;>intro h)|refine⟨_,rfl,?_⟩|exact rfl)
     all_goals try exact⟨KO⟩
     all_goals try exact KX
   ·have h2:aL l (k:Int)= -1:=by
     rw[aL,if_pos h0,Int.toNat_natCast,oc hx (.inl h3)];rfl
    rw[h2]
    repeat' ((conv=>whnf);first|refine Or.inl ?_|apply oi|(apply fi<;>intro h)|refine ci hE (ai rfl (ai rfl trivial)) ?_|refine⟨k,x.tr,rfl,ab hx,?_⟩|refine⟨_,rfl,?_⟩|exact rfl)
    all_goals try exact⟨KO⟩
    all_goals try exact KX
    all_goals try(exfalso;(try simp_all[af]);(try omega);done)
  ·have h1:br l k= -1:=by rw[br,if_neg h0]
   have h2:aL l k= -1:=by rw[aL,if_neg h0]
   rw[h1]at hE
   rw[h2]
   repeat' ((conv=>whnf);first|refine Or.inl ?_|apply oi|(apply fi<;>intro h)|refine ci hE (ai rfl (ai rfl trivial)) ?_|refine⟨_,rfl,?_⟩|exact rfl)
   all_goals try exact⟨KO⟩
   all_goals try exact KX
theorem iA (l:List Ah)(hl:l.length≤1048576):Sim.Spec Try.prog 64 [tvP l] (rL 1 ((bA l).map fun n:Nat=>aa n)):=by
 refine an hΓ ap Try.func64 rfl (by decide) rfl ?_
 have hlen:(l.map Ah.tr).length=l.length:=by simp
 obtain⟨R,hR⟩:∃R,bA l=R:=⟨_,rfl⟩
 rw[hR]
 repeat' ((conv=>whnf);first|refine Or.inl ?_|apply oi|(apply fi<;>intro h)|refine⟨_,rfl,?_⟩|exact rfl)
 all_goals try exact⟨KO⟩
 conv=>whnf
 refine⟨{q:Nat×List Nat // q.1≤l.length∧q.2.length≤q.1∧q.2++bU (l.drop q.1) q.1=R},fun q=>⟨[(0,vP l),(3,.r (.c (.own (6,0,0)))),(7,vP l),(8,tI .i64 ((l.map Ah.tr).length:Int)),(9,tI .i64 (q.1.1:Int))],[((6,0,0),some (.arr true 1 (q.1.2.map fun n:Nat=>aa n)))],[6]⟩,fun q=>l.length - q.1.1,⟨(0,[]),by simp,by simp,by simpa [bA]using hR⟩,?_,?_⟩
 ·skip
  repeat' ((conv=>whnf);first|refine Or.inl ?_|apply oi|(apply fi<;>intro h)|refine⟨_,rfl,?_⟩|exact rfl)
  all_goals try exact⟨KO⟩
 intro⟨⟨k,acc⟩,hk,hal,hr⟩
 dsimp only at hk hal hr ⊢
 have hacc:(acc.map fun n:Nat=>aa n).length=acc.length:=by simp
 by_cases hlt:k < l.length
 ·obtain⟨x,hx⟩:=ak hlt
  rw[fR hx]at hr
  by_cases h0:x.faa=0
  ·rw[if_pos h0]at hr
   repeat' ((conv=>whnf);first|refine Or.inl ?_|apply oi|(apply fi<;>intro h)|refine⟨k,x.tr,rfl,ab hx,?_⟩|refine⟨_,rfl,?_⟩|exact rfl)
   all_goals try exact⟨KO⟩
   all_goals try exact KX
   all_goals try(exfalso;(try simp_all[af]);(try omega);done)
   all_goals try exact⟨⟨by simp;omega,by simp;omega⟩⟩
   conv=>whnf
   refine⟨⟨(k+1,acc++[k]),by dsimp only;omega,by simp;omega,by rw[←hr];simp⟩,?_,KD⟩
   repeat' ((conv=>whnf);first|refine Or.inl ?_|apply oi|(apply fi<;>intro h)|refine⟨_,rfl,?_⟩|exact rfl)
   all_goals try exact⟨KO⟩
   all_goals try exact⟨K4⟩
   all_goals exact⟨by simp[aa]⟩
  ·rw[if_neg h0,List.nil_append]at hr
   repeat' ((conv=>whnf);first|refine Or.inl ?_|apply oi|(apply fi<;>intro h)|refine⟨k,x.tr,rfl,ab hx,?_⟩|refine⟨_,rfl,?_⟩|exact rfl)
   all_goals try exact⟨KO⟩
   all_goals try exact KX
   all_goals try(exfalso;(try simp_all[af]);(try omega);done)
   conv=>whnf
   refine⟨⟨(k+1,acc),by dsimp only;omega,by dsimp only;omega,hr⟩,?_,KD⟩
   repeat' ((conv=>whnf);first|refine Or.inl ?_|apply oi|(apply fi<;>intro h)|refine⟨_,rfl,?_⟩|exact rfl)
   all_goals try exact⟨KO⟩
   all_goals try exact⟨K4⟩
 ·rw[List.drop_eq_nil_of_le (by omega),bU,List.append_nil]at hr
  subst hr
  repeat' ((conv=>whnf);first|refine Or.inl ?_|apply oi|(apply fi<;>intro h)|refine⟨_,rfl,?_⟩|exact rfl)
  all_goals try exact⟨KO⟩
  all_goals try exact KX
theorem iE (l:List Ah)(hl:l.length≤1048576):Sim.Spec Try.prog 47 [tvP l] (rL 1 ((bA l).map fun n:Nat=>aa n)):=by
 refine an hΓ ap Try.func47 rfl (by decide) rfl ?_
 have hlen:(l.map Ah.tr).length=l.length:=by simp
 obtain⟨R,hR⟩:∃R,bA l=R:=⟨_,rfl⟩
 rw[hR]
 repeat' ((conv=>whnf);first|refine Or.inl ?_|apply oi|(apply fi<;>intro h)|refine⟨_,rfl,?_⟩|exact rfl)
 all_goals try exact⟨KO⟩
 conv=>whnf
 refine⟨{q:Nat×List Nat // q.1≤l.length∧q.2.length≤q.1∧q.2++bU (l.drop q.1) q.1=R},fun q=>⟨[(0,vP l),(3,.r (.c (.own (5,0,0)))),(4,tI .i64 (q.1.1:Int))],[((5,0,0),some (.arr true 1 (q.1.2.map fun n:Nat=>aa n)))],[5]⟩,fun q=>l.length - q.1.1,⟨(0,[]),by simp,by simp,by simpa [bA]using hR⟩,?_,?_⟩
 ·skip
  repeat' ((conv=>whnf);first|refine Or.inl ?_|apply oi|(apply fi<;>intro h)|refine⟨_,rfl,?_⟩|exact rfl)
  all_goals try exact⟨KO⟩
 intro⟨⟨k,acc⟩,hk,hal,hr⟩
 dsimp only at hk hal hr ⊢
 have hacc:(acc.map fun n:Nat=>aa n).length=acc.length:=by simp
 by_cases hlt:k < l.length
 ·obtain⟨x,hx⟩:=ak hlt
  rw[fR hx]at hr
  by_cases h0:x.faa=0
  ·rw[if_pos h0]at hr
   repeat' ((conv=>whnf);first|refine Or.inl ?_|apply oi|(apply fi<;>intro h)|refine⟨k,x.tr,rfl,ab hx,?_⟩|refine⟨_,rfl,?_⟩|exact rfl)
   all_goals try exact⟨KO⟩
   all_goals try exact KX
   all_goals try(exfalso;(try simp_all[af]);(try omega);done)
   all_goals try exact⟨⟨by simp;omega,by simp;omega⟩⟩
   conv=>whnf
   refine⟨⟨(k+1,acc++[k]),by dsimp only;omega,by simp;omega,by rw[←hr];simp⟩,?_,KD⟩
   repeat' ((conv=>whnf);first|refine Or.inl ?_|apply oi|(apply fi<;>intro h)|refine⟨_,rfl,?_⟩|exact rfl)
   all_goals try exact⟨KO⟩
   all_goals try exact⟨K4⟩
   all_goals exact⟨by simp[aa]⟩
  ·rw[if_neg h0,List.nil_append]at hr
   repeat' ((conv=>whnf);first|refine Or.inl ?_|apply oi|(apply fi<;>intro h)|refine⟨k,x.tr,rfl,ab hx,?_⟩|refine⟨_,rfl,?_⟩|exact rfl)
   all_goals try exact⟨KO⟩
   all_goals try exact KX
   all_goals try(exfalso;(try simp_all[af]);(try omega);done)
   conv=>whnf
   refine⟨⟨(k+1,acc),by dsimp only;omega,by dsimp only;omega,hr⟩,?_,KD⟩
   repeat' ((conv=>whnf);first|refine Or.inl ?_|apply oi|(apply fi<;>intro h)|refine⟨_,rfl,?_⟩|exact rfl)
   all_goals try exact⟨KO⟩
   all_goals try exact⟨K4⟩
 ·rw[List.drop_eq_nil_of_le (by omega),bU,List.append_nil]at hr
  subst hr
  repeat' ((conv=>whnf);first|refine Or.inl ?_|apply oi|(apply fi<;>intro h)|refine⟨_,rfl,?_⟩|exact rfl)
  all_goals try exact⟨KO⟩
  all_goals try exact KX
theorem cJ (l:List Ah)(s:List UInt8)(hl:l.length≤1048576):Sim.Spec Try.prog 67 [tvP l,tvS s] (rI (cy l s)):=by
 refine an hΓ ap Try.func67 rfl (by decide) rfl ?_
 have hlen:(l.map Ah.tr).length=l.length:=by simp
 obtain⟨R,hR⟩:∃R,cy l s=R:=⟨_,rfl⟩
 rw[hR]
 repeat' ((conv=>whnf);first|refine Or.inl ?_|apply oi|(apply fi<;>intro h)|refine⟨_,rfl,?_⟩|exact rfl)
 all_goals try exact⟨KO⟩
 conv=>whnf
 refine⟨{k:Nat // k≤l.length∧bN (findN (l.drop k) k s)=R},fun q=>⟨[(0,vP l),(1,tS s),(7,vP l),(8,tI .i64 ((l.map Ah.tr).length:Int)),(9,tI .i64 (q.1:Int))],[],[]⟩,fun q=>l.length - q.1,⟨0,by omega,hR⟩,?_,?_⟩
 ·skip
  repeat' ((conv=>whnf);first|refine Or.inl ?_|apply oi|(apply fi<;>intro h)|refine⟨_,rfl,?_⟩|exact rfl)
  all_goals try exact⟨KO⟩
 intro⟨k,hk,hr⟩
 dsimp only at hk hr ⊢
 by_cases hlt:k < l.length
 ·obtain⟨x,hx⟩:=ak hlt
  rw[sy hx]at hr
  by_cases h0:x.faa=0∧x.fab=s
  ·rw[if_pos h0]at hr
   obtain⟨h1,h2⟩:=h0
   subst h2
   subst hr
   repeat' ((conv=>whnf);first|refine Or.inl ?_|apply oi|(apply fi<;>intro h)|refine⟨k,x.tr,rfl,ab hx,?_⟩|refine⟨_,rfl,?_⟩|exact rfl)
   all_goals try exact⟨KO⟩
   all_goals try exact KX
   all_goals try(exfalso;(try simp_all[af]);(try omega);done)
  ·rw[if_neg h0]at hr
   repeat' ((conv=>whnf);first|refine Or.inl ?_|apply oi|(apply fi<;>intro h)|refine⟨k,x.tr,rfl,ab hx,?_⟩|refine⟨_,rfl,?_⟩|exact rfl)
   all_goals try exact⟨KO⟩
   all_goals try exact KX
   all_goals try(exfalso;apply h0;simp_all;done)
   all_goals
    conv=>whnf
    refine⟨⟨k+1,by omega,hr⟩,?_,KD⟩
    repeat' ((conv=>whnf);first|refine Or.inl ?_|apply oi|(apply fi<;>intro h)|refine⟨_,rfl,?_⟩|exact rfl)
    all_goals try exact⟨KO⟩
    all_goals try exact⟨K4⟩
 ·rw[List.drop_eq_nil_of_le (by omega),findN]at hr
  subst hr
  repeat' ((conv=>whnf);first|refine Or.inl ?_|apply oi|(apply fi<;>intro h)|refine⟨_,rfl,?_⟩|exact rfl)
  all_goals try exact⟨KO⟩
  all_goals try exact KX
theorem bQ (l:List Ah)(s:List UInt8)(hl:l.length≤1048576):Sim.Spec Try.prog 49 [tvP l,tvS s] (rI (cy l s)):=by
 refine an hΓ ap Try.func49 rfl (by decide) rfl ?_
 have hlen:(l.map Ah.tr).length=l.length:=by simp
 obtain⟨R,hR⟩:∃R,cy l s=R:=⟨_,rfl⟩
 rw[hR]
 repeat' ((conv=>whnf);first|refine Or.inl ?_|apply oi|(apply fi<;>intro h)|refine⟨_,rfl,?_⟩|exact rfl)
 all_goals try exact⟨KO⟩
 conv=>whnf
 refine⟨{k:Nat // k≤l.length∧bN (findN (l.drop k) k s)=R},fun q=>⟨[(0,vP l),(1,tS s),(5,tI .i64 (q.1:Int))],[],[]⟩,fun q=>l.length - q.1,⟨0,by omega,hR⟩,?_,?_⟩
 ·skip
  repeat' ((conv=>whnf);first|refine Or.inl ?_|apply oi|(apply fi<;>intro h)|refine⟨_,rfl,?_⟩|exact rfl)
  all_goals try exact⟨KO⟩
 intro⟨k,hk,hr⟩
 dsimp only at hk hr ⊢
 by_cases hlt:k < l.length
 ·obtain⟨x,hx⟩:=ak hlt
  rw[sy hx]at hr
  by_cases h0:x.faa=0∧x.fab=s
  ·rw[if_pos h0]at hr
   obtain⟨h1,h2⟩:=h0
   subst h2
   subst hr
   repeat' ((conv=>whnf);first|refine Or.inl ?_|apply oi|(apply fi<;>intro h)|refine⟨k,x.tr,rfl,ab hx,?_⟩|refine⟨_,rfl,?_⟩|exact rfl)
   all_goals try exact⟨KO⟩
   all_goals try exact KX
   all_goals try(exfalso;(try simp_all[af]);(try omega);done)
  ·rw[if_neg h0]at hr
   repeat' ((conv=>whnf);first|refine Or.inl ?_|apply oi|(apply fi<;>intro h)|refine⟨k,x.tr,rfl,ab hx,?_⟩|refine⟨_,rfl,?_⟩|exact rfl)
   all_goals try exact⟨KO⟩
   all_goals try exact KX
   all_goals try(exfalso;apply h0;simp_all;done)
   all_goals
    conv=>whnf
    refine⟨⟨k+1,by omega,hr⟩,?_,KD⟩
    repeat' ((conv=>whnf);first|refine Or.inl ?_|apply oi|(apply fi<;>intro h)|refine⟨_,rfl,?_⟩|exact rfl)
    all_goals try exact⟨KO⟩
    all_goals try exact⟨K4⟩
 ·rw[List.drop_eq_nil_of_le (by omega),findN]at hr
  subst hr
  repeat' ((conv=>whnf);first|refine Or.inl ?_|apply oi|(apply fi<;>intro h)|refine⟨_,rfl,?_⟩|exact rfl)
  all_goals try exact⟨KO⟩
  all_goals try exact KX
abbrev rN (l:List (List UInt8)):Res:=rL 1 (l.map ah)
theorem mx {l:List Ah}{k e:Nat}{x:Ah}(hx:l[k]?=some x)(he:endAt l k=some e)(h0:x.faa=0):localsOf l (k:Int)=locN l e (e - k) k x.fac:=by
 rw[localsOf,if_pos (by omega),Int.toNat_natCast,hx,he]
 dsimp only
 rw[if_pos h0]
theorem dG {l:List Ah}{k:Int}(h:∀e x,endAt l k.toNat=some e→l[k.toNat]?=some x→0≤k→x.faa≠0):localsOf l k=[]:=by
 rw[localsOf]
 split
 ·split
  ·rename_i x e hx he
   rw[if_neg (h e x he hx (by assumption))]
  ·rfl
 ·rfl
theorem pY {l:List Ah}{k:Int}(hl:l.length≤1048576)(hs:∀x∈l,ay 1048576 x.tr):(localsOf l k).length≤2097152∧True:=by
 refine⟨?_,trivial⟩
 rw[localsOf]
 split
 ·split
  ·rename_i x e hx he
   obtain⟨_,_,_,_,h1,h2⟩:=aw he
   have:=(cr (hs x (List.mem_of_getElem? hx))).2.1
   split
   ·have:=sI (l:=l) (e:=e) (e - k.toNat) k.toNat x.fac
    omega
   ·simp
  ·simp
 ·simp
theorem cR (l:List (List UInt8))(s:List UInt8)(hl:l.length≤2097152):Sim.Spec Try.prog 61 [tvL 1 (l.map ah),tvS s] (rI (dC l s)):=by
 refine an hΓ ap Try.func61 rfl (by decide) rfl ?_
 have hlen:(l.map ah).length=l.length:=by simp
 obtain⟨R,hR⟩:∃R,dC l s=R:=⟨_,rfl⟩
 rw[hR]
 repeat' ((conv=>whnf);first|refine Or.inl ?_|apply oi|(apply fi<;>intro h)|refine⟨_,rfl,?_⟩|exact rfl)
 all_goals try exact⟨KO⟩
 conv=>whnf
 refine⟨{k:Nat // k≤l.length∧bN (cY (l.drop k) k s)=R},fun k=>⟨[(0,.r (.c (.t (.lst 1 (l.map ah))))),(1,tS s),(5,tI .i64 (k.1:Int))],[],[]⟩,fun k=>l.length - k.1,⟨0,by omega,hR⟩,?_,?_⟩
 ·skip
  repeat' ((conv=>whnf);first|refine Or.inl ?_|apply oi|(apply fi<;>intro h)|refine⟨_,rfl,?_⟩|exact rfl)
  all_goals try exact⟨KO⟩
 intro⟨k,hk,hr⟩
 dsimp only at hk hr ⊢
 by_cases hlt:k < l.length
 ·obtain⟨x,hx⟩:=ak hlt
  rw[qJ hx]at hr
  cases he:(x==s)with
  | true=>
   rw[he,if_pos rfl]at hr
   have he2:=eq_of_beq he
   subst he2
   subst hr
   repeat' ((conv=>whnf);first|refine Or.inl ?_|apply oi|(apply fi<;>intro h)|refine⟨k,(ah x),rfl,ab hx,?_⟩|refine⟨_,rfl,?_⟩|exact rfl)
   all_goals try exact⟨KO⟩
   all_goals try exact KX
   all_goals try(exfalso;(try simp_all[af]);(try omega);done)
  | false=>
   rw[he,if_neg (by simp)]at hr
   repeat' ((conv=>whnf);first|refine Or.inl ?_|apply oi|(apply fi<;>intro h)|refine⟨k,(ah x),rfl,ab hx,?_⟩|refine⟨_,rfl,?_⟩|exact rfl)
   all_goals try exact⟨KO⟩
   all_goals try exact KX
   all_goals try(exfalso;(try simp_all[af]);(try omega);done)
   conv=>whnf
   refine⟨⟨k+1,by omega,hr⟩,?_,KD⟩
   repeat' ((conv=>whnf);first|refine Or.inl ?_|apply oi|(apply fi<;>intro h)|refine⟨_,rfl,?_⟩|exact rfl)
   all_goals try exact⟨KO⟩
   all_goals try exact⟨K4⟩
 ·rw[List.drop_eq_nil_of_le (by omega),cY]at hr
  subst hr
  repeat' ((conv=>whnf);first|refine Or.inl ?_|apply oi|(apply fi<;>intro h)|refine⟨_,rfl,?_⟩|exact rfl)
  all_goals try exact⟨KO⟩
  all_goals try exact KX
theorem mW (l:List Ah)(k:Int)(hl:l.length≤1048576)(hs:∀x∈l,ay 1048576 x.tr):Sim.Spec Try.prog 96 [tvP l,tvI k] (rN (localsOf l k)):=by
 refine an hΓ ap Try.func96 rfl (by decide) rfl ?_
 have hlen:(l.map Ah.tr).length=l.length:=by simp
 have hE:=bI l k hl
 by_cases h0:0≤k
 ·obtain⟨k,rfl⟩:=Int.eq_ofNat_of_zero_le h0
  rw[aK]at hE
  cases he:endAt l k with
  | none=>
   rw[eI he]at hE
   rw[dG (fun e x h1 _ _=>by rw[Int.toNat_natCast,he]at h1;cases h1)]
   repeat' ((conv=>whnf);first|refine Or.inl ?_|apply oi|(apply fi<;>intro h)|refine ci hE (ai rfl (ai rfl trivial)) ?_|refine⟨_,rfl,?_⟩|exact rfl)
   all_goals try exact⟨KO⟩
   all_goals try exact KX
  | some e=>
   rw[aN he]at hE
   obtain⟨x,hx,ho,_,hke,hel⟩:=aw he
   by_cases hk0:x.faa=0
   ·have hsm:=cr (hs x (List.mem_of_getElem? hx))
    rw[mx hx he hk0]
    obtain⟨R,hR⟩:∃R,locN l e (e - k) k x.fac=R:=⟨_,rfl⟩
    rw[hR]
    have hal:(x.fac.map ah).length=x.fac.length:=by simp
    repeat' ((conv=>whnf);first|refine Or.inl ?_|apply oi|(apply fi<;>intro h)|refine ci hE (ai rfl (ai rfl trivial)) ?_|refine⟨k,x.tr,rfl,ab hx,?_⟩|refine⟨_,rfl,?_⟩|exact rfl)
    all_goals try exact⟨KO⟩
    all_goals try exact KX
    all_goals try(exfalso;(try simp_all[af]);(try omega);done)
    all_goals try exact⟨⟨by simp;omega,by simp;omega⟩⟩
    conv=>whnf
    refine⟨{q:Nat×List (List UInt8) // k≤q.1∧q.1≤e∧q.2.length≤1048576+q.1∧locN l e (e - q.1) q.1 q.2=R},fun q=>⟨[(0,vP l),(5,tI .i64 (e:Int)),(6,.r (.c (.own (6,0,0)))),(7,tI .i64 (q.1.1:Int))],[((6,0,0),some (.arr false 1 (q.1.2.map ah)))],[6]⟩,fun q=>e - q.1.1,⟨(k,x.fac),by dsimp only;omega,by dsimp only;omega,by dsimp only;omega,hR⟩,?_,?_⟩
    ·skip
     repeat' ((conv=>whnf);first|refine Or.inl ?_|apply oi|(apply fi<;>intro h)|refine⟨_,rfl,?_⟩|exact rfl)
     all_goals try exact⟨KO⟩
     all_goals exact⟨by simp⟩
    intro⟨⟨i,acc⟩,hki,hi,hac,hr⟩
    dsimp only at hki hi hac hr ⊢
    have hal2:(acc.map ah).length=acc.length:=by simp
    by_cases hlt:i < e
    ·obtain⟨y,hy⟩:=ak (l:=l) (k:=i) (by omega)
     rw[qs hlt hy]at hr
     have hC:=cX acc y.fab (by omega)
     by_cases h1:y.faa=1
     ·rw[if_pos h1]at hr
      unfold cD at hr
      cases hc:acc.contains y.fab with
      | true=>
       rw[hc]at hC hr
       rw[if_pos rfl]at hr
       repeat' ((conv=>whnf);first|refine Or.inl ?_|apply oi|(apply fi<;>intro h)|refine ci hC (ai rfl (ai rfl trivial)) ?_|refine⟨i,y.tr,rfl,ab hy,?_⟩|refine⟨_,rfl,?_⟩|exact rfl)
       all_goals try exact⟨KO⟩
       all_goals try exact KX
       all_goals try(exfalso;(try simp_all[af]);(try omega);done)
       all_goals
        conv=>whnf
        refine⟨⟨(i+1,acc),by dsimp only;omega,by dsimp only;omega,by dsimp only;omega,hr⟩,?_,KD⟩
        repeat' ((conv=>whnf);first|refine Or.inl ?_|apply oi|(apply fi<;>intro h)|refine⟨_,rfl,?_⟩|exact rfl)
        all_goals try exact⟨KO⟩
        all_goals try exact⟨K4⟩
      | false=>
       rw[hc]at hC hr
       rw[if_neg (by simp)]at hr
       repeat' ((conv=>whnf);first|refine Or.inl ?_|apply oi|(apply fi<;>intro h)|refine ci hC (ai rfl (ai rfl trivial)) ?_|refine⟨i,y.tr,rfl,ab hy,?_⟩|refine⟨_,rfl,?_⟩|exact rfl)
       all_goals try exact⟨KO⟩
       all_goals try exact KX
       all_goals try(exfalso;(try simp_all[af]);(try omega);done)
       all_goals try exact⟨⟨by simp;omega,by simp;omega⟩⟩
       all_goals
        conv=>whnf
        refine⟨⟨(i+1,acc++[y.fab]),by dsimp only;omega,by dsimp only;omega,by simp;omega,hr⟩,?_,KD⟩
        repeat' ((conv=>whnf);first|refine Or.inl ?_|apply oi|(apply fi<;>intro h)|refine⟨_,rfl,?_⟩|exact rfl)
        all_goals try exact⟨KO⟩
        all_goals try exact⟨K4⟩
        all_goals exact⟨by simp[ah]⟩
     ·rw[if_neg h1]at hr
      repeat' ((conv=>whnf);first|refine Or.inl ?_|apply oi|(apply fi<;>intro h)|refine ci hC (ai rfl (ai rfl trivial)) ?_|refine⟨i,y.tr,rfl,ab hy,?_⟩|refine⟨_,rfl,?_⟩|exact rfl)
      all_goals try exact⟨KO⟩
      all_goals try exact KX
      all_goals try(exfalso;(try simp_all[af]);(try omega);done)
      all_goals try(exfalso;simp_all;done)
      conv=>whnf
      refine⟨⟨(i+1,acc),by dsimp only;omega,by dsimp only;omega,by dsimp only;omega,hr⟩,?_,KD⟩
      repeat' ((conv=>whnf);first|refine Or.inl ?_|apply oi|(apply fi<;>intro h)|refine⟨_,rfl,?_⟩|exact rfl)
      all_goals try exact⟨KO⟩
      all_goals try exact⟨K4⟩
    ·rw[sU (by omega)]at hr
     subst hr
     repeat' ((conv=>whnf);first|refine Or.inl ?_|apply oi|(apply fi<;>intro h)|refine⟨_,rfl,?_⟩|exact rfl)
     all_goals try exact⟨KO⟩
     all_goals try exact KX
     all_goals exact⟨⟨rfl,qe _⟩⟩
   ·rw[dG (fun e x' h1 h2 _=>by rw[Int.toNat_natCast,hx]at h2;injection h2 with h2;subst h2;exact hk0)]
    repeat' ((conv=>whnf);first|refine Or.inl ?_|apply oi|(apply fi<;>intro h)|refine ci hE (ai rfl (ai rfl trivial)) ?_|refine⟨k,x.tr,rfl,ab hx,?_⟩|refine⟨_,rfl,?_⟩|exact rfl)
    all_goals try exact⟨KO⟩
    all_goals try exact KX
    all_goals try(exfalso;(try simp_all[af]);(try omega);done)
 ·have h1:br l k= -1:=by rw[br,if_neg h0]
  rw[h1]at hE
  rw[dG (fun e x _ _ h=>absurd h h0)]
  repeat' ((conv=>whnf);first|refine Or.inl ?_|apply oi|(apply fi<;>intro h)|refine ci hE (ai rfl (ai rfl trivial)) ?_|refine⟨_,rfl,?_⟩|exact rfl)
  all_goals try exact⟨KO⟩
  all_goals try exact KX
theorem gR (l:List Ah)(k:Int)(hl:l.length≤1048576)(hs:∀x∈l,ay 1048576 x.tr):Sim.Spec Try.prog 57 [tvP l,tvI k] (rN (localsOf l k)):=by
 refine an hΓ ap Try.func57 rfl (by decide) rfl ?_
 have hlen:(l.map Ah.tr).length=l.length:=by simp
 have hE:=bp l k hl
 by_cases h0:0≤k
 ·obtain⟨k,rfl⟩:=Int.eq_ofNat_of_zero_le h0
  rw[aK]at hE
  cases he:endAt l k with
  | none=>
   rw[eI he]at hE
   rw[dG (fun e x h1 _ _=>by rw[Int.toNat_natCast,he]at h1;cases h1)]
   repeat' ((conv=>whnf);first|refine Or.inl ?_|apply oi|(apply fi<;>intro h)|refine ci hE (ai rfl (ai rfl trivial)) ?_|refine⟨_,rfl,?_⟩|exact rfl)
   all_goals try exact⟨KO⟩
   all_goals try exact KX
  | some e=>
   rw[aN he]at hE
   obtain⟨x,hx,ho,_,hke,hel⟩:=aw he
   by_cases hk0:x.faa=0
   ·have hsm:=cr (hs x (List.mem_of_getElem? hx))
    rw[mx hx he hk0]
    obtain⟨R,hR⟩:∃R,locN l e (e - k) k x.fac=R:=⟨_,rfl⟩
    rw[hR]
    have hal:(x.fac.map ah).length=x.fac.length:=by simp
    repeat' ((conv=>whnf);first|refine Or.inl ?_|apply oi|(apply fi<;>intro h)|refine ci hE (ai rfl (ai rfl trivial)) ?_|refine⟨k,x.tr,rfl,ab hx,?_⟩|refine⟨_,rfl,?_⟩|exact rfl)
    all_goals try exact⟨KO⟩
    all_goals try exact KX
    all_goals try(exfalso;(try simp_all[af]);(try omega);done)
    all_goals try exact⟨⟨by simp;omega,by simp;omega⟩⟩
    conv=>whnf
    refine⟨{q:Nat×List (List UInt8) // k≤q.1∧q.1≤e∧q.2.length≤1048576+q.1∧locN l e (e - q.1) q.1 q.2=R},fun q=>⟨[(0,vP l),(5,tI .i64 (e:Int)),(6,.r (.c (.own (6,0,0)))),(7,tI .i64 (q.1.1:Int))],[((6,0,0),some (.arr false 1 (q.1.2.map ah)))],[6]⟩,fun q=>e - q.1.1,⟨(k,x.fac),by dsimp only;omega,by dsimp only;omega,by dsimp only;omega,hR⟩,?_,?_⟩
    ·skip
     repeat' ((conv=>whnf);first|refine Or.inl ?_|apply oi|(apply fi<;>intro h)|refine⟨_,rfl,?_⟩|exact rfl)
     all_goals try exact⟨KO⟩
     all_goals exact⟨by simp⟩
    intro⟨⟨i,acc⟩,hki,hi,hac,hr⟩
    dsimp only at hki hi hac hr ⊢
    have hal2:(acc.map ah).length=acc.length:=by simp
    by_cases hlt:i < e
    ·obtain⟨y,hy⟩:=ak (l:=l) (k:=i) (by omega)
     rw[qs hlt hy]at hr
     have hC:=cR acc y.fab (by omega)
     by_cases h1:y.faa=1
     ·rw[if_pos h1]at hr
      have hix:=jc (l:=acc) (s:=y.fab)
      generalize dC acc y.fab=ix at *
      unfold cD at hr
      cases hc:acc.contains y.fab with
      | true=>
       rw[hc]at hix hr
       rw[if_pos rfl]at hr
       repeat' ((conv=>whnf);first|refine Or.inl ?_|apply oi|(apply fi<;>intro h)|refine ci hC (ai rfl (ai rfl trivial)) ?_|refine⟨i,y.tr,rfl,ab hy,?_⟩|refine⟨_,rfl,?_⟩|exact rfl)
       all_goals try exact⟨KO⟩
       all_goals try exact KX
       all_goals try(exfalso;(try simp_all[af]);(try omega);done)
       all_goals
        conv=>whnf
        refine⟨⟨(i+1,acc),by dsimp only;omega,by dsimp only;omega,by dsimp only;omega,hr⟩,?_,KD⟩
        repeat' ((conv=>whnf);first|refine Or.inl ?_|apply oi|(apply fi<;>intro h)|refine⟨_,rfl,?_⟩|exact rfl)
        all_goals try exact⟨KO⟩
        all_goals try exact⟨K4⟩
      | false=>
       rw[hc]at hix hr
       rw[if_neg (by simp)]at hr
       repeat' ((conv=>whnf);first|refine Or.inl ?_|apply oi|(apply fi<;>intro h)|refine ci hC (ai rfl (ai rfl trivial)) ?_|refine⟨i,y.tr,rfl,ab hy,?_⟩|refine⟨_,rfl,?_⟩|exact rfl)
       all_goals try exact⟨KO⟩
       all_goals try exact KX
       all_goals try(exfalso;(try simp_all[af]);(try omega);done)
       all_goals try exact⟨⟨by simp;omega,by simp;omega⟩⟩
       all_goals
        conv=>whnf
        refine⟨⟨(i+1,acc++[y.fab]),by dsimp only;omega,by dsimp only;omega,by simp;omega,hr⟩,?_,KD⟩
        repeat' ((conv=>whnf);first|refine Or.inl ?_|apply oi|(apply fi<;>intro h)|refine⟨_,rfl,?_⟩|exact rfl)
        all_goals try exact⟨KO⟩
        all_goals try exact⟨K4⟩
        all_goals exact⟨by simp[ah]⟩
     ·rw[if_neg h1]at hr
      repeat' ((conv=>whnf);first|refine Or.inl ?_|apply oi|(apply fi<;>intro h)|refine ci hC (ai rfl (ai rfl trivial)) ?_|refine⟨i,y.tr,rfl,ab hy,?_⟩|refine⟨_,rfl,?_⟩|exact rfl)
      all_goals try exact⟨KO⟩
      all_goals try exact KX
      all_goals try(exfalso;(try simp_all[af]);(try omega);done)
      all_goals try(exfalso;simp_all;done)
      conv=>whnf
      refine⟨⟨(i+1,acc),by dsimp only;omega,by dsimp only;omega,by dsimp only;omega,hr⟩,?_,KD⟩
      repeat' ((conv=>whnf);first|refine Or.inl ?_|apply oi|(apply fi<;>intro h)|refine⟨_,rfl,?_⟩|exact rfl)
      all_goals try exact⟨KO⟩
      all_goals try exact⟨K4⟩
    ·rw[sU (by omega)]at hr
     subst hr
     repeat' ((conv=>whnf);first|refine Or.inl ?_|apply oi|(apply fi<;>intro h)|refine⟨_,rfl,?_⟩|exact rfl)
     all_goals try exact⟨KO⟩
     all_goals try exact KX
     all_goals exact⟨⟨rfl,qe _⟩⟩
   ·rw[dG (fun e x' h1 h2 _=>by rw[Int.toNat_natCast,hx]at h2;injection h2 with h2;subst h2;exact hk0)]
    repeat' ((conv=>whnf);first|refine Or.inl ?_|apply oi|(apply fi<;>intro h)|refine ci hE (ai rfl (ai rfl trivial)) ?_|refine⟨k,x.tr,rfl,ab hx,?_⟩|refine⟨_,rfl,?_⟩|exact rfl)
    all_goals try exact⟨KO⟩
    all_goals try exact KX
    all_goals try(exfalso;(try simp_all[af]);(try omega);done)
 ·have h1:br l k= -1:=by rw[br,if_neg h0]
  rw[h1]at hE
  rw[dG (fun e x _ _ h=>absurd h h0)]
  repeat' ((conv=>whnf);first|refine Or.inl ?_|apply oi|(apply fi<;>intro h)|refine ci hE (ai rfl (ai rfl trivial)) ?_|refine⟨_,rfl,?_⟩|exact rfl)
  all_goals try exact⟨KO⟩
  all_goals try exact KX
abbrev vN (l:List (List UInt8)):AV:= .r (.c (.t (.lst 1 (l.map ah))))
theorem uh {α:Type}{f:α→Bool}{l:List α}{k:Nat}{x:α}(hx:l[k]?=some x):(l.drop k).all f=(f x && (l.drop (k+1)).all f):=by
 rw[dB hx,List.all_cons]
theorem mb (l:List Ah)(loc:List (List UInt8))(ts:List Aq)(hl:l.length≤1048576)(hloc:loc.length≤4194304)(hts:ts.length≤1048576):Sim.Spec Try.prog 97 [tvP l,tvL 1 (loc.map ah),tvL 3 (ts.map Aq.tr)] (rB (aR l loc ts)):=by
 refine an hΓ ap Try.func97 rfl (by decide) rfl ?_
 have hlen:(ts.map Aq.tr).length=ts.length:=by simp
 have hlen2:(l.map Ah.tr).length=l.length:=by simp
 obtain⟨R,hR⟩:∃R,aR l loc ts=R:=⟨_,rfl⟩
 rw[hR]
 repeat' ((conv=>whnf);first|refine Or.inl ?_|apply oi|(apply fi<;>intro h)|refine⟨_,rfl,?_⟩|exact rfl)
 all_goals try exact⟨KO⟩
 conv=>whnf
 refine⟨{k:Nat // k≤ts.length∧(ts.drop k).all (aW l loc)=R},fun q=>⟨[(0,vP l),(1,vN loc),(10,.r (.c (.t (.lst 3 (ts.map Aq.tr))))),(11,tI .i64 ((ts.map Aq.tr).length:Int)),(12,tI .i64 (q.1:Int))],[],[]⟩,fun q=>ts.length - q.1,⟨0,by omega,hR⟩,?_,?_⟩
 ·skip
  repeat' ((conv=>whnf);first|refine Or.inl ?_|apply oi|(apply fi<;>intro h)|refine⟨_,rfl,?_⟩|exact rfl)
  all_goals try exact⟨KO⟩
 intro⟨k,hk,hr⟩
 dsimp only at hk hr ⊢
 by_cases hlt:k < ts.length
 ·obtain⟨t,ht⟩:=ak hlt
  rw[uh ht]at hr
  have hC:=cX loc t.fab hloc
  have hF:=cJ l t.fab hl
  by_cases h1:t.faa=1
  ·have e1:aW l loc t=loc.contains t.fab:=by unfold aW;rw[if_pos h1]
   rw[e1]at hr
   cases hc:loc.contains t.fab with
   | false=>
    rw[hc]at hC hr
    rw[Bool.false_and]at hr
    subst hr
    repeat' ((conv=>whnf);first|refine Or.inl ?_|apply oi|(apply fi<;>intro h)|refine⟨k,t.tr,rfl,ab ht,?_⟩|refine ci hC (ai rfl (ai rfl trivial)) ?_|refine ci hF (ai rfl (ai rfl trivial)) ?_|refine⟨_,rfl,?_⟩|exact rfl)
    all_goals try exact⟨KO⟩
    all_goals try exact KX
    all_goals try(exfalso;(try simp_all[af]);(try omega);done)
   | true=>
    rw[hc]at hC hr
    rw[Bool.true_and]at hr
    repeat' ((conv=>whnf);first|refine Or.inl ?_|apply oi|(apply fi<;>intro h)|refine⟨k,t.tr,rfl,ab ht,?_⟩|refine ci hC (ai rfl (ai rfl trivial)) ?_|refine ci hF (ai rfl (ai rfl trivial)) ?_|refine⟨_,rfl,?_⟩|exact rfl)
    all_goals try exact⟨KO⟩
    all_goals try exact KX
    all_goals try(exfalso;(try simp_all[af]);(try omega);done)
    all_goals try(exfalso;simp_all;done)
    conv=>whnf
    refine⟨⟨k+1,by omega,hr⟩,?_,KD⟩
    repeat' ((conv=>whnf);first|refine Or.inl ?_|apply oi|(apply fi<;>intro h)|refine⟨_,rfl,?_⟩|exact rfl)
    all_goals try exact⟨KO⟩
    all_goals try exact⟨K4⟩
  ·by_cases h7:t.faa=7
   ·cases hf:findN l 0 t.fab with
    | none=>
     have e1:aW l loc t=false:=by unfold aW;rw[if_neg h1,if_pos h7,hf]
     rw[e1,Bool.false_and]at hr
     subst hr
     rw[show cy l t.fab= -1 from eI hf]at hF
     repeat' ((conv=>whnf);first|refine Or.inl ?_|apply oi|(apply fi<;>intro h)|refine⟨k,t.tr,rfl,ab ht,?_⟩|refine ci hC (ai rfl (ai rfl trivial)) ?_|refine ci hF (ai rfl (ai rfl trivial)) ?_|refine⟨_,rfl,?_⟩|exact rfl)
     all_goals try exact⟨KO⟩
     all_goals try exact KX
     all_goals try(exfalso;(try simp_all[af]);(try omega);done)
    | some f=>
     obtain⟨hfl,x,hx,hx0,_⟩:=eK hf
     have e1:aW l loc t=((x.fac.length:Int)==t.faf):=by unfold aW;rw[if_neg h1,if_pos h7,hf];dsimp only;rw[hx]
     rw[e1]at hr
     rw[show cy l t.fab=(f:Int) from aN hf]at hF
     have hxl:(x.fac.map ah).length=x.fac.length:=by simp
     by_cases hn:(x.fac.length:Int)=t.faf
     ·rw[beq_iff_eq.2 hn,Bool.true_and]at hr
      repeat' ((conv=>whnf);first|refine Or.inl ?_|apply oi|(apply fi<;>intro h)|refine⟨k,t.tr,rfl,ab ht,?_⟩|refine⟨f,x.tr,rfl,ab hx,?_⟩|refine ci hC (ai rfl (ai rfl trivial)) ?_|refine ci hF (ai rfl (ai rfl trivial)) ?_|refine⟨_,rfl,?_⟩|exact rfl)
      all_goals try exact⟨KO⟩
      all_goals try exact KX
      all_goals try(exfalso;(try simp_all[af]);(try omega);done)
      all_goals try(exfalso;simp_all;done)
      conv=>whnf
      refine⟨⟨k+1,by omega,hr⟩,?_,KD⟩
      repeat' ((conv=>whnf);first|refine Or.inl ?_|apply oi|(apply fi<;>intro h)|refine⟨_,rfl,?_⟩|exact rfl)
      all_goals try exact⟨KO⟩
      all_goals try exact⟨K4⟩
     ·rw[beq_eq_false_iff_ne.2 hn,Bool.false_and]at hr
      subst hr
      repeat' ((conv=>whnf);first|refine Or.inl ?_|apply oi|(apply fi<;>intro h)|refine⟨k,t.tr,rfl,ab ht,?_⟩|refine⟨f,x.tr,rfl,ab hx,?_⟩|refine ci hC (ai rfl (ai rfl trivial)) ?_|refine ci hF (ai rfl (ai rfl trivial)) ?_|refine⟨_,rfl,?_⟩|exact rfl)
      all_goals try exact⟨KO⟩
      all_goals try exact KX
      all_goals try(exfalso;(try simp_all[af]);(try omega);done)
      all_goals try(exfalso;simp_all;done)
   ·have e1:aW l loc t=true:=by unfold aW;rw[if_neg h1,if_neg h7]
    rw[e1,Bool.true_and]at hr
    repeat' ((conv=>whnf);first|refine Or.inl ?_|apply oi|(apply fi<;>intro h)|refine⟨k,t.tr,rfl,ab ht,?_⟩|refine ci hC (ai rfl (ai rfl trivial)) ?_|refine ci hF (ai rfl (ai rfl trivial)) ?_|refine⟨_,rfl,?_⟩|exact rfl)
    all_goals try exact⟨KO⟩
    all_goals try exact KX
    all_goals try(exfalso;(try simp_all[af]);(try omega);done)
    all_goals try(exfalso;simp_all;done)
    conv=>whnf
    refine⟨⟨k+1,by omega,hr⟩,?_,KD⟩
    repeat' ((conv=>whnf);first|refine Or.inl ?_|apply oi|(apply fi<;>intro h)|refine⟨_,rfl,?_⟩|exact rfl)
    all_goals try exact⟨KO⟩
    all_goals try exact⟨K4⟩
 ·rw[List.drop_eq_nil_of_le (by omega),List.all_nil]at hr
  subst hr
  repeat' ((conv=>whnf);first|refine Or.inl ?_|apply oi|(apply fi<;>intro h)|refine⟨_,rfl,?_⟩|exact rfl)
  all_goals try exact⟨KO⟩
  all_goals try exact KX
def bX (n:Nat):List Tr:=aa n
theorem jz {x:Ah}(h:bk x=true)(hk:x.faa=7):x.fad=[]:=by
 unfold bk at h
 simp only[Bool.and_eq_true]at h
 have h3:=h.2.2.2
 rw[if_neg (by rw[hk];decide)]at h3
 exact List.length_eq_zero_iff.1 (eq_of_beq h3)
def zi (i:Nat)(st es:List Nat):Prop:=st=es∨st=(i - 1)::es
theorem fI (m:Nat)(r:List Nat):((m::r).reverse.map bX)[r.length]?=some (bX m):=by simp
theorem StkOk.top {l:List Ah}{e i m:Nat}{r:List Nat}(h:StkOk l e i (m::r)):i≤m:=h.1
theorem kB (l:List Ah)(k e:Nat)(hl:l.length≤60)(hs:∀x∈l,ay 1048576 x.tr)(hok:∀x∈l,bk x=true)(he:endAt l k=some e):Sim.Spec Try.prog 68 [tvP l,tvI k,tvI e] (rB (eY l k e)):=by
 refine an hΓ ap Try.func68 rfl (by decide) rfl ?_
 have hlen:(l.map Ah.tr).length=l.length:=by simp
 have hL:=mW l k (by omega) hs
 obtain⟨hloc1,hloc2⟩:=pY (l:=l) (k:=(k:Int)) (by omega) hs
 have hst0:=(aw he)
 obtain⟨x0,hx0,ho0,he0,hke,hel⟩:=hst0
 unfold eY
 generalize localsOf l (k:Int)=loc at *
 have hll:(loc.map ah).length=loc.length:=by simp
 by_cases h8:loc.length≤8
 ·rw[decide_eq_true h8,Bool.true_and]
  obtain⟨R,hR⟩:∃R,eZ l loc e (e - (k+1)) (k+1) 0=R:=⟨_,rfl⟩
  rw[hR]
  repeat' ((conv=>whnf);first|refine Or.inl ?_|apply oi|(apply fi<;>intro h)|refine ci hL (ai rfl (ai rfl trivial)) ?_|refine⟨_,rfl,?_⟩|exact rfl)
  all_goals try exact⟨KO⟩
  all_goals try exact KX
  conv=>whnf
  refine⟨{q:Nat×List Nat×List Nat // k < q.1∧q.1≤e+1∧q.2.1.length≤5∧(q.1=e+1→R=true)∧(q.1≤e→StkOk l e q.1 q.2.2∧q.2.2.length≤4∧zi q.1 q.2.1 q.2.2∧eZ l loc e (e - q.1) q.1 q.2.2.length=R)},fun q=>⟨[(0,vP l),(2,tI .i64 (e:Int)),(7,.r (.c (.own (7,0,0)))),(8,.r (.c (.own (8,0,0)))),(9,tI .i64 (q.1.1:Int))],[((7,0,0),some (.arr true 1 (loc.map ah))),((8,0,0),some (.arr false 1 (q.1.2.1.reverse.map bX)))],[7,8]⟩,fun q=>e+1 - q.1.1,⟨(k+1,[],[]),by dsimp only;omega,by dsimp only;omega,by simp,fun h=>by dsimp only at h;omega,fun _=>⟨he0,by simp,.inl rfl,hR⟩⟩,?_,?_⟩
  ·skip
   repeat' ((conv=>whnf);first|refine Or.inl ?_|apply oi|(apply fi<;>intro h)|refine⟨_,rfl,?_⟩|exact rfl)
   all_goals try exact⟨KO⟩
   all_goals try exact⟨K4⟩
   all_goals exact⟨by simp⟩
  intro⟨⟨i,st,es⟩,q1,q2,q3,q4,q5⟩
  dsimp only at q1 q2 q3 q4 q5 ⊢
  by_cases hie:i≤e
  ·obtain⟨y,hy⟩:=ak (l:=l) (k:=i) (by omega)
   obtain⟨g1,g2,g3,g4⟩:=q5 hie
   have hE:=bI l (i:Int) (by omega)
   have hX:=mb l loc y.fad (by omega) (by omega) (by have:=(cr (hs y (List.mem_of_getElem? hy))).2.2.2.1;omega)
   repeat' ((conv=>whnf);first|refine Or.inl ?_|apply oi|(apply fi<;>intro h)|refine⟨_,rfl,?_⟩|exact rfl)
   all_goals try exact⟨KO⟩
   all_goals try exact KX
   conv=>whnf
   refine⟨{u:List Nat // zi i u es},fun q=>⟨[(0,vP l),(2,tI .i64 (e:Int)),(7,.r (.c (.own (7,0,0)))),(8,.r (.c (.own (8,0,0)))),(9,tI .i64 (i:Int))],[((7,0,0),some (.arr true 1 (loc.map ah))),((8,0,0),some (.arr false 1 (q.1.reverse.map bX)))],[7,8]⟩,fun q=>q.1.length,⟨st,g3⟩,?_,?_⟩
   ·skip
    repeat' ((conv=>whnf);first|refine Or.inl ?_|apply oi|(apply fi<;>intro h)|refine⟨_,rfl,?_⟩|exact rfl)
    all_goals try exact⟨KO⟩
   intro⟨u,hu⟩
   dsimp only at hu ⊢
   have hul:(u.reverse.map bX).length=u.length:=by simp
   cases u with
   | nil=>
    have hes0:es=[]:=by
     rcases hu with h|h
     ·exact h.symm
     ·cases h
    subst hes0
    by_cases hlt:i < e
    ·rw[nW hlt hy]at g4
     by_cases h0:y.faa=0
     ·rw[if_pos h0]at g4
      subst g4
      repeat' ((conv=>whnf);first|refine Or.inl ?_|apply oi|(apply fi<;>intro h)|refine ci hE (ai rfl (ai rfl trivial)) ?_|refine ci hX (ai rfl (ai rfl (ai rfl trivial))) ?_|refine⟨i,y.tr,rfl,ab hy,?_⟩|refine⟨_,rfl,?_⟩|exact rfl)
      all_goals try exact⟨KO⟩
      all_goals try exact KX
      all_goals try(exfalso;(try simp_all[af]);(try omega);done)
     ·rw[if_neg h0]at g4
      by_cases h35:y.faa=3∨y.faa=5
      ·have hd:dep y ([]:List Nat).length=([]:List Nat).length+1:=by unfold dep;rw[if_pos h35]
       rw[hd]at g4
       obtain⟨m',hm',him,hst'⟩:=g1.push hy (opensK_iff.2 (by omega))
       rw[aK,aN hm']at hE
       by_cases hc:([]:List Nat).length+1≤4∧aR l loc y.fad=true
       ·obtain⟨c1,c2⟩:=hc
        rw[if_pos ⟨c1,c2⟩]at g4
        rw[c2]at hX
        repeat' ((conv=>whnf);first|refine Or.inl ?_|apply oi|(apply fi<;>intro h)|refine ci hE (ai rfl (ai rfl trivial)) ?_|refine ci hX (ai rfl (ai rfl (ai rfl trivial))) ?_|refine⟨i,y.tr,rfl,ab hy,?_⟩|refine⟨_,rfl,?_⟩|exact rfl)
        all_goals try exact⟨KO⟩
        all_goals try exact KX
        all_goals try(exfalso;(try simp_all[af]);(try omega);done)
        all_goals try(exfalso;simp at h;omega)
        all_goals try exact⟨⟨by simp <;> omega,by simp <;> omega⟩⟩
        all_goals try(exfalso;simp_all;done)
        all_goals
         conv=>whnf
         refine⟨⟨(i+1,m'::([]:List Nat),m'::([]:List Nat)),by dsimp only;omega,by dsimp only;omega,by simp only[List.length_cons]at *;omega,fun h=>by dsimp only at h;omega,fun _=>⟨hst',by simp only[List.length_cons]at *;omega,.inl rfl,g4⟩⟩,?_,KD⟩
         repeat' ((conv=>whnf);first|refine Or.inl ?_|apply oi|(apply fi<;>intro h)|refine⟨_,rfl,?_⟩|exact rfl)
         all_goals try exact⟨KO⟩
         all_goals try exact⟨K4⟩
         all_goals exact⟨by simp[bX,aa]⟩
       ·rw[if_neg hc]at g4
        subst g4
        cases hkn:aR l loc y.fad with
        | true=>
         rw[hkn]at hX hc
         repeat' ((conv=>whnf);first|refine Or.inl ?_|apply oi|(apply fi<;>intro h)|refine ci hE (ai rfl (ai rfl trivial)) ?_|refine ci hX (ai rfl (ai rfl (ai rfl trivial))) ?_|refine⟨i,y.tr,rfl,ab hy,?_⟩|refine⟨_,rfl,?_⟩|exact rfl)
         all_goals try exact⟨KO⟩
         all_goals try exact KX
         all_goals try(exfalso;(try simp_all[af]);(try omega);done)
         all_goals try exact⟨⟨by simp <;> omega,by simp <;> omega⟩⟩
         all_goals try(exfalso;apply hc;refine⟨?_,rfl⟩;simp at h;omega)
         all_goals try(exfalso;simp_all;done)
        | false=>
         rw[hkn]at hX hc
         repeat' ((conv=>whnf);first|refine Or.inl ?_|apply oi|(apply fi<;>intro h)|refine ci hE (ai rfl (ai rfl trivial)) ?_|refine ci hX (ai rfl (ai rfl (ai rfl trivial))) ?_|refine⟨i,y.tr,rfl,ab hy,?_⟩|refine⟨_,rfl,?_⟩|exact rfl)
         all_goals try exact⟨KO⟩
         all_goals try exact KX
         all_goals try(exfalso;(try simp_all[af]);(try omega);done)
         all_goals try exact⟨⟨by simp <;> omega,by simp <;> omega⟩⟩
         all_goals try(exfalso;simp_all;done)
      ·by_cases h7:y.faa=7
       ·rcases g1.pop hy h7 with⟨_,h'⟩|⟨es',hes,hst'⟩
        ·omega
        have hd:dep y ([]:List Nat).length=es'.length:=by unfold dep;rw[if_neg h35,if_pos h7,hes];simp
        have hl4:es'.length≤4:=by rw[hes]at g2;simp at g2;omega
        rw[hd]at g4
        cases hkn:aR l loc y.fad with
        | true=>
         rw[hkn]at hX g4
         rw[if_pos ⟨hl4,rfl⟩]at g4
         repeat' ((conv=>whnf);first|refine Or.inl ?_|apply oi|(apply fi<;>intro h)|refine ci hE (ai rfl (ai rfl trivial)) ?_|refine ci hX (ai rfl (ai rfl (ai rfl trivial))) ?_|refine⟨i,y.tr,rfl,ab hy,?_⟩|refine⟨_,rfl,?_⟩|exact rfl)
         all_goals try exact⟨KO⟩
         all_goals try exact KX
         all_goals try(exfalso;(try simp_all[af]);(try omega);done)
         all_goals try(exfalso;simp at h;omega)
         all_goals try(exfalso;simp_all;done)
         all_goals
          conv=>whnf
          refine⟨⟨(i+1,[],es'),by dsimp only;omega,by dsimp only;omega,by dsimp only;omega,fun h=>by dsimp only at h;omega,fun _=>⟨hst',hl4,.inr (by dsimp only;rw[hes];rfl),g4⟩⟩,?_,KD⟩
          repeat' ((conv=>whnf);first|refine Or.inl ?_|apply oi|(apply fi<;>intro h)|refine⟨_,rfl,?_⟩|exact rfl)
          all_goals try exact⟨KO⟩
          all_goals try exact⟨K4⟩
        | false=>
         rw[hkn]at hX g4
         rw[if_neg (by simp)]at g4
         subst g4
         repeat' ((conv=>whnf);first|refine Or.inl ?_|apply oi|(apply fi<;>intro h)|refine ci hE (ai rfl (ai rfl trivial)) ?_|refine ci hX (ai rfl (ai rfl (ai rfl trivial))) ?_|refine⟨i,y.tr,rfl,ab hy,?_⟩|refine⟨_,rfl,?_⟩|exact rfl)
         all_goals try exact⟨KO⟩
         all_goals try exact KX
         all_goals try(exfalso;(try simp_all[af]);(try omega);done)
         all_goals try(exfalso;simp_all;done)
       ·have hd:dep y ([]:List Nat).length=([]:List Nat).length:=by unfold dep;rw[if_neg h35,if_neg h7]
        have ho:bh y.faa=false:=by
         cases hh:bh y.faa with
         | false=>rfl
         | true=>rw[opensK_iff]at hh;omega
        have hst':=g1.other hy ho h7
        rw[hd]at g4
        cases hkn:aR l loc y.fad with
        | true=>
         rw[hkn]at hX g4
         rw[if_pos ⟨g2,rfl⟩]at g4
         repeat' ((conv=>whnf);first|refine Or.inl ?_|apply oi|(apply fi<;>intro h)|refine ci hE (ai rfl (ai rfl trivial)) ?_|refine ci hX (ai rfl (ai rfl (ai rfl trivial))) ?_|refine⟨i,y.tr,rfl,ab hy,?_⟩|refine⟨_,rfl,?_⟩|exact rfl)
         all_goals try exact⟨KO⟩
         all_goals try exact KX
         all_goals try(exfalso;(try simp_all[af]);(try omega);done)
         all_goals try(exfalso;simp at h;omega)
         all_goals try(exfalso;simp_all;done)
         all_goals
          conv=>whnf
          refine⟨⟨(i+1,[],[]),by dsimp only;omega,by dsimp only;omega,by dsimp only;omega,fun h=>by dsimp only at h;omega,fun _=>⟨hst',g2,.inl rfl,g4⟩⟩,?_,KD⟩
          repeat' ((conv=>whnf);first|refine Or.inl ?_|apply oi|(apply fi<;>intro h)|refine⟨_,rfl,?_⟩|exact rfl)
          all_goals try exact⟨KO⟩
          all_goals try exact⟨K4⟩
        | false=>
         rw[hkn]at hX g4
         rw[if_neg (by simp)]at g4
         subst g4
         repeat' ((conv=>whnf);first|refine Or.inl ?_|apply oi|(apply fi<;>intro h)|refine ci hE (ai rfl (ai rfl trivial)) ?_|refine ci hX (ai rfl (ai rfl (ai rfl trivial))) ?_|refine⟨i,y.tr,rfl,ab hy,?_⟩|refine⟨_,rfl,?_⟩|exact rfl)
         all_goals try exact⟨KO⟩
         all_goals try exact KX
         all_goals try(exfalso;(try simp_all[af]);(try omega);done)
         all_goals try(exfalso;simp_all;done)
    ·have hie':i=e:=by omega
     obtain⟨z,hz,hz7⟩:=bf he
     rw[←hie',hy]at hz
     injection hz with hz
     subst hz
     rw[qb (by omega)]at g4
     have hkn:aR l loc y.fad=true:=by rw[jz (hok y (List.mem_of_getElem? hy)) hz7];rfl
     rw[hkn]at hX
     repeat' ((conv=>whnf);first|refine Or.inl ?_|apply oi|(apply fi<;>intro h)|refine ci hE (ai rfl (ai rfl trivial)) ?_|refine ci hX (ai rfl (ai rfl (ai rfl trivial))) ?_|refine⟨i,y.tr,rfl,ab hy,?_⟩|refine⟨_,rfl,?_⟩|exact rfl)
     all_goals try exact⟨KO⟩
     all_goals try exact KX
     all_goals try(exfalso;(try simp_all[af]);(try omega);done)
     all_goals try(exfalso;simp at h;omega)
     all_goals try(exfalso;simp_all;done)
     all_goals
      conv=>whnf
      refine⟨⟨(i+1,[],[]),by dsimp only;omega,by dsimp only;omega,by dsimp only;omega,fun _=>g4.symm,fun h=>by dsimp only at h;omega⟩,?_,KD⟩
      repeat' ((conv=>whnf);first|refine Or.inl ?_|apply oi|(apply fi<;>intro h)|refine⟨_,rfl,?_⟩|exact rfl)
      all_goals try exact⟨KO⟩
      all_goals try exact⟨K4⟩
   | cons m r=>
    have hlen3:((m::r).reverse.map bX).length=r.length+1:=by simp
    have hrl:r.length≤5:=by
     rcases hu with h|h
     ·rw[←h]at g2
      simp only[List.length_cons]at g2
      omega
     ·injection h with h1 h2
      rw[h2]
      omega
    have hw:IntKind.i64.wrap ((((m::r).reverse.map bX).length:Int) - 1)=(r.length:Int):=by rw[hlen3,IntWalk.i64_in _ (by omega)];omega
    by_cases hm:m < i
    ·have hr:r=es:=by
      rcases hu with h|h
      ·subst h
       have:=g1.top
       omega
      ·injection h
     subst hr
     repeat' ((conv=>whnf);first|refine Or.inl ?_|apply oi|(apply fi<;>intro h)|refine⟨r.length,hw,(by rw[hlen3];omega),?_⟩|refine⟨(bX m),(fI m r),?_⟩|refine⟨_,rfl,?_⟩|exact rfl)
     all_goals try exact⟨KO⟩
     all_goals try exact KX
     conv=>whnf
     refine⟨⟨r,.inl rfl⟩,?_,by dsimp only;simp⟩
     repeat' ((conv=>whnf);first|refine Or.inl ?_|apply oi|(apply fi<;>intro h)|refine⟨_,rfl,?_⟩|exact rfl)
     all_goals try exact⟨KO⟩
     all_goals try exact⟨K7⟩
    ·have hr:es=m::r:=by
      rcases hu with h|h
      ·exact h.symm
      ·injection h with h1 h2
       omega
     subst hr
     have hbk:=0
     by_cases hlt:i < e
     ·rw[nW hlt hy]at g4
      by_cases h0:y.faa=0
      ·rw[if_pos h0]at g4
       subst g4
       repeat' ((conv=>whnf);first|refine Or.inl ?_|apply oi|(apply fi<;>intro h)|refine⟨r.length,hw,(by rw[hlen3];omega),?_⟩|refine⟨(bX m),(fI m r),?_⟩|refine ci hE (ai rfl (ai rfl trivial)) ?_|refine ci hX (ai rfl (ai rfl (ai rfl trivial))) ?_|refine⟨i,y.tr,rfl,ab hy,?_⟩|refine⟨_,rfl,?_⟩|exact rfl)
       all_goals try exact⟨KO⟩
       all_goals try exact KX
       all_goals try(exfalso;(try simp_all[af]);(try omega);done)
      ·rw[if_neg h0]at g4
       by_cases h35:y.faa=3∨y.faa=5
       ·have hd:dep y (m::r).length=(m::r).length+1:=by unfold dep;rw[if_pos h35]
        rw[hd]at g4
        obtain⟨m',hm',him,hst'⟩:=g1.push hy (opensK_iff.2 (by omega))
        rw[aK,aN hm']at hE
        by_cases hc:(m::r).length+1≤4∧aR l loc y.fad=true
        ·obtain⟨c1,c2⟩:=hc
         rw[if_pos ⟨c1,c2⟩]at g4
         rw[c2]at hX
         repeat' ((conv=>whnf);first|refine Or.inl ?_|apply oi|(apply fi<;>intro h)|refine⟨r.length,hw,(by rw[hlen3];omega),?_⟩|refine⟨(bX m),(fI m r),?_⟩|refine ci hE (ai rfl (ai rfl trivial)) ?_|refine ci hX (ai rfl (ai rfl (ai rfl trivial))) ?_|refine⟨i,y.tr,rfl,ab hy,?_⟩|refine⟨_,rfl,?_⟩|exact rfl)
         all_goals try exact⟨KO⟩
         all_goals try exact KX
         all_goals try(exfalso;(try simp_all[af]);(try omega);done)
         all_goals try(exfalso;simp at h;omega)
         all_goals try exact⟨⟨by simp <;> omega,by simp <;> omega⟩⟩
         all_goals try(exfalso;simp_all;done)
         all_goals
          conv=>whnf
          refine⟨⟨(i+1,m'::(m::r),m'::(m::r)),by dsimp only;omega,by dsimp only;omega,by simp only[List.length_cons]at *;omega,fun h=>by dsimp only at h;omega,fun _=>⟨hst',by simp only[List.length_cons]at *;omega,.inl rfl,g4⟩⟩,?_,KD⟩
          repeat' ((conv=>whnf);first|refine Or.inl ?_|apply oi|(apply fi<;>intro h)|refine⟨_,rfl,?_⟩|exact rfl)
          all_goals try exact⟨KO⟩
          all_goals try exact⟨K4⟩
          all_goals exact⟨by simp[bX,aa]⟩
        ·rw[if_neg hc]at g4
         subst g4
         cases hkn:aR l loc y.fad with
         | true=>
          rw[hkn]at hX hc
          repeat' ((conv=>whnf);first|refine Or.inl ?_|apply oi|(apply fi<;>intro h)|refine⟨r.length,hw,(by rw[hlen3];omega),?_⟩|refine⟨(bX m),(fI m r),?_⟩|refine ci hE (ai rfl (ai rfl trivial)) ?_|refine ci hX (ai rfl (ai rfl (ai rfl trivial))) ?_|refine⟨i,y.tr,rfl,ab hy,?_⟩|refine⟨_,rfl,?_⟩|exact rfl)
          all_goals try exact⟨KO⟩
          all_goals try exact KX
          all_goals try(exfalso;(try simp_all[af]);(try omega);done)
          all_goals try exact⟨⟨by simp <;> omega,by simp <;> omega⟩⟩
          all_goals try(exfalso;apply hc;refine⟨?_,rfl⟩;simp at h;omega)
          all_goals try(exfalso;simp_all;done)
         | false=>
          rw[hkn]at hX hc
          repeat' ((conv=>whnf);first|refine Or.inl ?_|apply oi|(apply fi<;>intro h)|refine⟨r.length,hw,(by rw[hlen3];omega),?_⟩|refine⟨(bX m),(fI m r),?_⟩|refine ci hE (ai rfl (ai rfl trivial)) ?_|refine ci hX (ai rfl (ai rfl (ai rfl trivial))) ?_|refine⟨i,y.tr,rfl,ab hy,?_⟩|refine⟨_,rfl,?_⟩|exact rfl)
          all_goals try exact⟨KO⟩
          all_goals try exact KX
          all_goals try(exfalso;(try simp_all[af]);(try omega);done)
          all_goals try exact⟨⟨by simp <;> omega,by simp <;> omega⟩⟩
          all_goals try(exfalso;simp_all;done)
       ·by_cases h7:y.faa=7
        ·rcases g1.pop hy h7 with⟨_,h'⟩|⟨es',hes,hst'⟩
         ·omega
         have hd:dep y (m::r).length=es'.length:=by unfold dep;rw[if_neg h35,if_pos h7,hes];simp
         have hl4:es'.length≤4:=by rw[hes]at g2;simp at g2;omega
         rw[hd]at g4
         cases hkn:aR l loc y.fad with
         | true=>
          rw[hkn]at hX g4
          rw[if_pos ⟨hl4,rfl⟩]at g4
          repeat' ((conv=>whnf);first|refine Or.inl ?_|apply oi|(apply fi<;>intro h)|refine⟨r.length,hw,(by rw[hlen3];omega),?_⟩|refine⟨(bX m),(fI m r),?_⟩|refine ci hE (ai rfl (ai rfl trivial)) ?_|refine ci hX (ai rfl (ai rfl (ai rfl trivial))) ?_|refine⟨i,y.tr,rfl,ab hy,?_⟩|refine⟨_,rfl,?_⟩|exact rfl)
          all_goals try exact⟨KO⟩
          all_goals try exact KX
          all_goals try(exfalso;(try simp_all[af]);(try omega);done)
          all_goals try(exfalso;simp at h;omega)
          all_goals try(exfalso;simp_all;done)
          all_goals
           conv=>whnf
           refine⟨⟨(i+1,(m::r),es'),by dsimp only;omega,by dsimp only;omega,by dsimp only;omega,fun h=>by dsimp only at h;omega,fun _=>⟨hst',hl4,.inr (by dsimp only;rw[hes];rfl),g4⟩⟩,?_,KD⟩
           repeat' ((conv=>whnf);first|refine Or.inl ?_|apply oi|(apply fi<;>intro h)|refine⟨_,rfl,?_⟩|exact rfl)
           all_goals try exact⟨KO⟩
           all_goals try exact⟨K4⟩
         | false=>
          rw[hkn]at hX g4
          rw[if_neg (by simp)]at g4
          subst g4
          repeat' ((conv=>whnf);first|refine Or.inl ?_|apply oi|(apply fi<;>intro h)|refine⟨r.length,hw,(by rw[hlen3];omega),?_⟩|refine⟨(bX m),(fI m r),?_⟩|refine ci hE (ai rfl (ai rfl trivial)) ?_|refine ci hX (ai rfl (ai rfl (ai rfl trivial))) ?_|refine⟨i,y.tr,rfl,ab hy,?_⟩|refine⟨_,rfl,?_⟩|exact rfl)
          all_goals try exact⟨KO⟩
          all_goals try exact KX
          all_goals try(exfalso;(try simp_all[af]);(try omega);done)
          all_goals try(exfalso;simp_all;done)
        ·have hd:dep y (m::r).length=(m::r).length:=by unfold dep;rw[if_neg h35,if_neg h7]
         have ho:bh y.faa=false:=by
          cases hh:bh y.faa with
          | false=>rfl
          | true=>rw[opensK_iff]at hh;omega
         have hst':=g1.other hy ho h7
         rw[hd]at g4
         cases hkn:aR l loc y.fad with
         | true=>
          rw[hkn]at hX g4
          rw[if_pos ⟨g2,rfl⟩]at g4
          repeat' ((conv=>whnf);first|refine Or.inl ?_|apply oi|(apply fi<;>intro h)|refine⟨r.length,hw,(by rw[hlen3];omega),?_⟩|refine⟨(bX m),(fI m r),?_⟩|refine ci hE (ai rfl (ai rfl trivial)) ?_|refine ci hX (ai rfl (ai rfl (ai rfl trivial))) ?_|refine⟨i,y.tr,rfl,ab hy,?_⟩|refine⟨_,rfl,?_⟩|exact rfl)
          all_goals try exact⟨KO⟩
          all_goals try exact KX
          all_goals try(exfalso;(try simp_all[af]);(try omega);done)
          all_goals try(exfalso;simp at h;omega)
          all_goals try(exfalso;simp_all;done)
          all_goals
           conv=>whnf
           refine⟨⟨(i+1,(m::r),(m::r)),by dsimp only;omega,by dsimp only;omega,by dsimp only;omega,fun h=>by dsimp only at h;omega,fun _=>⟨hst',g2,.inl rfl,g4⟩⟩,?_,KD⟩
           repeat' ((conv=>whnf);first|refine Or.inl ?_|apply oi|(apply fi<;>intro h)|refine⟨_,rfl,?_⟩|exact rfl)
           all_goals try exact⟨KO⟩
           all_goals try exact⟨K4⟩
         | false=>
          rw[hkn]at hX g4
          rw[if_neg (by simp)]at g4
          subst g4
          repeat' ((conv=>whnf);first|refine Or.inl ?_|apply oi|(apply fi<;>intro h)|refine⟨r.length,hw,(by rw[hlen3];omega),?_⟩|refine⟨(bX m),(fI m r),?_⟩|refine ci hE (ai rfl (ai rfl trivial)) ?_|refine ci hX (ai rfl (ai rfl (ai rfl trivial))) ?_|refine⟨i,y.tr,rfl,ab hy,?_⟩|refine⟨_,rfl,?_⟩|exact rfl)
          all_goals try exact⟨KO⟩
          all_goals try exact KX
          all_goals try(exfalso;(try simp_all[af]);(try omega);done)
          all_goals try(exfalso;simp_all;done)
     ·have hie':i=e:=by omega
      obtain⟨z,hz,hz7⟩:=bf he
      rw[←hie',hy]at hz
      injection hz with hz
      subst hz
      rw[qb (by omega)]at g4
      have hkn:aR l loc y.fad=true:=by rw[jz (hok y (List.mem_of_getElem? hy)) hz7];rfl
      rw[hkn]at hX
      repeat' ((conv=>whnf);first|refine Or.inl ?_|apply oi|(apply fi<;>intro h)|refine⟨r.length,hw,(by rw[hlen3];omega),?_⟩|refine⟨(bX m),(fI m r),?_⟩|refine ci hE (ai rfl (ai rfl trivial)) ?_|refine ci hX (ai rfl (ai rfl (ai rfl trivial))) ?_|refine⟨i,y.tr,rfl,ab hy,?_⟩|refine⟨_,rfl,?_⟩|exact rfl)
      all_goals try exact⟨KO⟩
      all_goals try exact KX
      all_goals try(exfalso;(try simp_all[af]);(try omega);done)
      all_goals try(exfalso;simp at h;omega)
      all_goals try(exfalso;simp_all;done)
      all_goals
       conv=>whnf
       refine⟨⟨(i+1,(m::r),(m::r)),by dsimp only;omega,by dsimp only;omega,by dsimp only;omega,fun _=>g4.symm,fun h=>by dsimp only at h;omega⟩,?_,KD⟩
       repeat' ((conv=>whnf);first|refine Or.inl ?_|apply oi|(apply fi<;>intro h)|refine⟨_,rfl,?_⟩|exact rfl)
       all_goals try exact⟨KO⟩
       all_goals try exact⟨K4⟩
  ·rw[q4 (by omega)]
   repeat' ((conv=>whnf);first|refine Or.inl ?_|apply oi|(apply fi<;>intro h)|refine⟨_,rfl,?_⟩|exact rfl)
   all_goals try exact⟨KO⟩
   all_goals try exact KX
 ·rw[decide_eq_false h8,Bool.false_and]
  repeat' ((conv=>whnf);first|refine Or.inl ?_|apply oi|(apply fi<;>intro h)|refine ci hL (ai rfl (ai rfl trivial)) ?_|refine⟨_,rfl,?_⟩|exact rfl)
  all_goals try exact⟨KO⟩
  all_goals try exact KX
abbrev nR (n:Nat):List Tr:=aa n
theorem sE {l:List Ah}{k:Nat}{fs:List Nat}{next:Nat}:dI l (k::fs) next=match endAt l k with|some e=>if k=next∧aM l k=true∧eY l k e=true then dI l fs (e+1)else false|none=>false:=by rw[dI] <;> (cases endAt l k <;> rfl)
theorem lL {l:List Ah}{x:Ah}(hx:l[0]?=some x):gM l=(x.faa==0 && (x.fab==dv && x.fac.length==0)):=by
 cases l with
 | nil=>cases hx
 | cons y r=>rw[List.getElem?_cons_zero]at hx;injection hx with hx;subst hx;rfl
theorem rz {l:List Ah}{k e i:Nat}{x:Ah}(hi:i < e)(hx:l[i]?=some x):bO l k e (e - i) i=((if x.faa=4 then jk l i (i - k) k else true) && bO l k e (e - (i+1)) (i+1)):=by
 rw[show e - i=(e - (i+1))+1 by omega,bO,if_pos hi,hx]
theorem vq {l:List Ah}{i:Nat}(hi:i < l.length):((List.range l.length).map fun j:Nat=>aL l (j:Int)).contains (i:Int)=jk l i i 0:=by
 rw[Bool.eq_iff_iff,ic,List.contains_iff_mem,List.mem_map]
 constructor
 ·rintro⟨j,hj,he⟩
  rw[aL,if_pos (by omega),Int.toNat_natCast]at he
  cases hx:elseAt l j with
  | none=>rw[hx]at he;simp only[bN]at he;omega
  | some m=>
   rw[hx]at he
   simp only[bN]at he
   have:m=i:=by omega
   subst this
   obtain⟨_,_,_,_,_,h1,_⟩:=aO hx
   exact⟨j,by omega,by omega,hx⟩
 ·rintro⟨j,_,hj,he⟩
  refine⟨j,by rw[List.mem_range];omega,?_⟩
  rw[aL,if_pos (by omega),Int.toNat_natCast,he]
  rfl
theorem fQ (l:List Ah)(hsm:aF 1048576 (.lst 4 (l.map Ah.tr))):Sim.Spec Try.prog 30 [tvP l] (rB (aD l)):=by
 refine an hΓ ap Try.func30 rfl (by decide) rfl ?_
 have hl:=aX hsm
 have hs:∀x∈l,ay 1048576 x.tr:=fun x hx=>aS hsm hx
 have hlen:(l.map Ah.tr).length=l.length:=by simp
 have hF:=iA l hl
 have hfl:((bA l).map fun n:Nat=>aa n).length=(bA l).length:=by simp
 have hfle:(bA l).length≤l.length:=pO l 0
 have hB:=aZ (((bA l).map fun n:Nat=>aa n).length:Int) 1 6
 by_cases c1:l.length≤60∧(1≤(bA l).length∧(bA l).length≤6)
 ·obtain⟨c1,c2,c3⟩:=c1
  rw[within_iff.2 ⟨by rw[hfl];omega,by rw[hfl];omega⟩]at hB
  unfold aD
  rw[decide_eq_true c1,decide_eq_true (show 1≤(bA l).length∧(bA l).length≤6 from⟨c2,c3⟩),Bool.true_and,Bool.true_and]
  cases hall:l.all bk with
  | false=>
   rw[Bool.false_and]
   repeat' ((conv=>whnf);first|refine Or.inl ?_|apply oi|(apply fi<;>intro h)|refine ci hF (ai rfl trivial) ?_|refine ci hB (ai rfl (ai rfl (ai rfl trivial))) ?_|refine⟨_,rfl,?_⟩|exact rfl)
   all_goals try exact⟨KO⟩
   all_goals try exact KX
   all_goals try(exfalso;(try simp_all[af]);(try omega);done)
   conv=>whnf
   refine⟨{k:Nat // k≤l.length∧(l.drop k).all bk=false},fun q=>⟨[(0,vP l),(3,.r (.c (.own (3,0,0)))),(25,vP l),(26,tI .i64 ((l.map Ah.tr).length:Int)),(27,tI .i64 (q.1:Int))],[((3,0,0),some (.arr true 1 ((bA l).map fun n:Nat=>aa n)))],[3]⟩,fun q=>l.length - q.1,⟨0,by omega,hall⟩,?_,?_⟩
   ·skip
    repeat' ((conv=>whnf);first|refine Or.inl ?_|apply oi|(apply fi<;>intro h)|refine⟨_,rfl,?_⟩|exact rfl)
    all_goals try exact⟨KO⟩
   intro⟨k,hk,hr⟩
   dsimp only at hk hr ⊢
   by_cases hlt:k < l.length
   ·obtain⟨x,hx⟩:=ak hlt
    rw[uh hx]at hr
    have hL:=jx x (hs x (List.mem_of_getElem? hx))
    cases ho:bk x with
    | false=>
     rw[ho]at hL
     repeat' ((conv=>whnf);first|refine Or.inl ?_|apply oi|(apply fi<;>intro h)|refine⟨k,x.tr,rfl,ab hx,?_⟩|refine ci hL (ai (ai rfl (ai rfl (ai rfl (ai rfl trivial)))) trivial) ?_|refine⟨_,rfl,?_⟩|exact rfl)
     all_goals try exact⟨KO⟩
     all_goals try exact KX
     all_goals try(exfalso;(try simp_all[af]);(try omega);done)
    | true=>
     rw[ho]at hL hr
     rw[Bool.true_and]at hr
     repeat' ((conv=>whnf);first|refine Or.inl ?_|apply oi|(apply fi<;>intro h)|refine⟨k,x.tr,rfl,ab hx,?_⟩|refine ci hL (ai (ai rfl (ai rfl (ai rfl (ai rfl trivial)))) trivial) ?_|refine⟨_,rfl,?_⟩|exact rfl)
     all_goals try exact⟨KO⟩
     all_goals try exact KX
     all_goals try(exfalso;(try simp_all[af]);(try omega);done)
     conv=>whnf
     refine⟨⟨k+1,by omega,hr⟩,?_,KD⟩
     repeat' ((conv=>whnf);first|refine Or.inl ?_|apply oi|(apply fi<;>intro h)|refine⟨_,rfl,?_⟩|exact rfl)
     all_goals try exact⟨KO⟩
     all_goals try exact⟨K4⟩
   ·rw[List.drop_eq_nil_of_le (by omega)]at hr
    cases hr
  | true=>
   have hok:∀x∈l,bk x=true:=List.all_eq_true.1 hall
   rw[Bool.true_and]
   repeat' ((conv=>whnf);first|refine Or.inl ?_|apply oi|(apply fi<;>intro h)|refine ci hF (ai rfl trivial) ?_|refine ci hB (ai rfl (ai rfl (ai rfl trivial))) ?_|refine⟨_,rfl,?_⟩|exact rfl)
   all_goals try exact⟨KO⟩
   all_goals try exact KX
   all_goals try(exfalso;(try simp_all[af]);(try omega);done)
   conv=>whnf
   refine⟨{k:Nat // k≤l.length},fun q=>⟨[(0,vP l),(3,.r (.c (.own (3,0,0)))),(25,vP l),(26,tI .i64 ((l.map Ah.tr).length:Int)),(27,tI .i64 (q.1:Int))],[((3,0,0),some (.arr true 1 ((bA l).map fun n:Nat=>aa n)))],[3]⟩,fun q=>l.length - q.1,⟨0,by omega⟩,?_,?_⟩
   ·skip
    repeat' ((conv=>whnf);first|refine Or.inl ?_|apply oi|(apply fi<;>intro h)|refine⟨_,rfl,?_⟩|exact rfl)
    all_goals try exact⟨KO⟩
   intro⟨k,hk⟩
   dsimp only at hk ⊢
   by_cases hlt:k < l.length
   ·obtain⟨x,hx⟩:=ak hlt
    have hL:=jx x (hs x (List.mem_of_getElem? hx))
    rw[hok x (List.mem_of_getElem? hx)]at hL
    repeat' ((conv=>whnf);first|refine Or.inl ?_|apply oi|(apply fi<;>intro h)|refine⟨k,x.tr,rfl,ab hx,?_⟩|refine ci hL (ai (ai rfl (ai rfl (ai rfl (ai rfl trivial)))) trivial) ?_|refine⟨_,rfl,?_⟩|exact rfl)
    all_goals try exact⟨KO⟩
    all_goals try exact KX
    all_goals try(exfalso;(try simp_all[af]);(try omega);done)
    conv=>whnf
    refine⟨⟨k+1,by omega⟩,?_,KD⟩
    repeat' ((conv=>whnf);first|refine Or.inl ?_|apply oi|(apply fi<;>intro h)|refine⟨_,rfl,?_⟩|exact rfl)
    all_goals try exact⟨KO⟩
    all_goals try exact⟨K4⟩
   ·clear hB hF
    have hpos:0 < l.length:=by omega
    obtain⟨x0,hx0⟩:=ak hpos
    have hal:(x0.fac.map ah).length=x0.fac.length:=by simp
    cases hho:gM l with
    | false=>
     rw[Bool.false_and]
     rw[lL hx0]at hho
     repeat' ((conv=>whnf);first|refine Or.inl ?_|apply oi|(apply fi<;>intro h)|refine⟨0,x0.tr,rfl,ab hx0,?_⟩|refine⟨_,rfl,?_⟩|exact rfl)
     all_goals try exact⟨KO⟩
     all_goals try exact KX
     all_goals try(exfalso;(try simp_all[af]);(try omega);done)
     all_goals try(exfalso;simp_all[dv];done)
    | true=>
     rw[Bool.true_and]
     obtain⟨R,hR⟩:∃R,dI l (bA l) 0=R:=⟨_,rfl⟩
     rw[←tT,hR]
     rw[lL hx0]at hho
     repeat' ((conv=>whnf);first|refine Or.inl ?_|apply oi|(apply fi<;>intro h)|refine⟨0,x0.tr,rfl,ab hx0,?_⟩|refine⟨_,rfl,?_⟩|exact rfl)
     all_goals try exact⟨KO⟩
     all_goals try exact KX
     all_goals try(exfalso;(try simp_all[af]);(try omega);done)
     all_goals try(exfalso;simp_all[dv];done)
     conv=>whnf
     refine⟨{q:Nat×Nat // q.1≤(bA l).length∧q.2≤l.length∧dI l ((bA l).drop q.1) q.2=R},fun q=>⟨[(0,vP l),(6,tI .i64 (q.1.2:Int)),(55,.r (.c (.own (3,0,0)))),(56,tI .i64 (((bA l).map fun n:Nat=>aa n).length:Int)),(57,tI .i64 (q.1.1:Int))],[((3,0,0),some (.arr true 1 ((bA l).map fun n:Nat=>aa n)))],[3]⟩,fun q=>(bA l).length - q.1.1,⟨(0,0),by dsimp only;omega,by dsimp only;omega,hR⟩,?_,?_⟩
     ·skip
      repeat' ((conv=>whnf);first|refine Or.inl ?_|apply oi|(apply fi<;>intro h)|refine⟨_,rfl,?_⟩|exact rfl)
      all_goals try exact⟨KO⟩
     intro⟨⟨j,next⟩,hj,hnx,hr⟩
     dsimp only at hj hnx hr ⊢
     by_cases hjl:j < (bA l).length
     ·obtain⟨f,hf⟩:=ak hjl
      obtain⟨hfl2,x,hx,hx0'⟩:=vg (List.mem_of_getElem? hf)
      rw[dB hf,sE]at hr
      have hE:=bI l (f:Int) hl
      have hN:=cJ l x.fab hl
      have hjm:j < ((bA l).map fun n:Nat=>aa n).length:=by rw[hfl];exact hjl
      cases he:endAt l f with
      | none=>
       rw[aK,eI he]at hE
       rw[he]at hr
       subst hr
       generalize cy l x.fab=ff at *
       repeat' ((conv=>whnf);first|refine cQ ?_|apply bu|apply oi|(apply fi<;>intro h)|refine⟨j,rfl,hjm,?_⟩|refine⟨(nR f),(ab hf),?_⟩|refine⟨f,x.tr,rfl,ab hx,?_⟩|refine cl hE ?_|refine cl hN ?_|refine⟨_,rfl,?_⟩|exact rfl)
       all_goals try exact⟨KO⟩
       all_goals try exact KX
       all_goals try(exfalso;(try simp_all[af]);(try omega);done)
      | some e=>
       obtain⟨_,_,_,_,hke,hel⟩:=aw he
       rw[aK,aN he]at hE
       rw[he]at hr
       dsimp only at hr
       have hK:=kB l f e c1 hs hok he
       have hnf:aM l f=(findN l 0 x.fab==some f):=by unfold aM;rw[hx]
       have hnf2:(cy l x.fab==(f:Int))=aM l f:=by
        rw[hnf,cy]
        cases findN l 0 x.fab with
        | none=>simp[bN]
        | some m=>rw[Bool.eq_iff_iff];simp[bN];omega
       generalize cy l x.fab=ff at *
       by_cases hc:f=next∧aM l f=true∧eY l f e=true
       ·rw[if_pos hc]at hr
        obtain⟨d1,d2,d3⟩:=hc
        rw[d2]at hnf2
        have hff:=eq_of_beq hnf2
        subst hff
        rw[d3]at hK
        repeat' ((conv=>whnf);first|refine cQ ?_|apply bu|apply oi|(apply fi<;>intro h)|refine⟨j,rfl,hjm,?_⟩|refine⟨(nR f),(ab hf),?_⟩|refine⟨f,x.tr,rfl,ab hx,?_⟩|refine cl hE ?_|refine cl hN ?_|refine cl hK ?_|refine⟨_,rfl,?_⟩|exact rfl)
        all_goals try exact⟨KO⟩
        all_goals try exact KX
        all_goals try(exfalso;(try simp_all[af]);(try omega);done)
        all_goals try(exfalso;simp_all;done)
        conv=>whnf
        refine⟨⟨(j+1,e+1),by dsimp only;omega,by dsimp only;omega,hr⟩,?_,KD⟩
        repeat' ((conv=>whnf);first|refine cQ ?_|apply bu|apply oi|(apply fi<;>intro h)|refine⟨_,rfl,?_⟩|exact rfl)
        all_goals try exact⟨KO⟩
        all_goals try exact⟨K4⟩
       ·rw[if_neg hc]at hr
        subst hr
        have hbad:∀b1 b2:Bool,eY l f e=b2→(ff==(f:Int))=b1→f=next→b1=true→b2=true→False:=by
         intro b1 b2 h1 h2 h3 h4 h5
         subst h4;subst h5
         exact hc ⟨h3,by rw[←hnf2];exact h2,h1⟩
        cases hfk:eY l f e with
        | true=>
         rw[hfk]at hK
         repeat' ((conv=>whnf);first|refine cQ ?_|apply bu|apply oi|(apply fi<;>intro h)|refine⟨j,rfl,hjm,?_⟩|refine⟨(nR f),(ab hf),?_⟩|refine⟨f,x.tr,rfl,ab hx,?_⟩|refine cl hE ?_|refine cl hN ?_|refine cl hK ?_|refine⟨_,rfl,?_⟩|exact rfl)
         all_goals try exact⟨KO⟩
         all_goals try exact KX
         all_goals try(exfalso;(try simp_all[af]);(try omega);done)
         all_goals(exfalso;refine hbad true true hfk ?_ ?_ rfl rfl <;> simp_all <;> omega)
        | false=>
         rw[hfk]at hK
         repeat' ((conv=>whnf);first|refine cQ ?_|apply bu|apply oi|(apply fi<;>intro h)|refine⟨j,rfl,hjm,?_⟩|refine⟨(nR f),(ab hf),?_⟩|refine⟨f,x.tr,rfl,ab hx,?_⟩|refine cl hE ?_|refine cl hN ?_|refine cl hK ?_|refine⟨_,rfl,?_⟩|exact rfl)
         all_goals try exact⟨KO⟩
         all_goals try exact KX
         all_goals try(exfalso;(try simp_all[af]);(try omega);done)
     ·rw[List.drop_eq_nil_of_le (by omega),dI]at hr
      repeat' ((conv=>whnf);first|refine Or.inl ?_|apply oi|(apply fi<;>intro h)|refine⟨_,rfl,?_⟩|exact rfl)
      all_goals try exact⟨KO⟩
      all_goals try exact KX
      conv=>whnf
      refine⟨{k:Nat // k≤l.length},fun q=>⟨[(0,vP l),(6,tI .i64 (next:Int)),(10,.r (.c (.own (10,0,0)))),(94,tI .i64 ((l.map Ah.tr).length:Int)),(95,tI .i64 (q.1:Int))],[((10,0,0),some (.arr true 1 (((List.range q.1).map fun j:Nat=>aL l (j:Int)).map aa)))],[10]⟩,fun q=>l.length - q.1,⟨0,by omega⟩,?_,?_⟩
      ·skip
       repeat' ((conv=>whnf);first|refine Or.inl ?_|apply oi|(apply fi<;>intro h)|refine⟨_,rfl,?_⟩|exact rfl)
       all_goals try exact⟨KO⟩
      intro⟨k,hk⟩
      dsimp only at hk ⊢
      have hral:(((List.range k).map fun j:Nat=>aL l (j:Int)).map aa).length=k:=by simp
      by_cases hlt:k < l.length
      ·have hS:=fA l (k:Int) hl
       repeat' ((conv=>whnf);first|refine cQ ?_|apply bu|apply oi|(apply fi<;>intro h)|refine cl hS ?_|refine⟨_,rfl,?_⟩|exact rfl)
       all_goals try exact⟨KO⟩
       all_goals try exact KX
       all_goals try exact⟨⟨by simp <;> omega,by simp <;> omega⟩⟩
       conv=>whnf
       refine⟨⟨k+1,by omega⟩,?_,KD⟩
       repeat' ((conv=>whnf);first|refine cQ ?_|apply bu|apply oi|(apply fi<;>intro h)|refine⟨_,rfl,?_⟩|exact rfl)
       all_goals try exact⟨KO⟩
       all_goals try exact⟨K4⟩
       all_goals exact⟨by simp[List.range_succ,aa]⟩
      ·have hkl:k=l.length:=by omega
       subst hkl
       obtain⟨Q,hQ⟩:∃Q,fo l=Q:=⟨_,rfl⟩
       rw[hQ]at hr
       rw[fo]at hQ
       repeat' ((conv=>whnf);first|refine Or.inl ?_|apply oi|(apply fi<;>intro h)|refine⟨_,rfl,?_⟩|exact rfl)
       all_goals try exact⟨KO⟩
       all_goals try exact KX
       conv=>whnf
       refine⟨{k:Nat // k≤l.length∧bO l 0 l.length (l.length - k) k=Q},fun q=>⟨[(0,vP l),(6,tI .i64 (next:Int)),(10,.r (.c (.own (10,0,0)))),(105,vP l),(106,tI .i64 ((l.map Ah.tr).length:Int)),(107,tI .i64 (q.1:Int))],[((10,0,0),some (.arr true 1 (((List.range l.length).map fun j:Nat=>aL l (j:Int)).map aa)))],[10]⟩,fun q=>l.length - q.1,⟨0,by omega,by rw[Nat.sub_zero];exact hQ⟩,?_,?_⟩
       ·skip
        repeat' ((conv=>whnf);first|refine Or.inl ?_|apply oi|(apply fi<;>intro h)|refine⟨_,rfl,?_⟩|exact rfl)
        all_goals try exact⟨KO⟩
       intro⟨k,hk,hq⟩
       dsimp only at hk hq ⊢
       by_cases hlt:k < l.length
       ·obtain⟨x,hx⟩:=ak hlt
        rw[rz hlt hx]at hq
        have hC:=jW ((List.range l.length).map fun j:Nat=>aL l (j:Int)) (k:Int) (by simp;omega)
        rw[vq hlt]at hC
        by_cases h4:x.faa=4
        ·rw[if_pos h4,Nat.sub_zero]at hq
         cases ha:jk l k k 0 with
         | false=>
          rw[ha]at hC hq
          rw[Bool.false_and]at hq
          subst hq
          rw[Bool.false_and]at hr
          subst hr
          repeat' ((conv=>whnf);first|refine Or.inl ?_|apply oi|(apply fi<;>intro h)|refine⟨k,x.tr,rfl,ab hx,?_⟩|refine ci hC (ai rfl (ai rfl trivial)) ?_|refine⟨_,rfl,?_⟩|exact rfl)
          all_goals try exact⟨KO⟩
          all_goals try exact KX
          all_goals try(exfalso;(try simp_all[af]);(try omega);done)
         | true=>
          rw[ha]at hC hq
          rw[Bool.true_and]at hq
          repeat' ((conv=>whnf);first|refine Or.inl ?_|apply oi|(apply fi<;>intro h)|refine⟨k,x.tr,rfl,ab hx,?_⟩|refine ci hC (ai rfl (ai rfl trivial)) ?_|refine⟨_,rfl,?_⟩|exact rfl)
          all_goals try exact⟨KO⟩
          all_goals try exact KX
          all_goals try(exfalso;(try simp_all[af]);(try omega);done)
          conv=>whnf
          refine⟨⟨k+1,by omega,hq⟩,?_,KD⟩
          repeat' ((conv=>whnf);first|refine Or.inl ?_|apply oi|(apply fi<;>intro h)|refine⟨_,rfl,?_⟩|exact rfl)
          all_goals try exact⟨KO⟩
          all_goals try exact⟨K4⟩
        ·rw[if_neg h4,Bool.true_and]at hq
         repeat' ((conv=>whnf);first|refine Or.inl ?_|apply oi|(apply fi<;>intro h)|refine⟨k,x.tr,rfl,ab hx,?_⟩|refine ci hC (ai rfl (ai rfl trivial)) ?_|refine⟨_,rfl,?_⟩|exact rfl)
         all_goals try exact⟨KO⟩
         all_goals try exact KX
         all_goals try(exfalso;(try simp_all[af]);(try omega);done)
         conv=>whnf
         refine⟨⟨k+1,by omega,hq⟩,?_,KD⟩
         repeat' ((conv=>whnf);first|refine Or.inl ?_|apply oi|(apply fi<;>intro h)|refine⟨_,rfl,?_⟩|exact rfl)
         all_goals try exact⟨KO⟩
         all_goals try exact⟨K4⟩
       ·rw[show l.length - k=0 by omega]at hq
        have hq:true=Q:=hq
        subst hq
        rw[Bool.true_and]at hr
        subst hr
        repeat' ((conv=>whnf);first|refine Or.inl ?_|apply oi|(apply fi<;>intro h)|refine⟨_,rfl,?_⟩|exact rfl)
        all_goals try exact⟨KO⟩
        all_goals try exact KX
        all_goals(refine⟨congrArg Tr.bool ?_⟩;rw[hlen,Bool.eq_iff_iff];simp;omega)
 ·have:aD l=false:=by
   unfold aD
   by_cases h60:l.length≤60
   ·rw[decide_eq_false (show ¬(1≤(bA l).length∧(bA l).length≤6) from fun h=>c1 ⟨h60,h⟩)];simp
   ·rw[decide_eq_false h60,Bool.false_and]
  rw[this]
  by_cases h60:l.length≤60
  ·have hw:af (((bA l).map fun n:Nat=>aa n).length:Int) 1 6=false:=by
    cases hx:af (((bA l).map fun n:Nat=>aa n).length:Int) 1 6 with
    | false=>rfl
    | true=>have:=within_iff.1 hx;rw[hfl]at this;exact absurd ⟨h60,by omega,by omega⟩ c1
   rw[hw]at hB
   repeat' ((conv=>whnf);first|refine Or.inl ?_|apply oi|(apply fi<;>intro h)|refine ci hF (ai rfl trivial) ?_|refine ci hB (ai rfl (ai rfl (ai rfl trivial))) ?_|refine⟨_,rfl,?_⟩|exact rfl)
   all_goals try exact⟨KO⟩
   all_goals try exact KX
   all_goals try(exfalso;(try simp_all[af]);(try omega);done)
  ·skip
   repeat' ((conv=>whnf);first|refine Or.inl ?_|apply oi|(apply fi<;>intro h)|refine ci hF (ai rfl trivial) ?_|refine ci hB (ai rfl (ai rfl (ai rfl trivial))) ?_|refine⟨_,rfl,?_⟩|exact rfl)
   all_goals try exact⟨KO⟩
   all_goals try exact KX
   all_goals try(exfalso;(try simp_all[af]);(try omega);done)
theorem uw {p q:Prop}[Decidable p][Decidable q]{α:Type}{a b:α}{r:α}(hp:p):((if p∧q then a else b)=r)=((if q then a else b)=r):=by
 by_cases hq:q
 ·rw[if_pos ⟨hp,hq⟩,if_pos hq]
 ·rw[if_neg (fun h=>hq h.2),if_neg hq]
theorem xY {l:List Ah}{j i:Nat}:(aL l (j:Int)==(i:Int))=(elseAt l j==some i):=by
 rw[aL,if_pos (by omega),Int.toNat_natCast]
 cases elseAt l j with
 | none=>simp[bN]
 | some m=>rw[Bool.eq_iff_iff];simp[bN];omega
theorem oW (l:List Ah)(k e:Nat)(hl:l.length≤60)(hs:∀x∈l,ay 1048576 x.tr)(he:endAt l k=some e):Sim.Spec Try.prog 51 [tvP l,tvI k,tvI e] (rB (gW l k e)):=by
 refine gB hΓ ap Try.func51 rfl (by decide) rfl ?_
 have hlen:(l.map Ah.tr).length=l.length:=by simp
 have hL:=gR l k (by omega) hs
 obtain⟨hloc1,hloc2⟩:=pY (l:=l) (k:=(k:Int)) (by omega) hs
 have hst0:=(aw he)
 obtain⟨x0,hx0,ho0,he0,hke,hel⟩:=hst0
 unfold gW
 generalize localsOf l (k:Int)=loc at *
 have hll:(loc.map ah).length=loc.length:=by simp
 by_cases h8:loc.length≤8
 ·rw[decide_eq_true h8,Bool.true_and]
  obtain⟨R,hR⟩:∃R,gT l loc k e (e - (k+1)) (k+1) 0=R:=⟨_,rfl⟩
  rw[hR]
  repeat' ((conv=>whnf);first|apply Wx|apply W6|apply oi|(apply fi<;>intro h)|refine cl hL ?_|refine⟨_,rfl,?_⟩|exact rfl)
  all_goals try exact⟨KP⟩
  all_goals try exact KX
  conv=>whnf
  refine⟨{q:Nat×List Nat // k < q.1∧q.1≤e∧StkOk l e q.1 q.2∧q.2.length≤4∧gT l loc k e (e - q.1) q.1 q.2.length=R},fun q=>⟨[(0,vP l),(1,tI .i64 (k:Int)),(2,tI .i64 (e:Int)),(7,.r (.c (.own (7,0,0)))),(8,tI .i64 ((q.1.2.length:Nat):Int)),(9,tI .i64 (q.1.1:Int))],[((7,0,0),some (.arr true 1 (loc.map ah)))],[7]⟩,fun q=>e - q.1.1,⟨(k+1,[]),by dsimp only;omega,by dsimp only;omega,he0,by simp,hR⟩,?_,?_⟩
  ·skip
   repeat' ((conv=>whnf);first|apply Wx|apply W6|apply oi|(apply fi<;>intro h)|refine⟨_,rfl,?_⟩|exact rfl)
   all_goals try exact⟨KP⟩
   all_goals try exact⟨K4⟩
  intro⟨⟨i,es⟩,q1,q2,g1,g2,g4⟩
  dsimp only at q1 q2 g1 g2 g4 ⊢
  by_cases hlt:i < e
  ·obtain⟨y,hy⟩:=ak (l:=l) (k:=i) (by omega)
   have hel3:(y.fad.map Aq.tr).length=y.fad.length:=by simp
   have hysm:=(cr (hs y (List.mem_of_getElem? hy))).2.2.2.1
   obtain⟨K,hK⟩:∃K,aR l loc y.fad=K:=⟨_,rfl⟩
   rw[tG hlt hy,hK]at g4
   by_cases h0:y.faa=0
   ·rw[if_pos h0]at g4
    subst g4
    repeat' ((conv=>whnf);first|apply Wx|apply W6|apply oi|(apply fi<;>intro h)|refine⟨i,y.tr,rfl,ab hy,?_⟩|refine⟨_,rfl,?_⟩|exact rfl)
    all_goals try exact⟨KP⟩
    all_goals try exact KX
    all_goals try(exfalso;simp_all;done)
   ·rw[if_neg h0]at g4
    repeat' ((conv=>whnf);first|(with_reducible apply W1;fail_if_success (with_reducible show Wo _ _ _ _ (Code.seq (Code.region 8 _ _) _) _ _))|(with_reducible first|apply W2|apply W3|apply W4|apply W5|apply W6|apply W7|apply W8|apply W9)|apply bu|apply oi|(apply fi<;>intro h)|refine⟨i,y.tr,rfl,ab hy,?_⟩|refine⟨_,rfl,?_⟩|exact rfl)
    all_goals try exact⟨KP⟩
    all_goals try exact KX
    refine vW {q:Nat×List Nat // StkOk l e (i+1) q.2∧q.1=q.2.length∧q.1≤60∧(if q.1≤4∧K=true then gT l loc k e (e - (i+1)) (i+1) q.1 else false)=R} (fun q=>⟨[(0,vP l),(1,tI .i64 (k:Int)),(2,tI .i64 (e:Int)),(7,.r (.c (.own (7,0,0)))),(8,tI .i64 ((q.1.1:Nat):Int)),(9,tI .i64 (i:Int))],[((7,0,0),some (.arr true 1 (loc.map ah)))],[7]⟩) ?_ ?_
    ·by_cases h35:y.faa=3∨y.faa=5
     ·rw[if_neg (fun h=>by omega)]at g4
      have hd:dep y es.length=es.length+1:=by unfold dep;rw[if_pos h35]
      rw[hd]at g4
      obtain⟨m',hm',him,hst'⟩:=g1.push hy (opensK_iff.2 (by omega))
      have hwd:IntKind.i64.wrap ((es.length:Int)+1)=((es.length+1:Nat):Int):=by rw[IntWalk.i64_in _ (by omega)];omega
      repeat' ((conv=>whnf);first|apply Wx|apply W6|apply oi|(apply fi<;>intro h)|refine⟨i,y.tr,rfl,ab hy,?_⟩|refine⟨_,rfl,?_⟩|exact rfl)
      all_goals try exact⟨KP⟩
      all_goals try exact KX
      all_goals try(exfalso;simp_all;done)
      all_goals
       conv=>whnf
       refine⟨⟨(es.length+1,m'::es),hst',rfl,by dsimp only;omega,g4⟩,?_⟩
       repeat' ((conv=>whnf);first|apply Wx|apply W6|apply oi|(apply fi<;>intro h)|refine⟨_,rfl,?_⟩|exact rfl)
       all_goals try exact⟨KP⟩
       all_goals try exact⟨by dsimp only;rw[hwd]⟩
     ·by_cases h7':y.faa=7
      ·rw[if_neg (fun h=>by omega)]at g4
       rcases g1.pop hy h7' with⟨_,h'⟩|⟨es',hes,hst'⟩
       ·omega
       have hd:dep y es.length=es'.length:=by unfold dep;rw[if_neg h35,if_pos h7',hes];simp
       have hl4:es.length=es'.length+1:=by rw[hes];rfl
       rw[hd]at g4
       have hwd:IntKind.i64.wrap ((es.length:Int) - 1)=(es'.length:Int):=by rw[IntWalk.i64_in _ (by omega)];omega
       repeat' ((conv=>whnf);first|apply Wx|apply W6|apply oi|(apply fi<;>intro h)|refine⟨i,y.tr,rfl,ab hy,?_⟩|refine⟨_,rfl,?_⟩|exact rfl)
       all_goals try exact⟨KP⟩
       all_goals try exact KX
       all_goals try(exfalso;simp_all;done)
       conv=>whnf
       refine⟨⟨(es'.length,es'),hst',rfl,by dsimp only;omega,g4⟩,?_⟩
       repeat' ((conv=>whnf);first|apply Wx|apply W6|apply oi|(apply fi<;>intro h)|refine⟨_,rfl,?_⟩|exact rfl)
       all_goals try exact⟨KP⟩
       all_goals try exact⟨by dsimp only;rw[hwd]⟩
      ·have hd:dep y es.length=es.length:=by unfold dep;rw[if_neg h35,if_neg h7']
       have ho:bh y.faa=false:=by
        cases hh:bh y.faa with
        | false=>rfl
        | true=>rw[opensK_iff]at hh;omega
       have hst':=g1.other hy ho h7'
       rw[hd]at g4
       by_cases h4:y.faa=4
       ·obtain⟨Av,hA⟩:∃Av,jk l i (i - k) k=Av:=⟨_,rfl⟩
        rw[hA]at g4
        repeat' ((conv=>whnf);first|apply Wx|apply W6|apply oi|(apply fi<;>intro h)|refine⟨i,y.tr,rfl,ab hy,?_⟩|refine⟨_,rfl,?_⟩|exact rfl)
        all_goals try exact⟨KP⟩
        all_goals try exact KX
        all_goals try(exfalso;simp_all;done)
        conv=>whnf
        refine⟨{q:Nat×Bool // q.1≤i∧(q.2 || jk l i (i - q.1) q.1)=Av},fun q=>⟨[(0,vP l),(1,tI .i64 (k:Int)),(2,tI .i64 (e:Int)),(7,.r (.c (.own (7,0,0)))),(8,tI .i64 ((es.length:Nat):Int)),(9,tI .i64 (i:Int)),(10,tB q.1.2),(11,tI .i64 (q.1.1:Int))],[((7,0,0),some (.arr true 1 (loc.map ah)))],[7]⟩,fun q=>i - q.1.1,⟨(k,false),by dsimp only;omega,by simpa using hA⟩,?_,?_⟩
        ·skip
         repeat' ((conv=>whnf);first|apply Wx|apply W6|apply oi|(apply fi<;>intro h)|refine⟨_,rfl,?_⟩|exact rfl)
         all_goals try exact⟨KP⟩
        intro⟨⟨j,b⟩,hj,hb⟩
        dsimp only at hj hb ⊢
        by_cases hji:j < i
        ·obtain⟨n,hn⟩:∃n,i - j=n+1:=⟨i - j - 1,by omega⟩
         have hn2:i - (j+1)=n:=by omega
         rw[hn,jk,←xY]at hb
         have hS:=fH l (j:Int) (by omega)
         generalize aL l (j:Int)=ee at *
         cases b with
         | true=>
          repeat' ((conv=>whnf);first|apply Wx|apply W6|apply oi|(apply fi<;>intro h)|refine cl hS ?_|refine⟨_,rfl,?_⟩|exact rfl)
          all_goals try exact⟨KP⟩
          all_goals try exact KX
          conv=>whnf
          refine⟨⟨(j+1,true),by dsimp only;omega,by simpa using hb⟩,?_,KD⟩
          repeat' ((conv=>whnf);first|apply Wx|apply W6|apply oi|(apply fi<;>intro h)|refine⟨_,rfl,?_⟩|exact rfl)
          all_goals try exact⟨KP⟩
          all_goals try exact⟨K4⟩
         | false=>
          repeat' ((conv=>whnf);first|apply Wx|apply W6|apply oi|(apply fi<;>intro h)|refine cl hS ?_|refine⟨_,rfl,?_⟩|exact rfl)
          all_goals try exact⟨KP⟩
          all_goals try exact KX
          conv=>whnf
          refine⟨⟨(j+1,(ee==(i:Int))),by dsimp only;omega,by dsimp only;rw[hn2];simpa using hb⟩,?_,KD⟩
          repeat' ((conv=>whnf);first|apply Wx|apply W6|apply oi|(apply fi<;>intro h)|refine⟨_,rfl,?_⟩|exact rfl)
          all_goals try exact⟨KP⟩
          all_goals try exact⟨K4⟩
        ·rw[show i - j=0 by omega,jk,Bool.or_false]at hb
         subst hb
         cases b with
         | false=>
          rw[if_pos ⟨h4,rfl⟩]at g4
          subst g4
          repeat' ((conv=>whnf);first|apply Wx|apply W6|apply oi|(apply fi<;>intro h)|refine⟨_,rfl,?_⟩|exact rfl)
          all_goals try exact⟨KP⟩
          all_goals try exact KX
         | true=>
          rw[if_neg (by simp)]at g4
          repeat' ((conv=>whnf);first|apply Wx|apply W6|apply oi|(apply fi<;>intro h)|refine⟨_,rfl,?_⟩|exact rfl)
          all_goals try exact⟨KP⟩
          all_goals try exact KX
          conv=>whnf
          refine⟨⟨(es.length,es),hst',rfl,by dsimp only;omega,g4⟩,?_⟩
          repeat' ((conv=>whnf);first|apply Wx|apply W6|apply oi|(apply fi<;>intro h)|refine⟨_,rfl,?_⟩|exact rfl)
          all_goals try exact⟨KP⟩
       ·rw[if_neg (fun h=>h4 h.1)]at g4
        repeat' ((conv=>whnf);first|apply Wx|apply W6|apply oi|(apply fi<;>intro h)|refine⟨i,y.tr,rfl,ab hy,?_⟩|refine⟨_,rfl,?_⟩|exact rfl)
        all_goals try exact⟨KP⟩
        all_goals try exact KX
        all_goals try(exfalso;simp_all;done)
        conv=>whnf
        refine⟨⟨(es.length,es),hst',rfl,by dsimp only;omega,g4⟩,?_⟩
        repeat' ((conv=>whnf);first|apply Wx|apply W6|apply oi|(apply fi<;>intro h)|refine⟨_,rfl,?_⟩|exact rfl)
        all_goals try exact⟨KP⟩
    clear g4 g1
    intro⟨⟨d,es'⟩,hst',hdl,hd60,g4⟩
    dsimp only at hst' hdl hd60 g4 ⊢
    have hwd:(d:Int)=(d:Int):=rfl
    by_cases hd4:(d)≤4
    ·rw[uw hd4]at g4
     repeat' ((conv=>whnf);first|apply Wx|apply W6|apply oi|(apply fi<;>intro h)|refine⟨i,y.tr,rfl,ab hy,?_⟩|refine⟨_,rfl,?_⟩|exact rfl)
     all_goals try exact⟨KP⟩
     all_goals try exact KX
     all_goals try(exfalso;simp only[decide_eq_false_iff_not,decide_eq_true_eq]at h;omega)
     conv=>whnf
     refine⟨{j:Nat // j≤y.fad.length∧(y.fad.drop j).all (aW l loc)=K},fun q=>⟨[(0,vP l),(1,tI .i64 (k:Int)),(2,tI .i64 (e:Int)),(7,.r (.c (.own (7,0,0)))),(8,tI .i64 (d:Int)),(9,tI .i64 (i:Int)),(12,tI .i64 (q.1:Int))],[((7,0,0),some (.arr true 1 (loc.map ah)))],[7]⟩,fun q=>y.fad.length - q.1,⟨0,by omega,hK⟩,?_,?_⟩
     ·skip
      repeat' ((conv=>whnf);first|apply Wx|apply W6|apply oi|(apply fi<;>intro h)|refine⟨_,rfl,?_⟩|exact rfl)
      all_goals try exact⟨KP⟩
     intro⟨j,hj,hk2⟩
     dsimp only at hj hk2 ⊢
     by_cases hjl:j < y.fad.length
     ·obtain⟨t,ht⟩:=ak hjl
      rw[uh ht]at hk2
      have hI:=cR loc t.fab (by omega)
      have hF:=bQ l t.fab (by omega)
      by_cases h1:t.faa=1
      ·have e1:aW l loc t=loc.contains t.fab:=by unfold aW;rw[if_pos h1]
       rw[e1]at hk2
       have hix:=jc (l:=loc) (s:=t.fab)
       generalize dC loc t.fab=ix at *
       generalize cy l t.fab=ff at *
       cases hc:loc.contains t.fab with
       | false=>
        rw[hc]at hix hk2
        rw[Bool.false_and]at hk2
        subst hk2
        rw[if_neg (by simp)]at g4
        subst g4
        repeat' ((conv=>whnf);first|apply Wx|apply W6|apply oi|(apply fi<;>intro h)|refine⟨i,y.tr,rfl,ab hy,?_⟩|refine⟨j,t.tr,rfl,ab ht,?_⟩|refine cl hI ?_|refine cl hF ?_|refine⟨_,rfl,?_⟩|exact rfl)
        all_goals try exact⟨KP⟩
        all_goals try exact KX
        all_goals try(exfalso;(try simp_all[af]);(try omega);done)
       | true=>
        rw[hc]at hix hk2
        rw[Bool.true_and]at hk2
        repeat' ((conv=>whnf);first|apply Wx|apply W6|apply oi|(apply fi<;>intro h)|refine⟨i,y.tr,rfl,ab hy,?_⟩|refine⟨j,t.tr,rfl,ab ht,?_⟩|refine cl hI ?_|refine cl hF ?_|refine⟨_,rfl,?_⟩|exact rfl)
        all_goals try exact⟨KP⟩
        all_goals try exact KX
        all_goals try(exfalso;(try simp_all[af]);(try omega);done)
        all_goals try(exfalso;simp_all;done)
        conv=>whnf
        refine⟨⟨j+1,by omega,hk2⟩,?_,KD⟩
        repeat' ((conv=>whnf);first|apply Wx|apply W6|apply oi|(apply fi<;>intro h)|refine⟨_,rfl,?_⟩|exact rfl)
        all_goals try exact⟨KP⟩
        all_goals try exact⟨K4⟩
      ·by_cases h7:t.faa=7
       ·cases hf:findN l 0 t.fab with
        | none=>
         have e1:aW l loc t=false:=by unfold aW;rw[if_neg h1,if_pos h7,hf]
         rw[e1,Bool.false_and]at hk2
         subst hk2
         rw[if_neg (by simp)]at g4
         subst g4
         rw[show cy l t.fab= -1 from eI hf]at hF
         repeat' ((conv=>whnf);first|apply Wx|apply W6|apply oi|(apply fi<;>intro h)|refine⟨i,y.tr,rfl,ab hy,?_⟩|refine⟨j,t.tr,rfl,ab ht,?_⟩|refine cl hI ?_|refine cl hF ?_|refine⟨_,rfl,?_⟩|exact rfl)
         all_goals try exact⟨KP⟩
         all_goals try exact KX
         all_goals try(exfalso;(try simp_all[af]);(try omega);done)
        | some f=>
         obtain⟨hfl,x,hx,hx0,_⟩:=eK hf
         have e1:aW l loc t=((x.fac.length:Int)==t.faf):=by unfold aW;rw[if_neg h1,if_pos h7,hf];dsimp only;rw[hx]
         rw[e1]at hk2
         rw[show cy l t.fab=(f:Int) from aN hf]at hF
         have hxl:(x.fac.map ah).length=x.fac.length:=by simp
         by_cases hn:(x.fac.length:Int)=t.faf
         ·rw[beq_iff_eq.2 hn,Bool.true_and]at hk2
          repeat' ((conv=>whnf);first|apply Wx|apply W6|apply oi|(apply fi<;>intro h)|refine⟨i,y.tr,rfl,ab hy,?_⟩|refine⟨j,t.tr,rfl,ab ht,?_⟩|refine⟨f,x.tr,rfl,ab hx,?_⟩|refine cl hI ?_|refine cl hF ?_|refine⟨_,rfl,?_⟩|exact rfl)
          all_goals try exact⟨KP⟩
          all_goals try exact KX
          all_goals try(exfalso;(try simp_all[af]);(try omega);done)
          all_goals try(exfalso;simp_all;done)
          conv=>whnf
          refine⟨⟨j+1,by omega,hk2⟩,?_,KD⟩
          repeat' ((conv=>whnf);first|apply Wx|apply W6|apply oi|(apply fi<;>intro h)|refine⟨_,rfl,?_⟩|exact rfl)
          all_goals try exact⟨KP⟩
          all_goals try exact⟨K4⟩
         ·rw[beq_eq_false_iff_ne.2 hn,Bool.false_and]at hk2
          subst hk2
          rw[if_neg (by simp)]at g4
          subst g4
          repeat' ((conv=>whnf);first|apply Wx|apply W6|apply oi|(apply fi<;>intro h)|refine⟨i,y.tr,rfl,ab hy,?_⟩|refine⟨j,t.tr,rfl,ab ht,?_⟩|refine⟨f,x.tr,rfl,ab hx,?_⟩|refine cl hI ?_|refine cl hF ?_|refine⟨_,rfl,?_⟩|exact rfl)
          all_goals try exact⟨KP⟩
          all_goals try exact KX
          all_goals try(exfalso;(try simp_all[af]);(try omega);done)
          all_goals try(exfalso;simp_all;done)
       ·have e1:aW l loc t=true:=by unfold aW;rw[if_neg h1,if_neg h7]
        rw[e1,Bool.true_and]at hk2
        repeat' ((conv=>whnf);first|apply Wx|apply W6|apply oi|(apply fi<;>intro h)|refine⟨i,y.tr,rfl,ab hy,?_⟩|refine⟨j,t.tr,rfl,ab ht,?_⟩|refine cl hI ?_|refine cl hF ?_|refine⟨_,rfl,?_⟩|exact rfl)
        all_goals try exact⟨KP⟩
        all_goals try exact KX
        all_goals try(exfalso;(try simp_all[af]);(try omega);done)
        all_goals try(exfalso;simp_all;done)
        conv=>whnf
        refine⟨⟨j+1,by omega,hk2⟩,?_,KD⟩
        repeat' ((conv=>whnf);first|apply Wx|apply W6|apply oi|(apply fi<;>intro h)|refine⟨_,rfl,?_⟩|exact rfl)
        all_goals try exact⟨KP⟩
        all_goals try exact⟨K4⟩
     ·rw[List.drop_eq_nil_of_le (by omega),List.all_nil]at hk2
      subst hk2
      rw[if_pos rfl]at g4
      repeat' ((conv=>whnf);first|apply Wx|apply W6|apply oi|(apply fi<;>intro h)|refine⟨i,y.tr,rfl,ab hy,?_⟩|refine⟨_,rfl,?_⟩|exact rfl)
      all_goals try exact⟨KP⟩
      all_goals try(exfalso;have h':=of_decide_eq_true h;rw[hel3]at h';omega)
      conv=>whnf
      refine⟨⟨(i+1,es'),by dsimp only;omega,by dsimp only;omega,hst',by dsimp only;omega,by dsimp only;rw[←hdl];exact g4⟩,?_,KD⟩
      repeat' ((conv=>whnf);first|apply Wx|apply W6|apply oi|(apply fi<;>intro h)|refine⟨_,rfl,?_⟩|exact rfl)
      all_goals try exact⟨KP⟩
      all_goals try exact⟨by dsimp only;rw[hdl]⟩
      all_goals try exact⟨K4⟩
    ·rw[if_neg (fun h=>hd4 h.1)]at g4
     subst g4
     repeat' ((conv=>whnf);first|apply Wx|apply W6|apply oi|(apply fi<;>intro h)|refine⟨i,y.tr,rfl,ab hy,?_⟩|refine⟨_,rfl,?_⟩|exact rfl)
     all_goals try exact⟨KP⟩
     all_goals try exact KX
     all_goals try(exfalso;simp only[decide_eq_false_iff_not,decide_eq_true_eq]at h;omega)
  ·rw[wc (by omega)]at g4
   subst g4
   repeat' ((conv=>whnf);first|apply Wx|apply W6|apply oi|(apply fi<;>intro h)|refine⟨_,rfl,?_⟩|exact rfl)
   all_goals try exact⟨KP⟩
   all_goals try exact KX
 ·rw[decide_eq_false h8,Bool.false_and]
  repeat' ((conv=>whnf);first|apply Wx|apply W6|apply oi|(apply fi<;>intro h)|refine cl hL ?_|refine⟨_,rfl,?_⟩|exact rfl)
  all_goals try exact⟨KP⟩
  all_goals try exact KX
theorem wh {l:List Ah}:(bA l).all (aM l)=true↔∀k x,l[k]?=some x→x.faa=0→aM l k=true:=by
 rw[List.all_eq_true]
 constructor
 ·intro H k x hx h0
  refine H k ?_
  have key:∀(n i:Nat),l.length - i≤n→i≤k→k∈bU (l.drop i) i:=by
   have hkl:k < l.length:=by
    rcases Nat.lt_or_ge k l.length with h|h
    ·exact h
    ·rw[List.getElem?_eq_none h]at hx;cases hx
   intro n
   induction n with
   | zero=>intro i h1 h2;omega
   | succ n ih=>
    intro i h1 h2
    obtain⟨y,hy⟩:=ak (l:=l) (k:=i) (by omega)
    rw[fR hy,List.mem_append]
    by_cases hik:i=k
    ·subst hik
     rw[hx]at hy
     injection hy with hy
     subst hy
     rw[if_pos h0]
     exact .inl (by simp)
    ·exact .inr (ih (i+1) (by omega) (by omega))
  have:=key l.length 0 (by omega) (by omega)
  rwa [List.drop_zero]at this
 ·intro H k hk
  obtain⟨_,x,hx,h0⟩:=vg hk
  exact H k x hx h0
def ok1 (l:List Ah)(k:Nat)(x:Ah):Bool:=bk x && (if x.faa=0 then aM l k else true)
def okN (l:List Ah):Nat→Nat→Bool
 | 0,_=>true
 | n+1,k=>match l[k]? with
  | some x=>ok1 l k x && okN l n (k+1)
  | none=>true
theorem tj {l:List Ah}{k:Nat}{x:Ah}(hx:l[k]?=some x):okN l (l.length - k) k=(ok1 l k x && okN l (l.length - (k+1)) (k+1)):=by
 have hk:k < l.length:=by
  rcases Nat.lt_or_ge k l.length with h|h
  ·exact h
  ·rw[List.getElem?_eq_none h]at hx;cases hx
 rw[show l.length - k=(l.length - (k+1))+1 by omega,okN,hx]
theorem qQ {l:List Ah}:∀(n k:Nat),l.length - k≤n→(okN l (l.length - k) k=true↔∀j x,k≤j→l[j]?=some x→ok1 l j x=true)
 | n,k,hn=>by
  by_cases hk:k < l.length
  ·obtain⟨x,hx⟩:=ak hk
   cases n with
   | zero=>omega
   | succ n=>
    rw[tj hx,Bool.and_eq_true,qQ n (k+1) (by omega)]
    constructor
    ·rintro⟨h1,h2⟩ j y hj hy
     by_cases hjk:j=k
     ·subst hjk
      rw[hx]at hy
      injection hy with hy
      subst hy
      exact h1
     ·exact h2 j y (by omega) hy
    ·intro H
     exact⟨H k x (Nat.le_refl _) hx,fun j y hj hy=>H j y (by omega) hy⟩
  ·rw[show l.length - k=0 by omega]
   refine⟨fun _ j x hj hx=>?_,fun _=>rfl⟩
   rw[List.getElem?_eq_none (by omega)]at hx
   cases hx
theorem yh (l:List Ah):okN l l.length 0=(l.all bk && (bA l).all (aM l)):=by
 have h0:=qQ (l:=l) l.length 0 (by omega)
 rw[Nat.sub_zero]at h0
 rw[Bool.eq_iff_iff,h0,Bool.and_eq_true,wh,List.all_eq_true]
 constructor
 ·intro H
  refine⟨fun x hx=>?_,fun k x hx h0=>?_⟩
  ·obtain⟨k,hk⟩:=List.getElem?_of_mem hx
   have:=H k x (by omega) hk
   rw[ok1,Bool.and_eq_true]at this
   exact this.1
  ·have:=H k x (by omega) hx
   rw[ok1,Bool.and_eq_true,if_pos h0]at this
   exact this.2
 ·rintro⟨H1,H2⟩ j x _ hx
  rw[ok1,Bool.and_eq_true]
  refine⟨H1 x (List.mem_of_getElem? hx),?_⟩
  split
  ·exact H2 j x hx (by assumption)
  ·rfl
theorem tp {l:List Ah}:aD l=(decide (l.length≤60) && (decide ((bA l).length≤6) && (gM l && (okN l l.length 0 && aY (gW l) l l.length 0)))):=by
 unfold aD
 rw[yh,kb]
 cases hh:gM l with
 | false=>simp
 | true=>
  have h1:1≤(bA l).length:=by
   cases l with
   | nil=>cases hh
   | cons x r=>
    have:x.faa=0:=by
     unfold gM at hh
     simp only[Bool.and_eq_true,beq_iff_eq]at hh
     exact hh.1
    rw[bA,bU,if_pos this]
    simp
  have e:(decide (1≤(bA l).length∧(bA l).length≤6))=decide ((bA l).length≤6):=by
   rw[decide_eq_decide]
   omega
  rw[e]
  generalize decide (l.length≤60)=b1
  generalize decide ((bA l).length≤6)=b2
  generalize l.all bk=b3
  generalize(bA l).all (aM l)=b4
  generalize fo l=b5
  generalize aY (eY l) l l.length 0=b6
  cases b1 <;> cases b2 <;> cases b3 <;> cases b4 <;> cases b5 <;> cases b6 <;> rfl
theorem fZ (l:List Ah)(hsm:aF 1048576 (.lst 4 (l.map Ah.tr))):Sim.Spec Try.prog 18 [tvP l] (rB (aD l)):=by
 refine gB hΓ ap Try.func18 rfl (by decide) rfl ?_
 have hl:=aX hsm
 have hs:∀x∈l,ay 1048576 x.tr:=fun x hx=>aS hsm hx
 have hlen:(l.map Ah.tr).length=l.length:=by simp
 have hF:=iE l hl
 have hfl:((bA l).map fun n:Nat=>aa n).length=(bA l).length:=by simp
 rw[tp]
 by_cases c1:l.length≤60
 ·rw[decide_eq_true c1,Bool.true_and]
  by_cases hpos:0 < l.length
  ·obtain⟨x0,hx0⟩:=ak hpos
   have hal:(x0.fac.map ah).length=x0.fac.length:=by simp
   have hhd:=lL hx0
   by_cases c2:(bA l).length≤6
   ·rw[decide_eq_true c2,Bool.true_and]
    cases hh:gM l with
    | false=>
     rw[hh]at hhd
     rw[Bool.false_and]
     repeat' ((conv=>whnf);first|apply Wx|apply W6|apply oi|(apply fi<;>intro h)|refine cl hF ?_|refine⟨0,x0.tr,rfl,ab hx0,?_⟩|refine⟨_,rfl,?_⟩|exact rfl)
     all_goals try exact⟨KP⟩
     all_goals try exact KX
     all_goals try(exfalso;simp_all[dv];done)
    | true=>
     rw[hh]at hhd
     rw[Bool.true_and]
     cases hok:okN l l.length 0 with
     | false=>
      rw[Bool.false_and]
      repeat' ((conv=>whnf);first|apply Wx|apply W6|apply oi|(apply fi<;>intro h)|refine cl hF ?_|refine⟨0,x0.tr,rfl,ab hx0,?_⟩|refine⟨_,rfl,?_⟩|exact rfl)
      all_goals try exact⟨KP⟩
      all_goals try exact KX
      all_goals try(exfalso;simp_all[dv];done)
      conv=>whnf
      refine⟨{k:Nat // k≤l.length∧okN l (l.length - k) k=false},fun q=>⟨[(0,vP l),(3,tI .i64 (q.1:Int))],[],[]⟩,fun q=>l.length - q.1,⟨0,by omega,by rw[Nat.sub_zero];exact hok⟩,?_,?_⟩
      ·skip
       repeat' ((conv=>whnf);first|apply Wx|apply W6|apply oi|(apply fi<;>intro h)|refine⟨_,rfl,?_⟩|exact rfl)
       all_goals try exact⟨KP⟩
      intro⟨k,hk,hr⟩
      dsimp only at hk hr ⊢
      by_cases hlt:k < l.length
      ·obtain⟨x,hx⟩:=ak hlt
       rw[tj hx,ok1]at hr
       have hL:=jm x (hs x (List.mem_of_getElem? hx))
       have hN:=bQ l x.fab hl
       have hnf2:(cy l x.fab==(k:Int))=aM l k:=by
        unfold aM
        rw[hx,cy]
        dsimp only
        cases findN l 0 x.fab with
        | none=>simp[bN]
        | some m=>rw[Bool.eq_iff_iff];simp[bN];omega
       generalize cy l x.fab=ff at *
       generalize bk x=lo at *
       generalize aM l k=nf at *
       by_cases h0:x.faa=0
       ·rw[if_pos h0]at hr
        repeat' ((conv=>whnf);first|apply Wx|apply W6|apply oi|(apply fi<;>intro h)|refine cl hL ?_|refine cl hN ?_|refine⟨k,x.tr,rfl,ab hx,?_⟩|refine⟨_,rfl,?_⟩|exact rfl)
        all_goals try exact⟨KP⟩
        all_goals try exact KX
        all_goals try(exfalso;simp_all;done)
        all_goals
         conv=>whnf
         refine⟨⟨k+1,by omega,by simp_all⟩,?_,KD⟩
         repeat' ((conv=>whnf);first|apply Wx|apply W6|apply oi|(apply fi<;>intro h)|refine⟨_,rfl,?_⟩|exact rfl)
         all_goals try exact⟨KP⟩
         all_goals try exact⟨K4⟩
       ·rw[if_neg h0,Bool.and_true]at hr
        repeat' ((conv=>whnf);first|apply Wx|apply W6|apply oi|(apply fi<;>intro h)|refine cl hL ?_|refine cl hN ?_|refine⟨k,x.tr,rfl,ab hx,?_⟩|refine⟨_,rfl,?_⟩|exact rfl)
        all_goals try exact⟨KP⟩
        all_goals try exact KX
        all_goals try(exfalso;simp_all;done)
        all_goals
         conv=>whnf
         refine⟨⟨k+1,by omega,by simp_all⟩,?_,KD⟩
         repeat' ((conv=>whnf);first|apply Wx|apply W6|apply oi|(apply fi<;>intro h)|refine⟨_,rfl,?_⟩|exact rfl)
         all_goals try exact⟨KP⟩
         all_goals try exact⟨K4⟩
      ·rw[show l.length - k=0 by omega]at hr
       cases hr
     | true=>
      rw[Bool.true_and]
      obtain⟨R,hR⟩:∃R,aY (gW l) l l.length 0=R:=⟨_,rfl⟩
      rw[hR]
      have hoka:=(qQ (l:=l) l.length 0 (by omega))
      rw[Nat.sub_zero]at hoka
      have hoka:=hoka.1 hok
      repeat' ((conv=>whnf);first|apply Wx|apply W6|apply oi|(apply fi<;>intro h)|refine cl hF ?_|refine⟨0,x0.tr,rfl,ab hx0,?_⟩|refine⟨_,rfl,?_⟩|exact rfl)
      all_goals try exact⟨KP⟩
      all_goals try exact KX
      all_goals try(exfalso;simp_all[dv];done)
      conv=>whnf
      refine⟨{k:Nat // k≤l.length},fun q=>⟨[(0,vP l),(3,tI .i64 (q.1:Int))],[],[]⟩,fun q=>l.length - q.1,⟨0,by omega⟩,?_,?_⟩
      ·skip
       repeat' ((conv=>whnf);first|apply Wx|apply W6|apply oi|(apply fi<;>intro h)|refine⟨_,rfl,?_⟩|exact rfl)
       all_goals try exact⟨KP⟩
      intro⟨k,hk⟩
      dsimp only at hk ⊢
      by_cases hlt:k < l.length
      ·obtain⟨x,hx⟩:=ak hlt
       have hr:=hoka k x (by omega) hx
       rw[ok1]at hr
       have hL:=jm x (hs x (List.mem_of_getElem? hx))
       have hN:=bQ l x.fab hl
       have hnf2:(cy l x.fab==(k:Int))=aM l k:=by
        unfold aM
        rw[hx,cy]
        dsimp only
        cases findN l 0 x.fab with
        | none=>simp[bN]
        | some m=>rw[Bool.eq_iff_iff];simp[bN];omega
       clear hoka hok
       generalize cy l x.fab=ff at *
       generalize bk x=lo at *
       generalize aM l k=nf at *
       by_cases h0:x.faa=0
       ·rw[if_pos h0]at hr
        repeat' ((conv=>whnf);first|apply Wx|apply W6|apply oi|(apply fi<;>intro h)|refine cl hL ?_|refine cl hN ?_|refine⟨k,x.tr,rfl,ab hx,?_⟩|refine⟨_,rfl,?_⟩|exact rfl)
        all_goals try exact⟨KP⟩
        all_goals try exact KX
        all_goals try(exfalso;simp_all;done)
        all_goals
         conv=>whnf
         refine⟨⟨k+1,by omega⟩,?_,KD⟩
         repeat' ((conv=>whnf);first|apply Wx|apply W6|apply oi|(apply fi<;>intro h)|refine⟨_,rfl,?_⟩|exact rfl)
         all_goals try exact⟨KP⟩
         all_goals try exact⟨K4⟩
       ·rw[if_neg h0,Bool.and_true]at hr
        repeat' ((conv=>whnf);first|apply Wx|apply W6|apply oi|(apply fi<;>intro h)|refine cl hL ?_|refine cl hN ?_|refine⟨k,x.tr,rfl,ab hx,?_⟩|refine⟨_,rfl,?_⟩|exact rfl)
        all_goals try exact⟨KP⟩
        all_goals try exact KX
        all_goals try(exfalso;simp_all;done)
        all_goals
         conv=>whnf
         refine⟨⟨k+1,by omega⟩,?_,KD⟩
         repeat' ((conv=>whnf);first|apply Wx|apply W6|apply oi|(apply fi<;>intro h)|refine⟨_,rfl,?_⟩|exact rfl)
         all_goals try exact⟨KP⟩
         all_goals try exact⟨K4⟩
      ·skip
       repeat' ((conv=>whnf);first|apply Wx|apply W6|apply oi|(apply fi<;>intro h)|refine⟨_,rfl,?_⟩|exact rfl)
       all_goals try exact⟨KP⟩
       all_goals try exact KX
       conv=>whnf
       refine⟨{k:Nat // k≤l.length∧aY (gW l) l (l.length - k) k=R},fun q=>⟨[(0,vP l),(4,tI .i64 (q.1:Int))],[],[]⟩,fun q=>l.length - q.1,⟨0,by omega,by rw[Nat.sub_zero];exact hR⟩,?_,?_⟩
       ·skip
        repeat' ((conv=>whnf);first|apply Wx|apply W6|apply oi|(apply fi<;>intro h)|refine⟨_,rfl,?_⟩|exact rfl)
        all_goals try exact⟨KP⟩
       intro⟨k,hk,hr⟩
       dsimp only at hk hr ⊢
       by_cases hlt:k < l.length
       ·obtain⟨x,hx⟩:=ak hlt
        rw[fv hx (Nat.le_refl _)]at hr
        have hE:=bp l (k:Int) hl
        cases he:endAt l k with
        | none=>
         rw[aK,eI he]at hE
         rw[he]at hr
         subst hr
         repeat' ((conv=>whnf);first|apply Wx|apply W6|apply oi|(apply fi<;>intro h)|refine cl hE ?_|refine⟨k,x.tr,rfl,ab hx,?_⟩|refine⟨_,rfl,?_⟩|exact rfl)
         all_goals try exact⟨KP⟩
         all_goals try exact KX
         all_goals try(exfalso;simp_all;done)
        | some e=>
         obtain⟨_,_,_,_,hke,hel⟩:=aw he
         rw[aK,aN he]at hE
         rw[he]at hr
         dsimp only at hr
         have hK:=oW l k e c1 hs he
         generalize gW l k e=fb at *
         by_cases hc:x.faa=0∧fb=true
         ·rw[if_pos hc]at hr
          obtain⟨d1,d2⟩:=hc
          subst d2
          repeat' ((conv=>whnf);first|apply Wx|apply W6|apply oi|(apply fi<;>intro h)|refine cl hE ?_|refine cl hK ?_|refine⟨k,x.tr,rfl,ab hx,?_⟩|refine⟨_,rfl,?_⟩|exact rfl)
          all_goals try exact⟨KP⟩
          all_goals try exact KX
          all_goals try(exfalso;simp_all;done)
          conv=>whnf
          refine⟨⟨e+1,by omega,hr⟩,?_,KD⟩
          repeat' ((conv=>whnf);first|apply Wx|apply W6|apply oi|(apply fi<;>intro h)|refine⟨_,rfl,?_⟩|exact rfl)
          all_goals try exact⟨KP⟩
          all_goals try exact⟨K4⟩
         ·rw[if_neg hc]at hr
          subst hr
          repeat' ((conv=>whnf);first|apply Wx|apply W6|apply oi|(apply fi<;>intro h)|refine cl hE ?_|refine cl hK ?_|refine⟨k,x.tr,rfl,ab hx,?_⟩|refine⟨_,rfl,?_⟩|exact rfl)
          all_goals try exact⟨KP⟩
          all_goals try exact KX
          all_goals try(exfalso;simp_all;done)
       ·rw[show l.length - k=0 by omega,aY,decide_eq_true (by omega)]at hr
        subst hr
        repeat' ((conv=>whnf);first|apply Wx|apply W6|apply oi|(apply fi<;>intro h)|refine⟨_,rfl,?_⟩|exact rfl)
        all_goals try exact⟨KP⟩
        all_goals try exact KX
   ·rw[decide_eq_false c2,Bool.false_and]
    repeat' ((conv=>whnf);first|apply Wx|apply W6|apply oi|(apply fi<;>intro h)|refine cl hF ?_|refine⟨0,x0.tr,rfl,ab hx0,?_⟩|refine⟨_,rfl,?_⟩|exact rfl)
    all_goals try exact⟨KP⟩
    all_goals try exact KX
    all_goals try(exfalso;simp_all[dv];done)
  ·have hnil:l=[]:=List.length_eq_zero_iff.1 (by omega)
   subst hnil
   rw[show gM ([]:List Ah)=false from rfl,Bool.false_and,Bool.and_false]
   repeat' ((conv=>whnf);first|apply Wx|apply W6|apply oi|(apply fi<;>intro h)|refine cl hF ?_|refine⟨_,rfl,?_⟩|exact rfl)
   all_goals try exact⟨KP⟩
   all_goals try exact KX
 ·rw[decide_eq_false c1,Bool.false_and]
  repeat' ((conv=>whnf);first|apply Wx|apply W6|apply oi|(apply fi<;>intro h)|refine cl hF ?_|refine⟨_,rfl,?_⟩|exact rfl)
  all_goals try exact⟨KP⟩
  all_goals try exact KX
  all_goals try(exfalso;simp_all;done)
theorem jd {l:List Aq}{p:Nat}{e:Ex}(h:gy l p e):p+e.toks.length≤l.length:=by
 obtain⟨r,h⟩:=h
 have h1:=congrArg List.length h
 rw[List.length_drop,List.length_append]at h1
 have:=e.toks_pos
 omega
theorem mU (l:List Aq)(p:Nat)(t:Aq)(es:List Ex)(hl:l.length≤1048576)(hn:eJ l)(ho:(Ex.node t es).ok)(hs:gy l p (.node t es)):Sim.Spec Try.prog 99 [tvL 3 (l.map Aq.tr),tvI p] (rL 1 ((cW (p+1) es).map nR)):=by
 refine gB hΓ ap Try.func99 rfl (by decide) rfl ?_
 have hlen:(l.map Aq.tr).length=l.length:=by simp
 have hle:=jd hs
 obtain⟨ht,hsa⟩:=jH hs
 have hX:=eQ l p hl hn
 rw[oG hs ho]at hX
 have htn:=hn t (List.mem_of_getElem? ht)
 have hA:=li t htn
 obtain⟨e1,e2⟩:=qm ho.1
 have hel:es.length=ar t:=ho.2.1
 rw[e1,←hel]at hA
 obtain⟨R,hR⟩:∃R,cW (p+1) es=R:=⟨_,rfl⟩
 rw[hR]
 have hpl:p < l.length:=by
  have:=(Ex.node t es).toks_pos
  omega
 generalize p+(Ex.node t es).toks.length=pe at *
 repeat' ((conv=>whnf);first|apply Wx|apply W6|apply oi|(apply fi<;>intro h)|refine cl hX ?_|refine⟨p,t.tr,rfl,ab ht,?_⟩|refine cl hA ?_|refine⟨_,rfl,?_⟩|exact rfl)
 all_goals try exact⟨KP⟩
 all_goals try exact KX
 conv=>whnf
 refine⟨{q:Nat×List Nat×List Ex // q.2.1++cW q.1 q.2.2=R∧fN l q.1 q.2.2∧jv q.2.2∧q.2.1.length+q.2.2.length≤4∧q.1≤1048577},fun q=>⟨[(0,.r (.c (.t (.lst 3 (l.map Aq.tr))))),(5,.r (.c (.own (5,0,0)))),(6,tI .i64 (q.1.1:Int)),(7,tI .i64 (q.1.2.2.length:Int))],[((5,0,0),some (.arr true 1 (q.1.2.1.map nR)))],[5]⟩,fun q=>q.1.2.2.length,⟨(p+1,[],es),hR,hsa,ho.2.2,by simp;omega,by dsimp only;omega⟩,?_,?_⟩
 ·skip
  repeat' ((conv=>whnf);first|apply Wx|apply W6|apply oi|(apply fi<;>intro h)|refine⟨_,rfl,?_⟩|exact rfl)
  all_goals try exact⟨KP⟩
  all_goals try exact⟨K4⟩
 intro⟨⟨q,acc,fs⟩,h1,h2,h3,h4,h5⟩
 dsimp only at h1 h2 h3 h4 h5 ⊢
 cases fs with
 | nil=>
  rw[cW,List.append_nil]at h1
  subst h1
  repeat' ((conv=>whnf);first|apply Wx|apply W6|apply oi|(apply fi<;>intro h)|refine⟨_,rfl,?_⟩|exact rfl)
  all_goals try exact⟨KP⟩
  all_goals try exact KX
  all_goals try(exfalso;simp at h;done)
 | cons a fs=>
  obtain⟨g1,g2⟩:=cO h2
  have hX2:=eQ l q hl hn
  rw[oG g1 h3.1]at hX2
  have hle2:=jd g1
  have hfl:(a::fs).length=fs.length+1:=rfl
  repeat' ((conv=>whnf);first|apply Wx|apply W6|apply oi|(apply fi<;>intro h)|refine cl hX2 ?_|refine⟨_,rfl,?_⟩|exact rfl)
  all_goals try exact⟨KP⟩
  all_goals try exact KX
  all_goals try(exfalso;simp at h;done)
  all_goals try exact⟨⟨by simp <;> omega,by simp <;> omega⟩⟩
  conv=>whnf
  refine⟨⟨(q+a.toks.length,acc++[q],fs),by dsimp only;rw[←h1,cW];simp,g2,h3.2,by simp only[List.length_append,List.length_cons,List.length_nil]at *;omega,by dsimp only;omega⟩,?_,by dsimp only;simp⟩
  repeat' ((conv=>whnf);first|apply Wx|apply W6|apply oi|(apply fi<;>intro h)|refine⟨_,rfl,?_⟩|exact rfl)
  all_goals try exact⟨KP⟩
  all_goals try exact⟨by dsimp only;rw[hfl,IntWalk.i64_in _ (by omega)];congr 1;omega⟩
  all_goals exact⟨by simp[aa]⟩
def w32 (n:Int):Int:=IntKind.i32.wrap n
theorem ja (n:Int):IntKind.i32.wrap n=if n % 4294967296≥2147483648 then n % 4294967296 - 4294967296 else n % 4294967296:=by
 simp[IntKind.wrap,IntKind.bits,IntKind.signed]
theorem vt (n:Int):IntKind.u32.wrap n=n % 4294967296:=by simp[IntKind.wrap,IntKind.bits,IntKind.signed]
theorem gg (n:Int):-2147483648≤w32 n∧w32 n≤2147483647:=by
 unfold w32;rw[ja];split <;> omega
theorem sM (n:Int):Sim.Spec Try.prog 110 [tvI n] (rI (w32 n)):=by
 refine an hΓ ap Try.func110 rfl (by decide) rfl ?_
 repeat' ((conv=>whnf);first|refine Or.inl ?_|apply oi|(apply fi<;>intro h)|refine⟨_,rfl,?_⟩|exact rfl)
 all_goals try exact⟨KO⟩
 all_goals(refine⟨congrArg (Tr.int _) ?_⟩;have:=gg n;unfold w32 at *;rw[ja]at *;rw[ja,vt,IntWalk.i64_in _ (by split <;> omega)];simp)
theorem wU (n:Int):((BitVec.ofInt IntKind.i64.bits n &&& BitVec.ofInt IntKind.i64.bits 4294967295).toNat:Int)=n % 4294967296:=by
 show((BitVec.ofInt 64 n &&& BitVec.ofInt 64 4294967295).toNat:Int)=_
 have e:(BitVec.ofInt 64 4294967295).toNat=2 ^ 32 - 1:=by decide
 rw[BitVec.toNat_and,e,Nat.and_two_pow_sub_one_eq_mod,BitVec.toNat_ofInt]
 have:((2 ^ 64:Nat):Int)=18446744073709551616:=by decide
 omega
theorem rW (n:Int):Sim.Spec Try.prog 107 [tvI n] (rI (w32 n)):=by
 refine an hΓ ap Try.func107 rfl (by decide) rfl ?_
 have hand:IntKind.i64.wrap ((BitVec.ofInt IntKind.i64.bits n &&& BitVec.ofInt IntKind.i64.bits 4294967295).toNat:Int)=n % 4294967296:=by
  rw[wU,IntWalk.i64_in _ (by omega)]
 unfold w32
 rw[ja]
 repeat' ((conv=>whnf);first|refine Or.inl ?_|apply oi|(apply fi<;>intro h)|refine⟨_,rfl,?_⟩|exact rfl)
 all_goals try exact⟨KO⟩
 all_goals(refine⟨congrArg (Tr.int _) ?_⟩;rw[hand]at h ⊢)
 ·have h':=of_decide_eq_true h
  rw[if_pos (by omega),IntWalk.i64_in _ (by omega)]
 ·have h':=of_decide_eq_false h
  rw[if_neg (by omega)]
theorem qr {x y:Int}(hx:-2147483648≤x∧x≤2147483647)(hy:-2147483648≤y∧y≤2147483647):-4611686018427387904≤x * y∧x * y≤4611686018427387904:=by
 have h:(x * y).natAbs≤2147483648 * 2147483648:=by
  rw[Int.natAbs_mul]
  exact Nat.mul_le_mul (by omega) (by omega)
 omega
def ia (k a b:Int):Int:=
 if k=2 then w32 (w32 a+w32 b)else if k=3 then w32 (w32 a - w32 b)else if k=4 then w32 (w32 a * w32 b)
 else if(k=5∧w32 a < w32 b)∨(k=6∧w32 a=w32 b)then 1 else 0
theorem rM (k a b:Int):Sim.Spec Try.prog 100 [tvI k,tvI a,tvI b] (rI (ia k a b)):=by
 refine an hΓ ap Try.func100 rfl (by decide) rfl ?_
 have ha:=gg a
 have hb:=gg b
 have hm:=qr ha hb
 have e1:IntKind.i64.wrap (w32 a+w32 b)=w32 a+w32 b:=IntWalk.i64_in _ (by omega)
 have e2:IntKind.i64.wrap (w32 a - w32 b)=w32 a - w32 b:=IntWalk.i64_in _ (by omega)
 have e3:IntKind.i64.wrap (w32 a * w32 b)=w32 a * w32 b:=IntWalk.i64_in _ (by omega)
 unfold ia
 repeat' ((conv=>whnf);first|refine Or.inl ?_|apply oi|(apply fi<;>intro h)|refine ci (sM _) (ai rfl trivial) ?_|refine⟨_,rfl,?_⟩|exact rfl)
 all_goals try exact⟨KO⟩
 all_goals(refine⟨congrArg (Tr.int _) ?_⟩;simp_all;try omega)
theorem rJ (k a b:Int):Sim.Spec Try.prog 91 [tvI k,tvI a,tvI b] (rI (ia k a b)):=by
 refine an hΓ ap Try.func91 rfl (by decide) rfl ?_
 have ha:=gg a
 have hb:=gg b
 have hm:=qr ha hb
 have e1:IntKind.i64.wrap (w32 a+w32 b)=w32 a+w32 b:=IntWalk.i64_in _ (by omega)
 have e2:IntKind.i64.wrap (w32 a - w32 b)=w32 a - w32 b:=IntWalk.i64_in _ (by omega)
 have e3:IntKind.i64.wrap (w32 a * w32 b)=w32 a * w32 b:=IntWalk.i64_in _ (by omega)
 unfold ia
 repeat' ((conv=>whnf);first|refine Or.inl ?_|apply oi|(apply fi<;>intro h)|refine ci (rW _) (ai rfl trivial) ?_|refine⟨_,rfl,?_⟩|exact rfl)
 all_goals try exact⟨KO⟩
 all_goals(refine⟨congrArg (Tr.int _) ?_⟩;simp_all;try omega)
def zo (t a b:Aq):Prop:=af t.faa 2 6=true∧a.faa=0∧b.faa=0∧af (ia t.faa a.faf b.faf) 0 999=true
instance (t a b:Aq):Decidable (zo t a b):=by unfold zo;infer_instance
theorem eW:∀(es:List Ex) (j:Nat),(az (es.take j)).length≤(az es).length
 | [],j=>by rw[List.take_nil];omega
 | a::es,0=>by rw[List.take_zero,az];simp
 | a::es,j+1=>by
  have:=eW es j
  rw[List.take_succ_cons,az,az,List.length_append,List.length_append]
  omega
theorem jU:∀{es:List Ex} {j:Nat} {a:Ex},es[j]?=some a→a.toks.length≤(az es).length
 | [],_,_,h=>by simp at h
 | b::es,0,a,h=>by
  rw[List.getElem?_cons_zero]at h
  injection h with h
  subst h
  rw[az,List.length_append];omega
 | b::es,j+1,a,h=>by
  rw[List.getElem?_cons_succ]at h
  have:=jU h
  rw[az,List.length_append];omega
theorem ck:∀{es:List Ex} {j:Nat} {a:Ex},jv es→es[j]?=some a→a.ok
 | [],_,_,_,h=>by simp at h
 | b::es,0,a,ho,h=>by
  rw[List.getElem?_cons_zero]at h
  injection h with h
  subst h
  exact ho.1
 | b::es,j+1,a,ho,h=>by
  rw[List.getElem?_cons_succ]at h
  exact ck ho.2 h
structure RunS where
 out:List Int
 visits:List (List Int)
 value:Int
 code:Int
 calls:List Int
abbrev aV (v:List Int):List Tr:=[.lst 1 (v.map aa)]
abbrev vU (i1 i2 i3:Sim.Id)(p:List Ah)(limit:Int)(s:RunS):List (Sim.Id×AO):=[((0,0,0),.box [.t (.lst 4 (p.map Ah.tr)),.t (.int .i64 limit),.own i1,.own i2,.t (.int .i64 s.value),.t (.int .i64 s.code),.own i3]),(i1,.arr false 1 (s.out.map aa)),(i2,.dar 1 (ae (s.visits.map aV)) none),(i3,.arr false 1 (s.calls.map aa))]
theorem lr (p:List Ah)(limit k:Int)(s:RunS)(h0:(s.visits.length:Int)=limit):bG Try.prog 59 [.r (.c (.ptr (0,0,0) 0)),tI .i64 k] (vU (0,0,1) (0,0,2) (0,0,3) p limit s) (tB false) (vU (0,0,1) (0,0,2) (0,0,3) p limit {s with code:=1}):=by
 refine aT hΓ ap Try.func59 rfl (by decide) rfl rfl ?_
 have hdl:(ae (s.visits.map aV)).length=s.visits.length:=by rw[aE,List.length_map]
 have hb:((s.visits.length:Int)==limit)=true:=beq_iff_eq.2 h0
 repeat' ((conv=>whnf);first|apply Wx|apply W6|apply oi|(apply fi<;>intro h)|refine⟨_,rfl,?_⟩|exact rfl)
 all_goals try exact⟨KP⟩
 all_goals try(exfalso;rw[hdl,hb]at h;cases h;done)
theorem qV (p:List Ah)(limit k:Int)(s:RunS)(hv:s.visits.length≤1000)(hc:s.calls.length≤6)(h0:(s.visits.length:Int)≠limit):bG Try.prog 59 [.r (.c (.ptr (0,0,0) 0)),tI .i64 k] (vU (0,0,1) (0,0,2) (0,0,3) p limit s) (tB true) (vU (0,0,1) (1,0,2) (0,0,3) p limit {s with visits:=s.visits++[s.calls++[k]]}):=by
 refine aT hΓ ap Try.func59 rfl (by decide) rfl rfl ?_
 have hdl:(ae (s.visits.map aV)).length=s.visits.length:=by rw[aE,List.length_map]
 have hb:((s.visits.length:Int)==limit)=false:=beq_eq_false_iff_ne.2 h0
 have hf:flat ([]++s.calls.map aa++[[Tr.int .i64 k]]):=by
  have:=db (s.calls++[k])
  simpa [aa]using this
 repeat' ((conv=>whnf);first|apply Wx|apply W6|apply oi|(apply fi<;>intro h)|refine⟨_,rfl,?_⟩|exact rfl)
 all_goals try exact⟨KP⟩
 all_goals try(exfalso;rw[hdl,hb]at h;cases h;done)
 all_goals try exact⟨⟨by simp[aE] <;> omega,by simp[aE] <;> omega⟩⟩
 all_goals try exact⟨hf⟩
 all_goals exact⟨by simp[ae,aV,aa]⟩
end Go.Proofs.Ytjmplnfiabmalaa
namespace Go.Proofs.Ytjmplnfiabmalaa
noncomputable section
open Go.Sim
set_option maxRecDepth 100000
set_option maxHeartbeats 4000000
structure Cx where
 p:List Ah
 b:Aa
 framed:Bool
 words:Int
 args:Int
structure Sc where
 f:Nat
 chain:List Int
 locals:List (List UInt8)
 first:Int
 outer:Bool
structure Gs where
 items:List Ag
 most:Int
 start:Bool
def yz (C:Cx)(s:Gs)(depth code arg line:Int)(chain:List Int):Ag:=⟨⟨code,arg⟩,line,s.start,chain,if C.framed=true∧0 < s.items.length then 0 else depth,C.framed && decide (0 < s.items.length)⟩
def co (C:Cx)(s:Gs)(depth code arg line:Int)(chain:List Int):Gs:=⟨s.items++[yz C s depth code arg line chain],s.most,false⟩
def yq (C:Cx)(x:Sc)(i:Int):Bool:=x.outer && decide (i < C.args)
def wr (C:Cx)(x:Sc)(i:Int):Int:=if x.outer=true then i - C.args else x.first+i
def wS (C:Cx)(store:Bool):Int:=(if C.framed=true then 1 else 3)+(if store=true then 1 else 0)
def wy (C:Cx)(x:Sc)(depth i:Int):Int:=
 if C.framed=true then(if yq C x i=true then 1+(C.args - i)else -1 - wr C x i)
 else(if yq C x i=true then depth+(C.args - i)else depth - 1 - wr C x i)
def zm (C:Cx)(x:Sc)(s:Gs)(depth i line:Int):Gs:=co C s depth (wS C false) (wy C x depth i) line x.chain
def uo (C:Cx)(x:Sc)(s:Gs)(depth i line:Int)(chain:List Int):Gs:=co C s depth (wS C true) (wy C x depth i) line chain
def nq (C:Cx)(y:Sc)(chain:List Int)(line:Int):Nat→Int→Gs→Gs
 | 0,_,s=>s
 | n+1,d,s=>nq C y chain line n (d - 1) (uo C y s d n line chain)
def qX (C:Cx)(y:Sc)(chain:List Int)(line d:Int):Nat→Nat→Gs→Gs
 | 0,_,s=>s
 | n+1,i,s=>qX C y chain line d n (i+1) (uo C y (co C s d 0 0 line chain) (d+1) i line chain)
def oK (l:List Ag)(j:Int)(v:Int):List Ag:=if 0≤j then(match l[j.toNat]? with
 | some x=>l.set j.toNat ⟨⟨x.faq.fai,v⟩,x.faj,x.fah,x.fas,x.fak,x.faG⟩
 | none=>l)else l
def rF (l:List Ag)(v:Int):List Int→List Ag
 | []=>l
 | j::js=>rF (oK l j v) v js
def zq (p:List Ah)(g:Nat):Nat:=((p.take g).filter fun x=>x.faa==0).length
def fL (C:Cx)(inside:List Nat)(g:Nat)(n:Nat):Bool:=decide ((inside.length:Int)≤C.b.fan) && (decide (br C.p (g:Int) - g≤9) && (decide (n < 200) && !inside.contains g))
def yS (C:Cx)(rep:Sc→List Nat→Nat→Nat→Int→Gs→Gs)(x:Sc)(inside:List Nat)(line:Nat)(t:Aq)(d:Int)(s:Gs):Gs:=
 if t.faa=0 then co C s d 0 t.faf line x.chain
 else if t.faa=1 then zm C x s d (dC x.locals t.fab) line
 else if t.faa=7 then(match findN C.p 0 t.fab with
  | some g=>if fL C inside g s.items.length=true then rep x inside line g d s else co C s d 12 (zq C.p g) line x.chain
  | none=>s)
 else co C s d (5+t.faa - 2) 0 line x.chain
mutual
def sW (C:Cx)(rep:Sc→List Nat→Nat→Nat→Int→Gs→Gs)(x:Sc)(inside:List Nat)(line:Nat):Ex→Int→Gs→Gs
 | .node t es,d,s=>yS C rep x inside line t (d+es.length) (sH C rep x inside line es d s)
def sH (C:Cx)(rep:Sc→List Nat→Nat→Nat→Int→Gs→Gs)(x:Sc)(inside:List Nat)(line:Nat):List Ex→Int→Gs→Gs
 | [],_,s=>s
 | a::es,d,s=>sH C rep x inside line es (d+1) (sW C rep x inside line a d s)
end
def nS (C:Cx)(x:Sc):Int:=if x.outer=true then(x.locals.length:Int) - C.args else x.first+x.locals.length
def argsN (p:List Ah)(g:Nat):Nat:=match p[g]? with|some l=>l.fac.length|none=>0
def nY (C:Cx)(x:Sc)(line g:Nat):Sc:=⟨g,x.chain++[(line:Int)],localsOf C.p (g:Int),nS C x,false⟩
def wz (C:Cx)(x:Sc)(line g:Nat)(d:Int)(s:Gs):Gs:=
 qX C (nY C x line g) x.chain line (d - argsN C.p g) ((localsOf C.p (g:Int)).length - argsN C.p g) (argsN C.p g)
  (nq C (nY C x line g) x.chain line (argsN C.p g) d ⟨s.items,max s.most (nS C x+(localsOf C.p (g:Int)).length),s.start⟩)
def qZ (C:Cx)(x:Sc)(line:Nat)(d:Int)(s:Gs):Gs:=if s.start=true then co C s d 15 0 line x.chain else s
def wZ (C:Cx)(lines:Sc→List Nat→Int→Gs→Gs×List Int)(x:Sc)(inside:List Nat)(line g:Nat)(d:Int)(s:Gs):Gs:=
 let r:=lines (nY C x line g) (inside++[g]) (d - argsN C.p g) (qZ C x line (d - argsN C.p g) (wz C x line g d s))
 ⟨rF r.1.items r.1.items.length r.2,r.1.most,r.1.start⟩
def uj (p:List Ah)(k:Nat):Nat→Option Nat
 | 0=>none
 | n+1=>if endAt p n=some k∨elseAt p n=some k then some n else uj p k n
def aH (p:List Ah)(k:Nat):Nat:=(uj p k p.length).getD 0
def cH (p:List Ah)(k:Nat):Int:=match p[k]? with|some x=>x.faa|none=> -1
structure Ls where
 g:Gs
 heads:List Int
 pos:List Int
 lv:List Int
def exL (l:List Aq):Ex:=if h:bJ l=true then Classical.choose (ko h)else .node ⟨0,0,[]⟩ []
theorem wV {l:List Aq}(h:bJ l=true):(exL l).ok∧l=(exL l).toks:=by
 rw[exL,dif_pos h]
 exact Classical.choose_spec (ko h)
def atL (l:List Int)(k:Nat):Int:=l[k]?.getD 0
def gz (C:Cx)(x:Sc)(k:Nat)(last:Bool)(d:Int)(L:Ls):Ls:=
 if x.outer=true then(if C.framed=true then{L with g:=co C L.g d 14 C.args k x.chain} else{L with g:=co C L.g d 16 (C.args+16 * C.words) k x.chain})
 else if last=true then L
 else{L with g:=co C L.g d 10 0 k x.chain,lv:=L.lv++[(L.g.items.length:Int)]}
def eT (C:Cx)(rep:Sc→List Nat→Nat→Nat→Int→Gs→Gs)(x:Sc)(inside:List Nat)(base:Int)(k:Nat)(ln:Ah)(L:Ls):Ls:=
 if ln.faa=4 then
  let g:=co C L.g base 10 0 k x.chain
  {L with g:=⟨oK g.items (atL L.pos (aH C.p k)) g.items.length,g.most,g.start⟩,pos:=L.pos.set k L.g.items.length}
 else if ln.faa=7 then
  if aH C.p k=x.f then gz C x k true (base+1) {L with g:=co C L.g base 0 0 k x.chain}
  else if cH C.p (aH C.p k)=5 then{L with g:=co C L.g base 10 (atL L.heads (aH C.p k)) k x.chain}
  else L
 else
  let L1:Ls:={L with g:=sW C rep x inside k (exL ln.fad) base ⟨L.g.items,L.g.most,true⟩,heads:=L.heads.set k L.g.items.length}
  if ln.faa=1 then{L1 with g:=uo C x L1.g (base+1) (dC x.locals ln.fab) k x.chain}
  else if ln.faa=2 then{L1 with g:=co C L1.g (base+1) 17 0 k x.chain}
  else if ln.faa=6 then gz C x k false (base+1) L1
  else{L1 with g:=co C L1.g (base+1) 11 0 k x.chain,pos:=L1.pos.set k L1.g.items.length}
def yU (p:List Ah)(k:Nat):Nat:=match elseAt p (aH p k)with|some j=>j|none=>aH p k
def gh (C:Cx)(x:Sc)(k:Nat)(ln:Ah)(L:Ls):Ls:=
 if ln.faa=7∧aH C.p k≠x.f then{L with g:=⟨oK L.g.items (atL L.pos (yU C.p k)) L.g.items.length,L.g.most,L.g.start⟩} else L
def vy (C:Cx)(rep:Sc→List Nat→Nat→Nat→Int→Gs→Gs)(x:Sc)(inside:List Nat)(base:Int):Nat→Nat→Ls→Ls
 | 0,_,L=>L
 | n+1,k,L=>match C.p[k]? with
  | some ln=>vy C rep x inside base n (k+1) (gh C x k ln (eT C rep x inside base k ln L))
  | none=>L
def xD (C:Cx)(s:Gs):Ls:=⟨s,List.replicate C.p.length 0,List.replicate C.p.length 0,[]⟩
def cn (p:List Ah)(f:Nat):Nat:=(endAt p f).getD 0
def rq (C:Cx)(rep:Sc→List Nat→Nat→Nat→Int→Gs→Gs)(x:Sc)(inside:List Nat)(base:Int)(s:Gs):Gs×List Int:=
 let L:=vy C rep x inside base (cn C.p x.f - x.f) (x.f+1) (xD C s)
 (L.g,L.lv)
def oq (C:Cx):Nat→Sc→List Nat→Nat→Nat→Int→Gs→Gs
 | 0=>fun _ _ _ _ _ s=>s
 | n+1=>wZ C (rq C (oq C n))
def rh (C:Cx)(f:Nat):Sc:=⟨f,[],localsOf C.p (f:Int),0,true⟩
end
end Go.Proofs.Ytjmplnfiabmalaa
namespace Go.Proofs.Ytjmplnfiabmalaa
open Go.Sim
set_option maxRecDepth 100000
set_option maxHeartbeats 4000000
theorem bm {α:Type}{l:List α}{k:Nat}{x:α}(h:l[k]?=some x):k < l.length:=by
 rcases Nat.lt_or_ge k l.length with h'|h'
 ·exact h'
 ·rw[List.getElem?_eq_none h']at h;cases h
theorem qa {l:List Ah}{i j e:Nat}(hi:endAt l i=some e)(hj:endAt l j=some e):i=j:=by
 have key:∀{i j:Nat},endAt l i=some e→endAt l j=some e→i < j→False:=by
  intro i j hi hj hlt
  obtain⟨x,hx,ho,_,h1,_⟩:=aw hj
  obtain⟨m,hm,_,h2⟩:=bt hi hlt h1 hx ho
  rw[hj]at hm
  injection hm with hm
  omega
 rcases Nat.lt_trichotomy i j with h|h|h
 ·exact(key hi hj h).elim
 ·exact h
 ·exact(key hj hi h).elim
theorem eN {l:List Ah}{e:Nat}:∀{n i j:Nat},elseN l e n i=some j→∀k x m,i≤k→k < j→l[k]?=some x→(x.faa=3∨x.faa=5)→endAt l k=some m→m < j
 | 0,_,_,h=>by rw[elseN]at h;cases h
 | n+1,i,j,h=>by
  intro k x m h1 h2 hx h3 hm
  rw[elseN]at h
  split at h
  ·split at h
   ·rename_i y hy
    split at h
    ·injection h with h;omega
    ·split at h
     ·split at h
      ·rename_i m' hm'
       have hin:=iw h
       obtain⟨_,_,_,_,g1,_⟩:=aw hm'
       by_cases hk:k=i
       ·subst hk
        rw[hm']at hm
        injection hm with hm
        omega
       ·by_cases hk2:k≤m'
        ·by_cases hk3:k=m'
         ·subst hk3
          obtain⟨z,hz,h7⟩:=bf hm'
          rw[hx]at hz
          injection hz with hz
          subst hz
          omega
         ·obtain⟨m2,hm2,_,g2⟩:=bt hm' (by omega) (by omega) hx (by rw[opensK_iff];omega)
          rw[hm]at hm2
          injection hm2 with hm2
          omega
        ·exact eN h k x m (by omega) h2 hx h3 hm
      ·rename_i hno
       by_cases hk:k=i
       ·subst hk
        rw[hno]at hm
        cases hm
       ·exact eN h k x m (by omega) h2 hx h3 hm
     ·by_cases hk:k=i
      ·subst hk
       rw[hx]at hy
       injection hy with hy
       subst hy
       rename_i hne
       exact absurd h3 hne
      ·exact eN h k x m (by omega) h2 hx h3 hm
   ·cases h
  ·cases h
theorem oz {l:List Ah}{i j k:Nat}(hi:elseAt l i=some k)(hj:elseAt l j=some k):i=j:=by
 have key:∀{i j:Nat},elseAt l i=some k→elseAt l j=some k→i < j→False:=by
  intro i j hi hj hlt
  obtain⟨y,ej,hy,h3,hej,h4,h5,_⟩:=aO hj
  unfold elseAt at hi
  split at hi
  ·split at hi
   ·have:=eN hi j y ej (by omega) h4 hy (.inl h3) hej
    omega
   ·cases hi
  ·cases hi
 rcases Nat.lt_trichotomy i j with h|h|h
 ·exact(key hi hj h).elim
 ·exact h
 ·exact(key hj hi h).elim
theorem me {p:List Ah}{k i:Nat}:∀{n:Nat},uj p k n=some i→i < n∧(endAt p i=some k∨elseAt p i=some k)
 | 0,h=>by rw[uj]at h;cases h
 | n+1,h=>by
  rw[uj]at h
  split at h
  ·injection h with h;subst h;exact⟨by omega,by assumption⟩
  ·have:=me h;exact⟨by omega,this.2⟩
theorem pl {p:List Ah}{k i:Nat}(hi:endAt p i=some k∨elseAt p i=some k):∀{n:Nat},i < n→∃j,uj p k n=some j
 | 0,h=>by omega
 | n+1,h=>by
  rw[uj]
  split
  ·exact⟨_,rfl⟩
  ·by_cases he:i=n
   ·subst he;exact absurd hi (by assumption)
   ·exact pl hi (by omega)
theorem np {p:List Ah}{k i:Nat}(h:endAt p i=some k):aH p k=i:=by
 obtain⟨x,hx,_,_,_,_⟩:=aw h
 obtain⟨j,hj⟩:=pl (.inl h) (bm hx)
 rw[aH,hj]
 obtain⟨_,h1|h1⟩:=me hj
 ·exact qa h1 h
 ·obtain⟨_,_,_,_,_,_,_,y,hy,h4⟩:=aO h1
  obtain⟨z,hz,h7⟩:=bf h
  rw[hy]at hz
  injection hz with hz
  subst hz
  omega
theorem pq {p:List Ah}{k i:Nat}(h:elseAt p i=some k):aH p k=i:=by
 obtain⟨x,e,hx,_,_,_,_,y,hy,h4⟩:=aO h
 obtain⟨j,hj⟩:=pl (.inr h) (bm hx)
 rw[aH,hj]
 obtain⟨_,h1|h1⟩:=me hj
 ·obtain⟨z,hz,h7⟩:=bf h1
  rw[hy]at hz
  injection hz with hz
  subst hz
  omega
 ·exact oz h1 h
theorem gC {l:List Ah}{i:Nat}{x:Ah}(hx:l[i]?=some x)(h7:x.faa=7):∀(n s o e:Nat),i - s≤n→s≤i→1≤o→endN (l.drop s) s o=some e→i≤e→(∃k,s≤k∧k < i∧endAt l k=some i)∨∃j,1≤j∧j≤o∧endN (l.drop s) s j=some i
 | n,s,o,e,hn,hs,ho,h,hi=>by
  have hno:¬bh x.faa=true:=by rw[opensK_iff];omega
  by_cases he:s=i
  ·subst he
   exact .inr ⟨1,Nat.le_refl _,ho,by rw[bF hx,if_neg hno,if_pos h7,if_pos rfl]⟩
  obtain⟨m,rfl⟩:∃m,n=m+1:=⟨n - 1,by omega⟩
  have hl:=eF h
  obtain⟨y,hy⟩:=ak (l:=l) (k:=s) (by omega)
  rw[bF hy]at h
  by_cases hop:bh y.faa=true
  ·rw[if_pos hop]at h
   rcases gC hx h7 m (s+1) (o+1) e (by omega) (by omega) (by omega) h hi with⟨k,h1,h2,h3⟩|⟨j,h1,h2,h3⟩
   ·exact .inl ⟨k,by omega,h2,h3⟩
   ·by_cases hj:j=1
    ·subst hj
     exact .inl ⟨s,Nat.le_refl _,by omega,by rw[kq hy hop];exact h3⟩
    ·exact .inr ⟨j - 1,by omega,by omega,by rw[bF hy,if_pos hop,show j - 1+1=j by omega];exact h3⟩
  ·rw[if_neg hop]at h
   by_cases h7y:y.faa=7
   ·rw[if_pos h7y]at h
    by_cases h1o:o=1
    ·rw[if_pos h1o]at h
     injection h with h
     omega
    ·rw[if_neg h1o]at h
     rcases gC hx h7 m (s+1) (o - 1) e (by omega) (by omega) (by omega) h hi with⟨k,h1,h2,h3⟩|⟨j,h1,h2,h3⟩
     ·exact .inl ⟨k,by omega,h2,h3⟩
     ·exact .inr ⟨j+1,by omega,by omega,by rw[bF hy,if_neg hop,if_pos h7y,if_neg (by omega),show j+1 - 1=j by omega];exact h3⟩
   ·rw[if_neg h7y]at h
    rcases gC hx h7 m (s+1) o e (by omega) (by omega) ho h hi with⟨k,h1,h2,h3⟩|⟨j,h1,h2,h3⟩
    ·exact .inl ⟨k,by omega,h2,h3⟩
    ·exact .inr ⟨j,h1,h2,by rw[bF hy,if_neg hop,if_neg h7y];exact h3⟩
structure CxOk (C:Cx):Prop where
 len:C.p.length≤60
 small:aF 1048576 (.lst 4 (C.p.map Ah.tr))
 line:∀(k:Nat) (ln:Ah),C.p[k]?=some ln→0≤ln.faa∧ln.faa≤7∧ln.fac.length≤4∧ln.fad.length≤20∧((ln.faa=1∨ln.faa=2∨ln.faa=3∨ln.faa=5∨ln.faa=6)→bJ ln.fad=true)
 fn:∀(g:Nat) (ln:Ah),C.p[g]?=some ln→ln.faa=0→∃e,endAt C.p g=some e∧(localsOf C.p (g:Int)).length≤8∧ln.fac.length≤(localsOf C.p (g:Int)).length∧∀(k:Nat) (y:Ah),g < k→k < e→C.p[k]?=some y→y.faa≠0∧(∀t∈y.fad,t.faa=7→∃f,findN C.p 0 t.fab=some f∧(argsN C.p f:Int)=t.faf)∧(y.faa=4→∃i,g≤i∧i < k∧elseAt C.p i=some k)
 args:0≤C.args∧C.args≤4
 words:0≤C.words∧C.words≤1000
 inl:0≤C.b.fan∧C.b.fan≤3
structure ScOk (C:Cx) (x:Sc) (ins:List Nat):Prop where
 fn:∃ln,C.p[x.f]?=some ln∧ln.faa=0
 loc:x.locals=localsOf C.p (x.f:Int)
 first:0≤x.first∧x.first≤8 * ins.length
 chain:x.chain.length+1=ins.length
 out:x.outer=true↔x.chain=[]
 args:x.outer=true→C.args=argsN C.p x.f
 mem:ins.getLast?=some x.f
section
variable {C:Cx} {x:Sc} {ins:List Nat}
theorem CxOk.argsN (h:CxOk C)(g:Nat):argsN C.p g≤4:=by
 unfold Go.Proofs.Ytjmplnfiabmalaa.argsN
 split
 ·rename_i l hl
  have:=h.line _ _ hl
  omega
 ·omega
theorem ScOk.endE (hC:CxOk C)(hx:ScOk C x ins):∃e,endAt C.p x.f=some e∧x.f < e∧e < C.p.length∧cn C.p x.f=e∧x.locals.length≤8:=by
 obtain⟨ln,h1,h2⟩:=hx.fn
 obtain⟨e,h3,h4,h5,_⟩:=hC.fn _ _ h1 h2
 obtain⟨_,_,_,_,h6,h7⟩:=aw h3
 exact⟨e,h3,h6,h7,by rw[cn,h3];rfl,by rw[hx.loc];exact h4⟩
theorem ScOk.argLe (hC:CxOk C)(hx:ScOk C x ins):argsN C.p x.f≤x.locals.length:=by
 obtain⟨ln,h1,h2⟩:=hx.fn
 obtain⟨e,h3,h4,h5,_⟩:=hC.fn _ _ h1 h2
 rw[hx.loc,Go.Proofs.Ytjmplnfiabmalaa.argsN,h1]
 exact h5
theorem ScOk.own7 (hC:CxOk C)(hx:ScOk C x ins){e k:Nat}{ln:Ah}(he:endAt C.p x.f=some e)(h1:x.f < k)(h2:k≤e)(hk:C.p[k]?=some ln)(h7:ln.faa=7):
  endAt C.p (aH C.p k)=some k∧((k=e∧aH C.p k=x.f)∨(k < e∧x.f < aH C.p k∧aH C.p k < k∧∃y,C.p[aH C.p k]?=some y∧(y.faa=3∨y.faa=5))):=by
 obtain⟨l0,g1,g2⟩:=hx.fn
 obtain⟨e',g3,_,_,g4⟩:=hC.fn _ _ g1 g2
 rw[he]at g3
 injection g3 with g3
 subst g3
 by_cases hke:k=e
 ·subst hke
  rw[np he]
  exact⟨he,.inl ⟨rfl,rfl⟩⟩
 ·obtain⟨z,hz,hzo,hzn,_,_⟩:=aw he
  rcases gC hk h7 _ (x.f+1) 1 e (Nat.le_refl _) (by omega) (Nat.le_refl _) hzn h2 with⟨i,k1,k2,k3⟩|⟨j,k1,k2,k3⟩
  ·rw[np k3]
   obtain⟨y,hy,hyo,_⟩:=aw k3
   have:=(g4 i y (by omega) (by omega) hy).1
   rw[opensK_iff]at hyo
   exact⟨k3,.inr ⟨by omega,by omega,k2,y,hy,by omega⟩⟩
  ·have:j=1:=by omega
   subst this
   rw[hzn]at k3
   injection k3 with k3
   omega
theorem ScOk.own4 (hC:CxOk C)(hx:ScOk C x ins){e k:Nat}{ln:Ah}(he:endAt C.p x.f=some e)(h1:x.f < k)(h2:k≤e)(hk:C.p[k]?=some ln)(h4:ln.faa=4):
  elseAt C.p (aH C.p k)=some k∧x.f < aH C.p k∧aH C.p k < k∧k < e:=by
 obtain⟨l0,g1,g2⟩:=hx.fn
 obtain⟨e',g3,_,_,g4⟩:=hC.fn _ _ g1 g2
 rw[he]at g3
 injection g3 with g3
 subst g3
 have hke:k≠e:=fun h=>by
  subst h
  obtain⟨y,hy,h7⟩:=bf he
  rw[hk]at hy
  injection hy with hy
  subst hy
  omega
 obtain⟨i,k1,k2,k3⟩:=(g4 k ln h1 (by omega) hk).2.2 h4
 rw[pq k3]
 obtain⟨y,_,hy,h3,_⟩:=aO k3
 have:i≠x.f:=fun h=>by
  subst h
  rw[g1]at hy
  injection hy with hy
  subst hy
  omega
 exact⟨k3,by omega,k2,by omega⟩
end
structure IS where
 out:List Int
 visits:List (List Int)
inductive Rr (α:Type) where
 | ok (a:α) (s:IS)
 | stop (c:Int) (s:IS)
 | fuel
def Rr.bnd {α β:Type}(r:Rr α)(f:α→IS→Rr β):Rr β:=match r with
 | .ok a s=>f a s
 | .stop c s=> .stop c s
 | .fuel=> .fuel
theorem Rr.bnd_ok {α β:Type}(a:α)(s:IS)(f:α→IS→Rr β):(Rr.ok a s).bnd f=f a s:=rfl
theorem Rr.bnd_stop {α β:Type}(c:Int)(s:IS)(f:α→IS→Rr β):(Rr.stop c s:Rr α).bnd f= .stop c s:=rfl
abbrev gd:=Nat→List Int→IS→Rr Int
def xt (locals:List (List UInt8))(vals:List Int)(nm:List UInt8):Int:=match cY locals 0 nm with
 | some i=>atL vals i
 | none=>0
section
variable (p:List Ah) (locals:List (List UInt8)) (vals:List Int) (call:gd)
def cI (t:Aq)(av:List Int)(s:IS):Rr Int:=
 if t.faa=0 then .ok t.faf s
 else if t.faa=1 then .ok (xt locals vals t.fab) s
 else if t.faa=7 then call ((findN p 0 t.fab).getD 0) av s
 else .ok (ia t.faa (atL av 0) (atL av 1)) s
mutual
def evE:Ex→IS→Rr Int
 | .node t es,s=>(aJ es s).bnd fun av s'=>cI p locals vals call t av s'
def aJ:List Ex→IS→Rr (List Int)
 | [],s=> .ok [] s
 | a::es,s=>(evE a s).bnd fun v s'=>(aJ es s').bnd fun vs s''=> .ok (v::vs) s''
end
end
def bZ (n:Nat)(l:List Int):List Int:=l++List.replicate (n - l.length) 0
def bc (p:List Ah)(k:Nat):Nat:=match elseAt p k with
 | some j=>j
 | none=>cn p k
def gk (locals:List (List UInt8))(ln:Ah)(vals:List Int)(v:Int):List Int:=if ln.faa=1 then(match cY locals 0 ln.fab with
 | some i=>vals.set i v
 | none=>vals)else vals
def ey (ln:Ah)(s:IS)(v:Int):IS:=if ln.faa=2 then⟨s.out++[v],s.visits⟩else s
def bC (p:List Ah)(ln:Ah)(k:Nat)(v:Int):Nat:=if(ln.faa=3∨ln.faa=5)∧v=0 then bc p k+1 else k+1
noncomputable def aC (p:List Ah) (lim:Int):Nat→List Int→Nat→Nat→List Int→IS→Rr Int
 | 0,_,_,_,_,_=> .fuel
 | n+1,calls,f,k,vals,s=>match p[k]? with
  | none=> .ok 0 s
  | some ln=>
   if ln.faa=7 then
    if aH p k=f then .ok 0 s
    else aC p lim n calls f (if cH p (aH p k)=5 then aH p k else k+1) vals s
   else if ln.faa=4 then aC p lim n calls f (cn p (aH p k)+1) vals s
   else if(s.visits.length:Int)=lim then .stop 1 s
   else(evE p (localsOf p (f:Int)) vals (fun g av s'=>if calls.length=6 then .stop 2 s' else aC p lim n (calls++[(k:Int)]) g (g+1) (bZ (localsOf p (g:Int)).length av) s')
     (exL ln.fad) ⟨s.out,s.visits++[calls++[(k:Int)]]⟩).bnd fun v s'=>
    if ln.faa=6 then .ok v s'
    else aC p lim n calls f (bC p ln k v) (gk (localsOf p (f:Int)) ln vals v) (ey ln s' v)
noncomputable def aB (p:List Ah) (lim:Int) (n:Nat) (calls:List Int) (k:Nat):gd:=fun g av s'=>if calls.length=6 then .stop 2 s' else aC p lim n (calls++[(k:Int)]) g (g+1) (bZ (localsOf p (g:Int)).length av) s'
theorem fj {p:List Ah}{lim:Int}{n:Nat}{calls:List Int}{f k:Nat}{vals:List Int}{s:IS}(hk:p[k]?=none):aC p lim (n+1) calls f k vals s= .ok 0 s:=by
 rw[aC,hk]
theorem bv {p:List Ah}{lim:Int}{n:Nat}{calls:List Int}{f k:Nat}{vals:List Int}{s:IS}{ln:Ah}(hk:p[k]?=some ln)(h:ln.faa=7):
  aC p lim (n+1) calls f k vals s=if aH p k=f then .ok 0 s else aC p lim n calls f (if cH p (aH p k)=5 then aH p k else k+1) vals s:=by
 rw[aC,hk];dsimp only;rw[if_pos h]
theorem cw {p:List Ah}{lim:Int}{n:Nat}{calls:List Int}{f k:Nat}{vals:List Int}{s:IS}{ln:Ah}(hk:p[k]?=some ln)(h:ln.faa=4):
  aC p lim (n+1) calls f k vals s=aC p lim n calls f (cn p (aH p k)+1) vals s:=by
 rw[aC,hk];dsimp only;rw[if_neg (by omega),if_pos h]
theorem cu {p:List Ah}{lim:Int}{n:Nat}{calls:List Int}{f k:Nat}{vals:List Int}{s:IS}{ln:Ah}(hk:p[k]?=some ln)(h7:ln.faa≠7)(h4:ln.faa≠4)(hv:(s.visits.length:Int)=lim):
  aC p lim (n+1) calls f k vals s= .stop 1 s:=by
 rw[aC,hk];dsimp only;rw[if_neg h7,if_neg h4,if_pos hv]
theorem cB {p:List Ah}{lim:Int}{n:Nat}{calls:List Int}{f k:Nat}{vals:List Int}{s:IS}{ln:Ah}(hk:p[k]?=some ln)(h7:ln.faa≠7)(h4:ln.faa≠4)(hv:(s.visits.length:Int)≠lim):
  aC p lim (n+1) calls f k vals s=(evE p (localsOf p (f:Int)) vals (aB p lim n calls k) (exL ln.fad) ⟨s.out,s.visits++[calls++[(k:Int)]]⟩).bnd fun v s'=>
    if ln.faa=6 then .ok v s'
    else aC p lim n calls f (bC p ln k v) (gk (localsOf p (f:Int)) ln vals v) (ey ln s' v):=by
 rw[aC,hk];dsimp only;rw[if_neg h7,if_neg h4,if_neg hv];rfl
theorem iU {p:List Ah}{locals:List (List UInt8)}{vals:List Int}{call:gd}:∀(es:List Ex) (a:Ex) (s:IS),
  aJ p locals vals call (es++[a]) s=(aJ p locals vals call es s).bnd fun vs s'=>(evE p locals vals call a s').bnd fun v s''=> .ok (vs++[v]) s''
 | [],a,s=>by
  rw[List.nil_append,aJ,aJ]
  simp only[Rr.bnd_ok]
  cases evE p locals vals call a s with
  | ok v s1=>simp[Rr.bnd,aJ]
  | stop c s1=>rfl
  | fuel=>rfl
 | b::es,a,s=>by
  rw[List.cons_append,aJ,aJ]
  cases evE p locals vals call b s with
  | ok v s1=>
   simp only[Rr.bnd_ok]
   rw[iU es a s1]
   cases aJ p locals vals call es s1 with
   | ok vs s2=>
    simp only[Rr.bnd_ok]
    cases evE p locals vals call a s2 with
    | ok w s3=>simp[Rr.bnd]
    | stop c s3=>rfl
    | fuel=>rfl
   | stop c s2=>rfl
   | fuel=>rfl
  | stop c s1=>rfl
  | fuel=>rfl
theorem wd {p:List Ah}{locals:List (List UInt8)}{vals:List Int}{call:gd}{es:List Ex}{j:Nat}{a:Ex}(s:IS)(h:es[j]?=some a):
  aJ p locals vals call (es.take (j+1)) s=(aJ p locals vals call (es.take j) s).bnd fun vs s'=>(evE p locals vals call a s').bnd fun v s''=> .ok (vs++[v]) s'':=by
 rw[List.take_add_one,h]
 exact iU _ _ _
theorem cL {p:List Ah}{locals:List (List UInt8)}{vals:List Int}{call:gd}:∀{es:List Ex} {s:IS} {vs:List Int} {s':IS},aJ p locals vals call es s= .ok vs s'→vs.length=es.length
 | [],s,vs,s',h=>by rw[aJ]at h;injection h with h1 h2;subst h1;rfl
 | a::es,s,vs,s',h=>by
  rw[aJ]at h
  cases h1:evE p locals vals call a s with
  | ok v s1=>
   rw[h1,Rr.bnd_ok]at h
   cases h2:aJ p locals vals call es s1 with
   | ok ws s2=>
    rw[h2,Rr.bnd_ok]at h
    injection h with h3 h4
    subst h3
    rw[List.length_cons,List.length_cons,cL h2]
   | stop c s2=>rw[h2]at h;cases h
   | fuel=>rw[h2]at h;cases h
  | stop c s1=>rw[h1]at h;cases h
  | fuel=>rw[h1]at h;cases h
theorem vE {p:List Ah}{locals:List (List UInt8)}{vals:List Int}{call:gd}{es:List Ex}{j:Nat}{s:IS}{c:Int}{s':IS}(h:aJ p locals vals call (es.take j) s= .stop c s'):aJ p locals vals call es s= .stop c s':=by
 have key:∀(b a:List Ex),aJ p locals vals call a s= .stop c s'→aJ p locals vals call (a++b) s= .stop c s':=by
  intro b
  induction b with
  | nil=>intro a h;rw[List.append_nil];exact h
  | cons x b ih=>
   intro a h
   rw[show a++x::b=(a++[x])++b by simp]
   refine ih _ ?_
   rw[iU,h]
   rfl
 have:=key (es.drop j) (es.take j) h
 rwa [List.take_append_drop]at this
theorem vB {p:List Ah}{locals:List (List UInt8)}{vals:List Int}{call:gd}{es:List Ex}{j:Nat}{s:IS}(h:aJ p locals vals call (es.take j) s= .fuel):aJ p locals vals call es s= .fuel:=by
 have key:∀(b a:List Ex),aJ p locals vals call a s= .fuel→aJ p locals vals call (a++b) s= .fuel:=by
  intro b
  induction b with
  | nil=>intro a h;rw[List.append_nil];exact h
  | cons x b ih=>
   intro a h
   rw[show a++x::b=(a++[x])++b by simp]
   refine ih _ ?_
   rw[iU,h]
   rfl
 have:=key (es.drop j) (es.take j) h
 rwa [List.take_append_drop]at this
end Go.Proofs.Ytjmplnfiabmalaa
