import Derived.Test.YtjmplnfiabmalaaGreatGe
namespace Go.Proofs.YtjmplnfiabmalaaGreat
open Go.Sim
set_option maxRecDepth 100000
set_option maxHeartbeats 4000000
abbrev tvP (l:List TLine):TV:=tvL 4 (l.map TLine.tr)
abbrev vP (l:List TLine):AV:= .r (.c (.t (.lst 4 (l.map TLine.tr))))
theorem s_impl_opens (k:Int):Sim.Spec Tryz.prog 211 [tvI k] (rB (opensK k)):=by
 refine spec_of_W hΓ hmix Tryz.func211 rfl (by decide) rfl ?_
 unfold opensK
 repeat' ((conv=>whnf);first|refine Or.inl ?_|apply oi|(apply fi<;>intro h)|refine⟨_,rfl,?_⟩|((with_reducible show _=_);rfl))
 all_goals try((with_reducible refine Obl.mk ?_);exact KO)
 all_goals(refine⟨congrArg Tr.bool ?_⟩;simp_all;(try(rw[Bool.eq_iff_iff];simp;omega)))
theorem s_spec_l04Opens (k:Int):Sim.Spec Tryz.prog 176 [tvI k] (rB (opensK k)):=by
 refine spec_of_W hΓ hmix Tryz.func176 rfl (by decide) rfl ?_
 unfold opensK
 repeat' ((conv=>whnf);first|refine Or.inl ?_|apply oi|(apply fi<;>intro h)|refine⟨_,rfl,?_⟩|((with_reducible show _=_);rfl))
 all_goals try((with_reducible refine Obl.mk ?_);exact KO)
 all_goals(refine⟨congrArg Tr.bool ?_⟩;simp_all;(try(rw[Bool.eq_iff_iff];simp;omega)))
abbrev EndsIx (l:List TLine)(k:Nat)(R:Int):={q:Nat×Nat // q.1≤l.length∧q.2≤q.1∧(q.2=0→q.1=k)∧endI (endN (l.drop q.1) q.1 q.2)=R}
theorem endN_start {l:List TLine}{k:Nat}{x:TLine}(hx:l[k]?=some x)(ho:opensK x.fKind=true):endN (l.drop k) k 0=endAt l k:=by
 rw[endN_at hx,if_pos ho,endAt_of hx ho]
theorem s_impl_EndOf (l:List TLine)(k:Int)(hl:l.length≤1048576):Sim.Spec Tryz.prog 153 [tvP l,tvI k] (rI (endOf l k)):=by
 refine spec_of_W hΓ hmix Tryz.func153 rfl (by decide) rfl ?_
 have hlen:(l.map TLine.tr).length=l.length:=by simp
 by_cases hin:0≤k∧k < l.length
 ·obtain⟨h0,h1⟩:=hin
  obtain⟨k,rfl⟩:=Int.eq_ofNat_of_zero_le h0
  obtain⟨x,hx⟩:=get_of_lt (l:=l) (k:=k) (by omega)
  have hO:=s_impl_opens x.fKind
  have hw:IntKind.i64.wrap (((l.map TLine.tr).length:Int) - 1)=(l.length:Int) - 1:=by rw[IntWalk.i64_in _ (by omega)];omega
  have hb:=s_impl_between (k:Int) 0 (IntKind.i64.wrap (((l.map TLine.tr).length:Int) - 1))
  rw[within_iff.2 ⟨h0,by rw[hw];omega⟩]at hb
  cases ho:opensK x.fKind with
  | false=>
   rw[ho]at hO
   have:endOf l (k:Int)= -1:=by rw[endOf_at,endAt,hx];dsimp only;rw[if_neg (by simp[ho])];rfl
   rw[this]
   repeat' ((conv=>whnf);first|refine Or.inl ?_|apply oi|(apply fi<;>intro h)|refine ci hb (ai rfl (ai rfl (ai rfl trivial))) ?_|refine⟨k,x.tr,rfl,map_get hx,?_⟩|refine ci hO (ai rfl trivial) ?_|refine⟨_,rfl,?_⟩|((with_reducible show _=_);rfl))
   all_goals try((with_reducible refine Obl.mk ?_);exact KO)
   all_goals try exact KX
  | true=>
   rw[ho]at hO
   obtain⟨R,hR⟩:∃R,endOf l (k:Int)=R:=⟨_,rfl⟩
   rw[hR]
   rw[endOf_at,←endN_start hx ho]at hR
   repeat' ((conv=>whnf);first|refine Or.inl ?_|apply oi|(apply fi<;>intro h)|refine ci hb (ai rfl (ai rfl (ai rfl trivial))) ?_|refine⟨k,x.tr,rfl,map_get hx,?_⟩|refine ci hO (ai rfl trivial) ?_|refine⟨_,rfl,?_⟩|((with_reducible show _=_);rfl))
   all_goals try((with_reducible refine Obl.mk ?_);exact KO)
   all_goals try exact KX
   conv=>whnf
   refine⟨EndsIx l k R,fun q=>⟨[(0,vP l),(5,tI .i64 (q.1.2:Int)),(6,tI .i64 (q.1.1:Int))],[],[]⟩,fun q=>l.length - q.1.1,⟨(k,0),by dsimp only;omega,by omega,fun _=>rfl,hR⟩,?_,?_⟩
   ·skip
    repeat' ((conv=>whnf);first|refine Or.inl ?_|apply oi|(apply fi<;>intro h)|refine⟨_,rfl,?_⟩|((with_reducible show _=_);rfl))
    all_goals try((with_reducible refine Obl.mk ?_);exact KO)
   intro⟨⟨i,o⟩,hi,hoi,hs,hr⟩
   dsimp only at hi hoi hs hr ⊢
   by_cases hlt:i < l.length
   ·obtain⟨y,hy⟩:=get_of_lt hlt
    have hO2:=s_impl_opens y.fKind
    rw[endN_at hy]at hr
    cases hoy:opensK y.fKind with
    | true=>
     rw[hoy]at hO2
     rw[if_pos hoy]at hr
     have h7:y.fKind≠7:=by rw[opensK_iff]at hoy;omega
     repeat' ((conv=>whnf);first|refine Or.inl ?_|apply oi|(apply fi<;>intro h)|refine⟨i,y.tr,rfl,map_get hy,?_⟩|refine ci hO2 (ai rfl trivial) ?_|refine⟨_,rfl,?_⟩|((with_reducible show _=_);rfl))
     all_goals try((with_reducible refine Obl.mk ?_);exact KO)
     all_goals try exact KX
     all_goals try(exfalso;(try simp_all[within]);(try omega);done)
     all_goals try exact K3
     conv=>whnf
     refine⟨⟨(i+1,o+1),by dsimp only;omega,by dsimp only;omega,fun h=>by omega,hr⟩,?_,by dsimp only;omega⟩
     repeat' ((conv=>whnf);first|refine Or.inl ?_|apply oi|(apply fi<;>intro h)|refine⟨_,rfl,?_⟩|((with_reducible show _=_);rfl))
     all_goals try((with_reducible refine Obl.mk ?_);exact KO)
     all_goals try exact⟨K2⟩
     all_goals exact⟨by dsimp only;rw[IntWalk.i64_in _ (by omega)];rfl⟩
    | false=>
     rw[hoy]at hO2
     rw[if_neg (by simp[hoy])]at hr
     have hne:o≠0:=fun h=>by
      have:=hs h
      subst this
      rw[hx]at hy
      injection hy with hy
      subst hy
      rw[ho]at hoy
      cases hoy
     by_cases h7:y.fKind=7
     ·rw[if_pos h7]at hr
      by_cases h1:o=1
      ·rw[if_pos h1]at hr
       subst hr
       subst h1
       repeat' ((conv=>whnf);first|refine Or.inl ?_|apply oi|(apply fi<;>intro h)|refine⟨i,y.tr,rfl,map_get hy,?_⟩|refine ci hO2 (ai rfl trivial) ?_|refine⟨_,rfl,?_⟩|((with_reducible show _=_);rfl))
       all_goals try((with_reducible refine Obl.mk ?_);exact KO)
       all_goals try exact KX
       all_goals try(exfalso;(try simp_all[within]);(try omega);done)
      ·rw[if_neg h1]at hr
       repeat' ((conv=>whnf);first|refine Or.inl ?_|apply oi|(apply fi<;>intro h)|refine⟨i,y.tr,rfl,map_get hy,?_⟩|refine ci hO2 (ai rfl trivial) ?_|refine⟨_,rfl,?_⟩|((with_reducible show _=_);rfl))
       all_goals try((with_reducible refine Obl.mk ?_);exact KO)
       all_goals try exact KX
       all_goals try(exfalso;(try simp_all[within]);(try omega);done)
       all_goals try exact K3
       conv=>whnf
       refine⟨⟨(i+1,o - 1),by dsimp only;omega,by dsimp only;omega,fun h=>by omega,hr⟩,?_,by dsimp only;omega⟩
       repeat' ((conv=>whnf);first|refine Or.inl ?_|apply oi|(apply fi<;>intro h)|refine⟨_,rfl,?_⟩|((with_reducible show _=_);rfl))
       all_goals try((with_reducible refine Obl.mk ?_);exact KO)
       all_goals try exact⟨K2⟩
       all_goals exact⟨by dsimp only;congr 1;rw[IntWalk.i64_in _ (by omega)];omega⟩
     ·rw[if_neg h7]at hr
      repeat' ((conv=>whnf);first|refine Or.inl ?_|apply oi|(apply fi<;>intro h)|refine⟨i,y.tr,rfl,map_get hy,?_⟩|refine ci hO2 (ai rfl trivial) ?_|refine⟨_,rfl,?_⟩|((with_reducible show _=_);rfl))
      all_goals try((with_reducible refine Obl.mk ?_);exact KO)
      all_goals try exact KX
      all_goals try(exfalso;(try simp_all[within]);(try omega);done)
      all_goals try exact K4
      conv=>whnf
      refine⟨⟨(i+1,o),by dsimp only;omega,by dsimp only;omega,fun h=>by omega,hr⟩,?_,by dsimp only;omega⟩
      repeat' ((conv=>whnf);first|refine Or.inl ?_|apply oi|(apply fi<;>intro h)|refine⟨_,rfl,?_⟩|((with_reducible show _=_);rfl))
      all_goals try((with_reducible refine Obl.mk ?_);exact KO)
      all_goals try exact⟨K2⟩
   ·rw[endN_no (by omega)]at hr
    subst hr
    repeat' ((conv=>whnf);first|refine Or.inl ?_|apply oi|(apply fi<;>intro h)|refine⟨_,rfl,?_⟩|((with_reducible show _=_);rfl))
    all_goals try((with_reducible refine Obl.mk ?_);exact KO)
    all_goals try exact KX
 ·have:endOf l k= -1:=by
   rw[endOf]
   split
   ·rw[endAt,List.getElem?_eq_none (by omega)];rfl
   ·rfl
  rw[this]
  have hb:=s_impl_between k 0 (IntKind.i64.wrap (((l.map TLine.tr).length:Int) - 1))
  have hw:IntKind.i64.wrap (((l.map TLine.tr).length:Int) - 1)=(l.length:Int) - 1:=by rw[IntWalk.i64_in _ (by omega)];omega
  have hf:within k 0 (IntKind.i64.wrap (((l.map TLine.tr).length:Int) - 1))=false:=by
   cases hx:within k 0 (IntKind.i64.wrap (((l.map TLine.tr).length:Int) - 1))with
   | false=>rfl
   | true=>have:=within_iff.1 hx;rw[hw]at this;exact absurd ⟨this.1,by omega⟩ hin
  rw[hf]at hb
  repeat' ((conv=>whnf);first|refine Or.inl ?_|apply oi|(apply fi<;>intro h)|refine ci hb (ai rfl (ai rfl (ai rfl trivial))) ?_|refine⟨_,rfl,?_⟩|((with_reducible show _=_);rfl))
  all_goals try((with_reducible refine Obl.mk ?_);exact KO)
  all_goals try exact KX
theorem s_spec_EndOf (l:List TLine)(k:Int)(hl:l.length≤1048576):Sim.Spec Tryz.prog 120 [tvP l,tvI k] (rI (endOf l k)):=by
 refine spec_of_W hΓ hmix Tryz.func120 rfl (by decide) rfl ?_
 have hlen:(l.map TLine.tr).length=l.length:=by simp
 by_cases hin:0≤k∧k < l.length
 ·obtain⟨h0,h1⟩:=hin
  obtain⟨k,rfl⟩:=Int.eq_ofNat_of_zero_le h0
  obtain⟨x,hx⟩:=get_of_lt (l:=l) (k:=k) (by omega)
  have hO:=s_spec_l04Opens x.fKind
  skip
  cases ho:opensK x.fKind with
  | false=>
   rw[ho]at hO
   have:endOf l (k:Int)= -1:=by rw[endOf_at,endAt,hx];dsimp only;rw[if_neg (by simp[ho])];rfl
   rw[this]
   repeat' ((conv=>whnf);first|refine Or.inl ?_|apply oi|(apply fi<;>intro h)|refine⟨k,x.tr,rfl,map_get hx,?_⟩|refine ci hO (ai rfl trivial) ?_|refine⟨_,rfl,?_⟩|((with_reducible show _=_);rfl))
   all_goals try((with_reducible refine Obl.mk ?_);exact KO)
   all_goals try exact KX
  | true=>
   rw[ho]at hO
   obtain⟨R,hR⟩:∃R,endOf l (k:Int)=R:=⟨_,rfl⟩
   rw[hR]
   rw[endOf_at,←endN_start hx ho]at hR
   repeat' ((conv=>whnf);first|refine Or.inl ?_|apply oi|(apply fi<;>intro h)|refine⟨k,x.tr,rfl,map_get hx,?_⟩|refine ci hO (ai rfl trivial) ?_|refine⟨_,rfl,?_⟩|((with_reducible show _=_);rfl))
   all_goals try((with_reducible refine Obl.mk ?_);exact KO)
   all_goals try exact KX
   conv=>whnf
   refine⟨EndsIx l k R,fun q=>⟨[(0,vP l),(5,tI .i64 (q.1.2:Int)),(6,tI .i64 (q.1.1:Int))],[],[]⟩,fun q=>l.length - q.1.1,⟨(k,0),by dsimp only;omega,by omega,fun _=>rfl,hR⟩,?_,?_⟩
   ·skip
    repeat' ((conv=>whnf);first|refine Or.inl ?_|apply oi|(apply fi<;>intro h)|refine⟨_,rfl,?_⟩|((with_reducible show _=_);rfl))
    all_goals try((with_reducible refine Obl.mk ?_);exact KO)
   intro⟨⟨i,o⟩,hi,hoi,hs,hr⟩
   dsimp only at hi hoi hs hr ⊢
   by_cases hlt:i < l.length
   ·obtain⟨y,hy⟩:=get_of_lt hlt
    have hO2:=s_spec_l04Opens y.fKind
    rw[endN_at hy]at hr
    cases hoy:opensK y.fKind with
    | true=>
     rw[hoy]at hO2
     rw[if_pos hoy]at hr
     have h7:y.fKind≠7:=by rw[opensK_iff]at hoy;omega
     repeat' ((conv=>whnf);first|refine Or.inl ?_|apply oi|(apply fi<;>intro h)|refine⟨i,y.tr,rfl,map_get hy,?_⟩|refine ci hO2 (ai rfl trivial) ?_|refine⟨_,rfl,?_⟩|((with_reducible show _=_);rfl))
     all_goals try((with_reducible refine Obl.mk ?_);exact KO)
     all_goals try exact KX
     all_goals try(exfalso;(try simp_all[within]);(try omega);done)
     all_goals try exact K3
     conv=>whnf
     refine⟨⟨(i+1,o+1),by dsimp only;omega,by dsimp only;omega,fun h=>by omega,hr⟩,?_,by dsimp only;omega⟩
     repeat' ((conv=>whnf);first|refine Or.inl ?_|apply oi|(apply fi<;>intro h)|refine⟨_,rfl,?_⟩|((with_reducible show _=_);rfl))
     all_goals try((with_reducible refine Obl.mk ?_);exact KO)
     all_goals try exact⟨K2⟩
     all_goals exact⟨by dsimp only;rw[IntWalk.i64_in _ (by omega)];rfl⟩
    | false=>
     rw[hoy]at hO2
     rw[if_neg (by simp[hoy])]at hr
     have hne:o≠0:=fun h=>by
      have:=hs h
      subst this
      rw[hx]at hy
      injection hy with hy
      subst hy
      rw[ho]at hoy
      cases hoy
     by_cases h7:y.fKind=7
     ·rw[if_pos h7]at hr
      by_cases h1:o=1
      ·rw[if_pos h1]at hr
       subst hr
       subst h1
       repeat' ((conv=>whnf);first|refine Or.inl ?_|apply oi|(apply fi<;>intro h)|refine⟨i,y.tr,rfl,map_get hy,?_⟩|refine ci hO2 (ai rfl trivial) ?_|refine⟨_,rfl,?_⟩|((with_reducible show _=_);rfl))
       all_goals try((with_reducible refine Obl.mk ?_);exact KO)
       all_goals try exact KX
       all_goals try(exfalso;(try simp_all[within]);(try omega);done)
      ·rw[if_neg h1]at hr
       repeat' ((conv=>whnf);first|refine Or.inl ?_|apply oi|(apply fi<;>intro h)|refine⟨i,y.tr,rfl,map_get hy,?_⟩|refine ci hO2 (ai rfl trivial) ?_|refine⟨_,rfl,?_⟩|((with_reducible show _=_);rfl))
       all_goals try((with_reducible refine Obl.mk ?_);exact KO)
       all_goals try exact KX
       all_goals try(exfalso;(try simp_all[within]);(try omega);done)
       all_goals try exact K3
       conv=>whnf
       refine⟨⟨(i+1,o - 1),by dsimp only;omega,by dsimp only;omega,fun h=>by omega,hr⟩,?_,by dsimp only;omega⟩
       repeat' ((conv=>whnf);first|refine Or.inl ?_|apply oi|(apply fi<;>intro h)|refine⟨_,rfl,?_⟩|((with_reducible show _=_);rfl))
       all_goals try((with_reducible refine Obl.mk ?_);exact KO)
       all_goals try exact⟨K2⟩
       all_goals exact⟨by dsimp only;congr 1;rw[IntWalk.i64_in _ (by omega)];omega⟩
     ·rw[if_neg h7]at hr
      repeat' ((conv=>whnf);first|refine Or.inl ?_|apply oi|(apply fi<;>intro h)|refine⟨i,y.tr,rfl,map_get hy,?_⟩|refine ci hO2 (ai rfl trivial) ?_|refine⟨_,rfl,?_⟩|((with_reducible show _=_);rfl))
      all_goals try((with_reducible refine Obl.mk ?_);exact KO)
      all_goals try exact KX
      all_goals try(exfalso;(try simp_all[within]);(try omega);done)
      all_goals try exact K4
      conv=>whnf
      refine⟨⟨(i+1,o),by dsimp only;omega,by dsimp only;omega,fun h=>by omega,hr⟩,?_,by dsimp only;omega⟩
      repeat' ((conv=>whnf);first|refine Or.inl ?_|apply oi|(apply fi<;>intro h)|refine⟨_,rfl,?_⟩|((with_reducible show _=_);rfl))
      all_goals try((with_reducible refine Obl.mk ?_);exact KO)
      all_goals try exact⟨K2⟩
   ·rw[endN_no (by omega)]at hr
    subst hr
    repeat' ((conv=>whnf);first|refine Or.inl ?_|apply oi|(apply fi<;>intro h)|refine⟨_,rfl,?_⟩|((with_reducible show _=_);rfl))
    all_goals try((with_reducible refine Obl.mk ?_);exact KO)
    all_goals try exact KX
 ·have:endOf l k= -1:=by
   rw[endOf]
   split
   ·rw[endAt,List.getElem?_eq_none (by omega)];rfl
   ·rfl
  rw[this]
  repeat' ((conv=>whnf);first|refine Or.inl ?_|apply oi|(apply fi<;>intro h)|refine⟨_,rfl,?_⟩|((with_reducible show _=_);rfl))
  all_goals try((with_reducible refine Obl.mk ?_);exact KO)
  all_goals try exact KX
end Go.Proofs.YtjmplnfiabmalaaGreat
namespace Go.Proofs.YtjmplnfiabmalaaGreat
open Go.Sim
set_option maxRecDepth 100000
theorem deepRows_length (a:List (List Tr)):(deepRows a).length=a.length:=by simp[deepRows]
theorem undeep (a:List (List Tr)):(deepRows a).map (·.map DC.tr)=a:=by
 rw[deepRows,List.map_map]
 conv=>rhs;rw[←List.map_id a]
 apply List.map_congr_left
 intro r _
 simp only[Function.comp,List.map_map,id]
 conv=>rhs;rw[←List.map_id r]
 apply List.map_congr_left
 intro x _
 rfl
theorem deepRows_get {l:List (List Tr)}{k:Nat}{r:List Tr}(h:l[k]?=some r):(deepRows l)[k]?=some (r.map .d):=by simp[deepRows,h]
theorem deepRows_set (l:List (List Tr))(k:Nat)(r:List Tr):(deepRows l).set k (r.map .d)=deepRows (l.set k r):=by simp[deepRows,List.map_set]
theorem seq_inl {A:Prop}{Q:(ι:Type)→(ι→St)→Prop}(h:A):A∨∃(ι:Type) (S:ι→St),Q ι S:=Or.inl h
theorem flat_map {α:Type}{g:α→List Tr}(l:List α)(h:∀x,∀c∈g x,∀sz rs,c≠.lst sz rs):flat (l.map g):=by
 intro row hr c hc sz rs
 obtain⟨x,_,rfl⟩:=List.mem_map.1 hr
 exact h x c hc sz rs
theorem flat_ints (l:List Int):flat (l.map intRow):=flat_map _ (by intro x c hc sz rs e;subst e;simp[intRow]at hc)
end Go.Proofs.YtjmplnfiabmalaaGreat
namespace Go.Proofs.YtjmplnfiabmalaaGreat
open Go.Sim
set_option maxRecDepth 100000
set_option maxHeartbeats 4000000
theorem flat_strs (l:List (List UInt8)):flat (l.map strRow):=flat_map _ (by intro x c hc sz rs e;subst e;simp[strRow]at hc)
theorem elseAt_off {l:List TLine}{k:Nat}{x:TLine}(hx:l[k]?=some x)(h:x.fKind≠3∨endAt l k=none):elseAt l k=none:=by
 unfold elseAt
 rw[hx]
 cases he:endAt l k with
 | none=>rfl
 | some e=>
  dsimp only
  rw[if_neg]
  rcases h with h|h
  ·exact h
  ·rw[he]at h;cases h
theorem s_impl_ElseOf (l:List TLine)(k:Int)(hl:l.length≤1048576):Sim.Spec Tryz.prog 156 [tvP l,tvI k] (rI (elseOf l k)):=by
 refine spec_of_W hΓ hmix Tryz.func156 rfl (by decide) rfl ?_
 have hlen:(l.map TLine.tr).length=l.length:=by simp
 have hE:=s_impl_EndOf l k hl
 cases he:endAt l k.toNat with
 | none=>
  have h1:endOf l k= -1:=by rw[endOf,he];split <;> rfl
  have h2:elseOf l k= -1:=by
   rw[elseOf]
   split
   ·unfold elseAt;rw[he];cases l[k.toNat]? <;> rfl
   ·rfl
  rw[h1]at hE
  rw[h2]
  repeat' ((conv=>whnf);first|refine Or.inl ?_|apply oi|(apply fi<;>intro h)|refine ci hE (ai rfl (ai rfl trivial)) ?_|refine⟨_,rfl,?_⟩|((with_reducible show _=_);rfl))
  all_goals try((with_reducible refine Obl.mk ?_);exact KO)
  all_goals try exact KX
 | some e=>
  obtain⟨x,hx,ho,_,hke,hel⟩:=endAt_some he
  by_cases h0:0≤k
  ·obtain⟨k,rfl⟩:=Int.eq_ofNat_of_zero_le h0
   rw[Int.toNat_natCast]at he hx hke
   rw[endOf_at,endI_some he]at hE
   by_cases h3:x.fKind=3
   ·obtain⟨R,hR⟩:∃R,elseOf l (k:Int)=R:=⟨_,rfl⟩
    rw[hR]
    have hR:endI (elseN l e (e - (k+1)) (k+1))=R:=by
     rw[elseOf,if_pos h0,Int.toNat_natCast,elseAt,hx,he]at hR
     dsimp only at hR
     rw[if_pos h3]at hR
     exact hR
    repeat' ((conv=>whnf);first|refine Or.inl ?_|apply oi|(apply fi<;>intro h)|refine ci hE (ai rfl (ai rfl trivial)) ?_|refine⟨k,x.tr,rfl,map_get hx,?_⟩|refine⟨_,rfl,?_⟩|((with_reducible show _=_);rfl))
    all_goals try((with_reducible refine Obl.mk ?_);exact KO)
    all_goals try exact KX
    all_goals try(exfalso;(try simp_all[within]);(try omega);done)
    conv=>whnf
    refine⟨{i:Nat // k < i∧i≤e∧endI (elseN l e (e - i) i)=R},fun q=>⟨[(0,vP l),(5,tI .i64 (e:Int)),(6,tI .i64 (q.1:Int))],[],[]⟩,fun q=>e - q.1,⟨k+1,by omega,by omega,hR⟩,?_,?_⟩
    ·skip
     repeat' ((conv=>whnf);first|refine Or.inl ?_|apply oi|(apply fi<;>intro h)|refine⟨_,rfl,?_⟩|((with_reducible show _=_);rfl))
     all_goals try((with_reducible refine Obl.mk ?_);exact KO)
     all_goals exact⟨by dsimp only;rw[IntWalk.i64_in _ (by omega)];rfl⟩
    intro⟨i,hki,hi,hr⟩
    dsimp only at hki hi hr ⊢
    by_cases hlt:i < e
    ·obtain⟨y,hy⟩:=get_of_lt (l:=l) (k:=i) (by omega)
     rw[elseN_step hlt hy]at hr
     have hE2:=s_impl_EndOf l (i:Int) hl
     by_cases h4:y.fKind=4
     ·rw[if_pos h4]at hr
      subst hr
      repeat' ((conv=>whnf);first|refine Or.inl ?_|apply oi|(apply fi<;>intro h)|refine ci hE2 (ai rfl (ai rfl trivial)) ?_|refine⟨i,y.tr,rfl,map_get hy,?_⟩|refine⟨_,rfl,?_⟩|((with_reducible show _=_);rfl))
      all_goals try((with_reducible refine Obl.mk ?_);exact KO)
      all_goals try exact KX
      all_goals try(exfalso;(try simp_all[within]);(try omega);done)
     ·rw[if_neg h4]at hr
      by_cases h5:y.fKind=3∨y.fKind=5
      ·rw[if_pos h5]at hr
       obtain⟨m,hm,hm1,hm2⟩:=endAt_in he (i:=i) hki hlt hy (opensK_iff.2 (by omega))
       rw[hm]at hr
       dsimp only at hr
       rw[endOf_at,endI_some hm]at hE2
       repeat' ((conv=>whnf);first|refine Or.inl ?_|apply oi|(apply fi<;>intro h)|refine ci hE2 (ai rfl (ai rfl trivial)) ?_|refine⟨i,y.tr,rfl,map_get hy,?_⟩|refine⟨_,rfl,?_⟩|((with_reducible show _=_);rfl))
       all_goals try((with_reducible refine Obl.mk ?_);exact KO)
       all_goals try exact KX
       all_goals try(exfalso;(try simp_all[within]);(try omega);done)
       all_goals
        conv=>whnf
        refine⟨⟨m+1,by omega,by omega,hr⟩,?_,by dsimp only;omega⟩
        repeat' ((conv=>whnf);first|refine Or.inl ?_|apply oi|(apply fi<;>intro h)|refine⟨_,rfl,?_⟩|((with_reducible show _=_);rfl))
        all_goals try((with_reducible refine Obl.mk ?_);exact KO)
        all_goals try exact⟨K2⟩
        all_goals exact⟨by dsimp only;rw[IntWalk.i64_in _ (by omega)];rfl⟩
      ·rw[if_neg h5]at hr
       repeat' ((conv=>whnf);first|refine Or.inl ?_|apply oi|(apply fi<;>intro h)|refine ci hE2 (ai rfl (ai rfl trivial)) ?_|refine⟨i,y.tr,rfl,map_get hy,?_⟩|refine⟨_,rfl,?_⟩|((with_reducible show _=_);rfl))
       all_goals try((with_reducible refine Obl.mk ?_);exact KO)
       all_goals try exact KX
       all_goals try(exfalso;(try simp_all[within]);(try omega);done)
       all_goals try(exfalso;simp_all;done)
       conv=>whnf
       refine⟨⟨i+1,by omega,by omega,hr⟩,?_,by dsimp only;omega⟩
       repeat' ((conv=>whnf);first|refine Or.inl ?_|apply oi|(apply fi<;>intro h)|refine⟨_,rfl,?_⟩|((with_reducible show _=_);rfl))
       all_goals try((with_reducible refine Obl.mk ?_);exact KO)
       all_goals try exact⟨K2⟩
       all_goals exact⟨by dsimp only;rw[IntWalk.i64_in _ (by omega)];rfl⟩
    ·rw[elseN_end (by omega)]at hr
     subst hr
     repeat' ((conv=>whnf);first|refine Or.inl ?_|apply oi|(apply fi<;>intro h)|refine⟨_,rfl,?_⟩|((with_reducible show _=_);rfl))
     all_goals try((with_reducible refine Obl.mk ?_);exact KO)
     all_goals try exact KX
   ·have h2:elseOf l (k:Int)= -1:=by
     rw[elseOf,if_pos h0,Int.toNat_natCast,elseAt_off hx (.inl h3)];rfl
    rw[h2]
    repeat' ((conv=>whnf);first|refine Or.inl ?_|apply oi|(apply fi<;>intro h)|refine ci hE (ai rfl (ai rfl trivial)) ?_|refine⟨k,x.tr,rfl,map_get hx,?_⟩|refine⟨_,rfl,?_⟩|((with_reducible show _=_);rfl))
    all_goals try((with_reducible refine Obl.mk ?_);exact KO)
    all_goals try exact KX
    all_goals try(exfalso;(try simp_all[within]);(try omega);done)
  ·have h1:endOf l k= -1:=by rw[endOf,if_neg h0]
   have h2:elseOf l k= -1:=by rw[elseOf,if_neg h0]
   rw[h1]at hE
   rw[h2]
   repeat' ((conv=>whnf);first|refine Or.inl ?_|apply oi|(apply fi<;>intro h)|refine ci hE (ai rfl (ai rfl trivial)) ?_|refine⟨_,rfl,?_⟩|((with_reducible show _=_);rfl))
   all_goals try((with_reducible refine Obl.mk ?_);exact KO)
   all_goals try exact KX
theorem s_spec_ElseOf (l:List TLine)(k:Int)(hl:l.length≤1048576):Sim.Spec Tryz.prog 178 [tvP l,tvI k] (rI (elseOf l k)):=by
 refine spec_of_W hΓ hmix Tryz.func178 rfl (by decide) rfl ?_
 have hlen:(l.map TLine.tr).length=l.length:=by simp
 have hE:=s_spec_EndOf l k hl
 cases he:endAt l k.toNat with
 | none=>
  have h1:endOf l k= -1:=by rw[endOf,he];split <;> rfl
  have h2:elseOf l k= -1:=by
   rw[elseOf]
   split
   ·unfold elseAt;rw[he];cases l[k.toNat]? <;> rfl
   ·rfl
  rw[h1]at hE
  rw[h2]
  repeat' ((conv=>whnf);first|refine Or.inl ?_|apply oi|(apply fi<;>intro h)|refine ci hE (ai rfl (ai rfl trivial)) ?_|refine⟨_,rfl,?_⟩|((with_reducible show _=_);rfl))
  all_goals try((with_reducible refine Obl.mk ?_);exact KO)
  all_goals try exact KX
 | some e=>
  obtain⟨x,hx,ho,_,hke,hel⟩:=endAt_some he
  by_cases h0:0≤k
  ·obtain⟨k,rfl⟩:=Int.eq_ofNat_of_zero_le h0
   rw[Int.toNat_natCast]at he hx hke
   rw[endOf_at,endI_some he]at hE
   by_cases h3:x.fKind=3
   ·obtain⟨R,hR⟩:∃R,elseOf l (k:Int)=R:=⟨_,rfl⟩
    rw[hR]
    have hR:endI (elseN l e (e - (k+1)) (k+1))=R:=by
     rw[elseOf,if_pos h0,Int.toNat_natCast,elseAt,hx,he]at hR
     dsimp only at hR
     rw[if_pos h3]at hR
     exact hR
    repeat' ((conv=>whnf);first|refine Or.inl ?_|apply oi|(apply fi<;>intro h)|refine ci hE (ai rfl (ai rfl trivial)) ?_|refine⟨k,x.tr,rfl,map_get hx,?_⟩|refine⟨_,rfl,?_⟩|((with_reducible show _=_);rfl))
    all_goals try((with_reducible refine Obl.mk ?_);exact KO)
    all_goals try exact KX
    all_goals try(exfalso;(try simp_all[within]);(try omega);done)
    conv=>whnf
    refine⟨{i:Nat // k < i∧i≤e∧endI (elseN l e (e - i) i)=R},fun q=>⟨[(0,vP l),(5,tI .i64 (e:Int)),(6,tI .i64 (q.1:Int))],[],[]⟩,fun q=>e - q.1,⟨k+1,by omega,by omega,hR⟩,?_,?_⟩
    ·skip
     repeat' ((conv=>whnf);first|refine Or.inl ?_|apply oi|(apply fi<;>intro h)|refine⟨_,rfl,?_⟩|((with_reducible show _=_);rfl))
     all_goals try((with_reducible refine Obl.mk ?_);exact KO)
     all_goals exact⟨by dsimp only;rw[IntWalk.i64_in _ (by omega)];rfl⟩
    intro⟨i,hki,hi,hr⟩
    dsimp only at hki hi hr ⊢
    by_cases hlt:i < e
    ·obtain⟨y,hy⟩:=get_of_lt (l:=l) (k:=i) (by omega)
     rw[elseN_step hlt hy]at hr
     have hE2:=s_spec_EndOf l (i:Int) hl
     by_cases h4:y.fKind=4
     ·rw[if_pos h4]at hr
      subst hr
      repeat' ((conv=>whnf);first|refine Or.inl ?_|apply oi|(apply fi<;>intro h)|refine ci hE2 (ai rfl (ai rfl trivial)) ?_|refine⟨i,y.tr,rfl,map_get hy,?_⟩|refine⟨_,rfl,?_⟩|((with_reducible show _=_);rfl))
      all_goals try((with_reducible refine Obl.mk ?_);exact KO)
      all_goals try exact KX
      all_goals try(exfalso;(try simp_all[within]);(try omega);done)
     ·rw[if_neg h4]at hr
      by_cases h5:y.fKind=3∨y.fKind=5
      ·rw[if_pos h5]at hr
       obtain⟨m,hm,hm1,hm2⟩:=endAt_in he (i:=i) hki hlt hy (opensK_iff.2 (by omega))
       rw[hm]at hr
       dsimp only at hr
       rw[endOf_at,endI_some hm]at hE2
       repeat' ((conv=>whnf);first|refine Or.inl ?_|apply oi|(apply fi<;>intro h)|refine ci hE2 (ai rfl (ai rfl trivial)) ?_|refine⟨i,y.tr,rfl,map_get hy,?_⟩|refine⟨_,rfl,?_⟩|((with_reducible show _=_);rfl))
       all_goals try((with_reducible refine Obl.mk ?_);exact KO)
       all_goals try exact KX
       all_goals try(exfalso;(try simp_all[within]);(try omega);done)
       all_goals
        conv=>whnf
        refine⟨⟨m+1,by omega,by omega,hr⟩,?_,by dsimp only;omega⟩
        repeat' ((conv=>whnf);first|refine Or.inl ?_|apply oi|(apply fi<;>intro h)|refine⟨_,rfl,?_⟩|((with_reducible show _=_);rfl))
        all_goals try((with_reducible refine Obl.mk ?_);exact KO)
        all_goals try exact⟨K2⟩
        all_goals exact⟨by dsimp only;rw[IntWalk.i64_in _ (by omega)];rfl⟩
      ·rw[if_neg h5]at hr
       repeat' ((conv=>whnf);first|refine Or.inl ?_|apply oi|(apply fi<;>intro h)|refine ci hE2 (ai rfl (ai rfl trivial)) ?_|refine⟨i,y.tr,rfl,map_get hy,?_⟩|refine⟨_,rfl,?_⟩|((with_reducible show _=_);rfl))
       all_goals try((with_reducible refine Obl.mk ?_);exact KO)
       all_goals try exact KX
       all_goals try(exfalso;(try simp_all[within]);(try omega);done)
       all_goals try(exfalso;simp_all;done)
       conv=>whnf
       refine⟨⟨i+1,by omega,by omega,hr⟩,?_,by dsimp only;omega⟩
       repeat' ((conv=>whnf);first|refine Or.inl ?_|apply oi|(apply fi<;>intro h)|refine⟨_,rfl,?_⟩|((with_reducible show _=_);rfl))
       all_goals try((with_reducible refine Obl.mk ?_);exact KO)
       all_goals try exact⟨K2⟩
       all_goals exact⟨by dsimp only;rw[IntWalk.i64_in _ (by omega)];rfl⟩
    ·rw[elseN_end (by omega)]at hr
     subst hr
     repeat' ((conv=>whnf);first|refine Or.inl ?_|apply oi|(apply fi<;>intro h)|refine⟨_,rfl,?_⟩|((with_reducible show _=_);rfl))
     all_goals try((with_reducible refine Obl.mk ?_);exact KO)
     all_goals try exact KX
   ·have h2:elseOf l (k:Int)= -1:=by
     rw[elseOf,if_pos h0,Int.toNat_natCast,elseAt_off hx (.inl h3)];rfl
    rw[h2]
    repeat' ((conv=>whnf);first|refine Or.inl ?_|apply oi|(apply fi<;>intro h)|refine ci hE (ai rfl (ai rfl trivial)) ?_|refine⟨k,x.tr,rfl,map_get hx,?_⟩|refine⟨_,rfl,?_⟩|((with_reducible show _=_);rfl))
    all_goals try((with_reducible refine Obl.mk ?_);exact KO)
    all_goals try exact KX
    all_goals try(exfalso;(try simp_all[within]);(try omega);done)
  ·have h1:endOf l k= -1:=by rw[endOf,if_neg h0]
   have h2:elseOf l k= -1:=by rw[elseOf,if_neg h0]
   rw[h1]at hE
   rw[h2]
   repeat' ((conv=>whnf);first|refine Or.inl ?_|apply oi|(apply fi<;>intro h)|refine ci hE (ai rfl (ai rfl trivial)) ?_|refine⟨_,rfl,?_⟩|((with_reducible show _=_);rfl))
   all_goals try((with_reducible refine Obl.mk ?_);exact KO)
   all_goals try exact KX
theorem s_impl_FunctionLines (l:List TLine)(hl:l.length≤1048576):Sim.Spec Tryz.prog 100 [tvP l] (rL 1 ((funs l).map fun n:Nat=>intRow n)):=by
 refine spec_of_W hΓ hmix Tryz.func100 rfl (by decide) rfl ?_
 have hlen:(l.map TLine.tr).length=l.length:=by simp
 obtain⟨R,hR⟩:∃R,funs l=R:=⟨_,rfl⟩
 rw[hR]
 repeat' ((conv=>whnf);first|refine Or.inl ?_|apply oi|(apply fi<;>intro h)|refine⟨_,rfl,?_⟩|((with_reducible show _=_);rfl))
 all_goals try((with_reducible refine Obl.mk ?_);exact KO)
 conv=>whnf
 refine⟨{q:Nat×List Nat // q.1≤l.length∧q.2.length≤q.1∧q.2++funsF (l.drop q.1) q.1=R},fun q=>⟨[(0,vP l),(3,.r (.c (.own (6,0,0)))),(7,vP l),(8,tI .i64 ((l.map TLine.tr).length:Int)),(9,tI .i64 (q.1.1:Int))],[((6,0,0),some (.arr true 1 (q.1.2.map fun n:Nat=>intRow n)))],[6]⟩,fun q=>l.length - q.1.1,⟨(0,[]),by simp,by simp,by simpa [funs]using hR⟩,?_,?_⟩
 ·skip
  repeat' ((conv=>whnf);first|refine Or.inl ?_|apply oi|(apply fi<;>intro h)|refine⟨_,rfl,?_⟩|((with_reducible show _=_);rfl))
  all_goals try((with_reducible refine Obl.mk ?_);exact KO)
 intro⟨⟨k,acc⟩,hk,hal,hr⟩
 dsimp only at hk hal hr ⊢
 have hacc:(acc.map fun n:Nat=>intRow n).length=acc.length:=by simp
 by_cases hlt:k < l.length
 ·obtain⟨x,hx⟩:=get_of_lt hlt
  rw[funsF_at hx]at hr
  by_cases h0:x.fKind=0
  ·rw[if_pos h0]at hr
   repeat' ((conv=>whnf);first|refine Or.inl ?_|apply oi|(apply fi<;>intro h)|refine⟨k,x.tr,rfl,map_get hx,?_⟩|refine⟨_,rfl,?_⟩|((with_reducible show _=_);rfl))
   all_goals try((with_reducible refine Obl.mk ?_);exact KO)
   all_goals try exact KX
   all_goals try(exfalso;(try simp_all[within]);(try omega);done)
   all_goals try exact⟨⟨by simp;omega,by simp;omega⟩⟩
   conv=>whnf
   refine⟨⟨(k+1,acc++[k]),by dsimp only;omega,by simp;omega,by rw[←hr];simp⟩,?_,by dsimp only;omega⟩
   repeat' ((conv=>whnf);first|refine Or.inl ?_|apply oi|(apply fi<;>intro h)|refine⟨_,rfl,?_⟩|((with_reducible show _=_);rfl))
   all_goals try((with_reducible refine Obl.mk ?_);exact KO)
   all_goals try exact⟨K2⟩
   all_goals exact⟨by simp[intRow]⟩
  ·rw[if_neg h0,List.nil_append]at hr
   repeat' ((conv=>whnf);first|refine Or.inl ?_|apply oi|(apply fi<;>intro h)|refine⟨k,x.tr,rfl,map_get hx,?_⟩|refine⟨_,rfl,?_⟩|((with_reducible show _=_);rfl))
   all_goals try((with_reducible refine Obl.mk ?_);exact KO)
   all_goals try exact KX
   all_goals try(exfalso;(try simp_all[within]);(try omega);done)
   conv=>whnf
   refine⟨⟨(k+1,acc),by dsimp only;omega,by dsimp only;omega,hr⟩,?_,by dsimp only;omega⟩
   repeat' ((conv=>whnf);first|refine Or.inl ?_|apply oi|(apply fi<;>intro h)|refine⟨_,rfl,?_⟩|((with_reducible show _=_);rfl))
   all_goals try((with_reducible refine Obl.mk ?_);exact KO)
   all_goals try exact⟨K2⟩
 ·rw[List.drop_eq_nil_of_le (by omega),funsF,List.append_nil]at hr
  subst hr
  repeat' ((conv=>whnf);first|refine Or.inl ?_|apply oi|(apply fi<;>intro h)|refine⟨_,rfl,?_⟩|((with_reducible show _=_);rfl))
  all_goals try((with_reducible refine Obl.mk ?_);exact KO)
  all_goals try exact KX
theorem s_spec_FunctionLines (l:List TLine)(hl:l.length≤1048576):Sim.Spec Tryz.prog 33 [tvP l] (rL 1 ((funs l).map fun n:Nat=>intRow n)):=by
 refine spec_of_W hΓ hmix Tryz.func33 rfl (by decide) rfl ?_
 have hlen:(l.map TLine.tr).length=l.length:=by simp
 obtain⟨R,hR⟩:∃R,funs l=R:=⟨_,rfl⟩
 rw[hR]
 repeat' ((conv=>whnf);first|refine Or.inl ?_|apply oi|(apply fi<;>intro h)|refine⟨_,rfl,?_⟩|((with_reducible show _=_);rfl))
 all_goals try((with_reducible refine Obl.mk ?_);exact KO)
 conv=>whnf
 refine⟨{q:Nat×List Nat // q.1≤l.length∧q.2.length≤q.1∧q.2++funsF (l.drop q.1) q.1=R},fun q=>⟨[(0,vP l),(3,.r (.c (.own (5,0,0)))),(4,tI .i64 (q.1.1:Int))],[((5,0,0),some (.arr true 1 (q.1.2.map fun n:Nat=>intRow n)))],[5]⟩,fun q=>l.length - q.1.1,⟨(0,[]),by simp,by simp,by simpa [funs]using hR⟩,?_,?_⟩
 ·skip
  repeat' ((conv=>whnf);first|refine Or.inl ?_|apply oi|(apply fi<;>intro h)|refine⟨_,rfl,?_⟩|((with_reducible show _=_);rfl))
  all_goals try((with_reducible refine Obl.mk ?_);exact KO)
 intro⟨⟨k,acc⟩,hk,hal,hr⟩
 dsimp only at hk hal hr ⊢
 have hacc:(acc.map fun n:Nat=>intRow n).length=acc.length:=by simp
 by_cases hlt:k < l.length
 ·obtain⟨x,hx⟩:=get_of_lt hlt
  rw[funsF_at hx]at hr
  by_cases h0:x.fKind=0
  ·rw[if_pos h0]at hr
   repeat' ((conv=>whnf);first|refine Or.inl ?_|apply oi|(apply fi<;>intro h)|refine⟨k,x.tr,rfl,map_get hx,?_⟩|refine⟨_,rfl,?_⟩|((with_reducible show _=_);rfl))
   all_goals try((with_reducible refine Obl.mk ?_);exact KO)
   all_goals try exact KX
   all_goals try(exfalso;(try simp_all[within]);(try omega);done)
   all_goals try exact⟨⟨by simp;omega,by simp;omega⟩⟩
   conv=>whnf
   refine⟨⟨(k+1,acc++[k]),by dsimp only;omega,by simp;omega,by rw[←hr];simp⟩,?_,by dsimp only;omega⟩
   repeat' ((conv=>whnf);first|refine Or.inl ?_|apply oi|(apply fi<;>intro h)|refine⟨_,rfl,?_⟩|((with_reducible show _=_);rfl))
   all_goals try((with_reducible refine Obl.mk ?_);exact KO)
   all_goals try exact⟨K2⟩
   all_goals exact⟨by simp[intRow]⟩
  ·rw[if_neg h0,List.nil_append]at hr
   repeat' ((conv=>whnf);first|refine Or.inl ?_|apply oi|(apply fi<;>intro h)|refine⟨k,x.tr,rfl,map_get hx,?_⟩|refine⟨_,rfl,?_⟩|((with_reducible show _=_);rfl))
   all_goals try((with_reducible refine Obl.mk ?_);exact KO)
   all_goals try exact KX
   all_goals try(exfalso;(try simp_all[within]);(try omega);done)
   conv=>whnf
   refine⟨⟨(k+1,acc),by dsimp only;omega,by dsimp only;omega,hr⟩,?_,by dsimp only;omega⟩
   repeat' ((conv=>whnf);first|refine Or.inl ?_|apply oi|(apply fi<;>intro h)|refine⟨_,rfl,?_⟩|((with_reducible show _=_);rfl))
   all_goals try((with_reducible refine Obl.mk ?_);exact KO)
   all_goals try exact⟨K2⟩
 ·rw[List.drop_eq_nil_of_le (by omega),funsF,List.append_nil]at hr
  subst hr
  repeat' ((conv=>whnf);first|refine Or.inl ?_|apply oi|(apply fi<;>intro h)|refine⟨_,rfl,?_⟩|((with_reducible show _=_);rfl))
  all_goals try((with_reducible refine Obl.mk ?_);exact KO)
  all_goals try exact KX
theorem s_impl_FindFunction (l:List TLine)(s:List UInt8)(hl:l.length≤1048576):Sim.Spec Tryz.prog 154 [tvP l,tvS s] (rI (findF l s)):=by
 refine spec_of_W hΓ hmix Tryz.func154 rfl (by decide) rfl ?_
 have hlen:(l.map TLine.tr).length=l.length:=by simp
 obtain⟨R,hR⟩:∃R,findF l s=R:=⟨_,rfl⟩
 rw[hR]
 repeat' ((conv=>whnf);first|refine Or.inl ?_|apply oi|(apply fi<;>intro h)|refine⟨_,rfl,?_⟩|((with_reducible show _=_);rfl))
 all_goals try((with_reducible refine Obl.mk ?_);exact KO)
 conv=>whnf
 refine⟨{k:Nat // k≤l.length∧endI (findN (l.drop k) k s)=R},fun q=>⟨[(0,vP l),(1,tS s),(7,vP l),(8,tI .i64 ((l.map TLine.tr).length:Int)),(9,tI .i64 (q.1:Int))],[],[]⟩,fun q=>l.length - q.1,⟨0,by omega,hR⟩,?_,?_⟩
 ·skip
  repeat' ((conv=>whnf);first|refine Or.inl ?_|apply oi|(apply fi<;>intro h)|refine⟨_,rfl,?_⟩|((with_reducible show _=_);rfl))
  all_goals try((with_reducible refine Obl.mk ?_);exact KO)
 intro⟨k,hk,hr⟩
 dsimp only at hk hr ⊢
 by_cases hlt:k < l.length
 ·obtain⟨x,hx⟩:=get_of_lt hlt
  rw[findN_at hx]at hr
  by_cases h0:x.fKind=0∧x.fName=s
  ·rw[if_pos h0]at hr
   obtain⟨h1,h2⟩:=h0
   subst h2
   subst hr
   repeat' ((conv=>whnf);first|refine Or.inl ?_|apply oi|(apply fi<;>intro h)|refine⟨k,x.tr,rfl,map_get hx,?_⟩|refine⟨_,rfl,?_⟩|((with_reducible show _=_);rfl))
   all_goals try((with_reducible refine Obl.mk ?_);exact KO)
   all_goals try exact KX
   all_goals try(exfalso;(try simp_all[within]);(try omega);done)
  ·rw[if_neg h0]at hr
   repeat' ((conv=>whnf);first|refine Or.inl ?_|apply oi|(apply fi<;>intro h)|refine⟨k,x.tr,rfl,map_get hx,?_⟩|refine⟨_,rfl,?_⟩|((with_reducible show _=_);rfl))
   all_goals try((with_reducible refine Obl.mk ?_);exact KO)
   all_goals try exact KX
   all_goals try(exfalso;apply h0;simp_all;done)
   all_goals
    conv=>whnf
    refine⟨⟨k+1,by omega,hr⟩,?_,by dsimp only;omega⟩
    repeat' ((conv=>whnf);first|refine Or.inl ?_|apply oi|(apply fi<;>intro h)|refine⟨_,rfl,?_⟩|((with_reducible show _=_);rfl))
    all_goals try((with_reducible refine Obl.mk ?_);exact KO)
    all_goals try exact⟨K2⟩
 ·rw[List.drop_eq_nil_of_le (by omega),findN]at hr
  subst hr
  repeat' ((conv=>whnf);first|refine Or.inl ?_|apply oi|(apply fi<;>intro h)|refine⟨_,rfl,?_⟩|((with_reducible show _=_);rfl))
  all_goals try((with_reducible refine Obl.mk ?_);exact KO)
  all_goals try exact KX
theorem s_spec_FindFunction (l:List TLine)(s:List UInt8)(hl:l.length≤1048576):Sim.Spec Tryz.prog 119 [tvP l,tvS s] (rI (findF l s)):=by
 refine spec_of_W hΓ hmix Tryz.func119 rfl (by decide) rfl ?_
 have hlen:(l.map TLine.tr).length=l.length:=by simp
 obtain⟨R,hR⟩:∃R,findF l s=R:=⟨_,rfl⟩
 rw[hR]
 repeat' ((conv=>whnf);first|refine Or.inl ?_|apply oi|(apply fi<;>intro h)|refine⟨_,rfl,?_⟩|((with_reducible show _=_);rfl))
 all_goals try((with_reducible refine Obl.mk ?_);exact KO)
 conv=>whnf
 refine⟨{k:Nat // k≤l.length∧endI (findN (l.drop k) k s)=R},fun q=>⟨[(0,vP l),(1,tS s),(5,tI .i64 (q.1:Int))],[],[]⟩,fun q=>l.length - q.1,⟨0,by omega,hR⟩,?_,?_⟩
 ·skip
  repeat' ((conv=>whnf);first|refine Or.inl ?_|apply oi|(apply fi<;>intro h)|refine⟨_,rfl,?_⟩|((with_reducible show _=_);rfl))
  all_goals try((with_reducible refine Obl.mk ?_);exact KO)
 intro⟨k,hk,hr⟩
 dsimp only at hk hr ⊢
 by_cases hlt:k < l.length
 ·obtain⟨x,hx⟩:=get_of_lt hlt
  rw[findN_at hx]at hr
  by_cases h0:x.fKind=0∧x.fName=s
  ·rw[if_pos h0]at hr
   obtain⟨h1,h2⟩:=h0
   subst h2
   subst hr
   repeat' ((conv=>whnf);first|refine Or.inl ?_|apply oi|(apply fi<;>intro h)|refine⟨k,x.tr,rfl,map_get hx,?_⟩|refine⟨_,rfl,?_⟩|((with_reducible show _=_);rfl))
   all_goals try((with_reducible refine Obl.mk ?_);exact KO)
   all_goals try exact KX
   all_goals try(exfalso;(try simp_all[within]);(try omega);done)
  ·rw[if_neg h0]at hr
   repeat' ((conv=>whnf);first|refine Or.inl ?_|apply oi|(apply fi<;>intro h)|refine⟨k,x.tr,rfl,map_get hx,?_⟩|refine⟨_,rfl,?_⟩|((with_reducible show _=_);rfl))
   all_goals try((with_reducible refine Obl.mk ?_);exact KO)
   all_goals try exact KX
   all_goals try(exfalso;apply h0;simp_all;done)
   all_goals
    conv=>whnf
    refine⟨⟨k+1,by omega,hr⟩,?_,by dsimp only;omega⟩
    repeat' ((conv=>whnf);first|refine Or.inl ?_|apply oi|(apply fi<;>intro h)|refine⟨_,rfl,?_⟩|((with_reducible show _=_);rfl))
    all_goals try((with_reducible refine Obl.mk ?_);exact KO)
    all_goals try exact⟨K2⟩
 ·rw[List.drop_eq_nil_of_le (by omega),findN]at hr
  subst hr
  repeat' ((conv=>whnf);first|refine Or.inl ?_|apply oi|(apply fi<;>intro h)|refine⟨_,rfl,?_⟩|((with_reducible show _=_);rfl))
  all_goals try((with_reducible refine Obl.mk ?_);exact KO)
  all_goals try exact KX
abbrev rN (l:List (List UInt8)):Res:=rL 1 (l.map strRow)
theorem localsOf_eq {l:List TLine}{k e:Nat}{x:TLine}(hx:l[k]?=some x)(he:endAt l k=some e)(h0:x.fKind=0):localsOf l (k:Int)=locN l e (e - k) k x.fArgs:=by
 rw[localsOf,if_pos (by omega),Int.toNat_natCast,hx,he]
 dsimp only
 rw[if_pos h0]
theorem locals_off {l:List TLine}{k:Int}(h:∀e x,endAt l k.toNat=some e→l[k.toNat]?=some x→0≤k→x.fKind≠0):localsOf l k=[]:=by
 rw[localsOf]
 split
 ·split
  ·rename_i x e hx he
   rw[if_neg (h e x he hx (by assumption))]
  ·rfl
 ·rfl
theorem locals_le {l:List TLine}{k:Int}(hl:l.length≤1048576)(hs:∀x∈l,smallR 1048576 x.tr):(localsOf l k).length≤2097152∧True:=by
 refine⟨?_,trivial⟩
 rw[localsOf]
 split
 ·split
  ·rename_i x e hx he
   obtain⟨_,_,_,_,h1,h2⟩:=endAt_some he
   have:=(line_small (hs x (List.mem_of_getElem? hx))).2.1
   split
   ·have:=locN_len (l:=l) (e:=e) (e - k.toNat) k.toNat x.fArgs
    omega
   ·simp
  ·simp
 ·simp
theorem s_spec_l04Index (l:List (List UInt8))(s:List UInt8)(hl:l.length≤2097152):Sim.Spec Tryz.prog 179 [tvL 1 (l.map strRow),tvS s] (rI (idxOf l s)):=by
 refine spec_of_W hΓ hmix Tryz.func179 rfl (by decide) rfl ?_
 have hlen:(l.map strRow).length=l.length:=by simp
 obtain⟨R,hR⟩:∃R,idxOf l s=R:=⟨_,rfl⟩
 rw[hR]
 repeat' ((conv=>whnf);first|refine Or.inl ?_|apply oi|(apply fi<;>intro h)|refine⟨_,rfl,?_⟩|((with_reducible show _=_);rfl))
 all_goals try((with_reducible refine Obl.mk ?_);exact KO)
 conv=>whnf
 refine⟨{k:Nat // k≤l.length∧endI (idxN (l.drop k) k s)=R},fun k=>⟨[(0,.r (.c (.t (.lst 1 (l.map strRow))))),(1,tS s),(5,tI .i64 (k.1:Int))],[],[]⟩,fun k=>l.length - k.1,⟨0,by omega,hR⟩,?_,?_⟩
 ·skip
  repeat' ((conv=>whnf);first|refine Or.inl ?_|apply oi|(apply fi<;>intro h)|refine⟨_,rfl,?_⟩|((with_reducible show _=_);rfl))
  all_goals try((with_reducible refine Obl.mk ?_);exact KO)
 intro⟨k,hk,hr⟩
 dsimp only at hk hr ⊢
 by_cases hlt:k < l.length
 ·obtain⟨x,hx⟩:=get_of_lt hlt
  rw[idxN_at hx]at hr
  cases he:(x==s)with
  | true=>
   rw[he,if_pos rfl]at hr
   have he2:=eq_of_beq he
   subst he2
   subst hr
   repeat' ((conv=>whnf);first|refine Or.inl ?_|apply oi|(apply fi<;>intro h)|refine⟨k,(strRow x),rfl,map_get hx,?_⟩|refine⟨_,rfl,?_⟩|((with_reducible show _=_);rfl))
   all_goals try((with_reducible refine Obl.mk ?_);exact KO)
   all_goals try exact KX
   all_goals try(exfalso;(try simp_all[within]);(try omega);done)
  | false=>
   rw[he,if_neg (by simp)]at hr
   repeat' ((conv=>whnf);first|refine Or.inl ?_|apply oi|(apply fi<;>intro h)|refine⟨k,(strRow x),rfl,map_get hx,?_⟩|refine⟨_,rfl,?_⟩|((with_reducible show _=_);rfl))
   all_goals try((with_reducible refine Obl.mk ?_);exact KO)
   all_goals try exact KX
   all_goals try(exfalso;(try simp_all[within]);(try omega);done)
   conv=>whnf
   refine⟨⟨k+1,by omega,hr⟩,?_,by dsimp only;omega⟩
   repeat' ((conv=>whnf);first|refine Or.inl ?_|apply oi|(apply fi<;>intro h)|refine⟨_,rfl,?_⟩|((with_reducible show _=_);rfl))
   all_goals try((with_reducible refine Obl.mk ?_);exact KO)
   all_goals try exact⟨K2⟩
 ·rw[List.drop_eq_nil_of_le (by omega),idxN]at hr
  subst hr
  repeat' ((conv=>whnf);first|refine Or.inl ?_|apply oi|(apply fi<;>intro h)|refine⟨_,rfl,?_⟩|((with_reducible show _=_);rfl))
  all_goals try((with_reducible refine Obl.mk ?_);exact KO)
  all_goals try exact KX
theorem s_impl_LocalsOf (l:List TLine)(k:Int)(hl:l.length≤1048576)(hs:∀x∈l,smallR 1048576 x.tr):Sim.Spec Tryz.prog 212 [tvP l,tvI k] (rN (localsOf l k)):=by
 refine spec_of_W hΓ hmix Tryz.func212 rfl (by decide) rfl ?_
 have hlen:(l.map TLine.tr).length=l.length:=by simp
 have hE:=s_impl_EndOf l k hl
 by_cases h0:0≤k
 ·obtain⟨k,rfl⟩:=Int.eq_ofNat_of_zero_le h0
  rw[endOf_at]at hE
  cases he:endAt l k with
  | none=>
   rw[endI_none he]at hE
   rw[locals_off (fun e x h1 _ _=>by rw[Int.toNat_natCast,he]at h1;cases h1)]
   repeat' ((conv=>whnf);first|refine Or.inl ?_|apply oi|(apply fi<;>intro h)|refine ci hE (ai rfl (ai rfl trivial)) ?_|refine⟨_,rfl,?_⟩|((with_reducible show _=_);rfl))
   all_goals try((with_reducible refine Obl.mk ?_);exact KO)
   all_goals try exact KX
  | some e=>
   rw[endI_some he]at hE
   obtain⟨x,hx,ho,_,hke,hel⟩:=endAt_some he
   by_cases hk0:x.fKind=0
   ·have hsm:=line_small (hs x (List.mem_of_getElem? hx))
    rw[localsOf_eq hx he hk0]
    obtain⟨R,hR⟩:∃R,locN l e (e - k) k x.fArgs=R:=⟨_,rfl⟩
    rw[hR]
    have hal:(x.fArgs.map strRow).length=x.fArgs.length:=by simp
    repeat' ((conv=>whnf);first|refine Or.inl ?_|apply oi|(apply fi<;>intro h)|refine ci hE (ai rfl (ai rfl trivial)) ?_|refine⟨k,x.tr,rfl,map_get hx,?_⟩|refine⟨_,rfl,?_⟩|((with_reducible show _=_);rfl))
    all_goals try((with_reducible refine Obl.mk ?_);exact KO)
    all_goals try exact KX
    all_goals try(exfalso;(try simp_all[within]);(try omega);done)
    all_goals try exact⟨⟨by simp;omega,by simp;omega⟩⟩
    conv=>whnf
    refine⟨{q:Nat×List (List UInt8) // k≤q.1∧q.1≤e∧q.2.length≤1048576+q.1∧locN l e (e - q.1) q.1 q.2=R},fun q=>⟨[(0,vP l),(5,tI .i64 (e:Int)),(6,.r (.c (.own (6,0,0)))),(7,tI .i64 (q.1.1:Int))],[((6,0,0),some (.arr false 1 (q.1.2.map strRow)))],[6]⟩,fun q=>e - q.1.1,⟨(k,x.fArgs),by dsimp only;omega,by dsimp only;omega,by dsimp only;omega,hR⟩,?_,?_⟩
    ·skip
     repeat' ((conv=>whnf);first|refine Or.inl ?_|apply oi|(apply fi<;>intro h)|refine⟨_,rfl,?_⟩|((with_reducible show _=_);rfl))
     all_goals try((with_reducible refine Obl.mk ?_);exact KO)
     all_goals exact⟨by simp⟩
    intro⟨⟨i,acc⟩,hki,hi,hac,hr⟩
    dsimp only at hki hi hac hr ⊢
    have hal2:(acc.map strRow).length=acc.length:=by simp
    by_cases hlt:i < e
    ·obtain⟨y,hy⟩:=get_of_lt (l:=l) (k:=i) (by omega)
     rw[locN_step hlt hy]at hr
     have hC:=s_slices_ContainsS acc y.fName (by omega)
     by_cases h1:y.fKind=1
     ·rw[if_pos h1]at hr
      unfold addName at hr
      cases hc:acc.contains y.fName with
      | true=>
       rw[hc]at hC hr
       rw[if_pos rfl]at hr
       repeat' ((conv=>whnf);first|refine Or.inl ?_|apply oi|(apply fi<;>intro h)|refine ci hC (ai rfl (ai rfl trivial)) ?_|refine⟨i,y.tr,rfl,map_get hy,?_⟩|refine⟨_,rfl,?_⟩|((with_reducible show _=_);rfl))
       all_goals try((with_reducible refine Obl.mk ?_);exact KO)
       all_goals try exact KX
       all_goals try(exfalso;(try simp_all[within]);(try omega);done)
       all_goals
        conv=>whnf
        refine⟨⟨(i+1,acc),by dsimp only;omega,by dsimp only;omega,by dsimp only;omega,hr⟩,?_,by dsimp only;omega⟩
        repeat' ((conv=>whnf);first|refine Or.inl ?_|apply oi|(apply fi<;>intro h)|refine⟨_,rfl,?_⟩|((with_reducible show _=_);rfl))
        all_goals try((with_reducible refine Obl.mk ?_);exact KO)
        all_goals try exact⟨K2⟩
      | false=>
       rw[hc]at hC hr
       rw[if_neg (by simp)]at hr
       repeat' ((conv=>whnf);first|refine Or.inl ?_|apply oi|(apply fi<;>intro h)|refine ci hC (ai rfl (ai rfl trivial)) ?_|refine⟨i,y.tr,rfl,map_get hy,?_⟩|refine⟨_,rfl,?_⟩|((with_reducible show _=_);rfl))
       all_goals try((with_reducible refine Obl.mk ?_);exact KO)
       all_goals try exact KX
       all_goals try(exfalso;(try simp_all[within]);(try omega);done)
       all_goals try exact⟨⟨by simp;omega,by simp;omega⟩⟩
       all_goals
        conv=>whnf
        refine⟨⟨(i+1,acc++[y.fName]),by dsimp only;omega,by dsimp only;omega,by simp;omega,hr⟩,?_,by dsimp only;omega⟩
        repeat' ((conv=>whnf);first|refine Or.inl ?_|apply oi|(apply fi<;>intro h)|refine⟨_,rfl,?_⟩|((with_reducible show _=_);rfl))
        all_goals try((with_reducible refine Obl.mk ?_);exact KO)
        all_goals try exact⟨K2⟩
        all_goals exact⟨by simp[strRow]⟩
     ·rw[if_neg h1]at hr
      repeat' ((conv=>whnf);first|refine Or.inl ?_|apply oi|(apply fi<;>intro h)|refine ci hC (ai rfl (ai rfl trivial)) ?_|refine⟨i,y.tr,rfl,map_get hy,?_⟩|refine⟨_,rfl,?_⟩|((with_reducible show _=_);rfl))
      all_goals try((with_reducible refine Obl.mk ?_);exact KO)
      all_goals try exact KX
      all_goals try(exfalso;(try simp_all[within]);(try omega);done)
      all_goals try(exfalso;simp_all;done)
      conv=>whnf
      refine⟨⟨(i+1,acc),by dsimp only;omega,by dsimp only;omega,by dsimp only;omega,hr⟩,?_,by dsimp only;omega⟩
      repeat' ((conv=>whnf);first|refine Or.inl ?_|apply oi|(apply fi<;>intro h)|refine⟨_,rfl,?_⟩|((with_reducible show _=_);rfl))
      all_goals try((with_reducible refine Obl.mk ?_);exact KO)
      all_goals try exact⟨K2⟩
    ·rw[locN_end (by omega)]at hr
     subst hr
     repeat' ((conv=>whnf);first|refine Or.inl ?_|apply oi|(apply fi<;>intro h)|refine⟨_,rfl,?_⟩|((with_reducible show _=_);rfl))
     all_goals try((with_reducible refine Obl.mk ?_);exact KO)
     all_goals try exact KX
     all_goals exact⟨⟨rfl,flat_strs _⟩⟩
   ·rw[locals_off (fun e x' h1 h2 _=>by rw[Int.toNat_natCast,hx]at h2;injection h2 with h2;subst h2;exact hk0)]
    repeat' ((conv=>whnf);first|refine Or.inl ?_|apply oi|(apply fi<;>intro h)|refine ci hE (ai rfl (ai rfl trivial)) ?_|refine⟨k,x.tr,rfl,map_get hx,?_⟩|refine⟨_,rfl,?_⟩|((with_reducible show _=_);rfl))
    all_goals try((with_reducible refine Obl.mk ?_);exact KO)
    all_goals try exact KX
    all_goals try(exfalso;(try simp_all[within]);(try omega);done)
 ·have h1:endOf l k= -1:=by rw[endOf,if_neg h0]
  rw[h1]at hE
  rw[locals_off (fun e x _ _ h=>absurd h h0)]
  repeat' ((conv=>whnf);first|refine Or.inl ?_|apply oi|(apply fi<;>intro h)|refine ci hE (ai rfl (ai rfl trivial)) ?_|refine⟨_,rfl,?_⟩|((with_reducible show _=_);rfl))
  all_goals try((with_reducible refine Obl.mk ?_);exact KO)
  all_goals try exact KX
theorem s_spec_LocalsOf (l:List TLine)(k:Int)(hl:l.length≤1048576)(hs:∀x∈l,smallR 1048576 x.tr):Sim.Spec Tryz.prog 177 [tvP l,tvI k] (rN (localsOf l k)):=by
 refine spec_of_W hΓ hmix Tryz.func177 rfl (by decide) rfl ?_
 have hlen:(l.map TLine.tr).length=l.length:=by simp
 have hE:=s_spec_EndOf l k hl
 by_cases h0:0≤k
 ·obtain⟨k,rfl⟩:=Int.eq_ofNat_of_zero_le h0
  rw[endOf_at]at hE
  cases he:endAt l k with
  | none=>
   rw[endI_none he]at hE
   rw[locals_off (fun e x h1 _ _=>by rw[Int.toNat_natCast,he]at h1;cases h1)]
   repeat' ((conv=>whnf);first|refine Or.inl ?_|apply oi|(apply fi<;>intro h)|refine ci hE (ai rfl (ai rfl trivial)) ?_|refine⟨_,rfl,?_⟩|((with_reducible show _=_);rfl))
   all_goals try((with_reducible refine Obl.mk ?_);exact KO)
   all_goals try exact KX
  | some e=>
   rw[endI_some he]at hE
   obtain⟨x,hx,ho,_,hke,hel⟩:=endAt_some he
   by_cases hk0:x.fKind=0
   ·have hsm:=line_small (hs x (List.mem_of_getElem? hx))
    rw[localsOf_eq hx he hk0]
    obtain⟨R,hR⟩:∃R,locN l e (e - k) k x.fArgs=R:=⟨_,rfl⟩
    rw[hR]
    have hal:(x.fArgs.map strRow).length=x.fArgs.length:=by simp
    repeat' ((conv=>whnf);first|refine Or.inl ?_|apply oi|(apply fi<;>intro h)|refine ci hE (ai rfl (ai rfl trivial)) ?_|refine⟨k,x.tr,rfl,map_get hx,?_⟩|refine⟨_,rfl,?_⟩|((with_reducible show _=_);rfl))
    all_goals try((with_reducible refine Obl.mk ?_);exact KO)
    all_goals try exact KX
    all_goals try(exfalso;(try simp_all[within]);(try omega);done)
    all_goals try exact⟨⟨by simp;omega,by simp;omega⟩⟩
    conv=>whnf
    refine⟨{q:Nat×List (List UInt8) // k≤q.1∧q.1≤e∧q.2.length≤1048576+q.1∧locN l e (e - q.1) q.1 q.2=R},fun q=>⟨[(0,vP l),(5,tI .i64 (e:Int)),(6,.r (.c (.own (6,0,0)))),(7,tI .i64 (q.1.1:Int))],[((6,0,0),some (.arr false 1 (q.1.2.map strRow)))],[6]⟩,fun q=>e - q.1.1,⟨(k,x.fArgs),by dsimp only;omega,by dsimp only;omega,by dsimp only;omega,hR⟩,?_,?_⟩
    ·skip
     repeat' ((conv=>whnf);first|refine Or.inl ?_|apply oi|(apply fi<;>intro h)|refine⟨_,rfl,?_⟩|((with_reducible show _=_);rfl))
     all_goals try((with_reducible refine Obl.mk ?_);exact KO)
     all_goals exact⟨by simp⟩
    intro⟨⟨i,acc⟩,hki,hi,hac,hr⟩
    dsimp only at hki hi hac hr ⊢
    have hal2:(acc.map strRow).length=acc.length:=by simp
    by_cases hlt:i < e
    ·obtain⟨y,hy⟩:=get_of_lt (l:=l) (k:=i) (by omega)
     rw[locN_step hlt hy]at hr
     have hC:=s_spec_l04Index acc y.fName (by omega)
     by_cases h1:y.fKind=1
     ·rw[if_pos h1]at hr
      have hix:=idxOf_has (l:=acc) (s:=y.fName)
      generalize idxOf acc y.fName=ix at *
      unfold addName at hr
      cases hc:acc.contains y.fName with
      | true=>
       rw[hc]at hix hr
       rw[if_pos rfl]at hr
       repeat' ((conv=>whnf);first|refine Or.inl ?_|apply oi|(apply fi<;>intro h)|refine ci hC (ai rfl (ai rfl trivial)) ?_|refine⟨i,y.tr,rfl,map_get hy,?_⟩|refine⟨_,rfl,?_⟩|((with_reducible show _=_);rfl))
       all_goals try((with_reducible refine Obl.mk ?_);exact KO)
       all_goals try exact KX
       all_goals try(exfalso;(try simp_all[within]);(try omega);done)
       all_goals
        conv=>whnf
        refine⟨⟨(i+1,acc),by dsimp only;omega,by dsimp only;omega,by dsimp only;omega,hr⟩,?_,by dsimp only;omega⟩
        repeat' ((conv=>whnf);first|refine Or.inl ?_|apply oi|(apply fi<;>intro h)|refine⟨_,rfl,?_⟩|((with_reducible show _=_);rfl))
        all_goals try((with_reducible refine Obl.mk ?_);exact KO)
        all_goals try exact⟨K2⟩
      | false=>
       rw[hc]at hix hr
       rw[if_neg (by simp)]at hr
       repeat' ((conv=>whnf);first|refine Or.inl ?_|apply oi|(apply fi<;>intro h)|refine ci hC (ai rfl (ai rfl trivial)) ?_|refine⟨i,y.tr,rfl,map_get hy,?_⟩|refine⟨_,rfl,?_⟩|((with_reducible show _=_);rfl))
       all_goals try((with_reducible refine Obl.mk ?_);exact KO)
       all_goals try exact KX
       all_goals try(exfalso;(try simp_all[within]);(try omega);done)
       all_goals try exact⟨⟨by simp;omega,by simp;omega⟩⟩
       all_goals
        conv=>whnf
        refine⟨⟨(i+1,acc++[y.fName]),by dsimp only;omega,by dsimp only;omega,by simp;omega,hr⟩,?_,by dsimp only;omega⟩
        repeat' ((conv=>whnf);first|refine Or.inl ?_|apply oi|(apply fi<;>intro h)|refine⟨_,rfl,?_⟩|((with_reducible show _=_);rfl))
        all_goals try((with_reducible refine Obl.mk ?_);exact KO)
        all_goals try exact⟨K2⟩
        all_goals exact⟨by simp[strRow]⟩
     ·rw[if_neg h1]at hr
      repeat' ((conv=>whnf);first|refine Or.inl ?_|apply oi|(apply fi<;>intro h)|refine ci hC (ai rfl (ai rfl trivial)) ?_|refine⟨i,y.tr,rfl,map_get hy,?_⟩|refine⟨_,rfl,?_⟩|((with_reducible show _=_);rfl))
      all_goals try((with_reducible refine Obl.mk ?_);exact KO)
      all_goals try exact KX
      all_goals try(exfalso;(try simp_all[within]);(try omega);done)
      all_goals try(exfalso;simp_all;done)
      conv=>whnf
      refine⟨⟨(i+1,acc),by dsimp only;omega,by dsimp only;omega,by dsimp only;omega,hr⟩,?_,by dsimp only;omega⟩
      repeat' ((conv=>whnf);first|refine Or.inl ?_|apply oi|(apply fi<;>intro h)|refine⟨_,rfl,?_⟩|((with_reducible show _=_);rfl))
      all_goals try((with_reducible refine Obl.mk ?_);exact KO)
      all_goals try exact⟨K2⟩
    ·rw[locN_end (by omega)]at hr
     subst hr
     repeat' ((conv=>whnf);first|refine Or.inl ?_|apply oi|(apply fi<;>intro h)|refine⟨_,rfl,?_⟩|((with_reducible show _=_);rfl))
     all_goals try((with_reducible refine Obl.mk ?_);exact KO)
     all_goals try exact KX
     all_goals exact⟨⟨rfl,flat_strs _⟩⟩
   ·rw[locals_off (fun e x' h1 h2 _=>by rw[Int.toNat_natCast,hx]at h2;injection h2 with h2;subst h2;exact hk0)]
    repeat' ((conv=>whnf);first|refine Or.inl ?_|apply oi|(apply fi<;>intro h)|refine ci hE (ai rfl (ai rfl trivial)) ?_|refine⟨k,x.tr,rfl,map_get hx,?_⟩|refine⟨_,rfl,?_⟩|((with_reducible show _=_);rfl))
    all_goals try((with_reducible refine Obl.mk ?_);exact KO)
    all_goals try exact KX
    all_goals try(exfalso;(try simp_all[within]);(try omega);done)
 ·have h1:endOf l k= -1:=by rw[endOf,if_neg h0]
  rw[h1]at hE
  rw[locals_off (fun e x _ _ h=>absurd h h0)]
  repeat' ((conv=>whnf);first|refine Or.inl ?_|apply oi|(apply fi<;>intro h)|refine ci hE (ai rfl (ai rfl trivial)) ?_|refine⟨_,rfl,?_⟩|((with_reducible show _=_);rfl))
  all_goals try((with_reducible refine Obl.mk ?_);exact KO)
  all_goals try exact KX
end Go.Proofs.YtjmplnfiabmalaaGreat
namespace Go.Proofs.YtjmplnfiabmalaaGreat
open Go.Sim
set_option maxRecDepth 100000
set_option maxHeartbeats 4000000
abbrev vN (l:List (List UInt8)):AV:= .r (.c (.t (.lst 1 (l.map strRow))))
theorem all_at {α:Type}{f:α→Bool}{l:List α}{k:Nat}{x:α}(hx:l[k]?=some x):(l.drop k).all f=(f x && (l.drop (k+1)).all f):=by
 rw[drop_at hx,List.all_cons]
theorem s_impl_exprNames (l:List TLine)(loc:List (List UInt8))(ts:List TTok)(hl:l.length≤1048576)(hloc:loc.length≤4194304)(hts:ts.length≤1048576):Sim.Spec Tryz.prog 213 [tvP l,tvL 1 (loc.map strRow),tvL 3 (ts.map TTok.tr)] (rB (exprKnown l loc ts)):=by
 refine spec_of_W hΓ hmix Tryz.func213 rfl (by decide) rfl ?_
 have hlen:(ts.map TTok.tr).length=ts.length:=by simp
 have hlen2:(l.map TLine.tr).length=l.length:=by simp
 obtain⟨R,hR⟩:∃R,exprKnown l loc ts=R:=⟨_,rfl⟩
 rw[hR]
 repeat' ((conv=>whnf);first|refine Or.inl ?_|apply oi|(apply fi<;>intro h)|refine⟨_,rfl,?_⟩|((with_reducible show _=_);rfl))
 all_goals try((with_reducible refine Obl.mk ?_);exact KO)
 conv=>whnf
 refine⟨{k:Nat // k≤ts.length∧(ts.drop k).all (tokKnown l loc)=R},fun q=>⟨[(0,vP l),(1,vN loc),(10,.r (.c (.t (.lst 3 (ts.map TTok.tr))))),(11,tI .i64 ((ts.map TTok.tr).length:Int)),(12,tI .i64 (q.1:Int))],[],[]⟩,fun q=>ts.length - q.1,⟨0,by omega,hR⟩,?_,?_⟩
 ·skip
  repeat' ((conv=>whnf);first|refine Or.inl ?_|apply oi|(apply fi<;>intro h)|refine⟨_,rfl,?_⟩|((with_reducible show _=_);rfl))
  all_goals try((with_reducible refine Obl.mk ?_);exact KO)
 intro⟨k,hk,hr⟩
 dsimp only at hk hr ⊢
 by_cases hlt:k < ts.length
 ·obtain⟨t,ht⟩:=get_of_lt hlt
  rw[all_at ht]at hr
  have hC:=s_slices_ContainsS loc t.fName hloc
  have hF:=s_impl_FindFunction l t.fName hl
  by_cases h1:t.fKind=1
  ·have e1:tokKnown l loc t=loc.contains t.fName:=by unfold tokKnown;rw[if_pos h1]
   rw[e1]at hr
   cases hc:loc.contains t.fName with
   | false=>
    rw[hc]at hC hr
    rw[Bool.false_and]at hr
    subst hr
    repeat' ((conv=>whnf);first|refine Or.inl ?_|apply oi|(apply fi<;>intro h)|refine⟨k,t.tr,rfl,map_get ht,?_⟩|refine ci hC (ai rfl (ai rfl trivial)) ?_|refine ci hF (ai rfl (ai rfl trivial)) ?_|refine⟨_,rfl,?_⟩|((with_reducible show _=_);rfl))
    all_goals try((with_reducible refine Obl.mk ?_);exact KO)
    all_goals try exact KX
    all_goals try(exfalso;(try simp_all[within]);(try omega);done)
   | true=>
    rw[hc]at hC hr
    rw[Bool.true_and]at hr
    repeat' ((conv=>whnf);first|refine Or.inl ?_|apply oi|(apply fi<;>intro h)|refine⟨k,t.tr,rfl,map_get ht,?_⟩|refine ci hC (ai rfl (ai rfl trivial)) ?_|refine ci hF (ai rfl (ai rfl trivial)) ?_|refine⟨_,rfl,?_⟩|((with_reducible show _=_);rfl))
    all_goals try((with_reducible refine Obl.mk ?_);exact KO)
    all_goals try exact KX
    all_goals try(exfalso;(try simp_all[within]);(try omega);done)
    all_goals try(exfalso;simp_all;done)
    conv=>whnf
    refine⟨⟨k+1,by omega,hr⟩,?_,by dsimp only;omega⟩
    repeat' ((conv=>whnf);first|refine Or.inl ?_|apply oi|(apply fi<;>intro h)|refine⟨_,rfl,?_⟩|((with_reducible show _=_);rfl))
    all_goals try((with_reducible refine Obl.mk ?_);exact KO)
    all_goals try exact⟨K2⟩
  ·by_cases h7:t.fKind=7
   ·cases hf:findN l 0 t.fName with
    | none=>
     have e1:tokKnown l loc t=false:=by unfold tokKnown;rw[if_neg h1,if_pos h7,hf]
     rw[e1,Bool.false_and]at hr
     subst hr
     rw[show findF l t.fName= -1 from endI_none hf]at hF
     repeat' ((conv=>whnf);first|refine Or.inl ?_|apply oi|(apply fi<;>intro h)|refine⟨k,t.tr,rfl,map_get ht,?_⟩|refine ci hC (ai rfl (ai rfl trivial)) ?_|refine ci hF (ai rfl (ai rfl trivial)) ?_|refine⟨_,rfl,?_⟩|((with_reducible show _=_);rfl))
     all_goals try((with_reducible refine Obl.mk ?_);exact KO)
     all_goals try exact KX
     all_goals try(exfalso;(try simp_all[within]);(try omega);done)
    | some f=>
     obtain⟨hfl,x,hx,hx0,_⟩:=find_some hf
     have e1:tokKnown l loc t=((x.fArgs.length:Int)==t.fNum):=by unfold tokKnown;rw[if_neg h1,if_pos h7,hf];dsimp only;rw[hx]
     rw[e1]at hr
     rw[show findF l t.fName=(f:Int) from endI_some hf]at hF
     have hxl:(x.fArgs.map strRow).length=x.fArgs.length:=by simp
     by_cases hn:(x.fArgs.length:Int)=t.fNum
     ·rw[beq_iff_eq.2 hn,Bool.true_and]at hr
      repeat' ((conv=>whnf);first|refine Or.inl ?_|apply oi|(apply fi<;>intro h)|refine⟨k,t.tr,rfl,map_get ht,?_⟩|refine⟨f,x.tr,rfl,map_get hx,?_⟩|refine ci hC (ai rfl (ai rfl trivial)) ?_|refine ci hF (ai rfl (ai rfl trivial)) ?_|refine⟨_,rfl,?_⟩|((with_reducible show _=_);rfl))
      all_goals try((with_reducible refine Obl.mk ?_);exact KO)
      all_goals try exact KX
      all_goals try(exfalso;(try simp_all[within]);(try omega);done)
      all_goals try(exfalso;simp_all;done)
      conv=>whnf
      refine⟨⟨k+1,by omega,hr⟩,?_,by dsimp only;omega⟩
      repeat' ((conv=>whnf);first|refine Or.inl ?_|apply oi|(apply fi<;>intro h)|refine⟨_,rfl,?_⟩|((with_reducible show _=_);rfl))
      all_goals try((with_reducible refine Obl.mk ?_);exact KO)
      all_goals try exact⟨K2⟩
     ·rw[beq_eq_false_iff_ne.2 hn,Bool.false_and]at hr
      subst hr
      repeat' ((conv=>whnf);first|refine Or.inl ?_|apply oi|(apply fi<;>intro h)|refine⟨k,t.tr,rfl,map_get ht,?_⟩|refine⟨f,x.tr,rfl,map_get hx,?_⟩|refine ci hC (ai rfl (ai rfl trivial)) ?_|refine ci hF (ai rfl (ai rfl trivial)) ?_|refine⟨_,rfl,?_⟩|((with_reducible show _=_);rfl))
      all_goals try((with_reducible refine Obl.mk ?_);exact KO)
      all_goals try exact KX
      all_goals try(exfalso;(try simp_all[within]);(try omega);done)
      all_goals try(exfalso;simp_all;done)
   ·have e1:tokKnown l loc t=true:=by unfold tokKnown;rw[if_neg h1,if_neg h7]
    rw[e1,Bool.true_and]at hr
    repeat' ((conv=>whnf);first|refine Or.inl ?_|apply oi|(apply fi<;>intro h)|refine⟨k,t.tr,rfl,map_get ht,?_⟩|refine ci hC (ai rfl (ai rfl trivial)) ?_|refine ci hF (ai rfl (ai rfl trivial)) ?_|refine⟨_,rfl,?_⟩|((with_reducible show _=_);rfl))
    all_goals try((with_reducible refine Obl.mk ?_);exact KO)
    all_goals try exact KX
    all_goals try(exfalso;(try simp_all[within]);(try omega);done)
    all_goals try(exfalso;simp_all;done)
    conv=>whnf
    refine⟨⟨k+1,by omega,hr⟩,?_,by dsimp only;omega⟩
    repeat' ((conv=>whnf);first|refine Or.inl ?_|apply oi|(apply fi<;>intro h)|refine⟨_,rfl,?_⟩|((with_reducible show _=_);rfl))
    all_goals try((with_reducible refine Obl.mk ?_);exact KO)
    all_goals try exact⟨K2⟩
 ·rw[List.drop_eq_nil_of_le (by omega),List.all_nil]at hr
  subst hr
  repeat' ((conv=>whnf);first|refine Or.inl ?_|apply oi|(apply fi<;>intro h)|refine⟨_,rfl,?_⟩|((with_reducible show _=_);rfl))
  all_goals try((with_reducible refine Obl.mk ?_);exact KO)
  all_goals try exact KX
def natRow (n:Nat):List Tr:=intRow n
theorem lineOk_noexpr {x:TLine}(h:lineOk x=true)(hk:x.fKind=7):x.fExpr=[]:=by
 unfold lineOk at h
 simp only[Bool.and_eq_true]at h
 have h3:=h.2.2.2
 rw[if_neg (by rw[hk];decide)]at h3
 exact List.length_eq_zero_iff.1 (eq_of_beq h3)
def stOf (i:Nat)(st es:List Nat):Prop:=st=es∨st=(i - 1)::es
theorem revTop (m:Nat)(r:List Nat):((m::r).reverse.map natRow)[r.length]?=some (natRow m):=by simp
theorem StkOk.top {l:List TLine}{e i m:Nat}{r:List Nat}(h:StkOk l e i (m::r)):i≤m:=h.1
theorem s_impl_functionOk (l:List TLine)(k e:Nat)(hl:l.length≤60)(hs:∀x∈l,smallR 1048576 x.tr)(hok:∀x∈l,lineOk x=true)(he:endAt l k=some e):Sim.Spec Tryz.prog 155 [tvP l,tvI k,tvI e] (rB (fnOk l k e)):=by
 refine spec_of_W hΓ hmix Tryz.func155 rfl (by decide) rfl ?_
 have hlen:(l.map TLine.tr).length=l.length:=by simp
 have hL:=s_impl_LocalsOf l k (by omega) hs
 obtain⟨hloc1,hloc2⟩:=locals_le (l:=l) (k:=(k:Int)) (by omega) hs
 have hst0:=(endAt_some he)
 obtain⟨x0,hx0,ho0,he0,hke,hel⟩:=hst0
 unfold fnOk
 generalize localsOf l (k:Int)=loc at *
 have hll:(loc.map strRow).length=loc.length:=by simp
 by_cases h8:loc.length≤8
 ·rw[decide_eq_true h8,Bool.true_and]
  obtain⟨R,hR⟩:∃R,bodyN l loc e (e - (k+1)) (k+1) 0=R:=⟨_,rfl⟩
  rw[hR]
  repeat' ((conv=>whnf);first|refine Or.inl ?_|apply oi|(apply fi<;>intro h)|refine ci hL (ai rfl (ai rfl trivial)) ?_|refine⟨_,rfl,?_⟩|((with_reducible show _=_);rfl))
  all_goals try((with_reducible refine Obl.mk ?_);exact KO)
  all_goals try exact KX
  conv=>whnf
  refine⟨{q:Nat×List Nat×List Nat // k < q.1∧q.1≤e+1∧q.2.1.length≤5∧(q.1=e+1→R=true)∧(q.1≤e→StkOk l e q.1 q.2.2∧q.2.2.length≤4∧stOf q.1 q.2.1 q.2.2∧bodyN l loc e (e - q.1) q.1 q.2.2.length=R)},fun q=>⟨[(0,vP l),(2,tI .i64 (e:Int)),(7,.r (.c (.own (7,0,0)))),(8,.r (.c (.own (8,0,0)))),(9,tI .i64 (q.1.1:Int))],[((7,0,0),some (.arr true 1 (loc.map strRow))),((8,0,0),some (.arr false 1 (q.1.2.1.reverse.map natRow)))],[7,8]⟩,fun q=>e+1 - q.1.1,⟨(k+1,[],[]),by dsimp only;omega,by dsimp only;omega,by simp,fun h=>by dsimp only at h;omega,fun _=>⟨he0,by simp,.inl rfl,hR⟩⟩,?_,?_⟩
  ·skip
   repeat' ((conv=>whnf);first|refine Or.inl ?_|apply oi|(apply fi<;>intro h)|refine⟨_,rfl,?_⟩|((with_reducible show _=_);rfl))
   all_goals try((with_reducible refine Obl.mk ?_);exact KO)
   all_goals try exact⟨K2⟩
   all_goals exact⟨by simp⟩
  intro⟨⟨i,st,es⟩,q1,q2,q3,q4,q5⟩
  dsimp only at q1 q2 q3 q4 q5 ⊢
  by_cases hie:i≤e
  ·obtain⟨y,hy⟩:=get_of_lt (l:=l) (k:=i) (by omega)
   obtain⟨g1,g2,g3,g4⟩:=q5 hie
   have hE:=s_impl_EndOf l (i:Int) (by omega)
   have hX:=s_impl_exprNames l loc y.fExpr (by omega) (by omega) (by have:=(line_small (hs y (List.mem_of_getElem? hy))).2.2.2.1;omega)
   repeat' ((conv=>whnf);first|refine Or.inl ?_|apply oi|(apply fi<;>intro h)|refine⟨_,rfl,?_⟩|((with_reducible show _=_);rfl))
   all_goals try((with_reducible refine Obl.mk ?_);exact KO)
   all_goals try exact KX
   conv=>whnf
   refine⟨{u:List Nat // stOf i u es},fun q=>⟨[(0,vP l),(2,tI .i64 (e:Int)),(7,.r (.c (.own (7,0,0)))),(8,.r (.c (.own (8,0,0)))),(9,tI .i64 (i:Int))],[((7,0,0),some (.arr true 1 (loc.map strRow))),((8,0,0),some (.arr false 1 (q.1.reverse.map natRow)))],[7,8]⟩,fun q=>q.1.length,⟨st,g3⟩,?_,?_⟩
   ·skip
    repeat' ((conv=>whnf);first|refine Or.inl ?_|apply oi|(apply fi<;>intro h)|refine⟨_,rfl,?_⟩|((with_reducible show _=_);rfl))
    all_goals try((with_reducible refine Obl.mk ?_);exact KO)
   intro⟨u,hu⟩
   dsimp only at hu ⊢
   have hul:(u.reverse.map natRow).length=u.length:=by simp
   cases u with
   | nil=>
    have hes0:es=[]:=by
     rcases hu with h|h
     ·exact h.symm
     ·cases h
    subst hes0
    by_cases hlt:i < e
    ·rw[bodyN_step hlt hy]at g4
     by_cases h0:y.fKind=0
     ·rw[if_pos h0]at g4
      subst g4
      repeat' ((conv=>whnf);first|refine Or.inl ?_|apply oi|(apply fi<;>intro h)|refine ci hE (ai rfl (ai rfl trivial)) ?_|refine ci hX (ai rfl (ai rfl (ai rfl trivial))) ?_|refine⟨i,y.tr,rfl,map_get hy,?_⟩|refine⟨_,rfl,?_⟩|((with_reducible show _=_);rfl))
      all_goals try((with_reducible refine Obl.mk ?_);exact KO)
      all_goals try exact KX
      all_goals try(exfalso;(try simp_all[within]);(try omega);done)
     ·rw[if_neg h0]at g4
      by_cases h35:y.fKind=3∨y.fKind=5
      ·have hd:dep y ([]:List Nat).length=([]:List Nat).length+1:=by unfold dep;rw[if_pos h35]
       rw[hd]at g4
       obtain⟨m',hm',him,hst'⟩:=g1.push hy (opensK_iff.2 (by omega))
       rw[endOf_at,endI_some hm']at hE
       by_cases hc:([]:List Nat).length+1≤4∧exprKnown l loc y.fExpr=true
       ·obtain⟨c1,c2⟩:=hc
        rw[if_pos ⟨c1,c2⟩]at g4
        rw[c2]at hX
        repeat' ((conv=>whnf);first|refine Or.inl ?_|apply oi|(apply fi<;>intro h)|refine ci hE (ai rfl (ai rfl trivial)) ?_|refine ci hX (ai rfl (ai rfl (ai rfl trivial))) ?_|refine⟨i,y.tr,rfl,map_get hy,?_⟩|refine⟨_,rfl,?_⟩|((with_reducible show _=_);rfl))
        all_goals try((with_reducible refine Obl.mk ?_);exact KO)
        all_goals try exact KX
        all_goals try(exfalso;(try simp_all[within]);(try omega);done)
        all_goals try(exfalso;simp at h;omega)
        all_goals try exact⟨⟨by simp <;> omega,by simp <;> omega⟩⟩
        all_goals try(exfalso;simp_all;done)
        all_goals
         conv=>whnf
         refine⟨⟨(i+1,m'::([]:List Nat),m'::([]:List Nat)),by dsimp only;omega,by dsimp only;omega,by simp only[List.length_cons]at *;omega,fun h=>by dsimp only at h;omega,fun _=>⟨hst',by simp only[List.length_cons]at *;omega,.inl rfl,g4⟩⟩,?_,by dsimp only;omega⟩
         repeat' ((conv=>whnf);first|refine Or.inl ?_|apply oi|(apply fi<;>intro h)|refine⟨_,rfl,?_⟩|((with_reducible show _=_);rfl))
         all_goals try((with_reducible refine Obl.mk ?_);exact KO)
         all_goals try exact⟨K2⟩
         all_goals exact⟨by simp[natRow,intRow]⟩
       ·rw[if_neg hc]at g4
        subst g4
        cases hkn:exprKnown l loc y.fExpr with
        | true=>
         rw[hkn]at hX hc
         repeat' ((conv=>whnf);first|refine Or.inl ?_|apply oi|(apply fi<;>intro h)|refine ci hE (ai rfl (ai rfl trivial)) ?_|refine ci hX (ai rfl (ai rfl (ai rfl trivial))) ?_|refine⟨i,y.tr,rfl,map_get hy,?_⟩|refine⟨_,rfl,?_⟩|((with_reducible show _=_);rfl))
         all_goals try((with_reducible refine Obl.mk ?_);exact KO)
         all_goals try exact KX
         all_goals try(exfalso;(try simp_all[within]);(try omega);done)
         all_goals try exact⟨⟨by simp <;> omega,by simp <;> omega⟩⟩
         all_goals try(exfalso;apply hc;refine⟨?_,rfl⟩;simp at h;omega)
         all_goals try(exfalso;simp_all;done)
        | false=>
         rw[hkn]at hX hc
         repeat' ((conv=>whnf);first|refine Or.inl ?_|apply oi|(apply fi<;>intro h)|refine ci hE (ai rfl (ai rfl trivial)) ?_|refine ci hX (ai rfl (ai rfl (ai rfl trivial))) ?_|refine⟨i,y.tr,rfl,map_get hy,?_⟩|refine⟨_,rfl,?_⟩|((with_reducible show _=_);rfl))
         all_goals try((with_reducible refine Obl.mk ?_);exact KO)
         all_goals try exact KX
         all_goals try(exfalso;(try simp_all[within]);(try omega);done)
         all_goals try exact⟨⟨by simp <;> omega,by simp <;> omega⟩⟩
         all_goals try(exfalso;simp_all;done)
      ·by_cases h7:y.fKind=7
       ·rcases g1.pop hy h7 with⟨_,h'⟩|⟨es',hes,hst'⟩
        ·omega
        have hd:dep y ([]:List Nat).length=es'.length:=by unfold dep;rw[if_neg h35,if_pos h7,hes];simp
        have hl4:es'.length≤4:=by rw[hes]at g2;simp at g2;omega
        rw[hd]at g4
        cases hkn:exprKnown l loc y.fExpr with
        | true=>
         rw[hkn]at hX g4
         rw[if_pos ⟨hl4,rfl⟩]at g4
         repeat' ((conv=>whnf);first|refine Or.inl ?_|apply oi|(apply fi<;>intro h)|refine ci hE (ai rfl (ai rfl trivial)) ?_|refine ci hX (ai rfl (ai rfl (ai rfl trivial))) ?_|refine⟨i,y.tr,rfl,map_get hy,?_⟩|refine⟨_,rfl,?_⟩|((with_reducible show _=_);rfl))
         all_goals try((with_reducible refine Obl.mk ?_);exact KO)
         all_goals try exact KX
         all_goals try(exfalso;(try simp_all[within]);(try omega);done)
         all_goals try(exfalso;simp at h;omega)
         all_goals try(exfalso;simp_all;done)
         all_goals
          conv=>whnf
          refine⟨⟨(i+1,[],es'),by dsimp only;omega,by dsimp only;omega,by dsimp only;omega,fun h=>by dsimp only at h;omega,fun _=>⟨hst',hl4,.inr (by dsimp only;rw[hes];rfl),g4⟩⟩,?_,by dsimp only;omega⟩
          repeat' ((conv=>whnf);first|refine Or.inl ?_|apply oi|(apply fi<;>intro h)|refine⟨_,rfl,?_⟩|((with_reducible show _=_);rfl))
          all_goals try((with_reducible refine Obl.mk ?_);exact KO)
          all_goals try exact⟨K2⟩
        | false=>
         rw[hkn]at hX g4
         rw[if_neg (by simp)]at g4
         subst g4
         repeat' ((conv=>whnf);first|refine Or.inl ?_|apply oi|(apply fi<;>intro h)|refine ci hE (ai rfl (ai rfl trivial)) ?_|refine ci hX (ai rfl (ai rfl (ai rfl trivial))) ?_|refine⟨i,y.tr,rfl,map_get hy,?_⟩|refine⟨_,rfl,?_⟩|((with_reducible show _=_);rfl))
         all_goals try((with_reducible refine Obl.mk ?_);exact KO)
         all_goals try exact KX
         all_goals try(exfalso;(try simp_all[within]);(try omega);done)
         all_goals try(exfalso;simp_all;done)
       ·have hd:dep y ([]:List Nat).length=([]:List Nat).length:=by unfold dep;rw[if_neg h35,if_neg h7]
        have ho:opensK y.fKind=false:=by
         cases hh:opensK y.fKind with
         | false=>rfl
         | true=>rw[opensK_iff]at hh;omega
        have hst':=g1.other hy ho h7
        rw[hd]at g4
        cases hkn:exprKnown l loc y.fExpr with
        | true=>
         rw[hkn]at hX g4
         rw[if_pos ⟨g2,rfl⟩]at g4
         repeat' ((conv=>whnf);first|refine Or.inl ?_|apply oi|(apply fi<;>intro h)|refine ci hE (ai rfl (ai rfl trivial)) ?_|refine ci hX (ai rfl (ai rfl (ai rfl trivial))) ?_|refine⟨i,y.tr,rfl,map_get hy,?_⟩|refine⟨_,rfl,?_⟩|((with_reducible show _=_);rfl))
         all_goals try((with_reducible refine Obl.mk ?_);exact KO)
         all_goals try exact KX
         all_goals try(exfalso;(try simp_all[within]);(try omega);done)
         all_goals try(exfalso;simp at h;omega)
         all_goals try(exfalso;simp_all;done)
         all_goals
          conv=>whnf
          refine⟨⟨(i+1,[],[]),by dsimp only;omega,by dsimp only;omega,by dsimp only;omega,fun h=>by dsimp only at h;omega,fun _=>⟨hst',g2,.inl rfl,g4⟩⟩,?_,by dsimp only;omega⟩
          repeat' ((conv=>whnf);first|refine Or.inl ?_|apply oi|(apply fi<;>intro h)|refine⟨_,rfl,?_⟩|((with_reducible show _=_);rfl))
          all_goals try((with_reducible refine Obl.mk ?_);exact KO)
          all_goals try exact⟨K2⟩
        | false=>
         rw[hkn]at hX g4
         rw[if_neg (by simp)]at g4
         subst g4
         repeat' ((conv=>whnf);first|refine Or.inl ?_|apply oi|(apply fi<;>intro h)|refine ci hE (ai rfl (ai rfl trivial)) ?_|refine ci hX (ai rfl (ai rfl (ai rfl trivial))) ?_|refine⟨i,y.tr,rfl,map_get hy,?_⟩|refine⟨_,rfl,?_⟩|((with_reducible show _=_);rfl))
         all_goals try((with_reducible refine Obl.mk ?_);exact KO)
         all_goals try exact KX
         all_goals try(exfalso;(try simp_all[within]);(try omega);done)
         all_goals try(exfalso;simp_all;done)
    ·have hie':i=e:=by omega
     obtain⟨z,hz,hz7⟩:=endAt_kind he
     rw[←hie',hy]at hz
     injection hz with hz
     subst hz
     rw[bodyN_end (by omega)]at g4
     have hkn:exprKnown l loc y.fExpr=true:=by rw[lineOk_noexpr (hok y (List.mem_of_getElem? hy)) hz7];rfl
     rw[hkn]at hX
     repeat' ((conv=>whnf);first|refine Or.inl ?_|apply oi|(apply fi<;>intro h)|refine ci hE (ai rfl (ai rfl trivial)) ?_|refine ci hX (ai rfl (ai rfl (ai rfl trivial))) ?_|refine⟨i,y.tr,rfl,map_get hy,?_⟩|refine⟨_,rfl,?_⟩|((with_reducible show _=_);rfl))
     all_goals try((with_reducible refine Obl.mk ?_);exact KO)
     all_goals try exact KX
     all_goals try(exfalso;(try simp_all[within]);(try omega);done)
     all_goals try(exfalso;simp at h;omega)
     all_goals try(exfalso;simp_all;done)
     all_goals
      conv=>whnf
      refine⟨⟨(i+1,[],[]),by dsimp only;omega,by dsimp only;omega,by dsimp only;omega,fun _=>g4.symm,fun h=>by dsimp only at h;omega⟩,?_,by dsimp only;omega⟩
      repeat' ((conv=>whnf);first|refine Or.inl ?_|apply oi|(apply fi<;>intro h)|refine⟨_,rfl,?_⟩|((with_reducible show _=_);rfl))
      all_goals try((with_reducible refine Obl.mk ?_);exact KO)
      all_goals try exact⟨K2⟩
   | cons m r=>
    have hlen3:((m::r).reverse.map natRow).length=r.length+1:=by simp
    have hrl:r.length≤5:=by
     rcases hu with h|h
     ·rw[←h]at g2
      simp only[List.length_cons]at g2
      omega
     ·injection h with h1 h2
      rw[h2]
      omega
    have hw:IntKind.i64.wrap ((((m::r).reverse.map natRow).length:Int) - 1)=(r.length:Int):=by rw[hlen3,IntWalk.i64_in _ (by omega)];omega
    by_cases hm:m < i
    ·have hr:r=es:=by
      rcases hu with h|h
      ·subst h
       have:=g1.top
       omega
      ·injection h
     subst hr
     repeat' ((conv=>whnf);first|refine Or.inl ?_|apply oi|(apply fi<;>intro h)|refine⟨r.length,hw,(by rw[hlen3];omega),?_⟩|refine⟨(natRow m),(revTop m r),?_⟩|refine⟨_,rfl,?_⟩|((with_reducible show _=_);rfl))
     all_goals try((with_reducible refine Obl.mk ?_);exact KO)
     all_goals try exact KX
     conv=>whnf
     refine⟨⟨r,.inl rfl⟩,?_,by dsimp only;simp⟩
     repeat' ((conv=>whnf);first|refine Or.inl ?_|apply oi|(apply fi<;>intro h)|refine⟨_,rfl,?_⟩|((with_reducible show _=_);rfl))
     all_goals try((with_reducible refine Obl.mk ?_);exact KO)
     all_goals try exact⟨K5⟩
    ·have hr:es=m::r:=by
      rcases hu with h|h
      ·exact h.symm
      ·injection h with h1 h2
       omega
     subst hr
     have hbk:=0
     by_cases hlt:i < e
     ·rw[bodyN_step hlt hy]at g4
      by_cases h0:y.fKind=0
      ·rw[if_pos h0]at g4
       subst g4
       repeat' ((conv=>whnf);first|refine Or.inl ?_|apply oi|(apply fi<;>intro h)|refine⟨r.length,hw,(by rw[hlen3];omega),?_⟩|refine⟨(natRow m),(revTop m r),?_⟩|refine ci hE (ai rfl (ai rfl trivial)) ?_|refine ci hX (ai rfl (ai rfl (ai rfl trivial))) ?_|refine⟨i,y.tr,rfl,map_get hy,?_⟩|refine⟨_,rfl,?_⟩|((with_reducible show _=_);rfl))
       all_goals try((with_reducible refine Obl.mk ?_);exact KO)
       all_goals try exact KX
       all_goals try(exfalso;(try simp_all[within]);(try omega);done)
      ·rw[if_neg h0]at g4
       by_cases h35:y.fKind=3∨y.fKind=5
       ·have hd:dep y (m::r).length=(m::r).length+1:=by unfold dep;rw[if_pos h35]
        rw[hd]at g4
        obtain⟨m',hm',him,hst'⟩:=g1.push hy (opensK_iff.2 (by omega))
        rw[endOf_at,endI_some hm']at hE
        by_cases hc:(m::r).length+1≤4∧exprKnown l loc y.fExpr=true
        ·obtain⟨c1,c2⟩:=hc
         rw[if_pos ⟨c1,c2⟩]at g4
         rw[c2]at hX
         repeat' ((conv=>whnf);first|refine Or.inl ?_|apply oi|(apply fi<;>intro h)|refine⟨r.length,hw,(by rw[hlen3];omega),?_⟩|refine⟨(natRow m),(revTop m r),?_⟩|refine ci hE (ai rfl (ai rfl trivial)) ?_|refine ci hX (ai rfl (ai rfl (ai rfl trivial))) ?_|refine⟨i,y.tr,rfl,map_get hy,?_⟩|refine⟨_,rfl,?_⟩|((with_reducible show _=_);rfl))
         all_goals try((with_reducible refine Obl.mk ?_);exact KO)
         all_goals try exact KX
         all_goals try(exfalso;(try simp_all[within]);(try omega);done)
         all_goals try(exfalso;simp at h;omega)
         all_goals try exact⟨⟨by simp <;> omega,by simp <;> omega⟩⟩
         all_goals try(exfalso;simp_all;done)
         all_goals
          conv=>whnf
          refine⟨⟨(i+1,m'::(m::r),m'::(m::r)),by dsimp only;omega,by dsimp only;omega,by simp only[List.length_cons]at *;omega,fun h=>by dsimp only at h;omega,fun _=>⟨hst',by simp only[List.length_cons]at *;omega,.inl rfl,g4⟩⟩,?_,by dsimp only;omega⟩
          repeat' ((conv=>whnf);first|refine Or.inl ?_|apply oi|(apply fi<;>intro h)|refine⟨_,rfl,?_⟩|((with_reducible show _=_);rfl))
          all_goals try((with_reducible refine Obl.mk ?_);exact KO)
          all_goals try exact⟨K2⟩
          all_goals exact⟨by simp[natRow,intRow]⟩
        ·rw[if_neg hc]at g4
         subst g4
         cases hkn:exprKnown l loc y.fExpr with
         | true=>
          rw[hkn]at hX hc
          repeat' ((conv=>whnf);first|refine Or.inl ?_|apply oi|(apply fi<;>intro h)|refine⟨r.length,hw,(by rw[hlen3];omega),?_⟩|refine⟨(natRow m),(revTop m r),?_⟩|refine ci hE (ai rfl (ai rfl trivial)) ?_|refine ci hX (ai rfl (ai rfl (ai rfl trivial))) ?_|refine⟨i,y.tr,rfl,map_get hy,?_⟩|refine⟨_,rfl,?_⟩|((with_reducible show _=_);rfl))
          all_goals try((with_reducible refine Obl.mk ?_);exact KO)
          all_goals try exact KX
          all_goals try(exfalso;(try simp_all[within]);(try omega);done)
          all_goals try exact⟨⟨by simp <;> omega,by simp <;> omega⟩⟩
          all_goals try(exfalso;apply hc;refine⟨?_,rfl⟩;simp at h;omega)
          all_goals try(exfalso;simp_all;done)
         | false=>
          rw[hkn]at hX hc
          repeat' ((conv=>whnf);first|refine Or.inl ?_|apply oi|(apply fi<;>intro h)|refine⟨r.length,hw,(by rw[hlen3];omega),?_⟩|refine⟨(natRow m),(revTop m r),?_⟩|refine ci hE (ai rfl (ai rfl trivial)) ?_|refine ci hX (ai rfl (ai rfl (ai rfl trivial))) ?_|refine⟨i,y.tr,rfl,map_get hy,?_⟩|refine⟨_,rfl,?_⟩|((with_reducible show _=_);rfl))
          all_goals try((with_reducible refine Obl.mk ?_);exact KO)
          all_goals try exact KX
          all_goals try(exfalso;(try simp_all[within]);(try omega);done)
          all_goals try exact⟨⟨by simp <;> omega,by simp <;> omega⟩⟩
          all_goals try(exfalso;simp_all;done)
       ·by_cases h7:y.fKind=7
        ·rcases g1.pop hy h7 with⟨_,h'⟩|⟨es',hes,hst'⟩
         ·omega
         have hd:dep y (m::r).length=es'.length:=by unfold dep;rw[if_neg h35,if_pos h7,hes];simp
         have hl4:es'.length≤4:=by rw[hes]at g2;simp at g2;omega
         rw[hd]at g4
         cases hkn:exprKnown l loc y.fExpr with
         | true=>
          rw[hkn]at hX g4
          rw[if_pos ⟨hl4,rfl⟩]at g4
          repeat' ((conv=>whnf);first|refine Or.inl ?_|apply oi|(apply fi<;>intro h)|refine⟨r.length,hw,(by rw[hlen3];omega),?_⟩|refine⟨(natRow m),(revTop m r),?_⟩|refine ci hE (ai rfl (ai rfl trivial)) ?_|refine ci hX (ai rfl (ai rfl (ai rfl trivial))) ?_|refine⟨i,y.tr,rfl,map_get hy,?_⟩|refine⟨_,rfl,?_⟩|((with_reducible show _=_);rfl))
          all_goals try((with_reducible refine Obl.mk ?_);exact KO)
          all_goals try exact KX
          all_goals try(exfalso;(try simp_all[within]);(try omega);done)
          all_goals try(exfalso;simp at h;omega)
          all_goals try(exfalso;simp_all;done)
          all_goals
           conv=>whnf
           refine⟨⟨(i+1,(m::r),es'),by dsimp only;omega,by dsimp only;omega,by dsimp only;omega,fun h=>by dsimp only at h;omega,fun _=>⟨hst',hl4,.inr (by dsimp only;rw[hes];rfl),g4⟩⟩,?_,by dsimp only;omega⟩
           repeat' ((conv=>whnf);first|refine Or.inl ?_|apply oi|(apply fi<;>intro h)|refine⟨_,rfl,?_⟩|((with_reducible show _=_);rfl))
           all_goals try((with_reducible refine Obl.mk ?_);exact KO)
           all_goals try exact⟨K2⟩
         | false=>
          rw[hkn]at hX g4
          rw[if_neg (by simp)]at g4
          subst g4
          repeat' ((conv=>whnf);first|refine Or.inl ?_|apply oi|(apply fi<;>intro h)|refine⟨r.length,hw,(by rw[hlen3];omega),?_⟩|refine⟨(natRow m),(revTop m r),?_⟩|refine ci hE (ai rfl (ai rfl trivial)) ?_|refine ci hX (ai rfl (ai rfl (ai rfl trivial))) ?_|refine⟨i,y.tr,rfl,map_get hy,?_⟩|refine⟨_,rfl,?_⟩|((with_reducible show _=_);rfl))
          all_goals try((with_reducible refine Obl.mk ?_);exact KO)
          all_goals try exact KX
          all_goals try(exfalso;(try simp_all[within]);(try omega);done)
          all_goals try(exfalso;simp_all;done)
        ·have hd:dep y (m::r).length=(m::r).length:=by unfold dep;rw[if_neg h35,if_neg h7]
         have ho:opensK y.fKind=false:=by
          cases hh:opensK y.fKind with
          | false=>rfl
          | true=>rw[opensK_iff]at hh;omega
         have hst':=g1.other hy ho h7
         rw[hd]at g4
         cases hkn:exprKnown l loc y.fExpr with
         | true=>
          rw[hkn]at hX g4
          rw[if_pos ⟨g2,rfl⟩]at g4
          repeat' ((conv=>whnf);first|refine Or.inl ?_|apply oi|(apply fi<;>intro h)|refine⟨r.length,hw,(by rw[hlen3];omega),?_⟩|refine⟨(natRow m),(revTop m r),?_⟩|refine ci hE (ai rfl (ai rfl trivial)) ?_|refine ci hX (ai rfl (ai rfl (ai rfl trivial))) ?_|refine⟨i,y.tr,rfl,map_get hy,?_⟩|refine⟨_,rfl,?_⟩|((with_reducible show _=_);rfl))
          all_goals try((with_reducible refine Obl.mk ?_);exact KO)
          all_goals try exact KX
          all_goals try(exfalso;(try simp_all[within]);(try omega);done)
          all_goals try(exfalso;simp at h;omega)
          all_goals try(exfalso;simp_all;done)
          all_goals
           conv=>whnf
           refine⟨⟨(i+1,(m::r),(m::r)),by dsimp only;omega,by dsimp only;omega,by dsimp only;omega,fun h=>by dsimp only at h;omega,fun _=>⟨hst',g2,.inl rfl,g4⟩⟩,?_,by dsimp only;omega⟩
           repeat' ((conv=>whnf);first|refine Or.inl ?_|apply oi|(apply fi<;>intro h)|refine⟨_,rfl,?_⟩|((with_reducible show _=_);rfl))
           all_goals try((with_reducible refine Obl.mk ?_);exact KO)
           all_goals try exact⟨K2⟩
         | false=>
          rw[hkn]at hX g4
          rw[if_neg (by simp)]at g4
          subst g4
          repeat' ((conv=>whnf);first|refine Or.inl ?_|apply oi|(apply fi<;>intro h)|refine⟨r.length,hw,(by rw[hlen3];omega),?_⟩|refine⟨(natRow m),(revTop m r),?_⟩|refine ci hE (ai rfl (ai rfl trivial)) ?_|refine ci hX (ai rfl (ai rfl (ai rfl trivial))) ?_|refine⟨i,y.tr,rfl,map_get hy,?_⟩|refine⟨_,rfl,?_⟩|((with_reducible show _=_);rfl))
          all_goals try((with_reducible refine Obl.mk ?_);exact KO)
          all_goals try exact KX
          all_goals try(exfalso;(try simp_all[within]);(try omega);done)
          all_goals try(exfalso;simp_all;done)
     ·have hie':i=e:=by omega
      obtain⟨z,hz,hz7⟩:=endAt_kind he
      rw[←hie',hy]at hz
      injection hz with hz
      subst hz
      rw[bodyN_end (by omega)]at g4
      have hkn:exprKnown l loc y.fExpr=true:=by rw[lineOk_noexpr (hok y (List.mem_of_getElem? hy)) hz7];rfl
      rw[hkn]at hX
      repeat' ((conv=>whnf);first|refine Or.inl ?_|apply oi|(apply fi<;>intro h)|refine⟨r.length,hw,(by rw[hlen3];omega),?_⟩|refine⟨(natRow m),(revTop m r),?_⟩|refine ci hE (ai rfl (ai rfl trivial)) ?_|refine ci hX (ai rfl (ai rfl (ai rfl trivial))) ?_|refine⟨i,y.tr,rfl,map_get hy,?_⟩|refine⟨_,rfl,?_⟩|((with_reducible show _=_);rfl))
      all_goals try((with_reducible refine Obl.mk ?_);exact KO)
      all_goals try exact KX
      all_goals try(exfalso;(try simp_all[within]);(try omega);done)
      all_goals try(exfalso;simp at h;omega)
      all_goals try(exfalso;simp_all;done)
      all_goals
       conv=>whnf
       refine⟨⟨(i+1,(m::r),(m::r)),by dsimp only;omega,by dsimp only;omega,by dsimp only;omega,fun _=>g4.symm,fun h=>by dsimp only at h;omega⟩,?_,by dsimp only;omega⟩
       repeat' ((conv=>whnf);first|refine Or.inl ?_|apply oi|(apply fi<;>intro h)|refine⟨_,rfl,?_⟩|((with_reducible show _=_);rfl))
       all_goals try((with_reducible refine Obl.mk ?_);exact KO)
       all_goals try exact⟨K2⟩
  ·rw[q4 (by omega)]
   repeat' ((conv=>whnf);first|refine Or.inl ?_|apply oi|(apply fi<;>intro h)|refine⟨_,rfl,?_⟩|((with_reducible show _=_);rfl))
   all_goals try((with_reducible refine Obl.mk ?_);exact KO)
   all_goals try exact KX
 ·rw[decide_eq_false h8,Bool.false_and]
  repeat' ((conv=>whnf);first|refine Or.inl ?_|apply oi|(apply fi<;>intro h)|refine ci hL (ai rfl (ai rfl trivial)) ?_|refine⟨_,rfl,?_⟩|((with_reducible show _=_);rfl))
  all_goals try((with_reducible refine Obl.mk ?_);exact KO)
  all_goals try exact KX
end Go.Proofs.YtjmplnfiabmalaaGreat
namespace Go.Proofs.YtjmplnfiabmalaaGreat
open Go.Sim
set_option maxRecDepth 100000
set_option maxHeartbeats 4000000
abbrev nR (n:Nat):List Tr:=intRow n
theorem chainI_cons {l:List TLine}{k:Nat}{fs:List Nat}{next:Nat}:chainI l (k::fs) next=match endAt l k with|some e=>if k=next∧nameFirst l k=true∧fnOk l k e=true then chainI l fs (e+1)else false|none=>false:=by rw[chainI] <;> (cases endAt l k <;> rfl)
theorem headOk_at {l:List TLine}{x:TLine}(hx:l[0]?=some x):headOk l=(x.fKind==0 && (x.fName==mainName && x.fArgs.length==0)):=by
 cases l with
 | nil=>cases hx
 | cons y r=>rw[List.getElem?_cons_zero]at hx;injection hx with hx;subst hx;rfl
theorem elsesIn_step {l:List TLine}{k e i:Nat}{x:TLine}(hi:i < e)(hx:l[i]?=some x):elsesIn l k e (e - i) i=((if x.fKind=4 then anyE l i (i - k) k else true) && elsesIn l k e (e - (i+1)) (i+1)):=by
 rw[show e - i=(e - (i+1))+1 by omega,elsesIn,if_pos hi,hx]
theorem elses_has {l:List TLine}{i:Nat}(hi:i < l.length):((List.range l.length).map fun j:Nat=>elseOf l (j:Int)).contains (i:Int)=anyE l i i 0:=by
 rw[Bool.eq_iff_iff,anyE_iff,List.contains_iff_mem,List.mem_map]
 constructor
 ·rintro⟨j,hj,he⟩
  rw[elseOf,if_pos (by omega),Int.toNat_natCast]at he
  cases hx:elseAt l j with
  | none=>rw[hx]at he;simp only[endI]at he;omega
  | some m=>
   rw[hx]at he
   simp only[endI]at he
   have:m=i:=by omega
   subst this
   obtain⟨_,_,_,_,_,h1,_⟩:=elseAt_some hx
   exact⟨j,by omega,by omega,hx⟩
 ·rintro⟨j,_,hj,he⟩
  refine⟨j,by rw[List.mem_range];omega,?_⟩
  rw[elseOf,if_pos (by omega),Int.toNat_natCast,he]
  rfl
theorem s_impl_ProgramOk (l:List TLine)(hsm:smallT 1048576 (.lst 4 (l.map TLine.tr))):Sim.Spec Tryz.prog 78 [tvP l] (rB (programOk l)):=by
 refine spec_of_W hΓ hmix Tryz.func78 rfl (by decide) rfl ?_
 have hl:=small_nat hsm
 have hs:∀x∈l,smallR 1048576 x.tr:=fun x hx=>smallRs_map hsm hx
 have hlen:(l.map TLine.tr).length=l.length:=by simp
 have hF:=s_impl_FunctionLines l hl
 have hfl:((funs l).map fun n:Nat=>intRow n).length=(funs l).length:=by simp
 have hfle:(funs l).length≤l.length:=funsF_len l 0
 have hB:=s_impl_between (((funs l).map fun n:Nat=>intRow n).length:Int) 1 6
 by_cases c1:l.length≤60∧(1≤(funs l).length∧(funs l).length≤6)
 ·obtain⟨c1,c2,c3⟩:=c1
  rw[within_iff.2 ⟨by rw[hfl];omega,by rw[hfl];omega⟩]at hB
  unfold programOk
  rw[decide_eq_true c1,decide_eq_true (show 1≤(funs l).length∧(funs l).length≤6 from⟨c2,c3⟩),Bool.true_and,Bool.true_and]
  cases hall:l.all lineOk with
  | false=>
   rw[Bool.false_and]
   repeat' ((conv=>whnf);first|refine Or.inl ?_|apply oi|(apply fi<;>intro h)|refine ci hF (ai rfl trivial) ?_|refine ci hB (ai rfl (ai rfl (ai rfl trivial))) ?_|refine⟨_,rfl,?_⟩|((with_reducible show _=_);rfl))
   all_goals try((with_reducible refine Obl.mk ?_);exact KO)
   all_goals try exact KX
   all_goals try(exfalso;(try simp_all[within]);(try omega);done)
   conv=>whnf
   refine⟨{k:Nat // k≤l.length∧(l.drop k).all lineOk=false},fun q=>⟨[(0,vP l),(3,.r (.c (.own (3,0,0)))),(25,vP l),(26,tI .i64 ((l.map TLine.tr).length:Int)),(27,tI .i64 (q.1:Int))],[((3,0,0),some (.arr true 1 ((funs l).map fun n:Nat=>intRow n)))],[3]⟩,fun q=>l.length - q.1,⟨0,by omega,hall⟩,?_,?_⟩
   ·skip
    repeat' ((conv=>whnf);first|refine Or.inl ?_|apply oi|(apply fi<;>intro h)|refine⟨_,rfl,?_⟩|((with_reducible show _=_);rfl))
    all_goals try((with_reducible refine Obl.mk ?_);exact KO)
   intro⟨k,hk,hr⟩
   dsimp only at hk hr ⊢
   by_cases hlt:k < l.length
   ·obtain⟨x,hx⟩:=get_of_lt hlt
    rw[all_at hx]at hr
    have hL:=s_impl_LineOk x (hs x (List.mem_of_getElem? hx))
    cases ho:lineOk x with
    | false=>
     rw[ho]at hL
     repeat' ((conv=>whnf);first|refine Or.inl ?_|apply oi|(apply fi<;>intro h)|refine⟨k,x.tr,rfl,map_get hx,?_⟩|refine ci hL (ai (ai rfl (ai rfl (ai rfl (ai rfl trivial)))) trivial) ?_|refine⟨_,rfl,?_⟩|((with_reducible show _=_);rfl))
     all_goals try((with_reducible refine Obl.mk ?_);exact KO)
     all_goals try exact KX
     all_goals try(exfalso;(try simp_all[within]);(try omega);done)
    | true=>
     rw[ho]at hL hr
     rw[Bool.true_and]at hr
     repeat' ((conv=>whnf);first|refine Or.inl ?_|apply oi|(apply fi<;>intro h)|refine⟨k,x.tr,rfl,map_get hx,?_⟩|refine ci hL (ai (ai rfl (ai rfl (ai rfl (ai rfl trivial)))) trivial) ?_|refine⟨_,rfl,?_⟩|((with_reducible show _=_);rfl))
     all_goals try((with_reducible refine Obl.mk ?_);exact KO)
     all_goals try exact KX
     all_goals try(exfalso;(try simp_all[within]);(try omega);done)
     conv=>whnf
     refine⟨⟨k+1,by omega,hr⟩,?_,by dsimp only;omega⟩
     repeat' ((conv=>whnf);first|refine Or.inl ?_|apply oi|(apply fi<;>intro h)|refine⟨_,rfl,?_⟩|((with_reducible show _=_);rfl))
     all_goals try((with_reducible refine Obl.mk ?_);exact KO)
     all_goals try exact⟨K2⟩
   ·rw[List.drop_eq_nil_of_le (by omega)]at hr
    cases hr
  | true=>
   have hok:∀x∈l,lineOk x=true:=List.all_eq_true.1 hall
   rw[Bool.true_and]
   repeat' ((conv=>whnf);first|refine Or.inl ?_|apply oi|(apply fi<;>intro h)|refine ci hF (ai rfl trivial) ?_|refine ci hB (ai rfl (ai rfl (ai rfl trivial))) ?_|refine⟨_,rfl,?_⟩|((with_reducible show _=_);rfl))
   all_goals try((with_reducible refine Obl.mk ?_);exact KO)
   all_goals try exact KX
   all_goals try(exfalso;(try simp_all[within]);(try omega);done)
   conv=>whnf
   refine⟨{k:Nat // k≤l.length},fun q=>⟨[(0,vP l),(3,.r (.c (.own (3,0,0)))),(25,vP l),(26,tI .i64 ((l.map TLine.tr).length:Int)),(27,tI .i64 (q.1:Int))],[((3,0,0),some (.arr true 1 ((funs l).map fun n:Nat=>intRow n)))],[3]⟩,fun q=>l.length - q.1,⟨0,by omega⟩,?_,?_⟩
   ·skip
    repeat' ((conv=>whnf);first|refine Or.inl ?_|apply oi|(apply fi<;>intro h)|refine⟨_,rfl,?_⟩|((with_reducible show _=_);rfl))
    all_goals try((with_reducible refine Obl.mk ?_);exact KO)
   intro⟨k,hk⟩
   dsimp only at hk ⊢
   by_cases hlt:k < l.length
   ·obtain⟨x,hx⟩:=get_of_lt hlt
    have hL:=s_impl_LineOk x (hs x (List.mem_of_getElem? hx))
    rw[hok x (List.mem_of_getElem? hx)]at hL
    repeat' ((conv=>whnf);first|refine Or.inl ?_|apply oi|(apply fi<;>intro h)|refine⟨k,x.tr,rfl,map_get hx,?_⟩|refine ci hL (ai (ai rfl (ai rfl (ai rfl (ai rfl trivial)))) trivial) ?_|refine⟨_,rfl,?_⟩|((with_reducible show _=_);rfl))
    all_goals try((with_reducible refine Obl.mk ?_);exact KO)
    all_goals try exact KX
    all_goals try(exfalso;(try simp_all[within]);(try omega);done)
    conv=>whnf
    refine⟨⟨k+1,by omega⟩,?_,by dsimp only;omega⟩
    repeat' ((conv=>whnf);first|refine Or.inl ?_|apply oi|(apply fi<;>intro h)|refine⟨_,rfl,?_⟩|((with_reducible show _=_);rfl))
    all_goals try((with_reducible refine Obl.mk ?_);exact KO)
    all_goals try exact⟨K2⟩
   ·clear hB hF
    have hpos:0 < l.length:=by omega
    obtain⟨x0,hx0⟩:=get_of_lt hpos
    have hal:(x0.fArgs.map strRow).length=x0.fArgs.length:=by simp
    cases hho:headOk l with
    | false=>
     rw[Bool.false_and]
     rw[headOk_at hx0]at hho
     repeat' ((conv=>whnf);first|refine Or.inl ?_|apply oi|(apply fi<;>intro h)|refine⟨0,x0.tr,rfl,map_get hx0,?_⟩|refine⟨_,rfl,?_⟩|((with_reducible show _=_);rfl))
     all_goals try((with_reducible refine Obl.mk ?_);exact KO)
     all_goals try exact KX
     all_goals try(exfalso;(try simp_all[within]);(try omega);done)
     all_goals try(exfalso;simp_all[mainName];done)
    | true=>
     rw[Bool.true_and]
     obtain⟨R,hR⟩:∃R,chainI l (funs l) 0=R:=⟨_,rfl⟩
     rw[←chainI_all,hR]
     rw[headOk_at hx0]at hho
     repeat' ((conv=>whnf);first|refine Or.inl ?_|apply oi|(apply fi<;>intro h)|refine⟨0,x0.tr,rfl,map_get hx0,?_⟩|refine⟨_,rfl,?_⟩|((with_reducible show _=_);rfl))
     all_goals try((with_reducible refine Obl.mk ?_);exact KO)
     all_goals try exact KX
     all_goals try(exfalso;(try simp_all[within]);(try omega);done)
     all_goals try(exfalso;simp_all[mainName];done)
     conv=>whnf
     refine⟨{q:Nat×Nat // q.1≤(funs l).length∧q.2≤l.length∧chainI l ((funs l).drop q.1) q.2=R},fun q=>⟨[(0,vP l),(6,tI .i64 (q.1.2:Int)),(55,.r (.c (.own (3,0,0)))),(56,tI .i64 (((funs l).map fun n:Nat=>intRow n).length:Int)),(57,tI .i64 (q.1.1:Int))],[((3,0,0),some (.arr true 1 ((funs l).map fun n:Nat=>intRow n)))],[3]⟩,fun q=>(funs l).length - q.1.1,⟨(0,0),by dsimp only;omega,by dsimp only;omega,hR⟩,?_,?_⟩
     ·skip
      repeat' ((conv=>whnf);first|refine Or.inl ?_|apply oi|(apply fi<;>intro h)|refine⟨_,rfl,?_⟩|((with_reducible show _=_);rfl))
      all_goals try((with_reducible refine Obl.mk ?_);exact KO)
     intro⟨⟨j,next⟩,hj,hnx,hr⟩
     dsimp only at hj hnx hr ⊢
     by_cases hjl:j < (funs l).length
     ·obtain⟨f,hf⟩:=get_of_lt hjl
      obtain⟨hfl2,x,hx,hx0'⟩:=funs_lt (List.mem_of_getElem? hf)
      rw[drop_at hf,chainI_cons]at hr
      have hE:=s_impl_EndOf l (f:Int) hl
      have hN:=s_impl_FindFunction l x.fName hl
      have hjm:j < ((funs l).map fun n:Nat=>intRow n).length:=by rw[hfl];exact hjl
      cases he:endAt l f with
      | none=>
       rw[endOf_at,endI_none he]at hE
       rw[he]at hr
       subst hr
       generalize findF l x.fName=ff at *
       repeat' ((conv=>whnf);first|refine seq_inl ?_|apply reg_inl|apply oi|(apply fi<;>intro h)|refine⟨j,rfl,hjm,?_⟩|refine⟨(nR f),(map_get hf),?_⟩|refine⟨f,x.tr,rfl,map_get hx,?_⟩|refine cl hE ?_|refine cl hN ?_|refine⟨_,rfl,?_⟩|((with_reducible show _=_);rfl))
       all_goals try((with_reducible refine Obl.mk ?_);exact KO)
       all_goals try exact KX
       all_goals try(exfalso;(try simp_all[within]);(try omega);done)
      | some e=>
       obtain⟨_,_,_,_,hke,hel⟩:=endAt_some he
       rw[endOf_at,endI_some he]at hE
       rw[he]at hr
       dsimp only at hr
       have hK:=s_impl_functionOk l f e c1 hs hok he
       have hnf:nameFirst l f=(findN l 0 x.fName==some f):=by unfold nameFirst;rw[hx]
       have hnf2:(findF l x.fName==(f:Int))=nameFirst l f:=by
        rw[hnf,findF]
        cases findN l 0 x.fName with
        | none=>simp[endI]
        | some m=>rw[Bool.eq_iff_iff];simp[endI];omega
       generalize findF l x.fName=ff at *
       by_cases hc:f=next∧nameFirst l f=true∧fnOk l f e=true
       ·rw[if_pos hc]at hr
        obtain⟨d1,d2,d3⟩:=hc
        rw[d2]at hnf2
        have hff:=eq_of_beq hnf2
        subst hff
        rw[d3]at hK
        repeat' ((conv=>whnf);first|refine seq_inl ?_|apply reg_inl|apply oi|(apply fi<;>intro h)|refine⟨j,rfl,hjm,?_⟩|refine⟨(nR f),(map_get hf),?_⟩|refine⟨f,x.tr,rfl,map_get hx,?_⟩|refine cl hE ?_|refine cl hN ?_|refine cl hK ?_|refine⟨_,rfl,?_⟩|((with_reducible show _=_);rfl))
        all_goals try((with_reducible refine Obl.mk ?_);exact KO)
        all_goals try exact KX
        all_goals try(exfalso;(try simp_all[within]);(try omega);done)
        all_goals try(exfalso;simp_all;done)
        conv=>whnf
        refine⟨⟨(j+1,e+1),by dsimp only;omega,by dsimp only;omega,hr⟩,?_,by dsimp only;omega⟩
        repeat' ((conv=>whnf);first|refine seq_inl ?_|apply reg_inl|apply oi|(apply fi<;>intro h)|refine⟨_,rfl,?_⟩|((with_reducible show _=_);rfl))
        all_goals try((with_reducible refine Obl.mk ?_);exact KO)
        all_goals try exact⟨K2⟩
       ·rw[if_neg hc]at hr
        subst hr
        have hbad:∀b1 b2:Bool,fnOk l f e=b2→(ff==(f:Int))=b1→f=next→b1=true→b2=true→False:=by
         intro b1 b2 h1 h2 h3 h4 h5
         subst h4;subst h5
         exact hc ⟨h3,by rw[←hnf2];exact h2,h1⟩
        cases hfk:fnOk l f e with
        | true=>
         rw[hfk]at hK
         repeat' ((conv=>whnf);first|refine seq_inl ?_|apply reg_inl|apply oi|(apply fi<;>intro h)|refine⟨j,rfl,hjm,?_⟩|refine⟨(nR f),(map_get hf),?_⟩|refine⟨f,x.tr,rfl,map_get hx,?_⟩|refine cl hE ?_|refine cl hN ?_|refine cl hK ?_|refine⟨_,rfl,?_⟩|((with_reducible show _=_);rfl))
         all_goals try((with_reducible refine Obl.mk ?_);exact KO)
         all_goals try exact KX
         all_goals try(exfalso;(try simp_all[within]);(try omega);done)
         all_goals(exfalso;refine hbad true true hfk ?_ ?_ rfl rfl <;> simp_all <;> omega)
        | false=>
         rw[hfk]at hK
         repeat' ((conv=>whnf);first|refine seq_inl ?_|apply reg_inl|apply oi|(apply fi<;>intro h)|refine⟨j,rfl,hjm,?_⟩|refine⟨(nR f),(map_get hf),?_⟩|refine⟨f,x.tr,rfl,map_get hx,?_⟩|refine cl hE ?_|refine cl hN ?_|refine cl hK ?_|refine⟨_,rfl,?_⟩|((with_reducible show _=_);rfl))
         all_goals try((with_reducible refine Obl.mk ?_);exact KO)
         all_goals try exact KX
         all_goals try(exfalso;(try simp_all[within]);(try omega);done)
     ·rw[List.drop_eq_nil_of_le (by omega),chainI]at hr
      repeat' ((conv=>whnf);first|refine Or.inl ?_|apply oi|(apply fi<;>intro h)|refine⟨_,rfl,?_⟩|((with_reducible show _=_);rfl))
      all_goals try((with_reducible refine Obl.mk ?_);exact KO)
      all_goals try exact KX
      conv=>whnf
      refine⟨{k:Nat // k≤l.length},fun q=>⟨[(0,vP l),(6,tI .i64 (next:Int)),(10,.r (.c (.own (10,0,0)))),(94,tI .i64 ((l.map TLine.tr).length:Int)),(95,tI .i64 (q.1:Int))],[((10,0,0),some (.arr true 1 (((List.range q.1).map fun j:Nat=>elseOf l (j:Int)).map intRow)))],[10]⟩,fun q=>l.length - q.1,⟨0,by omega⟩,?_,?_⟩
      ·skip
       repeat' ((conv=>whnf);first|refine Or.inl ?_|apply oi|(apply fi<;>intro h)|refine⟨_,rfl,?_⟩|((with_reducible show _=_);rfl))
       all_goals try((with_reducible refine Obl.mk ?_);exact KO)
      intro⟨k,hk⟩
      dsimp only at hk ⊢
      have hral:(((List.range k).map fun j:Nat=>elseOf l (j:Int)).map intRow).length=k:=by simp
      by_cases hlt:k < l.length
      ·have hS:=s_impl_ElseOf l (k:Int) hl
       repeat' ((conv=>whnf);first|refine seq_inl ?_|apply reg_inl|apply oi|(apply fi<;>intro h)|refine cl hS ?_|refine⟨_,rfl,?_⟩|((with_reducible show _=_);rfl))
       all_goals try((with_reducible refine Obl.mk ?_);exact KO)
       all_goals try exact KX
       all_goals try exact⟨⟨by simp <;> omega,by simp <;> omega⟩⟩
       conv=>whnf
       refine⟨⟨k+1,by omega⟩,?_,by dsimp only;omega⟩
       repeat' ((conv=>whnf);first|refine seq_inl ?_|apply reg_inl|apply oi|(apply fi<;>intro h)|refine⟨_,rfl,?_⟩|((with_reducible show _=_);rfl))
       all_goals try((with_reducible refine Obl.mk ?_);exact KO)
       all_goals try exact⟨K2⟩
       all_goals exact⟨by simp[List.range_succ,intRow]⟩
      ·have hkl:k=l.length:=by omega
       subst hkl
       obtain⟨Q,hQ⟩:∃Q,elsesOk l=Q:=⟨_,rfl⟩
       rw[hQ]at hr
       rw[elsesOk]at hQ
       repeat' ((conv=>whnf);first|refine Or.inl ?_|apply oi|(apply fi<;>intro h)|refine⟨_,rfl,?_⟩|((with_reducible show _=_);rfl))
       all_goals try((with_reducible refine Obl.mk ?_);exact KO)
       all_goals try exact KX
       conv=>whnf
       refine⟨{k:Nat // k≤l.length∧elsesIn l 0 l.length (l.length - k) k=Q},fun q=>⟨[(0,vP l),(6,tI .i64 (next:Int)),(10,.r (.c (.own (10,0,0)))),(105,vP l),(106,tI .i64 ((l.map TLine.tr).length:Int)),(107,tI .i64 (q.1:Int))],[((10,0,0),some (.arr true 1 (((List.range l.length).map fun j:Nat=>elseOf l (j:Int)).map intRow)))],[10]⟩,fun q=>l.length - q.1,⟨0,by omega,by rw[Nat.sub_zero];exact hQ⟩,?_,?_⟩
       ·skip
        repeat' ((conv=>whnf);first|refine Or.inl ?_|apply oi|(apply fi<;>intro h)|refine⟨_,rfl,?_⟩|((with_reducible show _=_);rfl))
        all_goals try((with_reducible refine Obl.mk ?_);exact KO)
       intro⟨k,hk,hq⟩
       dsimp only at hk hq ⊢
       by_cases hlt:k < l.length
       ·obtain⟨x,hx⟩:=get_of_lt hlt
        rw[elsesIn_step hlt hx]at hq
        have hC:=s_slices_ContainsI ((List.range l.length).map fun j:Nat=>elseOf l (j:Int)) (k:Int) (by simp;omega)
        rw[elses_has hlt]at hC
        by_cases h4:x.fKind=4
        ·rw[if_pos h4,Nat.sub_zero]at hq
         cases ha:anyE l k k 0 with
         | false=>
          rw[ha]at hC hq
          rw[Bool.false_and]at hq
          subst hq
          rw[Bool.false_and]at hr
          subst hr
          repeat' ((conv=>whnf);first|refine Or.inl ?_|apply oi|(apply fi<;>intro h)|refine⟨k,x.tr,rfl,map_get hx,?_⟩|refine ci hC (ai rfl (ai rfl trivial)) ?_|refine⟨_,rfl,?_⟩|((with_reducible show _=_);rfl))
          all_goals try((with_reducible refine Obl.mk ?_);exact KO)
          all_goals try exact KX
          all_goals try(exfalso;(try simp_all[within]);(try omega);done)
         | true=>
          rw[ha]at hC hq
          rw[Bool.true_and]at hq
          repeat' ((conv=>whnf);first|refine Or.inl ?_|apply oi|(apply fi<;>intro h)|refine⟨k,x.tr,rfl,map_get hx,?_⟩|refine ci hC (ai rfl (ai rfl trivial)) ?_|refine⟨_,rfl,?_⟩|((with_reducible show _=_);rfl))
          all_goals try((with_reducible refine Obl.mk ?_);exact KO)
          all_goals try exact KX
          all_goals try(exfalso;(try simp_all[within]);(try omega);done)
          conv=>whnf
          refine⟨⟨k+1,by omega,hq⟩,?_,by dsimp only;omega⟩
          repeat' ((conv=>whnf);first|refine Or.inl ?_|apply oi|(apply fi<;>intro h)|refine⟨_,rfl,?_⟩|((with_reducible show _=_);rfl))
          all_goals try((with_reducible refine Obl.mk ?_);exact KO)
          all_goals try exact⟨K2⟩
        ·rw[if_neg h4,Bool.true_and]at hq
         repeat' ((conv=>whnf);first|refine Or.inl ?_|apply oi|(apply fi<;>intro h)|refine⟨k,x.tr,rfl,map_get hx,?_⟩|refine ci hC (ai rfl (ai rfl trivial)) ?_|refine⟨_,rfl,?_⟩|((with_reducible show _=_);rfl))
         all_goals try((with_reducible refine Obl.mk ?_);exact KO)
         all_goals try exact KX
         all_goals try(exfalso;(try simp_all[within]);(try omega);done)
         conv=>whnf
         refine⟨⟨k+1,by omega,hq⟩,?_,by dsimp only;omega⟩
         repeat' ((conv=>whnf);first|refine Or.inl ?_|apply oi|(apply fi<;>intro h)|refine⟨_,rfl,?_⟩|((with_reducible show _=_);rfl))
         all_goals try((with_reducible refine Obl.mk ?_);exact KO)
         all_goals try exact⟨K2⟩
       ·rw[show l.length - k=0 by omega]at hq
        have hq:true=Q:=hq
        subst hq
        rw[Bool.true_and]at hr
        subst hr
        repeat' ((conv=>whnf);first|refine Or.inl ?_|apply oi|(apply fi<;>intro h)|refine⟨_,rfl,?_⟩|((with_reducible show _=_);rfl))
        all_goals try((with_reducible refine Obl.mk ?_);exact KO)
        all_goals try exact KX
        all_goals(refine⟨congrArg Tr.bool ?_⟩;rw[hlen,Bool.eq_iff_iff];simp;omega)
 ·have:programOk l=false:=by
   unfold programOk
   by_cases h60:l.length≤60
   ·rw[decide_eq_false (show ¬(1≤(funs l).length∧(funs l).length≤6) from fun h=>c1 ⟨h60,h⟩)];simp
   ·rw[decide_eq_false h60,Bool.false_and]
  rw[this]
  by_cases h60:l.length≤60
  ·have hw:within (((funs l).map fun n:Nat=>intRow n).length:Int) 1 6=false:=by
    cases hx:within (((funs l).map fun n:Nat=>intRow n).length:Int) 1 6 with
    | false=>rfl
    | true=>have:=within_iff.1 hx;rw[hfl]at this;exact absurd ⟨h60,by omega,by omega⟩ c1
   rw[hw]at hB
   repeat' ((conv=>whnf);first|refine Or.inl ?_|apply oi|(apply fi<;>intro h)|refine ci hF (ai rfl trivial) ?_|refine ci hB (ai rfl (ai rfl (ai rfl trivial))) ?_|refine⟨_,rfl,?_⟩|((with_reducible show _=_);rfl))
   all_goals try((with_reducible refine Obl.mk ?_);exact KO)
   all_goals try exact KX
   all_goals try(exfalso;(try simp_all[within]);(try omega);done)
  ·skip
   repeat' ((conv=>whnf);first|refine Or.inl ?_|apply oi|(apply fi<;>intro h)|refine ci hF (ai rfl trivial) ?_|refine ci hB (ai rfl (ai rfl (ai rfl trivial))) ?_|refine⟨_,rfl,?_⟩|((with_reducible show _=_);rfl))
   all_goals try((with_reducible refine Obl.mk ?_);exact KO)
   all_goals try exact KX
   all_goals try(exfalso;(try simp_all[within]);(try omega);done)
end Go.Proofs.YtjmplnfiabmalaaGreat
namespace Go.Proofs.YtjmplnfiabmalaaGreat
open Go.Sim
set_option maxRecDepth 100000
set_option maxHeartbeats 4000000
theorem if_and_pos {p q:Prop}[Decidable p][Decidable q]{α:Type}{a b:α}{r:α}(hp:p):((if p∧q then a else b)=r)=((if q then a else b)=r):=by
 by_cases hq:q
 ·rw[if_pos ⟨hp,hq⟩,if_pos hq]
 ·rw[if_neg (fun h=>hq h.2),if_neg hq]
theorem else_eq {l:List TLine}{j i:Nat}:(elseOf l (j:Int)==(i:Int))=(elseAt l j==some i):=by
 rw[elseOf,if_pos (by omega),Int.toNat_natCast]
 cases elseAt l j with
 | none=>simp[endI]
 | some m=>rw[Bool.eq_iff_iff];simp[endI];omega
theorem s_spec_l04Body (l:List TLine)(k e:Nat)(hl:l.length≤60)(hs:∀x∈l,smallR 1048576 x.tr)(he:endAt l k=some e):Sim.Spec Tryz.prog 121 [tvP l,tvI k,tvI e] (rB (fnOkS l k e)):=by
 refine spec_of_Wo hΓ hmix Tryz.func121 rfl (by decide) rfl ?_
 have hlen:(l.map TLine.tr).length=l.length:=by simp
 have hL:=s_spec_LocalsOf l k (by omega) hs
 obtain⟨hloc1,hloc2⟩:=locals_le (l:=l) (k:=(k:Int)) (by omega) hs
 have hst0:=(endAt_some he)
 obtain⟨x0,hx0,ho0,he0,hke,hel⟩:=hst0
 unfold fnOkS
 generalize localsOf l (k:Int)=loc at *
 have hll:(loc.map strRow).length=loc.length:=by simp
 by_cases h8:loc.length≤8
 ·rw[decide_eq_true h8,Bool.true_and]
  obtain⟨R,hR⟩:∃R,bodyS l loc k e (e - (k+1)) (k+1) 0=R:=⟨_,rfl⟩
  rw[hR]
  repeat' ((conv=>whnf);first|(with_reducible first|apply Wx|apply W6)|apply oi|(apply fi<;>intro h)|refine cl hL ?_|refine⟨_,rfl,?_⟩|((with_reducible show _=_);rfl))
  all_goals try((with_reducible refine Obl.mk ?_);exact KP)
  all_goals try exact KX
  conv=>whnf
  refine⟨{q:Nat×List Nat // k < q.1∧q.1≤e∧StkOk l e q.1 q.2∧q.2.length≤4∧bodyS l loc k e (e - q.1) q.1 q.2.length=R},fun q=>⟨[(0,vP l),(1,tI .i64 (k:Int)),(2,tI .i64 (e:Int)),(7,.r (.c (.own (7,0,0)))),(8,tI .i64 ((q.1.2.length:Nat):Int)),(9,tI .i64 (q.1.1:Int))],[((7,0,0),some (.arr true 1 (loc.map strRow)))],[7]⟩,fun q=>e - q.1.1,⟨(k+1,[]),by dsimp only;omega,by dsimp only;omega,he0,by simp,hR⟩,?_,?_⟩
  ·skip
   repeat' ((conv=>whnf);first|(with_reducible first|apply Wx|apply W6)|apply oi|(apply fi<;>intro h)|refine⟨_,rfl,?_⟩|((with_reducible show _=_);rfl))
   all_goals try((with_reducible refine Obl.mk ?_);exact KP)
   all_goals try exact⟨K2⟩
  intro⟨⟨i,es⟩,q1,q2,g1,g2,g4⟩
  dsimp only at q1 q2 g1 g2 g4 ⊢
  by_cases hlt:i < e
  ·obtain⟨y,hy⟩:=get_of_lt (l:=l) (k:=i) (by omega)
   have hel3:(y.fExpr.map TTok.tr).length=y.fExpr.length:=by simp
   have hysm:=(line_small (hs y (List.mem_of_getElem? hy))).2.2.2.1
   obtain⟨K,hK⟩:∃K,exprKnown l loc y.fExpr=K:=⟨_,rfl⟩
   rw[bodyS_step hlt hy,hK]at g4
   by_cases h0:y.fKind=0
   ·rw[if_pos h0]at g4
    subst g4
    repeat' ((conv=>whnf);first|(with_reducible first|apply Wx|apply W6)|apply oi|(apply fi<;>intro h)|refine⟨i,y.tr,rfl,map_get hy,?_⟩|refine⟨_,rfl,?_⟩|((with_reducible show _=_);rfl))
    all_goals try((with_reducible refine Obl.mk ?_);exact KP)
    all_goals try exact KX
    all_goals try(exfalso;simp_all;done)
   ·rw[if_neg h0]at g4
    repeat' ((conv=>whnf);first|(with_reducible apply W1;fail_if_success (with_reducible show Wo _ _ _ _ (Code.seq (Code.region 8 _ _) _) _ _))|(with_reducible first|apply W2|apply W3|apply W4|apply W5|apply W6|apply W7|apply W8|apply W9)|apply reg_inl|apply oi|(apply fi<;>intro h)|refine⟨i,y.tr,rfl,map_get hy,?_⟩|refine⟨_,rfl,?_⟩|((with_reducible show _=_);rfl))
    all_goals try((with_reducible refine Obl.mk ?_);exact KP)
    all_goals try exact KX
    refine join_rule {q:Nat×List Nat // StkOk l e (i+1) q.2∧q.1=q.2.length∧q.1≤60∧(if q.1≤4∧K=true then bodyS l loc k e (e - (i+1)) (i+1) q.1 else false)=R} (fun q=>⟨[(0,vP l),(1,tI .i64 (k:Int)),(2,tI .i64 (e:Int)),(7,.r (.c (.own (7,0,0)))),(8,tI .i64 ((q.1.1:Nat):Int)),(9,tI .i64 (i:Int))],[((7,0,0),some (.arr true 1 (loc.map strRow)))],[7]⟩) ?_ ?_
    ·by_cases h35:y.fKind=3∨y.fKind=5
     ·rw[if_neg (fun h=>by omega)]at g4
      have hd:dep y es.length=es.length+1:=by unfold dep;rw[if_pos h35]
      rw[hd]at g4
      obtain⟨m',hm',him,hst'⟩:=g1.push hy (opensK_iff.2 (by omega))
      have hwd:IntKind.i64.wrap ((es.length:Int)+1)=((es.length+1:Nat):Int):=by rw[IntWalk.i64_in _ (by omega)];omega
      repeat' ((conv=>whnf);first|(with_reducible first|apply Wx|apply W6)|apply oi|(apply fi<;>intro h)|refine⟨i,y.tr,rfl,map_get hy,?_⟩|refine⟨_,rfl,?_⟩|((with_reducible show _=_);rfl))
      all_goals try((with_reducible refine Obl.mk ?_);exact KP)
      all_goals try exact KX
      all_goals try(exfalso;simp_all;done)
      all_goals
       conv=>whnf
       refine⟨⟨(es.length+1,m'::es),hst',rfl,by dsimp only;omega,g4⟩,?_⟩
       repeat' ((conv=>whnf);first|(with_reducible first|apply Wx|apply W6)|apply oi|(apply fi<;>intro h)|refine⟨_,rfl,?_⟩|((with_reducible show _=_);rfl))
       all_goals try((with_reducible refine Obl.mk ?_);exact KP)
       all_goals try exact⟨by dsimp only;rw[hwd]⟩
     ·by_cases h7':y.fKind=7
      ·rw[if_neg (fun h=>by omega)]at g4
       rcases g1.pop hy h7' with⟨_,h'⟩|⟨es',hes,hst'⟩
       ·omega
       have hd:dep y es.length=es'.length:=by unfold dep;rw[if_neg h35,if_pos h7',hes];simp
       have hl4:es.length=es'.length+1:=by rw[hes];rfl
       rw[hd]at g4
       have hwd:IntKind.i64.wrap ((es.length:Int) - 1)=(es'.length:Int):=by rw[IntWalk.i64_in _ (by omega)];omega
       repeat' ((conv=>whnf);first|(with_reducible first|apply Wx|apply W6)|apply oi|(apply fi<;>intro h)|refine⟨i,y.tr,rfl,map_get hy,?_⟩|refine⟨_,rfl,?_⟩|((with_reducible show _=_);rfl))
       all_goals try((with_reducible refine Obl.mk ?_);exact KP)
       all_goals try exact KX
       all_goals try(exfalso;simp_all;done)
       conv=>whnf
       refine⟨⟨(es'.length,es'),hst',rfl,by dsimp only;omega,g4⟩,?_⟩
       repeat' ((conv=>whnf);first|(with_reducible first|apply Wx|apply W6)|apply oi|(apply fi<;>intro h)|refine⟨_,rfl,?_⟩|((with_reducible show _=_);rfl))
       all_goals try((with_reducible refine Obl.mk ?_);exact KP)
       all_goals try exact⟨by dsimp only;rw[hwd]⟩
      ·have hd:dep y es.length=es.length:=by unfold dep;rw[if_neg h35,if_neg h7']
       have ho:opensK y.fKind=false:=by
        cases hh:opensK y.fKind with
        | false=>rfl
        | true=>rw[opensK_iff]at hh;omega
       have hst':=g1.other hy ho h7'
       rw[hd]at g4
       by_cases h4:y.fKind=4
       ·obtain⟨Av,hA⟩:∃Av,anyE l i (i - k) k=Av:=⟨_,rfl⟩
        rw[hA]at g4
        repeat' ((conv=>whnf);first|(with_reducible first|apply Wx|apply W6)|apply oi|(apply fi<;>intro h)|refine⟨i,y.tr,rfl,map_get hy,?_⟩|refine⟨_,rfl,?_⟩|((with_reducible show _=_);rfl))
        all_goals try((with_reducible refine Obl.mk ?_);exact KP)
        all_goals try exact KX
        all_goals try(exfalso;simp_all;done)
        conv=>whnf
        refine⟨{q:Nat×Bool // q.1≤i∧(q.2 || anyE l i (i - q.1) q.1)=Av},fun q=>⟨[(0,vP l),(1,tI .i64 (k:Int)),(2,tI .i64 (e:Int)),(7,.r (.c (.own (7,0,0)))),(8,tI .i64 ((es.length:Nat):Int)),(9,tI .i64 (i:Int)),(10,tB q.1.2),(11,tI .i64 (q.1.1:Int))],[((7,0,0),some (.arr true 1 (loc.map strRow)))],[7]⟩,fun q=>i - q.1.1,⟨(k,false),by dsimp only;omega,by simpa using hA⟩,?_,?_⟩
        ·skip
         repeat' ((conv=>whnf);first|(with_reducible first|apply Wx|apply W6)|apply oi|(apply fi<;>intro h)|refine⟨_,rfl,?_⟩|((with_reducible show _=_);rfl))
         all_goals try((with_reducible refine Obl.mk ?_);exact KP)
        intro⟨⟨j,b⟩,hj,hb⟩
        dsimp only at hj hb ⊢
        by_cases hji:j < i
        ·obtain⟨n,hn⟩:∃n,i - j=n+1:=⟨i - j - 1,by omega⟩
         have hn2:i - (j+1)=n:=by omega
         rw[hn,anyE,←else_eq]at hb
         have hS:=s_spec_ElseOf l (j:Int) (by omega)
         generalize elseOf l (j:Int)=ee at *
         cases b with
         | true=>
          repeat' ((conv=>whnf);first|(with_reducible first|apply Wx|apply W6)|apply oi|(apply fi<;>intro h)|refine cl hS ?_|refine⟨_,rfl,?_⟩|((with_reducible show _=_);rfl))
          all_goals try((with_reducible refine Obl.mk ?_);exact KP)
          all_goals try exact KX
          conv=>whnf
          refine⟨⟨(j+1,true),by dsimp only;omega,by simpa using hb⟩,?_,by dsimp only;omega⟩
          repeat' ((conv=>whnf);first|(with_reducible first|apply Wx|apply W6)|apply oi|(apply fi<;>intro h)|refine⟨_,rfl,?_⟩|((with_reducible show _=_);rfl))
          all_goals try((with_reducible refine Obl.mk ?_);exact KP)
          all_goals try exact⟨K2⟩
         | false=>
          repeat' ((conv=>whnf);first|(with_reducible first|apply Wx|apply W6)|apply oi|(apply fi<;>intro h)|refine cl hS ?_|refine⟨_,rfl,?_⟩|((with_reducible show _=_);rfl))
          all_goals try((with_reducible refine Obl.mk ?_);exact KP)
          all_goals try exact KX
          conv=>whnf
          refine⟨⟨(j+1,(ee==(i:Int))),by dsimp only;omega,by dsimp only;rw[hn2];simpa using hb⟩,?_,by dsimp only;omega⟩
          repeat' ((conv=>whnf);first|(with_reducible first|apply Wx|apply W6)|apply oi|(apply fi<;>intro h)|refine⟨_,rfl,?_⟩|((with_reducible show _=_);rfl))
          all_goals try((with_reducible refine Obl.mk ?_);exact KP)
          all_goals try exact⟨K2⟩
        ·rw[show i - j=0 by omega,anyE,Bool.or_false]at hb
         subst hb
         cases b with
         | false=>
          rw[if_pos ⟨h4,rfl⟩]at g4
          subst g4
          repeat' ((conv=>whnf);first|(with_reducible first|apply Wx|apply W6)|apply oi|(apply fi<;>intro h)|refine⟨_,rfl,?_⟩|((with_reducible show _=_);rfl))
          all_goals try((with_reducible refine Obl.mk ?_);exact KP)
          all_goals try exact KX
         | true=>
          rw[if_neg (by simp)]at g4
          repeat' ((conv=>whnf);first|(with_reducible first|apply Wx|apply W6)|apply oi|(apply fi<;>intro h)|refine⟨_,rfl,?_⟩|((with_reducible show _=_);rfl))
          all_goals try((with_reducible refine Obl.mk ?_);exact KP)
          all_goals try exact KX
          conv=>whnf
          refine⟨⟨(es.length,es),hst',rfl,by dsimp only;omega,g4⟩,?_⟩
          repeat' ((conv=>whnf);first|(with_reducible first|apply Wx|apply W6)|apply oi|(apply fi<;>intro h)|refine⟨_,rfl,?_⟩|((with_reducible show _=_);rfl))
          all_goals try((with_reducible refine Obl.mk ?_);exact KP)
       ·rw[if_neg (fun h=>h4 h.1)]at g4
        repeat' ((conv=>whnf);first|(with_reducible first|apply Wx|apply W6)|apply oi|(apply fi<;>intro h)|refine⟨i,y.tr,rfl,map_get hy,?_⟩|refine⟨_,rfl,?_⟩|((with_reducible show _=_);rfl))
        all_goals try((with_reducible refine Obl.mk ?_);exact KP)
        all_goals try exact KX
        all_goals try(exfalso;simp_all;done)
        conv=>whnf
        refine⟨⟨(es.length,es),hst',rfl,by dsimp only;omega,g4⟩,?_⟩
        repeat' ((conv=>whnf);first|(with_reducible first|apply Wx|apply W6)|apply oi|(apply fi<;>intro h)|refine⟨_,rfl,?_⟩|((with_reducible show _=_);rfl))
        all_goals try((with_reducible refine Obl.mk ?_);exact KP)
    clear g4 g1
    intro⟨⟨d,es'⟩,hst',hdl,hd60,g4⟩
    dsimp only at hst' hdl hd60 g4 ⊢
    have hwd:(d:Int)=(d:Int):=rfl
    by_cases hd4:(d)≤4
    ·rw[if_and_pos hd4]at g4
     repeat' ((conv=>whnf);first|(with_reducible first|apply Wx|apply W6)|apply oi|(apply fi<;>intro h)|refine⟨i,y.tr,rfl,map_get hy,?_⟩|refine⟨_,rfl,?_⟩|((with_reducible show _=_);rfl))
     all_goals try((with_reducible refine Obl.mk ?_);exact KP)
     all_goals try exact KX
     all_goals try(exfalso;simp only[decide_eq_false_iff_not,decide_eq_true_eq]at h;omega)
     conv=>whnf
     refine⟨{j:Nat // j≤y.fExpr.length∧(y.fExpr.drop j).all (tokKnown l loc)=K},fun q=>⟨[(0,vP l),(1,tI .i64 (k:Int)),(2,tI .i64 (e:Int)),(7,.r (.c (.own (7,0,0)))),(8,tI .i64 (d:Int)),(9,tI .i64 (i:Int)),(12,tI .i64 (q.1:Int))],[((7,0,0),some (.arr true 1 (loc.map strRow)))],[7]⟩,fun q=>y.fExpr.length - q.1,⟨0,by omega,hK⟩,?_,?_⟩
     ·skip
      repeat' ((conv=>whnf);first|(with_reducible first|apply Wx|apply W6)|apply oi|(apply fi<;>intro h)|refine⟨_,rfl,?_⟩|((with_reducible show _=_);rfl))
      all_goals try((with_reducible refine Obl.mk ?_);exact KP)
     intro⟨j,hj,hk2⟩
     dsimp only at hj hk2 ⊢
     by_cases hjl:j < y.fExpr.length
     ·obtain⟨t,ht⟩:=get_of_lt hjl
      rw[all_at ht]at hk2
      have hI:=s_spec_l04Index loc t.fName (by omega)
      have hF:=s_spec_FindFunction l t.fName (by omega)
      by_cases h1:t.fKind=1
      ·have e1:tokKnown l loc t=loc.contains t.fName:=by unfold tokKnown;rw[if_pos h1]
       rw[e1]at hk2
       have hix:=idxOf_has (l:=loc) (s:=t.fName)
       generalize idxOf loc t.fName=ix at *
       generalize findF l t.fName=ff at *
       cases hc:loc.contains t.fName with
       | false=>
        rw[hc]at hix hk2
        rw[Bool.false_and]at hk2
        subst hk2
        rw[if_neg (by simp)]at g4
        subst g4
        repeat' ((conv=>whnf);first|(with_reducible first|apply Wx|apply W6)|apply oi|(apply fi<;>intro h)|refine⟨i,y.tr,rfl,map_get hy,?_⟩|refine⟨j,t.tr,rfl,map_get ht,?_⟩|refine cl hI ?_|refine cl hF ?_|refine⟨_,rfl,?_⟩|((with_reducible show _=_);rfl))
        all_goals try((with_reducible refine Obl.mk ?_);exact KP)
        all_goals try exact KX
        all_goals try(exfalso;(try simp_all[within]);(try omega);done)
       | true=>
        rw[hc]at hix hk2
        rw[Bool.true_and]at hk2
        repeat' ((conv=>whnf);first|(with_reducible first|apply Wx|apply W6)|apply oi|(apply fi<;>intro h)|refine⟨i,y.tr,rfl,map_get hy,?_⟩|refine⟨j,t.tr,rfl,map_get ht,?_⟩|refine cl hI ?_|refine cl hF ?_|refine⟨_,rfl,?_⟩|((with_reducible show _=_);rfl))
        all_goals try((with_reducible refine Obl.mk ?_);exact KP)
        all_goals try exact KX
        all_goals try(exfalso;(try simp_all[within]);(try omega);done)
        all_goals try(exfalso;simp_all;done)
        conv=>whnf
        refine⟨⟨j+1,by omega,hk2⟩,?_,by dsimp only;omega⟩
        repeat' ((conv=>whnf);first|(with_reducible first|apply Wx|apply W6)|apply oi|(apply fi<;>intro h)|refine⟨_,rfl,?_⟩|((with_reducible show _=_);rfl))
        all_goals try((with_reducible refine Obl.mk ?_);exact KP)
        all_goals try exact⟨K2⟩
      ·by_cases h7:t.fKind=7
       ·cases hf:findN l 0 t.fName with
        | none=>
         have e1:tokKnown l loc t=false:=by unfold tokKnown;rw[if_neg h1,if_pos h7,hf]
         rw[e1,Bool.false_and]at hk2
         subst hk2
         rw[if_neg (by simp)]at g4
         subst g4
         rw[show findF l t.fName= -1 from endI_none hf]at hF
         repeat' ((conv=>whnf);first|(with_reducible first|apply Wx|apply W6)|apply oi|(apply fi<;>intro h)|refine⟨i,y.tr,rfl,map_get hy,?_⟩|refine⟨j,t.tr,rfl,map_get ht,?_⟩|refine cl hI ?_|refine cl hF ?_|refine⟨_,rfl,?_⟩|((with_reducible show _=_);rfl))
         all_goals try((with_reducible refine Obl.mk ?_);exact KP)
         all_goals try exact KX
         all_goals try(exfalso;(try simp_all[within]);(try omega);done)
        | some f=>
         obtain⟨hfl,x,hx,hx0,_⟩:=find_some hf
         have e1:tokKnown l loc t=((x.fArgs.length:Int)==t.fNum):=by unfold tokKnown;rw[if_neg h1,if_pos h7,hf];dsimp only;rw[hx]
         rw[e1]at hk2
         rw[show findF l t.fName=(f:Int) from endI_some hf]at hF
         have hxl:(x.fArgs.map strRow).length=x.fArgs.length:=by simp
         by_cases hn:(x.fArgs.length:Int)=t.fNum
         ·rw[beq_iff_eq.2 hn,Bool.true_and]at hk2
          repeat' ((conv=>whnf);first|(with_reducible first|apply Wx|apply W6)|apply oi|(apply fi<;>intro h)|refine⟨i,y.tr,rfl,map_get hy,?_⟩|refine⟨j,t.tr,rfl,map_get ht,?_⟩|refine⟨f,x.tr,rfl,map_get hx,?_⟩|refine cl hI ?_|refine cl hF ?_|refine⟨_,rfl,?_⟩|((with_reducible show _=_);rfl))
          all_goals try((with_reducible refine Obl.mk ?_);exact KP)
          all_goals try exact KX
          all_goals try(exfalso;(try simp_all[within]);(try omega);done)
          all_goals try(exfalso;simp_all;done)
          conv=>whnf
          refine⟨⟨j+1,by omega,hk2⟩,?_,by dsimp only;omega⟩
          repeat' ((conv=>whnf);first|(with_reducible first|apply Wx|apply W6)|apply oi|(apply fi<;>intro h)|refine⟨_,rfl,?_⟩|((with_reducible show _=_);rfl))
          all_goals try((with_reducible refine Obl.mk ?_);exact KP)
          all_goals try exact⟨K2⟩
         ·rw[beq_eq_false_iff_ne.2 hn,Bool.false_and]at hk2
          subst hk2
          rw[if_neg (by simp)]at g4
          subst g4
          repeat' ((conv=>whnf);first|(with_reducible first|apply Wx|apply W6)|apply oi|(apply fi<;>intro h)|refine⟨i,y.tr,rfl,map_get hy,?_⟩|refine⟨j,t.tr,rfl,map_get ht,?_⟩|refine⟨f,x.tr,rfl,map_get hx,?_⟩|refine cl hI ?_|refine cl hF ?_|refine⟨_,rfl,?_⟩|((with_reducible show _=_);rfl))
          all_goals try((with_reducible refine Obl.mk ?_);exact KP)
          all_goals try exact KX
          all_goals try(exfalso;(try simp_all[within]);(try omega);done)
          all_goals try(exfalso;simp_all;done)
       ·have e1:tokKnown l loc t=true:=by unfold tokKnown;rw[if_neg h1,if_neg h7]
        rw[e1,Bool.true_and]at hk2
        repeat' ((conv=>whnf);first|(with_reducible first|apply Wx|apply W6)|apply oi|(apply fi<;>intro h)|refine⟨i,y.tr,rfl,map_get hy,?_⟩|refine⟨j,t.tr,rfl,map_get ht,?_⟩|refine cl hI ?_|refine cl hF ?_|refine⟨_,rfl,?_⟩|((with_reducible show _=_);rfl))
        all_goals try((with_reducible refine Obl.mk ?_);exact KP)
        all_goals try exact KX
        all_goals try(exfalso;(try simp_all[within]);(try omega);done)
        all_goals try(exfalso;simp_all;done)
        conv=>whnf
        refine⟨⟨j+1,by omega,hk2⟩,?_,by dsimp only;omega⟩
        repeat' ((conv=>whnf);first|(with_reducible first|apply Wx|apply W6)|apply oi|(apply fi<;>intro h)|refine⟨_,rfl,?_⟩|((with_reducible show _=_);rfl))
        all_goals try((with_reducible refine Obl.mk ?_);exact KP)
        all_goals try exact⟨K2⟩
     ·rw[List.drop_eq_nil_of_le (by omega),List.all_nil]at hk2
      subst hk2
      rw[if_pos rfl]at g4
      repeat' ((conv=>whnf);first|(with_reducible first|apply Wx|apply W6)|apply oi|(apply fi<;>intro h)|refine⟨i,y.tr,rfl,map_get hy,?_⟩|refine⟨_,rfl,?_⟩|((with_reducible show _=_);rfl))
      all_goals try((with_reducible refine Obl.mk ?_);exact KP)
      all_goals try(exfalso;have h':=of_decide_eq_true h;rw[hel3]at h';omega)
      conv=>whnf
      refine⟨⟨(i+1,es'),by dsimp only;omega,by dsimp only;omega,hst',by dsimp only;omega,by dsimp only;rw[←hdl];exact g4⟩,?_,by dsimp only;omega⟩
      repeat' ((conv=>whnf);first|(with_reducible first|apply Wx|apply W6)|apply oi|(apply fi<;>intro h)|refine⟨_,rfl,?_⟩|((with_reducible show _=_);rfl))
      all_goals try((with_reducible refine Obl.mk ?_);exact KP)
      all_goals try exact⟨by dsimp only;rw[hdl]⟩
      all_goals try exact⟨K2⟩
    ·rw[if_neg (fun h=>hd4 h.1)]at g4
     subst g4
     repeat' ((conv=>whnf);first|(with_reducible first|apply Wx|apply W6)|apply oi|(apply fi<;>intro h)|refine⟨i,y.tr,rfl,map_get hy,?_⟩|refine⟨_,rfl,?_⟩|((with_reducible show _=_);rfl))
     all_goals try((with_reducible refine Obl.mk ?_);exact KP)
     all_goals try exact KX
     all_goals try(exfalso;simp only[decide_eq_false_iff_not,decide_eq_true_eq]at h;omega)
  ·rw[bodyS_end (by omega)]at g4
   subst g4
   repeat' ((conv=>whnf);first|(with_reducible first|apply Wx|apply W6)|apply oi|(apply fi<;>intro h)|refine⟨_,rfl,?_⟩|((with_reducible show _=_);rfl))
   all_goals try((with_reducible refine Obl.mk ?_);exact KP)
   all_goals try exact KX
 ·rw[decide_eq_false h8,Bool.false_and]
  repeat' ((conv=>whnf);first|(with_reducible first|apply Wx|apply W6)|apply oi|(apply fi<;>intro h)|refine cl hL ?_|refine⟨_,rfl,?_⟩|((with_reducible show _=_);rfl))
  all_goals try((with_reducible refine Obl.mk ?_);exact KP)
  all_goals try exact KX
theorem funs_all {l:List TLine}:(funs l).all (nameFirst l)=true↔∀k x,l[k]?=some x→x.fKind=0→nameFirst l k=true:=by
 rw[List.all_eq_true]
 constructor
 ·intro H k x hx h0
  refine H k ?_
  have key:∀(n i:Nat),l.length - i≤n→i≤k→k∈funsF (l.drop i) i:=by
   have hkl:k < l.length:=by
    rcases Nat.lt_or_ge k l.length with h|h
    ·exact h
    ·rw[List.getElem?_eq_none h]at hx;cases hx
   intro n
   induction n with
   | zero=>intro i h1 h2;omega
   | succ n ih=>
    intro i h1 h2
    obtain⟨y,hy⟩:=get_of_lt (l:=l) (k:=i) (by omega)
    rw[funsF_at hy,List.mem_append]
    by_cases hik:i=k
    ·subst hik
     rw[hx]at hy
     injection hy with hy
     subst hy
     rw[if_pos h0]
     exact .inl (by simp)
    ·exact .inr (ih (i+1) (by omega) (by omega))
  have:=key l.length 0 (by omega) (by omega)
  rwa [List.drop_zero]at this
 ·intro H k hk
  obtain⟨_,x,hx,h0⟩:=funs_lt hk
  exact H k x hx h0
def ok1 (l:List TLine)(k:Nat)(x:TLine):Bool:=lineOk x && (if x.fKind=0 then nameFirst l k else true)
def okN (l:List TLine):Nat→Nat→Bool
 | 0,_=>true
 | n+1,k=>match l[k]? with
  | some x=>ok1 l k x && okN l n (k+1)
  | none=>true
theorem okN_step {l:List TLine}{k:Nat}{x:TLine}(hx:l[k]?=some x):okN l (l.length - k) k=(ok1 l k x && okN l (l.length - (k+1)) (k+1)):=by
 have hk:k < l.length:=by
  rcases Nat.lt_or_ge k l.length with h|h
  ·exact h
  ·rw[List.getElem?_eq_none h]at hx;cases hx
 rw[show l.length - k=(l.length - (k+1))+1 by omega,okN,hx]
theorem okN_iff {l:List TLine}:∀(n k:Nat),l.length - k≤n→(okN l (l.length - k) k=true↔∀j x,k≤j→l[j]?=some x→ok1 l j x=true)
 | n,k,hn=>by
  by_cases hk:k < l.length
  ·obtain⟨x,hx⟩:=get_of_lt hk
   cases n with
   | zero=>omega
   | succ n=>
    rw[okN_step hx,Bool.and_eq_true,okN_iff n (k+1) (by omega)]
    constructor
    ·rintro⟨h1,h2⟩ j y hj hy
     by_cases hjk:j=k
     ·subst hjk
      rw[hx]at hy
      injection hy with hy
      subst hy
      exact h1
     ·exact h2 j y (by omega) hy
    ·intro H
     exact⟨H k x (Nat.le_refl _) hx,fun j y hj hy=>H j y (by omega) hy⟩
  ·rw[show l.length - k=0 by omega]
   refine⟨fun _ j x hj hx=>?_,fun _=>rfl⟩
   rw[List.getElem?_eq_none (by omega)]at hx
   cases hx
theorem okN_all (l:List TLine):okN l l.length 0=(l.all lineOk && (funs l).all (nameFirst l)):=by
 have h0:=okN_iff (l:=l) l.length 0 (by omega)
 rw[Nat.sub_zero]at h0
 rw[Bool.eq_iff_iff,h0,Bool.and_eq_true,funs_all,List.all_eq_true]
 constructor
 ·intro H
  refine⟨fun x hx=>?_,fun k x hx h0=>?_⟩
  ·obtain⟨k,hk⟩:=List.getElem?_of_mem hx
   have:=H k x (by omega) hk
   rw[ok1,Bool.and_eq_true]at this
   exact this.1
  ·have:=H k x (by omega) hx
   rw[ok1,Bool.and_eq_true,if_pos h0]at this
   exact this.2
 ·rintro⟨H1,H2⟩ j x _ hx
  rw[ok1,Bool.and_eq_true]
  refine⟨H1 x (List.mem_of_getElem? hx),?_⟩
  split
  ·exact H2 j x hx (by assumption)
  ·rfl
theorem programOk_S {l:List TLine}:programOk l=(decide (l.length≤60) && (decide ((funs l).length≤6) && (headOk l && (okN l l.length 0 && chainN (fnOkS l) l l.length 0)))):=by
 unfold programOk
 rw[okN_all,chainS_all]
 cases hh:headOk l with
 | false=>simp
 | true=>
  have h1:1≤(funs l).length:=by
   cases l with
   | nil=>cases hh
   | cons x r=>
    have:x.fKind=0:=by
     unfold headOk at hh
     simp only[Bool.and_eq_true,beq_iff_eq]at hh
     exact hh.1
    rw[funs,funsF,if_pos this]
    simp
  have e:(decide (1≤(funs l).length∧(funs l).length≤6))=decide ((funs l).length≤6):=by
   rw[decide_eq_decide]
   omega
  rw[e]
  generalize decide (l.length≤60)=b1
  generalize decide ((funs l).length≤6)=b2
  generalize l.all lineOk=b3
  generalize(funs l).all (nameFirst l)=b4
  generalize elsesOk l=b5
  generalize chainN (fnOk l) l l.length 0=b6
  cases b1 <;> cases b2 <;> cases b3 <;> cases b4 <;> cases b5 <;> cases b6 <;> rfl
theorem s_spec_ProgramOk (l:List TLine)(hsm:smallT 1048576 (.lst 4 (l.map TLine.tr))):Sim.Spec Tryz.prog 37 [tvP l] (rB (programOk l)):=by
 refine spec_of_Wo hΓ hmix Tryz.func37 rfl (by decide) rfl ?_
 have hl:=small_nat hsm
 have hs:∀x∈l,smallR 1048576 x.tr:=fun x hx=>smallRs_map hsm hx
 have hlen:(l.map TLine.tr).length=l.length:=by simp
 have hF:=s_spec_FunctionLines l hl
 have hfl:((funs l).map fun n:Nat=>intRow n).length=(funs l).length:=by simp
 rw[programOk_S]
 by_cases c1:l.length≤60
 ·rw[decide_eq_true c1,Bool.true_and]
  by_cases hpos:0 < l.length
  ·obtain⟨x0,hx0⟩:=get_of_lt hpos
   have hal:(x0.fArgs.map strRow).length=x0.fArgs.length:=by simp
   have hhd:=headOk_at hx0
   by_cases c2:(funs l).length≤6
   ·rw[decide_eq_true c2,Bool.true_and]
    cases hh:headOk l with
    | false=>
     rw[hh]at hhd
     rw[Bool.false_and]
     repeat' ((conv=>whnf);first|(with_reducible first|apply Wx|apply W6)|apply oi|(apply fi<;>intro h)|refine cl hF ?_|refine⟨0,x0.tr,rfl,map_get hx0,?_⟩|refine⟨_,rfl,?_⟩|((with_reducible show _=_);rfl))
     all_goals try((with_reducible refine Obl.mk ?_);exact KP)
     all_goals try exact KX
     all_goals try(exfalso;simp_all[mainName];done)
    | true=>
     rw[hh]at hhd
     rw[Bool.true_and]
     cases hok:okN l l.length 0 with
     | false=>
      rw[Bool.false_and]
      repeat' ((conv=>whnf);first|(with_reducible first|apply Wx|apply W6)|apply oi|(apply fi<;>intro h)|refine cl hF ?_|refine⟨0,x0.tr,rfl,map_get hx0,?_⟩|refine⟨_,rfl,?_⟩|((with_reducible show _=_);rfl))
      all_goals try((with_reducible refine Obl.mk ?_);exact KP)
      all_goals try exact KX
      all_goals try(exfalso;simp_all[mainName];done)
      conv=>whnf
      refine⟨{k:Nat // k≤l.length∧okN l (l.length - k) k=false},fun q=>⟨[(0,vP l),(3,tI .i64 (q.1:Int))],[],[]⟩,fun q=>l.length - q.1,⟨0,by omega,by rw[Nat.sub_zero];exact hok⟩,?_,?_⟩
      ·skip
       repeat' ((conv=>whnf);first|(with_reducible first|apply Wx|apply W6)|apply oi|(apply fi<;>intro h)|refine⟨_,rfl,?_⟩|((with_reducible show _=_);rfl))
       all_goals try((with_reducible refine Obl.mk ?_);exact KP)
      intro⟨k,hk,hr⟩
      dsimp only at hk hr ⊢
      by_cases hlt:k < l.length
      ·obtain⟨x,hx⟩:=get_of_lt hlt
       rw[okN_step hx,ok1]at hr
       have hL:=s_spec_LineOk x (hs x (List.mem_of_getElem? hx))
       have hN:=s_spec_FindFunction l x.fName hl
       have hnf2:(findF l x.fName==(k:Int))=nameFirst l k:=by
        unfold nameFirst
        rw[hx,findF]
        dsimp only
        cases findN l 0 x.fName with
        | none=>simp[endI]
        | some m=>rw[Bool.eq_iff_iff];simp[endI];omega
       generalize findF l x.fName=ff at *
       generalize lineOk x=lo at *
       generalize nameFirst l k=nf at *
       by_cases h0:x.fKind=0
       ·rw[if_pos h0]at hr
        repeat' ((conv=>whnf);first|(with_reducible first|apply Wx|apply W6)|apply oi|(apply fi<;>intro h)|refine cl hL ?_|refine cl hN ?_|refine⟨k,x.tr,rfl,map_get hx,?_⟩|refine⟨_,rfl,?_⟩|((with_reducible show _=_);rfl))
        all_goals try((with_reducible refine Obl.mk ?_);exact KP)
        all_goals try exact KX
        all_goals try(exfalso;simp_all;done)
        all_goals
         conv=>whnf
         refine⟨⟨k+1,by omega,by simp_all⟩,?_,by dsimp only;omega⟩
         repeat' ((conv=>whnf);first|(with_reducible first|apply Wx|apply W6)|apply oi|(apply fi<;>intro h)|refine⟨_,rfl,?_⟩|((with_reducible show _=_);rfl))
         all_goals try((with_reducible refine Obl.mk ?_);exact KP)
         all_goals try exact⟨K2⟩
       ·rw[if_neg h0,Bool.and_true]at hr
        repeat' ((conv=>whnf);first|(with_reducible first|apply Wx|apply W6)|apply oi|(apply fi<;>intro h)|refine cl hL ?_|refine cl hN ?_|refine⟨k,x.tr,rfl,map_get hx,?_⟩|refine⟨_,rfl,?_⟩|((with_reducible show _=_);rfl))
        all_goals try((with_reducible refine Obl.mk ?_);exact KP)
        all_goals try exact KX
        all_goals try(exfalso;simp_all;done)
        all_goals
         conv=>whnf
         refine⟨⟨k+1,by omega,by simp_all⟩,?_,by dsimp only;omega⟩
         repeat' ((conv=>whnf);first|(with_reducible first|apply Wx|apply W6)|apply oi|(apply fi<;>intro h)|refine⟨_,rfl,?_⟩|((with_reducible show _=_);rfl))
         all_goals try((with_reducible refine Obl.mk ?_);exact KP)
         all_goals try exact⟨K2⟩
      ·rw[show l.length - k=0 by omega]at hr
       cases hr
     | true=>
      rw[Bool.true_and]
      obtain⟨R,hR⟩:∃R,chainN (fnOkS l) l l.length 0=R:=⟨_,rfl⟩
      rw[hR]
      have hoka:=(okN_iff (l:=l) l.length 0 (by omega))
      rw[Nat.sub_zero]at hoka
      have hoka:=hoka.1 hok
      repeat' ((conv=>whnf);first|(with_reducible first|apply Wx|apply W6)|apply oi|(apply fi<;>intro h)|refine cl hF ?_|refine⟨0,x0.tr,rfl,map_get hx0,?_⟩|refine⟨_,rfl,?_⟩|((with_reducible show _=_);rfl))
      all_goals try((with_reducible refine Obl.mk ?_);exact KP)
      all_goals try exact KX
      all_goals try(exfalso;simp_all[mainName];done)
      conv=>whnf
      refine⟨{k:Nat // k≤l.length},fun q=>⟨[(0,vP l),(3,tI .i64 (q.1:Int))],[],[]⟩,fun q=>l.length - q.1,⟨0,by omega⟩,?_,?_⟩
      ·skip
       repeat' ((conv=>whnf);first|(with_reducible first|apply Wx|apply W6)|apply oi|(apply fi<;>intro h)|refine⟨_,rfl,?_⟩|((with_reducible show _=_);rfl))
       all_goals try((with_reducible refine Obl.mk ?_);exact KP)
      intro⟨k,hk⟩
      dsimp only at hk ⊢
      by_cases hlt:k < l.length
      ·obtain⟨x,hx⟩:=get_of_lt hlt
       have hr:=hoka k x (by omega) hx
       rw[ok1]at hr
       have hL:=s_spec_LineOk x (hs x (List.mem_of_getElem? hx))
       have hN:=s_spec_FindFunction l x.fName hl
       have hnf2:(findF l x.fName==(k:Int))=nameFirst l k:=by
        unfold nameFirst
        rw[hx,findF]
        dsimp only
        cases findN l 0 x.fName with
        | none=>simp[endI]
        | some m=>rw[Bool.eq_iff_iff];simp[endI];omega
       clear hoka hok
       generalize findF l x.fName=ff at *
       generalize lineOk x=lo at *
       generalize nameFirst l k=nf at *
       by_cases h0:x.fKind=0
       ·rw[if_pos h0]at hr
        repeat' ((conv=>whnf);first|(with_reducible first|apply Wx|apply W6)|apply oi|(apply fi<;>intro h)|refine cl hL ?_|refine cl hN ?_|refine⟨k,x.tr,rfl,map_get hx,?_⟩|refine⟨_,rfl,?_⟩|((with_reducible show _=_);rfl))
        all_goals try((with_reducible refine Obl.mk ?_);exact KP)
        all_goals try exact KX
        all_goals try(exfalso;simp_all;done)
        all_goals
         conv=>whnf
         refine⟨⟨k+1,by omega⟩,?_,by dsimp only;omega⟩
         repeat' ((conv=>whnf);first|(with_reducible first|apply Wx|apply W6)|apply oi|(apply fi<;>intro h)|refine⟨_,rfl,?_⟩|((with_reducible show _=_);rfl))
         all_goals try((with_reducible refine Obl.mk ?_);exact KP)
         all_goals try exact⟨K2⟩
       ·rw[if_neg h0,Bool.and_true]at hr
        repeat' ((conv=>whnf);first|(with_reducible first|apply Wx|apply W6)|apply oi|(apply fi<;>intro h)|refine cl hL ?_|refine cl hN ?_|refine⟨k,x.tr,rfl,map_get hx,?_⟩|refine⟨_,rfl,?_⟩|((with_reducible show _=_);rfl))
        all_goals try((with_reducible refine Obl.mk ?_);exact KP)
        all_goals try exact KX
        all_goals try(exfalso;simp_all;done)
        all_goals
         conv=>whnf
         refine⟨⟨k+1,by omega⟩,?_,by dsimp only;omega⟩
         repeat' ((conv=>whnf);first|(with_reducible first|apply Wx|apply W6)|apply oi|(apply fi<;>intro h)|refine⟨_,rfl,?_⟩|((with_reducible show _=_);rfl))
         all_goals try((with_reducible refine Obl.mk ?_);exact KP)
         all_goals try exact⟨K2⟩
      ·skip
       repeat' ((conv=>whnf);first|(with_reducible first|apply Wx|apply W6)|apply oi|(apply fi<;>intro h)|refine⟨_,rfl,?_⟩|((with_reducible show _=_);rfl))
       all_goals try((with_reducible refine Obl.mk ?_);exact KP)
       all_goals try exact KX
       conv=>whnf
       refine⟨{k:Nat // k≤l.length∧chainN (fnOkS l) l (l.length - k) k=R},fun q=>⟨[(0,vP l),(4,tI .i64 (q.1:Int))],[],[]⟩,fun q=>l.length - q.1,⟨0,by omega,by rw[Nat.sub_zero];exact hR⟩,?_,?_⟩
       ·skip
        repeat' ((conv=>whnf);first|(with_reducible first|apply Wx|apply W6)|apply oi|(apply fi<;>intro h)|refine⟨_,rfl,?_⟩|((with_reducible show _=_);rfl))
        all_goals try((with_reducible refine Obl.mk ?_);exact KP)
       intro⟨k,hk,hr⟩
       dsimp only at hk hr ⊢
       by_cases hlt:k < l.length
       ·obtain⟨x,hx⟩:=get_of_lt hlt
        rw[chainN_step hx (Nat.le_refl _)]at hr
        have hE:=s_spec_EndOf l (k:Int) hl
        cases he:endAt l k with
        | none=>
         rw[endOf_at,endI_none he]at hE
         rw[he]at hr
         subst hr
         repeat' ((conv=>whnf);first|(with_reducible first|apply Wx|apply W6)|apply oi|(apply fi<;>intro h)|refine cl hE ?_|refine⟨k,x.tr,rfl,map_get hx,?_⟩|refine⟨_,rfl,?_⟩|((with_reducible show _=_);rfl))
         all_goals try((with_reducible refine Obl.mk ?_);exact KP)
         all_goals try exact KX
         all_goals try(exfalso;simp_all;done)
        | some e=>
         obtain⟨_,_,_,_,hke,hel⟩:=endAt_some he
         rw[endOf_at,endI_some he]at hE
         rw[he]at hr
         dsimp only at hr
         have hK:=s_spec_l04Body l k e c1 hs he
         generalize fnOkS l k e=fb at *
         by_cases hc:x.fKind=0∧fb=true
         ·rw[if_pos hc]at hr
          obtain⟨d1,d2⟩:=hc
          subst d2
          repeat' ((conv=>whnf);first|(with_reducible first|apply Wx|apply W6)|apply oi|(apply fi<;>intro h)|refine cl hE ?_|refine cl hK ?_|refine⟨k,x.tr,rfl,map_get hx,?_⟩|refine⟨_,rfl,?_⟩|((with_reducible show _=_);rfl))
          all_goals try((with_reducible refine Obl.mk ?_);exact KP)
          all_goals try exact KX
          all_goals try(exfalso;simp_all;done)
          conv=>whnf
          refine⟨⟨e+1,by omega,hr⟩,?_,by dsimp only;omega⟩
          repeat' ((conv=>whnf);first|(with_reducible first|apply Wx|apply W6)|apply oi|(apply fi<;>intro h)|refine⟨_,rfl,?_⟩|((with_reducible show _=_);rfl))
          all_goals try((with_reducible refine Obl.mk ?_);exact KP)
          all_goals try exact⟨K2⟩
         ·rw[if_neg hc]at hr
          subst hr
          repeat' ((conv=>whnf);first|(with_reducible first|apply Wx|apply W6)|apply oi|(apply fi<;>intro h)|refine cl hE ?_|refine cl hK ?_|refine⟨k,x.tr,rfl,map_get hx,?_⟩|refine⟨_,rfl,?_⟩|((with_reducible show _=_);rfl))
          all_goals try((with_reducible refine Obl.mk ?_);exact KP)
          all_goals try exact KX
          all_goals try(exfalso;simp_all;done)
       ·rw[show l.length - k=0 by omega,chainN,decide_eq_true (by omega)]at hr
        subst hr
        repeat' ((conv=>whnf);first|(with_reducible first|apply Wx|apply W6)|apply oi|(apply fi<;>intro h)|refine⟨_,rfl,?_⟩|((with_reducible show _=_);rfl))
        all_goals try((with_reducible refine Obl.mk ?_);exact KP)
        all_goals try exact KX
   ·rw[decide_eq_false c2,Bool.false_and]
    repeat' ((conv=>whnf);first|(with_reducible first|apply Wx|apply W6)|apply oi|(apply fi<;>intro h)|refine cl hF ?_|refine⟨0,x0.tr,rfl,map_get hx0,?_⟩|refine⟨_,rfl,?_⟩|((with_reducible show _=_);rfl))
    all_goals try((with_reducible refine Obl.mk ?_);exact KP)
    all_goals try exact KX
    all_goals try(exfalso;simp_all[mainName];done)
  ·have hnil:l=[]:=List.length_eq_zero_iff.1 (by omega)
   subst hnil
   rw[show headOk ([]:List TLine)=false from rfl,Bool.false_and,Bool.and_false]
   repeat' ((conv=>whnf);first|(with_reducible first|apply Wx|apply W6)|apply oi|(apply fi<;>intro h)|refine cl hF ?_|refine⟨_,rfl,?_⟩|((with_reducible show _=_);rfl))
   all_goals try((with_reducible refine Obl.mk ?_);exact KP)
   all_goals try exact KX
 ·rw[decide_eq_false c1,Bool.false_and]
  repeat' ((conv=>whnf);first|(with_reducible first|apply Wx|apply W6)|apply oi|(apply fi<;>intro h)|refine cl hF ?_|refine⟨_,rfl,?_⟩|((with_reducible show _=_);rfl))
  all_goals try((with_reducible refine Obl.mk ?_);exact KP)
  all_goals try exact KX
  all_goals try(exfalso;simp_all;done)
end Go.Proofs.YtjmplnfiabmalaaGreat
namespace Go.Proofs.YtjmplnfiabmalaaGreat
open Go.Sim
set_option maxRecDepth 100000
set_option maxHeartbeats 4000000
theorem stands_le {l:List TTok}{p:Nat}{e:Ex}(h:stands l p e):p+e.toks.length≤l.length:=by
 obtain⟨r,h⟩:=h
 have h1:=congrArg List.length h
 rw[List.length_drop,List.length_append]at h1
 have:=e.toks_pos
 omega
theorem s_spec_Operands (l:List TTok)(p:Nat)(t:TTok)(es:List Ex)(hl:l.length≤1048576)(hn:toksShort l)(ho:(Ex.node t es).ok)(hs:stands l p (.node t es)):Sim.Spec Tryz.prog 260 [tvL 3 (l.map TTok.tr),tvI p] (rL 1 ((posL (p+1) es).map nR)):=by
 refine spec_of_Wo hΓ hmix Tryz.func260 rfl (by decide) rfl ?_
 have hlen:(l.map TTok.tr).length=l.length:=by simp
 have hle:=stands_le hs
 obtain⟨ht,hsa⟩:=stands_tok hs
 have hX:=s_spec_ExprEnd l p hl hn
 rw[stands_end hs ho]at hX
 have htn:=hn t (List.mem_of_getElem? ht)
 have hA:=s_spec_Arity t htn
 obtain⟨e1,e2⟩:=ar_eq ho.1
 have hel:es.length=ar t:=ho.2.1
 rw[e1,←hel]at hA
 obtain⟨R,hR⟩:∃R,posL (p+1) es=R:=⟨_,rfl⟩
 rw[hR]
 have hpl:p < l.length:=by
  have:=(Ex.node t es).toks_pos
  omega
 generalize p+(Ex.node t es).toks.length=pe at *
 repeat' ((conv=>whnf);first|(with_reducible first|apply Wx|apply W6)|apply oi|(apply fi<;>intro h)|refine cl hX ?_|refine⟨p,t.tr,rfl,map_get ht,?_⟩|refine cl hA ?_|refine⟨_,rfl,?_⟩|((with_reducible show _=_);rfl))
 all_goals try((with_reducible refine Obl.mk ?_);exact KP)
 all_goals try exact KX
 conv=>whnf
 refine⟨{q:Nat×List Nat×List Ex // q.2.1++posL q.1 q.2.2=R∧standAll l q.1 q.2.2∧exsOk q.2.2∧q.2.1.length+q.2.2.length≤4∧q.1≤1048577},fun q=>⟨[(0,.r (.c (.t (.lst 3 (l.map TTok.tr))))),(5,.r (.c (.own (5,0,0)))),(6,tI .i64 (q.1.1:Int)),(7,tI .i64 (q.1.2.2.length:Int))],[((5,0,0),some (.arr true 1 (q.1.2.1.map nR)))],[5]⟩,fun q=>q.1.2.2.length,⟨(p+1,[],es),hR,hsa,ho.2.2,by simp;omega,by dsimp only;omega⟩,?_,?_⟩
 ·skip
  repeat' ((conv=>whnf);first|(with_reducible first|apply Wx|apply W6)|apply oi|(apply fi<;>intro h)|refine⟨_,rfl,?_⟩|((with_reducible show _=_);rfl))
  all_goals try((with_reducible refine Obl.mk ?_);exact KP)
  all_goals try exact⟨K2⟩
 intro⟨⟨q,acc,fs⟩,h1,h2,h3,h4,h5⟩
 dsimp only at h1 h2 h3 h4 h5 ⊢
 cases fs with
 | nil=>
  rw[posL,List.append_nil]at h1
  subst h1
  repeat' ((conv=>whnf);first|(with_reducible first|apply Wx|apply W6)|apply oi|(apply fi<;>intro h)|refine⟨_,rfl,?_⟩|((with_reducible show _=_);rfl))
  all_goals try((with_reducible refine Obl.mk ?_);exact KP)
  all_goals try exact KX
  all_goals try(exfalso;simp at h;done)
 | cons a fs=>
  obtain⟨g1,g2⟩:=standAll_cons h2
  have hX2:=s_spec_ExprEnd l q hl hn
  rw[stands_end g1 h3.1]at hX2
  have hle2:=stands_le g1
  have hfl:(a::fs).length=fs.length+1:=rfl
  repeat' ((conv=>whnf);first|(with_reducible first|apply Wx|apply W6)|apply oi|(apply fi<;>intro h)|refine cl hX2 ?_|refine⟨_,rfl,?_⟩|((with_reducible show _=_);rfl))
  all_goals try((with_reducible refine Obl.mk ?_);exact KP)
  all_goals try exact KX
  all_goals try(exfalso;simp at h;done)
  all_goals try exact⟨⟨by simp <;> omega,by simp <;> omega⟩⟩
  conv=>whnf
  refine⟨⟨(q+a.toks.length,acc++[q],fs),by dsimp only;rw[←h1,posL];simp,g2,h3.2,by simp only[List.length_append,List.length_cons,List.length_nil]at *;omega,by dsimp only;omega⟩,?_,by dsimp only;simp⟩
  repeat' ((conv=>whnf);first|(with_reducible first|apply Wx|apply W6)|apply oi|(apply fi<;>intro h)|refine⟨_,rfl,?_⟩|((with_reducible show _=_);rfl))
  all_goals try((with_reducible refine Obl.mk ?_);exact KP)
  all_goals try exact⟨by dsimp only;rw[hfl,IntWalk.i64_in _ (by omega)];congr 1;omega⟩
  all_goals exact⟨by simp[intRow]⟩
end Go.Proofs.YtjmplnfiabmalaaGreat
namespace Go.Proofs.YtjmplnfiabmalaaGreat
open Go.Sim
set_option maxRecDepth 100000
set_option maxHeartbeats 4000000
def w32 (n:Int):Int:=IntKind.i32.wrap n
theorem wrap_i32' (n:Int):IntKind.i32.wrap n=if n % 4294967296≥2147483648 then n % 4294967296 - 4294967296 else n % 4294967296:=by
 simp[IntKind.wrap,IntKind.bits,IntKind.signed]
theorem w32_range (n:Int):-2147483648≤w32 n∧w32 n≤2147483647:=by
 unfold w32;rw[wrap_i32'];split <;> omega
theorem and_mask (n:Int):((BitVec.ofInt IntKind.i64.bits n &&& BitVec.ofInt IntKind.i64.bits 4294967295).toNat:Int)=n % 4294967296:=by
 show((BitVec.ofInt 64 n &&& BitVec.ofInt 64 4294967295).toNat:Int)=_
 have e:(BitVec.ofInt 64 4294967295).toNat=2 ^ 32 - 1:=by decide
 rw[BitVec.toNat_and,e,Nat.and_two_pow_sub_one_eq_mod,BitVec.toNat_ofInt]
 have:((2 ^ 64:Nat):Int)=18446744073709551616:=by decide
 omega
theorem s_spec_Wrap (n:Int):Sim.Spec Tryz.prog 251 [tvI n] (rI (w32 n)):=by
 refine spec_of_W hΓ hmix Tryz.func251 rfl (by decide) rfl ?_
 have hand:IntKind.i64.wrap ((BitVec.ofInt IntKind.i64.bits n &&& BitVec.ofInt IntKind.i64.bits 4294967295).toNat:Int)=n % 4294967296:=by
  rw[and_mask,IntWalk.i64_in _ (by omega)]
 unfold w32
 rw[wrap_i32']
 repeat' ((conv=>whnf);first|refine Or.inl ?_|apply oi|(apply fi<;>intro h)|refine⟨_,rfl,?_⟩|((with_reducible show _=_);rfl))
 all_goals try((with_reducible refine Obl.mk ?_);exact KO)
 all_goals(refine⟨congrArg (Tr.int _) ?_⟩;rw[hand]at h ⊢)
 ·have h':=of_decide_eq_true h
  rw[if_pos (by omega),IntWalk.i64_in _ (by omega)]
 ·have h':=of_decide_eq_false h
  rw[if_neg (by omega)]
theorem mul_bound {x y:Int}(hx:-2147483648≤x∧x≤2147483647)(hy:-2147483648≤y∧y≤2147483647):-4611686018427387904≤x * y∧x * y≤4611686018427387904:=by
 have h:(x * y).natAbs≤2147483648 * 2147483648:=by
  rw[Int.natAbs_mul]
  exact Nat.mul_le_mul (by omega) (by omega)
 omega
def applyP (k a b:Int):Int:=
 if k=2 then w32 (w32 a+w32 b)else if k=3 then w32 (w32 a - w32 b)else if k=4 then w32 (w32 a * w32 b)
 else if(k=5∧w32 a < w32 b)∨(k=6∧w32 a=w32 b)then 1 else 0
theorem s_spec_Apply (k a b:Int):Sim.Spec Tryz.prog 229 [tvI k,tvI a,tvI b] (rI (applyP k a b)):=by
 refine spec_of_W hΓ hmix Tryz.func229 rfl (by decide) rfl ?_
 have ha:=w32_range a
 have hb:=w32_range b
 have hm:=mul_bound ha hb
 have e1:IntKind.i64.wrap (w32 a+w32 b)=w32 a+w32 b:=IntWalk.i64_in _ (by omega)
 have e2:IntKind.i64.wrap (w32 a - w32 b)=w32 a - w32 b:=IntWalk.i64_in _ (by omega)
 have e3:IntKind.i64.wrap (w32 a * w32 b)=w32 a * w32 b:=IntWalk.i64_in _ (by omega)
 unfold applyP
 repeat' ((conv=>whnf);first|refine Or.inl ?_|apply oi|(apply fi<;>intro h)|refine ci (s_spec_Wrap _) (ai rfl trivial) ?_|refine⟨_,rfl,?_⟩|((with_reducible show _=_);rfl))
 all_goals try((with_reducible refine Obl.mk ?_);exact KO)
 all_goals(refine⟨congrArg (Tr.int _) ?_⟩;simp_all;try omega)
end Go.Proofs.YtjmplnfiabmalaaGreat
namespace Go.Proofs.YtjmplnfiabmalaaGreat
open Go.Sim
set_option maxRecDepth 100000
set_option maxHeartbeats 4000000
def numE (n:Int):Ex:= .node ⟨0,n,[]⟩ []
def finC (t a b:TTok):Prop:=within t.fKind 2 6=true∧a.fKind=0∧b.fKind=0∧within (applyP t.fKind a.fNum b.fNum) 0 999=true
instance (t a b:TTok):Decidable (finC t a b):=by unfold finC;infer_instance
def finF (t:TTok):List Ex→Ex
 | [.node a [],.node b []]=>if finC t a b then numE (applyP t.fKind a.fNum b.fNum)else .node t [.node a [],.node b []]
 | fs=> .node t fs
mutual
def Ex.fold:Ex→Ex
 | .node t es=>finF t (exFold es)
def exFold:List Ex→List Ex
 | []=>[]
 | a::es=>a.fold::exFold es
end
theorem flat_toks (l:List TTok):flat (l.map TTok.tr):=flat_map _ (by intro x c hc sz rs e;subst e;simp[TTok.tr]at hc)
theorem exFold_len:∀es:List Ex,(exFold es).length=es.length
 | []=>rfl
 | a::es=>by rw[exFold,List.length_cons,exFold_len,List.length_cons]
theorem exFold_take:∀(es:List Ex) (j:Nat),(exFold es).take j=exFold (es.take j)
 | [],j=>by simp[exFold]
 | a::es,0=>by rw[List.take_zero,List.take_zero,exFold]
 | a::es,j+1=>by rw[exFold,List.take_succ_cons,List.take_succ_cons,exFold,exFold_take es j]
theorem exFold_get:∀{es:List Ex} {j:Nat} {a:Ex},es[j]?=some a→exFold (es.take (j+1))=exFold (es.take j)++[a.fold]
 | [],_,_,h=>by simp at h
 | b::es,0,a,h=>by
  rw[List.getElem?_cons_zero]at h
  injection h with h
  subst h
  rfl
 | b::es,j+1,a,h=>by
  rw[List.getElem?_cons_succ]at h
  rw[List.take_succ_cons,exFold,List.take_succ_cons,exFold,exFold_get h,List.cons_append]
theorem exToks_one (a:Ex):exToks [a]=a.toks:=by rw[exToks,exToks,List.append_nil]
theorem one_tok {f:Ex}(h:f.toks.length=1):∃a,f= .node a []:=by
 cases f with
 | node a es=>
  rw[Ex.toks,List.length_cons]at h
  cases es with
  | nil=>exact⟨a,rfl⟩
  | cons b es=>
   rw[exToks,List.length_append]at h
   have:=b.toks_pos
   omega
theorem finF_plain {t:TTok}{fs:List Ex}(h:(exToks fs).length≠2∨within t.fKind 2 6=false):finF t fs= .node t fs:=by
 unfold finF
 split
 ·rename_i a b
  rw[if_neg]
  intro hc
  rcases h with h|h
  ·exact h (by simp[exToks,Ex.toks])
  ·rw[hc.1]at h;cases h
 ·rfl
theorem finF_two (t a b:TTok):finF t [.node a [],.node b []]=if finC t a b then numE (applyP t.fKind a.fNum b.fNum)else .node t [.node a [],.node b []]:=rfl
theorem finF_le (t:TTok)(fs:List Ex):(finF t fs).toks.length≤1+(exToks fs).length:=by
 unfold finF
 split
 ·split
  ·simp[numE,Ex.toks,exToks]
  ·simp[Ex.toks,exToks]
 ·rw[Ex.toks,List.length_cons];omega
mutual
theorem Ex.fold_le:∀e:Ex,e.fold.toks.length≤e.toks.length
 | .node t es=>by
  rw[Ex.fold,Ex.toks,List.length_cons]
  have h1:=finF_le t (exFold es)
  have h2:=exFold_le es
  omega
theorem exFold_le:∀es:List Ex,(exToks (exFold es)).length≤(exToks es).length
 | []=>Nat.le_refl _
 | a::es=>by
  rw[exFold,exToks,exToks,List.length_append,List.length_append]
  have h1:=Ex.fold_le a
  have h2:=exFold_le es
  omega
end
theorem exToks_take_le:∀(es:List Ex) (j:Nat),(exToks (es.take j)).length≤(exToks es).length
 | [],j=>by rw[List.take_nil];omega
 | a::es,0=>by rw[List.take_zero,exToks];simp
 | a::es,j+1=>by
  have:=exToks_take_le es j
  rw[List.take_succ_cons,exToks,exToks,List.length_append,List.length_append]
  omega
theorem exToks_mem:∀{es:List Ex} {j:Nat} {a:Ex},es[j]?=some a→a.toks.length≤(exToks es).length
 | [],_,_,h=>by simp at h
 | b::es,0,a,h=>by
  rw[List.getElem?_cons_zero]at h
  injection h with h
  subst h
  rw[exToks,List.length_append];omega
 | b::es,j+1,a,h=>by
  rw[List.getElem?_cons_succ]at h
  have:=exToks_mem h
  rw[exToks,List.length_append];omega
theorem exsOk_get:∀{es:List Ex} {j:Nat} {a:Ex},exsOk es→es[j]?=some a→a.ok
 | [],_,_,_,h=>by simp at h
 | b::es,0,a,ho,h=>by
  rw[List.getElem?_cons_zero]at h
  injection h with h
  subst h
  exact ho.1
 | b::es,j+1,a,ho,h=>by
  rw[List.getElem?_cons_succ]at h
  exact exsOk_get ho.2 h
theorem ar_two {t:TTok}(ho:tokOk t=true)(hk:within t.fKind 2 6=true):ar t=2:=by
 have:=within_iff.1 hk
 unfold ar arity
 rw[if_neg (by simp[ho]),if_neg (by omega),if_neg (by omega)]
 rfl
theorem two_of {α:Type}{l:List α}(h:l.length=2):∃a b,l=[a,b]:=by
 match l,h with
 | [a,b],_=>exact⟨a,b,rfl⟩
theorem s_spec_l06Fold:∀(n:Nat) (e:Ex),e.toks.length≤n→∀(l:List TTok) (p:Nat),l.length≤1048576→toksShort l→e.ok→stands l p e→Sim.Spec Tryz.prog 242 [tvL 3 (l.map TTok.tr),tvI p] (rL 3 (e.fold.toks.map TTok.tr))
 | 0,e,hn,_,_,_,_,_,_=>by have:=e.toks_pos;omega
 | n+1,.node t es,hn,l,p,hl,hsh,ho,hs=>by
  refine spec_of_Wo hΓ hmix Tryz.func242 rfl (by decide) rfl ?_
  have hlen:(l.map TTok.tr).length=l.length:=by simp
  have hle:=stands_le hs
  obtain⟨ht,hsa⟩:=stands_tok hs
  have hO:=s_spec_Operands l p t es hl hsh ho hs
  have hpl:((posL (p+1) es).map nR).length=es.length:=by rw[List.length_map,posL_len]
  rw[Ex.toks,List.length_cons]at hn hle
  rw[Ex.fold]
  have hfe:=exFold_le es
  obtain⟨e1,e2⟩:=ar_eq ho.1
  have hel:es.length=ar t:=ho.2.1
  repeat' ((conv=>whnf);first|(with_reducible first|apply Wx|apply W6)|apply oi|(apply fi<;>intro h)|refine cl hO ?_|refine⟨p,t.tr,rfl,map_get ht,?_⟩|refine⟨_,rfl,?_⟩|((with_reducible show _=_);rfl))
  all_goals try((with_reducible refine Obl.mk ?_);exact KP)
  conv=>whnf
  refine⟨{j:Nat // j≤es.length},fun q=>⟨[(0,.r (.c (.t (.lst 3 (l.map TTok.tr))))),(1,tI .i64 (p:Int)),(5,.r (.c (.own (5,0,0)))),(6,.r (.c (.own (6,0,0)))),(7,tI .i64 (q.1:Int))],[((5,0,0),some (.arr false 3 ((t::exToks (exFold (es.take q.1))).map TTok.tr))),((6,0,0),some (.arr true 1 ((posL (p+1) es).map nR)))],[5,6]⟩,fun q=>es.length - q.1,⟨0,by omega⟩,?_,?_⟩
  ·skip
   repeat' ((conv=>whnf);first|(with_reducible first|apply Wx|apply W6)|apply oi|(apply fi<;>intro h)|refine⟨_,rfl,?_⟩|((with_reducible show _=_);rfl))
   all_goals try((with_reducible refine Obl.mk ?_);exact KP)
   all_goals try exact⟨by simp[exFold,exToks];rfl⟩
  intro⟨j,hj⟩
  dsimp only at hj ⊢
  by_cases hlt:j < es.length
  ·obtain⟨a,ha⟩:=get_of_lt hlt
   obtain⟨q,hq,hqs⟩:=posL_at hsa ha
   have hal:=exToks_mem ha
   have hR:=s_spec_l06Fold n a (by omega) l q hl hsh (exsOk_get ho.2.2 ha) hqs
   have hjl:j < ((posL (p+1) es).map nR).length:=by rw[hpl];exact hlt
   have hfa:=a.fold_le
   have hft:=exToks_take_le (exFold es) j
   rw[exFold_take]at hft
   have hfl1:((t::exToks (exFold (es.take j))).map TTok.tr).length=1+(exToks (exFold (es.take j))).length:=by simp;omega
   have hfl2:(a.fold.toks.map TTok.tr).length=a.fold.toks.length:=by simp
   repeat' ((conv=>whnf);first|(with_reducible first|apply Wx|apply W6)|apply oi|(apply fi<;>intro h)|refine cl hR ?_|refine⟨j,rfl,hjl,?_⟩|refine⟨(nR q),(map_get hq),?_⟩|refine⟨_,rfl,?_⟩|((with_reducible show _=_);rfl))
   all_goals try((with_reducible refine Obl.mk ?_);exact KP)
   all_goals try exact KX
   all_goals try exact⟨⟨by rw[hfl1,hfl2];(try dsimp only);omega,by rw[hfl1,hfl2];(try dsimp only);omega⟩⟩
   conv=>whnf
   refine⟨⟨j+1,by omega⟩,?_,by dsimp only;omega⟩
   repeat' ((conv=>whnf);first|(with_reducible first|apply Wx|apply W6)|apply oi|(apply fi<;>intro h)|refine⟨_,rfl,?_⟩|((with_reducible show _=_);rfl))
   all_goals try((with_reducible refine Obl.mk ?_);exact KP)
   all_goals try exact⟨K2⟩
   all_goals exact⟨by rw[exFold_get ha,exToks_append,exToks_one];simp⟩
  ·have hje:j=es.length:=by omega
   subst hje
   rw[List.take_length]
   have hB:=s_spec_l01In t.fKind 2 6
   have hFl:=exFold_len es
   have hout:((t::exToks (exFold es)).map TTok.tr).length=1+(exToks (exFold es)).length:=by simp;omega
   generalize exFold es=F at *
   cases hk:within t.fKind 2 6 with
   | false=>
    rw[hk]at hB
    rw[finF_plain (.inr hk),Ex.toks]
    repeat' ((conv=>whnf);first|(with_reducible first|apply Wx|apply W6)|apply oi|(apply fi<;>intro h)|refine⟨p,t.tr,rfl,map_get ht,?_⟩|refine cl hB ?_|refine⟨_,rfl,?_⟩|((with_reducible show _=_);rfl))
    all_goals try((with_reducible refine Obl.mk ?_);exact KP)
    all_goals try exact KX
    all_goals exact⟨⟨rfl,flat_toks _⟩⟩
   | true=>
    rw[hk]at hB
    by_cases h2:(exToks F).length=2
    ·obtain⟨f1,f2,rfl⟩:=two_of (hFl.trans (hel.trans (ar_two ho.1 hk)))
     rw[exToks,exToks_one,List.length_append]at h2
     have p1:=f1.toks_pos
     have p2:=f2.toks_pos
     obtain⟨a,rfl⟩:=one_tok (f:=f1) (by omega)
     obtain⟨b,rfl⟩:=one_tok (f:=f2) (by omega)
     have e3:t::exToks [Ex.node a [],Ex.node b []]=[t,a,b]:=by simp[exToks,Ex.toks]
     have e4:(Ex.node t [Ex.node a [],Ex.node b []]).toks=[t,a,b]:=by rw[Ex.toks];exact e3
     rw[e3]
     have h1l:1 < ([t,a,b].map TTok.tr).length:=by simp
     have h2l:2 < ([t,a,b].map TTok.tr).length:=by simp
     have hAp:=s_spec_Apply t.fKind a.fNum b.fNum
     have hB2:=s_spec_l01In (applyP t.fKind a.fNum b.fNum) 0 999
     rw[finF_two]
     by_cases hc:finC t a b
     ·rw[if_pos hc]
      obtain⟨_,c1,c2,c3⟩:=hc
      rw[c3]at hB2
      have e5:(numE (applyP t.fKind a.fNum b.fNum)).toks=[⟨0,applyP t.fKind a.fNum b.fNum,[]⟩]:=by simp[numE,Ex.toks,exToks]
      rw[e5]
      generalize applyP t.fKind a.fNum b.fNum=ap at *
      repeat' ((conv=>whnf);first|(with_reducible first|apply Wx|apply W6)|apply oi|(apply fi<;>intro h)|refine⟨p,t.tr,rfl,map_get ht,?_⟩|refine cl hB ?_|refine⟨1,rfl,h1l,?_⟩|refine⟨2,rfl,h2l,?_⟩|refine⟨a.tr,rfl,?_⟩|refine⟨b.tr,rfl,?_⟩|refine cl hAp ?_|refine cl hB2 ?_|refine⟨_,rfl,?_⟩|((with_reducible show _=_);rfl))
      all_goals try((with_reducible refine Obl.mk ?_);exact KP)
      all_goals try exact KX
      all_goals try(exfalso;simp_all;done)
     ·rw[if_neg hc,e4]
      have hc2:∀w,within (applyP t.fKind a.fNum b.fNum) 0 999=w→a.fKind=0→b.fKind=0→w=true→False:=fun w h1 h2 h3 h4=>hc ⟨hk,h2,h3,h1.trans h4⟩
      cases hw:within (applyP t.fKind a.fNum b.fNum) 0 999 with
      | true=>
       rw[hw]at hB2
       have hc3:=hc2 true hw
       generalize applyP t.fKind a.fNum b.fNum=ap at *
       repeat' ((conv=>whnf);first|(with_reducible first|apply Wx|apply W6)|apply oi|(apply fi<;>intro h)|refine⟨p,t.tr,rfl,map_get ht,?_⟩|refine cl hB ?_|refine⟨1,rfl,h1l,?_⟩|refine⟨2,rfl,h2l,?_⟩|refine⟨a.tr,rfl,?_⟩|refine⟨b.tr,rfl,?_⟩|refine cl hAp ?_|refine cl hB2 ?_|refine⟨_,rfl,?_⟩|((with_reducible show _=_);rfl))
       all_goals try((with_reducible refine Obl.mk ?_);exact KP)
       all_goals try exact KX
       all_goals try exact⟨⟨rfl,flat_toks _⟩⟩
       all_goals try(exfalso;simp_all;done)
      | false=>
       rw[hw]at hB2
       generalize applyP t.fKind a.fNum b.fNum=ap at *
       repeat' ((conv=>whnf);first|(with_reducible first|apply Wx|apply W6)|apply oi|(apply fi<;>intro h)|refine⟨p,t.tr,rfl,map_get ht,?_⟩|refine cl hB ?_|refine⟨1,rfl,h1l,?_⟩|refine⟨2,rfl,h2l,?_⟩|refine⟨a.tr,rfl,?_⟩|refine⟨b.tr,rfl,?_⟩|refine cl hAp ?_|refine cl hB2 ?_|refine⟨_,rfl,?_⟩|((with_reducible show _=_);rfl))
       all_goals try((with_reducible refine Obl.mk ?_);exact KP)
       all_goals try exact KX
       all_goals try exact⟨⟨rfl,flat_toks _⟩⟩
       all_goals try(exfalso;simp_all;done)
    ·rw[finF_plain (.inl h2),Ex.toks]
     repeat' ((conv=>whnf);first|(with_reducible first|apply Wx|apply W6)|apply oi|(apply fi<;>intro h)|refine⟨p,t.tr,rfl,map_get ht,?_⟩|refine cl hB ?_|refine⟨_,rfl,?_⟩|((with_reducible show _=_);rfl))
     all_goals try((with_reducible refine Obl.mk ?_);exact KP)
     all_goals try exact KX
     all_goals try exact⟨⟨rfl,flat_toks _⟩⟩
     all_goals try(exfalso;rw[hout]at *;simp at *;omega)
end Go.Proofs.YtjmplnfiabmalaaGreat
