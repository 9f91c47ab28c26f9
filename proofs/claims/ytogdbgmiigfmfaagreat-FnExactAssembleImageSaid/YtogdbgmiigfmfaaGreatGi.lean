import Derived.Test.YtogdbgmiigfmfaaGreatGh
namespace Go.Proofs.YtogdbgmiigfmfaaGreat
open Go.Sim
set_option maxRecDepth 100000
set_option maxHeartbeats 4000000
theorem s_impl_BuildOk (b:TBuild):Sim.Spec Tryz.prog 49 [.agg b.tr] (rB (buildOk b)):=by
 refine spec_of_Wo hΓ hmix Tryz.func49 rfl (by decide) rfl ?_
 have h1:=s_impl_between b.fFrames 0 63
 have h2:=s_impl_between b.fInline 0 3
 unfold buildOk
 generalize within b.fFrames 0 63=x at *
 generalize within b.fInline 0 3=y at *
 cases x
 ·skip
  repeat' ((conv=>whnf);first|(with_reducible first|apply Wx|apply W6)|apply oi|(apply fi<;>intro h)|refine cl h1 ?_|refine cl h2 ?_|refine⟨_,rfl,?_⟩|((with_reducible show _=_);rfl))
  all_goals try((with_reducible refine Obl.mk ?_);exact KP)
  all_goals try exact KX
 ·cases y
  ·skip
   repeat' ((conv=>whnf);first|(with_reducible first|apply Wx|apply W6)|apply oi|(apply fi<;>intro h)|refine cl h1 ?_|refine cl h2 ?_|refine⟨_,rfl,?_⟩|((with_reducible show _=_);rfl))
   all_goals try((with_reducible refine Obl.mk ?_);exact KP)
   all_goals try exact KX
  ·skip
   repeat' ((conv=>whnf);first|(with_reducible first|apply Wx|apply W6)|apply oi|(apply fi<;>intro h)|refine cl h1 ?_|refine cl h2 ?_|refine⟨_,rfl,?_⟩|((with_reducible show _=_);rfl))
   all_goals try((with_reducible refine Obl.mk ?_);exact KP)
   all_goals try exact KX
def ownStep (p:List TLine)(k:Nat)(l:List Int):List Int:=
 let l1:=match endAt p k with|some e=>l.set e k|none=>l
 match elseAt p k with|some e=>l1.set e k|none=>l1
def ownF (p:List TLine):Nat→List Int
 | 0=>List.replicate p.length 0
 | n+1=>ownStep p n (ownF p n)
theorem ownF_len (p:List TLine):∀n,(ownF p n).length=p.length
 | 0=>by simp[ownF]
 | n+1=>by
  rw[ownF,ownStep]
  have:=ownF_len p n
  cases endAt p n <;> cases elseAt p n <;> simp[this]
theorem ownF_get {p:List TLine}{i k:Nat}(h:endAt p i=some k∨elseAt p i=some k)(hk:k < p.length):∀n,i < n→(ownF p n)[k]?=some (i:Int)
 | 0,hn=>by omega
 | n+1,hn=>by
  have hl:=ownF_len p n
  rw[ownF,ownStep]
  by_cases hin:i=n
  ·subst hin
   rcases h with h|h
   ·rw[h]
    dsimp only
    cases he:elseAt p i with
    | none=>dsimp only;rw[List.getElem?_set_self (by omega)]
    | some m=>
     dsimp only
     by_cases hm:m=k
     ·subst hm;rw[List.getElem?_set_self (by simp;omega)]
     ·rw[List.getElem?_set_ne hm,List.getElem?_set_self (by omega)]
   ·rw[h]
    dsimp only
    rw[List.getElem?_set_self (by cases endAt p i <;> simp <;> omega)]
  ·have ih:=ownF_get h hk n (by omega)
   have own:∀m,(endAt p n=some m∨elseAt p n=some m)→m≠k:=by
    intro m hm e
    subst e
    have h1:ownOf p m=i:=by rcases h with h|h;exact own_end h;exact own_else h
    have h2:ownOf p m=n:=by rcases hm with h|h;exact own_end h;exact own_else h
    exact hin (h1.symm.trans h2)
   have key:((match endAt p n with|some e=>(ownF p n).set e (n:Int)|none=>ownF p n):List Int)[k]?=some (i:Int):=by
    cases he:endAt p n with
    | none=>exact ih
    | some m=>dsimp only;rw[List.getElem?_set_ne (own m (.inl he))];exact ih
   cases he:elseAt p n with
   | none=>exact key
   | some m=>dsimp only;rw[List.getElem?_set_ne (own m (.inr he))];exact key
theorem s_impl_owners (p:List TLine)(h60:p.length≤60):Sim.Spec Tryz.prog 161 [tvP p] (rL 1 ((ownF p p.length).map intRow)):=by
 refine spec_of_Wo hΓ hmix Tryz.func161 rfl (by decide) rfl ?_
 have hpl:(p.map TLine.tr).length=p.length:=by simp
 have hm1:(((p.map TLine.tr).length:Nat):Int)=(p.length:Int):=by rw[hpl]
 have hm2:p.length≤9223372036854775807:=by omega
 have hm3:p.length * 8≤140737488355328:=by omega
 repeat' ((conv=>whnf);first|(with_reducible first|apply Wx|apply W6)|apply oi|(apply fi<;>intro h)|refine⟨p.length,hm1,hm1,hm2,hm3,?_⟩|refine⟨_,rfl,?_⟩|((with_reducible show _=_);rfl))
 all_goals try((with_reducible refine Obl.mk ?_);exact KP)
 conv=>whnf
 refine⟨{k:Nat // k≤p.length},fun q=>⟨[(0,vP p),(3,.r (.c (.own (3,0,0)))),(11,tI .i64 ((p.map TLine.tr).length:Int)),(12,tI .i64 (q.1:Int))],[((3,0,0),some (.arr true 1 ((ownF p q.1).map intRow)))],[3]⟩,fun q=>p.length - q.1,⟨0,by omega⟩,?_,?_⟩
 ·skip
  repeat' ((conv=>whnf);first|(with_reducible first|apply Wx|apply W6)|apply oi|(apply fi<;>intro h)|refine⟨_,rfl,?_⟩|((with_reducible show _=_);rfl))
  all_goals try((with_reducible refine Obl.mk ?_);exact KP)
  all_goals exact⟨by simp[ownF,intRow]⟩
 intro⟨k,hk⟩
 dsimp only at hk ⊢
 by_cases hlt:k < p.length
 ·have gE:=s_impl_EndOf p (k:Int) (by omega)
  have gL:=s_impl_ElseOf p (k:Int) (by omega)
  have hol:=ownF_len p k
  have hml:((ownF p k).map intRow).length=p.length:=by rw[List.length_map,hol]
  rw[endOf_at]at gE
  rw[elseOf_at]at gL
  have hst:ownF p (k+1)=ownStep p k (ownF p k):=rfl
  have hget:∀{l:List Int} {e:Nat},e < l.length→∃v,(l.map intRow)[e]?=some (intRow v):=fun{l e} he=>⟨l[e],by rw[List.getElem?_map,List.getElem?_eq_getElem he];rfl⟩
  have hset:∀(l:List Int) (e:Nat),(l.map intRow).set e [.int .i64 (k:Int)]=(l.set e (k:Int)).map intRow:=fun l e=>by simp[List.map_set,intRow]
  rw[ownStep]at hst
  cases he:endAt p k with
  | none=>
   rw[he]at gE hst
   cases hl:elseAt p k with
   | none=>
    rw[hl]at gL hst
    dsimp only at hst
    repeat' ((conv=>whnf);first|(with_reducible first|apply Wx|apply W6)|apply oi|(apply fi<;>intro h)|refine cl gE ?_|refine cl gL ?_|refine⟨_,rfl,?_⟩|((with_reducible show _=_);rfl))
    all_goals try((with_reducible refine Obl.mk ?_);exact KP)
    all_goals try exact KX
    all_goals try(exfalso;simp[endI]at h;done)
    conv=>whnf
    refine⟨⟨k+1,by omega⟩,?_,by dsimp only;omega⟩
    repeat' ((conv=>whnf);first|(with_reducible first|apply Wx|apply W6)|apply oi|(apply fi<;>intro h)|refine⟨_,rfl,?_⟩|((with_reducible show _=_);rfl))
    all_goals try((with_reducible refine Obl.mk ?_);exact KP)
    all_goals try exact⟨KW⟩
    all_goals exact⟨by dsimp only;rw[hst]⟩
   | some m=>obtain⟨_,_,_,_,h,_⟩:=elseAt_some hl;rw[he]at h;cases h
  | some e=>
   obtain⟨_,_,_,_,_,hel⟩:=endAt_some he
   have hel2:e < ((ownF p k).map intRow).length:=by omega
   obtain⟨v,hv⟩:=hget (l:=ownF p k) (e:=e) (by omega)
   rw[he]at gE hst
   cases hl:elseAt p k with
   | none=>
    rw[hl]at gL hst
    dsimp only at hst
    repeat' ((conv=>whnf);first|(with_reducible first|apply Wx|apply W6)|apply oi|(apply fi<;>intro h)|refine cl gE ?_|refine cl gL ?_|refine⟨e,rfl,hel2,?_⟩|refine⟨_,hv,?_⟩|refine⟨_,rfl,?_⟩|((with_reducible show _=_);rfl))
    all_goals try((with_reducible refine Obl.mk ?_);exact KP)
    all_goals try exact KX
    all_goals try(exfalso;simp[endI]at h;done)
    all_goals try(exfalso;rename_i h0;simp[endI]at h0;done)
    conv=>whnf
    refine⟨⟨k+1,by omega⟩,?_,by dsimp only;omega⟩
    repeat' ((conv=>whnf);first|(with_reducible first|apply Wx|apply W6)|apply oi|(apply fi<;>intro h)|refine⟨_,rfl,?_⟩|((with_reducible show _=_);rfl))
    all_goals try((with_reducible refine Obl.mk ?_);exact KP)
    all_goals try exact⟨KW⟩
    all_goals exact⟨by dsimp only;rw[hst,hset]⟩
   | some m=>
    obtain⟨_,_,_,_,_,_,hmm,z,hz,_⟩:=elseAt_some hl
    have hml2:=lt_of_get hz
    have hml3:m < (((ownF p k).set e (k:Int)).map intRow).length:=by simp;omega
    obtain⟨v2,hv2⟩:=hget (l:=(ownF p k).set e (k:Int)) (e:=m) (by simp;omega)
    rw[←hset]at hml3 hv2
    rw[hl]at gL hst
    dsimp only at hst
    repeat' ((conv=>whnf);first|(with_reducible first|apply Wx|apply W6)|apply oi|(apply fi<;>intro h)|refine cl gE ?_|refine cl gL ?_|refine⟨e,rfl,hel2,?_⟩|refine⟨_,hv,?_⟩|refine⟨m,rfl,hml3,?_⟩|refine⟨_,hv2,?_⟩|refine⟨_,rfl,?_⟩|((with_reducible show _=_);rfl))
    all_goals try((with_reducible refine Obl.mk ?_);exact KP)
    all_goals try exact KX
    all_goals try(exfalso;simp[endI]at h;done)
    all_goals try(exfalso;rename_i h0;simp[endI]at h0;done)
    conv=>whnf
    refine⟨⟨k+1,by omega⟩,?_,by dsimp only;omega⟩
    repeat' ((conv=>whnf);first|(with_reducible first|apply Wx|apply W6)|apply oi|(apply fi<;>intro h)|refine⟨_,rfl,?_⟩|((with_reducible show _=_);rfl))
    all_goals try((with_reducible refine Obl.mk ?_);exact KP)
    all_goals try exact⟨KW⟩
    all_goals exact⟨by dsimp only;rw[hst,hset,hset]⟩
 ·have hke:k=p.length:=by omega
  subst hke
  repeat' ((conv=>whnf);first|(with_reducible first|apply Wx|apply W6)|apply oi|(apply fi<;>intro h)|refine⟨_,rfl,?_⟩|((with_reducible show _=_);rfl))
  all_goals try((with_reducible refine Obl.mk ?_);exact KP)
  all_goals try exact KX
abbrev toksRow (a:Ex):List Tr:=[.lst 3 (a.toks.map TTok.tr)]
theorem s_impl_foldAt:∀(n:Nat) (e:Ex),e.toks.length≤n→∀(l:List TTok) (p:Nat),l.length≤1048576→toksShort l→e.ok→stands l p e→Sim.Spec Tryz.prog 159 [tvL 3 (l.map TTok.tr),tvI p] (rL 3 (e.fold.toks.map TTok.tr))
 | 0,e,hn,_,_,_,_,_,_=>by have:=e.toks_pos;omega
 | n+1,.node t es,hn,l,p,hl,hsh,ho,hs=>by
  refine spec_of_Wo hΓ hmix Tryz.func159 rfl (by decide) rfl ?_
  have hlen:(l.map TTok.tr).length=l.length:=by simp
  have hle:=stands_le hs
  obtain⟨ht,hsa⟩:=stands_tok hs
  have hO:=s_impl_Operands l p t es hl hsh ho hs
  have hpl:((posL (p+1) es).map nR).length=es.length:=by rw[List.length_map,posL_len]
  rw[Ex.toks,List.length_cons]at hn hle
  rw[Ex.fold]
  have hfe:=exFold_le es
  obtain⟨e1,e2⟩:=ar_eq ho.1
  have hel:es.length=ar t:=ho.2.1
  repeat' ((conv=>whnf);first|(with_reducible first|apply Wx|apply W6)|apply oi|(apply fi<;>intro h)|refine cl hO ?_|refine⟨p,t.tr,rfl,map_get ht,?_⟩|refine⟨_,rfl,?_⟩|((with_reducible show _=_);rfl))
  all_goals try((with_reducible refine Obl.mk ?_);exact KP)
  conv=>whnf
  refine⟨{j:Nat // j≤es.length},fun q=>⟨[(0,.r (.c (.t (.lst 3 (l.map TTok.tr))))),(1,tI .i64 (p:Int)),(5,.r (.c (.ptr (5,0,0) 0))),(6,.r (.c (.own (21,0,1)))),(7,.r (.c (.own (21,0,2)))),(21,.r (.c (.own (21,0,0)))),(22,tI .i64 (((posL (p+1) es).map nR).length:Int)),(23,tI .i64 (q.1:Int))],
   [((5,0,0),some (.box (t.tr.map .t))),((21,0,1),some (.arr false 3 ((t::exToks (exFold (es.take q.1))).map TTok.tr))),((21,0,2),some (.arr false 1 ((exFold (es.take q.1)).map toksRow))),((21,0,0),some (.arr true 1 ((posL (p+1) es).map nR)))],[21,5]⟩,fun q=>es.length - q.1,⟨0,by omega⟩,?_,?_⟩
  ·skip
   repeat' ((conv=>whnf);first|(with_reducible first|apply Wx|apply W6)|apply oi|(apply fi<;>intro h)|refine⟨_,rfl,?_⟩|((with_reducible show _=_);rfl))
   all_goals try((with_reducible refine Obl.mk ?_);exact KP)
   all_goals first|exact⟨by simp[exFold,exToks];rfl⟩|exact⟨by simp[exFold]⟩
  intro⟨j,hj⟩
  dsimp only at hj ⊢
  by_cases hlt:j < es.length
  ·obtain⟨a,ha⟩:=get_of_lt hlt
   obtain⟨q,hq,hqs⟩:=posL_at hsa ha
   have hal:=exToks_mem ha
   have hR:=s_impl_foldAt n a (by omega) l q hl hsh (exsOk_get ho.2.2 ha) hqs
   have hjl:j < ((posL (p+1) es).map nR).length:=by rw[hpl];exact hlt
   have hfa:=a.fold_le
   have hft:=exToks_take_le (exFold es) j
   rw[exFold_take]at hft
   have hfl1:((t::exToks (exFold (es.take j))).map TTok.tr).length=1+(exToks (exFold (es.take j))).length:=by simp;omega
   have hfl2:(a.fold.toks.map TTok.tr).length=a.fold.toks.length:=by simp
   repeat' ((conv=>whnf);first|(with_reducible apply W1;fail_if_success (with_reducible show Wo _ _ _ _ (Code.region 8 _ _) _ _))|(with_reducible first|apply W2|apply W3|apply W4|apply W5|apply W6|apply W7|apply W8|apply W9)|apply reg_inl|apply oi|(apply fi<;>intro h)|refine cl hR ?_|refine⟨j,rfl,hjl,?_⟩|refine⟨(nR q),(map_get hq),?_⟩|refine⟨_,rfl,?_⟩|((with_reducible show _=_);rfl))
   all_goals try((with_reducible refine Obl.mk ?_);exact KP)
   all_goals try exact KX
   conv=>whnf
   refine view2_rule ⟨[(0,.r (.c (.t (.lst 3 (l.map TTok.tr))))),(1,tI .i64 (p:Int)),(5,.r (.c (.ptr (5,0,0) 0))),(6,.r (.c (.own (21,0,1)))),(7,.r (.c (.own (21,0,2)))),(10,.r (.c (.t (.lst 3 (a.fold.toks.map TTok.tr))))),(21,.r (.c (.own (21,0,0)))),(22,tI .i64 (((posL (p+1) es).map nR).length:Int)),(23,tI .i64 (j:Int))],
    [((5,0,0),some (.box (t.tr.map .t))),((21,0,1),some (.arr false 3 ((t::exToks (exFold (es.take j))).map TTok.tr))),((21,0,2),some (.arr false 1 ((exFold (es.take j)).map toksRow))),((21,0,0),some (.arr true 1 ((posL (p+1) es).map nR)))],_⟩ ?_ ?_ rfl ?_
   ·refine⟨.inl rfl,.inl rfl,.inl rfl,.inl rfl,.inl rfl,.inr (.inl ⟨_,_,rfl,rfl,.inr (.inr ⟨_,rfl,rfl,?_⟩)⟩),.inl rfl,.inl rfl,.inl rfl,trivial⟩
    intro q hq;simp only[AC.ids,List.mem_cons,List.not_mem_nil,or_false]at hq;subst hq;rfl
   ·exact⟨.inr (.inl rfl),.inr (.inl rfl),.inr (.inl rfl),.inr (.inl rfl),trivial⟩
   have hfl4:((exFold (es.take j)).map toksRow).length=j:=by rw[List.length_map,exFold_len,List.length_take];omega
   repeat' ((conv=>whnf);first|(with_reducible first|apply Wx|apply W6)|apply oi|(apply fi<;>intro h)|refine⟨_,rfl,?_⟩|((with_reducible show _=_);rfl))
   all_goals try((with_reducible refine Obl.mk ?_);exact KP)
   all_goals try exact⟨⟨by rw[hfl4];simp <;> omega,by rw[hfl4];simp <;> omega⟩⟩
   all_goals try exact⟨⟨by rw[hfl1,hfl2];(try dsimp only);omega,by rw[hfl1,hfl2];(try dsimp only);omega⟩⟩
   conv=>whnf
   refine⟨⟨j+1,by omega⟩,?_,by dsimp only;omega⟩
   repeat' ((conv=>whnf);first|(with_reducible first|apply Wx|apply W6)|apply oi|(apply fi<;>intro h)|refine⟨_,rfl,?_⟩|((with_reducible show _=_);rfl))
   all_goals try((with_reducible refine Obl.mk ?_);exact KP)
   all_goals try exact⟨KW⟩
   all_goals first|exact⟨by rw[exFold_get ha,exToks_append,exToks_one];simp⟩|exact⟨by rw[exFold_get ha];simp⟩
  ·have hje:j=es.length:=by omega
   subst hje
   rw[List.take_length]
   have hB:=s_impl_between t.fKind 2 6
   have hFl:=exFold_len es
   have hout:((t::exToks (exFold es)).map TTok.tr).length=1+(exToks (exFold es)).length:=by simp;omega
   generalize exFold es=F at *
   cases hk:within t.fKind 2 6 with
   | false=>
    rw[hk]at hB
    rw[finF_plain (.inr hk),Ex.toks]
    repeat' ((conv=>whnf);first|(with_reducible first|apply Wx|apply W6)|apply oi|(apply fi<;>intro h)|refine cl hB ?_|refine⟨_,rfl,?_⟩|((with_reducible show _=_);rfl))
    all_goals try((with_reducible refine Obl.mk ?_);exact KP)
    all_goals try exact KX
    all_goals exact⟨⟨rfl,flat_toks _⟩⟩
   | true=>
    rw[hk]at hB
    by_cases h2:(exToks F).length=2
    ·obtain⟨f1,f2,rfl⟩:=two_of (hFl.trans (hel.trans (ar_two ho.1 hk)))
     rw[exToks,exToks_one,List.length_append]at h2
     have p1:=f1.toks_pos
     have p2:=f2.toks_pos
     obtain⟨a,rfl⟩:=one_tok (f:=f1) (by omega)
     obtain⟨b,rfl⟩:=one_tok (f:=f2) (by omega)
     have e3:t::exToks [Ex.node a [],Ex.node b []]=[t,a,b]:=by simp[exToks,Ex.toks]
     have e4:(Ex.node t [Ex.node a [],Ex.node b []]).toks=[t,a,b]:=by rw[Ex.toks];exact e3
     have e6:([Ex.node a [],Ex.node b []].map toksRow)=[[.lst 3 [a.tr]],[.lst 3 [b.tr]]]:=by simp[Ex.toks,exToks]
     rw[e3,e6]
     have h1l:1 < ([t,a,b].map TTok.tr).length:=by simp
     have h2l:2 < ([t,a,b].map TTok.tr).length:=by simp
     have h0l:0 < [[Tr.lst 3 [a.tr]],[Tr.lst 3 [b.tr]]].length:=by simp
     have hAp:=s_impl_Apply t.fKind a.fNum b.fNum
     have hB2:=s_impl_between (applyP t.fKind a.fNum b.fNum) 0 999
     rw[finF_two]
     by_cases hc:finC t a b
     ·rw[if_pos hc]
      obtain⟨_,c1,c2,c3⟩:=hc
      rw[c3]at hB2
      have e5:(numE (applyP t.fKind a.fNum b.fNum)).toks=[⟨0,applyP t.fKind a.fNum b.fNum,[]⟩]:=by simp[numE,Ex.toks,exToks]
      rw[e5]
      generalize applyP t.fKind a.fNum b.fNum=ap at *
      repeat' ((conv=>whnf);first|(with_reducible first|apply Wx|apply W6)|apply oi|(apply fi<;>intro h)|refine cl hB ?_|refine⟨0,rfl,h0l,?_⟩|refine⟨[Tr.lst 3 [a.tr]],rfl,?_⟩|refine⟨1,rfl,h1l,?_⟩|refine⟨2,rfl,h2l,?_⟩|refine⟨a.tr,rfl,?_⟩|refine⟨b.tr,rfl,?_⟩|refine cl hAp ?_|refine cl hB2 ?_|refine⟨_,rfl,?_⟩|((with_reducible show _=_);rfl))
      all_goals try((with_reducible refine Obl.mk ?_);exact KP)
      all_goals try exact KX
      all_goals try(exfalso;simp_all;done)
     ·rw[if_neg hc,e4]
      have hc2:∀w,within (applyP t.fKind a.fNum b.fNum) 0 999=w→a.fKind=0→b.fKind=0→w=true→False:=fun w h1 h2 h3 h4=>hc ⟨hk,h2,h3,h1.trans h4⟩
      cases hw:within (applyP t.fKind a.fNum b.fNum) 0 999 with
      | true=>
       rw[hw]at hB2
       have hc3:=hc2 true hw
       generalize applyP t.fKind a.fNum b.fNum=ap at *
       repeat' ((conv=>whnf);first|(with_reducible first|apply Wx|apply W6)|apply oi|(apply fi<;>intro h)|refine cl hB ?_|refine⟨0,rfl,h0l,?_⟩|refine⟨[Tr.lst 3 [a.tr]],rfl,?_⟩|refine⟨1,rfl,h1l,?_⟩|refine⟨2,rfl,h2l,?_⟩|refine⟨a.tr,rfl,?_⟩|refine⟨b.tr,rfl,?_⟩|refine cl hAp ?_|refine cl hB2 ?_|refine⟨_,rfl,?_⟩|((with_reducible show _=_);rfl))
       all_goals try((with_reducible refine Obl.mk ?_);exact KP)
       all_goals try exact KX
       all_goals try exact⟨⟨rfl,flat_toks _⟩⟩
       all_goals try(exfalso;simp_all;done)
      | false=>
       rw[hw]at hB2
       generalize applyP t.fKind a.fNum b.fNum=ap at *
       repeat' ((conv=>whnf);first|(with_reducible first|apply Wx|apply W6)|apply oi|(apply fi<;>intro h)|refine cl hB ?_|refine⟨0,rfl,h0l,?_⟩|refine⟨[Tr.lst 3 [a.tr]],rfl,?_⟩|refine⟨1,rfl,h1l,?_⟩|refine⟨2,rfl,h2l,?_⟩|refine⟨a.tr,rfl,?_⟩|refine⟨b.tr,rfl,?_⟩|refine cl hAp ?_|refine cl hB2 ?_|refine⟨_,rfl,?_⟩|((with_reducible show _=_);rfl))
       all_goals try((with_reducible refine Obl.mk ?_);exact KP)
       all_goals try exact KX
       all_goals try exact⟨⟨rfl,flat_toks _⟩⟩
       all_goals try(exfalso;simp_all;done)
    ·rw[finF_plain (.inl h2),Ex.toks]
     repeat' ((conv=>whnf);first|(with_reducible first|apply Wx|apply W6)|apply oi|(apply fi<;>intro h)|refine cl hB ?_|refine⟨_,rfl,?_⟩|((with_reducible show _=_);rfl))
     all_goals try((with_reducible refine Obl.mk ?_);exact KP)
     all_goals try exact KX
     all_goals try exact⟨⟨rfl,flat_toks _⟩⟩
     all_goals try(exfalso;rw[hout]at *;simp at *;omega)
theorem s_impl_FoldExpr (l:List TTok)(hl:l.length≤1048576)(hn:toksShort l):Sim.Spec Tryz.prog 105 [tvL 3 (l.map TTok.tr)] (rL 3 ((foldL l).map TTok.tr)):=by
 refine spec_of_Wo hΓ hmix Tryz.func105 rfl (by decide) rfl ?_
 have hE:=s_impl_ExprOk l hl hn
 cases h:exprOk l with
 | false=>
  rw[h]at hE
  rw[foldL_no h]
  repeat' ((conv=>whnf);first|(with_reducible first|apply Wx|apply W6)|apply oi|(apply fi<;>intro h)|refine cl hE ?_|refine⟨_,rfl,?_⟩|((with_reducible show _=_);rfl))
  all_goals try((with_reducible refine Obl.mk ?_);exact KP)
  all_goals try exact KX
 | true=>
  rw[h]at hE
  obtain⟨e,h1,h2,h3⟩:=foldL_ok h
  have hF:=s_impl_foldAt e.toks.length e (Nat.le_refl _) l 0 hl hn h1 ⟨[],by rw[List.drop_zero,List.append_nil];exact h2⟩
  rw[h3]
  generalize e.fold.toks=r at *
  repeat' ((conv=>whnf);first|(with_reducible first|apply Wx|apply W6)|apply oi|(apply fi<;>intro h)|refine cl hE ?_|refine cl hF ?_|refine⟨_,rfl,?_⟩|((with_reducible show _=_);rfl))
  all_goals try((with_reducible refine Obl.mk ?_);exact KP)
  all_goals try exact KX
theorem s_impl_copyLine (x:TLine)(hs:smallR 1048576 x.tr):Sim.Spec Tryz.prog 104 [.agg x.tr] (.r (.agg (x.tr.map resC))):=by
 refine spec_of_Wo hΓ hmix Tryz.func104 rfl (by decide) rfl ?_
 obtain⟨h1,h2,h3,h4,h5⟩:=line_small hs
 repeat' ((conv=>whnf);first|(with_reducible first|apply Wx|apply W6)|apply oi|(apply fi<;>intro h)|refine⟨_,rfl,?_⟩|((with_reducible show _=_);rfl))
 all_goals try((with_reducible refine Obl.mk ?_);exact KP)
 all_goals try exact⟨⟨by simp <;> omega,by simp <;> omega⟩⟩
 all_goals try exact⟨⟨rfl,flat_strs _⟩⟩
 all_goals try exact⟨⟨rfl,flat_toks _⟩⟩
theorem s_impl_FoldProgram (l:List TLine)(hs:smallT 1048576 (.lst 4 (l.map TLine.tr))):Sim.Spec Tryz.prog 52 [tvP l] (rL 4 ((foldProg l).map TLine.tr)):=by
 refine spec_of_Wo hΓ hmix Tryz.func52 rfl (by decide) rfl ?_
 have hl:=small_nat hs
 have hP:=s_impl_ProgramOk l hs
 have hlen:(l.map TLine.tr).length=l.length:=by simp
 cases hpo:programOk l with
 | false=>
  rw[hpo]at hP
  have:foldProg l=[]:=by rw[foldProg,if_neg (by simp[hpo])]
  rw[this]
  repeat' ((conv=>whnf);first|(with_reducible first|apply Wx|apply W6)|apply oi|(apply fi<;>intro h)|refine cl hP ?_|refine⟨_,rfl,?_⟩|((with_reducible show _=_);rfl))
  all_goals try((with_reducible refine Obl.mk ?_);exact KP)
  all_goals try exact KX
 | true=>
  rw[hpo]at hP
  have:foldProg l=l.map foldLine:=by rw[foldProg,if_pos hpo]
  rw[this]
  repeat' ((conv=>whnf);first|(with_reducible first|apply Wx|apply W6)|apply oi|(apply fi<;>intro h)|refine cl hP ?_|refine⟨_,rfl,?_⟩|((with_reducible show _=_);rfl))
  all_goals try((with_reducible refine Obl.mk ?_);exact KP)
  all_goals try exact KX
  conv=>whnf
  refine⟨{k:Nat // k≤l.length},fun q=>⟨[(0,vP l),(3,.r (.c (.own (10,0,0)))),(11,vP l),(12,tI .i64 ((l.map TLine.tr).length:Int)),(13,tI .i64 (q.1:Int))],[((10,0,0),some (.dar 4 (deepRows (((l.take q.1).map foldLine).map TLine.tr)) none))],[10]⟩,fun q=>l.length - q.1,⟨0,by omega⟩,?_,?_⟩
  ·skip
   repeat' ((conv=>whnf);first|(with_reducible first|apply Wx|apply W6)|apply oi|(apply fi<;>intro h)|refine⟨_,rfl,?_⟩|((with_reducible show _=_);rfl))
   all_goals try((with_reducible refine Obl.mk ?_);exact KP)
  intro⟨k,hk⟩
  dsimp only at hk ⊢
  have hdl:(deepRows (((l.take k).map foldLine).map TLine.tr)).length=k:=by rw[deepRows_length,List.length_map,List.length_map,List.length_take];omega
  by_cases hlt:k < l.length
  ·obtain⟨x,hx⟩:=get_of_lt hlt
   have hsx:=smallRs_map hs (List.mem_of_getElem? hx)
   obtain⟨h1,h2,h3,h4,h5⟩:=line_small hsx
   have hF:=s_impl_FoldExpr x.fExpr h4 (fun y hy=>by have:=h5 y hy;omega)
   have hC:=s_impl_copyLine x hsx
   have hel3:(x.fExpr.map TTok.tr).length=x.fExpr.length:=by simp
   have htk:=take_map foldLine l k x hx
   by_cases hpos:0 < x.fExpr.length
   ·have hfl:foldLine x=⟨x.fKind,x.fName,x.fArgs,foldL x.fExpr⟩:=by rw[foldLine,if_pos hpos]
    repeat' ((conv=>whnf);first|(with_reducible first|apply Wx|apply W6)|apply oi|(apply fi<;>intro h)|refine⟨k,x.tr,rfl,map_get hx,?_⟩|refine cl hC ?_|refine cl hF ?_|refine⟨_,rfl,?_⟩|((with_reducible show _=_);rfl))
    all_goals try((with_reducible refine Obl.mk ?_);exact KP)
    all_goals try exact KX
    all_goals try exact⟨flat_toks _⟩
    all_goals try exact⟨flat_strs _⟩
    all_goals try exact⟨⟨by rw[hdl];(try dsimp only);simp <;> omega,by rw[hdl];(try dsimp only);simp <;> omega⟩⟩
    all_goals try(exfalso;have h':=of_decide_eq_false h;rw[hel3]at h';omega)
    conv=>whnf
    refine⟨⟨k+1,by omega⟩,?_,by dsimp only;omega⟩
    repeat' ((conv=>whnf);first|(with_reducible first|apply Wx|apply W6)|apply oi|(apply fi<;>intro h)|refine⟨_,rfl,?_⟩|((with_reducible show _=_);rfl))
    all_goals try((with_reducible refine Obl.mk ?_);exact KP)
    all_goals try exact⟨KW⟩
    all_goals(refine⟨?_⟩;dsimp only;rw[htk,hfl];simp[deepRows,TLine.tr])
   ·have hfl:foldLine x=x:=by rw[foldLine,if_neg hpos]
    repeat' ((conv=>whnf);first|(with_reducible first|apply Wx|apply W6)|apply oi|(apply fi<;>intro h)|refine⟨k,x.tr,rfl,map_get hx,?_⟩|refine cl hC ?_|refine⟨_,rfl,?_⟩|((with_reducible show _=_);rfl))
    all_goals try((with_reducible refine Obl.mk ?_);exact KP)
    all_goals try exact KX
    all_goals try exact⟨flat_toks _⟩
    all_goals try exact⟨flat_strs _⟩
    all_goals try exact⟨⟨by rw[hdl];(try dsimp only);simp <;> omega,by rw[hdl];(try dsimp only);simp <;> omega⟩⟩
    all_goals try(exfalso;have h':=of_decide_eq_true h;rw[hel3]at h';omega)
    conv=>whnf
    refine⟨⟨k+1,by omega⟩,?_,by dsimp only;omega⟩
    repeat' ((conv=>whnf);first|(with_reducible first|apply Wx|apply W6)|apply oi|(apply fi<;>intro h)|refine⟨_,rfl,?_⟩|((with_reducible show _=_);rfl))
    all_goals try((with_reducible refine Obl.mk ?_);exact KP)
    all_goals try exact⟨KW⟩
    all_goals(refine⟨?_⟩;dsimp only;rw[htk,hfl];simp[deepRows,TLine.tr])
  ·have hke:k=l.length:=by omega
   subst hke
   rw[List.take_length]
   repeat' ((conv=>whnf);first|(with_reducible first|apply Wx|apply W6)|apply oi|(apply fi<;>intro h)|refine⟨_,rfl,?_⟩|((with_reducible show _=_);rfl))
   all_goals try((with_reducible refine Obl.mk ?_);exact KP)
   all_goals try exact KX
end Go.Proofs.YtogdbgmiigfmfaaGreat
namespace Go.Proofs.YtogdbgmiigfmfaaGreat
open Go.Sim
set_option maxRecDepth 100000
set_option maxHeartbeats 4000000
def offI (x:TItem):TItem:=⟨x.fOp,x.fLine,false,x.fChain,x.fDepth,x.fEntered⟩
def clrAt (pend:List Nat)(i:Nat)(x:TItem):TItem:=if pend.contains i=true then offI x else x
def clrF (pend:List Nat):Nat→List TItem→List TItem
 | _,[]=>[]
 | i,x::l=>clrAt pend i x::clrF pend (i+1) l
def clr (pend:List Nat)(l:List TItem):List TItem:=clrF pend 0 l
theorem clrF_len (pend:List Nat):∀(l:List TItem) (i:Nat),(clrF pend i l).length=l.length
 | [],_=>rfl
 | x::l,i=>by rw[clrF,List.length_cons,List.length_cons,clrF_len pend l]
theorem clr_len (pend:List Nat)(l:List TItem):(clr pend l).length=l.length:=clrF_len pend l 0
theorem clrF_get (pend:List Nat):∀(l:List TItem) (i j:Nat),(clrF pend i l)[j]?=(l[j]?).map (clrAt pend (i+j))
 | [],i,j=>by simp[clrF]
 | x::l,i,0=>by simp[clrF]
 | x::l,i,j+1=>by
  rw[clrF,List.getElem?_cons_succ,clrF_get pend l,List.getElem?_cons_succ,show i+1+j=i+(j+1) by omega]
theorem clr_get (pend:List Nat)(l:List TItem)(j:Nat):(clr pend l)[j]?=(l[j]?).map (clrAt pend j):=by
 rw[clr,clrF_get,Nat.zero_add]
theorem clrF_append (pend:List Nat):∀(a b:List TItem) (i:Nat),clrF pend i (a++b)=clrF pend i a++clrF pend (i+a.length) b
 | [],b,i=>by simp[clrF]
 | x::a,b,i=>by
  rw[List.cons_append,clrF,clrF,clrF_append pend a b,List.cons_append,List.length_cons,show i+1+a.length=i+(a.length+1) by omega]
theorem clr_snoc (pend:List Nat)(l:List TItem)(x:TItem):clr pend (l++[x])=clr pend l++[clrAt pend l.length x]:=by
 rw[clr,clrF_append,Nat.zero_add]
 rfl
theorem offI_off {x:TItem}(h:x.fStart=false):offI x=x:=by
 obtain⟨a,b,c,d,e,f⟩:=x
 simp only at h
 subst h
 rfl
theorem clr_set (pend:List Nat)(l:List TItem)(j:Nat)(x:TItem):clr pend (l.set j x)=(clr pend l).set j (clrAt pend j x):=by
 apply List.ext_getElem?
 intro i
 rw[clr_get,List.getElem?_set,List.getElem?_set,clr_len,clr_get]
 by_cases h:j=i
 ·subst h
  rw[if_pos rfl,if_pos rfl]
  split <;> rfl
 ·rw[if_neg h,if_neg h]
theorem clr_setArg (pend:List Nat)(l:List TItem)(j v:Int):clr pend (setArg l j v)=setArg (clr pend l) j v:=by
 unfold setArg
 split
 ·rw[clr_get]
  cases hx:l[j.toNat]? with
  | none=>rfl
  | some x=>
   dsimp only[Option.map_some]
   rw[clr_set]
   congr 1
   unfold clrAt
   split <;> rfl
 ·rfl
theorem clr_nil (l:List TItem):clr [] l=l:=by
 apply List.ext_getElem?
 intro i
 rw[clr_get]
 cases l[i]? <;> rfl
def Beg (b:Nat)(s:Gs):Prop:=b≤s.items.length∧(s.start=true↔s.items.length=b)
theorem Beg.emit {b:Nat}{s:Gs}(h:Beg b s)(C:Cx)(d code arg line:Int)(chain:List Int):Beg b (emitG C s d code arg line chain):=by
 obtain⟨h1,h2⟩:=h
 refine⟨by simp only[emitG,List.length_append,List.length_cons,List.length_nil];omega,?_⟩
 simp only[emitG,List.length_append,List.length_cons,List.length_nil]
 exact⟨fun h=>(by cases h),fun h=>by omega⟩
theorem Beg.off {b:Nat}{s s':Gs}(h:Beg b s)(h1:s.items.length < s'.items.length)(h2:s'.start=false):Beg b s':=by
 have:=h.1
 exact⟨by omega,by rw[h2];exact⟨fun h=>(by cases h),fun h=>by omega⟩⟩
theorem storesG_beg {b:Nat}{C:Cx}(y:Sc)(chain:List Int)(line:Int):∀(n:Nat) (d:Int) (s:Gs),Beg b s→Beg b (storesG C y chain line n d s)
 | 0,d,s,h=>h
 | n+1,d,s,h=>by rw[storesG];exact storesG_beg y chain line n (d - 1) _ (h.emit ..)
theorem zerosG_beg {b:Nat}{C:Cx}(y:Sc)(chain:List Int)(line d:Int):∀(n i:Nat) (s:Gs),Beg b s→Beg b (zerosG C y chain line d n i s)
 | 0,i,s,h=>h
 | n+1,i,s,h=>by rw[zerosG];exact zerosG_beg y chain line d n (i+1) _ ((h.emit ..).emit ..)
theorem leaveG_off {C:Cx}{x:Sc}{k:Nat}{last:Bool}{d:Int}{L:Ls}(h:L.g.start=false∨(x.outer=true∨last=false)):(leaveG C x k last d L).g.start=false:=by
 unfold leaveG
 split
 ·split <;> rfl
 ·split
  ·rename_i h1 h2
   rcases h with h|h|h
   ·exact h
   ·exact absurd h h1
   ·rw[h2]at h;cases h
  ·rfl
theorem stepA_off {C:Cx}{rep:Sc→List Nat→Nat→Nat→Int→Gs→Gs}{x:Sc}{ins:List Nat}{base:Int}{k:Nat}{ln:TLine}{L:Ls}(h:L.g.start=false):(stepA C rep x ins base k ln L).g.start=false:=by
 unfold stepA
 split
 ·rfl
 ·split
  ·split
   ·exact leaveG_off (.inl rfl)
   ·split
    ·rfl
    ·exact h
  ·dsimp only
   split
   ·rfl
   ·split
    ·rfl
    ·split
     ·exact leaveG_off (.inr (.inr rfl))
     ·rfl
theorem stepB_off {C:Cx}{x:Sc}{k:Nat}{ln:TLine}{L:Ls}(h:L.g.start=false):(stepB C x k ln L).g.start=false:=by
 unfold stepB
 split <;> exact h
theorem runL_off {C:Cx}{rep:Sc→List Nat→Nat→Nat→Int→Gs→Gs}{x:Sc}{ins:List Nat}{base:Int}:∀(n k:Nat) (L:Ls),L.g.start=false→(runL C rep x ins base n k L).g.start=false
 | 0,k,L,h=>h
 | n+1,k,L,h=>by
  rw[runL]
  split
  ·exact runL_off n (k+1) _ (stepB_off (stepA_off h))
  ·exact h
theorem linesG_off {C:Cx}{rep:Sc→List Nat→Nat→Nat→Int→Gs→Gs}{x:Sc}{ins:List Nat}{base:Int}{s:Gs}(h:s.start=false):(linesG C rep x ins base s).1.start=false:=runL_off _ _ _ h
theorem spaceG_beg {b:Nat}{C:Cx}{x:Sc}{line:Nat}{d:Int}{s:Gs}(h:Beg b s):Beg b (spaceG C x line d s)∧(spaceG C x line d s).start=false:=by
 unfold spaceG
 split
 ·exact⟨h.emit ..,rfl⟩
 ·rename_i hn;exact⟨h,by simpa using hn⟩
theorem repN_beg {C:Cx}(hC:CxOk C):∀(lev:Nat) {x:Sc} {ins:List Nat} {b:Nat} (line g:Nat) (d:Int) (s:Gs),ScOk C x ins→isFun C g→replB C ins g s.items.length=true→Beg b s→Beg b (repN C lev x ins line g d s)
 | 0,x,ins,b,line,g,d,s,hx,hg,hr,h=>h
 | lev+1,x,ins,b,line,g,d,s,hx,hg,hr,h=>by
  have hy:=inSc_ok hC hx line hg
  have h1:Beg b (preG C x line g d s):=by
   unfold preG
   exact zerosG_beg _ _ _ _ _ _ _ (storesG_beg _ _ _ _ _ _ ⟨h.1,h.2⟩)
  obtain⟨h2,h3⟩:=spaceG_beg (C:=C) (x:=x) (line:=line) (d:=d - argsN C.p g) h1
  have hG:=linesG_grow (lev:=lev) (rep:=repN C lev) (fun line g d s hg hr=>repN_grow hC lev line g d s hy hg hr) hC hy (d - argsN C.p g) (spaceG C x line (d - argsN C.p g) (preG C x line g d s))
  have hoff:=linesG_off (C:=C) (rep:=repN C lev) (x:=inSc C x line g) (ins:=ins++[g]) (base:=d - argsN C.p g) h3
  show Beg b (replG C (linesG C (repN C lev)) x ins line g d s)
  unfold replG
  have hb:=h2.2
  rw[h3]at hb
  have hne:(spaceG C x line (d - argsN C.p g) (preG C x line g d s)).items.length≠b:=fun e=>by have:=hb.2 e;cases this
  have hle:=h2.1
  have hge:=hG.ge
  refine⟨by dsimp only;rw[patchL_len];omega,?_⟩
  dsimp only
  rw[patchL_len,hoff]
  exact⟨fun h=>(by cases h),fun h=>by omega⟩
section
variable {C:Cx} {x:Sc} {ins:List Nat} {rep:Sc→List Nat→Nat→Nat→Int→Gs→Gs} {line b:Nat}
theorem finG_beg (hrep:∀g d s,isFun C g→replB C ins g s.items.length=true→Beg b s→Beg b (rep x ins line g d s))(t:TTok)(d:Int){s:Gs}(h:Beg b s):Beg b (finG C rep x ins line t d s):=by
 unfold finG
 split
 ·exact h.emit ..
 ·split
  ·exact h.emit ..
  ·split
   ·split
    ·rename_i g hg
     split
     ·rename_i hr
      obtain⟨_,ln,h1,h2,_⟩:=find_some hg
      exact hrep g d s ⟨ln,h1,h2⟩ hr h
     ·exact h.emit ..
    ·exact h
   ·exact h.emit ..
mutual
theorem genE_beg (hrep:∀g d s,isFun C g→replB C ins g s.items.length=true→Beg b s→Beg b (rep x ins line g d s)):∀(e:Ex) (d:Int) {s:Gs},Beg b s→Beg b (genE C rep x ins line e d s)
 | .node t es,d,s,h=>by
  rw[genE]
  exact finG_beg hrep t _ (genEs_beg hrep es d h)
theorem genEs_beg (hrep:∀g d s,isFun C g→replB C ins g s.items.length=true→Beg b s→Beg b (rep x ins line g d s)):∀(es:List Ex) (d:Int) {s:Gs},Beg b s→Beg b (genEs C rep x ins line es d s)
 | [],d,s,h=>h
 | a::es,d,s,h=>by
  rw[genEs]
  exact genEs_beg hrep es (d+1) (genE_beg hrep a d h)
end
end
def Keep (s s':Gs):Prop:=∀(j:Nat) (it:TItem),s.items[j]?=some it→∃it',s'.items[j]?=some it'∧it'.fStart=it.fStart
theorem Keep.refl (s:Gs):Keep s s:=fun _ it h=>⟨it,h,rfl⟩
theorem Keep.trans {a b c:Gs}(h:Keep a b)(h':Keep b c):Keep a c:=fun j it hj=>by
 obtain⟨it1,h1,e1⟩:=h j it hj
 obtain⟨it2,h2,e2⟩:=h' j it1 h1
 exact⟨it2,h2,e2.trans e1⟩
theorem Keep.emit (C:Cx)(s:Gs)(d code arg line:Int)(chain:List Int):Keep s (emitG C s d code arg line chain):=fun j it hj=>by
 refine⟨it,?_,rfl⟩
 show(s.items++_)[j]?=_
 rw[List.getElem?_append_left (lt_of_get hj)]
 exact hj
theorem setArg_keep {l:List TItem}{j v:Int}{i:Nat}{it:TItem}(h:l[i]?=some it):∃it',(setArg l j v)[i]?=some it'∧it'.fStart=it.fStart:=by
 unfold setArg
 split
 ·split
  ·rename_i x hx
   by_cases hij:j.toNat=i
   ·subst hij
    rw[hx]at h
    injection h with h
    subst h
    exact⟨_,List.getElem?_set_self (lt_of_get hx),rfl⟩
   ·exact⟨it,by rw[List.getElem?_set_ne hij];exact h,rfl⟩
  ·exact⟨it,h,rfl⟩
 ·exact⟨it,h,rfl⟩
theorem patchL_keep {v:Int}:∀{js:List Int} {l:List TItem} {i:Nat} {it:TItem},l[i]?=some it→∃it',(patchL l v js)[i]?=some it'∧it'.fStart=it.fStart
 | [],l,i,it,h=>⟨it,h,rfl⟩
 | j::js,l,i,it,h=>by
  obtain⟨it1,h1,e1⟩:=setArg_keep (j:=j) (v:=v) h
  obtain⟨it2,h2,e2⟩:=patchL_keep (v:=v) (js:=js) h1
  exact⟨it2,by rw[patchL];exact h2,e2.trans e1⟩
theorem storesG_keep {C:Cx}(y:Sc)(chain:List Int)(line:Int):∀(n:Nat) (d:Int) (s:Gs),Keep s (storesG C y chain line n d s)
 | 0,d,s=>Keep.refl s
 | n+1,d,s=>by rw[storesG];exact(Keep.emit C s d _ _ _ _).trans (storesG_keep y chain line n (d - 1) _)
theorem zerosG_keep {C:Cx}(y:Sc)(chain:List Int)(line d:Int):∀(n i:Nat) (s:Gs),Keep s (zerosG C y chain line d n i s)
 | 0,i,s=>Keep.refl s
 | n+1,i,s=>by rw[zerosG];exact((Keep.emit C s d _ _ _ _).trans (Keep.emit C _ (d+1) _ _ _ _)).trans (zerosG_keep y chain line d n (i+1) _)
theorem leaveG_keep {C:Cx}{x:Sc}(k:Nat)(last:Bool)(d:Int)(L:Ls):Keep L.g (leaveG C x k last d L).g:=by
 unfold leaveG
 split
 ·split
  ·exact Keep.emit _ _ _ _ _ _ _
  ·exact Keep.emit _ _ _ _ _ _ _
 ·split
  ·exact Keep.refl _
  ·exact Keep.emit _ _ _ _ _ _ _
section
variable {C:Cx} {rep:Sc→List Nat→Nat→Nat→Int→Gs→Gs}
theorem finG_keep (hrep:∀x ins line g d s,Keep s (rep x ins line g d s))(x:Sc)(ins:List Nat)(line:Nat)(t:TTok)(d:Int)(s:Gs):Keep s (finG C rep x ins line t d s):=by
 unfold finG
 repeat' split
 all_goals first|exact Keep.emit _ _ _ _ _ _ _|exact hrep _ _ _ _ _ _|exact Keep.refl _
mutual
theorem genE_keep (hrep:∀x ins line g d s,Keep s (rep x ins line g d s))(x:Sc)(ins:List Nat)(line:Nat):∀(e:Ex) (d:Int) (s:Gs),Keep s (genE C rep x ins line e d s)
 | .node t es,d,s=>by rw[genE];exact(genEs_keep hrep x ins line es d s).trans (finG_keep hrep x ins line t _ _)
theorem genEs_keep (hrep:∀x ins line g d s,Keep s (rep x ins line g d s))(x:Sc)(ins:List Nat)(line:Nat):∀(es:List Ex) (d:Int) (s:Gs),Keep s (genEs C rep x ins line es d s)
 | [],d,s=>Keep.refl s
 | a::es,d,s=>by rw[genEs];exact(genE_keep hrep x ins line a d s).trans (genEs_keep hrep x ins line es (d+1) _)
end
theorem stepA_keep (hrep:∀x ins line g d s,Keep s (rep x ins line g d s))(x:Sc)(ins:List Nat)(base:Int)(k:Nat)(ln:TLine)(L:Ls):Keep L.g (stepA C rep x ins base k ln L).g:=by
 unfold stepA
 split
 ·intro j it hj
  obtain⟨it1,h1,e1⟩:=Keep.emit C L.g base 10 0 k x.chain j it hj
  obtain⟨it2,h2,e2⟩:=setArg_keep (j:=atL L.pos (ownOf C.p k)) (v:=((emitG C L.g base 10 0 k x.chain).items.length:Int)) h1
  exact⟨it2,h2,e2.trans e1⟩
 ·split
  ·split
   ·exact(Keep.emit C L.g base 0 0 k x.chain).trans (leaveG_keep k true (base+1) {L with g:=emitG C L.g base 0 0 k x.chain})
   ·split
    ·exact Keep.emit _ _ _ _ _ _ _
    ·exact Keep.refl _
  ·have h20:Keep L.g (genE C rep x ins k (exL ln.fExpr) base ⟨L.g.items,L.g.most,true⟩):=fun j it hj=>genE_keep hrep x ins k (exL ln.fExpr) base ⟨L.g.items,L.g.most,true⟩ j it hj
   dsimp only
   split
   ·exact h20.trans (Keep.emit _ _ _ _ _ _ _)
   ·split
    ·exact h20.trans (Keep.emit _ _ _ _ _ _ _)
    ·split
     ·exact h20.trans (leaveG_keep k false (base+1) {L with g:=genE C rep x ins k (exL ln.fExpr) base ⟨L.g.items,L.g.most,true⟩,heads:=L.heads.set k L.g.items.length})
     ·exact h20.trans (Keep.emit _ _ _ _ _ _ _)
theorem stepB_keep (x:Sc)(k:Nat)(ln:TLine)(L:Ls):Keep L.g (stepB C x k ln L).g:=by
 unfold stepB
 split
 ·exact fun j it hj=>setArg_keep hj
 ·exact Keep.refl _
theorem runL_keep (hrep:∀x ins line g d s,Keep s (rep x ins line g d s))(x:Sc)(ins:List Nat)(base:Int):∀(n k:Nat) (L:Ls),Keep L.g (runL C rep x ins base n k L).g
 | 0,k,L=>Keep.refl _
 | n+1,k,L=>by
  rw[runL]
  split
  ·rename_i ln _
   exact((stepA_keep hrep x ins base k ln L).trans (stepB_keep x k ln _)).trans (runL_keep hrep x ins base n (k+1) _)
  ·exact Keep.refl _
end
theorem repN_keep {C:Cx}:∀(lev:Nat) (x:Sc) (ins:List Nat) (line g:Nat) (d:Int) (s:Gs),Keep s (repN C lev x ins line g d s)
 | 0,x,ins,line,g,d,s=>Keep.refl s
 | lev+1,x,ins,line,g,d,s=>by
  show Keep s (replG C (linesG C (repN C lev)) x ins line g d s)
  unfold replG
  have h1:Keep s (preG C x line g d s):=by
   unfold preG
   exact fun j it hj=>((storesG_keep _ _ _ _ _ _).trans (zerosG_keep _ _ _ _ _ _ _)) j it hj
  have h2:Keep (preG C x line g d s) (spaceG C x line (d - argsN C.p g) (preG C x line g d s)):=by
   unfold spaceG
   split
   ·exact Keep.emit _ _ _ _ _ _ _
   ·exact Keep.refl _
  have h3:Keep (spaceG C x line (d - argsN C.p g) (preG C x line g d s)) (linesG C (repN C lev) (inSc C x line g) (ins++[g]) (d - argsN C.p g) (spaceG C x line (d - argsN C.p g) (preG C x line g d s))).1:=runL_keep (fun x ins line g d s=>repN_keep lev x ins line g d s) _ _ _ _ _ (startL C _)
  intro j it hj
  obtain⟨it1,k1,e1⟩:=((h1.trans h2).trans h3) j it hj
  obtain⟨it2,k2,e2⟩:=patchL_keep (v:=((linesG C (repN C lev) (inSc C x line g) (ins++[g]) (d - argsN C.p g) (spaceG C x line (d - argsN C.p g) (preG C x line g d s))).1.items.length:Int)) (js:=(linesG C (repN C lev) (inSc C x line g) (ins++[g]) (d - argsN C.p g) (spaceG C x line (d - argsN C.p g) (preG C x line g d s))).2) k1
  exact⟨it2,k2,e2.trans e1⟩
def Mark (b:Nat)(s:Gs):Prop:=(s.start=true∧s.items.length=b)∨∃it,s.items[b]?=some it∧it.fStart=true
theorem Mark.keep {b:Nat}{s s':Gs}(h:∃it,s.items[b]?=some it∧it.fStart=true)(hk:Keep s s'):∃it,s'.items[b]?=some it∧it.fStart=true:=by
 obtain⟨it,h1,h2⟩:=h
 obtain⟨it',h3,h4⟩:=hk b it h1
 exact⟨it',h3,h4.trans h2⟩
theorem Mark.emit {b:Nat}{s:Gs}(h:Mark b s)(C:Cx)(d code arg line:Int)(chain:List Int):Mark b (emitG C s d code arg line chain):=by
 rcases h with⟨h1,h2⟩|h
 ·refine .inr ⟨mkItem C s d code arg line chain,?_,h1⟩
  show(s.items++[_])[b]?=_
  rw[←h2]
  simp
 ·exact .inr (Mark.keep h (Keep.emit _ _ _ _ _ _ _))
theorem storesG_mark {b:Nat}{C:Cx}(y:Sc)(chain:List Int)(line:Int):∀(n:Nat) (d:Int) (s:Gs),Mark b s→Mark b (storesG C y chain line n d s)
 | 0,d,s,h=>h
 | n+1,d,s,h=>by rw[storesG];exact storesG_mark y chain line n (d - 1) _ (h.emit ..)
theorem zerosG_mark {b:Nat}{C:Cx}(y:Sc)(chain:List Int)(line d:Int):∀(n i:Nat) (s:Gs),Mark b s→Mark b (zerosG C y chain line d n i s)
 | 0,i,s,h=>h
 | n+1,i,s,h=>by rw[zerosG];exact zerosG_mark y chain line d n (i+1) _ ((h.emit ..).emit ..)
theorem repN_mark {C:Cx}:∀(lev:Nat) {b:Nat} (x:Sc) (ins:List Nat) (line g:Nat) (d:Int) (s:Gs),Mark b s→Mark b (repN C lev x ins line g d s)
 | 0,b,x,ins,line,g,d,s,h=>h
 | lev+1,b,x,ins,line,g,d,s,h=>by
  show Mark b (replG C (linesG C (repN C lev)) x ins line g d s)
  unfold replG
  have h1:Mark b (preG C x line g d s):=by
   unfold preG
   exact zerosG_mark _ _ _ _ _ _ _ (storesG_mark _ _ _ _ _ _ h)
  have h2:∃it,(spaceG C x line (d - argsN C.p g) (preG C x line g d s)).items[b]?=some it∧it.fStart=true:=by
   unfold spaceG
   split
   ·rcases Mark.emit h1 C (d - argsN C.p g) 15 0 line x.chain with⟨k,_⟩|k
    ·cases k
    ·exact k
   ·rename_i hn
    rcases h1 with⟨k,_⟩|k
    ·exact absurd k hn
    ·exact k
  have h3:=Mark.keep h2 (runL_keep (C:=C) (rep:=repN C lev) (fun x ins line g d s=>repN_keep lev x ins line g d s) (inSc C x line g) (ins++[g]) (d - argsN C.p g) (endL' C.p g - g) (g+1) (startL C _))
  obtain⟨it,k1,k2⟩:=h3
  obtain⟨it2,k3,e2⟩:=patchL_keep (v:=((linesG C (repN C lev) (inSc C x line g) (ins++[g]) (d - argsN C.p g) (spaceG C x line (d - argsN C.p g) (preG C x line g d s))).1.items.length:Int)) (js:=(linesG C (repN C lev) (inSc C x line g) (ins++[g]) (d - argsN C.p g) (spaceG C x line (d - argsN C.p g) (preG C x line g d s))).2) k1
  exact .inr ⟨it2,k3,e2.trans k2⟩
section
variable {C:Cx} {rep:Sc→List Nat→Nat→Nat→Int→Gs→Gs} {b:Nat}
theorem finG_mark (hrep:∀x ins line g d s,Mark b s→Mark b (rep x ins line g d s))(x:Sc)(ins:List Nat)(line:Nat)(t:TTok)(d:Int)(s:Gs)(h:Mark b s):Mark b (finG C rep x ins line t d s):=by
 unfold finG
 repeat' split
 all_goals first|exact Mark.emit h ..|exact hrep _ _ _ _ _ _ h|exact h
mutual
theorem genE_mark (hrep:∀x ins line g d s,Mark b s→Mark b (rep x ins line g d s))(x:Sc)(ins:List Nat)(line:Nat):∀(e:Ex) (d:Int) (s:Gs),Mark b s→Mark b (genE C rep x ins line e d s)
 | .node t es,d,s,h=>by rw[genE];exact finG_mark hrep x ins line t _ _ (genEs_mark hrep x ins line es d s h)
theorem genEs_mark (hrep:∀x ins line g d s,Mark b s→Mark b (rep x ins line g d s))(x:Sc)(ins:List Nat)(line:Nat):∀(es:List Ex) (d:Int) (s:Gs),Mark b s→Mark b (genEs C rep x ins line es d s)
 | [],d,s,h=>h
 | a::es,d,s,h=>by rw[genEs];exact genEs_mark hrep x ins line es (d+1) _ (genE_mark hrep x ins line a d s h)
end
end
theorem repN_off {C:Cx}{lev:Nat}{x:Sc}{ins:List Nat}{line g:Nat}{d:Int}{s:Gs}{b:Nat}(h:Beg b s):(repN C (lev+1) x ins line g d s).start=false:=by
 show(replG C (linesG C (repN C lev)) x ins line g d s).start=false
 unfold replG
 have h1:Beg b (preG C x line g d s):=by
  unfold preG
  exact zerosG_beg _ _ _ _ _ _ _ (storesG_beg _ _ _ _ _ _ ⟨h.1,h.2⟩)
 exact linesG_off (spaceG_beg (C:=C) (x:=x) (line:=line) (d:=d - argsN C.p g) h1).2
end Go.Proofs.YtogdbgmiigfmfaaGreat
namespace Go.Proofs.YtogdbgmiigfmfaaGreat
open Go.Sim
set_option maxRecDepth 100000
set_option maxHeartbeats 4000000
structure Ib where
 f:Int
 e:Int
 locals:List (List UInt8)
 args:Int
 first:Int
 chain:List Int
 base:Int
abbrev ibB (q:Ib)(j:Sim.Id):AO:= .box [.t (.int .i64 q.f),.t (.int .i64 q.e),.t (.lst 1 (q.locals.map strRow)),.t (.int .i64 q.args),.t (.int .i64 q.first),.t (.lst 1 (q.chain.map intRow)),.t (.int .i64 q.base),.own j]
abbrev cmpB (C:Cx)(s:Gs)(d:Int)(i1 i2:Sim.Id):AO:= .box [.t (.lst 4 (C.p.map TLine.tr)),.t (.int .i64 C.b.fFrames),.t (.int .i64 C.b.fInline),.t (.bool C.b.fFold),.t (.bool C.b.fSplit),.t (.bool C.framed),.t (.int .i64 C.words),.t (.int .i64 s.most),.own i1,.t (.int .i64 d),.own i2]
abbrev insR (ins:List Nat):List (List Tr):=ins.map fun n:Nat=>intRow (n:Int)
abbrev cmpH (i1 i2 j:Sim.Id)(C:Cx)(pd:List Nat)(s:Gs)(d:Int)(ins:List Nat)(q:Ib)(lv:List Int):List (Sim.Id×AO):=
 [((0,0,0),cmpB C s d i1 i2),(i1,.dar 7 (itR (clr pd s.items)) none),(i2,.arr false 1 (insR ins)),((0,1,0),ibB q j),(j,.arr false 1 (lv.map intRow))]
abbrev ibP:AV:= .r (.c (.ptr (0,1,0) 0))
structure IbOk (C:Cx) (x:Sc) (q:Ib):Prop where
 chain:q.chain=x.chain
 first:q.first=x.first
 locals:q.locals=x.locals
 args:x.outer=true→q.args=C.args
 out:x.outer=true↔x.chain=[]
 zero:x.outer=true→x.first=0
theorem clr_emit {C:Cx}{pd:List Nat}{s:Gs}{d code arg line:Int}{chain:List Int}(h:s.start=true→s.items.length∈pd):clr pd (emitG C s d code arg line chain).items=clr pd s.items++[offI (mkItem C s d code arg line chain)]:=by
 show clr pd (s.items++[_])=_
 rw[clr_snoc]
 congr 2
 unfold clrAt
 cases hs:s.start with
 | true=>rw[if_pos (List.contains_iff_mem.2 (h hs))]
 | false=>
  split
  ·rfl
  ·exact(offI_off (by show s.start=false;exact hs)).symm
theorem itR_clr_len (pd:List Nat)(l:List TItem):(itR (clr pd l)).length=l.length:=by rw[itR_len,clr_len]
theorem g_impl_add (C:Cx)(pd:List Nat)(s:Gs)(d:Int)(ins:List Nat)(q:Ib)(lv:List Int)(line code arg change:Int)(h1:roomy s)(h2:q.chain.length≤100)(h3:s.start=true→s.items.length∈pd)(h4:-2000≤d∧d≤2000)(h5:-100≤change∧change≤1000):
  SpecG Tryz.prog 107 [mkrP,ibP,tI .i64 line,tI .i64 code,tI .i64 arg,tI .i64 change] (cmpH (0,0,1) (0,0,2) (0,1,1) C pd s d ins q lv) (.tup []) (cmpH (1,0,1) (0,0,2) (0,1,1) C pd (emitG C s d code arg line q.chain) (d+change) ins q lv):=by
 refine specG_of_Wo hΓ hmix Tryz.func107 rfl (by decide) rfl rfl ?_
 unfold roomy at h1
 have hlen:=itR_clr_len pd s.items
 have hcl:(q.chain.map intRow).length=q.chain.length:=by simp
 have hfl:=flat_ints q.chain
 have hem:=clr_emit (C:=C) (pd:=pd) (s:=s) (d:=d) (code:=code) (arg:=arg) (line:=line) (chain:=q.chain) h3
 repeat' ((conv=>whnf);first|(with_reducible first|apply Wx|apply W6)|apply oi|(apply fi<;>intro h)|refine⟨_,rfl,?_⟩|((with_reducible show _=_);rfl))
 all_goals try((with_reducible refine Obl.mk ?_);exact KP)
 all_goals try exact⟨⟨by rw[hlen];(try dsimp only);omega,by rw[hlen];(try dsimp only);omega⟩⟩
 all_goals try exact⟨⟨by simp <;> omega,by simp <;> omega⟩⟩
 all_goals try exact⟨by simpa using hfl⟩
 all_goals try exact⟨KW⟩
 all_goals(refine⟨?_⟩;rw[hem,itR_snoc];(try rw[hlen]at *);congr 1;simp_all[mkItem,TItem.tr,offI])
theorem g_impl_word (C:Cx)(pd:List Nat)(s:Gs)(d:Int)(ins:List Nat)(q:Ib)(lv:List Int)(y:Sc)(line i:Int)(hy:y.outer=false)(hf:q.first=y.first)(h1:roomy s)(h2:q.chain.length≤100)(h3:s.start=true→s.items.length∈pd)(h4:-1000≤d∧d≤2000)(h5:0≤y.first∧y.first≤1000)(h6:-2≤i∧i≤100):
  SpecG Tryz.prog 204 [mkrP,ibP,tI .i64 line,tI .i64 i] (cmpH (0,0,1) (0,0,2) (0,1,1) C pd s d ins q lv) (.tup []) (cmpH (1,0,1) (0,0,2) (0,1,1) C pd (storeG C y s d i line q.chain) (d - 1) ins q lv):=by
 refine specG_of_Wo hΓ hmix Tryz.func204 rfl (by decide) rfl rfl ?_
 have g1:=g_impl_add C pd s d ins q lv line (placeC C true) (placeA C y d i) (-1) h1 h2 h3 (by omega) (by omega)
 have hy2:isArg C y i=false:=by unfold isArg;rw[hy];rfl
 have hy3:aboveK C y i=y.first+i:=by unfold aboveK;rw[if_neg (by simp[hy])]
 have e1:IntKind.i64.wrap (q.first+i)=y.first+i:=by rw[hf,IntWalk.i64_in _ (by omega)]
 unfold storeG
 cases hfm:C.framed with
 | true=>
  have e2:placeC C true=2:=by unfold placeC;rw[if_pos hfm];rfl
  have e3:placeA C y d i=IntKind.i64.wrap (-1 - IntKind.i64.wrap (q.first+i)):=by unfold placeA;rw[if_pos hfm,if_neg (by simp[hy2]),hy3,e1,IntWalk.i64_in _ (by omega)]
  rw[e2,e3]at g1
  rw[e2,e3]
  repeat' ((conv=>whnf);first|(with_reducible first|apply Wx|apply W6)|refine cg g1 ?_|apply oi|(apply fi<;>intro h)|refine⟨_,rfl,?_⟩|((with_reducible show _=_);rfl))
  all_goals try((with_reducible refine Obl.mk ?_);exact KP)
  all_goals try(exfalso;rw[hfm]at h;cases h;done)
  all_goals try exact⟨KW⟩
 | false=>
  have e2:placeC C true=4:=by unfold placeC;rw[if_neg (by simp[hfm])];rfl
  have e3:placeA C y d i=IntKind.i64.wrap (IntKind.i64.wrap (d - 1) - IntKind.i64.wrap (q.first+i)):=by unfold placeA;rw[if_neg (by simp[hfm]),if_neg (by simp[hy2]),hy3,e1];simp(disch:=omega)only[IntWalk.i64_in]
  rw[e2,e3]at g1
  rw[e2,e3]
  repeat' ((conv=>whnf);first|(with_reducible first|apply Wx|apply W6)|refine cg g1 ?_|apply oi|(apply fi<;>intro h)|refine⟨_,rfl,?_⟩|((with_reducible show _=_);rfl))
  all_goals try((with_reducible refine Obl.mk ?_);exact KP)
  all_goals try(exfalso;rw[hfm]at h;cases h;done)
  all_goals try exact⟨KW⟩
theorem g_impl_access (C:Cx)(hC:CxOk C)(pd:List Nat)(s:Gs)(d:Int)(ins:List Nat)(q:Ib)(lv:List Int)(x:Sc)(hq:IbOk C x q)(line i chg:Int)(store:Bool)(hch:chg=if store=true then -1 else 1)(h1:roomy s)(h2:x.chain.length≤100)(h3:s.start=true→s.items.length∈pd)(h4:-1000≤d∧d≤1999)(h5:0≤x.first∧x.first≤1000)(h6:-2≤i∧i≤100):
  SpecG Tryz.prog 163 [mkrP,ibP,tI .i64 line,tI .i64 i,tB store] (cmpH (0,0,1) (0,0,2) (0,1,1) C pd s d ins q lv) (.tup []) (cmpH (1,0,1) (0,0,2) (0,1,1) C pd (emitG C s d (placeC C store) (placeA C x d i) line x.chain) (d+chg) ins q lv):=by
 refine specG_of_Wo hΓ hmix Tryz.func163 rfl (by decide) rfl rfl ?_
 obtain⟨a1,a2⟩:=hC.args
 obtain⟨qf,qe,ql,qa,qi,qc,qb⟩:=q
 obtain⟨xf,xc,xl,xi,xo⟩:=x
 obtain⟨q1,q2,q3,q4,q5,q6⟩:=hq
 dsimp only at q1 q2 q3 q4 q5 q6 h2 h5
 subst q1;subst q2;subst q3
 have g1:=g_impl_add C pd s d ins ⟨qf,qe,ql,qa,qi,qc,qb⟩ lv line (placeC C store) (placeA C ⟨xf,qc,ql,qi,xo⟩ d i) chg h1 h2 h3 (by omega) (by subst hch;split <;> omega)
 cases xo with
 | true=>
  have e1:qc=[]:=q5.1 rfl
  have e2:=q4 rfl
  have e3:=q6 rfl
  subst e1;subst e2;subst e3
  cases store
  all_goals cases hfm:C.framed
  all_goals skip
  ·skip
   repeat' ((conv=>whnf);first|(with_reducible first|apply Wx|apply W6)|refine cg g1 ?_|apply oi|(apply fi<;>intro h)|refine⟨_,rfl,?_⟩|((with_reducible show _=_);rfl))
   all_goals try((with_reducible refine Obl.mk ?_);exact KP)
   all_goals try(exfalso;rw[hfm]at h;cases h;done)
   all_goals try exact K3
   all_goals try exact⟨congrArg (Tr.int .i64) (by(try subst hch);(try unfold placeC);(try unfold placeA isArg aboveK);(try simp(disch:=omega)only[IntWalk.i64_in]);simp_all <;> omega)⟩
  ·skip
   repeat' ((conv=>whnf);first|(with_reducible first|apply Wx|apply W6)|refine cg g1 ?_|apply oi|(apply fi<;>intro h)|refine⟨_,rfl,?_⟩|((with_reducible show _=_);rfl))
   all_goals try((with_reducible refine Obl.mk ?_);exact KP)
   all_goals try(exfalso;rw[hfm]at h;cases h;done)
   all_goals try exact K3
   all_goals try exact⟨congrArg (Tr.int .i64) (by(try subst hch);(try unfold placeC);(try unfold placeA isArg aboveK);(try simp(disch:=omega)only[IntWalk.i64_in]);simp_all <;> omega)⟩
  ·skip
   repeat' ((conv=>whnf);first|(with_reducible first|apply Wx|apply W6)|refine cg g1 ?_|apply oi|(apply fi<;>intro h)|refine⟨_,rfl,?_⟩|((with_reducible show _=_);rfl))
   all_goals try((with_reducible refine Obl.mk ?_);exact KP)
   all_goals try(exfalso;rw[hfm]at h;cases h;done)
   all_goals try exact K3
   all_goals try exact⟨congrArg (Tr.int .i64) (by(try subst hch);(try unfold placeC);(try unfold placeA isArg aboveK);(try simp(disch:=omega)only[IntWalk.i64_in]);simp_all <;> omega)⟩
  ·skip
   repeat' ((conv=>whnf);first|(with_reducible first|apply Wx|apply W6)|refine cg g1 ?_|apply oi|(apply fi<;>intro h)|refine⟨_,rfl,?_⟩|((with_reducible show _=_);rfl))
   all_goals try((with_reducible refine Obl.mk ?_);exact KP)
   all_goals try(exfalso;rw[hfm]at h;cases h;done)
   all_goals try exact K3
   all_goals try exact⟨congrArg (Tr.int .i64) (by(try subst hch);(try unfold placeC);(try unfold placeA isArg aboveK);(try simp(disch:=omega)only[IntWalk.i64_in]);simp_all <;> omega)⟩
 | false=>
  have hne:qc≠[]:=fun e=>by have:=q5.2 e;cases this
  obtain⟨c,cs,rfl⟩:∃c cs,qc=c::cs:=by
   cases qc with
   | nil=>exact absurd rfl hne
   | cons c cs=>exact⟨c,cs,rfl⟩
  have hcl:(((c::cs).map intRow).length:Int)=(cs.length:Int)+1:=by simp
  cases store
  all_goals cases hfm:C.framed
  all_goals skip
  ·skip
   repeat' ((conv=>whnf);first|(with_reducible first|apply Wx|apply W6)|refine cg g1 ?_|apply oi|(apply fi<;>intro h)|refine⟨_,rfl,?_⟩|((with_reducible show _=_);rfl))
   all_goals try((with_reducible refine Obl.mk ?_);exact KP)
   all_goals try(exfalso;rw[hfm]at h;cases h;done)
   all_goals try exact K3
   all_goals try exact⟨congrArg (Tr.int .i64) (by(try subst hch);(try unfold placeC);(try unfold placeA isArg aboveK);(try simp(disch:=omega)only[IntWalk.i64_in]);simp_all <;> omega)⟩
  ·skip
   repeat' ((conv=>whnf);first|(with_reducible first|apply Wx|apply W6)|refine cg g1 ?_|apply oi|(apply fi<;>intro h)|refine⟨_,rfl,?_⟩|((with_reducible show _=_);rfl))
   all_goals try((with_reducible refine Obl.mk ?_);exact KP)
   all_goals try(exfalso;rw[hfm]at h;cases h;done)
   all_goals try exact K3
   all_goals try exact⟨congrArg (Tr.int .i64) (by(try subst hch);(try unfold placeC);(try unfold placeA isArg aboveK);(try simp(disch:=omega)only[IntWalk.i64_in]);simp_all <;> omega)⟩
  ·skip
   repeat' ((conv=>whnf);first|(with_reducible first|apply Wx|apply W6)|refine cg g1 ?_|apply oi|(apply fi<;>intro h)|refine⟨_,rfl,?_⟩|((with_reducible show _=_);rfl))
   all_goals try((with_reducible refine Obl.mk ?_);exact KP)
   all_goals try(exfalso;rw[hfm]at h;cases h;done)
   all_goals try exact K3
   all_goals try exact⟨congrArg (Tr.int .i64) (by(try subst hch);(try unfold placeC);(try unfold placeA isArg aboveK);(try simp(disch:=omega)only[IntWalk.i64_in]);simp_all <;> omega)⟩
  ·skip
   repeat' ((conv=>whnf);first|(with_reducible first|apply Wx|apply W6)|refine cg g1 ?_|apply oi|(apply fi<;>intro h)|refine⟨_,rfl,?_⟩|((with_reducible show _=_);rfl))
   all_goals try((with_reducible refine Obl.mk ?_);exact KP)
   all_goals try(exfalso;rw[hfm]at h;cases h;done)
   all_goals try exact K3
   all_goals try exact⟨congrArg (Tr.int .i64) (by(try subst hch);(try unfold placeC);(try unfold placeA isArg aboveK);(try simp(disch:=omega)only[IntWalk.i64_in]);simp_all <;> omega)⟩
end Go.Proofs.YtogdbgmiigfmfaaGreat
namespace Go.Proofs.YtogdbgmiigfmfaaGreat
open Go.Sim
set_option maxRecDepth 100000
set_option maxHeartbeats 4000000
theorem g_impl_leave (C:Cx)(hC:CxOk C)(pd:List Nat)(s:Gs)(d:Int)(ins:List Nat)(q:Ib)(lv:List Int)(x:Sc)(hq:IbOk C x q)(k:Nat)(last:Bool)(h1:roomy s)(h2:x.chain.length≤100)(h3:s.start=true→s.items.length∈pd)(h4:-1000≤d∧d≤1999)(hlv:lv.length≤68719476736)(hd p:List Int):
  SpecG Tryz.prog 165 [mkrP,ibP,tI .i64 (k:Int),tB last] (cmpH (0,0,1) (0,0,2) (0,1,1) C pd s d ins q lv) (.tup []) (cmpH (1,0,1) (0,0,2) (1,1,1) C pd (leaveG C x k last d ⟨s,hd,p,lv⟩).g (if x.outer=false∧last=true then d else d - 1) ins q (leaveG C x k last d ⟨s,hd,p,lv⟩).lv):=by
 refine specG_of_Wo hΓ hmix Tryz.func165 rfl (by decide) rfl rfl ?_
 obtain⟨a1,a2⟩:=hC.args
 obtain⟨a3,a4⟩:=hC.words
 obtain⟨qf,qe,ql,qa,qi,qc,qb⟩:=q
 obtain⟨xf,xc,xl,xi,xo⟩:=x
 obtain⟨q1,q2,q3,q4,q5,q6⟩:=hq
 dsimp only at q1 q2 q3 q4 q5 q6 h2
 subst q1;subst q2;subst q3
 have hlen:=itR_clr_len pd s.items
 have hll:(lv.map intRow).length=lv.length:=by simp
 cases xo with
 | true=>
  have e1:qc=[]:=q5.1 rfl
  have e2:=q4 rfl
  subst e1;subst e2
  rw[if_neg (by simp)]
  have e4:IntKind.i64.wrap (C.args+IntKind.i64.wrap (16 * C.words))=C.args+16 * C.words:=by simp(disch:=omega)only[IntWalk.i64_in]
  cases hfm:C.framed with
  | true=>
   have g1:=g_impl_add C pd s d ins ⟨qf,qe,ql,C.args,qi,[],qb⟩ lv k 14 C.args (-1) h1 h2 h3 (by omega) (by omega)
   have e:leaveG C ⟨xf,[],ql,qi,true⟩ k last d ⟨s,hd,p,lv⟩=⟨emitG C s d 14 C.args k [],hd,p,lv⟩:=by simp[leaveG,hfm]
   rw[e]
   cases last
   all_goals skip
   ·skip
    repeat' ((conv=>whnf);first|(with_reducible first|apply Wx|apply W6)|refine cg g1 ?_|apply oi|(apply fi<;>intro h)|refine⟨_,rfl,?_⟩|((with_reducible show _=_);rfl))
    all_goals try((with_reducible refine Obl.mk ?_);exact KP)
    all_goals try exact⟨KW⟩
    all_goals try(exfalso;rw[hfm]at h;cases h;done)
   ·skip
    repeat' ((conv=>whnf);first|(with_reducible first|apply Wx|apply W6)|refine cg g1 ?_|apply oi|(apply fi<;>intro h)|refine⟨_,rfl,?_⟩|((with_reducible show _=_);rfl))
    all_goals try((with_reducible refine Obl.mk ?_);exact KP)
    all_goals try exact⟨KW⟩
    all_goals try(exfalso;rw[hfm]at h;cases h;done)
  | false=>
   have g1:=g_impl_add C pd s d ins ⟨qf,qe,ql,C.args,qi,[],qb⟩ lv k 16 (C.args+16 * C.words) (-1) h1 h2 h3 (by omega) (by omega)
   have e:leaveG C ⟨xf,[],ql,qi,true⟩ k last d ⟨s,hd,p,lv⟩=⟨emitG C s d 16 (IntKind.i64.wrap (C.args+IntKind.i64.wrap (16 * C.words))) k [],hd,p,lv⟩:=by simp[leaveG,hfm,e4]
   rw[←e4]at g1
   rw[e]
   cases last
   all_goals skip
   ·skip
    repeat' ((conv=>whnf);first|(with_reducible first|apply Wx|apply W6)|refine cg g1 ?_|apply oi|(apply fi<;>intro h)|refine⟨_,rfl,?_⟩|((with_reducible show _=_);rfl))
    all_goals try((with_reducible refine Obl.mk ?_);exact KP)
    all_goals try exact⟨KW⟩
    all_goals try(exfalso;rw[hfm]at h;cases h;done)
   ·skip
    repeat' ((conv=>whnf);first|(with_reducible first|apply Wx|apply W6)|refine cg g1 ?_|apply oi|(apply fi<;>intro h)|refine⟨_,rfl,?_⟩|((with_reducible show _=_);rfl))
    all_goals try((with_reducible refine Obl.mk ?_);exact KP)
    all_goals try exact⟨KW⟩
    all_goals try(exfalso;rw[hfm]at h;cases h;done)
 | false=>
  have hne:qc≠[]:=fun e=>by have:=q5.2 e;cases this
  obtain⟨c,cs,rfl⟩:∃c cs,qc=c::cs:=by
   cases qc with
   | nil=>exact absurd rfl hne
   | cons c cs=>exact⟨c,cs,rfl⟩
  have hcl:(((c::cs).map intRow).length:Int)=(cs.length:Int)+1:=by simp
  cases last with
  | true=>
   have e:leaveG C ⟨xf,c::cs,ql,qi,false⟩ k true d ⟨s,hd,p,lv⟩=⟨s,hd,p,lv⟩:=by simp[leaveG]
   rw[e,if_pos ⟨rfl,rfl⟩]
   repeat' ((conv=>whnf);first|(with_reducible first|apply Wx|apply W6)|apply oi|(apply fi<;>intro h)|refine⟨_,rfl,?_⟩|((with_reducible show _=_);rfl))
   all_goals try((with_reducible refine Obl.mk ?_);exact KP)
   all_goals try exact⟨KW⟩
   all_goals try exact KN
  | false=>
   have e:leaveG C ⟨xf,c::cs,ql,qi,false⟩ k false d ⟨s,hd,p,lv⟩=⟨emitG C s d 10 0 k (c::cs),hd,p,lv++[(s.items.length:Int)]⟩:=by simp[leaveG]
   rw[e,if_neg (by simp)]
   have g1:=g_impl_add C pd s d ins ⟨qf,qe,ql,qa,qi,c::cs,qb⟩ (lv++[(s.items.length:Int)]) k 10 0 (-1) h1 h2 h3 (by omega) (by omega)
   have hap:lv.map intRow++[[Tr.int .i64 ((itR (clr pd s.items)).length:Int)]]=(lv++[(s.items.length:Int)]).map intRow:=by rw[hlen];simp[intRow]
   repeat' ((conv=>whnf);first|(with_reducible first|apply Wx|apply W6)|refine cg g1 ?_|apply oi|(apply fi<;>intro h)|refine⟨_,rfl,?_⟩|((with_reducible show _=_);rfl))
   all_goals try((with_reducible refine Obl.mk ?_);exact KP)
   all_goals try exact⟨KW⟩
   all_goals try exact⟨⟨by rw[hll];(try dsimp only);simp only[List.length_cons,List.length_nil];omega,by rw[hll];(try dsimp only);simp only[List.length_cons,List.length_nil];omega⟩⟩
   all_goals try exact⟨hap⟩
   all_goals try exact KN
abbrev cmpH3 (i1 i2:Sim.Id)(C:Cx)(pd:List Nat)(s:Gs)(d:Int)(ins:List Nat):List (Sim.Id×AO):=[((0,0,0),cmpB C s d i1 i2),(i1,.dar 7 (itR (clr pd s.items)) none),(i2,.arr false 1 (insR ins))]
theorem idxN_funs {g:Nat}:∀{l:List TLine} {i j:Nat} {x:TLine},i≤g→l[g - i]?=some x→x.fKind=0→idxN ((funsF l i).map fun n:Nat=>(n:Int)) j (g:Int)=some (j+((l.take (g - i)).filter fun x=>x.fKind==0).length)
 | [],i,j,x,h,hx,_=>by simp at hx
 | y::l,i,j,x,h,hx,h0=>by
  rw[funsF]
  by_cases hgi:g=i
  ·subst hgi
   rw[Nat.sub_self,List.getElem?_cons_zero]at hx
   injection hx with hx
   subst hx
   rw[if_pos h0,List.map_append,List.map_cons,List.cons_append,idxN,if_pos (by simp),Nat.sub_self]
   simp
  ·have hs:g - i=(g - (i+1))+1:=by omega
   rw[hs,List.getElem?_cons_succ]at hx
   have ih:=fun j=>idxN_funs (g:=g) (l:=l) (i:=i+1) (j:=j) (by omega) hx h0
   rw[hs,List.take_succ_cons]
   by_cases hy:y.fKind=0
   ·rw[if_pos hy,List.map_append,List.map_cons,List.map_nil,List.cons_append,List.nil_append,idxN,if_neg (by simp;omega),ih,List.filter_cons,if_pos (by simp[hy]),List.length_cons]
    congr 1;omega
   ·rw[if_neg hy,List.nil_append,ih,List.filter_cons,if_neg (by simp[hy])]
theorem idx_funs {C:Cx}{g:Nat}(hg:isFun C g):idxOf ((funs C.p).map fun n:Nat=>(n:Int)) (g:Int)=(numOf C.p g:Int):=by
 obtain⟨x,hx,h0⟩:=hg
 have:=idxN_funs (l:=C.p) (i:=0) (j:=0) (x:=x) (Nat.zero_le g) (by simpa using hx) h0
 unfold idxOf funs
 rw[this]
 simp[endI,numOf]
theorem g_impl_numberOf (C:Cx)(hC:CxOk C)(pd:List Nat)(s:Gs)(d:Int)(ins:List Nat)(g:Nat)(hg:isFun C g):
  SpecG Tryz.prog 195 [mkrP,tI .i64 (g:Int)] (cmpH3 (0,0,1) (0,0,2) C pd s d ins) (tI .i64 (numOf C.p g:Int)) (cmpH3 (0,0,1) (0,0,2) C pd s d ins):=by
 refine specG_of_Wo hΓ hmix Tryz.func195 rfl (by decide) rfl rfl ?_
 have h60:=hC.len
 have gF:=s_impl_FunctionLines C.p (by omega)
 have hfl:=funsF_len C.p 0
 have gI:=s_slices_IndexI ((funs C.p).map fun n:Nat=>(n:Int)) (g:Int) (by unfold funs;rw[List.length_map];omega)
 rw[idx_funs hg,List.map_map]at gI
 repeat' ((conv=>whnf);first|(with_reducible first|apply Wx|apply W6)|apply oi|(apply fi<;>intro h)|refine cl gF ?_|refine cl gI ?_|refine⟨_,rfl,?_⟩|((with_reducible show _=_);rfl))
 all_goals try((with_reducible refine Obl.mk ?_);exact KP)
theorem insR_has (ins:List Nat)(g:Nat):(ins.map fun n:Nat=>(n:Int)).contains (g:Int)=ins.contains g:=by
 induction ins with
 | nil=>rfl
 | cons a l ih=>
  rw[List.map_cons,List.contains_cons,List.contains_cons,ih]
  congr 1
  rw[Bool.eq_iff_iff]
  simp
  omega
theorem g_impl_replaced (C:Cx)(hC:CxOk C)(pd:List Nat)(s:Gs)(d:Int)(ins:List Nat)(q:Ib)(lv:List Int)(g:Nat)(h1:roomy s)(hS:q.chain.length+1=ins.length)(hi:ins.length≤100)(hg:g < C.p.length):
  SpecG Tryz.prog 193 [mkrP,ibP,tI .i64 (g:Int)] (cmpH (0,0,1) (0,0,2) (0,1,1) C pd s d ins q lv) (tB (replB C ins g s.items.length)) (cmpH (0,0,1) (0,0,2) (0,1,1) C pd s d ins q lv):=by
 refine specG_of_Wo hΓ hmix Tryz.func193 rfl (by decide) rfl rfl ?_
 unfold roomy at h1
 have hlen:=itR_clr_len pd s.items
 have h60:=hC.len
 have hin:=hC.inl
 have hE:=s_impl_EndOf C.p (g:Int) (by omega)
 have gC:=s_slices_ContainsI (ins.map fun n:Nat=>(n:Int)) (g:Int) (by rw[List.length_map];omega)
 rw[insR_has,List.map_map]at gC
 have hee:=endOf_ge C.p g
 have hql:((q.chain.map intRow).length:Int)=(ins.length:Int) - 1:=by rw[List.length_map];omega
 have hw2:IntKind.i64.wrap (endOf C.p (g:Int) - (g:Int))=endOf C.p (g:Int) - g:=by rw[IntWalk.i64_in _ (by omega)]
 have hr:replB C ins g s.items.length=(decide ((ins.length:Int)≤C.b.fInline) && (decide (endOf C.p (g:Int) - g≤9) && (decide (s.items.length < 200) && !ins.contains g))):=rfl
 rw[hr]
 generalize endOf C.p (g:Int)=eg at *
 cases hcn:ins.contains g with
 | true=>
  rw[hcn]at gC
  repeat' ((conv=>whnf);first|(with_reducible first|apply Wx|apply W6)|apply oi|(apply fi<;>intro h)|refine cl gC ?_|refine cl hE ?_|refine⟨_,rfl,?_⟩|((with_reducible show _=_);rfl))
  all_goals try((with_reducible refine Obl.mk ?_);exact KP)
  all_goals exact⟨by simp⟩
 | false=>
  rw[hcn]at gC
  repeat' ((conv=>whnf);first|(with_reducible first|apply Wx|apply W6)|apply oi|(apply fi<;>intro h)|refine cl gC ?_|refine cl hE ?_|refine⟨_,rfl,?_⟩|((with_reducible show _=_);rfl))
  all_goals try((with_reducible refine Obl.mk ?_);exact KP)
  all_goals(refine⟨congrArg Tr.bool ?_⟩;(try rw[hlen]);rw[Bool.eq_iff_iff];simp only[Bool.and_eq_true,decide_eq_true_eq,Bool.not_false,and_true,Bool.false_eq_true];clear hr hcn gC hE;simp only[hw2,hql,decide_eq_true_eq,decide_eq_false_iff_not]at *;first|omega|exact iff_of_false id (by omega))
end Go.Proofs.YtogdbgmiigfmfaaGreat
namespace Go.Proofs.YtogdbgmiigfmfaaGreat
open Go.Sim
set_option maxRecDepth 100000
set_option maxHeartbeats 4000000
structure IRm (C:Cx) (lev n:Nat) (x:Sc) (q:Ib) (ins pd:List Nat) (b:Nat) (s:Gs) (d:Int):Prop where
 sc:ScOk C x ins
 ib:IbOk C x q
 rm:Rm C lev n (ins.length - 1) s d
 beg:Beg b s
 mem:b∈pd
 le:∀i∈pd,i≤b
def IExprC (C:Cx)(lev:Nat):Prop:=∀(e:Ex) (x:Sc) (q:Ib) (ins pd:List Nat) (lv:List Int) (k p b:Nat) (ln:TLine) (s:Gs) (d:Int),e.ok→C.p[k]?=some ln→stands ln.fExpr p e→callsOk C ln.fExpr→IRm C lev e.toks.length x q ins pd b s d→
 SpecG Tryz.prog 162 [mkrP,ibP,tI .i64 (k:Int),.r (.c (.t (.lst 3 (ln.fExpr.map TTok.tr)))),tI .i64 (p:Int),tI .i64 (b:Int)] (cmpH (0,0,1) (0,0,2) (0,1,1) C pd s d ins q lv) (.tup []) (cmpH (1,0,1) (1,0,2) (0,1,1) C pd (genE C (repN C lev) x ins k e d s) (d+1) ins q lv)
def IRepC (C:Cx)(lev:Nat):Prop:=∀(x:Sc) (q:Ib) (ins pd:List Nat) (lv:List Int) (k g b:Nat) (s:Gs) (d:Int),k < C.p.length→isFun C g→replB C ins g s.items.length=true→IRm C lev 1 x q ins pd b s (d - argsN C.p g)→
 SpecG Tryz.prog 194 [mkrP,ibP,tI .i64 (k:Int),tI .i64 (g:Int),tI .i64 (b:Int)] (cmpH (0,0,1) (0,0,2) (0,1,1) C pd s d ins q lv) (.tup []) (cmpH (1,0,1) (1,0,2) (0,1,1) C pd (repN C lev x ins k g d s) (d - argsN C.p g+1) ins q lv)
theorem IExprC_of {C:Cx}(hC:CxOk C){lev:Nat}(hR:IRepC C lev):∀(n:Nat) (e:Ex),e.toks.length≤n→∀(x:Sc) (q:Ib) (ins pd:List Nat) (lv:List Int) (k p b:Nat) (ln:TLine) (s:Gs) (d:Int),e.ok→C.p[k]?=some ln→stands ln.fExpr p e→callsOk C ln.fExpr→IRm C lev e.toks.length x q ins pd b s d→
  SpecG Tryz.prog 162 [mkrP,ibP,tI .i64 (k:Int),.r (.c (.t (.lst 3 (ln.fExpr.map TTok.tr)))),tI .i64 (p:Int),tI .i64 (b:Int)] (cmpH (0,0,1) (0,0,2) (0,1,1) C pd s d ins q lv) (.tup []) (cmpH (1,0,1) (1,0,2) (0,1,1) C pd (genE C (repN C lev) x ins k e d s) (d+1) ins q lv)
 | 0,e,hn,_,_,_,_,_,_,_,_,_,_,_,_,_,_,_,_=>by have:=e.toks_pos;omega
 | n+1,.node t es,hn,x,q,ins,pd,lv,k,p,b,ln,s,d,ho,hk,hs,hca,hr=>by
  refine specG_of_Wo hΓ hmix Tryz.func162 rfl (by decide) rfl rfl ?_
  obtain⟨hx,hq,hrm,hbg,hbm,hpl2⟩:=hr
  obtain⟨hsh,hnm⟩:=toks_short hC hk
  have hle:=stands_le hs
  obtain⟨ht,hsa⟩:=stands_tok hs
  obtain⟨e1,e2⟩:=ar_eq ho.1
  have hel:es.length=ar t:=ho.2.1
  have h60:=hC.len
  have h20:=(hC.line _ _ hk).2.2.2.1
  have hr1:=hrm.room
  have hr2:=hrm.depth
  have hr3:=hrm.low
  have hr4:=hrm.high
  have hin:=hC.inl
  have hchn:=hx.chain
  have htp:=tokC_pos lev
  have hO:=s_impl_Operands ln.fExpr p t es (by omega) hsh ho hs
  have hpl:((posL (p+1) es).map nR).length=es.length:=by rw[List.length_map,posL_len]
  rw[Ex.toks,List.length_cons]at hn hle hr1 hr4
  rw[genE]
  have hrepG:∀g d s,isFun C g→replB C ins g s.items.length=true→Grow (tokC lev) s (repN C lev x ins k g d s):=fun g d s hg hr=>repN_grow hC lev k g d s hx hg hr
  have hrepB:∀g d s,isFun C g→replB C ins g s.items.length=true→Beg b s→Beg b (repN C lev x ins k g d s):=fun g d s hg hr hb=>repN_beg hC lev k g d s hx hg hr hb
  repeat' ((conv=>whnf);first|(with_reducible first|apply Wx|apply W6)|apply oi|(apply fi<;>intro h)|refine⟨p,t.tr,rfl,map_get ht,?_⟩|refine cl hO ?_|refine⟨_,rfl,?_⟩|((with_reducible show _=_);rfl))
  all_goals try((with_reducible refine Obl.mk ?_);exact KP)
  conv=>whnf
  refine⟨{j:Nat // j≤es.length},fun r=>⟨[(0,mkrP),(1,ibP),(2,tI .i64 (k:Int)),(3,.r (.c (.t (.lst 3 (ln.fExpr.map TTok.tr))))),(4,tI .i64 (p:Int)),(5,tI .i64 (b:Int)),(12,.r (.c (.ptr (12,0,0) 0))),(23,.r (.c (.own (23,0,0)))),(24,tI .i64 (((posL (p+1) es).map nR).length:Int)),(25,tI .i64 (r.1:Int))],
   [(
    (0,0,0),some (cmpB C (genEs C (repN C lev) x ins k (es.take r.1) d s) (d+r.1) (12,0,1) (12,0,2))),((12,0,1),some (.dar 7 (itR (clr pd (genEs C (repN C lev) x ins k (es.take r.1) d s).items)) none)),((12,0,2),some (.arr false 1 (insR ins))),
    ((0,1,0),some (ibB q (0,1,1))),((0,1,1),some (.arr false 1 (lv.map intRow))),((12,0,0),some (.box (t.tr.map .t))),((23,0,0),some (.arr true 1 ((posL (p+1) es).map nR)))],[23,12,0]⟩,fun r=>es.length - r.1,⟨0,by omega⟩,?_,?_⟩
  ·skip
   repeat' ((conv=>whnf);first|(with_reducible first|apply Wx|apply W6)|apply oi|(apply fi<;>intro h)|refine⟨_,rfl,?_⟩|((with_reducible show _=_);rfl))
   all_goals try((with_reducible refine Obl.mk ?_);exact KP)
   all_goals try exact⟨KW⟩
  intro⟨j,hj⟩
  dsimp only at hj ⊢
  have hgr:=genEs_grow (C:=C) (x:=x) (ins:=ins) (line:=k) (lev:=lev) hrepG (es.take j) d s
  have hg2:=hgr.le
  have hb2:=genEs_beg (C:=C) (x:=x) (ins:=ins) (line:=k) (rep:=repN C lev) hrepB (es.take j) d hbg
  have htk:=exToks_take_le es j
  obtain⟨s1,hs1⟩:∃s1,genEs C (repN C lev) x ins k (es.take j) d s=s1:=⟨_,rfl⟩
  rw[hs1]at hgr hg2 hb2 ⊢
  have hpd1:s1.start=true→s1.items.length∈pd:=fun h=>by rw[hb2.2.1 h];exact hbm
  by_cases hlj:j < es.length
  ·obtain⟨a,ha⟩:=get_of_lt hlj
   obtain⟨o,ho1,ho2⟩:=posL_at hsa ha
   have hta:=exToks_take_get ha
   have htk2:=exToks_take_le es (j+1)
   have hal:=exToks_mem ha
   have hjt:j≤(exToks (es.take j)).length:=by
    have:∀(l:List Ex),l.length≤(exToks l).length:=by
     intro l
     induction l with
     | nil=>simp
     | cons b l ih=>have:=b.toks_pos;rw[exToks,List.length_append,List.length_cons];omega
    have h2:=this (es.take j)
    rw[List.length_take]at h2
    omega
   have hm:=Nat.mul_le_mul_right (tokC lev) (show(exToks (es.take j)).length+a.toks.length≤(exToks es).length+1 by omega)
   rw[Nat.add_mul]at hm
   have hI:=IExprC_of hC hR n a (by omega) x q ins pd lv k o b ln s1 (d+j) (exsOk_get ho.2.2 ha) hk ho2 hca ⟨hx,hq,⟨by omega,hr2,by omega,by omega⟩,hb2,hbm,hpl2⟩
   have hnext:=genEs_take C (repN C lev) x ins k d s ha
   rw[hs1]at hnext
   have hjl:j < ((posL (p+1) es).map nR).length:=by rw[hpl];exact hlj
   repeat' ((conv=>whnf);first|(with_reducible first|apply Wx|apply W6)|apply oi|(apply fi<;>intro h)|refine⟨j,rfl,hjl,?_⟩|refine⟨(nR o),(map_get ho1),?_⟩|refine⟨_,rfl,?_⟩|((with_reducible show _=_);rfl))
   all_goals try((with_reducible refine Obl.mk ?_);exact KP)
   all_goals try exact KX
   refine cg (hI) ?_
   repeat' ((conv=>whnf);first|(with_reducible first|apply Wx|apply W6)|apply oi|(apply fi<;>intro h)|refine⟨_,rfl,?_⟩|((with_reducible show _=_);rfl))
   all_goals try((with_reducible refine Obl.mk ?_);exact KP)
   conv=>whnf
   refine⟨⟨j+1,by omega⟩,?_,by dsimp only;omega⟩
   repeat' ((conv=>whnf);first|(with_reducible first|apply Wx|apply W6)|apply oi|(apply fi<;>intro h)|refine⟨_,rfl,?_⟩|((with_reducible show _=_);rfl))
   all_goals try((with_reducible refine Obl.mk ?_);exact KP)
   all_goals try exact⟨by dsimp only;rw[hnext]⟩
   all_goals try exact⟨KW⟩
  ·have hje:j=es.length:=by omega
   subst hje
   rw[List.take_length]at hs1 hg2 htk
   have hroom:s1.items.length+tokC lev≤68719476736:=by
    have:((exToks es).length+1) * tokC lev=(exToks es).length * tokC lev+tokC lev:=by rw[Nat.add_mul];omega
    omega
   rw[hs1]
   have hch:x.chain.length≤100:=by omega
   have hch':q.chain.length≤100:=by rw[hq.chain];exact hch
   have hro:roomy s1:=by unfold roomy;omega
   obtain⟨k1,k2,k3⟩:=ar_kind ho.1
   have htl:=hsh t (List.mem_of_getElem? ht)
   have hxf:0≤x.first∧x.first≤1000:=by
    have:=hx.first
    omega
   obtain⟨ee,_,_,_,_,hll⟩:=hx.endE hC
   rcases tok_kinds ho.1 with hk0|hk1|hk7|hk26
   ·have g1:=g_impl_add C pd s1 (d+es.length) ins q lv k 0 t.fNum 1 hro hch' hpd1 (by omega) (by omega)
    rw[hq.chain]at g1
    have hz:=k1 (.inl hk0)
    unfold finG
    rw[if_pos hk0]
    repeat' ((conv=>whnf);first|(with_reducible first|apply Wx|apply W6)|refine cg g1 ?_|apply oi|(apply fi<;>intro h)|refine⟨_,rfl,?_⟩|((with_reducible show _=_);rfl))
    all_goals try((with_reducible refine Obl.mk ?_);exact KP)
    all_goals try exact KX
    all_goals try exact⟨KW⟩
    all_goals try exact KK
   ·have g1:=g_impl_access C hC pd s1 (d+es.length) ins q lv x hq k (idxOf x.locals t.fName) 1 false rfl hro hch hpd1 (by omega) hxf (by have:=idxOf_le x.locals t.fName;omega)
    have gI:=s_slices_IndexS x.locals t.fName (by omega)
    rw[←hq.locals]at gI g1
    have hz:=k1 (.inr hk1)
    unfold finG loadG
    rw[if_neg (by omega),if_pos hk1,←hq.locals]
    generalize idxOf q.locals t.fName=ix at *
    repeat' ((conv=>whnf);first|(with_reducible first|apply Wx|apply W6)|refine cg g1 ?_|apply oi|(apply fi<;>intro h)|refine cl gI ?_|refine⟨_,rfl,?_⟩|((with_reducible show _=_);rfl))
    all_goals try((with_reducible refine Obl.mk ?_);exact KP)
    all_goals try exact KX
    all_goals try exact⟨KW⟩
    all_goals try exact KK
   ·obtain⟨f,hf,hfa⟩:=hca t (List.mem_of_getElem? ht) hk7
    obtain⟨hfl,y,hy,hy0,_⟩:=find_some hf
    have hfun:isFun C f:=⟨y,hy,hy0⟩
    have hkk:=k2 hk7
    have gF:=s_impl_FindFunction C.p t.fName (by omega)
    rw[show findF C.p t.fName=(f:Int) from endI_some hf]at gF
    have g1:=g_impl_replaced C hC pd s1 (d+es.length) ins q lv f hro (by rw[hq.chain];exact hchn) (by omega) hfl
    unfold finG
    rw[if_neg (by omega),if_neg (by omega),if_pos hk7,hf]
    dsimp only
    cases hrb:replB C ins f s1.items.length with
    | true=>
     have g2:=hR x q ins pd lv k f b s1 (d+es.length) (lt_of_get hk) hfun hrb ⟨hx,hq,⟨by omega,hr2,by omega,by omega⟩,hb2,hbm,hpl2⟩
     rw[hrb]at g1
     rw[if_pos rfl]
     repeat' ((conv=>whnf);first|(with_reducible first|apply Wx|apply W6)|refine cg g1 ?_|refine cg g2 ?_|apply oi|(apply fi<;>intro h)|refine cl gF ?_|refine⟨_,rfl,?_⟩|((with_reducible show _=_);rfl))
     all_goals try((with_reducible refine Obl.mk ?_);exact KP)
     all_goals try exact KX
     all_goals try exact⟨KW⟩
     all_goals try exact KK
    | false=>
     rw[hrb]at g1
     rw[if_neg (by simp)]
     have g2:=g_impl_numberOf C hC pd s1 (d+es.length) ins f hfun
     have g3:=g_impl_add C pd s1 (d+es.length) ins q lv k 12 (numOf C.p f) (1 - t.fNum) hro hch' hpd1 (by omega) (by omega)
     have hw1:IntKind.i64.wrap (1 - t.fNum)=1 - t.fNum:=by rw[IntWalk.i64_in _ (by omega)]
     rw[←hw1,hq.chain]at g3
     repeat' ((conv=>whnf);first|(with_reducible first|apply Wx|apply W6)|refine cg g1 ?_|refine cg g2 ?_|refine cg g3 ?_|apply oi|(apply fi<;>intro h)|refine cl gF ?_|refine⟨_,rfl,?_⟩|((with_reducible show _=_);rfl))
     all_goals try((with_reducible refine Obl.mk ?_);exact KP)
     all_goals try exact KX
     all_goals try exact⟨KW⟩
     all_goals try exact KK
   ·have g1:=g_impl_add C pd s1 (d+es.length) ins q lv k (5+t.fKind - 2) 0 (-1) hro hch' hpd1 (by omega) (by omega)
    rw[hq.chain]at g1
    have hw5:IntKind.i64.wrap (IntKind.i64.wrap (5+t.fKind) - 2)=5+t.fKind - 2:=by simp(disch:=omega)only[IntWalk.i64_in]
    rw[←hw5]at g1
    have hz:=k3 hk26.1 hk26.2
    unfold finG
    rw[if_neg (by omega),if_neg (by omega),if_neg (by omega),←hw5]
    repeat' ((conv=>whnf);first|(with_reducible first|apply Wx|apply W6)|refine cg g1 ?_|apply oi|(apply fi<;>intro h)|refine⟨_,rfl,?_⟩|((with_reducible show _=_);rfl))
    all_goals try((with_reducible refine Obl.mk ?_);exact KP)
    all_goals try exact KX
    all_goals try exact⟨KW⟩
    all_goals try exact KK
end Go.Proofs.YtogdbgmiigfmfaaGreat
namespace Go.Proofs.YtogdbgmiigfmfaaGreat
open Go.Sim
set_option maxRecDepth 100000
set_option maxHeartbeats 4000000
def ILinesC (C:Cx)(lev:Nat):Prop:=∀(x:Sc) (q:Ib) (ins pd:List Nat) (s:Gs) (d:Int),ScOk C x ins→IbOk C x q→q.f=(x.f:Int)→q.e=(endL' C.p x.f:Int)→q.base=d→s.start=false→(∀i∈pd,i < s.items.length)→
 s.items.length+(endL' C.p x.f - x.f) * (20 * tokC lev+3)≤68719476736→((lev+(ins.length - 1):Nat):Int)=C.b.fInline→0≤d→d+30+100 * (lev:Int)≤1900→
 SpecG Tryz.prog 108 [mkrP,ibP] (cmpH (0,0,1) (0,0,2) (0,1,1) C pd s d ins q []) (.tup []) (cmpH (1,0,1) (1,0,2) (1,1,1) C pd (linesG C (repN C lev) x ins d s).1 (if x.outer=true then d else d+1) ins q (linesG C (repN C lev) x ins d s).2)
theorem IRepC_of {C:Cx}(hC:CxOk C){lev:Nat}(hL:ILinesC C lev):IRepC C (lev+1):=by
 intro x q ins pd lv k g b s d hk hg hrb hr
 refine specG_of_Wo hΓ hmix Tryz.func194 rfl (by decide) rfl rfl ?_
 obtain⟨hx,hq,hrm,hbg,hbm,hpl2⟩:=hr
 obtain⟨r1,r2,r3,r4⟩:=replB_spec hrb
 obtain⟨y,hy,hy0⟩:=hg
 have h60:=hC.len
 have hin:=hC.inl
 have hloc:=isFun_locals hC ⟨y,hy,hy0⟩
 have hA:argsN C.p g=y.fArgs.length:=by rw[argsN,hy]
 have hLo:=s_impl_LocalsOf C.p (g:Int) (by omega) (fun z hz=>smallRs_map hC.small hz)
 have htop:=topOf_le hC hx
 have hxl:x.locals.length≤8:=by obtain⟨_,_,_,_,_,h⟩:=hx.endE hC;exact h
 have hxf:=hx.first
 have ha:=hC.args
 have hch:=hx.chain
 obtain⟨q1,q2,q3,q4⟩:=hrm
 have hyS:=inSc_ok hC hx k ⟨y,hy,hy0⟩
 obtain⟨ye,ye1,ye2,ye3,ye4,_⟩:=hyS.endE hC
 have gE:=s_impl_EndOf C.p (g:Int) (by omega)
 have hee:endOf C.p (g:Int)=(ye:Int):=by rw[endOf_at];exact endI_some ye1
 rw[hee]at gE r2
 have hyl:(y.fArgs.map strRow).length=y.fArgs.length:=by simp
 have hxll:(x.locals.map strRow).length=x.locals.length:=by simp
 have hcl:(x.chain.map intRow).length=x.chain.length:=by simp
 obtain⟨qf,qe,ql,qa,qi,qc,qb⟩:=q
 obtain⟨i1,i2,i3,i4,i5,i6⟩:=hq
 dsimp only at i1 i2 i3 i4
 subst i1;subst i2;subst i3
 have e2:IntKind.i64.wrap (x.first+(x.locals.length:Int))=x.first+x.locals.length:=by rw[IntWalk.i64_in _ (by omega)]
 repeat' ((conv=>whnf);first|(with_reducible apply W1;fail_if_success (with_reducible show Wo _ _ _ _ (Code.region 1 _ _) _ _))|(with_reducible first|apply W2|apply W3|apply W4|apply W5|apply W6|apply W7|apply W8|apply W9)|apply reg_inl|apply oi|(apply fi<;>intro h)|refine⟨g,y.tr,rfl,map_get hy,?_⟩|refine cl gE ?_|refine cl hLo ?_|refine⟨_,rfl,?_⟩|((with_reducible show _=_);rfl))
 all_goals try((with_reducible refine Obl.mk ?_);exact KP)
 all_goals try exact⟨⟨by simp <;> omega,by simp <;> omega⟩⟩
 conv=>whnf
 refine view2_rule ⟨[(0,mkrP),(1,ibP),(2,tI .i64 (k:Int)),(3,tI .i64 (g:Int)),(4,tI .i64 (b:Int)),(10,.r (.c (.ptr (48,0,0) 0)))],
  [((0,0,0),some (cmpB C s d (0,0,1) (0,0,2))),((0,0,1),some (.dar 7 (itR (clr pd (s).items)) none)),((0,0,2),some (.arr false 1 (insR ins))),((0,1,0),some (ibB ⟨qf,qe,x.locals,qa,x.first,x.chain,qb⟩ (0,1,1))),((0,1,1),some (.arr false 1 (lv.map intRow))),((48,0,0),some (.box [.t (.int .i64 (g:Int)),.t (.int .i64 (ye:Int)),.t (.lst 1 ((localsOf C.p (g:Int)).map strRow)),.t (.int .i64 (argsN C.p g:Int)),.t (.int .i64 0),.t (.lst 1 ((x.chain++[(k:Int)]).map intRow)),.t (.int .i64 0),.nils 1]))],_⟩ ?_ ?_ rfl ?_
 ·exact⟨.inl rfl,.inl rfl,.inl rfl,.inl rfl,.inl rfl,.inl rfl,trivial⟩
 ·refine⟨.inr (.inl rfl),.inr (.inl rfl),.inr (.inl rfl),.inr (.inl rfl),.inr (.inl rfl),.inr (.inr (.inl ⟨_,_,rfl,rfl,.inl rfl,.inl rfl,.inr (.inr ⟨_,rfl,rfl,?_⟩),.inl ?_,.inl rfl,.inr (.inr ⟨_,rfl,?_,?_⟩),.inl rfl,.inr (.inl ⟨_,_,rfl,rfl⟩),trivial⟩)),trivial⟩
  ·intro q hq;simp only[AC.ids,List.mem_cons,List.not_mem_nil,or_false]at hq;subst hq;rfl
  ·rw[hyl,hA]
  ·show Tr.lst 1 _=Tr.lst 1 ([]++List.map intRow x.chain++[[Tr.int .i64 (k:Int)]])
   simp[intRow]
  ·intro q hq;simp only[AC.ids,List.mem_cons,List.not_mem_nil,or_false]at hq;subst hq;rfl
 repeat' ((conv=>whnf);first|(with_reducible apply W1;fail_if_success (with_reducible show Wo _ _ _ _ (Code.seq (Code.region 2 _ _) _) _ _))|(with_reducible first|apply W2|apply W3|apply W4|apply W5|apply W6|apply W7|apply W8|apply W9)|apply reg_inl|apply oi|(apply fi<;>intro h)|refine⟨_,rfl,?_⟩|((with_reducible show _=_);rfl))
 all_goals try((with_reducible refine Obl.mk ?_);exact KP)
 conv=>whnf
 refine join_rule Unit (fun _=>⟨[(0,mkrP),(1,ibP),(2,tI .i64 (k:Int)),(3,tI .i64 (g:Int)),(4,tI .i64 (b:Int)),(10,.r (.c (.ptr (48,0,0) 0)))],
  [((0,0,0),some (cmpB C s d (0,0,1) (0,0,2))),((0,0,1),some (.dar 7 (itR (clr pd (s).items)) none)),((0,0,2),some (.arr false 1 (insR ins))),((0,1,0),some (ibB ⟨qf,qe,x.locals,qa,x.first,x.chain,qb⟩ (0,1,1))),((0,1,1),some (.arr false 1 (lv.map intRow))),((48,0,0),some (.box [.t (.int .i64 (g:Int)),.t (.int .i64 (ye:Int)),.t (.lst 1 ((localsOf C.p (g:Int)).map strRow)),.t (.int .i64 (argsN C.p g:Int)),.t (.int .i64 (topOf C x)),.t (.lst 1 ((x.chain++[(k:Int)]).map intRow)),.t (.int .i64 0),.nils 1]))],[48,0]⟩) ?_ ?_
 ·cases ho:x.outer with
  | true=>
   have c1:=i5.1 ho
   have c2:=i6 ho
   have c3:=i4 ho
   have c4:topOf C x=(x.locals.length:Int) - C.args:=by unfold topOf;rw[if_pos ho]
   have c5:IntKind.i64.wrap (IntKind.i64.wrap (x.first+((x.locals.map strRow).length:Int)) - qa)=topOf C x:=by rw[c4,hxll,e2,c2,c3,IntWalk.i64_in _ (by omega)];omega
   repeat' ((conv=>whnf);first|(with_reducible first|apply Wx|apply W6)|apply oi|(apply fi<;>intro h)|refine⟨_,rfl,?_⟩|((with_reducible show _=_);rfl))
   all_goals try((with_reducible refine Obl.mk ?_);exact KP)
   all_goals try(exfalso;rw[c1]at h;simp at h;done)
   all_goals(conv=>whnf)
   all_goals(refine⟨(),?_⟩)
   repeat' ((conv=>whnf);first|(with_reducible first|apply Wx|apply W6)|apply oi|(apply fi<;>intro h)|refine⟨_,rfl,?_⟩|((with_reducible show _=_);rfl))
   all_goals try((with_reducible refine Obl.mk ?_);exact KP)
   all_goals exact⟨congrArg (Tr.int .i64) c5⟩
  | false=>
   have hne:x.chain≠[]:=fun e=>by rw[i5.2 e]at ho;cases ho
   have c4:topOf C x=x.first+x.locals.length:=by unfold topOf;rw[if_neg (by simp[ho])]
   have c5:IntKind.i64.wrap (x.first+((x.locals.map strRow).length:Int))=topOf C x:=by rw[c4,hxll,e2]
   repeat' ((conv=>whnf);first|(with_reducible first|apply Wx|apply W6)|apply oi|(apply fi<;>intro h)|refine⟨_,rfl,?_⟩|((with_reducible show _=_);rfl))
   all_goals try((with_reducible refine Obl.mk ?_);exact KP)
   all_goals try(exfalso;simp at h;exact hne h)
   all_goals(conv=>whnf)
   all_goals(refine⟨(),?_⟩)
   repeat' ((conv=>whnf);first|(with_reducible first|apply Wx|apply W6)|apply oi|(apply fi<;>intro h)|refine⟨_,rfl,?_⟩|((with_reducible show _=_);rfl))
   all_goals try((with_reducible refine Obl.mk ?_);exact KP)
   all_goals exact⟨congrArg (Tr.int .i64) c5⟩
 intro _
 have hll:((localsOf C.p (g:Int)).map strRow).length=(localsOf C.p (g:Int)).length:=by simp
 have em:IntKind.i64.wrap (topOf C x+(((localsOf C.p (g:Int)).map strRow).length:Int))=topOf C x+((localsOf C.p (g:Int)).length:Int):=by rw[hll,IntWalk.i64_in _ (by omega)]
 obtain⟨s0,hs0⟩:∃s0:Gs,(⟨s.items,max s.most (topOf C x+(localsOf C.p (g:Int)).length),s.start⟩:Gs)=s0:=⟨_,rfl⟩
 have z1:s.items=s0.items:=by rw[←hs0]
 have z2:max s.most (topOf C x+(localsOf C.p (g:Int)).length)=s0.most:=by rw[←hs0]
 have hb0:Beg b s0:=by rw[←hs0];exact⟨hbg.1,hbg.2⟩
 obtain⟨T1,hT1⟩:∃T1,storesG C (inSc C x k g) x.chain k (argsN C.p g) d s0=T1:=⟨_,rfl⟩
 have hst:∀{t:Gs},Beg b t→t.start=true→t.items.length∈pd:=fun{t} hb h=>by rw[hb.2.1 h];exact hbm
 repeat' ((conv=>whnf);first|(with_reducible first|apply Wx|apply W6)|apply oi|(apply fi<;>intro h)|refine⟨_,rfl,?_⟩|((with_reducible show _=_);rfl))
 all_goals try((with_reducible refine Obl.mk ?_);exact KP)
 conv=>whnf
 refine⟨{r:Nat×Gs // r.1≤argsN C.p g∧storesG C (inSc C x k g) x.chain k r.1 (d - ((argsN C.p g - r.1:Nat):Int)) r.2=T1∧r.2.items.length≤300 - r.1∧Beg b r.2},fun r=>⟨[(0,mkrP),(1,ibP),(2,tI .i64 (k:Int)),(3,tI .i64 (g:Int)),(4,tI .i64 (b:Int)),(10,.r (.c (.ptr (48,0,0) 0))),(11,.r (.c (.ptr (117,0,0) 0))),(12,tI .i64 ((r.1.1:Int) - 1))],
  [((0,0,0),some (cmpB C r.1.2 (d - ((argsN C.p g - r.1.1:Nat):Int)) (48,0,2) (48,0,3))),((48,0,2),some (.dar 7 (itR (clr pd (r.1.2).items)) none)),((48,0,3),some (.arr false 1 (insR ins))),((0,1,0),some (ibB ⟨qf,qe,x.locals,qa,x.first,x.chain,qb⟩ (0,1,1))),((0,1,1),some (.arr false 1 (lv.map intRow))),((48,0,0),some (.box [.t (.int .i64 (g:Int)),.t (.int .i64 (ye:Int)),.t (.lst 1 ((localsOf C.p (g:Int)).map strRow)),.t (.int .i64 (argsN C.p g:Int)),.t (.int .i64 (topOf C x)),.t (.lst 1 ((x.chain++[(k:Int)]).map intRow)),.t (.int .i64 0),.own (48,0,1)])),((48,0,1),some (.arr false 1 [])),((117,0,0),some (ibB ⟨0,0,localsOf C.p (g:Int),0,topOf C x,x.chain,0⟩ (117,0,1))),((117,0,1),some (.arr false 1 []))],[117,48,0]⟩,fun r=>r.1.1,⟨(argsN C.p g,s0),by dsimp only;omega,by rw[←hT1];simp,by dsimp only;rw[←z1];omega,hb0⟩,?_,?_⟩
 ·skip
  repeat' ((conv=>whnf);first|(with_reducible first|apply Wx|apply W6)|apply oi|(apply fi<;>intro h)|refine⟨_,rfl,?_⟩|((with_reducible show _=_);rfl))
  all_goals try((with_reducible refine Obl.mk ?_);exact KP)
  all_goals try exact⟨congrArg (fun l=>itR (clr pd l)) z1⟩
  all_goals try exact⟨congrArg (Tr.int _) (by rw[em];exact z2)⟩
  all_goals try exact⟨KW⟩
 intro⟨⟨m,t⟩,hm,ht,htl,htb⟩
 dsimp only at hm ht htl htb ⊢
 cases m with
 | succ m=>
  have g1:=g_impl_word C pd t (d - ((argsN C.p g - (m+1):Nat):Int)) ins ⟨0,0,localsOf C.p (g:Int),0,topOf C x,x.chain,0⟩ [] (inSc C x k g) k m rfl rfl (by unfold roomy;omega) (by dsimp only;omega) (hst htb) (by omega) (by show 0≤topOf C x∧topOf C x≤1000;omega) (by omega)
  rw[storesG]at ht
  rw[show((m+1:Nat):Int) - 1=(m:Int) by omega]
  repeat' ((conv=>whnf);first|(with_reducible first|apply Wx|apply W6)|refine cg g1 ?_|apply oi|(apply fi<;>intro h)|refine⟨_,rfl,?_⟩|((with_reducible show _=_);rfl))
  all_goals try((with_reducible refine Obl.mk ?_);exact KP)
  all_goals try exact KX
  conv=>whnf
  refine⟨⟨(m,storeG C (inSc C x k g) t (d - ((argsN C.p g - (m+1):Nat):Int)) m k x.chain),by dsimp only;omega,by rw[←ht];dsimp only;congr 1;omega,by dsimp only;simp only[storeG,emitG,List.length_append,List.length_cons,List.length_nil];omega,by unfold storeG;exact htb.emit ..⟩,?_,by dsimp only;omega⟩
  repeat' ((conv=>whnf);first|(with_reducible first|apply Wx|apply W6)|apply oi|(apply fi<;>intro h)|refine⟨_,rfl,?_⟩|((with_reducible show _=_);rfl))
  all_goals try((with_reducible refine Obl.mk ?_);exact KP)
  all_goals try exact⟨KW⟩
 | zero=>
  have e0:t=T1:=by rw[←ht];rfl
  subst e0
  have ed:d - ((argsN C.p g - 0:Nat):Int)=d - argsN C.p g:=by rw[Nat.sub_zero]
  rw[ed]
  obtain⟨T2,hT2⟩:∃T2,zerosG C (inSc C x k g) x.chain k (d - argsN C.p g) ((localsOf C.p (g:Int)).length - argsN C.p g) (argsN C.p g) t=T2:=⟨_,rfl⟩
  repeat' ((conv=>whnf);first|(with_reducible first|apply Wx|apply W6)|apply oi|(apply fi<;>intro h)|refine⟨_,rfl,?_⟩|((with_reducible show _=_);rfl))
  all_goals try((with_reducible refine Obl.mk ?_);exact KP)
  all_goals try exact KX
  conv=>whnf
  refine⟨{r:Nat×Gs // r.1≤(localsOf C.p (g:Int)).length∧zerosG C (inSc C x k g) x.chain k (d - argsN C.p g) ((localsOf C.p (g:Int)).length - r.1) r.1 r.2=T2∧r.2.items.length≤400 - 2 * ((localsOf C.p (g:Int)).length - r.1)∧Beg b r.2},fun r=>⟨[(0,mkrP),(1,ibP),(2,tI .i64 (k:Int)),(3,tI .i64 (g:Int)),(4,tI .i64 (b:Int)),(10,.r (.c (.ptr (48,0,0) 0))),(11,.r (.c (.ptr (117,0,0) 0))),(13,tI .i64 (r.1.1:Int))],
   [((0,0,0),some (cmpB C r.1.2 (d - argsN C.p g) (48,0,2) (48,0,3))),((48,0,2),some (.dar 7 (itR (clr pd (r.1.2).items)) none)),((48,0,3),some (.arr false 1 (insR ins))),((0,1,0),some (ibB ⟨qf,qe,x.locals,qa,x.first,x.chain,qb⟩ (0,1,1))),((0,1,1),some (.arr false 1 (lv.map intRow))),((48,0,0),some (.box [.t (.int .i64 (g:Int)),.t (.int .i64 (ye:Int)),.t (.lst 1 ((localsOf C.p (g:Int)).map strRow)),.t (.int .i64 (argsN C.p g:Int)),.t (.int .i64 (topOf C x)),.t (.lst 1 ((x.chain++[(k:Int)]).map intRow)),.t (.int .i64 0),.own (48,0,1)])),((48,0,1),some (.arr false 1 [])),((117,0,0),some (ibB ⟨0,0,localsOf C.p (g:Int),0,topOf C x,x.chain,0⟩ (117,0,1))),((117,0,1),some (.arr false 1 []))],[117,48,0]⟩,fun r=>(localsOf C.p (g:Int)).length - r.1.1,⟨(argsN C.p g,t),by dsimp only;omega,hT2,by dsimp only;omega,htb⟩,?_,?_⟩
  ·skip
   repeat' ((conv=>whnf);first|(with_reducible first|apply Wx|apply W6)|apply oi|(apply fi<;>intro h)|refine⟨_,rfl,?_⟩|((with_reducible show _=_);rfl))
   all_goals try((with_reducible refine Obl.mk ?_);exact KP)
  intro⟨⟨i,u⟩,hi,hu,hul,hub⟩
  dsimp only at hi hu hul hub ⊢
  by_cases hil2:i < (localsOf C.p (g:Int)).length
  ·obtain⟨c,hc⟩:∃c,(localsOf C.p (g:Int)).length - i=c+1:=⟨(localsOf C.p (g:Int)).length - i - 1,by omega⟩
   rw[hc,zerosG]at hu
   have g1:=g_impl_add C pd u (d - argsN C.p g) ins ⟨qf,qe,x.locals,qa,x.first,x.chain,qb⟩ lv k 0 0 1 (by unfold roomy;omega) (by dsimp only;omega) (hst hub) (by omega) (by omega)
   have g2:=g_impl_word C pd (emitG C u (d - argsN C.p g) 0 0 k x.chain) (d - argsN C.p g+1) ins ⟨0,0,localsOf C.p (g:Int),0,topOf C x,x.chain,0⟩ [] (inSc C x k g) k i rfl rfl (by unfold roomy emitG;simp only[List.length_append,List.length_cons,List.length_nil];omega) (by dsimp only;omega) (hst (hub.emit ..)) (by omega) (by show 0≤topOf C x∧topOf C x≤1000;omega) (by omega)
   repeat' ((conv=>whnf);first|(with_reducible first|apply Wx|apply W6)|refine cg g1 ?_|refine cg g2 ?_|apply oi|(apply fi<;>intro h)|refine⟨_,rfl,?_⟩|((with_reducible show _=_);rfl))
   all_goals try((with_reducible refine Obl.mk ?_);exact KP)
   all_goals try exact KX
   conv=>whnf
   refine⟨⟨(i+1,storeG C (inSc C x k g) (emitG C u (d - argsN C.p g) 0 0 k x.chain) (d - argsN C.p g+1) i k x.chain),by dsimp only;omega,by rw[←hu];dsimp only;rw[show(localsOf C.p (g:Int)).length - (i+1)=c by omega],by dsimp only;simp only[storeG,emitG,List.length_append,List.length_cons,List.length_nil];omega,by unfold storeG;exact(hub.emit ..).emit ..⟩,?_,by dsimp only;omega⟩
   repeat' ((conv=>whnf);first|(with_reducible first|apply Wx|apply W6)|apply oi|(apply fi<;>intro h)|refine⟨_,rfl,?_⟩|((with_reducible show _=_);rfl))
   all_goals try((with_reducible refine Obl.mk ?_);exact KP)
   all_goals try exact⟨KW⟩
  ·have hie:i=(localsOf C.p (g:Int)).length:=by omega
   subst hie
   rw[Nat.sub_self,zerosG]at hu
   subst hu
   have hpre:preG C x k g d s=u:=by rw[preG,hs0,hT1,hT2]
   repeat' ((conv=>whnf);first|(with_reducible apply W1;fail_if_success (with_reducible show Wo _ _ _ _ (Code.seq (Code.region 15 _ _) _) _ _))|(with_reducible first|apply W2|apply W3|apply W4|apply W5|apply W6|apply W7|apply W8|apply W9)|apply reg_inl|apply oi|(apply fi<;>intro h)|refine⟨_,rfl,?_⟩|((with_reducible show _=_);rfl))
   all_goals try((with_reducible refine Obl.mk ?_);exact KP)
   all_goals try exact KX
   conv=>whnf
   obtain⟨v,hv⟩:∃v,spaceG C x k (d - argsN C.p g) u=v:=⟨_,rfl⟩
   have hvl:v.items.length≤500:=by rw[←hv,spaceG];split <;> first|(simp[emitG];omega)|omega
   obtain⟨hvb,hvs⟩:=spaceG_beg (C:=C) (x:=x) (line:=k) (d:=d - argsN C.p g) hub
   rw[hv]at hvb hvs
   have hlen:=itR_clr_len pd u.items
   refine join_rule Unit (fun _=>⟨[(0,mkrP),(1,ibP),(2,tI .i64 (k:Int)),(3,tI .i64 (g:Int)),(4,tI .i64 (b:Int)),(10,.r (.c (.ptr (48,0,0) 0)))],
    [((0,0,0),some (cmpB C v (d - argsN C.p g) (48,0,2) (48,0,3))),((48,0,2),some (.dar 7 (itR (clr pd (v).items)) none)),((48,0,3),some (.arr false 1 (insR ins))),((0,1,0),some (ibB ⟨qf,qe,x.locals,qa,x.first,x.chain,qb⟩ (0,1,1))),((0,1,1),some (.arr false 1 (lv.map intRow))),((48,0,0),some (.box [.t (.int .i64 (g:Int)),.t (.int .i64 (ye:Int)),.t (.lst 1 ((localsOf C.p (g:Int)).map strRow)),.t (.int .i64 (argsN C.p g:Int)),.t (.int .i64 (topOf C x)),.t (.lst 1 ((x.chain++[(k:Int)]).map intRow)),.t (.int .i64 0),.own (48,0,1)])),((48,0,1),some (.arr false 1 []))],[117,48,0]⟩) ?_ ?_
   ·have g3:=g_impl_add C pd u (d - argsN C.p g) ins ⟨qf,qe,x.locals,qa,x.first,x.chain,qb⟩ lv k 15 0 0 (by unfold roomy;omega) (by dsimp only;omega) (hst hub) (by omega) (by omega)
    unfold spaceG at hv
    cases hst2:u.start with
    | true=>
     rw[if_pos hst2]at hv
     subst hv
     have hub2:=hub.2.1 hst2
     repeat' ((conv=>whnf);first|(with_reducible first|apply Wx|apply W6)|refine cg g3 ?_|apply oi|(apply fi<;>intro h)|refine⟨_,rfl,?_⟩|((with_reducible show _=_);rfl))
     all_goals try((with_reducible refine Obl.mk ?_);exact KP)
     ·conv=>whnf
      refine⟨(),?_⟩
      repeat' ((conv=>whnf);first|(with_reducible first|apply Wx|apply W6)|apply oi|(apply fi<;>intro h)|refine⟨_,rfl,?_⟩|((with_reducible show _=_);rfl))
      all_goals try((with_reducible refine Obl.mk ?_);exact KP)
      all_goals try exact⟨KW⟩
     ·exfalso;rw[hlen,hub2]at h;simp at h
    | false=>
     rw[if_neg (by simp[hst2])]at hv
     subst hv
     repeat' ((conv=>whnf);first|(with_reducible first|apply Wx|apply W6)|refine cg g3 ?_|apply oi|(apply fi<;>intro h)|refine⟨_,rfl,?_⟩|((with_reducible show _=_);rfl))
     all_goals try((with_reducible refine Obl.mk ?_);exact KP)
     ·exfalso
      rw[hlen]at h
      have h9:=hub.2.2 (by have:=eq_of_beq h;omega)
      rw[hst2]at h9
      cases h9
     ·conv=>whnf
      refine⟨(),?_⟩
      repeat' ((conv=>whnf);first|(with_reducible first|apply Wx|apply W6)|apply oi|(apply fi<;>intro h)|refine⟨_,rfl,?_⟩|((with_reducible show _=_);rfl))
      all_goals try((with_reducible refine Obl.mk ?_);exact KP)
      all_goals try exact⟨KW⟩
   intro _
   have hye:endL' C.p (inSc C x k g).f - (inSc C x k g).f≤9:=by
    rw[ye4]
    show ye - g≤9
    omega
   have h3:=tokC_3 (n:=lev) (by omega)
   have hmul:=Nat.mul_le_mul hye (show 20 * tokC lev+3≤20 * 8679837+3 by omega)
   have hvne:v.items.length≠b:=fun e=>by have:=hvb.2.2 e;rw[hvs]at this;cases this
   have hgL:=hL (inSc C x k g) ⟨(g:Int),(ye:Int),localsOf C.p (g:Int),(argsN C.p g:Int),topOf C x,x.chain++[(k:Int)],d - argsN C.p g⟩ (ins++[g]) pd v (d - argsN C.p g) hyS ⟨rfl,rfl,rfl,fun h=>(by cases h),hyS.out,fun h=>(by cases h)⟩ rfl (by rw[ye4]) rfl hvs (fun i hi=>by have:=hpl2 i hi;have:=hvb.1;omega) (by omega) (by rw[List.length_append,List.length_cons,List.length_nil];have h9:=hch;omega) q3 (by omega)
   rw[if_neg (by simp[inSc])]at hgL
   have hgr2:=linesG_grow (lev:=lev) (rep:=repN C lev) (fun line g d s hg hr=>repN_grow hC lev line g d s hyS hg hr) hC hyS (d - argsN C.p g) v
   obtain⟨hlvl,hin2⟩:=linesG_lv (lev:=lev) (rep:=repN C lev) (fun line g d s hg hr=>repN_grow hC lev line g d s hyS hg hr) hC hyS (d - argsN C.p g) v
   obtain⟨r,hr⟩:∃r,linesG C (repN C lev) (inSc C x k g) (ins++[g]) (d - argsN C.p g) v=r:=⟨_,rfl⟩
   rw[hr]at hgL hgr2 hlvl hin2
   have hrle:=hgr2.le
   have hil:(insR ins).length=ins.length:=by simp
   have hil2':(insR (ins++[g])).length=ins.length+1:=by simp
   have hw2:IntKind.i64.wrap (((insR (ins++[g])).length:Int) - 1)=(ins.length:Int):=by rw[hil2',IntWalk.i64_in _ (by omega)];omega
   have hle2:ins.length≤(insR (ins++[g])).length:=by omega
   have hcut:(insR (ins++[g])).take ins.length=insR ins:=by rw[←List.map_take,List.take_left' rfl]
   have hap:insR ins++[[Tr.int .i64 (g:Int)]]=insR (ins++[g]):=by simp[intRow]
   have hrl:(r.2.map intRow).length=r.2.length:=by simp
   have hfin:repN C (lev+1) x ins k g d s=⟨patchL r.1.items r.1.items.length r.2,r.1.most,r.1.start⟩:=by
    show replG C (linesG C (repN C lev)) x ins k g d s=_
    unfold replG
    rw[hpre,hv,hr]
   rw[hfin]
   repeat' ((conv=>whnf);first|(with_reducible first|apply Wx|apply W6)|refine cg hgL ?_|apply oi|(apply fi<;>intro h)|refine⟨ins.length,hw2,hle2,?_⟩|refine⟨_,rfl,?_⟩|((with_reducible show _=_);rfl))
   all_goals try((with_reducible refine Obl.mk ?_);exact KP)
   all_goals try exact⟨⟨by rw[hil];simp <;> omega,by rw[hil];simp <;> omega⟩⟩
   all_goals try exact⟨hap⟩
   conv=>whnf
   refine⟨{j:Nat // j≤r.2.length},fun j=>⟨[(0,mkrP),(10,.r (.c (.ptr (48,0,0) 0))),(202,.r (.c (.own (48,0,1)))),(203,tI .i64 (r.2.length:Int)),(204,tI .i64 (j.1:Int))],
    [((0,0,0),some (cmpB C ⟨patchL r.1.items r.1.items.length (r.2.take j.1),r.1.most,r.1.start⟩ (d - argsN C.p g+1) (48,0,2) (48,0,3))),((48,0,2),some (.dar 7 (itR (clr pd (patchL r.1.items r.1.items.length (r.2.take j.1)))) none)),((48,0,3),some (.arr false 1 (insR ins))),((0,1,0),some (ibB ⟨qf,qe,x.locals,qa,x.first,x.chain,qb⟩ (0,1,1))),((0,1,1),some (.arr false 1 (lv.map intRow))),((48,0,0),some (ibB ⟨(g:Int),(ye:Int),localsOf C.p (g:Int),(argsN C.p g:Int),topOf C x,x.chain++[(k:Int)],d - argsN C.p g⟩ (48,0,1))),((48,0,1),some (.arr false 1 (r.2.map intRow)))],[117,48,0]⟩,fun j=>r.2.length - j.1,⟨0,by omega⟩,?_,?_⟩
   ·skip
    repeat' ((conv=>whnf);first|(with_reducible first|apply Wx|apply W6)|apply oi|(apply fi<;>intro h)|refine⟨_,rfl,?_⟩|((with_reducible show _=_);rfl))
    all_goals try((with_reducible refine Obl.mk ?_);exact KP)
    all_goals try exact⟨KW⟩
    all_goals try exact⟨congrArg (Tr.int _) (by rw[hrl])⟩
    all_goals try exact⟨hle2⟩
    all_goals try exact⟨hcut⟩
   intro⟨j,hj3⟩
   dsimp only at hj3 ⊢
   have hpl:=patchL_len (r.1.items.length:Int) (r.2.take j) r.1.items
   have hil4:(itR (clr pd (patchL r.1.items r.1.items.length (r.2.take j)))).length=r.1.items.length:=by rw[itR_clr_len,hpl]
   by_cases hlj:j < r.2.length
   ·obtain⟨a,haj⟩:=get_of_lt hlj
    obtain⟨j1,j2⟩:=hin2 a (List.mem_of_getElem? haj)
    obtain⟨jn,rfl⟩:=Int.eq_ofNat_of_zero_le j1
    have hjl:jn < (itR (clr pd (patchL r.1.items r.1.items.length (r.2.take j)))).length:=by rw[hil4];omega
    obtain⟨it,hit⟩:=get_of_lt (l:=clr pd (patchL r.1.items r.1.items.length (r.2.take j))) (k:=jn) (by rw[clr_len,hpl];omega)
    have hnext:r.2.take (j+1)=r.2.take j++[(jn:Int)]:=by rw[List.take_add_one,haj];rfl
    have hps:=patchL_snoc r.1.items.length (jn:Int) (r.2.take j) r.1.items
    have hjr:j < (r.2.map intRow).length:=by omega
    repeat' ((conv=>whnf);first|(with_reducible first|apply Wx|apply W6)|apply oi|(apply fi<;>intro h)|refine⟨j,rfl,hjr,?_⟩|refine⟨(intRow jn),(map_get haj),?_⟩|refine⟨jn,rfl,hjl,?_⟩|refine⟨_,(itR_get hit),?_⟩|refine⟨_,rfl,?_⟩|((with_reducible show _=_);rfl))
    all_goals try((with_reducible refine Obl.mk ?_);exact KP)
    all_goals try exact KX
    conv=>whnf
    refine⟨⟨j+1,by omega⟩,?_,by dsimp only;omega⟩
    repeat' ((conv=>whnf);first|(with_reducible first|apply Wx|apply W6)|apply oi|(apply fi<;>intro h)|refine⟨_,rfl,?_⟩|((with_reducible show _=_);rfl))
    all_goals try((with_reducible refine Obl.mk ?_);exact KP)
    all_goals try exact⟨KW⟩
    all_goals(refine⟨?_⟩;rw[hil4];dsimp only;rw[hnext,hps,clr_setArg,itR_setArg hit];rfl)
   ·have hje:j=r.2.length:=by omega
    subst hje
    rw[List.take_length]
    repeat' ((conv=>whnf);first|(with_reducible first|apply Wx|apply W6)|apply oi|(apply fi<;>intro h)|refine⟨_,rfl,?_⟩|((with_reducible show _=_);rfl))
    all_goals try((with_reducible refine Obl.mk ?_);exact KP)
    all_goals try exact KX
    all_goals try exact⟨KW⟩
end Go.Proofs.YtogdbgmiigfmfaaGreat
namespace Go.Proofs.YtogdbgmiigfmfaaGreat
open Go.Sim
set_option maxRecDepth 100000
set_option maxHeartbeats 4000000
abbrev kI (n:Int):Tr:= .int .i64 n
theorem keyEq_int {a:Int}{q:Tr}(h:keyEq (kI a) q=true):∃k,q= .int k a:=by
 cases q with
 | int k n=>simp only[keyEq,beq_iff_eq]at h;exact⟨k,by rw[h]⟩
 | str s=>simp[keyEq]at h
 | bool b=>simp[keyEq]at h
 | lst sz rows=>simp[keyEq]at h
theorem keyEq_ne {a b:Int}{q:Tr}(hab:a≠b)(h:keyEq (kI a) q=true):keyEq (kI b) q=false:=by
 obtain⟨k,rfl⟩:=keyEq_int h
 simp only[keyEq,beq_eq_false_iff_ne]
 exact fun e=>hab e.symm
theorem keyEq_symm (a b:Tr):keyEq a b=keyEq b a:=by
 cases a <;> cases b <;> first|rfl|(simp only[keyEq];rw[Bool.eq_iff_iff];simp only[beq_iff_eq];exact eq_comm)
theorem keyEq_self (a:Int):keyEq (kI a) (kI a)=true:=by simp[keyEq]
theorem mpGet_put_self (v:Int)(a:Int):∀es:List (Tr×Int),mpGet (mpPut es (kI a) v) (kI a)=some v
 | []=>by simp[mpGet,mpPut,mpSet,mpFind,keyEq]
 |(q,x)::r=>by
  have ih:=mpGet_put_self v a r
  unfold mpGet mpPut at ih ⊢
  rw[mpSet]
  cases h:keyEq (kI a) q with
  | true=>simp[mpFind,h]
  | false=>simp only[cond_false];rw[mpFind,h,cond_false];exact ih
theorem mpGet_put_ne {a b:Int}(hab:a≠b)(v:Int):∀es:List (Tr×Int),mpGet (mpPut es (kI a) v) (kI b)=mpGet es (kI b)
 | []=>by
  simp only[mpGet,mpPut,mpSet,mpFind]
  rw[keyEq_ne hab (keyEq_self a),cond_false]
 |(q,x)::r=>by
  have ih:=mpGet_put_ne hab v r
  unfold mpGet mpPut at ih ⊢
  rw[mpSet]
  cases h:keyEq (kI a) q with
  | true=>simp only[cond_true];rw[mpFind,mpFind,keyEq_ne hab h];rfl
  | false=>simp only[cond_false];rw[mpFind,mpFind,ih]
theorem mpGet_del_ne {a b:Int}(hab:a≠b):∀es:List (Tr×Int),mpGet (mpDel es (kI a)) (kI b)=mpGet es (kI b)
 | []=>rfl
 |(q,x)::r=>by
  have ih:=mpGet_del_ne hab r
  unfold mpGet mpDel at ih ⊢
  rw[mpCut]
  cases h:keyEq (kI a) q with
  | true=>simp only[cond_true];rw[mpFind,keyEq_ne hab h,cond_false]
  | false=>simp only[cond_false];rw[mpFind,mpFind,ih]
def Uniq:List (Tr×Int)→Prop
 | []=>True
 |(q,_)::r=>(∀e∈r,keyEq q e.1=false)∧Uniq r
theorem mpFind_none {k:Tr}:∀{es:List (Tr×Int)},(∀e∈es,keyEq k e.1=false)→mpFind (keyEq k) es=none
 | [],_=>rfl
 |(q,x)::r,h=>by rw[mpFind,h (q,x) (by simp),cond_false];exact mpFind_none fun e he=>h e (by simp[he])
theorem mpGet_del_self {a:Int}:∀{es:List (Tr×Int)},Uniq es→mpGet (mpDel es (kI a)) (kI a)=none
 | [],_=>rfl
 |(q,x)::r,h=>by
  have ih:=mpGet_del_self (a:=a) h.2
  unfold mpGet mpDel at ih ⊢
  rw[mpCut]
  cases hq:keyEq (kI a) q with
  | true=>
   simp only[cond_true]
   refine mpFind_none fun e he=>?_
   obtain⟨k,rfl⟩:=keyEq_int hq
   have:=h.1 e he
   cases e with
   | mk e1 e2=>
    cases e1 <;> simp_all[keyEq]
  | false=>simp only[cond_false];rw[mpFind,hq,cond_false];exact ih
theorem mpSet_keys {k key:Tr}{v:Int}(hk:keyEq k key=true):∀(es:List (Tr×Int)) (q:Tr),(∀e∈es,keyEq q e.1=false)→keyEq q key=false→∀e∈mpSet (keyEq k) key v es,keyEq q e.1=false
 | [],q,_,hq,e,he=>by
  simp only[mpSet,List.mem_cons,List.not_mem_nil,or_false]at he
  subst he;exact hq
 |(q2,x)::r,q,h,hq,e,he=>by
  rw[mpSet]at he
  cases hb:keyEq k q2 with
  | true=>
   rw[hb,cond_true]at he
   rcases List.mem_cons.1 he with rfl|he
   ·exact h (q2,x) (by simp)
   ·exact h e (by simp[he])
  | false=>
   rw[hb,cond_false]at he
   rcases List.mem_cons.1 he with rfl|he
   ·exact h (q2,x) (by simp)
   ·exact mpSet_keys hk r q (fun e he=>h e (by simp[he])) hq e he
theorem Uniq.put {a:Int}{v:Int}:∀{es:List (Tr×Int)},Uniq es→Uniq (mpPut es (kI a) v)
 | [],_=>by unfold mpPut mpSet;exact⟨fun e he=>(by cases he),trivial⟩
 |(q,x)::r,h=>by
  have ih:=Uniq.put (a:=a) (v:=v) h.2
  unfold mpPut at ih ⊢
  rw[mpSet]
  cases hb:keyEq (kI a) q with
  | true=>exact⟨h.1,h.2⟩
  | false=>exact⟨mpSet_keys (keyEq_self a) r q h.1 (by rw[keyEq_symm];exact hb),ih⟩
theorem mpCut_mem {f:Tr→Bool}:∀{es:List (Tr×Int)} {e:Tr×Int},e∈mpCut f es→e∈es
 | [],_,h=>h
 |(q,x)::r,e,h=>by
  rw[mpCut]at h
  cases hb:f q with
  | true=>rw[hb,cond_true]at h;exact List.mem_cons_of_mem _ h
  | false=>
   rw[hb,cond_false]at h
   rcases List.mem_cons.1 h with rfl|h
   ·simp
   ·exact List.mem_cons_of_mem _ (mpCut_mem h)
theorem Uniq.del {k:Tr}:∀{es:List (Tr×Int)},Uniq es→Uniq (mpDel es k)
 | [],_=>trivial
 |(q,x)::r,h=>by
  have ih:=Uniq.del (k:=k) h.2
  unfold mpDel at ih ⊢
  rw[mpCut]
  cases hb:keyEq k q with
  | true=>exact h.2
  | false=>exact⟨fun e he=>h.1 e (mpCut_mem he),ih⟩
structure MapOk (C:Cx) (x:Sc) (k:Nat) (pos heads:List Int) (zs os fs:List (Tr×Int)):Prop where
 uniq:Uniq zs
 zero:∀i:Nat,x.f < i→i < k→(kindAt C.p i=3∨kindAt C.p i=5)→mpGet zs (kI i)=(match elseAt C.p i with|some j=>if j < k then none else some (atL pos i)|none=>some (atL pos i))
 over:∀i:Nat,x.f < i→i < k→(kindAt C.p i=3∨kindAt C.p i=5)→mpGet os (kI i)=(match elseAt C.p i with|some j=>if j < k then some (atL pos j)else none|none=>none)
 fresh:∀i:Nat,k≤i→mpGet os (kI i)=none
 first:∀i:Nat,x.f < i→i < k→kindAt C.p i=5→mpGet fs (kI i)=some (atL heads i)
section
variable {C:Cx} {x:Sc} {ins:List Nat} {k e:Nat} {pos heads:List Int} {zs os fs:List (Tr×Int)}
theorem else_ne {p:List TLine}{i k:Nat}{j:Nat}(h:elseAt p i=some j)(hk:kindAt p k≠4):j≠k:=by
 rintro rfl
 obtain⟨_,_,_,_,_,_,_,y,hy,h4⟩:=elseAt_some h
 exact hk (by rw[kindAt_of hy];exact h4)
theorem MapOk.plain (h:MapOk C x k pos heads zs os fs)(hk:kindAt C.p k≠3∧kindAt C.p k≠4∧kindAt C.p k≠5)(hd:Int)(v:Int):MapOk C x (k+1) pos (heads.set k hd) zs os (mpPut fs (kI k) v):=by
 refine⟨h.uniq,fun i h1 h2 h3=>?_,fun i h1 h2 h3=>?_,fun i h1=>h.fresh i (by omega),fun i h1 h2 h3=>?_⟩
 ·have hik:i≠k:=fun e=>by subst e;omega
  rw[h.zero i h1 (by omega) h3]
  cases he:elseAt C.p i with
  | none=>rfl
  | some j=>
   have:=else_ne he hk.2.1
   dsimp only
   by_cases hj:j < k
   ·rw[if_pos hj,if_pos (by omega)]
   ·rw[if_neg hj,if_neg (by omega)]
 ·have hik:i≠k:=fun e=>by subst e;omega
  rw[h.over i h1 (by omega) h3]
  cases he:elseAt C.p i with
  | none=>rfl
  | some j=>
   have:=else_ne he hk.2.1
   dsimp only
   by_cases hj:j < k
   ·rw[if_pos hj,if_pos (by omega)]
   ·rw[if_neg hj,if_neg (by omega)]
 ·have hik:i≠k:=fun e=>by subst e;omega
  rw[mpGet_put_ne (by omega),atL_set hik]
  exact h.first i h1 (by omega) h3
theorem MapOk.opens (h:MapOk C x k pos heads zs os fs)(hk:kindAt C.p k=3∨kindAt C.p k=5)(hp:k < pos.length)(hh:k < heads.length)(pv hd:Int):MapOk C x (k+1) (pos.set k pv) (heads.set k hd) (mpPut zs (kI k) pv) os (mpPut fs (kI k) hd):=by
 have helse:∀j,elseAt C.p k=some j→k < j:=fun j hj=>by obtain⟨_,_,_,_,_,h,_⟩:=elseAt_some hj;exact h
 refine⟨h.uniq.put,fun i h1 h2 h3=>?_,fun i h1 h2 h3=>?_,fun i h1=>h.fresh i (by omega),fun i h1 h2 h3=>?_⟩
 ·by_cases hik:i=k
  ·subst hik
   rw[mpGet_put_self,atL_self hp]
   cases he:elseAt C.p i with
   | none=>rfl
   | some j=>dsimp only;rw[if_neg (by have:=helse j he;omega)]
  ·rw[mpGet_put_ne (by omega),h.zero i h1 (by omega) h3,atL_set hik]
   cases he:elseAt C.p i with
   | none=>rfl
   | some j=>
    have:=else_ne (k:=k) he (by omega)
    dsimp only
    by_cases hj:j < k
    ·rw[if_pos hj,if_pos (by omega)]
    ·rw[if_neg hj,if_neg (by omega)]
 ·by_cases hik:i=k
  ·subst hik
   rw[h.fresh i (Nat.le_refl _)]
   cases he:elseAt C.p i with
   | none=>rfl
   | some j=>dsimp only;rw[if_neg (by have:=helse j he;omega)]
  ·rw[h.over i h1 (by omega) h3]
   cases he:elseAt C.p i with
   | none=>rfl
   | some j=>
    have:=else_ne (k:=k) he (by omega)
    dsimp only
    rw[atL_set this]
    by_cases hj:j < k
    ·rw[if_pos hj,if_pos (by omega)]
    ·rw[if_neg hj,if_neg (by omega)]
 ·by_cases hik:i=k
  ·subst hik
   rw[mpGet_put_self,atL_self hh]
  ·rw[mpGet_put_ne (by omega),atL_set hik]
   exact h.first i h1 (by omega) h3
theorem MapOk.else (h:MapOk C x k pos heads zs os fs)(hk:kindAt C.p k=4)(ho:elseAt C.p (ownOf C.p k)=some k)(ho1:ownOf C.p k < k)(hp:k < pos.length)(pv v:Int):MapOk C x (k+1) (pos.set k pv) heads (mpDel zs (kI (ownOf C.p k:Int))) (mpPut os (kI (ownOf C.p k:Int)) pv) (mpPut fs (kI k) v):=by
 have huq:∀i j,elseAt C.p i=some j→i≠ownOf C.p k→j≠k:=fun i j hj hi e=>by subst e;exact hi (elseAt_inj hj ho)
 refine⟨h.uniq.del,fun i h1 h2 h3=>?_,fun i h1 h2 h3=>?_,fun i h1=>?_,fun i h1 h2 h3=>?_⟩
 ·have hik:i≠k:=fun e=>by subst e;omega
  by_cases hio:i=ownOf C.p k
  ·subst hio
   rw[mpGet_del_self h.uniq,ho]
   dsimp only
   rw[if_pos (by omega)]
  ·rw[mpGet_del_ne (by omega),h.zero i h1 (by omega) h3,atL_set hik]
   cases he:elseAt C.p i with
   | none=>rfl
   | some j=>
    have:=huq i j he hio
    dsimp only
    by_cases hj:j < k
    ·rw[if_pos hj,if_pos (by omega)]
    ·rw[if_neg hj,if_neg (by omega)]
 ·have hik:i≠k:=fun e=>by subst e;omega
  by_cases hio:i=ownOf C.p k
  ·subst hio
   rw[mpGet_put_self,ho]
   dsimp only
   rw[if_pos (by omega),atL_self hp]
  ·rw[mpGet_put_ne (by omega),h.over i h1 (by omega) h3]
   cases he:elseAt C.p i with
   | none=>rfl
   | some j=>
    have:=huq i j he hio
    dsimp only
    rw[atL_set this]
    by_cases hj:j < k
    ·rw[if_pos hj,if_pos (by omega)]
    ·rw[if_neg hj,if_neg (by omega)]
 ·rw[mpGet_put_ne (by omega)]
  exact h.fresh i (by omega)
 ·have hik:i≠k:=fun e=>by subst e;omega
  rw[mpGet_put_ne (by omega)]
  exact h.first i h1 (by omega) h3
theorem MapOk.end (h:MapOk C x k pos heads zs os fs)(hk:kindAt C.p k=7)(v:Int):MapOk C x (k+1) pos heads zs os (mpPut fs (kI k) v):=by
 have h':=h.plain (by omega) (atL heads k) v
 refine⟨h'.uniq,h'.zero,h'.over,h'.fresh,fun i h1 h2 h3=>?_⟩
 have hik:i≠k:=fun e=>by subst e;omega
 rw[h'.first i h1 h2 h3,atL_set hik]
theorem MapOk.exit (h:MapOk C x k pos heads zs os fs){i:Nat}(hi:ownOf C.p k=i)(h1:x.f < i)(h2:i < k)(hk:kindAt C.p i=3∨kindAt C.p i=5)(hj:∀j,elseAt C.p i=some j→j < k):
  (mpGet zs (kI i)=some (atL pos (exitAt C.p k))∧mpGet os (kI i)=none)∨(mpGet zs (kI i)=none∧mpGet os (kI i)=some (atL pos (exitAt C.p k))):=by
 have hz:=h.zero i h1 h2 hk
 have ho:=h.over i h1 h2 hk
 unfold exitAt
 rw[hi]
 cases he:elseAt C.p i with
 | none=>rw[he]at hz ho;exact .inl ⟨hz,ho⟩
 | some j=>
  rw[he]at hz ho
  dsimp only at hz ho ⊢
  rw[if_pos (hj j he)]at hz ho
  exact .inr ⟨hz,ho⟩
end
end Go.Proofs.YtogdbgmiigfmfaaGreat
namespace Go.Proofs.YtogdbgmiigfmfaaGreat
open Go.Sim
set_option maxRecDepth 100000
set_option maxHeartbeats 4000000
abbrev mpV (o:Sim.Id):AV:= .r (.c (.mpv o))
abbrev mpH (zs os fs:List (Tr×Int)):List (Sim.Id×AO):=[((0,2,0),.mp (some .i64) zs),((0,2,1),.mp (some .i64) os),((0,2,2),.mp (some .i64) fs)]
theorem g_impl_end_fun (C:Cx)(hC:CxOk C)(pd:List Nat)(s:Gs)(d:Int)(ins:List Nat)(q:Ib)(lv:List Int)(x:Sc)(hq:IbOk C x q)(k g:Nat)(hg:isFun C g)(zs os fs:List (Tr×Int))(h1:s.items.length+2≤68719476736)(h2:x.chain.length≤100)(h3:s.start=true→s.items.length∈pd)(h4:-1000≤d∧d≤1990)(hlv:lv.length≤68719476736)(hd p:List Int):
  SpecG Tryz.prog 166 [mkrP,ibP,tI .i64 (k:Int),tI .i64 (g:Int),mpV (0,2,0),mpV (0,2,1),mpV (0,2,2)] (cmpH (0,0,1) (0,0,2) (0,1,1) C pd s d ins q lv++mpH zs os fs) (.tup [])
   (cmpH (1,0,1) (0,0,2) (1,1,1) C pd (leaveG C x k true (d+1) ⟨emitG C s d 0 0 k x.chain,hd,p,lv⟩).g (if x.outer=true then d else d+1) ins q (leaveG C x k true (d+1) ⟨emitG C s d 0 0 k x.chain,hd,p,lv⟩).lv++mpH zs os fs):=by
 refine specG_of_Wo hΓ hmix Tryz.func166 rfl (by decide) rfl rfl ?_
 obtain⟨y,hy,hy0⟩:=hg
 have g1:=g_impl_add C pd s d ins q lv k 0 0 1 (by unfold roomy;omega) (by rw[hq.chain];exact h2) h3 (by omega) (by omega)
 rw[hq.chain]at g1
 have g2:=g_impl_leave C hC pd (emitG C s d 0 0 k x.chain) (d+1) ins q lv x hq k true (by unfold roomy emitG;simp only[List.length_append,List.length_cons,List.length_nil];omega) h2 (fun h=>by cases h) (by omega) hlv hd p
 have hdd:(if x.outer=false∧true=true then d+1 else d+1 - 1)=if x.outer=true then d else d+1:=by
  cases x.outer
  ·rw[if_pos ⟨rfl,rfl⟩,if_neg (by simp)]
  ·rw[if_neg (by simp),if_pos rfl];omega
 rw[hdd]at g2
 repeat' ((conv=>whnf);first|(with_reducible first|apply Wx|apply W6)|refine cg g1 ?_|refine cg g2 ?_|apply oi|(apply fi<;>intro h)|refine⟨g,y.tr,rfl,map_get hy,?_⟩|refine⟨_,rfl,?_⟩|((with_reducible show _=_);rfl))
 all_goals try((with_reducible refine Obl.mk ?_);exact KP)
 all_goals try exact KK
theorem g_impl_end_zero (C:Cx)(hC:CxOk C)(pd:List Nat)(s:Gs)(d:Int)(ins:List Nat)(q:Ib)(lv:List Int)(x:Sc)(hq:IbOk C x q)(k g:Nat)(y:TLine)(hy:C.p[g]?=some y)(hk:y.fKind=3∨y.fKind=5)(zs os fs:List (Tr×Int))(j:Nat)(hd:Int)
  (hm:(mpGet zs (kI g)=some (j:Int)∧mpGet os (kI g)=none)∨(mpGet zs (kI g)=none∧mpGet os (kI g)=some (j:Int))) (hf:y.fKind=5→mpGet fs (kI g)=some hd) (hj:j < s.items.length) (h1:s.items.length+2≤68719476736) (h2:x.chain.length≤100) (h3:s.start=true→s.items.length∈pd) (h4:-1000≤d∧d≤1990) (hlv:lv.length≤68719476736) (s1:Gs) (hs1:s1=if y.fKind=5 then emitG C s d 10 hd k x.chain else s):
  SpecG Tryz.prog 166 [mkrP,ibP,tI .i64 (k:Int),tI .i64 (g:Int),mpV (0,2,0),mpV (0,2,1),mpV (0,2,2)] (cmpH (0,0,1) (0,0,2) (0,1,1) C pd s d ins q lv++mpH zs os fs) (.tup [])
   (cmpH (1,0,1) (0,0,2) (0,1,1) C pd ⟨setArg s1.items j s1.items.length,s1.most,s1.start⟩ d ins q lv++mpH zs os fs):=by
 refine specG_of_Wo hΓ hmix Tryz.func166 rfl (by decide) rfl rfl ?_
 have hl1:j < s1.items.length:=by rw[hs1];split <;> first|(simp[emitG];omega)|omega
 have hil:=itR_clr_len pd s1.items
 have hjl:j < (itR (clr pd s1.items)).length:=by omega
 obtain⟨it,hit⟩:=get_of_lt (l:=clr pd s1.items) (k:=j) (by rw[clr_len];exact hl1)
 have hfin:itR (clr pd (setArg s1.items j s1.items.length))=(itR (clr pd s1.items)).set j [.d (.int .i64 it.fOp.fCode),.d (.int .i64 (s1.items.length:Int)),.d (.int .i64 it.fLine),.d (.bool it.fStart),.d (.lst 1 (it.fChain.map intRow)),.d (.int .i64 it.fDepth),.d (.bool it.fEntered)]:=by rw[clr_setArg,itR_setArg hit]
 have hne:¬y.fKind=0:=by omega
 by_cases h5:y.fKind=5
 ·rw[if_pos h5]at hs1
  have hf5:=hf h5
  have g1:=g_impl_add C pd s d ins q lv k 10 hd 0 (by unfold roomy;omega) (by rw[hq.chain];exact h2) h3 (by omega) (by omega)
  rw[hq.chain,←hs1,Int.add_zero]at g1
  have hfv:mpVal (mpGet fs (kI g))=hd:=by rw[hf5];rfl
  rw[←hfv]at g1
  rcases hm with⟨m1,m2⟩|⟨m1,m2⟩
  ·have hv:mpVal (mpGet zs (kI g))=(j:Int):=by rw[m1];rfl
   repeat' ((conv=>whnf);first|(with_reducible first|apply Wx|apply W6)|refine cg g1 ?_|apply oi|(apply fi<;>intro h)|refine⟨g,y.tr,rfl,map_get hy,?_⟩|refine⟨j,hv,hjl,?_⟩|refine⟨_,(itR_get hit),?_⟩|refine⟨_,rfl,?_⟩|((with_reducible show _=_);rfl))
   all_goals try((with_reducible refine Obl.mk ?_);exact KP)
   all_goals try(exfalso;(simp only[m1,m2,Option.isSome_some,Option.isSome_none,Bool.false_eq_true,Bool.true_eq_false,beq_iff_eq,beq_eq_false_iff_ne,ne_eq]at *) <;> first|omega|contradiction)
   all_goals(refine⟨?_⟩;rw[hil,hfin];rfl)
  ·have hv:mpVal (mpGet os (kI g))=(j:Int):=by rw[m2];rfl
   repeat' ((conv=>whnf);first|(with_reducible first|apply Wx|apply W6)|refine cg g1 ?_|apply oi|(apply fi<;>intro h)|refine⟨g,y.tr,rfl,map_get hy,?_⟩|refine⟨j,hv,hjl,?_⟩|refine⟨_,(itR_get hit),?_⟩|refine⟨_,rfl,?_⟩|((with_reducible show _=_);rfl))
   all_goals try((with_reducible refine Obl.mk ?_);exact KP)
   all_goals try(exfalso;(simp only[m1,m2,Option.isSome_some,Option.isSome_none,Bool.false_eq_true,Bool.true_eq_false,beq_iff_eq,beq_eq_false_iff_ne,ne_eq]at *) <;> first|omega|contradiction)
   all_goals(refine⟨?_⟩;rw[hil,hfin];rfl)
 ·rw[if_neg h5]at hs1
  subst hs1
  rcases hm with⟨m1,m2⟩|⟨m1,m2⟩
  ·have hv:mpVal (mpGet zs (kI g))=(j:Int):=by rw[m1];rfl
   repeat' ((conv=>whnf);first|(with_reducible first|apply Wx|apply W6)|apply oi|(apply fi<;>intro h)|refine⟨g,y.tr,rfl,map_get hy,?_⟩|refine⟨j,hv,hjl,?_⟩|refine⟨_,(itR_get hit),?_⟩|refine⟨_,rfl,?_⟩|((with_reducible show _=_);rfl))
   all_goals try((with_reducible refine Obl.mk ?_);exact KP)
   all_goals try(exfalso;(simp only[m1,m2,Option.isSome_some,Option.isSome_none,Bool.false_eq_true,Bool.true_eq_false,beq_iff_eq,beq_eq_false_iff_ne,ne_eq]at *) <;> first|omega|contradiction)
   all_goals(refine⟨?_⟩;rw[hil,hfin];rfl)
  ·have hv:mpVal (mpGet os (kI g))=(j:Int):=by rw[m2];rfl
   repeat' ((conv=>whnf);first|(with_reducible first|apply Wx|apply W6)|apply oi|(apply fi<;>intro h)|refine⟨g,y.tr,rfl,map_get hy,?_⟩|refine⟨j,hv,hjl,?_⟩|refine⟨_,(itR_get hit),?_⟩|refine⟨_,rfl,?_⟩|((with_reducible show _=_);rfl))
   all_goals try((with_reducible refine Obl.mk ?_);exact KP)
   all_goals try(exfalso;(simp only[m1,m2,Option.isSome_some,Option.isSome_none,Bool.false_eq_true,Bool.true_eq_false,beq_iff_eq,beq_eq_false_iff_ne,ne_eq]at *) <;> first|omega|contradiction)
   all_goals(refine⟨?_⟩;rw[hil,hfin];rfl)
end Go.Proofs.YtogdbgmiigfmfaaGreat
namespace Go.Proofs.YtogdbgmiigfmfaaGreat
open Go.Sim
set_option maxRecDepth 100000
set_option maxHeartbeats 4000000
theorem clr_fresh {pd:List Nat}{l:List TItem}:clr (l.length::pd) l=clr pd l:=by
 apply List.ext_getElem?
 intro i
 rw[clr_get,clr_get]
 cases hx:l[i]? with
 | none=>rfl
 | some x=>
  have:=lt_of_get hx
  simp only[Option.map_some,clrAt,List.contains_cons]
  rw[show(i==l.length)=false by simp;omega,Bool.false_or]
theorem clr_mark {pd:List Nat}{l:List TItem}{n:Nat}{it:TItem}(hx:l[n]?=some it)(hs:it.fStart=true)(hn:n∉pd):(itR (clr (n::pd) l)).set n [.d (.int .i64 it.fOp.fCode),.d (.int .i64 it.fOp.fArg),.d (.int .i64 it.fLine),.d (.bool true),.d (.lst 1 (it.fChain.map intRow)),.d (.int .i64 it.fDepth),.d (.bool it.fEntered)]=itR (clr pd l):=by
 have h1:clr pd l=(clr (n::pd) l).set n it:=by
  apply List.ext_getElem?
  intro i
  rw[List.getElem?_set,clr_len,clr_get,clr_get]
  by_cases h:n=i
  ·subst h
   rw[if_pos rfl,if_pos (lt_of_get hx),hx]
   simp only[Option.map_some,clrAt]
   rw[if_neg (by simpa using hn)]
  ·rw[if_neg h]
   cases l[i]? with
   | none=>rfl
   | some y=>
    simp only[Option.map_some,clrAt,List.contains_cons]
    rw[show(i==n)=false by simp;omega,Bool.false_or]
 rw[h1]
 simp only[itR,deepRows,List.map_set]
 congr 1
 simp[TItem.tr,hs]
theorem genE_off {C:Cx}(hC:CxOk C){lev:Nat}{x:Sc}{ins:List Nat}(hx:ScOk C x ins)(hlev:((lev+(ins.length - 1):Nat):Int)=C.b.fInline){line b:Nat}:∀(e:Ex) {d:Int} {s:Gs},(∀t∈e.toks,t.fKind=7→∃f,findN C.p 0 t.fName=some f)→Beg b s→(genE C (repN C lev) x ins line e d s).start=false
 | .node t es,d,s,hca,hb=>by
  rw[genE]
  have hb2:=genEs_beg (C:=C) (x:=x) (ins:=ins) (line:=line) (rep:=repN C lev) (fun g d s hg hr hb=>repN_beg hC lev line g d s hx hg hr hb) es d hb
  obtain⟨s1,hs1⟩:∃s1,genEs C (repN C lev) x ins line es d s=s1:=⟨_,rfl⟩
  rw[hs1]at hb2 ⊢
  unfold finG
  split
  ·rfl
  ·split
   ·rfl
   ·split
    ·rename_i h7
     obtain⟨f,hf⟩:=hca t (by simp[Ex.toks]) h7
     rw[hf]
     dsimp only
     split
     ·rename_i hr
      obtain⟨r1,_⟩:=replB_spec hr
      have hc:=hx.chain
      obtain⟨m,rfl⟩:∃m,lev=m+1:=⟨lev - 1,by omega⟩
      exact repN_off hb2
     ·rfl
    ·rfl
theorem ILinesC_of {C:Cx}(hC:CxOk C){lev:Nat}(hE:IExprC C lev):ILinesC C lev:=by
 intro x q ins pd s d hx hq hqf hqe hqb hst hpd hroom hlev hd0 hd1
 refine specG_of_Wo hΓ hmix Tryz.func108 rfl (by decide) rfl rfl ?_
 obtain⟨e,he,hfe,hel,hen,hll⟩:=hx.endE hC
 rw[hen]at hqe hroom
 have h60:=hC.len
 have hin:=hC.inl
 have hchn:=hx.chain
 have h3:=tokC_3 (n:=lev) (by omega)
 have hch:x.chain.length≤100:=by omega
 have hch':q.chain.length≤100:=by rw[hq.chain];exact hch
 have hxf:0≤x.first∧x.first≤1000:=by have:=hx.first;omega
 have gO:=s_impl_owners C.p h60
 have hol:=ownF_len C.p C.p.length
 obtain⟨R,hR⟩:∃R,runL C (repN C lev) x ins d (e+1 - (x.f+1)) (x.f+1) (startL C s)=R:=⟨_,rfl⟩
 have hfin:linesG C (repN C lev) x ins d s=(R.g,R.lv):=by
  unfold linesG
  rw[hen,show e - x.f=e+1 - (x.f+1) by omega,hR]
 rw[hfin]
 have hI0:LInv C lev x ins d e R (x.f+1) (startL C s):=⟨Nat.le_refl _,by omega,by simp[startL],by simp[startL],fun i h1 h2=>by omega,⟨by simp[startL],fun j hj=>by simp[startL]at hj⟩,by rw[show e+1 - (x.f+1)=e - x.f by omega];exact hroom,hR⟩
 have hM0:MapOk C x (x.f+1) (startL C s).pos (startL C s).heads [] [] []:=⟨trivial,fun i h1 h2=>by omega,fun i h1 h2=>by omega,fun i _=>rfl,fun i h1 h2=>by omega⟩
 repeat' ((conv=>whnf);first|(with_reducible first|apply Wx|apply W6)|apply oi|(apply fi<;>intro h)|refine cl gO ?_|refine⟨_,rfl,?_⟩|((with_reducible show _=_);rfl))
 all_goals try((with_reducible refine Obl.mk ?_);exact KP)
 conv=>whnf
 refine⟨{r:(Nat×Ls×Int)×(List (Tr×Int)×List (Tr×Int)×List (Tr×Int)) // LInv C lev x ins d e R r.1.1 r.1.2.1∧MapOk C x r.1.1 r.1.2.1.pos r.1.2.1.heads r.2.1 r.2.2.1 r.2.2.2∧(r.1.1=e+1→r.1.2.2=if x.outer=true then d else d+1)∧s.items.length≤r.1.2.1.g.items.length∧r.1.2.1.g.start=false},
  fun r=>⟨[(0,mkrP),(1,ibP),(4,.r (.c (.own (15,0,0)))),(5,mpV (16,0,0)),(6,mpV (17,0,0)),(7,mpV (18,0,0)),(8,tI .i64 (r.1.1.1:Int))],
   [(
    (0,0,0),some (cmpB C r.1.1.2.1.g r.1.1.2.2 (15,0,1) (15,0,2))),((15,0,1),some (.dar 7 (itR (clr pd r.1.1.2.1.g.items)) none)),((15,0,2),some (.arr false 1 (insR ins))),((0,1,0),some (ibB q (15,0,3))),((15,0,3),some (.arr false 1 (r.1.1.2.1.lv.map intRow))),((15,0,0),some (.arr true 1 ((ownF C.p C.p.length).map intRow))),
    ((16,0,0),some (.mp (some .i64) r.1.2.1)),((17,0,0),some (.mp (some .i64) r.1.2.2.1)),((18,0,0),some (.mp (some .i64) r.1.2.2.2))],[18,17,16,15,0]⟩,
  fun r=>e+1 - r.1.1.1,⟨((x.f+1,startL C s,d),([],[],[])),hI0,hM0,fun h=>by dsimp only at h;omega,Nat.le_refl _,hst⟩,?_,?_⟩
 ·skip
  repeat' ((conv=>whnf);first|(with_reducible first|apply Wx|apply W6)|apply oi|(apply fi<;>intro h)|refine⟨_,rfl,?_⟩|((with_reducible show _=_);rfl))
  all_goals try((with_reducible refine Obl.mk ?_);exact KP)
  all_goals try exact⟨KW⟩
 intro⟨⟨⟨k,L,dep⟩,⟨zs,os,fs⟩⟩,hI,hM,hdep,hgs,hL0⟩
 dsimp only at hI hM hdep hgs hL0 ⊢
 by_cases hke:k≤e
 ·obtain⟨ln,hl⟩:=get_of_lt (l:=C.p) (k:=k) (by omega)
  have h0:=lines_kinds hC hx he hI.lo hke hl
  obtain⟨hk0,hk7,_,h20,hexp⟩:=hC.line _ _ hl
  obtain⟨hsh,hnm⟩:=toks_short hC hl
  have hkf:=hI.lo
  have hIr:=hI.room
  have hIh:=hI.heads
  have hIp:=hI.pos
  have hlvl:=hI.lv.1
  have hkk:=kindAt_of hl
  have hIroom:L.g.items.length+20 * tokC lev+3≤68719476736:=by
   obtain⟨n,hn⟩:∃n,e+1 - k=n+1:=⟨e - k,by omega⟩
   rw[hn,Nat.add_mul]at hIr
   omega
  obtain⟨A,hA⟩:∃A,stepA C (repN C lev) x ins d k ln L=A:=⟨_,rfl⟩
  have hrepG:∀line g d s,isFun C g→replB C ins g s.items.length=true→Grow (tokC lev) s (repN C lev x ins line g d s):=fun line g d s hg hr=>repN_grow hC lev line g d s hx hg hr
  have hN:=LInv.next hC hx he hI hke hl
  have hAo:A.g.start=false:=by rw[←hA];exact stepA_off hL0
  have hAg:=(stepA_grow (x:=x) (ins:=ins) (rep:=repN C lev) (lev:=lev) hrepG hC hl h0 d L).ge
  rw[hA]at hN hAg
  obtain⟨b1,b2,b3,b4,b5,b6⟩:=stepB_lens (C:=C) (x:=x) k ln A
  have hBo:(stepB C x k ln A).g.start=false:=by rw[b6];exact hAo
  have hsg:s.items.length≤(stepB C x k ln A).g.items.length:=by rw[b4];omega
  have hitl:=itR_clr_len pd L.g.items
  have hro:roomy L.g:=by unfold roomy;omega
  have hpdn:∀i∈pd,i < L.g.items.length:=fun i hi=>by have:=hpd i hi;omega
  have gH:=s_impl_hasExpr ln.fKind
  have hpk:k < L.pos.length:=by omega
  have hhk:k < L.heads.length:=by omega
  have hown:∀i:Nat,(endAt C.p i=some k∨elseAt C.p i=some k)→((ownF C.p C.p.length).map intRow)[k]?=some (intRow (i:Int)):=fun i hi=>by
   have hi2:i < C.p.length:=by
    rcases hi with h|h
    ·obtain⟨_,hx,_⟩:=endAt_some h;exact lt_of_get hx
    ·obtain⟨_,_,hx,_⟩:=elseAt_some h;exact lt_of_get hx
   rw[List.getElem?_map,ownF_get hi (by omega) _ hi2]
   rfl
  have hkol:k < ((ownF C.p C.p.length).map intRow).length:=by rw[List.length_map,hol];omega
  have hkne:ln.fKind≠7→k < e:=fun h=>by
   rcases Nat.lt_or_eq_of_le hke with h'|h'
   ·exact h'
   ·subst h'
    obtain⟨z,hz,hz7⟩:=endAt_kind he
    rw[hl]at hz
    injection hz with hz
    subst hz
    exact absurd hz7 h
  have hcalls:ln.fKind≠7→callsOk C ln.fExpr:=fun h=>by
   obtain⟨l0,q1,q2⟩:=hx.fn
   obtain⟨e',q3,_,_,q4⟩:=hC.fn _ _ q1 q2
   rw[he]at q3
   injection q3 with q3
   subst q3
   exact(q4 k ln (by omega) (hkne h) hl).2.1
  obtain⟨g1,hg1⟩:∃g1,genE C (repN C lev) x ins k (exL ln.fExpr) d ⟨L.g.items,L.g.most,true⟩=g1:=⟨_,rfl⟩
  have hbeg:Beg L.g.items.length (⟨L.g.items,L.g.most,true⟩:Gs):=⟨Nat.le_refl _,⟨fun _=>rfl,fun _=>rfl⟩⟩
  have hX:exprOk ln.fExpr=true→ln.fKind≠7→SpecG Tryz.prog 162 [mkrP,ibP,tI .i64 (k:Int),.r (.c (.t (.lst 3 (ln.fExpr.map TTok.tr)))),tI .i64 (0:Int),tI .i64 (L.g.items.length:Int)] (cmpH (0,0,1) (0,0,2) (0,1,1) C (L.g.items.length::pd) ⟨L.g.items,L.g.most,true⟩ d ins q L.lv) (.tup []) (cmpH (1,0,1) (1,0,2) (0,1,1) C (L.g.items.length::pd) g1 (d+1) ins q L.lv):=fun hx1 hx7=>by
   obtain⟨eo,et⟩:=exL_ok hx1
   have h20':(exL ln.fExpr).toks.length≤20:=by rw[←et];exact h20
   have hmu:=Nat.mul_le_mul_right (tokC lev) h20'
   have:=hE (exL ln.fExpr) x q ins (L.g.items.length::pd) L.lv k 0 L.g.items.length ln ⟨L.g.items,L.g.most,true⟩ d eo hl ⟨[],by rw[List.drop_zero,List.append_nil];exact et⟩ (hcalls hx7) ⟨hx,hq,⟨by dsimp only;omega,hlev,hd0,by omega⟩,hbeg,by simp,fun i hi=>by
    rcases List.mem_cons.1 hi with rfl|hi
    ·exact Nat.le_refl _
    ·have:=hpdn i hi;omega⟩
   rw[hg1]at this
   exact this
  have hGr:exprOk ln.fExpr=true→ln.fKind≠7→g1.items.length≤L.g.items.length+20 * tokC lev∧g1.start=false∧∃it,g1.items[L.g.items.length]?=some it∧it.fStart=true:=fun hx1 hx7=>by
   have:=(genE_grow' (x:=x) (ins:=ins) (rep:=repN C lev) (line:=k) (lev:=lev) (fun g d s hg hr=>repN_grow hC lev k g d s hx hg hr) hC hl hx1 d ⟨L.g.items,L.g.most,true⟩).le
   have et:=(exL_ok hx1).2
   have ho:=genE_off hC hx hlev (line:=k) (exL ln.fExpr) (d:=d) (by rw[←et];exact fun t ht h7=>by obtain⟨f,hf,_⟩:=hcalls hx7 t ht h7;exact⟨f,hf⟩) hbeg
   have hm:=genE_mark (C:=C) (rep:=repN C lev) (b:=L.g.items.length) (fun x ins line g d s h=>repN_mark lev x ins line g d s h) x ins k (exL ln.fExpr) d ⟨L.g.items,L.g.most,true⟩ (.inl ⟨rfl,rfl⟩)
   rw[hg1]at this ho hm
   refine⟨this,ho,?_⟩
   rcases hm with⟨hm,_⟩|hm
   ·rw[ho]at hm;cases hm
   ·exact hm
  unfold stepA at hA
  rw[hg1]at hA
  dsimp only at hA
  have hfr:=clr_fresh (pd:=pd) (l:=L.g.items)
  have hcase:ln.fKind=4∨ln.fKind=7∨ln.fKind=1∨ln.fKind=2∨ln.fKind=6∨(ln.fKind=3∨ln.fKind=5):=by omega
  rcases hcase with h4|h7|h1|h2|h6|h35
  ·
   rw[if_pos h4]at hA
   obtain⟨o1,o2,o3,o4⟩:=hx.own4 hC he (by omega) hke hl h4
   obtain⟨y,m,hy,y3,hm,_⟩:=elseAt_some o1
   have hky:=kindAt_of hy
   have hhe:hasExpr ln.fKind=false:=by rw[h4];rfl
   rw[hhe]at gH
   have gS:=g_impl_add C pd L.g d ins q L.lv k 10 0 0 hro hch' (fun h=>by rw[hL0]at h;cases h) (by omega) (by omega)
   rw[hq.chain,Int.add_zero]at gS
   have a1:A.g=⟨setArg (emitG C L.g d 10 0 k x.chain).items (atL L.pos (ownOf C.p k)) (emitG C L.g d 10 0 k x.chain).items.length,(emitG C L.g d 10 0 k x.chain).most,(emitG C L.g d 10 0 k x.chain).start⟩:=by rw[←hA]
   have a4:A.heads=L.heads:=by rw[←hA]
   have a5:A.pos=L.pos.set k L.g.items.length:=by rw[←hA]
   have a6:A.lv=L.lv:=by rw[←hA]
   have hM2:=hM.else (by omega) o1 o3 hpk (L.g.items.length:Int) (L.g.items.length:Int)
   have hB:stepB C x k ln A=A:=by unfold stepB;rw[if_neg (by omega)]
   have hz:=hM.zero _ o2 o3 (.inl (by omega))
   rw[o1]at hz
   dsimp only at hz
   rw[if_neg (by omega)]at hz
   obtain⟨p1,p2⟩:=hI.at_ _ o2 o3 (by unfold jumps;omega)
   obtain⟨jn,hjn⟩:=Int.eq_ofNat_of_zero_le p1
   have hzv:mpVal (mpGet zs (kI (ownOf C.p k:Int)))=(jn:Int):=by rw[hz];exact hjn
   have hel1:(emitG C L.g d 10 0 k x.chain).items.length=L.g.items.length+1:=by simp[emitG]
   have hjl:jn < (itR (clr pd (emitG C L.g d 10 0 k x.chain).items)).length:=by rw[itR_clr_len,hel1];omega
   obtain⟨it,hit⟩:=get_of_lt (l:=clr pd (emitG C L.g d 10 0 k x.chain).items) (k:=jn) (by rw[clr_len,hel1];omega)
   have hsa:itR (clr pd (setArg (emitG C L.g d 10 0 k x.chain).items (atL L.pos (ownOf C.p k)) (emitG C L.g d 10 0 k x.chain).items.length))=(itR (clr pd (emitG C L.g d 10 0 k x.chain).items)).set jn [.d (.int .i64 it.fOp.fCode),.d (.int .i64 ((itR (clr pd (emitG C L.g d 10 0 k x.chain).items)).length:Int)),.d (.int .i64 it.fLine),.d (.bool it.fStart),.d (.lst 1 (it.fChain.map intRow)),.d (.int .i64 it.fDepth),.d (.bool it.fEntered)]:=by rw[clr_setArg,hjn,itR_setArg hit,itR_clr_len]
   have hok:=hown _ (.inr o1)
   repeat' ((conv=>whnf);first|(with_reducible apply W1;fail_if_success (with_reducible show Wo _ _ _ _ (Code.region 10 _ _) _ _))|(with_reducible first|apply W2|apply W3|apply W4|apply W5|apply W6|apply W7|apply W8|apply W9)|apply reg_inl|apply oi|(apply fi<;>intro h)|refine⟨k,ln.tr,rfl,map_get hl,?_⟩|refine⟨_,rfl,?_⟩|((with_reducible show _=_);rfl))
   all_goals try((with_reducible refine Obl.mk ?_);exact KP)
   all_goals try(exfalso;rw[hqe]at h;have:=of_decide_eq_false h;omega)
   conv=>whnf
   rw[hitl]
   repeat' ((conv=>whnf);first|(with_reducible first|apply Wx|apply W6)|refine cg gS ?_|apply oi|(apply fi<;>intro h)|refine cl gH ?_|refine⟨k,rfl,hkol,?_⟩|refine⟨_,hok,?_⟩|refine⟨jn,hzv,hjl,?_⟩|refine⟨_,(itR_get hit),?_⟩|refine⟨_,rfl,?_⟩|((with_reducible show _=_);rfl))
   all_goals try((with_reducible refine Obl.mk ?_);exact KP)
   all_goals try exact⟨congrArg (Tr.int .i64) hqb.symm⟩
   all_goals try exact KK
   all_goals(conv=>whnf)
   all_goals(refine⟨⟨((k+1,stepB C x k ln A,d),(mpDel zs (kI (ownOf C.p k:Int)),mpPut os (kI (ownOf C.p k:Int)) (L.g.items.length:Int),mpPut fs (kI k) (L.g.items.length:Int))),hN,by dsimp only;rw[b2,b1];rw[a5,a4];exact hM2,fun h=>by have:=hkne (by omega);dsimp only at h;omega,hsg,hBo⟩,?_,by dsimp only;omega⟩)
   repeat' ((conv=>whnf);first|(with_reducible first|apply Wx|apply W6)|apply oi|(apply fi<;>intro h)|refine⟨_,rfl,?_⟩|((with_reducible show _=_);rfl))
   all_goals try((with_reducible refine Obl.mk ?_);exact KP)
   all_goals try exact⟨KW⟩
   all_goals(refine⟨?_⟩;dsimp only;simp only[hB,a1,a4,a5,a6,hsa,hitl];try rfl)
  ·
   rw[if_neg (by omega),if_pos h7]at hA
   have hhe:hasExpr ln.fKind=false:=by rw[h7];rfl
   rw[hhe]at gH
   obtain⟨o1,o2⟩:=hx.own7 hC he (by omega) hke hl h7
   have hok:=hown _ (.inl o1)
   have hM2:=hM.end (by omega) (L.g.items.length:Int)
   rcases o2 with⟨o2,o3⟩|⟨o2,o3,o4,y,hy,o5⟩
   ·subst o2
    rw[if_pos o3]at hA
    rw[o3]at hok
    have gS:=g_impl_end_fun C hC pd L.g d ins q L.lv x hq k x.f hx.fn zs os (mpPut fs (kI k) (L.g.items.length:Int)) (by omega) hch (fun h=>by rw[hL0]at h;cases h) (by omega) (by omega) L.heads L.pos
    rw[show leaveG C x k true (d+1) ⟨emitG C L.g d 0 0 k x.chain,L.heads,L.pos,L.lv⟩=A from hA]at gS
    have a4:A.heads=L.heads:=by rw[←hA];unfold leaveG;(repeat' split) <;> rfl
    have a5:A.pos=L.pos:=by rw[←hA];unfold leaveG;(repeat' split) <;> rfl
    have hB:stepB C x k ln A=A:=by unfold stepB;rw[if_neg (by rintro⟨_,h⟩;exact h o3)]
    repeat' ((conv=>whnf);first|(with_reducible apply W1;fail_if_success (with_reducible show Wo _ _ _ _ (Code.region 10 _ _) _ _))|(with_reducible first|apply W2|apply W3|apply W4|apply W5|apply W6|apply W7|apply W8|apply W9)|apply reg_inl|apply oi|(apply fi<;>intro h)|refine⟨k,ln.tr,rfl,map_get hl,?_⟩|refine⟨_,rfl,?_⟩|((with_reducible show _=_);rfl))
    all_goals try((with_reducible refine Obl.mk ?_);exact KP)
    all_goals try(exfalso;rw[hqe]at h;have:=of_decide_eq_false h;omega)
    conv=>whnf
    rw[hitl]
    repeat' ((conv=>whnf);first|(with_reducible first|apply Wx|apply W6)|refine cg gS ?_|apply oi|(apply fi<;>intro h)|refine cl gH ?_|refine⟨k,rfl,hkol,?_⟩|refine⟨_,hok,?_⟩|refine⟨_,rfl,?_⟩|((with_reducible show _=_);rfl))
    all_goals try((with_reducible refine Obl.mk ?_);exact KP)
    all_goals try exact⟨congrArg (Tr.int .i64) hqb.symm⟩
    all_goals try exact KK
    all_goals(conv=>whnf)
    all_goals(refine⟨⟨((k+1,stepB C x k ln A,(if x.outer=true then d else d+1)),(zs,os,mpPut fs (kI k) (L.g.items.length:Int))),hN,by dsimp only;rw[b2,b1];rw[a5,a4];exact hM2,fun _=>rfl,hsg,hBo⟩,?_,by dsimp only;omega⟩)
    repeat' ((conv=>whnf);first|(with_reducible first|apply Wx|apply W6)|apply oi|(apply fi<;>intro h)|refine⟨_,rfl,?_⟩|((with_reducible show _=_);rfl))
    all_goals try((with_reducible refine Obl.mk ?_);exact KP)
    all_goals try exact⟨KW⟩
    all_goals(refine⟨?_⟩;dsimp only;simp only[hB];try rfl)
   ·rw[if_neg (by omega)]at hA
    have hky:=kindAt_of hy
    have a1:A.g=if y.fKind=5 then emitG C L.g d 10 (atL L.heads (ownOf C.p k)) k x.chain else L.g:=by rw[←hA,hky];split <;> rfl
    have a4:A.heads=L.heads:=by rw[←hA];split <;> rfl
    have a5:A.pos=L.pos:=by rw[←hA];split <;> rfl
    have a6:A.lv=L.lv:=by rw[←hA];split <;> rfl
    have hex:=hM.exit (i:=ownOf C.p k) rfl o3 o4 (by omega) (fun j hj=>by
     obtain⟨_,e2,_,_,q1,_,q2,_⟩:=elseAt_some hj
     rw[o1]at q1
     injection q1 with q1
     omega)
    obtain⟨x1,x2,x3,_⟩:=exit_to hC hx he (by omega) (by omega) hl h7
    obtain⟨p1,p2⟩:=hI.at_ _ (by omega) x2 x3
    obtain⟨jn,hjn⟩:=Int.eq_ofNat_of_zero_le p1
    rw[hjn]at hex
    have hfs:y.fKind=5→mpGet (mpPut fs (kI k) (L.g.items.length:Int)) (kI (ownOf C.p k:Int))=some (atL L.heads (ownOf C.p k)):=fun h5=>by rw[mpGet_put_ne (by omega)];exact hM.first _ o3 o4 (by omega)
    have gS:=g_impl_end_zero C hC pd L.g d ins q L.lv x hq k (ownOf C.p k) y hy o5 zs os (mpPut fs (kI k) (L.g.items.length:Int)) jn (atL L.heads (ownOf C.p k)) hex hfs (by omega) (by omega) hch (fun h=>by rw[hL0]at h;cases h) (by omega) (by omega) A.g a1
    have hB:(stepB C x k ln A).g=⟨setArg A.g.items (jn:Int) A.g.items.length,A.g.most,A.g.start⟩:=by unfold stepB;rw[if_pos ⟨h7,by omega⟩,a5,hjn]
    repeat' ((conv=>whnf);first|(with_reducible apply W1;fail_if_success (with_reducible show Wo _ _ _ _ (Code.region 10 _ _) _ _))|(with_reducible first|apply W2|apply W3|apply W4|apply W5|apply W6|apply W7|apply W8|apply W9)|apply reg_inl|apply oi|(apply fi<;>intro h)|refine⟨k,ln.tr,rfl,map_get hl,?_⟩|refine⟨_,rfl,?_⟩|((with_reducible show _=_);rfl))
    all_goals try((with_reducible refine Obl.mk ?_);exact KP)
    all_goals try(exfalso;rw[hqe]at h;have:=of_decide_eq_false h;omega)
    conv=>whnf
    rw[hitl]
    repeat' ((conv=>whnf);first|(with_reducible first|apply Wx|apply W6)|refine cg gS ?_|apply oi|(apply fi<;>intro h)|refine cl gH ?_|refine⟨k,rfl,hkol,?_⟩|refine⟨_,hok,?_⟩|refine⟨_,rfl,?_⟩|((with_reducible show _=_);rfl))
    all_goals try((with_reducible refine Obl.mk ?_);exact KP)
    all_goals try exact⟨congrArg (Tr.int .i64) hqb.symm⟩
    all_goals try exact KK
    all_goals(conv=>whnf)
    all_goals(refine⟨⟨((k+1,stepB C x k ln A,d),(zs,os,mpPut fs (kI k) (L.g.items.length:Int))),hN,by dsimp only;rw[b2,b1];rw[a5,a4];exact hM2,fun h=>by dsimp only at h;omega,hsg,hBo⟩,?_,by dsimp only;omega⟩)
    repeat' ((conv=>whnf);first|(with_reducible first|apply Wx|apply W6)|apply oi|(apply fi<;>intro h)|refine⟨_,rfl,?_⟩|((with_reducible show _=_);rfl))
    all_goals try((with_reducible refine Obl.mk ?_);exact KP)
    all_goals try exact⟨KW⟩
    all_goals(refine⟨?_⟩;dsimp only;simp only[hB,b3,a6];try rfl)
  ·
   rw[if_neg (by omega),if_neg (by omega),if_pos h1]at hA
   have hx1:=hexp (.inl h1)
   have gX:=hX hx1 (by omega)
   obtain⟨hG1,hG2,it,hit1,hit2⟩:=hGr hx1 (by omega)
   have hnp:L.g.items.length∉pd:=fun h=>by have:=hpdn _ h;omega
   have hmk:=clr_mark (pd:=pd) hit1 hit2 hnp
   have hitx:(clr (L.g.items.length::pd) g1.items)[L.g.items.length]?=some (offI it):=by rw[clr_get,hit1];simp[clrAt]
   have hnl:L.g.items.length < (itR (clr (L.g.items.length::pd) g1.items)).length:=by rw[itR_clr_len];exact lt_of_get hit1
   have hhe:hasExpr ln.fKind=true:=hasExpr_iff.2 (.inl h1)
   rw[hhe]at gH
   have hix:=idxOf_le x.locals ln.fName
   have gI:=s_slices_IndexS x.locals ln.fName (by omega)
   have gS:=g_impl_access C hC pd g1 (d+1) ins q L.lv x hq k (idxOf x.locals ln.fName) (-1) true rfl (by unfold roomy;omega) hch (fun h=>by rw[hG2]at h;cases h) (by omega) hxf (by omega)
   rw[show d+1+-1=d by omega]at gS
   have a1:A.g=emitG C g1 (d+1) (placeC C true) (placeA C x (d+1) (idxOf x.locals ln.fName)) k x.chain:=by rw[←hA];rfl
   have a4:A.heads=L.heads.set k L.g.items.length:=by rw[←hA]
   have a5:A.pos=L.pos:=by rw[←hA]
   have a6:A.lv=L.lv:=by rw[←hA]
   rw[←hq.locals]at gI gS a1
   have hM2:=hM.plain (by omega) (L.g.items.length:Int) (L.g.items.length:Int)
   have hB:stepB C x k ln A=A:=by unfold stepB;rw[if_neg (by omega)]
   generalize idxOf q.locals ln.fName=ix at *
   repeat' ((conv=>whnf);first|(with_reducible apply W1;fail_if_success (with_reducible show Wo _ _ _ _ (Code.region 10 _ _) _ _))|(with_reducible first|apply W2|apply W3|apply W4|apply W5|apply W6|apply W7|apply W8|apply W9)|apply reg_inl|apply oi|(apply fi<;>intro h)|refine⟨k,ln.tr,rfl,map_get hl,?_⟩|refine⟨_,rfl,?_⟩|((with_reducible show _=_);rfl))
   all_goals try((with_reducible refine Obl.mk ?_);exact KP)
   all_goals try(exfalso;rw[hqe]at h;have:=of_decide_eq_false h;omega)
   conv=>whnf
   rw[hitl]
   repeat' ((conv=>whnf);first|(with_reducible first|apply Wx|apply W6)|refine cg gX ?_|refine cg gS ?_|apply oi|(apply fi<;>intro h)|refine cl gH ?_|refine⟨L.g.items.length,rfl,hnl,?_⟩|refine⟨_,(itR_get hitx),?_⟩|refine cl gI ?_|refine⟨_,rfl,?_⟩|((with_reducible show _=_);rfl))
   all_goals try((with_reducible refine Obl.mk ?_);exact KP)
   all_goals try exact⟨congrArg (Tr.int .i64) hqb.symm⟩
   all_goals try exact⟨congrArg itR hfr.symm⟩
   all_goals try exact⟨hmk⟩
   all_goals try exact KK
   all_goals(conv=>whnf)
   all_goals(refine⟨⟨((k+1,stepB C x k ln A,d),(zs,os,mpPut fs (kI k) (L.g.items.length:Int))),hN,by dsimp only;rw[b2,b1];rw[a5,a4];exact hM2,fun h=>by have:=hkne (by omega);dsimp only at h;omega,hsg,hBo⟩,?_,by dsimp only;omega⟩)
   repeat' ((conv=>whnf);first|(with_reducible first|apply Wx|apply W6)|apply oi|(apply fi<;>intro h)|refine⟨_,rfl,?_⟩|((with_reducible show _=_);rfl))
   all_goals try((with_reducible refine Obl.mk ?_);exact KP)
   all_goals try exact⟨KW⟩
   all_goals(refine⟨?_⟩;dsimp only;simp only[hB,a1,a4,a5,a6];try rfl)
  ·
   rw[if_neg (by omega),if_neg (by omega),if_neg (by omega),if_pos h2]at hA
   have hx1:=hexp (.inr (.inl h2))
   have gX:=hX hx1 (by omega)
   obtain⟨hG1,hG2,it,hit1,hit2⟩:=hGr hx1 (by omega)
   have hnp:L.g.items.length∉pd:=fun h=>by have:=hpdn _ h;omega
   have hmk:=clr_mark (pd:=pd) hit1 hit2 hnp
   have hitx:(clr (L.g.items.length::pd) g1.items)[L.g.items.length]?=some (offI it):=by rw[clr_get,hit1];simp[clrAt]
   have hnl:L.g.items.length < (itR (clr (L.g.items.length::pd) g1.items)).length:=by rw[itR_clr_len];exact lt_of_get hit1
   have hhe:hasExpr ln.fKind=true:=hasExpr_iff.2 (.inr (.inl h2))
   rw[hhe]at gH
   have gS:=g_impl_add C pd g1 (d+1) ins q L.lv k 17 0 (-1) (by unfold roomy;omega) hch' (fun h=>by rw[hG2]at h;cases h) (by omega) (by omega)
   rw[hq.chain,show d+1+-1=d by omega]at gS
   have a1:A.g=emitG C g1 (d+1) 17 0 k x.chain:=by rw[←hA]
   have a4:A.heads=L.heads.set k L.g.items.length:=by rw[←hA]
   have a5:A.pos=L.pos:=by rw[←hA]
   have a6:A.lv=L.lv:=by rw[←hA]
   have hM2:=hM.plain (by omega) (L.g.items.length:Int) (L.g.items.length:Int)
   have hB:stepB C x k ln A=A:=by unfold stepB;rw[if_neg (by omega)]
   repeat' ((conv=>whnf);first|(with_reducible apply W1;fail_if_success (with_reducible show Wo _ _ _ _ (Code.region 10 _ _) _ _))|(with_reducible first|apply W2|apply W3|apply W4|apply W5|apply W6|apply W7|apply W8|apply W9)|apply reg_inl|apply oi|(apply fi<;>intro h)|refine⟨k,ln.tr,rfl,map_get hl,?_⟩|refine⟨_,rfl,?_⟩|((with_reducible show _=_);rfl))
   all_goals try((with_reducible refine Obl.mk ?_);exact KP)
   all_goals try(exfalso;rw[hqe]at h;have:=of_decide_eq_false h;omega)
   conv=>whnf
   rw[hitl]
   repeat' ((conv=>whnf);first|(with_reducible first|apply Wx|apply W6)|refine cg gX ?_|refine cg gS ?_|apply oi|(apply fi<;>intro h)|refine cl gH ?_|refine⟨L.g.items.length,rfl,hnl,?_⟩|refine⟨_,(itR_get hitx),?_⟩|refine⟨_,rfl,?_⟩|((with_reducible show _=_);rfl))
   all_goals try((with_reducible refine Obl.mk ?_);exact KP)
   all_goals try exact⟨congrArg (Tr.int .i64) hqb.symm⟩
   all_goals try exact⟨congrArg itR hfr.symm⟩
   all_goals try exact⟨hmk⟩
   all_goals try exact KK
   all_goals(conv=>whnf)
   all_goals(refine⟨⟨((k+1,stepB C x k ln A,d),(zs,os,mpPut fs (kI k) (L.g.items.length:Int))),hN,by dsimp only;rw[b2,b1];rw[a5,a4];exact hM2,fun h=>by have:=hkne (by omega);dsimp only at h;omega,hsg,hBo⟩,?_,by dsimp only;omega⟩)
   repeat' ((conv=>whnf);first|(with_reducible first|apply Wx|apply W6)|apply oi|(apply fi<;>intro h)|refine⟨_,rfl,?_⟩|((with_reducible show _=_);rfl))
   all_goals try((with_reducible refine Obl.mk ?_);exact KP)
   all_goals try exact⟨KW⟩
   all_goals(refine⟨?_⟩;dsimp only;simp only[hB,a1,a4,a5,a6];try rfl)
  ·
   rw[if_neg (by omega),if_neg (by omega),if_neg (by omega),if_neg (by omega),if_pos h6]at hA
   have hx1:=hexp (.inr (.inr (.inr (.inr h6))))
   have gX:=hX hx1 (by omega)
   obtain⟨hG1,hG2,it,hit1,hit2⟩:=hGr hx1 (by omega)
   have hnp:L.g.items.length∉pd:=fun h=>by have:=hpdn _ h;omega
   have hmk:=clr_mark (pd:=pd) hit1 hit2 hnp
   have hitx:(clr (L.g.items.length::pd) g1.items)[L.g.items.length]?=some (offI it):=by rw[clr_get,hit1];simp[clrAt]
   have hnl:L.g.items.length < (itR (clr (L.g.items.length::pd) g1.items)).length:=by rw[itR_clr_len];exact lt_of_get hit1
   have hhe:hasExpr ln.fKind=true:=hasExpr_iff.2 (.inr (.inr (.inr (.inr h6))))
   rw[hhe]at gH
   have gS:=g_impl_leave C hC pd g1 (d+1) ins q L.lv x hq k false (by unfold roomy;omega) hch (fun h=>by rw[hG2]at h;cases h) (by omega) (by omega) (L.heads.set k L.g.items.length) L.pos
   rw[hA,if_neg (by simp),Int.add_sub_cancel]at gS
   have a4:A.heads=L.heads.set k L.g.items.length:=by rw[←hA];unfold leaveG;(repeat' split) <;> rfl
   have a5:A.pos=L.pos:=by rw[←hA];unfold leaveG;(repeat' split) <;> rfl
   have hM2:=hM.plain (by omega) (L.g.items.length:Int) (L.g.items.length:Int)
   have hB:stepB C x k ln A=A:=by unfold stepB;rw[if_neg (by omega)]
   repeat' ((conv=>whnf);first|(with_reducible apply W1;fail_if_success (with_reducible show Wo _ _ _ _ (Code.region 10 _ _) _ _))|(with_reducible first|apply W2|apply W3|apply W4|apply W5|apply W6|apply W7|apply W8|apply W9)|apply reg_inl|apply oi|(apply fi<;>intro h)|refine⟨k,ln.tr,rfl,map_get hl,?_⟩|refine⟨_,rfl,?_⟩|((with_reducible show _=_);rfl))
   all_goals try((with_reducible refine Obl.mk ?_);exact KP)
   all_goals try(exfalso;rw[hqe]at h;have:=of_decide_eq_false h;omega)
   conv=>whnf
   rw[hitl]
   repeat' ((conv=>whnf);first|(with_reducible first|apply Wx|apply W6)|refine cg gX ?_|refine cg gS ?_|apply oi|(apply fi<;>intro h)|refine cl gH ?_|refine⟨L.g.items.length,rfl,hnl,?_⟩|refine⟨_,(itR_get hitx),?_⟩|refine⟨_,rfl,?_⟩|((with_reducible show _=_);rfl))
   all_goals try((with_reducible refine Obl.mk ?_);exact KP)
   all_goals try exact⟨congrArg (Tr.int .i64) hqb.symm⟩
   all_goals try exact⟨congrArg itR hfr.symm⟩
   all_goals try exact⟨hmk⟩
   all_goals try exact KK
   all_goals(conv=>whnf)
   all_goals(refine⟨⟨((k+1,stepB C x k ln A,d),(zs,os,mpPut fs (kI k) (L.g.items.length:Int))),hN,by dsimp only;rw[b2,b1];rw[a5,a4];exact hM2,fun h=>by have:=hkne (by omega);dsimp only at h;omega,hsg,hBo⟩,?_,by dsimp only;omega⟩)
   repeat' ((conv=>whnf);first|(with_reducible first|apply Wx|apply W6)|apply oi|(apply fi<;>intro h)|refine⟨_,rfl,?_⟩|((with_reducible show _=_);rfl))
   all_goals try((with_reducible refine Obl.mk ?_);exact KP)
   all_goals try exact⟨KW⟩
   all_goals(refine⟨?_⟩;dsimp only;simp only[hB,a4,a5];try rfl)
  ·
   rw[if_neg (by omega),if_neg (by omega),if_neg (by omega),if_neg (by omega),if_neg (by omega)]at hA
   have hx1:=hexp (by omega)
   have gX:=hX hx1 (by omega)
   obtain⟨hG1,hG2,it,hit1,hit2⟩:=hGr hx1 (by omega)
   have hnp:L.g.items.length∉pd:=fun h=>by have:=hpdn _ h;omega
   have hmk:=clr_mark (pd:=pd) hit1 hit2 hnp
   have hitx:(clr (L.g.items.length::pd) g1.items)[L.g.items.length]?=some (offI it):=by rw[clr_get,hit1];simp[clrAt]
   have hnl:L.g.items.length < (itR (clr (L.g.items.length::pd) g1.items)).length:=by rw[itR_clr_len];exact lt_of_get hit1
   have hhe:hasExpr ln.fKind=true:=hasExpr_iff.2 (by omega)
   rw[hhe]at gH
   have gS:=g_impl_add C pd g1 (d+1) ins q L.lv k 11 0 (-1) (by unfold roomy;omega) hch' (fun h=>by rw[hG2]at h;cases h) (by omega) (by omega)
   rw[hq.chain,show d+1+-1=d by omega]at gS
   have a1:A.g=emitG C g1 (d+1) 11 0 k x.chain:=by rw[←hA]
   have hitg:=itR_clr_len pd g1.items
   have a4:A.heads=L.heads.set k L.g.items.length:=by rw[←hA]
   have a5:A.pos=L.pos.set k g1.items.length:=by rw[←hA]
   have a6:A.lv=L.lv:=by rw[←hA]
   have hM2:=hM.opens (by omega) hpk hhk (g1.items.length:Int) (L.g.items.length:Int)
   have hB:stepB C x k ln A=A:=by unfold stepB;rw[if_neg (by omega)]
   repeat' ((conv=>whnf);first|(with_reducible apply W1;fail_if_success (with_reducible show Wo _ _ _ _ (Code.region 10 _ _) _ _))|(with_reducible first|apply W2|apply W3|apply W4|apply W5|apply W6|apply W7|apply W8|apply W9)|apply reg_inl|apply oi|(apply fi<;>intro h)|refine⟨k,ln.tr,rfl,map_get hl,?_⟩|refine⟨_,rfl,?_⟩|((with_reducible show _=_);rfl))
   all_goals try((with_reducible refine Obl.mk ?_);exact KP)
   all_goals try(exfalso;rw[hqe]at h;have:=of_decide_eq_false h;omega)
   conv=>whnf
   rw[hitl]
   repeat' ((conv=>whnf);first|(with_reducible first|apply Wx|apply W6)|refine cg gX ?_|refine cg gS ?_|apply oi|(apply fi<;>intro h)|refine cl gH ?_|refine⟨L.g.items.length,rfl,hnl,?_⟩|refine⟨_,(itR_get hitx),?_⟩|refine⟨_,rfl,?_⟩|((with_reducible show _=_);rfl))
   all_goals try((with_reducible refine Obl.mk ?_);exact KP)
   all_goals try exact⟨congrArg (Tr.int .i64) hqb.symm⟩
   all_goals try exact⟨congrArg itR hfr.symm⟩
   all_goals try exact⟨hmk⟩
   all_goals try exact KK
   all_goals(conv=>whnf)
   all_goals(refine⟨⟨((k+1,stepB C x k ln A,d),(mpPut zs (kI k) (g1.items.length:Int),os,mpPut fs (kI k) (L.g.items.length:Int))),hN,by dsimp only;rw[b2,b1];rw[a5,a4];exact hM2,fun h=>by have:=hkne (by omega);dsimp only at h;omega,hsg,hBo⟩,?_,by dsimp only;omega⟩)
   repeat' ((conv=>whnf);first|(with_reducible first|apply Wx|apply W6)|apply oi|(apply fi<;>intro h)|refine⟨_,rfl,?_⟩|((with_reducible show _=_);rfl))
   all_goals try((with_reducible refine Obl.mk ?_);exact KP)
   all_goals try exact⟨KW⟩
   all_goals(refine⟨?_⟩;dsimp only;simp only[hB,a1,a4,a5,a6,List.length_set,itR_clr_len];try rfl)
 ·have hk1:k=e+1:=by have:=hI.hi;omega
  subst hk1
  have hf:=hI.fin
  rw[Nat.sub_self,runL]at hf
  subst hf
  rw[hdep rfl]
  repeat' ((conv=>whnf);first|(with_reducible first|apply Wx|apply W6)|apply oi|(apply fi<;>intro h)|refine⟨_,rfl,?_⟩|((with_reducible show _=_);rfl))
  all_goals try((with_reducible refine Obl.mk ?_);exact KP)
  all_goals try(exfalso;rw[hqe]at h;have:=of_decide_eq_true h;omega)
end Go.Proofs.YtogdbgmiigfmfaaGreat
namespace Go.Proofs.YtogdbgmiigfmfaaGreat
open Go.Sim
set_option maxRecDepth 100000
set_option maxHeartbeats 4000000
theorem ilines_all {C:Cx}(hC:CxOk C):∀lev,IRepC C lev∧ILinesC C lev:=by
 have hL:∀lev,IRepC C lev→ILinesC C lev:=fun lev hR=>ILinesC_of hC fun e x q ins pd lv k p b ln s d h1 h2 h3 h4 h5=>IExprC_of hC hR e.toks.length e (Nat.le_refl _) x q ins pd lv k p b ln s d h1 h2 h3 h4 h5
 intro lev
 induction lev with
 | zero=>
  have hR:IRepC C 0:=by
   intro x q ins pd lv k g b s d hk hg hrb hr
   obtain⟨r1,_⟩:=replB_spec hrb
   have h1:=hr.rm.depth
   have h2:=hr.sc.chain
   omega
  exact⟨hR,hL 0 hR⟩
 | succ n ih=>
  have hR:=IRepC_of hC ih.2
  exact⟨hR,hL _ hR⟩
abbrev bV (b:TBuild):AV:= .r (.agg [.t (.int .i64 b.fFrames),.t (.int .i64 b.fInline),.t (.bool b.fFold),.t (.bool b.fSplit)])
theorem g_impl_compile (C:Cx)(hC:CxOk C)(g:Nat)(hg:isFun C g)(e5:C.args=argsN C.p g):
  SpecG Tryz.prog 53 [vP C.p,tI .i64 (g:Int),bV C.b,tB C.framed,tI .i64 C.words] [] (.tup [.c (.own (1,0,0)),.c (.t (.int .i64 (compG C g).most))]) [((1,0,0),.dar 7 (deepRows ((compG C g).items.map TItem.tr)) none)]:=by
 refine specG_of_Wo hΓ hmix Tryz.func53 rfl (by decide) rfl rfl ?_
 obtain⟨y,hy,hy0⟩:=hg
 have h60:=hC.len
 have hw:=hC.words
 have hin:=hC.inl
 have hA:argsN C.p g=y.fArgs.length:=by rw[argsN,hy]
 have h4:=(hC.line g y hy).2.2.1
 have hloc:=isFun_locals hC ⟨y,hy,hy0⟩
 have hyl:(y.fArgs.map strRow).length=y.fArgs.length:=by simp
 have hll:((localsOf C.p (g:Int)).map strRow).length=(localsOf C.p (g:Int)).length:=by simp
 have hS:ScOk C (outerSc C g) [g]:=⟨⟨y,hy,hy0⟩,rfl,⟨Int.le_refl _,by simp[outerSc]⟩,rfl,by simp[outerSc],fun _=>e5,rfl⟩
 obtain⟨e,he1,he2,he3,he4,_⟩:=hS.endE hC
 have gL:=s_impl_LocalsOf C.p (g:Int) (by omega) (fun z hz=>smallRs_map hC.small hz)
 have gE:=s_impl_EndOf C.p (g:Int) (by omega)
 have hee:endOf C.p (g:Int)=(e:Int):=by rw[endOf_at];exact endI_some he1
 rw[hee]at gE
 have hlev:((C.b.fInline.toNat:Nat):Int)=C.b.fInline:=Int.toNat_of_nonneg hin.1
 have h3:=tokC_3 (n:=C.b.fInline.toNat) (by omega)
 have gLs:=(ilines_all hC C.b.fInline.toNat).2 (outerSc C g) ⟨(g:Int),(e:Int),localsOf C.p (g:Int),C.args,0,[],C.words⟩ [g] [] (headG C g) C.words hS ⟨rfl,rfl,rfl,fun _=>rfl,hS.out,fun _=>rfl⟩ rfl (by rw[he4]) rfl rfl (fun i hi=>by cases hi) (by
  rw[he4]
  have:=Nat.mul_le_mul (show e - (outerSc C g).f≤60 by omega) (show 20 * tokC C.b.fInline.toNat+3≤20 * 8679837+3 by omega)
  simp only[headG,emitG,List.length_append,List.length_nil,List.length_cons]
  omega) (by simpa using hlev) hw.1 (by omega)
 rw[if_pos (by rfl)]at gLs
 have g1:=fun code=>g_impl_add C [] ⟨[],(localsOf C.p (g:Int)).length - C.args,false⟩ 0 [g] ⟨(g:Int),(e:Int),localsOf C.p (g:Int),C.args,0,[],C.words⟩ [] g code C.words C.words (by unfold roomy;simp) (by simp) (fun h=>by cases h) (by omega) (by omega)
 have hwm:IntKind.i64.wrap ((((localsOf C.p (g:Int)).map strRow).length:Int) - C.args)=((localsOf C.p (g:Int)).length:Int) - C.args:=by rw[hll,IntWalk.i64_in _ (by omega)]
 repeat' ((conv=>whnf);first|(with_reducible apply W1;fail_if_success (with_reducible show Wo _ _ _ _ (Code.region 3 _ _) _ _))|(with_reducible first|apply W2|apply W3|apply W4|apply W5|apply W6|apply W7|apply W8|apply W9)|apply reg_inl|apply oi|(apply fi<;>intro h)|refine cl gE ?_|refine cl gL ?_|refine⟨g,y.tr,rfl,map_get hy,?_⟩|refine⟨_,rfl,?_⟩|((with_reducible show _=_);rfl))
 all_goals try((with_reducible refine Obl.mk ?_);exact KP)
 conv=>whnf
 refine view2_rule ⟨[(0,vP C.p),(1,tI .i64 (g:Int)),(3,tB C.framed),(4,tI .i64 C.words),(12,.r (.c (.ptr (22,0,0) 0))),(13,.r (.c (.ptr (38,0,0) 0)))],
  [(
   (22,0,0),some (.box [.t (.lst 4 (C.p.map TLine.tr)),.t (.int .i64 C.b.fFrames),.t (.int .i64 C.b.fInline),.t (.bool C.b.fFold),.t (.bool C.b.fSplit),.t (.bool C.framed),.t (.int .i64 C.words),.t (.int .i64 0),.nils 0,.t (.int .i64 0),.own (20,0,0)])),((20,0,0),some (.arr true 1 [intRow (g:Int)])),
   ((38,0,0),some (.box [.t (.int .i64 (g:Int)),.t (.int .i64 (e:Int)),.t (.lst 1 ((localsOf C.p (g:Int)).map strRow)),.t (.int .i64 C.args),.t (.int .i64 0),.t (.lst 1 []),.t (.int .i64 C.words),.nils 0]))],_⟩ ?_ ?_ rfl ?_
 ·exact⟨.inl rfl,.inl rfl,.inl rfl,.inl rfl,.inl rfl,.inl rfl,trivial⟩
 ·refine⟨.inr (.inl rfl),.inr (.inl rfl),.inr (.inr (.inl ⟨_,_,rfl,rfl,.inl rfl,.inl rfl,.inr (.inr ⟨_,rfl,rfl,?_⟩),.inl ?_,.inl rfl,.inr (.inr ⟨_,rfl,⟨_,rfl⟩,?_⟩),.inl rfl,.inl rfl,trivial⟩)),trivial⟩
  ·intro q hq;simp only[AC.ids,List.mem_cons,List.not_mem_nil,or_false]at hq;subst hq;rfl
  ·rw[e5,hyl,hA]
  ·intro q hq;simp[AC.ids]at hq
 refine leq_rule ⟨[(0,vP C.p),(1,tI .i64 (g:Int)),(3,tB C.framed),(4,tI .i64 C.words),(12,.r (.c (.ptr (22,0,0) 0))),(13,.r (.c (.ptr (38,0,0) 0)))],
  [((22,0,0),some (cmpB C ⟨[],0,false⟩ 0 (22,0,1) (22,0,2))),((22,0,1),some (.dar 7 (itR (clr [] [])) none)),((22,0,2),some (.arr false 1 (insR [g]))),((38,0,0),some (ibB ⟨(g:Int),(e:Int),localsOf C.p (g:Int),C.args,0,[],C.words⟩ (38,0,1))),((38,0,1),some (.arr false 1 []))],[38,22,0]⟩ ?_ ?_
 ·skip
  repeat' ((conv=>whnf);first|(with_reducible first|apply Wx|apply W6)|apply oi|(apply fi<;>intro h)|refine⟨_,rfl,?_⟩|((with_reducible show _=_);rfl))
  all_goals try((with_reducible refine Obl.mk ?_);exact KP)
  all_goals try exact⟨by rw[clr_nil]⟩
 cases hfm:C.framed with
 | true=>
  have hh:headG C g=emitG C ⟨[],(localsOf C.p (g:Int)).length - C.args,false⟩ 0 13 C.words g []:=by rw[headG,if_pos hfm]
  rw[hh]at gLs
  have g2:=g1 13
  rw[Int.zero_add]at g2
  have hcr:compG C g=(linesG C (repN C C.b.fInline.toNat) (outerSc C g) [g] C.words (emitG C ⟨[],(localsOf C.p (g:Int)).length - C.args,false⟩ 0 13 C.words g [])).1:=by rw[compG,hh]
  rw[hcr]
  repeat' ((conv=>whnf);first|(with_reducible first|apply Wx|apply W6)|refine cg g2 ?_|refine cg gLs ?_|apply oi|(apply fi<;>intro h)|refine⟨_,rfl,?_⟩|((with_reducible show _=_);rfl))
  all_goals try((with_reducible refine Obl.mk ?_);exact KP)
  all_goals try(exfalso;rw[hfm]at h;cases h;done)
  all_goals try exact⟨congrArg (Tr.int .i64) hwm.symm⟩
  all_goals try exact⟨by rw[clr_nil]⟩
 | false=>
  have hh:headG C g=emitG C ⟨[],(localsOf C.p (g:Int)).length - C.args,false⟩ 0 15 C.words g []:=by rw[headG,if_neg (by simp[hfm])]
  rw[hh]at gLs
  have g2:=g1 15
  rw[Int.zero_add]at g2
  have hcr:compG C g=(linesG C (repN C C.b.fInline.toNat) (outerSc C g) [g] C.words (emitG C ⟨[],(localsOf C.p (g:Int)).length - C.args,false⟩ 0 15 C.words g [])).1:=by rw[compG,hh]
  rw[hcr]
  repeat' ((conv=>whnf);first|(with_reducible first|apply Wx|apply W6)|refine cg g2 ?_|refine cg gLs ?_|apply oi|(apply fi<;>intro h)|refine⟨_,rfl,?_⟩|((with_reducible show _=_);rfl))
  all_goals try((with_reducible refine Obl.mk ?_);exact KP)
  all_goals try(exfalso;rw[hfm]at h;cases h;done)
  all_goals try exact⟨congrArg (Tr.int .i64) hwm.symm⟩
  all_goals try exact⟨by rw[clr_nil]⟩
theorem g_impl_CompileFunction (p:List TLine)(f:Int)(b:TBuild)(hs:smallT 1048576 (.lst 4 (p.map TLine.tr))):SpecG Tryz.prog 12 [vP p,tI .i64 f,bV b] [] (.r (.c (.own (1,0,0)))) [((1,0,0),.dar 7 (deepRows ((compileF p f b).map TItem.tr)) none)]:=by
 refine specG_of_Wo hΓ hmix Tryz.func12 rfl (by decide) rfl rfl ?_
 have hP:=s_impl_ProgramOk p hs
 have hB:=s_impl_BuildOk b
 have hl:=small_nat hs
 have gF:=s_impl_FunctionLines p (by omega)
 have hfl:((funs p).map fun n:Nat=>intRow n).length=(funs p).length:=by simp
 have hfl2:=funsF_len p 0
 change(funs p).length≤_ at hfl2
 have hww:IntKind.i64.wrap ((((funs p).map fun n:Nat=>intRow n).length:Int) - 1)=((funs p).length:Int) - 1:=by rw[hfl,IntWalk.i64_in _ (by omega)]
 have gb:=s_impl_between f 0 (IntKind.i64.wrap ((((funs p).map fun n:Nat=>intRow n).length:Int) - 1))
 have hbw:within f 0 (IntKind.i64.wrap ((((funs p).map fun n:Nat=>intRow n).length:Int) - 1))=decide (0≤f∧f < (funs p).length):=by
  rw[hww,within];by_cases h:0≤f∧f < (funs p).length <;> simp[h] <;> omega
 rw[hbw]at gb
 by_cases hc:programOk p=true∧buildOk b=true∧0≤f∧f < (funs p).length
 ·have hcf:compileF p f b=compiled p f.toNat b:=by rw[compileF,if_pos hc]
  rw[hcf]
  obtain⟨h1,h2,h3,h4⟩:=hc
  rw[show decide (0≤f∧f < (funs p).length)=true from decide_eq_true ⟨h3,h4⟩]at gb
  obtain⟨f,rfl⟩:=Int.eq_ofNat_of_zero_le h3
  rw[Int.toNat_natCast]
  rw[h1]at hP
  rw[h2]at hB
  have hb:0≤b.fInline∧b.fInline≤3:=by
   unfold buildOk at h2
   simp only[Bool.and_eq_true,within_iff]at h2
   exact h2.2
  obtain⟨g,hg⟩:=get_of_lt (l:=funs p) (k:=f) (by omega)
  have hpg:=(PgOk_of hs h1).foldIf b
  have hg':(funs (foldIf p b))[f]?=some g:=by rw[foldIf_funs];exact hg
  obtain⟨hgl,y,hy,hy0⟩:=funs_lt (List.mem_of_getElem? hg')
  have h4':=(hpg.line g y hy).2.2.1
  have ha:(0:Int)≤(argsN (foldIf p b) g:Int)∧(argsN (foldIf p b) g:Int)≤4:=by rw[argsN,hy];dsimp only;omega
  have hC0:CxOk (ctx (foldIf p b) f g b 0):=hpg.cx ha (by omega) hb
  have hm:=compG_most hC0 ⟨y,hy,hy0⟩ rfl
  have hC1:CxOk (ctx (foldIf p b) f g b (compG (ctx (foldIf p b) f g b 0) g).most):=hpg.cx ha hm hb
  have g0:=g_impl_compile _ hC0 g ⟨y,hy,hy0⟩ rfl
  have g1:=g_impl_compile _ hC1 g ⟨y,hy,hy0⟩ rfl
  have hcd:compiled p f b=(compG (ctx (foldIf p b) f g b (compG (ctx (foldIf p b) f g b 0) g).most) g).items:=by rw[compiled,hg']
  rw[hcd]
  generalize compG (ctx (foldIf p b) f g b 0) g=R0 at *
  generalize compG (ctx (foldIf p b) f g b R0.most) g=R1 at *
  have hfo:=s_impl_FoldProgram p hs
  rw[show foldProg p=p.map foldLine by rw[foldProg,if_pos h1]]at hfo
  have gF2:=s_impl_FunctionLines (foldIf p b) (Nat.le_trans hpg.len (by omega))
  rw[foldIf_funs]at gF2
  have hfr:f < ((funs p).map fun n:Nat=>intRow n).length:=by omega
  have hfg:((funs p).map fun n:Nat=>intRow n)[f]?=some (intRow (g:Int)):=by rw[List.getElem?_map,hg];rfl
  obtain⟨fr,inl,fold,sp⟩:=b
  cases fold with
  | true=>
   have e:foldIf p ⟨fr,inl,true,sp⟩=p.map foldLine:=rfl
   simp only[ctx,e]at g0 g1 gF2
   repeat' ((conv=>whnf);first|(with_reducible first|apply Wx|apply W6)|apply oi|(apply fi<;>intro h)|refine cl hP ?_|refine cl hB ?_|refine cl gF ?_|refine cl gb ?_|refine cl hfo ?_|refine cl gF2 ?_|refine⟨f,rfl,hfr,?_⟩|refine⟨_,hfg,?_⟩|refine⟨_,rfl,?_⟩|((with_reducible show _=_);rfl))
   all_goals try((with_reducible refine Obl.mk ?_);exact KP)
   all_goals try exact⟨by omega⟩
   all_goals try exact⟨rfl⟩
   conv=>whnf
   refine cg (g0) ?_
   repeat' ((conv=>whnf);first|(with_reducible first|apply Wx|apply W6)|refine cg g1 ?_|apply oi|(apply fi<;>intro h)|refine⟨_,rfl,?_⟩|((with_reducible show _=_);rfl))
   all_goals try((with_reducible refine Obl.mk ?_);exact KP)
   all_goals try exact⟨allD_deep _⟩
   all_goals try exact⟨by omega⟩
   all_goals try exact⟨rfl⟩
   all_goals try exact KX
  | false=>
   have e:foldIf p ⟨fr,inl,false,sp⟩=p:=rfl
   simp only[ctx,e]at g0 g1 gF2
   repeat' ((conv=>whnf);first|(with_reducible first|apply Wx|apply W6)|apply oi|(apply fi<;>intro h)|refine cl hP ?_|refine cl hB ?_|refine cl gF ?_|refine cl gb ?_|refine⟨f,rfl,hfr,?_⟩|refine⟨_,hfg,?_⟩|refine⟨_,rfl,?_⟩|((with_reducible show _=_);rfl))
   all_goals try((with_reducible refine Obl.mk ?_);exact KP)
   all_goals try exact⟨by omega⟩
   all_goals try exact⟨rfl⟩
   conv=>whnf
   refine cg (g0) ?_
   repeat' ((conv=>whnf);first|(with_reducible first|apply Wx|apply W6)|refine cg g1 ?_|apply oi|(apply fi<;>intro h)|refine⟨_,rfl,?_⟩|((with_reducible show _=_);rfl))
   all_goals try((with_reducible refine Obl.mk ?_);exact KP)
   all_goals try exact⟨allD_deep _⟩
   all_goals try exact⟨by omega⟩
   all_goals try exact⟨rfl⟩
   all_goals try exact KX
 ·have hcf:compileF p f b=[]:=by rw[compileF,if_neg hc]
  rw[hcf]
  cases h1:programOk p with
  | false=>
   rw[h1]at hP
   repeat' ((conv=>whnf);first|(with_reducible first|apply Wx|apply W6)|apply oi|(apply fi<;>intro h)|refine cl hP ?_|refine cl hB ?_|refine cl gF ?_|refine cl gb ?_|refine⟨_,rfl,?_⟩|((with_reducible show _=_);rfl))
   all_goals try((with_reducible refine Obl.mk ?_);exact KP)
   all_goals try exact KX
  | true=>
   rw[h1]at hP
   cases h2:buildOk b with
   | false=>
    rw[h2]at hB
    repeat' ((conv=>whnf);first|(with_reducible first|apply Wx|apply W6)|apply oi|(apply fi<;>intro h)|refine cl hP ?_|refine cl hB ?_|refine cl gF ?_|refine cl gb ?_|refine⟨_,rfl,?_⟩|((with_reducible show _=_);rfl))
    all_goals try((with_reducible refine Obl.mk ?_);exact KP)
    all_goals try exact KX
   | true=>
    rw[h2]at hB
    have hc':¬(0≤f∧f < (funs p).length):=fun hh=>hc ⟨h1,h2,hh⟩
    rw[show decide (0≤f∧f < (funs p).length)=false from decide_eq_false hc']at gb
    repeat' ((conv=>whnf);first|(with_reducible first|apply Wx|apply W6)|apply oi|(apply fi<;>intro h)|refine cl hP ?_|refine cl hB ?_|refine cl gF ?_|refine cl gb ?_|refine⟨_,rfl,?_⟩|((with_reducible show _=_);rfl))
    all_goals try((with_reducible refine Obl.mk ?_);exact KP)
    all_goals try exact KX
theorem s_impl_CompileFunction (p:List TLine)(f:Int)(b:TBuild)(hs:smallT 1048576 (.lst 4 (p.map TLine.tr))):Sim.Spec Tryz.prog 12 [tvP p,tvI f,.agg b.tr] (rL 7 ((compileF p f b).map TItem.tr)):=
 spec_of_G1 (ts:=[tvP p,tvI f,.agg b.tr]) (g_impl_CompileFunction p f b hs)
end Go.Proofs.YtogdbgmiigfmfaaGreat
namespace Go.Proofs.YtogdbgmiigfmfaaGreat
open Go.Sim
set_option maxRecDepth 100000
set_option maxHeartbeats 4000000
theorem s_impl_inImage (f:Nat)(b:TBuild)(image:Int)(hf:f≤100):Sim.Spec Tryz.prog 113 [tvI (f:Int),.agg b.tr,tvI image] (rB (inImg b image f)):=by
 refine spec_of_Wo hΓ hmix Tryz.func113 rfl (by decide) rfl ?_
 unfold inImg
 have hm:(f:Int).tmod 2=(f:Int) % 2:=Int.tmod_eq_emod_of_nonneg (by omega)
 repeat' ((conv=>whnf);first|(with_reducible first|apply Wx|apply W6)|apply oi|(apply fi<;>intro h)|refine⟨_,rfl,?_⟩|((with_reducible show _=_);rfl))
 all_goals try((with_reducible refine Obl.mk ?_);exact KP)
 all_goals exact⟨by simp[h,hm]⟩
theorem g_impl_imagePlaces (p:List TLine)(b:TBuild)(image:Int)(hs:smallT 1048576 (.lst 4 (p.map TLine.tr)))(h1:programOk p=true)(h2:buildOk b=true):SpecG Tryz.prog 64 [vP p,bV b,tI .i64 image] [] (.tup [.c (.own (1,0,0)),.c (.own (1,0,1))]) [((1,0,0),.arr true 1 (imgNums (imgL p b image (funs p).length 0 0))),((1,0,1),.dar 1 (deepRows (imgRows (imgL p b image (funs p).length 0 0))) none)]:=by
 refine specG_of_Wo hΓ hmix Tryz.func64 rfl (by decide) rfl rfl ?_
 obtain⟨h6,h60⟩:=funs_six h1
 have gF:=s_impl_FunctionLines p (by omega)
 have hfl:((funs p).map fun n:Nat=>intRow n).length=(funs p).length:=by simp
 repeat' ((conv=>whnf);first|(with_reducible first|apply Wx|apply W6)|apply oi|(apply fi<;>intro h)|refine cl gF ?_|refine⟨_,rfl,?_⟩|((with_reducible show _=_);rfl))
 all_goals try((with_reducible refine Obl.mk ?_);exact KP)
 conv=>whnf
 refine⟨ImgIx p b image,fun q=>⟨[(0,vP p),(2,tI .i64 image),(4,.r (.c (.ptr (4,0,0) 0))),(8,.r (.c (.own (14,0,0)))),(9,.r (.c (.own (15,0,0)))),(10,tI .i64 q.1.2.1),(18,tI .i64 (((funs p).map fun n:Nat=>intRow n).length:Int)),(19,tI .i64 (q.1.1:Int))],[((14,0,0),some (.arr true 1 (imgNums q.1.2.2))),((15,0,0),some (.dar 1 (deepRows (imgRows q.1.2.2)) none)),((4,0,0),some (.box [.t (.int .i64 b.fFrames),.t (.int .i64 b.fInline),.t (.bool b.fFold),.t (.bool b.fSplit)]))],[14,15,4,0]⟩,fun q=>(funs p).length - q.1.1,⟨(0,0,[]),by simp,by simp,by simp,by simp⟩,?_,?_⟩
 ·skip
  repeat' ((conv=>whnf);first|(with_reducible first|apply Wx|apply W6)|apply oi|(apply fi<;>intro h)|refine⟨_,rfl,?_⟩|((with_reducible show _=_);rfl))
  all_goals try((with_reducible refine Obl.mk ?_);exact KP)
 intro⟨⟨f,at0,acc⟩,hk,ha,hal,hr⟩
 dsimp only at hk ha hal hr ⊢
 have hnl:(imgNums acc).length=acc.length:=by simp[imgNums]
 have hrl:(deepRows (imgRows acc)).length=acc.length:=by rw[deepRows_length];simp[imgRows]
 by_cases hlt:f < (funs p).length
 ·obtain⟨n,hn⟩:∃n,(funs p).length - f=n+1:=⟨(funs p).length - f - 1,by omega⟩
  have hi:=s_impl_inImage f b image (by omega)
  rw[hn,imgL_step]at hr
  cases hin:inImg b image f with
  | false=>
   rw[hin]at hi hr
   rw[if_neg (by simp)]at hr
   repeat' ((conv=>whnf);first|(with_reducible first|apply Wx|apply W6)|apply oi|(apply fi<;>intro h)|refine cl hi ?_|refine⟨_,rfl,?_⟩|((with_reducible show _=_);rfl))
   all_goals try((with_reducible refine Obl.mk ?_);exact KP)
   all_goals try exact KX
   conv=>whnf
   refine⟨⟨(f+1,at0,acc),by dsimp only;omega,by dsimp only;omega,by dsimp only;omega,by dsimp only;rw[show(funs p).length - (f+1)=n by omega];exact hr⟩,?_,by dsimp only;omega⟩
   repeat' ((conv=>whnf);first|(with_reducible first|apply Wx|apply W6)|apply oi|(apply fi<;>intro h)|refine⟨_,rfl,?_⟩|((with_reducible show _=_);rfl))
   all_goals try((with_reducible refine Obl.mk ?_);exact KP)
   all_goals try exact⟨KW⟩
  | true=>
   rw[hin]at hi hr
   rw[if_pos rfl]at hr
   have hcs:=s_impl_CompileFunction p (f:Int) b hs
   obtain⟨f1,f2,f3⟩:=fn_ok (f:=f) hs h1 h2 hlt
   have hch:=(compileF_cap (p:=p) (f:=(f:Int)) (b:=b) hs).2
   generalize compileF p (f:Int) b=I at *
   have gP:=g_impl_functionPlaces I at0 f2 (by omega) f3 (fun x hx=>by have:=hch x hx;omega)
   obtain⟨y,y1,y2,y3,y4⟩:=placesF_last (at0:=at0) f1
   have ye:=endF_le (l:=I) (at0:=at0)
   have hz:=opSize_le y.fItem.fOp.fCode
   have ho:=s_impl_OpSize y.fItem.fOp.fCode
   have hpl:=placesF_len I at0
   have hdl:(deepRows ((placesF I at0).map TPlace.tr)).length=I.length:=by rw[deepRows_length,List.length_map,hpl]
   have hix:IntKind.i64.wrap (((deepRows ((placesF I at0).map TPlace.tr)).length:Int) - 1)=((I.length - 1:Nat):Int):=by rw[hdl,IntWalk.i64_in _ (by omega)];omega
   have hlx:I.length - 1 < (deepRows ((placesF I at0).map TPlace.tr)).length:=by omega
   have hgx:(deepRows ((placesF I at0).map TPlace.tr))[I.length - 1]?=some (y.tr.map .d):=by rw[deepRows,List.getElem?_map,List.getElem?_map,y1];rfl
   repeat' ((conv=>whnf);first|(with_reducible first|apply Wx|apply W6)|refine cg gP ?_|apply oi|(apply fi<;>intro h)|refine cl hi ?_|refine cl hcs ?_|refine⟨_,hix,hlx,?_⟩|refine⟨_,hgx,?_⟩|refine cl ho ?_|refine⟨_,rfl,?_⟩|((with_reducible show _=_);rfl))
   all_goals try((with_reducible refine Obl.mk ?_);exact KP)
   all_goals try exact KX
   all_goals try exact⟨allD_deep _⟩
   all_goals try exact⟨⟨by simp only[List.length_nil,List.length_cons,hnl,hrl] <;> omega,by simp only[List.length_nil,List.length_cons,hnl,hrl] <;> omega⟩⟩
   conv=>whnf
   refine⟨⟨(f+1,endF at0 I,acc++[(f,placesF I at0)]),by dsimp only;omega,by dsimp only;omega,by simp;omega,by dsimp only;rw[List.append_assoc,show(funs p).length - (f+1)=n by omega];exact hr⟩,?_,by dsimp only;omega⟩
   repeat' ((conv=>whnf);first|(with_reducible first|apply Wx|apply W6)|apply oi|(apply fi<;>intro h)|refine⟨_,rfl,?_⟩|((with_reducible show _=_);rfl))
   all_goals try((with_reducible refine Obl.mk ?_);exact KP)
   all_goals try exact⟨KW⟩
   all_goals try exact⟨congrArg (Tr.int .i64) (by rw[IntWalk.i64_in _ (by omega),y2])⟩
   all_goals try exact⟨by rw[imgNums,imgNums,List.map_append];rfl⟩
   all_goals try exact⟨by rw[imgRows,imgRows,List.map_append,deepRows_append];rfl⟩
 ·rw[show(funs p).length - f=0 by omega]at hr
  have hr2:acc=imgL p b image (funs p).length 0 0:=by rw[←hr];simp[imgL]
  repeat' ((conv=>whnf);first|(with_reducible first|apply Wx|apply W6)|apply oi|(apply fi<;>intro h)|refine⟨_,rfl,?_⟩|((with_reducible show _=_);rfl))
  all_goals try((with_reducible refine Obl.mk ?_);exact KP)
  all_goals try exact KX
  all_goals exact⟨by rw[hr2]⟩
theorem s_impl_imagePlaces (p:List TLine)(b:TBuild)(image:Int)(hs:smallT 1048576 (.lst 4 (p.map TLine.tr)))(h1:programOk p=true)(h2:buildOk b=true):Sim.Spec Tryz.prog 64 [tvP p,.agg b.tr,tvI image] (.tup [.c (.arr 1 (imgNums (imgL p b image (funs p).length 0 0))),.c (.arr 1 (imgRows (imgL p b image (funs p).length 0 0)))]):=by
 refine spec_of_G (ts:=[tvP p,.agg b.tr,tvI image]) (g_impl_imagePlaces p b image hs h1 h2) rfl ⟨trivial,trivial,trivial⟩ ⟨rfl,rfl,?_⟩
 conv=>whnf
 refine⟨rfl,rfl,?_⟩
 conv=>whnf
 exact⟨trivial,rfl,rfl,rfl,rfl⟩
end Go.Proofs.YtogdbgmiigfmfaaGreat
