/- The law FnInlines answers true for every input and leaves its argument as it was. Conditions: none beyond the given statement. -/
import Derived.Test.YtjmplnfiabmalaaGreatGi
namespace Go.Proofs.YtjmplnfiabmalaaGreat
open Go.Sim Go.ChangeShapes Go.WideShapes Go.ChangeAt Go.RowKit
set_option maxRecDepth 100000
set_option maxHeartbeats 4000000
theorem s_laws_sameInlines (l:List TInline)(hl:l.length≤1048576):Sim.Spec Tryz.prog 20 [tvL 5 (l.map TInline.tr),tvL 5 (l.map TInline.tr)] (rB true):=by
 refine spec_of_Wo hΓ hmix Tryz.func20 rfl (by decide) rfl ?_
 have hlen:(l.map TInline.tr).length=l.length:=by simp
 repeat' ((conv=>whnf);first|(with_reducible first|apply Wx|apply W6)|apply oi|(apply fi<;>intro h)|refine⟨_,rfl,?_⟩|((with_reducible show _=_);rfl))
 all_goals try((with_reducible refine Obl.mk ?_);exact KP)
 all_goals try(exfalso;simp at h;done)
 conv=>whnf
 refine⟨{k:Nat // k≤l.length},fun k=>⟨[(0,.r (.c (.t (.lst 5 (l.map TInline.tr))))),(1,.r (.c (.t (.lst 5 (l.map TInline.tr))))),(5,tI .i64 (k.1:Int))],[],[]⟩,fun k=>l.length - k.1,⟨0,by omega⟩,?_,?_⟩
 ·skip
  repeat' ((conv=>whnf);first|(with_reducible first|apply Wx|apply W6)|apply oi|(apply fi<;>intro h)|refine⟨_,rfl,?_⟩|((with_reducible show _=_);rfl))
  all_goals try((with_reducible refine Obl.mk ?_);exact KP)
 intro⟨k,hk⟩
 dsimp only
 by_cases hlt:k < l.length
 ·obtain⟨x,hx⟩:=get_of_lt hlt
  repeat' ((conv=>whnf);first|(with_reducible first|apply Wx|apply W6)|apply oi|(apply fi<;>intro h)|refine⟨k,x.tr,rfl,map_get hx,?_⟩|refine⟨_,rfl,?_⟩|((with_reducible show _=_);rfl))
  all_goals try((with_reducible refine Obl.mk ?_);exact KP)
  all_goals try(exfalso;simp at h;done)
  conv=>whnf
  refine⟨⟨k+1,by omega⟩,?_,by dsimp only;omega⟩
  repeat' ((conv=>whnf);first|(with_reducible first|apply Wx|apply W6)|apply oi|(apply fi<;>intro h)|refine⟨_,rfl,?_⟩|((with_reducible show _=_);rfl))
  all_goals try((with_reducible refine Obl.mk ?_);exact KP)
  all_goals try exact⟨KW⟩
 ·skip
  repeat' ((conv=>whnf);first|(with_reducible first|apply Wx|apply W6)|apply oi|(apply fi<;>intro h)|refine⟨_,rfl,?_⟩|((with_reducible show _=_);rfl))
  all_goals try((with_reducible refine Obl.mk ?_);exact KP)
  all_goals try exact KX
theorem s_laws_FnInlines (code:List UInt8):Sim.Spec Tryz.prog 3 [tvL 1 (code.map byteRow)] (rB true):=by
 refine spec_of_Wo hΓ hmix Tryz.func3 rfl (by decide) rfl ?_
 repeat' ((conv=>whnf);first|(with_reducible first|apply Wx|apply W6)|apply oi|(apply fi<;>intro h)|refine cl ((s_laws_big code)) ?_|refine⟨_,rfl,?_⟩|((with_reducible show _=_);rfl))
 all_goals try((with_reducible refine Obl.mk ?_);exact KP)
 have hl:code.length≤1048576:=by have:=of_decide_eq_false h;omega
 obtain⟨p,b,img,h1,h2,h3,hs,g0⟩:=g_spec_DrawDebug code hl
 have hP:=s_spec_PlacesOf p b (img:Int) hs
 have hk:=placesOf_ok (b:=b) (image:=(img:Int)) hs
 have hcc:=placesOf_cc (b:=b) (image:=(img:Int)) hs
 have hPs:=placesOf_small (b:=b) (image:=(img:Int)) hs
 generalize placesOf p b (img:Int)=P at *
 have hlen:=hk.len
 have hchl:∀x∈P,x.fItem.fChain.length≤3:=fun x hx=>(hcc x hx).chain.1
 have hch:=chains_cap hchl
 have hI:=s_impl_InlinesOf p P hs hPs (by omega)
 have hok:=inlinesOf_ok h1 hk hcc
 have htold:=fun{j:Nat} {x:TPlace} (hx:P[j]?=some x)=>inlines_told h1 hk hcc hx
 have hIl:=inlinesOf_len (p:=p) (l:=P)
 generalize inlinesOf p P=L at *
 have hmem:=inlinesOkF_mem (l:=L) (pre:=[]) hok
 have hnm:∀x∈L,x.fName.length≤8:=fun x hx=>(hmem x hx).n
 have hback:=inlines_back hok (by omega)
 have hcap:=encInls_cap hok (by omega)
 have hE:=s_impl_EncodeInlines L (by omega) (fun x hx=>by have:=hnm x hx;omega)
 have hOk:=s_impl_InlinesOk L (by omega) (fun x hx=>by have:=hnm x hx;omega)
 rw[hok]at hOk
 have hD:=s_impl_DecodeInlines (encodeInlines L) (by omega)
 rw[hback]at hD
 generalize encodeInlines L=eb at *
 have hSm:=s_laws_sameInlines L (by omega)
 have h60:=(funs_six h1).2
 have hpl:(P.map TPlace.tr).length=P.length:=by simp
 have hLl:(L.map TInline.tr).length=L.length:=by simp
 refine cg (g0) ?_
 repeat' ((conv=>whnf);first|(with_reducible first|apply Wx|apply W6)|apply oi|(apply fi<;>intro h)|refine cl hP ?_|refine cl hI ?_|refine⟨_,rfl,?_⟩|((with_reducible show _=_);rfl))
 all_goals try((with_reducible refine Obl.mk ?_);exact KP)
 conv=>whnf
 refine⟨{k:Nat // k≤P.length},fun k=>⟨[(3,vP p),(6,.r (.c (.own (26,0,0)))),(7,.r (.c (.own (29,0,0)))),(8,tI .i64 (k.1:Int))],[((29,0,0),some (.arr true 5 (L.map TInline.tr))),((26,0,0),some (.arr true 8 (P.map TPlace.tr)))],[29,26]⟩,fun k=>P.length - k.1,⟨0,by omega⟩,?_,?_⟩
 ·skip
  repeat' ((conv=>whnf);first|(with_reducible first|apply Wx|apply W6)|apply oi|(apply fi<;>intro h)|refine⟨_,rfl,?_⟩|((with_reducible show _=_);rfl))
  all_goals try((with_reducible refine Obl.mk ?_);exact KP)
 intro⟨k,hkP⟩
 dsimp only
 by_cases hlt:k < P.length
 ·obtain⟨x,hx⟩:=get_of_lt hlt
  have hkl:k < (P.map TPlace.tr).length:=by omega
  have hxt:(P.map TPlace.tr)[k]?=some x.tr:=map_get hx
  have hIA:=s_impl_InlinesAt L x.fOffset (by omega) (fun x hx=>by have:=hnm x hx;omega)
  obtain⟨t1,t2⟩:=htold hx
  have hc3:=hchl x (List.mem_of_getElem? hx)
  generalize inlinesAt L x.fOffset=r at *
  have hrl:(r.map TInline.tr).length=r.length:=by simp
  have hcl:(x.fItem.fChain.map intRow).length=x.fItem.fChain.length:=by simp
  repeat' ((conv=>whnf);first|(with_reducible first|apply Wx|apply W6)|apply oi|(apply fi<;>intro h)|refine⟨k,rfl,hkl,?_⟩|refine⟨_,hxt,?_⟩|refine cl hIA ?_|refine⟨_,rfl,?_⟩|((with_reducible show _=_);rfl))
  all_goals try((with_reducible refine Obl.mk ?_);exact KP)
  all_goals try exact KX
  all_goals try(exfalso;rw[hrl,hcl,t1]at h;simp at h;done)
  conv=>whnf
  refine⟨{i:Nat // i≤r.length},fun i=>⟨[(3,vP p),(6,.r (.c (.own (26,0,0)))),(7,.r (.c (.own (29,0,0)))),(8,tI .i64 (k:Int)),(9,.r (.c (.ptr (9,0,0) 0))),(10,.r (.c (.own (43,0,0)))),(11,tI .i64 (i.1:Int))],[((29,0,0),some (.arr true 5 (L.map TInline.tr))),((26,0,0),some (.arr true 8 (P.map TPlace.tr))),((9,0,0),some (.box (x.tr.map .t))),((43,0,0),some (.arr true 5 (r.map TInline.tr)))],[43,9,29,26]⟩,fun i=>r.length - i.1,⟨0,by omega⟩,?_,?_⟩
  ·skip
   repeat' ((conv=>whnf);first|(with_reducible first|apply Wx|apply W6)|apply oi|(apply fi<;>intro h)|refine⟨_,rfl,?_⟩|((with_reducible show _=_);rfl))
   all_goals try((with_reducible refine Obl.mk ?_);exact KP)
  intro⟨i,hi⟩
  dsimp only
  by_cases hil:i < r.length
  ·obtain⟨rr,hrr⟩:=get_of_lt hil
   obtain⟨c,hc⟩:=get_of_lt (l:=x.fItem.fChain) (k:=i) (by omega)
   obtain⟨u1,u2,u3⟩:=t2 i c rr hc hrr
   have hir:i < (r.map TInline.tr).length:=by omega
   have hrt:(r.map TInline.tr)[i]?=some rr.tr:=map_get hrr
   have hct:(x.fItem.fChain.map intRow)[i]?=some (intRow c):=map_get hc
   have hcn:i < (x.fItem.fChain.map intRow).length:=by omega
   unfold nameAtI at u3
   by_cases hi1:i+1 < r.length
   ·obtain⟨c',hc'⟩:=get_of_lt (l:=x.fItem.fChain) (k:=i+1) (by omega)
    rw[hc']at u3
    dsimp only at u3
    have hF:=s_impl_FunctionOfLine p c' (by omega)
    rw[←u3]at hF
    have hct':(x.fItem.fChain.map intRow)[i+1]?=some (intRow c'):=map_get hc'
    have hcn':i+1 < (x.fItem.fChain.map intRow).length:=by omega
    have hw:IntKind.i64.wrap ((i:Int)+1)=((i+1:Nat):Int):=by rw[IntWalk.i64_in _ (by omega)];omega
    repeat' ((conv=>whnf);first|(with_reducible first|apply Wx|apply W6)|apply oi|(apply fi<;>intro h)|refine⟨i+1,(intRow c'),hw,hct',?_⟩|refine⟨i,rfl,hir,?_⟩|refine⟨_,hrt,?_⟩|refine⟨i,(intRow c),rfl,hct,?_⟩|refine cl hF ?_|refine⟨_,rfl,?_⟩|((with_reducible show _=_);rfl))
    all_goals try((with_reducible refine Obl.mk ?_);exact KP)
    all_goals try exact KX
    all_goals try(exfalso;rw[hrl,IntWalk.i64_in _ (by omega)]at h;have:=of_decide_eq_true h;omega)
    all_goals try(exfalso;first|(simp[u1]at h;done)|(simp[u2]at h;done)|(simp at h;done)|(simp_all;done))
    conv=>whnf
    refine⟨⟨i+1,by omega⟩,?_,by dsimp only;omega⟩
    repeat' ((conv=>whnf);first|(with_reducible first|apply Wx|apply W6)|apply oi|(apply fi<;>intro h)|refine⟨_,rfl,?_⟩|((with_reducible show _=_);rfl))
    all_goals try((with_reducible refine Obl.mk ?_);exact KP)
    all_goals try exact⟨KW⟩
   ·rw[List.getElem?_eq_none (by omega)]at u3
    dsimp only at u3
    have hF:=s_impl_FunctionOfLine p x.fItem.fLine (by omega)
    rw[←u3]at hF
    repeat' ((conv=>whnf);first|(with_reducible first|apply Wx|apply W6)|apply oi|(apply fi<;>intro h)|refine⟨i,rfl,hir,?_⟩|refine⟨_,hrt,?_⟩|refine⟨i,(intRow c),rfl,hct,?_⟩|refine cl hF ?_|refine⟨_,rfl,?_⟩|((with_reducible show _=_);rfl))
    all_goals try((with_reducible refine Obl.mk ?_);exact KP)
    all_goals try exact KX
    all_goals try(exfalso;rw[hrl,IntWalk.i64_in _ (by omega)]at h;have:=of_decide_eq_true h;omega)
    all_goals try(exfalso;first|(simp[u1]at h;done)|(simp[u2]at h;done)|(simp at h;done)|(simp_all;done))
    conv=>whnf
    refine⟨⟨i+1,by omega⟩,?_,by dsimp only;omega⟩
    repeat' ((conv=>whnf);first|(with_reducible first|apply Wx|apply W6)|apply oi|(apply fi<;>intro h)|refine⟨_,rfl,?_⟩|((with_reducible show _=_);rfl))
    all_goals try((with_reducible refine Obl.mk ?_);exact KP)
    all_goals try exact⟨KW⟩
  ·skip
   repeat' ((conv=>whnf);first|(with_reducible first|apply Wx|apply W6)|apply oi|(apply fi<;>intro h)|refine⟨_,rfl,?_⟩|((with_reducible show _=_);rfl))
   all_goals try((with_reducible refine Obl.mk ?_);exact KP)
   all_goals try exact KX
   conv=>whnf
   refine⟨⟨k+1,by omega⟩,?_,by dsimp only;omega⟩
   repeat' ((conv=>whnf);first|(with_reducible first|apply Wx|apply W6)|apply oi|(apply fi<;>intro h)|refine⟨_,rfl,?_⟩|((with_reducible show _=_);rfl))
   all_goals try((with_reducible refine Obl.mk ?_);exact KP)
   all_goals try exact⟨KW⟩
 ·skip
  repeat' ((conv=>whnf);first|(with_reducible first|apply Wx|apply W6)|apply oi|(apply fi<;>intro h)|refine cl hE ?_|refine cl hD ?_|refine cl hOk ?_|refine cl hSm ?_|refine⟨_,rfl,?_⟩|((with_reducible show _=_);rfl))
  all_goals try((with_reducible refine Obl.mk ?_);exact KP)
  all_goals try exact KX
  all_goals try(exfalso;first|(simp at h;done)|(simp at h;omega)|(simp_all;done)|(simp_all;omega))
theorem fnInlines_lifted (os:Os)(started:os.Started)(H:Type)(enc:TypeId×Value→H):
  ReturnsInHanded {} Tryz.checked os 3 .any (Rows.fnInlinesSpec.pre6 enc Tryz.prog Tryz.f3 Rows.fnInlinesRow.domain false) (Rows.fnInlinesSpec.post enc Tryz.prog Tryz.f3 false true false false):=by
 refine returnsInHanded_of_change (C:=Tryz.checked) own started (by kernel_rfl) Tryz.func3
  (ChangeSpec.witness6 (enc:=enc) (C:=Tryz.checked) false ⟨#[],#[.slice none 0 0],[]⟩ 8 (by kernel_rfl) (by kernel_rfl) (by kernel_rfl) (by kernel_rfl)) ?_
 intro W base args ds gs before hval hW _ _
 have hW0:=hW
 obtain⟨p,q,hA,_,_,_,_⟩:=hW0
 have hlen:=trodAll_len hA
 obtain⟨xs,hx,hty⟩:=args_typed (n:=8) hΓ (by kernel_rfl) (fun j t v h1 h2=>hval j t v (by simpa using h1) (by simpa using h2)) hA
 rw[Tryz.params3]at hty hlen
 obtain⟨_,xs0,rfl,hx0,hty0⟩:=typedVs_cons hty
 obtain⟨_,rfl,rows,⟨⟩,hl,hr⟩:=hx0
 obtain rfl:=typedVs_nil hty0
 obtain⟨d0,rfl⟩:=len1 hlen
 obtain⟨bs,rfl⟩:=byte_rows (rows:=rows) (fun r hr'=>hr r hr')
 exact law_calls laidOut rfl Tryz.underlying4 rfl (by kernel_rfl) rfl hx (s_laws_FnInlines bs) hW
theorem fnInlines_holds:Rows.FnInlinesSaid:=
 OpenClaim.holds_of_wide 3 Tryz.f3 rfl rfl rfl rfl rfl rfl rfl ⟨rfl,rfl,rfl,rfl,rfl⟩ rfl rfl rfl rfl rfl (by kernel_rfl) Tryz.func3 (by kernel_rfl)
  (of_decide_eq_true (by kernel_rfl)) (by unfold Func.isWrapper;first|(rw[if_pos (by decide+kernel)];kernel_rfl)|(rw[if_neg (by decide+kernel)];exact⟨rfl,rfl⟩))
  (fun os started H enc _=>fnInlines_lifted os started H enc)
end Go.Proofs.YtjmplnfiabmalaaGreat
