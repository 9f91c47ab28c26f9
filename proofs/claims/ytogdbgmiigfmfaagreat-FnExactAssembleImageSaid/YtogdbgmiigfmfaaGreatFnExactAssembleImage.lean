/- The law FnExactAssembleImage answers true for every input and leaves its arguments as they were. Conditions: none beyond the given statement. -/
import Derived.Test.YtogdbgmiigfmfaaGreatGi
namespace Go.Proofs.YtogdbgmiigfmfaaGreat
open Go.Sim
set_option maxRecDepth 100000
set_option maxHeartbeats 4000000
theorem s_impl_AssembleImage (p:List TLine)(b:TBuild)(image:Int)(hs:smallT 1048576 (.lst 4 (p.map TLine.tr))):Sim.Spec Tryz.prog 24 [tvP p,.agg b.tr,tvI image] (.r (.agg ((assemble p b image).tr.map resC))):=by
 refine spec_of_Wo hΓ hmix Tryz.func24 rfl (by decide) rfl ?_
 have hP:=s_impl_ProgramOk p hs
 have hB:=s_impl_BuildOk b
 have gb:=s_impl_between image 0 1
 by_cases hc:programOk p=true∧buildOk b=true∧within image 0 1=true
 ·have hcf:assemble p b image=⟨codeOf (allPl (imgL p b image (funs p).length 0 0)),symsOf p 0 (imgL p b image (funs p).length 0 0)⟩:=by rw[assemble,if_pos hc]
  rw[hcf]
  obtain⟨h1,h2,h3⟩:=hc
  rw[h1]at hP
  rw[h2]at hB
  rw[h3]at gb
  obtain⟨h6,h60⟩:=funs_six h1
  have gF:=s_impl_FunctionLines p (by omega)
  have hfl:((funs p).map fun n:Nat=>intRow n).length=(funs p).length:=by simp
  have gi:=s_impl_imagePlaces p b image hs h1 h2
  have hll:=imgL_len p b image (funs p).length 0 0
  have hlc:=fun x (hx:x∈imgL p b image (funs p).length 0 0)=>(imgL_cap hs hx).1
  have hlf:=fun x (hx:x∈imgL p b image (funs p).length 0 0)=>(imgL_fun hx).2
  generalize imgL p b image (funs p).length 0 0=L at *
  have hrl:(imgRows L).length=L.length:=by simp[imgRows]
  have hnl:(imgNums L).length=L.length:=by simp[imgNums]
  repeat' ((conv=>whnf);first|(with_reducible first|apply Wx|apply W6)|apply oi|(apply fi<;>intro h)|refine cl hP ?_|refine cl hB ?_|refine cl gb ?_|refine cl gi ?_|refine⟨_,rfl,?_⟩|((with_reducible show _=_);rfl))
  all_goals try((with_reducible refine Obl.mk ?_);exact KP)
  conv=>whnf
  refine⟨{k:Nat // k≤L.length},fun k=>⟨[(0,vP p),(6,.r (.c (.ptr (6,0,0) 0))),(7,.r (.c (.ptr (7,0,0) 0))),(8,.r (.c (.own (34,0,0)))),(37,.r (.c (.own (34,1,0)))),(38,tI .i64 ((imgRows L).length:Int)),(39,tI .i64 (k.1:Int))],[((6,0,0),some (.box [.t (.str []),.nils 0])),((7,0,0),some (.box [.t (.str (codeOf (allPl (L.take k.1)))),.own (7,0,1)])),((7,0,1),some (.arr true 3 ((symsOf p 0 (L.take k.1)).map TSymbol.tr))),((34,0,0),some (.arr true 1 (imgNums L))),((34,1,0),some (.arr true 1 (imgRows L)))],[34,7,6]⟩,fun k=>L.length - k.1,⟨0,by omega⟩,?_,?_⟩
  ·skip
   repeat' ((conv=>whnf);first|(with_reducible first|apply Wx|apply W6)|apply oi|(apply fi<;>intro h)|refine⟨_,rfl,?_⟩|((with_reducible show _=_);rfl))
   all_goals try((with_reducible refine Obl.mk ?_);exact KP)
  intro⟨k,hk⟩
  dsimp only
  have hpl:=allPl_cap hlc hk
  have hcl:=codeOf_len (allPl (L.take k))
  have hsy:(symsOf p 0 (L.take k)).length=k:=by rw[symsOf_len,List.length_take];omega
  by_cases hlt:k < L.length
  ·obtain⟨x,hx⟩:=get_of_lt hlt
   have hxl:=hlc x (List.mem_of_getElem? hx)
   have hxf:=hlf x (List.mem_of_getElem? hx)
   obtain⟨g,hg⟩:=get_of_lt (l:=funs p) (k:=x.1) (by omega)
   obtain⟨hgl,ln,hln,_⟩:=funs_lt (List.mem_of_getElem? hg)
   have hnm:nameOf p x.1=ln.fName:=by rw[nameOf,hg];dsimp only;rw[hln]
   have hxr:(imgRows L)[k]?=some [.lst 8 (x.2.map TPlace.tr)]:=by rw[imgRows,List.getElem?_map,hx];rfl
   have hxn:(imgNums L)[k]?=some (intRow (x.1:Int)):=by rw[imgNums,List.getElem?_map,hx];rfl
   have hfg:((funs p).map fun n:Nat=>intRow (n:Int))[x.1]?=some (intRow (g:Int)):=by rw[List.getElem?_map,hg];rfl
   have hkr:k < (imgRows L).length:=by omega
   have hkn:k < (imgNums L).length:=by omega
   have hxm:(x.2.map TPlace.tr).length=x.2.length:=by simp
   have hfgl:x.1 < ((funs p).map fun n:Nat=>intRow (n:Int)).length:=by rw[hfl];omega
   have hsn:symsOf p 0 (L.take (k+1))=symsOf p 0 (L.take k)++[⟨nameOf p x.1,0+(codeOf (allPl (L.take k))).length,(codeOf x.2).length⟩]:=by rw[take_one hx,symsOf_snoc]
   have hcn:codeOf (allPl (L.take (k+1)))=codeOf (allPl (L.take k))++codeOf x.2:=by rw[take_one hx,allPl_snoc,codeOf_append]
   have hcx:=codeOf_len x.2
   generalize hSS:symsOf p 0 (L.take (k+1))=S1 at *
   generalize hS0:symsOf p 0 (L.take k)=S0 at *
   generalize hCC:codeOf (allPl (L.take (k+1)))=C1 at *
   generalize hC0:codeOf (allPl (L.take k))=C0 at *
   repeat' ((conv=>whnf);first|(with_reducible first|apply Wx|apply W6)|apply oi|(apply fi<;>intro h)|refine⟨k,rfl,hkr,?_⟩|refine⟨_,hxr,?_⟩|refine⟨_,rfl,?_⟩|((with_reducible show _=_);rfl))
   all_goals try((with_reducible refine Obl.mk ?_);exact KP)
   all_goals try exact KX
   conv=>whnf
   refine⟨{j:Nat // j≤x.2.length},fun j=>⟨[(0,vP p),(6,.r (.c (.ptr (6,0,0) 0))),(7,.r (.c (.ptr (7,0,0) 0))),(8,.r (.c (.own (34,0,0)))),(37,.r (.c (.own (34,1,0)))),(38,tI .i64 ((imgRows L).length:Int)),(39,tI .i64 (k:Int)),(10,tI .i64 (k:Int)),(12,tI .i64 (C0.length:Int)),(47,.r (.c (.t (.lst 8 (x.2.map TPlace.tr))))),(48,tI .i64 ((x.2.map TPlace.tr).length:Int)),(49,tI .i64 (j.1:Int))],[((6,0,0),some (.box [.t (.str []),.nils 0])),((7,0,0),some (.box [.t (.str (C0++codeOf (x.2.take j.1))),.own (7,0,1)])),((7,0,1),some (.arr true 3 ((S0).map TSymbol.tr))),((34,0,0),some (.arr true 1 (imgNums L))),((34,1,0),some (.arr true 1 (imgRows L)))],[34,7,6]⟩,fun j=>x.2.length - j.1,⟨0,by omega⟩,?_,?_⟩
   ·skip
    repeat' ((conv=>whnf);first|(with_reducible first|apply Wx|apply W6)|apply oi|(apply fi<;>intro h)|refine⟨_,rfl,?_⟩|((with_reducible show _=_);rfl))
    all_goals try((with_reducible refine Obl.mk ?_);exact KP)
    all_goals try exact⟨by simp[codeOf]⟩
   intro⟨j,hj⟩
   dsimp only
   have hct:=codeOf_len (x.2.take j)
   have hjt:(x.2.take j).length≤2500:=by rw[List.length_take];omega
   by_cases hjl:j < x.2.length
   ·obtain⟨y,hy⟩:=get_of_lt hjl
    have hE:=s_impl_EncodeOp y.fItem.fOp
    have hE5:=encodeOp_le y.fItem.fOp
    have hym:=map_get (f:=TPlace.tr) hy
    have hcy:codeOf (x.2.take (j+1))=codeOf (x.2.take j)++encodeOp y.fItem.fOp:=by rw[take_one hy,codeOf_append,codeOf_one]
    repeat' ((conv=>whnf);first|(with_reducible first|apply Wx|apply W6)|apply oi|(apply fi<;>intro h)|refine⟨j,y.tr,rfl,hym,?_⟩|refine cl hE ?_|refine⟨_,rfl,?_⟩|((with_reducible show _=_);rfl))
    all_goals try((with_reducible refine Obl.mk ?_);exact KP)
    all_goals try exact KX
    all_goals try exact⟨K8⟩
    conv=>whnf
    refine⟨⟨j+1,by omega⟩,?_,by dsimp only;omega⟩
    repeat' ((conv=>whnf);first|(with_reducible first|apply Wx|apply W6)|apply oi|(apply fi<;>intro h)|refine⟨_,rfl,?_⟩|((with_reducible show _=_);rfl))
    all_goals try((with_reducible refine Obl.mk ?_);exact KP)
    all_goals try exact⟨KW⟩
    all_goals try exact⟨by dsimp only;rw[hcy,List.append_assoc]⟩
   ·have hjx:j=x.2.length:=by omega
    subst hjx
    rw[List.take_of_length_le (Nat.le_refl _),←hcn]
    repeat' ((conv=>whnf);first|(with_reducible first|apply Wx|apply W6)|apply oi|(apply fi<;>intro h)|refine cl gF ?_|refine⟨k,rfl,hkn,?_⟩|refine⟨_,hxn,?_⟩|refine⟨x.1,rfl,hfgl,?_⟩|refine⟨_,hfg,?_⟩|refine⟨g,ln.tr,rfl,map_get hln,?_⟩|refine⟨_,rfl,?_⟩|((with_reducible show _=_);rfl))
    all_goals try((with_reducible refine Obl.mk ?_);exact KP)
    all_goals try exact KX
    all_goals try exact⟨⟨by simp only[List.length_nil,List.length_cons,List.length_map,hsy] <;> omega,by simp only[List.length_nil,List.length_cons,List.length_map,hsy] <;> omega⟩⟩
    conv=>whnf
    refine⟨⟨k+1,by omega⟩,?_,by dsimp only;omega⟩
    repeat' ((conv=>whnf);first|(with_reducible first|apply Wx|apply W6)|apply oi|(apply fi<;>intro h)|refine⟨_,rfl,?_⟩|((with_reducible show _=_);rfl))
    all_goals try((with_reducible refine Obl.mk ?_);exact KP)
    all_goals try exact⟨KW⟩
    all_goals try exact⟨by rw[hCC]⟩
    all_goals exact⟨by
     have e:C1.length=C0.length+(codeOf x.2).length:=by rw[hcn,List.length_append]
     dsimp only
     rw[hSS,hsn,List.map_append,hnm,IntWalk.i64_in _ (by omega),show(C1.length:Int) - C0.length=((codeOf x.2).length:Int) by omega,Int.zero_add]
     rfl⟩
  ·have hkl:k=L.length:=by omega
   subst hkl
   rw[List.take_of_length_le (Nat.le_refl _)]
   repeat' ((conv=>whnf);first|(with_reducible first|apply Wx|apply W6)|apply oi|(apply fi<;>intro h)|refine⟨_,rfl,?_⟩|((with_reducible show _=_);rfl))
   all_goals try((with_reducible refine Obl.mk ?_);exact KP)
   all_goals try exact KX
 ·have hcf:assemble p b image=⟨[],[]⟩:=by rw[assemble,if_neg hc]
  rw[hcf]
  cases h1:programOk p with
  | false=>
   rw[h1]at hP
   repeat' ((conv=>whnf);first|(with_reducible first|apply Wx|apply W6)|apply oi|(apply fi<;>intro h)|refine cl hP ?_|refine cl hB ?_|refine cl gb ?_|refine⟨_,rfl,?_⟩|((with_reducible show _=_);rfl))
   all_goals try((with_reducible refine Obl.mk ?_);exact KP)
   all_goals try exact KX
  | true=>
   rw[h1]at hP
   cases h2:buildOk b with
   | false=>
    rw[h2]at hB
    repeat' ((conv=>whnf);first|(with_reducible first|apply Wx|apply W6)|apply oi|(apply fi<;>intro h)|refine cl hP ?_|refine cl hB ?_|refine cl gb ?_|refine⟨_,rfl,?_⟩|((with_reducible show _=_);rfl))
    all_goals try((with_reducible refine Obl.mk ?_);exact KP)
    all_goals try exact KX
   | true=>
    rw[h2]at hB
    cases h3:within image 0 1 with
    | true=>exact absurd ⟨h1,h2,h3⟩ hc
    | false=>
     rw[h3]at gb
     repeat' ((conv=>whnf);first|(with_reducible first|apply Wx|apply W6)|apply oi|(apply fi<;>intro h)|refine cl hP ?_|refine cl hB ?_|refine cl gb ?_|refine⟨_,rfl,?_⟩|((with_reducible show _=_);rfl))
     all_goals try((with_reducible refine Obl.mk ?_);exact KP)
     all_goals try exact KX
end Go.Proofs.YtogdbgmiigfmfaaGreat
namespace Go.Proofs.YtogdbgmiigfmfaaGreat
open Go.Sim
set_option maxRecDepth 100000
set_option maxHeartbeats 4000000
theorem and_one:∀f:Fin 101,IntKind.i64.wrap (BitVec.ofInt IntKind.i64.bits (f.val:Int) &&& BitVec.ofInt IntKind.i64.bits 1).toNat=(f.val:Int) % 2:=by decide
theorem s_spec_l09InImage (f:Nat)(b:TBuild)(image:Int)(hf:f≤100):Sim.Spec Tryz.prog 62 [.agg b.tr,tvI (f:Int),tvI image] (rB (inImg b image f)):=by
 refine spec_of_Wo hΓ hmix Tryz.func62 rfl (by decide) rfl ?_
 unfold inImg
 have hm:=and_one ⟨f,by omega⟩
 dsimp only at hm
 repeat' ((conv=>whnf);first|(with_reducible first|apply Wx|apply W6)|apply oi|(apply fi<;>intro h)|refine⟨_,rfl,?_⟩|((with_reducible show _=_);rfl))
 all_goals try((with_reducible refine Obl.mk ?_);exact KP)
 all_goals first|exact⟨by rw[h,hm];rfl⟩|exact⟨by rw[h];rfl⟩
theorem allPl_le:∀{L:List (Nat×List TPlace)},(∀x∈L,x.2.length≤2500)→(allPl L).length≤2500 * L.length
 | L,h=>by
  have:=allPl_cap h (Nat.le_refl L.length)
  rwa [List.take_of_length_le (Nat.le_refl _)]at this
theorem s_spec_PlacesOf (p:List TLine)(b:TBuild)(image:Int)(hs:smallT 1048576 (.lst 4 (p.map TLine.tr))):Sim.Spec Tryz.prog 18 [tvP p,.agg b.tr,tvI image] (rL 8 ((placesOf p b image).map TPlace.tr)):=by
 refine spec_of_Wo hΓ hmix Tryz.func18 rfl (by decide) rfl ?_
 have hP:=s_spec_ProgramOk p hs
 have hB:=s_spec_BuildOk b
 have gb:=s_spec_l01In image 0 1
 by_cases hc:programOk p=true∧buildOk b=true∧within image 0 1=true
 ·have hcf:placesOf p b image=allPl (imgL p b image (funs p).length 0 0):=by rw[placesOf,if_pos hc];rfl
  rw[hcf]
  obtain⟨h1,h2,h3⟩:=hc
  rw[h1]at hP
  rw[h2]at hB
  rw[h3]at gb
  obtain⟨h6,h60⟩:=funs_six h1
  have gF:=s_spec_FunctionLines p (by omega)
  have hfl:((funs p).map fun n:Nat=>intRow n).length=(funs p).length:=by simp
  have hlc:=fun x (hx:x∈imgL p b image (funs p).length 0 0)=>(imgL_cap hs hx).1
  repeat' ((conv=>whnf);first|(with_reducible first|apply Wx|apply W6)|apply oi|(apply fi<;>intro h)|refine cl hP ?_|refine cl hB ?_|refine cl gb ?_|refine⟨_,rfl,?_⟩|((with_reducible show _=_);rfl))
  all_goals try((with_reducible refine Obl.mk ?_);exact KP)
  conv=>whnf
  refine⟨ImgIx p b image,fun q=>⟨[(0,vP p),(2,tI .i64 image),(4,.r (.c (.ptr (4,0,0) 0))),(7,.r (.c (.own (15,0,0)))),(8,tI .i64 q.1.2.1),(9,tI .i64 (q.1.1:Int))],[((15,0,0),some (.arr true 8 ((allPl q.1.2.2).map TPlace.tr))),((4,0,0),some (.box [.t (.int .i64 b.fFrames),.t (.int .i64 b.fInline),.t (.bool b.fFold),.t (.bool b.fSplit)]))],[15,4]⟩,fun q=>(funs p).length - q.1.1,⟨(0,0,[]),by simp,by simp,by simp,by simp⟩,?_,?_⟩
  ·skip
   repeat' ((conv=>whnf);first|(with_reducible first|apply Wx|apply W6)|apply oi|(apply fi<;>intro h)|refine⟨_,rfl,?_⟩|((with_reducible show _=_);rfl))
   all_goals try((with_reducible refine Obl.mk ?_);exact KP)
  intro⟨⟨f,at0,acc⟩,hk,ha,hal,hr⟩
  dsimp only at hk ha hal hr ⊢
  have hac:(allPl acc).length≤2500 * acc.length:=allPl_le fun x hx=>hlc x (by rw[←hr];exact List.mem_append.2 (.inl hx))
  by_cases hlt:f < (funs p).length
  ·obtain⟨n,hn⟩:∃n,(funs p).length - f=n+1:=⟨(funs p).length - f - 1,by omega⟩
   have hi:=s_spec_l09InImage f b image (by omega)
   rw[hn,imgL_step]at hr
   cases hin:inImg b image f with
   | false=>
    rw[hin]at hi hr
    rw[if_neg (by simp)]at hr
    repeat' ((conv=>whnf);first|(with_reducible first|apply Wx|apply W6)|apply oi|(apply fi<;>intro h)|refine cl gF ?_|refine cl hi ?_|refine⟨_,rfl,?_⟩|((with_reducible show _=_);rfl))
    all_goals try((with_reducible refine Obl.mk ?_);exact KP)
    all_goals try exact KX
    conv=>whnf
    refine⟨⟨(f+1,at0,acc),by dsimp only;omega,by dsimp only;omega,by dsimp only;omega,by dsimp only;rw[show(funs p).length - (f+1)=n by omega];exact hr⟩,?_,by dsimp only;omega⟩
    repeat' ((conv=>whnf);first|(with_reducible first|apply Wx|apply W6)|apply oi|(apply fi<;>intro h)|refine⟨_,rfl,?_⟩|((with_reducible show _=_);rfl))
    all_goals try((with_reducible refine Obl.mk ?_);exact KP)
    all_goals try exact⟨KW⟩
   | true=>
    rw[hin]at hi hr
    rw[if_pos rfl]at hr
    have hcs:=s_spec_CompileFunction p (f:Int) b hs
    obtain⟨f1,f2,f3⟩:=fn_ok (f:=f) hs h1 h2 hlt
    have hch:=(compileF_cap (p:=p) (f:=(f:Int)) (b:=b) hs).2
    generalize compileF p (f:Int) b=I at *
    repeat' ((conv=>whnf);first|(with_reducible first|apply Wx|apply W6)|apply oi|(apply fi<;>intro h)|refine cl gF ?_|refine cl hi ?_|refine cl hcs ?_|refine⟨_,rfl,?_⟩|((with_reducible show _=_);rfl))
    all_goals try((with_reducible refine Obl.mk ?_);exact KP)
    all_goals try exact KX
    have hlen:(I.map TItem.tr).length=I.length:=by simp
    have hsl:=startsF_len at0 I
    have hle:=fun k (h:k≤I.length)=>startsF_le (at0:=at0) h
    have hS0:=startsF_zero at0 I
    have hsu:=fun k x (h:I[k]?=some x)=>startsF_succ (at0:=at0) h
    have hpf:∀(k:Nat) (x:TItem),I[k]?=some x→(placesF I at0)[k]?=some (TPlace.mk (atL (startsF at0 I) k) (jumpI (startsF at0 I) k x)):=fun k x h=>placesF_get h
    have hfl2:=placesF_len I at0
    have hend:endF at0 I=atL (startsF at0 I) I.length:=rfl
    have ye:=endF_le (l:=I) (at0:=at0)
    generalize startsF at0 I=S at *
    generalize placesF I at0=F at *
    generalize endF at0 I=E at *
    conv=>whnf
    refine⟨{k:Nat // k≤I.length},fun k=>⟨[(0,vP p),(2,tI .i64 image),(4,.r (.c (.ptr (4,0,0) 0))),(7,.r (.c (.own (15,0,0)))),(8,tI .i64 (atL S k.1)),(9,tI .i64 (f:Int)),(10,.r (.c (.own (45,0,0)))),(11,.r (.c (.own (46,0,0)))),(12,tI .i64 (k.1:Int))],[((46,0,0),some (.arr true 1 ((S.take k.1).map intRow))),((45,0,0),some (.arr true 7 (I.map TItem.tr))),((15,0,0),some (.arr true 8 ((allPl acc).map TPlace.tr))),((4,0,0),some (.box [.t (.int .i64 b.fFrames),.t (.int .i64 b.fInline),.t (.bool b.fFold),.t (.bool b.fSplit)]))],[46,45,15,4]⟩,fun k=>I.length - k.1,⟨0,by omega⟩,?_,?_⟩
    ·skip
     repeat' ((conv=>whnf);first|(with_reducible first|apply Wx|apply W6)|apply oi|(apply fi<;>intro h)|refine⟨_,rfl,?_⟩|((with_reducible show _=_);rfl))
     all_goals try((with_reducible refine Obl.mk ?_);exact KP)
     all_goals try exact⟨by rw[hS0]⟩
    intro⟨k,hk⟩
    dsimp only
    have hlk:=hle k hk
    by_cases hlt2:k < I.length
    ·obtain⟨x,hx⟩:=get_of_lt hlt2
     have hz:=opSize_le x.fOp.fCode
     have ho:=s_spec_OpSize x.fOp.fCode
     have hs1:=hsu k x hx
     have hg:S[k]?=some (atL S k):=atL_get (by omega)
     have hkr:k < (I.map TItem.tr).length:=by omega
     have hxr:(I.map TItem.tr)[k]?=some x.tr:=map_get hx
     repeat' ((conv=>whnf);first|(with_reducible first|apply Wx|apply W6)|apply oi|(apply fi<;>intro h)|refine⟨k,rfl,hkr,?_⟩|refine⟨_,hxr,?_⟩|refine cl ho ?_|refine⟨_,rfl,?_⟩|((with_reducible show _=_);rfl))
     all_goals try((with_reducible refine Obl.mk ?_);exact KP)
     all_goals try exact KX
     all_goals try exact⟨⟨by simp <;> omega,by simp <;> omega⟩⟩
     conv=>whnf
     refine⟨⟨k+1,by omega⟩,?_,by dsimp only;omega⟩
     repeat' ((conv=>whnf);first|(with_reducible first|apply Wx|apply W6)|apply oi|(apply fi<;>intro h)|refine⟨_,rfl,?_⟩|((with_reducible show _=_);rfl))
     all_goals try((with_reducible refine Obl.mk ?_);exact KP)
     all_goals try exact⟨KW⟩
     all_goals try exact⟨by rw[take_one hg,List.map_append];rfl⟩
     all_goals try exact⟨congrArg (Tr.int .i64) (by rw[hs1,IntWalk.i64_in _ (by omega)])⟩
    ·have hkl:k=I.length:=by omega
     subst hkl
     have hg:S[I.length]?=some (atL S I.length):=atL_get (by omega)
     repeat' ((conv=>whnf);first|(with_reducible first|apply Wx|apply W6)|apply oi|(apply fi<;>intro h)|refine⟨_,rfl,?_⟩|((with_reducible show _=_);rfl))
     all_goals try((with_reducible refine Obl.mk ?_);exact KP)
     all_goals try exact KX
     all_goals try exact⟨⟨by simp <;> omega,by simp <;> omega⟩⟩
     conv=>whnf
     refine⟨{k:Nat // k≤I.length},fun k=>⟨[(0,vP p),(2,tI .i64 image),(4,.r (.c (.ptr (4,0,0) 0))),(7,.r (.c (.own (15,0,0)))),(8,tI .i64 (atL S I.length)),(9,tI .i64 (f:Int)),(10,.r (.c (.own (45,0,0)))),(11,.r (.c (.own (69,0,0)))),(13,tI .i64 (k.1:Int))],[((69,0,0),some (.arr true 1 (S.map intRow))),((45,0,0),some (.arr true 7 (I.map TItem.tr))),((15,0,0),some (.arr true 8 ((allPl acc++F.take k.1).map TPlace.tr))),((4,0,0),some (.box [.t (.int .i64 b.fFrames),.t (.int .i64 b.fInline),.t (.bool b.fFold),.t (.bool b.fSplit)]))],[69,45,15,4]⟩,fun k=>I.length - k.1,⟨0,by omega⟩,?_,?_⟩
     ·skip
      repeat' ((conv=>whnf);first|(with_reducible first|apply Wx|apply W6)|apply oi|(apply fi<;>intro h)|refine⟨_,rfl,?_⟩|((with_reducible show _=_);rfl))
      all_goals try((with_reducible refine Obl.mk ?_);exact KP)
      all_goals try exact⟨by rw[show [[Tr.int .i64 (atL S I.length)]]=[atL S I.length].map intRow from rfl,←List.map_append,←take_one hg,List.take_of_length_le (by omega)]⟩
      all_goals try exact⟨by simp⟩
     intro⟨k,hk⟩
     dsimp only
     have hol:((allPl acc++F.take k).map TPlace.tr).length=(allPl acc).length+k:=by rw[List.length_map,List.length_append,List.length_take];omega
     have hml:(S.map intRow).length=I.length+1:=by rw[List.length_map];exact hsl
     have mg:∀j,j≤I.length→(S.map intRow)[j]?=some (intRow (atL S j)):=fun j hj=>by rw[List.getElem?_map,atL_get (by omega)];rfl
     by_cases hlt2:k < I.length
     ·obtain⟨x,hx⟩:=get_of_lt hlt2
      have hpg:=hpf k x hx
      have hsn:(allPl acc++F.take (k+1)).map TPlace.tr=(allPl acc++F.take k).map TPlace.tr++[(TPlace.mk (atL S k) (jumpI S k x)).tr]:=by rw[take_one hpg,←List.append_assoc,List.map_append];rfl
      have hkr:k < (I.map TItem.tr).length:=by omega
      have hxr:(I.map TItem.tr)[k]?=some x.tr:=map_get hx
      have hw1:IntKind.i64.wrap ((k:Int)+1)=((k+1:Nat):Int):=by rw[IntWalk.i64_in _ (by omega)];rfl
      have hk0:k < (S.map intRow).length:=by omega
      have hk1:k+1 < (S.map intRow).length:=by omega
      have m0:=mg k (by omega)
      have m1:=mg (k+1) (by omega)
      have b1:=hle (k+1) (by omega)
      cases hjx:isJump x with
      | true=>
       obtain⟨ja,jb⟩:=f3 x (List.mem_of_getElem? hx) hjx
       have hwa:x.fOp.fArg=((x.fOp.fArg.toNat:Nat):Int):=(Int.toNat_of_nonneg ja).symm
       have hal2:x.fOp.fArg.toNat < (S.map intRow).length:=by omega
       have m2:=mg x.fOp.fArg.toNat (by omega)
       have b2:=hle x.fOp.fArg.toNat (by omega)
       have hji:jumpI S k x=withArg x (IntKind.i64.wrap (atL S x.fOp.fArg.toNat - atL S (k+1))):=by rw[jumpI,if_pos hjx,IntWalk.i64_in _ (by omega)]
       rw[isJump_iff]at hjx
       repeat' ((conv=>whnf);first|(with_reducible first|apply Wx|apply W6)|apply oi|(apply fi<;>intro h)|refine⟨k,rfl,hkr,?_⟩|refine⟨_,hxr,?_⟩|refine⟨k,rfl,hk0,?_⟩|refine⟨k+1,hw1,hk1,?_⟩|refine⟨_,hwa,hal2,?_⟩|refine⟨_,m0,?_⟩|refine⟨_,m1,?_⟩|refine⟨_,m2,?_⟩|refine⟨_,rfl,?_⟩|((with_reducible show _=_);rfl))
       all_goals try((with_reducible refine Obl.mk ?_);exact KP)
       all_goals try exact KX
       all_goals try exact KK
       all_goals try exact⟨⟨by simp only[List.length_nil,List.length_cons,hol] <;> omega,by simp only[List.length_nil,List.length_cons,hol] <;> omega⟩⟩
       all_goals(
        conv=>whnf
        refine⟨⟨k+1,by omega⟩,?_,by dsimp only;omega⟩
        repeat' ((conv=>whnf);first|(with_reducible first|apply Wx|apply W6)|apply oi|(apply fi<;>intro h)|refine⟨_,rfl,?_⟩|((with_reducible show _=_);rfl))
        all_goals try((with_reducible refine Obl.mk ?_);exact KP)
        all_goals try exact⟨KW⟩
        all_goals try exact⟨by dsimp only;rw[hsn,hji];rfl⟩)
      | false=>
       have hji:jumpI S k x=x:=by rw[jumpI,if_neg (by rw[hjx];simp)]
       have hjn:¬(x.fOp.fCode=10∨x.fOp.fCode=11):=by rw[←isJump_iff,hjx];simp
       repeat' ((conv=>whnf);first|(with_reducible first|apply Wx|apply W6)|apply oi|(apply fi<;>intro h)|refine⟨k,rfl,hkr,?_⟩|refine⟨_,hxr,?_⟩|refine⟨k,rfl,hk0,?_⟩|refine⟨_,m0,?_⟩|refine⟨_,rfl,?_⟩|((with_reducible show _=_);rfl))
       all_goals try((with_reducible refine Obl.mk ?_);exact KP)
       all_goals try exact KX
       all_goals try exact KK
       all_goals try exact⟨⟨by simp only[List.length_nil,List.length_cons,hol] <;> omega,by simp only[List.length_nil,List.length_cons,hol] <;> omega⟩⟩
       all_goals(
        conv=>whnf
        refine⟨⟨k+1,by omega⟩,?_,by dsimp only;omega⟩
        repeat' ((conv=>whnf);first|(with_reducible first|apply Wx|apply W6)|apply oi|(apply fi<;>intro h)|refine⟨_,rfl,?_⟩|((with_reducible show _=_);rfl))
        all_goals try((with_reducible refine Obl.mk ?_);exact KP)
        all_goals try exact⟨KW⟩
        all_goals try exact⟨by dsimp only;rw[hsn,hji];rfl⟩)
     ·have hkl:k=I.length:=by omega
      subst hkl
      repeat' ((conv=>whnf);first|(with_reducible first|apply Wx|apply W6)|apply oi|(apply fi<;>intro h)|refine⟨_,rfl,?_⟩|((with_reducible show _=_);rfl))
      all_goals try((with_reducible refine Obl.mk ?_);exact KP)
      all_goals try exact KX
      conv=>whnf
      refine⟨⟨(f+1,E,acc++[(f,F)]),by dsimp only;omega,by dsimp only;omega,by simp;omega,by dsimp only;rw[List.append_assoc,show(funs p).length - (f+1)=n by omega];exact hr⟩,?_,by dsimp only;omega⟩
      repeat' ((conv=>whnf);first|(with_reducible first|apply Wx|apply W6)|apply oi|(apply fi<;>intro h)|refine⟨_,rfl,?_⟩|((with_reducible show _=_);rfl))
      all_goals try((with_reducible refine Obl.mk ?_);exact KP)
      all_goals try exact⟨KW⟩
      all_goals try exact⟨by rw[hend]⟩
      all_goals try exact⟨by rw[allPl_snoc,List.take_of_length_le (by omega)]⟩
  ·rw[show(funs p).length - f=0 by omega]at hr
   have hr2:acc=imgL p b image (funs p).length 0 0:=by rw[←hr];simp[imgL]
   repeat' ((conv=>whnf);first|(with_reducible first|apply Wx|apply W6)|apply oi|(apply fi<;>intro h)|refine cl gF ?_|refine⟨_,rfl,?_⟩|((with_reducible show _=_);rfl))
   all_goals try((with_reducible refine Obl.mk ?_);exact KP)
   all_goals try exact KX
   all_goals exact⟨by rw[hr2]⟩
 ·have hcf:placesOf p b image=[]:=by rw[placesOf,if_neg hc]
  rw[hcf]
  cases h1:programOk p with
  | false=>
   rw[h1]at hP
   repeat' ((conv=>whnf);first|(with_reducible first|apply Wx|apply W6)|apply oi|(apply fi<;>intro h)|refine cl hP ?_|refine cl hB ?_|refine cl gb ?_|refine⟨_,rfl,?_⟩|((with_reducible show _=_);rfl))
   all_goals try((with_reducible refine Obl.mk ?_);exact KP)
   all_goals try exact KX
  | true=>
   rw[h1]at hP
   cases h2:buildOk b with
   | false=>
    rw[h2]at hB
    repeat' ((conv=>whnf);first|(with_reducible first|apply Wx|apply W6)|apply oi|(apply fi<;>intro h)|refine cl hP ?_|refine cl hB ?_|refine cl gb ?_|refine⟨_,rfl,?_⟩|((with_reducible show _=_);rfl))
    all_goals try((with_reducible refine Obl.mk ?_);exact KP)
    all_goals try exact KX
   | true=>
    rw[h2]at hB
    cases h3:within image 0 1 with
    | true=>exact absurd ⟨h1,h2,h3⟩ hc
    | false=>
     rw[h3]at gb
     repeat' ((conv=>whnf);first|(with_reducible first|apply Wx|apply W6)|apply oi|(apply fi<;>intro h)|refine cl hP ?_|refine cl hB ?_|refine cl gb ?_|refine⟨_,rfl,?_⟩|((with_reducible show _=_);rfl))
     all_goals try((with_reducible refine Obl.mk ?_);exact KP)
     all_goals try exact KX
end Go.Proofs.YtogdbgmiigfmfaaGreat
namespace Go.Proofs.YtogdbgmiigfmfaaGreat
open Go.Sim
set_option maxRecDepth 100000
set_option maxHeartbeats 4000000
theorem s_spec_AssembleImage (p:List TLine)(b:TBuild)(image:Int)(hs:smallT 1048576 (.lst 4 (p.map TLine.tr))):Sim.Spec Tryz.prog 23 [tvP p,.agg b.tr,tvI image] (.r (.agg ((assemble p b image).tr.map resC))):=by
 refine spec_of_Wo hΓ hmix Tryz.func23 rfl (by decide) rfl ?_
 have hP:=s_spec_PlacesOf p b image hs
 by_cases hc:programOk p=true∧buildOk b=true∧within image 0 1=true
 ·have hcf:assemble p b image=⟨codeOf (allPl (imgL p b image (funs p).length 0 0)),symsOf p 0 (imgL p b image (funs p).length 0 0)⟩:=by rw[assemble,if_pos hc]
  have hpf:placesOf p b image=allPl (imgL p b image (funs p).length 0 0):=by rw[placesOf,if_pos hc];rfl
  rw[hcf]
  rw[hpf]at hP
  obtain⟨h1,h2,h3⟩:=hc
  obtain⟨h6,h60⟩:=funs_six h1
  have hll:=imgL_len p b image (funs p).length 0 0
  have hlc:=fun x (hx:x∈imgL p b image (funs p).length 0 0)=>(imgL_cap hs hx).1
  have hfa:=fun{i:Nat} {x:Nat×List TPlace} {j:Nat} {y:TPlace} (h:(imgL p b image (funs p).length 0 0)[i]?=some x) (hy:x.2[j]?=some y)=>imgL_place hs h1 h2 h hy
  have hla:=fun{i:Nat} {x:Nat×List TPlace} (h:(imgL p b image (funs p).length 0 0)[i]?=some x)=>(imgL_at hs h1 h2 (by omega) h).2
  generalize imgL p b image (funs p).length 0 0=L at *
  repeat' ((conv=>whnf);first|(with_reducible first|apply Wx|apply W6)|apply oi|(apply fi<;>intro h)|refine cl hP ?_|refine⟨_,rfl,?_⟩|((with_reducible show _=_);rfl))
  all_goals try((with_reducible refine Obl.mk ?_);exact KP)
  conv=>whnf
  refine⟨{q:Nat×Nat // q.1≤L.length∧(∀x,L[q.1]?=some x→q.2 < x.2.length)∧(q.1=L.length→q.2=0)},fun q=>⟨[(0,vP p),(6,.r (.c (.ptr (6,0,0) 0))),(7,.r (.c (.ptr (7,0,0) 0))),(8,.r (.c (.own (15,0,0)))),(9,tI .i64 (((allPl (L.take q.1.1)).length+q.1.2:Nat):Int))],[((6,0,0),some (.box [.t (.str []),.nils 0])),((7,0,0),some (.box [.t (.str (codeQ L q.1.1 q.1.2)),.own (7,0,1)])),((7,0,1),some (.arr true 3 ((symsQ p L q.1.1 q.1.2).map TSymbol.tr))),((15,0,0),some (.arr true 8 ((allPl L).map TPlace.tr)))],[15,7,6]⟩,fun q=>(allPl L).length+1 - ((allPl (L.take q.1.1)).length+q.1.2),⟨(0,0),by dsimp only;omega,by intro x hx;exact(hla hx).2,fun _=>rfl⟩,?_,?_⟩
  ·skip
   repeat' ((conv=>whnf);first|(with_reducible first|apply Wx|apply W6)|apply oi|(apply fi<;>intro h)|refine⟨_,rfl,?_⟩|((with_reducible show _=_);rfl))
   all_goals try((with_reducible refine Obl.mk ?_);exact KP)
   all_goals try exact⟨by rw[codeQ_zero];rfl⟩
   all_goals try exact⟨by rw[symsQ_zero];rfl⟩
  intro⟨⟨i,j⟩,hi,hj,he⟩
  dsimp only at hi hj he ⊢
  by_cases hlt:i < L.length
  ·obtain⟨x,hx⟩:=get_of_lt hlt
   have hjx:=hj x hx
   obtain⟨y,hy⟩:=get_of_lt hjx
   obtain⟨hPI,hoff⟩:=hfa hx hy
   have hat:=allPl_at hx hy
   have hkl:=lt_of_get hat
   have hal:=allPl_le hlc
   have hal2:=Nat.mul_le_mul_left 2500 (show L.length≤6 by omega)
   have hkm:(allPl (L.take i)).length+j < ((allPl L).map TPlace.tr).length:=by rw[List.length_map];exact hkl
   have hgm:((allPl L).map TPlace.tr)[(allPl (L.take i)).length+j]?=some y.tr:=map_get hat
   have hE:=s_spec_EncodeOp y.fItem.fOp
   have hE5:=encodeOp_le y.fItem.fOp
   obtain⟨⟨i',j'⟩,q1,q2,q3,q4,q5,q6⟩:=next_pos (p:=p) (fun{i x} h=>(hla (i:=i) h).2) hx hjx
   dsimp only at q1 q2 q3 q4 q5 q6
   rw[codeQ_pos hx hy]at q5
   rw[symsQ_pos hx]at q6
   have hcl:=codeQ_len (j:=j) hx
   have hcl2:=codeOf_len (allPl (L.take i))
   have hcl3:=codeOf_len (x.2.take j)
   have hcl4:(allPl (L.take i)).length≤(allPl L).length:=by omega
   have hcl5:(x.2.take j).length≤2500:=by have:=hlc x (List.mem_of_getElem? hx);rw[List.length_take];omega
   have hcl6:codeOf (x.2.take (j+1))=codeOf (x.2.take j)++encodeOp y.fItem.fOp:=by rw[take_one hy,codeOf_append,codeOf_one]
   rw[hcl6,List.length_append]at q6
   have hS0:(symsOf p 0 (L.take i)).length=i:=by rw[symsOf_len,List.length_take];omega
   rcases Nat.eq_zero_or_pos j with rfl|hj0
   ·obtain⟨hcode,g,ln,hf1,hf2,hf3,hf4⟩:=hPI.head rfl
    have hnm:nameOf p x.1=ln.fName:=by rw[nameOf,hf1];dsimp only;rw[hf3]
    rw[symsQ_zero]
    have hz0:codeOf (x.2.take 0)=[]:=by simp[codeOf]
    rw[hz0]at q6 hcl hoff
    rw[List.length_nil]at hcl hoff
    generalize codeQ L i 0=C at *
    generalize symsOf p 0 (L.take i)=S0 at *
    generalize encodeOp y.fItem.fOp=EB at *
    generalize codeOf (allPl (L.take i))=C0 at *
    have hix:IntKind.i64.wrap (((S0.map TSymbol.tr++[[Tr.str ln.fName,Tr.int .i64 y.fOffset,Tr.int .i64 0]]).length:Int) - 1)=(i:Int):=by
     rw[List.length_append,List.length_map,hS0];simp only[List.length_cons,List.length_nil];rw[IntWalk.i64_in _ (by omega)];omega
    have hil:i < (S0.map TSymbol.tr++[[Tr.str ln.fName,Tr.int .i64 y.fOffset,Tr.int .i64 0]]).length:=by
     rw[List.length_append,List.length_map,hS0];simp
    have hig:(S0.map TSymbol.tr++[[Tr.str ln.fName,Tr.int .i64 y.fOffset,Tr.int .i64 0]])[i]?=some [Tr.str ln.fName,Tr.int .i64 y.fOffset,Tr.int .i64 0]:=by
     rw[List.getElem?_append_right (by rw[List.length_map,hS0];exact Nat.le_refl _),List.length_map,hS0];simp
    have fin:∀(KK:List (List Tr)),KK=(S0.map TSymbol.tr++[[Tr.str ln.fName,Tr.int .i64 y.fOffset,Tr.int .i64 0]]).set i [Tr.str ln.fName,Tr.int .i64 y.fOffset,Tr.int .i64 (IntKind.i64.wrap (((C++EB).length:Int) - y.fOffset))]→KK=(symsQ p L i' j').map TSymbol.tr:=fun KK h=>by
     rw[h,q6,hnm,List.set_append_right _ _ (by rw[List.length_map,hS0];exact Nat.le_refl _),List.length_map,hS0,Nat.sub_self,List.map_append,List.length_append,IntWalk.i64_in _ (by omega)]
     simp only[List.set_cons_zero,List.map_cons,List.map_nil,TSymbol.tr]
     congr 6 <;> (simp only[List.length_nil];omega)
    rcases hcode with hcode|hcode
    all_goals(
     repeat' ((conv=>whnf);first|(with_reducible first|apply Wx|apply W6)|apply oi|(apply fi<;>intro h)|refine⟨_,rfl,hkm,?_⟩|refine⟨_,hgm,?_⟩|refine cl hE ?_|refine⟨g,ln.tr,hf2,map_get hf3,?_⟩|refine⟨_,hix,hil,?_⟩|refine⟨_,hig,?_⟩|refine⟨_,rfl,?_⟩|((with_reducible show _=_);rfl))
     all_goals try((with_reducible refine Obl.mk ?_);exact KP)
     all_goals try exact KK
     all_goals try exact⟨by omega⟩
     all_goals try exact⟨⟨by simp only[List.length_nil,List.length_cons,List.length_map,hS0] <;> omega,by simp only[List.length_nil,List.length_cons,List.length_map,hS0] <;> omega⟩⟩
     all_goals(
      conv=>whnf
      refine⟨⟨(i',j'),q1,q2,q3⟩,?_,by dsimp only;omega⟩
      repeat' ((conv=>whnf);first|(with_reducible first|apply Wx|apply W6)|apply oi|(apply fi<;>intro h)|refine⟨_,rfl,?_⟩|((with_reducible show _=_);rfl))
      all_goals try((with_reducible refine Obl.mk ?_);exact KP)
      all_goals try exact⟨KW⟩
      all_goals try exact⟨by rw[q5]⟩
      all_goals try exact⟨fin _ rfl⟩
      all_goals exact⟨congrArg (Tr.int _) (by dsimp only;rw[IntWalk.i64_in _ (by omega)];omega)⟩))
   ·obtain⟨j,rfl⟩:∃j0,j=j0+1:=⟨j - 1,by omega⟩
    obtain⟨hcode,m,ln,hf2,hf3,hf4⟩:=hPI.body hj0
    rw[symsQ_pos hx]
    generalize codeQ L i (j+1)=C at *
    generalize symsOf p 0 (L.take i)=S0 at *
    generalize encodeOp y.fItem.fOp=EB at *
    generalize codeOf (allPl (L.take i))=C0 at *
    generalize codeOf (x.2.take (j+1))=C1 at *
    have hix:IntKind.i64.wrap ((((S0++[(⟨nameOf p x.1,(C0.length:Int),(C1.length:Int)⟩:TSymbol)]).map TSymbol.tr).length:Int) - 1)=(i:Int):=by
     rw[List.length_map,List.length_append,hS0];simp only[List.length_cons,List.length_nil];rw[IntWalk.i64_in _ (by omega)];omega
    have hil:i < ((S0++[(⟨nameOf p x.1,(C0.length:Int),(C1.length:Int)⟩:TSymbol)]).map TSymbol.tr).length:=by
     rw[List.length_map,List.length_append,hS0];simp
    have hig:((S0++[(⟨nameOf p x.1,(C0.length:Int),(C1.length:Int)⟩:TSymbol)]).map TSymbol.tr)[i]?=some [Tr.str (nameOf p x.1),Tr.int .i64 (C0.length:Int),Tr.int .i64 (C1.length:Int)]:=by
     rw[List.getElem?_map,List.getElem?_append_right (by rw[hS0];exact Nat.le_refl _),hS0];simp[TSymbol.tr]
    have fin:∀(KK:List (List Tr)),KK=((S0++[(⟨nameOf p x.1,(C0.length:Int),(C1.length:Int)⟩:TSymbol)]).map TSymbol.tr).set i [Tr.str (nameOf p x.1),Tr.int .i64 (C0.length:Int),Tr.int .i64 (IntKind.i64.wrap (((C++EB).length:Int) - (C0.length:Int)))]→KK=(symsQ p L i' j').map TSymbol.tr:=fun KK h=>by
     rw[h,q6,List.map_append,List.set_append_right _ _ (by rw[List.length_map,hS0];exact Nat.le_refl _),List.length_map,hS0,Nat.sub_self,List.map_append,List.length_append,IntWalk.i64_in _ (by omega)]
     simp only[List.set_cons_zero,List.map_cons,List.map_nil,TSymbol.tr]
     congr 6;omega
    repeat' ((conv=>whnf);first|(with_reducible first|apply Wx|apply W6)|apply oi|(apply fi<;>intro h)|refine⟨_,rfl,hkm,?_⟩|refine⟨_,hgm,?_⟩|refine cl hE ?_|refine⟨m,ln.tr,hf2,map_get hf3,?_⟩|refine⟨_,hix,hil,?_⟩|refine⟨_,hig,?_⟩|refine⟨_,rfl,?_⟩|((with_reducible show _=_);rfl))
    all_goals try((with_reducible refine Obl.mk ?_);exact KP)
    all_goals try exact KK
    all_goals try exact⟨by omega⟩
    all_goals(
     conv=>whnf
     refine⟨⟨(i',j'),q1,q2,q3⟩,?_,by dsimp only;omega⟩
     repeat' ((conv=>whnf);first|(with_reducible first|apply Wx|apply W6)|apply oi|(apply fi<;>intro h)|refine⟨_,rfl,?_⟩|((with_reducible show _=_);rfl))
     all_goals try((with_reducible refine Obl.mk ?_);exact KP)
     all_goals try exact⟨KW⟩
     all_goals try exact⟨by rw[q5]⟩
     all_goals try exact⟨fin _ rfl⟩
     all_goals exact⟨congrArg (Tr.int _) (by dsimp only;rw[IntWalk.i64_in _ (by omega)];omega)⟩)
  ·have hil:i=L.length:=by omega
   subst hil
   have hj0:=he rfl
   subst hj0
   rw[codeQ_end,symsQ_end,List.take_of_length_le (Nat.le_refl _)]
   repeat' ((conv=>whnf);first|(with_reducible first|apply Wx|apply W6)|apply oi|(apply fi<;>intro h)|refine⟨_,rfl,?_⟩|((with_reducible show _=_);rfl))
   all_goals try((with_reducible refine Obl.mk ?_);exact KP)
   all_goals try(exfalso;simp only[List.length_map,decide_eq_true_eq]at h;omega)
 ·have hcf:assemble p b image=⟨[],[]⟩:=by rw[assemble,if_neg hc]
  have hpf:placesOf p b image=[]:=by rw[placesOf,if_neg hc]
  rw[hcf]
  rw[hpf]at hP
  repeat' ((conv=>whnf);first|(with_reducible first|apply Wx|apply W6)|apply oi|(apply fi<;>intro h)|refine cl hP ?_|refine⟨_,rfl,?_⟩|((with_reducible show _=_);rfl))
  all_goals try((with_reducible refine Obl.mk ?_);exact KP)
  conv=>whnf
  refine⟨Unit,fun _=>⟨[(0,vP p),(6,.r (.c (.ptr (6,0,0) 0))),(7,.r (.c (.ptr (7,0,0) 0))),(8,.r (.c (.own (15,0,0)))),(9,tI .i64 0)],[((6,0,0),some (.box [.t (.str []),.nils 0])),((7,0,0),some (.box [.t (.str []),.own (7,0,1)])),((7,0,1),some (.arr true 3 [])),((15,0,0),some (.arr true 8 []))],[15,7,6]⟩,fun _=>0,(),?_,?_⟩
  ·skip
   repeat' ((conv=>whnf);first|(with_reducible first|apply Wx|apply W6)|apply oi|(apply fi<;>intro h)|refine⟨_,rfl,?_⟩|((with_reducible show _=_);rfl))
   all_goals try((with_reducible refine Obl.mk ?_);exact KP)
  intro _
  repeat' ((conv=>whnf);first|(with_reducible first|apply Wx|apply W6)|apply oi|(apply fi<;>intro h)|refine⟨_,rfl,?_⟩|((with_reducible show _=_);rfl))
  all_goals try((with_reducible refine Obl.mk ?_);exact KP)
  all_goals try(exfalso;simp at h;done)
theorem nameOf_small {p:List TLine}(hs:smallT 1048576 (.lst 4 (p.map TLine.tr)))(f:Nat):(nameOf p f).length≤1048576:=by
 unfold nameOf
 split
 ·split
  ·rename_i g _ y hy
   have:=smallRs_map hs (List.mem_of_getElem? hy)
   simp only[TLine.tr,smallR,smallT]at this
   omega
  ·simp
 ·simp
theorem symsOf_names {p:List TLine}(hs:smallT 1048576 (.lst 4 (p.map TLine.tr))):∀(L:List (Nat×List TPlace)) (at0:Int) (x:TSymbol),x∈symsOf p at0 L→x.fName.length≤1048576
 | [],_,_,h=>by cases h
 |(f,l)::L,at0,x,h=>by
  rw[symsOf]at h
  rcases List.mem_cons.1 h with rfl|h
  ·exact nameOf_small hs f
  ·exact symsOf_names hs L _ x h
theorem assemble_small {p:List TLine}{b:TBuild}{image:Int}(hs:smallT 1048576 (.lst 4 (p.map TLine.tr))):smallR 1048576 (assemble p b image).tr:=by
 rw[assemble]
 split
 ·rename_i hc
  obtain⟨h1,h2,h3⟩:=hc
  obtain⟨h6,_⟩:=funs_six h1
  have hll:=imgL_len p b image (funs p).length 0 0
  have hal:=allPl_le fun x (hx:x∈imgL p b image (funs p).length 0 0)=>(imgL_cap hs hx).1
  have hcl:=codeOf_len (allPl (imgL p b image (funs p).length 0 0))
  have hal2:=Nat.mul_le_mul_left 2500 (show(imgL p b image (funs p).length 0 0).length≤6 by omega)
  refine⟨by simp only[smallT];omega,?_,trivial⟩
  exact small_map (by rw[symsOf_len];omega) fun x hx=>by
   have:=symsOf_names hs _ _ x hx
   simp only[TSymbol.tr,smallR,smallT]
   exact⟨by omega,trivial,trivial,trivial⟩
 ·simp[TImage.tr,smallR,smallT,smallRs]
end Go.Proofs.YtogdbgmiigfmfaaGreat
namespace Go.Proofs.YtogdbgmiigfmfaaGreat
open Go.Sim Go.ChangeShapes Go.WideShapes Go.ChangeAt Go.RowKit
set_option maxRecDepth 100000
set_option maxHeartbeats 4000000
theorem s_laws_FnExactAssembleImage (x0:List TLine)(hw0:(x0.length≤maxLen∧∀y∈x0,y.wf))(x1:TBuild)(hw1:x1.wf)(x2:Int)(hw2:inI x2):Sim.Spec Tryz.prog 5 [tvL 4 (x0.map TLine.tr),.agg x1.tr,tvI x2] (rB true):=by
 refine spec_of_W hΓ hmix Tryz.func5 rfl (by decide) rfl ?_
 have hsz0:=s_laws_szLineS x0 hw0 (1048576) (by omega) (by omega)
 repeat' ((conv=>whnf);first|refine seq_inl ?_|apply reg_inl|apply oi|(apply fi<;>intro h)|refine cl hsz0 ?_|refine⟨_,rfl,?_⟩|((with_reducible show _=_);rfl))
 all_goals try((with_reducible refine Obl.mk ?_);exact KO)
 have hsm0:=szT_small (L:=1048576) _ _ (Int.not_lt.1 (of_decide_eq_false h)) (by omega)
 have hnn0:=Int.not_lt.1 (of_decide_eq_false h)
 clear h
 have hs0:=hsm0.1
 have hspec:=s_spec_AssembleImage x0 x1 x2 hs0
 have himpl:=s_impl_AssembleImage x0 x1 x2 hs0
 have hr0:smallR 1048576 (assemble x0 x1 x2).tr:=assemble_small hs0
 generalize assemble x0 x1 x2=R0 at *
 have heqr0:=s_laws_eqImage R0 hr0
 have hr0u:=hr0
 simp only[TImage.tr,smallR]at hr0u
 have hrc0_0:=cn_SymbolS _ (hr0u.2.1)
 have hmkr0:=g_laws_markImage R0 1 (by omega) (Nat.le_trans (small_nat (hr0u.2.1)) (by omega)) (by omega)
 have hhdr0:=s_laws_heldImage R0 1 (by omega) (Nat.le_trans (small_nat (hr0u.2.1)) (by omega)) (by omega)
 have hto0:=g_laws_toLineS x0 hs0
 have heq0:=s_laws_eqLineS x0 hs0
 have hac0_0:=cn_LineS _ hs0
 have hmka0:=g_laws_markLineS x0 (1) (by omega) (Nat.le_trans (small_nat hs0) (by omega)) (by omega) (hin_LineS _ hs0)
 have hto1:=s_laws_toBuild x1 (by simp[TBuild.tr,smallR,smallT])
 repeat' ((conv=>whnf);first|refine cg hmka0 ?_|refine cg hmkr0 ?_|refine cg hto0 ?_|refine seq_inl ?_|apply reg_inl|apply oi|(apply fi<;>intro h)|refine cl heqr0 ?_|refine cl hhdr0 ?_|refine .inl (ci heq0 (ai (deep_eq _ _) (ai (deep_eq _ _) trivial)) ?_)|refine cl hto1 ?_|refine .inl (ci hspec (ai (deep_eq _ _) (ai (ai rfl (ai rfl (ai rfl (ai rfl trivial)))) (ai rfl trivial))) ?_)|refine .inl (ci himpl (ai (deep_eq _ _) (ai (ai rfl (ai rfl (ai rfl (ai rfl trivial)))) (ai rfl trivial))) ?_)|refine⟨_,rfl,?_⟩|((with_reducible show _=_);rfl))
 all_goals try((with_reducible refine Obl.mk ?_);exact KO)
 all_goals(exfalso;first|(simp at h;done)|(have h':=of_decide_eq_true h;omega))
theorem fnExactAssembleImage_lifted (os:Os)(started:os.Started)(H:Type)(enc:TypeId×Value→H):
  ReturnsInHanded {} Tryz.checked os 5 .any (Rows.fnExactAssembleImageSpec.pre6 enc Tryz.prog Tryz.f5 Rows.fnExactAssembleImageRow.domain false) (Rows.fnExactAssembleImageSpec.post enc Tryz.prog Tryz.f5 false true false false):=by
 refine returnsInHanded_of_change (C:=Tryz.checked) own started (by kernel_rfl) Tryz.func5
  (ChangeSpec.witness6 (enc:=enc) (C:=Tryz.checked) false ⟨#[],#[.slice none 0 0,.agg #[.int .i64 0,.int .i64 0,.bool false,.bool false],.int .i64 0],[]⟩ 8 (by kernel_rfl) (by kernel_rfl) (by kernel_rfl) (by kernel_rfl)) ?_
 intro W base args ds gs before hval hW _ _
 have hW0:=hW
 obtain⟨p,q,hA,_,_,_,_⟩:=hW0
 have hlen:=trodAll_len hA
 obtain⟨xs,hx,hty⟩:=args_typed (n:=8) hΓ (by kernel_rfl) (fun j t v h1 h2=>hval j t v (by simpa using h1) (by simpa using h2)) hA
 rw[Tryz.params5]at hty hlen
 obtain⟨_,xs0,rfl,hx0,hty0⟩:=typedVs_cons hty
 obtain⟨_,rfl,r0,⟨⟩,l0,e0⟩:=hx0
 obtain⟨_,xs1,rfl,hx1,hty1⟩:=typedVs_cons hty0
 obtain⟨t1,rfl,h1⟩:=hx1
 obtain⟨_,xs2,rfl,hx2,hty2⟩:=typedVs_cons hty1
 obtain⟨_,rfl,a2,⟨⟩,w2⟩:=hx2
 obtain rfl:=typedVs_nil hty2
 obtain⟨d0,d1,d2,rfl⟩:=len3 hlen
 obtain⟨x0,rfl,v0⟩:=rows_map (g:=TLine.tr) (Q:=(fun y=>y.wf)) (rows:=r0) (fun r hr=>ty_Line (typed_le (by decide) (e0 r hr)))
 obtain⟨x1,rfl,v1⟩:=ty_Build h1
 exact law_calls laidOut rfl Tryz.underlying4 rfl (by kernel_rfl) rfl hx (s_laws_FnExactAssembleImage x0 ⟨by simpa using l0,v0⟩ x1 v1 a2 (inI_of w2)) hW
theorem fnExactAssembleImage_holds:Rows.FnExactAssembleImageSaid:=
 OpenClaim.holds_of_wide 5 Tryz.f5 rfl rfl rfl rfl rfl rfl rfl ⟨rfl,rfl,rfl,rfl,rfl⟩ rfl rfl rfl rfl rfl (by kernel_rfl) Tryz.func5 (by kernel_rfl)
  (of_decide_eq_true (by kernel_rfl)) (by unfold Func.isWrapper;first|(rw[if_pos (by decide+kernel)];kernel_rfl)|(rw[if_neg (by decide+kernel)];exact⟨rfl,rfl⟩))
  (fun os started H enc _=>fnExactAssembleImage_lifted os started H enc)
end Go.Proofs.YtogdbgmiigfmfaaGreat
