import Derived.Test.YtjmplnfiabmalaaGreatGh
namespace Go.Proofs.YtjmplnfiabmalaaGreat
open Go.Sim
set_option maxRecDepth 100000
set_option maxHeartbeats 4000000
theorem and_one:∀f:Fin 101,IntKind.i64.wrap (BitVec.ofInt IntKind.i64.bits (f.val:Int) &&& BitVec.ofInt IntKind.i64.bits 1).toNat=(f.val:Int) % 2:=by decide
theorem s_spec_l09InImage (f:Nat)(b:TBuild)(image:Int)(hf:f≤100):Sim.Spec Tryz.prog 75 [.agg b.tr,tvI (f:Int),tvI image] (rB (inImg b image f)):=by
 refine spec_of_Wo hΓ hmix Tryz.func75 rfl (by decide) rfl ?_
 unfold inImg
 have hm:=and_one ⟨f,by omega⟩
 dsimp only at hm
 repeat' ((conv=>whnf);first|(with_reducible first|apply Wx|apply W6)|apply oi|(apply fi<;>intro h)|refine⟨_,rfl,?_⟩|((with_reducible show _=_);rfl))
 all_goals try((with_reducible refine Obl.mk ?_);exact KP)
 all_goals first|exact⟨by rw[h,hm];rfl⟩|exact⟨by rw[h];rfl⟩
theorem allPl_le:∀{L:List (Nat×List TPlace)},(∀x∈L,x.2.length≤2500)→(allPl L).length≤2500 * L.length
 | L,h=>by
  have:=allPl_cap h (Nat.le_refl L.length)
  rwa [List.take_of_length_le (Nat.le_refl _)]at this
theorem s_spec_PlacesOf (p:List TLine)(b:TBuild)(image:Int)(hs:smallT 1048576 (.lst 4 (p.map TLine.tr))):Sim.Spec Tryz.prog 13 [tvP p,.agg b.tr,tvI image] (rL 8 ((placesOf p b image).map TPlace.tr)):=by
 refine spec_of_Wo hΓ hmix Tryz.func13 rfl (by decide) rfl ?_
 have hP:=s_spec_ProgramOk p hs
 have hB:=s_spec_BuildOk b
 have gb:=s_spec_l01In image 0 1
 by_cases hc:programOk p=true∧buildOk b=true∧within image 0 1=true
 ·have hcf:placesOf p b image=allPl (imgL p b image (funs p).length 0 0):=by rw[placesOf,if_pos hc];rfl
  rw[hcf]
  obtain⟨h1,h2,h3⟩:=hc
  rw[h1]at hP
  rw[h2]at hB
  rw[h3]at gb
  obtain⟨h6,h60⟩:=funs_six h1
  have gF:=s_spec_FunctionLines p (by omega)
  have hfl:((funs p).map fun n:Nat=>intRow n).length=(funs p).length:=by simp
  have hlc:=fun x (hx:x∈imgL p b image (funs p).length 0 0)=>(imgL_cap hs hx).1
  repeat' ((conv=>whnf);first|(with_reducible first|apply Wx|apply W6)|apply oi|(apply fi<;>intro h)|refine cl hP ?_|refine cl hB ?_|refine cl gb ?_|refine⟨_,rfl,?_⟩|((with_reducible show _=_);rfl))
  all_goals try((with_reducible refine Obl.mk ?_);exact KP)
  conv=>whnf
  refine⟨ImgIx p b image,fun q=>⟨[(0,vP p),(2,tI .i64 image),(4,.r (.c (.ptr (4,0,0) 0))),(7,.r (.c (.own (15,0,0)))),(8,tI .i64 q.1.2.1),(9,tI .i64 (q.1.1:Int))],[((15,0,0),some (.arr true 8 ((allPl q.1.2.2).map TPlace.tr))),((4,0,0),some (.box [.t (.int .i64 b.fFrames),.t (.int .i64 b.fInline),.t (.bool b.fFold),.t (.bool b.fSplit)]))],[15,4]⟩,fun q=>(funs p).length - q.1.1,⟨(0,0,[]),by simp,by simp,by simp,by simp⟩,?_,?_⟩
  ·skip
   repeat' ((conv=>whnf);first|(with_reducible first|apply Wx|apply W6)|apply oi|(apply fi<;>intro h)|refine⟨_,rfl,?_⟩|((with_reducible show _=_);rfl))
   all_goals try((with_reducible refine Obl.mk ?_);exact KP)
  intro⟨⟨f,at0,acc⟩,hk,ha,hal,hr⟩
  dsimp only at hk ha hal hr ⊢
  have hac:(allPl acc).length≤2500 * acc.length:=allPl_le fun x hx=>hlc x (by rw[←hr];exact List.mem_append.2 (.inl hx))
  by_cases hlt:f < (funs p).length
  ·obtain⟨n,hn⟩:∃n,(funs p).length - f=n+1:=⟨(funs p).length - f - 1,by omega⟩
   have hi:=s_spec_l09InImage f b image (by omega)
   rw[hn,imgL_step]at hr
   cases hin:inImg b image f with
   | false=>
    rw[hin]at hi hr
    rw[if_neg (by simp)]at hr
    repeat' ((conv=>whnf);first|(with_reducible first|apply Wx|apply W6)|apply oi|(apply fi<;>intro h)|refine cl gF ?_|refine cl hi ?_|refine⟨_,rfl,?_⟩|((with_reducible show _=_);rfl))
    all_goals try((with_reducible refine Obl.mk ?_);exact KP)
    all_goals try exact KX
    conv=>whnf
    refine⟨⟨(f+1,at0,acc),by dsimp only;omega,by dsimp only;omega,by dsimp only;omega,by dsimp only;rw[show(funs p).length - (f+1)=n by omega];exact hr⟩,?_,by dsimp only;omega⟩
    repeat' ((conv=>whnf);first|(with_reducible first|apply Wx|apply W6)|apply oi|(apply fi<;>intro h)|refine⟨_,rfl,?_⟩|((with_reducible show _=_);rfl))
    all_goals try((with_reducible refine Obl.mk ?_);exact KP)
    all_goals try exact⟨KW⟩
   | true=>
    rw[hin]at hi hr
    rw[if_pos rfl]at hr
    have hcs:=s_spec_CompileFunction p (f:Int) b hs
    obtain⟨f1,f2,f3⟩:=fn_ok (f:=f) hs h1 h2 hlt
    have hch:=(compileF_cap (p:=p) (f:=(f:Int)) (b:=b) hs).2
    generalize compileF p (f:Int) b=I at *
    repeat' ((conv=>whnf);first|(with_reducible first|apply Wx|apply W6)|apply oi|(apply fi<;>intro h)|refine cl gF ?_|refine cl hi ?_|refine cl hcs ?_|refine⟨_,rfl,?_⟩|((with_reducible show _=_);rfl))
    all_goals try((with_reducible refine Obl.mk ?_);exact KP)
    all_goals try exact KX
    have hlen:(I.map TItem.tr).length=I.length:=by simp
    have hsl:=startsF_len at0 I
    have hle:=fun k (h:k≤I.length)=>startsF_le (at0:=at0) h
    have hS0:=startsF_zero at0 I
    have hsu:=fun k x (h:I[k]?=some x)=>startsF_succ (at0:=at0) h
    have hpf:∀(k:Nat) (x:TItem),I[k]?=some x→(placesF I at0)[k]?=some (TPlace.mk (atL (startsF at0 I) k) (jumpI (startsF at0 I) k x)):=fun k x h=>placesF_get h
    have hfl2:=placesF_len I at0
    have hend:endF at0 I=atL (startsF at0 I) I.length:=rfl
    have ye:=endF_le (l:=I) (at0:=at0)
    generalize startsF at0 I=S at *
    generalize placesF I at0=F at *
    generalize endF at0 I=E at *
    conv=>whnf
    refine⟨{k:Nat // k≤I.length},fun k=>⟨[(0,vP p),(2,tI .i64 image),(4,.r (.c (.ptr (4,0,0) 0))),(7,.r (.c (.own (15,0,0)))),(8,tI .i64 (atL S k.1)),(9,tI .i64 (f:Int)),(10,.r (.c (.own (45,0,0)))),(11,.r (.c (.own (46,0,0)))),(12,tI .i64 (k.1:Int))],[((46,0,0),some (.arr true 1 ((S.take k.1).map intRow))),((45,0,0),some (.arr true 7 (I.map TItem.tr))),((15,0,0),some (.arr true 8 ((allPl acc).map TPlace.tr))),((4,0,0),some (.box [.t (.int .i64 b.fFrames),.t (.int .i64 b.fInline),.t (.bool b.fFold),.t (.bool b.fSplit)]))],[46,45,15,4]⟩,fun k=>I.length - k.1,⟨0,by omega⟩,?_,?_⟩
    ·skip
     repeat' ((conv=>whnf);first|(with_reducible first|apply Wx|apply W6)|apply oi|(apply fi<;>intro h)|refine⟨_,rfl,?_⟩|((with_reducible show _=_);rfl))
     all_goals try((with_reducible refine Obl.mk ?_);exact KP)
     all_goals try exact⟨by rw[hS0]⟩
    intro⟨k,hk⟩
    dsimp only
    have hlk:=hle k hk
    by_cases hlt2:k < I.length
    ·obtain⟨x,hx⟩:=get_of_lt hlt2
     have hz:=opSize_le x.fOp.fCode
     have ho:=s_spec_OpSize x.fOp.fCode
     have hs1:=hsu k x hx
     have hg:S[k]?=some (atL S k):=atL_get (by omega)
     have hkr:k < (I.map TItem.tr).length:=by omega
     have hxr:(I.map TItem.tr)[k]?=some x.tr:=map_get hx
     repeat' ((conv=>whnf);first|(with_reducible first|apply Wx|apply W6)|apply oi|(apply fi<;>intro h)|refine⟨k,rfl,hkr,?_⟩|refine⟨_,hxr,?_⟩|refine cl ho ?_|refine⟨_,rfl,?_⟩|((with_reducible show _=_);rfl))
     all_goals try((with_reducible refine Obl.mk ?_);exact KP)
     all_goals try exact KX
     all_goals try exact⟨⟨by simp <;> omega,by simp <;> omega⟩⟩
     conv=>whnf
     refine⟨⟨k+1,by omega⟩,?_,by dsimp only;omega⟩
     repeat' ((conv=>whnf);first|(with_reducible first|apply Wx|apply W6)|apply oi|(apply fi<;>intro h)|refine⟨_,rfl,?_⟩|((with_reducible show _=_);rfl))
     all_goals try((with_reducible refine Obl.mk ?_);exact KP)
     all_goals try exact⟨KW⟩
     all_goals try exact⟨by rw[take_one hg,List.map_append];rfl⟩
     all_goals try exact⟨congrArg (Tr.int .i64) (by rw[hs1,IntWalk.i64_in _ (by omega)])⟩
    ·have hkl:k=I.length:=by omega
     subst hkl
     have hg:S[I.length]?=some (atL S I.length):=atL_get (by omega)
     repeat' ((conv=>whnf);first|(with_reducible first|apply Wx|apply W6)|apply oi|(apply fi<;>intro h)|refine⟨_,rfl,?_⟩|((with_reducible show _=_);rfl))
     all_goals try((with_reducible refine Obl.mk ?_);exact KP)
     all_goals try exact KX
     all_goals try exact⟨⟨by simp <;> omega,by simp <;> omega⟩⟩
     conv=>whnf
     refine⟨{k:Nat // k≤I.length},fun k=>⟨[(0,vP p),(2,tI .i64 image),(4,.r (.c (.ptr (4,0,0) 0))),(7,.r (.c (.own (15,0,0)))),(8,tI .i64 (atL S I.length)),(9,tI .i64 (f:Int)),(10,.r (.c (.own (45,0,0)))),(11,.r (.c (.own (69,0,0)))),(13,tI .i64 (k.1:Int))],[((69,0,0),some (.arr true 1 (S.map intRow))),((45,0,0),some (.arr true 7 (I.map TItem.tr))),((15,0,0),some (.arr true 8 ((allPl acc++F.take k.1).map TPlace.tr))),((4,0,0),some (.box [.t (.int .i64 b.fFrames),.t (.int .i64 b.fInline),.t (.bool b.fFold),.t (.bool b.fSplit)]))],[69,45,15,4]⟩,fun k=>I.length - k.1,⟨0,by omega⟩,?_,?_⟩
     ·skip
      repeat' ((conv=>whnf);first|(with_reducible first|apply Wx|apply W6)|apply oi|(apply fi<;>intro h)|refine⟨_,rfl,?_⟩|((with_reducible show _=_);rfl))
      all_goals try((with_reducible refine Obl.mk ?_);exact KP)
      all_goals try exact⟨by rw[show [[Tr.int .i64 (atL S I.length)]]=[atL S I.length].map intRow from rfl,←List.map_append,←take_one hg,List.take_of_length_le (by omega)]⟩
      all_goals try exact⟨by simp⟩
     intro⟨k,hk⟩
     dsimp only
     have hol:((allPl acc++F.take k).map TPlace.tr).length=(allPl acc).length+k:=by rw[List.length_map,List.length_append,List.length_take];omega
     have hml:(S.map intRow).length=I.length+1:=by rw[List.length_map];exact hsl
     have mg:∀j,j≤I.length→(S.map intRow)[j]?=some (intRow (atL S j)):=fun j hj=>by rw[List.getElem?_map,atL_get (by omega)];rfl
     by_cases hlt2:k < I.length
     ·obtain⟨x,hx⟩:=get_of_lt hlt2
      have hpg:=hpf k x hx
      have hsn:(allPl acc++F.take (k+1)).map TPlace.tr=(allPl acc++F.take k).map TPlace.tr++[(TPlace.mk (atL S k) (jumpI S k x)).tr]:=by rw[take_one hpg,←List.append_assoc,List.map_append];rfl
      have hkr:k < (I.map TItem.tr).length:=by omega
      have hxr:(I.map TItem.tr)[k]?=some x.tr:=map_get hx
      have hw1:IntKind.i64.wrap ((k:Int)+1)=((k+1:Nat):Int):=by rw[IntWalk.i64_in _ (by omega)];rfl
      have hk0:k < (S.map intRow).length:=by omega
      have hk1:k+1 < (S.map intRow).length:=by omega
      have m0:=mg k (by omega)
      have m1:=mg (k+1) (by omega)
      have b1:=hle (k+1) (by omega)
      cases hjx:isJump x with
      | true=>
       obtain⟨ja,jb⟩:=f3 x (List.mem_of_getElem? hx) hjx
       have hwa:x.fOp.fArg=((x.fOp.fArg.toNat:Nat):Int):=(Int.toNat_of_nonneg ja).symm
       have hal2:x.fOp.fArg.toNat < (S.map intRow).length:=by omega
       have m2:=mg x.fOp.fArg.toNat (by omega)
       have b2:=hle x.fOp.fArg.toNat (by omega)
       have hji:jumpI S k x=withArg x (IntKind.i64.wrap (atL S x.fOp.fArg.toNat - atL S (k+1))):=by rw[jumpI,if_pos hjx,IntWalk.i64_in _ (by omega)]
       rw[isJump_iff]at hjx
       repeat' ((conv=>whnf);first|(with_reducible first|apply Wx|apply W6)|apply oi|(apply fi<;>intro h)|refine⟨k,rfl,hkr,?_⟩|refine⟨_,hxr,?_⟩|refine⟨k,rfl,hk0,?_⟩|refine⟨k+1,hw1,hk1,?_⟩|refine⟨_,hwa,hal2,?_⟩|refine⟨_,m0,?_⟩|refine⟨_,m1,?_⟩|refine⟨_,m2,?_⟩|refine⟨_,rfl,?_⟩|((with_reducible show _=_);rfl))
       all_goals try((with_reducible refine Obl.mk ?_);exact KP)
       all_goals try exact KX
       all_goals try exact KK
       all_goals try exact⟨⟨by simp only[List.length_nil,List.length_cons,hol] <;> omega,by simp only[List.length_nil,List.length_cons,hol] <;> omega⟩⟩
       all_goals(
        conv=>whnf
        refine⟨⟨k+1,by omega⟩,?_,by dsimp only;omega⟩
        repeat' ((conv=>whnf);first|(with_reducible first|apply Wx|apply W6)|apply oi|(apply fi<;>intro h)|refine⟨_,rfl,?_⟩|((with_reducible show _=_);rfl))
        all_goals try((with_reducible refine Obl.mk ?_);exact KP)
        all_goals try exact⟨KW⟩
        all_goals try exact⟨by dsimp only;rw[hsn,hji];rfl⟩)
      | false=>
       have hji:jumpI S k x=x:=by rw[jumpI,if_neg (by rw[hjx];simp)]
       have hjn:¬(x.fOp.fCode=10∨x.fOp.fCode=11):=by rw[←isJump_iff,hjx];simp
       repeat' ((conv=>whnf);first|(with_reducible first|apply Wx|apply W6)|apply oi|(apply fi<;>intro h)|refine⟨k,rfl,hkr,?_⟩|refine⟨_,hxr,?_⟩|refine⟨k,rfl,hk0,?_⟩|refine⟨_,m0,?_⟩|refine⟨_,rfl,?_⟩|((with_reducible show _=_);rfl))
       all_goals try((with_reducible refine Obl.mk ?_);exact KP)
       all_goals try exact KX
       all_goals try exact KK
       all_goals try exact⟨⟨by simp only[List.length_nil,List.length_cons,hol] <;> omega,by simp only[List.length_nil,List.length_cons,hol] <;> omega⟩⟩
       all_goals(
        conv=>whnf
        refine⟨⟨k+1,by omega⟩,?_,by dsimp only;omega⟩
        repeat' ((conv=>whnf);first|(with_reducible first|apply Wx|apply W6)|apply oi|(apply fi<;>intro h)|refine⟨_,rfl,?_⟩|((with_reducible show _=_);rfl))
        all_goals try((with_reducible refine Obl.mk ?_);exact KP)
        all_goals try exact⟨KW⟩
        all_goals try exact⟨by dsimp only;rw[hsn,hji];rfl⟩)
     ·have hkl:k=I.length:=by omega
      subst hkl
      repeat' ((conv=>whnf);first|(with_reducible first|apply Wx|apply W6)|apply oi|(apply fi<;>intro h)|refine⟨_,rfl,?_⟩|((with_reducible show _=_);rfl))
      all_goals try((with_reducible refine Obl.mk ?_);exact KP)
      all_goals try exact KX
      conv=>whnf
      refine⟨⟨(f+1,E,acc++[(f,F)]),by dsimp only;omega,by dsimp only;omega,by simp;omega,by dsimp only;rw[List.append_assoc,show(funs p).length - (f+1)=n by omega];exact hr⟩,?_,by dsimp only;omega⟩
      repeat' ((conv=>whnf);first|(with_reducible first|apply Wx|apply W6)|apply oi|(apply fi<;>intro h)|refine⟨_,rfl,?_⟩|((with_reducible show _=_);rfl))
      all_goals try((with_reducible refine Obl.mk ?_);exact KP)
      all_goals try exact⟨KW⟩
      all_goals try exact⟨by rw[hend]⟩
      all_goals try exact⟨by rw[allPl_snoc,List.take_of_length_le (by omega)]⟩
  ·rw[show(funs p).length - f=0 by omega]at hr
   have hr2:acc=imgL p b image (funs p).length 0 0:=by rw[←hr];simp[imgL]
   repeat' ((conv=>whnf);first|(with_reducible first|apply Wx|apply W6)|apply oi|(apply fi<;>intro h)|refine cl gF ?_|refine⟨_,rfl,?_⟩|((with_reducible show _=_);rfl))
   all_goals try((with_reducible refine Obl.mk ?_);exact KP)
   all_goals try exact KX
   all_goals exact⟨by rw[hr2]⟩
 ·have hcf:placesOf p b image=[]:=by rw[placesOf,if_neg hc]
  rw[hcf]
  cases h1:programOk p with
  | false=>
   rw[h1]at hP
   repeat' ((conv=>whnf);first|(with_reducible first|apply Wx|apply W6)|apply oi|(apply fi<;>intro h)|refine cl hP ?_|refine cl hB ?_|refine cl gb ?_|refine⟨_,rfl,?_⟩|((with_reducible show _=_);rfl))
   all_goals try((with_reducible refine Obl.mk ?_);exact KP)
   all_goals try exact KX
  | true=>
   rw[h1]at hP
   cases h2:buildOk b with
   | false=>
    rw[h2]at hB
    repeat' ((conv=>whnf);first|(with_reducible first|apply Wx|apply W6)|apply oi|(apply fi<;>intro h)|refine cl hP ?_|refine cl hB ?_|refine cl gb ?_|refine⟨_,rfl,?_⟩|((with_reducible show _=_);rfl))
    all_goals try((with_reducible refine Obl.mk ?_);exact KP)
    all_goals try exact KX
   | true=>
    rw[h2]at hB
    cases h3:within image 0 1 with
    | true=>exact absurd ⟨h1,h2,h3⟩ hc
    | false=>
     rw[h3]at gb
     repeat' ((conv=>whnf);first|(with_reducible first|apply Wx|apply W6)|apply oi|(apply fi<;>intro h)|refine cl hP ?_|refine cl hB ?_|refine cl gb ?_|refine⟨_,rfl,?_⟩|((with_reducible show _=_);rfl))
     all_goals try((with_reducible refine Obl.mk ?_);exact KP)
     all_goals try exact KX
end Go.Proofs.YtjmplnfiabmalaaGreat
namespace Go.Proofs.YtjmplnfiabmalaaGreat
open Go.Sim
set_option maxRecDepth 100000
set_option maxHeartbeats 4000000
theorem packInts_len (ns:List Int):(packInts ns).length≤6 * (ns.length+1):=by
 unfold packInts
 split
 ·rename_i bs h
  have:=packL_len h
  have:=enc_len ns.length
  rw[List.length_append]
  omega
 ·simp
def encInl (x:TInline):List UInt8:=packInts [x.fStart,x.fEnd,x.fLevel,x.fLine]++(enc x.fName.length++x.fName)
def encodeInlines (l:List TInline):List UInt8:=if inlinesOk l=true then enc l.length++l.flatMap encInl else []
theorem encInl_len {x:TInline}(h:x.fName.length≤1048576):(encInl x).length≤1048620:=by
 unfold encInl
 have h1:=packInts_len [x.fStart,x.fEnd,x.fLevel,x.fLine]
 have h2:=enc_len x.fName.length
 simp only[List.length_append,List.length_cons,List.length_nil]at *
 omega
theorem encInl_at {l:List TInline}{k:Nat}{x:TInline}{acc:List UInt8}(hx:l[k]?=some x):acc++(l.drop k).flatMap encInl=(acc++encInl x)++(l.drop (k+1)).flatMap encInl:=by
 rw[drop_at hx,List.flatMap_cons,List.append_assoc]
abbrev EncNIx (l:List TInline)(E:List UInt8):={q:Nat×List UInt8 // q.1≤l.length∧q.2.length≤1048620 * (q.1+1)∧q.2++(l.drop q.1).flatMap encInl=E}
theorem s_impl_EncodeInlines (l:List TInline)(hl:l.length≤1048576)(hn:∀x∈l,x.fName.length≤1048576):Sim.Spec Tryz.prog 18 [tvL 5 (l.map TInline.tr)] (rS (encodeInlines l)):=by
 refine spec_of_W hΓ hmix Tryz.func18 rfl (by decide) rfl ?_
 have hlen:(l.map TInline.tr).length=l.length:=by simp
 have hok:=s_impl_InlinesOk l hl fun x hx=>by have:=hn x hx;omega
 have hel:=enc_len l.length
 unfold encodeInlines
 cases hb:inlinesOk l with
 | false=>
  rw[hb]at hok
  repeat' ((conv=>whnf);first|refine Or.inl ?_|apply oi|(apply fi<;>intro h)|refine ci hok (ai rfl trivial) ?_|refine⟨_,rfl,?_⟩|((with_reducible show _=_);rfl))
  all_goals try((with_reducible refine Obl.mk ?_);exact KO)
 | true=>
  rw[hb]at hok
  rw[if_pos rfl]
  obtain⟨E,hE⟩:∃E,enc l.length++l.flatMap encInl=E:=⟨_,rfl⟩
  rw[hE]
  repeat' ((conv=>whnf);first|refine Or.inl ?_|apply oi|(apply fi<;>intro h)|refine ci hok (ai rfl trivial) ?_|refine ci (s_impl_EncodeVarint _) (ai rfl trivial) ?_|refine⟨_,rfl,?_⟩|((with_reducible show _=_);rfl))
  all_goals try((with_reducible refine Obl.mk ?_);exact KO)
  conv=>whnf
  refine⟨EncNIx l E,fun q=>⟨[(3,tS q.1.2),(12,.r (.c (.t (.lst 5 (l.map TInline.tr))))),(13,tI .i64 ((l.map TInline.tr).length:Int)),(14,tI .i64 (q.1.1:Int))],[],[]⟩,fun q=>l.length - q.1.1,⟨(0,enc l.length),by simp,by dsimp only;omega,hE⟩,?_,?_⟩
  ·skip
   repeat' ((conv=>whnf);first|refine Or.inl ?_|apply oi|(apply fi<;>intro h)|refine⟨_,rfl,?_⟩|((with_reducible show _=_);rfl))
   all_goals try((with_reducible refine Obl.mk ?_);exact KO)
   all_goals exact⟨by rw[hlen]⟩
  intro⟨⟨k,acc⟩,hk,hal,hr⟩
  dsimp only at hk hal hr ⊢
  by_cases hlt:k < l.length
  ·obtain⟨x,hx⟩:=get_of_lt hlt
   have hxn:=hn x (List.mem_of_getElem? hx)
   rw[encInl_at hx]at hr
   have hxl:=encInl_len hxn
   have hP:=s_impl_PackInts [x.fStart,x.fEnd,x.fLevel,x.fLine] (by simp)
   have hT:=s_impl_PackText x.fName hxn
   have hxl2:=hxl
   unfold encInl at hxl2
   simp only[List.length_append]at hxl2
   repeat' ((conv=>whnf);first|refine Or.inl ?_|apply oi|(apply fi<;>intro h)|refine⟨k,x.tr,rfl,map_get hx,?_⟩|refine ci hP (ai rfl trivial) ?_|refine ci hT (ai rfl trivial) ?_|refine⟨_,rfl,?_⟩|((with_reducible show _=_);rfl))
   all_goals try((with_reducible refine Obl.mk ?_);exact KO)
   all_goals try exact KX
   ·exact⟨by(try simp only[List.length_append]);omega⟩
   ·exact⟨by(try simp only[List.length_append]);omega⟩
   conv=>whnf
   refine⟨⟨(k+1,acc++encInl x),by dsimp only;omega,by rw[List.length_append];dsimp only;omega,hr⟩,?_,by dsimp only;omega⟩
   repeat' ((conv=>whnf);first|refine Or.inl ?_|apply oi|(apply fi<;>intro h)|refine⟨_,rfl,?_⟩|((with_reducible show _=_);rfl))
   all_goals try((with_reducible refine Obl.mk ?_);exact KO)
   all_goals try exact⟨K2⟩
  ·have hge:l.length≤k:=by omega
   rw[List.drop_eq_nil_of_le hge,List.flatMap_nil,List.append_nil]at hr
   clear hE
   subst hr
   repeat' ((conv=>whnf);first|refine Or.inl ?_|apply oi|(apply fi<;>intro h)|refine⟨_,rfl,?_⟩|((with_reducible show _=_);rfl))
   all_goals try((with_reducible refine Obl.mk ?_);exact KO)
   all_goals try exact KX
end Go.Proofs.YtjmplnfiabmalaaGreat
namespace Go.Proofs.YtjmplnfiabmalaaGreat
open Go.Sim
set_option maxRecDepth 100000
set_option maxHeartbeats 4000000
def nameTo (l:List TLine):Nat→List UInt8
 | 0=>[]
 | n+1=>match l[n]? with
  | some x=>if x.fKind=0 then x.fName else nameTo l n
  | none=>nameTo l n
def functionOfLine (l:List TLine)(k:Int):List UInt8:=if 0≤k∧k < l.length then nameTo l (k+1).toNat else []
theorem nameTo_at {l:List TLine}{k:Nat}{x:TLine}(hx:l[k]?=some x):nameTo l (k+1)=if x.fKind=0 then x.fName else nameTo l k:=by
 rw[nameTo,hx]
theorem s_impl_FunctionOfLine (l:List TLine)(k:Int)(hl:l.length≤1048576):Sim.Spec Tryz.prog 16 [tvL 4 (l.map TLine.tr),tvI k] (rS (functionOfLine l k)):=by
 refine spec_of_W hΓ hmix Tryz.func16 rfl (by decide) rfl ?_
 have hlen:(l.map TLine.tr).length=l.length:=by simp
 have hw:IntKind.i64.wrap (((l.map TLine.tr).length:Int) - 1)=(l.length:Int) - 1:=by rw[IntWalk.i64_in _ (by omega)];omega
 unfold functionOfLine
 by_cases hb:0≤k∧k < l.length
 ·rw[if_pos hb]
  obtain⟨R,hR⟩:∃R,nameTo l (k+1).toNat=R:=⟨_,rfl⟩
  rw[hR]
  have hin:within k 0 (IntKind.i64.wrap (((l.map TLine.tr).length:Int) - 1))=true:=by rw[hw];simp[within];omega
  repeat' ((conv=>whnf);first|refine Or.inl ?_|apply oi|(apply fi<;>intro h)|refine ci (s_impl_between _ _ _) (ai rfl (ai rfl (ai rfl trivial))) ?_|refine⟨_,rfl,?_⟩|((with_reducible show _=_);rfl))
  all_goals try((with_reducible refine Obl.mk ?_);exact KO)
  ·rw[hin]at h;cases h
  clear h
  conv=>whnf
  refine⟨{q:Nat // q≤l.length∧nameTo l q=R},fun q=>⟨[(0,.r (.c (.t (.lst 4 (l.map TLine.tr))))),(1,tI .i64 ((q.1:Int) - 1))],[],[]⟩,fun q=>q.1,⟨(k+1).toNat,by omega,hR⟩,?_,?_⟩
  ·skip
   repeat' ((conv=>whnf);first|refine Or.inl ?_|apply oi|(apply fi<;>intro h)|refine⟨_,rfl,?_⟩|((with_reducible show _=_);rfl))
   all_goals try((with_reducible refine Obl.mk ?_);exact KO)
   all_goals exact⟨by congr 1;dsimp only;omega⟩
  intro⟨q,hq,hr⟩
  dsimp only at hq hr ⊢
  cases q with
  | zero=>
   repeat' ((conv=>whnf);first|refine Or.inl ?_|apply oi|(apply fi<;>intro h)|refine⟨_,rfl,?_⟩|((with_reducible show _=_);rfl))
   all_goals try((with_reducible refine Obl.mk ?_);exact KO)
   all_goals try exact KX
   all_goals exact⟨by rw[←hr];rfl⟩
  | succ q=>
   obtain⟨x,hx⟩:=get_of_lt (l:=l) (k:=q) (by omega)
   rw[nameTo_at hx]at hr
   by_cases hf:x.fKind=0
   ·rw[if_pos hf]at hr
    repeat' ((conv=>whnf);first|refine Or.inl ?_|apply oi|(apply fi<;>intro h)|refine⟨q,x.tr,(by omega),map_get hx,?_⟩|refine⟨_,rfl,?_⟩|((with_reducible show _=_);rfl))
    all_goals try((with_reducible refine Obl.mk ?_);exact KO)
    all_goals try exact KX
    all_goals try(exfalso;(try simp_all[within]);(try omega);done)
    all_goals exact⟨by rw[hr]⟩
   ·rw[if_neg hf]at hr
    repeat' ((conv=>whnf);first|refine Or.inl ?_|apply oi|(apply fi<;>intro h)|refine⟨q,x.tr,(by omega),map_get hx,?_⟩|refine⟨_,rfl,?_⟩|((with_reducible show _=_);rfl))
    all_goals try((with_reducible refine Obl.mk ?_);exact KO)
    all_goals try exact KX
    all_goals try(exfalso;(try simp_all[within]);(try omega);done)
    conv=>whnf
    refine⟨⟨q,by omega,hr⟩,?_,by dsimp only;omega⟩
    repeat' ((conv=>whnf);first|refine Or.inl ?_|apply oi|(apply fi<;>intro h)|refine⟨_,rfl,?_⟩|((with_reducible show _=_);rfl))
    all_goals try((with_reducible refine Obl.mk ?_);exact KO)
    all_goals try exact⟨K2⟩
    all_goals exact⟨by dsimp only;congr 1;rw[IntWalk.i64_in _ (by omega)];omega⟩
 ·rw[if_neg hb]
  have hin:within k 0 (IntKind.i64.wrap (((l.map TLine.tr).length:Int) - 1))=false:=by rw[hw];simp[within];omega
  repeat' ((conv=>whnf);first|refine Or.inl ?_|apply oi|(apply fi<;>intro h)|refine ci (s_impl_between _ _ _) (ai rfl (ai rfl (ai rfl trivial))) ?_|refine⟨_,rfl,?_⟩|((with_reducible show _=_);rfl))
  all_goals try((with_reducible refine Obl.mk ?_);exact KO)
  ·rw[hin]at h;cases h
end Go.Proofs.YtjmplnfiabmalaaGreat
namespace Go.Proofs.YtjmplnfiabmalaaGreat
open Go.Sim
set_option maxRecDepth 100000
set_option maxHeartbeats 4000000
def nameAtI (p:List TLine)(x:TItem)(lv:Nat):List UInt8:=match x.fChain[lv+1]? with|some c=>functionOfLine p c|none=>functionOfLine p x.fLine
def joinsI (p:List TLine)(ch:List Int)(lv:Nat)(nm:List UInt8)(y:TPlace):Bool:=decide (lv < y.fItem.fChain.length) && ((y.fItem.fChain.take (lv+1)==ch.take (lv+1)) && (nameAtI p y.fItem lv==nm))
def runN (p:List TLine)(ch:List Int)(lv:Nat)(nm:List UInt8):List TPlace→Nat→Nat
 | [],k=>k
 | y::r,k=>if joinsI p ch lv nm y=true then runN p ch lv nm r (k+1)else k
theorem runN_at {p:List TLine}{ch:List Int}{lv:Nat}{nm:List UInt8}{l:List TPlace}{k:Nat}{y:TPlace}(hy:l[k]?=some y):runN p ch lv nm (l.drop k) k=if joinsI p ch lv nm y=true then runN p ch lv nm (l.drop (k+1)) (k+1)else k:=by
 rw[drop_at hy,runN]
theorem runN_end {p:List TLine}{ch:List Int}{lv:Nat}{nm:List UInt8}{l:List TPlace}{k:Nat}(h:l.length≤k):runN p ch lv nm (l.drop k) k=k:=by
 rw[List.drop_eq_nil_of_le h,runN]
theorem runN_le {p:List TLine}{ch:List Int}{lv:Nat}{nm:List UInt8}:∀{l:List TPlace} {k:Nat},k≤runN p ch lv nm l k∧runN p ch lv nm l k≤k+l.length
 | [],k=>by rw[runN];exact⟨Nat.le_refl _,by omega⟩
 | y::r,k=>by
  rw[runN]
  split
  ·have:=runN_le (p:=p) (ch:=ch) (lv:=lv) (nm:=nm) (l:=r) (k:=k+1)
   simp only[List.length_cons]
   omega
  ·simp only[List.length_cons];omega
def endPl (x:TPlace):Int:=x.fOffset+opSize x.fItem.fOp.fCode
def inlRec (p:List TLine)(lv:Nat)(x:TPlace)(c:Int)(last:TPlace):TInline:=⟨x.fOffset,endPl last,lv,c,nameAtI p x.fItem lv⟩
def lvN (p:List TLine)(l:List TPlace)(lv:Nat):Nat→Nat→List TInline
 | 0,_=>[]
 | n+1,i=>match l[i]? with
  | none=>[]
  | some x=>match x.fItem.fChain[lv]? with
   | none=>lvN p l lv n (i+1)
   | some c=>match l[runN p x.fItem.fChain lv (nameAtI p x.fItem lv) (l.drop (i+1)) (i+1) - 1]? with
    | none=>[]
    | some y=>inlRec p lv x c y::lvN p l lv n (runN p x.fItem.fChain lv (nameAtI p x.fItem lv) (l.drop (i+1)) (i+1))
theorem lvN_more {p:List TLine}{l:List TPlace}{lv:Nat}:∀{n m i:Nat},l.length - i≤n→l.length - i≤m→lvN p l lv n i=lvN p l lv m i
 | 0,0,_,_,_=>rfl
 | 0,m+1,i,h,_=>by rw[lvN,lvN,List.getElem?_eq_none (by omega)]
 | n+1,0,i,_,h=>by rw[lvN,lvN,List.getElem?_eq_none (by omega)]
 | n+1,m+1,i,h1,h2=>by
  rw[lvN,lvN]
  cases l[i]? with
  | none=>rfl
  | some x=>
   dsimp only
   cases x.fItem.fChain[lv]? with
   | none=>exact lvN_more (by omega) (by omega)
   | some c=>
    dsimp only
    have hr:=runN_le (p:=p) (ch:=x.fItem.fChain) (lv:=lv) (nm:=nameAtI p x.fItem lv) (l:=l.drop (i+1)) (k:=i+1)
    generalize runN p x.fItem.fChain lv (nameAtI p x.fItem lv) (l.drop (i+1)) (i+1)=k at *
    cases l[k - 1]? with
    | none=>rfl
    | some y=>
     dsimp only
     rw[lvN_more (n:=n) (m:=m) (by omega) (by omega)]
theorem lvN_step {p:List TLine}{l:List TPlace}{lv i:Nat}{x:TPlace}(hx:l[i]?=some x):lvN p l lv (l.length - i) i=match x.fItem.fChain[lv]? with
   | none=>lvN p l lv (l.length - (i+1)) (i+1)
   | some c=>match l[runN p x.fItem.fChain lv (nameAtI p x.fItem lv) (l.drop (i+1)) (i+1) - 1]? with
    | none=>[]
    | some y=>inlRec p lv x c y::lvN p l lv (l.length - runN p x.fItem.fChain lv (nameAtI p x.fItem lv) (l.drop (i+1)) (i+1)) (runN p x.fItem.fChain lv (nameAtI p x.fItem lv) (l.drop (i+1)) (i+1)):=by
 have hk:i < l.length:=by
  rcases Nat.lt_or_ge i l.length with h|h
  ·exact h
  ·rw[List.getElem?_eq_none h]at hx;cases hx
 rw[show l.length - i=(l.length - (i+1))+1 by omega,lvN,hx]
 dsimp only
 cases x.fItem.fChain[lv]? with
 | none=>rfl
 | some c=>
  dsimp only
  have hr:=runN_le (p:=p) (ch:=x.fItem.fChain) (lv:=lv) (nm:=nameAtI p x.fItem lv) (l:=l.drop (i+1)) (k:=i+1)
  generalize runN p x.fItem.fChain lv (nameAtI p x.fItem lv) (l.drop (i+1)) (i+1)=k at *
  cases l[k - 1]? with
  | none=>rfl
  | some y=>
   dsimp only
   rw[lvN_more (n:=l.length - (i+1)) (m:=l.length - k) (by omega) (by omega)]
theorem lvN_end {p:List TLine}{l:List TPlace}{lv i n:Nat}(h:l.length≤i):lvN p l lv n i=[]:=by
 cases n with
 | zero=>rfl
 | succ n=>rw[lvN,List.getElem?_eq_none h]
def atLv (lv:Nat)(l:List TPlace):Nat:=(l.filter fun x=>decide (lv < x.fItem.fChain.length)).length
theorem atLv_drop {lv:Nat}{l:List TPlace}{i:Nat}{x:TPlace}(hx:l[i]?=some x):atLv lv (l.drop i)=(if lv < x.fItem.fChain.length then 1 else 0)+atLv lv (l.drop (i+1)):=by
 rw[drop_at hx,atLv,List.filter_cons]
 by_cases h:lv < x.fItem.fChain.length
 ·rw[if_pos (by simpa using h),if_pos h,List.length_cons,Nat.add_comm];rfl
 ·rw[if_neg (by simpa using h),if_neg h,Nat.zero_add];rfl
theorem atLv_le {lv:Nat}{l:List TPlace}:∀{i k:Nat},i≤k→atLv lv (l.drop k)≤atLv lv (l.drop i):=by
 intro i k h
 have:l.drop k=(l.drop i).drop (k - i):=by rw[List.drop_drop];congr 1;omega
 rw[this,atLv,atLv]
 exact((List.drop_sublist _ _).filter _).length_le
theorem lvN_len {p:List TLine}{l:List TPlace}{lv:Nat}:∀{n i:Nat},(lvN p l lv n i).length≤atLv lv (l.drop i)
 | 0,_=>by simp[lvN]
 | n+1,i=>by
  rw[lvN]
  cases hx:l[i]? with
  | none=>simp
  | some x=>
   dsimp only
   rw[atLv_drop hx]
   cases hc:x.fItem.fChain[lv]? with
   | none=>have:=lvN_len (p:=p) (l:=l) (lv:=lv) (n:=n) (i:=i+1);dsimp only;omega
   | some c=>
    dsimp only
    have hlt:lv < x.fItem.fChain.length:=by
     rcases Nat.lt_or_ge lv x.fItem.fChain.length with h|h
     ·exact h
     ·rw[List.getElem?_eq_none h]at hc;cases hc
    rw[if_pos hlt]
    have hr:=runN_le (p:=p) (ch:=x.fItem.fChain) (lv:=lv) (nm:=nameAtI p x.fItem lv) (l:=l.drop (i+1)) (k:=i+1)
    generalize runN p x.fItem.fChain lv (nameAtI p x.fItem lv) (l.drop (i+1)) (i+1)=k at *
    cases l[k - 1]? with
    | none=>simp
    | some y=>
     have h1:=lvN_len (p:=p) (l:=l) (lv:=lv) (n:=n) (i:=k)
     have h2:=atLv_le (lv:=lv) (l:=l) hr.1
     rw[List.length_cons]
     omega
def deepF:List TPlace→Nat→Nat
 | [],d=>d
 | x::r,d=>deepF r (max d x.fItem.fChain.length)
theorem deepF_at {l:List TPlace}{k d:Nat}{x:TPlace}(hx:l[k]?=some x):deepF (l.drop k) d=deepF (l.drop (k+1)) (max d x.fItem.fChain.length):=by
 rw[drop_at hx,deepF]
def lvls (p:List TLine)(l:List TPlace):Nat→Nat→List TInline
 | 0,_=>[]
 | n+1,lv=>lvN p l lv l.length 0++lvls p l n (lv+1)
def inlinesOf (p:List TLine)(l:List TPlace):List TInline:=if programOk p=true∧near l=true then lvls p l (deepF l 0) 0 else []
def chains:List TPlace→Nat
 | []=>0
 | x::r=>x.fItem.fChain.length+chains r
def chainsFrom (lv:Nat):List TPlace→Nat
 | []=>0
 | x::r=>(x.fItem.fChain.length - lv)+chainsFrom lv r
theorem chainsFrom_zero:∀l:List TPlace,chainsFrom 0 l=chains l
 | []=>rfl
 | x::r=>by rw[chainsFrom,chains,chainsFrom_zero,Nat.sub_zero]
theorem chainsFrom_at (lv:Nat):∀l:List TPlace,chainsFrom lv l=atLv lv l+chainsFrom (lv+1) l
 | []=>rfl
 | x::r=>by
  have h0:=atLv_drop (lv:=lv) (l:=x::r) (i:=0) (x:=x) rfl
  rw[List.drop_zero]at h0
  have h1:List.drop (0+1) (x::r)=r:=rfl
  rw[h1]at h0
  rw[chainsFrom,chainsFrom,chainsFrom_at lv r,h0]
  split <;> omega
theorem lvls_len {p:List TLine}{l:List TPlace}:∀{n lv:Nat},(lvls p l n lv).length≤chainsFrom lv l
 | 0,_=>by simp[lvls]
 | n+1,lv=>by
  have h1:=lvls_len (p:=p) (l:=l) (n:=n) (lv:=lv+1)
  have h2:=lvN_len (p:=p) (l:=l) (lv:=lv) (n:=l.length) (i:=0)
  rw[List.drop_zero]at h2
  rw[lvls,List.length_append,chainsFrom_at]
  omega
end Go.Proofs.YtjmplnfiabmalaaGreat
namespace Go.Proofs.YtjmplnfiabmalaaGreat
open Go.Sim
set_option maxRecDepth 100000
set_option maxHeartbeats 4000000
theorem s_slices_EqualI (l m:List Int)(hl:l.length≤1048576)(hm:m.length≤1048576):Sim.Spec Tryz.prog 81 [tvL 1 (l.map intRow),tvL 1 (m.map intRow)] (rB (l==m)):=by
 refine spec_of_Wo hΓ hmix Tryz.func81 rfl (by decide) rfl ?_
 have h1:(l.map intRow).length=l.length:=by simp
 have h2:(m.map intRow).length=m.length:=by simp
 by_cases hlen:l.length=m.length
 ·obtain⟨R,hR⟩:∃R,(l==m)=R:=⟨_,rfl⟩
  rw[hR]
  repeat' ((conv=>whnf);first|(with_reducible first|apply Wx|apply W6)|apply oi|(apply fi<;>intro h)|refine⟨_,rfl,?_⟩|((with_reducible show _=_);rfl))
  all_goals try((with_reducible refine Obl.mk ?_);exact KP)
  all_goals try(exfalso;rw[h1,h2,hlen]at h;simp at h;done)
  conv=>whnf
  refine⟨{k:Nat // k≤l.length∧(l.drop k==m.drop k)=R},fun k=>⟨[(0,.r (.c (.t (.lst 1 (l.map intRow))))),(1,.r (.c (.t (.lst 1 (m.map intRow))))),(12,tI .i64 ((l.map intRow).length:Int)),(13,tI .i64 (k.1:Int))],[],[]⟩,fun k=>l.length - k.1,⟨0,by omega,hR⟩,?_,?_⟩
  ·skip
   repeat' ((conv=>whnf);first|(with_reducible first|apply Wx|apply W6)|apply oi|(apply fi<;>intro h)|refine⟨_,rfl,?_⟩|((with_reducible show _=_);rfl))
   all_goals try((with_reducible refine Obl.mk ?_);exact KP)
  intro⟨k,hk,hr⟩
  dsimp only at hk hr ⊢
  by_cases hlt:k < l.length
  ·obtain⟨x,hx⟩:=get_of_lt hlt
   obtain⟨y,hy⟩:=get_of_lt (l:=m) (k:=k) (by omega)
   rw[drop_at hx,drop_at hy,List.cons_beq_cons]at hr
   by_cases he:x=y
   ·rw[beq_iff_eq.2 he,Bool.true_and]at hr
    repeat' ((conv=>whnf);first|(with_reducible first|apply Wx|apply W6)|apply oi|(apply fi<;>intro h)|refine⟨k,(intRow x),rfl,map_get hx,?_⟩|refine⟨k,(intRow y),rfl,map_get hy,?_⟩|refine⟨_,rfl,?_⟩|((with_reducible show _=_);rfl))
    all_goals try((with_reducible refine Obl.mk ?_);exact KP)
    all_goals try exact KX
    all_goals try(exfalso;simp_all;done)
    conv=>whnf
    refine⟨⟨k+1,by omega,hr⟩,?_,by dsimp only;omega⟩
    repeat' ((conv=>whnf);first|(with_reducible first|apply Wx|apply W6)|apply oi|(apply fi<;>intro h)|refine⟨_,rfl,?_⟩|((with_reducible show _=_);rfl))
    all_goals try((with_reducible refine Obl.mk ?_);exact KP)
    all_goals try exact⟨K2⟩
   ·rw[beq_eq_false_iff_ne.2 he,Bool.false_and]at hr
    subst hr
    repeat' ((conv=>whnf);first|(with_reducible first|apply Wx|apply W6)|apply oi|(apply fi<;>intro h)|refine⟨k,(intRow x),rfl,map_get hx,?_⟩|refine⟨k,(intRow y),rfl,map_get hy,?_⟩|refine⟨_,rfl,?_⟩|((with_reducible show _=_);rfl))
    all_goals try((with_reducible refine Obl.mk ?_);exact KP)
    all_goals try exact KX
    all_goals try(exfalso;simp_all;done)
  ·rw[List.drop_eq_nil_of_le (by omega),List.drop_eq_nil_of_le (by omega)]at hr
   have hr:true=R:=hr
   subst hr
   repeat' ((conv=>whnf);first|(with_reducible first|apply Wx|apply W6)|apply oi|(apply fi<;>intro h)|refine⟨_,rfl,?_⟩|((with_reducible show _=_);rfl))
   all_goals try((with_reducible refine Obl.mk ?_);exact KP)
   all_goals try exact KX
 ·have:(l==m)=false:=by rw[beq_eq_false_iff_ne];intro e;exact hlen (by rw[e])
  rw[this]
  repeat' ((conv=>whnf);first|(with_reducible first|apply Wx|apply W6)|apply oi|(apply fi<;>intro h)|refine⟨_,rfl,?_⟩|((with_reducible show _=_);rfl))
  all_goals try((with_reducible refine Obl.mk ?_);exact KP)
  all_goals(exfalso;rw[h1,h2]at h;simp at h;omega)
theorem s_impl_nameAt (p:List TLine)(x:TItem)(lv:Nat)(hp:p.length≤1048576)(hlv:lv≤1048576):Sim.Spec Tryz.prog 80 [tvP p,.agg x.tr,tvI lv] (rS (nameAtI p x lv)):=by
 refine spec_of_Wo hΓ hmix Tryz.func80 rfl (by decide) rfl ?_
 have hcl:(x.fChain.map intRow).length=x.fChain.length:=by simp
 have hwl:IntKind.i64.wrap ((lv:Int)+1)=((lv+1:Nat):Int):=by rw[IntWalk.i64_in _ (by omega)];omega
 unfold nameAtI
 by_cases hlt:lv+1 < x.fChain.length
 ·obtain⟨c,hc⟩:=get_of_lt hlt
  rw[hc]
  have hF:=s_impl_FunctionOfLine p c hp
  dsimp only
  generalize functionOfLine p c=nm at *
  repeat' ((conv=>whnf);first|(with_reducible first|apply Wx|apply W6)|apply oi|(apply fi<;>intro h)|refine⟨(lv+1),(intRow c),hwl,map_get hc,?_⟩|refine cl hF ?_|refine⟨_,rfl,?_⟩|((with_reducible show _=_);rfl))
  all_goals try((with_reducible refine Obl.mk ?_);exact KP)
  all_goals try(exfalso;have h':=of_decide_eq_false h;rw[hwl]at h';omega)
 ·rw[List.getElem?_eq_none (by omega)]
  have hF:=s_impl_FunctionOfLine p x.fLine hp
  dsimp only
  generalize functionOfLine p x.fLine=nm at *
  repeat' ((conv=>whnf);first|(with_reducible first|apply Wx|apply W6)|apply oi|(apply fi<;>intro h)|refine cl hF ?_|refine⟨_,rfl,?_⟩|((with_reducible show _=_);rfl))
  all_goals try((with_reducible refine Obl.mk ?_);exact KP)
  all_goals try(exfalso;have h':=of_decide_eq_true h;rw[hwl]at h';omega)
theorem s_impl_endOfPlace (x:TPlace)(h0:0≤x.fOffset)(h1:x.fOffset≤1000000):Sim.Spec Tryz.prog 82 [.agg x.tr] (rI (endPl x)):=by
 refine spec_of_Wo hΓ hmix Tryz.func82 rfl (by decide) rfl ?_
 have hS:=s_impl_OpSize x.fItem.fOp.fCode
 have hle:=opSize_le x.fItem.fOp.fCode
 unfold endPl
 generalize opSize x.fItem.fOp.fCode=z at *
 repeat' ((conv=>whnf);first|(with_reducible first|apply Wx|apply W6)|apply oi|(apply fi<;>intro h)|refine cl hS ?_|refine⟨_,rfl,?_⟩|((with_reducible show _=_);rfl))
 all_goals try((with_reducible refine Obl.mk ?_);exact KP)
 all_goals exact⟨by rw[IntWalk.i64_in _ (by omega)]⟩
abbrev vPl (l:List TPlace):AV:= .r (.c (.t (.lst 8 (l.map TPlace.tr))))
theorem chain_small {x:TPlace}(hs:smallR 1048576 x.tr):x.fItem.fChain.length≤1048576:=by
 have:smallT 1048576 (.lst 1 (x.fItem.fChain.map intRow)):=by
  unfold TPlace.tr at hs
  simp only[TItem.tr,List.cons_append,smallR]at hs
  exact hs.2.2.2.2.2.1
 have:=small_len this
 omega
theorem s_impl_InlinesOf (p:List TLine)(l:List TPlace)(hp:smallT 1048576 (.lst 4 (p.map TLine.tr)))(hl:smallT 1048576 (.lst 8 (l.map TPlace.tr)))(hch:chains l≤1048576):Sim.Spec Tryz.prog 14 [tvP p,tvL 8 (l.map TPlace.tr)] (rL 5 ((inlinesOf p l).map TInline.tr)):=by
 refine spec_of_Wo hΓ hmix Tryz.func14 rfl (by decide) rfl ?_
 have hP:=s_impl_ProgramOk p hp
 have hpl:=small_nat hp
 have hll:=small_nat hl
 have hlen:(l.map TPlace.tr).length=l.length:=by simp
 have hcs:∀x∈l,x.fItem.fChain.length≤1048576:=fun x hx=>chain_small (smallRs_map hl hx)
 cases hpo:programOk p with
 | false=>
  rw[hpo]at hP
  have:inlinesOf p l=[]:=by rw[inlinesOf,if_neg (by simp[hpo])]
  rw[this]
  repeat' ((conv=>whnf);first|(with_reducible first|apply Wx|apply W6)|apply oi|(apply fi<;>intro h)|refine cl hP ?_|refine⟨_,rfl,?_⟩|((with_reducible show _=_);rfl))
  all_goals try((with_reducible refine Obl.mk ?_);exact KP)
  all_goals try exact KX
 | true=>
  rw[hpo]at hP
  cases hnr:near l with
  | false=>
   have:inlinesOf p l=[]:=by rw[inlinesOf,if_neg (by simp[hnr])]
   rw[this]
   repeat' ((conv=>whnf);first|(with_reducible first|apply Wx|apply W6)|apply oi|(apply fi<;>intro h)|refine cl hP ?_|refine⟨_,rfl,?_⟩|((with_reducible show _=_);rfl))
   all_goals try((with_reducible refine Obl.mk ?_);exact KP)
   all_goals try exact KX
   conv=>whnf
   refine⟨{q:Nat×Nat // q.1≤l.length∧near (l.drop q.1)=false},fun q=>⟨[(0,vP p),(1,vPl l),(5,tI .i64 (q.1.2:Int)),(17,vPl l),(18,tI .i64 ((l.map TPlace.tr).length:Int)),(19,tI .i64 (q.1.1:Int))],[],[]⟩,fun q=>l.length - q.1.1,⟨(0,0),by dsimp only;omega,hnr⟩,?_,?_⟩
   ·skip
    repeat' ((conv=>whnf);first|(with_reducible first|apply Wx|apply W6)|apply oi|(apply fi<;>intro h)|refine⟨_,rfl,?_⟩|((with_reducible show _=_);rfl))
    all_goals try((with_reducible refine Obl.mk ?_);exact KP)
   intro⟨⟨k,d⟩,hk,hr⟩
   dsimp only at hk hr ⊢
   by_cases hlt:k < l.length
   ·obtain⟨x,hx⟩:=get_of_lt hlt
    rw[near_at hx]at hr
    have hB:=s_impl_between x.fOffset 0 1000000
    have hcl:(x.fItem.fChain.map intRow).length=x.fItem.fChain.length:=by simp
    cases hb:within x.fOffset 0 1000000 with
    | false=>
     rw[hb]at hB
     repeat' ((conv=>whnf);first|(with_reducible first|apply Wx|apply W6)|apply oi|(apply fi<;>intro h)|refine⟨k,x.tr,rfl,map_get hx,?_⟩|refine cl hB ?_|refine⟨_,rfl,?_⟩|((with_reducible show _=_);rfl))
     all_goals try((with_reducible refine Obl.mk ?_);exact KP)
     all_goals try exact KX
    | true=>
     rw[hb]at hB hr
     rw[Bool.true_and]at hr
     repeat' ((conv=>whnf);first|(with_reducible first|apply Wx|apply W6)|apply oi|(apply fi<;>intro h)|refine⟨k,x.tr,rfl,map_get hx,?_⟩|refine cl hB ?_|refine⟨_,rfl,?_⟩|((with_reducible show _=_);rfl))
     all_goals try((with_reducible refine Obl.mk ?_);exact KP)
     all_goals try exact KX
     all_goals
      conv=>whnf
      refine⟨⟨(k+1,max d x.fItem.fChain.length),by dsimp only;omega,hr⟩,?_,by dsimp only;omega⟩
      repeat' ((conv=>whnf);first|(with_reducible first|apply Wx|apply W6)|apply oi|(apply fi<;>intro h)|refine⟨_,rfl,?_⟩|((with_reducible show _=_);rfl))
      all_goals try((with_reducible refine Obl.mk ?_);exact KP)
      all_goals try exact⟨K2⟩
      all_goals try exact⟨congrArg (Tr.int _) (by dsimp only;rw[hcl];(try split) <;> omega)⟩
   ·rw[List.drop_eq_nil_of_le (by omega)]at hr
    cases hr
  | true=>
   have hio:inlinesOf p l=lvls p l (deepF l 0) 0:=by rw[inlinesOf,if_pos ⟨hpo,hnr⟩]
   have hnm:=near_mem hnr
   rw[hio]
   obtain⟨D,hD⟩:∃D,deepF l 0=D:=⟨_,rfl⟩
   have hD0:deepF (l.drop 0) 0=D:=hD
   obtain⟨R,hR⟩:∃R,lvls p l (deepF l 0) 0=R:=⟨_,rfl⟩
   rw[hR]
   rw[hD]at hR
   repeat' ((conv=>whnf);first|(with_reducible first|apply Wx|apply W6)|apply oi|(apply fi<;>intro h)|refine cl hP ?_|refine⟨_,rfl,?_⟩|((with_reducible show _=_);rfl))
   all_goals try((with_reducible refine Obl.mk ?_);exact KP)
   all_goals try exact KX
   conv=>whnf
   refine⟨{q:Nat×Nat // q.1≤l.length∧q.2≤1048576∧deepF (l.drop q.1) q.2=D},fun q=>⟨[(0,vP p),(1,vPl l),(5,tI .i64 (q.1.2:Int)),(17,vPl l),(18,tI .i64 ((l.map TPlace.tr).length:Int)),(19,tI .i64 (q.1.1:Int))],[],[]⟩,fun q=>l.length - q.1.1,⟨(0,0),by dsimp only;omega,by dsimp only;omega,hD0⟩,?_,?_⟩
   ·skip
    repeat' ((conv=>whnf);first|(with_reducible first|apply Wx|apply W6)|apply oi|(apply fi<;>intro h)|refine⟨_,rfl,?_⟩|((with_reducible show _=_);rfl))
    all_goals try((with_reducible refine Obl.mk ?_);exact KP)
   intro⟨⟨k,d⟩,hk,hd,hr⟩
   dsimp only at hk hd hr ⊢
   by_cases hlt:k < l.length
   ·obtain⟨x,hx⟩:=get_of_lt hlt
    rw[deepF_at hx]at hr
    have hB:=s_impl_between x.fOffset 0 1000000
    have hcl:(x.fItem.fChain.map intRow).length=x.fItem.fChain.length:=by simp
    have hcx:=hcs x (List.mem_of_getElem? hx)
    rw[within_iff.2 (hnm x (List.mem_of_getElem? hx))]at hB
    repeat' ((conv=>whnf);first|(with_reducible first|apply Wx|apply W6)|apply oi|(apply fi<;>intro h)|refine⟨k,x.tr,rfl,map_get hx,?_⟩|refine cl hB ?_|refine⟨_,rfl,?_⟩|((with_reducible show _=_);rfl))
    all_goals try((with_reducible refine Obl.mk ?_);exact KP)
    all_goals try exact KX
    all_goals
     conv=>whnf
     refine⟨⟨(k+1,max d x.fItem.fChain.length),by dsimp only;omega,by dsimp only;omega,hr⟩,?_,by dsimp only;omega⟩
     repeat' ((conv=>whnf);first|(with_reducible first|apply Wx|apply W6)|apply oi|(apply fi<;>intro h)|refine⟨_,rfl,?_⟩|((with_reducible show _=_);rfl))
     all_goals try((with_reducible refine Obl.mk ?_);exact KP)
     all_goals try exact⟨K2⟩
     all_goals try exact⟨congrArg (Tr.int _) (by dsimp only;rw[hcl];(try split) <;> omega)⟩
   ·rw[List.drop_eq_nil_of_le (by omega),deepF]at hr
    subst hr
    clear hD hD0 hio
    repeat' ((conv=>whnf);first|(with_reducible first|apply Wx|apply W6)|apply oi|(apply fi<;>intro h)|refine⟨_,rfl,?_⟩|((with_reducible show _=_);rfl))
    all_goals try((with_reducible refine Obl.mk ?_);exact KP)
    all_goals try exact KX
    conv=>whnf
    refine⟨{q:Nat×List TInline // q.1≤d∧q.2.length+chainsFrom q.1 l≤1048576∧q.2++lvls p l (d - q.1) q.1=R},fun q=>⟨[(0,vP p),(1,vPl l),(5,tI .i64 (d:Int)),(8,.r (.c (.own (8,0,0)))),(9,tI .i64 (q.1.1:Int))],[((8,0,0),some (.arr true 5 (q.1.2.map TInline.tr)))],[8]⟩,fun q=>d - q.1.1,⟨(0,[]),by dsimp only;omega,by rw[chainsFrom_zero];simpa using hch,by simpa using hR⟩,?_,?_⟩
    ·skip
     repeat' ((conv=>whnf);first|(with_reducible first|apply Wx|apply W6)|apply oi|(apply fi<;>intro h)|refine⟨_,rfl,?_⟩|((with_reducible show _=_);rfl))
     all_goals try((with_reducible refine Obl.mk ?_);exact KP)
    intro⟨⟨lv,acc⟩,hlv,hac,hr⟩
    dsimp only at hlv hac hr ⊢
    by_cases hlt:lv < d
    ·obtain⟨n,hn⟩:∃n,d - lv=n+1:=⟨d - lv - 1,by omega⟩
     have hn2:d - (lv+1)=n:=by omega
     rw[hn,lvls]at hr
     have h0:lvN p l lv (l.length - 0) 0=lvN p l lv l.length 0:=by rw[Nat.sub_zero]
     rw[←h0]at hr
     rw[chainsFrom_at]at hac
     have hac0:acc.length+(atLv lv (l.drop 0)+chainsFrom (lv+1) l)≤1048576:=hac
     have hwl:IntKind.i64.wrap ((lv:Int)+1)=((lv+1:Nat):Int):=by rw[IntWalk.i64_in _ (by omega)];omega
     repeat' ((conv=>whnf);first|(with_reducible first|apply Wx|apply W6)|apply oi|(apply fi<;>intro h)|refine⟨_,rfl,?_⟩|((with_reducible show _=_);rfl))
     all_goals try((with_reducible refine Obl.mk ?_);exact KP)
     all_goals try exact KX
     conv=>whnf
     refine⟨{q:Nat×List TInline // q.1≤l.length∧q.2.length+(atLv lv (l.drop q.1)+chainsFrom (lv+1) l)≤1048576∧q.2++(lvN p l lv (l.length - q.1) q.1++lvls p l n (lv+1))=R},fun q=>⟨[(0,vP p),(1,vPl l),(5,tI .i64 (d:Int)),(8,.r (.c (.own (8,0,0)))),(9,tI .i64 (lv:Int)),(10,tI .i64 (q.1.1:Int))],[((8,0,0),some (.arr true 5 (q.1.2.map TInline.tr)))],[8]⟩,fun q=>l.length - q.1.1,⟨(0,acc),by dsimp only;omega,hac0,hr⟩,?_,?_⟩
     ·skip
      repeat' ((conv=>whnf);first|(with_reducible first|apply Wx|apply W6)|apply oi|(apply fi<;>intro h)|refine⟨_,rfl,?_⟩|((with_reducible show _=_);rfl))
      all_goals try((with_reducible refine Obl.mk ?_);exact KP)
     clear hr hac hac0 h0
     intro⟨⟨i,acc⟩,hi,hac,hr⟩
     dsimp only at hi hac hr ⊢
     by_cases hil:i < l.length
     ·obtain⟨x,hx⟩:=get_of_lt hil
      have hcl:(x.fItem.fChain.map intRow).length=x.fItem.fChain.length:=by simp
      have hcx:=hcs x (List.mem_of_getElem? hx)
      have hxo:=hnm x (List.mem_of_getElem? hx)
      rw[lvN_step hx]at hr
      rw[atLv_drop hx]at hac
      by_cases hcb:lv < x.fItem.fChain.length
      ·obtain⟨c,hc⟩:=get_of_lt hcb
       rw[if_pos hcb]at hac
       rw[hc]at hr
       dsimp only at hr
       have hN:=s_impl_nameAt p x.fItem lv hpl (by omega)
       obtain⟨nm,hnmE⟩:∃nm,nameAtI p x.fItem lv=nm:=⟨_,rfl⟩
       rw[hnmE]at hN hr
       have hrl:=runN_le (p:=p) (ch:=x.fItem.fChain) (lv:=lv) (nm:=nm) (l:=l.drop (i+1)) (k:=i+1)
       rw[List.length_drop]at hrl
       obtain⟨E,hE⟩:∃E,runN p x.fItem.fChain lv nm (l.drop (i+1)) (i+1)=E:=⟨_,rfl⟩
       rw[hE]at hr hrl
       repeat' ((conv=>whnf);first|(with_reducible first|apply Wx|apply W6)|apply oi|(apply fi<;>intro h)|refine⟨i,x.tr,rfl,map_get hx,?_⟩|refine cl hN ?_|refine⟨_,rfl,?_⟩|((with_reducible show _=_);rfl))
       all_goals try((with_reducible refine Obl.mk ?_);exact KP)
       all_goals try exact KX
       all_goals try(exfalso;have h':=of_decide_eq_true h;rw[hcl]at h';omega)
       conv=>whnf
       refine⟨{k:Nat // i < k∧k≤l.length∧runN p x.fItem.fChain lv nm (l.drop k) k=E},fun q=>⟨[(0,vP p),(1,vPl l),(5,tI .i64 (d:Int)),(8,.r (.c (.own (8,0,0)))),(9,tI .i64 (lv:Int)),(10,tI .i64 (i:Int)),(11,.r (.c (.t (.lst 1 (x.fItem.fChain.map intRow))))),(12,tI .i64 (q.1:Int)),(13,tS nm)],[((8,0,0),some (.arr true 5 (acc.map TInline.tr)))],[8]⟩,fun q=>l.length - q.1,⟨i+1,by omega,by omega,hE⟩,?_,?_⟩
       ·skip
        repeat' ((conv=>whnf);first|(with_reducible first|apply Wx|apply W6)|apply oi|(apply fi<;>intro h)|refine⟨_,rfl,?_⟩|((with_reducible show _=_);rfl))
        all_goals try((with_reducible refine Obl.mk ?_);exact KP)
        all_goals try exact⟨K2⟩
        all_goals try exact⟨by dsimp only;congr 1;omega⟩
       intro⟨k,hik,hkl,hk⟩
       dsimp only at hik hkl hk ⊢
       by_cases hkl2:k < l.length
       ·obtain⟨y,hy⟩:=get_of_lt hkl2
        have hcy:=hcs y (List.mem_of_getElem? hy)
        have hcly:(y.fItem.fChain.map intRow).length=y.fItem.fChain.length:=by simp
        have hN2:=s_impl_nameAt p y.fItem lv hpl (by omega)
        rw[runN_at hy,joinsI]at hk
        generalize nameAtI p y.fItem lv=ny at *
        by_cases hcy2:lv < y.fItem.fChain.length
        ·rw[decide_eq_true hcy2,Bool.true_and]at hk
         have hQ:=s_slices_EqualI (y.fItem.fChain.take (lv+1)) (x.fItem.fChain.take (lv+1)) (by simp;omega) (by simp;omega)
         rw[List.map_take,List.map_take]at hQ
         have hle1:lv+1≤(y.fItem.fChain.map intRow).length:=by rw[hcly];omega
         have hle2:lv+1≤(x.fItem.fChain.map intRow).length:=by rw[hcl];omega
         cases hq:(y.fItem.fChain.take (lv+1)==x.fItem.fChain.take (lv+1))with
         | false=>
          rw[hq]at hQ hk
          rw[Bool.false_and,if_neg (by simp)]at hk
          subst hk
          repeat' ((conv=>whnf);first|(with_reducible first|apply Wx|apply W6)|apply oi|(apply fi<;>intro h)|refine⟨k,y.tr,rfl,map_get hy,?_⟩|refine⟨0,lv+1,rfl,hwl,(by omega),hle1,?_⟩|refine⟨0,lv+1,rfl,hwl,(by omega),hle2,?_⟩|refine cl hQ ?_|refine cl hN2 ?_|refine⟨_,rfl,?_⟩|((with_reducible show _=_);rfl))
          all_goals try((with_reducible refine Obl.mk ?_);exact KP)
          all_goals try exact KX
          obtain⟨z,hz⟩:=get_of_lt (l:=l) (k:=k - 1) (by omega)
          rw[hz]at hr
          dsimp only at hr
          have hwk:IntKind.i64.wrap ((k:Int) - 1)=((k - 1:Nat):Int):=by rw[IntWalk.i64_in _ (by omega)];omega
          have hzo:=hnm z (List.mem_of_getElem? hz)
          have hEP:=s_impl_endOfPlace z hzo.1 hzo.2
          have hat:=atLv_le (lv:=lv) (l:=l) (show i+1≤k by omega)
          repeat' ((conv=>whnf);first|(with_reducible first|apply Wx|apply W6)|apply oi|(apply fi<;>intro h)|refine⟨i,x.tr,rfl,map_get hx,?_⟩|refine⟨(k - 1),z.tr,hwk,map_get hz,?_⟩|refine⟨lv,(intRow c),rfl,map_get hc,?_⟩|refine cl hEP ?_|refine⟨_,rfl,?_⟩|((with_reducible show _=_);rfl))
          all_goals try((with_reducible refine Obl.mk ?_);exact KP)
          all_goals try exact⟨⟨by simp <;> omega,by simp <;> omega⟩⟩
          conv=>whnf
          refine⟨⟨(k,acc++[inlRec p lv x c z]),by dsimp only;omega,by simp;omega,by rw[←hr];simp⟩,?_,by dsimp only;omega⟩
          repeat' ((conv=>whnf);first|(with_reducible first|apply Wx|apply W6)|apply oi|(apply fi<;>intro h)|refine⟨_,rfl,?_⟩|((with_reducible show _=_);rfl))
          all_goals try((with_reducible refine Obl.mk ?_);exact KP)
          all_goals try exact⟨by simp[inlRec,TInline.tr,hnmE]⟩
         | true=>
          rw[hq]at hQ hk
          rw[Bool.true_and]at hk
          by_cases hny:ny=nm
          ·rw[beq_iff_eq.2 hny,if_pos rfl]at hk
           repeat' ((conv=>whnf);first|(with_reducible first|apply Wx|apply W6)|apply oi|(apply fi<;>intro h)|refine⟨k,y.tr,rfl,map_get hy,?_⟩|refine⟨0,lv+1,rfl,hwl,(by omega),hle1,?_⟩|refine⟨0,lv+1,rfl,hwl,(by omega),hle2,?_⟩|refine cl hQ ?_|refine cl hN2 ?_|refine⟨_,rfl,?_⟩|((with_reducible show _=_);rfl))
           all_goals try((with_reducible refine Obl.mk ?_);exact KP)
           all_goals try exact KX
           all_goals try(exfalso;simp_all;done)
           conv=>whnf
           refine⟨⟨k+1,by omega,by omega,hk⟩,?_,by dsimp only;omega⟩
           repeat' ((conv=>whnf);first|(with_reducible first|apply Wx|apply W6)|apply oi|(apply fi<;>intro h)|refine⟨_,rfl,?_⟩|((with_reducible show _=_);rfl))
           all_goals try((with_reducible refine Obl.mk ?_);exact KP)
           all_goals try exact⟨K2⟩
          ·rw[beq_eq_false_iff_ne.2 hny,if_neg (by simp)]at hk
           subst hk
           repeat' ((conv=>whnf);first|(with_reducible first|apply Wx|apply W6)|apply oi|(apply fi<;>intro h)|refine⟨k,y.tr,rfl,map_get hy,?_⟩|refine⟨0,lv+1,rfl,hwl,(by omega),hle1,?_⟩|refine⟨0,lv+1,rfl,hwl,(by omega),hle2,?_⟩|refine cl hQ ?_|refine cl hN2 ?_|refine⟨_,rfl,?_⟩|((with_reducible show _=_);rfl))
           all_goals try((with_reducible refine Obl.mk ?_);exact KP)
           all_goals try exact KX
           all_goals try(exfalso;simp_all;done)
           obtain⟨z,hz⟩:=get_of_lt (l:=l) (k:=k - 1) (by omega)
           rw[hz]at hr
           dsimp only at hr
           have hwk:IntKind.i64.wrap ((k:Int) - 1)=((k - 1:Nat):Int):=by rw[IntWalk.i64_in _ (by omega)];omega
           have hzo:=hnm z (List.mem_of_getElem? hz)
           have hEP:=s_impl_endOfPlace z hzo.1 hzo.2
           have hat:=atLv_le (lv:=lv) (l:=l) (show i+1≤k by omega)
           repeat' ((conv=>whnf);first|(with_reducible first|apply Wx|apply W6)|apply oi|(apply fi<;>intro h)|refine⟨i,x.tr,rfl,map_get hx,?_⟩|refine⟨(k - 1),z.tr,hwk,map_get hz,?_⟩|refine⟨lv,(intRow c),rfl,map_get hc,?_⟩|refine cl hEP ?_|refine⟨_,rfl,?_⟩|((with_reducible show _=_);rfl))
           all_goals try((with_reducible refine Obl.mk ?_);exact KP)
           all_goals try exact⟨⟨by simp <;> omega,by simp <;> omega⟩⟩
           conv=>whnf
           refine⟨⟨(k,acc++[inlRec p lv x c z]),by dsimp only;omega,by simp;omega,by rw[←hr];simp⟩,?_,by dsimp only;omega⟩
           repeat' ((conv=>whnf);first|(with_reducible first|apply Wx|apply W6)|apply oi|(apply fi<;>intro h)|refine⟨_,rfl,?_⟩|((with_reducible show _=_);rfl))
           all_goals try((with_reducible refine Obl.mk ?_);exact KP)
           all_goals try exact⟨by simp[inlRec,TInline.tr,hnmE]⟩
        ·rw[decide_eq_false hcy2,Bool.false_and,if_neg (by simp)]at hk
         subst hk
         repeat' ((conv=>whnf);first|(with_reducible first|apply Wx|apply W6)|apply oi|(apply fi<;>intro h)|refine⟨k,y.tr,rfl,map_get hy,?_⟩|refine⟨_,rfl,?_⟩|((with_reducible show _=_);rfl))
         all_goals try((with_reducible refine Obl.mk ?_);exact KP)
         all_goals try exact KX
         all_goals try(exfalso;have h':=of_decide_eq_true h;rw[hcly]at h';omega)
         obtain⟨z,hz⟩:=get_of_lt (l:=l) (k:=k - 1) (by omega)
         rw[hz]at hr
         dsimp only at hr
         have hwk:IntKind.i64.wrap ((k:Int) - 1)=((k - 1:Nat):Int):=by rw[IntWalk.i64_in _ (by omega)];omega
         have hzo:=hnm z (List.mem_of_getElem? hz)
         have hEP:=s_impl_endOfPlace z hzo.1 hzo.2
         have hat:=atLv_le (lv:=lv) (l:=l) (show i+1≤k by omega)
         repeat' ((conv=>whnf);first|(with_reducible first|apply Wx|apply W6)|apply oi|(apply fi<;>intro h)|refine⟨i,x.tr,rfl,map_get hx,?_⟩|refine⟨(k - 1),z.tr,hwk,map_get hz,?_⟩|refine⟨lv,(intRow c),rfl,map_get hc,?_⟩|refine cl hEP ?_|refine⟨_,rfl,?_⟩|((with_reducible show _=_);rfl))
         all_goals try((with_reducible refine Obl.mk ?_);exact KP)
         all_goals try exact⟨⟨by simp <;> omega,by simp <;> omega⟩⟩
         conv=>whnf
         refine⟨⟨(k,acc++[inlRec p lv x c z]),by dsimp only;omega,by simp;omega,by rw[←hr];simp⟩,?_,by dsimp only;omega⟩
         repeat' ((conv=>whnf);first|(with_reducible first|apply Wx|apply W6)|apply oi|(apply fi<;>intro h)|refine⟨_,rfl,?_⟩|((with_reducible show _=_);rfl))
         all_goals try((with_reducible refine Obl.mk ?_);exact KP)
         all_goals try exact⟨by simp[inlRec,TInline.tr,hnmE]⟩
       ·rw[runN_end (by omega)]at hk
        subst hk
        repeat' ((conv=>whnf);first|(with_reducible first|apply Wx|apply W6)|apply oi|(apply fi<;>intro h)|refine⟨_,rfl,?_⟩|((with_reducible show _=_);rfl))
        all_goals try((with_reducible refine Obl.mk ?_);exact KP)
        all_goals try exact KX
        obtain⟨z,hz⟩:=get_of_lt (l:=l) (k:=k - 1) (by omega)
        rw[hz]at hr
        dsimp only at hr
        have hwk:IntKind.i64.wrap ((k:Int) - 1)=((k - 1:Nat):Int):=by rw[IntWalk.i64_in _ (by omega)];omega
        have hzo:=hnm z (List.mem_of_getElem? hz)
        have hEP:=s_impl_endOfPlace z hzo.1 hzo.2
        have hat:=atLv_le (lv:=lv) (l:=l) (show i+1≤k by omega)
        repeat' ((conv=>whnf);first|(with_reducible first|apply Wx|apply W6)|apply oi|(apply fi<;>intro h)|refine⟨i,x.tr,rfl,map_get hx,?_⟩|refine⟨(k - 1),z.tr,hwk,map_get hz,?_⟩|refine⟨lv,(intRow c),rfl,map_get hc,?_⟩|refine cl hEP ?_|refine⟨_,rfl,?_⟩|((with_reducible show _=_);rfl))
        all_goals try((with_reducible refine Obl.mk ?_);exact KP)
        all_goals try exact⟨⟨by simp <;> omega,by simp <;> omega⟩⟩
        conv=>whnf
        refine⟨⟨(k,acc++[inlRec p lv x c z]),by dsimp only;omega,by simp;omega,by rw[←hr];simp⟩,?_,by dsimp only;omega⟩
        repeat' ((conv=>whnf);first|(with_reducible first|apply Wx|apply W6)|apply oi|(apply fi<;>intro h)|refine⟨_,rfl,?_⟩|((with_reducible show _=_);rfl))
        all_goals try((with_reducible refine Obl.mk ?_);exact KP)
        all_goals try exact⟨by simp[inlRec,TInline.tr,hnmE]⟩
      ·rw[if_neg hcb,Nat.zero_add]at hac
       rw[List.getElem?_eq_none (by omega)]at hr
       dsimp only at hr
       repeat' ((conv=>whnf);first|(with_reducible first|apply Wx|apply W6)|apply oi|(apply fi<;>intro h)|refine⟨i,x.tr,rfl,map_get hx,?_⟩|refine⟨_,rfl,?_⟩|((with_reducible show _=_);rfl))
       all_goals try((with_reducible refine Obl.mk ?_);exact KP)
       all_goals try exact KX
       all_goals try(exfalso;have h':=of_decide_eq_false h;rw[hcl]at h';omega)
       conv=>whnf
       refine⟨⟨(i+1,acc),by dsimp only;omega,hac,hr⟩,?_,by dsimp only;omega⟩
       repeat' ((conv=>whnf);first|(with_reducible first|apply Wx|apply W6)|apply oi|(apply fi<;>intro h)|refine⟨_,rfl,?_⟩|((with_reducible show _=_);rfl))
       all_goals try((with_reducible refine Obl.mk ?_);exact KP)
       all_goals try exact⟨K2⟩
     ·rw[show l.length - i=0 by omega,lvN,List.nil_append]at hr
      rw[List.drop_eq_nil_of_le (by omega)]at hac
      have hac2:acc.length+chainsFrom (lv+1) l≤1048576:=by
       have:atLv lv ([]:List TPlace)=0:=rfl
       omega
      repeat' ((conv=>whnf);first|(with_reducible first|apply Wx|apply W6)|apply oi|(apply fi<;>intro h)|refine⟨_,rfl,?_⟩|((with_reducible show _=_);rfl))
      all_goals try((with_reducible refine Obl.mk ?_);exact KP)
      all_goals try exact KX
      conv=>whnf
      refine⟨⟨(lv+1,acc),by dsimp only;omega,hac2,by dsimp only;rw[hn2];exact hr⟩,?_,by dsimp only;omega⟩
      repeat' ((conv=>whnf);first|(with_reducible first|apply Wx|apply W6)|apply oi|(apply fi<;>intro h)|refine⟨_,rfl,?_⟩|((with_reducible show _=_);rfl))
      all_goals try((with_reducible refine Obl.mk ?_);exact KP)
      all_goals try exact⟨by dsimp only;rw[hwl]⟩
      all_goals try exact⟨K2⟩
    ·rw[show d - lv=0 by omega,lvls,List.append_nil]at hr
     subst hr
     repeat' ((conv=>whnf);first|(with_reducible first|apply Wx|apply W6)|apply oi|(apply fi<;>intro h)|refine⟨_,rfl,?_⟩|((with_reducible show _=_);rfl))
     all_goals try((with_reducible refine Obl.mk ?_);exact KP)
     all_goals try exact KX
end Go.Proofs.YtjmplnfiabmalaaGreat
namespace Go.Proofs.YtjmplnfiabmalaaGreat
open Go.Sim
set_option maxRecDepth 100000
set_option maxHeartbeats 4000000
def DI (it:TItem):Prop:=0≤it.fDepth∧it.fDepth≤1200∧(it.fEntered=true→it.fDepth=0)
def Dp (a b:Gs):Prop:=(∀it∈a.items,DI it)→∀it∈b.items,DI it
theorem Dp.refl (s:Gs):Dp s s:=id
theorem Dp.trans {a b c:Gs}(h:Dp a b)(h':Dp b c):Dp a c:=fun x=>h' (h x)
theorem Dp.same {a b b':Gs}(h:Dp a b)(e:b'.items=b.items):Dp a b':=fun x=>by rw[e];exact h x
section
variable {C:Cx} {x:Sc} {ins:List Nat} {rep:Sc→List Nat→Nat→Nat→Int→Gs→Gs} {line:Nat}
end
end Go.Proofs.YtjmplnfiabmalaaGreat
namespace Go.Proofs.YtjmplnfiabmalaaGreat
open Go.Sim
set_option maxRecDepth 100000
set_option maxHeartbeats 4000000
def oL {α:Type}(o:Option (List α)):List α:=match o with|some l=>l|none=>[]
end Go.Proofs.YtjmplnfiabmalaaGreat
namespace Go.Proofs.YtjmplnfiabmalaaGreat
open Go.Sim
set_option maxRecDepth 100000
set_option maxHeartbeats 4000000
structure PsOk (P:List TPlace):Prop where
 at0:∀x:TPlace,P[0]?=some x→x.fOffset=0
 next:∀(k:Nat) (x y:TPlace),P[k]?=some x→P[k+1]?=some y→y.fOffset=x.fOffset+opSize x.fItem.fOp.fCode
 rng:∀(k:Nat) (x:TPlace),P[k]?=some x→0≤x.fOffset∧x.fOffset≤100000∧1≤opSize x.fItem.fOp.fCode∧opSize x.fItem.fOp.fCode≤5∧0≤x.fItem.fLine∧x.fItem.fLine≤59
 len:P.length≤15000
theorem allPl_split:∀{L:List (Nat×List TPlace)} {k:Nat} {x:TPlace},(allPl L)[k]?=some x→∃i z j,L[i]?=some z∧z.2[j]?=some x∧k=(allPl (L.take i)).length+j
 | [],k,x,h=>by simp[allPl]at h
 | a::L,k,x,h=>by
  have e:allPl (a::L)=a.2++allPl L:=by simp[allPl]
  rw[e,List.getElem?_append]at h
  split at h
  ·exact⟨0,a,k,rfl,h,by simp[allPl]⟩
  ·obtain⟨i,z,j,h1,h2,h3⟩:=allPl_split h
   refine⟨i+1,z,j,by simpa using h1,h2,?_⟩
   rw[List.take_succ_cons,show allPl (a::L.take i)=a.2++allPl (L.take i) by simp[allPl],List.length_append]
   omega
theorem opSize_pos {c a:Int}(h:opOkB c a=true):1≤opSize c∧opSize c≤5:=by
 unfold opOkB at h
 rw[Bool.and_eq_true]at h
 have:=opArg_le c
 rw[opSize,if_pos h.1]
 omega
theorem placesOf_ok {p:List TLine}{b:TBuild}{image:Int}(hs:smallT 1048576 (.lst 4 (p.map TLine.tr))):PsOk (placesOf p b image):=by
 by_cases hc:programOk p=true∧buildOk b=true∧within image 0 1=true
 ·rw[placesOf,if_pos hc]
  obtain⟨h1,h2,_⟩:=hc
  show PsOk (allPl (imgL p b image (funs p).length 0 0))
  obtain⟨h6,h60⟩:=funs_six h1
  have hll:=imgL_len p b image (funs p).length 0 0
  have hlc:=fun x (hx:x∈imgL p b image (funs p).length 0 0)=>(imgL_cap hs hx).1
  have hal:=allPl_cap hlc (Nat.le_refl _)
  rw[List.take_of_length_le (Nat.le_refl _)]at hal
  have hal2:=Nat.mul_le_mul_left 2500 (show(imgL p b image (funs p).length 0 0).length≤6 by omega)
  have key:∀(k:Nat) (x:TPlace),(allPl (imgL p b image (funs p).length 0 0))[k]?=some x→x.fOffset=((codeOf ((allPl (imgL p b image (funs p).length 0 0)).take k)).length:Int)∧opOkB x.fItem.fOp.fCode x.fItem.fOp.fArg=true∧0≤x.fItem.fLine∧x.fItem.fLine≤59:=by
   intro k x hx
   obtain⟨i,z,j,g1,g2,rfl⟩:=allPl_split hx
   obtain⟨hp,ho⟩:=imgL_place hs h1 h2 g1 g2
   have ht:(allPl (imgL p b image (funs p).length 0 0)).take ((allPl ((imgL p b image (funs p).length 0 0).take i)).length+j)=allPl ((imgL p b image (funs p).length 0 0).take i)++z.2.take j:=by
    generalize imgL p b image (funs p).length 0 0=L at *
    have e:L=L.take i++z::L.drop (i+1):=by rw[←drop_at g1,List.take_append_drop]
    have e2:allPl L=allPl (L.take i)++(z.2++allPl (L.drop (i+1))):=by
     conv=>lhs;rw[e]
     simp[allPl]
    rw[e2,List.take_append,Nat.add_sub_cancel_left,List.take_of_length_le (by omega),List.take_append_of_le_length (Nat.le_of_lt (lt_of_get g2))]
   refine⟨by rw[ht,codeOf_append,List.length_append];omega,hp.op,?_⟩
   rcases Nat.eq_zero_or_pos j with rfl|hj
   ·obtain⟨_,g,ln,k1,k2,k3,_⟩:=hp.head rfl
    have:=lt_of_get k3
    omega
   ·obtain⟨_,g,ln,k2,k3,_⟩:=hp.body hj
    have:=lt_of_get k3
    omega
  generalize allPl (imgL p b image (funs p).length 0 0)=P at *
  refine⟨fun x hx=>?_,fun k x y hx hy=>?_,fun k x hx=>?_,by omega⟩
  ·have:=(key 0 x hx).1
   simpa [codeOf]using this
  ·obtain⟨a1,a2,_⟩:=key k x hx
   obtain⟨b1,_⟩:=key (k+1) y hy
   have:=encodeOp_len a2
   rw[b1,a1,take_one hx,codeOf_append,List.length_append,codeOf_one]
   omega
  ·obtain⟨a1,a2,a3,a4⟩:=key k x hx
   have hz:=opSize_pos a2
   have hcl:=codeOf_len (P.take k)
   have hkl:=lt_of_get hx
   have:(P.take k).length=k:=by rw[List.length_take];omega
   omega
 ·rw[placesOf,if_neg hc]
  exact⟨fun x h=>by simp at h,fun k x y h=>by simp at h,fun k x h=>by simp at h,by simp⟩
theorem PsOk.lt {P:List TPlace}(h:PsOk P):∀{n k:Nat} {x y:TPlace},P[k]?=some x→P[k+n+1]?=some y→x.fOffset+opSize x.fItem.fOp.fCode≤y.fOffset
 | 0,k,x,y,hx,hy=>by have:=h.next k x y hx hy;omega
 | n+1,k,x,y,hx,hy=>by
  obtain⟨z,hz⟩:=get_of_lt (l:=P) (k:=k+n+1) (by have:=lt_of_get hy;omega)
  have h1:=h.lt hx hz
  have h2:=h.next (k+n+1) z y hz (by rw[show k+n+1+1=k+(n+1)+1 by omega];exact hy)
  have:=(h.rng _ z hz).2.2.1
  omega
end Go.Proofs.YtjmplnfiabmalaaGreat
namespace Go.Proofs.YtjmplnfiabmalaaGreat
open Go.Sim
set_option maxRecDepth 100000
set_option maxHeartbeats 4000000
def ChK (n:Nat)(ch:List Int):Prop:=ch.length≤3∧∀c∈ch,0≤c∧c < (n:Int)
def ChI (n:Nat)(l:List TItem):Prop:=∀it∈l,ChK n it.fChain
def Cc (n:Nat)(a b:Gs):Prop:=ChI n a.items→ChI n b.items
theorem Cc.refl {n:Nat}(s:Gs):Cc n s s:=id
theorem Cc.trans {n:Nat}{a b c:Gs}(h:Cc n a b)(h':Cc n b c):Cc n a c:=fun x=>h' (h x)
theorem emit_cc {n:Nat}{C:Cx}{s:Gs}{d code arg line:Int}{chain:List Int}(h:ChK n chain):Cc n s (emitG C s d code arg line chain):=by
 intro hs it hit
 simp only[emitG,List.mem_append,List.mem_singleton]at hit
 rcases hit with hit|rfl
 ·exact hs it hit
 ·exact h
theorem setArg_cc {n:Nat}{l:List TItem}(j v:Int)(h:ChI n l):ChI n (setArg l j v):=by
 unfold setArg
 split
 ·split
  ·rename_i x hx
   intro it hit
   rcases List.mem_or_eq_of_mem_set hit with hit|rfl
   ·exact h it hit
   ·exact h x (List.mem_of_getElem? hx)
  ·exact h
 ·exact h
theorem patchL_cc {n:Nat}(v:Int):∀(js:List Int) {l:List TItem},ChI n l→ChI n (patchL l v js)
 | [],_,h=>h
 | j::js,_,h=>patchL_cc v js (setArg_cc j v h)
section
variable {C:Cx} {x:Sc} {ins:List Nat} {rep:Sc→List Nat→Nat→Nat→Int→Gs→Gs} {line m:Nat}
theorem stores_cc {y:Sc}{chain:List Int}(hc:ChK m chain){line:Int}:∀(n:Nat) (d:Int) (s:Gs),Cc m s (storesG C y chain line n d s)
 | 0,d,s=>Cc.refl s
 | n+1,d,s=>by
  rw[storesG]
  exact(emit_cc hc).trans (stores_cc hc n (d - 1) _)
theorem zeros_cc {y:Sc}{chain:List Int}(hc:ChK m chain){line d:Int}:∀(n i:Nat) (s:Gs),Cc m s (zerosG C y chain line d n i s)
 | 0,i,s=>Cc.refl s
 | n+1,i,s=>by
  rw[zerosG]
  exact((emit_cc hc).trans (emit_cc hc)).trans (zeros_cc hc n (i+1) _)
def RepCc (C:Cx)(rep:Sc→List Nat→Nat→Nat→Int→Gs→Gs)(x:Sc)(ins:List Nat):Prop:=
 ∀(line g:Nat) (d:Int) (s:Gs),line < C.p.length→isFun C g→replB C ins g s.items.length=true→Cc C.p.length s (rep x ins line g d s)
theorem fin_cc (hx:ChK C.p.length x.chain)(hrep:RepCc C rep x ins)(hl:line < C.p.length)(t:TTok)(d:Int)(s:Gs):Cc C.p.length s (finG C rep x ins line t d s):=by
 unfold finG
 split
 ·exact emit_cc hx
 split
 ·exact emit_cc hx
 split
 ·split
  ·rename_i g hg
   obtain⟨_,ln,k1,k2,_⟩:=find_some hg
   split
   ·rename_i hr
    exact hrep line g d s hl ⟨ln,k1,k2⟩ hr
   ·exact emit_cc hx
  ·exact Cc.refl s
 ·exact emit_cc hx
mutual
theorem genE_cc (hx:ChK C.p.length x.chain)(hrep:RepCc C rep x ins)(hl:line < C.p.length):∀(e:Ex) (d:Int) (s:Gs),Cc C.p.length s (genE C rep x ins line e d s)
 | .node t es,d,s=>by
  rw[genE]
  exact(genEs_cc hx hrep hl es d s).trans (fin_cc hx hrep hl t _ _)
theorem genEs_cc (hx:ChK C.p.length x.chain)(hrep:RepCc C rep x ins)(hl:line < C.p.length):∀(es:List Ex) (d:Int) (s:Gs),Cc C.p.length s (genEs C rep x ins line es d s)
 | [],d,s=>by rw[genEs];exact Cc.refl s
 | a::es,d,s=>by
  rw[genEs]
  exact(genE_cc hx hrep hl a d s).trans (genEs_cc hx hrep hl es (d+1) _)
end
theorem space_cc (hx:ChK m x.chain){d:Int}(s:Gs):Cc m s (spaceG C x line d s):=by
 unfold spaceG
 split
 ·exact emit_cc hx
 ·exact Cc.refl s
theorem pre_cc (hx:ChK m x.chain){g:Nat}{d:Int}(s:Gs):Cc m s (preG C x line g d s):=by
 unfold preG
 exact((show Cc m s ⟨s.items,max s.most (topOf C x+(localsOf C.p (g:Int)).length),s.start⟩ from id).trans (stores_cc hx _ d _)).trans (zeros_cc hx _ _ _)
theorem leave_cc (hx:ChK m x.chain)(k:Nat)(last:Bool){d:Int}(L:Ls):Cc m L.g (leaveG C x k last d L).g:=by
 unfold leaveG
 split
 ·split
  ·exact emit_cc hx
  ·exact emit_cc hx
 split
 ·exact Cc.refl _
 ·exact emit_cc hx
theorem stepA_cc (hx:ChK C.p.length x.chain)(hrep:RepCc C rep x ins){k:Nat}(hk:k < C.p.length)(ln:TLine){base:Int}(L:Ls):Cc C.p.length L.g (stepA C rep x ins base k ln L).g:=by
 unfold stepA
 split
 ·intro h
  exact setArg_cc _ _ (emit_cc (C:=C) hx h)
 split
 ·split
  ·exact Cc.trans (b:=emitG C L.g base 0 0 k x.chain) (emit_cc hx) (leave_cc hx k true (d:=base+1) {L with g:=emitG C L.g base 0 0 k x.chain})
  split
  ·exact emit_cc hx
  ·exact Cc.refl _
 ·have tg:Cc C.p.length L.g (genE C rep x ins k (exL ln.fExpr) base ⟨L.g.items,L.g.most,true⟩):=genE_cc hx hrep hk (exL ln.fExpr) base ⟨L.g.items,L.g.most,true⟩
  dsimp only
  split
  ·exact tg.trans (emit_cc hx)
  split
  ·exact tg.trans (emit_cc hx)
  split
  ·exact tg.trans (leave_cc hx k false (d:=base+1) {L with g:=genE C rep x ins k (exL ln.fExpr) base ⟨L.g.items,L.g.most,true⟩,heads:=L.heads.set k L.g.items.length})
  ·exact tg.trans (emit_cc hx)
theorem stepB_cc (k:Nat)(ln:TLine)(L:Ls):Cc m L.g (stepB C x k ln L).g:=by
 unfold stepB
 split
 ·exact fun h=>setArg_cc _ _ h
 ·exact Cc.refl _
theorem runL_cc (hx:ChK C.p.length x.chain)(hrep:RepCc C rep x ins){base:Int}:∀(n k:Nat) (L:Ls),Cc C.p.length L.g (runL C rep x ins base n k L).g
 | 0,k,L=>by rw[runL];exact Cc.refl _
 | n+1,k,L=>by
  rw[runL]
  split
  ·rename_i ln hk
   exact((stepA_cc hx hrep (lt_of_get hk) ln L).trans (stepB_cc k ln _)).trans (runL_cc hx hrep n (k+1) _)
  ·exact Cc.refl _
theorem linesG_cc (hx:ChK C.p.length x.chain)(hrep:RepCc C rep x ins){base:Int}(s:Gs):Cc C.p.length s (linesG C rep x ins base s).1:=by
 unfold linesG
 exact runL_cc hx hrep _ _ (startL C s)
end
theorem repN_cc {C:Cx}(hC:CxOk C):∀(lev:Nat) {x:Sc} {ins:List Nat},ScOk C x ins→ChK C.p.length x.chain→RepCc C (repN C lev) x ins
 | 0,x,ins,hx,hc,line,g,d,s,_,_,_=>Cc.refl s
 | lev+1,x,ins,hx,hc,line,g,d,s,hl,hg,hr=>by
  obtain⟨r1,r2,r3,_⟩:=replB_spec hr
  have hin:=hC.inl
  have hch:=hx.chain
  have hy:=inSc_ok hC hx line hg
  have hcy:ChK C.p.length (inSc C x line g).chain:=by
   refine⟨by simp only[inSc,List.length_append,List.length_cons,List.length_nil];omega,fun c hcm=>?_⟩
   simp only[inSc,List.mem_append,List.mem_singleton]at hcm
   rcases hcm with hcm|rfl
   ·exact hc.2 c hcm
   ·omega
  have t1:=pre_cc (C:=C) (x:=x) (line:=line) hc (g:=g) (d:=d) s
  have t2:=space_cc (C:=C) (line:=line) hc (d:=d - argsN C.p g) (preG C x line g d s)
  have t3:=linesG_cc hcy (repN_cc hC lev hy hcy) (base:=d - argsN C.p g) (spaceG C x line (d - argsN C.p g) (preG C x line g d s))
  intro h
  exact patchL_cc _ _ (((t1.trans t2).trans t3) h)
theorem compileF_cc {p:List TLine}{f:Int}{b:TBuild}(hs:smallT 1048576 (.lst 4 (p.map TLine.tr)))(h1:programOk p=true)(h2:buildOk b=true)(h3:0≤f)(h4:f < (funs p).length):ChI p.length (compileF p f b):=by
 obtain⟨g,C,k1,k2,k3,k4,k5,k6,k7,k8,k9⟩:=compiled_of hs h1 h2 h3 h4
 have hS:ScOk C (outerSc C g) [g]:=⟨k7,rfl,⟨Int.le_refl _,by simp[outerSc]⟩,rfl,by simp[outerSc],fun _=>k5,rfl⟩
 have hlen:C.p.length=p.length:=by rw[k3];exact(foldIf_alike p b).len
 have hc:ChK C.p.length (outerSc C g).chain:=⟨by simp[outerSc],fun c h=>by simp[outerSc]at h⟩
 rw[k8,←hlen]
 refine linesG_cc hc (repN_cc k2 C.b.fInline.toNat hS hc) (base:=C.words) (headG C g) ?_
 exact emit_cc (C:=C) (s:=⟨[],(localsOf C.p (g:Int)).length - C.args,false⟩) (d:=0) ⟨by simp,fun c h=>by simp at h⟩ (fun it h=>by cases h)
structure ChP (p:List TLine) (x:TPlace):Prop where
 chain:ChK p.length x.fItem.fChain
 line:0≤x.fItem.fLine∧x.fItem.fLine < p.length
theorem placesOf_cc {p:List TLine}{b:TBuild}{image:Int}(hs:smallT 1048576 (.lst 4 (p.map TLine.tr))):∀x∈placesOf p b image,ChP p x:=by
 by_cases hc:programOk p=true∧buildOk b=true∧within image 0 1=true
 ·rw[placesOf,if_pos hc]
  obtain⟨h1,h2,_⟩:=hc
  show ∀x∈allPl (imgL p b image (funs p).length 0 0),ChP p x
  intro x hx
  obtain⟨k,hk⟩:=List.mem_iff_getElem?.1 hx
  obtain⟨i,z,j,g1,g2,rfl⟩:=allPl_split hk
  have hline:0≤x.fItem.fLine∧x.fItem.fLine < p.length:=by
   obtain⟨hp,_⟩:=imgL_place hs h1 h2 g1 g2
   rcases Nat.eq_zero_or_pos j with rfl|hj
   ·obtain⟨_,g,ln,k1,k2,k3,_⟩:=hp.head rfl
    have:=lt_of_get k3
    omega
   ·obtain⟨_,g,ln,k2,k3,_⟩:=hp.body hj
    have:=lt_of_get k3
    omega
  refine⟨?_,hline⟩
  obtain⟨e1,e2,_⟩:=imgL_at hs h1 h2 (by omega) g1
  rw[e1]at g2
  have hj:j < (compileF p (z.1:Int) b).length:=by have:=lt_of_get g2;rwa [placesF_len]at this
  obtain⟨it,hit⟩:=get_of_lt hj
  rw[placesF_get hit]at g2
  injection g2 with g2
  subst g2
  have:=compileF_cc (f:=(z.1:Int)) hs h1 h2 (by omega) (by omega) it (List.mem_of_getElem? hit)
  dsimp only
  unfold jumpI
  split
  ·exact this
  ·exact this
 ·rw[placesOf,if_neg hc]
  intro x hx;cases hx
theorem nameTo_ok {p:List TLine}(h:programOk p=true):∀{n:Nat},n+1≤p.length→nameOk (nameTo p (n+1))=true:=by
 unfold programOk at h
 simp only[Bool.and_eq_true,decide_eq_true_eq]at h
 obtain⟨_,_,h3,h4,_⟩:=h
 intro n
 induction n with
 | zero=>
  intro hn
  obtain⟨x,hx⟩:=get_of_lt (l:=p) (k:=0) (by omega)
  rw[nameTo_at hx]
  have hl:=List.all_eq_true.1 h3 x (List.mem_of_getElem? hx)
  have h0:x.fKind=0:=by
   cases p with
   | nil=>simp at hx
   | cons a p=>
    simp only[List.getElem?_cons_zero,Option.some.injEq]at hx
    subst hx
    simp only[headOk,Bool.and_eq_true,beq_iff_eq]at h4
    exact h4.1
  unfold lineOk at hl
  simp only[Bool.and_eq_true]at hl
  have:=hl.2.1
  rw[if_pos (.inl h0)]at this
  rw[if_pos h0]
  exact this
 | succ n ih=>
  intro hn
  obtain⟨x,hx⟩:=get_of_lt (l:=p) (k:=n+1) (by omega)
  rw[nameTo_at hx]
  by_cases h0:x.fKind=0
  ·have hl:=List.all_eq_true.1 h3 x (List.mem_of_getElem? hx)
   unfold lineOk at hl
   simp only[Bool.and_eq_true]at hl
   have:=hl.2.1
   rw[if_pos (.inl h0)]at this
   rw[if_pos h0]
   exact this
  ·rw[if_neg h0]
   exact ih (by omega)
theorem lineName_ok {p:List TLine}(h:programOk p=true){c:Int}(h0:0≤c)(h1:c < p.length):nameOk (functionOfLine p c)=true:=by
 rw[functionOfLine,if_pos ⟨h0,h1⟩,show(c+1).toNat=c.toNat+1 by omega]
 exact nameTo_ok h (by omega)
end Go.Proofs.YtjmplnfiabmalaaGreat
namespace Go.Proofs.YtjmplnfiabmalaaGreat
open Go.Sim
set_option maxRecDepth 100000
set_option maxHeartbeats 4000000
def inAt (off:Int)(x:TInline):Bool:=decide (x.fStart≤off) && decide (off < x.fEnd)
def inlinesAt (l:List TInline)(off:Int):List TInline:=if inlinesOk l then l.filter (inAt off)else []
theorem filter_take {α:Type}{p:α→Bool}{l:List α}{k:Nat}{x:α}(h:l[k]?=some x):(l.take (k+1)).filter p=(l.take k).filter p++(if p x then [x]else []):=by
 obtain⟨hk,rfl⟩:=List.getElem?_eq_some_iff.1 h
 rw[List.take_succ_eq_append_getElem hk,List.filter_append]
 congr 1
 by_cases hp:p l[k] <;> simp[hp]
theorem s_impl_InlinesAt (l:List TInline)(off:Int)(hl:l.length≤1048576)(hn:∀x∈l,x.fName.length≤1099511627775):Sim.Spec Tryz.prog 15 [tvL 5 (l.map TInline.tr),tvI off] (rL 5 ((inlinesAt l off).map TInline.tr)):=by
 refine spec_of_W hΓ hmix Tryz.func15 rfl (by decide) rfl ?_
 have hlen:(l.map TInline.tr).length=l.length:=by simp
 unfold inlinesAt
 cases hok:inlinesOk l with
 | false=>
  have hs:=s_impl_InlinesOk l hl hn
  rw[hok]at hs
  repeat' ((conv=>whnf);first|refine Or.inl ?_|apply oi|(apply fi<;>intro h)|refine ci hs (ai rfl trivial) ?_|refine⟨_,rfl,?_⟩|((with_reducible show _=_);rfl))
  all_goals try((with_reducible refine Obl.mk ?_);exact KO)
 | true=>
  have hs:=s_impl_InlinesOk l hl hn
  rw[hok]at hs
  rw[if_pos rfl]
  repeat' ((conv=>whnf);first|refine Or.inl ?_|apply oi|(apply fi<;>intro h)|refine ci hs (ai rfl trivial) ?_|refine⟨_,rfl,?_⟩|((with_reducible show _=_);rfl))
  all_goals try((with_reducible refine Obl.mk ?_);exact KO)
  conv=>whnf
  refine⟨{k:Nat // k≤l.length},fun k=>⟨[(1,tI .i64 off),(5,.r (.c (.own (11,0,0)))),(12,.r (.c (.t (.lst 5 (l.map TInline.tr))))),(13,tI .i64 ((l.map TInline.tr).length:Int)),(14,tI .i64 (k.1:Int))],[((11,0,0),some (.arr true 5 (((l.take k.1).filter (inAt off)).map TInline.tr)))],[11]⟩,fun k=>l.length - k.1,⟨0,by omega⟩,?_,?_⟩
  ·skip
   repeat' ((conv=>whnf);first|refine Or.inl ?_|apply oi|(apply fi<;>intro h)|refine⟨_,rfl,?_⟩|((with_reducible show _=_);rfl))
   all_goals try((with_reducible refine Obl.mk ?_);exact KO)
  intro⟨k,hk⟩
  dsimp only
  by_cases hlt:k < l.length
  ·obtain⟨x,hx⟩:=get_of_lt hlt
   have hf:=filter_take (p:=inAt off) hx
   have hfl:((l.take k).filter (inAt off)).length≤k:=Nat.le_trans (List.length_filter_le _ _) (by simp;omega)
   repeat' ((conv=>whnf);first|refine Or.inl ?_|apply oi|(apply fi<;>intro h)|refine⟨k,x.tr,rfl,map_get hx,?_⟩|refine⟨_,rfl,?_⟩|((with_reducible show _=_);rfl))
   all_goals try((with_reducible refine Obl.mk ?_);exact KO)
   all_goals try exact KX
   all_goals try exact⟨⟨by simp only[List.length_map,List.length_cons,List.length_nil];omega,by simp only[List.length_map,List.length_cons,List.length_nil];omega⟩⟩
   all_goals conv=>whnf
   all_goals refine⟨⟨k+1,by omega⟩,?_,by dsimp only;omega⟩
   repeat' ((conv=>whnf);first|refine Or.inl ?_|apply oi|(apply fi<;>intro h)|refine⟨_,rfl,?_⟩|((with_reducible show _=_);rfl))
   all_goals try((with_reducible refine Obl.mk ?_);exact KO)
   all_goals try exact⟨K2⟩
   all_goals first
    |(have hp:inAt off x=true:=by(simp_all[inAt]) <;> (intros;omega)
      rw[hp,if_pos rfl]at hf
      exact⟨by dsimp only;rw[hf,List.map_append];rfl⟩)
    |(have hp:inAt off x=false:=by(simp_all[inAt]) <;> (intros;omega)
      rw[hp,if_neg (by simp),List.append_nil]at hf
      exact⟨by dsimp only;rw[hf]⟩)
  ·have hge:l.length≤k:=by omega
   rw[List.take_of_length_le hge]
   repeat' ((conv=>whnf);first|refine Or.inl ?_|apply oi|(apply fi<;>intro h)|refine⟨_,rfl,?_⟩|((with_reducible show _=_);rfl))
   all_goals try((with_reducible refine Obl.mk ?_);exact KO)
   all_goals try exact KX
end Go.Proofs.YtjmplnfiabmalaaGreat
namespace Go.Proofs.YtjmplnfiabmalaaGreat
open Go.Sim
set_option maxRecDepth 100000
set_option maxHeartbeats 4000000
def decInlL (s:List UInt8):Nat→Nat→Option (List TInline)
 | 0,_=>some []
 | c+1,at'=>match unpackInts s (at':Int)with
  | some ([x0,x1,x2,x3],n)=>(match unpackT s ((at'+n:Nat):Int)with
   | some (name,m)=>(decInlL s c (at'+n+m)).map (⟨x0,x1,x2,x3,name⟩::·)
   | none=>none)
  | _=>none
def decInlR (s:List UInt8):Option (List TInline):=match dec s 0 with
 | none=>none
 | some x=>decInlL s x.1 x.2
def decodeInlines (s:List UInt8):Option (List TInline):=match decInlR s with
 | none=>none
 | some l=>if encodeInlines l=s then some l else none
theorem un_z {s:List UInt8}{p:Nat}{ns:List Int}{z:Nat}(h:unpackInts s (p:Int)=some (ns,z)):1≤z∧p+z≤s.length:=by
 unfold unpackInts at h
 match hd:dec s (p:Int)with
 | none=>rw[hd]at h;cases h
 | some (a,b)=>
  rw[hd]at h
  have h1:=dec_some hd
  have h2:=unpackL_len h
  rw[Int.toNat_natCast]at h1 h2
  dsimp only at h2
  have:=h2.2.2 h1.2.2.2.1
  omega
theorem unT_z {s:List UInt8}{p:Nat}{t:List UInt8}{z:Nat}(h:unpackT s (p:Int)=some (t,z)):p+z≤s.length∧t.length≤s.length:=by
 unfold unpackT at h
 match hd:dec s (p:Int)with
 | none=>rw[hd]at h;cases h
 | some (a,b)=>
  rw[hd]at h
  dsimp only at h
  split at h
  ·injection h with h
   injection h with h1 h2
   rw[Int.toNat_natCast]at *
   subst h1
   constructor
   ·omega
   ·simp;omega
  ·cases h
theorem decInlL_len {s:List UInt8}:∀{c p:Nat} {l:List TInline},decInlL s c p=some l→p≤s.length→l.length=c∧p+c≤s.length∧∀x∈l,x.fName.length≤s.length
 | 0,p,l,h,hp=>by
  rw[decInlL]at h
  injection h with h
  subst h
  exact⟨rfl,hp,fun x hx=>by cases hx⟩
 | c+1,p,l,h,hp=>by
  rw[decInlL]at h
  split at h
  ·rename_i x0 x1 x2 x3 n hu
   split at h
   ·rename_i name m ht
    rw[Option.map_eq_some_iff]at h
    obtain⟨l',h',rfl⟩:=h
    have h1:=un_z hu
    have h2:=unT_z ht
    have h3:=decInlL_len h' (by omega)
    refine⟨by simp[h3.1],by omega,fun x hx=>?_⟩
    rcases List.mem_cons.1 hx with rfl|hx
    ·exact h2.2
    ·exact h3.2.2 x hx
   ·cases h
  ·cases h
theorem inl_none1 {s:List UInt8}{m p:Nat}(hu:unpackInts s (p:Int)=none):decInlL s (m+1) p=none:=by rw[decInlL,hu]
theorem inl_none2 {s:List UInt8}{m p z:Nat}{ns:List Int}(hu:unpackInts s (p:Int)=some (ns,z))(h:ns.length≠4):decInlL s (m+1) p=none:=by
 rw[decInlL,hu]
 match ns,h with
 | [],_=>rfl
 | [_],_=>rfl
 | [_,_],_=>rfl
 | [_,_,_],_=>rfl
 | [_,_,_,_],h=>exact absurd rfl h
 | _::_::_::_::_::_,_=>rfl
theorem inl_none3 {s:List UInt8}{m p z:Nat}{ns:List Int}(hu:unpackInts s (p:Int)=some (ns,z))(ht:unpackT s ((p+z:Nat):Int)=none):decInlL s (m+1) p=none:=by
 by_cases h:ns.length=4
 ·match ns,h with
  | [_,_,_,_],_=>rw[decInlL,hu];dsimp only;rw[ht]
 ·exact inl_none2 hu h
theorem inl_some {s:List UInt8}{m p z y:Nat}{a b c d:Int}{t:List UInt8}(hu:unpackInts s (p:Int)=some ([a,b,c,d],z))(ht:unpackT s ((p+z:Nat):Int)=some (t,y)):decInlL s (m+1) p=(decInlL s m (p+z+y)).map (⟨a,b,c,d,t⟩::·):=by
 rw[decInlL,hu];dsimp only;rw[ht]
abbrev DecIIx (s:List UInt8)(c:Nat)(R:Option (List TInline)):={q:Nat×Nat×List TInline // q.1≤c∧q.2.2.length=q.1∧q.1≤q.2.1∧q.2.1≤s.length∧(∀x∈q.2.2,x.fName.length≤s.length)∧(decInlL s (c - q.1) q.2.1).map (q.2.2++·)=R}
theorem s_impl_DecodeInlines (s:List UInt8)(hs:s.length≤1048576):Sim.Spec Tryz.prog 17 [tvS s] (.tup [.c (.arr 5 ((oL (decodeInlines s)).map TInline.tr)),.c (.t (.bool (decodeInlines s).isSome))]):=by
 refine spec_of_W hΓ hmix Tryz.func17 rfl (by decide) rfl ?_
 have hD:=s_impl_DecodeVarint s 0 hs
 unfold decodeInlines decInlR
 match hd:dec s 0 with
 | none=>
  have hD:=dec_none_spec hD hd
  repeat' ((conv=>whnf);first|refine Or.inl ?_|apply oi|(apply fi<;>intro h)|refine ci hD (ai rfl (ai rfl trivial)) ?_|refine⟨_,rfl,?_⟩|((with_reducible show _=_);rfl))
  all_goals try((with_reducible refine Obl.mk ?_);exact KO)
 | some (c,k0)=>
  have hD:=dec_some_spec hD hd
  obtain⟨h0,h1,h2,h3,h4⟩:=dec_some hd
  rw[show(0:Int).toNat=0 from rfl,Nat.zero_add]at h3
  dsimp only
  generalize hR:decInlL s c k0=R
  by_cases hcs:c≤s.length
  ·skip
   repeat' ((conv=>whnf);first|refine Or.inl ?_|apply oi|(apply fi<;>intro h)|refine ci hD (ai rfl (ai rfl trivial)) ?_|refine⟨_,rfl,?_⟩|((with_reducible show _=_);rfl))
   all_goals try((with_reducible refine Obl.mk ?_);exact KO)
   all_goals try(exfalso;have h':=of_decide_eq_true h;omega;done)
   conv=>whnf
   refine⟨DecIIx s c R,fun q=>⟨[(0,tS s),(4,tI .i64 (c:Int)),(5,tI .i64 (q.1.2.1:Int)),(7,.r (.c (.own (29,0,0)))),(8,tI .i64 (q.1.1:Int))],[((29,0,0),some (.arr true 5 (q.1.2.2.map TInline.tr)))],[29]⟩,fun q=>c - q.1.1,⟨(0,k0,[]),by simp,by simp,by simp,by simpa using h3,by simp,by simpa using hR⟩,?_,?_⟩
   ·skip
    repeat' ((conv=>whnf);first|refine Or.inl ?_|apply oi|(apply fi<;>intro h)|refine⟨_,rfl,?_⟩|((with_reducible show _=_);rfl))
    all_goals try((with_reducible refine Obl.mk ?_);exact KO)
   intro⟨⟨k,p,acc⟩,hk,hal,hkp,hp,hn,hr⟩
   dsimp only at hk hal hkp hp hn hr ⊢
   by_cases hlt:k < c
   ·obtain⟨m,hm⟩:∃m,c - k=m+1:=⟨c - k - 1,by omega⟩
    rw[hm]at hr
    have hU:=s_impl_UnpackInts s (p:Int) hs (by omega)
    match hu:unpackInts s (p:Int)with
    | none=>
     rw[inl_none1 hu]at hr
     rw[hu]at hU
     dsimp only[rUnp,upL,upZ,Option.isSome]at hU
     have hT:=s_impl_UnpackText s (p:Int) hs (by omega)
     rw[←hr]
     repeat' ((conv=>whnf);first|refine Or.inl ?_|apply oi|(apply fi<;>intro h)|refine ci hU (ai rfl (ai rfl trivial)) ?_|refine ci hT (ai rfl (ai KW trivial)) ?_|refine⟨_,rfl,?_⟩|((with_reducible show _=_);rfl))
     all_goals try((with_reducible refine Obl.mk ?_);exact KO)
     all_goals try exact KX
    | some (ns,z)=>
     rw[hu]at hU
     dsimp only[rUnp,upL,upZ,Option.isSome]at hU
     have hz:=un_z hu
     have hT:=s_impl_UnpackText s ((p+z:Nat):Int) hs (by omega)
     have hlen:(ns.map intRow).length=ns.length:=by simp
     match ht:unpackT s ((p+z:Nat):Int)with
     | none=>
      rw[inl_none3 hu ht]at hr
      rw[ht]at hT
      dsimp only[rUn,unS,unK,Option.isSome]at hT
      rw[←hr]
      repeat' ((conv=>whnf);first|refine Or.inl ?_|apply oi|(apply fi<;>intro h)|refine ci hU (ai rfl (ai rfl trivial)) ?_|refine ci hT (ai rfl (ai KW trivial)) ?_|refine⟨_,rfl,?_⟩|((with_reducible show _=_);rfl))
      all_goals try((with_reducible refine Obl.mk ?_);exact KO)
      all_goals try exact KX
     | some (t,y)=>
      rw[ht]at hT
      dsimp only[rUn,unS,unK,Option.isSome]at hT
      have hy:=unT_z ht
      by_cases h44:ns.length=4
      ·match ns,h44 with
       | [x0,x1,x2,x3],_=>
        rw[inl_some hu ht]at hr
        repeat' ((conv=>whnf);first|refine Or.inl ?_|apply oi|(apply fi<;>intro h)|refine ci hU (ai rfl (ai rfl trivial)) ?_|refine ci hT (ai rfl (ai KW trivial)) ?_|refine⟨0,rfl,?_⟩|refine⟨1,rfl,?_⟩|refine⟨2,rfl,?_⟩|refine⟨3,rfl,?_⟩|refine⟨_,rfl,?_⟩|((with_reducible show _=_);rfl))
        all_goals try((with_reducible refine Obl.mk ?_);exact KO)
        all_goals try exact KX
        all_goals try exact⟨by simp⟩
        all_goals try exact⟨⟨by simp only[List.length_map,List.length_cons,List.length_nil];omega,by simp only[List.length_map,List.length_cons,List.length_nil];omega⟩⟩
        conv=>whnf
        refine⟨⟨(k+1,p+z+y,acc++[⟨x0,x1,x2,x3,t⟩]),by dsimp only;omega,by simp;omega,by dsimp only;omega,by dsimp only;omega,fun x hx=>?_,?_⟩,?_,by dsimp only;omega⟩
        ·rcases List.mem_append.1 hx with hx|hx
         ·exact hn x hx
         ·rw[List.mem_singleton.1 hx];exact hy.2
        ·dsimp only
         rw[show c - (k+1)=m by omega,←hr,Option.map_map]
         congr 1
         funext l
         simp
        repeat' ((conv=>whnf);first|refine Or.inl ?_|apply oi|(apply fi<;>intro h)|refine⟨_,rfl,?_⟩|((with_reducible show _=_);rfl))
        all_goals try((with_reducible refine Obl.mk ?_);exact KO)
        all_goals first
         |(refine⟨?_⟩;dsimp only;rw[IntWalk.i64_in _ (by omega)];rfl)
         |(refine⟨congrArg (Tr.int _) ?_⟩;dsimp only;simp(disch:=omega)only[IntWalk.i64_in];omega)
         |(refine⟨?_⟩;dsimp only;rw[List.map_append];rfl)
      ·rw[inl_none2 hu h44]at hr
       rw[←hr]
       have hne:(((ns.map intRow).length:Int) !=4)=true:=by rw[hlen,bne_iff_ne];omega
       repeat' ((conv=>whnf);first|refine Or.inl ?_|apply oi|(apply fi<;>intro h)|refine ci hU (ai rfl (ai rfl trivial)) ?_|refine ci hT (ai rfl (ai KW trivial)) ?_|refine⟨_,rfl,?_⟩|((with_reducible show _=_);rfl))
       all_goals try((with_reducible refine Obl.mk ?_);exact KO)
       all_goals try exact KX
       all_goals try(exfalso;rw[hne]at h;simp at h;done)
   ·have hge:c≤k:=by omega
    rw[show c - k=0 by omega,decInlL]at hr
    simp only[Option.map_some,List.append_nil]at hr
    have hEnc:=s_impl_EncodeInlines acc (by omega) fun x hx=>by have:=hn x hx;omega
    rw[←hr]
    by_cases he:encodeInlines acc=s
    ·dsimp only
     rw[if_pos he]
     rw[he]at hEnc
     repeat' ((conv=>whnf);first|refine Or.inl ?_|apply oi|(apply fi<;>intro h)|refine ci hEnc (ai rfl trivial) ?_|refine⟨_,rfl,?_⟩|((with_reducible show _=_);rfl))
     all_goals try((with_reducible refine Obl.mk ?_);exact KO)
     all_goals try exact KX
     all_goals(exfalso;simp at h;done)
    ·dsimp only
     rw[if_neg he]
     repeat' ((conv=>whnf);first|refine Or.inl ?_|apply oi|(apply fi<;>intro h)|refine ci hEnc (ai rfl trivial) ?_|refine⟨_,rfl,?_⟩|((with_reducible show _=_);rfl))
     all_goals try((with_reducible refine Obl.mk ?_);exact KO)
     all_goals try exact KX
     all_goals(exfalso;simp at h;exact he h)
  ·have hRn:R=none:=by
    cases hq:R with
    | none=>rfl
    | some l=>rw[hq]at hR;have:=decInlL_len hR h3;omega
   rw[hRn]
   repeat' ((conv=>whnf);first|refine Or.inl ?_|apply oi|(apply fi<;>intro h)|refine ci hD (ai rfl (ai rfl trivial)) ?_|refine⟨_,rfl,?_⟩|((with_reducible show _=_);rfl))
   all_goals try((with_reducible refine Obl.mk ?_);exact KO)
   all_goals(exfalso;have h':=of_decide_eq_false h;omega)
end Go.Proofs.YtjmplnfiabmalaaGreat
namespace Go.Proofs.YtjmplnfiabmalaaGreat
open Go.Sim
set_option maxRecDepth 100000
set_option maxHeartbeats 4000000
theorem PsOk.sep {P:List TPlace}(h:PsOk P){i j:Nat}{x y:TPlace}(hij:i < j)(hx:P[i]?=some x)(hy:P[j]?=some y):endPl x≤y.fOffset:=by
 have:=h.lt (n:=j - i - 1) (k:=i) hx (y:=y) (by rw[show i+(j - i - 1)+1=j by omega];exact hy)
 exact this
theorem PsOk.mono {P:List TPlace}(h:PsOk P){i j:Nat}{x y:TPlace}(hij:i≤j)(hx:P[i]?=some x)(hy:P[j]?=some y):x.fOffset≤y.fOffset∧endPl x≤endPl y:=by
 rcases Nat.eq_or_lt_of_le hij with rfl|hlt
 ·rw[hx]at hy;injection hy with hy;subst hy;exact⟨Int.le_refl _,Int.le_refl _⟩
 ·have h1:=h.sep hlt hx hy
  have h2:=h.rng i x hx
  have h3:=h.rng j y hy
  unfold endPl at *
  omega
theorem runN_all {p:List TLine}{ch:List Int}{lv:Nat}{nm:List UInt8}{l:List TPlace}:∀{n m j:Nat} {y:TPlace},l.length - m≤n→m≤j→j < runN p ch lv nm (l.drop m) m→l[j]?=some y→joinsI p ch lv nm y=true
 | n,m,j,y,hn,h1,h2,hy=>by
  have hj:=lt_of_get hy
  rcases Nat.lt_or_ge m l.length with hm|hm
  ·obtain⟨z,hz⟩:=get_of_lt hm
   rw[runN_at hz]at h2
   split at h2
   ·rename_i hjn
    rcases Nat.eq_or_lt_of_le h1 with rfl|hlt
    ·rw[hz]at hy;injection hy with hy;subst hy;exact hjn
    ·cases n with
     | zero=>omega
     | succ n=>exact runN_all (n:=n) (m:=m+1) (by omega) (by omega) h2 hy
   ·omega
  ·rw[runN_end hm]at h2
   omega
theorem runN_ge {p:List TLine}{ch:List Int}{lv:Nat}{nm:List UInt8}{l:List TPlace}:∀{n m j:Nat},j+1 - m≤n→m≤j+1→j < l.length→(∀(q:Nat) (y:TPlace),m≤q→q≤j→l[q]?=some y→joinsI p ch lv nm y=true)→j < runN p ch lv nm (l.drop m) m
 | 0,m,j,hn,hm,hj,h=>by
  have:=(runN_le (p:=p) (ch:=ch) (lv:=lv) (nm:=nm) (l:=l.drop m) (k:=m)).1
  omega
 | n+1,m,j,hn,hm,hj,h=>by
  rcases Nat.eq_or_lt_of_le hm with rfl|hlt
  ·have:=(runN_le (p:=p) (ch:=ch) (lv:=lv) (nm:=nm) (l:=l.drop (j+1)) (k:=j+1)).1
   omega
  ·obtain⟨z,hz⟩:=get_of_lt (l:=l) (k:=m) (by omega)
   rw[runN_at hz,if_pos (h m z (Nat.le_refl _) (by omega) hz)]
   exact runN_ge (n:=n) (m:=m+1) (by omega) (by omega) hj fun q y h1 h2=>h q y (by omega) h2
theorem joinsI_iff {p:List TLine}{ch:List Int}{lv:Nat}{nm:List UInt8}{y:TPlace}:joinsI p ch lv nm y=true↔lv < y.fItem.fChain.length∧y.fItem.fChain.take (lv+1)=ch.take (lv+1)∧nameAtI p y.fItem lv=nm:=by
 unfold joinsI
 simp only[Bool.and_eq_true,decide_eq_true_eq,beq_iff_eq]
structure RunI (p:List TLine) (l:List TPlace) (lv i k:Nat) (x y:TPlace):Prop where
 lt:i < k
 le:k≤l.length
 last:l[k - 1]?=some y
 all:∀(j:Nat) (z:TPlace),i≤j→j < k→l[j]?=some z→lv < z.fItem.fChain.length∧z.fItem.fChain.take (lv+1)=x.fItem.fChain.take (lv+1)∧nameAtI p z.fItem lv=nameAtI p x.fItem lv
 far:∀(j:Nat),j < l.length→(∀(q:Nat) (z:TPlace),i≤q→q≤j→l[q]?=some z→lv < z.fItem.fChain.length∧z.fItem.fChain.take (lv+1)=x.fItem.fChain.take (lv+1)∧nameAtI p z.fItem lv=nameAtI p x.fItem lv)→j < k
theorem run_of {p:List TLine}{l:List TPlace}{lv i:Nat}{x:TPlace}(hx:l[i]?=some x)(hl:lv < x.fItem.fChain.length):∃y,RunI p l lv i (runN p x.fItem.fChain lv (nameAtI p x.fItem lv) (l.drop (i+1)) (i+1)) x y:=by
 have hi:=lt_of_get hx
 have h1:=runN_le (p:=p) (ch:=x.fItem.fChain) (lv:=lv) (nm:=nameAtI p x.fItem lv) (l:=l.drop (i+1)) (k:=i+1)
 rw[List.length_drop]at h1
 obtain⟨y,hy⟩:=get_of_lt (l:=l) (k:=runN p x.fItem.fChain lv (nameAtI p x.fItem lv) (l.drop (i+1)) (i+1) - 1) (by omega)
 refine⟨y,by omega,by omega,hy,fun j z hj1 hj2 hz=>?_,fun j hj h=>?_⟩
 ·rcases Nat.eq_or_lt_of_le hj1 with rfl|hlt
  ·rw[hx]at hz;injection hz with hz;subst hz;exact⟨hl,rfl,rfl⟩
  ·exact joinsI_iff.1 (runN_all (Nat.le_refl _) (by omega) hj2 hz)
 ·rcases Nat.lt_or_ge j i with hlt|hge
  ·omega
  ·exact runN_ge (Nat.le_refl _) (by omega) hj fun q z h1 h2 hz=>joinsI_iff.2 (h q z (by omega) h2 hz)
theorem lvN_cases {p:List TLine}{l:List TPlace}{lv i n:Nat}{x:TPlace}(hx:l[i]?=some x):lvN p l lv (n+1) i=match x.fItem.fChain[lv]? with
   | none=>lvN p l lv n (i+1)
   | some c=>match l[runN p x.fItem.fChain lv (nameAtI p x.fItem lv) (l.drop (i+1)) (i+1) - 1]? with
    | none=>[]
    | some y=>inlRec p lv x c y::lvN p l lv n (runN p x.fItem.fChain lv (nameAtI p x.fItem lv) (l.drop (i+1)) (i+1)):=by
 rw[lvN,hx]
 all_goals rfl
abbrev Told:=Int×Int×List UInt8
def toldOf (r:TInline):Told:=(r.fLevel,r.fLine,r.fName)
def wantI (p:List TLine)(x:TItem)(lv:Nat):List Told:=match x.fChain[lv]? with
 | some c=>[((lv:Int),c,nameAtI p x lv)]
 | none=>[]
theorem lvN_ge {p:List TLine}{l:List TPlace}(h:PsOk l){lv:Nat}:∀{n i:Nat} {x:TPlace},l[i]?=some x→∀r∈lvN p l lv n i,x.fOffset≤r.fStart
 | 0,_,_,_,r,hr=>by rw[lvN]at hr;cases hr
 | n+1,i,x,hx,r,hr=>by
  rw[lvN_cases hx]at hr
  have next:∀k,i < k→r∈lvN p l lv n k→x.fOffset≤r.fStart:=fun k hk hm=>by
   rcases Nat.lt_or_ge k l.length with hkl|hkl
   ·obtain⟨y,hy⟩:=get_of_lt hkl
    have:=lvN_ge h hy r hm
    have:=h.mono (Nat.le_of_lt hk) hx hy
    omega
   ·rw[lvN_end hkl]at hm;cases hm
  split at hr
  ·exact next _ (by omega) hr
  ·rename_i c hc
   split at hr
   ·cases hr
   ·rename_i y hy
    rcases List.mem_cons.1 hr with rfl|hr
    ·exact Int.le_refl _
    ·have:=(runN_le (p:=p) (ch:=x.fItem.fChain) (lv:=lv) (nm:=nameAtI p x.fItem lv) (l:=l.drop (i+1)) (k:=i+1)).1
     exact next _ (by omega) hr
theorem filter_none {α:Type}{q:α→Bool}:∀{l:List α},(∀r∈l,q r=false)→l.filter q=[]
 | [],_=>rfl
 | a::l,h=>by
  rw[List.filter_cons,if_neg (by rw[h a (by simp)];simp),filter_none fun r hr=>h r (by simp[hr])]
theorem lvN_told {p:List TLine}{l:List TPlace}(h:PsOk l){lv j:Nat}{x:TPlace}(hx:l[j]?=some x):∀{n i:Nat},l.length - i≤n→i≤j→((lvN p l lv n i).filter (inAt x.fOffset)).map toldOf=wantI p x.fItem lv
 | 0,i,hn,hi=>by have:=lt_of_get hx;omega
 | n+1,i,hn,hi=>by
  have hj:=lt_of_get hx
  obtain⟨z,hz⟩:=get_of_lt (l:=l) (k:=i) (by omega)
  rw[lvN_cases hz]
  have hrng:=h.rng j x hx
  cases hc:z.fItem.fChain[lv]? with
  | none=>
   dsimp only
   rcases Nat.eq_or_lt_of_le hi with rfl|hlt
   ·rw[hz]at hx
    injection hx with hx
    subst hx
    rw[wantI,hc,filter_none,List.map_nil]
    intro r hr
    rcases Nat.lt_or_ge (i+1) l.length with hil|hil
    ·obtain⟨w,hw⟩:=get_of_lt hil
     have h1:=lvN_ge h hw r hr
     have h2:=h.sep (Nat.lt_succ_self i) hz hw
     unfold inAt
     rw[Bool.and_eq_false_iff]
     left
     rw[decide_eq_false_iff_not]
     unfold endPl at h2
     omega
    ·rw[lvN_end hil]at hr;cases hr
   ·exact lvN_told h hx (by omega) hlt
  | some c=>
   have hlv:=lt_of_get hc
   obtain⟨y,hR⟩:=run_of (p:=p) hz hlv
   generalize runN p z.fItem.fChain lv (nameAtI p z.fItem lv) (l.drop (i+1)) (i+1)=k at *
   rw[hR.last]
   dsimp only
   rw[List.filter_cons]
   rcases Nat.lt_or_ge j k with hjk|hjk
   ·obtain⟨a1,a2,a3⟩:=hR.all j x hi hjk hx
    have hin:inAt x.fOffset (inlRec p lv z c y)=true:=by
     have h1:=h.mono hi hz hx
     have h2:=h.mono (show j≤k - 1 by omega) hx hR.last
     unfold inAt inlRec
     simp only[Bool.and_eq_true,decide_eq_true_eq]
     unfold endPl at *
     omega
    rw[if_pos hin,filter_none (l:=lvN p l lv n k),List.map_cons,List.map_nil,wantI]
    ·have hcx:x.fItem.fChain[lv]?=some c:=by
      have e1:(x.fItem.fChain.take (lv+1))[lv]?=x.fItem.fChain[lv]?:=by rw[List.getElem?_take,if_pos (by omega)]
      have e2:(z.fItem.fChain.take (lv+1))[lv]?=z.fItem.fChain[lv]?:=by rw[List.getElem?_take,if_pos (by omega)]
      rw[←e1,a2,e2,hc]
     rw[hcx]
     dsimp only
     rw[a3]
     rfl
    ·intro r hr
     rcases Nat.lt_or_ge k l.length with hil|hil
     ·obtain⟨w,hw⟩:=get_of_lt hil
      have h1:=lvN_ge h hw r hr
      have h2:=h.sep hjk hx hw
      unfold inAt
      rw[Bool.and_eq_false_iff]
      left
      rw[decide_eq_false_iff_not]
      unfold endPl at h2
      omega
     ·rw[lvN_end hil]at hr;cases hr
   ·have hin:inAt x.fOffset (inlRec p lv z c y)=false:=by
     have h2:=h.sep (show k - 1 < j by have:=hR.lt;omega) hR.last hx
     unfold inAt inlRec
     rw[Bool.and_eq_false_iff]
     right
     rw[decide_eq_false_iff_not]
     dsimp only
     omega
    rw[if_neg (by rw[hin];simp)]
    exact lvN_told h hx (by have:=hR.lt;omega) hjk
def wants (p:List TLine)(x:TItem):Nat→Nat→List Told
 | 0,_=>[]
 | n+1,lv=>wantI p x lv++wants p x n (lv+1)
theorem lvls_told {p:List TLine}{l:List TPlace}(h:PsOk l){j:Nat}{x:TPlace}(hx:l[j]?=some x):∀(n lv:Nat),((lvls p l n lv).filter (inAt x.fOffset)).map toldOf=wants p x.fItem n lv
 | 0,_=>by rw[lvls,wants];rfl
 | n+1,lv=>by rw[lvls,wants,List.filter_append,List.map_append,lvN_told h hx (by omega) (Nat.zero_le _),lvls_told h hx n (lv+1)]
theorem deepF_ge:∀{l:List TPlace} {d:Nat},d≤deepF l d∧∀x∈l,x.fItem.fChain.length≤deepF l d
 | [],d=>⟨Nat.le_refl _,fun x h=>by cases h⟩
 | a::l,d=>by
  have h:=deepF_ge (l:=l) (d:=max d a.fItem.fChain.length)
  rw[deepF]
  refine⟨by omega,fun x hx=>?_⟩
  rcases List.mem_cons.1 hx with rfl|hx
  ·omega
  ·exact h.2 x hx
theorem wants_get {p:List TLine}{x:TItem}:∀(n lv:Nat),x.fChain.length≤lv+n→(wants p x n lv).length=x.fChain.length - lv∧∀(i:Nat) (c:Int),x.fChain[lv+i]?=some c→(wants p x n lv)[i]?=some (((lv+i:Nat):Int),c,nameAtI p x (lv+i))
 | 0,lv,h=>by
  refine⟨by rw[wants];simp;omega,fun i c hc=>?_⟩
  rw[List.getElem?_eq_none (by omega)]at hc;cases hc
 | n+1,lv,h=>by
  obtain⟨h1,h2⟩:=wants_get (p:=p) (x:=x) n (lv+1) (by omega)
  rw[wants]
  cases hc:x.fChain[lv]? with
  | none=>
   have hl:x.fChain.length≤lv:=by
    rcases Nat.lt_or_ge lv x.fChain.length with h'|h'
    ·rw[List.getElem?_eq_getElem h']at hc;cases hc
    ·exact h'
   rw[show wantI p x lv=[] by rw[wantI,hc],List.nil_append]
   refine⟨by omega,fun i c hi=>?_⟩
   rw[List.getElem?_eq_none (by omega)]at hi;cases hi
  | some c0=>
   have hl:=lt_of_get hc
   rw[show wantI p x lv=[((lv:Int),c0,nameAtI p x lv)] by rw[wantI,hc],List.singleton_append]
   refine⟨by rw[List.length_cons];omega,fun i c hi=>?_⟩
   cases i with
   | zero=>
    rw[Nat.add_zero,hc]at hi
    injection hi with hi
    subst hi
    rfl
   | succ i=>
    rw[List.getElem?_cons_succ,h2 i c (by rw[←hi];congr 1;omega),show lv+1+i=lv+(i+1) by omega]
theorem inlinesOkF_append:∀{A B pre:List TInline},inlinesOkF pre A=true→inlinesOkF (pre++A) B=true→inlinesOkF pre (A++B)=true
 | [],B,pre,_,h=>by rw[List.append_nil]at h;exact h
 | a::A,B,pre,h1,h2=>by
  rw[inlinesOkF]at h1
  split at h1
  ·rename_i ha
   rw[List.cons_append,inlinesOkF,if_pos ha]
   exact inlinesOkF_append h1 (by rw[List.append_assoc];exact h2)
  ·cases h1
def Cover (p:List TLine)(l:List TPlace)(lv:Nat)(pre:List TInline):Prop:=lv=0∨∀(i j:Nat) (x y:TPlace),i≤j→l[i]?=some x→l[j]?=some y→
 (∀(q:Nat) (z:TPlace),i≤q→q≤j→l[q]?=some z→lv - 1 < z.fItem.fChain.length∧z.fItem.fChain.take (lv - 1+1)=x.fItem.fChain.take (lv - 1+1)∧nameAtI p z.fItem (lv - 1)=nameAtI p x.fItem (lv - 1))→
 ∃r∈pre,r.fLevel=(lv:Int) - 1∧r.fStart≤x.fOffset∧endPl y≤r.fEnd
theorem Cover.more {p:List TLine}{l:List TPlace}{lv:Nat}{pre:List TInline}(h:Cover p l lv pre)(A:List TInline):Cover p l lv (pre++A):=by
 rcases h with h|h
 ·exact .inl h
 ·refine .inr fun i j x y h1 h2 h3 h4=>?_
  obtain⟨r,r1,r2⟩:=h i j x y h1 h2 h3 h4
  exact⟨r,by simp[r1],r2⟩
theorem lvN_cover {p:List TLine}{l:List TPlace}(h:PsOk l){lv:Nat}{i j:Nat}{x y:TPlace}(hij:i≤j)(hx:l[i]?=some x)(hy:l[j]?=some y)
  (ha:∀(q:Nat) (z:TPlace),i≤q→q≤j→l[q]?=some z→lv < z.fItem.fChain.length∧z.fItem.fChain.take (lv+1)=x.fItem.fChain.take (lv+1)∧nameAtI p z.fItem lv=nameAtI p x.fItem lv):
  ∀{n m:Nat},l.length - m≤n→m≤i→∃r∈lvN p l lv n m,r.fLevel=(lv:Int)∧r.fStart≤x.fOffset∧endPl y≤r.fEnd
 | 0,m,hn,hm=>by have:=lt_of_get hx;omega
 | n+1,m,hn,hm=>by
  have hjl:=lt_of_get hy
  obtain⟨z,hz⟩:=get_of_lt (l:=l) (k:=m) (by omega)
  rw[lvN_cases hz]
  cases hc:z.fItem.fChain[lv]? with
  | none=>
   dsimp only
   have hne:m≠i:=fun e=>by
    subst e
    rw[hz]at hx;injection hx with hx;subst hx
    have:=(ha m z (Nat.le_refl _) hij hz).1
    rw[List.getElem?_eq_getElem this]at hc
    cases hc
   exact lvN_cover h hij hx hy ha (by omega) (by omega)
  | some c=>
   have hlv:=lt_of_get hc
   obtain⟨w,hR⟩:=run_of (p:=p) hz hlv
   generalize runN p z.fItem.fChain lv (nameAtI p z.fItem lv) (l.drop (m+1)) (m+1)=k at *
   rw[hR.last]
   dsimp only
   rcases Nat.lt_or_ge i k with hik|hik
   ·obtain⟨b1,b2,b3⟩:=hR.all i x hm hik hx
    have hjk:=hR.far j hjl fun q u h1 h2 hu=>by
     rcases Nat.lt_or_ge q i with hq|hq
     ·exact hR.all q u h1 (by omega) hu
     ·obtain⟨c1,c2,c3⟩:=ha q u hq h2 hu
      exact⟨c1,c2.trans b2,c3.trans b3⟩
    refine⟨_,List.mem_cons_self ..,rfl,(h.mono hm hz hx).1,(h.mono (show j≤k - 1 by omega) hy hR.last).2⟩
   ·obtain⟨r,r1,r2⟩:=lvN_cover h hij hx hy ha (n:=n) (m:=k) (by have:=hR.lt;omega) hik
    exact⟨r,by simp[r1],r2⟩
def LastI (l:List TPlace)(lv i:Nat)(pre:List TInline):Prop:=∀r,pre.getLast?=some r→r.fLevel < (lv:Int)∨(r.fLevel=(lv:Int)∧∀(j:Nat) (x:TPlace),i≤j→l[j]?=some x→r.fEnd≤x.fOffset)
theorem lvN_ok {p:List TLine}(hp:programOk p=true){l:List TPlace}(h:PsOk l)(hch:∀x∈l,ChP p x){lv:Nat}:∀{n i:Nat} {pre:List TInline},Cover p l lv pre→LastI l lv i pre→inlinesOkF pre (lvN p l lv n i)=true∧LastI l lv l.length (pre++lvN p l lv n i)
 | 0,i,pre,hcv,hla=>by
  rw[lvN,List.append_nil]
  refine⟨rfl,fun r hr=>?_⟩
  rcases hla r hr with h1|⟨h1,_⟩
  ·exact .inl h1
  ·exact .inr ⟨h1,fun j x hj hx=>by have:=lt_of_get hx;omega⟩
 | n+1,i,pre,hcv,hla=>by
  rcases Nat.lt_or_ge i l.length with hi|hi
  ·obtain⟨x,hx⟩:=get_of_lt hi
   rw[lvN_cases hx]
   cases hc:x.fItem.fChain[lv]? with
   | none=>
    dsimp only
    refine lvN_ok hp h hch hcv fun r hr=>?_
    rcases hla r hr with h1|⟨h1,h2⟩
    ·exact .inl h1
    ·exact .inr ⟨h1,fun j y hj hy=>h2 j y (by omega) hy⟩
   | some c=>
    have hlv:=lt_of_get hc
    obtain⟨y,hR⟩:=run_of (p:=p) hx hlv
    generalize runN p x.fItem.fChain lv (nameAtI p x.fItem lv) (l.drop (i+1)) (i+1)=k at *
    rw[hR.last]
    dsimp only
    have hik:=hR.lt
    have hxc:=hch x (List.mem_of_getElem? hx)
    have hrx:=h.rng i x hx
    have hry:=h.rng (k - 1) y hR.last
    have hxy:=h.mono (show i≤k - 1 by omega) hx hR.last
    have hcr:=hxc.chain.2 c (List.mem_of_getElem? hc)
    have h60:=(funs_six hp).2
    have hc3:=hxc.chain.1
    have hnm:nameOk (nameAtI p x.fItem lv)=true:=by
     unfold nameAtI
     split
     ·rename_i c' hc'
      have:=hxc.chain.2 c' (List.mem_of_getElem? hc')
      exact lineName_ok hp this.1 this.2
     ·exact lineName_ok hp hxc.line.1 hxc.line.2
    have hrec:inlineOk (inlRec p lv x c y)=true:=by
     unfold inlineOk inlRec
     dsimp only
     simp only[Bool.and_eq_true,decide_eq_true_eq,within_iff]
     unfold endPl at *
     refine⟨⟨⟨⟨⟨?_,?_⟩,?_⟩,?_⟩,?_⟩,hnm⟩ <;> omega
    have hbeh:behind pre.getLast? (inlRec p lv x c y):=by
     cases hg:pre.getLast? with
     | none=>exact trivial
     | some r=>
      rcases hla r hg with h1|⟨h1,h2⟩
      ·exact⟨by show r.fLevel≤(lv:Int);omega,fun e=>by have e':r.fLevel=(lv:Int):=e;omega⟩
      ·exact⟨by show r.fLevel≤(lv:Int);omega,fun _=>h2 i x (Nat.le_refl _) hx⟩
    have hhold:((inlRec p lv x c y).fLevel==0 || pre.any (holds (inlRec p lv x c y)))=true:=by
     rcases hcv with h0|hcv
     ·rw[show(inlRec p lv x c y).fLevel=(lv:Int) from rfl,h0];rfl
     ·by_cases h0:lv=0
      ·rw[show(inlRec p lv x c y).fLevel=(lv:Int) from rfl,h0];rfl
      ·obtain⟨r,r1,r2,r3,r4⟩:=hcv i (k - 1) x y (by omega) hx hR.last fun q z h1 h2 hz=>by
        obtain⟨a1,a2,a3⟩:=hR.all q z h1 (by omega) hz
        have ht:z.fItem.fChain.take (lv - 1+1)=x.fItem.fChain.take (lv - 1+1):=by
         have:=congrArg (List.take lv) a2
         rw[List.take_take,List.take_take,Nat.min_eq_left (by omega)]at this
         rw[show lv - 1+1=lv by omega]
         exact this
        refine⟨by omega,ht,?_⟩
        have hzc:z.fItem.fChain[lv]?=some c:=by
         have e1:(z.fItem.fChain.take (lv+1))[lv]?=z.fItem.fChain[lv]?:=by rw[List.getElem?_take,if_pos (by omega)]
         have e2:(x.fItem.fChain.take (lv+1))[lv]?=x.fItem.fChain[lv]?:=by rw[List.getElem?_take,if_pos (by omega)]
         rw[←e1,a2,e2,hc]
        unfold nameAtI
        rw[show lv - 1+1=lv by omega,hzc,hc]
       rw[Bool.or_eq_true]
       right
       rw[List.any_eq_true]
       refine⟨r,r1,?_⟩
       unfold holds inlRec
       simp only[Bool.and_eq_true,decide_eq_true_eq,beq_iff_eq]
       exact⟨⟨r2,r3⟩,r4⟩
    have hat:inlOkAt pre (inlRec p lv x c y)=true:=by
     unfold inlOkAt
     rw[hrec,decide_eq_true hbeh,hhold]
     rfl
    have ih:=lvN_ok hp h hch (n:=n) (i:=k) (pre:=pre++[inlRec p lv x c y]) (hcv.more _) (fun r hr=>by
     rw[List.getLast?_append,List.getLast?_singleton,Option.some_or]at hr
     injection hr with hr
     subst hr
     exact .inr ⟨rfl,fun j z hj hz=>h.sep (show k - 1 < j by omega) hR.last hz⟩)
    rw[inlinesOkF,if_pos hat]
    refine⟨ih.1,?_⟩
    have:=ih.2
    rwa [List.append_assoc,List.singleton_append]at this
  ·rw[lvN_end hi,List.append_nil]
   refine⟨rfl,fun r hr=>?_⟩
   rcases hla r hr with h1|⟨h1,_⟩
   ·exact .inl h1
   ·exact .inr ⟨h1,fun j x hj hx=>by have:=lt_of_get hx;omega⟩
theorem lvls_ok {p:List TLine}(hp:programOk p=true){l:List TPlace}(h:PsOk l)(hch:∀x∈l,ChP p x):∀{n lv:Nat} {pre:List TInline},Cover p l lv pre→LastI l lv 0 pre→inlinesOkF pre (lvls p l n lv)=true
 | 0,_,_,_,_=>by rw[lvls];rfl
 | n+1,lv,pre,hcv,hla=>by
  rw[lvls]
  obtain⟨h1,h2⟩:=lvN_ok hp h hch (n:=l.length) (i:=0) hcv hla
  refine inlinesOkF_append h1 (lvls_ok hp h hch ?_ ?_)
  ·refine .inr fun i j x y hij hx hy ha=>?_
   rw[Nat.add_sub_cancel]at ha
   obtain⟨r,r1,r2,r3,r4⟩:=lvN_cover h hij hx hy ha (n:=l.length) (m:=0) (by omega) (Nat.zero_le _)
   exact⟨r,by simp[r1],by omega,r3,r4⟩
  ·intro r hr
   rcases h2 r hr with h3|⟨h3,_⟩
   ·exact .inl (by omega)
   ·exact .inl (by omega)
theorem near_of {l:List TPlace}(h:PsOk l):near l=true:=by
 unfold near
 rw[List.all_eq_true]
 intro x hx
 obtain⟨k,hk⟩:=List.mem_iff_getElem?.1 hx
 have:=h.rng k x hk
 rw[within_iff]
 omega
theorem inlinesOf_ok {p:List TLine}(hp:programOk p=true){l:List TPlace}(h:PsOk l)(hch:∀x∈l,ChP p x):inlinesOk (inlinesOf p l)=true:=by
 rw[inlinesOf,if_pos ⟨hp,near_of h⟩]
 exact lvls_ok hp h hch (.inl rfl) (fun r hr=>by simp at hr)
theorem inlines_told {p:List TLine}(hp:programOk p=true){l:List TPlace}(h:PsOk l)(hch:∀x∈l,ChP p x){j:Nat}{x:TPlace}(hx:l[j]?=some x):
  (inlinesAt (inlinesOf p l) x.fOffset).length=x.fItem.fChain.length∧∀(i:Nat) (c:Int) (r:TInline),x.fItem.fChain[i]?=some c→(inlinesAt (inlinesOf p l) x.fOffset)[i]?=some r→r.fLevel=(i:Int)∧r.fLine=c∧r.fName=nameAtI p x.fItem i:=by
 rw[inlinesAt,if_pos (inlinesOf_ok hp h hch),inlinesOf,if_pos ⟨hp,near_of h⟩]
 have h1:=lvls_told (p:=p) h hx (deepF l 0) 0
 obtain⟨h2,h3⟩:=wants_get (p:=p) (x:=x.fItem) (deepF l 0) 0 (by have:=(deepF_ge (l:=l) (d:=0)).2 x (List.mem_of_getElem? hx);omega)
 rw[←h1]at h2 h3
 rw[List.length_map]at h2
 refine⟨h2,fun i c r hc hr=>?_⟩
 have h4:=h3 i c (by rw[Nat.zero_add];exact hc)
 rw[List.getElem?_map,hr,Option.map_some,Nat.zero_add]at h4
 injection h4 with h4
 unfold toldOf at h4
 simp only[Prod.mk.injEq]at h4
 exact h4
end Go.Proofs.YtjmplnfiabmalaaGreat
namespace Go.Proofs.YtjmplnfiabmalaaGreat
open Go.Sim
set_option maxRecDepth 100000
set_option maxHeartbeats 4000000
structure InlR (x:TInline):Prop where
 a:0≤x.fStart∧x.fStart≤1000000
 b:0≤x.fEnd∧x.fEnd≤1000000
 c:0≤x.fLevel∧x.fLevel≤2
 d:0≤x.fLine∧x.fLine≤59
 n:x.fName.length≤8
theorem inlR_of {x:TInline}(h:inlineOk x=true):InlR x:=by
 unfold inlineOk nameOk at h
 simp only[Bool.and_eq_true,decide_eq_true_eq,within_iff]at h
 obtain⟨⟨⟨⟨⟨h1,h2⟩,h3⟩,h4⟩,h5⟩,_,h6⟩:=h
 exact⟨by omega,by omega,h4,h5,by omega⟩
theorem inlinesOkF_mem:∀{l pre:List TInline},inlinesOkF pre l=true→∀x∈l,InlR x
 | [],_,_,x,hx=>by cases hx
 | y::l,pre,h,x,hx=>by
  rw[inlinesOkF]at h
  split at h
  ·rename_i ha
   rcases List.mem_cons.1 hx with rfl|hx
   ·unfold inlOkAt at ha
    simp only[Bool.and_eq_true]at ha
    exact inlR_of ha.1.1
   ·exact inlinesOkF_mem h x hx
  ·cases h
theorem inlR_sign {x:TInline}(h:InlR x):∀n∈[x.fStart,x.fEnd,x.fLevel,x.fLine],inSign n:=by
 obtain⟨h1,h2,h3,h4,h5⟩:=h
 intro n hn
 unfold inSign
 simp only[List.mem_cons,List.not_mem_nil,or_false]at hn
 omega
theorem decInlL_at {s rest:List UInt8}:∀{l:List TInline} {p:Nat},(∀x∈l,InlR x)→s.drop p=l.flatMap encInl++rest→decInlL s l.length p=some l
 | [],p,_,_=>rfl
 | x::l,p,h,hs=>by
  have hx:=h x (by simp)
  rw[List.flatMap_cons,encInl,List.append_assoc,List.append_assoc]at hs
  have hu:=unpack_at (inlR_sign hx) (by simp) hs
  have hd:=congrArg (List.drop (packInts [x.fStart,x.fEnd,x.fLevel,x.fLine]).length) hs
  rw[List.drop_drop,List.drop_left]at hd
  have ht:=unpackT_at (s:=s) (p:=p+(packInts [x.fStart,x.fEnd,x.fLevel,x.fLine]).length) (t:=x.fName) (rest:=l.flatMap encInl++rest) (by have:=hx.n;omega) hd
  have hd2:=congrArg (List.drop (enc x.fName.length++x.fName).length) hd
  rw[List.drop_drop,List.drop_left]at hd2
  rw[List.length_cons,inl_some hu ht,decInlL_at (fun y hy=>h y (by simp[hy])) hd2]
  rfl
theorem inlines_back {l:List TInline}(h:inlinesOk l=true)(hl:l.length≤1048576):decodeInlines (encodeInlines l)=some l:=by
 have hd:=dec_at (s:=encodeInlines l) (rest:=l.flatMap encInl) (p:=0) (n:=(l.length:Int)) (by omega) (by omega) (by rw[List.drop_zero,encodeInlines,if_pos h])
 have hr:=decInlL_at (s:=encodeInlines l) (rest:=[]) (l:=l) (p:=(enc (l.length:Int)).length) (inlinesOkF_mem h) (by rw[encodeInlines,if_pos h,List.drop_left,List.append_nil])
 have e:decInlR (encodeInlines l)=some l:=by
  have hd':dec (encodeInlines l) 0=some ((l.length:Int).toNat,(enc (l.length:Int)).length):=hd
  rw[decInlR,hd']
  dsimp only
  rw[Int.toNat_natCast]
  exact hr
 rw[decodeInlines,e]
 dsimp only
 rw[if_pos rfl]
theorem enc_len1 {n:Int}(h:n < 128):(enc n).length≤1:=by
 unfold enc
 split
 ·rename_i h'
  have:=within_iff.1 h'
  exact encN_len 0 _ (by omega)
 ·simp
theorem enc_len3 {n:Int}(h:n < 2097152):(enc n).length≤3:=by
 unfold enc
 split
 ·rename_i h'
  have:=within_iff.1 h'
  exact encN_len 2 _ (by omega)
 ·simp
theorem encInl_short {x:TInline}(h:InlR x):(encInl x).length≤18:=by
 obtain⟨h1,h2,h3,h4,h5⟩:=h
 have sg:∀{n:Int},0≤n→n≤1000000→signless n=2 * n:=fun{n} a b=>by rw[signless,if_pos (within_iff.2 ⟨by omega,by omega⟩),if_neg (by omega)]
 have hp:packL [x.fStart,x.fEnd,x.fLevel,x.fLine]=some (enc (2 * x.fStart)++(enc (2 * x.fEnd)++(enc (2 * x.fLevel)++(enc (2 * x.fLine)++[])))):=by
  rw[packL,packL,packL,packL,packL,sg (by omega) (by omega),sg (by omega) (by omega),sg (by omega) (by omega),sg (by omega) (by omega),if_neg (by omega),if_neg (by omega),if_neg (by omega),if_neg (by omega)]
  rfl
 have a1:=enc_len3 (n:=2 * x.fStart) (by omega)
 have a2:=enc_len3 (n:=2 * x.fEnd) (by omega)
 have a3:=enc_len1 (n:=2 * x.fLevel) (by omega)
 have a4:=enc_len1 (n:=2 * x.fLine) (by omega)
 have a5:=enc_len1 (n:=(([x.fStart,x.fEnd,x.fLevel,x.fLine].length:Nat):Int)) (by simp)
 have a6:=enc_len1 (n:=(x.fName.length:Int)) (by omega)
 rw[encInl,packInts,hp]
 simp only[List.length_append,List.length_nil]at *
 omega
theorem flat_len:∀{l:List TInline},(∀x∈l,InlR x)→(l.flatMap encInl).length≤18 * l.length
 | [],_=>by simp
 | x::l,h=>by
  have h1:=encInl_short (h x (by simp))
  have h2:=flat_len fun y hy=>h y (List.mem_cons_of_mem x hy)
  rw[List.flatMap_cons,List.length_append,List.length_cons]
  omega
theorem encInls_cap {l:List TInline}(h:inlinesOk l=true)(hl:l.length≤45000):(encodeInlines l).length≤1000000:=by
 have h1:=flat_len (inlinesOkF_mem h)
 have h2:=enc_len (l.length:Int)
 rw[encodeInlines,if_pos h,List.length_append]
 omega
theorem chains_cap:∀{l:List TPlace},(∀x∈l,x.fItem.fChain.length≤3)→chains l≤3 * l.length
 | [],_=>by simp[chains]
 | x::l,h=>by
  have h1:=h x (by simp)
  have h2:=chains_cap fun y hy=>h y (List.mem_cons_of_mem x hy)
  rw[chains,List.length_cons]
  omega
theorem inlinesOf_len {p:List TLine}{l:List TPlace}:(inlinesOf p l).length≤chains l:=by
 rw[inlinesOf]
 split
 ·rw[←chainsFrom_zero];exact lvls_len
 ·simp
end Go.Proofs.YtjmplnfiabmalaaGreat
namespace Go.Proofs.YtjmplnfiabmalaaGreat
open Go.Sim
set_option maxRecDepth 100000
set_option maxHeartbeats 4000000
theorem places_small {l:List TPlace}(h1:l.length≤1048576)(h2:∀y∈l,y.fItem.fChain.length≤4):smallT 1048576 (.lst 8 (l.map TPlace.tr)):=by
 rw[smallT]
 refine⟨by rw[List.length_map];omega,smallRs_all fun r hr=>?_⟩
 obtain⟨it,hit,rfl⟩:=List.mem_map.1 hr
 have:=h2 it hit
 simp only[TPlace.tr,smallR,smallT,true_and,and_true]
 refine⟨by rw[List.length_map];omega,smallRs_all fun r hr=>?_⟩
 obtain⟨v,hv,rfl⟩:=List.mem_map.1 hr
 simp[intRow,smallR,smallT]
theorem placesOf_small {p:List TLine}{b:TBuild}{image:Int}(hs:smallT 1048576 (.lst 4 (p.map TLine.tr))):smallT 1048576 (.lst 8 ((placesOf p b image).map TPlace.tr)):=by
 by_cases hc:programOk p=true∧buildOk b=true∧within image 0 1=true
 ·rw[placesOf,if_pos hc]
  obtain⟨h6,_⟩:=funs_six hc.1
  have hll:=imgL_len p b image (funs p).length 0 0
  have hlc:=fun x (hx:x∈imgL p b image (funs p).length 0 0)=>imgL_cap hs hx
  generalize imgL p b image (funs p).length 0 0=L at *
  have hal:=allPl_cap (fun x hx=>(hlc x hx).1) (Nat.le_refl L.length)
  rw[List.take_of_length_le (Nat.le_refl _)]at hal
  have hal2:=Nat.mul_le_mul_left 2500 (show L.length≤6 by omega)
  refine places_small (l:=allPl L) (by omega) fun y hy=>?_
  simp only[allPl,List.mem_flatten,List.mem_map]at hy
  obtain⟨_,⟨x,hx,rfl⟩,hy⟩:=hy
  exact(hlc x hx).2 y hy
 ·rw[placesOf,if_neg hc]
  exact⟨by simp,trivial⟩
end Go.Proofs.YtjmplnfiabmalaaGreat
