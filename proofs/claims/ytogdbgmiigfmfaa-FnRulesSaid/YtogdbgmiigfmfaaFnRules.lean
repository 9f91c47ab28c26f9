/- The law FnRules answers true for every input and leaves its argument as it was. Conditions: none beyond the given statement. -/
import Derived.Test.YtogdbgmiigfmfaaGg
namespace Go.Proofs.Ytogdbgmiigfmfaa
open Go.Sim
set_option maxRecDepth 100000
set_option maxHeartbeats 4000000
def opLim (c:Int):Int×Int:=
 if c=0 then(-2147483648,2147483647)else if c=1∨c=2∨c=3∨c=4∨c=10∨c=11 then(-32768,32767)
 else if c=16 then(0,65535)else if c=12∨c=13∨c=14∨c=15 then(0,255)else(0,0)
def opOkB (c a:Int):Bool:=within c 0 17 && within a (opLim c).1 (opLim c).2
def opByte (a:Int)(k:Nat):UInt8:=UInt8.ofNat ((a.fdiv (2 ^ (8 * k))) % 256).toNat
def bytesN (a:Int)(n:Nat):List UInt8:=(List.range n).map (opByte a)
def encodeOp (x:TOp):List UInt8:=if opOkB x.fCode x.fArg=true then UInt8.ofNat x.fCode.toNat::bytesN x.fArg (opArg x.fCode).1.toNat else []
theorem encodeOp_len {x:TOp}(h:opOkB x.fCode x.fArg=true):((encodeOp x).length:Int)=opSize x.fCode:=by
 have hle:=opArg_le x.fCode
 rw[encodeOp,if_pos h]
 unfold opOkB at h
 rw[Bool.and_eq_true]at h
 rw[opSize,if_pos h.1]
 simp[bytesN];omega
theorem encodeOp_le (x:TOp):(encodeOp x).length≤5:=by
 have hle:=opArg_le x.fCode
 unfold encodeOp
 split
 ·simp[bytesN];omega
 ·simp
end Go.Proofs.Ytogdbgmiigfmfaa
namespace Go.Proofs.Ytogdbgmiigfmfaa
open Go.Sim
set_option maxRecDepth 100000
set_option maxHeartbeats 4000000
theorem opGood_ok {c a:Int}(h:opGood c a):opOkB c a=true:=by
 obtain⟨h0,h1,h2,h3,h4,h5,h6⟩:=h
 unfold opOkB
 rw[Bool.and_eq_true,within_iff,within_iff]
 refine⟨⟨h0,h1⟩,?_⟩
 unfold opLim
 split
 ·have:=h2 (by assumption);dsimp only;omega
 split
 ·have:=h3 (by omega);dsimp only;omega
 split
 ·have:=h4 (by assumption);dsimp only;omega
 split
 ·have:=h5 (by omega);dsimp only;omega
 ·have:=h6 (by omega);dsimp only;omega
structure PlI (p:List TLine) (f j:Nat) (y:TPlace):Prop where
 head:j=0→(y.fItem.fOp.fCode=13∨y.fItem.fOp.fCode=15)∧∃g ln,(funs p)[f]?=some g∧y.fItem.fLine=(g:Int)∧p[g]?=some ln∧ln.fKind=0
 body:0 < j→y.fItem.fOp.fCode≠13∧∃(n:Nat) (ln:TLine),y.fItem.fLine=(n:Int)∧p[n]?=some ln∧ln.fKind≠0
 op:opOkB y.fItem.fOp.fCode y.fItem.fOp.fArg=true
theorem foldIf_alike (p:List TLine)(b:TBuild):alike (foldIf p b) p:=by
 unfold foldIf
 split
 ·exact foldLine_alike p
 ·rfl
theorem jumpI_code (st:List Int)(k:Nat)(x:TItem):(jumpI st k x).fOp.fCode=x.fOp.fCode:=by unfold jumpI;split <;> rfl
theorem jumpI_line (st:List Int)(k:Nat)(x:TItem):(jumpI st k x).fLine=x.fLine:=by unfold jumpI;split <;> rfl
theorem place_facts {p:List TLine}{b:TBuild}{at0:Int}(hs:smallT 1048576 (.lst 4 (p.map TLine.tr)))(h1:programOk p=true)(h2:buildOk b=true){f:Nat}(h:f < (funs p).length){j:Nat}{y:TPlace}(hy:(placesF (compileF p f b) at0)[j]?=some y):PlI p f j y:=by
 obtain⟨g,C,k1,k2,k3,k4,hi⟩:=compileF_inv (f:=(f:Int)) hs h1 h2 (by omega) (by omega)
 have hlen:=(compileF_cap (p:=p) (f:=(f:Int)) (b:=b) hs).1
 have hjl:=hi.jumps.2
 have hj:j < (compileF p (f:Int) b).length:=by have:=lt_of_get hy;rwa [placesF_len]at this
 obtain⟨x,hx⟩:=get_of_lt hj
 rw[placesF_get hx]at hy
 injection hy with hy
 subst hy
 rw[Int.toNat_natCast]at k1
 obtain⟨hgl,ln,hg1,hg2⟩:=funs_lt (List.mem_of_getElem? k1)
 generalize compileF p (f:Int) b=I at *
 obtain⟨a,t,rfl,ha,ht⟩:=hi
 have hop:¬isJump x=true→opGood x.fOp.fCode x.fOp.fArg:=fun hn=>by
  rw[isJump_iff]at hn
  cases j with
  | zero=>
   simp only[List.getElem?_cons_zero,Option.some.injEq]at hx
   subst hx
   have e3:=ha.2.2
   rcases ha.1 with e|e <;> (rw[e,e3];unfold opGood;omega)
  | succ j=>exact(ht x (List.mem_of_getElem? (by simpa using hx))).op hn
 refine⟨fun e=>?_,fun e=>?_,?_⟩
 ·subst e
  simp only[List.getElem?_cons_zero,Option.some.injEq]at hx
  subst hx
  dsimp only
  rw[jumpI_code,jumpI_line]
  exact⟨ha.1,g,ln,k1,ha.2.1,hg1,hg2⟩
 ·obtain⟨j,rfl⟩:∃i,j=i+1:=⟨j - 1,by omega⟩
  have hg:=ht x (List.mem_of_getElem? (by simpa using hx))
  dsimp only
  rw[jumpI_code,jumpI_line]
  refine⟨hg.enter,?_⟩
  obtain⟨z,z0,z1,z2⟩:=hg.line
  rw[k2]at z1
  obtain⟨w,w1,w2,_⟩:=(foldIf_alike p b).get z1
  exact⟨x.fLine.toNat,w,by omega,w1,by omega⟩
 ·dsimp only
  by_cases hn:isJump x=true
  ·rw[jumpI,if_pos hn]
   have h3:=hjl x (List.mem_of_getElem? hx) hn
   rw[isJump_iff]at hn
   have s1:=startsF_le (at0:=at0) (l:=a::t) (k:=x.fOp.fArg.toNat) (by omega)
   have s2:=startsF_le (at0:=at0) (l:=a::t) (k:=j+1) (by omega)
   refine opGood_ok ?_
   dsimp only[withArg]
   unfold opGood
   omega
  ·rw[jumpI,if_neg hn]
   exact opGood_ok (hop hn)
def codeOf (l:List TPlace):List UInt8:=l.flatMap fun x=>encodeOp x.fItem.fOp
theorem codeOf_append (a b:List TPlace):codeOf (a++b)=codeOf a++codeOf b:=by simp[codeOf]
theorem codeOf_one (x:TPlace):codeOf [x]=encodeOp x.fItem.fOp:=by simp[codeOf]
theorem codeOf_len:∀(l:List TPlace),(codeOf l).length≤5 * l.length
 | []=>by simp[codeOf]
 | x::l=>by
  have h1:=codeOf_len l
  have h2:=encodeOp_le x.fItem.fOp
  rw[show x::l=[x]++l from rfl,codeOf_append,List.length_append,List.length_append,codeOf_one]
  simp only[List.length_cons,List.length_nil]
  omega
theorem codeOf_places {l:List TItem}{at0:Int}(h:∀y∈placesF l at0,opOkB y.fItem.fOp.fCode y.fItem.fOp.fArg=true):∀{k:Nat},k≤l.length→((codeOf ((placesF l at0).take k)).length:Int)=atL (startsF at0 l) k - at0
 | 0,_=>by rw[startsF_zero];simp[codeOf]
 | k+1,hk=>by
  obtain⟨x,hx⟩:=get_of_lt (l:=l) (k:=k) (by omega)
  have hg:=placesF_get (at0:=at0) hx
  have ih:=codeOf_places h (k:=k) (by omega)
  have he:=encodeOp_len (h _ (List.mem_of_getElem? hg))
  dsimp only at he
  rw[jumpI_code]at he
  rw[take_one hg,codeOf_append,List.length_append,codeOf_one,startsF_succ hx]
  dsimp only
  omega
def nameOf (p:List TLine)(f:Nat):List UInt8:=match(funs p)[f]? with
 | some g=>(match p[g]? with|some y=>y.fName|none=>[])
 | none=>[]
theorem imgL_at {p:List TLine}{b:TBuild}{image:Int}(hs:smallT 1048576 (.lst 4 (p.map TLine.tr)))(h1:programOk p=true)(h2:buildOk b=true):∀{n f:Nat} {at0:Int} {i:Nat} {x:Nat×List TPlace},f+n≤(funs p).length→(imgL p b image n f at0)[i]?=some x→
  x.2=placesF (compileF p (x.1:Int) b) (at0+((codeOf (allPl ((imgL p b image n f at0).take i))).length:Int))∧x.1 < (funs p).length∧0 < x.2.length
 | 0,_,_,_,_,_,h=>by simp[imgL]at h
 | n+1,f,at0,i,x,hf,h=>by
  rw[imgL_step]at h ⊢
  split at h
  ·rename_i hin
   rw[if_pos hin]
   cases i with
   | zero=>
    simp only[List.getElem?_cons_zero,Option.some.injEq]at h
    subst h
    have:=(fn_ok (f:=f) hs h1 h2 (by omega)).pos
    refine⟨by simp[allPl,codeOf],by dsimp only;omega,by dsimp only;rw[placesF_len];exact this⟩
   | succ i=>
    rw[List.getElem?_cons_succ]at h
    obtain⟨k1,k2,k3⟩:=imgL_at hs h1 h2 (by omega) h
    refine⟨?_,k2,k3⟩
    have hl:=codeOf_places (l:=compileF p (f:Int) b) (at0:=at0) (fun y hy=>by
     obtain⟨j,hj⟩:=List.mem_iff_getElem?.1 hy
     exact(place_facts hs h1 h2 (by omega) hj).op) (k:=(compileF p (f:Int) b).length) (Nat.le_refl _)
    rw[List.take_of_length_le (by rw[placesF_len];exact Nat.le_refl _)]at hl
    rw[k1,List.take_succ_cons,show ∀(a:Nat×List TPlace) (l:List (Nat×List TPlace)),allPl (a::l)=a.2++allPl l from fun a l=>by simp[allPl],codeOf_append,List.length_append]
    congr 1
    have he:endF at0 (compileF p (f:Int) b)=atL (startsF at0 (compileF p (f:Int) b)) (compileF p (f:Int) b).length:=rfl
    dsimp only
    rw[he]at *
    omega
  ·rename_i hin
   rw[if_neg hin]
   exact imgL_at hs h1 h2 (by omega) h
theorem imgL_place {p:List TLine}{b:TBuild}{image:Int}(hs:smallT 1048576 (.lst 4 (p.map TLine.tr)))(h1:programOk p=true)(h2:buildOk b=true){i:Nat}{x:Nat×List TPlace}(h:(imgL p b image (funs p).length 0 0)[i]?=some x){j:Nat}{y:TPlace}(hy:x.2[j]?=some y):
  PlI p x.1 j y∧y.fOffset=((codeOf (allPl ((imgL p b image (funs p).length 0 0).take i))).length:Int)+(codeOf (x.2.take j)).length:=by
 obtain⟨k1,k2,_⟩:=imgL_at hs h1 h2 (by omega) h
 generalize hS:((codeOf (allPl ((imgL p b image (funs p).length 0 0).take i))).length:Int)=S at *
 rw[Int.zero_add]at k1
 rw[k1]at hy ⊢
 refine⟨place_facts hs h1 h2 k2 hy,?_⟩
 have hj:j < (compileF p (x.1:Int) b).length:=by have:=lt_of_get hy;rwa [placesF_len]at this
 rw[codeOf_places (fun z hz=>by
  obtain⟨j,hj⟩:=List.mem_iff_getElem?.1 hz
  exact(place_facts hs h1 h2 k2 hj).op) (by omega)]
 obtain⟨z,hz⟩:=get_of_lt hj
 rw[placesF_get hz]at hy
 injection hy with hy
 subst hy
 dsimp only
 omega
theorem allPl_snoc (L:List (Nat×List TPlace))(x:Nat×List TPlace):allPl (L++[x])=allPl L++x.2:=by simp[allPl]
end Go.Proofs.Ytogdbgmiigfmfaa
namespace Go.Proofs.Ytogdbgmiigfmfaa
open Go.Sim
set_option maxRecDepth 100000
set_option maxHeartbeats 4000000
theorem and_one:∀f:Fin 101,IntKind.i64.wrap (BitVec.ofInt IntKind.i64.bits (f.val:Int) &&& BitVec.ofInt IntKind.i64.bits 1).toNat=(f.val:Int) % 2:=by decide
theorem s_spec_l09InImage (f:Nat)(b:TBuild)(image:Int)(hf:f≤100):Sim.Spec Try.prog 79 [.agg b.tr,tvI (f:Int),tvI image] (rB (inImg b image f)):=by
 refine spec_of_Wo hΓ hmix Try.func79 rfl (by decide) rfl ?_
 unfold inImg
 have hm:=and_one ⟨f,by omega⟩
 dsimp only at hm
 repeat' ((conv=>whnf);first|(with_reducible first|apply Wx|apply W6)|apply oi|(apply fi<;>intro h)|refine⟨_,rfl,?_⟩|((with_reducible show _=_);rfl))
 all_goals try((with_reducible refine Obl.mk ?_);exact KP)
 all_goals first|exact⟨by rw[h,hm];rfl⟩|exact⟨by rw[h];rfl⟩
theorem allPl_le:∀{L:List (Nat×List TPlace)},(∀x∈L,x.2.length≤2500)→(allPl L).length≤2500 * L.length
 | L,h=>by
  have:=allPl_cap h (Nat.le_refl L.length)
  rwa [List.take_of_length_le (Nat.le_refl _)]at this
theorem s_spec_PlacesOf (p:List TLine)(b:TBuild)(image:Int)(hs:smallT 1048576 (.lst 4 (p.map TLine.tr))):Sim.Spec Try.prog 30 [tvP p,.agg b.tr,tvI image] (rL 8 ((placesOf p b image).map TPlace.tr)):=by
 refine spec_of_Wo hΓ hmix Try.func30 rfl (by decide) rfl ?_
 have hP:=s_spec_ProgramOk p hs
 have hB:=s_spec_BuildOk b
 have gb:=s_spec_l01In image 0 1
 by_cases hc:programOk p=true∧buildOk b=true∧within image 0 1=true
 ·have hcf:placesOf p b image=allPl (imgL p b image (funs p).length 0 0):=by rw[placesOf,if_pos hc];rfl
  rw[hcf]
  obtain⟨h1,h2,h3⟩:=hc
  rw[h1]at hP
  rw[h2]at hB
  rw[h3]at gb
  obtain⟨h6,h60⟩:=funs_six h1
  have gF:=s_spec_FunctionLines p (by omega)
  have hfl:((funs p).map fun n:Nat=>intRow n).length=(funs p).length:=by simp
  have hlc:=fun x (hx:x∈imgL p b image (funs p).length 0 0)=>(imgL_cap hs hx).1
  repeat' ((conv=>whnf);first|(with_reducible first|apply Wx|apply W6)|apply oi|(apply fi<;>intro h)|refine cl hP ?_|refine cl hB ?_|refine cl gb ?_|refine⟨_,rfl,?_⟩|((with_reducible show _=_);rfl))
  all_goals try((with_reducible refine Obl.mk ?_);exact KP)
  conv=>whnf
  refine⟨ImgIx p b image,fun q=>⟨[(0,vP p),(2,tI .i64 image),(4,.r (.c (.ptr (4,0,0) 0))),(7,.r (.c (.own (15,0,0)))),(8,tI .i64 q.1.2.1),(9,tI .i64 (q.1.1:Int))],[((15,0,0),some (.arr true 8 ((allPl q.1.2.2).map TPlace.tr))),((4,0,0),some (.box [.t (.int .i64 b.fFrames),.t (.int .i64 b.fInline),.t (.bool b.fFold),.t (.bool b.fSplit)]))],[15,4]⟩,fun q=>(funs p).length - q.1.1,⟨(0,0,[]),by simp,by simp,by simp,by simp⟩,?_,?_⟩
  ·skip
   repeat' ((conv=>whnf);first|(with_reducible first|apply Wx|apply W6)|apply oi|(apply fi<;>intro h)|refine⟨_,rfl,?_⟩|((with_reducible show _=_);rfl))
   all_goals try((with_reducible refine Obl.mk ?_);exact KP)
  intro⟨⟨f,at0,acc⟩,hk,ha,hal,hr⟩
  dsimp only at hk ha hal hr ⊢
  have hac:(allPl acc).length≤2500 * acc.length:=allPl_le fun x hx=>hlc x (by rw[←hr];exact List.mem_append.2 (.inl hx))
  by_cases hlt:f < (funs p).length
  ·obtain⟨n,hn⟩:∃n,(funs p).length - f=n+1:=⟨(funs p).length - f - 1,by omega⟩
   have hi:=s_spec_l09InImage f b image (by omega)
   rw[hn,imgL_step]at hr
   cases hin:inImg b image f with
   | false=>
    rw[hin]at hi hr
    rw[if_neg (by simp)]at hr
    repeat' ((conv=>whnf);first|(with_reducible first|apply Wx|apply W6)|apply oi|(apply fi<;>intro h)|refine cl gF ?_|refine cl hi ?_|refine⟨_,rfl,?_⟩|((with_reducible show _=_);rfl))
    all_goals try((with_reducible refine Obl.mk ?_);exact KP)
    all_goals try exact KX
    conv=>whnf
    refine⟨⟨(f+1,at0,acc),by dsimp only;omega,by dsimp only;omega,by dsimp only;omega,by dsimp only;rw[show(funs p).length - (f+1)=n by omega];exact hr⟩,?_,by dsimp only;omega⟩
    repeat' ((conv=>whnf);first|(with_reducible first|apply Wx|apply W6)|apply oi|(apply fi<;>intro h)|refine⟨_,rfl,?_⟩|((with_reducible show _=_);rfl))
    all_goals try((with_reducible refine Obl.mk ?_);exact KP)
    all_goals try exact⟨KW⟩
   | true=>
    rw[hin]at hi hr
    rw[if_pos rfl]at hr
    have hcs:=s_spec_CompileFunction p (f:Int) b hs
    obtain⟨f1,f2,f3⟩:=fn_ok (f:=f) hs h1 h2 hlt
    have hch:=(compileF_cap (p:=p) (f:=(f:Int)) (b:=b) hs).2
    generalize compileF p (f:Int) b=I at *
    repeat' ((conv=>whnf);first|(with_reducible first|apply Wx|apply W6)|apply oi|(apply fi<;>intro h)|refine cl gF ?_|refine cl hi ?_|refine cl hcs ?_|refine⟨_,rfl,?_⟩|((with_reducible show _=_);rfl))
    all_goals try((with_reducible refine Obl.mk ?_);exact KP)
    all_goals try exact KX
    have hlen:(I.map TItem.tr).length=I.length:=by simp
    have hsl:=startsF_len at0 I
    have hle:=fun k (h:k≤I.length)=>startsF_le (at0:=at0) h
    have hS0:=startsF_zero at0 I
    have hsu:=fun k x (h:I[k]?=some x)=>startsF_succ (at0:=at0) h
    have hpf:∀(k:Nat) (x:TItem),I[k]?=some x→(placesF I at0)[k]?=some (TPlace.mk (atL (startsF at0 I) k) (jumpI (startsF at0 I) k x)):=fun k x h=>placesF_get h
    have hfl2:=placesF_len I at0
    have hend:endF at0 I=atL (startsF at0 I) I.length:=rfl
    have ye:=endF_le (l:=I) (at0:=at0)
    generalize startsF at0 I=S at *
    generalize placesF I at0=F at *
    generalize endF at0 I=E at *
    conv=>whnf
    refine⟨{k:Nat // k≤I.length},fun k=>⟨[(0,vP p),(2,tI .i64 image),(4,.r (.c (.ptr (4,0,0) 0))),(7,.r (.c (.own (15,0,0)))),(8,tI .i64 (atL S k.1)),(9,tI .i64 (f:Int)),(10,.r (.c (.own (45,0,0)))),(11,.r (.c (.own (46,0,0)))),(12,tI .i64 (k.1:Int))],[((46,0,0),some (.arr true 1 ((S.take k.1).map intRow))),((45,0,0),some (.arr true 7 (I.map TItem.tr))),((15,0,0),some (.arr true 8 ((allPl acc).map TPlace.tr))),((4,0,0),some (.box [.t (.int .i64 b.fFrames),.t (.int .i64 b.fInline),.t (.bool b.fFold),.t (.bool b.fSplit)]))],[46,45,15,4]⟩,fun k=>I.length - k.1,⟨0,by omega⟩,?_,?_⟩
    ·skip
     repeat' ((conv=>whnf);first|(with_reducible first|apply Wx|apply W6)|apply oi|(apply fi<;>intro h)|refine⟨_,rfl,?_⟩|((with_reducible show _=_);rfl))
     all_goals try((with_reducible refine Obl.mk ?_);exact KP)
     all_goals try exact⟨by rw[hS0]⟩
    intro⟨k,hk⟩
    dsimp only
    have hlk:=hle k hk
    by_cases hlt2:k < I.length
    ·obtain⟨x,hx⟩:=get_of_lt hlt2
     have hz:=opSize_le x.fOp.fCode
     have ho:=s_spec_OpSize x.fOp.fCode
     have hs1:=hsu k x hx
     have hg:S[k]?=some (atL S k):=atL_get (by omega)
     have hkr:k < (I.map TItem.tr).length:=by omega
     have hxr:(I.map TItem.tr)[k]?=some x.tr:=map_get hx
     repeat' ((conv=>whnf);first|(with_reducible first|apply Wx|apply W6)|apply oi|(apply fi<;>intro h)|refine⟨k,rfl,hkr,?_⟩|refine⟨_,hxr,?_⟩|refine cl ho ?_|refine⟨_,rfl,?_⟩|((with_reducible show _=_);rfl))
     all_goals try((with_reducible refine Obl.mk ?_);exact KP)
     all_goals try exact KX
     all_goals try exact⟨⟨by simp <;> omega,by simp <;> omega⟩⟩
     conv=>whnf
     refine⟨⟨k+1,by omega⟩,?_,by dsimp only;omega⟩
     repeat' ((conv=>whnf);first|(with_reducible first|apply Wx|apply W6)|apply oi|(apply fi<;>intro h)|refine⟨_,rfl,?_⟩|((with_reducible show _=_);rfl))
     all_goals try((with_reducible refine Obl.mk ?_);exact KP)
     all_goals try exact⟨KW⟩
     all_goals try exact⟨by rw[take_one hg,List.map_append];rfl⟩
     all_goals try exact⟨congrArg (Tr.int .i64) (by rw[hs1,IntWalk.i64_in _ (by omega)])⟩
    ·have hkl:k=I.length:=by omega
     subst hkl
     have hg:S[I.length]?=some (atL S I.length):=atL_get (by omega)
     repeat' ((conv=>whnf);first|(with_reducible first|apply Wx|apply W6)|apply oi|(apply fi<;>intro h)|refine⟨_,rfl,?_⟩|((with_reducible show _=_);rfl))
     all_goals try((with_reducible refine Obl.mk ?_);exact KP)
     all_goals try exact KX
     all_goals try exact⟨⟨by simp <;> omega,by simp <;> omega⟩⟩
     conv=>whnf
     refine⟨{k:Nat // k≤I.length},fun k=>⟨[(0,vP p),(2,tI .i64 image),(4,.r (.c (.ptr (4,0,0) 0))),(7,.r (.c (.own (15,0,0)))),(8,tI .i64 (atL S I.length)),(9,tI .i64 (f:Int)),(10,.r (.c (.own (45,0,0)))),(11,.r (.c (.own (69,0,0)))),(13,tI .i64 (k.1:Int))],[((69,0,0),some (.arr true 1 (S.map intRow))),((45,0,0),some (.arr true 7 (I.map TItem.tr))),((15,0,0),some (.arr true 8 ((allPl acc++F.take k.1).map TPlace.tr))),((4,0,0),some (.box [.t (.int .i64 b.fFrames),.t (.int .i64 b.fInline),.t (.bool b.fFold),.t (.bool b.fSplit)]))],[69,45,15,4]⟩,fun k=>I.length - k.1,⟨0,by omega⟩,?_,?_⟩
     ·skip
      repeat' ((conv=>whnf);first|(with_reducible first|apply Wx|apply W6)|apply oi|(apply fi<;>intro h)|refine⟨_,rfl,?_⟩|((with_reducible show _=_);rfl))
      all_goals try((with_reducible refine Obl.mk ?_);exact KP)
      all_goals try exact⟨by rw[show [[Tr.int .i64 (atL S I.length)]]=[atL S I.length].map intRow from rfl,←List.map_append,←take_one hg,List.take_of_length_le (by omega)]⟩
      all_goals try exact⟨by simp⟩
     intro⟨k,hk⟩
     dsimp only
     have hol:((allPl acc++F.take k).map TPlace.tr).length=(allPl acc).length+k:=by rw[List.length_map,List.length_append,List.length_take];omega
     have hml:(S.map intRow).length=I.length+1:=by rw[List.length_map];exact hsl
     have mg:∀j,j≤I.length→(S.map intRow)[j]?=some (intRow (atL S j)):=fun j hj=>by rw[List.getElem?_map,atL_get (by omega)];rfl
     by_cases hlt2:k < I.length
     ·obtain⟨x,hx⟩:=get_of_lt hlt2
      have hpg:=hpf k x hx
      have hsn:(allPl acc++F.take (k+1)).map TPlace.tr=(allPl acc++F.take k).map TPlace.tr++[(TPlace.mk (atL S k) (jumpI S k x)).tr]:=by rw[take_one hpg,←List.append_assoc,List.map_append];rfl
      have hkr:k < (I.map TItem.tr).length:=by omega
      have hxr:(I.map TItem.tr)[k]?=some x.tr:=map_get hx
      have hw1:IntKind.i64.wrap ((k:Int)+1)=((k+1:Nat):Int):=by rw[IntWalk.i64_in _ (by omega)];rfl
      have hk0:k < (S.map intRow).length:=by omega
      have hk1:k+1 < (S.map intRow).length:=by omega
      have m0:=mg k (by omega)
      have m1:=mg (k+1) (by omega)
      have b1:=hle (k+1) (by omega)
      cases hjx:isJump x with
      | true=>
       obtain⟨ja,jb⟩:=f3 x (List.mem_of_getElem? hx) hjx
       have hwa:x.fOp.fArg=((x.fOp.fArg.toNat:Nat):Int):=(Int.toNat_of_nonneg ja).symm
       have hal2:x.fOp.fArg.toNat < (S.map intRow).length:=by omega
       have m2:=mg x.fOp.fArg.toNat (by omega)
       have b2:=hle x.fOp.fArg.toNat (by omega)
       have hji:jumpI S k x=withArg x (IntKind.i64.wrap (atL S x.fOp.fArg.toNat - atL S (k+1))):=by rw[jumpI,if_pos hjx,IntWalk.i64_in _ (by omega)]
       rw[isJump_iff]at hjx
       repeat' ((conv=>whnf);first|(with_reducible first|apply Wx|apply W6)|apply oi|(apply fi<;>intro h)|refine⟨k,rfl,hkr,?_⟩|refine⟨_,hxr,?_⟩|refine⟨k,rfl,hk0,?_⟩|refine⟨k+1,hw1,hk1,?_⟩|refine⟨_,hwa,hal2,?_⟩|refine⟨_,m0,?_⟩|refine⟨_,m1,?_⟩|refine⟨_,m2,?_⟩|refine⟨_,rfl,?_⟩|((with_reducible show _=_);rfl))
       all_goals try((with_reducible refine Obl.mk ?_);exact KP)
       all_goals try exact KX
       all_goals try exact KK
       all_goals try exact⟨⟨by simp only[List.length_nil,List.length_cons,hol] <;> omega,by simp only[List.length_nil,List.length_cons,hol] <;> omega⟩⟩
       all_goals(
        conv=>whnf
        refine⟨⟨k+1,by omega⟩,?_,by dsimp only;omega⟩
        repeat' ((conv=>whnf);first|(with_reducible first|apply Wx|apply W6)|apply oi|(apply fi<;>intro h)|refine⟨_,rfl,?_⟩|((with_reducible show _=_);rfl))
        all_goals try((with_reducible refine Obl.mk ?_);exact KP)
        all_goals try exact⟨KW⟩
        all_goals try exact⟨by dsimp only;rw[hsn,hji];rfl⟩)
      | false=>
       have hji:jumpI S k x=x:=by rw[jumpI,if_neg (by rw[hjx];simp)]
       have hjn:¬(x.fOp.fCode=10∨x.fOp.fCode=11):=by rw[←isJump_iff,hjx];simp
       repeat' ((conv=>whnf);first|(with_reducible first|apply Wx|apply W6)|apply oi|(apply fi<;>intro h)|refine⟨k,rfl,hkr,?_⟩|refine⟨_,hxr,?_⟩|refine⟨k,rfl,hk0,?_⟩|refine⟨_,m0,?_⟩|refine⟨_,rfl,?_⟩|((with_reducible show _=_);rfl))
       all_goals try((with_reducible refine Obl.mk ?_);exact KP)
       all_goals try exact KX
       all_goals try exact KK
       all_goals try exact⟨⟨by simp only[List.length_nil,List.length_cons,hol] <;> omega,by simp only[List.length_nil,List.length_cons,hol] <;> omega⟩⟩
       all_goals(
        conv=>whnf
        refine⟨⟨k+1,by omega⟩,?_,by dsimp only;omega⟩
        repeat' ((conv=>whnf);first|(with_reducible first|apply Wx|apply W6)|apply oi|(apply fi<;>intro h)|refine⟨_,rfl,?_⟩|((with_reducible show _=_);rfl))
        all_goals try((with_reducible refine Obl.mk ?_);exact KP)
        all_goals try exact⟨KW⟩
        all_goals try exact⟨by dsimp only;rw[hsn,hji];rfl⟩)
     ·have hkl:k=I.length:=by omega
      subst hkl
      repeat' ((conv=>whnf);first|(with_reducible first|apply Wx|apply W6)|apply oi|(apply fi<;>intro h)|refine⟨_,rfl,?_⟩|((with_reducible show _=_);rfl))
      all_goals try((with_reducible refine Obl.mk ?_);exact KP)
      all_goals try exact KX
      conv=>whnf
      refine⟨⟨(f+1,E,acc++[(f,F)]),by dsimp only;omega,by dsimp only;omega,by simp;omega,by dsimp only;rw[List.append_assoc,show(funs p).length - (f+1)=n by omega];exact hr⟩,?_,by dsimp only;omega⟩
      repeat' ((conv=>whnf);first|(with_reducible first|apply Wx|apply W6)|apply oi|(apply fi<;>intro h)|refine⟨_,rfl,?_⟩|((with_reducible show _=_);rfl))
      all_goals try((with_reducible refine Obl.mk ?_);exact KP)
      all_goals try exact⟨KW⟩
      all_goals try exact⟨by rw[hend]⟩
      all_goals try exact⟨by rw[allPl_snoc,List.take_of_length_le (by omega)]⟩
  ·rw[show(funs p).length - f=0 by omega]at hr
   have hr2:acc=imgL p b image (funs p).length 0 0:=by rw[←hr];simp[imgL]
   repeat' ((conv=>whnf);first|(with_reducible first|apply Wx|apply W6)|apply oi|(apply fi<;>intro h)|refine cl gF ?_|refine⟨_,rfl,?_⟩|((with_reducible show _=_);rfl))
   all_goals try((with_reducible refine Obl.mk ?_);exact KP)
   all_goals try exact KX
   all_goals exact⟨by rw[hr2]⟩
 ·have hcf:placesOf p b image=[]:=by rw[placesOf,if_neg hc]
  rw[hcf]
  cases h1:programOk p with
  | false=>
   rw[h1]at hP
   repeat' ((conv=>whnf);first|(with_reducible first|apply Wx|apply W6)|apply oi|(apply fi<;>intro h)|refine cl hP ?_|refine cl hB ?_|refine cl gb ?_|refine⟨_,rfl,?_⟩|((with_reducible show _=_);rfl))
   all_goals try((with_reducible refine Obl.mk ?_);exact KP)
   all_goals try exact KX
  | true=>
   rw[h1]at hP
   cases h2:buildOk b with
   | false=>
    rw[h2]at hB
    repeat' ((conv=>whnf);first|(with_reducible first|apply Wx|apply W6)|apply oi|(apply fi<;>intro h)|refine cl hP ?_|refine cl hB ?_|refine cl gb ?_|refine⟨_,rfl,?_⟩|((with_reducible show _=_);rfl))
    all_goals try((with_reducible refine Obl.mk ?_);exact KP)
    all_goals try exact KX
   | true=>
    rw[h2]at hB
    cases h3:within image 0 1 with
    | true=>exact absurd ⟨h1,h2,h3⟩ hc
    | false=>
     rw[h3]at gb
     repeat' ((conv=>whnf);first|(with_reducible first|apply Wx|apply W6)|apply oi|(apply fi<;>intro h)|refine cl hP ?_|refine cl hB ?_|refine cl gb ?_|refine⟨_,rfl,?_⟩|((with_reducible show _=_);rfl))
     all_goals try((with_reducible refine Obl.mk ?_);exact KP)
     all_goals try exact KX
end Go.Proofs.Ytogdbgmiigfmfaa
namespace Go.Proofs.Ytogdbgmiigfmfaa
open Go.Sim
set_option maxRecDepth 100000
set_option maxHeartbeats 4000000
def DI (it:TItem):Prop:=0≤it.fDepth∧it.fDepth≤1200∧(it.fEntered=true→it.fDepth=0)
def Dp (a b:Gs):Prop:=(∀it∈a.items,DI it)→∀it∈b.items,DI it
theorem Dp.refl (s:Gs):Dp s s:=id
theorem Dp.trans {a b c:Gs}(h:Dp a b)(h':Dp b c):Dp a c:=fun x=>h' (h x)
theorem Dp.same {a b b':Gs}(h:Dp a b)(e:b'.items=b.items):Dp a b':=fun x=>by rw[e];exact h x
theorem emit_dp {C:Cx}{s:Gs}{d code arg line:Int}{chain:List Int}(h:0≤d∧d≤1200):Dp s (emitG C s d code arg line chain):=by
 intro hs it hit
 simp only[emitG,List.mem_append,List.mem_singleton]at hit
 rcases hit with hit|rfl
 ·exact hs it hit
 ·unfold mkItem DI
  dsimp only
  by_cases hf:C.framed=true∧0 < s.items.length
  ·rw[if_pos hf];exact⟨by omega,by omega,fun _=>rfl⟩
  ·rw[if_neg hf]
   refine⟨h.1,h.2,fun e=>?_⟩
   rw[Bool.and_eq_true,decide_eq_true_eq]at e
   exact absurd e hf
theorem setArg_dp {l:List TItem}(j v:Int)(h:∀it∈l,DI it):∀it∈setArg l j v,DI it:=by
 unfold setArg
 split
 ·split
  ·rename_i x hx
   intro it hit
   rcases List.mem_or_eq_of_mem_set hit with hit|rfl
   ·exact h it hit
   ·exact h x (List.mem_of_getElem? hx)
  ·exact h
 ·exact h
theorem patchL_dp (v:Int):∀(js:List Int) {l:List TItem},(∀it∈l,DI it)→∀it∈patchL l v js,DI it
 | [],_,h=>h
 | j::js,_,h=>patchL_dp v js (setArg_dp j v h)
section
variable {C:Cx} {x:Sc} {ins:List Nat} {rep:Sc→List Nat→Nat→Nat→Int→Gs→Gs} {line:Nat}
theorem stores_dp {y:Sc}{chain:List Int}{line:Int}:∀(n:Nat) (d:Int) (s:Gs),0≤d - n→d≤1200→Dp s (storesG C y chain line n d s)
 | 0,d,s,_,_=>Dp.refl s
 | n+1,d,s,h1,h2=>by
  rw[storesG]
  exact(emit_dp (by omega)).trans (stores_dp n (d - 1) _ (by omega) (by omega))
theorem zeros_dp {y:Sc}{chain:List Int}{line d:Int}(hd:0≤d∧d≤1199):∀(n i:Nat) (s:Gs),Dp s (zerosG C y chain line d n i s)
 | 0,i,s=>Dp.refl s
 | n+1,i,s=>by
  rw[zerosG]
  exact((emit_dp (by omega)).trans (emit_dp (by omega))).trans (zeros_dp hd n (i+1) _)
def RepD (C:Cx)(rep:Sc→List Nat→Nat→Nat→Int→Gs→Gs)(x:Sc)(ins:List Nat):Prop:=
 ∀(line g:Nat) (d:Int) (s:Gs),isFun C g→(argsN C.p g:Int)≤d→d≤1000+30 * ins.length+21→replB C ins g s.items.length=true→Dp s (rep x ins line g d s)
def CallsE (C:Cx)(l:List TTok):Prop:=∀t∈l,t.fKind=7→∃f,findN C.p 0 t.fName=some f∧(argsN C.p f:Int)=t.fNum
theorem fin_dp (hi:ins.length≤4)(hrep:RepD C rep x ins){t:TTok}{d:Int}(h1:0≤d)(h2:d≤1000+30 * ins.length+21)(hc:t.fKind=7→t.fNum≤d∧∃f,findN C.p 0 t.fName=some f∧(argsN C.p f:Int)=t.fNum)(s:Gs):Dp s (finG C rep x ins line t d s):=by
 unfold finG
 split
 ·exact emit_dp (by omega)
 split
 ·exact emit_dp (by omega)
 split
 ·rename_i h7
  obtain⟨hn,f,hf,ha⟩:=hc h7
  split
  ·rename_i g hg
   rw[hf]at hg
   injection hg with hg
   subst hg
   obtain⟨_,ln,k1,k2,_⟩:=find_some hf
   split
   ·rename_i hr
    exact hrep line f d s ⟨ln,k1,k2⟩ (by omega) h2 hr
   ·exact emit_dp (by omega)
  ·exact Dp.refl s
 ·exact emit_dp (by omega)
mutual
theorem genE_dp (hi:ins.length≤4)(hrep:RepD C rep x ins):∀(e:Ex) (d:Int) (s:Gs),e.ok→CallsE C e.toks→0≤d→d+e.toks.length≤1000+30 * ins.length+21→Dp s (genE C rep x ins line e d s)
 | .node t es,d,s,h,hc,h1,h2=>by
  rw[Ex.toks,List.length_cons]at h2
  rw[genE]
  have hle:=exs_len es
  refine(genEs_dp hi hrep es d s h.2.2 (fun u hu=>hc u (by rw[Ex.toks];simp[hu])) h1 (by omega)).trans (fin_dp hi hrep (by omega) (by omega) (fun h7=>⟨?_,hc t (by rw[Ex.toks];simp) h7⟩) _)
  have har:=h.2.1
  have ht:=h.1
  have ha:arity t=t.fNum:=by simp[arity,ht,h7]
  unfold tokOk at ht
  rw[if_neg (by omega:¬t.fKind=0),if_pos h7]at ht
  simp only[Bool.and_eq_true,within_iff]at ht
  unfold ar at har
  rw[ha]at har
  omega
theorem genEs_dp (hi:ins.length≤4)(hrep:RepD C rep x ins):∀(es:List Ex) (d:Int) (s:Gs),exsOk es→CallsE C (exToks es)→0≤d→d+(exToks es).length≤1000+30 * ins.length+21→Dp s (genEs C rep x ins line es d s)
 | [],d,s,_,_,_,_=>by rw[genEs];exact Dp.refl s
 | a::es,d,s,h,hc,h1,h2=>by
  rw[exToks,List.length_append]at h2
  rw[genEs]
  have hp:=a.toks_pos
  exact(genE_dp hi hrep a d s h.1 (fun u hu=>hc u (by rw[exToks];simp[hu])) h1 (by omega)).trans (genEs_dp hi hrep es (d+1) _ h.2 (fun u hu=>hc u (by rw[exToks];simp[hu])) (by omega) (by omega))
end
theorem space_dp (x:Sc){d:Int}(h:0≤d∧d≤1200)(s:Gs):Dp s (spaceG C x line d s):=by
 unfold spaceG
 split
 ·exact emit_dp h
 ·exact Dp.refl s
theorem pre_dp {g:Nat}{d:Int}(h1:(argsN C.p g:Int)≤d)(h2:d≤1199)(s:Gs):Dp s (preG C x line g d s):=by
 unfold preG
 exact((show Dp s ⟨s.items,max s.most (topOf C x+(localsOf C.p (g:Int)).length),s.start⟩ from id).trans (stores_dp _ d _ (by omega) (by omega))).trans (zeros_dp (by omega) _ _ _)
theorem leave_dp (k:Nat)(last:Bool){d:Int}(h:0≤d∧d≤1200)(L:Ls):Dp L.g (leaveG C x k last d L).g:=by
 unfold leaveG
 split
 ·split
  ·exact emit_dp h
  ·exact emit_dp h
 split
 ·exact Dp.refl _
 ·exact emit_dp h
theorem stepA_dp (hC:CxOk C)(hi:ins.length≤4)(hrep:RepD C rep x ins){k:Nat}{ln:TLine}(hk:C.p[k]?=some ln)(h0:ln.fKind≠0)(hcl:ln.fKind≠7→CallsE C ln.fExpr){base:Int}(hb1:0≤base)(hb2:base≤1000+30 * ins.length)(L:Ls):Dp L.g (stepA C rep x ins base k ln L).g:=by
 unfold stepA
 split
 ·intro h
  exact setArg_dp _ _ (emit_dp (C:=C) (by omega) h)
 rename_i h4
 split
 ·split
  ·exact Dp.trans (b:=emitG C L.g base 0 0 k x.chain) (emit_dp (by omega)) (leave_dp k true (d:=base+1) (by omega) {L with g:=emitG C L.g base 0 0 k x.chain})
  split
  ·exact emit_dp (by omega)
  ·exact Dp.refl _
 ·rename_i h7
  have hlk:=hC.line _ _ hk
  have hex:=exL_ok (hlk.2.2.2.2 (by omega))
  have h20:=hlk.2.2.2.1
  have hcl:=hcl h7
  rw[hex.2]at h20 hcl
  have tg:Dp L.g (genE C rep x ins k (exL ln.fExpr) base ⟨L.g.items,L.g.most,true⟩):=genE_dp hi hrep (exL ln.fExpr) base ⟨L.g.items,L.g.most,true⟩ hex.1 hcl hb1 (by omega)
  dsimp only
  split
  ·exact tg.trans (emit_dp (by omega))
  split
  ·exact tg.trans (emit_dp (by omega))
  split
  ·exact tg.trans (leave_dp k false (d:=base+1) (by omega) {L with g:=genE C rep x ins k (exL ln.fExpr) base ⟨L.g.items,L.g.most,true⟩,heads:=L.heads.set k L.g.items.length})
  ·exact tg.trans (emit_dp (by omega))
theorem stepB_dp (k:Nat)(ln:TLine)(L:Ls):Dp L.g (stepB C x k ln L).g:=by
 unfold stepB
 split
 ·exact fun h=>setArg_dp _ _ h
 ·exact Dp.refl _
theorem runL_dp (hC:CxOk C)(hi:ins.length≤4)(hrep:RepD C rep x ins){base:Int}(hb1:0≤base)(hb2:base≤1000+30 * ins.length):∀(n k:Nat) (L:Ls),(∀(i:Nat) (y:TLine),k≤i→i < k+n→C.p[i]?=some y→y.fKind≠0∧(y.fKind≠7→CallsE C y.fExpr))→Dp L.g (runL C rep x ins base n k L).g
 | 0,k,L,_=>by rw[runL];exact Dp.refl _
 | n+1,k,L,h=>by
  rw[runL]
  split
  ·rename_i ln hk
   obtain⟨a1,a2⟩:=h k ln (Nat.le_refl _) (by omega) hk
   exact((stepA_dp hC hi hrep hk a1 a2 hb1 hb2 L).trans (stepB_dp k ln _)).trans (runL_dp hC hi hrep hb1 hb2 n (k+1) _ fun i y h1 h2=>h i y (by omega) (by omega))
  ·exact Dp.refl _
theorem linesG_dp (hC:CxOk C)(hx:ScOk C x ins)(hi:ins.length≤4)(hrep:RepD C rep x ins){base:Int}(hb1:0≤base)(hb2:base≤1000+30 * ins.length)(s:Gs):Dp s (linesG C rep x ins base s).1:=by
 obtain⟨ln,h1,h2⟩:=hx.fn
 obtain⟨e,h3,_,_,h4⟩:=hC.fn _ _ h1 h2
 obtain⟨e',g3,g4,g4',g5,_⟩:=hx.endE hC
 rw[h3]at g3
 injection g3 with g3
 subst g3
 unfold linesG
 rw[g5]
 refine runL_dp hC hi hrep hb1 hb2 (e - x.f) (x.f+1) (startL C s) fun i y k1 k2 hy=>?_
 by_cases hie:i=e
 ·subst hie
  obtain⟨z,hz,h7⟩:=endAt_kind h3
  rw[hy]at hz
  injection hz with hz
  subst hz
  exact⟨by omega,fun hn=>absurd h7 hn⟩
 ·obtain⟨b1,b2,_⟩:=h4 i y (by omega) (by omega) hy
  exact⟨b1,fun _=>b2⟩
end
theorem repN_dp {C:Cx}(hC:CxOk C):∀(lev:Nat) {x:Sc} {ins:List Nat},ScOk C x ins→RepD C (repN C lev) x ins
 | 0,x,ins,hx,line,g,d,s,_,_,_,_=>Dp.refl s
 | lev+1,x,ins,hx,line,g,d,s,hg,h1,h2,hr=>by
  obtain⟨r1,r2,r3,_⟩:=replB_spec hr
  have hin:=hC.inl
  have hy:=inSc_ok hC hx line hg
  have hil:(ins++[g]).length=ins.length+1:=by simp
  have t1:=pre_dp (x:=x) (line:=line) h1 (by omega) s
  have t2:=space_dp (C:=C) (line:=line) x (d:=d - argsN C.p g) (by omega) (preG C x line g d s)
  have t3:=linesG_dp hC hy (by omega) (repN_dp hC lev hy) (base:=d - argsN C.p g) (by omega) (by omega) (spaceG C x line (d - argsN C.p g) (preG C x line g d s))
  intro h
  exact patchL_dp _ _ (((t1.trans t2).trans t3) h)
end Go.Proofs.Ytogdbgmiigfmfaa
namespace Go.Proofs.Ytogdbgmiigfmfaa
open Go.Sim
set_option maxRecDepth 100000
set_option maxHeartbeats 4000000
structure PsOk (P:List TPlace):Prop where
 at0:∀x:TPlace,P[0]?=some x→x.fOffset=0
 next:∀(k:Nat) (x y:TPlace),P[k]?=some x→P[k+1]?=some y→y.fOffset=x.fOffset+opSize x.fItem.fOp.fCode
 rng:∀(k:Nat) (x:TPlace),P[k]?=some x→0≤x.fOffset∧x.fOffset≤100000∧1≤opSize x.fItem.fOp.fCode∧opSize x.fItem.fOp.fCode≤5∧0≤x.fItem.fLine∧x.fItem.fLine≤59
 len:P.length≤15000
theorem allPl_split:∀{L:List (Nat×List TPlace)} {k:Nat} {x:TPlace},(allPl L)[k]?=some x→∃i z j,L[i]?=some z∧z.2[j]?=some x∧k=(allPl (L.take i)).length+j
 | [],k,x,h=>by simp[allPl]at h
 | a::L,k,x,h=>by
  have e:allPl (a::L)=a.2++allPl L:=by simp[allPl]
  rw[e,List.getElem?_append]at h
  split at h
  ·exact⟨0,a,k,rfl,h,by simp[allPl]⟩
  ·obtain⟨i,z,j,h1,h2,h3⟩:=allPl_split h
   refine⟨i+1,z,j,by simpa using h1,h2,?_⟩
   rw[List.take_succ_cons,show allPl (a::L.take i)=a.2++allPl (L.take i) by simp[allPl],List.length_append]
   omega
theorem opSize_pos {c a:Int}(h:opOkB c a=true):1≤opSize c∧opSize c≤5:=by
 unfold opOkB at h
 rw[Bool.and_eq_true]at h
 have:=opArg_le c
 rw[opSize,if_pos h.1]
 omega
theorem placesOf_ok {p:List TLine}{b:TBuild}{image:Int}(hs:smallT 1048576 (.lst 4 (p.map TLine.tr))):PsOk (placesOf p b image):=by
 by_cases hc:programOk p=true∧buildOk b=true∧within image 0 1=true
 ·rw[placesOf,if_pos hc]
  obtain⟨h1,h2,_⟩:=hc
  show PsOk (allPl (imgL p b image (funs p).length 0 0))
  obtain⟨h6,h60⟩:=funs_six h1
  have hll:=imgL_len p b image (funs p).length 0 0
  have hlc:=fun x (hx:x∈imgL p b image (funs p).length 0 0)=>(imgL_cap hs hx).1
  have hal:=allPl_cap hlc (Nat.le_refl _)
  rw[List.take_of_length_le (Nat.le_refl _)]at hal
  have hal2:=Nat.mul_le_mul_left 2500 (show(imgL p b image (funs p).length 0 0).length≤6 by omega)
  have key:∀(k:Nat) (x:TPlace),(allPl (imgL p b image (funs p).length 0 0))[k]?=some x→x.fOffset=((codeOf ((allPl (imgL p b image (funs p).length 0 0)).take k)).length:Int)∧opOkB x.fItem.fOp.fCode x.fItem.fOp.fArg=true∧0≤x.fItem.fLine∧x.fItem.fLine≤59:=by
   intro k x hx
   obtain⟨i,z,j,g1,g2,rfl⟩:=allPl_split hx
   obtain⟨hp,ho⟩:=imgL_place hs h1 h2 g1 g2
   have ht:(allPl (imgL p b image (funs p).length 0 0)).take ((allPl ((imgL p b image (funs p).length 0 0).take i)).length+j)=allPl ((imgL p b image (funs p).length 0 0).take i)++z.2.take j:=by
    generalize imgL p b image (funs p).length 0 0=L at *
    have e:L=L.take i++z::L.drop (i+1):=by rw[←drop_at g1,List.take_append_drop]
    have e2:allPl L=allPl (L.take i)++(z.2++allPl (L.drop (i+1))):=by
     conv=>lhs;rw[e]
     simp[allPl]
    rw[e2,List.take_append,Nat.add_sub_cancel_left,List.take_of_length_le (by omega),List.take_append_of_le_length (Nat.le_of_lt (lt_of_get g2))]
   refine⟨by rw[ht,codeOf_append,List.length_append];omega,hp.op,?_⟩
   rcases Nat.eq_zero_or_pos j with rfl|hj
   ·obtain⟨_,g,ln,k1,k2,k3,_⟩:=hp.head rfl
    have:=lt_of_get k3
    omega
   ·obtain⟨_,g,ln,k2,k3,_⟩:=hp.body hj
    have:=lt_of_get k3
    omega
  generalize allPl (imgL p b image (funs p).length 0 0)=P at *
  refine⟨fun x hx=>?_,fun k x y hx hy=>?_,fun k x hx=>?_,by omega⟩
  ·have:=(key 0 x hx).1
   simpa [codeOf]using this
  ·obtain⟨a1,a2,_⟩:=key k x hx
   obtain⟨b1,_⟩:=key (k+1) y hy
   have:=encodeOp_len a2
   rw[b1,a1,take_one hx,codeOf_append,List.length_append,codeOf_one]
   omega
  ·obtain⟨a1,a2,a3,a4⟩:=key k x hx
   have hz:=opSize_pos a2
   have hcl:=codeOf_len (P.take k)
   have hkl:=lt_of_get hx
   have:(P.take k).length=k:=by rw[List.length_take];omega
   omega
 ·rw[placesOf,if_neg hc]
  exact⟨fun x h=>by simp at h,fun k x y h=>by simp at h,fun k x h=>by simp at h,by simp⟩
theorem PsOk.lt {P:List TPlace}(h:PsOk P):∀{n k:Nat} {x y:TPlace},P[k]?=some x→P[k+n+1]?=some y→x.fOffset+opSize x.fItem.fOp.fCode≤y.fOffset
 | 0,k,x,y,hx,hy=>by have:=h.next k x y hx hy;omega
 | n+1,k,x,y,hx,hy=>by
  obtain⟨z,hz⟩:=get_of_lt (l:=P) (k:=k+n+1) (by have:=lt_of_get hy;omega)
  have h1:=h.lt hx hz
  have h2:=h.next (k+n+1) z y hz (by rw[show k+n+1+1=k+(n+1)+1 by omega];exact hy)
  have:=(h.rng _ z hz).2.2.1
  omega
end Go.Proofs.Ytogdbgmiigfmfaa
namespace Go.Proofs.Ytogdbgmiigfmfaa
open Go.Sim
set_option maxRecDepth 100000
set_option maxHeartbeats 4000000
theorem compileF_dp {p:List TLine}{f:Int}{b:TBuild}(hs:smallT 1048576 (.lst 4 (p.map TLine.tr)))(h1:programOk p=true)(h2:buildOk b=true)(h3:0≤f)(h4:f < (funs p).length):∀it∈compileF p f b,DI it:=by
 obtain⟨g,C,k1,k2,k3,k4,k5,k6,k7,k8,k9⟩:=compiled_of hs h1 h2 h3 h4
 have hS:ScOk C (outerSc C g) [g]:=⟨k7,rfl,⟨Int.le_refl _,by simp[outerSc]⟩,rfl,by simp[outerSc],fun _=>k5,rfl⟩
 have hw:=k2.words
 rw[k8]
 refine linesG_dp k2 hS (by simp) (repN_dp k2 C.b.fInline.toNat hS) (base:=C.words) hw.1 (by simp only[List.length_cons,List.length_nil];omega) (headG C g) ?_
 exact emit_dp (C:=C) (s:=⟨[],(localsOf C.p (g:Int)).length - C.args,false⟩) (d:=0) (by omega) (fun it h=>by cases h)
def DPs (P:List TPlace):Prop:=∀x∈P,DI x.fItem
theorem placesOf_dp {p:List TLine}{b:TBuild}{image:Int}(hs:smallT 1048576 (.lst 4 (p.map TLine.tr))):DPs (placesOf p b image):=by
 by_cases hc:programOk p=true∧buildOk b=true∧within image 0 1=true
 ·rw[placesOf,if_pos hc]
  obtain⟨h1,h2,_⟩:=hc
  show DPs (allPl (imgL p b image (funs p).length 0 0))
  intro x hx
  obtain⟨k,hk⟩:=List.mem_iff_getElem?.1 hx
  obtain⟨i,z,j,g1,g2,rfl⟩:=allPl_split hk
  obtain⟨e1,e2,_⟩:=imgL_at hs h1 h2 (by omega) g1
  rw[e1]at g2
  have hj:j < (compileF p (z.1:Int) b).length:=by have:=lt_of_get g2;rwa [placesF_len]at this
  obtain⟨it,hit⟩:=get_of_lt hj
  rw[placesF_get hit]at g2
  injection g2 with g2
  subst g2
  have:=compileF_dp (f:=(z.1:Int)) hs h1 h2 (by omega) (by omega) it (List.mem_of_getElem? hit)
  dsimp only
  unfold jumpI
  split
  ·exact this
  ·exact this
 ·rw[placesOf,if_neg hc]
  intro x hx;cases hx
def lastEnd (p:Int)(l:List TRule):Int:=match l.getLast? with|some r=>r.fEnd|none=>p
theorem rulesOkF_snoc:∀{l:List TRule} {p:Int} {r:TRule},rulesOkF p (l++[r])=true↔rulesOkF p l=true∧ruleOkAt (lastEnd p l) r
 | [],p,r=>by
  rw[List.nil_append,rulesOkF,rulesOkF,rulesOkF]
  simp[lastEnd]
 | y::l,p,r=>by
  rw[List.cons_append,rulesOkF,rulesOkF]
  have e:lastEnd p (y::l)=lastEnd y.fEnd l:=by
   unfold lastEnd
   cases l with
   | nil=>rfl
   | cons z l=>simp[List.getLast?_cons]
  rw[e]
  split
  ·exact rulesOkF_snoc
  ·simp
theorem rulesOkF_ge:∀{l:List TRule} {p:Int} {i:Nat} {r:TRule},rulesOkF p l=true→l[i]?=some r→p≤r.fStart
 | [],_,_,_,_,h=>by simp at h
 | y::l,p,i,r,h,hi=>by
  rw[rulesOkF]at h
  split at h
  ·rename_i hy
   unfold ruleOkAt at hy
   cases i with
   | zero=>simp at hi;subst hi;exact hy.1
   | succ i=>
    rw[List.getElem?_cons_succ]at hi
    have:=rulesOkF_ge h hi
    omega
  ·cases h
theorem find_rule {off:Int}:∀{l:List TRule} {p:Int} {i k:Nat} {r:TRule},rulesOkF p l=true→l[i]?=some r→r.fStart≤off→off < r.fEnd→findRuleF off l k=((k+i:Nat):Int)
 | [],_,_,_,_,_,h,_,_=>by simp at h
 | y::l,p,i,k,r,h,hi,h1,h2=>by
  rw[rulesOkF]at h
  split at h
  ·cases i with
   | zero=>simp at hi;subst hi;rw[findRuleF,if_pos ⟨h1,h2⟩];simp
   | succ i=>
    rw[List.getElem?_cons_succ]at hi
    have:=rulesOkF_ge h hi
    rw[findRuleF,if_neg (by omega),find_rule h hi h1 h2]
    congr 1;omega
  ·cases h
def rulesTo (P:List TPlace)(k:Nat):List TRule:=(P.take k).foldl (fun a x=>addRule a (ruleOf x)) []
theorem rulesTo_succ {P:List TPlace}{k:Nat}{x:TPlace}(hx:P[k]?=some x):rulesTo P (k+1)=addRule (rulesTo P k) (ruleOf x):=by
 rw[rulesTo,take_one hx,List.foldl_append]
 rfl
structure RInv (P:List TPlace) (k:Nat) (R:List TRule):Prop where
 ok:rulesOk R=true
 len:R.length≤k
 nil:R=[]↔k=0
 fin:∀x,P[k]?=some x→lastEnd 0 R=x.fOffset
 all:∀(j:Nat) (x:TPlace),j < k→P[j]?=some x→∃(i:Nat) (r:TRule),R[i]?=some r∧r.fStart≤x.fOffset∧x.fOffset+opSize x.fItem.fOp.fCode≤r.fEnd∧r.fFrame=x.fItem.fEntered∧r.fDepth=x.fItem.fDepth
theorem lastEnd_snoc (p:Int)(l:List TRule)(r:TRule):lastEnd p (l++[r])=r.fEnd:=by simp[lastEnd]
theorem rules_inv {P:List TPlace}(h:PsOk P)(hd:DPs P):∀{k:Nat},k≤P.length→RInv P k (rulesTo P k)
 | 0,_=>⟨rfl,by simp[rulesTo],by simp[rulesTo],fun x hx=>by rw[h.at0 x hx];rfl,fun j x hj=>by omega⟩
 | k+1,hk=>by
  obtain⟨x,hx⟩:=get_of_lt (l:=P) (k:=k) (by omega)
  have I:=rules_inv h hd (k:=k) (by omega)
  have hr:=h.rng k x hx
  have hdx:=hd x (List.mem_of_getElem? hx)
  unfold DI at hdx
  have hfx:=I.fin x hx
  rw[rulesTo_succ hx]
  have hfin:∀y,P[k+1]?=some y→x.fOffset+opSize x.fItem.fOp.fCode=y.fOffset:=fun y hy=>(h.next k x y hx hy).symm
  have hok:=I.ok
  have hlen:=I.len
  have hall:=I.all
  generalize rulesTo P k=R at *
  rcases nil_or_snoc R with rfl|⟨ini,r,rfl⟩
  ·have hk0:k=0:=I.nil.1 rfl
   subst hk0
   have e:addRule [] (ruleOf x)=[ruleOf x]:=rfl
   rw[e]
   have h0:=h.at0 x hx
   refine⟨?_,by simp,by simp,fun y hy=>by rw[←hfin y hy];rfl,fun j y hj hy=>?_⟩
   ·rw[rulesOk,rulesOkF,rulesOkF,if_pos]
    unfold ruleOkAt ruleOf
    dsimp only
    exact⟨by omega,by omega,by omega,hdx.1,hdx.2.1,hdx.2.2⟩
   ·have:j=0:=by omega
    subst this
    rw[hx]at hy
    injection hy with hy
    subst hy
    exact⟨0,ruleOf x,rfl,Int.le_refl _,Int.le_refl _,rfl,rfl⟩
  ·rw[lastEnd_snoc]at hfx
   have ho:=rulesOkF_snoc.1 hok
   rw[addRule_snoc]
   split
   ·rename_i hj
    unfold joins at hj
    simp only[Bool.and_eq_true,beq_iff_eq]at hj
    have hrr:=ho.2
    unfold ruleOkAt at hrr
    refine⟨rulesOkF_snoc.2 ⟨ho.1,?_⟩,by simp only[List.length_append,List.length_cons,List.length_nil]at hlen ⊢;omega,by simp,fun y hy=>by rw[lastEnd_snoc,←hfin y hy];rfl,fun j y hjk hy=>?_⟩
    ·unfold ruleOkAt ruleOf
     dsimp only
     exact⟨hrr.1,by omega,by omega,hrr.2.2.2.1,hrr.2.2.2.2.1,hrr.2.2.2.2.2⟩
    ·by_cases hjx:j=k
     ·subst hjx
      rw[hx]at hy
      injection hy with hy
      subst hy
      refine⟨ini.length,⟨r.fStart,(ruleOf x).fEnd,r.fFrame,r.fDepth⟩,by simp,?_,Int.le_refl _,hj.2.1,hj.2.2⟩
      dsimp only
      omega
     ·obtain⟨i,q,q1,q2,q3,q4,q5⟩:=hall j y (by omega) hy
      rw[List.getElem?_append]at q1
      split at q1
      ·rename_i hi
       exact⟨i,q,by rw[List.getElem?_append_left hi];exact q1,q2,q3,q4,q5⟩
      ·rename_i hi
       have hi0:i - ini.length=0:=by
        rcases Nat.eq_zero_or_pos (i - ini.length)with e|e
        ·exact e
        ·rw[List.getElem?_eq_none (by simp;omega)]at q1;cases q1
       rw[hi0]at q1
       simp only[List.getElem?_cons_zero,Option.some.injEq]at q1
       subst q1
       refine⟨ini.length,⟨r.fStart,(ruleOf x).fEnd,r.fFrame,r.fDepth⟩,by simp,q2,?_,q4,q5⟩
       show _≤x.fOffset+opSize x.fItem.fOp.fCode
       omega
   ·refine⟨rulesOkF_snoc.2 ⟨hok,?_⟩,by simp only[List.length_append,List.length_cons,List.length_nil]at hlen ⊢;omega,by simp,fun y hy=>by rw[lastEnd_snoc,←hfin y hy];rfl,fun j y hjk hy=>?_⟩
    ·rw[lastEnd_snoc]
     unfold ruleOkAt ruleOf
     dsimp only
     exact⟨by omega,by omega,by omega,hdx.1,hdx.2.1,hdx.2.2⟩
    ·by_cases hjx:j=k
     ·subst hjx
      rw[hx]at hy
      injection hy with hy
      subst hy
      exact⟨(ini++[r]).length,ruleOf x,by simp,Int.le_refl _,Int.le_refl _,rfl,rfl⟩
     ·obtain⟨i,q,q1,q2⟩:=hall j y (by omega) hy
      exact⟨i,q,by rw[List.getElem?_append_left (lt_of_get q1)];exact q1,q2⟩
theorem rulesTo_all {P:List TPlace}(h:PsOk P):rulesTo P P.length=rulesOf P:=by
 have hn:near P=true:=by
  unfold near
  rw[List.all_eq_true]
  intro x hx
  obtain⟨k,hk⟩:=List.mem_iff_getElem?.1 hx
  have:=h.rng k x hk
  exact within_iff.2 ⟨this.1,by omega⟩
 rw[rulesTo,List.take_of_length_le (Nat.le_refl _),rulesOf,if_pos hn]
theorem rulesOf_inv {P:List TPlace}(h:PsOk P)(hd:DPs P):RInv P P.length (rulesOf P):=by
 rw[←rulesTo_all h];exact rules_inv h hd (Nat.le_refl _)
theorem rule_both {P:List TPlace}(h:PsOk P)(hd:DPs P){k:Nat}{x:TPlace}(hx:P[k]?=some x):
  ∃(i:Nat) (r:TRule),findRule (rulesOf P) x.fOffset=(i:Int)∧findRule (rulesOf P) (x.fOffset+opSize x.fItem.fOp.fCode - 1)=(i:Int)∧(rulesOf P)[i]?=some r∧r.fFrame=x.fItem.fEntered∧r.fDepth=x.fItem.fDepth:=by
 have I:=rulesOf_inv h hd
 obtain⟨i,r,q1,q2,q3,q4,q5⟩:=I.all k x (lt_of_get hx) hx
 have hok:=I.ok
 have hr:=(h.rng k x hx).2.2.1
 refine⟨i,r,?_,?_,q1,q4,q5⟩
 ·rw[findRule,if_pos hok,find_rule hok q1 (by omega) (by omega),Nat.zero_add]
 ·rw[findRule,if_pos hok,find_rule hok q1 (by omega) (by omega),Nat.zero_add]
end Go.Proofs.Ytogdbgmiigfmfaa
namespace Go.Proofs.Ytogdbgmiigfmfaa
open Go.Sim Go.ChangeShapes Go.WideShapes Go.ChangeAt Go.RowKit
set_option maxRecDepth 100000
set_option maxHeartbeats 4000000
theorem s_laws_FnRules (code:List UInt8):Sim.Spec Try.prog 7 [tvL 1 (code.map byteRow)] (rB true):=by
 refine spec_of_Wo hΓ hmix Try.func7 rfl (by decide) rfl ?_
 repeat' ((conv=>whnf);first|(with_reducible first|apply Wx|apply W6)|apply oi|(apply fi<;>intro h)|refine cl ((s_laws_big code)) ?_|refine⟨_,rfl,?_⟩|((with_reducible show _=_);rfl))
 all_goals try((with_reducible refine Obl.mk ?_);exact KP)
 have hl:code.length≤1048576:=by have:=of_decide_eq_false h;omega
 obtain⟨p,b,img,h1,h2,h3,hs,g0⟩:=g_spec_DrawDebug code hl
 have hP:=s_spec_PlacesOf p b (img:Int) hs
 have hk:=placesOf_ok (b:=b) (image:=(img:Int)) hs
 have hd:=placesOf_dp (b:=b) (image:=(img:Int)) hs
 generalize placesOf p b (img:Int)=P at *
 have hlen:=hk.len
 have hR:=s_impl_RulesOf P (by omega)
 have hI:=rulesOf_inv hk hd
 have hru:=fun{k:Nat} {x:TPlace} (hx:P[k]?=some x)=>rule_both hk hd hx
 generalize rulesOf P=R at *
 have hRk:=s_impl_RulesOk R (by have:=hI.len;omega)
 rw[hI.ok]at hRk
 refine cg (g0) ?_
 repeat' ((conv=>whnf);first|(with_reducible first|apply Wx|apply W6)|apply oi|(apply fi<;>intro h)|refine cl hP ?_|refine cl hR ?_|refine⟨_,rfl,?_⟩|((with_reducible show _=_);rfl))
 all_goals try((with_reducible refine Obl.mk ?_);exact KP)
 have hpl:(P.map TPlace.tr).length=P.length:=by simp
 have hRl:(R.map TRule.tr).length=R.length:=by simp
 have hRle:=hI.len
 have hnil:=hI.nil
 have hfin:((R.length:Int)==0)=((P.length:Int)==0):=by
  by_cases hz:P.length=0
  ·rw[hz,hnil.2 hz];rfl
  ·have:R.length≠0:=fun e=>hz (hnil.1 (List.length_eq_zero_iff.1 e))
   rw[beq_eq_false_iff_ne.2 (by omega),beq_eq_false_iff_ne.2 (by omega)]
 conv=>whnf
 refine⟨{k:Nat // k≤P.length},fun k=>⟨[(6,.r (.c (.own (23,0,0)))),(7,.r (.c (.own (25,0,0)))),(8,tI .i64 (k.1:Int))],[((25,0,0),some (.arr true 4 (R.map TRule.tr))),((23,0,0),some (.arr true 8 (P.map TPlace.tr)))],[25,23,4,16,13]⟩,fun k=>P.length - k.1,⟨0,by omega⟩,?_,?_⟩
 ·skip
  repeat' ((conv=>whnf);first|(with_reducible first|apply Wx|apply W6)|apply oi|(apply fi<;>intro h)|refine⟨_,rfl,?_⟩|((with_reducible show _=_);rfl))
  all_goals try((with_reducible refine Obl.mk ?_);exact KP)
 intro⟨k,hkP⟩
 dsimp only
 by_cases hlt:k < P.length
 ·obtain⟨x,hx⟩:=get_of_lt hlt
  obtain⟨i,r,e1,e2,e3,e4,e5⟩:=hru hx
  obtain⟨r1,r2,r3,r4,_⟩:=hk.rng k x hx
  have hF1:=s_impl_FindRule R x.fOffset (by omega)
  have hF2:=s_impl_FindRule R (x.fOffset+opSize x.fItem.fOp.fCode - 1) (by omega)
  rw[e1]at hF1
  rw[e2]at hF2
  have hO:=s_spec_OpSize x.fItem.fOp.fCode
  have hil:=lt_of_get e3
  have hir:i < (R.map TRule.tr).length:=by omega
  have hrt:(R.map TRule.tr)[i]?=some r.tr:=map_get e3
  have hkl:k < (P.map TPlace.tr).length:=by omega
  have hxt:(P.map TPlace.tr)[k]?=some x.tr:=map_get hx
  have hw1:IntKind.i64.wrap (IntKind.i64.wrap (x.fOffset+opSize x.fItem.fOp.fCode) - 1)=x.fOffset+opSize x.fItem.fOp.fCode - 1:=by rw[IntWalk.i64_in (x.fOffset+opSize x.fItem.fOp.fCode) (by omega),IntWalk.i64_in _ (by omega)]
  rw[←hw1]at hF2
  repeat' ((conv=>whnf);first|(with_reducible first|apply Wx|apply W6)|apply oi|(apply fi<;>intro h)|refine⟨k,rfl,hkl,?_⟩|refine⟨_,hxt,?_⟩|refine cl hF1 ?_|refine cl hO ?_|refine cl hF2 ?_|refine⟨i,rfl,hir,?_⟩|refine⟨_,hrt,?_⟩|refine⟨_,rfl,?_⟩|((with_reducible show _=_);rfl))
  all_goals try((with_reducible refine Obl.mk ?_);exact KP)
  all_goals try exact KX
  all_goals try(exfalso;simp_all;done)
  conv=>whnf
  refine⟨⟨k+1,by omega⟩,?_,by dsimp only;omega⟩
  repeat' ((conv=>whnf);first|(with_reducible first|apply Wx|apply W6)|apply oi|(apply fi<;>intro h)|refine⟨_,rfl,?_⟩|((with_reducible show _=_);rfl))
  all_goals try((with_reducible refine Obl.mk ?_);exact KP)
  all_goals try exact⟨KW⟩
 ·skip
  repeat' ((conv=>whnf);first|(with_reducible first|apply Wx|apply W6)|apply oi|(apply fi<;>intro h)|refine cl hRk ?_|refine⟨_,rfl,?_⟩|((with_reducible show _=_);rfl))
  all_goals try((with_reducible refine Obl.mk ?_);exact KP)
  all_goals try exact KX
  all_goals try(exfalso;first|(simp at h;done)|(simp at h;omega)|(simp_all;done)|(simp_all;omega))
  all_goals exact⟨congrArg Tr.bool (by rw[hpl,hRl,hfin];exact beq_self_eq_true _)⟩
theorem fnRules_lifted (os:Os)(started:os.Started)(H:Type)(enc:TypeId×Value→H):
  ReturnsInHanded {} Try.checked os 7 .any (Rows.fnRulesSpec.pre6 enc Try.prog Try.f7 Rows.fnRulesRow.domain false) (Rows.fnRulesSpec.post enc Try.prog Try.f7 false true false false):=by
 refine returnsInHanded_of_change (C:=Try.checked) own started (by kernel_rfl) Try.func7
  (ChangeSpec.witness6 (enc:=enc) (C:=Try.checked) false ⟨#[],#[.slice none 0 0],[]⟩ 8 (by kernel_rfl) (by kernel_rfl) (by kernel_rfl) (by kernel_rfl)) ?_
 intro W base args ds gs before hval hW _ _
 have hW0:=hW
 obtain⟨p,q,hA,_,_,_,_⟩:=hW0
 have hlen:=trodAll_len hA
 obtain⟨xs,hx,hty⟩:=args_typed (n:=8) hΓ (by kernel_rfl) (fun j t v h1 h2=>hval j t v (by simpa using h1) (by simpa using h2)) hA
 rw[Try.params7]at hty hlen
 obtain⟨_,xs0,rfl,hx0,hty0⟩:=typedVs_cons hty
 obtain⟨_,rfl,rows,⟨⟩,hl,hr⟩:=hx0
 obtain rfl:=typedVs_nil hty0
 obtain⟨d0,rfl⟩:=len1 hlen
 obtain⟨bs,rfl⟩:=byte_rows (rows:=rows) (fun r hr'=>hr r hr')
 exact law_calls laidOut rfl Try.underlying4 rfl (by kernel_rfl) rfl hx (s_laws_FnRules bs) hW
theorem fnRules_holds:Rows.FnRulesSaid:=
 OpenClaim.holds_of_wide 7 Try.f7 rfl rfl rfl rfl rfl rfl rfl ⟨rfl,rfl,rfl,rfl,rfl⟩ rfl rfl rfl rfl rfl (by kernel_rfl) Try.func7 (by kernel_rfl)
  (of_decide_eq_true (by kernel_rfl)) (by unfold Func.isWrapper;first|(rw[if_pos (by decide+kernel)];kernel_rfl)|(rw[if_neg (by decide+kernel)];exact⟨rfl,rfl⟩))
  (fun os started H enc _=>fnRules_lifted os started H enc)
end Go.Proofs.Ytogdbgmiigfmfaa
