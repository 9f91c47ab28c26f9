import Derived.Test.YtjmplnfiabmalaaGreatGf
namespace Go.Proofs.YtjmplnfiabmalaaGreat
open Go.Sim
set_option maxRecDepth 100000
set_option maxHeartbeats 4000000
theorem s_spec_l02CopyToks (l:List TTok)(hl:l.length≤1048576):Sim.Spec Tryz.prog 259 [tvL 3 (l.map TTok.tr)] (rL 3 (l.map TTok.tr)):=by
 refine spec_of_Wo hΓ hmix Tryz.func259 rfl (by decide) rfl ?_
 repeat' ((conv=>whnf);first|(with_reducible first|apply Wx|apply W6)|apply oi|(apply fi<;>intro h)|refine⟨_,rfl,?_⟩|((with_reducible show _=_);rfl))
 all_goals try((with_reducible refine Obl.mk ?_);exact KP)
 all_goals try exact⟨⟨by simp <;> omega,by simp <;> omega⟩⟩
 all_goals try exact⟨⟨rfl,flat_toks _⟩⟩
theorem s_spec_l03Copy (x:TLine)(hs:smallR 1048576 x.tr):Sim.Spec Tryz.prog 241 [.agg x.tr] (.r (.agg (x.tr.map resC))):=by
 refine spec_of_Wo hΓ hmix Tryz.func241 rfl (by decide) rfl ?_
 obtain⟨h1,h2,h3,h4,h5⟩:=line_small hs
 have hT:=s_spec_l02CopyToks x.fExpr h4
 repeat' ((conv=>whnf);first|(with_reducible first|apply Wx|apply W6)|apply oi|(apply fi<;>intro h)|refine cl hT ?_|refine⟨_,rfl,?_⟩|((with_reducible show _=_);rfl))
 all_goals try((with_reducible refine Obl.mk ?_);exact KP)
 all_goals try exact⟨⟨by simp <;> omega,by simp <;> omega⟩⟩
 all_goals try exact⟨⟨rfl,flat_strs _⟩⟩
theorem take_map {α β:Type}(f:α→β)(l:List α)(k:Nat)(x:α)(hx:l[k]?=some x):(l.take (k+1)).map f=(l.take k).map f++[f x]:=by
 rw[List.take_add_one,hx,List.map_append]
 rfl
theorem g_spec_l03CopyAll (l:List TLine)(hs:smallT 1048576 (.lst 4 (l.map TLine.tr))):SpecG Tryz.prog 204 [vP l] [] (.r (.c (.own (1,0,0)))) [((1,0,0),.dar 4 (deepRows (l.map TLine.tr)) none)]:=by
 refine specG_of_Wo hΓ hmix Tryz.func204 rfl (by decide) rfl rfl ?_
 have hl:=small_nat hs
 have hlen:(l.map TLine.tr).length=l.length:=by simp
 repeat' ((conv=>whnf);first|(with_reducible first|apply Wx|apply W6)|apply oi|(apply fi<;>intro h)|refine⟨_,rfl,?_⟩|((with_reducible show _=_);rfl))
 all_goals try((with_reducible refine Obl.mk ?_);exact KP)
 conv=>whnf
 refine⟨{k:Nat // k≤l.length},fun q=>⟨[(0,vP l),(3,.r (.c (.own (3,0,0)))),(4,tI .i64 (q.1:Int))],[((3,0,0),some (.dar 4 (deepRows ((l.take q.1).map TLine.tr)) none))],[3,0]⟩,fun q=>l.length - q.1,⟨0,by omega⟩,?_,?_⟩
 ·skip
  repeat' ((conv=>whnf);first|(with_reducible first|apply Wx|apply W6)|apply oi|(apply fi<;>intro h)|refine⟨_,rfl,?_⟩|((with_reducible show _=_);rfl))
  all_goals try((with_reducible refine Obl.mk ?_);exact KP)
 intro⟨k,hk⟩
 dsimp only at hk ⊢
 by_cases hlt:k < l.length
 ·obtain⟨x,hx⟩:=get_of_lt hlt
  have hdl:(deepRows ((l.take k).map TLine.tr)).length=k:=by rw[deepRows_length,List.length_map,List.length_take];omega
  have hC:=s_spec_l03Copy x (smallRs_map hs (List.mem_of_getElem? hx))
  repeat' ((conv=>whnf);first|(with_reducible first|apply Wx|apply W6)|apply oi|(apply fi<;>intro h)|refine⟨k,x.tr,rfl,map_get hx,?_⟩|refine cl hC ?_|refine⟨_,rfl,?_⟩|((with_reducible show _=_);rfl))
  all_goals try((with_reducible refine Obl.mk ?_);exact KP)
  all_goals try exact KX
  all_goals try exact⟨flat_toks _⟩
  all_goals try exact⟨flat_strs _⟩
  all_goals try exact⟨⟨by rw[hdl];(try dsimp only);simp <;> omega,by rw[hdl];(try dsimp only);simp <;> omega⟩⟩
  repeat' ((conv=>whnf);first|(with_reducible first|apply Wx|apply W6)|apply oi|(apply fi<;>intro h)|refine⟨_,rfl,?_⟩|((with_reducible show _=_);rfl))
  all_goals try((with_reducible refine Obl.mk ?_);exact KP)
  conv=>whnf
  refine⟨⟨k+1,by omega⟩,?_,by dsimp only;omega⟩
  repeat' ((conv=>whnf);first|(with_reducible first|apply Wx|apply W6)|apply oi|(apply fi<;>intro h)|refine⟨_,rfl,?_⟩|((with_reducible show _=_);rfl))
  all_goals try((with_reducible refine Obl.mk ?_);exact KP)
  all_goals try exact⟨K2⟩
  all_goals exact⟨by rw[take_map TLine.tr l k x hx];simp[deepRows,TLine.tr]⟩
 ·skip
  repeat' ((conv=>whnf);first|(with_reducible first|apply Wx|apply W6)|apply oi|(apply fi<;>intro h)|refine⟨_,rfl,?_⟩|((with_reducible show _=_);rfl))
  all_goals try((with_reducible refine Obl.mk ?_);exact KP)
  all_goals try exact KX
  all_goals exact⟨by rw[List.take_of_length_le (by omega)]⟩
noncomputable def foldL (l:List TTok):List TTok:=if h:exprOk l=true then(Classical.choose (exprOk_parse h)).fold.toks else []
theorem foldL_ok {l:List TTok}(h:exprOk l=true):∃e:Ex,e.ok∧l=e.toks∧foldL l=e.fold.toks:=by
 have hc:=Classical.choose_spec (exprOk_parse h)
 exact⟨_,hc.1,hc.2,by rw[foldL,dif_pos h]⟩
theorem foldL_no {l:List TTok}(h:exprOk l=false):foldL l=[]:=by rw[foldL,dif_neg (by simp[h])]
theorem foldL_len (l:List TTok):(foldL l).length≤l.length:=by
 cases h:exprOk l with
 | false=>rw[foldL_no h];simp
 | true=>
  obtain⟨e,_,h1,h2⟩:=foldL_ok h
  rw[h2,h1]
  exact e.fold_le
theorem s_spec_FoldExpr (l:List TTok)(hl:l.length≤1048576)(hn:toksShort l):Sim.Spec Tryz.prog 205 [tvL 3 (l.map TTok.tr)] (rL 3 ((foldL l).map TTok.tr)):=by
 refine spec_of_Wo hΓ hmix Tryz.func205 rfl (by decide) rfl ?_
 have hE:=s_spec_ExprOk l hl hn
 cases h:exprOk l with
 | false=>
  rw[h]at hE
  rw[foldL_no h]
  repeat' ((conv=>whnf);first|(with_reducible first|apply Wx|apply W6)|apply oi|(apply fi<;>intro h)|refine cl hE ?_|refine⟨_,rfl,?_⟩|((with_reducible show _=_);rfl))
  all_goals try((with_reducible refine Obl.mk ?_);exact KP)
  all_goals try exact KX
 | true=>
  rw[h]at hE
  obtain⟨e,h1,h2,h3⟩:=foldL_ok h
  have hF:=s_spec_l06Fold e.toks.length e (Nat.le_refl _) l 0 hl hn h1 ⟨[],by rw[List.drop_zero,List.append_nil];exact h2⟩
  rw[h3]
  generalize e.fold.toks=r at *
  repeat' ((conv=>whnf);first|(with_reducible first|apply Wx|apply W6)|apply oi|(apply fi<;>intro h)|refine cl hE ?_|refine cl hF ?_|refine⟨_,rfl,?_⟩|((with_reducible show _=_);rfl))
  all_goals try((with_reducible refine Obl.mk ?_);exact KP)
  all_goals try exact KX
noncomputable def foldLine (x:TLine):TLine:=if 0 < x.fExpr.length then⟨x.fKind,x.fName,x.fArgs,foldL x.fExpr⟩else x
noncomputable def foldMix (l:List TLine) (k:Nat):List TLine:=(l.take k).map foldLine++l.drop k
theorem foldMix_len (l:List TLine)(k:Nat):(foldMix l k).length=l.length:=by simp[foldMix];omega
theorem foldMix_get {l:List TLine}{k:Nat}{x:TLine}(hx:l[k]?=some x):(foldMix l k)[k]?=some x:=by
 have hk:k < l.length:=by
  rcases Nat.lt_or_ge k l.length with h|h
  ·exact h
  ·rw[List.getElem?_eq_none h]at hx;cases hx
 rw[foldMix,List.getElem?_append_right (by simp;omega)]
 simp only[List.length_map,List.length_take]
 rw[Nat.min_eq_left (by omega),Nat.sub_self,List.getElem?_drop]
 exact hx
theorem foldMix_next {l:List TLine}{k:Nat}{x:TLine}(hx:l[k]?=some x):foldMix l (k+1)=(foldMix l k).set k (foldLine x):=by
 have hk:k < l.length:=by
  rcases Nat.lt_or_ge k l.length with h|h
  ·exact h
  ·rw[List.getElem?_eq_none h]at hx;cases hx
 rw[foldMix,foldMix,take_map foldLine l k x hx,drop_at hx,List.set_append_right _ _ (by simp;omega)]
 simp only[List.length_map,List.length_take]
 rw[Nat.min_eq_left (by omega),Nat.sub_self,List.set_cons_zero,List.append_assoc]
 rfl
noncomputable def foldProg (l:List TLine):List TLine:=if programOk l=true then l.map foldLine else []
theorem s_spec_FoldProgram (l:List TLine)(hs:smallT 1048576 (.lst 4 (l.map TLine.tr))):Sim.Spec Tryz.prog 149 [tvP l] (rL 4 ((foldProg l).map TLine.tr)):=by
 refine spec_of_Wo hΓ hmix Tryz.func149 rfl (by decide) rfl ?_
 have hl:=small_nat hs
 have hP:=s_spec_ProgramOk l hs
 have hC:=g_spec_l03CopyAll l hs
 cases hpo:programOk l with
 | false=>
  rw[hpo]at hP
  have:foldProg l=[]:=by rw[foldProg,if_neg (by simp[hpo])]
  rw[this]
  repeat' ((conv=>whnf);first|(with_reducible first|apply Wx|apply W6)|apply oi|(apply fi<;>intro h)|refine cl hP ?_|refine⟨_,rfl,?_⟩|((with_reducible show _=_);rfl))
  all_goals try((with_reducible refine Obl.mk ?_);exact KP)
  all_goals try exact KX
 | true=>
  rw[hpo]at hP
  have:foldProg l=l.map foldLine:=by rw[foldProg,if_pos hpo]
  rw[this]
  repeat' ((conv=>whnf);first|(with_reducible first|apply Wx|apply W6)|refine cg hC ?_|apply oi|(apply fi<;>intro h)|refine cl hP ?_|refine⟨_,rfl,?_⟩|((with_reducible show _=_);rfl))
  all_goals try((with_reducible refine Obl.mk ?_);exact KP)
  all_goals try exact KX
  conv=>whnf
  refine⟨{k:Nat // k≤l.length},fun q=>⟨[(3,.r (.c (.own (3,0,0)))),(4,tI .i64 (q.1:Int))],[((3,0,0),some (.dar 4 (deepRows ((foldMix l q.1).map TLine.tr)) none))],[3]⟩,fun q=>l.length - q.1,⟨0,by omega⟩,?_,?_⟩
  ·skip
   repeat' ((conv=>whnf);first|(with_reducible first|apply Wx|apply W6)|apply oi|(apply fi<;>intro h)|refine⟨_,rfl,?_⟩|((with_reducible show _=_);rfl))
   all_goals try((with_reducible refine Obl.mk ?_);exact KP)
  intro⟨k,hk⟩
  dsimp only at hk ⊢
  have hdl:(deepRows ((foldMix l k).map TLine.tr)).length=l.length:=by rw[deepRows_length,List.length_map,foldMix_len]
  by_cases hlt:k < l.length
  ·obtain⟨x,hx⟩:=get_of_lt hlt
   obtain⟨h1,h2,h3,h4,h5⟩:=line_small (smallRs_map hs (List.mem_of_getElem? hx))
   have hF:=s_spec_FoldExpr x.fExpr h4 (fun y hy=>by have:=h5 y hy;omega)
   have hkl:k < (deepRows ((foldMix l k).map TLine.tr)).length:=by rw[hdl];exact hlt
   have hel3:(x.fExpr.map TTok.tr).length=x.fExpr.length:=by simp
   by_cases hpos:0 < x.fExpr.length
   ·have hfl:foldLine x=⟨x.fKind,x.fName,x.fArgs,foldL x.fExpr⟩:=by rw[foldLine,if_pos hpos]
    repeat' ((conv=>whnf);first|(with_reducible first|apply Wx|apply W6)|apply oi|(apply fi<;>intro h)|refine⟨k,rfl,hkl,?_⟩|refine⟨k,rfl,(by simpa using hkl),?_⟩|refine⟨_,deepRows_get (map_get (foldMix_get hx)),?_⟩|refine⟨_,(List.getElem?_set_self (by simpa using hkl)),?_⟩|refine cl hF ?_|refine⟨_,rfl,?_⟩|((with_reducible show _=_);rfl))
    all_goals try((with_reducible refine Obl.mk ?_);exact KP)
    all_goals try exact⟨flat_toks _⟩
    all_goals try(exfalso;have h':=of_decide_eq_false h;rw[hdl]at h';omega)
    all_goals try(exfalso;have h':=of_decide_eq_false h;rw[hel3]at h';omega)
    conv=>whnf
    refine⟨⟨k+1,by omega⟩,?_,by dsimp only;omega⟩
    repeat' ((conv=>whnf);first|(with_reducible first|apply Wx|apply W6)|apply oi|(apply fi<;>intro h)|refine⟨_,rfl,?_⟩|((with_reducible show _=_);rfl))
    all_goals try((with_reducible refine Obl.mk ?_);exact KP)
    all_goals try exact⟨flat_toks _⟩
    all_goals try exact⟨K2⟩
    all_goals(refine⟨?_⟩;(try dsimp only);rw[foldMix_next hx,List.map_set,←deepRows_set,hfl];simp[TLine.tr])
   ·have hfl:foldLine x=x:=by rw[foldLine,if_neg hpos]
    repeat' ((conv=>whnf);first|(with_reducible first|apply Wx|apply W6)|apply oi|(apply fi<;>intro h)|refine⟨k,rfl,hkl,?_⟩|refine⟨k,rfl,(by simpa using hkl),?_⟩|refine⟨_,deepRows_get (map_get (foldMix_get hx)),?_⟩|refine⟨_,(List.getElem?_set_self (by simpa using hkl)),?_⟩|refine cl hF ?_|refine⟨_,rfl,?_⟩|((with_reducible show _=_);rfl))
    all_goals try((with_reducible refine Obl.mk ?_);exact KP)
    all_goals try exact⟨flat_toks _⟩
    all_goals try(exfalso;have h':=of_decide_eq_false h;rw[hdl]at h';omega)
    all_goals try(exfalso;have h':=of_decide_eq_true h;rw[hel3]at h';omega)
    conv=>whnf
    refine⟨⟨k+1,by omega⟩,?_,by dsimp only;omega⟩
    repeat' ((conv=>whnf);first|(with_reducible first|apply Wx|apply W6)|apply oi|(apply fi<;>intro h)|refine⟨k,rfl,hkl,?_⟩|refine⟨k,rfl,(by simpa using hkl),?_⟩|refine⟨_,deepRows_get (map_get (foldMix_get hx)),?_⟩|refine⟨_,(List.getElem?_set_self (by simpa using hkl)),?_⟩|refine⟨_,rfl,?_⟩|((with_reducible show _=_);rfl))
    all_goals try((with_reducible refine Obl.mk ?_);exact KP)
    all_goals try exact⟨flat_toks _⟩
    all_goals try exact⟨K2⟩
    all_goals(refine⟨?_⟩;(try dsimp only);rw[foldMix_next hx,List.map_set,←deepRows_set,hfl];simp[TLine.tr])
  ·skip
   repeat' ((conv=>whnf);first|(with_reducible first|apply Wx|apply W6)|apply oi|(apply fi<;>intro h)|refine⟨_,rfl,?_⟩|((with_reducible show _=_);rfl))
   all_goals try((with_reducible refine Obl.mk ?_);exact KP)
   all_goals try exact KX
   all_goals exact⟨by rw[foldMix,List.take_of_length_le (by omega),List.drop_eq_nil_of_le (by omega),List.append_nil]⟩
end Go.Proofs.YtjmplnfiabmalaaGreat
namespace Go.Proofs.YtjmplnfiabmalaaGreat
open Go.Sim
set_option maxRecDepth 100000
set_option maxHeartbeats 4000000
structure TCur where
 b:List UInt8
 i:Nat
 h:Int
def TCur.ok (c:TCur):Prop:=c.i≤c.b.length∧c.b.length≤1048576
abbrev curH (c:TCur):List (Sim.Id×AO):=[((0,0,0),.box [.t (.lst 1 (c.b.map byteRow)),.t (.int .i64 c.i),.t (.int .i64 c.h)])]
abbrev curP:AV:= .r (.c (.ptr (0,0,0) 0))
theorem low8 (z:Int):∃x:Nat,x < 256∧IntKind.i64.wrap ((BitVec.ofInt IntKind.i64.bits z &&& BitVec.ofInt IntKind.i64.bits 255).toNat:Int)=(x:Int):=by
 have e:(BitVec.ofInt 64 255).toNat=2 ^ 8 - 1:=by decide
 have h:(BitVec.ofInt IntKind.i64.bits z &&& BitVec.ofInt IntKind.i64.bits 255).toNat < 256:=by
  show(BitVec.ofInt 64 z &&& BitVec.ofInt 64 255).toNat < 256
  rw[BitVec.toNat_and,e,Nat.and_two_pow_sub_one_eq_mod]
  omega
 generalize(BitVec.ofInt IntKind.i64.bits z &&& BitVec.ofInt IntKind.i64.bits 255).toNat=n at *
 exact⟨n,h,IntWalk.i64_in _ (by omega)⟩
def nextH (h:Int):Int:=IntKind.i64.wrap (IntKind.i64.wrap (h * 6364136223846793005)+1442695040888963407)
theorem g_spec_l01Byte (c:TCur)(hc:c.ok):∃(x:Nat) (c':TCur),x < 256∧c'.b=c.b∧c'.ok∧SpecG Tryz.prog 203 [curP] (curH c) (tI .i64 x) (curH c'):=by
 obtain⟨hi,hl⟩:=hc
 have hbl:(c.b.map byteRow).length=c.b.length:=by simp
 obtain⟨x0,hx0,he0⟩:=low8 (IntKind.i64.wrap ((BitVec.ofInt IntKind.i64.bits ((nextH c.h).fdiv (2 ^ min (Int.toNat 33) IntKind.i64.bits)) ^^^ BitVec.ofInt IntKind.i64.bits ((nextH c.h).fdiv (2 ^ min (Int.toNat 45) IntKind.i64.bits))).toNat:Int))
 unfold nextH at he0
 by_cases hlt:c.i < c.b.length
 ·obtain⟨u,hu⟩:=get_of_lt hlt
  obtain⟨x,hx,he⟩:=low8 (IntKind.i64.wrap ((x0:Int)+IntKind.i64.wrap (u.toNat:Int)))
  rw[←he0]at he
  refine⟨x,⟨c.b,c.i+1,nextH c.h⟩,hx,rfl,⟨by dsimp only;omega,hl⟩,?_⟩
  refine specG_of_Wo hΓ hmix Tryz.func203 rfl (by decide) rfl rfl ?_
  repeat' ((conv=>whnf);first|(with_reducible first|apply Wx|apply W6)|apply oi|(apply fi<;>intro h)|refine⟨c.i,(byteRow u),rfl,map_get hu,?_⟩|refine⟨_,rfl,?_⟩|((with_reducible show _=_);rfl))
  all_goals try((with_reducible refine Obl.mk ?_);exact KP)
  all_goals try exact KX
  all_goals try exact⟨congrArg (Tr.int _) he⟩
  all_goals try exact⟨K6⟩
  all_goals exact⟨rfl⟩
 ·refine⟨x0,⟨c.b,c.i,nextH c.h⟩,hx0,rfl,⟨hi,hl⟩,?_⟩
  refine specG_of_Wo hΓ hmix Tryz.func203 rfl (by decide) rfl rfl ?_
  repeat' ((conv=>whnf);first|(with_reducible first|apply Wx|apply W6)|apply oi|(apply fi<;>intro h)|refine⟨_,rfl,?_⟩|((with_reducible show _=_);rfl))
  all_goals try((with_reducible refine Obl.mk ?_);exact KP)
  all_goals try exact KX
  all_goals try exact⟨congrArg (Tr.int _) he0⟩
  all_goals exact⟨rfl⟩
theorem tmod_below {x:Nat}{n:Int}(h:0 < n):∃y:Nat,(y:Int) < n∧(x:Int).tmod n=(y:Int):=by
 have h1:=Int.tmod_nonneg n (Int.natCast_nonneg x)
 have h2:=Int.tmod_lt_of_pos (x:Int) h
 obtain⟨y,hy⟩:=Int.eq_ofNat_of_zero_le h1
 exact⟨y,by omega,hy⟩
theorem g_spec_l01Below (c:TCur)(n:Int)(hc:c.ok):∃(x:Nat) (c':TCur),(0 < n→(x:Int) < n)∧(n≤0→x=0)∧c'.b=c.b∧c'.ok∧SpecG Tryz.prog 146 [curP,tI .i64 n] (curH c) (tI .i64 x) (curH c'):=by
 by_cases h0:n≤0
 ·refine⟨0,c,by omega,fun _=>rfl,rfl,hc,?_⟩
  refine specG_of_Wo hΓ hmix Tryz.func146 rfl (by decide) rfl rfl ?_
  repeat' ((conv=>whnf);first|(with_reducible first|apply Wx|apply W6)|apply oi|(apply fi<;>intro h)|refine⟨_,rfl,?_⟩|((with_reducible show _=_);rfl))
  all_goals try((with_reducible refine Obl.mk ?_);exact KP)
  all_goals try exact KX
 ·obtain⟨x1,c1,k1,b1,o1,g1⟩:=g_spec_l01Byte c hc
  by_cases h2:n≤256
  ·obtain⟨y,hy,hm⟩:=tmod_below (x:=x1) (n:=n) (by omega)
   refine⟨y,c1,fun _=>hy,by omega,b1,o1,?_⟩
   refine specG_of_Wo hΓ hmix Tryz.func146 rfl (by decide) rfl rfl ?_
   repeat' ((conv=>whnf);first|(with_reducible first|apply Wx|apply W6)|refine cg g1 ?_|apply oi|(apply fi<;>intro h)|refine⟨_,rfl,?_⟩|((with_reducible show _=_);rfl))
   all_goals try((with_reducible refine Obl.mk ?_);exact KP)
   all_goals try exact KX
   all_goals try exact⟨by omega⟩
   all_goals exact⟨congrArg (Tr.int _) hm⟩
  ·obtain⟨x2,c2,k2,b2,o2,g2⟩:=g_spec_l01Byte c1 o1
   obtain⟨x3,c3,k3,b3,o3,g3⟩:=g_spec_l01Byte c2 o2
   obtain⟨x4,c4,k4,b4,o4,g4⟩:=g_spec_l01Byte c3 o3
   obtain⟨y,hy,hm⟩:=tmod_below (x:=x1 * 16777216+x2 * 65536+x3 * 256+x4) (n:=n) (by omega)
   refine⟨y,c4,fun _=>hy,by omega,((b4.trans b3).trans b2).trans b1,o4,?_⟩
   refine specG_of_Wo hΓ hmix Tryz.func146 rfl (by decide) rfl rfl ?_
   repeat' ((conv=>whnf);first|(with_reducible first|apply Wx|apply W6)|apply oi|(apply fi<;>intro h)|refine⟨_,rfl,?_⟩|((with_reducible show _=_);rfl))
   all_goals try((with_reducible refine Obl.mk ?_);exact KP)
   all_goals try exact KX
   refine cg (g1) ?_
   repeat' ((conv=>whnf);first|(with_reducible first|apply Wx|apply W6)|apply oi|(apply fi<;>intro h)|refine⟨_,rfl,?_⟩|((with_reducible show _=_);rfl))
   all_goals try((with_reducible refine Obl.mk ?_);exact KP)
   refine cg (g2) ?_
   repeat' ((conv=>whnf);first|(with_reducible first|apply Wx|apply W6)|apply oi|(apply fi<;>intro h)|refine⟨_,rfl,?_⟩|((with_reducible show _=_);rfl))
   all_goals try((with_reducible refine Obl.mk ?_);exact KP)
   refine cg (g3) ?_
   repeat' ((conv=>whnf);first|(with_reducible first|apply Wx|apply W6)|apply oi|(apply fi<;>intro h)|refine⟨_,rfl,?_⟩|((with_reducible show _=_);rfl))
   all_goals try((with_reducible refine Obl.mk ?_);exact KP)
   refine cg (g4) ?_
   repeat' ((conv=>whnf);first|(with_reducible first|apply Wx|apply W6)|apply oi|(apply fi<;>intro h)|refine⟨_,rfl,?_⟩|((with_reducible show _=_);rfl))
   all_goals try((with_reducible refine Obl.mk ?_);exact KP)
   all_goals try exact⟨by omega⟩
   all_goals(
    have hw:IntKind.i64.wrap (IntKind.i64.wrap (IntKind.i64.wrap (IntKind.i64.wrap ((x1:Int) * 16777216)+IntKind.i64.wrap ((x2:Int) * 65536))+IntKind.i64.wrap ((x3:Int) * 256))+(x4:Int))=((x1 * 16777216+x2 * 65536+x3 * 256+x4:Nat):Int):=by
     rw[IntWalk.i64_in ((x1:Int) * 16777216) (by omega),IntWalk.i64_in ((x2:Int) * 65536) (by omega),IntWalk.i64_in ((x3:Int) * 256) (by omega),IntWalk.i64_in ((x1:Int) * 16777216+(x2:Int) * 65536) (by omega),IntWalk.i64_in ((x1:Int) * 16777216+(x2:Int) * 65536+(x3:Int) * 256) (by omega),IntWalk.i64_in _ (by omega)]
     omega
    exact⟨by rw[hw,hm]⟩)
theorem g_spec_l01Once (c:TCur)(n:Int)(hc:c.ok):∃(x:Bool) (c':TCur),c'.b=c.b∧c'.ok∧SpecG Tryz.prog 148 [curP,tI .i64 n] (curH c) (tB x) (curH c'):=by
 obtain⟨x,c',_,_,b1,o1,g1⟩:=g_spec_l01Below c n hc
 refine⟨(x:Int)==0,c',b1,o1,?_⟩
 refine specG_of_Wo hΓ hmix Tryz.func148 rfl (by decide) rfl rfl ?_
 repeat' ((conv=>whnf);first|(with_reducible first|apply Wx|apply W6)|refine cg g1 ?_|apply oi|(apply fi<;>intro h)|refine⟨_,rfl,?_⟩|((with_reducible show _=_);rfl))
 all_goals try((with_reducible refine Obl.mk ?_);exact KP)
theorem g_spec_l01PickIntO (c:TCur)(ns:List Int)(hc:c.ok)(hp:0 < ns.length)(hl:ns.length≤1048576):∃(v:Int) (c':TCur),v∈ns∧c'.b=c.b∧c'.ok∧SpecG Tryz.prog 147 [curP,.r (.c (.own (0,0,1)))] (curH c++[((0,0,1),.arr false 1 (ns.map intRow))]) (tI .i64 v) (curH c'++[((0,0,1),.arr false 1 (ns.map intRow))]):=by
 have hlen:(ns.map intRow).length=ns.length:=by simp
 obtain⟨x,c',h1,_,b1,o1,g1⟩:=g_spec_l01Below c ((ns.map intRow).length:Int) hc
 rw[hlen]at h1
 obtain⟨v,hv⟩:=get_of_lt (l:=ns) (k:=x) (by omega)
 have hxl:x < (ns.map intRow).length:=by rw[hlen];omega
 refine⟨v,c',List.mem_of_getElem? hv,b1,o1,?_⟩
 refine specG_of_Wo hΓ hmix Tryz.func147 rfl (by decide) rfl rfl ?_
 repeat' ((conv=>whnf);first|(with_reducible first|apply Wx|apply W6)|refine cg g1 ?_|apply oi|(apply fi<;>intro h)|refine⟨x,rfl,hxl,?_⟩|refine⟨(intRow v),map_get hv,?_⟩|refine⟨_,rfl,?_⟩|((with_reducible show _=_);rfl))
 all_goals try((with_reducible refine Obl.mk ?_);exact KP)
end Go.Proofs.YtjmplnfiabmalaaGreat
namespace Go.Proofs.YtjmplnfiabmalaaGreat
open Go.Sim
set_option maxRecDepth 100000
set_option maxHeartbeats 4000000
def toks8 (R:List TTok)(d:Nat):Prop:=0 < R.length∧R.length≤5 ^ d∧∀t∈R,t.fName.length≤8
abbrev exIn (vars:List (List UInt8))(c:TCur):List (Sim.Id×AO):=curH c++[((0,0,1),.arr false 1 (vars.map strRow))]
abbrev exArgs (m:Int)(names:List (List UInt8))(ars:List Int):List AV:=[curP,tI .i64 m,.r (.c (.own (0,0,1))),vN names,.r (.c (.t (.lst 1 (ars.map intRow))))]
abbrev exOut (vars:List (List UInt8))(c:TCur)(R:List TTok):List (Sim.Id×AO):=exIn vars c++[((1,0,0),.arr false 3 (R.map TTok.tr))]
theorem pow5_pos (d:Nat):1≤5 ^ d:=Nat.one_le_pow _ _ (by omega)
theorem pow5_le {d:Nat}(h:d≤8):5 ^ d≤390625:=Nat.pow_le_pow_right (n:=5) (by omega) h
theorem quart_lt {m:Int}{d:Nat}(h0:0≤m)(h1:m < 2 ^ (d+1))(hb:m≤1000):0≤IntKind.i64.wrap (m.tdiv 4)∧IntKind.i64.wrap (m.tdiv 4) < 2 ^ d∧IntKind.i64.wrap (m.tdiv 4)≤1000:=by
 rw[Int.tdiv_eq_ediv_of_nonneg h0,IntWalk.i64_in _ (by omega)]
 have:(2:Int) ^ (d+1)=2 * 2 ^ d:=by rw[Int.pow_succ];omega
 omega
def ExChain (P:TCur→List TTok→TCur→Prop)(d:Nat):Nat→TCur→List TTok→TCur→List TTok→Prop
 | 0,c,acc,c',acc'=>c'=c∧acc'=acc
 | k+1,c,acc,c',acc'=>∃R c1,toks8 R d∧c1.b=c.b∧c1.ok∧P c R c1∧ExChain P d k c1 (acc++R) c' acc'
theorem chain_ex {P:TCur→List TTok→TCur→Prop}{d:Nat}(ih:∀c:TCur,c.ok→∃R c1,toks8 R d∧c1.b=c.b∧c1.ok∧P c R c1):∀(k:Nat) (c:TCur) (acc:List TTok),c.ok→∃c' acc',ExChain P d k c acc c' acc'
 | 0,c,acc,_=>⟨c,acc,rfl,rfl⟩
 | k+1,c,acc,hc=>by
  obtain⟨R,c1,h1,h2,h3,h4⟩:=ih c hc
  obtain⟨c',acc',h5⟩:=chain_ex ih k c1 (acc++R) h3
  exact⟨c',acc',R,c1,h1,h2,h3,h4,h5⟩
theorem chain_props {P:TCur→List TTok→TCur→Prop}{d:Nat}:∀{k:Nat} {c c':TCur} {acc acc':List TTok},ExChain P d k c acc c' acc'→c.ok→c'.b=c.b∧c'.ok∧acc.length≤acc'.length∧acc'.length≤acc.length+k * 5 ^ d∧((∀t∈acc,t.fName.length≤8)→∀t∈acc',t.fName.length≤8)
 | 0,c,c',acc,acc',h,hc=>by
  obtain⟨rfl,rfl⟩:=h
  exact⟨rfl,hc,Nat.le_refl _,by omega,fun h=>h⟩
 | k+1,c,c',acc,acc',h,hc=>by
  obtain⟨R,c1,h1,h2,h3,_,h5⟩:=h
  obtain⟨g1,g2,g3,g4,g5⟩:=chain_props h5 h3
  rw[List.length_append]at g3 g4
  have hR:=h1.2.1
  refine⟨g1.trans h2,g2,by omega,by rw[Nat.add_mul];omega,fun H=>g5 fun t ht=>?_⟩
  rcases List.mem_append.1 ht with ht|ht
  ·exact H t ht
  ·exact h1.2.2 t ht
theorem half_lt {m:Int}{d:Nat}(h0:0≤m)(h1:m < 2 ^ (d+1))(hb:m≤1000):0≤IntKind.i64.wrap (m.tdiv 2)∧IntKind.i64.wrap (m.tdiv 2) < 2 ^ d∧IntKind.i64.wrap (m.tdiv 2)≤1000:=by
 rw[Int.tdiv_eq_ediv_of_nonneg h0,IntWalk.i64_in _ (by omega)]
 have:(2:Int) ^ (d+1)=2 * 2 ^ d:=by rw[Int.pow_succ];omega
 omega
theorem g_spec_l02Expr (vars names:List (List UInt8))(ars:List Int)(hv:vars.length≤100)(hn:names.length≤100)(ha:ars.length=names.length)(ha4:∀a∈ars,0≤a∧a≤4)(hv8:∀s∈vars,s.length≤8)(hn8:∀s∈names,s.length≤8):
  ∀(d:Nat) (m:Int) (c:TCur),d≤8→0≤m→m < 2 ^ d→m≤1000→c.ok→∃(R:List TTok) (c':TCur),toks8 R d∧c'.b=c.b∧c'.ok∧SpecG Tryz.prog 240 (exArgs m names ars) (exIn vars c) (.r (.c (.own (1,0,0)))) (exOut vars c' R)
 | d,m,c,hd,h0,h1,hm,hc=>by
  have p5d:=pow5_le hd
  have hvl:(vars.map strRow).length=vars.length:=by simp
  have hnl:(names.map strRow).length=names.length:=by simp
  obtain⟨k,c1,k1,_,b1,o1,g1⟩:=g_spec_l01Below c 10 hc
  by_cases hbin:2 < m∧k < 5
  ·cases d with
   | zero=>omega
   | succ d=>
    obtain⟨kd,c2,k2,_,b2,o2,g2⟩:=g_spec_l01Below c1 5 o1
    obtain⟨q1,q2,q3⟩:=half_lt h0 h1 hm
    obtain⟨R3,c3,t3,b3,o3,g3⟩:=g_spec_l02Expr vars names ars hv hn ha ha4 hv8 hn8 d _ c2 (by omega) q1 q2 q3 o2
    obtain⟨R4,c4,t4,b4,o4,g4⟩:=g_spec_l02Expr vars names ars hv hn ha ha4 hv8 hn8 d _ c3 (by omega) q1 q2 q3 o3
    have p5:=pow5_pos d
    have p5':5 ^ (d+1)=5 * 5 ^ d:=by rw[Nat.pow_succ];omega
    have t3l:=t3.2.1
    have t4l:=t4.2.1
    refine⟨⟨2+kd,0,[]⟩::(R3++R4),c4,⟨by simp,?_,?_⟩,((b4.trans b3).trans b2).trans b1,o4,?_⟩
    ·have:=t3.2.1
     have:=t4.2.1
     rw[List.length_cons,List.length_append]
     omega
    ·intro t ht
     rcases List.mem_cons.1 ht with rfl|ht
     ·simp
     ·rcases List.mem_append.1 ht with ht|ht
      ·exact t3.2.2 t ht
      ·exact t4.2.2 t ht
    ·refine specG_of_Wo hΓ hmix Tryz.func240 rfl (by decide) rfl rfl ?_
     repeat' ((conv=>whnf);first|(with_reducible first|apply Wx|apply W6)|apply oi|(apply fi<;>intro h)|refine⟨_,rfl,?_⟩|((with_reducible show _=_);rfl))
     all_goals try((with_reducible refine Obl.mk ?_);exact KP)
     refine cg (g1) ?_
     repeat' ((conv=>whnf);first|(with_reducible first|apply Wx|apply W6)|apply oi|(apply fi<;>intro h)|refine⟨_,rfl,?_⟩|((with_reducible show _=_);rfl))
     all_goals try((with_reducible refine Obl.mk ?_);exact KP)
     all_goals try exact KX
     all_goals try(exfalso;simp at h;omega)
     refine cg (g2) ?_
     repeat' ((conv=>whnf);first|(with_reducible first|apply Wx|apply W6)|apply oi|(apply fi<;>intro h)|refine⟨_,rfl,?_⟩|((with_reducible show _=_);rfl))
     all_goals try((with_reducible refine Obl.mk ?_);exact KP)
     refine cg (g3) ?_
     repeat' ((conv=>whnf);first|(with_reducible first|apply Wx|apply W6)|apply oi|(apply fi<;>intro h)|refine⟨_,rfl,?_⟩|((with_reducible show _=_);rfl))
     all_goals try((with_reducible refine Obl.mk ?_);exact KP)
     all_goals try exact⟨⟨by simp <;> omega,by simp <;> omega⟩⟩
     refine cg (g4) ?_
     repeat' ((conv=>whnf);first|(with_reducible first|apply Wx|apply W6)|apply oi|(apply fi<;>intro h)|refine⟨_,rfl,?_⟩|((with_reducible show _=_);rfl))
     all_goals try((with_reducible refine Obl.mk ?_);exact KP)
     all_goals try exact⟨⟨by simp <;> omega,by simp <;> omega⟩⟩
     all_goals exact⟨by rw[IntWalk.i64_in _ (by omega)];simp[TTok.tr]⟩
  ·by_cases hcall:0 < names.length∧1 < m∧k < 8
   ·cases d with
    | zero=>omega
    | succ d=>
     obtain⟨hc1,hc2,hc3⟩:=hcall
     obtain⟨f,c2,kf,_,b2,o2,g2⟩:=g_spec_l01Below c1 ((names.map strRow).length:Int) o1
     rw[hnl]at kf
     have hfn:f < names.length:=by have:=kf (by omega);omega
     obtain⟨nm,hnm⟩:=get_of_lt hfn
     obtain⟨a,haf⟩:=get_of_lt (l:=ars) (k:=f) (by omega)
     have hab:=ha4 a (List.mem_of_getElem? haf)
     obtain⟨an,rfl⟩:=Int.eq_ofNat_of_zero_le hab.1
     obtain⟨q1,q2,q3⟩:=quart_lt h0 h1 hm
     have ih:=fun c hc=>g_spec_l02Expr vars names ars hv hn ha ha4 hv8 hn8 d (IntKind.i64.wrap (m.tdiv 4)) c (by omega) q1 q2 q3 hc
     have p5:=pow5_pos d
     have p5':5 ^ (d+1)=5 * 5 ^ d:=by rw[Nat.pow_succ];omega
     obtain⟨c',R,hch⟩:=chain_ex (P:=fun c R c'=>SpecG Tryz.prog 240 (exArgs (IntKind.i64.wrap (m.tdiv 4)) names ars) (exIn vars c) (.r (.c (.own (1,0,0)))) (exOut vars c' R)) (d:=d) ih an c2 [⟨7,an,nm⟩] o2
     have hcp:=chain_props hch o2
     refine⟨R,c',⟨by have:=hcp.2.2.1;simp at this;omega,by have:=hcp.2.2.2.1;have h4:an * 5 ^ d≤4 * 5 ^ d:=Nat.mul_le_mul_right _ (by omega);simp at this;omega,hcp.2.2.2.2 (by intro t ht;simp at ht;subst ht;exact hn8 nm (List.mem_of_getElem? hnm))⟩,(hcp.1.trans b2).trans b1,hcp.2.1,?_⟩
     refine specG_of_Wo hΓ hmix Tryz.func240 rfl (by decide) rfl rfl ?_
     repeat' ((conv=>whnf);first|(with_reducible first|apply Wx|apply W6)|apply oi|(apply fi<;>intro h)|refine⟨_,rfl,?_⟩|((with_reducible show _=_);rfl))
     all_goals try((with_reducible refine Obl.mk ?_);exact KP)
     refine cg (g1) ?_
     repeat' ((conv=>whnf);first|(with_reducible first|apply Wx|apply W6)|apply oi|(apply fi<;>intro h)|refine⟨_,rfl,?_⟩|((with_reducible show _=_);rfl))
     all_goals try((with_reducible refine Obl.mk ?_);exact KP)
     all_goals try exact KX
     all_goals(
      refine cg (g2) ?_
      have hci:(ars.map intRow).length=ars.length:=by simp
      repeat' ((conv=>whnf);first|(with_reducible first|apply Wx|apply W6)|apply oi|(apply fi<;>intro h)|refine⟨f,(intRow an),rfl,map_get haf,?_⟩|refine⟨f,(strRow nm),rfl,map_get hnm,?_⟩|refine⟨_,rfl,?_⟩|((with_reducible show _=_);rfl))
      all_goals try((with_reducible refine Obl.mk ?_);exact KP)
      conv=>whnf
      refine⟨{q:Nat×TCur×List TTok // q.1≤an∧q.2.1.ok∧q.2.2.length≤1+q.1 * 5 ^ d∧ExChain (fun c R c'=>SpecG Tryz.prog 240 (exArgs (IntKind.i64.wrap (m.tdiv 4)) names ars) (exIn vars c) (.r (.c (.own (1,0,0)))) (exOut vars c' R)) d (an - q.1) q.2.1 q.2.2 c' R},fun q=>⟨[(0,curP),(1,tI .i64 m),(2,.r (.c (.own (0,0,1)))),(3,vN names),(4,.r (.c (.t (.lst 1 (ars.map intRow))))),(13,tI .i64 (f:Int)),(14,.r (.c (.own (14,0,0)))),(15,tI .i64 (q.1.1:Int))],[((0,0,0),some (.box [.t (.lst 1 (q.1.2.1.b.map byteRow)),.t (.int .i64 q.1.2.1.i),.t (.int .i64 q.1.2.1.h)])),((0,0,1),some (.arr false 1 (vars.map strRow))),((14,0,0),some (.arr false 3 (q.1.2.2.map TTok.tr)))],[14,0]⟩,fun q=>an - q.1.1,⟨(0,c2,[⟨7,an,nm⟩]),by dsimp only;omega,o2,by simp,hch⟩,?_,?_⟩
      ·skip
       repeat' ((conv=>whnf);first|(with_reducible first|apply Wx|apply W6)|apply oi|(apply fi<;>intro h)|refine⟨_,rfl,?_⟩|((with_reducible show _=_);rfl))
       all_goals try((with_reducible refine Obl.mk ?_);exact KP)
      intro⟨⟨i,ci,acc⟩,r1,r2,r3,r4⟩
      dsimp only at r1 r2 r3 r4 ⊢
      by_cases hlt:i < an
      ·obtain⟨w,hw⟩:∃w,an - i=w+1:=⟨an - i - 1,by omega⟩
       rw[hw]at r4
       obtain⟨R5,c5,t5,b5,o5,g5,r5⟩:=r4
       have t5l:=t5.2.1
       have i5:i * 5 ^ d≤4 * 5 ^ d:=Nat.mul_le_mul_right _ (by omega)
       have i6:(i+1) * 5 ^ d=i * 5 ^ d+5 ^ d:=by rw[Nat.add_mul];omega
       repeat' ((conv=>whnf);first|(with_reducible first|apply Wx|apply W6)|apply oi|(apply fi<;>intro h)|refine⟨f,(intRow an),rfl,map_get haf,?_⟩|refine⟨_,rfl,?_⟩|((with_reducible show _=_);rfl))
       all_goals try((with_reducible refine Obl.mk ?_);exact KP)
       all_goals try exact KX
       refine cg (g5) ?_
       repeat' ((conv=>whnf);first|(with_reducible first|apply Wx|apply W6)|apply oi|(apply fi<;>intro h)|refine⟨_,rfl,?_⟩|((with_reducible show _=_);rfl))
       all_goals try((with_reducible refine Obl.mk ?_);exact KP)
       all_goals try exact⟨⟨by simp <;> omega,by simp <;> omega⟩⟩
       conv=>whnf
       refine⟨⟨(i+1,c5,acc++R5),by dsimp only;omega,o5,by simp;omega,by rw[show an - (i+1)=w by omega];exact r5⟩,?_,by dsimp only;omega⟩
       repeat' ((conv=>whnf);first|(with_reducible first|apply Wx|apply W6)|apply oi|(apply fi<;>intro h)|refine⟨_,rfl,?_⟩|((with_reducible show _=_);rfl))
       all_goals try((with_reducible refine Obl.mk ?_);exact KP)
       all_goals try exact⟨K2⟩
       all_goals exact⟨by simp⟩
      ·rw[show an - i=0 by omega]at r4
       obtain⟨rfl,rfl⟩:=r4
       repeat' ((conv=>whnf);first|(with_reducible first|apply Wx|apply W6)|apply oi|(apply fi<;>intro h)|refine⟨f,(intRow an),rfl,map_get haf,?_⟩|refine⟨_,rfl,?_⟩|((with_reducible show _=_);rfl))
       all_goals try((with_reducible refine Obl.mk ?_);exact KP)
       all_goals try exact KX
     )
   ·have pick:∀c:TCur,c.ok→∃(v:Int) (c':TCur),c'.b=c.b∧c'.ok∧SpecG Tryz.prog 147 [curP,.r (.c (.own (0,0,1)))] (curH c++[((0,0,1),.arr false 1 (([0,1,2,3,10,999]:List Int).map intRow))]) (tI .i64 v) (curH c'++[((0,0,1),.arr false 1 (([0,1,2,3,10,999]:List Int).map intRow))]):=fun c hc=>by
     obtain⟨v,c',_,b,o,g⟩:=g_spec_l01PickIntO c [0,1,2,3,10,999] hc (by decide) (by decide)
     exact⟨v,c',b,o,g⟩
    have p5:=pow5_pos d
    have hsk:∀(t:TTok),t.fName.length≤8→toks8 [t] d:=fun t ht=>⟨by simp,by simpa using p5,by intro u hu;simp at hu;subst hu;exact ht⟩
    by_cases hvar:0 < vars.length
    ·obtain⟨o,c2,b2,o2,g2⟩:=g_spec_l01Once c1 2 o1
     cases o with
     | true=>
      obtain⟨f,c3,kf,_,b3,o3,g3⟩:=g_spec_l01Below c2 ((vars.map strRow).length:Int) o2
      rw[hvl]at kf
      have hfn:f < vars.length:=by have:=kf (by omega);omega
      obtain⟨nm,hnm⟩:=get_of_lt hfn
      have hfl:f < (vars.map strRow).length:=by rw[hvl];exact hfn
      refine⟨[⟨1,0,nm⟩],c3,hsk _ (hv8 nm (List.mem_of_getElem? hnm)),(b3.trans b2).trans b1,o3,?_⟩
      refine specG_of_Wo hΓ hmix Tryz.func240 rfl (by decide) rfl rfl ?_
      repeat' ((conv=>whnf);first|(with_reducible first|apply Wx|apply W6)|apply oi|(apply fi<;>intro h)|refine⟨_,rfl,?_⟩|((with_reducible show _=_);rfl))
      all_goals try((with_reducible refine Obl.mk ?_);exact KP)
      refine cg (g1) ?_
      repeat' ((conv=>whnf);first|(with_reducible first|apply Wx|apply W6)|apply oi|(apply fi<;>intro h)|refine⟨_,rfl,?_⟩|((with_reducible show _=_);rfl))
      all_goals try((with_reducible refine Obl.mk ?_);exact KP)
      all_goals try exact KX
      all_goals try(exfalso;simp at h;omega)
      all_goals(
       refine cg (g2) ?_
       repeat' ((conv=>whnf);first|(with_reducible first|apply Wx|apply W6)|apply oi|(apply fi<;>intro h)|refine⟨_,rfl,?_⟩|((with_reducible show _=_);rfl))
       all_goals try((with_reducible refine Obl.mk ?_);exact KP)
       refine cg (g3) ?_
       repeat' ((conv=>whnf);first|(with_reducible first|apply Wx|apply W6)|apply oi|(apply fi<;>intro h)|refine⟨f,rfl,hfl,?_⟩|refine⟨(strRow nm),map_get hnm,?_⟩|refine⟨_,rfl,?_⟩|((with_reducible show _=_);rfl))
       all_goals try((with_reducible refine Obl.mk ?_);exact KP)
      )
     | false=>
      obtain⟨v,c3,b3,o3,g3⟩:=pick c2 o2
      refine⟨[⟨0,v,[]⟩],c3,hsk _ (by simp),(b3.trans b2).trans b1,o3,?_⟩
      refine specG_of_Wo hΓ hmix Tryz.func240 rfl (by decide) rfl rfl ?_
      repeat' ((conv=>whnf);first|(with_reducible first|apply Wx|apply W6)|apply oi|(apply fi<;>intro h)|refine⟨_,rfl,?_⟩|((with_reducible show _=_);rfl))
      all_goals try((with_reducible refine Obl.mk ?_);exact KP)
      refine cg (g1) ?_
      repeat' ((conv=>whnf);first|(with_reducible first|apply Wx|apply W6)|apply oi|(apply fi<;>intro h)|refine⟨_,rfl,?_⟩|((with_reducible show _=_);rfl))
      all_goals try((with_reducible refine Obl.mk ?_);exact KP)
      all_goals try exact KX
      all_goals try(exfalso;simp at h;omega)
      all_goals(
       refine cg (g2) ?_
       repeat' ((conv=>whnf);first|(with_reducible first|apply Wx|apply W6)|apply oi|(apply fi<;>intro h)|refine⟨_,rfl,?_⟩|((with_reducible show _=_);rfl))
       all_goals try((with_reducible refine Obl.mk ?_);exact KP)
       refine cg (g3) ?_
       repeat' ((conv=>whnf);first|(with_reducible first|apply Wx|apply W6)|apply oi|(apply fi<;>intro h)|refine⟨_,rfl,?_⟩|((with_reducible show _=_);rfl))
       all_goals try((with_reducible refine Obl.mk ?_);exact KP)
      )
    ·obtain⟨v,c3,b3,o3,g3⟩:=pick c1 o1
     refine⟨[⟨0,v,[]⟩],c3,hsk _ (by simp),b3.trans b1,o3,?_⟩
     refine specG_of_Wo hΓ hmix Tryz.func240 rfl (by decide) rfl rfl ?_
     repeat' ((conv=>whnf);first|(with_reducible first|apply Wx|apply W6)|apply oi|(apply fi<;>intro h)|refine⟨_,rfl,?_⟩|((with_reducible show _=_);rfl))
     all_goals try((with_reducible refine Obl.mk ?_);exact KP)
     refine cg (g1) ?_
     repeat' ((conv=>whnf);first|(with_reducible first|apply Wx|apply W6)|apply oi|(apply fi<;>intro h)|refine⟨_,rfl,?_⟩|((with_reducible show _=_);rfl))
     all_goals try((with_reducible refine Obl.mk ?_);exact KP)
     all_goals try exact KX
     all_goals try(exfalso;simp at h;omega)
     all_goals(
      refine cg (g3) ?_
      repeat' ((conv=>whnf);first|(with_reducible first|apply Wx|apply W6)|apply oi|(apply fi<;>intro h)|refine⟨_,rfl,?_⟩|((with_reducible show _=_);rfl))
      all_goals try((with_reducible refine Obl.mk ?_);exact KP)
     )
termination_by d=>d
end Go.Proofs.YtjmplnfiabmalaaGreat
namespace Go.Proofs.YtjmplnfiabmalaaGreat
open Go.Sim
set_option maxRecDepth 100000
set_option maxHeartbeats 4000000
def hashS (h:Int)(u:UInt8):Int:=IntKind.i64.wrap ((BitVec.ofInt IntKind.i64.bits (IntKind.i64.wrap (IntKind.i64.wrap (IntKind.i64.wrap (h * 131)+IntKind.i64.wrap (u.toNat:Int))+7)) &&& BitVec.ofInt IntKind.i64.bits 1073741823).toNat:Int)
def hashC (code:List UInt8):Int:=(code.take 4000).foldl hashS (IntKind.i64.wrap (33147+((code.map byteRow).length:Int)))
theorem g_spec_l01New (code:List UInt8)(hl:code.length≤1048576):SpecG Tryz.prog 69 [.r (.c (.t (.lst 1 (code.map byteRow))))] [] (.r (.c (.ptr (1,0,0) 0))) [((1,0,0),.box [.t (.lst 1 (code.map byteRow)),.t (.int .i64 0),.t (.int .i64 (hashC code))])]:=by
 refine specG_of_Wo hΓ hmix Tryz.func69 rfl (by decide) rfl rfl ?_
 have hlen:(code.map byteRow).length=code.length:=by simp
 obtain⟨H,hH⟩:∃H,hashC code=H:=⟨_,rfl⟩
 rw[hH]
 have ht:(code.take 4000).length≤4000:=by simp;omega
 repeat' ((conv=>whnf);first|(with_reducible first|apply Wx|apply W6)|apply oi|(apply fi<;>intro h)|refine⟨_,rfl,?_⟩|((with_reducible show _=_);rfl))
 all_goals try((with_reducible refine Obl.mk ?_);exact KP)
 conv=>whnf
 refine⟨{q:Nat×Int // q.1≤code.length∧((code.take 4000).drop q.1).foldl hashS q.2=H},fun q=>⟨[(0,.r (.c (.t (.lst 1 (code.map byteRow))))),(3,tI .i64 q.1.2),(4,tI .i64 (q.1.1:Int))],[],[0]⟩,fun q=>code.length - q.1.1,⟨(0,IntKind.i64.wrap (33147+((code.map byteRow).length:Int))),by dsimp only;omega,hH⟩,?_,?_⟩
 ·skip
  repeat' ((conv=>whnf);first|(with_reducible first|apply Wx|apply W6)|apply oi|(apply fi<;>intro h)|refine⟨_,rfl,?_⟩|((with_reducible show _=_);rfl))
  all_goals try((with_reducible refine Obl.mk ?_);exact KP)
 intro⟨⟨i,hv⟩,hi,hr⟩
 dsimp only at hi hr ⊢
 by_cases hlt:i < code.length∧i < 4000
 ·obtain⟨u,hu⟩:=get_of_lt hlt.1
  rw[drop_at (x:=u) (by rw[List.getElem?_take,if_pos hlt.2];exact hu),List.foldl_cons]at hr
  repeat' ((conv=>whnf);first|(with_reducible first|apply Wx|apply W6)|apply oi|(apply fi<;>intro h)|refine⟨i,(byteRow u),rfl,map_get hu,?_⟩|refine⟨_,rfl,?_⟩|((with_reducible show _=_);rfl))
  all_goals try((with_reducible refine Obl.mk ?_);exact KP)
  all_goals try exact KX
  conv=>whnf
  refine⟨⟨(i+1,hashS hv u),by dsimp only;omega,hr⟩,?_,by dsimp only;omega⟩
  repeat' ((conv=>whnf);first|(with_reducible first|apply Wx|apply W6)|apply oi|(apply fi<;>intro h)|refine⟨_,rfl,?_⟩|((with_reducible show _=_);rfl))
  all_goals try((with_reducible refine Obl.mk ?_);exact KP)
  all_goals try exact⟨K2⟩
  all_goals exact⟨rfl⟩
 ·rw[List.drop_eq_nil_of_le (by simp;omega)]at hr
  have hr:hv=H:=hr
  subst hr
  repeat' ((conv=>whnf);first|(with_reducible first|apply Wx|apply W6)|apply oi|(apply fi<;>intro h)|refine⟨_,rfl,?_⟩|((with_reducible show _=_);rfl))
  all_goals try((with_reducible refine Obl.mk ?_);exact KP)
  all_goals try exact KX
end Go.Proofs.YtjmplnfiabmalaaGreat
namespace Go.Proofs.YtjmplnfiabmalaaGreat
open Go.Sim
set_option maxRecDepth 100000
set_option maxHeartbeats 4000000
abbrev genH (vars names:List (List UInt8))(ars:List Int)(c:TCur):List (Sim.Id×AO):=[((0,0,0),.box [.ptr (0,0,1) 0,.own (0,0,2),.t (.lst 1 (names.map strRow)),.t (.lst 1 (ars.map intRow))]),((0,0,1),.box [.t (.lst 1 (c.b.map byteRow)),.t (.int .i64 c.i),.t (.int .i64 c.h)]),((0,0,2),.arr false 1 (vars.map strRow))]
theorem g_spec_l03GenExpr (vars names:List (List UInt8))(ars:List Int)(hv:vars.length≤100)(hn:names.length≤100)(ha:ars.length=names.length)(ha4:∀a∈ars,0≤a∧a≤4)(hv8:∀s∈vars,s.length≤8)(hn8:∀s∈names,s.length≤8)
  (d:Nat) (m:Int) (c:TCur) (hd:d≤8) (h0:0≤m) (h1:m < 2 ^ d) (hm:m≤1000) (hc:c.ok):∃(R:List TTok) (c':TCur),toks8 R d∧c'.b=c.b∧c'.ok∧SpecG Tryz.prog 202 [curP,tI .i64 m] (genH vars names ars c) (.r (.c (.own (1,0,0)))) (genH vars names ars c'++[((1,0,0),.arr false 3 (R.map TTok.tr))]):=by
 obtain⟨R,c',t1,b1,o1,g1⟩:=g_spec_l02Expr vars names ars hv hn ha ha4 hv8 hn8 d m c hd h0 h1 hm hc
 refine⟨R,c',t1,b1,o1,?_⟩
 refine specG_of_Wo hΓ hmix Tryz.func202 rfl (by decide) rfl rfl ?_
 repeat' ((conv=>whnf);first|(with_reducible first|apply Wx|apply W6)|apply oi|(apply fi<;>intro h)|refine⟨_,rfl,?_⟩|((with_reducible show _=_);rfl))
 all_goals try((with_reducible refine Obl.mk ?_);exact KP)
 refine cg (g1) ?_
 repeat' ((conv=>whnf);first|(with_reducible first|apply Wx|apply W6)|apply oi|(apply fi<;>intro h)|refine⟨_,rfl,?_⟩|((with_reducible show _=_);rfl))
 all_goals try((with_reducible refine Obl.mk ?_);exact KP)
end Go.Proofs.YtjmplnfiabmalaaGreat
namespace Go.Proofs.YtjmplnfiabmalaaGreat
open Go.Sim
set_option maxRecDepth 100000
set_option maxHeartbeats 4000000
def buildOk (b:TBuild):Bool:=within b.fFrames 0 63 && within b.fInline 0 3
theorem s_spec_BuildOk (b:TBuild):Sim.Spec Tryz.prog 73 [.agg b.tr] (rB (buildOk b)):=by
 refine spec_of_Wo hΓ hmix Tryz.func73 rfl (by decide) rfl ?_
 have h1:=s_spec_l01In b.fFrames 0 63
 have h2:=s_spec_l01In b.fInline 0 3
 unfold buildOk
 generalize within b.fFrames 0 63=w1 at *
 generalize within b.fInline 0 3=w2 at *
 repeat' ((conv=>whnf);first|(with_reducible first|apply Wx|apply W6)|apply oi|(apply fi<;>intro h)|refine cl h1 ?_|refine cl h2 ?_|refine⟨_,rfl,?_⟩|((with_reducible show _=_);rfl))
 all_goals try((with_reducible refine Obl.mk ?_);exact KP)
 all_goals(refine⟨congrArg Tr.bool ?_⟩;simp_all)
theorem g_spec_l08Build (c:TCur)(hc:c.ok):∃(b:TBuild) (c':TCur),buildOk b=true∧c'.b=c.b∧c'.ok∧SpecG Tryz.prog 71 [curP] (curH c) (.r (.agg (b.tr.map .t))) (curH c'):=by
 obtain⟨f,c1,k1,_,b1,o1,g1⟩:=g_spec_l01Below c 64 hc
 obtain⟨v,c2,hv,b2,o2,g2⟩:=g_spec_l01PickIntO c1 [0,1,2,3] o1 (by decide) (by decide)
 obtain⟨x,c3,b3,o3,g3⟩:=g_spec_l01Once c2 2 o2
 obtain⟨y,c4,b4,o4,g4⟩:=g_spec_l01Once c3 2 o3
 refine⟨⟨f,v,x,y⟩,c4,?_,((b4.trans b3).trans b2).trans b1,o4,?_⟩
 ·have:=k1 (by omega)
  simp only[List.mem_cons,List.not_mem_nil,or_false]at hv
  unfold buildOk
  rw[within_iff.2 ⟨by dsimp only;omega,by dsimp only;omega⟩,within_iff.2 ⟨by dsimp only;omega,by dsimp only;omega⟩]
  rfl
 ·refine specG_of_Wo hΓ hmix Tryz.func71 rfl (by decide) rfl rfl ?_
  repeat' ((conv=>whnf);first|(with_reducible first|apply Wx|apply W6)|apply oi|(apply fi<;>intro h)|refine⟨_,rfl,?_⟩|((with_reducible show _=_);rfl))
  all_goals try((with_reducible refine Obl.mk ?_);exact KP)
  refine cg (g1) ?_
  repeat' ((conv=>whnf);first|(with_reducible first|apply Wx|apply W6)|apply oi|(apply fi<;>intro h)|refine⟨_,rfl,?_⟩|((with_reducible show _=_);rfl))
  all_goals try((with_reducible refine Obl.mk ?_);exact KP)
  refine cg (g2) ?_
  repeat' ((conv=>whnf);first|(with_reducible first|apply Wx|apply W6)|apply oi|(apply fi<;>intro h)|refine⟨_,rfl,?_⟩|((with_reducible show _=_);rfl))
  all_goals try((with_reducible refine Obl.mk ?_);exact KP)
  refine cg (g3) ?_
  repeat' ((conv=>whnf);first|(with_reducible first|apply Wx|apply W6)|apply oi|(apply fi<;>intro h)|refine⟨_,rfl,?_⟩|((with_reducible show _=_);rfl))
  all_goals try((with_reducible refine Obl.mk ?_);exact KP)
  refine cg (g4) ?_
  repeat' ((conv=>whnf);first|(with_reducible first|apply Wx|apply W6)|apply oi|(apply fi<;>intro h)|refine⟨_,rfl,?_⟩|((with_reducible show _=_);rfl))
  all_goals try((with_reducible refine Obl.mk ?_);exact KP)
theorem g_spec_l01Once2 (c:TCur)(hc:c.ok):∃(x:Nat) (c':TCur),x≤1∧c'.b=c.b∧c'.ok∧SpecG Tryz.prog 72 [curP] (curH c) (tI .i64 x) (curH c'):=by
 obtain⟨x,c1,b1,o1,g1⟩:=g_spec_l01Once c 4 hc
 cases x with
 | true=>
  refine⟨1,c1,by omega,b1,o1,?_⟩
  refine specG_of_Wo hΓ hmix Tryz.func72 rfl (by decide) rfl rfl ?_
  repeat' ((conv=>whnf);first|(with_reducible first|apply Wx|apply W6)|refine cg g1 ?_|apply oi|(apply fi<;>intro h)|refine⟨_,rfl,?_⟩|((with_reducible show _=_);rfl))
  all_goals try((with_reducible refine Obl.mk ?_);exact KP)
 | false=>
  refine⟨0,c1,by omega,b1,o1,?_⟩
  refine specG_of_Wo hΓ hmix Tryz.func72 rfl (by decide) rfl rfl ?_
  repeat' ((conv=>whnf);first|(with_reducible first|apply Wx|apply W6)|refine cg g1 ?_|apply oi|(apply fi<;>intro h)|refine⟨_,rfl,?_⟩|((with_reducible show _=_);rfl))
  all_goals try((with_reducible refine Obl.mk ?_);exact KP)
end Go.Proofs.YtjmplnfiabmalaaGreat
namespace Go.Proofs.YtjmplnfiabmalaaGreat
open Go.Sim
set_option maxRecDepth 100000
set_option maxHeartbeats 4000000
noncomputable section
open Classical (propDecidable)
attribute [local instance] propDecidable
def belV (n:Int)(c:TCur):Nat×TCur:=if h:c.ok then(Classical.choose (g_spec_l01Below c n h),Classical.choose (Classical.choose_spec (g_spec_l01Below c n h)))else(0,c)
theorem belV_spec {c:TCur}(h:c.ok)(n:Int):(0 < n→((belV n c).1:Int) < n)∧(belV n c).2.b=c.b∧(belV n c).2.ok∧SpecG Tryz.prog 146 [curP,tI .i64 n] (curH c) (tI .i64 (belV n c).1) (curH (belV n c).2):=by
 rw[belV,dif_pos h]
 have:=Classical.choose_spec (Classical.choose_spec (g_spec_l01Below c n h))
 exact⟨this.1,this.2.2.1,this.2.2.2.1,this.2.2.2.2⟩
def onceV (n:Int)(c:TCur):Bool×TCur:=if h:c.ok then(Classical.choose (g_spec_l01Once c n h),Classical.choose (Classical.choose_spec (g_spec_l01Once c n h)))else(false,c)
theorem onceV_spec {c:TCur}(h:c.ok)(n:Int):(onceV n c).2.b=c.b∧(onceV n c).2.ok∧SpecG Tryz.prog 148 [curP,tI .i64 n] (curH c) (tB (onceV n c).1) (curH (onceV n c).2):=by
 rw[onceV,dif_pos h]
 exact Classical.choose_spec (Classical.choose_spec (g_spec_l01Once c n h))
structure GP where
 vars:List (List UInt8)
 names:List (List UInt8)
 ars:List Int
structure GP.ok (G:GP):Prop where
 v1:0 < G.vars.length
 v:G.vars.length≤100
 n:G.names.length≤100
 a:G.ars.length=G.names.length
 a4:∀a∈G.ars,0≤a∧a≤4
 v8:∀s∈G.vars,s.length≤8
 n8:∀s∈G.names,s.length≤8
abbrev gH (G:GP)(c:TCur):List (Sim.Id×AO):=genH G.vars G.names G.ars c
theorem gex {G:GP}(hG:G.ok){c:TCur}(hc:c.ok)(m:Nat)(hm:m < 8):∃(R:List TTok) (c':TCur),toks8 R 3∧c'.b=c.b∧c'.ok∧SpecG Tryz.prog 202 [curP,tI .i64 (m:Int)] (gH G c) (.r (.c (.own (1,0,0)))) (gH G c'++[((1,0,0),.arr false 3 (R.map TTok.tr))]):=
 g_spec_l03GenExpr G.vars G.names G.ars hG.v hG.n hG.a hG.a4 hG.v8 hG.n8 3 (m:Int) c (by omega) (by omega) (by show(m:Int) < 8;omega) (by omega) hc
def exV (G:GP)(m:Nat)(c:TCur):List TTok×TCur:=if h:G.ok∧c.ok∧m < 8 then(Classical.choose (gex h.1 h.2.1 m h.2.2),Classical.choose (Classical.choose_spec (gex h.1 h.2.1 m h.2.2)))else([],c)
theorem exV_spec {G:GP}(hG:G.ok){c:TCur}(hc:c.ok)(m:Nat)(hm:m < 8):toks8 (exV G m c).1 3∧(exV G m c).2.b=c.b∧(exV G m c).2.ok∧SpecG Tryz.prog 202 [curP,tI .i64 (m:Int)] (gH G c) (.r (.c (.own (1,0,0)))) (gH G (exV G m c).2++[((1,0,0),.arr false 3 ((exV G m c).1.map TTok.tr))]):=by
 rw[exV,dif_pos ⟨hG,hc,hm⟩]
 exact Classical.choose_spec (Classical.choose_spec (gex hG hc m hm))
def stepV (G:GP)(rc:Nat→TCur→List TLine×TCur)(dp:Bool)(c:TCur):List TLine×TCur:=
 let k:=(belV 9 c).1
 let c1:=(belV 9 c).2
 if k < 4 then
  let v:=belV G.vars.length c1
  let e:=exV G 6 v.2
  ([⟨1,G.vars[v.1]?.getD [],[],e.1⟩],e.2)
 else if k < 6 then
  let e:=exV G 5 c1
  ([⟨2,[],[],e.1⟩],e.2)
 else if k=6∧dp=true then
  let e:=exV G 4 c1
  let t:=belV 2 e.2
  let B:=rc (1+t.1) t.2
  let o:=onceV 2 B.2
  if o.1=true then
   let E:=rc 1 o.2
   (⟨3,[],[],e.1⟩::(B.1++(⟨4,[],[],[]⟩::(E.1++[⟨7,[],[],[]⟩]))),E.2)
  else(⟨3,[],[],e.1⟩::(B.1++[⟨7,[],[],[]⟩]),o.2)
 else if k=7∧dp=true then
  let t:=belV 3 c1
  let B:=rc 1 t.2
  (⟨5,[],[],[⟨5,0,[]⟩,⟨1,0,[105]⟩,⟨0,(1+t.1:Nat),[]⟩]⟩::(B.1++[⟨1,[105],[],[⟨2,0,[]⟩,⟨1,0,[105]⟩,⟨0,1,[]⟩]⟩,⟨7,[],[],[]⟩]),B.2)
 else
  let o:=onceV 3 c1
  if o.1=true then
   let e:=exV G 4 o.2
   ([⟨6,[],[],e.1⟩],e.2)
  else([],o.2)
def runV (G:GP)(rc:Nat→TCur→List TLine×TCur)(dp:Bool):Nat→TCur→List TLine×TCur
 | 0,c=>([],c)
 | n+1,c=>((stepV G rc dp c).1++(runV G rc dp n (stepV G rc dp c).2).1,(runV G rc dp n (stepV G rc dp c).2).2)
def bodyV (G:GP):Nat→Nat→TCur→List TLine×TCur
 | 0=>runV G (fun _ c=>([],c)) false
 | d+1=>runV G (bodyV G d) true
end
def sB:Nat→Nat
 | 0=>1
 | d+1=>3+3 * sB d
structure BL (x:TLine):Prop where
 name:x.fName.length≤8
 args:x.fArgs=[]
 len:x.fExpr.length≤125
 tok:∀t∈x.fExpr,t.fName.length≤8
 kind:1≤x.fKind∧x.fKind≤7
structure RcOk (s:Nat) (rc:Nat→TCur→List TLine×TCur):Prop where
 len:∀n c,c.ok→(rc n c).1.length≤n * s
 b:∀n c,c.ok→(rc n c).2.b=c.b
 ok:∀n c,c.ok→(rc n c).2.ok
 bl:∀n c,c.ok→∀x∈(rc n c).1,BL x
theorem bl_ex {k:Int}{n:List UInt8}{e:List TTok}(hn:n.length≤8)(h:toks8 e 3)(hk:1≤k∧k≤7:=by omega):BL ⟨k,n,[],e⟩:=⟨hn,rfl,h.2.1,h.2.2,hk⟩
theorem bl_nil {k:Int}(hk:1≤k∧k≤7:=by omega):BL ⟨k,[],[],[]⟩:=⟨by simp,rfl,by simp,by simp,hk⟩
theorem step_ok {G:GP}(hG:G.ok){s:Nat}{rc:Nat→TCur→List TLine×TCur}{dp:Bool}(h:dp=true→RcOk s rc){c:TCur}(hc:c.ok):
  (stepV G rc dp c).1.length≤3+3 * s∧(dp=false→(stepV G rc dp c).1.length≤1)∧(stepV G rc dp c).2.b=c.b∧(stepV G rc dp c).2.ok∧∀x∈(stepV G rc dp c).1,BL x:=by
 obtain⟨k1,b1,o1,_⟩:=belV_spec hc 9
 unfold stepV
 dsimp only
 generalize(belV 9 c).1=k at *
 generalize(belV 9 c).2=c1 at *
 split
 ·obtain⟨k2,b2,o2,_⟩:=belV_spec o1 (G.vars.length:Int)
  obtain⟨t3,b3,o3,_⟩:=exV_spec hG o2 6 (by omega)
  refine⟨by simp;omega,fun _=>by simp,(b3.trans b2).trans b1,o3,fun x hx=>?_⟩
  simp only[List.mem_singleton]at hx
  subst hx
  refine bl_ex ?_ t3
  cases hv:G.vars[(belV (G.vars.length:Int) c1).1]? with
  | none=>simp
  | some v=>exact hG.v8 v (List.mem_of_getElem? hv)
 split
 ·obtain⟨t3,b3,o3,_⟩:=exV_spec hG o1 5 (by omega)
  refine⟨by simp;omega,fun _=>by simp,b3.trans b1,o3,fun x hx=>?_⟩
  simp only[List.mem_singleton]at hx
  subst hx
  exact bl_ex (by simp) t3
 split
 ·rename_i hk
  have hr:=h hk.2
  obtain⟨t3,b3,o3,_⟩:=exV_spec hG o1 4 (by omega)
  obtain⟨k4,b4,o4,_⟩:=belV_spec o3 2
  have hl:=hr.len (1+(belV 2 (exV G 4 c1).2).1) _ o4
  have hbb:=hr.b (1+(belV 2 (exV G 4 c1).2).1) _ o4
  have hob:=hr.ok (1+(belV 2 (exV G 4 c1).2).1) _ o4
  have hbl:=hr.bl (1+(belV 2 (exV G 4 c1).2).1) _ o4
  have k4':=k4 (by omega)
  have hl2:(rc (1+(belV 2 (exV G 4 c1).2).1) (belV 2 (exV G 4 c1).2).2).1.length≤2 * s:=Nat.le_trans hl (Nat.mul_le_mul_right _ (by omega))
  generalize rc (1+(belV 2 (exV G 4 c1).2).1) (belV 2 (exV G 4 c1).2).2=B at *
  obtain⟨b5,o5,_⟩:=onceV_spec hob 2
  split
  ·have hl3:=hr.len 1 _ o5
   have hb3:=hr.b 1 _ o5
   have ho3:=hr.ok 1 _ o5
   have hx3:=hr.bl 1 _ o5
   generalize rc 1 (onceV 2 B.2).2=E at *
   refine⟨by simp;omega,(fun e=>by rw[e]at hk;cases hk.2),((((hb3.trans b5).trans hbb).trans b4).trans b3).trans b1,ho3,fun x hx=>?_⟩
   simp only[List.mem_cons,List.mem_append,List.not_mem_nil,or_false]at hx
   rcases hx with rfl|hx|rfl|hx|rfl
   ·exact bl_ex (by simp) t3
   ·exact hbl x hx
   ·exact bl_nil
   ·exact hx3 x hx
   ·exact bl_nil
  ·refine⟨by simp;omega,(fun e=>by rw[e]at hk;cases hk.2),(((b5.trans hbb).trans b4).trans b3).trans b1,o5,fun x hx=>?_⟩
   simp only[List.mem_cons,List.mem_append,List.not_mem_nil,or_false]at hx
   rcases hx with rfl|hx|rfl
   ·exact bl_ex (by simp) t3
   ·exact hbl x hx
   ·exact bl_nil
 split
 ·rename_i hk
  have hr:=h hk.2
  obtain⟨k4,b4,o4,_⟩:=belV_spec o1 3
  have hl3:=hr.len 1 _ o4
  have hb3:=hr.b 1 _ o4
  have ho3:=hr.ok 1 _ o4
  have hx3:=hr.bl 1 _ o4
  generalize rc 1 (belV 3 c1).2=B at *
  refine⟨by simp;omega,(fun e=>by rw[e]at hk;cases hk.2),(hb3.trans b4).trans b1,ho3,fun x hx=>?_⟩
  simp only[List.mem_cons,List.mem_append,List.not_mem_nil,or_false]at hx
  rcases hx with rfl|hx|rfl|rfl
  ·exact⟨by simp,rfl,by simp,by simp,by simp⟩
  ·exact hx3 x hx
  ·exact⟨by simp,rfl,by simp,by simp,by simp⟩
  ·exact bl_nil
 ·obtain⟨b5,o5,_⟩:=onceV_spec o1 3
  split
  ·obtain⟨t3,b3,o3,_⟩:=exV_spec hG o5 4 (by omega)
   refine⟨by simp;omega,fun _=>by simp,(b3.trans b5).trans b1,o3,fun x hx=>?_⟩
   simp only[List.mem_singleton]at hx
   subst hx
   exact bl_ex (by simp) t3
  ·exact⟨by simp,fun _=>by simp,b5.trans b1,o5,fun x hx=>by cases hx⟩
theorem run_ok {G:GP}{rc:Nat→TCur→List TLine×TCur}{dp:Bool}{s:Nat}(hs:∀c:TCur,c.ok→(stepV G rc dp c).1.length≤s∧(stepV G rc dp c).2.b=c.b∧(stepV G rc dp c).2.ok∧∀x∈(stepV G rc dp c).1,BL x):RcOk s (runV G rc dp):=by
 have key:∀n c,c.ok→(runV G rc dp n c).1.length≤n * s∧(runV G rc dp n c).2.b=c.b∧(runV G rc dp n c).2.ok∧∀x∈(runV G rc dp n c).1,BL x:=by
  intro n
  induction n with
  | zero=>exact fun c hc=>⟨by simp[runV],rfl,hc,fun x hx=>by simp[runV]at hx⟩
  | succ n ih=>
   intro c hc
   obtain⟨h1,h2,h3,h4⟩:=hs c hc
   obtain⟨i1,i2,i3,i4⟩:=ih _ h3
   rw[runV]
   refine⟨by simp only[List.length_append];rw[Nat.succ_mul];omega,i2.trans h2,i3,fun x hx=>?_⟩
   rcases List.mem_append.1 hx with hx|hx
   ·exact h4 x hx
   ·exact i4 x hx
 exact⟨fun n c hc=>(key n c hc).1,fun n c hc=>(key n c hc).2.1,fun n c hc=>(key n c hc).2.2.1,fun n c hc=>(key n c hc).2.2.2⟩
theorem body_ok {G:GP}(hG:G.ok):∀d,RcOk (sB d) (bodyV G d)
 | 0=>run_ok fun c hc=>by
  have:=step_ok hG (s:=0) (rc:=fun _ c=>([],c)) (dp:=false) (fun e=>by cases e) hc
  exact⟨this.2.1 rfl,this.2.2⟩
 | d+1=>run_ok fun c hc=>by
  have:=step_ok hG (dp:=true) (fun _=>body_ok hG d) hc
  exact⟨this.1,this.2.2⟩
end Go.Proofs.YtjmplnfiabmalaaGreat
namespace Go.Proofs.YtjmplnfiabmalaaGreat
open Go.Sim
set_option maxRecDepth 100000
set_option maxHeartbeats 4000000
def dr (x:TLine):List DC:=match x.fExpr with
 | []=>[.t (.int .i64 x.fKind),.t (.str x.fName),.t (.lst 0 []),.t (.lst 0 [])]
 | t::l=>[.d (.int .i64 x.fKind),.d (.str x.fName),.d (.lst 0 []),.d (.lst 3 ((t::l).map TTok.tr))]
theorem dr_nil (k:Int)(n:List UInt8)(a:List (List UInt8)):dr ⟨k,n,a,[]⟩=[.t (.int .i64 k),.t (.str n),.t (.lst 0 []),.t (.lst 0 [])]:=rfl
theorem dr_cons (k:Int)(n:List UInt8)(a:List (List UInt8))(t:TTok)(l:List TTok):dr ⟨k,n,a,t::l⟩=[.d (.int .i64 k),.d (.str n),.d (.lst 0 []),.d (.lst 3 ((t::l).map TTok.tr))]:=rfl
theorem dr_pos {e:List TTok}(h:0 < e.length)(k:Int)(n:List UInt8)(a:List (List UInt8)):dr ⟨k,n,a,e⟩=[.d (.int .i64 k),.d (.str n),.d (.lst 0 []),.d (.lst 3 (e.map TTok.tr))]:=by
 cases e with
 | nil=>cases h
 | cons t l=>rfl
abbrev bodyC (G:GP)(n:Nat)(d:Int)(c:TCur)(R:List TLine×TCur):Prop:=SpecG Tryz.prog 201 [curP,tI .i64 (n:Int),tI .i64 d] (gH G c) (.r (.c (.own (1,0,0)))) (gH G R.2++[((1,0,0),.dar 4 (R.1.map dr) none)])
theorem g_run {G:GP}(hG:G.ok){rc:Nat→TCur→List TLine×TCur}{dp:Bool}{s d:Nat}(hd:d≤5)(hdp:dp=decide (0 < d))(hs:3+3 * s≤1000)(hR:dp=true→RcOk s rc)(hrc:dp=true→∀n c,n≤2→c.ok→bodyC G n ((d:Int) - 1) c (rc n c))(n:Nat)(c:TCur)(hn:n≤4)(hc:c.ok):
  bodyC G n d c (runV G rc dp n c):=by
 refine specG_of_Wo hΓ hmix Tryz.func201 rfl (by decide) rfl rfl ?_
 obtain⟨R,c',hRR⟩:∃R c',runV G rc dp n c=(R,c'):=⟨_,_,rfl⟩
 rw[hRR]
 have hvl:(G.vars.map strRow).length=G.vars.length:=by simp
 repeat' ((conv=>whnf);first|(with_reducible first|apply Wx|apply W6)|apply oi|(apply fi<;>intro h)|refine⟨_,rfl,?_⟩|((with_reducible show _=_);rfl))
 all_goals try((with_reducible refine Obl.mk ?_);exact KP)
 conv=>whnf
 refine⟨{q:Nat×TCur×List TLine // q.1≤n∧q.2.1.ok∧q.2.2.length+q.1 * 1000≤4000∧q.2.2++(runV G rc dp q.1 q.2.1).1=R∧(runV G rc dp q.1 q.2.1).2=c'},fun q=>⟨[(0,curP),(1,tI .i64 (q.1.1:Int)),(2,tI .i64 (d:Int)),(7,.r (.c (.own (10,0,0))))],[((0,0,0),some (.box [.ptr (0,0,1) 0,.own (0,0,2),.t (.lst 1 (G.names.map strRow)),.t (.lst 1 (G.ars.map intRow))])),((0,0,1),some (.box [.t (.lst 1 (q.1.2.1.b.map byteRow)),.t (.int .i64 q.1.2.1.i),.t (.int .i64 q.1.2.1.h)])),((0,0,2),some (.arr false 1 (G.vars.map strRow))),((10,0,0),some (.dar 4 (q.1.2.2.map dr) none))],[10,0]⟩,fun q=>q.1.1,⟨(n,c,[]),by dsimp only;omega,hc,by simp;omega,by rw[hRR];rfl,by rw[hRR]⟩,?_,?_⟩
 ·skip
  repeat' ((conv=>whnf);first|(with_reducible first|apply Wx|apply W6)|apply oi|(apply fi<;>intro h)|refine⟨_,rfl,?_⟩|((with_reducible show _=_);rfl))
  all_goals try((with_reducible refine Obl.mk ?_);exact KP)
  all_goals try exact⟨rfl⟩
 intro⟨⟨rem,ci,acc⟩,hi,hci,hal,hr1,hr2⟩
 dsimp only at hi hci hal hr1 hr2 ⊢
 cases rem with
 | zero=>
  simp only[runV,List.append_nil]at hr1 hr2
  subst hr1;subst hr2
  repeat' ((conv=>whnf);first|(with_reducible first|apply Wx|apply W6)|apply oi|(apply fi<;>intro h)|refine⟨_,rfl,?_⟩|((with_reducible show _=_);rfl))
  all_goals try((with_reducible refine Obl.mk ?_);exact KP)
  all_goals try exact KX
 | succ m=>
  rw[runV]at hr1 hr2
  dsimp only at hr1 hr2
  obtain⟨s1,_,s3,s4,_⟩:=step_ok hG hR hci
  generalize hS:stepV G rc dp ci=S at *
  obtain⟨k1,b1,o1,g1⟩:=belV_spec hci 9
  unfold stepV at hS
  dsimp only at hS
  generalize belV 9 ci=q at *
  rw[←List.append_assoc]at hr1
  have hlen:(acc++S.1).length+m * 1000≤4000:=by rw[List.length_append];omega
  by_cases hk4:q.1 < 4
  ·rw[if_pos hk4]at hS
   obtain⟨k2,b2,o2,g2⟩:=belV_spec o1 (G.vars.length:Int)
   obtain⟨t3,b3,o3,g3⟩:=exV_spec hG o2 6 (by omega)
   generalize belV (G.vars.length:Int) q.2=v at *
   generalize exV G 6 v.2=e at *
   subst hS
   have kv:=hG.v1
   have hvv:v.1 < (G.vars.map strRow).length:=by have:=k2 (by omega);omega
   obtain⟨nm,hnm⟩:=get_of_lt (l:=G.vars) (k:=v.1) (by omega)
   have hvg:(G.vars.map strRow)[v.1]?=some (strRow nm):=map_get hnm
   rw[hvl.symm]at g2
   repeat' ((conv=>whnf);first|(with_reducible first|apply Wx|apply W6)|apply oi|(apply fi<;>intro h)|refine⟨_,rfl,?_⟩|((with_reducible show _=_);rfl))
   all_goals try((with_reducible refine Obl.mk ?_);exact KP)
   refine cg (g1) ?_
   repeat' ((conv=>whnf);first|(with_reducible first|apply Wx|apply W6)|apply oi|(apply fi<;>intro h)|refine⟨_,rfl,?_⟩|((with_reducible show _=_);rfl))
   all_goals try((with_reducible refine Obl.mk ?_);exact KP)
   all_goals try exact KX
   refine cg (g2) ?_
   repeat' ((conv=>whnf);first|(with_reducible first|apply Wx|apply W6)|apply oi|(apply fi<;>intro h)|refine⟨_,rfl,hvv,?_⟩|refine⟨_,hvg,?_⟩|refine⟨_,rfl,?_⟩|((with_reducible show _=_);rfl))
   all_goals try((with_reducible refine Obl.mk ?_);exact KP)
   refine cg (g3) ?_
   repeat' ((conv=>whnf);first|(with_reducible first|apply Wx|apply W6)|apply oi|(apply fi<;>intro h)|refine⟨_,rfl,?_⟩|((with_reducible show _=_);rfl))
   all_goals try((with_reducible refine Obl.mk ?_);exact KP)
   all_goals try exact⟨flat_toks _⟩
   all_goals try exact⟨⟨by simp <;> omega,by simp <;> omega⟩⟩
   all_goals try exact⟨KW⟩
   conv=>whnf
   refine⟨⟨(m,_,_),by dsimp only;omega,s4,hlen,hr1,hr2⟩,?_,by dsimp only;omega⟩
   repeat' ((conv=>whnf);first|(with_reducible first|apply Wx|apply W6)|apply oi|(apply fi<;>intro h)|refine⟨_,rfl,?_⟩|((with_reducible show _=_);rfl))
   all_goals try((with_reducible refine Obl.mk ?_);exact KP)
   all_goals try exact⟨K7⟩
   all_goals exact⟨by simp[dr_pos t3.1,hnm]⟩
  rw[if_neg hk4]at hS
  by_cases hk6:q.1 < 6
  ·rw[if_pos hk6]at hS
   obtain⟨t3,b3,o3,g3⟩:=exV_spec hG o1 5 (by omega)
   generalize exV G 5 q.2=e at *
   subst hS
   repeat' ((conv=>whnf);first|(with_reducible first|apply Wx|apply W6)|apply oi|(apply fi<;>intro h)|refine⟨_,rfl,?_⟩|((with_reducible show _=_);rfl))
   all_goals try((with_reducible refine Obl.mk ?_);exact KP)
   refine cg (g1) ?_
   repeat' ((conv=>whnf);first|(with_reducible first|apply Wx|apply W6)|apply oi|(apply fi<;>intro h)|refine⟨_,rfl,?_⟩|((with_reducible show _=_);rfl))
   all_goals try((with_reducible refine Obl.mk ?_);exact KP)
   all_goals try exact KX
   refine cg (g3) ?_
   repeat' ((conv=>whnf);first|(with_reducible first|apply Wx|apply W6)|apply oi|(apply fi<;>intro h)|refine⟨_,rfl,?_⟩|((with_reducible show _=_);rfl))
   all_goals try((with_reducible refine Obl.mk ?_);exact KP)
   all_goals try exact⟨flat_toks _⟩
   all_goals try exact⟨⟨by simp <;> omega,by simp <;> omega⟩⟩
   all_goals try exact⟨KW⟩
   conv=>whnf
   refine⟨⟨(m,_,_),by dsimp only;omega,s4,hlen,hr1,hr2⟩,?_,by dsimp only;omega⟩
   repeat' ((conv=>whnf);first|(with_reducible first|apply Wx|apply W6)|apply oi|(apply fi<;>intro h)|refine⟨_,rfl,?_⟩|((with_reducible show _=_);rfl))
   all_goals try((with_reducible refine Obl.mk ?_);exact KP)
   all_goals try exact⟨K7⟩
   all_goals exact⟨by simp[dr_pos t3.1]⟩
  rw[if_neg hk6]at hS
  by_cases hk7:q.1=6∧dp=true
  ·rw[if_pos hk7]at hS
   obtain⟨hk7,hdt⟩:=hk7
   have hd0:0 < d:=by rw[hdp]at hdt;exact of_decide_eq_true hdt
   have hRo:=hR hdt
   obtain⟨t3,b3,o3,g3⟩:=exV_spec hG o1 4 (by omega)
   generalize exV G 4 q.2=e at *
   obtain⟨k4,b4,o4,g4⟩:=belV_spec o3 2
   generalize belV 2 e.2=t at *
   have g5:=hrc hdt (1+t.1) t.2 (by have:=k4 (by omega);omega) o4
   have l5:=hRo.len (1+t.1) t.2 o4
   have ob5:=hRo.ok (1+t.1) t.2 o4
   have l5':(rc (1+t.1) t.2).1.length≤2 * s:=Nat.le_trans l5 (Nat.mul_le_mul_right _ (by have:=k4 (by omega);omega))
   generalize rc (1+t.1) t.2=B at *
   obtain⟨b6,o6,g6⟩:=onceV_spec ob5 2
   generalize onceV 2 B.2=o at *
   cases ho:o.1 with
   | true=>
    rw[if_pos ho]at hS
    rw[ho]at g6
    have g7:=hrc hdt 1 o.2 (by omega) o6
    have l7:=hRo.len 1 o.2 o6
    generalize rc 1 o.2=E at *
    subst hS
    repeat' ((conv=>whnf);first|(with_reducible first|apply Wx|apply W6)|apply oi|(apply fi<;>intro h)|refine⟨_,rfl,?_⟩|((with_reducible show _=_);rfl))
    all_goals try((with_reducible refine Obl.mk ?_);exact KP)
    refine cg (g1) ?_
    repeat' ((conv=>whnf);first|(with_reducible first|apply Wx|apply W6)|apply oi|(apply fi<;>intro h)|refine⟨_,rfl,?_⟩|((with_reducible show _=_);rfl))
    all_goals try((with_reducible refine Obl.mk ?_);exact KP)
    all_goals try exact KK
    refine cg (g3) ?_
    repeat' ((conv=>whnf);first|(with_reducible first|apply Wx|apply W6)|apply oi|(apply fi<;>intro h)|refine⟨_,rfl,?_⟩|((with_reducible show _=_);rfl))
    all_goals try((with_reducible refine Obl.mk ?_);exact KP)
    all_goals try exact⟨flat_toks _⟩
    all_goals try exact⟨⟨by simp <;> omega,by simp <;> omega⟩⟩
    all_goals try exact⟨KW⟩
    refine cg (g4) ?_
    repeat' ((conv=>whnf);first|(with_reducible first|apply Wx|apply W6)|apply oi|(apply fi<;>intro h)|refine⟨_,rfl,?_⟩|((with_reducible show _=_);rfl))
    all_goals try((with_reducible refine Obl.mk ?_);exact KP)
    all_goals try exact⟨flat_toks _⟩
    all_goals try exact⟨⟨by simp <;> omega,by simp <;> omega⟩⟩
    all_goals try exact⟨KW⟩
    refine cg (g5) ?_
    repeat' ((conv=>whnf);first|(with_reducible first|apply Wx|apply W6)|apply oi|(apply fi<;>intro h)|refine⟨_,rfl,?_⟩|((with_reducible show _=_);rfl))
    all_goals try((with_reducible refine Obl.mk ?_);exact KP)
    all_goals try exact⟨flat_toks _⟩
    all_goals try exact⟨⟨by simp <;> omega,by simp <;> omega⟩⟩
    all_goals try exact⟨KW⟩
    refine cg (g6) ?_
    repeat' ((conv=>whnf);first|(with_reducible first|apply Wx|apply W6)|apply oi|(apply fi<;>intro h)|refine⟨_,rfl,?_⟩|((with_reducible show _=_);rfl))
    all_goals try((with_reducible refine Obl.mk ?_);exact KP)
    all_goals try exact⟨flat_toks _⟩
    all_goals try exact⟨⟨by simp <;> omega,by simp <;> omega⟩⟩
    all_goals try exact⟨KW⟩
    refine cg (g7) ?_
    repeat' ((conv=>whnf);first|(with_reducible first|apply Wx|apply W6)|apply oi|(apply fi<;>intro h)|refine⟨_,rfl,?_⟩|((with_reducible show _=_);rfl))
    all_goals try((with_reducible refine Obl.mk ?_);exact KP)
    all_goals try exact⟨flat_toks _⟩
    all_goals try exact⟨⟨by simp <;> omega,by simp <;> omega⟩⟩
    all_goals try exact⟨KW⟩
    conv=>whnf
    refine⟨⟨(m,_,_),by dsimp only;omega,s4,hlen,hr1,hr2⟩,?_,by dsimp only;omega⟩
    repeat' ((conv=>whnf);first|(with_reducible first|apply Wx|apply W6)|apply oi|(apply fi<;>intro h)|refine⟨_,rfl,?_⟩|((with_reducible show _=_);rfl))
    all_goals try((with_reducible refine Obl.mk ?_);exact KP)
    all_goals try exact⟨K7⟩
    all_goals exact⟨by simp[dr_pos t3.1,dr_nil]⟩
   | false=>
    rw[if_neg (by simp[ho])]at hS
    rw[ho]at g6
    subst hS
    repeat' ((conv=>whnf);first|(with_reducible first|apply Wx|apply W6)|apply oi|(apply fi<;>intro h)|refine⟨_,rfl,?_⟩|((with_reducible show _=_);rfl))
    all_goals try((with_reducible refine Obl.mk ?_);exact KP)
    refine cg (g1) ?_
    repeat' ((conv=>whnf);first|(with_reducible first|apply Wx|apply W6)|apply oi|(apply fi<;>intro h)|refine⟨_,rfl,?_⟩|((with_reducible show _=_);rfl))
    all_goals try((with_reducible refine Obl.mk ?_);exact KP)
    all_goals try exact KK
    refine cg (g3) ?_
    repeat' ((conv=>whnf);first|(with_reducible first|apply Wx|apply W6)|apply oi|(apply fi<;>intro h)|refine⟨_,rfl,?_⟩|((with_reducible show _=_);rfl))
    all_goals try((with_reducible refine Obl.mk ?_);exact KP)
    all_goals try exact⟨flat_toks _⟩
    all_goals try exact⟨⟨by simp <;> omega,by simp <;> omega⟩⟩
    all_goals try exact⟨KW⟩
    refine cg (g4) ?_
    repeat' ((conv=>whnf);first|(with_reducible first|apply Wx|apply W6)|apply oi|(apply fi<;>intro h)|refine⟨_,rfl,?_⟩|((with_reducible show _=_);rfl))
    all_goals try((with_reducible refine Obl.mk ?_);exact KP)
    all_goals try exact⟨flat_toks _⟩
    all_goals try exact⟨⟨by simp <;> omega,by simp <;> omega⟩⟩
    all_goals try exact⟨KW⟩
    refine cg (g5) ?_
    repeat' ((conv=>whnf);first|(with_reducible first|apply Wx|apply W6)|apply oi|(apply fi<;>intro h)|refine⟨_,rfl,?_⟩|((with_reducible show _=_);rfl))
    all_goals try((with_reducible refine Obl.mk ?_);exact KP)
    all_goals try exact⟨flat_toks _⟩
    all_goals try exact⟨⟨by simp <;> omega,by simp <;> omega⟩⟩
    all_goals try exact⟨KW⟩
    refine cg (g6) ?_
    repeat' ((conv=>whnf);first|(with_reducible first|apply Wx|apply W6)|apply oi|(apply fi<;>intro h)|refine⟨_,rfl,?_⟩|((with_reducible show _=_);rfl))
    all_goals try((with_reducible refine Obl.mk ?_);exact KP)
    all_goals try exact⟨flat_toks _⟩
    all_goals try exact⟨⟨by simp <;> omega,by simp <;> omega⟩⟩
    all_goals try exact⟨KW⟩
    conv=>whnf
    refine⟨⟨(m,_,_),by dsimp only;omega,s4,hlen,hr1,hr2⟩,?_,by dsimp only;omega⟩
    repeat' ((conv=>whnf);first|(with_reducible first|apply Wx|apply W6)|apply oi|(apply fi<;>intro h)|refine⟨_,rfl,?_⟩|((with_reducible show _=_);rfl))
    all_goals try((with_reducible refine Obl.mk ?_);exact KP)
    all_goals try exact⟨K7⟩
    all_goals exact⟨by simp[dr_pos t3.1,dr_nil]⟩
  rw[if_neg hk7]at hS
  by_cases hk8:q.1=7∧dp=true
  ·rw[if_pos hk8]at hS
   obtain⟨hk8,hdt⟩:=hk8
   have hd0:0 < d:=by rw[hdp]at hdt;exact of_decide_eq_true hdt
   have hRo:=hR hdt
   obtain⟨k4,b4,o4,g4⟩:=belV_spec o1 3
   generalize belV 3 q.2=t at *
   have k4':=k4 (by omega)
   have hwi:IntKind.i64.wrap (1+(t.1:Int))=1+(t.1:Int):=IntWalk.i64_in _ (by omega)
   have g5:=hrc hdt 1 t.2 (by omega) o4
   have l5:=hRo.len 1 t.2 o4
   generalize rc 1 t.2=B at *
   subst hS
   repeat' ((conv=>whnf);first|(with_reducible first|apply Wx|apply W6)|apply oi|(apply fi<;>intro h)|refine⟨_,rfl,?_⟩|((with_reducible show _=_);rfl))
   all_goals try((with_reducible refine Obl.mk ?_);exact KP)
   refine cg (g1) ?_
   repeat' ((conv=>whnf);first|(with_reducible first|apply Wx|apply W6)|apply oi|(apply fi<;>intro h)|refine⟨_,rfl,?_⟩|((with_reducible show _=_);rfl))
   all_goals try((with_reducible refine Obl.mk ?_);exact KP)
   all_goals try exact KK
   refine cg (g4) ?_
   repeat' ((conv=>whnf);first|(with_reducible first|apply Wx|apply W6)|apply oi|(apply fi<;>intro h)|refine⟨_,rfl,?_⟩|((with_reducible show _=_);rfl))
   all_goals try((with_reducible refine Obl.mk ?_);exact KP)
   all_goals try exact⟨flat_toks [⟨5,0,[]⟩,⟨1,0,[105]⟩,⟨0,IntKind.i64.wrap (1+(t.1:Int)),[]⟩]⟩
   all_goals try exact⟨flat_toks _⟩
   all_goals try exact⟨⟨by simp <;> omega,by simp <;> omega⟩⟩
   all_goals try exact⟨KW⟩
   refine cg (g5) ?_
   repeat' ((conv=>whnf);first|(with_reducible first|apply Wx|apply W6)|apply oi|(apply fi<;>intro h)|refine⟨_,rfl,?_⟩|((with_reducible show _=_);rfl))
   all_goals try((with_reducible refine Obl.mk ?_);exact KP)
   all_goals try exact⟨flat_toks [⟨2,0,[]⟩,⟨1,0,[105]⟩,⟨0,1,[]⟩]⟩
   all_goals try exact⟨flat_toks _⟩
   all_goals try exact⟨⟨by simp <;> omega,by simp <;> omega⟩⟩
   all_goals try exact⟨KW⟩
   conv=>whnf
   refine⟨⟨(m,_,_),by dsimp only;omega,s4,hlen,hr1,hr2⟩,?_,by dsimp only;omega⟩
   repeat' ((conv=>whnf);first|(with_reducible first|apply Wx|apply W6)|apply oi|(apply fi<;>intro h)|refine⟨_,rfl,?_⟩|((with_reducible show _=_);rfl))
   all_goals try((with_reducible refine Obl.mk ?_);exact KP)
   all_goals try exact⟨K7⟩
   all_goals exact⟨by simp[dr_nil,dr_cons,TTok.tr,hwi]⟩
  rw[if_neg hk8]at hS
  have hnd:¬(q.1=6∧0 < d)∧¬(q.1=7∧0 < d):=⟨fun h=>hk7 ⟨h.1,by rw[hdp];exact decide_eq_true h.2⟩,fun h=>hk8 ⟨h.1,by rw[hdp];exact decide_eq_true h.2⟩⟩
  obtain⟨b6,o6,g6⟩:=onceV_spec o1 3
  generalize onceV 3 q.2=o at *
  cases ho:o.1 with
  | true=>
   rw[if_pos ho]at hS
   rw[ho]at g6
   obtain⟨t3,b3,o3,g3⟩:=exV_spec hG o6 4 (by omega)
   generalize exV G 4 o.2=e at *
   subst hS
   repeat' ((conv=>whnf);first|(with_reducible first|apply Wx|apply W6)|apply oi|(apply fi<;>intro h)|refine⟨_,rfl,?_⟩|((with_reducible show _=_);rfl))
   all_goals try((with_reducible refine Obl.mk ?_);exact KP)
   refine cg (g1) ?_
   repeat' ((conv=>whnf);first|(with_reducible first|apply Wx|apply W6)|apply oi|(apply fi<;>intro h)|refine⟨_,rfl,?_⟩|((with_reducible show _=_);rfl))
   all_goals try((with_reducible refine Obl.mk ?_);exact KP)
   all_goals try exact KK
   all_goals(
    refine cg (g6) ?_
    repeat' ((conv=>whnf);first|(with_reducible first|apply Wx|apply W6)|apply oi|(apply fi<;>intro h)|refine⟨_,rfl,?_⟩|((with_reducible show _=_);rfl))
    all_goals try((with_reducible refine Obl.mk ?_);exact KP)
    refine cg (g3) ?_
    repeat' ((conv=>whnf);first|(with_reducible first|apply Wx|apply W6)|apply oi|(apply fi<;>intro h)|refine⟨_,rfl,?_⟩|((with_reducible show _=_);rfl))
    all_goals try((with_reducible refine Obl.mk ?_);exact KP)
    all_goals try exact⟨flat_toks _⟩
    all_goals try exact⟨⟨by simp <;> omega,by simp <;> omega⟩⟩
    all_goals try exact⟨KW⟩
    conv=>whnf
    refine⟨⟨(m,_,_),by dsimp only;omega,s4,hlen,hr1,hr2⟩,?_,by dsimp only;omega⟩
    repeat' ((conv=>whnf);first|(with_reducible first|apply Wx|apply W6)|apply oi|(apply fi<;>intro h)|refine⟨_,rfl,?_⟩|((with_reducible show _=_);rfl))
    all_goals try((with_reducible refine Obl.mk ?_);exact KP)
    all_goals try exact⟨K7⟩
    all_goals exact⟨by simp[dr_pos t3.1]⟩)
  | false=>
   rw[if_neg (by simp[ho])]at hS
   rw[ho]at g6
   subst hS
   repeat' ((conv=>whnf);first|(with_reducible first|apply Wx|apply W6)|apply oi|(apply fi<;>intro h)|refine⟨_,rfl,?_⟩|((with_reducible show _=_);rfl))
   all_goals try((with_reducible refine Obl.mk ?_);exact KP)
   refine cg (g1) ?_
   repeat' ((conv=>whnf);first|(with_reducible first|apply Wx|apply W6)|apply oi|(apply fi<;>intro h)|refine⟨_,rfl,?_⟩|((with_reducible show _=_);rfl))
   all_goals try((with_reducible refine Obl.mk ?_);exact KP)
   all_goals try exact KK
   all_goals(
    refine cg (g6) ?_
    repeat' ((conv=>whnf);first|(with_reducible first|apply Wx|apply W6)|apply oi|(apply fi<;>intro h)|refine⟨_,rfl,?_⟩|((with_reducible show _=_);rfl))
    all_goals try((with_reducible refine Obl.mk ?_);exact KP)
    conv=>whnf
    refine⟨⟨(m,_,_),by dsimp only;omega,s4,hlen,hr1,hr2⟩,?_,by dsimp only;omega⟩
    repeat' ((conv=>whnf);first|(with_reducible first|apply Wx|apply W6)|apply oi|(apply fi<;>intro h)|refine⟨_,rfl,?_⟩|((with_reducible show _=_);rfl))
    all_goals try((with_reducible refine Obl.mk ?_);exact KP)
    all_goals try exact⟨K7⟩
    all_goals exact⟨by simp⟩)
theorem g_body {G:GP}(hG:G.ok):∀(d n:Nat) (c:TCur),d≤2→n≤4→c.ok→bodyC G n d c (bodyV G d n c)
 | 0,n,c,_,hn,hc=>g_run hG (s:=0) (by omega) rfl (by omega) (fun h=>by cases h) (fun h=>by cases h) n c hn hc
 | d+1,n,c,hd,hn,hc=>g_run hG (s:=sB d) (by omega) (by simp) (by
   have:d=0∨d=1:=by omega
   rcases this with rfl|rfl <;> simp[sB]) (fun _=>body_ok hG d) (fun _ m c' hm hc'=>by
   have e:(((d+1:Nat):Int) - 1)=(d:Int):=by omega
   rw[e]
   exact g_body hG d m c' (by omega) (by omega) hc') n c hn hc
end Go.Proofs.YtjmplnfiabmalaaGreat
namespace Go.Proofs.YtjmplnfiabmalaaGreat
open Go.Sim
set_option maxRecDepth 100000
set_option maxHeartbeats 4000000
def nm0:List (List UInt8):=[[109,97,105,110],[102],[103,103],[104]]
def ar0:List Int:=[0,1,2,1]
def arg0:List (List UInt8):=[[120],[121]]
def arN (k:Nat):Nat:=(ar0[k]?.getD 0).toNat
def nmN (k:Nat):List UInt8:=nm0[k]?.getD []
def gpV (n k:Nat)(b:Bool):GP:=⟨arg0.take (arN k)++[[105],[122]],(nm0.take n).drop (if b=true then k else k+1),(ar0.take n).drop (if b=true then k else k+1)⟩
theorem gpV_ok {n k:Nat}(b:Bool):(gpV n k b).ok:=by
 refine⟨by simp[gpV],by simp[gpV,arg0];omega,by simp[gpV,nm0];omega,by simp[gpV,nm0,ar0],fun a ha=>?_,fun s hs=>?_,fun s hs=>?_⟩
 ·have:=List.mem_of_mem_take (List.mem_of_mem_drop ha)
  simp[ar0]at this
  omega
 ·simp only[gpV,List.mem_append]at hs
  rcases hs with hs|hs
  ·have:=List.mem_of_mem_take hs
   simp[arg0]at this
   rcases this with rfl|rfl <;> simp
  ·simp at hs
   rcases hs with rfl|rfl <;> simp
 ·have:=List.mem_of_mem_take (List.mem_of_mem_drop hs)
  simp[nm0]at this
  rcases this with rfl|rfl|rfl|rfl <;> simp
noncomputable def funV (n k:Nat) (c:TCur):List TLine×TCur:=
 let o:=if 0 < k then onceV 5 c else(false,c)
 let G:=gpV n k o.1
 let t:=belV 4 o.2
 let u:=belV 2 t.2
 let B:=bodyV G (1+u.1) (1+t.1) u.2
 let e:=exV G 3 B.2
 (⟨0,nmN k,arg0.take (arN k),[]⟩::(B.1++[⟨6,[],[],e.1⟩,⟨7,[],[],[]⟩]),e.2)
noncomputable def funsV (n:Nat):Nat→Nat→TCur→List TLine×TCur
 | 0,_,c=>([],c)
 | r+1,k,c=>((funV n k c).1++(funsV n r (k+1) (funV n k c).2).1,(funsV n r (k+1) (funV n k c).2).2)
noncomputable def progV (c:TCur):List TLine×TCur:=funsV (1+(belV 4 c).1) (1+(belV 4 c).1) 0 (belV 4 c).2
def drP (x:TLine):List DC:=if x.fKind=0 then [.d (.int .i64 0),.d (.str x.fName),.d (.lst 1 (x.fArgs.map strRow)),.d (.lst 0 [])]else dr x
structure PL (x:TLine):Prop where
 name:x.fName.length≤8
 args:x.fArgs.length≤2∧∀s∈x.fArgs,s.length≤8
 len:x.fExpr.length≤125
 tok:∀t∈x.fExpr,t.fName.length≤8
 fe:x.fKind=0→x.fExpr=[]
 fa:x.fKind≠0→x.fArgs=[]
theorem fun_ok {n k:Nat}{c:TCur}(hc:c.ok):(funV n k c).1.length≤200∧(funV n k c).2.b=c.b∧(funV n k c).2.ok∧∀x∈(funV n k c).1,PL x:=by
 unfold funV
 dsimp only
 have ho:(if 0 < k then onceV 5 c else(false,c)).2.b=c.b∧(if 0 < k then onceV 5 c else(false,c)).2.ok:=by
  split
  ·have:=onceV_spec hc 5;exact⟨this.1,this.2.1⟩
  ·exact⟨rfl,hc⟩
 generalize(if 0 < k then onceV 5 c else(false,c))=o at *
 have hG:=gpV_ok (n:=n) (k:=k) o.1
 generalize gpV n k o.1=G at *
 obtain⟨k4,b4,o4,_⟩:=belV_spec ho.2 4
 obtain⟨k2,b2,o2,_⟩:=belV_spec o4 2
 have k4':=k4 (by omega)
 have k2':=k2 (by omega)
 have hB:=body_ok hG (1+(belV 2 (belV 4 o.2).2).1)
 have hl:=hB.len (1+(belV 4 o.2).1) _ o2
 have hb:=hB.b (1+(belV 4 o.2).1) _ o2
 have hk:=hB.ok (1+(belV 4 o.2).1) _ o2
 have hx:=hB.bl (1+(belV 4 o.2).1) _ o2
 have hs:sB (1+(belV 2 (belV 4 o.2).2).1)≤21:=by
  have:(belV 2 (belV 4 o.2).2).1=0∨(belV 2 (belV 4 o.2).2).1=1:=by omega
  rcases this with e|e <;> rw[e] <;> simp[sB]
 have hl2:=Nat.mul_le_mul (show 1+(belV 4 o.2).1≤4 by omega) hs
 generalize bodyV G (1+(belV 2 (belV 4 o.2).2).1) (1+(belV 4 o.2).1) (belV 2 (belV 4 o.2).2).2=B at *
 obtain⟨t3,b3,o3,_⟩:=exV_spec hG hk 3 (by omega)
 refine⟨by simp;omega,((b3.trans hb).trans b2).trans (b4.trans ho.1),o3,fun x h=>?_⟩
 have hbl:∀{x:TLine},BL x→PL x:=fun h=>⟨h.name,by rw[h.args];simp,h.len,h.tok,fun e=>by have:=h.kind;omega,fun _=>h.args⟩
 simp only[List.mem_cons,List.mem_append,List.not_mem_nil,or_false]at h
 rcases h with rfl|h|rfl|rfl
 ·refine⟨?_,⟨?_,fun s hs=>?_⟩,by simp,by simp,fun _=>rfl,fun e=>absurd rfl e⟩
  ·show(nmN k).length≤8
   unfold nmN
   cases hn:nm0[k]? with
   | none=>simp
   | some v=>
    have:=List.mem_of_getElem? hn
    simp[nm0]at this
    rcases this with rfl|rfl|rfl|rfl <;> simp
  ·simp[arg0];omega
  ·have:=List.mem_of_mem_take hs
   simp[arg0]at this
   rcases this with rfl|rfl <;> simp
 ·exact hbl (hx x h)
 ·exact hbl (bl_ex (by simp) t3)
 ·exact hbl bl_nil
theorem funs_ok (n:Nat):∀(r k:Nat) (c:TCur),c.ok→(funsV n r k c).1.length≤r * 200∧(funsV n r k c).2.b=c.b∧(funsV n r k c).2.ok∧∀x∈(funsV n r k c).1,PL x
 | 0,_,c,hc=>⟨by simp[funsV],rfl,hc,fun x hx=>by simp[funsV]at hx⟩
 | r+1,k,c,hc=>by
  obtain⟨h1,h2,h3,h4⟩:=fun_ok (n:=n) (k:=k) hc
  obtain⟨i1,i2,i3,i4⟩:=funs_ok n r (k+1) _ h3
  rw[funsV]
  refine⟨by simp only[List.length_append];omega,i2.trans h2,i3,fun x hx=>?_⟩
  rcases List.mem_append.1 hx with hx|hx
  ·exact h4 x hx
  ·exact i4 x hx
theorem prog_ok {c:TCur}(hc:c.ok):(progV c).1.length≤800∧(progV c).2.b=c.b∧(progV c).2.ok∧∀x∈(progV c).1,PL x:=by
 obtain⟨k1,b1,o1,_⟩:=belV_spec hc 4
 have k1':=k1 (by omega)
 obtain⟨h1,h2,h3,h4⟩:=funs_ok (1+(belV 4 c).1) (1+(belV 4 c).1) 0 _ o1
 have:=Nat.mul_le_mul_right 200 (show 1+(belV 4 c).1≤4 by omega)
 exact⟨by unfold progV;omega,h2.trans b1,h3,h4⟩
theorem dr_drP {l:List TLine}(h:∀x∈l,BL x):l.map dr=l.map drP:=by
 refine List.map_congr_left fun x hx=>?_
 have:=(h x hx).kind
 rw[drP,if_neg (by omega)]
theorem em_line {x:TLine}(h:PL x):((drP x).map DC.tr).length=x.tr.length∧∀(p:Nat) (c d:Tr),((drP x).map DC.tr)[p]?=some c→x.tr[p]?=some d→emE c d:=by
 obtain⟨k,n,a,e⟩:=x
 have key:∃u v,(drP ⟨k,n,a,e⟩).map DC.tr=[.int .i64 k,.str n,u,v]∧emE u (.lst 1 (a.map strRow))∧emE v (.lst 3 (e.map TTok.tr)):=by
  by_cases h0:k=0
  ·subst h0
   have he:=h.fe rfl
   dsimp only at he
   subst he
   exact⟨_,_,rfl,.inl rfl,.inr ⟨_,_,rfl,rfl⟩⟩
  ·have ha:=h.fa h0
   dsimp only at ha
   subst ha
   rw[drP,if_neg h0]
   cases e with
   | nil=>exact⟨_,_,rfl,.inr ⟨_,_,rfl,rfl⟩,.inr ⟨_,_,rfl,rfl⟩⟩
   | cons t l=>exact⟨_,_,rfl,.inr ⟨_,_,rfl,rfl⟩,.inl rfl⟩
 obtain⟨u,v,e1,e2,e3⟩:=key
 rw[e1]
 refine⟨rfl,fun p c d hc hd=>?_⟩
 match p with
 | 0=>simp[TLine.tr]at hc hd;subst hc;subst hd;exact .inl rfl
 | 1=>simp[TLine.tr]at hc hd;subst hc;subst hd;exact .inl rfl
 | 2=>simp[TLine.tr]at hc hd;subst hc;subst hd;exact e2
 | 3=>simp[TLine.tr]at hc hd;subst hc;subst hd;exact e3
 | p+4=>simp at hc
theorem em_prog:∀{l:List TLine},(∀x∈l,PL x)→emR ((l.map drP).map fun x=>x.map DC.tr) (l.map TLine.tr)
 | [],_=>trivial
 | x::l,h=>⟨em_line (h x (by simp)),em_prog fun y hy=>h y (by simp[hy])⟩
theorem g_spec_l03Program (c:TCur)(hc:c.ok):SpecG Tryz.prog 145 [curP] (curH c) (.r (.c (.t (.lst 4 ((progV c).1.map TLine.tr))))) (curH (progV c).2):=by
 obtain⟨k1,b1,o1,g1⟩:=belV_spec hc 4
 have k1':=k1 (by omega)
 refine specG_of_Wo hΓ hmix Tryz.func145 rfl (by decide) rfl rfl ?_
 unfold progV
 generalize(belV 4 c).2=c1 at *
 obtain⟨n,hn⟩:∃n,1+(belV 4 c).1=n:=⟨_,rfl⟩
 have hw:IntKind.i64.wrap (1+((belV 4 c).1:Int))=(n:Int):=by rw[IntWalk.i64_in _ (by omega)];omega
 rw[hn]
 obtain⟨R,c',hRR⟩:∃R c',funsV n n 0 c1=(R,c'):=⟨_,_,rfl⟩
 have hPL:=(funs_ok n n 0 _ o1).2.2.2
 rw[hRR]at hPL ⊢
 repeat' ((conv=>whnf);first|(with_reducible apply W1;fail_if_success (with_reducible show Wo _ _ _ _ (Code.seq (Code.region 5 _ _) _) _ _))|(with_reducible first|apply W2|apply W3|apply W4|apply W5|apply W6|apply W7|apply W8|apply W9)|apply reg_inl|apply oi|(apply fi<;>intro h)|refine⟨_,rfl,?_⟩|((with_reducible show _=_);rfl))
 all_goals try((with_reducible refine Obl.mk ?_);exact KP)
 refine cg (g1) ?_
 repeat' ((conv=>whnf);first|(with_reducible apply W1;fail_if_success (with_reducible show Wo _ _ _ _ (Code.seq (Code.region 5 _ _) _) _ _))|(with_reducible first|apply W2|apply W3|apply W4|apply W5|apply W6|apply W7|apply W8|apply W9)|apply reg_inl|apply oi|(apply fi<;>intro h)|refine⟨_,rfl,?_⟩|((with_reducible show _=_);rfl))
 all_goals try((with_reducible refine Obl.mk ?_);exact KP)
 conv=>whnf
 refine view_rule ⟨[(0,curP),(3,vN nm0),(4,.r (.c (.t (.lst 1 (ar0.map intRow))))),(5,tI .i64 (IntKind.i64.wrap (1+((belV 4 c).1:Int)))),(6,.r (.c (.own (15,0,0))))],[((0,0,0),some (.box [.t (.lst 1 (c1.b.map byteRow)),.t (.int .i64 c1.i),.t (.int .i64 c1.h)])),((15,0,0),some (.arr true 4 []))],[15,13,11,10,0]⟩ ?_ ?_ rfl ?_
 ·refine⟨.inl rfl,.inr ⟨_,_,rfl,rfl,rfl,?_⟩,.inr ⟨_,_,rfl,rfl,rfl,?_⟩,.inl rfl,.inl rfl,trivial⟩
  all_goals(intro q hq;simp only[AC.ids,List.mem_cons,List.not_mem_nil,or_false]at hq;subst hq;rfl)
 ·exact⟨.inr rfl,.inr rfl,trivial⟩
 rw[hw]
 repeat' ((conv=>whnf);first|(with_reducible first|apply Wx|apply W6)|apply oi|(apply fi<;>intro h)|refine⟨_,rfl,?_⟩|((with_reducible show _=_);rfl))
 all_goals try((with_reducible refine Obl.mk ?_);exact KP)
 conv=>whnf
 refine⟨{q:Nat×TCur×List TLine // q.1≤n∧q.2.1.ok∧q.2.2.length+(n - q.1) * 200≤800∧q.2.2++(funsV n (n - q.1) q.1 q.2.1).1=R∧(funsV n (n - q.1) q.1 q.2.1).2=c'},fun q=>⟨[(0,curP),(3,vN nm0),(4,.r (.c (.t (.lst 1 (ar0.map intRow))))),(5,tI .i64 (n:Int)),(6,.r (.c (.own (15,0,0)))),(7,tI .i64 (q.1.1:Int))],[((0,0,0),some (.box [.t (.lst 1 (q.1.2.1.b.map byteRow)),.t (.int .i64 q.1.2.1.i),.t (.int .i64 q.1.2.1.h)])),((15,0,0),some (.dar 4 (q.1.2.2.map drP) none))],[15,0]⟩,fun q=>n - q.1.1,⟨(0,c1,[]),by dsimp only;omega,o1,by simp;omega,by dsimp only;rw[Nat.sub_zero,hRR];rfl,by dsimp only;rw[Nat.sub_zero,hRR]⟩,?_,?_⟩
 ·skip
  repeat' ((conv=>whnf);first|(with_reducible first|apply Wx|apply W6)|apply oi|(apply fi<;>intro h)|refine⟨_,rfl,?_⟩|((with_reducible show _=_);rfl))
  all_goals try((with_reducible refine Obl.mk ?_);exact KP)
  all_goals try exact⟨rfl⟩
 intro⟨⟨k,ci,acc⟩,hi,hci,hal,hr1,hr2⟩
 dsimp only at hi hci hal hr1 hr2 ⊢
 by_cases hlt:k < n
 ·obtain⟨m,hm⟩:∃m,n - k=m+1:=⟨n - k - 1,by omega⟩
  rw[hm]at hr1 hr2 hal
  rw[funsV]at hr1 hr2
  dsimp only at hr1 hr2
  obtain⟨s1,_,s3,s4⟩:=fun_ok (n:=n) (k:=k) hci
  generalize hF:funV n k ci=F at *
  rw[←List.append_assoc]at hr1
  have hlen:(acc++F.1).length+(n - (k+1)) * 200≤800:=by rw[List.length_append];omega
  rw[show m=n - (k+1) by omega]at hr1 hr2
  unfold funV at hF
  dsimp only at hF
  have hk4:k < 4:=by omega
  have hnm:nm0[k]?=some (nmN k):=by
   have:k=0∨k=1∨k=2∨k=3:=by omega
   rcases this with rfl|rfl|rfl|rfl <;> rfl
  have har:ar0[k]?=some (arN k:Int):=by
   have:k=0∨k=1∨k=2∨k=3:=by omega
   rcases this with rfl|rfl|rfl|rfl <;> rfl
  have har2:arN k≤2:=by
   have:k=0∨k=1∨k=2∨k=3:=by omega
   rcases this with rfl|rfl|rfl|rfl <;> decide
  have hw1:IntKind.i64.wrap ((k:Int)+1)=((k+1:Nat):Int):=by rw[IntWalk.i64_in _ (by omega)];omega
  have hnl:(nm0.map strRow).length=4:=rfl
  have hal4:(ar0.map intRow).length=4:=rfl
  have hfl:flat ([]++List.take (arN k) (arg0.map strRow)):=by rw[List.nil_append,←List.map_take];exact flat_strs _
  rcases Nat.eq_zero_or_pos k with hk0|hk0
  ·rw[if_neg (by omega)]at hF
   (try dsimp only at hF)
   have hG:=gpV_ok (n:=n) (k:=k) false
   obtain⟨k4,b4,o4,g4⟩:=belV_spec hci 4
   generalize belV 4 ci=t at *
   obtain⟨k5,b5,o5,g5⟩:=belV_spec o4 2
   generalize belV 2 t.2=u at *
   have k4':=k4 (by omega)
   have k5':=k5 (by omega)
   have g6:=g_body hG (1+u.1) (1+t.1) u.2 (by omega) (by omega) o5
   have hB:=body_ok hG (1+u.1)
   have hl:=hB.len (1+t.1) _ o5
   have hk:=hB.ok (1+t.1) _ o5
   have hx:=dr_drP (hB.bl (1+t.1) _ o5)
   have hs:sB (1+u.1)≤21:=by
    have:u.1=0∨u.1=1:=by omega
    rcases this with e|e <;> rw[e] <;> simp[sB]
   have hl2:=Nat.mul_le_mul (show 1+t.1≤4 by omega) hs
   generalize bodyV (gpV n k false) (1+u.1) (1+t.1) u.2=B at *
   obtain⟨t3,b3,o3,g3⟩:=exV_spec hG hk 3 (by omega)
   generalize exV (gpV n k false) 3 B.2=e at *
   subst hF
   have hnames:Tr.lst 1 ((gpV n k false).names.map strRow)=Tr.lst 1 (((nm0.map strRow).take n).drop (k+1)):=by simp[gpV,List.map_drop,List.map_take]
   have hars:Tr.lst 1 ((gpV n k false).ars.map intRow)=Tr.lst 1 (((ar0.map intRow).take n).drop (k+1)):=by simp[gpV,List.map_drop,List.map_take]
   have hvars:[]++List.take (arN k) (arg0.map strRow)++([[105],[122]]:List (List UInt8)).map strRow=(gpV n k false).vars.map strRow:=by simp[gpV,List.map_take]
   have hn1:Tr.int .i64 ((1+t.1:Nat):Int)=Tr.int .i64 (IntKind.i64.wrap (1+(t.1:Int))):=by rw[IntWalk.i64_in _ (by omega)];simp
   have hn2:Tr.int .i64 ((1+u.1:Nat):Int)=Tr.int .i64 (IntKind.i64.wrap (1+(u.1:Int))):=by rw[IntWalk.i64_in _ (by omega)];simp
   repeat' ((conv=>whnf);first|(with_reducible first|apply Wx|apply W6)|apply oi|(apply fi<;>intro h)|refine⟨k,(intRow (arN k)),rfl,map_get har,?_⟩|refine⟨0,arN k,rfl,rfl,Nat.zero_le _,har2,?_⟩|refine⟨k+1,n,hw1,rfl,by omega,by(rw[hnl];omega),?_⟩|refine⟨k+1,n,hw1,rfl,by omega,by(rw[hal4];omega),?_⟩|refine⟨k,(strRow (nmN k)),rfl,map_get hnm,?_⟩|refine⟨_,rfl,?_⟩|((with_reducible show _=_);rfl))
   all_goals try((with_reducible refine Obl.mk ?_);exact KP)
   all_goals try exact KX
   all_goals try exact⟨har2⟩
   all_goals try exact⟨⟨by simp <;> omega,by simp <;> omega⟩⟩
   all_goals try exact⟨hfl⟩
   refine cg (g4) ?_
   repeat' ((conv=>whnf);first|(with_reducible first|apply Wx|apply W6)|apply oi|(apply fi<;>intro h)|refine⟨_,rfl,?_⟩|((with_reducible show _=_);rfl))
   all_goals try((with_reducible refine Obl.mk ?_);exact KP)
   refine cg (g5) ?_
   repeat' ((conv=>whnf);first|(with_reducible first|apply Wx|apply W6)|apply oi|(apply fi<;>intro h)|refine⟨_,rfl,?_⟩|((with_reducible show _=_);rfl))
   all_goals try((with_reducible refine Obl.mk ?_);exact KP)
   refine cg (g6) ?_
   repeat' ((conv=>whnf);first|(with_reducible first|apply Wx|apply W6)|apply oi|(apply fi<;>intro h)|refine⟨_,rfl,?_⟩|((with_reducible show _=_);rfl))
   all_goals try((with_reducible refine Obl.mk ?_);exact KP)
   all_goals try exact⟨hnames⟩
   all_goals try exact⟨hars⟩
   all_goals try exact⟨hn1⟩
   all_goals try exact⟨hn2⟩
   all_goals try exact⟨hvars⟩
   all_goals try exact⟨⟨by simp <;> omega,by simp <;> omega⟩⟩
   refine cg (g3) ?_
   repeat' ((conv=>whnf);first|(with_reducible first|apply Wx|apply W6)|apply oi|(apply fi<;>intro h)|refine⟨_,rfl,?_⟩|((with_reducible show _=_);rfl))
   all_goals try((with_reducible refine Obl.mk ?_);exact KP)
   all_goals try exact⟨flat_toks _⟩
   all_goals try exact⟨⟨by simp <;> omega,by simp <;> omega⟩⟩
   conv=>whnf
   refine⟨⟨(k+1,_,_),by dsimp only;omega,s3,hlen,hr1,hr2⟩,?_,by dsimp only;omega⟩
   repeat' ((conv=>whnf);first|(with_reducible first|apply Wx|apply W6)|apply oi|(apply fi<;>intro h)|refine⟨_,rfl,?_⟩|((with_reducible show _=_);rfl))
   all_goals try((with_reducible refine Obl.mk ?_);exact KP)
   all_goals try exact⟨KW⟩
   all_goals try exact⟨by simp[drP,dr_pos t3.1,dr_nil,hx,List.map_take,arg0,strRow]⟩
  ·rw[if_pos hk0]at hF
   obtain⟨b7,o7,g7⟩:=onceV_spec hci 5
   generalize onceV 5 ci=o at *
   (try dsimp only at hF)
   cases ho:o.1 with
   | true=>
    rw[ho]at hF g7
    have hG:=gpV_ok (n:=n) (k:=k) true
    obtain⟨k4,b4,o4,g4⟩:=belV_spec o7 4
    generalize belV 4 o.2=t at *
    obtain⟨k5,b5,o5,g5⟩:=belV_spec o4 2
    generalize belV 2 t.2=u at *
    have k4':=k4 (by omega)
    have k5':=k5 (by omega)
    have g6:=g_body hG (1+u.1) (1+t.1) u.2 (by omega) (by omega) o5
    have hB:=body_ok hG (1+u.1)
    have hl:=hB.len (1+t.1) _ o5
    have hk:=hB.ok (1+t.1) _ o5
    have hx:=dr_drP (hB.bl (1+t.1) _ o5)
    have hs:sB (1+u.1)≤21:=by
     have:u.1=0∨u.1=1:=by omega
     rcases this with e|e <;> rw[e] <;> simp[sB]
    have hl2:=Nat.mul_le_mul (show 1+t.1≤4 by omega) hs
    generalize bodyV (gpV n k true) (1+u.1) (1+t.1) u.2=B at *
    obtain⟨t3,b3,o3,g3⟩:=exV_spec hG hk 3 (by omega)
    generalize exV (gpV n k true) 3 B.2=e at *
    subst hF
    have hnames:Tr.lst 1 ((gpV n k true).names.map strRow)=Tr.lst 1 (((nm0.map strRow).take n).drop (k)):=by simp[gpV,List.map_drop,List.map_take]
    have hars:Tr.lst 1 ((gpV n k true).ars.map intRow)=Tr.lst 1 (((ar0.map intRow).take n).drop (k)):=by simp[gpV,List.map_drop,List.map_take]
    have hvars:[]++List.take (arN k) (arg0.map strRow)++([[105],[122]]:List (List UInt8)).map strRow=(gpV n k true).vars.map strRow:=by simp[gpV,List.map_take]
    have hn1:Tr.int .i64 ((1+t.1:Nat):Int)=Tr.int .i64 (IntKind.i64.wrap (1+(t.1:Int))):=by rw[IntWalk.i64_in _ (by omega)];simp
    have hn2:Tr.int .i64 ((1+u.1:Nat):Int)=Tr.int .i64 (IntKind.i64.wrap (1+(u.1:Int))):=by rw[IntWalk.i64_in _ (by omega)];simp
    repeat' ((conv=>whnf);first|(with_reducible first|apply Wx|apply W6)|apply oi|(apply fi<;>intro h)|refine⟨k,(intRow (arN k)),rfl,map_get har,?_⟩|refine⟨0,arN k,rfl,rfl,Nat.zero_le _,har2,?_⟩|refine⟨k+1,n,hw1,rfl,by omega,by(rw[hnl];omega),?_⟩|refine⟨k+1,n,hw1,rfl,by omega,by(rw[hal4];omega),?_⟩|refine⟨k,(strRow (nmN k)),rfl,map_get hnm,?_⟩|refine⟨_,rfl,?_⟩|((with_reducible show _=_);rfl))
    all_goals try((with_reducible refine Obl.mk ?_);exact KP)
    all_goals try exact KX
    all_goals try exact⟨har2⟩
    all_goals try exact⟨⟨by simp <;> omega,by simp <;> omega⟩⟩
    all_goals try exact⟨hfl⟩
    refine cg (g7) ?_
    repeat' ((conv=>whnf);first|(with_reducible first|apply Wx|apply W6)|apply oi|(apply fi<;>intro h)|refine⟨k,(strRow (nmN k)),rfl,map_get hnm,?_⟩|refine⟨k,n,rfl,rfl,by omega,by(rw[hnl];omega),?_⟩|refine⟨k,n,rfl,rfl,by omega,by(rw[hal4];omega),?_⟩|refine⟨_,rfl,?_⟩|((with_reducible show _=_);rfl))
    all_goals try((with_reducible refine Obl.mk ?_);exact KP)
    all_goals try exact KX
    all_goals try exact⟨har2⟩
    all_goals try exact⟨⟨by simp <;> omega,by simp <;> omega⟩⟩
    all_goals try exact⟨hfl⟩
    refine cg (g4) ?_
    repeat' ((conv=>whnf);first|(with_reducible first|apply Wx|apply W6)|apply oi|(apply fi<;>intro h)|refine⟨_,rfl,?_⟩|((with_reducible show _=_);rfl))
    all_goals try((with_reducible refine Obl.mk ?_);exact KP)
    refine cg (g5) ?_
    repeat' ((conv=>whnf);first|(with_reducible first|apply Wx|apply W6)|apply oi|(apply fi<;>intro h)|refine⟨_,rfl,?_⟩|((with_reducible show _=_);rfl))
    all_goals try((with_reducible refine Obl.mk ?_);exact KP)
    refine cg (g6) ?_
    repeat' ((conv=>whnf);first|(with_reducible first|apply Wx|apply W6)|apply oi|(apply fi<;>intro h)|refine⟨_,rfl,?_⟩|((with_reducible show _=_);rfl))
    all_goals try((with_reducible refine Obl.mk ?_);exact KP)
    all_goals try exact⟨hnames⟩
    all_goals try exact⟨hars⟩
    all_goals try exact⟨hn1⟩
    all_goals try exact⟨hn2⟩
    all_goals try exact⟨hvars⟩
    all_goals try exact⟨⟨by simp <;> omega,by simp <;> omega⟩⟩
    refine cg (g3) ?_
    repeat' ((conv=>whnf);first|(with_reducible first|apply Wx|apply W6)|apply oi|(apply fi<;>intro h)|refine⟨_,rfl,?_⟩|((with_reducible show _=_);rfl))
    all_goals try((with_reducible refine Obl.mk ?_);exact KP)
    all_goals try exact⟨flat_toks _⟩
    all_goals try exact⟨⟨by simp <;> omega,by simp <;> omega⟩⟩
    conv=>whnf
    refine⟨⟨(k+1,_,_),by dsimp only;omega,s3,hlen,hr1,hr2⟩,?_,by dsimp only;omega⟩
    repeat' ((conv=>whnf);first|(with_reducible first|apply Wx|apply W6)|apply oi|(apply fi<;>intro h)|refine⟨_,rfl,?_⟩|((with_reducible show _=_);rfl))
    all_goals try((with_reducible refine Obl.mk ?_);exact KP)
    all_goals try exact⟨KW⟩
    all_goals try exact⟨by simp[drP,dr_pos t3.1,dr_nil,hx,List.map_take,arg0,strRow]⟩
   | false=>
    rw[ho]at hF g7
    have hG:=gpV_ok (n:=n) (k:=k) false
    obtain⟨k4,b4,o4,g4⟩:=belV_spec o7 4
    generalize belV 4 o.2=t at *
    obtain⟨k5,b5,o5,g5⟩:=belV_spec o4 2
    generalize belV 2 t.2=u at *
    have k4':=k4 (by omega)
    have k5':=k5 (by omega)
    have g6:=g_body hG (1+u.1) (1+t.1) u.2 (by omega) (by omega) o5
    have hB:=body_ok hG (1+u.1)
    have hl:=hB.len (1+t.1) _ o5
    have hk:=hB.ok (1+t.1) _ o5
    have hx:=dr_drP (hB.bl (1+t.1) _ o5)
    have hs:sB (1+u.1)≤21:=by
     have:u.1=0∨u.1=1:=by omega
     rcases this with e|e <;> rw[e] <;> simp[sB]
    have hl2:=Nat.mul_le_mul (show 1+t.1≤4 by omega) hs
    generalize bodyV (gpV n k false) (1+u.1) (1+t.1) u.2=B at *
    obtain⟨t3,b3,o3,g3⟩:=exV_spec hG hk 3 (by omega)
    generalize exV (gpV n k false) 3 B.2=e at *
    subst hF
    have hnames:Tr.lst 1 ((gpV n k false).names.map strRow)=Tr.lst 1 (((nm0.map strRow).take n).drop (k+1)):=by simp[gpV,List.map_drop,List.map_take]
    have hars:Tr.lst 1 ((gpV n k false).ars.map intRow)=Tr.lst 1 (((ar0.map intRow).take n).drop (k+1)):=by simp[gpV,List.map_drop,List.map_take]
    have hvars:[]++List.take (arN k) (arg0.map strRow)++([[105],[122]]:List (List UInt8)).map strRow=(gpV n k false).vars.map strRow:=by simp[gpV,List.map_take]
    have hn1:Tr.int .i64 ((1+t.1:Nat):Int)=Tr.int .i64 (IntKind.i64.wrap (1+(t.1:Int))):=by rw[IntWalk.i64_in _ (by omega)];simp
    have hn2:Tr.int .i64 ((1+u.1:Nat):Int)=Tr.int .i64 (IntKind.i64.wrap (1+(u.1:Int))):=by rw[IntWalk.i64_in _ (by omega)];simp
    repeat' ((conv=>whnf);first|(with_reducible first|apply Wx|apply W6)|apply oi|(apply fi<;>intro h)|refine⟨k,(intRow (arN k)),rfl,map_get har,?_⟩|refine⟨0,arN k,rfl,rfl,Nat.zero_le _,har2,?_⟩|refine⟨k+1,n,hw1,rfl,by omega,by(rw[hnl];omega),?_⟩|refine⟨k+1,n,hw1,rfl,by omega,by(rw[hal4];omega),?_⟩|refine⟨k,(strRow (nmN k)),rfl,map_get hnm,?_⟩|refine⟨_,rfl,?_⟩|((with_reducible show _=_);rfl))
    all_goals try((with_reducible refine Obl.mk ?_);exact KP)
    all_goals try exact KX
    all_goals try exact⟨har2⟩
    all_goals try exact⟨⟨by simp <;> omega,by simp <;> omega⟩⟩
    all_goals try exact⟨hfl⟩
    refine cg (g7) ?_
    repeat' ((conv=>whnf);first|(with_reducible first|apply Wx|apply W6)|apply oi|(apply fi<;>intro h)|refine⟨k,(strRow (nmN k)),rfl,map_get hnm,?_⟩|refine⟨_,rfl,?_⟩|((with_reducible show _=_);rfl))
    all_goals try((with_reducible refine Obl.mk ?_);exact KP)
    all_goals try exact KX
    all_goals try exact⟨har2⟩
    all_goals try exact⟨⟨by simp <;> omega,by simp <;> omega⟩⟩
    all_goals try exact⟨hfl⟩
    refine cg (g4) ?_
    repeat' ((conv=>whnf);first|(with_reducible first|apply Wx|apply W6)|apply oi|(apply fi<;>intro h)|refine⟨_,rfl,?_⟩|((with_reducible show _=_);rfl))
    all_goals try((with_reducible refine Obl.mk ?_);exact KP)
    refine cg (g5) ?_
    repeat' ((conv=>whnf);first|(with_reducible first|apply Wx|apply W6)|apply oi|(apply fi<;>intro h)|refine⟨_,rfl,?_⟩|((with_reducible show _=_);rfl))
    all_goals try((with_reducible refine Obl.mk ?_);exact KP)
    refine cg (g6) ?_
    repeat' ((conv=>whnf);first|(with_reducible first|apply Wx|apply W6)|apply oi|(apply fi<;>intro h)|refine⟨_,rfl,?_⟩|((with_reducible show _=_);rfl))
    all_goals try((with_reducible refine Obl.mk ?_);exact KP)
    all_goals try exact⟨hnames⟩
    all_goals try exact⟨hars⟩
    all_goals try exact⟨hn1⟩
    all_goals try exact⟨hn2⟩
    all_goals try exact⟨hvars⟩
    all_goals try exact⟨⟨by simp <;> omega,by simp <;> omega⟩⟩
    refine cg (g3) ?_
    repeat' ((conv=>whnf);first|(with_reducible first|apply Wx|apply W6)|apply oi|(apply fi<;>intro h)|refine⟨_,rfl,?_⟩|((with_reducible show _=_);rfl))
    all_goals try((with_reducible refine Obl.mk ?_);exact KP)
    all_goals try exact⟨flat_toks _⟩
    all_goals try exact⟨⟨by simp <;> omega,by simp <;> omega⟩⟩
    conv=>whnf
    refine⟨⟨(k+1,_,_),by dsimp only;omega,s3,hlen,hr1,hr2⟩,?_,by dsimp only;omega⟩
    repeat' ((conv=>whnf);first|(with_reducible first|apply Wx|apply W6)|apply oi|(apply fi<;>intro h)|refine⟨_,rfl,?_⟩|((with_reducible show _=_);rfl))
    all_goals try((with_reducible refine Obl.mk ?_);exact KP)
    all_goals try exact⟨KW⟩
    all_goals try exact⟨by simp[drP,dr_pos t3.1,dr_nil,hx,List.map_take,arg0,strRow]⟩
 ·have hkn:k=n:=by omega
  subst hkn
  rw[Nat.sub_self]at hr1 hr2
  simp only[funsV,List.append_nil]at hr1 hr2
  subst hr1;subst hr2
  dsimp only at hPL
  refine view_rule ⟨[(0,curP),(5,tI .i64 (k:Int)),(6,.r (.c (.t (.lst 4 ((acc.map drP).map fun x=>x.map DC.tr))))),(7,tI .i64 (k:Int))],[((0,0,0),some (.box [.t (.lst 1 (ci.b.map byteRow)),.t (.int .i64 ci.i),.t (.int .i64 ci.h)]))],[15,0]⟩ ?_ ?_ rfl ?_
  ·refine⟨.inl rfl,.inl rfl,.inr ⟨_,_,rfl,rfl,rfl,?_⟩,.inl rfl,trivial⟩
   intro q hq;simp only[AC.ids,List.mem_cons,List.not_mem_nil,or_false]at hq;subst hq;rfl
  ·exact⟨.inr rfl,trivial⟩
  refine retree_rule 6 rfl (em_prog hPL) ?_
  repeat' ((conv=>whnf);first|(with_reducible first|apply Wx|apply W6)|apply oi|(apply fi<;>intro h)|refine⟨_,rfl,?_⟩|((with_reducible show _=_);rfl))
  all_goals try((with_reducible refine Obl.mk ?_);exact KP)
  all_goals try exact KX
end Go.Proofs.YtjmplnfiabmalaaGreat
namespace Go.Proofs.YtjmplnfiabmalaaGreat
open Go.Sim
set_option maxRecDepth 100000
set_option maxHeartbeats 4000000
theorem smallRs_of {α:Type}{g:α→List Tr}{L:Int}:∀{l:List α},(∀x∈l,smallR L (g x))→smallRs L (l.map g)
 | [],_=>by rw[List.map_nil,smallRs];trivial
 | x::l,h=>by
  rw[List.map_cons,smallRs]
  exact⟨h x (by simp),smallRs_of fun y hy=>h y (by simp[hy])⟩
theorem small_map {α:Type}{g:α→List Tr}{l:List α}{sz:Nat}(hl:l.length≤1048576)(h:∀x∈l,smallR 1048576 (g x)):smallT 1048576 (.lst sz (l.map g)):=by
 rw[smallT]
 exact⟨by simp;omega,smallRs_of h⟩
end Go.Proofs.YtjmplnfiabmalaaGreat
namespace Go.Proofs.YtjmplnfiabmalaaGreat
open Go.Sim
set_option maxRecDepth 100000
set_option maxHeartbeats 4000000
theorem prog_small {l:List TLine}(h:∀x∈l,PL x)(hl:l.length≤800):smallT 1048576 (.lst 4 (l.map TLine.tr)):=by
 refine small_map (by omega) fun x hx=>?_
 have hp:=h x hx
 have h1:smallT 1048576 (.lst 1 (x.fArgs.map strRow)):=small_map (by have:=hp.args.1;omega) fun s hs=>by
  have:=hp.args.2 s hs
  simp only[strRow,smallR,smallT]
  exact⟨by omega,trivial⟩
 have h2:smallT 1048576 (.lst 3 (x.fExpr.map TTok.tr)):=small_map (by have:=hp.len;omega) fun t ht=>by
  have:=hp.tok t ht
  simp only[TTok.tr,smallR,smallT]
  exact⟨trivial,trivial,by omega,trivial⟩
 have h3:=hp.name
 exact⟨trivial,by simp only[smallT];omega,h1,h2,trivial⟩
def fbP:List TLine:=[⟨0,[109,97,105,110],[],[]⟩,⟨2,[],[],[⟨0,1,[]⟩]⟩,⟨6,[],[],[⟨0,1,[]⟩]⟩,⟨7,[],[],[]⟩]
theorem fbP_ok:programOk fbP=true:=by decide
theorem fbP_pl:∀x∈fbP,PL x:=by
 intro x hx
 simp only[fbP,List.mem_cons,List.not_mem_nil,or_false]at hx
 rcases hx with rfl|rfl|rfl|rfl
 all_goals exact⟨by simp,by simp,by simp,by simp,by simp,by simp⟩
noncomputable def prog4:Nat→TCur→List TLine×TCur
 | 0,c=>(fbP,c)
 | r+1,c=>if programOk (progV c).1=true then progV c else prog4 r (progV c).2
theorem prog4_ok:∀(r:Nat) (c:TCur),c.ok→programOk (prog4 r c).1=true∧(prog4 r c).1.length≤800∧(prog4 r c).2.b=c.b∧(prog4 r c).2.ok∧∀x∈(prog4 r c).1,PL x
 | 0,c,hc=>⟨fbP_ok,by simp[prog4,fbP],rfl,hc,fbP_pl⟩
 | r+1,c,hc=>by
  obtain⟨h1,h2,h3,h4⟩:=prog_ok hc
  rw[prog4]
  split
  ·rename_i h;exact⟨h,h1,h2,h3,h4⟩
  ·obtain⟨i1,i2,i3,i4,i5⟩:=prog4_ok r _ h3
   exact⟨i1,i2,i3.trans h2,i4,i5⟩
theorem em_fb:emR [[.int .i64 0,.str [109,97,105,110],.lst 0 [],.lst 0 []],[.int .i64 2,.str [],.lst 0 [],.lst 3 [[.int .i64 0,.int .i64 1,.str []]]],[.int .i64 6,.str [],.lst 0 [],.lst 3 [[.int .i64 0,.int .i64 1,.str []]]],[.int .i64 7,.str [],.lst 0 [],.lst 0 []]] (fbP.map TLine.tr):=by
 refine⟨⟨rfl,fun p c d hc hd=>?_⟩,⟨rfl,fun p c d hc hd=>?_⟩,⟨rfl,fun p c d hc hd=>?_⟩,⟨rfl,fun p c d hc hd=>?_⟩,trivial⟩
 all_goals(
  match p with
  | 0=>simp[TLine.tr]at hc hd;subst hc;subst hd;exact .inl rfl
  | 1=>simp[TLine.tr]at hc hd;subst hc;subst hd;exact .inl rfl
  | 2=>simp[TLine.tr]at hc hd;subst hc;subst hd;exact .inr ⟨_,_,rfl,rfl⟩
  | 3=>simp[TLine.tr,TTok.tr]at hc hd;subst hc;subst hd;first|exact .inl rfl|exact .inr ⟨_,_,rfl,rfl⟩
  | p+4=>simp at hc)
theorem g_spec_l04Program (c:TCur)(hc:c.ok):SpecG Tryz.prog 70 [curP] (curH c) (.r (.c (.t (.lst 4 ((prog4 5 c).1.map TLine.tr))))) (curH (prog4 5 c).2):=by
 refine specG_of_Wo hΓ hmix Tryz.func70 rfl (by decide) rfl rfl ?_
 generalize hR:prog4 5 c=R at *
 repeat' ((conv=>whnf);first|(with_reducible first|apply Wx|apply W6)|apply oi|(apply fi<;>intro h)|refine⟨_,rfl,?_⟩|((with_reducible show _=_);rfl))
 all_goals try((with_reducible refine Obl.mk ?_);exact KP)
 conv=>whnf
 refine⟨{q:Nat×TCur // q.1≤5∧q.2.ok∧prog4 (5 - q.1) q.2=R},fun q=>⟨[(0,curP),(3,tI .i64 (q.1.1:Int))],[((0,0,0),some (.box [.t (.lst 1 (q.1.2.b.map byteRow)),.t (.int .i64 q.1.2.i),.t (.int .i64 q.1.2.h)]))],[0]⟩,fun q=>5 - q.1.1,⟨(0,c),by dsimp only;omega,hc,hR⟩,?_,?_⟩
 ·skip
  repeat' ((conv=>whnf);first|(with_reducible first|apply Wx|apply W6)|apply oi|(apply fi<;>intro h)|refine⟨_,rfl,?_⟩|((with_reducible show _=_);rfl))
  all_goals try((with_reducible refine Obl.mk ?_);exact KP)
 intro⟨⟨k,ci⟩,hi,hci,hr⟩
 dsimp only at hi hci hr ⊢
 by_cases hlt:k < 5
 ·obtain⟨m,hm⟩:∃m,5 - k=m+1:=⟨5 - k - 1,by omega⟩
  rw[hm,prog4]at hr
  have gP:=g_spec_l03Program ci hci
  obtain⟨h1,h2,h3,h4⟩:=prog_ok hci
  have hO:=s_spec_ProgramOk (progV ci).1 (prog_small h4 h1)
  generalize progV ci=Q at *
  cases hq:programOk Q.1 with
  | true=>
   rw[if_pos hq]at hr
   subst hr
   rw[hq]at hO
   repeat' ((conv=>whnf);first|(with_reducible first|apply Wx|apply W6)|apply oi|(apply fi<;>intro h)|refine⟨_,rfl,?_⟩|((with_reducible show _=_);rfl))
   all_goals try((with_reducible refine Obl.mk ?_);exact KP)
   refine cg (gP) ?_
   repeat' ((conv=>whnf);first|(with_reducible first|apply Wx|apply W6)|apply oi|(apply fi<;>intro h)|refine cl hO ?_|refine⟨_,rfl,?_⟩|((with_reducible show _=_);rfl))
   all_goals try((with_reducible refine Obl.mk ?_);exact KP)
   all_goals try exact KX
  | false=>
   rw[if_neg (by simp[hq])]at hr
   rw[hq]at hO
   repeat' ((conv=>whnf);first|(with_reducible first|apply Wx|apply W6)|apply oi|(apply fi<;>intro h)|refine⟨_,rfl,?_⟩|((with_reducible show _=_);rfl))
   all_goals try((with_reducible refine Obl.mk ?_);exact KP)
   refine cg (gP) ?_
   repeat' ((conv=>whnf);first|(with_reducible first|apply Wx|apply W6)|apply oi|(apply fi<;>intro h)|refine cl hO ?_|refine⟨_,rfl,?_⟩|((with_reducible show _=_);rfl))
   all_goals try((with_reducible refine Obl.mk ?_);exact KP)
   all_goals try exact KX
   conv=>whnf
   refine⟨⟨(k+1,Q.2),by dsimp only;omega,h3,by dsimp only;rw[show 5 - (k+1)=m by omega];exact hr⟩,?_,by dsimp only;omega⟩
   repeat' ((conv=>whnf);first|(with_reducible first|apply Wx|apply W6)|apply oi|(apply fi<;>intro h)|refine⟨_,rfl,?_⟩|((with_reducible show _=_);rfl))
   all_goals try((with_reducible refine Obl.mk ?_);exact KP)
   all_goals try exact⟨KW⟩
 ·have hk:k=5:=by omega
  subst hk
  rw[show(5:Nat) - 5=0 from rfl,prog4]at hr
  subst hr
  repeat' ((conv=>whnf);first|(with_reducible apply W1;fail_if_success (with_reducible show Wo _ _ _ _ (Code.region 8 _ _) _ _))|(with_reducible first|apply W2|apply W3|apply W4|apply W5|apply W6|apply W7|apply W8|apply W9)|apply reg_inl|apply oi|(apply fi<;>intro h)|refine⟨_,rfl,?_⟩|((with_reducible show _=_);rfl))
  all_goals try((with_reducible refine Obl.mk ?_);exact KP)
  all_goals try exact KX
  conv=>whnf
  refine view_rule ⟨[(5,.r (.c (.t (.lst 3 [[.int .i64 0,.int .i64 1,.str []]]))))],[((0,0,0),some (.box [.t (.lst 1 (ci.b.map byteRow)),.t (.int .i64 ci.i),.t (.int .i64 ci.h)]))],[16,0]⟩ ?_ ?_ rfl ?_
  ·refine⟨.inr ⟨_,_,rfl,rfl,rfl,?_⟩,trivial⟩
   intro q hq;simp only[AC.ids,List.mem_cons,List.not_mem_nil,or_false]at hq;subst hq;rfl
  ·exact⟨.inr rfl,trivial⟩
  repeat' ((conv=>whnf);first|(with_reducible first|apply W1|apply W2)|apply reg_inl|refine oi ?_ ?_|refine⟨_,rfl,?_⟩|((with_reducible show _=_);rfl))
  all_goals try((with_reducible refine Obl.mk ?_);exact KP)
  conv=>whnf
  refine view_rule ⟨[(2,.r (.c (.t (.lst 4 [[.int .i64 0,.str [109,97,105,110],.lst 0 [],.lst 0 []],[.int .i64 2,.str [],.lst 0 [],.lst 3 [[.int .i64 0,.int .i64 1,.str []]]],[.int .i64 6,.str [],.lst 0 [],.lst 3 [[.int .i64 0,.int .i64 1,.str []]]],[.int .i64 7,.str [],.lst 0 [],.lst 0 []]]))))],[((0,0,0),some (.box [.t (.lst 1 (ci.b.map byteRow)),.t (.int .i64 ci.i),.t (.int .i64 ci.h)]))],[23,16,0]⟩ ?_ ?_ rfl ?_
  ·refine⟨.inr ⟨_,_,rfl,rfl,rfl,?_⟩,trivial⟩
   intro q hq;simp only[AC.ids,List.mem_cons,List.not_mem_nil,or_false]at hq;subst hq;rfl
  ·exact⟨.inr rfl,trivial⟩
  refine retree_rule 2 rfl em_fb ?_
  repeat' ((conv=>whnf);first|(with_reducible first|apply Wx|apply W6)|apply oi|(apply fi<;>intro h)|refine⟨_,rfl,?_⟩|((with_reducible show _=_);rfl))
  all_goals try((with_reducible refine Obl.mk ?_);exact KP)
end Go.Proofs.YtjmplnfiabmalaaGreat
namespace Go.Proofs.YtjmplnfiabmalaaGreat
open Go.Sim
set_option maxRecDepth 100000
set_option maxHeartbeats 4000000
abbrev vCode (code:List UInt8):AV:= .r (.c (.t (.lst 1 (code.map byteRow))))
theorem cur0_ok {code:List UInt8}(hl:code.length≤1048576):(⟨code,0,hashC code⟩:TCur).ok:=⟨by simp,hl⟩
theorem g_spec_DrawDebug (code:List UInt8)(hl:code.length≤1048576):∃(p:List TLine) (b:TBuild) (img:Nat),programOk p=true∧buildOk b=true∧img≤1∧smallT 1048576 (.lst 4 (p.map TLine.tr))∧
  SpecG Tryz.prog 12 [vCode code] [] (.tup [.c (.t (.lst 4 (p.map TLine.tr))),.agg (b.tr.map .t),.c (.t (.int .i64 (img:Int)))]) []:=by
 have g0:=g_spec_l01New code hl
 have g1:=g_spec_l04Program _ (cur0_ok hl)
 obtain⟨h1,h2,h3,h4,h5⟩:=prog4_ok 5 _ (cur0_ok hl)
 generalize prog4 5 ⟨code,0,hashC code⟩=R at *
 obtain⟨b,c2,hb,_,o2,g2⟩:=g_spec_l08Build R.2 h4
 obtain⟨x,c3,hx,_,o3,g3⟩:=g_spec_l01Once2 c2 o2
 refine⟨R.1,b,x,h1,hb,hx,prog_small h5 h2,?_⟩
 refine specG_of_Wo hΓ hmix Tryz.func12 rfl (by decide) rfl rfl ?_
 repeat' ((conv=>whnf);first|(with_reducible first|apply Wx|apply W6)|apply oi|(apply fi<;>intro h)|refine⟨_,rfl,?_⟩|((with_reducible show _=_);rfl))
 all_goals try((with_reducible refine Obl.mk ?_);exact KP)
 refine cg (g0) ?_
 repeat' ((conv=>whnf);first|(with_reducible first|apply Wx|apply W6)|apply oi|(apply fi<;>intro h)|refine⟨_,rfl,?_⟩|((with_reducible show _=_);rfl))
 all_goals try((with_reducible refine Obl.mk ?_);exact KP)
 refine cg (g1) ?_
 repeat' ((conv=>whnf);first|(with_reducible first|apply Wx|apply W6)|apply oi|(apply fi<;>intro h)|refine⟨_,rfl,?_⟩|((with_reducible show _=_);rfl))
 all_goals try((with_reducible refine Obl.mk ?_);exact KP)
 refine cg (g2) ?_
 repeat' ((conv=>whnf);first|(with_reducible first|apply Wx|apply W6)|apply oi|(apply fi<;>intro h)|refine⟨_,rfl,?_⟩|((with_reducible show _=_);rfl))
 all_goals try((with_reducible refine Obl.mk ?_);exact KP)
 refine cg (g3) ?_
 repeat' ((conv=>whnf);first|(with_reducible first|apply Wx|apply W6)|apply oi|(apply fi<;>intro h)|refine⟨_,rfl,?_⟩|((with_reducible show _=_);rfl))
 all_goals try((with_reducible refine Obl.mk ?_);exact KP)
theorem byte_rows {rows:List (List Tr)}(h:∀r∈rows,∃n,r=[.int .u8 n]∧(Lit.int .u8 n).wf=true):∃bs:List UInt8,rows=bs.map byteRow:=by
 obtain⟨bs,hb,_⟩:=rows_map (g:=byteRow) (Q:=fun _=>True) (rows:=rows) fun r hr=>by
  obtain⟨n,rfl,hw⟩:=h r hr
  have h1:IntKind.u8.min≤n∧n≤IntKind.u8.max:=by simpa [Lit.wf]using hw
  have h2:0≤n∧n≤255:=h1
  refine⟨UInt8.ofNat n.toNat,?_,trivial⟩
  rw[byteRow,show(UInt8.ofNat n.toNat).toNat=n.toNat by simp;omega,Int.toNat_of_nonneg h2.1]
 exact⟨bs,hb⟩
end Go.Proofs.YtjmplnfiabmalaaGreat
namespace Go.Proofs.YtjmplnfiabmalaaGreat
noncomputable section
open Go.Sim
set_option maxRecDepth 100000
set_option maxHeartbeats 4000000
structure Cx where
 p:List TLine
 b:TBuild
 framed:Bool
 words:Int
 args:Int
structure Sc where
 f:Nat
 chain:List Int
 locals:List (List UInt8)
 first:Int
 outer:Bool
structure Gs where
 items:List TItem
 most:Int
 start:Bool
def mkItem (C:Cx)(s:Gs)(depth code arg line:Int)(chain:List Int):TItem:=⟨⟨code,arg⟩,line,s.start,chain,if C.framed=true∧0 < s.items.length then 0 else depth,C.framed && decide (0 < s.items.length)⟩
def emitG (C:Cx)(s:Gs)(depth code arg line:Int)(chain:List Int):Gs:=⟨s.items++[mkItem C s depth code arg line chain],s.most,false⟩
def isArg (C:Cx)(x:Sc)(i:Int):Bool:=x.outer && decide (i < C.args)
def aboveK (C:Cx)(x:Sc)(i:Int):Int:=if x.outer=true then i - C.args else x.first+i
def placeC (C:Cx)(store:Bool):Int:=(if C.framed=true then 1 else 3)+(if store=true then 1 else 0)
def placeA (C:Cx)(x:Sc)(depth i:Int):Int:=
 if C.framed=true then(if isArg C x i=true then 1+(C.args - i)else -1 - aboveK C x i)
 else(if isArg C x i=true then depth+(C.args - i)else depth - 1 - aboveK C x i)
def loadG (C:Cx)(x:Sc)(s:Gs)(depth i line:Int):Gs:=emitG C s depth (placeC C false) (placeA C x depth i) line x.chain
def storeG (C:Cx)(x:Sc)(s:Gs)(depth i line:Int)(chain:List Int):Gs:=emitG C s depth (placeC C true) (placeA C x depth i) line chain
def storesG (C:Cx)(y:Sc)(chain:List Int)(line:Int):Nat→Int→Gs→Gs
 | 0,_,s=>s
 | n+1,d,s=>storesG C y chain line n (d - 1) (storeG C y s d n line chain)
def zerosG (C:Cx)(y:Sc)(chain:List Int)(line d:Int):Nat→Nat→Gs→Gs
 | 0,_,s=>s
 | n+1,i,s=>zerosG C y chain line d n (i+1) (storeG C y (emitG C s d 0 0 line chain) (d+1) i line chain)
def setArg (l:List TItem)(j:Int)(v:Int):List TItem:=if 0≤j then(match l[j.toNat]? with
 | some x=>l.set j.toNat ⟨⟨x.fOp.fCode,v⟩,x.fLine,x.fStart,x.fChain,x.fDepth,x.fEntered⟩
 | none=>l)else l
def patchL (l:List TItem)(v:Int):List Int→List TItem
 | []=>l
 | j::js=>patchL (setArg l j v) v js
def numOf (p:List TLine)(g:Nat):Nat:=((p.take g).filter fun x=>x.fKind==0).length
def replB (C:Cx)(inside:List Nat)(g:Nat)(n:Nat):Bool:=decide ((inside.length:Int)≤C.b.fInline) && (decide (endOf C.p (g:Int) - g≤9) && (decide (n < 200) && !inside.contains g))
def finG (C:Cx)(rep:Sc→List Nat→Nat→Nat→Int→Gs→Gs)(x:Sc)(inside:List Nat)(line:Nat)(t:TTok)(d:Int)(s:Gs):Gs:=
 if t.fKind=0 then emitG C s d 0 t.fNum line x.chain
 else if t.fKind=1 then loadG C x s d (idxOf x.locals t.fName) line
 else if t.fKind=7 then(match findN C.p 0 t.fName with
  | some g=>if replB C inside g s.items.length=true then rep x inside line g d s else emitG C s d 12 (numOf C.p g) line x.chain
  | none=>s)
 else emitG C s d (5+t.fKind - 2) 0 line x.chain
mutual
def genE (C:Cx)(rep:Sc→List Nat→Nat→Nat→Int→Gs→Gs)(x:Sc)(inside:List Nat)(line:Nat):Ex→Int→Gs→Gs
 | .node t es,d,s=>finG C rep x inside line t (d+es.length) (genEs C rep x inside line es d s)
def genEs (C:Cx)(rep:Sc→List Nat→Nat→Nat→Int→Gs→Gs)(x:Sc)(inside:List Nat)(line:Nat):List Ex→Int→Gs→Gs
 | [],_,s=>s
 | a::es,d,s=>genEs C rep x inside line es (d+1) (genE C rep x inside line a d s)
end
def topOf (C:Cx)(x:Sc):Int:=if x.outer=true then(x.locals.length:Int) - C.args else x.first+x.locals.length
def argsN (p:List TLine)(g:Nat):Nat:=match p[g]? with|some l=>l.fArgs.length|none=>0
def inSc (C:Cx)(x:Sc)(line g:Nat):Sc:=⟨g,x.chain++[(line:Int)],localsOf C.p (g:Int),topOf C x,false⟩
def preG (C:Cx)(x:Sc)(line g:Nat)(d:Int)(s:Gs):Gs:=
 zerosG C (inSc C x line g) x.chain line (d - argsN C.p g) ((localsOf C.p (g:Int)).length - argsN C.p g) (argsN C.p g)
  (storesG C (inSc C x line g) x.chain line (argsN C.p g) d ⟨s.items,max s.most (topOf C x+(localsOf C.p (g:Int)).length),s.start⟩)
def spaceG (C:Cx)(x:Sc)(line:Nat)(d:Int)(s:Gs):Gs:=if s.start=true then emitG C s d 15 0 line x.chain else s
def replG (C:Cx)(lines:Sc→List Nat→Int→Gs→Gs×List Int)(x:Sc)(inside:List Nat)(line g:Nat)(d:Int)(s:Gs):Gs:=
 let r:=lines (inSc C x line g) (inside++[g]) (d - argsN C.p g) (spaceG C x line (d - argsN C.p g) (preG C x line g d s))
 ⟨patchL r.1.items r.1.items.length r.2,r.1.most,r.1.start⟩
def ownN (p:List TLine)(k:Nat):Nat→Option Nat
 | 0=>none
 | n+1=>if endAt p n=some k∨elseAt p n=some k then some n else ownN p k n
def ownOf (p:List TLine)(k:Nat):Nat:=(ownN p k p.length).getD 0
def kindAt (p:List TLine)(k:Nat):Int:=match p[k]? with|some x=>x.fKind|none=> -1
structure Ls where
 g:Gs
 heads:List Int
 pos:List Int
 lv:List Int
def exL (l:List TTok):Ex:=if h:exprOk l=true then Classical.choose (exprOk_parse h)else .node ⟨0,0,[]⟩ []
theorem exL_ok {l:List TTok}(h:exprOk l=true):(exL l).ok∧l=(exL l).toks:=by
 rw[exL,dif_pos h]
 exact Classical.choose_spec (exprOk_parse h)
def atL (l:List Int)(k:Nat):Int:=l[k]?.getD 0
def leaveG (C:Cx)(x:Sc)(k:Nat)(last:Bool)(d:Int)(L:Ls):Ls:=
 if x.outer=true then(if C.framed=true then{L with g:=emitG C L.g d 14 C.args k x.chain} else{L with g:=emitG C L.g d 16 (C.args+16 * C.words) k x.chain})
 else if last=true then L
 else{L with g:=emitG C L.g d 10 0 k x.chain,lv:=L.lv++[(L.g.items.length:Int)]}
def stepA (C:Cx)(rep:Sc→List Nat→Nat→Nat→Int→Gs→Gs)(x:Sc)(inside:List Nat)(base:Int)(k:Nat)(ln:TLine)(L:Ls):Ls:=
 if ln.fKind=4 then
  let g:=emitG C L.g base 10 0 k x.chain
  {L with g:=⟨setArg g.items (atL L.pos (ownOf C.p k)) g.items.length,g.most,g.start⟩,pos:=L.pos.set k L.g.items.length}
 else if ln.fKind=7 then
  if ownOf C.p k=x.f then leaveG C x k true (base+1) {L with g:=emitG C L.g base 0 0 k x.chain}
  else if kindAt C.p (ownOf C.p k)=5 then{L with g:=emitG C L.g base 10 (atL L.heads (ownOf C.p k)) k x.chain}
  else L
 else
  let L1:Ls:={L with g:=genE C rep x inside k (exL ln.fExpr) base ⟨L.g.items,L.g.most,true⟩,heads:=L.heads.set k L.g.items.length}
  if ln.fKind=1 then{L1 with g:=storeG C x L1.g (base+1) (idxOf x.locals ln.fName) k x.chain}
  else if ln.fKind=2 then{L1 with g:=emitG C L1.g (base+1) 17 0 k x.chain}
  else if ln.fKind=6 then leaveG C x k false (base+1) L1
  else{L1 with g:=emitG C L1.g (base+1) 11 0 k x.chain,pos:=L1.pos.set k L1.g.items.length}
def exitAt (p:List TLine)(k:Nat):Nat:=match elseAt p (ownOf p k)with|some j=>j|none=>ownOf p k
def stepB (C:Cx)(x:Sc)(k:Nat)(ln:TLine)(L:Ls):Ls:=
 if ln.fKind=7∧ownOf C.p k≠x.f then{L with g:=⟨setArg L.g.items (atL L.pos (exitAt C.p k)) L.g.items.length,L.g.most,L.g.start⟩} else L
def runL (C:Cx)(rep:Sc→List Nat→Nat→Nat→Int→Gs→Gs)(x:Sc)(inside:List Nat)(base:Int):Nat→Nat→Ls→Ls
 | 0,_,L=>L
 | n+1,k,L=>match C.p[k]? with
  | some ln=>runL C rep x inside base n (k+1) (stepB C x k ln (stepA C rep x inside base k ln L))
  | none=>L
def startL (C:Cx)(s:Gs):Ls:=⟨s,List.replicate C.p.length 0,List.replicate C.p.length 0,[]⟩
def endL' (p:List TLine)(f:Nat):Nat:=(endAt p f).getD 0
def linesG (C:Cx)(rep:Sc→List Nat→Nat→Nat→Int→Gs→Gs)(x:Sc)(inside:List Nat)(base:Int)(s:Gs):Gs×List Int:=
 let L:=runL C rep x inside base (endL' C.p x.f - x.f) (x.f+1) (startL C s)
 (L.g,L.lv)
def repN (C:Cx):Nat→Sc→List Nat→Nat→Nat→Int→Gs→Gs
 | 0=>fun _ _ _ _ _ s=>s
 | n+1=>replG C (linesG C (repN C n))
def headG (C:Cx)(f:Nat):Gs:=emitG C ⟨[],(localsOf C.p (f:Int)).length - C.args,false⟩ 0 (if C.framed=true then 13 else 15) C.words f []
def outerSc (C:Cx)(f:Nat):Sc:=⟨f,[],localsOf C.p (f:Int),0,true⟩
def compG (C:Cx)(f:Nat):Gs:=(linesG C (repN C C.b.fInline.toNat) (outerSc C f) [f] C.words (headG C f)).1
end
end Go.Proofs.YtjmplnfiabmalaaGreat
namespace Go.Proofs.YtjmplnfiabmalaaGreat
open Go.Sim
set_option maxRecDepth 100000
set_option maxHeartbeats 4000000
theorem lt_of_get {α:Type}{l:List α}{k:Nat}{x:α}(h:l[k]?=some x):k < l.length:=by
 rcases Nat.lt_or_ge k l.length with h'|h'
 ·exact h'
 ·rw[List.getElem?_eq_none h']at h;cases h
theorem endAt_inj {l:List TLine}{i j e:Nat}(hi:endAt l i=some e)(hj:endAt l j=some e):i=j:=by
 have key:∀{i j:Nat},endAt l i=some e→endAt l j=some e→i < j→False:=by
  intro i j hi hj hlt
  obtain⟨x,hx,ho,_,h1,_⟩:=endAt_some hj
  obtain⟨m,hm,_,h2⟩:=endAt_in hi hlt h1 hx ho
  rw[hj]at hm
  injection hm with hm
  omega
 rcases Nat.lt_trichotomy i j with h|h|h
 ·exact(key hi hj h).elim
 ·exact h
 ·exact(key hj hi h).elim
theorem elseN_out {l:List TLine}{e:Nat}:∀{n i j:Nat},elseN l e n i=some j→∀k x m,i≤k→k < j→l[k]?=some x→(x.fKind=3∨x.fKind=5)→endAt l k=some m→m < j
 | 0,_,_,h=>by rw[elseN]at h;cases h
 | n+1,i,j,h=>by
  intro k x m h1 h2 hx h3 hm
  rw[elseN]at h
  split at h
  ·split at h
   ·rename_i y hy
    split at h
    ·injection h with h;omega
    ·split at h
     ·split at h
      ·rename_i m' hm'
       have hin:=elseN_in h
       obtain⟨_,_,_,_,g1,_⟩:=endAt_some hm'
       by_cases hk:k=i
       ·subst hk
        rw[hm']at hm
        injection hm with hm
        omega
       ·by_cases hk2:k≤m'
        ·by_cases hk3:k=m'
         ·subst hk3
          obtain⟨z,hz,h7⟩:=endAt_kind hm'
          rw[hx]at hz
          injection hz with hz
          subst hz
          omega
         ·obtain⟨m2,hm2,_,g2⟩:=endAt_in hm' (by omega) (by omega) hx (by rw[opensK_iff];omega)
          rw[hm]at hm2
          injection hm2 with hm2
          omega
        ·exact elseN_out h k x m (by omega) h2 hx h3 hm
      ·rename_i hno
       by_cases hk:k=i
       ·subst hk
        rw[hno]at hm
        cases hm
       ·exact elseN_out h k x m (by omega) h2 hx h3 hm
     ·by_cases hk:k=i
      ·subst hk
       rw[hx]at hy
       injection hy with hy
       subst hy
       rename_i hne
       exact absurd h3 hne
      ·exact elseN_out h k x m (by omega) h2 hx h3 hm
   ·cases h
  ·cases h
theorem elseAt_inj {l:List TLine}{i j k:Nat}(hi:elseAt l i=some k)(hj:elseAt l j=some k):i=j:=by
 have key:∀{i j:Nat},elseAt l i=some k→elseAt l j=some k→i < j→False:=by
  intro i j hi hj hlt
  obtain⟨y,ej,hy,h3,hej,h4,h5,_⟩:=elseAt_some hj
  unfold elseAt at hi
  split at hi
  ·split at hi
   ·have:=elseN_out hi j y ej (by omega) h4 hy (.inl h3) hej
    omega
   ·cases hi
  ·cases hi
 rcases Nat.lt_trichotomy i j with h|h|h
 ·exact(key hi hj h).elim
 ·exact h
 ·exact(key hj hi h).elim
theorem ownN_some {p:List TLine}{k i:Nat}:∀{n:Nat},ownN p k n=some i→i < n∧(endAt p i=some k∨elseAt p i=some k)
 | 0,h=>by rw[ownN]at h;cases h
 | n+1,h=>by
  rw[ownN]at h
  split at h
  ·injection h with h;subst h;exact⟨by omega,by assumption⟩
  ·have:=ownN_some h;exact⟨by omega,this.2⟩
theorem ownN_has {p:List TLine}{k i:Nat}(hi:endAt p i=some k∨elseAt p i=some k):∀{n:Nat},i < n→∃j,ownN p k n=some j
 | 0,h=>by omega
 | n+1,h=>by
  rw[ownN]
  split
  ·exact⟨_,rfl⟩
  ·by_cases he:i=n
   ·subst he;exact absurd hi (by assumption)
   ·exact ownN_has hi (by omega)
theorem own_end {p:List TLine}{k i:Nat}(h:endAt p i=some k):ownOf p k=i:=by
 obtain⟨x,hx,_,_,_,_⟩:=endAt_some h
 obtain⟨j,hj⟩:=ownN_has (.inl h) (lt_of_get hx)
 rw[ownOf,hj]
 obtain⟨_,h1|h1⟩:=ownN_some hj
 ·exact endAt_inj h1 h
 ·obtain⟨_,_,_,_,_,_,_,y,hy,h4⟩:=elseAt_some h1
  obtain⟨z,hz,h7⟩:=endAt_kind h
  rw[hy]at hz
  injection hz with hz
  subst hz
  omega
theorem own_else {p:List TLine}{k i:Nat}(h:elseAt p i=some k):ownOf p k=i:=by
 obtain⟨x,e,hx,_,_,_,_,y,hy,h4⟩:=elseAt_some h
 obtain⟨j,hj⟩:=ownN_has (.inr h) (lt_of_get hx)
 rw[ownOf,hj]
 obtain⟨_,h1|h1⟩:=ownN_some hj
 ·obtain⟨z,hz,h7⟩:=endAt_kind h1
  rw[hy]at hz
  injection hz with hz
  subst hz
  omega
 ·exact elseAt_inj h1 h
theorem end_closes {l:List TLine}{i:Nat}{x:TLine}(hx:l[i]?=some x)(h7:x.fKind=7):∀(n s o e:Nat),i - s≤n→s≤i→1≤o→endN (l.drop s) s o=some e→i≤e→(∃k,s≤k∧k < i∧endAt l k=some i)∨∃j,1≤j∧j≤o∧endN (l.drop s) s j=some i
 | n,s,o,e,hn,hs,ho,h,hi=>by
  have hno:¬opensK x.fKind=true:=by rw[opensK_iff];omega
  by_cases he:s=i
  ·subst he
   exact .inr ⟨1,Nat.le_refl _,ho,by rw[endN_at hx,if_neg hno,if_pos h7,if_pos rfl]⟩
  obtain⟨m,rfl⟩:∃m,n=m+1:=⟨n - 1,by omega⟩
  have hl:=endN_lt h
  obtain⟨y,hy⟩:=get_of_lt (l:=l) (k:=s) (by omega)
  rw[endN_at hy]at h
  by_cases hop:opensK y.fKind=true
  ·rw[if_pos hop]at h
   rcases end_closes hx h7 m (s+1) (o+1) e (by omega) (by omega) (by omega) h hi with⟨k,h1,h2,h3⟩|⟨j,h1,h2,h3⟩
   ·exact .inl ⟨k,by omega,h2,h3⟩
   ·by_cases hj:j=1
    ·subst hj
     exact .inl ⟨s,Nat.le_refl _,by omega,by rw[endAt_of hy hop];exact h3⟩
    ·exact .inr ⟨j - 1,by omega,by omega,by rw[endN_at hy,if_pos hop,show j - 1+1=j by omega];exact h3⟩
  ·rw[if_neg hop]at h
   by_cases h7y:y.fKind=7
   ·rw[if_pos h7y]at h
    by_cases h1o:o=1
    ·rw[if_pos h1o]at h
     injection h with h
     omega
    ·rw[if_neg h1o]at h
     rcases end_closes hx h7 m (s+1) (o - 1) e (by omega) (by omega) (by omega) h hi with⟨k,h1,h2,h3⟩|⟨j,h1,h2,h3⟩
     ·exact .inl ⟨k,by omega,h2,h3⟩
     ·exact .inr ⟨j+1,by omega,by omega,by rw[endN_at hy,if_neg hop,if_pos h7y,if_neg (by omega),show j+1 - 1=j by omega];exact h3⟩
   ·rw[if_neg h7y]at h
    rcases end_closes hx h7 m (s+1) o e (by omega) (by omega) ho h hi with⟨k,h1,h2,h3⟩|⟨j,h1,h2,h3⟩
    ·exact .inl ⟨k,by omega,h2,h3⟩
    ·exact .inr ⟨j,h1,h2,by rw[endN_at hy,if_neg hop,if_neg h7y];exact h3⟩
structure CxOk (C:Cx):Prop where
 len:C.p.length≤60
 small:smallT 1048576 (.lst 4 (C.p.map TLine.tr))
 line:∀(k:Nat) (ln:TLine),C.p[k]?=some ln→0≤ln.fKind∧ln.fKind≤7∧ln.fArgs.length≤4∧ln.fExpr.length≤20∧((ln.fKind=1∨ln.fKind=2∨ln.fKind=3∨ln.fKind=5∨ln.fKind=6)→exprOk ln.fExpr=true)
 fn:∀(g:Nat) (ln:TLine),C.p[g]?=some ln→ln.fKind=0→∃e,endAt C.p g=some e∧(localsOf C.p (g:Int)).length≤8∧ln.fArgs.length≤(localsOf C.p (g:Int)).length∧∀(k:Nat) (y:TLine),g < k→k < e→C.p[k]?=some y→y.fKind≠0∧(∀t∈y.fExpr,t.fKind=7→∃f,findN C.p 0 t.fName=some f∧(argsN C.p f:Int)=t.fNum)∧(y.fKind=4→∃i,g≤i∧i < k∧elseAt C.p i=some k)
 args:0≤C.args∧C.args≤4
 words:0≤C.words∧C.words≤1000
 inl:0≤C.b.fInline∧C.b.fInline≤3
structure ScOk (C:Cx) (x:Sc) (ins:List Nat):Prop where
 fn:∃ln,C.p[x.f]?=some ln∧ln.fKind=0
 loc:x.locals=localsOf C.p (x.f:Int)
 first:0≤x.first∧x.first≤8 * ins.length
 chain:x.chain.length+1=ins.length
 out:x.outer=true↔x.chain=[]
 args:x.outer=true→C.args=argsN C.p x.f
 mem:ins.getLast?=some x.f
section
variable {C:Cx} {x:Sc} {ins:List Nat}
theorem CxOk.argsN (h:CxOk C)(g:Nat):argsN C.p g≤4:=by
 unfold Go.Proofs.YtjmplnfiabmalaaGreat.argsN
 split
 ·rename_i l hl
  have:=h.line _ _ hl
  omega
 ·omega
theorem ScOk.endE (hC:CxOk C)(hx:ScOk C x ins):∃e,endAt C.p x.f=some e∧x.f < e∧e < C.p.length∧endL' C.p x.f=e∧x.locals.length≤8:=by
 obtain⟨ln,h1,h2⟩:=hx.fn
 obtain⟨e,h3,h4,h5,_⟩:=hC.fn _ _ h1 h2
 obtain⟨_,_,_,_,h6,h7⟩:=endAt_some h3
 exact⟨e,h3,h6,h7,by rw[endL',h3];rfl,by rw[hx.loc];exact h4⟩
theorem ScOk.argLe (hC:CxOk C)(hx:ScOk C x ins):argsN C.p x.f≤x.locals.length:=by
 obtain⟨ln,h1,h2⟩:=hx.fn
 obtain⟨e,h3,h4,h5,_⟩:=hC.fn _ _ h1 h2
 rw[hx.loc,Go.Proofs.YtjmplnfiabmalaaGreat.argsN,h1]
 exact h5
theorem ScOk.own7 (hC:CxOk C)(hx:ScOk C x ins){e k:Nat}{ln:TLine}(he:endAt C.p x.f=some e)(h1:x.f < k)(h2:k≤e)(hk:C.p[k]?=some ln)(h7:ln.fKind=7):
  endAt C.p (ownOf C.p k)=some k∧((k=e∧ownOf C.p k=x.f)∨(k < e∧x.f < ownOf C.p k∧ownOf C.p k < k∧∃y,C.p[ownOf C.p k]?=some y∧(y.fKind=3∨y.fKind=5))):=by
 obtain⟨l0,g1,g2⟩:=hx.fn
 obtain⟨e',g3,_,_,g4⟩:=hC.fn _ _ g1 g2
 rw[he]at g3
 injection g3 with g3
 subst g3
 by_cases hke:k=e
 ·subst hke
  rw[own_end he]
  exact⟨he,.inl ⟨rfl,rfl⟩⟩
 ·obtain⟨z,hz,hzo,hzn,_,_⟩:=endAt_some he
  rcases end_closes hk h7 _ (x.f+1) 1 e (Nat.le_refl _) (by omega) (Nat.le_refl _) hzn h2 with⟨i,k1,k2,k3⟩|⟨j,k1,k2,k3⟩
  ·rw[own_end k3]
   obtain⟨y,hy,hyo,_⟩:=endAt_some k3
   have:=(g4 i y (by omega) (by omega) hy).1
   rw[opensK_iff]at hyo
   exact⟨k3,.inr ⟨by omega,by omega,k2,y,hy,by omega⟩⟩
  ·have:j=1:=by omega
   subst this
   rw[hzn]at k3
   injection k3 with k3
   omega
theorem ScOk.own4 (hC:CxOk C)(hx:ScOk C x ins){e k:Nat}{ln:TLine}(he:endAt C.p x.f=some e)(h1:x.f < k)(h2:k≤e)(hk:C.p[k]?=some ln)(h4:ln.fKind=4):
  elseAt C.p (ownOf C.p k)=some k∧x.f < ownOf C.p k∧ownOf C.p k < k∧k < e:=by
 obtain⟨l0,g1,g2⟩:=hx.fn
 obtain⟨e',g3,_,_,g4⟩:=hC.fn _ _ g1 g2
 rw[he]at g3
 injection g3 with g3
 subst g3
 have hke:k≠e:=fun h=>by
  subst h
  obtain⟨y,hy,h7⟩:=endAt_kind he
  rw[hk]at hy
  injection hy with hy
  subst hy
  omega
 obtain⟨i,k1,k2,k3⟩:=(g4 k ln h1 (by omega) hk).2.2 h4
 rw[own_else k3]
 obtain⟨y,_,hy,h3,_⟩:=elseAt_some k3
 have:i≠x.f:=fun h=>by
  subst h
  rw[g1]at hy
  injection hy with hy
  subst hy
  omega
 exact⟨k3,by omega,k2,by omega⟩
end
end Go.Proofs.YtjmplnfiabmalaaGreat
namespace Go.Proofs.YtjmplnfiabmalaaGreat
open Go.Sim
set_option maxRecDepth 100000
set_option maxHeartbeats 4000000
structure Grow (n:Nat) (s s':Gs):Prop where
 ge:s.items.length≤s'.items.length
 le:s'.items.length≤s.items.length+n
 most:s.most≤s'.most
 cap:s.most≤1000→s'.most≤1000
theorem Grow.refl (s:Gs):Grow 0 s s:=⟨Nat.le_refl _,Nat.le_refl _,Int.le_refl _,id⟩
theorem Grow.trans {n m:Nat}{a b c:Gs}(h:Grow n a b)(h':Grow m b c):Grow (n+m) a c:=⟨Nat.le_trans h.ge h'.ge,by have:=h.le;have:=h'.le;omega,Int.le_trans h.most h'.most,fun x=>h'.cap (h.cap x)⟩
theorem Grow.mono {n m:Nat}{a b:Gs}(h:Grow n a b)(hn:n≤m):Grow m a b:=⟨h.ge,by have:=h.le;omega,h.most,h.cap⟩
theorem emitG_grow (C:Cx)(s:Gs)(d code arg line:Int)(chain:List Int):Grow 1 s (emitG C s d code arg line chain):=⟨by simp[emitG],by simp[emitG],Int.le_refl _,id⟩
theorem setArg_len' (l:List TItem)(j v:Int):(setArg l j v).length=l.length:=by
 unfold setArg
 split
 ·split
  ·rw[List.length_set]
  ·rfl
 ·rfl
theorem patchL_len (v:Int):∀(js:List Int) (l:List TItem),(patchL l v js).length=l.length
 | [],_=>rfl
 | j::js,l=>by rw[patchL,patchL_len v js,setArg_len']
def tokC:Nat→Nat
 | 0=>1
 | n+1=>30+9 * (20 * tokC n+3)
theorem tokC_pos:∀n,1≤tokC n
 | 0=>Nat.le_refl _
 | n+1=>by rw[tokC];omega
theorem tokC_le:∀{n m:Nat},n≤m→tokC n≤tokC m:=by
 intro n m h
 induction h with
 | refl=>exact Nat.le_refl _
 | step _ ih=>rw[tokC];omega
theorem tokC_3 {n:Nat}(h:n≤3):tokC n≤8679837:=Nat.le_trans (tokC_le h) (by simp[tokC])
def isFun (C:Cx)(g:Nat):Prop:=∃ln,C.p[g]?=some ln∧ln.fKind=0
section
variable {C:Cx} {x:Sc} {ins:List Nat} {rep:Sc→List Nat→Nat→Nat→Int→Gs→Gs} {line:Nat} {lev:Nat}
theorem storesG_grow (y:Sc)(chain:List Int)(line:Int):∀(n:Nat) (d:Int) (s:Gs),Grow n s (storesG C y chain line n d s)
 | 0,d,s=>Grow.refl s
 | n+1,d,s=>by
  rw[storesG]
  exact((emitG_grow C s d _ _ _ _).trans (storesG_grow y chain line n (d - 1) _)).mono (by omega)
theorem zerosG_grow (y:Sc)(chain:List Int)(line d:Int):∀(n i:Nat) (s:Gs),Grow (2 * n) s (zerosG C y chain line d n i s)
 | 0,i,s=>Grow.refl s
 | n+1,i,s=>by
  rw[zerosG]
  exact(((emitG_grow C s d _ _ _ _).trans (emitG_grow C _ (d+1) _ _ _ _)).trans (zerosG_grow y chain line d n (i+1) _)).mono (by omega)
theorem finG_grow (hrep:∀g d s,isFun C g→replB C ins g s.items.length=true→Grow (tokC lev) s (rep x ins line g d s))(t:TTok)(d:Int)(s:Gs):Grow (tokC lev) s (finG C rep x ins line t d s):=by
 have hp:=tokC_pos lev
 unfold finG
 split
 ·exact(emitG_grow ..).mono hp
 ·split
  ·exact(emitG_grow ..).mono hp
  ·split
   ·split
    ·rename_i g hg
     split
     ·rename_i hr
      obtain⟨_,ln,h1,h2,_⟩:=find_some hg
      exact hrep g d s ⟨ln,h1,h2⟩ hr
     ·exact(emitG_grow ..).mono hp
    ·exact(Grow.refl s).mono (by omega)
   ·exact(emitG_grow ..).mono hp
mutual
theorem genE_grow (hrep:∀g d s,isFun C g→replB C ins g s.items.length=true→Grow (tokC lev) s (rep x ins line g d s)):∀(e:Ex) (d:Int) (s:Gs),Grow (e.toks.length * tokC lev) s (genE C rep x ins line e d s)
 | .node t es,d,s=>by
  rw[genE,Ex.toks,List.length_cons]
  exact((genEs_grow hrep es d s).trans (finG_grow hrep t _ _)).mono (by rw[Nat.add_mul];omega)
theorem genEs_grow (hrep:∀g d s,isFun C g→replB C ins g s.items.length=true→Grow (tokC lev) s (rep x ins line g d s)):∀(es:List Ex) (d:Int) (s:Gs),Grow ((exToks es).length * tokC lev) s (genEs C rep x ins line es d s)
 | [],d,s=>by rw[genEs,exToks];exact(Grow.refl s).mono (by omega)
 | a::es,d,s=>by
  rw[genEs,exToks,List.length_append,Nat.add_mul]
  exact(genE_grow hrep a d s).trans (genEs_grow hrep es (d+1) _)
end
theorem genEs_take (C:Cx)(rep:Sc→List Nat→Nat→Nat→Int→Gs→Gs)(x:Sc)(ins:List Nat)(line:Nat):∀{es:List Ex} {j:Nat} {a:Ex} (d:Int) (s:Gs),es[j]?=some a→genEs C rep x ins line (es.take (j+1)) d s=genE C rep x ins line a (d+j) (genEs C rep x ins line (es.take j) d s)
 | [],_,_,_,_,h=>by simp at h
 | b::es,0,a,d,s,h=>by
  rw[List.getElem?_cons_zero]at h
  injection h with h
  subst h
  simp[genEs]
 | b::es,j+1,a,d,s,h=>by
  rw[List.getElem?_cons_succ]at h
  rw[List.take_succ_cons,genEs,genEs_take C rep x ins line (d+1) _ h,List.take_succ_cons,genEs]
  congr 1
  omega
theorem exToks_take_get:∀{es:List Ex} {j:Nat} {a:Ex},es[j]?=some a→(exToks (es.take (j+1))).length=(exToks (es.take j)).length+a.toks.length
 | [],_,_,h=>by simp at h
 | b::es,0,a,h=>by
  rw[List.getElem?_cons_zero]at h
  injection h with h
  subst h
  simp[exToks]
 | b::es,j+1,a,h=>by
  rw[List.getElem?_cons_succ]at h
  rw[List.take_succ_cons,exToks,List.length_append,exToks_take_get h,List.take_succ_cons,exToks,List.length_append]
  omega
theorem inSc_ok (hC:CxOk C)(hx:ScOk C x ins)(line:Nat){g:Nat}(hg:isFun C g):ScOk C (inSc C x line g) (ins++[g]):=by
 obtain⟨e,_,_,_,_,h8⟩:=hx.endE hC
 have hle:=hx.argLe hC
 refine⟨hg,rfl,?_,?_,?_,?_,by simp[inSc]⟩
 ·simp only[inSc,topOf,List.length_append,List.length_cons,List.length_nil]
  have:=hx.first
  split
  ·rename_i ho
   rw[hx.args ho]
   omega
  ·omega
 ·simp only[inSc,List.length_append,List.length_cons,List.length_nil]
  have:=hx.chain
  omega
 ·simp[inSc]
 ·simp[inSc]
theorem topOf_le (hC:CxOk C)(hx:ScOk C x ins):0≤topOf C x∧topOf C x≤8 * ins.length+8:=by
 obtain⟨e,_,_,_,_,h8⟩:=hx.endE hC
 have hle:=hx.argLe hC
 have:=hx.first
 unfold topOf
 split
 ·rename_i ho
  rw[hx.args ho]
  omega
 ·omega
theorem isFun_locals (hC:CxOk C){g:Nat}(hg:isFun C g):(localsOf C.p (g:Int)).length≤8∧argsN C.p g≤(localsOf C.p (g:Int)).length:=by
 obtain⟨ln,h1,h2⟩:=hg
 obtain⟨e,h3,h4,h5,_⟩:=hC.fn _ _ h1 h2
 rw[argsN,h1]
 exact⟨h4,h5⟩
theorem preG_grow (hC:CxOk C)(hx:ScOk C x ins)(hi:ins.length≤10)(line:Nat){g:Nat}(hg:isFun C g)(d:Int)(s:Gs):Grow 16 s (preG C x line g d s):=by
 obtain⟨h1,h2⟩:=isFun_locals hC hg
 have ht:=topOf_le hC hx
 have h0:Grow 0 s ⟨s.items,max s.most (topOf C x+(localsOf C.p (g:Int)).length),s.start⟩:=⟨Nat.le_refl _,Nat.le_refl _,by dsimp only;omega,fun h=>by dsimp only;omega⟩
 unfold preG
 exact((h0.trans (storesG_grow _ _ _ _ _ _)).trans (zerosG_grow _ _ _ _ _ _ _)).mono (by omega)
theorem spaceG_grow (x:Sc)(line:Nat)(d:Int)(s:Gs):Grow 1 s (spaceG C x line d s):=by
 unfold spaceG
 split
 ·exact emitG_grow ..
 ·exact(Grow.refl s).mono (by omega)
theorem leaveG_grow (x:Sc)(k:Nat)(last:Bool)(d:Int)(L:Ls):Grow 1 L.g (leaveG C x k last d L).g:=by
 unfold leaveG
 split
 ·split
  ·exact emitG_grow ..
  ·exact emitG_grow ..
 ·split
  ·exact(Grow.refl _).mono (by omega)
  ·exact emitG_grow ..
theorem Grow.set {n:Nat}{a b:Gs}{l:List TItem}(h:Grow n a b)(hl:l.length=b.items.length):Grow n a ⟨l,b.most,b.start⟩:=⟨by have:=h.ge;simp only[hl];omega,by have:=h.le;simp only[hl];omega,h.most,h.cap⟩
theorem genE_grow' (hrep:∀g d s,isFun C g→replB C ins g s.items.length=true→Grow (tokC lev) s (rep x ins line g d s))(hC:CxOk C){k:Nat}{ln:TLine}(hk:C.p[k]?=some ln)(he:exprOk ln.fExpr=true)(d:Int)(s:Gs):Grow (20 * tokC lev) s (genE C rep x ins line (exL ln.fExpr) d s):=by
 have h1:=(exL_ok he).2
 have h2:=(hC.line _ _ hk).2.2.2.1
 rw[h1]at h2
 exact(genE_grow hrep _ d s).mono (Nat.mul_le_mul_right _ h2)
theorem stepA_grow (hrep:∀line g d s,isFun C g→replB C ins g s.items.length=true→Grow (tokC lev) s (rep x ins line g d s))(hC:CxOk C){k:Nat}{ln:TLine}(hk:C.p[k]?=some ln)(h0:ln.fKind≠0)(base:Int)(L:Ls):Grow (20 * tokC lev+2) L.g (stepA C rep x ins base k ln L).g:=by
 unfold stepA
 split
 ·exact((emitG_grow ..).set (setArg_len' _ _ _)).mono (by omega)
 ·split
  ·split
   ·refine Grow.mono (n:=1+1) ?_ (by omega)
    exact(emitG_grow ..).trans (leaveG_grow x k true (base+1) {L with g:=emitG C L.g base 0 0 k x.chain})
   ·split
    ·exact(emitG_grow ..).mono (by omega)
    ·exact(Grow.refl _).mono (by omega)
  ·rename_i h4 h7
   have hl:=hC.line _ _ hk
   have h20:Grow (20 * tokC lev) L.g (genE C rep x ins k (exL ln.fExpr) base ⟨L.g.items,L.g.most,true⟩):=by
    have:=genE_grow' (fun g d s=>hrep k g d s) hC hk (hl.2.2.2.2 (by omega)) base ⟨L.g.items,L.g.most,true⟩
    exact⟨this.ge,this.le,this.most,this.cap⟩
   split
   ·exact(h20.trans (emitG_grow ..)).mono (by omega)
   ·split
    ·exact(h20.trans (emitG_grow ..)).mono (by omega)
    ·split
     ·refine Grow.mono (n:=20 * tokC lev+1) ?_ (by omega)
      exact h20.trans (leaveG_grow x k false (base+1) {L with g:=genE C rep x ins k (exL ln.fExpr) base ⟨L.g.items,L.g.most,true⟩,heads:=L.heads.set k L.g.items.length})
     ·exact(h20.trans (emitG_grow ..)).mono (by omega)
theorem stepB_grow (k:Nat)(ln:TLine)(L:Ls):Grow 0 L.g (stepB C x k ln L).g:=by
 unfold stepB
 split
 ·exact(Grow.refl _).set (setArg_len' _ _ _)
 ·exact Grow.refl _
theorem runL_grow (hrep:∀line g d s,isFun C g→replB C ins g s.items.length=true→Grow (tokC lev) s (rep x ins line g d s))(hC:CxOk C)(base:Int):∀(n k:Nat) (L:Ls),(∀i y,k≤i→i < k+n→C.p[i]?=some y→y.fKind≠0)→Grow (n * (20 * tokC lev+3)) L.g (runL C rep x ins base n k L).g
 | 0,k,L,_=>(Grow.refl _).mono (by omega)
 | n+1,k,L,h=>by
  rw[runL]
  split
  ·rename_i ln hk
   exact(((stepA_grow hrep hC hk (h k ln (Nat.le_refl _) (by omega) hk) base L).trans (stepB_grow k ln _)).trans (runL_grow hrep hC base n (k+1) _ fun i y h1 h2 hy=>h i y (by omega) (by omega) hy)).mono (by rw[Nat.add_mul];omega)
  ·exact(Grow.refl _).mono (by omega)
theorem linesG_grow (hrep:∀line g d s,isFun C g→replB C ins g s.items.length=true→Grow (tokC lev) s (rep x ins line g d s))(hC:CxOk C)(hx:ScOk C x ins)(base:Int)(s:Gs):Grow ((endL' C.p x.f - x.f) * (20 * tokC lev+3)) s (linesG C rep x ins base s).1:=by
 unfold linesG
 obtain⟨ln,h1,h2⟩:=hx.fn
 obtain⟨e,h3,_,_,h4⟩:=hC.fn _ _ h1 h2
 obtain⟨e',g3,_,_,g5,_⟩:=hx.endE hC
 rw[h3]at g3
 injection g3 with g3
 subst g3
 rw[g5]
 refine runL_grow hrep hC base (e - x.f) (x.f+1) (startL C s) fun i y k1 k2 hy=>?_
 by_cases hie:i=e
 ·subst hie
  obtain⟨z,hz,h7⟩:=endAt_kind h3
  rw[hy]at hz
  injection hz with hz
  subst hz
  omega
 ·exact(h4 i y (by omega) (by omega) hy).1
end
theorem replB_spec {C:Cx}{ins:List Nat}{g n:Nat}(h:replB C ins g n=true):(ins.length:Int)≤C.b.fInline∧endOf C.p (g:Int) - g≤9∧n < 200∧g∉ins:=by
 unfold replB at h
 simp only[Bool.and_eq_true,decide_eq_true_eq,Bool.not_eq_true',List.contains_eq_mem,decide_eq_false_iff_not]at h
 exact⟨h.1,h.2.1,h.2.2.1,h.2.2.2⟩
theorem repN_grow {C:Cx}(hC:CxOk C):∀(lev:Nat) {x:Sc} {ins:List Nat} (line g:Nat) (d:Int) (s:Gs),ScOk C x ins→isFun C g→replB C ins g s.items.length=true→Grow (tokC lev) s (repN C lev x ins line g d s)
 | 0,x,ins,line,g,d,s,hx,hg,hr=>(Grow.refl s).mono (by omega)
 | lev+1,x,ins,line,g,d,s,hx,hg,hr=>by
  obtain⟨r1,r2,_,_⟩:=replB_spec hr
  have hin:=hC.inl
  have hy:=inSc_ok hC hx line hg
  have h1:=preG_grow hC hx (by omega) line hg d s
  have h2:=spaceG_grow (C:=C) x line (d - argsN C.p g) (preG C x line g d s)
  have h3:=linesG_grow (lev:=lev) (rep:=repN C lev) (fun line g d s hg hr=>repN_grow hC lev line g d s hy hg hr) hC hy (d - argsN C.p g) (spaceG C x line (d - argsN C.p g) (preG C x line g d s))
  obtain⟨e,e1,e2,e3,e4,_⟩:=hy.endE hC
  have e5:endOf C.p (g:Int)=(e:Int):=by rw[endOf_at];exact endI_some e1
  have e6:endL' C.p (inSc C x line g).f - (inSc C x line g).f≤9:=by rw[e4];show e - g≤9;omega
  have h4:=((h1.trans h2).trans h3).mono (m:=tokC (lev+1)) (by
   rw[tokC]
   have:=Nat.mul_le_mul_right (20 * tokC lev+3) e6
   omega)
  show Grow _ s (replG C (linesG C (repN C lev)) x ins line g d s)
  unfold replG
  exact h4.set (patchL_len _ _ _)
def lvOk (L:Ls):Prop:=L.lv.length≤L.g.items.length∧∀j∈L.lv,0≤j∧j < L.g.items.length
section
variable {C:Cx} {x:Sc} {ins:List Nat} {rep:Sc→List Nat→Nat→Nat→Int→Gs→Gs} {lev:Nat}
theorem lvOk.grow {n:Nat}{L L':Ls}(h:lvOk L)(hl:L'.lv=L.lv)(hg:Grow n L.g L'.g):lvOk L':=⟨by rw[hl];exact Nat.le_trans h.1 hg.ge,fun j hj=>by
 rw[hl]at hj
 have:=h.2 j hj
 have:=hg.ge
 omega⟩
theorem leaveG_lv {L:Ls}(h:lvOk L)(k:Nat)(last:Bool)(d:Int):lvOk (leaveG C x k last d L):=by
 have hg:=leaveG_grow (C:=C) x k last d L
 unfold leaveG at hg ⊢
 split
 ·rename_i ho
  rw[if_pos ho]at hg
  split
  ·rename_i hf;rw[if_pos hf]at hg;exact h.grow rfl hg
  ·rename_i hf;rw[if_neg hf]at hg;exact h.grow rfl hg
 ·split
  ·exact h
  ·refine⟨by have:=h.1;simp only[emitG,List.length_append,List.length_cons,List.length_nil];omega,?_⟩
   intro j hj
   simp only[List.mem_append,List.mem_cons,List.not_mem_nil,or_false]at hj
   simp only[emitG,List.length_append,List.length_cons,List.length_nil]
   rcases hj with hj|rfl
   ·have:=h.2 j hj;omega
   ·omega
theorem stepA_lv (hrep:∀line g d s,isFun C g→replB C ins g s.items.length=true→Grow (tokC lev) s (rep x ins line g d s))(hC:CxOk C){k:Nat}{ln:TLine}(hk:C.p[k]?=some ln)(h0:ln.fKind≠0)(base:Int){L:Ls}(h:lvOk L):lvOk (stepA C rep x ins base k ln L):=by
 have hg:=stepA_grow (x:=x) (ins:=ins) (rep:=rep) (lev:=lev) hrep hC hk h0 base L
 unfold stepA at hg ⊢
 split
 ·rename_i h4;rw[if_pos h4]at hg;exact h.grow rfl hg
 ·rename_i h4
  rw[if_neg h4]at hg
  split
  ·rename_i h7
   rw[if_pos h7]at hg
   split
   ·exact leaveG_lv (h.grow (L':={L with g:=emitG C L.g base 0 0 k x.chain}) rfl (emitG_grow ..)) _ _ _
   ·rename_i ho
    rw[if_neg ho]at hg
    split
    ·rename_i h5;rw[if_pos h5]at hg;exact h.grow rfl hg
    ·exact h
  ·rename_i h7
   have hl:=hC.line _ _ hk
   have h20:=genE_grow' (x:=x) (ins:=ins) (rep:=rep) (line:=k) (lev:=lev) (fun g d s=>hrep k g d s) hC hk (hl.2.2.2.2 (by omega)) base ⟨L.g.items,L.g.most,true⟩
   have hL1:lvOk {L with g:=genE C rep x ins k (exL ln.fExpr) base ⟨L.g.items,L.g.most,true⟩,heads:=L.heads.set k L.g.items.length}:=h.grow rfl ⟨h20.ge,h20.le,h20.most,h20.cap⟩
   split
   ·exact hL1.grow rfl (emitG_grow ..)
   ·split
    ·exact hL1.grow rfl (emitG_grow ..)
    ·split
     ·exact leaveG_lv hL1 _ _ _
     ·exact hL1.grow rfl (emitG_grow ..)
theorem stepB_lv (k:Nat)(ln:TLine){L:Ls}(h:lvOk L):lvOk (stepB C x k ln L):=by
 have hg:=stepB_grow (C:=C) (x:=x) k ln L
 unfold stepB at hg ⊢
 split
 ·rename_i h1;rw[if_pos h1]at hg;exact h.grow rfl hg
 ·exact h
theorem runL_lv (hrep:∀line g d s,isFun C g→replB C ins g s.items.length=true→Grow (tokC lev) s (rep x ins line g d s))(hC:CxOk C)(base:Int):∀(n k:Nat) (L:Ls),(∀i y,k≤i→i < k+n→C.p[i]?=some y→y.fKind≠0)→lvOk L→lvOk (runL C rep x ins base n k L)
 | 0,k,L,_,h=>h
 | n+1,k,L,hf,h=>by
  rw[runL]
  split
  ·rename_i ln hk
   exact runL_lv hrep hC base n (k+1) _ (fun i y h1 h2 hy=>hf i y (by omega) (by omega) hy) (stepB_lv k ln (stepA_lv hrep hC hk (hf k ln (Nat.le_refl _) (by omega) hk) base h))
  ·exact h
theorem lines_kinds (hC:CxOk C)(hx:ScOk C x ins){e:Nat}(he:endAt C.p x.f=some e){i:Nat}{y:TLine}(h1:x.f+1≤i)(h2:i≤e)(hy:C.p[i]?=some y):y.fKind≠0:=by
 obtain⟨ln,g1,g2⟩:=hx.fn
 obtain⟨e',h3,_,_,h4⟩:=hC.fn _ _ g1 g2
 rw[he]at h3
 injection h3 with h3
 subst h3
 by_cases hie:i=e
 ·subst hie
  obtain⟨z,hz,h7⟩:=endAt_kind he
  rw[hy]at hz
  injection hz with hz
  subst hz
  omega
 ·exact(h4 i y (by omega) (by omega) hy).1
theorem linesG_lv (hrep:∀line g d s,isFun C g→replB C ins g s.items.length=true→Grow (tokC lev) s (rep x ins line g d s))(hC:CxOk C)(hx:ScOk C x ins)(base:Int)(s:Gs):(linesG C rep x ins base s).2.length≤(linesG C rep x ins base s).1.items.length∧∀j∈(linesG C rep x ins base s).2,0≤j∧j < ((linesG C rep x ins base s).1.items.length:Int):=by
 unfold linesG
 obtain⟨e,g3,g4,_,g5,_⟩:=hx.endE hC
 rw[g5]
 exact runL_lv hrep hC base (e - x.f) (x.f+1) (startL C s) (fun i y k1 k2 hy=>lines_kinds hC hx g3 k1 (by omega) hy) ⟨by simp[startL],by intro j hj;simp[startL]at hj⟩
end
theorem patchL_snoc (v j:Int):∀(js:List Int) (l:List TItem),patchL l v (js++[j])=setArg (patchL l v js) j v
 | [],l=>by rw[List.nil_append,patchL,patchL,patchL]
 | a::js,l=>by rw[List.cons_append,patchL,patchL_snoc v j js,patchL]
end Go.Proofs.YtjmplnfiabmalaaGreat
namespace Go.Proofs.YtjmplnfiabmalaaGreat
open Go.Sim
set_option maxRecDepth 100000
set_option maxHeartbeats 4000000
def patchE (l:List TItem)(v to:Int):List (Int×Int)→List TItem
 | []=>l
 | e::r=>patchE (if e.1=to then setArg l e.2 v else l) v to r
theorem patchE_len (v to:Int):∀(E:List (Int×Int)) (l:List TItem),(patchE l v to E).length=l.length
 | [],l=>rfl
 | e::r,l=>by
  rw[patchE,patchE_len v to r]
  split
  ·rw[setArg_len']
  ·rfl
theorem patchE_append (v to:Int):∀(A B:List (Int×Int)) (l:List TItem),patchE l v to (A++B)=patchE (patchE l v to A) v to B
 | [],B,l=>rfl
 | a::A,B,l=>by rw[List.cons_append,patchE,patchE_append v to A B,patchE]
theorem patchE_snoc (v to:Int)(e:Int×Int)(E:List (Int×Int))(l:List TItem):patchE l v to (E++[e])=if e.1=to then setArg (patchE l v to E) e.2 v else patchE l v to E:=by
 rw[patchE_append];rfl
def jumps (p:List TLine)(i:Nat):Prop:=kindAt p i=3∨kindAt p i=4∨kindAt p i=5
instance (p:List TLine) (i:Nat):Decidable (jumps p i):=by unfold jumps;infer_instance
def toOf (p:List TLine)(i:Nat):Int:=if kindAt p i=4 then endOf p (ownOf p i:Int)+1 else if kindAt p i=3∧0≤elseOf p (i:Int)then - elseOf p (i:Int)else endOf p (i:Int)+1
def entry (p:List TLine)(pos:List Int)(i:Nat):List (Int×Int):=if jumps p i then [(toOf p i,atL pos i)]else []
def exitsF (p:List TLine)(pos:List Int)(f:Nat):Nat→List (Int×Int)
 | 0=>[]
 | n+1=>exitsF p pos f n++entry p pos (f+n)
theorem exitsF_len (p:List TLine)(pos:List Int)(f:Nat):∀n,(exitsF p pos f n).length≤n
 | 0=>Nat.le_refl _
 | n+1=>by
  have:=exitsF_len p pos f n
  rw[exitsF,List.length_append,entry]
  split <;> simp <;> omega
theorem atL_set {l:List Int}{k i:Nat}{v:Int}(h:i≠k):atL (l.set k v) i=atL l i:=by
 unfold atL
 rw[List.getElem?_set_ne (fun e=>h e.symm)]
theorem atL_self {l:List Int}{k:Nat}{v:Int}(h:k < l.length):atL (l.set k v) k=v:=by
 unfold atL
 rw[List.getElem?_set_self h]
 rfl
theorem exitsF_set (p:List TLine)(pos:List Int)(f k:Nat)(v:Int):∀n,f+n≤k→exitsF p (pos.set k v) f n=exitsF p pos f n
 | 0,_=>rfl
 | n+1,h=>by
  rw[exitsF,exitsF,exitsF_set p pos f k v n (by omega),entry,entry,atL_set (by omega)]
theorem exits_next {p:List TLine}{pos:List Int}{f k:Nat}(h:f+1≤k)(hj:¬jumps p k):exitsF p pos (f+1) (k+1 - (f+1))=exitsF p pos (f+1) (k - (f+1)):=by
 rw[show k+1 - (f+1)=(k - (f+1))+1 by omega,exitsF,show f+1+(k - (f+1))=k by omega,entry,if_neg hj,List.append_nil]
theorem exits_jump {p:List TLine}{pos:List Int}{f k:Nat}(h:f+1≤k)(hj:jumps p k)(hk:k < pos.length)(v:Int):exitsF p pos (f+1) (k - (f+1))++[(toOf p k,v)]=exitsF p (pos.set k v) (f+1) (k+1 - (f+1)):=by
 rw[show k+1 - (f+1)=(k - (f+1))+1 by omega,exitsF,exitsF_set _ _ _ _ _ _ (by omega),show f+1+(k - (f+1))=k by omega,entry,if_pos hj,atL_self hk]
theorem exitsF_mem {p:List TLine}{pos:List Int}{f:Nat}:∀{n:Nat} {e:Int×Int},e∈exitsF p pos f n→∃i,f≤i∧i < f+n∧jumps p i∧e=(toOf p i,atL pos i)
 | 0,e,h=>by simp[exitsF]at h
 | n+1,e,h=>by
  rw[exitsF,List.mem_append]at h
  rcases h with h|h
  ·obtain⟨i,h1,h2,h3⟩:=exitsF_mem h
   exact⟨i,h1,by omega,h3⟩
  ·rw[entry]at h
   split at h
   ·rename_i hj
    simp only[List.mem_cons,List.not_mem_nil,or_false]at h
    exact⟨f+n,by omega,by omega,hj,h⟩
   ·cases h
theorem patchE_none {v to:Int}:∀{E:List (Int×Int)} {l:List TItem},(∀e∈E,e.1≠to)→patchE l v to E=l
 | [],_,_=>rfl
 | e::r,l,h=>by rw[patchE,if_neg (h e (by simp)),patchE_none fun x hx=>h x (by simp[hx])]
theorem patch_one {p:List TLine}{pos:List Int}{f i0:Nat}{v to:Int}(hj:jumps p i0)(ht:toOf p i0=to):∀{n:Nat} {l:List TItem},f≤i0→i0 < f+n→(∀i,f≤i→i < f+n→jumps p i→toOf p i=to→i=i0)→patchE l v to (exitsF p pos f n)=setArg l (atL pos i0) v
 | 0,l,h1,h2,_=>by omega
 | n+1,l,h1,h2,hu=>by
  rw[exitsF,patchE_append]
  by_cases h:i0=f+n
  ·subst h
   rw[patchE_none (E:=exitsF p pos f n) (fun e he=>by
    obtain⟨i,k1,k2,k3,rfl⟩:=exitsF_mem he
    intro hh
    have:=hu i k1 (by omega) k3 hh
    omega)]
   rw[entry,if_pos hj]
   show(if(toOf p (f+n),atL pos (f+n)).1=to then _ else _)=_
   rw[if_pos ht]
  ·rw[patch_one hj ht h1 (by omega) fun i k1 k2 k3 k4=>hu i k1 (by omega) k3 k4]
   refine patchE_none fun e he=>?_
   rw[entry]at he
   split at he
   ·rename_i hj2
    simp only[List.mem_cons,List.not_mem_nil,or_false]at he
    subst he
    intro hh
    exact h (hu (f+n) (by omega) (by omega) hj2 hh).symm
   ·cases he
theorem kindAt_of {p:List TLine}{k:Nat}{ln:TLine}(h:p[k]?=some ln):kindAt p k=ln.fKind:=by rw[kindAt,h]
theorem endOf_some {p:List TLine}{i:Nat}{m:Int}(h:endOf p (i:Int)=m)(h0:0≤m):endAt p i=some m.toNat:=by
 rw[endOf_at]at h
 cases he:endAt p i with
 | none=>rw[he]at h;simp only[endI]at h;omega
 | some e=>rw[he]at h;simp only[endI]at h;congr 1;omega
theorem endOf_ge (p:List TLine)(i:Nat):-1≤endOf p (i:Int)∧endOf p (i:Int)≤p.length:=by
 rw[endOf_at]
 cases he:endAt p i with
 | none=>simp only[endI];omega
 | some e=>obtain⟨_,_,_,_,_,h⟩:=endAt_some he;simp only[endI];omega
theorem elseOf_at {p:List TLine}{i:Nat}:elseOf p (i:Int)=endI (elseAt p i):=by rw[elseOf,if_pos (by omega),Int.toNat_natCast]
theorem elseAt_not {p:List TLine}{i:Nat}(h:kindAt p i≠3):elseAt p i=none:=by
 cases he:elseAt p i with
 | none=>rfl
 | some j=>
  obtain⟨y,_,hy,h3,_⟩:=elseAt_some he
  exact absurd (by rw[kindAt_of hy];exact h3) h
section
variable {C:Cx} {x:Sc} {ins:List Nat}
theorem to_line (hC:CxOk C)(hx:ScOk C x ins){e:Nat}(he:endAt C.p x.f=some e){k i:Nat}(h1:x.f+1≤i)(h2:i < k)(h3:k≤e)(hj:jumps C.p i)(ht:toOf C.p i=(k:Int)):kindAt C.p (k - 1)=7∧ownOf C.p (k - 1)≠x.f∧exitAt C.p (k - 1)=i:=by
 have hil:i < C.p.length:=by obtain⟨_,_,_,_,_,h⟩:=endAt_some he;omega
 obtain⟨y,hy⟩:=get_of_lt hil
 have hky:=kindAt_of hy
 unfold toOf at ht
 by_cases h4:kindAt C.p i=4
 ·rw[if_pos h4]at ht
  obtain⟨o1,o2,o3,o4⟩:=hx.own4 hC he (by omega) (by omega) hy (by rw[←hky];exact h4)
  have hee:=endOf_some (show endOf C.p (ownOf C.p i:Int)=((k - 1:Nat):Int) by omega) (by omega)
  rw[Int.toNat_natCast]at hee
  obtain⟨z,hz,h7⟩:=endAt_kind hee
  rw[own_end hee,kindAt_of hz]
  refine⟨h7,by omega,?_⟩
  rw[exitAt,own_end hee,o1]
 ·rw[if_neg h4]at ht
  split at ht
  ·omega
  ·rename_i hn
   have hee:=endOf_some (show endOf C.p (i:Int)=((k - 1:Nat):Int) by omega) (by omega)
   rw[Int.toNat_natCast]at hee
   obtain⟨z,hz,h7⟩:=endAt_kind hee
   rw[own_end hee,kindAt_of hz]
   refine⟨h7,by omega,?_⟩
   rw[exitAt,own_end hee]
   have:elseAt C.p i=none:=by
    by_cases h3':kindAt C.p i=3
    ·cases hel:elseAt C.p i with
     | none=>rfl
     | some j=>exact absurd ⟨h3',by rw[elseOf_at,hel];simp[endI]⟩ hn
    ·exact elseAt_not h3'
   rw[this]
theorem exit_to (hC:CxOk C)(hx:ScOk C x ins){e:Nat}(he:endAt C.p x.f=some e){j:Nat}{ln:TLine}(h1:x.f < j)(h2:j < e)(hl:C.p[j]?=some ln)(h7:ln.fKind=7):x.f+1≤exitAt C.p j∧exitAt C.p j < j∧jumps C.p (exitAt C.p j)∧toOf C.p (exitAt C.p j)=((j+1:Nat):Int)∧ownOf C.p j≠x.f:=by
 obtain⟨o1,o2⟩:=hx.own7 hC he h1 (by omega) hl h7
 rcases o2 with⟨o2,_⟩|⟨_,o3,o4,y,hy,ho⟩
 ·omega
 have hky:=kindAt_of hy
 have hend:endOf C.p (ownOf C.p j:Int)=(j:Int):=by rw[endOf_at];exact endI_some o1
 unfold exitAt
 cases hel:elseAt C.p (ownOf C.p j)with
 | none=>
  dsimp only
  refine⟨by omega,o4,by unfold jumps;omega,?_,by omega⟩
  unfold toOf
  rw[if_neg (by omega),if_neg (by rw[elseOf_at,hel];simp[endI]),hend]
  omega
 | some m=>
  obtain⟨z,m1,hz,z3,hm1,k1,k2,w,hw,w4⟩:=elseAt_some hel
  rw[o1]at hm1
  injection hm1 with hm1
  have hkw:=kindAt_of hw
  refine⟨by dsimp only;omega,by dsimp only;omega,by unfold jumps;dsimp only;omega,?_,by omega⟩
  unfold toOf
  dsimp only
  rw[if_pos (by omega),own_else hel,hend]
  omega
structure LInv (C:Cx) (lev:Nat) (x:Sc) (ins:List Nat) (d:Int) (e:Nat) (R:Ls) (k:Nat) (L:Ls):Prop where
 lo:x.f+1≤k
 hi:k≤e+1
 heads:L.heads.length=C.p.length
 pos:L.pos.length=C.p.length
 at_:∀i,x.f < i→i < k→jumps C.p i→0≤atL L.pos i∧atL L.pos i < L.g.items.length
 lv:lvOk L
 room:L.g.items.length+(e+1 - k) * (20 * tokC lev+3)≤68719476736
 fin:runL C (repN C lev) x ins d (e+1 - k) k L=R
theorem stepA_lens (rep:Sc→List Nat→Nat→Nat→Int→Gs→Gs)(base:Int)(k:Nat)(ln:TLine)(L:Ls):(stepA C rep x ins base k ln L).heads.length=L.heads.length∧(stepA C rep x ins base k ln L).pos.length=L.pos.length:=by
 unfold stepA leaveG
 repeat' split
 all_goals simp
theorem stepB_lens (k:Nat)(ln:TLine)(L:Ls):(stepB C x k ln L).heads=L.heads∧(stepB C x k ln L).pos=L.pos∧(stepB C x k ln L).lv=L.lv∧(stepB C x k ln L).g.items.length=L.g.items.length∧(stepB C x k ln L).g.most=L.g.most∧(stepB C x k ln L).g.start=L.g.start:=by
 unfold stepB
 split
 ·exact⟨rfl,rfl,rfl,setArg_len' _ _ _,rfl,rfl⟩
 ·exact⟨rfl,rfl,rfl,rfl,rfl,rfl⟩
theorem stepA_at (rep:Sc→List Nat→Nat→Nat→Int→Gs→Gs)(base:Int)(k:Nat)(ln:TLine)(L:Ls)(hp:k < L.pos.length)(i:Nat):
  (i≠k→atL (stepA C rep x ins base k ln L).pos i=atL L.pos i)∧((ln.fKind=3∨ln.fKind=4∨ln.fKind=5)→0≤atL (stepA C rep x ins base k ln L).pos k∧atL (stepA C rep x ins base k ln L).pos k < (stepA C rep x ins base k ln L).g.items.length):=by
 unfold stepA
 by_cases h4:ln.fKind=4
 ·rw[if_pos h4]
  refine⟨fun hi=>atL_set hi,fun _=>?_⟩
  simp only[atL_self hp,setArg_len',emitG,List.length_append,List.length_cons,List.length_nil]
  omega
 ·rw[if_neg h4]
  by_cases h7:ln.fKind=7
  ·rw[if_pos h7]
   refine⟨fun _=>?_,fun h=>by omega⟩
   unfold leaveG
   repeat' split
   all_goals rfl
  ·rw[if_neg h7]
   by_cases h1:ln.fKind=1
   ·rw[if_pos h1]
    exact⟨fun _=>rfl,fun h=>by omega⟩
   ·rw[if_neg h1]
    by_cases h2:ln.fKind=2
    ·rw[if_pos h2]
     exact⟨fun _=>rfl,fun h=>by omega⟩
    ·rw[if_neg h2]
     by_cases h6:ln.fKind=6
     ·rw[if_pos h6]
      refine⟨fun _=>?_,fun h=>by omega⟩
      unfold leaveG
      repeat' split
      all_goals rfl
     ·rw[if_neg h6]
      refine⟨fun hi=>atL_set hi,fun _=>?_⟩
      simp only[atL_self hp,emitG,List.length_append,List.length_cons,List.length_nil]
      omega
theorem LInv.next (hC:CxOk C)(hx:ScOk C x ins){lev e k:Nat}{d:Int}{R L:Ls}{ln:TLine}(he:endAt C.p x.f=some e)(h:LInv C lev x ins d e R k L)(hk:k≤e)(hl:C.p[k]?=some ln):LInv C lev x ins d e R (k+1) (stepB C x k ln (stepA C (repN C lev) x ins d k ln L)):=by
 have h0:=lines_kinds hC hx he h.lo hk hl
 have hrep:∀line g d s,isFun C g→replB C ins g s.items.length=true→Grow (tokC lev) s (repN C lev x ins line g d s):=fun line g d s hg hr=>repN_grow hC lev line g d s hx hg hr
 have hA:=stepA_grow (lev:=lev) (rep:=repN C lev) hrep hC hl h0 d L
 obtain⟨b1,b2,b3,b4,b5,b6⟩:=stepB_lens (C:=C) (x:=x) k ln (stepA C (repN C lev) x ins d k ln L)
 obtain⟨a1,a2⟩:=stepA_lens (C:=C) (x:=x) (ins:=ins) (repN C lev) d k ln L
 have hge:=hA.ge
 have hle:=hA.le
 have hr:=h.room
 refine⟨by have:=h.lo;omega,by omega,by rw[b1,a1];exact h.heads,by rw[b2,a2];exact h.pos,fun i h1 h2 hj=>?_,stepB_lv k ln (stepA_lv (lev:=lev) hrep hC hl h0 d h.lv),?_,?_⟩
 ·rw[b2,b4]
  obtain⟨p1,p2⟩:=stepA_at (C:=C) (x:=x) (ins:=ins) (repN C lev) d k ln L (by rw[h.pos];exact lt_of_get hl) i
  by_cases hik:i=k
  ·subst hik
   refine p2 ?_
   unfold jumps at hj
   rw[kindAt_of hl]at hj
   exact hj
  ·rw[p1 hik]
   have:=h.at_ i h1 (by omega) hj
   omega
 ·rw[b4]
  obtain⟨n,hn⟩:∃n,e+1 - k=n+1:=⟨e - k,by omega⟩
  rw[hn,Nat.add_mul]at hr
  rw[show e+1 - (k+1)=n by omega]
  omega
 ·have hf:=h.fin
  obtain⟨n,hn⟩:∃n,e+1 - k=n+1:=⟨e - k,by omega⟩
  rw[hn,runL,hl]at hf
  rw[show e+1 - (k+1)=n by omega]
  exact hf
theorem patch_next (hC:CxOk C)(hx:ScOk C x ins){e k:Nat}{ln:TLine}(he:endAt C.p x.f=some e)(h1:x.f+1≤k)(hk:k≤e)(hl:C.p[k]?=some ln)(A:Ls):
  (k+1≤e→patchE A.g.items A.g.items.length ((k+1:Nat):Int) (exitsF C.p A.pos (x.f+1) (k+1 - (x.f+1)))=(stepB C x k ln A).g.items)∧(k=e→A.g.items=(stepB C x k ln A).g.items):=by
 constructor
 ·intro hke
  unfold stepB
  by_cases h7:ln.fKind=7
  ·obtain⟨q1,q2,q3,q4,q5⟩:=exit_to hC hx he (by omega) (by omega) hl h7
   rw[if_pos ⟨h7,q5⟩]
   refine patch_one q3 q4 q1 (by omega) fun i k1 k2 k3 k4=>?_
   obtain⟨_,_,t3⟩:=to_line hC hx he (k:=k+1) k1 (by omega) hke k3 k4
   rw[Nat.add_sub_cancel]at t3
   exact t3.symm
  ·rw[if_neg (by omega)]
   refine patchE_none fun z hz=>?_
   obtain⟨i,k1,k2,k3,rfl⟩:=exitsF_mem hz
   intro hh
   obtain⟨t1,_⟩:=to_line hC hx he (k:=k+1) k1 (by omega) hke k3 hh
   rw[Nat.add_sub_cancel,kindAt_of hl]at t1
   exact h7 t1
 ·rintro rfl
  unfold stepB
  rw[if_neg]
  rintro⟨_,h⟩
  exact h (own_end he)
theorem patch_else (hC:CxOk C)(hx:ScOk C x ins){e k:Nat}{ln:TLine}(he:endAt C.p x.f=some e)(h1:x.f+1≤k)(hk:k≤e)(hl:C.p[k]?=some ln)(h4:ln.fKind=4)(pos:List Int)(l:List TItem)(v:Int):
  patchE l v (-(k:Int)) (exitsF C.p pos (x.f+1) (k+1 - (x.f+1)))=setArg l (atL pos (ownOf C.p k)) v:=by
 obtain⟨o1,o2,o3,o4⟩:=hx.own4 hC he h1 hk hl h4
 obtain⟨y,m,hy,y3,hm,_,_,_⟩:=elseAt_some o1
 have hky:=kindAt_of hy
 have hel:elseOf C.p (ownOf C.p k:Int)=(k:Int):=by rw[elseOf_at];exact endI_some o1
 refine patch_one (by unfold jumps;omega) (by unfold toOf;rw[if_neg (by omega),if_pos ⟨by omega,by omega⟩,hel]) (by omega) (by omega) fun i k1 k2 k3 k4=>?_
 unfold toOf at k4
 by_cases hi4:kindAt C.p i=4
 ·rw[if_pos hi4]at k4
  have:=endOf_ge C.p (ownOf C.p i)
  omega
 ·rw[if_neg hi4]at k4
  split at k4
  ·rename_i h3
   have hk':elseOf C.p (i:Int)=(k:Int):=by omega
   rw[elseOf_at]at hk'
   cases hie:elseAt C.p i with
   | none=>rw[hie]at hk';simp only[endI]at hk';omega
   | some j=>
    rw[hie]at hk'
    simp only[endI]at hk'
    have:j=k:=by omega
    subst this
    exact elseAt_inj hie o1
  ·have:=endOf_ge C.p i
   omega
end
end Go.Proofs.YtjmplnfiabmalaaGreat
