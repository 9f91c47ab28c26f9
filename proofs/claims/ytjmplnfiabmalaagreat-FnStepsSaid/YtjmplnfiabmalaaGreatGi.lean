import Derived.Test.YtjmplnfiabmalaaGreatGh
namespace Go.Proofs.YtjmplnfiabmalaaGreat
open Go.Sim
set_option maxRecDepth 100000
set_option maxHeartbeats 4000000
theorem assemble_syms {p:List TLine}{b:TBuild}{image:Int}(h6:(funs p).length≤6):(assemble p b image).fSymbols.length≤6:=by
 unfold assemble
 split
 ·dsimp only
  rw[symsOf_len]
  have:=imgL_len p b image (funs p).length 0 0
  omega
 ·simp
theorem entsTo_len {F:Nat→List Int}(h:∀f,(F f).length≤12):∀n,(entsTo F n).length≤12 * n
 | 0=>by simp[entsTo]
 | n+1=>by have:=entsTo_len h n;have:=h n;rw[entsTo,List.length_append];omega
theorem cand_small {p:List TLine}{b:TBuild}(hs:smallT 1048576 (.lst 4 (p.map TLine.tr)))(h6:(funs p).length≤6){first second:Int}:smallR 1048576 (candS p b first second).tr:=by
 have a0:=assemble_small (b:=b) (image:=0) hs
 have a1:=assemble_small (b:=b) (image:=1) hs
 have hi:∀ns:List Int,ns.length≤1048576→smallT 1048576 (.lst 1 (ns.map intRow)):=fun ns hn=>small_map (by omega) fun x hx=>by simp[intRow,smallR,smallT]
 refine⟨?_,hi _ (by simp[candS]),hi _ (by simp[candS,entries];omega),trivial⟩
 simp only[candS]
 rw[smallT]
 exact⟨by simp,a0,a1,trivial⟩
theorem s_spec_LoadSpace (p:List TLine)(b:TBuild)(first second:Int)(hs:smallT 1048576 (.lst 4 (p.map TLine.tr))):Sim.Spec Tryz.prog 65 [tvP p,.agg b.tr,tvI first,tvI second] (.tup [.agg ((oSp (loadS p b first second)).tr.map resC),.c (.t (.bool (loadS p b first second).isSome))]):=by
 refine spec_of_Wo hΓ hmix Tryz.func65 rfl (by decide) rfl ?_
 have hP:=s_spec_ProgramOk p hs
 have hB:=s_spec_BuildOk b
 cases h1:programOk p with
 | false=>
  rw[h1]at hP
  rw[show loadS p b first second=none by rw[loadS,if_neg (by rw[h1];simp)]]
  repeat' ((conv=>whnf);first|(with_reducible first|apply Wx|apply W6)|apply oi|(apply fi<;>intro h)|refine cl hP ?_|refine cl hB ?_|refine⟨_,rfl,?_⟩|((with_reducible show _=_);rfl))
  all_goals try((with_reducible refine Obl.mk ?_);exact KP)
  all_goals try exact KX
 | true=>
  rw[h1]at hP
  cases h2:buildOk b with
  | false=>
   rw[h2]at hB
   rw[show loadS p b first second=none by rw[loadS,if_neg (by rw[h2];simp)]]
   repeat' ((conv=>whnf);first|(with_reducible first|apply Wx|apply W6)|apply oi|(apply fi<;>intro h)|refine cl hP ?_|refine cl hB ?_|refine⟨_,rfl,?_⟩|((with_reducible show _=_);rfl))
   all_goals try((with_reducible refine Obl.mk ?_);exact KP)
   all_goals try exact KX
  | true=>
   rw[h2]at hB
   obtain⟨h6,h60⟩:=funs_six h1
   have hA0:=s_spec_AssembleImage p b 0 hs
   have hA1:=s_spec_AssembleImage p b 1 hs
   have gF:=s_spec_FunctionLines p (by omega)
   have hfl:((funs p).map fun n:Nat=>intRow n).length=(funs p).length:=by simp
   have hsp:=s_spec_SpaceOk (candS p b first second) (cand_small hs h6)
   repeat' ((conv=>whnf);first|(with_reducible apply W1;fail_if_success (with_reducible show Wo _ _ _ _ (Code.region 4 _ _) _ _))|(with_reducible first|apply W2|apply W3|apply W4|apply W5|apply W6|apply W7|apply W8|apply W9)|apply reg_inl|apply oi|(apply fi<;>intro h)|refine cl hP ?_|refine cl hB ?_|refine cl hA0 ?_|refine cl hA1 ?_|refine⟨_,rfl,?_⟩|((with_reducible show _=_);rfl))
   all_goals try((with_reducible refine Obl.mk ?_);exact KP)
   all_goals try exact KX
   all_goals try exact⟨flat_map _ (by intro x c hc sz rs e;subst e;simp[TSymbol.tr]at hc)⟩
   have hS0:(assemble p b 0).fSymbols.length≤6:=assemble_syms h6
   have hS1:(assemble p b 1).fSymbols.length≤6:=assemble_syms h6
   have hE:∀f,f < (funs p).length→entS p b (assemble p b 0) (assemble p b 1) first second f=[entryAt p b first second f]:=fun f hf=>entS_eq h1 h2 hf first second
   have hall:entsTo (entS p b (assemble p b 0) (assemble p b 1) first second) (funs p).length=entries p b first second:=entsTo_eq hE
   have hld:loadS p b first second=if spaceOk (candS p b first second)=true then some (candS p b first second)else none:=by
    rw[loadS]
    by_cases hso:spaceOk (candS p b first second)=true
    ·rw[if_pos hso,if_pos ⟨h1,h2,hso⟩]
    ·rw[if_neg hso,if_neg fun h=>hso h.2.2]
   have hcand:(candS p b first second).tr=[.lst 2 [(assemble p b 0).tr,(assemble p b 1).tr],.lst 1 [intRow first,intRow second],.lst 1 ((entries p b first second).map intRow)]:=rfl
   rw[hld]
   generalize candS p b first second=cd at *
   generalize assemble p b 0=i0 at *
   generalize assemble p b 1=i1 at *
   have hEl:∀f,(entS p b i0 i1 first second f).length≤12:=fun f=>by
    unfold entS
    split
    ·have:=hits_len (nameOf p f) second i1.fSymbols;omega
    ·have:=hits_len (nameOf p f) first i0.fSymbols;omega
   have hEt:=entsTo_len hEl
   conv=>whnf
   refine leq_rule ⟨[(0,vP p),(5,.r (.c (.ptr (5,0,0) 0))),(8,.r (.c (.ptr (8,0,0) 0))),(10,.r (.c (.ptr (10,0,0) 0)))],[((5,0,0),some (.box (b.tr.map .t))),((8,0,0),some (.box [.nils 0,.nils 0,.nils 0])),((10,0,0),some (.box [.own (10,0,1),.own (10,0,2),.own (10,0,3)])),((10,0,1),some (.arr true 2 [i0.tr,i1.tr])),((10,0,2),some (.arr true 1 [intRow first,intRow second])),((10,0,3),some (.arr true 1 []))],[10,8,5]⟩ ?_ ?_
   ·skip
    repeat' ((conv=>whnf);first|(with_reducible first|apply Wx|apply W6)|apply oi|(apply fi<;>intro h)|refine⟨_,rfl,?_⟩|((with_reducible show _=_);rfl))
    all_goals try((with_reducible refine Obl.mk ?_);exact KP)
   repeat' ((conv=>whnf);first|(with_reducible first|apply Wx|apply W6)|apply oi|(apply fi<;>intro h)|refine⟨_,rfl,?_⟩|((with_reducible show _=_);rfl))
   all_goals try((with_reducible refine Obl.mk ?_);exact KP)
   conv=>whnf
   refine⟨{f:Nat // f≤(funs p).length},fun q=>⟨[(0,vP p),(5,.r (.c (.ptr (5,0,0) 0))),(8,.r (.c (.ptr (8,0,0) 0))),(10,.r (.c (.ptr (10,0,0) 0))),(11,tI .i64 (q.1:Int))],[((5,0,0),some (.box (b.tr.map .t))),((8,0,0),some (.box [.nils 0,.nils 0,.nils 0])),((10,0,0),some (.box [.own (10,0,1),.own (10,0,2),.own (10,0,3)])),((10,0,1),some (.arr true 2 [i0.tr,i1.tr])),((10,0,2),some (.arr true 1 [intRow first,intRow second])),((10,0,3),some (.arr true 1 ((entsTo (entS p b i0 i1 first second) q.1).map intRow)))],[10,8,5]⟩,fun q=>(funs p).length - q.1,⟨0,by omega⟩,?_,?_⟩
   ·skip
    repeat' ((conv=>whnf);first|(with_reducible first|apply Wx|apply W6)|apply oi|(apply fi<;>intro h)|refine⟨_,rfl,?_⟩|((with_reducible show _=_);rfl))
    all_goals try((with_reducible refine Obl.mk ?_);exact KP)
   intro⟨f,hf⟩
   dsimp only
   have hef:=hEt f
   by_cases hlt:f < (funs p).length
   ·obtain⟨g,hg⟩:=get_of_lt hlt
    obtain⟨ln,hln,_,hnm,_⟩:=fun_name h1 hg
    obtain⟨j,hj,hj1⟩:∃j:Nat,imgNo b f=(j:Int)∧j≤1:=by
     rcases imgNo_01 b f with e|e
     ·exact⟨0,by rw[e];rfl,by omega⟩
     ·exact⟨1,by rw[e];rfl,by omega⟩
    obtain⟨im,base,him,hbase,hes,hsy⟩:∃(im:TImage) (base:Int),[i0.tr,i1.tr][j]?=some im.tr∧[intRow first,intRow second][j]?=some (intRow base)∧entS p b i0 i1 first second f=hits ln.fName base im.fSymbols∧im.fSymbols.length≤6:=by
     rcases(show j=0∨j=1 by omega)with rfl|rfl
     ·exact⟨i0,first,rfl,rfl,by rw[entS,hj,if_neg (show ¬((0:Nat):Int)=1 by decide),hnm],hS0⟩
     ·exact⟨i1,second,rfl,rfl,by rw[entS,hj,if_pos (show((1:Nat):Int)=1 from rfl),hnm],hS1⟩
    have hand:=and_one ⟨f,by omega⟩
    dsimp only at hand
    have hjl:j < [i0.tr,i1.tr].length:=by simp;omega
    have hjb:j < [intRow first,intRow second].length:=by simp;omega
    have hfr:f < ((funs p).map fun n:Nat=>intRow n).length:=by omega
    have hfg:((funs p).map fun n:Nat=>intRow n)[f]?=some (intRow (g:Int)):=by rw[List.getElem?_map,hg];rfl
    have hsl:(im.fSymbols.map TSymbol.tr).length=im.fSymbols.length:=by simp
    repeat' ((conv=>whnf);first|(with_reducible apply W1;fail_if_success (with_reducible show Wo _ _ _ _ (Code.seq (Code.region 8 _ _) _) _ _))|(with_reducible first|apply W2|apply W3|apply W4|apply W5|apply W6|apply W7|apply W8|apply W9)|apply reg_inl|apply oi|(apply fi<;>intro h)|refine cl gF ?_|refine⟨_,rfl,?_⟩|((with_reducible show _=_);rfl))
    all_goals try((with_reducible refine Obl.mk ?_);exact KP)
    all_goals try exact KX
    conv=>whnf
    refine join_rule Unit (fun _=>⟨[(0,vP p),(5,.r (.c (.ptr (5,0,0) 0))),(8,.r (.c (.ptr (8,0,0) 0))),(10,.r (.c (.ptr (10,0,0) 0))),(11,tI .i64 (f:Int)),(12,tI .i64 (j:Int))],[((5,0,0),some (.box (b.tr.map .t))),((8,0,0),some (.box [.nils 0,.nils 0,.nils 0])),((10,0,0),some (.box [.own (10,0,1),.own (10,0,2),.own (10,0,3)])),((10,0,1),some (.arr true 2 [i0.tr,i1.tr])),((10,0,2),some (.arr true 1 [intRow first,intRow second])),((10,0,3),some (.arr true 1 ((entsTo (entS p b i0 i1 first second) f).map intRow)))],[10,8,5]⟩) ?_ ?_
    ·have hj2:=hj
     unfold imgNo at hj2
     cases hsp2:b.fSplit with
     | true=>
      rw[hsp2,if_pos rfl]at hj2
      rw[hj2]at hand
      repeat' ((conv=>whnf);first|(with_reducible first|apply Wx|apply W6)|apply oi|(apply fi<;>intro h)|refine⟨_,rfl,?_⟩|((with_reducible show _=_);rfl))
      all_goals try((with_reducible refine Obl.mk ?_);exact KP)
      all_goals(conv=>whnf)
      all_goals try(exfalso;rw[hsp2]at h;cases h;done)
      refine⟨(),?_⟩
      repeat' ((conv=>whnf);first|(with_reducible first|apply Wx|apply W6)|apply oi|(apply fi<;>intro h)|refine⟨_,rfl,?_⟩|((with_reducible show _=_);rfl))
      all_goals try((with_reducible refine Obl.mk ?_);exact KP)
      all_goals exact⟨congrArg (Tr.int _) hand⟩
     | false=>
      rw[hsp2,if_neg (by simp)]at hj2
      repeat' ((conv=>whnf);first|(with_reducible first|apply Wx|apply W6)|apply oi|(apply fi<;>intro h)|refine⟨_,rfl,?_⟩|((with_reducible show _=_);rfl))
      all_goals try((with_reducible refine Obl.mk ?_);exact KP)
      all_goals(conv=>whnf)
      all_goals try(exfalso;rw[hsp2]at h;cases h;done)
      refine⟨(),?_⟩
      repeat' ((conv=>whnf);first|(with_reducible first|apply Wx|apply W6)|apply oi|(apply fi<;>intro h)|refine⟨_,rfl,?_⟩|((with_reducible show _=_);rfl))
      all_goals try((with_reducible refine Obl.mk ?_);exact KP)
      all_goals exact⟨congrArg (Tr.int _) hj2⟩
    intro _
    dsimp only
    repeat' ((conv=>whnf);first|(with_reducible first|apply Wx|apply W6)|apply oi|(apply fi<;>intro h)|refine⟨_,rfl,?_⟩|((with_reducible show _=_);rfl))
    all_goals try((with_reducible refine Obl.mk ?_);exact KP)
    conv=>whnf
    refine⟨{k:Nat // k≤im.fSymbols.length},fun q=>⟨[(0,vP p),(5,.r (.c (.ptr (5,0,0) 0))),(8,.r (.c (.ptr (8,0,0) 0))),(10,.r (.c (.ptr (10,0,0) 0))),(11,tI .i64 (f:Int)),(12,tI .i64 (j:Int)),(13,tI .i64 (q.1:Int))],[((5,0,0),some (.box (b.tr.map .t))),((8,0,0),some (.box [.nils 0,.nils 0,.nils 0])),((10,0,0),some (.box [.own (10,0,1),.own (10,0,2),.own (10,0,3)])),((10,0,1),some (.arr true 2 [i0.tr,i1.tr])),((10,0,2),some (.arr true 1 [intRow first,intRow second])),((10,0,3),some (.arr true 1 ((entsTo (entS p b i0 i1 first second) f++hits ln.fName base (im.fSymbols.take q.1)).map intRow)))],[10,8,5]⟩,fun q=>im.fSymbols.length - q.1,⟨0,by omega⟩,?_,?_⟩
    ·skip
     repeat' ((conv=>whnf);first|(with_reducible first|apply Wx|apply W6)|apply oi|(apply fi<;>intro h)|refine⟨_,rfl,?_⟩|((with_reducible show _=_);rfl))
     all_goals try((with_reducible refine Obl.mk ?_);exact KP)
     all_goals try exact⟨by simp[hits_nil]⟩
    intro⟨k,hk⟩
    dsimp only
    by_cases hkl:k < im.fSymbols.length
    ·obtain⟨y,hy⟩:=get_of_lt hkl
     have hks:k < (im.fSymbols.map TSymbol.tr).length:=by omega
     have hyt:(im.fSymbols.map TSymbol.tr)[k]?=some y.tr:=map_get hy
     have hht:=hits_take (nm:=ln.fName) (b:=base) hy
     have hhl:=hits_len ln.fName base (im.fSymbols.take k)
     rw[List.length_take]at hhl
     cases hq:(y.fName==ln.fName)with
     | true=>
      rw[hq,if_pos rfl]at hht
      repeat' ((conv=>whnf);first|(with_reducible first|apply Wx|apply W6)|apply oi|(apply fi<;>intro h)|refine cl gF ?_|refine⟨j,rfl,hjl,?_⟩|refine⟨_,him,?_⟩|refine⟨k,y.tr,rfl,hyt,?_⟩|refine⟨f,rfl,hfr,?_⟩|refine⟨_,hfg,?_⟩|refine⟨g,ln.tr,rfl,map_get hln,?_⟩|refine⟨j,rfl,hjb,?_⟩|refine⟨_,hbase,?_⟩|refine⟨_,rfl,?_⟩|((with_reducible show _=_);rfl))
      all_goals try((with_reducible refine Obl.mk ?_);exact KP)
      all_goals try exact KX
      all_goals try(exfalso;rw[hq]at h;cases h;done)
      all_goals try exact⟨⟨by simp <;> omega,by simp <;> omega⟩⟩
      conv=>whnf
      refine⟨⟨k+1,by omega⟩,?_,by dsimp only;omega⟩
      repeat' ((conv=>whnf);first|(with_reducible first|apply Wx|apply W6)|apply oi|(apply fi<;>intro h)|refine⟨_,rfl,?_⟩|((with_reducible show _=_);rfl))
      all_goals try((with_reducible refine Obl.mk ?_);exact KP)
      all_goals try exact⟨KW⟩
      all_goals exact⟨by dsimp only;rw[hht];simp[List.append_assoc,intRow]⟩
     | false=>
      rw[hq,if_neg (by simp)]at hht
      repeat' ((conv=>whnf);first|(with_reducible first|apply Wx|apply W6)|apply oi|(apply fi<;>intro h)|refine cl gF ?_|refine⟨j,rfl,hjl,?_⟩|refine⟨_,him,?_⟩|refine⟨k,y.tr,rfl,hyt,?_⟩|refine⟨f,rfl,hfr,?_⟩|refine⟨_,hfg,?_⟩|refine⟨g,ln.tr,rfl,map_get hln,?_⟩|refine⟨j,rfl,hjb,?_⟩|refine⟨_,hbase,?_⟩|refine⟨_,rfl,?_⟩|((with_reducible show _=_);rfl))
      all_goals try((with_reducible refine Obl.mk ?_);exact KP)
      all_goals try exact KX
      all_goals try(exfalso;rw[hq]at h;cases h;done)
      conv=>whnf
      refine⟨⟨k+1,by omega⟩,?_,by dsimp only;omega⟩
      repeat' ((conv=>whnf);first|(with_reducible first|apply Wx|apply W6)|apply oi|(apply fi<;>intro h)|refine⟨_,rfl,?_⟩|((with_reducible show _=_);rfl))
      all_goals try((with_reducible refine Obl.mk ?_);exact KP)
      all_goals try exact⟨KW⟩
      all_goals exact⟨by dsimp only;rw[hht,List.append_nil]⟩
    ·obtain rfl:k=im.fSymbols.length:=by omega
     rw[List.take_of_length_le (Nat.le_refl _),←hes]
     repeat' ((conv=>whnf);first|(with_reducible first|apply Wx|apply W6)|apply oi|(apply fi<;>intro h)|refine⟨j,rfl,hjl,?_⟩|refine⟨_,him,?_⟩|refine⟨_,rfl,?_⟩|((with_reducible show _=_);rfl))
     all_goals try((with_reducible refine Obl.mk ?_);exact KP)
     all_goals try exact KX
     conv=>whnf
     refine⟨⟨f+1,by omega⟩,?_,by dsimp only;omega⟩
     repeat' ((conv=>whnf);first|(with_reducible first|apply Wx|apply W6)|apply oi|(apply fi<;>intro h)|refine⟨_,rfl,?_⟩|((with_reducible show _=_);rfl))
     all_goals try((with_reducible refine Obl.mk ?_);exact KP)
     all_goals try exact⟨KW⟩
   ·obtain rfl:f=(funs p).length:=by omega
    rw[hall]
    cases hso:spaceOk cd with
    | true=>
     rw[hso]at hsp
     rw[if_pos rfl]
     rw[hcand]at hsp
     simp only[oSp,hcand]
     repeat' ((conv=>whnf);first|(with_reducible first|apply Wx|apply W6)|apply oi|(apply fi<;>intro h)|refine cl gF ?_|refine cl hsp ?_|refine⟨_,rfl,?_⟩|((with_reducible show _=_);rfl))
     all_goals try((with_reducible refine Obl.mk ?_);exact KP)
     all_goals try exact KX
    | false=>
     rw[hso]at hsp
     rw[if_neg (by simp)]
     rw[hcand]at hsp
     repeat' ((conv=>whnf);first|(with_reducible first|apply Wx|apply W6)|apply oi|(apply fi<;>intro h)|refine cl gF ?_|refine cl hsp ?_|refine⟨_,rfl,?_⟩|((with_reducible show _=_);rfl))
     all_goals try((with_reducible refine Obl.mk ?_);exact KP)
     all_goals try exact KX
end Go.Proofs.YtjmplnfiabmalaaGreat
namespace Go.Proofs.YtjmplnfiabmalaaGreat
open Go.Sim
set_option maxRecDepth 100000
set_option maxHeartbeats 4000000
def toks8 (R:List TTok)(d:Nat):Prop:=0 < R.length∧R.length≤5 ^ d∧∀t∈R,t.fName.length≤8
abbrev exIn (vars:List (List UInt8))(c:TCur):List (Sim.Id×AO):=curH c++[((0,0,1),.arr false 1 (vars.map strRow))]
abbrev exArgs (m:Int)(names:List (List UInt8))(ars:List Int):List AV:=[curP,tI .i64 m,.r (.c (.own (0,0,1))),vN names,.r (.c (.t (.lst 1 (ars.map intRow))))]
abbrev exOut (vars:List (List UInt8))(c:TCur)(R:List TTok):List (Sim.Id×AO):=exIn vars c++[((1,0,0),.arr false 3 (R.map TTok.tr))]
theorem pow5_pos (d:Nat):1≤5 ^ d:=Nat.one_le_pow _ _ (by omega)
theorem pow5_le {d:Nat}(h:d≤8):5 ^ d≤390625:=Nat.pow_le_pow_right (n:=5) (by omega) h
theorem quart_lt {m:Int}{d:Nat}(h0:0≤m)(h1:m < 2 ^ (d+1))(hb:m≤1000):0≤IntKind.i64.wrap (m.tdiv 4)∧IntKind.i64.wrap (m.tdiv 4) < 2 ^ d∧IntKind.i64.wrap (m.tdiv 4)≤1000:=by
 rw[Int.tdiv_eq_ediv_of_nonneg h0,IntWalk.i64_in _ (by omega)]
 have:(2:Int) ^ (d+1)=2 * 2 ^ d:=by rw[Int.pow_succ];omega
 omega
def ExChain (P:TCur→List TTok→TCur→Prop)(d:Nat):Nat→TCur→List TTok→TCur→List TTok→Prop
 | 0,c,acc,c',acc'=>c'=c∧acc'=acc
 | k+1,c,acc,c',acc'=>∃R c1,toks8 R d∧c1.b=c.b∧c1.ok∧P c R c1∧ExChain P d k c1 (acc++R) c' acc'
theorem chain_ex {P:TCur→List TTok→TCur→Prop}{d:Nat}(ih:∀c:TCur,c.ok→∃R c1,toks8 R d∧c1.b=c.b∧c1.ok∧P c R c1):∀(k:Nat) (c:TCur) (acc:List TTok),c.ok→∃c' acc',ExChain P d k c acc c' acc'
 | 0,c,acc,_=>⟨c,acc,rfl,rfl⟩
 | k+1,c,acc,hc=>by
  obtain⟨R,c1,h1,h2,h3,h4⟩:=ih c hc
  obtain⟨c',acc',h5⟩:=chain_ex ih k c1 (acc++R) h3
  exact⟨c',acc',R,c1,h1,h2,h3,h4,h5⟩
theorem chain_props {P:TCur→List TTok→TCur→Prop}{d:Nat}:∀{k:Nat} {c c':TCur} {acc acc':List TTok},ExChain P d k c acc c' acc'→c.ok→c'.b=c.b∧c'.ok∧acc.length≤acc'.length∧acc'.length≤acc.length+k * 5 ^ d∧((∀t∈acc,t.fName.length≤8)→∀t∈acc',t.fName.length≤8)
 | 0,c,c',acc,acc',h,hc=>by
  obtain⟨rfl,rfl⟩:=h
  exact⟨rfl,hc,Nat.le_refl _,by omega,fun h=>h⟩
 | k+1,c,c',acc,acc',h,hc=>by
  obtain⟨R,c1,h1,h2,h3,_,h5⟩:=h
  obtain⟨g1,g2,g3,g4,g5⟩:=chain_props h5 h3
  rw[List.length_append]at g3 g4
  have hR:=h1.2.1
  refine⟨g1.trans h2,g2,by omega,by rw[Nat.add_mul];omega,fun H=>g5 fun t ht=>?_⟩
  rcases List.mem_append.1 ht with ht|ht
  ·exact H t ht
  ·exact h1.2.2 t ht
theorem half_lt {m:Int}{d:Nat}(h0:0≤m)(h1:m < 2 ^ (d+1))(hb:m≤1000):0≤IntKind.i64.wrap (m.tdiv 2)∧IntKind.i64.wrap (m.tdiv 2) < 2 ^ d∧IntKind.i64.wrap (m.tdiv 2)≤1000:=by
 rw[Int.tdiv_eq_ediv_of_nonneg h0,IntWalk.i64_in _ (by omega)]
 have:(2:Int) ^ (d+1)=2 * 2 ^ d:=by rw[Int.pow_succ];omega
 omega
theorem g_spec_l02Expr (vars names:List (List UInt8))(ars:List Int)(hv:vars.length≤100)(hn:names.length≤100)(ha:ars.length=names.length)(ha4:∀a∈ars,0≤a∧a≤4)(hv8:∀s∈vars,s.length≤8)(hn8:∀s∈names,s.length≤8):
  ∀(d:Nat) (m:Int) (c:TCur),d≤8→0≤m→m < 2 ^ d→m≤1000→c.ok→∃(R:List TTok) (c':TCur),toks8 R d∧c'.b=c.b∧c'.ok∧SpecG Tryz.prog 240 (exArgs m names ars) (exIn vars c) (.r (.c (.own (1,0,0)))) (exOut vars c' R)
 | d,m,c,hd,h0,h1,hm,hc=>by
  have p5d:=pow5_le hd
  have hvl:(vars.map strRow).length=vars.length:=by simp
  have hnl:(names.map strRow).length=names.length:=by simp
  obtain⟨k,c1,k1,_,b1,o1,g1⟩:=g_spec_l01Below c 10 hc
  by_cases hbin:2 < m∧k < 5
  ·cases d with
   | zero=>omega
   | succ d=>
    obtain⟨kd,c2,k2,_,b2,o2,g2⟩:=g_spec_l01Below c1 5 o1
    obtain⟨q1,q2,q3⟩:=half_lt h0 h1 hm
    obtain⟨R3,c3,t3,b3,o3,g3⟩:=g_spec_l02Expr vars names ars hv hn ha ha4 hv8 hn8 d _ c2 (by omega) q1 q2 q3 o2
    obtain⟨R4,c4,t4,b4,o4,g4⟩:=g_spec_l02Expr vars names ars hv hn ha ha4 hv8 hn8 d _ c3 (by omega) q1 q2 q3 o3
    have p5:=pow5_pos d
    have p5':5 ^ (d+1)=5 * 5 ^ d:=by rw[Nat.pow_succ];omega
    have t3l:=t3.2.1
    have t4l:=t4.2.1
    refine⟨⟨2+kd,0,[]⟩::(R3++R4),c4,⟨by simp,?_,?_⟩,((b4.trans b3).trans b2).trans b1,o4,?_⟩
    ·have:=t3.2.1
     have:=t4.2.1
     rw[List.length_cons,List.length_append]
     omega
    ·intro t ht
     rcases List.mem_cons.1 ht with rfl|ht
     ·simp
     ·rcases List.mem_append.1 ht with ht|ht
      ·exact t3.2.2 t ht
      ·exact t4.2.2 t ht
    ·refine specG_of_Wo hΓ hmix Tryz.func240 rfl (by decide) rfl rfl ?_
     repeat' ((conv=>whnf);first|(with_reducible first|apply Wx|apply W6)|apply oi|(apply fi<;>intro h)|refine⟨_,rfl,?_⟩|((with_reducible show _=_);rfl))
     all_goals try((with_reducible refine Obl.mk ?_);exact KP)
     refine cg (g1) ?_
     repeat' ((conv=>whnf);first|(with_reducible first|apply Wx|apply W6)|apply oi|(apply fi<;>intro h)|refine⟨_,rfl,?_⟩|((with_reducible show _=_);rfl))
     all_goals try((with_reducible refine Obl.mk ?_);exact KP)
     all_goals try exact KX
     all_goals try(exfalso;simp at h;omega)
     refine cg (g2) ?_
     repeat' ((conv=>whnf);first|(with_reducible first|apply Wx|apply W6)|apply oi|(apply fi<;>intro h)|refine⟨_,rfl,?_⟩|((with_reducible show _=_);rfl))
     all_goals try((with_reducible refine Obl.mk ?_);exact KP)
     refine cg (g3) ?_
     repeat' ((conv=>whnf);first|(with_reducible first|apply Wx|apply W6)|apply oi|(apply fi<;>intro h)|refine⟨_,rfl,?_⟩|((with_reducible show _=_);rfl))
     all_goals try((with_reducible refine Obl.mk ?_);exact KP)
     all_goals try exact⟨⟨by simp <;> omega,by simp <;> omega⟩⟩
     refine cg (g4) ?_
     repeat' ((conv=>whnf);first|(with_reducible first|apply Wx|apply W6)|apply oi|(apply fi<;>intro h)|refine⟨_,rfl,?_⟩|((with_reducible show _=_);rfl))
     all_goals try((with_reducible refine Obl.mk ?_);exact KP)
     all_goals try exact⟨⟨by simp <;> omega,by simp <;> omega⟩⟩
     all_goals exact⟨by rw[IntWalk.i64_in _ (by omega)];simp[TTok.tr]⟩
  ·by_cases hcall:0 < names.length∧1 < m∧k < 8
   ·cases d with
    | zero=>omega
    | succ d=>
     obtain⟨hc1,hc2,hc3⟩:=hcall
     obtain⟨f,c2,kf,_,b2,o2,g2⟩:=g_spec_l01Below c1 ((names.map strRow).length:Int) o1
     rw[hnl]at kf
     have hfn:f < names.length:=by have:=kf (by omega);omega
     obtain⟨nm,hnm⟩:=get_of_lt hfn
     obtain⟨a,haf⟩:=get_of_lt (l:=ars) (k:=f) (by omega)
     have hab:=ha4 a (List.mem_of_getElem? haf)
     obtain⟨an,rfl⟩:=Int.eq_ofNat_of_zero_le hab.1
     obtain⟨q1,q2,q3⟩:=quart_lt h0 h1 hm
     have ih:=fun c hc=>g_spec_l02Expr vars names ars hv hn ha ha4 hv8 hn8 d (IntKind.i64.wrap (m.tdiv 4)) c (by omega) q1 q2 q3 hc
     have p5:=pow5_pos d
     have p5':5 ^ (d+1)=5 * 5 ^ d:=by rw[Nat.pow_succ];omega
     obtain⟨c',R,hch⟩:=chain_ex (P:=fun c R c'=>SpecG Tryz.prog 240 (exArgs (IntKind.i64.wrap (m.tdiv 4)) names ars) (exIn vars c) (.r (.c (.own (1,0,0)))) (exOut vars c' R)) (d:=d) ih an c2 [⟨7,an,nm⟩] o2
     have hcp:=chain_props hch o2
     refine⟨R,c',⟨by have:=hcp.2.2.1;simp at this;omega,by have:=hcp.2.2.2.1;have h4:an * 5 ^ d≤4 * 5 ^ d:=Nat.mul_le_mul_right _ (by omega);simp at this;omega,hcp.2.2.2.2 (by intro t ht;simp at ht;subst ht;exact hn8 nm (List.mem_of_getElem? hnm))⟩,(hcp.1.trans b2).trans b1,hcp.2.1,?_⟩
     refine specG_of_Wo hΓ hmix Tryz.func240 rfl (by decide) rfl rfl ?_
     repeat' ((conv=>whnf);first|(with_reducible first|apply Wx|apply W6)|apply oi|(apply fi<;>intro h)|refine⟨_,rfl,?_⟩|((with_reducible show _=_);rfl))
     all_goals try((with_reducible refine Obl.mk ?_);exact KP)
     refine cg (g1) ?_
     repeat' ((conv=>whnf);first|(with_reducible first|apply Wx|apply W6)|apply oi|(apply fi<;>intro h)|refine⟨_,rfl,?_⟩|((with_reducible show _=_);rfl))
     all_goals try((with_reducible refine Obl.mk ?_);exact KP)
     all_goals try exact KX
     all_goals(
      refine cg (g2) ?_
      have hci:(ars.map intRow).length=ars.length:=by simp
      repeat' ((conv=>whnf);first|(with_reducible first|apply Wx|apply W6)|apply oi|(apply fi<;>intro h)|refine⟨f,(intRow an),rfl,map_get haf,?_⟩|refine⟨f,(strRow nm),rfl,map_get hnm,?_⟩|refine⟨_,rfl,?_⟩|((with_reducible show _=_);rfl))
      all_goals try((with_reducible refine Obl.mk ?_);exact KP)
      conv=>whnf
      refine⟨{q:Nat×TCur×List TTok // q.1≤an∧q.2.1.ok∧q.2.2.length≤1+q.1 * 5 ^ d∧ExChain (fun c R c'=>SpecG Tryz.prog 240 (exArgs (IntKind.i64.wrap (m.tdiv 4)) names ars) (exIn vars c) (.r (.c (.own (1,0,0)))) (exOut vars c' R)) d (an - q.1) q.2.1 q.2.2 c' R},fun q=>⟨[(0,curP),(1,tI .i64 m),(2,.r (.c (.own (0,0,1)))),(3,vN names),(4,.r (.c (.t (.lst 1 (ars.map intRow))))),(13,tI .i64 (f:Int)),(14,.r (.c (.own (14,0,0)))),(15,tI .i64 (q.1.1:Int))],[((0,0,0),some (.box [.t (.lst 1 (q.1.2.1.b.map byteRow)),.t (.int .i64 q.1.2.1.i),.t (.int .i64 q.1.2.1.h)])),((0,0,1),some (.arr false 1 (vars.map strRow))),((14,0,0),some (.arr false 3 (q.1.2.2.map TTok.tr)))],[14,0]⟩,fun q=>an - q.1.1,⟨(0,c2,[⟨7,an,nm⟩]),by dsimp only;omega,o2,by simp,hch⟩,?_,?_⟩
      ·skip
       repeat' ((conv=>whnf);first|(with_reducible first|apply Wx|apply W6)|apply oi|(apply fi<;>intro h)|refine⟨_,rfl,?_⟩|((with_reducible show _=_);rfl))
       all_goals try((with_reducible refine Obl.mk ?_);exact KP)
      intro⟨⟨i,ci,acc⟩,r1,r2,r3,r4⟩
      dsimp only at r1 r2 r3 r4 ⊢
      by_cases hlt:i < an
      ·obtain⟨w,hw⟩:∃w,an - i=w+1:=⟨an - i - 1,by omega⟩
       rw[hw]at r4
       obtain⟨R5,c5,t5,b5,o5,g5,r5⟩:=r4
       have t5l:=t5.2.1
       have i5:i * 5 ^ d≤4 * 5 ^ d:=Nat.mul_le_mul_right _ (by omega)
       have i6:(i+1) * 5 ^ d=i * 5 ^ d+5 ^ d:=by rw[Nat.add_mul];omega
       repeat' ((conv=>whnf);first|(with_reducible first|apply Wx|apply W6)|apply oi|(apply fi<;>intro h)|refine⟨f,(intRow an),rfl,map_get haf,?_⟩|refine⟨_,rfl,?_⟩|((with_reducible show _=_);rfl))
       all_goals try((with_reducible refine Obl.mk ?_);exact KP)
       all_goals try exact KX
       refine cg (g5) ?_
       repeat' ((conv=>whnf);first|(with_reducible first|apply Wx|apply W6)|apply oi|(apply fi<;>intro h)|refine⟨_,rfl,?_⟩|((with_reducible show _=_);rfl))
       all_goals try((with_reducible refine Obl.mk ?_);exact KP)
       all_goals try exact⟨⟨by simp <;> omega,by simp <;> omega⟩⟩
       conv=>whnf
       refine⟨⟨(i+1,c5,acc++R5),by dsimp only;omega,o5,by simp;omega,by rw[show an - (i+1)=w by omega];exact r5⟩,?_,by dsimp only;omega⟩
       repeat' ((conv=>whnf);first|(with_reducible first|apply Wx|apply W6)|apply oi|(apply fi<;>intro h)|refine⟨_,rfl,?_⟩|((with_reducible show _=_);rfl))
       all_goals try((with_reducible refine Obl.mk ?_);exact KP)
       all_goals try exact⟨K2⟩
       all_goals exact⟨by simp⟩
      ·rw[show an - i=0 by omega]at r4
       obtain⟨rfl,rfl⟩:=r4
       repeat' ((conv=>whnf);first|(with_reducible first|apply Wx|apply W6)|apply oi|(apply fi<;>intro h)|refine⟨f,(intRow an),rfl,map_get haf,?_⟩|refine⟨_,rfl,?_⟩|((with_reducible show _=_);rfl))
       all_goals try((with_reducible refine Obl.mk ?_);exact KP)
       all_goals try exact KX
     )
   ·have pick:∀c:TCur,c.ok→∃(v:Int) (c':TCur),c'.b=c.b∧c'.ok∧SpecG Tryz.prog 147 [curP,.r (.c (.own (0,0,1)))] (curH c++[((0,0,1),.arr false 1 (([0,1,2,3,10,999]:List Int).map intRow))]) (tI .i64 v) (curH c'++[((0,0,1),.arr false 1 (([0,1,2,3,10,999]:List Int).map intRow))]):=fun c hc=>by
     obtain⟨v,c',_,b,o,g⟩:=g_spec_l01PickIntO c [0,1,2,3,10,999] hc (by decide) (by decide)
     exact⟨v,c',b,o,g⟩
    have p5:=pow5_pos d
    have hsk:∀(t:TTok),t.fName.length≤8→toks8 [t] d:=fun t ht=>⟨by simp,by simpa using p5,by intro u hu;simp at hu;subst hu;exact ht⟩
    by_cases hvar:0 < vars.length
    ·obtain⟨o,c2,b2,o2,g2⟩:=g_spec_l01Once c1 2 o1
     cases o with
     | true=>
      obtain⟨f,c3,kf,_,b3,o3,g3⟩:=g_spec_l01Below c2 ((vars.map strRow).length:Int) o2
      rw[hvl]at kf
      have hfn:f < vars.length:=by have:=kf (by omega);omega
      obtain⟨nm,hnm⟩:=get_of_lt hfn
      have hfl:f < (vars.map strRow).length:=by rw[hvl];exact hfn
      refine⟨[⟨1,0,nm⟩],c3,hsk _ (hv8 nm (List.mem_of_getElem? hnm)),(b3.trans b2).trans b1,o3,?_⟩
      refine specG_of_Wo hΓ hmix Tryz.func240 rfl (by decide) rfl rfl ?_
      repeat' ((conv=>whnf);first|(with_reducible first|apply Wx|apply W6)|apply oi|(apply fi<;>intro h)|refine⟨_,rfl,?_⟩|((with_reducible show _=_);rfl))
      all_goals try((with_reducible refine Obl.mk ?_);exact KP)
      refine cg (g1) ?_
      repeat' ((conv=>whnf);first|(with_reducible first|apply Wx|apply W6)|apply oi|(apply fi<;>intro h)|refine⟨_,rfl,?_⟩|((with_reducible show _=_);rfl))
      all_goals try((with_reducible refine Obl.mk ?_);exact KP)
      all_goals try exact KX
      all_goals try(exfalso;simp at h;omega)
      all_goals(
       refine cg (g2) ?_
       repeat' ((conv=>whnf);first|(with_reducible first|apply Wx|apply W6)|apply oi|(apply fi<;>intro h)|refine⟨_,rfl,?_⟩|((with_reducible show _=_);rfl))
       all_goals try((with_reducible refine Obl.mk ?_);exact KP)
       refine cg (g3) ?_
       repeat' ((conv=>whnf);first|(with_reducible first|apply Wx|apply W6)|apply oi|(apply fi<;>intro h)|refine⟨f,rfl,hfl,?_⟩|refine⟨(strRow nm),map_get hnm,?_⟩|refine⟨_,rfl,?_⟩|((with_reducible show _=_);rfl))
       all_goals try((with_reducible refine Obl.mk ?_);exact KP)
      )
     | false=>
      obtain⟨v,c3,b3,o3,g3⟩:=pick c2 o2
      refine⟨[⟨0,v,[]⟩],c3,hsk _ (by simp),(b3.trans b2).trans b1,o3,?_⟩
      refine specG_of_Wo hΓ hmix Tryz.func240 rfl (by decide) rfl rfl ?_
      repeat' ((conv=>whnf);first|(with_reducible first|apply Wx|apply W6)|apply oi|(apply fi<;>intro h)|refine⟨_,rfl,?_⟩|((with_reducible show _=_);rfl))
      all_goals try((with_reducible refine Obl.mk ?_);exact KP)
      refine cg (g1) ?_
      repeat' ((conv=>whnf);first|(with_reducible first|apply Wx|apply W6)|apply oi|(apply fi<;>intro h)|refine⟨_,rfl,?_⟩|((with_reducible show _=_);rfl))
      all_goals try((with_reducible refine Obl.mk ?_);exact KP)
      all_goals try exact KX
      all_goals try(exfalso;simp at h;omega)
      all_goals(
       refine cg (g2) ?_
       repeat' ((conv=>whnf);first|(with_reducible first|apply Wx|apply W6)|apply oi|(apply fi<;>intro h)|refine⟨_,rfl,?_⟩|((with_reducible show _=_);rfl))
       all_goals try((with_reducible refine Obl.mk ?_);exact KP)
       refine cg (g3) ?_
       repeat' ((conv=>whnf);first|(with_reducible first|apply Wx|apply W6)|apply oi|(apply fi<;>intro h)|refine⟨_,rfl,?_⟩|((with_reducible show _=_);rfl))
       all_goals try((with_reducible refine Obl.mk ?_);exact KP)
      )
    ·obtain⟨v,c3,b3,o3,g3⟩:=pick c1 o1
     refine⟨[⟨0,v,[]⟩],c3,hsk _ (by simp),b3.trans b1,o3,?_⟩
     refine specG_of_Wo hΓ hmix Tryz.func240 rfl (by decide) rfl rfl ?_
     repeat' ((conv=>whnf);first|(with_reducible first|apply Wx|apply W6)|apply oi|(apply fi<;>intro h)|refine⟨_,rfl,?_⟩|((with_reducible show _=_);rfl))
     all_goals try((with_reducible refine Obl.mk ?_);exact KP)
     refine cg (g1) ?_
     repeat' ((conv=>whnf);first|(with_reducible first|apply Wx|apply W6)|apply oi|(apply fi<;>intro h)|refine⟨_,rfl,?_⟩|((with_reducible show _=_);rfl))
     all_goals try((with_reducible refine Obl.mk ?_);exact KP)
     all_goals try exact KX
     all_goals try(exfalso;simp at h;omega)
     all_goals(
      refine cg (g3) ?_
      repeat' ((conv=>whnf);first|(with_reducible first|apply Wx|apply W6)|apply oi|(apply fi<;>intro h)|refine⟨_,rfl,?_⟩|((with_reducible show _=_);rfl))
      all_goals try((with_reducible refine Obl.mk ?_);exact KP)
     )
termination_by d=>d
end Go.Proofs.YtjmplnfiabmalaaGreat
namespace Go.Proofs.YtjmplnfiabmalaaGreat
open Go.Sim
set_option maxRecDepth 100000
set_option maxHeartbeats 4000000
def hashS (h:Int)(u:UInt8):Int:=IntKind.i64.wrap ((BitVec.ofInt IntKind.i64.bits (IntKind.i64.wrap (IntKind.i64.wrap (IntKind.i64.wrap (h * 131)+IntKind.i64.wrap (u.toNat:Int))+7)) &&& BitVec.ofInt IntKind.i64.bits 1073741823).toNat:Int)
def hashC (code:List UInt8):Int:=(code.take 4000).foldl hashS (IntKind.i64.wrap (33147+((code.map byteRow).length:Int)))
theorem g_spec_l01New (code:List UInt8)(hl:code.length≤1048576):SpecG Tryz.prog 69 [.r (.c (.t (.lst 1 (code.map byteRow))))] [] (.r (.c (.ptr (1,0,0) 0))) [((1,0,0),.box [.t (.lst 1 (code.map byteRow)),.t (.int .i64 0),.t (.int .i64 (hashC code))])]:=by
 refine specG_of_Wo hΓ hmix Tryz.func69 rfl (by decide) rfl rfl ?_
 have hlen:(code.map byteRow).length=code.length:=by simp
 obtain⟨H,hH⟩:∃H,hashC code=H:=⟨_,rfl⟩
 rw[hH]
 have ht:(code.take 4000).length≤4000:=by simp;omega
 repeat' ((conv=>whnf);first|(with_reducible first|apply Wx|apply W6)|apply oi|(apply fi<;>intro h)|refine⟨_,rfl,?_⟩|((with_reducible show _=_);rfl))
 all_goals try((with_reducible refine Obl.mk ?_);exact KP)
 conv=>whnf
 refine⟨{q:Nat×Int // q.1≤code.length∧((code.take 4000).drop q.1).foldl hashS q.2=H},fun q=>⟨[(0,.r (.c (.t (.lst 1 (code.map byteRow))))),(3,tI .i64 q.1.2),(4,tI .i64 (q.1.1:Int))],[],[0]⟩,fun q=>code.length - q.1.1,⟨(0,IntKind.i64.wrap (33147+((code.map byteRow).length:Int))),by dsimp only;omega,hH⟩,?_,?_⟩
 ·skip
  repeat' ((conv=>whnf);first|(with_reducible first|apply Wx|apply W6)|apply oi|(apply fi<;>intro h)|refine⟨_,rfl,?_⟩|((with_reducible show _=_);rfl))
  all_goals try((with_reducible refine Obl.mk ?_);exact KP)
 intro⟨⟨i,hv⟩,hi,hr⟩
 dsimp only at hi hr ⊢
 by_cases hlt:i < code.length∧i < 4000
 ·obtain⟨u,hu⟩:=get_of_lt hlt.1
  rw[drop_at (x:=u) (by rw[List.getElem?_take,if_pos hlt.2];exact hu),List.foldl_cons]at hr
  repeat' ((conv=>whnf);first|(with_reducible first|apply Wx|apply W6)|apply oi|(apply fi<;>intro h)|refine⟨i,(byteRow u),rfl,map_get hu,?_⟩|refine⟨_,rfl,?_⟩|((with_reducible show _=_);rfl))
  all_goals try((with_reducible refine Obl.mk ?_);exact KP)
  all_goals try exact KX
  conv=>whnf
  refine⟨⟨(i+1,hashS hv u),by dsimp only;omega,hr⟩,?_,by dsimp only;omega⟩
  repeat' ((conv=>whnf);first|(with_reducible first|apply Wx|apply W6)|apply oi|(apply fi<;>intro h)|refine⟨_,rfl,?_⟩|((with_reducible show _=_);rfl))
  all_goals try((with_reducible refine Obl.mk ?_);exact KP)
  all_goals try exact⟨K2⟩
  all_goals exact⟨rfl⟩
 ·rw[List.drop_eq_nil_of_le (by simp;omega)]at hr
  have hr:hv=H:=hr
  subst hr
  repeat' ((conv=>whnf);first|(with_reducible first|apply Wx|apply W6)|apply oi|(apply fi<;>intro h)|refine⟨_,rfl,?_⟩|((with_reducible show _=_);rfl))
  all_goals try((with_reducible refine Obl.mk ?_);exact KP)
  all_goals try exact KX
end Go.Proofs.YtjmplnfiabmalaaGreat
namespace Go.Proofs.YtjmplnfiabmalaaGreat
open Go.Sim
set_option maxRecDepth 100000
set_option maxHeartbeats 4000000
abbrev genH (vars names:List (List UInt8))(ars:List Int)(c:TCur):List (Sim.Id×AO):=[((0,0,0),.box [.ptr (0,0,1) 0,.own (0,0,2),.t (.lst 1 (names.map strRow)),.t (.lst 1 (ars.map intRow))]),((0,0,1),.box [.t (.lst 1 (c.b.map byteRow)),.t (.int .i64 c.i),.t (.int .i64 c.h)]),((0,0,2),.arr false 1 (vars.map strRow))]
theorem g_spec_l03GenExpr (vars names:List (List UInt8))(ars:List Int)(hv:vars.length≤100)(hn:names.length≤100)(ha:ars.length=names.length)(ha4:∀a∈ars,0≤a∧a≤4)(hv8:∀s∈vars,s.length≤8)(hn8:∀s∈names,s.length≤8)
  (d:Nat) (m:Int) (c:TCur) (hd:d≤8) (h0:0≤m) (h1:m < 2 ^ d) (hm:m≤1000) (hc:c.ok):∃(R:List TTok) (c':TCur),toks8 R d∧c'.b=c.b∧c'.ok∧SpecG Tryz.prog 202 [curP,tI .i64 m] (genH vars names ars c) (.r (.c (.own (1,0,0)))) (genH vars names ars c'++[((1,0,0),.arr false 3 (R.map TTok.tr))]):=by
 obtain⟨R,c',t1,b1,o1,g1⟩:=g_spec_l02Expr vars names ars hv hn ha ha4 hv8 hn8 d m c hd h0 h1 hm hc
 refine⟨R,c',t1,b1,o1,?_⟩
 refine specG_of_Wo hΓ hmix Tryz.func202 rfl (by decide) rfl rfl ?_
 repeat' ((conv=>whnf);first|(with_reducible first|apply Wx|apply W6)|apply oi|(apply fi<;>intro h)|refine⟨_,rfl,?_⟩|((with_reducible show _=_);rfl))
 all_goals try((with_reducible refine Obl.mk ?_);exact KP)
 refine cg (g1) ?_
 repeat' ((conv=>whnf);first|(with_reducible first|apply Wx|apply W6)|apply oi|(apply fi<;>intro h)|refine⟨_,rfl,?_⟩|((with_reducible show _=_);rfl))
 all_goals try((with_reducible refine Obl.mk ?_);exact KP)
end Go.Proofs.YtjmplnfiabmalaaGreat
namespace Go.Proofs.YtjmplnfiabmalaaGreat
open Go.Sim
set_option maxRecDepth 100000
set_option maxHeartbeats 4000000
noncomputable section
open Classical (propDecidable)
attribute [local instance] propDecidable
def belV (n:Int)(c:TCur):Nat×TCur:=if h:c.ok then(Classical.choose (g_spec_l01Below c n h),Classical.choose (Classical.choose_spec (g_spec_l01Below c n h)))else(0,c)
theorem belV_spec {c:TCur}(h:c.ok)(n:Int):(0 < n→((belV n c).1:Int) < n)∧(belV n c).2.b=c.b∧(belV n c).2.ok∧SpecG Tryz.prog 146 [curP,tI .i64 n] (curH c) (tI .i64 (belV n c).1) (curH (belV n c).2):=by
 rw[belV,dif_pos h]
 have:=Classical.choose_spec (Classical.choose_spec (g_spec_l01Below c n h))
 exact⟨this.1,this.2.2.1,this.2.2.2.1,this.2.2.2.2⟩
def onceV (n:Int)(c:TCur):Bool×TCur:=if h:c.ok then(Classical.choose (g_spec_l01Once c n h),Classical.choose (Classical.choose_spec (g_spec_l01Once c n h)))else(false,c)
theorem onceV_spec {c:TCur}(h:c.ok)(n:Int):(onceV n c).2.b=c.b∧(onceV n c).2.ok∧SpecG Tryz.prog 148 [curP,tI .i64 n] (curH c) (tB (onceV n c).1) (curH (onceV n c).2):=by
 rw[onceV,dif_pos h]
 exact Classical.choose_spec (Classical.choose_spec (g_spec_l01Once c n h))
structure GP where
 vars:List (List UInt8)
 names:List (List UInt8)
 ars:List Int
structure GP.ok (G:GP):Prop where
 v1:0 < G.vars.length
 v:G.vars.length≤100
 n:G.names.length≤100
 a:G.ars.length=G.names.length
 a4:∀a∈G.ars,0≤a∧a≤4
 v8:∀s∈G.vars,s.length≤8
 n8:∀s∈G.names,s.length≤8
abbrev gH (G:GP)(c:TCur):List (Sim.Id×AO):=genH G.vars G.names G.ars c
theorem gex {G:GP}(hG:G.ok){c:TCur}(hc:c.ok)(m:Nat)(hm:m < 8):∃(R:List TTok) (c':TCur),toks8 R 3∧c'.b=c.b∧c'.ok∧SpecG Tryz.prog 202 [curP,tI .i64 (m:Int)] (gH G c) (.r (.c (.own (1,0,0)))) (gH G c'++[((1,0,0),.arr false 3 (R.map TTok.tr))]):=
 g_spec_l03GenExpr G.vars G.names G.ars hG.v hG.n hG.a hG.a4 hG.v8 hG.n8 3 (m:Int) c (by omega) (by omega) (by show(m:Int) < 8;omega) (by omega) hc
def exV (G:GP)(m:Nat)(c:TCur):List TTok×TCur:=if h:G.ok∧c.ok∧m < 8 then(Classical.choose (gex h.1 h.2.1 m h.2.2),Classical.choose (Classical.choose_spec (gex h.1 h.2.1 m h.2.2)))else([],c)
theorem exV_spec {G:GP}(hG:G.ok){c:TCur}(hc:c.ok)(m:Nat)(hm:m < 8):toks8 (exV G m c).1 3∧(exV G m c).2.b=c.b∧(exV G m c).2.ok∧SpecG Tryz.prog 202 [curP,tI .i64 (m:Int)] (gH G c) (.r (.c (.own (1,0,0)))) (gH G (exV G m c).2++[((1,0,0),.arr false 3 ((exV G m c).1.map TTok.tr))]):=by
 rw[exV,dif_pos ⟨hG,hc,hm⟩]
 exact Classical.choose_spec (Classical.choose_spec (gex hG hc m hm))
def stepV (G:GP)(rc:Nat→TCur→List TLine×TCur)(dp:Bool)(c:TCur):List TLine×TCur:=
 let k:=(belV 9 c).1
 let c1:=(belV 9 c).2
 if k < 4 then
  let v:=belV G.vars.length c1
  let e:=exV G 6 v.2
  ([⟨1,G.vars[v.1]?.getD [],[],e.1⟩],e.2)
 else if k < 6 then
  let e:=exV G 5 c1
  ([⟨2,[],[],e.1⟩],e.2)
 else if k=6∧dp=true then
  let e:=exV G 4 c1
  let t:=belV 2 e.2
  let B:=rc (1+t.1) t.2
  let o:=onceV 2 B.2
  if o.1=true then
   let E:=rc 1 o.2
   (⟨3,[],[],e.1⟩::(B.1++(⟨4,[],[],[]⟩::(E.1++[⟨7,[],[],[]⟩]))),E.2)
  else(⟨3,[],[],e.1⟩::(B.1++[⟨7,[],[],[]⟩]),o.2)
 else if k=7∧dp=true then
  let t:=belV 3 c1
  let B:=rc 1 t.2
  (⟨5,[],[],[⟨5,0,[]⟩,⟨1,0,[105]⟩,⟨0,(1+t.1:Nat),[]⟩]⟩::(B.1++[⟨1,[105],[],[⟨2,0,[]⟩,⟨1,0,[105]⟩,⟨0,1,[]⟩]⟩,⟨7,[],[],[]⟩]),B.2)
 else
  let o:=onceV 3 c1
  if o.1=true then
   let e:=exV G 4 o.2
   ([⟨6,[],[],e.1⟩],e.2)
  else([],o.2)
def runV (G:GP)(rc:Nat→TCur→List TLine×TCur)(dp:Bool):Nat→TCur→List TLine×TCur
 | 0,c=>([],c)
 | n+1,c=>((stepV G rc dp c).1++(runV G rc dp n (stepV G rc dp c).2).1,(runV G rc dp n (stepV G rc dp c).2).2)
def bodyV (G:GP):Nat→Nat→TCur→List TLine×TCur
 | 0=>runV G (fun _ c=>([],c)) false
 | d+1=>runV G (bodyV G d) true
end
def sB:Nat→Nat
 | 0=>1
 | d+1=>3+3 * sB d
structure BL (x:TLine):Prop where
 name:x.fName.length≤8
 args:x.fArgs=[]
 len:x.fExpr.length≤125
 tok:∀t∈x.fExpr,t.fName.length≤8
 kind:1≤x.fKind∧x.fKind≤7
structure RcOk (s:Nat) (rc:Nat→TCur→List TLine×TCur):Prop where
 len:∀n c,c.ok→(rc n c).1.length≤n * s
 b:∀n c,c.ok→(rc n c).2.b=c.b
 ok:∀n c,c.ok→(rc n c).2.ok
 bl:∀n c,c.ok→∀x∈(rc n c).1,BL x
theorem bl_ex {k:Int}{n:List UInt8}{e:List TTok}(hn:n.length≤8)(h:toks8 e 3)(hk:1≤k∧k≤7:=by omega):BL ⟨k,n,[],e⟩:=⟨hn,rfl,h.2.1,h.2.2,hk⟩
theorem bl_nil {k:Int}(hk:1≤k∧k≤7:=by omega):BL ⟨k,[],[],[]⟩:=⟨by simp,rfl,by simp,by simp,hk⟩
theorem step_ok {G:GP}(hG:G.ok){s:Nat}{rc:Nat→TCur→List TLine×TCur}{dp:Bool}(h:dp=true→RcOk s rc){c:TCur}(hc:c.ok):
  (stepV G rc dp c).1.length≤3+3 * s∧(dp=false→(stepV G rc dp c).1.length≤1)∧(stepV G rc dp c).2.b=c.b∧(stepV G rc dp c).2.ok∧∀x∈(stepV G rc dp c).1,BL x:=by
 obtain⟨k1,b1,o1,_⟩:=belV_spec hc 9
 unfold stepV
 dsimp only
 generalize(belV 9 c).1=k at *
 generalize(belV 9 c).2=c1 at *
 split
 ·obtain⟨k2,b2,o2,_⟩:=belV_spec o1 (G.vars.length:Int)
  obtain⟨t3,b3,o3,_⟩:=exV_spec hG o2 6 (by omega)
  refine⟨by simp;omega,fun _=>by simp,(b3.trans b2).trans b1,o3,fun x hx=>?_⟩
  simp only[List.mem_singleton]at hx
  subst hx
  refine bl_ex ?_ t3
  cases hv:G.vars[(belV (G.vars.length:Int) c1).1]? with
  | none=>simp
  | some v=>exact hG.v8 v (List.mem_of_getElem? hv)
 split
 ·obtain⟨t3,b3,o3,_⟩:=exV_spec hG o1 5 (by omega)
  refine⟨by simp;omega,fun _=>by simp,b3.trans b1,o3,fun x hx=>?_⟩
  simp only[List.mem_singleton]at hx
  subst hx
  exact bl_ex (by simp) t3
 split
 ·rename_i hk
  have hr:=h hk.2
  obtain⟨t3,b3,o3,_⟩:=exV_spec hG o1 4 (by omega)
  obtain⟨k4,b4,o4,_⟩:=belV_spec o3 2
  have hl:=hr.len (1+(belV 2 (exV G 4 c1).2).1) _ o4
  have hbb:=hr.b (1+(belV 2 (exV G 4 c1).2).1) _ o4
  have hob:=hr.ok (1+(belV 2 (exV G 4 c1).2).1) _ o4
  have hbl:=hr.bl (1+(belV 2 (exV G 4 c1).2).1) _ o4
  have k4':=k4 (by omega)
  have hl2:(rc (1+(belV 2 (exV G 4 c1).2).1) (belV 2 (exV G 4 c1).2).2).1.length≤2 * s:=Nat.le_trans hl (Nat.mul_le_mul_right _ (by omega))
  generalize rc (1+(belV 2 (exV G 4 c1).2).1) (belV 2 (exV G 4 c1).2).2=B at *
  obtain⟨b5,o5,_⟩:=onceV_spec hob 2
  split
  ·have hl3:=hr.len 1 _ o5
   have hb3:=hr.b 1 _ o5
   have ho3:=hr.ok 1 _ o5
   have hx3:=hr.bl 1 _ o5
   generalize rc 1 (onceV 2 B.2).2=E at *
   refine⟨by simp;omega,(fun e=>by rw[e]at hk;cases hk.2),((((hb3.trans b5).trans hbb).trans b4).trans b3).trans b1,ho3,fun x hx=>?_⟩
   simp only[List.mem_cons,List.mem_append,List.not_mem_nil,or_false]at hx
   rcases hx with rfl|hx|rfl|hx|rfl
   ·exact bl_ex (by simp) t3
   ·exact hbl x hx
   ·exact bl_nil
   ·exact hx3 x hx
   ·exact bl_nil
  ·refine⟨by simp;omega,(fun e=>by rw[e]at hk;cases hk.2),(((b5.trans hbb).trans b4).trans b3).trans b1,o5,fun x hx=>?_⟩
   simp only[List.mem_cons,List.mem_append,List.not_mem_nil,or_false]at hx
   rcases hx with rfl|hx|rfl
   ·exact bl_ex (by simp) t3
   ·exact hbl x hx
   ·exact bl_nil
 split
 ·rename_i hk
  have hr:=h hk.2
  obtain⟨k4,b4,o4,_⟩:=belV_spec o1 3
  have hl3:=hr.len 1 _ o4
  have hb3:=hr.b 1 _ o4
  have ho3:=hr.ok 1 _ o4
  have hx3:=hr.bl 1 _ o4
  generalize rc 1 (belV 3 c1).2=B at *
  refine⟨by simp;omega,(fun e=>by rw[e]at hk;cases hk.2),(hb3.trans b4).trans b1,ho3,fun x hx=>?_⟩
  simp only[List.mem_cons,List.mem_append,List.not_mem_nil,or_false]at hx
  rcases hx with rfl|hx|rfl|rfl
  ·exact⟨by simp,rfl,by simp,by simp,by simp⟩
  ·exact hx3 x hx
  ·exact⟨by simp,rfl,by simp,by simp,by simp⟩
  ·exact bl_nil
 ·obtain⟨b5,o5,_⟩:=onceV_spec o1 3
  split
  ·obtain⟨t3,b3,o3,_⟩:=exV_spec hG o5 4 (by omega)
   refine⟨by simp;omega,fun _=>by simp,(b3.trans b5).trans b1,o3,fun x hx=>?_⟩
   simp only[List.mem_singleton]at hx
   subst hx
   exact bl_ex (by simp) t3
  ·exact⟨by simp,fun _=>by simp,b5.trans b1,o5,fun x hx=>by cases hx⟩
theorem run_ok {G:GP}{rc:Nat→TCur→List TLine×TCur}{dp:Bool}{s:Nat}(hs:∀c:TCur,c.ok→(stepV G rc dp c).1.length≤s∧(stepV G rc dp c).2.b=c.b∧(stepV G rc dp c).2.ok∧∀x∈(stepV G rc dp c).1,BL x):RcOk s (runV G rc dp):=by
 have key:∀n c,c.ok→(runV G rc dp n c).1.length≤n * s∧(runV G rc dp n c).2.b=c.b∧(runV G rc dp n c).2.ok∧∀x∈(runV G rc dp n c).1,BL x:=by
  intro n
  induction n with
  | zero=>exact fun c hc=>⟨by simp[runV],rfl,hc,fun x hx=>by simp[runV]at hx⟩
  | succ n ih=>
   intro c hc
   obtain⟨h1,h2,h3,h4⟩:=hs c hc
   obtain⟨i1,i2,i3,i4⟩:=ih _ h3
   rw[runV]
   refine⟨by simp only[List.length_append];rw[Nat.succ_mul];omega,i2.trans h2,i3,fun x hx=>?_⟩
   rcases List.mem_append.1 hx with hx|hx
   ·exact h4 x hx
   ·exact i4 x hx
 exact⟨fun n c hc=>(key n c hc).1,fun n c hc=>(key n c hc).2.1,fun n c hc=>(key n c hc).2.2.1,fun n c hc=>(key n c hc).2.2.2⟩
theorem body_ok {G:GP}(hG:G.ok):∀d,RcOk (sB d) (bodyV G d)
 | 0=>run_ok fun c hc=>by
  have:=step_ok hG (s:=0) (rc:=fun _ c=>([],c)) (dp:=false) (fun e=>by cases e) hc
  exact⟨this.2.1 rfl,this.2.2⟩
 | d+1=>run_ok fun c hc=>by
  have:=step_ok hG (dp:=true) (fun _=>body_ok hG d) hc
  exact⟨this.1,this.2.2⟩
end Go.Proofs.YtjmplnfiabmalaaGreat
namespace Go.Proofs.YtjmplnfiabmalaaGreat
open Go.Sim
set_option maxRecDepth 100000
set_option maxHeartbeats 4000000
def dr (x:TLine):List DC:=match x.fExpr with
 | []=>[.t (.int .i64 x.fKind),.t (.str x.fName),.t (.lst 0 []),.t (.lst 0 [])]
 | t::l=>[.d (.int .i64 x.fKind),.d (.str x.fName),.d (.lst 0 []),.d (.lst 3 ((t::l).map TTok.tr))]
theorem dr_nil (k:Int)(n:List UInt8)(a:List (List UInt8)):dr ⟨k,n,a,[]⟩=[.t (.int .i64 k),.t (.str n),.t (.lst 0 []),.t (.lst 0 [])]:=rfl
theorem dr_cons (k:Int)(n:List UInt8)(a:List (List UInt8))(t:TTok)(l:List TTok):dr ⟨k,n,a,t::l⟩=[.d (.int .i64 k),.d (.str n),.d (.lst 0 []),.d (.lst 3 ((t::l).map TTok.tr))]:=rfl
theorem dr_pos {e:List TTok}(h:0 < e.length)(k:Int)(n:List UInt8)(a:List (List UInt8)):dr ⟨k,n,a,e⟩=[.d (.int .i64 k),.d (.str n),.d (.lst 0 []),.d (.lst 3 (e.map TTok.tr))]:=by
 cases e with
 | nil=>cases h
 | cons t l=>rfl
abbrev bodyC (G:GP)(n:Nat)(d:Int)(c:TCur)(R:List TLine×TCur):Prop:=SpecG Tryz.prog 201 [curP,tI .i64 (n:Int),tI .i64 d] (gH G c) (.r (.c (.own (1,0,0)))) (gH G R.2++[((1,0,0),.dar 4 (R.1.map dr) none)])
theorem g_run {G:GP}(hG:G.ok){rc:Nat→TCur→List TLine×TCur}{dp:Bool}{s d:Nat}(hd:d≤5)(hdp:dp=decide (0 < d))(hs:3+3 * s≤1000)(hR:dp=true→RcOk s rc)(hrc:dp=true→∀n c,n≤2→c.ok→bodyC G n ((d:Int) - 1) c (rc n c))(n:Nat)(c:TCur)(hn:n≤4)(hc:c.ok):
  bodyC G n d c (runV G rc dp n c):=by
 refine specG_of_Wo hΓ hmix Tryz.func201 rfl (by decide) rfl rfl ?_
 obtain⟨R,c',hRR⟩:∃R c',runV G rc dp n c=(R,c'):=⟨_,_,rfl⟩
 rw[hRR]
 have hvl:(G.vars.map strRow).length=G.vars.length:=by simp
 repeat' ((conv=>whnf);first|(with_reducible first|apply Wx|apply W6)|apply oi|(apply fi<;>intro h)|refine⟨_,rfl,?_⟩|((with_reducible show _=_);rfl))
 all_goals try((with_reducible refine Obl.mk ?_);exact KP)
 conv=>whnf
 refine⟨{q:Nat×TCur×List TLine // q.1≤n∧q.2.1.ok∧q.2.2.length+q.1 * 1000≤4000∧q.2.2++(runV G rc dp q.1 q.2.1).1=R∧(runV G rc dp q.1 q.2.1).2=c'},fun q=>⟨[(0,curP),(1,tI .i64 (q.1.1:Int)),(2,tI .i64 (d:Int)),(7,.r (.c (.own (10,0,0))))],[((0,0,0),some (.box [.ptr (0,0,1) 0,.own (0,0,2),.t (.lst 1 (G.names.map strRow)),.t (.lst 1 (G.ars.map intRow))])),((0,0,1),some (.box [.t (.lst 1 (q.1.2.1.b.map byteRow)),.t (.int .i64 q.1.2.1.i),.t (.int .i64 q.1.2.1.h)])),((0,0,2),some (.arr false 1 (G.vars.map strRow))),((10,0,0),some (.dar 4 (q.1.2.2.map dr) none))],[10,0]⟩,fun q=>q.1.1,⟨(n,c,[]),by dsimp only;omega,hc,by simp;omega,by rw[hRR];rfl,by rw[hRR]⟩,?_,?_⟩
 ·skip
  repeat' ((conv=>whnf);first|(with_reducible first|apply Wx|apply W6)|apply oi|(apply fi<;>intro h)|refine⟨_,rfl,?_⟩|((with_reducible show _=_);rfl))
  all_goals try((with_reducible refine Obl.mk ?_);exact KP)
  all_goals try exact⟨rfl⟩
 intro⟨⟨rem,ci,acc⟩,hi,hci,hal,hr1,hr2⟩
 dsimp only at hi hci hal hr1 hr2 ⊢
 cases rem with
 | zero=>
  simp only[runV,List.append_nil]at hr1 hr2
  subst hr1;subst hr2
  repeat' ((conv=>whnf);first|(with_reducible first|apply Wx|apply W6)|apply oi|(apply fi<;>intro h)|refine⟨_,rfl,?_⟩|((with_reducible show _=_);rfl))
  all_goals try((with_reducible refine Obl.mk ?_);exact KP)
  all_goals try exact KX
 | succ m=>
  rw[runV]at hr1 hr2
  dsimp only at hr1 hr2
  obtain⟨s1,_,s3,s4,_⟩:=step_ok hG hR hci
  generalize hS:stepV G rc dp ci=S at *
  obtain⟨k1,b1,o1,g1⟩:=belV_spec hci 9
  unfold stepV at hS
  dsimp only at hS
  generalize belV 9 ci=q at *
  rw[←List.append_assoc]at hr1
  have hlen:(acc++S.1).length+m * 1000≤4000:=by rw[List.length_append];omega
  by_cases hk4:q.1 < 4
  ·rw[if_pos hk4]at hS
   obtain⟨k2,b2,o2,g2⟩:=belV_spec o1 (G.vars.length:Int)
   obtain⟨t3,b3,o3,g3⟩:=exV_spec hG o2 6 (by omega)
   generalize belV (G.vars.length:Int) q.2=v at *
   generalize exV G 6 v.2=e at *
   subst hS
   have kv:=hG.v1
   have hvv:v.1 < (G.vars.map strRow).length:=by have:=k2 (by omega);omega
   obtain⟨nm,hnm⟩:=get_of_lt (l:=G.vars) (k:=v.1) (by omega)
   have hvg:(G.vars.map strRow)[v.1]?=some (strRow nm):=map_get hnm
   rw[hvl.symm]at g2
   repeat' ((conv=>whnf);first|(with_reducible first|apply Wx|apply W6)|apply oi|(apply fi<;>intro h)|refine⟨_,rfl,?_⟩|((with_reducible show _=_);rfl))
   all_goals try((with_reducible refine Obl.mk ?_);exact KP)
   refine cg (g1) ?_
   repeat' ((conv=>whnf);first|(with_reducible first|apply Wx|apply W6)|apply oi|(apply fi<;>intro h)|refine⟨_,rfl,?_⟩|((with_reducible show _=_);rfl))
   all_goals try((with_reducible refine Obl.mk ?_);exact KP)
   all_goals try exact KX
   refine cg (g2) ?_
   repeat' ((conv=>whnf);first|(with_reducible first|apply Wx|apply W6)|apply oi|(apply fi<;>intro h)|refine⟨_,rfl,hvv,?_⟩|refine⟨_,hvg,?_⟩|refine⟨_,rfl,?_⟩|((with_reducible show _=_);rfl))
   all_goals try((with_reducible refine Obl.mk ?_);exact KP)
   refine cg (g3) ?_
   repeat' ((conv=>whnf);first|(with_reducible first|apply Wx|apply W6)|apply oi|(apply fi<;>intro h)|refine⟨_,rfl,?_⟩|((with_reducible show _=_);rfl))
   all_goals try((with_reducible refine Obl.mk ?_);exact KP)
   all_goals try exact⟨flat_toks _⟩
   all_goals try exact⟨⟨by simp <;> omega,by simp <;> omega⟩⟩
   all_goals try exact⟨KW⟩
   conv=>whnf
   refine⟨⟨(m,_,_),by dsimp only;omega,s4,hlen,hr1,hr2⟩,?_,by dsimp only;omega⟩
   repeat' ((conv=>whnf);first|(with_reducible first|apply Wx|apply W6)|apply oi|(apply fi<;>intro h)|refine⟨_,rfl,?_⟩|((with_reducible show _=_);rfl))
   all_goals try((with_reducible refine Obl.mk ?_);exact KP)
   all_goals try exact⟨K7⟩
   all_goals exact⟨by simp[dr_pos t3.1,hnm]⟩
  rw[if_neg hk4]at hS
  by_cases hk6:q.1 < 6
  ·rw[if_pos hk6]at hS
   obtain⟨t3,b3,o3,g3⟩:=exV_spec hG o1 5 (by omega)
   generalize exV G 5 q.2=e at *
   subst hS
   repeat' ((conv=>whnf);first|(with_reducible first|apply Wx|apply W6)|apply oi|(apply fi<;>intro h)|refine⟨_,rfl,?_⟩|((with_reducible show _=_);rfl))
   all_goals try((with_reducible refine Obl.mk ?_);exact KP)
   refine cg (g1) ?_
   repeat' ((conv=>whnf);first|(with_reducible first|apply Wx|apply W6)|apply oi|(apply fi<;>intro h)|refine⟨_,rfl,?_⟩|((with_reducible show _=_);rfl))
   all_goals try((with_reducible refine Obl.mk ?_);exact KP)
   all_goals try exact KX
   refine cg (g3) ?_
   repeat' ((conv=>whnf);first|(with_reducible first|apply Wx|apply W6)|apply oi|(apply fi<;>intro h)|refine⟨_,rfl,?_⟩|((with_reducible show _=_);rfl))
   all_goals try((with_reducible refine Obl.mk ?_);exact KP)
   all_goals try exact⟨flat_toks _⟩
   all_goals try exact⟨⟨by simp <;> omega,by simp <;> omega⟩⟩
   all_goals try exact⟨KW⟩
   conv=>whnf
   refine⟨⟨(m,_,_),by dsimp only;omega,s4,hlen,hr1,hr2⟩,?_,by dsimp only;omega⟩
   repeat' ((conv=>whnf);first|(with_reducible first|apply Wx|apply W6)|apply oi|(apply fi<;>intro h)|refine⟨_,rfl,?_⟩|((with_reducible show _=_);rfl))
   all_goals try((with_reducible refine Obl.mk ?_);exact KP)
   all_goals try exact⟨K7⟩
   all_goals exact⟨by simp[dr_pos t3.1]⟩
  rw[if_neg hk6]at hS
  by_cases hk7:q.1=6∧dp=true
  ·rw[if_pos hk7]at hS
   obtain⟨hk7,hdt⟩:=hk7
   have hd0:0 < d:=by rw[hdp]at hdt;exact of_decide_eq_true hdt
   have hRo:=hR hdt
   obtain⟨t3,b3,o3,g3⟩:=exV_spec hG o1 4 (by omega)
   generalize exV G 4 q.2=e at *
   obtain⟨k4,b4,o4,g4⟩:=belV_spec o3 2
   generalize belV 2 e.2=t at *
   have g5:=hrc hdt (1+t.1) t.2 (by have:=k4 (by omega);omega) o4
   have l5:=hRo.len (1+t.1) t.2 o4
   have ob5:=hRo.ok (1+t.1) t.2 o4
   have l5':(rc (1+t.1) t.2).1.length≤2 * s:=Nat.le_trans l5 (Nat.mul_le_mul_right _ (by have:=k4 (by omega);omega))
   generalize rc (1+t.1) t.2=B at *
   obtain⟨b6,o6,g6⟩:=onceV_spec ob5 2
   generalize onceV 2 B.2=o at *
   cases ho:o.1 with
   | true=>
    rw[if_pos ho]at hS
    rw[ho]at g6
    have g7:=hrc hdt 1 o.2 (by omega) o6
    have l7:=hRo.len 1 o.2 o6
    generalize rc 1 o.2=E at *
    subst hS
    repeat' ((conv=>whnf);first|(with_reducible first|apply Wx|apply W6)|apply oi|(apply fi<;>intro h)|refine⟨_,rfl,?_⟩|((with_reducible show _=_);rfl))
    all_goals try((with_reducible refine Obl.mk ?_);exact KP)
    refine cg (g1) ?_
    repeat' ((conv=>whnf);first|(with_reducible first|apply Wx|apply W6)|apply oi|(apply fi<;>intro h)|refine⟨_,rfl,?_⟩|((with_reducible show _=_);rfl))
    all_goals try((with_reducible refine Obl.mk ?_);exact KP)
    all_goals try exact KK
    refine cg (g3) ?_
    repeat' ((conv=>whnf);first|(with_reducible first|apply Wx|apply W6)|apply oi|(apply fi<;>intro h)|refine⟨_,rfl,?_⟩|((with_reducible show _=_);rfl))
    all_goals try((with_reducible refine Obl.mk ?_);exact KP)
    all_goals try exact⟨flat_toks _⟩
    all_goals try exact⟨⟨by simp <;> omega,by simp <;> omega⟩⟩
    all_goals try exact⟨KW⟩
    refine cg (g4) ?_
    repeat' ((conv=>whnf);first|(with_reducible first|apply Wx|apply W6)|apply oi|(apply fi<;>intro h)|refine⟨_,rfl,?_⟩|((with_reducible show _=_);rfl))
    all_goals try((with_reducible refine Obl.mk ?_);exact KP)
    all_goals try exact⟨flat_toks _⟩
    all_goals try exact⟨⟨by simp <;> omega,by simp <;> omega⟩⟩
    all_goals try exact⟨KW⟩
    refine cg (g5) ?_
    repeat' ((conv=>whnf);first|(with_reducible first|apply Wx|apply W6)|apply oi|(apply fi<;>intro h)|refine⟨_,rfl,?_⟩|((with_reducible show _=_);rfl))
    all_goals try((with_reducible refine Obl.mk ?_);exact KP)
    all_goals try exact⟨flat_toks _⟩
    all_goals try exact⟨⟨by simp <;> omega,by simp <;> omega⟩⟩
    all_goals try exact⟨KW⟩
    refine cg (g6) ?_
    repeat' ((conv=>whnf);first|(with_reducible first|apply Wx|apply W6)|apply oi|(apply fi<;>intro h)|refine⟨_,rfl,?_⟩|((with_reducible show _=_);rfl))
    all_goals try((with_reducible refine Obl.mk ?_);exact KP)
    all_goals try exact⟨flat_toks _⟩
    all_goals try exact⟨⟨by simp <;> omega,by simp <;> omega⟩⟩
    all_goals try exact⟨KW⟩
    refine cg (g7) ?_
    repeat' ((conv=>whnf);first|(with_reducible first|apply Wx|apply W6)|apply oi|(apply fi<;>intro h)|refine⟨_,rfl,?_⟩|((with_reducible show _=_);rfl))
    all_goals try((with_reducible refine Obl.mk ?_);exact KP)
    all_goals try exact⟨flat_toks _⟩
    all_goals try exact⟨⟨by simp <;> omega,by simp <;> omega⟩⟩
    all_goals try exact⟨KW⟩
    conv=>whnf
    refine⟨⟨(m,_,_),by dsimp only;omega,s4,hlen,hr1,hr2⟩,?_,by dsimp only;omega⟩
    repeat' ((conv=>whnf);first|(with_reducible first|apply Wx|apply W6)|apply oi|(apply fi<;>intro h)|refine⟨_,rfl,?_⟩|((with_reducible show _=_);rfl))
    all_goals try((with_reducible refine Obl.mk ?_);exact KP)
    all_goals try exact⟨K7⟩
    all_goals exact⟨by simp[dr_pos t3.1,dr_nil]⟩
   | false=>
    rw[if_neg (by simp[ho])]at hS
    rw[ho]at g6
    subst hS
    repeat' ((conv=>whnf);first|(with_reducible first|apply Wx|apply W6)|apply oi|(apply fi<;>intro h)|refine⟨_,rfl,?_⟩|((with_reducible show _=_);rfl))
    all_goals try((with_reducible refine Obl.mk ?_);exact KP)
    refine cg (g1) ?_
    repeat' ((conv=>whnf);first|(with_reducible first|apply Wx|apply W6)|apply oi|(apply fi<;>intro h)|refine⟨_,rfl,?_⟩|((with_reducible show _=_);rfl))
    all_goals try((with_reducible refine Obl.mk ?_);exact KP)
    all_goals try exact KK
    refine cg (g3) ?_
    repeat' ((conv=>whnf);first|(with_reducible first|apply Wx|apply W6)|apply oi|(apply fi<;>intro h)|refine⟨_,rfl,?_⟩|((with_reducible show _=_);rfl))
    all_goals try((with_reducible refine Obl.mk ?_);exact KP)
    all_goals try exact⟨flat_toks _⟩
    all_goals try exact⟨⟨by simp <;> omega,by simp <;> omega⟩⟩
    all_goals try exact⟨KW⟩
    refine cg (g4) ?_
    repeat' ((conv=>whnf);first|(with_reducible first|apply Wx|apply W6)|apply oi|(apply fi<;>intro h)|refine⟨_,rfl,?_⟩|((with_reducible show _=_);rfl))
    all_goals try((with_reducible refine Obl.mk ?_);exact KP)
    all_goals try exact⟨flat_toks _⟩
    all_goals try exact⟨⟨by simp <;> omega,by simp <;> omega⟩⟩
    all_goals try exact⟨KW⟩
    refine cg (g5) ?_
    repeat' ((conv=>whnf);first|(with_reducible first|apply Wx|apply W6)|apply oi|(apply fi<;>intro h)|refine⟨_,rfl,?_⟩|((with_reducible show _=_);rfl))
    all_goals try((with_reducible refine Obl.mk ?_);exact KP)
    all_goals try exact⟨flat_toks _⟩
    all_goals try exact⟨⟨by simp <;> omega,by simp <;> omega⟩⟩
    all_goals try exact⟨KW⟩
    refine cg (g6) ?_
    repeat' ((conv=>whnf);first|(with_reducible first|apply Wx|apply W6)|apply oi|(apply fi<;>intro h)|refine⟨_,rfl,?_⟩|((with_reducible show _=_);rfl))
    all_goals try((with_reducible refine Obl.mk ?_);exact KP)
    all_goals try exact⟨flat_toks _⟩
    all_goals try exact⟨⟨by simp <;> omega,by simp <;> omega⟩⟩
    all_goals try exact⟨KW⟩
    conv=>whnf
    refine⟨⟨(m,_,_),by dsimp only;omega,s4,hlen,hr1,hr2⟩,?_,by dsimp only;omega⟩
    repeat' ((conv=>whnf);first|(with_reducible first|apply Wx|apply W6)|apply oi|(apply fi<;>intro h)|refine⟨_,rfl,?_⟩|((with_reducible show _=_);rfl))
    all_goals try((with_reducible refine Obl.mk ?_);exact KP)
    all_goals try exact⟨K7⟩
    all_goals exact⟨by simp[dr_pos t3.1,dr_nil]⟩
  rw[if_neg hk7]at hS
  by_cases hk8:q.1=7∧dp=true
  ·rw[if_pos hk8]at hS
   obtain⟨hk8,hdt⟩:=hk8
   have hd0:0 < d:=by rw[hdp]at hdt;exact of_decide_eq_true hdt
   have hRo:=hR hdt
   obtain⟨k4,b4,o4,g4⟩:=belV_spec o1 3
   generalize belV 3 q.2=t at *
   have k4':=k4 (by omega)
   have hwi:IntKind.i64.wrap (1+(t.1:Int))=1+(t.1:Int):=IntWalk.i64_in _ (by omega)
   have g5:=hrc hdt 1 t.2 (by omega) o4
   have l5:=hRo.len 1 t.2 o4
   generalize rc 1 t.2=B at *
   subst hS
   repeat' ((conv=>whnf);first|(with_reducible first|apply Wx|apply W6)|apply oi|(apply fi<;>intro h)|refine⟨_,rfl,?_⟩|((with_reducible show _=_);rfl))
   all_goals try((with_reducible refine Obl.mk ?_);exact KP)
   refine cg (g1) ?_
   repeat' ((conv=>whnf);first|(with_reducible first|apply Wx|apply W6)|apply oi|(apply fi<;>intro h)|refine⟨_,rfl,?_⟩|((with_reducible show _=_);rfl))
   all_goals try((with_reducible refine Obl.mk ?_);exact KP)
   all_goals try exact KK
   refine cg (g4) ?_
   repeat' ((conv=>whnf);first|(with_reducible first|apply Wx|apply W6)|apply oi|(apply fi<;>intro h)|refine⟨_,rfl,?_⟩|((with_reducible show _=_);rfl))
   all_goals try((with_reducible refine Obl.mk ?_);exact KP)
   all_goals try exact⟨flat_toks [⟨5,0,[]⟩,⟨1,0,[105]⟩,⟨0,IntKind.i64.wrap (1+(t.1:Int)),[]⟩]⟩
   all_goals try exact⟨flat_toks _⟩
   all_goals try exact⟨⟨by simp <;> omega,by simp <;> omega⟩⟩
   all_goals try exact⟨KW⟩
   refine cg (g5) ?_
   repeat' ((conv=>whnf);first|(with_reducible first|apply Wx|apply W6)|apply oi|(apply fi<;>intro h)|refine⟨_,rfl,?_⟩|((with_reducible show _=_);rfl))
   all_goals try((with_reducible refine Obl.mk ?_);exact KP)
   all_goals try exact⟨flat_toks [⟨2,0,[]⟩,⟨1,0,[105]⟩,⟨0,1,[]⟩]⟩
   all_goals try exact⟨flat_toks _⟩
   all_goals try exact⟨⟨by simp <;> omega,by simp <;> omega⟩⟩
   all_goals try exact⟨KW⟩
   conv=>whnf
   refine⟨⟨(m,_,_),by dsimp only;omega,s4,hlen,hr1,hr2⟩,?_,by dsimp only;omega⟩
   repeat' ((conv=>whnf);first|(with_reducible first|apply Wx|apply W6)|apply oi|(apply fi<;>intro h)|refine⟨_,rfl,?_⟩|((with_reducible show _=_);rfl))
   all_goals try((with_reducible refine Obl.mk ?_);exact KP)
   all_goals try exact⟨K7⟩
   all_goals exact⟨by simp[dr_nil,dr_cons,TTok.tr,hwi]⟩
  rw[if_neg hk8]at hS
  have hnd:¬(q.1=6∧0 < d)∧¬(q.1=7∧0 < d):=⟨fun h=>hk7 ⟨h.1,by rw[hdp];exact decide_eq_true h.2⟩,fun h=>hk8 ⟨h.1,by rw[hdp];exact decide_eq_true h.2⟩⟩
  obtain⟨b6,o6,g6⟩:=onceV_spec o1 3
  generalize onceV 3 q.2=o at *
  cases ho:o.1 with
  | true=>
   rw[if_pos ho]at hS
   rw[ho]at g6
   obtain⟨t3,b3,o3,g3⟩:=exV_spec hG o6 4 (by omega)
   generalize exV G 4 o.2=e at *
   subst hS
   repeat' ((conv=>whnf);first|(with_reducible first|apply Wx|apply W6)|apply oi|(apply fi<;>intro h)|refine⟨_,rfl,?_⟩|((with_reducible show _=_);rfl))
   all_goals try((with_reducible refine Obl.mk ?_);exact KP)
   refine cg (g1) ?_
   repeat' ((conv=>whnf);first|(with_reducible first|apply Wx|apply W6)|apply oi|(apply fi<;>intro h)|refine⟨_,rfl,?_⟩|((with_reducible show _=_);rfl))
   all_goals try((with_reducible refine Obl.mk ?_);exact KP)
   all_goals try exact KK
   all_goals(
    refine cg (g6) ?_
    repeat' ((conv=>whnf);first|(with_reducible first|apply Wx|apply W6)|apply oi|(apply fi<;>intro h)|refine⟨_,rfl,?_⟩|((with_reducible show _=_);rfl))
    all_goals try((with_reducible refine Obl.mk ?_);exact KP)
    refine cg (g3) ?_
    repeat' ((conv=>whnf);first|(with_reducible first|apply Wx|apply W6)|apply oi|(apply fi<;>intro h)|refine⟨_,rfl,?_⟩|((with_reducible show _=_);rfl))
    all_goals try((with_reducible refine Obl.mk ?_);exact KP)
    all_goals try exact⟨flat_toks _⟩
    all_goals try exact⟨⟨by simp <;> omega,by simp <;> omega⟩⟩
    all_goals try exact⟨KW⟩
    conv=>whnf
    refine⟨⟨(m,_,_),by dsimp only;omega,s4,hlen,hr1,hr2⟩,?_,by dsimp only;omega⟩
    repeat' ((conv=>whnf);first|(with_reducible first|apply Wx|apply W6)|apply oi|(apply fi<;>intro h)|refine⟨_,rfl,?_⟩|((with_reducible show _=_);rfl))
    all_goals try((with_reducible refine Obl.mk ?_);exact KP)
    all_goals try exact⟨K7⟩
    all_goals exact⟨by simp[dr_pos t3.1]⟩)
  | false=>
   rw[if_neg (by simp[ho])]at hS
   rw[ho]at g6
   subst hS
   repeat' ((conv=>whnf);first|(with_reducible first|apply Wx|apply W6)|apply oi|(apply fi<;>intro h)|refine⟨_,rfl,?_⟩|((with_reducible show _=_);rfl))
   all_goals try((with_reducible refine Obl.mk ?_);exact KP)
   refine cg (g1) ?_
   repeat' ((conv=>whnf);first|(with_reducible first|apply Wx|apply W6)|apply oi|(apply fi<;>intro h)|refine⟨_,rfl,?_⟩|((with_reducible show _=_);rfl))
   all_goals try((with_reducible refine Obl.mk ?_);exact KP)
   all_goals try exact KK
   all_goals(
    refine cg (g6) ?_
    repeat' ((conv=>whnf);first|(with_reducible first|apply Wx|apply W6)|apply oi|(apply fi<;>intro h)|refine⟨_,rfl,?_⟩|((with_reducible show _=_);rfl))
    all_goals try((with_reducible refine Obl.mk ?_);exact KP)
    conv=>whnf
    refine⟨⟨(m,_,_),by dsimp only;omega,s4,hlen,hr1,hr2⟩,?_,by dsimp only;omega⟩
    repeat' ((conv=>whnf);first|(with_reducible first|apply Wx|apply W6)|apply oi|(apply fi<;>intro h)|refine⟨_,rfl,?_⟩|((with_reducible show _=_);rfl))
    all_goals try((with_reducible refine Obl.mk ?_);exact KP)
    all_goals try exact⟨K7⟩
    all_goals exact⟨by simp⟩)
theorem g_body {G:GP}(hG:G.ok):∀(d n:Nat) (c:TCur),d≤2→n≤4→c.ok→bodyC G n d c (bodyV G d n c)
 | 0,n,c,_,hn,hc=>g_run hG (s:=0) (by omega) rfl (by omega) (fun h=>by cases h) (fun h=>by cases h) n c hn hc
 | d+1,n,c,hd,hn,hc=>g_run hG (s:=sB d) (by omega) (by simp) (by
   have:d=0∨d=1:=by omega
   rcases this with rfl|rfl <;> simp[sB]) (fun _=>body_ok hG d) (fun _ m c' hm hc'=>by
   have e:(((d+1:Nat):Int) - 1)=(d:Int):=by omega
   rw[e]
   exact g_body hG d m c' (by omega) (by omega) hc') n c hn hc
end Go.Proofs.YtjmplnfiabmalaaGreat
namespace Go.Proofs.YtjmplnfiabmalaaGreat
open Go.Sim
set_option maxRecDepth 100000
set_option maxHeartbeats 4000000
def nm0:List (List UInt8):=[[109,97,105,110],[102],[103,103],[104]]
def ar0:List Int:=[0,1,2,1]
def arg0:List (List UInt8):=[[120],[121]]
def arN (k:Nat):Nat:=(ar0[k]?.getD 0).toNat
def nmN (k:Nat):List UInt8:=nm0[k]?.getD []
def gpV (n k:Nat)(b:Bool):GP:=⟨arg0.take (arN k)++[[105],[122]],(nm0.take n).drop (if b=true then k else k+1),(ar0.take n).drop (if b=true then k else k+1)⟩
theorem gpV_ok {n k:Nat}(b:Bool):(gpV n k b).ok:=by
 refine⟨by simp[gpV],by simp[gpV,arg0];omega,by simp[gpV,nm0];omega,by simp[gpV,nm0,ar0],fun a ha=>?_,fun s hs=>?_,fun s hs=>?_⟩
 ·have:=List.mem_of_mem_take (List.mem_of_mem_drop ha)
  simp[ar0]at this
  omega
 ·simp only[gpV,List.mem_append]at hs
  rcases hs with hs|hs
  ·have:=List.mem_of_mem_take hs
   simp[arg0]at this
   rcases this with rfl|rfl <;> simp
  ·simp at hs
   rcases hs with rfl|rfl <;> simp
 ·have:=List.mem_of_mem_take (List.mem_of_mem_drop hs)
  simp[nm0]at this
  rcases this with rfl|rfl|rfl|rfl <;> simp
noncomputable def funV (n k:Nat) (c:TCur):List TLine×TCur:=
 let o:=if 0 < k then onceV 5 c else(false,c)
 let G:=gpV n k o.1
 let t:=belV 4 o.2
 let u:=belV 2 t.2
 let B:=bodyV G (1+u.1) (1+t.1) u.2
 let e:=exV G 3 B.2
 (⟨0,nmN k,arg0.take (arN k),[]⟩::(B.1++[⟨6,[],[],e.1⟩,⟨7,[],[],[]⟩]),e.2)
noncomputable def funsV (n:Nat):Nat→Nat→TCur→List TLine×TCur
 | 0,_,c=>([],c)
 | r+1,k,c=>((funV n k c).1++(funsV n r (k+1) (funV n k c).2).1,(funsV n r (k+1) (funV n k c).2).2)
noncomputable def progV (c:TCur):List TLine×TCur:=funsV (1+(belV 4 c).1) (1+(belV 4 c).1) 0 (belV 4 c).2
def drP (x:TLine):List DC:=if x.fKind=0 then [.d (.int .i64 0),.d (.str x.fName),.d (.lst 1 (x.fArgs.map strRow)),.d (.lst 0 [])]else dr x
structure PL (x:TLine):Prop where
 name:x.fName.length≤8
 args:x.fArgs.length≤2∧∀s∈x.fArgs,s.length≤8
 len:x.fExpr.length≤125
 tok:∀t∈x.fExpr,t.fName.length≤8
 fe:x.fKind=0→x.fExpr=[]
 fa:x.fKind≠0→x.fArgs=[]
theorem fun_ok {n k:Nat}{c:TCur}(hc:c.ok):(funV n k c).1.length≤200∧(funV n k c).2.b=c.b∧(funV n k c).2.ok∧∀x∈(funV n k c).1,PL x:=by
 unfold funV
 dsimp only
 have ho:(if 0 < k then onceV 5 c else(false,c)).2.b=c.b∧(if 0 < k then onceV 5 c else(false,c)).2.ok:=by
  split
  ·have:=onceV_spec hc 5;exact⟨this.1,this.2.1⟩
  ·exact⟨rfl,hc⟩
 generalize(if 0 < k then onceV 5 c else(false,c))=o at *
 have hG:=gpV_ok (n:=n) (k:=k) o.1
 generalize gpV n k o.1=G at *
 obtain⟨k4,b4,o4,_⟩:=belV_spec ho.2 4
 obtain⟨k2,b2,o2,_⟩:=belV_spec o4 2
 have k4':=k4 (by omega)
 have k2':=k2 (by omega)
 have hB:=body_ok hG (1+(belV 2 (belV 4 o.2).2).1)
 have hl:=hB.len (1+(belV 4 o.2).1) _ o2
 have hb:=hB.b (1+(belV 4 o.2).1) _ o2
 have hk:=hB.ok (1+(belV 4 o.2).1) _ o2
 have hx:=hB.bl (1+(belV 4 o.2).1) _ o2
 have hs:sB (1+(belV 2 (belV 4 o.2).2).1)≤21:=by
  have:(belV 2 (belV 4 o.2).2).1=0∨(belV 2 (belV 4 o.2).2).1=1:=by omega
  rcases this with e|e <;> rw[e] <;> simp[sB]
 have hl2:=Nat.mul_le_mul (show 1+(belV 4 o.2).1≤4 by omega) hs
 generalize bodyV G (1+(belV 2 (belV 4 o.2).2).1) (1+(belV 4 o.2).1) (belV 2 (belV 4 o.2).2).2=B at *
 obtain⟨t3,b3,o3,_⟩:=exV_spec hG hk 3 (by omega)
 refine⟨by simp;omega,((b3.trans hb).trans b2).trans (b4.trans ho.1),o3,fun x h=>?_⟩
 have hbl:∀{x:TLine},BL x→PL x:=fun h=>⟨h.name,by rw[h.args];simp,h.len,h.tok,fun e=>by have:=h.kind;omega,fun _=>h.args⟩
 simp only[List.mem_cons,List.mem_append,List.not_mem_nil,or_false]at h
 rcases h with rfl|h|rfl|rfl
 ·refine⟨?_,⟨?_,fun s hs=>?_⟩,by simp,by simp,fun _=>rfl,fun e=>absurd rfl e⟩
  ·show(nmN k).length≤8
   unfold nmN
   cases hn:nm0[k]? with
   | none=>simp
   | some v=>
    have:=List.mem_of_getElem? hn
    simp[nm0]at this
    rcases this with rfl|rfl|rfl|rfl <;> simp
  ·simp[arg0];omega
  ·have:=List.mem_of_mem_take hs
   simp[arg0]at this
   rcases this with rfl|rfl <;> simp
 ·exact hbl (hx x h)
 ·exact hbl (bl_ex (by simp) t3)
 ·exact hbl bl_nil
theorem funs_ok (n:Nat):∀(r k:Nat) (c:TCur),c.ok→(funsV n r k c).1.length≤r * 200∧(funsV n r k c).2.b=c.b∧(funsV n r k c).2.ok∧∀x∈(funsV n r k c).1,PL x
 | 0,_,c,hc=>⟨by simp[funsV],rfl,hc,fun x hx=>by simp[funsV]at hx⟩
 | r+1,k,c,hc=>by
  obtain⟨h1,h2,h3,h4⟩:=fun_ok (n:=n) (k:=k) hc
  obtain⟨i1,i2,i3,i4⟩:=funs_ok n r (k+1) _ h3
  rw[funsV]
  refine⟨by simp only[List.length_append];omega,i2.trans h2,i3,fun x hx=>?_⟩
  rcases List.mem_append.1 hx with hx|hx
  ·exact h4 x hx
  ·exact i4 x hx
theorem prog_ok {c:TCur}(hc:c.ok):(progV c).1.length≤800∧(progV c).2.b=c.b∧(progV c).2.ok∧∀x∈(progV c).1,PL x:=by
 obtain⟨k1,b1,o1,_⟩:=belV_spec hc 4
 have k1':=k1 (by omega)
 obtain⟨h1,h2,h3,h4⟩:=funs_ok (1+(belV 4 c).1) (1+(belV 4 c).1) 0 _ o1
 have:=Nat.mul_le_mul_right 200 (show 1+(belV 4 c).1≤4 by omega)
 exact⟨by unfold progV;omega,h2.trans b1,h3,h4⟩
theorem dr_drP {l:List TLine}(h:∀x∈l,BL x):l.map dr=l.map drP:=by
 refine List.map_congr_left fun x hx=>?_
 have:=(h x hx).kind
 rw[drP,if_neg (by omega)]
theorem em_line {x:TLine}(h:PL x):((drP x).map DC.tr).length=x.tr.length∧∀(p:Nat) (c d:Tr),((drP x).map DC.tr)[p]?=some c→x.tr[p]?=some d→emE c d:=by
 obtain⟨k,n,a,e⟩:=x
 have key:∃u v,(drP ⟨k,n,a,e⟩).map DC.tr=[.int .i64 k,.str n,u,v]∧emE u (.lst 1 (a.map strRow))∧emE v (.lst 3 (e.map TTok.tr)):=by
  by_cases h0:k=0
  ·subst h0
   have he:=h.fe rfl
   dsimp only at he
   subst he
   exact⟨_,_,rfl,.inl rfl,.inr ⟨_,_,rfl,rfl⟩⟩
  ·have ha:=h.fa h0
   dsimp only at ha
   subst ha
   rw[drP,if_neg h0]
   cases e with
   | nil=>exact⟨_,_,rfl,.inr ⟨_,_,rfl,rfl⟩,.inr ⟨_,_,rfl,rfl⟩⟩
   | cons t l=>exact⟨_,_,rfl,.inr ⟨_,_,rfl,rfl⟩,.inl rfl⟩
 obtain⟨u,v,e1,e2,e3⟩:=key
 rw[e1]
 refine⟨rfl,fun p c d hc hd=>?_⟩
 match p with
 | 0=>simp[TLine.tr]at hc hd;subst hc;subst hd;exact .inl rfl
 | 1=>simp[TLine.tr]at hc hd;subst hc;subst hd;exact .inl rfl
 | 2=>simp[TLine.tr]at hc hd;subst hc;subst hd;exact e2
 | 3=>simp[TLine.tr]at hc hd;subst hc;subst hd;exact e3
 | p+4=>simp at hc
theorem em_prog:∀{l:List TLine},(∀x∈l,PL x)→emR ((l.map drP).map fun x=>x.map DC.tr) (l.map TLine.tr)
 | [],_=>trivial
 | x::l,h=>⟨em_line (h x (by simp)),em_prog fun y hy=>h y (by simp[hy])⟩
theorem g_spec_l03Program (c:TCur)(hc:c.ok):SpecG Tryz.prog 145 [curP] (curH c) (.r (.c (.t (.lst 4 ((progV c).1.map TLine.tr))))) (curH (progV c).2):=by
 obtain⟨k1,b1,o1,g1⟩:=belV_spec hc 4
 have k1':=k1 (by omega)
 refine specG_of_Wo hΓ hmix Tryz.func145 rfl (by decide) rfl rfl ?_
 unfold progV
 generalize(belV 4 c).2=c1 at *
 obtain⟨n,hn⟩:∃n,1+(belV 4 c).1=n:=⟨_,rfl⟩
 have hw:IntKind.i64.wrap (1+((belV 4 c).1:Int))=(n:Int):=by rw[IntWalk.i64_in _ (by omega)];omega
 rw[hn]
 obtain⟨R,c',hRR⟩:∃R c',funsV n n 0 c1=(R,c'):=⟨_,_,rfl⟩
 have hPL:=(funs_ok n n 0 _ o1).2.2.2
 rw[hRR]at hPL ⊢
 repeat' ((conv=>whnf);first|(with_reducible apply W1;fail_if_success (with_reducible show Wo _ _ _ _ (Code.seq (Code.region 5 _ _) _) _ _))|(with_reducible first|apply W2|apply W3|apply W4|apply W5|apply W6|apply W7|apply W8|apply W9)|apply reg_inl|apply oi|(apply fi<;>intro h)|refine⟨_,rfl,?_⟩|((with_reducible show _=_);rfl))
 all_goals try((with_reducible refine Obl.mk ?_);exact KP)
 refine cg (g1) ?_
 repeat' ((conv=>whnf);first|(with_reducible apply W1;fail_if_success (with_reducible show Wo _ _ _ _ (Code.seq (Code.region 5 _ _) _) _ _))|(with_reducible first|apply W2|apply W3|apply W4|apply W5|apply W6|apply W7|apply W8|apply W9)|apply reg_inl|apply oi|(apply fi<;>intro h)|refine⟨_,rfl,?_⟩|((with_reducible show _=_);rfl))
 all_goals try((with_reducible refine Obl.mk ?_);exact KP)
 conv=>whnf
 refine view_rule ⟨[(0,curP),(3,vN nm0),(4,.r (.c (.t (.lst 1 (ar0.map intRow))))),(5,tI .i64 (IntKind.i64.wrap (1+((belV 4 c).1:Int)))),(6,.r (.c (.own (15,0,0))))],[((0,0,0),some (.box [.t (.lst 1 (c1.b.map byteRow)),.t (.int .i64 c1.i),.t (.int .i64 c1.h)])),((15,0,0),some (.arr true 4 []))],[15,13,11,10,0]⟩ ?_ ?_ rfl ?_
 ·refine⟨.inl rfl,.inr ⟨_,_,rfl,rfl,rfl,?_⟩,.inr ⟨_,_,rfl,rfl,rfl,?_⟩,.inl rfl,.inl rfl,trivial⟩
  all_goals(intro q hq;simp only[AC.ids,List.mem_cons,List.not_mem_nil,or_false]at hq;subst hq;rfl)
 ·exact⟨.inr rfl,.inr rfl,trivial⟩
 rw[hw]
 repeat' ((conv=>whnf);first|(with_reducible first|apply Wx|apply W6)|apply oi|(apply fi<;>intro h)|refine⟨_,rfl,?_⟩|((with_reducible show _=_);rfl))
 all_goals try((with_reducible refine Obl.mk ?_);exact KP)
 conv=>whnf
 refine⟨{q:Nat×TCur×List TLine // q.1≤n∧q.2.1.ok∧q.2.2.length+(n - q.1) * 200≤800∧q.2.2++(funsV n (n - q.1) q.1 q.2.1).1=R∧(funsV n (n - q.1) q.1 q.2.1).2=c'},fun q=>⟨[(0,curP),(3,vN nm0),(4,.r (.c (.t (.lst 1 (ar0.map intRow))))),(5,tI .i64 (n:Int)),(6,.r (.c (.own (15,0,0)))),(7,tI .i64 (q.1.1:Int))],[((0,0,0),some (.box [.t (.lst 1 (q.1.2.1.b.map byteRow)),.t (.int .i64 q.1.2.1.i),.t (.int .i64 q.1.2.1.h)])),((15,0,0),some (.dar 4 (q.1.2.2.map drP) none))],[15,0]⟩,fun q=>n - q.1.1,⟨(0,c1,[]),by dsimp only;omega,o1,by simp;omega,by dsimp only;rw[Nat.sub_zero,hRR];rfl,by dsimp only;rw[Nat.sub_zero,hRR]⟩,?_,?_⟩
 ·skip
  repeat' ((conv=>whnf);first|(with_reducible first|apply Wx|apply W6)|apply oi|(apply fi<;>intro h)|refine⟨_,rfl,?_⟩|((with_reducible show _=_);rfl))
  all_goals try((with_reducible refine Obl.mk ?_);exact KP)
  all_goals try exact⟨rfl⟩
 intro⟨⟨k,ci,acc⟩,hi,hci,hal,hr1,hr2⟩
 dsimp only at hi hci hal hr1 hr2 ⊢
 by_cases hlt:k < n
 ·obtain⟨m,hm⟩:∃m,n - k=m+1:=⟨n - k - 1,by omega⟩
  rw[hm]at hr1 hr2 hal
  rw[funsV]at hr1 hr2
  dsimp only at hr1 hr2
  obtain⟨s1,_,s3,s4⟩:=fun_ok (n:=n) (k:=k) hci
  generalize hF:funV n k ci=F at *
  rw[←List.append_assoc]at hr1
  have hlen:(acc++F.1).length+(n - (k+1)) * 200≤800:=by rw[List.length_append];omega
  rw[show m=n - (k+1) by omega]at hr1 hr2
  unfold funV at hF
  dsimp only at hF
  have hk4:k < 4:=by omega
  have hnm:nm0[k]?=some (nmN k):=by
   have:k=0∨k=1∨k=2∨k=3:=by omega
   rcases this with rfl|rfl|rfl|rfl <;> rfl
  have har:ar0[k]?=some (arN k:Int):=by
   have:k=0∨k=1∨k=2∨k=3:=by omega
   rcases this with rfl|rfl|rfl|rfl <;> rfl
  have har2:arN k≤2:=by
   have:k=0∨k=1∨k=2∨k=3:=by omega
   rcases this with rfl|rfl|rfl|rfl <;> decide
  have hw1:IntKind.i64.wrap ((k:Int)+1)=((k+1:Nat):Int):=by rw[IntWalk.i64_in _ (by omega)];omega
  have hnl:(nm0.map strRow).length=4:=rfl
  have hal4:(ar0.map intRow).length=4:=rfl
  have hfl:flat ([]++List.take (arN k) (arg0.map strRow)):=by rw[List.nil_append,←List.map_take];exact flat_strs _
  rcases Nat.eq_zero_or_pos k with hk0|hk0
  ·rw[if_neg (by omega)]at hF
   (try dsimp only at hF)
   have hG:=gpV_ok (n:=n) (k:=k) false
   obtain⟨k4,b4,o4,g4⟩:=belV_spec hci 4
   generalize belV 4 ci=t at *
   obtain⟨k5,b5,o5,g5⟩:=belV_spec o4 2
   generalize belV 2 t.2=u at *
   have k4':=k4 (by omega)
   have k5':=k5 (by omega)
   have g6:=g_body hG (1+u.1) (1+t.1) u.2 (by omega) (by omega) o5
   have hB:=body_ok hG (1+u.1)
   have hl:=hB.len (1+t.1) _ o5
   have hk:=hB.ok (1+t.1) _ o5
   have hx:=dr_drP (hB.bl (1+t.1) _ o5)
   have hs:sB (1+u.1)≤21:=by
    have:u.1=0∨u.1=1:=by omega
    rcases this with e|e <;> rw[e] <;> simp[sB]
   have hl2:=Nat.mul_le_mul (show 1+t.1≤4 by omega) hs
   generalize bodyV (gpV n k false) (1+u.1) (1+t.1) u.2=B at *
   obtain⟨t3,b3,o3,g3⟩:=exV_spec hG hk 3 (by omega)
   generalize exV (gpV n k false) 3 B.2=e at *
   subst hF
   have hnames:Tr.lst 1 ((gpV n k false).names.map strRow)=Tr.lst 1 (((nm0.map strRow).take n).drop (k+1)):=by simp[gpV,List.map_drop,List.map_take]
   have hars:Tr.lst 1 ((gpV n k false).ars.map intRow)=Tr.lst 1 (((ar0.map intRow).take n).drop (k+1)):=by simp[gpV,List.map_drop,List.map_take]
   have hvars:[]++List.take (arN k) (arg0.map strRow)++([[105],[122]]:List (List UInt8)).map strRow=(gpV n k false).vars.map strRow:=by simp[gpV,List.map_take]
   have hn1:Tr.int .i64 ((1+t.1:Nat):Int)=Tr.int .i64 (IntKind.i64.wrap (1+(t.1:Int))):=by rw[IntWalk.i64_in _ (by omega)];simp
   have hn2:Tr.int .i64 ((1+u.1:Nat):Int)=Tr.int .i64 (IntKind.i64.wrap (1+(u.1:Int))):=by rw[IntWalk.i64_in _ (by omega)];simp
   repeat' ((conv=>whnf);first|(with_reducible first|apply Wx|apply W6)|apply oi|(apply fi<;>intro h)|refine⟨k,(intRow (arN k)),rfl,map_get har,?_⟩|refine⟨0,arN k,rfl,rfl,Nat.zero_le _,har2,?_⟩|refine⟨k+1,n,hw1,rfl,by omega,by(rw[hnl];omega),?_⟩|refine⟨k+1,n,hw1,rfl,by omega,by(rw[hal4];omega),?_⟩|refine⟨k,(strRow (nmN k)),rfl,map_get hnm,?_⟩|refine⟨_,rfl,?_⟩|((with_reducible show _=_);rfl))
   all_goals try((with_reducible refine Obl.mk ?_);exact KP)
   all_goals try exact KX
   all_goals try exact⟨har2⟩
   all_goals try exact⟨⟨by simp <;> omega,by simp <;> omega⟩⟩
   all_goals try exact⟨hfl⟩
   refine cg (g4) ?_
   repeat' ((conv=>whnf);first|(with_reducible first|apply Wx|apply W6)|apply oi|(apply fi<;>intro h)|refine⟨_,rfl,?_⟩|((with_reducible show _=_);rfl))
   all_goals try((with_reducible refine Obl.mk ?_);exact KP)
   refine cg (g5) ?_
   repeat' ((conv=>whnf);first|(with_reducible first|apply Wx|apply W6)|apply oi|(apply fi<;>intro h)|refine⟨_,rfl,?_⟩|((with_reducible show _=_);rfl))
   all_goals try((with_reducible refine Obl.mk ?_);exact KP)
   refine cg (g6) ?_
   repeat' ((conv=>whnf);first|(with_reducible first|apply Wx|apply W6)|apply oi|(apply fi<;>intro h)|refine⟨_,rfl,?_⟩|((with_reducible show _=_);rfl))
   all_goals try((with_reducible refine Obl.mk ?_);exact KP)
   all_goals try exact⟨hnames⟩
   all_goals try exact⟨hars⟩
   all_goals try exact⟨hn1⟩
   all_goals try exact⟨hn2⟩
   all_goals try exact⟨hvars⟩
   all_goals try exact⟨⟨by simp <;> omega,by simp <;> omega⟩⟩
   refine cg (g3) ?_
   repeat' ((conv=>whnf);first|(with_reducible first|apply Wx|apply W6)|apply oi|(apply fi<;>intro h)|refine⟨_,rfl,?_⟩|((with_reducible show _=_);rfl))
   all_goals try((with_reducible refine Obl.mk ?_);exact KP)
   all_goals try exact⟨flat_toks _⟩
   all_goals try exact⟨⟨by simp <;> omega,by simp <;> omega⟩⟩
   conv=>whnf
   refine⟨⟨(k+1,_,_),by dsimp only;omega,s3,hlen,hr1,hr2⟩,?_,by dsimp only;omega⟩
   repeat' ((conv=>whnf);first|(with_reducible first|apply Wx|apply W6)|apply oi|(apply fi<;>intro h)|refine⟨_,rfl,?_⟩|((with_reducible show _=_);rfl))
   all_goals try((with_reducible refine Obl.mk ?_);exact KP)
   all_goals try exact⟨KW⟩
   all_goals try exact⟨by simp[drP,dr_pos t3.1,dr_nil,hx,List.map_take,arg0,strRow]⟩
  ·rw[if_pos hk0]at hF
   obtain⟨b7,o7,g7⟩:=onceV_spec hci 5
   generalize onceV 5 ci=o at *
   (try dsimp only at hF)
   cases ho:o.1 with
   | true=>
    rw[ho]at hF g7
    have hG:=gpV_ok (n:=n) (k:=k) true
    obtain⟨k4,b4,o4,g4⟩:=belV_spec o7 4
    generalize belV 4 o.2=t at *
    obtain⟨k5,b5,o5,g5⟩:=belV_spec o4 2
    generalize belV 2 t.2=u at *
    have k4':=k4 (by omega)
    have k5':=k5 (by omega)
    have g6:=g_body hG (1+u.1) (1+t.1) u.2 (by omega) (by omega) o5
    have hB:=body_ok hG (1+u.1)
    have hl:=hB.len (1+t.1) _ o5
    have hk:=hB.ok (1+t.1) _ o5
    have hx:=dr_drP (hB.bl (1+t.1) _ o5)
    have hs:sB (1+u.1)≤21:=by
     have:u.1=0∨u.1=1:=by omega
     rcases this with e|e <;> rw[e] <;> simp[sB]
    have hl2:=Nat.mul_le_mul (show 1+t.1≤4 by omega) hs
    generalize bodyV (gpV n k true) (1+u.1) (1+t.1) u.2=B at *
    obtain⟨t3,b3,o3,g3⟩:=exV_spec hG hk 3 (by omega)
    generalize exV (gpV n k true) 3 B.2=e at *
    subst hF
    have hnames:Tr.lst 1 ((gpV n k true).names.map strRow)=Tr.lst 1 (((nm0.map strRow).take n).drop (k)):=by simp[gpV,List.map_drop,List.map_take]
    have hars:Tr.lst 1 ((gpV n k true).ars.map intRow)=Tr.lst 1 (((ar0.map intRow).take n).drop (k)):=by simp[gpV,List.map_drop,List.map_take]
    have hvars:[]++List.take (arN k) (arg0.map strRow)++([[105],[122]]:List (List UInt8)).map strRow=(gpV n k true).vars.map strRow:=by simp[gpV,List.map_take]
    have hn1:Tr.int .i64 ((1+t.1:Nat):Int)=Tr.int .i64 (IntKind.i64.wrap (1+(t.1:Int))):=by rw[IntWalk.i64_in _ (by omega)];simp
    have hn2:Tr.int .i64 ((1+u.1:Nat):Int)=Tr.int .i64 (IntKind.i64.wrap (1+(u.1:Int))):=by rw[IntWalk.i64_in _ (by omega)];simp
    repeat' ((conv=>whnf);first|(with_reducible first|apply Wx|apply W6)|apply oi|(apply fi<;>intro h)|refine⟨k,(intRow (arN k)),rfl,map_get har,?_⟩|refine⟨0,arN k,rfl,rfl,Nat.zero_le _,har2,?_⟩|refine⟨k+1,n,hw1,rfl,by omega,by(rw[hnl];omega),?_⟩|refine⟨k+1,n,hw1,rfl,by omega,by(rw[hal4];omega),?_⟩|refine⟨k,(strRow (nmN k)),rfl,map_get hnm,?_⟩|refine⟨_,rfl,?_⟩|((with_reducible show _=_);rfl))
    all_goals try((with_reducible refine Obl.mk ?_);exact KP)
    all_goals try exact KX
    all_goals try exact⟨har2⟩
    all_goals try exact⟨⟨by simp <;> omega,by simp <;> omega⟩⟩
    all_goals try exact⟨hfl⟩
    refine cg (g7) ?_
    repeat' ((conv=>whnf);first|(with_reducible first|apply Wx|apply W6)|apply oi|(apply fi<;>intro h)|refine⟨k,(strRow (nmN k)),rfl,map_get hnm,?_⟩|refine⟨k,n,rfl,rfl,by omega,by(rw[hnl];omega),?_⟩|refine⟨k,n,rfl,rfl,by omega,by(rw[hal4];omega),?_⟩|refine⟨_,rfl,?_⟩|((with_reducible show _=_);rfl))
    all_goals try((with_reducible refine Obl.mk ?_);exact KP)
    all_goals try exact KX
    all_goals try exact⟨har2⟩
    all_goals try exact⟨⟨by simp <;> omega,by simp <;> omega⟩⟩
    all_goals try exact⟨hfl⟩
    refine cg (g4) ?_
    repeat' ((conv=>whnf);first|(with_reducible first|apply Wx|apply W6)|apply oi|(apply fi<;>intro h)|refine⟨_,rfl,?_⟩|((with_reducible show _=_);rfl))
    all_goals try((with_reducible refine Obl.mk ?_);exact KP)
    refine cg (g5) ?_
    repeat' ((conv=>whnf);first|(with_reducible first|apply Wx|apply W6)|apply oi|(apply fi<;>intro h)|refine⟨_,rfl,?_⟩|((with_reducible show _=_);rfl))
    all_goals try((with_reducible refine Obl.mk ?_);exact KP)
    refine cg (g6) ?_
    repeat' ((conv=>whnf);first|(with_reducible first|apply Wx|apply W6)|apply oi|(apply fi<;>intro h)|refine⟨_,rfl,?_⟩|((with_reducible show _=_);rfl))
    all_goals try((with_reducible refine Obl.mk ?_);exact KP)
    all_goals try exact⟨hnames⟩
    all_goals try exact⟨hars⟩
    all_goals try exact⟨hn1⟩
    all_goals try exact⟨hn2⟩
    all_goals try exact⟨hvars⟩
    all_goals try exact⟨⟨by simp <;> omega,by simp <;> omega⟩⟩
    refine cg (g3) ?_
    repeat' ((conv=>whnf);first|(with_reducible first|apply Wx|apply W6)|apply oi|(apply fi<;>intro h)|refine⟨_,rfl,?_⟩|((with_reducible show _=_);rfl))
    all_goals try((with_reducible refine Obl.mk ?_);exact KP)
    all_goals try exact⟨flat_toks _⟩
    all_goals try exact⟨⟨by simp <;> omega,by simp <;> omega⟩⟩
    conv=>whnf
    refine⟨⟨(k+1,_,_),by dsimp only;omega,s3,hlen,hr1,hr2⟩,?_,by dsimp only;omega⟩
    repeat' ((conv=>whnf);first|(with_reducible first|apply Wx|apply W6)|apply oi|(apply fi<;>intro h)|refine⟨_,rfl,?_⟩|((with_reducible show _=_);rfl))
    all_goals try((with_reducible refine Obl.mk ?_);exact KP)
    all_goals try exact⟨KW⟩
    all_goals try exact⟨by simp[drP,dr_pos t3.1,dr_nil,hx,List.map_take,arg0,strRow]⟩
   | false=>
    rw[ho]at hF g7
    have hG:=gpV_ok (n:=n) (k:=k) false
    obtain⟨k4,b4,o4,g4⟩:=belV_spec o7 4
    generalize belV 4 o.2=t at *
    obtain⟨k5,b5,o5,g5⟩:=belV_spec o4 2
    generalize belV 2 t.2=u at *
    have k4':=k4 (by omega)
    have k5':=k5 (by omega)
    have g6:=g_body hG (1+u.1) (1+t.1) u.2 (by omega) (by omega) o5
    have hB:=body_ok hG (1+u.1)
    have hl:=hB.len (1+t.1) _ o5
    have hk:=hB.ok (1+t.1) _ o5
    have hx:=dr_drP (hB.bl (1+t.1) _ o5)
    have hs:sB (1+u.1)≤21:=by
     have:u.1=0∨u.1=1:=by omega
     rcases this with e|e <;> rw[e] <;> simp[sB]
    have hl2:=Nat.mul_le_mul (show 1+t.1≤4 by omega) hs
    generalize bodyV (gpV n k false) (1+u.1) (1+t.1) u.2=B at *
    obtain⟨t3,b3,o3,g3⟩:=exV_spec hG hk 3 (by omega)
    generalize exV (gpV n k false) 3 B.2=e at *
    subst hF
    have hnames:Tr.lst 1 ((gpV n k false).names.map strRow)=Tr.lst 1 (((nm0.map strRow).take n).drop (k+1)):=by simp[gpV,List.map_drop,List.map_take]
    have hars:Tr.lst 1 ((gpV n k false).ars.map intRow)=Tr.lst 1 (((ar0.map intRow).take n).drop (k+1)):=by simp[gpV,List.map_drop,List.map_take]
    have hvars:[]++List.take (arN k) (arg0.map strRow)++([[105],[122]]:List (List UInt8)).map strRow=(gpV n k false).vars.map strRow:=by simp[gpV,List.map_take]
    have hn1:Tr.int .i64 ((1+t.1:Nat):Int)=Tr.int .i64 (IntKind.i64.wrap (1+(t.1:Int))):=by rw[IntWalk.i64_in _ (by omega)];simp
    have hn2:Tr.int .i64 ((1+u.1:Nat):Int)=Tr.int .i64 (IntKind.i64.wrap (1+(u.1:Int))):=by rw[IntWalk.i64_in _ (by omega)];simp
    repeat' ((conv=>whnf);first|(with_reducible first|apply Wx|apply W6)|apply oi|(apply fi<;>intro h)|refine⟨k,(intRow (arN k)),rfl,map_get har,?_⟩|refine⟨0,arN k,rfl,rfl,Nat.zero_le _,har2,?_⟩|refine⟨k+1,n,hw1,rfl,by omega,by(rw[hnl];omega),?_⟩|refine⟨k+1,n,hw1,rfl,by omega,by(rw[hal4];omega),?_⟩|refine⟨k,(strRow (nmN k)),rfl,map_get hnm,?_⟩|refine⟨_,rfl,?_⟩|((with_reducible show _=_);rfl))
    all_goals try((with_reducible refine Obl.mk ?_);exact KP)
    all_goals try exact KX
    all_goals try exact⟨har2⟩
    all_goals try exact⟨⟨by simp <;> omega,by simp <;> omega⟩⟩
    all_goals try exact⟨hfl⟩
    refine cg (g7) ?_
    repeat' ((conv=>whnf);first|(with_reducible first|apply Wx|apply W6)|apply oi|(apply fi<;>intro h)|refine⟨k,(strRow (nmN k)),rfl,map_get hnm,?_⟩|refine⟨_,rfl,?_⟩|((with_reducible show _=_);rfl))
    all_goals try((with_reducible refine Obl.mk ?_);exact KP)
    all_goals try exact KX
    all_goals try exact⟨har2⟩
    all_goals try exact⟨⟨by simp <;> omega,by simp <;> omega⟩⟩
    all_goals try exact⟨hfl⟩
    refine cg (g4) ?_
    repeat' ((conv=>whnf);first|(with_reducible first|apply Wx|apply W6)|apply oi|(apply fi<;>intro h)|refine⟨_,rfl,?_⟩|((with_reducible show _=_);rfl))
    all_goals try((with_reducible refine Obl.mk ?_);exact KP)
    refine cg (g5) ?_
    repeat' ((conv=>whnf);first|(with_reducible first|apply Wx|apply W6)|apply oi|(apply fi<;>intro h)|refine⟨_,rfl,?_⟩|((with_reducible show _=_);rfl))
    all_goals try((with_reducible refine Obl.mk ?_);exact KP)
    refine cg (g6) ?_
    repeat' ((conv=>whnf);first|(with_reducible first|apply Wx|apply W6)|apply oi|(apply fi<;>intro h)|refine⟨_,rfl,?_⟩|((with_reducible show _=_);rfl))
    all_goals try((with_reducible refine Obl.mk ?_);exact KP)
    all_goals try exact⟨hnames⟩
    all_goals try exact⟨hars⟩
    all_goals try exact⟨hn1⟩
    all_goals try exact⟨hn2⟩
    all_goals try exact⟨hvars⟩
    all_goals try exact⟨⟨by simp <;> omega,by simp <;> omega⟩⟩
    refine cg (g3) ?_
    repeat' ((conv=>whnf);first|(with_reducible first|apply Wx|apply W6)|apply oi|(apply fi<;>intro h)|refine⟨_,rfl,?_⟩|((with_reducible show _=_);rfl))
    all_goals try((with_reducible refine Obl.mk ?_);exact KP)
    all_goals try exact⟨flat_toks _⟩
    all_goals try exact⟨⟨by simp <;> omega,by simp <;> omega⟩⟩
    conv=>whnf
    refine⟨⟨(k+1,_,_),by dsimp only;omega,s3,hlen,hr1,hr2⟩,?_,by dsimp only;omega⟩
    repeat' ((conv=>whnf);first|(with_reducible first|apply Wx|apply W6)|apply oi|(apply fi<;>intro h)|refine⟨_,rfl,?_⟩|((with_reducible show _=_);rfl))
    all_goals try((with_reducible refine Obl.mk ?_);exact KP)
    all_goals try exact⟨KW⟩
    all_goals try exact⟨by simp[drP,dr_pos t3.1,dr_nil,hx,List.map_take,arg0,strRow]⟩
 ·have hkn:k=n:=by omega
  subst hkn
  rw[Nat.sub_self]at hr1 hr2
  simp only[funsV,List.append_nil]at hr1 hr2
  subst hr1;subst hr2
  dsimp only at hPL
  refine view_rule ⟨[(0,curP),(5,tI .i64 (k:Int)),(6,.r (.c (.t (.lst 4 ((acc.map drP).map fun x=>x.map DC.tr))))),(7,tI .i64 (k:Int))],[((0,0,0),some (.box [.t (.lst 1 (ci.b.map byteRow)),.t (.int .i64 ci.i),.t (.int .i64 ci.h)]))],[15,0]⟩ ?_ ?_ rfl ?_
  ·refine⟨.inl rfl,.inl rfl,.inr ⟨_,_,rfl,rfl,rfl,?_⟩,.inl rfl,trivial⟩
   intro q hq;simp only[AC.ids,List.mem_cons,List.not_mem_nil,or_false]at hq;subst hq;rfl
  ·exact⟨.inr rfl,trivial⟩
  refine retree_rule 6 rfl (em_prog hPL) ?_
  repeat' ((conv=>whnf);first|(with_reducible first|apply Wx|apply W6)|apply oi|(apply fi<;>intro h)|refine⟨_,rfl,?_⟩|((with_reducible show _=_);rfl))
  all_goals try((with_reducible refine Obl.mk ?_);exact KP)
  all_goals try exact KX
end Go.Proofs.YtjmplnfiabmalaaGreat
namespace Go.Proofs.YtjmplnfiabmalaaGreat
open Go.Sim
set_option maxRecDepth 100000
set_option maxHeartbeats 4000000
theorem prog_small {l:List TLine}(h:∀x∈l,PL x)(hl:l.length≤800):smallT 1048576 (.lst 4 (l.map TLine.tr)):=by
 refine small_map (by omega) fun x hx=>?_
 have hp:=h x hx
 have h1:smallT 1048576 (.lst 1 (x.fArgs.map strRow)):=small_map (by have:=hp.args.1;omega) fun s hs=>by
  have:=hp.args.2 s hs
  simp only[strRow,smallR,smallT]
  exact⟨by omega,trivial⟩
 have h2:smallT 1048576 (.lst 3 (x.fExpr.map TTok.tr)):=small_map (by have:=hp.len;omega) fun t ht=>by
  have:=hp.tok t ht
  simp only[TTok.tr,smallR,smallT]
  exact⟨trivial,trivial,by omega,trivial⟩
 have h3:=hp.name
 exact⟨trivial,by simp only[smallT];omega,h1,h2,trivial⟩
def fbP:List TLine:=[⟨0,[109,97,105,110],[],[]⟩,⟨2,[],[],[⟨0,1,[]⟩]⟩,⟨6,[],[],[⟨0,1,[]⟩]⟩,⟨7,[],[],[]⟩]
theorem fbP_ok:programOk fbP=true:=by decide
theorem fbP_pl:∀x∈fbP,PL x:=by
 intro x hx
 simp only[fbP,List.mem_cons,List.not_mem_nil,or_false]at hx
 rcases hx with rfl|rfl|rfl|rfl
 all_goals exact⟨by simp,by simp,by simp,by simp,by simp,by simp⟩
noncomputable def prog4:Nat→TCur→List TLine×TCur
 | 0,c=>(fbP,c)
 | r+1,c=>if programOk (progV c).1=true then progV c else prog4 r (progV c).2
theorem prog4_ok:∀(r:Nat) (c:TCur),c.ok→programOk (prog4 r c).1=true∧(prog4 r c).1.length≤800∧(prog4 r c).2.b=c.b∧(prog4 r c).2.ok∧∀x∈(prog4 r c).1,PL x
 | 0,c,hc=>⟨fbP_ok,by simp[prog4,fbP],rfl,hc,fbP_pl⟩
 | r+1,c,hc=>by
  obtain⟨h1,h2,h3,h4⟩:=prog_ok hc
  rw[prog4]
  split
  ·rename_i h;exact⟨h,h1,h2,h3,h4⟩
  ·obtain⟨i1,i2,i3,i4,i5⟩:=prog4_ok r _ h3
   exact⟨i1,i2,i3.trans h2,i4,i5⟩
theorem em_fb:emR [[.int .i64 0,.str [109,97,105,110],.lst 0 [],.lst 0 []],[.int .i64 2,.str [],.lst 0 [],.lst 3 [[.int .i64 0,.int .i64 1,.str []]]],[.int .i64 6,.str [],.lst 0 [],.lst 3 [[.int .i64 0,.int .i64 1,.str []]]],[.int .i64 7,.str [],.lst 0 [],.lst 0 []]] (fbP.map TLine.tr):=by
 refine⟨⟨rfl,fun p c d hc hd=>?_⟩,⟨rfl,fun p c d hc hd=>?_⟩,⟨rfl,fun p c d hc hd=>?_⟩,⟨rfl,fun p c d hc hd=>?_⟩,trivial⟩
 all_goals(
  match p with
  | 0=>simp[TLine.tr]at hc hd;subst hc;subst hd;exact .inl rfl
  | 1=>simp[TLine.tr]at hc hd;subst hc;subst hd;exact .inl rfl
  | 2=>simp[TLine.tr]at hc hd;subst hc;subst hd;exact .inr ⟨_,_,rfl,rfl⟩
  | 3=>simp[TLine.tr,TTok.tr]at hc hd;subst hc;subst hd;first|exact .inl rfl|exact .inr ⟨_,_,rfl,rfl⟩
  | p+4=>simp at hc)
theorem g_spec_l04Program (c:TCur)(hc:c.ok):SpecG Tryz.prog 70 [curP] (curH c) (.r (.c (.t (.lst 4 ((prog4 5 c).1.map TLine.tr))))) (curH (prog4 5 c).2):=by
 refine specG_of_Wo hΓ hmix Tryz.func70 rfl (by decide) rfl rfl ?_
 generalize hR:prog4 5 c=R at *
 repeat' ((conv=>whnf);first|(with_reducible first|apply Wx|apply W6)|apply oi|(apply fi<;>intro h)|refine⟨_,rfl,?_⟩|((with_reducible show _=_);rfl))
 all_goals try((with_reducible refine Obl.mk ?_);exact KP)
 conv=>whnf
 refine⟨{q:Nat×TCur // q.1≤5∧q.2.ok∧prog4 (5 - q.1) q.2=R},fun q=>⟨[(0,curP),(3,tI .i64 (q.1.1:Int))],[((0,0,0),some (.box [.t (.lst 1 (q.1.2.b.map byteRow)),.t (.int .i64 q.1.2.i),.t (.int .i64 q.1.2.h)]))],[0]⟩,fun q=>5 - q.1.1,⟨(0,c),by dsimp only;omega,hc,hR⟩,?_,?_⟩
 ·skip
  repeat' ((conv=>whnf);first|(with_reducible first|apply Wx|apply W6)|apply oi|(apply fi<;>intro h)|refine⟨_,rfl,?_⟩|((with_reducible show _=_);rfl))
  all_goals try((with_reducible refine Obl.mk ?_);exact KP)
 intro⟨⟨k,ci⟩,hi,hci,hr⟩
 dsimp only at hi hci hr ⊢
 by_cases hlt:k < 5
 ·obtain⟨m,hm⟩:∃m,5 - k=m+1:=⟨5 - k - 1,by omega⟩
  rw[hm,prog4]at hr
  have gP:=g_spec_l03Program ci hci
  obtain⟨h1,h2,h3,h4⟩:=prog_ok hci
  have hO:=s_spec_ProgramOk (progV ci).1 (prog_small h4 h1)
  generalize progV ci=Q at *
  cases hq:programOk Q.1 with
  | true=>
   rw[if_pos hq]at hr
   subst hr
   rw[hq]at hO
   repeat' ((conv=>whnf);first|(with_reducible first|apply Wx|apply W6)|apply oi|(apply fi<;>intro h)|refine⟨_,rfl,?_⟩|((with_reducible show _=_);rfl))
   all_goals try((with_reducible refine Obl.mk ?_);exact KP)
   refine cg (gP) ?_
   repeat' ((conv=>whnf);first|(with_reducible first|apply Wx|apply W6)|apply oi|(apply fi<;>intro h)|refine cl hO ?_|refine⟨_,rfl,?_⟩|((with_reducible show _=_);rfl))
   all_goals try((with_reducible refine Obl.mk ?_);exact KP)
   all_goals try exact KX
  | false=>
   rw[if_neg (by simp[hq])]at hr
   rw[hq]at hO
   repeat' ((conv=>whnf);first|(with_reducible first|apply Wx|apply W6)|apply oi|(apply fi<;>intro h)|refine⟨_,rfl,?_⟩|((with_reducible show _=_);rfl))
   all_goals try((with_reducible refine Obl.mk ?_);exact KP)
   refine cg (gP) ?_
   repeat' ((conv=>whnf);first|(with_reducible first|apply Wx|apply W6)|apply oi|(apply fi<;>intro h)|refine cl hO ?_|refine⟨_,rfl,?_⟩|((with_reducible show _=_);rfl))
   all_goals try((with_reducible refine Obl.mk ?_);exact KP)
   all_goals try exact KX
   conv=>whnf
   refine⟨⟨(k+1,Q.2),by dsimp only;omega,h3,by dsimp only;rw[show 5 - (k+1)=m by omega];exact hr⟩,?_,by dsimp only;omega⟩
   repeat' ((conv=>whnf);first|(with_reducible first|apply Wx|apply W6)|apply oi|(apply fi<;>intro h)|refine⟨_,rfl,?_⟩|((with_reducible show _=_);rfl))
   all_goals try((with_reducible refine Obl.mk ?_);exact KP)
   all_goals try exact⟨KW⟩
 ·have hk:k=5:=by omega
  subst hk
  rw[show(5:Nat) - 5=0 from rfl,prog4]at hr
  subst hr
  repeat' ((conv=>whnf);first|(with_reducible apply W1;fail_if_success (with_reducible show Wo _ _ _ _ (Code.region 8 _ _) _ _))|(with_reducible first|apply W2|apply W3|apply W4|apply W5|apply W6|apply W7|apply W8|apply W9)|apply reg_inl|apply oi|(apply fi<;>intro h)|refine⟨_,rfl,?_⟩|((with_reducible show _=_);rfl))
  all_goals try((with_reducible refine Obl.mk ?_);exact KP)
  all_goals try exact KX
  conv=>whnf
  refine view_rule ⟨[(5,.r (.c (.t (.lst 3 [[.int .i64 0,.int .i64 1,.str []]]))))],[((0,0,0),some (.box [.t (.lst 1 (ci.b.map byteRow)),.t (.int .i64 ci.i),.t (.int .i64 ci.h)]))],[16,0]⟩ ?_ ?_ rfl ?_
  ·refine⟨.inr ⟨_,_,rfl,rfl,rfl,?_⟩,trivial⟩
   intro q hq;simp only[AC.ids,List.mem_cons,List.not_mem_nil,or_false]at hq;subst hq;rfl
  ·exact⟨.inr rfl,trivial⟩
  repeat' ((conv=>whnf);first|(with_reducible first|apply W1|apply W2)|apply reg_inl|refine oi ?_ ?_|refine⟨_,rfl,?_⟩|((with_reducible show _=_);rfl))
  all_goals try((with_reducible refine Obl.mk ?_);exact KP)
  conv=>whnf
  refine view_rule ⟨[(2,.r (.c (.t (.lst 4 [[.int .i64 0,.str [109,97,105,110],.lst 0 [],.lst 0 []],[.int .i64 2,.str [],.lst 0 [],.lst 3 [[.int .i64 0,.int .i64 1,.str []]]],[.int .i64 6,.str [],.lst 0 [],.lst 3 [[.int .i64 0,.int .i64 1,.str []]]],[.int .i64 7,.str [],.lst 0 [],.lst 0 []]]))))],[((0,0,0),some (.box [.t (.lst 1 (ci.b.map byteRow)),.t (.int .i64 ci.i),.t (.int .i64 ci.h)]))],[23,16,0]⟩ ?_ ?_ rfl ?_
  ·refine⟨.inr ⟨_,_,rfl,rfl,rfl,?_⟩,trivial⟩
   intro q hq;simp only[AC.ids,List.mem_cons,List.not_mem_nil,or_false]at hq;subst hq;rfl
  ·exact⟨.inr rfl,trivial⟩
  refine retree_rule 2 rfl em_fb ?_
  repeat' ((conv=>whnf);first|(with_reducible first|apply Wx|apply W6)|apply oi|(apply fi<;>intro h)|refine⟨_,rfl,?_⟩|((with_reducible show _=_);rfl))
  all_goals try((with_reducible refine Obl.mk ?_);exact KP)
end Go.Proofs.YtjmplnfiabmalaaGreat
namespace Go.Proofs.YtjmplnfiabmalaaGreat
open Go.Sim
set_option maxRecDepth 100000
set_option maxHeartbeats 4000000
abbrev vCode (code:List UInt8):AV:= .r (.c (.t (.lst 1 (code.map byteRow))))
theorem cur0_ok {code:List UInt8}(hl:code.length≤1048576):(⟨code,0,hashC code⟩:TCur).ok:=⟨by simp,hl⟩
theorem byte_rows {rows:List (List Tr)}(h:∀r∈rows,∃n,r=[.int .u8 n]∧(Lit.int .u8 n).wf=true):∃bs:List UInt8,rows=bs.map byteRow:=by
 obtain⟨bs,hb,_⟩:=rows_map (g:=byteRow) (Q:=fun _=>True) (rows:=rows) fun r hr=>by
  obtain⟨n,rfl,hw⟩:=h r hr
  have h1:IntKind.u8.min≤n∧n≤IntKind.u8.max:=by simpa [Lit.wf]using hw
  have h2:0≤n∧n≤255:=h1
  refine⟨UInt8.ofNat n.toNat,?_,trivial⟩
  rw[byteRow,show(UInt8.ofNat n.toNat).toNat=n.toNat by simp;omega,Int.toNat_of_nonneg h2.1]
 exact⟨bs,hb⟩
end Go.Proofs.YtjmplnfiabmalaaGreat
namespace Go.Proofs.YtjmplnfiabmalaaGreat
open Go.Sim
set_option maxRecDepth 100000
set_option maxHeartbeats 4000000
def nextC (c:TCur):TCur:=⟨c.b,if c.i < c.b.length then c.i+1 else c.i,nextH c.h⟩
def valC (c:TCur):Nat:=match c.b[c.i]? with
 | some u=>(byN (nextH c.h)+u.toNat) % 256
 | none=>byN (nextH c.h)
theorem nextC_ok {c:TCur}(h:c.ok):(nextC c).ok:=⟨by have:=h.1;unfold nextC;dsimp only;split <;> omega,h.2⟩
theorem valC_lt (c:TCur):valC c < 256:=by
 unfold valC
 split
 ·omega
 ·exact byN_lt _
theorem low8_nat (n:Nat):IntKind.i64.wrap ((BitVec.ofInt IntKind.i64.bits (IntKind.i64.wrap (n:Int)) &&& BitVec.ofInt IntKind.i64.bits 255).toNat:Int)=((n % 256:Nat):Int):=by
 show IntKind.i64.wrap (((BitVec.ofInt 64 (IntKind.i64.wrap (n:Int)) &&& BitVec.ofInt 64 255).toNat:Nat):Int)=_
 rw[and255]
 have hw:IntKind.i64.wrap (n:Int) % 256=(n:Int) % 256:=by
  unfold IntKind.wrap
  simp[IntKind.bits,IntKind.signed]
  split <;> omega
 rw[hw,IntWalk.i64_in _ (by omega)]
 omega
theorem g_spec_byteV (c:TCur)(hc:c.ok):SpecG Tryz.prog 203 [curP] (curH c) (tI .i64 (valC c)) (curH (nextC c)):=by
 obtain⟨hi,hl⟩:=hc
 have hbl:(c.b.map byteRow).length=c.b.length:=by simp
 have he0:=byW_eq (nextH c.h)
 have hlt8:=byN_lt (nextH c.h)
 unfold valC nextC
 generalize hx:byN (nextH c.h)=x0 at *
 unfold byW nextH at he0
 unfold nextH
 by_cases hlt:c.i < c.b.length
 ·obtain⟨u,hu⟩:=get_of_lt hlt
  have hu8:=u.toNat_lt
  have he:=low8_nat (x0+u.toNat)
  rw[hu,if_pos hlt]
  dsimp only
  refine specG_of_Wo hΓ hmix Tryz.func203 rfl (by decide) rfl rfl ?_
  repeat' ((conv=>whnf);first|(with_reducible first|apply Wx|apply W6)|apply oi|(apply fi<;>intro h)|refine⟨c.i,(byteRow u),rfl,map_get hu,?_⟩|refine⟨_,rfl,?_⟩|((with_reducible show _=_);rfl))
  all_goals try((with_reducible refine Obl.mk ?_);exact KP)
  all_goals try exact KX
  all_goals try exact⟨congrArg (Tr.int _) (by rw[he0,IntWalk.i64_in (u.toNat:Int) (by omega)];exact he)⟩
  all_goals exact⟨by rw[IntWalk.i64_in _ (by omega)];rfl⟩
 ·rw[List.getElem?_eq_none (by omega),if_neg hlt]
  dsimp only
  refine specG_of_Wo hΓ hmix Tryz.func203 rfl (by decide) rfl rfl ?_
  repeat' ((conv=>whnf);first|(with_reducible first|apply Wx|apply W6)|apply oi|(apply fi<;>intro h)|refine⟨_,rfl,?_⟩|((with_reducible show _=_);rfl))
  all_goals try((with_reducible refine Obl.mk ?_);exact KP)
  all_goals try exact KX
  all_goals try exact⟨congrArg (Tr.int _) he0⟩
  all_goals exact⟨rfl⟩
theorem g_spec_belowV (c:TCur)(n:Nat)(hc:c.ok)(h0:0 < n)(h1:n≤256):SpecG Tryz.prog 146 [curP,tI .i64 (n:Int)] (curH c) (tI .i64 ((valC c % n:Nat):Int)) (curH (nextC c)):=by
 have g1:=g_spec_byteV c hc
 have hm:((valC c:Nat):Int).tmod (n:Int)=((valC c % n:Nat):Int):=by rw[Int.tmod_eq_emod_of_nonneg (by omega)];rfl
 refine specG_of_Wo hΓ hmix Tryz.func146 rfl (by decide) rfl rfl ?_
 repeat' ((conv=>whnf);first|(with_reducible first|apply Wx|apply W6)|refine cg g1 ?_|apply oi|(apply fi<;>intro h)|refine⟨_,rfl,?_⟩|((with_reducible show _=_);rfl))
 all_goals try((with_reducible refine Obl.mk ?_);exact KP)
 all_goals try exact KX
 all_goals try exact⟨by omega⟩
 all_goals exact⟨congrArg (Tr.int _) hm⟩
theorem g_spec_belowW (c:TCur)(n:Int)(hc:c.ok)(h:256 < n):∃y:Nat,(y:Int) < n∧SpecG Tryz.prog 146 [curP,tI .i64 n] (curH c) (tI .i64 (y:Int)) (curH (nextC (nextC (nextC (nextC c))))):=by
 have g1:=g_spec_byteV c hc
 have g2:=g_spec_byteV _ (nextC_ok hc)
 have g3:=g_spec_byteV _ (nextC_ok (nextC_ok hc))
 have g4:=g_spec_byteV _ (nextC_ok (nextC_ok (nextC_ok hc)))
 have k1:=valC_lt c
 have k2:=valC_lt (nextC c)
 have k3:=valC_lt (nextC (nextC c))
 have k4:=valC_lt (nextC (nextC (nextC c)))
 generalize valC c=x1 at *
 generalize valC (nextC c)=x2 at *
 generalize valC (nextC (nextC c))=x3 at *
 generalize valC (nextC (nextC (nextC c)))=x4 at *
 obtain⟨y,hy,hm⟩:=tmod_below (x:=x1 * 16777216+x2 * 65536+x3 * 256+x4) (n:=n) (by omega)
 refine⟨y,hy,?_⟩
 refine specG_of_Wo hΓ hmix Tryz.func146 rfl (by decide) rfl rfl ?_
 repeat' ((conv=>whnf);first|(with_reducible first|apply Wx|apply W6)|apply oi|(apply fi<;>intro h)|refine⟨_,rfl,?_⟩|((with_reducible show _=_);rfl))
 all_goals try((with_reducible refine Obl.mk ?_);exact KP)
 all_goals try exact KX
 refine cg (g1) ?_
 repeat' ((conv=>whnf);first|(with_reducible first|apply Wx|apply W6)|apply oi|(apply fi<;>intro h)|refine⟨_,rfl,?_⟩|((with_reducible show _=_);rfl))
 all_goals try((with_reducible refine Obl.mk ?_);exact KP)
 refine cg (g2) ?_
 repeat' ((conv=>whnf);first|(with_reducible first|apply Wx|apply W6)|apply oi|(apply fi<;>intro h)|refine⟨_,rfl,?_⟩|((with_reducible show _=_);rfl))
 all_goals try((with_reducible refine Obl.mk ?_);exact KP)
 refine cg (g3) ?_
 repeat' ((conv=>whnf);first|(with_reducible first|apply Wx|apply W6)|apply oi|(apply fi<;>intro h)|refine⟨_,rfl,?_⟩|((with_reducible show _=_);rfl))
 all_goals try((with_reducible refine Obl.mk ?_);exact KP)
 refine cg (g4) ?_
 repeat' ((conv=>whnf);first|(with_reducible first|apply Wx|apply W6)|apply oi|(apply fi<;>intro h)|refine⟨_,rfl,?_⟩|((with_reducible show _=_);rfl))
 all_goals try((with_reducible refine Obl.mk ?_);exact KP)
 all_goals try exact⟨by omega⟩
 all_goals(
  have hw:IntKind.i64.wrap (IntKind.i64.wrap (IntKind.i64.wrap (IntKind.i64.wrap ((x1:Int) * 16777216)+IntKind.i64.wrap ((x2:Int) * 65536))+IntKind.i64.wrap ((x3:Int) * 256))+(x4:Int))=((x1 * 16777216+x2 * 65536+x3 * 256+x4:Nat):Int):=by
   rw[IntWalk.i64_in ((x1:Int) * 16777216) (by omega),IntWalk.i64_in ((x2:Int) * 65536) (by omega),IntWalk.i64_in ((x3:Int) * 256) (by omega),IntWalk.i64_in ((x1:Int) * 16777216+(x2:Int) * 65536) (by omega),IntWalk.i64_in ((x1:Int) * 16777216+(x2:Int) * 65536+(x3:Int) * 256) (by omega),IntWalk.i64_in _ (by omega)]
   omega
  exact⟨by rw[hw,hm]⟩)
theorem g_spec_pickV (c:TCur)(ns:List Int)(hc:c.ok)(hp:0 < ns.length)(hl:ns.length≤256):SpecG Tryz.prog 147 [curP,.r (.c (.own (0,0,1)))] (curH c++[((0,0,1),.arr false 1 (ns.map intRow))]) (tI .i64 (ns[valC c % ns.length]?.getD 0)) (curH (nextC c)++[((0,0,1),.arr false 1 (ns.map intRow))]):=by
 have hlen:(ns.map intRow).length=ns.length:=by simp
 have g1:=g_spec_belowV c (ns.map intRow).length hc (by omega) (by omega)
 rw[hlen]at g1
 have hx:valC c % ns.length < ns.length:=Nat.mod_lt _ hp
 obtain⟨v,hv⟩:=get_of_lt hx
 have hxl:valC c % ns.length < (ns.map intRow).length:=by rw[hlen];exact hx
 rw[hv]
 refine specG_of_Wo hΓ hmix Tryz.func147 rfl (by decide) rfl rfl ?_
 rw[←hlen]at g1
 repeat' ((conv=>whnf);first|(with_reducible first|apply Wx|apply W6)|refine cg g1 ?_|apply oi|(apply fi<;>intro h)|refine⟨(valC c % ns.length),(by rw[hlen]),hxl,?_⟩|refine⟨(intRow v),map_get hv,?_⟩|refine⟨_,rfl,?_⟩|((with_reducible show _=_);rfl))
 all_goals try((with_reducible refine Obl.mk ?_);exact KP)
def itC:Nat→TCur→TCur
 | 0,c=>c
 | n+1,c=>itC n (nextC c)
theorem itC_add:∀(n m:Nat) (c:TCur),itC (n+m) c=itC m (itC n c)
 | 0,m,c=>by rw[Nat.zero_add,itC]
 | n+1,m,c=>by rw[show n+1+m=(n+m)+1 by omega,itC,itC,itC_add n m]
theorem itC_ok:∀(n:Nat) {c:TCur},c.ok→(itC n c).ok
 | 0,_,h=>h
 | n+1,c,h=>by rw[itC];exact itC_ok n (nextC_ok h)
theorem itC_b:∀(n:Nat) (c:TCur),(itC n c).b=c.b
 | 0,_=>rfl
 | n+1,c=>by rw[itC,itC_b n];rfl
theorem itC_h:∀(n:Nat) (c:TCur),(itC n c).h=itH n c.h
 | 0,_=>rfl
 | n+1,c=>by rw[itC,itC_h n,itH];rfl
theorem itC_i:∀(n:Nat) (c:TCur),c.i≤c.b.length→(itC n c).i=min (c.i+n) c.b.length
 | 0,c,h=>by rw[itC];omega
 | n+1,c,h=>by
  have h2:(nextC c).i≤(nextC c).b.length:=by unfold nextC;dsimp only;split <;> omega
  rw[itC,itC_i n _ h2]
  unfold nextC
  dsimp only
  split <;> omega
def goodC (c:TCur):Prop:=valC (itC 5 c) % 3=2
theorem good_comes (c:TCur)(h:c.ok):∃k,goodC (itC (6 * k) c):=by
 obtain⟨k,hk,h2⟩:=comes_two c.h (c.b.length+1)
 obtain⟨j,rfl⟩:∃j,k=j+1:=⟨k - 1,by omega⟩
 refine⟨j,?_⟩
 unfold goodC
 rw[←itC_add]
 have hi:=itC_i (6 * j+5) c h.1
 have hb:=itC_b (6 * j+5) c
 unfold valC
 rw[hb,List.getElem?_eq_none (by rw[hi];omega),itC_h]
 dsimp only
 have e:nextH (itH (6 * j+5) c.h)=itH (6 * (j+1)) c.h:=(itH_add (6 * j+5) 1 c.h).symm
 rw[e]
 exact h2
structure SpOk (p:List TLine) (b:TBuild) (first second:Int):Prop where
 small:smallT 1048576 (.lst 4 (p.map TLine.tr))
 prog:programOk p=true
 build:buildOk b=true
 fb:1≤first∧first≤9000
 sb:20000≤second∧second≤1000000
 space:spaceOk (candS p b first second)=true
noncomputable abbrev spH (p:List TLine) (b:TBuild) (first second:Int):List (Sim.Id×AO):=[((1,0,0),.arr true 2 [(assemble p b 0).tr,(assemble p b 1).tr]),((1,0,1),.arr true 1 [intRow first,intRow second]),((1,0,2),.arr true 1 ((entries p b first second).map intRow))]
noncomputable def yC (c:TCur):Nat:=open Classical in if h:c.ok then Classical.choose (g_spec_belowW c 9000 h (by omega))else 0
theorem yC_spec {c:TCur}(h:c.ok):(yC c:Int) < 9000∧SpecG Tryz.prog 146 [curP,tI .i64 9000] (curH c) (tI .i64 (yC c:Int)) (curH (itC 4 c)):=by
 rw[yC,dif_pos h]
 exact Classical.choose_spec (g_spec_belowW c 9000 h (by omega))
noncomputable abbrev fL (c:TCur):List Int:=[1,100,5000,1+(yC c:Int)]
abbrev sL:List Int:=[20000,60000,1000000]
noncomputable def firstC (c:TCur):Int:=(fL c)[valC (itC 4 c) % (fL c).length]?.getD 0
def secondC (c:TCur):Int:=sL[valC (itC 5 c) % sL.length]?.getD 0
theorem firstC_in {c:TCur}(h:c.ok):1≤firstC c∧firstC c≤9000:=by
 have hy:=(yC_spec h).1
 unfold firstC
 have:valC (itC 4 c) % (fL c).length < 4:=Nat.mod_lt _ (by simp)
 generalize valC (itC 4 c) % (fL c).length=k at *
 rcases(show k=0∨k=1∨k=2∨k=3 by omega)with rfl|rfl|rfl|rfl
 all_goals(simp;try omega)
theorem secondC_in (c:TCur):20000≤secondC c∧secondC c≤1000000:=by
 unfold secondC
 have:valC (itC 5 c) % sL.length < 3:=Nat.mod_lt _ (by decide)
 generalize valC (itC 5 c) % sL.length=k at *
 rcases(show k=0∨k=1∨k=2 by omega)with rfl|rfl|rfl
 all_goals simp
theorem secondC_good {c:TCur}(h:goodC c):secondC c=1000000:=by
 unfold secondC goodC at *
 rw[show sL.length=3 from rfl,h]
 rfl
noncomputable def spRun (p:List TLine) (b:TBuild):Nat→TCur→Int×Int×TCur
 | 0,c=>(firstC c,secondC c,itC 6 c)
 | n+1,c=>if(loadS p b (firstC c) (secondC c)).isSome=true then(firstC c,secondC c,itC 6 c)else spRun p b n (itC 6 c)
theorem spRun_ok {p:List TLine}{b:TBuild}(hs:smallT 1048576 (.lst 4 (p.map TLine.tr)))(h1:programOk p=true)(h2:buildOk b=true):∀(n:Nat) (c:TCur),c.ok→goodC (itC (6 * n) c)→(1≤(spRun p b n c).1∧(spRun p b n c).1≤9000)∧(20000≤(spRun p b n c).2.1∧(spRun p b n c).2.1≤1000000)∧(loadS p b (spRun p b n c).1 (spRun p b n c).2.1).isSome=true
 | 0,c,hc,hg=>by
  refine⟨firstC_in hc,secondC_in c,?_⟩
  rw[spRun]
  dsimp only
  rw[secondC_good (show goodC c from hg),loadS_some hs h1 h2 (firstC_in hc) (by omega)]
  rfl
 | n+1,c,hc,hg=>by
  rw[spRun]
  split
  ·exact⟨firstC_in hc,secondC_in c,by assumption⟩
  ·refine spRun_ok hs h1 h2 n _ (itC_ok 6 hc) ?_
   rw[←itC_add,show 6+6 * n=6 * (n+1) by omega]
   exact hg
theorem loadS_cand {p:List TLine}{b:TBuild}{first second:Int}(h:(loadS p b first second).isSome=true):programOk p=true∧buildOk b=true∧spaceOk (candS p b first second)=true∧loadS p b first second=some (candS p b first second):=by
 unfold loadS at *
 split at h
 ·rename_i hc;exact⟨hc.1,hc.2.1,hc.2.2,by rw[if_pos hc]⟩
 ·cases h
theorem g_spec_l10Space (c:TCur)(hc:c.ok):∃(p:List TLine) (b:TBuild) (first second:Int) (c':TCur),SpOk p b first second∧SpecG Tryz.prog 90 [curP] (curH c) (.tup [.c (.t (.lst 4 (p.map TLine.tr))),.agg (b.tr.map .t),.agg [.own (1,0,0),.own (1,0,1),.own (1,0,2)]]) (curH c'++spH p b first second):=by
 have g1:=g_spec_l04Program c hc
 obtain⟨q1,q2,q3,q4,q5⟩:=prog4_ok 5 c hc
 generalize prog4 5 c=R0 at *
 obtain⟨p,c1⟩:=R0
 dsimp only at *
 obtain⟨b,c2,hb,_,o2,g2⟩:=g_spec_l08Build c1 q4
 have hs:=prog_small q5 q2
 obtain⟨K,hK⟩:=good_comes c2 o2
 obtain⟨r1,r2,r3⟩:=spRun_ok hs q1 hb K c2 o2 hK
 obtain⟨_,_,s3,s4⟩:=loadS_cand r3
 obtain⟨R,hR⟩:∃R,spRun p b K c2=R:=⟨_,rfl⟩
 rw[hR]at r1 r2 r3 s3 s4
 refine⟨p,b,R.1,R.2.1,R.2.2,⟨hs,q1,hb,r1,r2,s3⟩,?_⟩
 refine specG_of_Wo hΓ hmix Tryz.func90 rfl (by decide) rfl rfl ?_
 repeat' ((conv=>whnf);first|(with_reducible first|apply Wx|apply W6)|apply oi|(apply fi<;>intro h)|refine⟨_,rfl,?_⟩|((with_reducible show _=_);rfl))
 all_goals try((with_reducible refine Obl.mk ?_);exact KP)
 refine cg (g1) ?_
 repeat' ((conv=>whnf);first|(with_reducible first|apply Wx|apply W6)|apply oi|(apply fi<;>intro h)|refine⟨_,rfl,?_⟩|((with_reducible show _=_);rfl))
 all_goals try((with_reducible refine Obl.mk ?_);exact KP)
 refine cg (g2) ?_
 repeat' ((conv=>whnf);first|(with_reducible first|apply Wx|apply W6)|apply oi|(apply fi<;>intro h)|refine⟨_,rfl,?_⟩|((with_reducible show _=_);rfl))
 all_goals try((with_reducible refine Obl.mk ?_);exact KP)
 conv=>whnf
 refine⟨{q:Nat×TCur // q.2.ok∧goodC (itC (6 * q.1) q.2)∧spRun p b q.1 q.2=R},fun q=>⟨[(0,curP),(3,.r (.c (.ptr (3,0,0) 0))),(4,.r (.c (.ptr (4,0,0) 0))),(5,vP p),(6,.r (.c (.ptr (6,0,0) 0)))],[((0,0,0),some (.box [.t (.lst 1 (q.1.2.b.map byteRow)),.t (.int .i64 q.1.2.i),.t (.int .i64 q.1.2.h)])),((3,0,0),some (.box [.t (.int .i64 0),.t (.int .i64 0),.t (.bool false),.t (.bool false)])),((4,0,0),some (.box [.nils 0,.nils 0,.nils 0])),((6,0,0),some (.box (b.tr.map .t)))],[6,4,3,0]⟩,fun q=>q.1.1,⟨(K,c2),o2,hK,hR⟩,?_,?_⟩
 ·skip
  repeat' ((conv=>whnf);first|(with_reducible first|apply Wx|apply W6)|apply oi|(apply fi<;>intro h)|refine⟨_,rfl,?_⟩|((with_reducible show _=_);rfl))
  all_goals try((with_reducible refine Obl.mk ?_);exact KP)
 intro⟨⟨n,ci⟩,hci,hg,hr⟩
 dsimp only at hci hg hr ⊢
 obtain⟨hy,gy⟩:=yC_spec hci
 have gf:=g_spec_pickV (itC 4 ci) (fL ci) (itC_ok 4 hci) (by simp) (by simp)
 have gs:=g_spec_pickV (itC 5 ci) sL (itC_ok 5 hci) (by decide) (by decide)
 have hL:=s_spec_LoadSpace p b (firstC ci) (secondC ci) hs
 rw[show(fL ci)[valC (itC 4 ci) % (fL ci).length]?.getD 0=firstC ci from rfl]at gf
 rw[show sL[valC (itC 5 ci) % sL.length]?.getD 0=secondC ci from rfl]at gs
 have n4:nextC (itC 4 ci)=itC 5 ci:=rfl
 have n5:nextC (itC 5 ci)=itC 6 ci:=rfl
 rw[n4]at gf
 rw[n5]at gs
 have hw1:IntKind.i64.wrap (1+(yC ci:Int))=1+(yC ci:Int):=IntWalk.i64_in _ (by omega)
 cases hl:loadS p b (firstC ci) (secondC ci)with
 | some sp=>
  have hl2:(loadS p b (firstC ci) (secondC ci)).isSome=true:=by rw[hl];rfl
  have hRe:R=(firstC ci,secondC ci,itC 6 ci):=by
   rw[←hr]
   cases n with
   | zero=>rfl
   | succ n=>rw[spRun,if_pos hl2]
  subst hRe
  dsimp only at s4 ⊢
  rw[hl]at hL s4
  injection s4 with s4
  subst s4
  simp only[oSp,candS]at hL
  repeat' ((conv=>whnf);first|(with_reducible first|apply Wx|apply W6)|apply oi|(apply fi<;>intro h)|refine⟨_,rfl,?_⟩|((with_reducible show _=_);rfl))
  all_goals try((with_reducible refine Obl.mk ?_);exact KP)
  refine cg (gy) ?_
  repeat' ((conv=>whnf);first|(with_reducible first|apply Wx|apply W6)|apply oi|(apply fi<;>intro h)|refine⟨_,rfl,?_⟩|((with_reducible show _=_);rfl))
  all_goals try((with_reducible refine Obl.mk ?_);exact KP)
  refine cg (gf) ?_
  repeat' ((conv=>whnf);first|(with_reducible first|apply Wx|apply W6)|apply oi|(apply fi<;>intro h)|refine⟨_,rfl,?_⟩|((with_reducible show _=_);rfl))
  all_goals try((with_reducible refine Obl.mk ?_);exact KP)
  all_goals try exact⟨by rw[hw1];rfl⟩
  refine cg (gs) ?_
  repeat' ((conv=>whnf);first|(with_reducible first|apply Wx|apply W6)|apply oi|(apply fi<;>intro h)|refine cl hL ?_|refine⟨_,rfl,?_⟩|((with_reducible show _=_);rfl))
  all_goals try((with_reducible refine Obl.mk ?_);exact KP)
 | none=>
  have hl2:¬(loadS p b (firstC ci) (secondC ci)).isSome=true:=by rw[hl];simp
  cases n with
  | zero=>
   rw[secondC_good (show goodC ci from hg),loadS_some hs q1 hb (firstC_in hci) (by omega)]at hl
   cases hl
  | succ n=>
   rw[spRun,if_neg hl2]at hr
   rw[hl]at hL
   repeat' ((conv=>whnf);first|(with_reducible first|apply Wx|apply W6)|apply oi|(apply fi<;>intro h)|refine⟨_,rfl,?_⟩|((with_reducible show _=_);rfl))
   all_goals try((with_reducible refine Obl.mk ?_);exact KP)
   refine cg (gy) ?_
   repeat' ((conv=>whnf);first|(with_reducible first|apply Wx|apply W6)|apply oi|(apply fi<;>intro h)|refine⟨_,rfl,?_⟩|((with_reducible show _=_);rfl))
   all_goals try((with_reducible refine Obl.mk ?_);exact KP)
   refine cg (gf) ?_
   repeat' ((conv=>whnf);first|(with_reducible first|apply Wx|apply W6)|apply oi|(apply fi<;>intro h)|refine⟨_,rfl,?_⟩|((with_reducible show _=_);rfl))
   all_goals try((with_reducible refine Obl.mk ?_);exact KP)
   all_goals try exact⟨by rw[hw1];rfl⟩
   refine cg (gs) ?_
   repeat' ((conv=>whnf);first|(with_reducible first|apply Wx|apply W6)|apply oi|(apply fi<;>intro h)|refine cl hL ?_|refine⟨_,rfl,?_⟩|((with_reducible show _=_);rfl))
   all_goals try((with_reducible refine Obl.mk ?_);exact KP)
   all_goals try exact KX
   conv=>whnf
   refine⟨⟨(n,itC 6 ci),itC_ok 6 hci,by dsimp only;rw[←itC_add,show 6+6 * n=6 * (n+1) by omega];exact hg,hr⟩,?_,by dsimp only;omega⟩
   repeat' ((conv=>whnf);first|(with_reducible first|apply Wx|apply W6)|apply oi|(apply fi<;>intro h)|refine⟨_,rfl,?_⟩|((with_reducible show _=_);rfl))
   all_goals try((with_reducible refine Obl.mk ?_);exact KP)
theorem g_spec_DrawSpace (code:List UInt8)(hl:code.length≤1048576):∃(p:List TLine) (b:TBuild) (first second:Int),SpOk p b first second∧
  SpecG Tryz.prog 21 [vCode code] [] (.tup [.c (.t (.lst 4 (p.map TLine.tr))),.agg (b.tr.map .t),.agg [.own (1,0,0),.own (1,0,1),.own (1,0,2)]]) (spH p b first second):=by
 have g0:=g_spec_l01New code hl
 obtain⟨p,b,first,second,c',hok,g1⟩:=g_spec_l10Space _ (cur0_ok hl)
 refine⟨p,b,first,second,hok,?_⟩
 refine specG_of_Wo hΓ hmix Tryz.func21 rfl (by decide) rfl rfl ?_
 repeat' ((conv=>whnf);first|(with_reducible first|apply Wx|apply W6)|apply oi|(apply fi<;>intro h)|refine⟨_,rfl,?_⟩|((with_reducible show _=_);rfl))
 all_goals try((with_reducible refine Obl.mk ?_);exact KP)
 refine cg (g0) ?_
 repeat' ((conv=>whnf);first|(with_reducible first|apply Wx|apply W6)|apply oi|(apply fi<;>intro h)|refine⟨_,rfl,?_⟩|((with_reducible show _=_);rfl))
 all_goals try((with_reducible refine Obl.mk ?_);exact KP)
 refine cg (g1) ?_
 repeat' ((conv=>whnf);first|(with_reducible first|apply Wx|apply W6)|apply oi|(apply fi<;>intro h)|refine⟨_,rfl,?_⟩|((with_reducible show _=_);rfl))
 all_goals try((with_reducible refine Obl.mk ?_);exact KP)
end Go.Proofs.YtjmplnfiabmalaaGreat
namespace Go.Proofs.YtjmplnfiabmalaaGreat
open Go.Sim
set_option maxRecDepth 100000
set_option maxHeartbeats 4000000
structure StartAt (p:List TLine) (b:TBuild) (f i:Nat) (x:Nat×List TPlace):Prop where
 at_:(imL p b (imgNo b f))[i]?=some x
 fn:x.1=f
 start:startOf p b f=((codeOf (allPl ((imL p b (imgNo b f)).take i))).length:Int)
theorem startAt_of {p:List TLine}{b:TBuild}{f:Nat}(hf:f < (funs p).length):∃i x,StartAt p b f i x:=by
 have hi:=imgNo_01 b f
 obtain⟨s,hs⟩:=startIn_some (f:=f) (a:=0) ((imgL_mem (p:=p) (b:=b) (image:=imgNo b f) (n:=(funs p).length) (f:=0) (at0:=0) (g:=f)).2 ⟨by omega,by omega,(inImg_iff hi).2 rfl⟩)
 obtain⟨i,x,h1,h2,h3⟩:=startIn_at hs
 refine⟨i,x,h1,h2,?_⟩
 rw[startOf,show imL p b (imgNo b f)=imgL p b (imgNo b f) (funs p).length 0 0 from rfl,hs]
 show s=_
 omega
theorem allPl_cut {L:List (Nat×List TPlace)}{i:Nat}{x:Nat×List TPlace}(h:L[i]?=some x):allPl L=allPl (L.take i)++(x.2++allPl (L.drop (i+1))):=by
 have e:L=L.take i++x::L.drop (i+1):=by rw[←drop_at h,List.take_append_drop]
 conv=>lhs;rw[e]
 simp[allPl]
section
variable {p:List TLine} {b:TBuild}
theorem fn_code (hs:smallT 1048576 (.lst 4 (p.map TLine.tr)))(h1:programOk p=true)(h2:buildOk b=true){f i:Nat}{x:Nat×List TPlace}(h:StartAt p b f i x):
  0 < (codeOf x.2).length∧∃(o:TOp) (z:Nat),decodeOp (assemble p b (imgNo b f)).fCode (startOf p b f)=some (o,z)∧(o.fCode=13∨o.fCode=15):=by
 have h3:within (imgNo b f) 0 1=true:=by have:=imgNo_01 b f;rw[within_iff];omega
 obtain⟨g1,g2,g3⟩:=h
 obtain⟨y,hy⟩:=get_of_lt (imgL_at hs h1 h2 (by omega) g1).2.2
 have hp:=(imgL_place hs h1 h2 g1 hy).1
 have hsz:=opSize_pos hp.op
 have hel:=encodeOp_len hp.op
 have hpos:0 < (codeOf x.2).length:=by
  obtain⟨c,l⟩:=x
  cases l with
  | nil=>simp at hy
  | cons a l=>
   simp only[List.getElem?_cons_zero,Option.some.injEq]at hy
   subst hy
   rw[show codeOf (a::l)=encodeOp a.fItem.fOp++codeOf l by simp[codeOf],List.length_append]
   omega
 refine⟨hpos,y.fItem.fOp,(opSize y.fItem.fOp.fCode).toNat,?_,(hp.head rfl).1⟩
 have hopAll:∀z∈x.2,opOkB z.fItem.fOp.fCode z.fItem.fOp.fArg=true:=fun z hz=>by
  obtain⟨j,hj⟩:=List.mem_iff_getElem?.1 hz
  exact(imgL_place hs h1 h2 g1 hj).1.op
 have hd:=decode_code hopAll hy (codeOf (allPl ((imL p b (imgNo b f)).take i))) (codeOf (allPl ((imL p b (imgNo b f)).drop (i+1))))
 rw[assemble,if_pos ⟨h1,h2,h3⟩,g3]
 dsimp only
 have e:=allPl_cut g1
 rw[show imL p b (imgNo b f)=imgL p b (imgNo b f) (funs p).length 0 0 from rfl]at *
 rw[e,codeOf_append,codeOf_append,←List.append_assoc]
 simpa [codeOf]using hd
theorem startOf_in (hs:smallT 1048576 (.lst 4 (p.map TLine.tr)))(h1:programOk p=true)(h2:buildOk b=true){f:Nat}(hf:f < (funs p).length):0≤startOf p b f∧startOf p b f < (assemble p b (imgNo b f)).fCode.length:=by
 obtain⟨i,x,h⟩:=startAt_of (b:=b) hf
 have hp:=(fn_code hs h1 h2 h).1
 obtain⟨g1,g2,g3⟩:=h
 have h3:within (imgNo b f) 0 1=true:=by have:=imgNo_01 b f;rw[within_iff];omega
 have e:=allPl_cut g1
 have e2:=congrArg List.length (congrArg codeOf e)
 rw[codeOf_append,codeOf_append,List.length_append,List.length_append]at e2
 rw[assemble,if_pos ⟨h1,h2,h3⟩,g3]
 refine⟨by omega,?_⟩
 show _ < (((codeOf (allPl (imL p b (imgNo b f)))).length:Nat):Int)
 omega
end
structure EntP (p:List TLine) (b:TBuild) (first second:Int) (f i:Nat) (im:TImage) (base:Int):Prop where
 no:(i:Int)=imgNo b f
 lt:i < 2
 img:[assemble p b 0,assemble p b 1][i]?=some im
 bas:[first,second][i]?=some base
 imE:im=assemble p b (imgNo b f)
 range:1≤base∧base≤1000000
 len:im.fCode.length≤75000
 ok:imageOk im=true
 start:0≤startOf p b f∧startOf p b f < im.fCode.length
 entry:entryAt p b first second f=base+startOf p b f
 loc:locS (candS p b first second) (entryAt p b first second f)=((i:Int),startOf p b f)
 op:∃(o:TOp) (z:Nat),decodeOp im.fCode (startOf p b f)=some (o,z)∧(o.fCode=13∨o.fCode=15)
theorem entP_of {p:List TLine}{b:TBuild}{first second:Int}(h:SpOk p b first second){f:Nat}(hf:f < (funs p).length):∃i im base,EntP p b first second f i im base:=by
 have a0:=assemble_ok h.small h.prog h.build (image:=0) (by decide)
 have a1:=assemble_ok h.small h.prog h.build (image:=1) (by decide)
 have hst:=startOf_in h.small h.prog h.build hf
 obtain⟨k,x,hx⟩:=startAt_of (b:=b) hf
 have hop:=(fn_code h.small h.prog h.build hx).2
 have hfb:=h.fb
 have hsb:=h.sb
 have hsp:=h.space
 have hno:overlap (assemble p b 0) (assemble p b 1) first second=false:=by
  have:spaceOk2 (assemble p b 0) (assemble p b 1) first second (entries p b first second)=true:=hsp
  unfold spaceOk2 at this
  simp only[Bool.and_eq_true,Bool.not_eq_true']at this
  exact this.2.2.2.2.2.1
 have hloc:∀e,locS (candS p b first second) e=loc2 (assemble p b 0) (assemble p b 1) first second e:=fun e=>rfl
 rcases imgNo_01 b f with e|e
 ·rw[e]at hst hop
  have hent:entryAt p b first second f=first+startOf p b f:=by
   rw[entryAt,e,if_neg (by decide),IntWalk.i64_in _ (by omega)]
  refine⟨0,assemble p b 0,first,by rw[e];rfl,by omega,rfl,rfl,by rw[e],by omega,a0.2,a0.1,hst,hent,?_,hop⟩
  rw[hloc,hent,loc2,if_pos ⟨by omega,by omega⟩,show first+startOf p b f - first=startOf p b f by omega]
  rfl
 ·rw[e]at hst hop
  have hent:entryAt p b first second f=second+startOf p b f:=by
   rw[entryAt,e,if_pos rfl,IntWalk.i64_in _ (by omega)]
  refine⟨1,assemble p b 1,second,by rw[e];rfl,by omega,rfl,rfl,by rw[e],by omega,a1.2,a1.1,hst,hent,?_,hop⟩
  rw[hloc,hent,loc2,if_neg,if_pos ⟨by omega,by omega⟩,show second+startOf p b f - second=startOf p b f by omega]
  ·rfl
  ·intro hc
   unfold overlap at hno
   simp only[Bool.and_eq_false_iff,decide_eq_false_iff_not]at hno
   omega
theorem entries_get {p:List TLine}{b:TBuild}{first second:Int}{f:Nat}(hf:f < (funs p).length):(entries p b first second)[f]?=some (entryAt p b first second f):=by
 rw[entries,List.getElem?_map,List.getElem?_range hf];rfl
theorem entries_len {p:List TLine}{b:TBuild}{first second:Int}:(entries p b first second).length=(funs p).length:=by
 rw[entries,List.length_map,List.length_range]
end Go.Proofs.YtjmplnfiabmalaaGreat
namespace Go.Proofs.YtjmplnfiabmalaaGreat
open Go.Sim
set_option maxRecDepth 100000
set_option maxHeartbeats 4000000
def inStk (a:Int):Bool:=within a 0 1199
abbrev wr (n:Int):Int:=IntKind.i64.wrap n
structure CS where
 m:TMachine
 bad:Bool
def CS.ok (c:CS):Prop:=c.m.fStack.length=1200
def wordAt (m:TMachine)(a:Int):Int:=match m.fStack[a.toNat]? with|some x=>x|none=>0
def setAt (m:TMachine)(a v:Int):TMachine:={m with fStack:=m.fStack.set a.toNat v}
def cAt (c:CS)(a:Int):CS:=⟨c.m,c.bad || !inStk a⟩
def cPush (c:CS)(v:Int):CS:=if(c.bad || !inStk (wr (c.m.fSp - 1)))=true then⟨c.m,true⟩else⟨{setAt c.m (wr (c.m.fSp - 1)) v with fSp:=wr (c.m.fSp - 1)},false⟩
def cPop (c:CS):CS:=if(c.bad || !inStk c.m.fSp)=true then⟨c.m,true⟩else⟨{c.m with fSp:=c.m.fSp+1},false⟩
def cTop (c:CS):Int:=if(c.bad || !inStk c.m.fSp)=true then 0 else wordAt c.m c.m.fSp
def cDrop:Nat→CS→CS
 | 0,c=>c
 | n+1,c=>cDrop n (cPop c)
def cZeros:Nat→CS→CS
 | 0,c=>c
 | n+1,c=>cZeros n (cPush c 0)
def cLoad (c:CS)(a:Int):CS:=if(c.bad || !inStk a)=true then⟨c.m,true⟩else cPush ⟨c.m,false⟩ (wordAt c.m a)
def cStore (c:CS)(a:Int):CS:=if((cPop c).bad || !inStk a)=true then⟨(cPop c).m,true⟩else⟨setAt (cPop c).m a (cTop c),false⟩
theorem inStk_iff {a:Int}:inStk a=true↔0≤a∧a≤1199:=within_iff
theorem cPush_ok {c:CS}{v:Int}(h:c.ok):(cPush c v).ok:=by
 unfold cPush CS.ok at *
 split
 ·exact h
 ·simpa [setAt]using h
theorem cPop_ok {c:CS}(h:c.ok):(cPop c).ok:=by
 unfold cPop CS.ok at *
 split
 ·exact h
 ·exact h
theorem cDrop_ok:∀{n:Nat} {c:CS},c.ok→(cDrop n c).ok
 | 0,_,h=>h
 | n+1,c,h=>cDrop_ok (n:=n) (cPop_ok h)
theorem cZeros_ok:∀{n:Nat} {c:CS},c.ok→(cZeros n c).ok
 | 0,_,h=>h
 | n+1,c,h=>cZeros_ok (n:=n) (cPush_ok h)
theorem cLoad_ok {c:CS}{a:Int}(h:c.ok):(cLoad c a).ok:=by
 unfold cLoad
 split
 ·exact h
 ·exact cPush_ok (c:=⟨c.m,false⟩) h
theorem cStore_ok {c:CS}{a:Int}(h:c.ok):(cStore c a).ok:=by
 have:=cPop_ok h
 unfold cStore
 split
 ·exact this
 ·unfold CS.ok at *;simpa [setAt]using this
abbrev mBox (m:TMachine)(st out:Sim.Id):AO:= .box [.t (.int .i64 m.fPc),.t (.int .i64 m.fSp),.t (.int .i64 m.fFp),.own st,.own out,.t (.int .i64 m.fState),.t (.int .i64 m.fValue)]
abbrev coreH (c:CS):List (Sim.Id×AO):=[((0,0,0),.box [.ptr (0,0,1) 0,.t (.bool c.bad)]),((0,0,1),mBox c.m (0,0,2) (0,0,3)),((0,0,2),.arr false 1 (c.m.fStack.map intRow)),((0,0,3),.arr false 1 (c.m.fOut.map intRow))]
abbrev coreP:AV:= .r (.c (.ptr (0,0,0) 0))
theorem g_core_at (c:CS)(a:Int):SpecG Tryz.prog 163 [coreP,tI .i64 a] (coreH c) (tB (!(c.bad || !inStk a))) (coreH (cAt c a)):=by
 obtain⟨m,bad⟩:=c
 refine specG_of_W hΓ hmix Tryz.func163 rfl (by decide) rfl rfl ?_
 have hb:=s_impl_between a 0 1199
 unfold cAt inStk
 cases hin:within a 0 1199
 all_goals
  rw[hin]at hb
  cases bad
  all_goals
   repeat' ((conv=>whnf);first|refine Or.inl ?_|apply oi|(apply fi<;>intro h)|refine ci hb (ai rfl (ai rfl (ai rfl trivial))) ?_|refine⟨_,rfl,?_⟩|((with_reducible show _=_);rfl))
   all_goals try((with_reducible refine Obl.mk ?_);exact KO)
   all_goals try(exfalso;simp at h;done)
theorem stk_at {l:List Int}{a:Int}(hl:l.length=1200)(h:inStk a=true):∃(j:Nat) (x:Int),a=(j:Int)∧l[j]?=some x∧j < l.length∧j≤1199:=by
 have h':=inStk_iff.1 h
 obtain⟨j,rfl⟩:=Int.eq_ofNat_of_zero_le h'.1
 obtain⟨x,hx⟩:=get_of_lt (l:=l) (k:=j) (by omega)
 exact⟨j,x,rfl,hx,by omega,by omega⟩
theorem map_set' {l:List Int}{j:Nat}{v:Int}:(l.map intRow).set j (intRow v)=(l.set j v).map intRow:=by rw[List.map_set]
theorem or_false2 {a b:Bool}(h:(a || !b)=false):a=false∧b=true:=by cases a <;> cases b <;> simp at h ⊢
theorem g_core_push (c:CS)(v:Int)(hc:c.ok):SpecG Tryz.prog 215 [coreP,tI .i64 v] (coreH c) (.tup []) (coreH (cPush c v)):=by
 refine specG_of_W hΓ hmix Tryz.func215 rfl (by decide) rfl rfl ?_
 have hA:=g_core_at c (wr (c.m.fSp - 1))
 obtain⟨m,bad⟩:=c
 unfold CS.ok at hc
 unfold cPush cAt at *
 dsimp only at hA hc ⊢
 cases hB:(bad || !inStk (wr (m.fSp - 1)))with
 | true=>
  rw[hB]at hA
  repeat' ((conv=>whnf);first|refine cg hA ?_|refine seq_inl ?_|apply reg_inl|apply oi|(apply fi<;>intro h)|refine⟨_,rfl,?_⟩|((with_reducible show _=_);rfl))
  all_goals try((with_reducible refine Obl.mk ?_);exact KO)
  all_goals try(exfalso;simp at h;done)
 | false=>
  rw[hB]at hA
  obtain⟨_,hin⟩:=or_false2 hB
  obtain⟨j,x,hj,hx,hlt,_⟩:=stk_at hc hin
  have hlen:(m.fStack.map intRow).length=m.fStack.length:=by simp
  repeat' ((conv=>whnf);first|refine cg hA ?_|refine seq_inl ?_|apply reg_inl|apply oi|(apply fi<;>intro h)|refine⟨_,rfl,?_⟩|((with_reducible show _=_);rfl))
  all_goals try((with_reducible refine Obl.mk ?_);exact KO)
  conv=>whnf
  refine⟨j,hj,by rw[hlen];exact hlt,?_⟩
  repeat' ((conv=>whnf);first|refine seq_inl ?_|apply reg_inl|apply oi|(apply fi<;>intro h)|refine⟨(intRow x),map_get hx,?_⟩|refine⟨_,rfl,?_⟩|((with_reducible show _=_);rfl))
  all_goals try((with_reducible refine Obl.mk ?_);exact KO)
  all_goals try(exfalso;simp at h;done)
  all_goals try(refine⟨?_⟩;rw[←show(wr (m.fSp - 1)).toNat=j by rw[hj];rfl];exact map_set')
theorem g_core_pop (c:CS)(hc:c.ok):SpecG Tryz.prog 218 [coreP] (coreH c) (tI .i64 (cTop c)) (coreH (cPop c)):=by
 refine specG_of_W hΓ hmix Tryz.func218 rfl (by decide) rfl rfl ?_
 have hA:=g_core_at c c.m.fSp
 obtain⟨m,bad⟩:=c
 unfold CS.ok at hc
 unfold cPop cTop cAt at *
 dsimp only at hA hc ⊢
 cases hB:(bad || !inStk m.fSp)with
 | true=>
  rw[hB]at hA
  repeat' ((conv=>whnf);first|refine cg hA ?_|refine seq_inl ?_|apply reg_inl|apply oi|(apply fi<;>intro h)|refine⟨_,rfl,?_⟩|((with_reducible show _=_);rfl))
  all_goals try((with_reducible refine Obl.mk ?_);exact KO)
  all_goals try(exfalso;simp at h;done)
 | false=>
  rw[hB]at hA
  obtain⟨_,hin⟩:=or_false2 hB
  obtain⟨j,x,hj,hx,hlt,hj2⟩:=stk_at hc hin
  have hlen:(m.fStack.map intRow).length=m.fStack.length:=by simp
  have hw:IntKind.i64.wrap (m.fSp+1)=m.fSp+1:=IntWalk.i64_in _ (by omega)
  repeat' ((conv=>whnf);first|refine cg hA ?_|refine seq_inl ?_|apply reg_inl|apply oi|(apply fi<;>intro h)|refine⟨_,rfl,?_⟩|((with_reducible show _=_);rfl))
  all_goals try((with_reducible refine Obl.mk ?_);exact KO)
  conv=>whnf
  refine⟨j,?_,by rw[hlen];exact hlt,?_⟩
  ·show IntKind.i64.wrap (IntKind.i64.wrap (m.fSp+1) - 1)=(j:Int)
   rw[hw,IntWalk.i64_in _ (by omega)];omega
  repeat' ((conv=>whnf);first|refine seq_inl ?_|apply reg_inl|apply oi|(apply fi<;>intro h)|refine⟨(intRow x),map_get hx,?_⟩|refine⟨_,rfl,?_⟩|((with_reducible show _=_);rfl))
  all_goals try((with_reducible refine Obl.mk ?_);exact KO)
  all_goals try(exfalso;simp at h;done)
  all_goals first
   | exact⟨congrArg (Tr.int _) hw⟩
   |(refine⟨congrArg (Tr.int _) ?_⟩;simp[wordAt,hj,hx];done)
theorem g_core_drop (c:CS)(n:Nat)(hc:c.ok)(hn:n≤65536):SpecG Tryz.prog 221 [coreP,tI .i64 (n:Int)] (coreH c) (.tup []) (coreH (cDrop n c)):=by
 refine specG_of_W hΓ hmix Tryz.func221 rfl (by decide) rfl rfl ?_
 obtain⟨R,hR⟩:∃R,cDrop n c=R:=⟨_,rfl⟩
 rw[hR]
 repeat' ((conv=>whnf);first|refine seq_inl ?_|apply reg_inl|apply oi|(apply fi<;>intro h)|refine⟨_,rfl,?_⟩|((with_reducible show _=_);rfl))
 all_goals try((with_reducible refine Obl.mk ?_);exact KO)
 conv=>whnf
 refine⟨{q:Nat×CS // q.1≤65536∧q.2.ok∧cDrop q.1 q.2=R},fun q=>⟨[(0,coreP),(1,tI .i64 (q.1.1:Int))],(coreH q.1.2).map fun p=>(p.1,some p.2),[0]⟩,fun q=>q.1.1,⟨(n,c),hn,hc,hR⟩,?_,?_⟩
 ·skip
  repeat' ((conv=>whnf);first|refine seq_inl ?_|apply reg_inl|apply oi|(apply fi<;>intro h)|refine⟨_,rfl,?_⟩|((with_reducible show _=_);rfl))
  all_goals try((with_reducible refine Obl.mk ?_);exact KO)
 intro⟨⟨k,d⟩,hk,hd,hr⟩
 dsimp only at hk hd hr ⊢
 cases k with
 | zero=>
  rw[cDrop]at hr
  subst hr
  repeat' ((conv=>whnf);first|refine seq_inl ?_|apply reg_inl|apply oi|(apply fi<;>intro h)|refine⟨_,rfl,?_⟩|((with_reducible show _=_);rfl))
  all_goals try((with_reducible refine Obl.mk ?_);exact KO)
  all_goals try(exfalso;have h':=of_decide_eq_true h;omega)
 | succ k=>
  rw[cDrop]at hr
  have hP:=g_core_pop d hd
  repeat' ((conv=>whnf);first|refine cg hP ?_|refine seq_inl ?_|apply reg_inl|apply oi|(apply fi<;>intro h)|refine⟨_,rfl,?_⟩|((with_reducible show _=_);rfl))
  all_goals try((with_reducible refine Obl.mk ?_);exact KO)
  all_goals try(exfalso;have h':=of_decide_eq_false h;omega)
  conv=>whnf
  refine⟨⟨(k,cPop d),by dsimp only;omega,cPop_ok hd,hr⟩,?_,by dsimp only;omega⟩
  repeat' ((conv=>whnf);first|refine seq_inl ?_|apply reg_inl|apply oi|(apply fi<;>intro h)|refine⟨_,rfl,?_⟩|((with_reducible show _=_);rfl))
  all_goals try((with_reducible refine Obl.mk ?_);exact KO)
  all_goals try(refine⟨congrArg (Tr.int _) ?_⟩;dsimp only;rw[IntWalk.i64_in _ (by omega)];omega)
theorem g_core_zeros (c:CS)(n:Nat)(hc:c.ok)(hn:n≤65536):SpecG Tryz.prog 220 [coreP,tI .i64 (n:Int)] (coreH c) (.tup []) (coreH (cZeros n c)):=by
 refine specG_of_W hΓ hmix Tryz.func220 rfl (by decide) rfl rfl ?_
 obtain⟨R,hR⟩:∃R,cZeros n c=R:=⟨_,rfl⟩
 rw[hR]
 repeat' ((conv=>whnf);first|refine seq_inl ?_|apply reg_inl|apply oi|(apply fi<;>intro h)|refine⟨_,rfl,?_⟩|((with_reducible show _=_);rfl))
 all_goals try((with_reducible refine Obl.mk ?_);exact KO)
 conv=>whnf
 refine⟨{q:Nat×CS // q.1≤65536∧q.2.ok∧cZeros q.1 q.2=R},fun q=>⟨[(0,coreP),(1,tI .i64 (q.1.1:Int))],(coreH q.1.2).map fun p=>(p.1,some p.2),[0]⟩,fun q=>q.1.1,⟨(n,c),hn,hc,hR⟩,?_,?_⟩
 ·skip
  repeat' ((conv=>whnf);first|refine seq_inl ?_|apply reg_inl|apply oi|(apply fi<;>intro h)|refine⟨_,rfl,?_⟩|((with_reducible show _=_);rfl))
  all_goals try((with_reducible refine Obl.mk ?_);exact KO)
 intro⟨⟨k,d⟩,hk,hd,hr⟩
 dsimp only at hk hd hr ⊢
 cases k with
 | zero=>
  rw[cZeros]at hr
  subst hr
  repeat' ((conv=>whnf);first|refine seq_inl ?_|apply reg_inl|apply oi|(apply fi<;>intro h)|refine⟨_,rfl,?_⟩|((with_reducible show _=_);rfl))
  all_goals try((with_reducible refine Obl.mk ?_);exact KO)
  all_goals try(exfalso;have h':=of_decide_eq_true h;omega)
 | succ k=>
  rw[cZeros]at hr
  have hP:=g_core_push d 0 hd
  repeat' ((conv=>whnf);first|refine cg hP ?_|refine seq_inl ?_|apply reg_inl|apply oi|(apply fi<;>intro h)|refine⟨_,rfl,?_⟩|((with_reducible show _=_);rfl))
  all_goals try((with_reducible refine Obl.mk ?_);exact KO)
  all_goals try(exfalso;have h':=of_decide_eq_false h;omega)
  conv=>whnf
  refine⟨⟨(k,cPush d 0),by dsimp only;omega,cPush_ok hd,hr⟩,?_,by dsimp only;omega⟩
  repeat' ((conv=>whnf);first|refine seq_inl ?_|apply reg_inl|apply oi|(apply fi<;>intro h)|refine⟨_,rfl,?_⟩|((with_reducible show _=_);rfl))
  all_goals try((with_reducible refine Obl.mk ?_);exact KO)
  all_goals try(refine⟨congrArg (Tr.int _) ?_⟩;dsimp only;rw[IntWalk.i64_in _ (by omega)];omega)
theorem g_core_load (c:CS)(a:Int)(hc:c.ok):SpecG Tryz.prog 216 [coreP,tI .i64 a] (coreH c) (.tup []) (coreH (cLoad c a)):=by
 refine specG_of_W hΓ hmix Tryz.func216 rfl (by decide) rfl rfl ?_
 have hA:=g_core_at c a
 obtain⟨m,bad⟩:=c
 unfold CS.ok at hc
 unfold cLoad cAt at *
 dsimp only at hA hc ⊢
 cases hB:(bad || !inStk a)with
 | true=>
  rw[hB]at hA
  repeat' ((conv=>whnf);first|refine cg hA ?_|refine seq_inl ?_|apply reg_inl|apply oi|(apply fi<;>intro h)|refine⟨_,rfl,?_⟩|((with_reducible show _=_);rfl))
  all_goals try((with_reducible refine Obl.mk ?_);exact KO)
  all_goals try(exfalso;simp at h;done)
 | false=>
  rw[hB]at hA
  obtain⟨_,hin⟩:=or_false2 hB
  obtain⟨j,x,hj,hx,hlt,hj2⟩:=stk_at hc hin
  have hlen:(m.fStack.map intRow).length=m.fStack.length:=by simp
  have hP:=g_core_push ⟨m,false⟩ x hc
  have hwd:wordAt m a=x:=by simp[wordAt,hj,hx]
  rw[hwd]
  repeat' ((conv=>whnf);first|refine cg hA ?_|refine seq_inl ?_|apply reg_inl|apply oi|(apply fi<;>intro h)|refine⟨_,rfl,?_⟩|((with_reducible show _=_);rfl))
  all_goals try((with_reducible refine Obl.mk ?_);exact KO)
  conv=>whnf
  refine⟨j,hj,by rw[hlen];exact hlt,?_⟩
  repeat' ((conv=>whnf);first|refine cg hP ?_|refine seq_inl ?_|apply reg_inl|apply oi|(apply fi<;>intro h)|refine⟨(intRow x),map_get hx,?_⟩|refine⟨_,rfl,?_⟩|((with_reducible show _=_);rfl))
  all_goals try((with_reducible refine Obl.mk ?_);exact KO)
  all_goals try(exfalso;simp at h;done)
theorem g_core_store (c:CS)(a:Int)(hc:c.ok):SpecG Tryz.prog 217 [coreP,tI .i64 a] (coreH c) (.tup []) (coreH (cStore c a)):=by
 refine specG_of_W hΓ hmix Tryz.func217 rfl (by decide) rfl rfl ?_
 have hP:=g_core_pop c hc
 have hA:=g_core_at (cPop c) a
 have hok:=cPop_ok hc
 generalize hD:cPop c=d at *
 unfold cStore cAt at *
 rw[hD]
 obtain⟨m,bad⟩:=d
 unfold CS.ok at hok
 dsimp only at hA hok ⊢
 cases hB:(bad || !inStk a)with
 | true=>
  rw[hB]at hA
  repeat' ((conv=>whnf);first|refine cg hP ?_|refine cg hA ?_|refine seq_inl ?_|apply reg_inl|apply oi|(apply fi<;>intro h)|refine⟨_,rfl,?_⟩|((with_reducible show _=_);rfl))
  all_goals try((with_reducible refine Obl.mk ?_);exact KO)
  all_goals try(exfalso;simp at h;done)
 | false=>
  rw[hB]at hA
  obtain⟨_,hin⟩:=or_false2 hB
  obtain⟨j,x,hj,hx,hlt,hj2⟩:=stk_at hok hin
  have hlen:(m.fStack.map intRow).length=m.fStack.length:=by simp
  repeat' ((conv=>whnf);first|refine cg hP ?_|refine cg hA ?_|refine seq_inl ?_|apply reg_inl|apply oi|(apply fi<;>intro h)|refine⟨_,rfl,?_⟩|((with_reducible show _=_);rfl))
  all_goals try((with_reducible refine Obl.mk ?_);exact KO)
  conv=>whnf
  refine⟨j,hj,by rw[hlen];exact hlt,?_⟩
  repeat' ((conv=>whnf);first|refine seq_inl ?_|apply reg_inl|apply oi|(apply fi<;>intro h)|refine⟨(intRow x),map_get hx,?_⟩|refine⟨_,rfl,?_⟩|((with_reducible show _=_);rfl))
  all_goals try((with_reducible refine Obl.mk ?_);exact KO)
  all_goals try(exfalso;simp at h;done)
  all_goals try(refine⟨?_⟩;rw[←show a.toNat=j by rw[hj];rfl];exact map_set')
def cJump (c:CS)(a:Int):CS:=⟨{c.m with fPc:=wr (c.m.fPc+a)},c.bad⟩
def cArith (c:CS)(k:Int):CS:=cPush (cPop (cPop c)) (applyP k (cTop (cPop c)) (cTop c))
def cZero (c:CS)(a:Int):CS:=if cTop c=0 then cJump (cPop c) a else cPop c
def cGoto (c:CS)(es:List Int)(a:Int):CS:=match es[a.toNat]? with
 | some e=>⟨{c.m with fPc:=e},c.bad⟩
 | none=>⟨c.m,true⟩
def cEnter (c:CS)(n:Nat):CS:=cZeros n ⟨{(cPush c c.m.fFp).m with fFp:=(cPush c c.m.fFp).m.fSp},(cPush c c.m.fFp).bad⟩
def cFp (c:CS):CS:=⟨{(cPop c).m with fFp:=cTop c},(cPop c).bad⟩
def cPc (c:CS):CS:=⟨{(cPop c).m with fPc:=cTop c},(cPop c).bad⟩
def cCut (c:CS):CS:=⟨{c.m with fSp:=c.m.fFp},c.bad⟩
def cLeave (c:CS)(n:Nat):CS:=cPush (cDrop n (cPc (cFp (cCut (cPop c))))) (cTop c)
def cReturn (c:CS)(n:Nat):CS:=cPush (cDrop (n % 16) (cPc (cDrop (n / 16) (cPop c)))) (cTop c)
def cOut (c:CS):CS:=⟨{(cPop c).m with fOut:=(cPop c).m.fOut++[cTop c]},(cPop c).bad⟩
def cPerf (es:List Int)(c:CS)(x:TOp):CS:=
 if x.fCode=0 then cPush c x.fArg
 else if x.fCode=1 then cLoad c (wr (c.m.fFp+x.fArg))
 else if x.fCode=3 then cLoad c (wr (c.m.fSp+x.fArg))
 else if x.fCode=2 then cStore c (wr (c.m.fFp+x.fArg))
 else if x.fCode=4 then cStore c (wr (c.m.fSp+x.fArg))
 else if 5≤x.fCode∧x.fCode≤9 then cArith c (x.fCode - 3)
 else if x.fCode=10 then cJump c x.fArg
 else if x.fCode=11 then cZero c x.fArg
 else if x.fCode=12 then cGoto (cPush c c.m.fPc) es x.fArg
 else if x.fCode=13 then cEnter c x.fArg.toNat
 else if x.fCode=15 then cZeros x.fArg.toNat c
 else if x.fCode=14 then cLeave c x.fArg.toNat
 else if x.fCode=16 then cReturn c x.fArg.toNat
 else if x.fCode=17 then cOut c
 else c
abbrev opV (x:TOp):AV:= .r (.agg [.t (.int .i64 x.fCode),.t (.int .i64 x.fArg)])
abbrev outH (c:CS):List (Sim.Id×AO):=[((0,0,0),.box [.ptr (0,0,1) 0,.t (.bool c.bad)]),((0,0,1),mBox c.m (0,0,2) (1,0,0)),((0,0,2),.arr false 1 (c.m.fStack.map intRow)),((1,0,0),.arr false 1 (c.m.fOut.map intRow))]
theorem g_core_perform (s:TSpace)(c:CS)(x:TOp)(hc:c.ok)(hx:x.fCode≠17)(ha:12≤x.fCode→x.fCode≤16→0≤x.fArg∧x.fArg≤65536)(he:s.fEntries.length≤1048576):SpecG Tryz.prog 162 [coreP,.r (.agg (s.tr.map .t)),opV x] (coreH c) (.tup []) (coreH (cPerf s.fEntries c x)):=by
 obtain⟨k,a⟩:=x
 dsimp only at hx ha
 refine specG_of_W hΓ hmix Tryz.func162 rfl (by decide) rfl rfl ?_
 by_cases h0:k=0
 ·subst h0
  have hP:=g_core_push c a hc
  repeat' ((conv=>whnf);first|refine cg hP ?_|refine seq_inl ?_|apply reg_inl|apply oi|(apply fi<;>intro h)|refine⟨_,rfl,?_⟩|((with_reducible show _=_);rfl))
  all_goals try((with_reducible refine Obl.mk ?_);exact KO)
 by_cases h1:k=1
 ·subst h1
  have hP:=g_core_load c (wr (c.m.fFp+a)) hc
  repeat' ((conv=>whnf);first|refine cg hP ?_|refine seq_inl ?_|apply reg_inl|apply oi|(apply fi<;>intro h)|refine⟨_,rfl,?_⟩|((with_reducible show _=_);rfl))
  all_goals try((with_reducible refine Obl.mk ?_);exact KO)
 by_cases h3:k=3
 ·subst h3
  have hP:=g_core_load c (wr (c.m.fSp+a)) hc
  repeat' ((conv=>whnf);first|refine cg hP ?_|refine seq_inl ?_|apply reg_inl|apply oi|(apply fi<;>intro h)|refine⟨_,rfl,?_⟩|((with_reducible show _=_);rfl))
  all_goals try((with_reducible refine Obl.mk ?_);exact KO)
 by_cases h2:k=2
 ·subst h2
  have hP:=g_core_store c (wr (c.m.fFp+a)) hc
  repeat' ((conv=>whnf);first|refine cg hP ?_|refine seq_inl ?_|apply reg_inl|apply oi|(apply fi<;>intro h)|refine⟨_,rfl,?_⟩|((with_reducible show _=_);rfl))
  all_goals try((with_reducible refine Obl.mk ?_);exact KO)
 by_cases h4:k=4
 ·subst h4
  have hP:=g_core_store c (wr (c.m.fSp+a)) hc
  repeat' ((conv=>whnf);first|refine cg hP ?_|refine seq_inl ?_|apply reg_inl|apply oi|(apply fi<;>intro h)|refine⟨_,rfl,?_⟩|((with_reducible show _=_);rfl))
  all_goals try((with_reducible refine Obl.mk ?_);exact KO)
 by_cases h10:k=10
 ·subst h10
  repeat' ((conv=>whnf);first|refine seq_inl ?_|apply reg_inl|apply oi|(apply fi<;>intro h)|refine⟨_,rfl,?_⟩|((with_reducible show _=_);rfl))
  all_goals try((with_reducible refine Obl.mk ?_);exact KO)
 by_cases h59:5≤k∧k≤9
 ·have hP1:=g_core_pop c hc
  have hP2:=g_core_pop (cPop c) (cPop_ok hc)
  have hP3:=g_core_push (cPop (cPop c)) (applyP (k - 3) (cTop (cPop c)) (cTop c)) (cPop_ok (cPop_ok hc))
  have hA:=s_impl_Apply (k - 3) (cTop (cPop c)) (cTop c)
  have e:k=5∨k=6∨k=7∨k=8∨k=9:=by omega
  rcases e with rfl|rfl|rfl|rfl|rfl
  all_goals
   repeat' ((conv=>whnf);first|refine seq_inl ?_|apply reg_inl|apply oi|(apply fi<;>intro h)|refine⟨_,rfl,?_⟩|((with_reducible show _=_);rfl))
   all_goals try((with_reducible refine Obl.mk ?_);exact KO)
   refine cg (hP1) ?_
   repeat' ((conv=>whnf);first|refine seq_inl ?_|apply reg_inl|apply oi|(apply fi<;>intro h)|refine⟨_,rfl,?_⟩|((with_reducible show _=_);rfl))
   all_goals try((with_reducible refine Obl.mk ?_);exact KO)
   refine cg (hP2) ?_
   repeat' ((conv=>whnf);first|refine seq_inl ?_|apply reg_inl|apply oi|(apply fi<;>intro h)|refine cl hA ?_|refine⟨_,rfl,?_⟩|((with_reducible show _=_);rfl))
   all_goals try((with_reducible refine Obl.mk ?_);exact KO)
   refine cg (hP3) ?_
   repeat' ((conv=>whnf);first|refine seq_inl ?_|apply reg_inl|apply oi|(apply fi<;>intro h)|refine⟨_,rfl,?_⟩|((with_reducible show _=_);rfl))
   all_goals try((with_reducible refine Obl.mk ?_);exact KO)
 by_cases h11:k=11
 ·subst h11
  have hP:=g_core_pop c hc
  by_cases hz:cTop c=0
  ·rw[show cPerf s.fEntries c ⟨11,a⟩=cJump (cPop c) a by simp[cPerf,cZero,hz]]
   repeat' ((conv=>whnf);first|refine cg hP ?_|refine seq_inl ?_|apply reg_inl|apply oi|(apply fi<;>intro h)|refine⟨_,rfl,?_⟩|((with_reducible show _=_);rfl))
   all_goals try((with_reducible refine Obl.mk ?_);exact KO)
   all_goals try(exfalso;rw[hz]at h;simp at h;done)
  ·rw[show cPerf s.fEntries c ⟨11,a⟩=cPop c by simp[cPerf,cZero,hz]]
   repeat' ((conv=>whnf);first|refine cg hP ?_|refine seq_inl ?_|apply reg_inl|apply oi|(apply fi<;>intro h)|refine⟨_,rfl,?_⟩|((with_reducible show _=_);rfl))
   all_goals try((with_reducible refine Obl.mk ?_);exact KO)
   all_goals try(exfalso;exact hz (by simpa using h))
 by_cases h12:k=12
 ·subst h12
  obtain⟨a0,a1⟩:=ha (by omega) (by omega)
  obtain⟨n,rfl⟩:=Int.eq_ofNat_of_zero_le a0
  have hP:=g_core_push c c.m.fPc hc
  have hel:(s.fEntries.map intRow).length=s.fEntries.length:=by simp
  by_cases hn:n < s.fEntries.length
  ·obtain⟨e,hee⟩:=get_of_lt hn
   rw[show cPerf s.fEntries c ⟨12,(n:Int)⟩=⟨{(cPush c c.m.fPc).m with fPc:=e},(cPush c c.m.fPc).bad⟩ by simp[cPerf,cGoto,hee]]
   repeat' ((conv=>whnf);first|refine cg hP ?_|refine seq_inl ?_|apply reg_inl|apply oi|(apply fi<;>intro h)|refine⟨n,(intRow e),rfl,map_get hee,?_⟩|refine⟨_,rfl,?_⟩|((with_reducible show _=_);rfl))
   all_goals try((with_reducible refine Obl.mk ?_);exact KO)
   all_goals try(exfalso;have h':=of_decide_eq_false h;rw[hel]at h';dsimp only at h';omega)
  ·have hnone:s.fEntries[n]?=none:=List.getElem?_eq_none (by omega)
   rw[show cPerf s.fEntries c ⟨12,(n:Int)⟩=⟨(cPush c c.m.fPc).m,true⟩ by simp[cPerf,cGoto,hnone]]
   repeat' ((conv=>whnf);first|refine cg hP ?_|refine seq_inl ?_|apply reg_inl|apply oi|(apply fi<;>intro h)|refine⟨_,rfl,?_⟩|((with_reducible show _=_);rfl))
   all_goals try((with_reducible refine Obl.mk ?_);exact KO)
   all_goals try(exfalso;have h':=of_decide_eq_true h;rw[hel]at h';dsimp only at h';omega)
 by_cases h13:k=13
 ·subst h13
  obtain⟨a0,a1⟩:=ha (by omega) (by omega)
  obtain⟨n,rfl⟩:=Int.eq_ofNat_of_zero_le a0
  have hP:=g_core_push c c.m.fFp hc
  have hZ:=g_core_zeros ⟨{(cPush c c.m.fFp).m with fFp:=(cPush c c.m.fFp).m.fSp},(cPush c c.m.fFp).bad⟩ n (cPush_ok hc) (by omega)
  repeat' ((conv=>whnf);first|refine cg hP ?_|refine cg hZ ?_|refine seq_inl ?_|apply reg_inl|apply oi|(apply fi<;>intro h)|refine⟨_,rfl,?_⟩|((with_reducible show _=_);rfl))
  all_goals try((with_reducible refine Obl.mk ?_);exact KO)
 by_cases h15:k=15
 ·subst h15
  obtain⟨a0,a1⟩:=ha (by omega) (by omega)
  obtain⟨n,rfl⟩:=Int.eq_ofNat_of_zero_le a0
  have hZ:=g_core_zeros c n hc (by omega)
  repeat' ((conv=>whnf);first|refine cg hZ ?_|refine seq_inl ?_|apply reg_inl|apply oi|(apply fi<;>intro h)|refine⟨_,rfl,?_⟩|((with_reducible show _=_);rfl))
  all_goals try((with_reducible refine Obl.mk ?_);exact KO)
 by_cases h14:k=14
 ·subst h14
  obtain⟨a0,a1⟩:=ha (by omega) (by omega)
  obtain⟨n,rfl⟩:=Int.eq_ofNat_of_zero_le a0
  have o1:(cCut (cPop c)).ok:=cPop_ok hc
  have o2:(cFp (cCut (cPop c))).ok:=cPop_ok o1
  have o3:(cPc (cFp (cCut (cPop c)))).ok:=cPop_ok o2
  have hP1:=g_core_pop c hc
  have hP2:=g_core_pop (cCut (cPop c)) o1
  have hP3:=g_core_pop (cFp (cCut (cPop c))) o2
  have hD:=g_core_drop (cPc (cFp (cCut (cPop c)))) n o3 (by omega)
  have hP4:=g_core_push (cDrop n (cPc (cFp (cCut (cPop c))))) (cTop c) (cDrop_ok o3)
  repeat' ((conv=>whnf);first|refine seq_inl ?_|apply reg_inl|apply oi|(apply fi<;>intro h)|refine⟨_,rfl,?_⟩|((with_reducible show _=_);rfl))
  all_goals try((with_reducible refine Obl.mk ?_);exact KO)
  refine cg (hP1) ?_
  repeat' ((conv=>whnf);first|refine seq_inl ?_|apply reg_inl|apply oi|(apply fi<;>intro h)|refine⟨_,rfl,?_⟩|((with_reducible show _=_);rfl))
  all_goals try((with_reducible refine Obl.mk ?_);exact KO)
  refine cg (hP2) ?_
  repeat' ((conv=>whnf);first|refine seq_inl ?_|apply reg_inl|apply oi|(apply fi<;>intro h)|refine⟨_,rfl,?_⟩|((with_reducible show _=_);rfl))
  all_goals try((with_reducible refine Obl.mk ?_);exact KO)
  refine cg (hP3) ?_
  repeat' ((conv=>whnf);first|refine cg hD ?_|refine cg hP4 ?_|refine seq_inl ?_|apply reg_inl|apply oi|(apply fi<;>intro h)|refine⟨_,rfl,?_⟩|((with_reducible show _=_);rfl))
  all_goals try((with_reducible refine Obl.mk ?_);exact KO)
 by_cases h16:k=16
 ·subst h16
  obtain⟨a0,a1⟩:=ha (by omega) (by omega)
  obtain⟨n,rfl⟩:=Int.eq_ofNat_of_zero_le a0
  have o1:(cPop c).ok:=cPop_ok hc
  have o2:(cDrop (n / 16) (cPop c)).ok:=cDrop_ok o1
  have o3:(cPc (cDrop (n / 16) (cPop c))).ok:=cPop_ok o2
  have w1:IntKind.i64.wrap ((n:Int).tdiv 16)=((n / 16:Nat):Int):=by
   rw[Int.tdiv_eq_ediv_of_nonneg (by omega),IntWalk.i64_in _ (by omega)];rfl
  have w2:(n:Int).tmod 16=((n % 16:Nat):Int):=by
   rw[Int.tmod_eq_emod_of_nonneg (by omega)];rfl
  have hP1:=g_core_pop c hc
  have hD1:=g_core_drop (cPop c) (n / 16) o1 (by omega)
  have hP2:=g_core_pop (cDrop (n / 16) (cPop c)) o2
  have hD2:=g_core_drop (cPc (cDrop (n / 16) (cPop c))) (n % 16) o3 (by omega)
  have hP4:=g_core_push (cDrop (n % 16) (cPc (cDrop (n / 16) (cPop c)))) (cTop c) (cDrop_ok o3)
  rw[←w1]at hD1
  rw[←w2]at hD2
  repeat' ((conv=>whnf);first|refine seq_inl ?_|apply reg_inl|apply oi|(apply fi<;>intro h)|refine⟨_,rfl,?_⟩|((with_reducible show _=_);rfl))
  all_goals try((with_reducible refine Obl.mk ?_);exact KO)
  refine cg (hP1) ?_
  repeat' ((conv=>whnf);first|refine seq_inl ?_|apply reg_inl|apply oi|(apply fi<;>intro h)|refine⟨_,rfl,?_⟩|((with_reducible show _=_);rfl))
  all_goals try((with_reducible refine Obl.mk ?_);exact KO)
  refine cg (hD1) ?_
  repeat' ((conv=>whnf);first|refine seq_inl ?_|apply reg_inl|apply oi|(apply fi<;>intro h)|refine⟨_,rfl,?_⟩|((with_reducible show _=_);rfl))
  all_goals try((with_reducible refine Obl.mk ?_);exact KO)
  refine cg (hP2) ?_
  repeat' ((conv=>whnf);first|refine seq_inl ?_|apply reg_inl|apply oi|(apply fi<;>intro h)|refine⟨_,rfl,?_⟩|((with_reducible show _=_);rfl))
  all_goals try((with_reducible refine Obl.mk ?_);exact KO)
  refine cg (hD2) ?_
  repeat' ((conv=>whnf);first|refine seq_inl ?_|apply reg_inl|apply oi|(apply fi<;>intro h)|refine⟨_,rfl,?_⟩|((with_reducible show _=_);rfl))
  all_goals try((with_reducible refine Obl.mk ?_);exact KO)
  refine cg (hP4) ?_
  repeat' ((conv=>whnf);first|refine seq_inl ?_|apply reg_inl|apply oi|(apply fi<;>intro h)|refine⟨_,rfl,?_⟩|((with_reducible show _=_);rfl))
  all_goals try((with_reducible refine Obl.mk ?_);exact KO)
 ·rw[show cPerf s.fEntries c ⟨k,a⟩=c by
   unfold cPerf
   dsimp only
   rw[if_neg h0,if_neg h1,if_neg h3,if_neg h2,if_neg h4,if_neg h59,if_neg h10,if_neg h11,if_neg h12,if_neg h13,if_neg h15,if_neg h14,if_neg h16,if_neg hx]]
  repeat' ((conv=>whnf);first|refine seq_inl ?_|apply reg_inl|apply oi|(apply fi<;>intro h)|refine⟨_,rfl,?_⟩|((with_reducible show _=_);rfl))
  all_goals try((with_reducible refine Obl.mk ?_);exact KO)
  all_goals try exact K1
theorem g_core_out (s:TSpace)(c:CS)(a:Int)(hc:c.ok)(ho:c.m.fOut.length≤2000000):SpecG Tryz.prog 162 [coreP,.r (.agg (s.tr.map .t)),opV ⟨17,a⟩] (coreH c) (.tup []) (outH (cOut c)):=by
 refine specG_of_W hΓ hmix Tryz.func162 rfl (by decide) rfl rfl ?_
 have hP:=g_core_pop c hc
 have ho2:(cPop c).m.fOut.length≤2000000:=by unfold cPop;split <;> exact ho
 repeat' ((conv=>whnf);first|refine cg hP ?_|refine seq_inl ?_|refine reg_inr 4 6 ?_|apply oi|(apply fi<;>intro h)|refine⟨_,rfl,?_⟩|((with_reducible show _=_);rfl))
 all_goals try((with_reducible refine Obl.mk ?_);exact KR)
 all_goals try exact⟨⟨by(try simp only[List.length_map,List.length_append,List.length_cons,List.length_nil]);omega,by(try simp only[List.length_map,List.length_append,List.length_cons,List.length_nil]);omega⟩⟩
 all_goals(refine⟨?_⟩;simp[cOut,intRow])
end Go.Proofs.YtjmplnfiabmalaaGreat
namespace Go.Proofs.YtjmplnfiabmalaaGreat
open Go.Sim
set_option maxRecDepth 100000
set_option maxHeartbeats 4000000
theorem opArg_12 {c:Int}(h:12≤c∧c≤16):(opArg c).2=false∧((opArg c).1=1∨(opArg c).1=2):=by
 unfold opArg
 repeat' split
 all_goals first
  |(exfalso;omega)
  | simp
theorem opArg_1 {c:Int}(h:1≤c∧c≤11):opArg c=(2,true)∨opArg c=(0,false):=by
 unfold opArg
 repeat' split
 all_goals first
  |(exfalso;omega)
  | simp
theorem argV_two {c:Int}{m:Nat}(h:opArg c=(2,true))(hm:m < 65536):-65536≤argV c m∧argV c m≤65536:=by
 by_cases hb:2 ^ (8 * 2 - 1)≤m
 ·have e:argV c m=(m:Int) - 2 ^ (8 * 2):=argV_yes (n:=2) (by rw[h];rfl) (by rw[h]) hb
  rw[e]
  show -65536≤(m:Int) - 65536∧(m:Int) - 65536≤65536
  omega
 ·have e:argV c m=(m:Int):=argV_no (n:=2) (by rw[h];rfl) (fun hh=>hb hh.2)
  rw[e]
  omega
theorem decodeOp_arg {s:List UInt8}{p:Int}{x:TOp}{z:Nat}(h:decodeOp s p=some (x,z)):(0≤x.fCode∧x.fCode≤17)∧(12≤x.fCode→x.fCode≤16→0≤x.fArg∧x.fArg≤65536)∧(1≤x.fCode→x.fCode≤11→-65536≤x.fArg∧x.fArg≤65536)∧z≤5:=by
 unfold decodeOp at h
 split at h
 ·split at h
  ·cases h
  ·rename_i hno
   injection h with h
   injection h with h1 h2
   rw[not_or]at hno
   have hz:=opSize_le (byteAt s p.toNat)
   subst h1
   dsimp only
   generalize hc:((byteAt s p.toNat:Nat):Int)=c at *
   have hin:0≤c∧c≤17:=by
    have:=hno.1
    unfold opSize at this
    split at this
    ·rename_i hw;exact within_iff.1 hw
    ·exact absurd rfl this
   refine⟨hin,fun g1 g2=>?_,fun g1 g2=>?_,by omega⟩
   ·obtain⟨e1,e2⟩:=opArg_12 ⟨g1,g2⟩
    have hl:=opArgN_lt s (p.toNat+1) (opArg c).1.toNat
    have:256 ^ (opArg c).1.toNat≤65536:=by rcases e2 with e2|e2 <;> rw[e2] <;> decide
    rw[argV,if_neg (by rw[e1];simp)]
    omega
   ·have hl:=opArgN_lt s (p.toNat+1) (opArg c).1.toNat
    rcases opArg_1 ⟨g1,g2⟩with e|e
    ·rw[e]at hl ⊢
     exact argV_two e hl
    ·rw[e]at hl ⊢
     have hl:opArgN s (p.toNat+1) 0 < 1:=hl
     have e2:argV c (opArgN s (p.toNat+1) 0)=((opArgN s (p.toNat+1) 0:Nat):Int):=argV_no (n:=0) (by rw[e];rfl) (fun hh=>by rw[e]at hh;exact absurd hh.1 (by simp))
     show -65536≤argV c (opArgN s (p.toNat+1) 0)∧argV c (opArgN s (p.toNat+1) 0)≤65536
     rw[e2]
     omega
 ·cases h
theorem s_impl_copyMachine (m:TMachine)(hs:m.fStack.length≤2000000)(ho:m.fOut.length≤2000000):Sim.Spec Tryz.prog 91 [.agg m.tr] (.r (.agg (m.tr.map resC))):=by
 refine spec_of_W hΓ hmix Tryz.func91 rfl (by decide) rfl ?_
 repeat' ((conv=>whnf);first|refine Or.inl ?_|apply oi|(apply fi<;>intro h)|refine⟨_,rfl,?_⟩|((with_reducible show _=_);rfl))
 all_goals try((with_reducible refine Obl.mk ?_);exact KO)
 all_goals exact⟨⟨rfl,flat_ints _⟩⟩
theorem s_spec_l11Copy (m:TMachine)(hs:m.fStack.length≤2000000)(ho:m.fOut.length≤2000000):Sim.Spec Tryz.prog 94 [.agg m.tr] (.r (.agg (m.tr.map resC))):=by
 refine spec_of_W hΓ hmix Tryz.func94 rfl (by decide) rfl ?_
 repeat' ((conv=>whnf);first|refine Or.inl ?_|apply oi|(apply fi<;>intro h)|refine⟨_,rfl,?_⟩|((with_reducible show _=_);rfl))
 all_goals try((with_reducible refine Obl.mk ?_);exact KO)
 all_goals exact⟨⟨rfl,flat_ints _⟩⟩
end Go.Proofs.YtjmplnfiabmalaaGreat
namespace Go.Proofs.YtjmplnfiabmalaaGreat
open Go.Sim
set_option maxRecDepth 100000
set_option maxHeartbeats 4000000
def qPush (c:CS)(v:Int):CS:=if c.m.fSp < 1∨1200 < c.m.fSp then⟨c.m,true⟩else⟨{setAt c.m (c.m.fSp - 1) v with fSp:=c.m.fSp - 1},c.bad⟩
def qVal (c:CS)(a:Int):Int:=if inStk a=true then wordAt c.m a else 0
def qTop (c:CS):Int:=qVal c c.m.fSp
def qPut (c:CS)(a v:Int):CS:=if inStk a=true then⟨setAt c.m a v,c.bad⟩else⟨c.m,true⟩
def qZeros:Nat→CS→CS
 | 0,c=>c
 | n+1,c=>qZeros n (qPush c 0)
def qNear (a n:Int):Int:=if within a (-100000) 100000=true then wr (a+n)else -1
def qLoad (c:CS)(a:Int):CS:=qPush (cAt c a) (qVal c a)
def qStore (c:CS)(a:Int):CS:=qPut (cPop c) a (qTop c)
def qArith (c:CS)(k:Int):CS:=qPush (cPop (cPop c)) (applyP k (qTop (cPop c)) (qTop c))
def qZero (c:CS)(a:Int):CS:=if qTop c=0 then cJump (cPop c) a else cPop c
def qGoto (c:CS)(es:List Int)(a:Int):CS:=match es[a.toNat]? with
 | some e=>⟨{(qPush c c.m.fPc).m with fPc:=e},(qPush c c.m.fPc).bad⟩
 | none=>⟨c.m,true⟩
def qEnter (c:CS)(n:Nat):CS:=qZeros n ⟨{(qPush c c.m.fFp).m with fFp:=(qPush c c.m.fFp).m.fSp},(qPush c c.m.fFp).bad⟩
def qFp (c:CS):CS:=⟨{(cPop c).m with fFp:=qTop c},(cPop c).bad⟩
def qPc (c:CS):CS:=⟨{(cPop c).m with fPc:=qTop c},(cPop c).bad⟩
def qLeave (c:CS)(n:Nat):CS:=if within (cPop c).m.fFp 0 1200=true then qPush (cDrop n (qPc (qFp (cCut (cPop c))))) (qTop c)else⟨(cPop c).m,true⟩
def qReturn (c:CS)(n:Nat):CS:=qPush (cDrop (n % 16) (qPc (cDrop (n / 16) (cPop c)))) (qTop c)
def qOut (c:CS):CS:=⟨{(cPop c).m with fOut:=(cPop c).m.fOut++[qTop c]},(cPop c).bad⟩
def qPerf (es:List Int)(c:CS)(x:TOp):CS:=
 if x.fCode=0 then qPush c x.fArg
 else if x.fCode=1 then qLoad c (qNear c.m.fFp x.fArg)
 else if x.fCode=3 then qLoad c (wr (c.m.fSp+x.fArg))
 else if x.fCode=2 then qStore c (qNear c.m.fFp x.fArg)
 else if x.fCode=4 then qStore c (wr (c.m.fSp+x.fArg))
 else if x.fCode=10 then cJump c x.fArg
 else if x.fCode=11 then qZero c x.fArg
 else if x.fCode=12 then qGoto c es x.fArg
 else if x.fCode=13 then qEnter c x.fArg.toNat
 else if x.fCode=15 then qZeros x.fArg.toNat c
 else if x.fCode=14 then qLeave c x.fArg.toNat
 else if x.fCode=16 then qReturn c x.fArg.toNat
 else if x.fCode=17 then qOut c
 else qArith c (x.fCode - 3)
def Rel (c d:CS):Prop:=c.bad=d.bad∧(c.bad=false→c.m=d.m∧0≤c.m.fSp∧c.m.fSp≤1200)
theorem Rel.bad {m m':TMachine}:Rel ⟨m,true⟩ ⟨m',true⟩:=⟨rfl,fun h=>by cases h⟩
theorem cPush_bad {c:CS}{v:Int}(h:c.bad=true):(cPush c v).bad=true:=by simp[cPush,h]
theorem qPush_bad {c:CS}{v:Int}(h:c.bad=true):(qPush c v).bad=true:=by unfold qPush;split <;> simp[h]
theorem cPop_bad {c:CS}(h:c.bad=true):(cPop c).bad=true:=by simp[cPop,h]
theorem cPop_out {c:CS}(h:inStk c.m.fSp=false):(cPop c).bad=true:=by simp[cPop,h]
theorem cDrop_bad:∀{n:Nat} {c:CS},c.bad=true→(cDrop n c).bad=true
 | 0,_,h=>h
 | n+1,_,h=>cDrop_bad (n:=n) (cPop_bad h)
theorem Rel.of_bad {c d:CS}(h1:c.bad=true)(h2:d.bad=true):Rel c d:=⟨h1.trans h2.symm,fun h=>by rw[h1]at h;cases h⟩
theorem rel_push {c d:CS}{v v':Int}(h:Rel c d)(hv:c.bad=false→v=v'):Rel (cPush c v) (qPush d v'):=by
 obtain⟨h1,h2⟩:=h
 cases hb:c.bad with
 | true=>exact .of_bad (cPush_bad hb) (qPush_bad (h1 ▸ hb))
 | false=>
  obtain⟨h3,h4,h5⟩:=h2 hb
  obtain⟨m,b⟩:=c
  obtain⟨m',b'⟩:=d
  dsimp only at *
  subst h3;subst h1;subst hb
  rw[hv rfl]
  unfold cPush qPush
  dsimp only
  have hw:wr (m.fSp - 1)=m.fSp - 1:=IntWalk.i64_in _ (by omega)
  rw[hw]
  by_cases hs:m.fSp < 1∨1200 < m.fSp
  ·have hn:inStk (m.fSp - 1)=false:=by
    cases hi:inStk (m.fSp - 1)with
    | false=>rfl
    | true=>have:=inStk_iff.1 hi;omega
   rw[if_pos hs,if_pos (by simp[hn])]
   exact .bad
  ·have hn:inStk (m.fSp - 1)=true:=inStk_iff.2 (by omega)
   rw[if_neg hs,if_neg (by simp[hn])]
   exact⟨rfl,fun _=>⟨rfl,by dsimp only;omega,by dsimp only;omega⟩⟩
theorem rel_pop {c d:CS}(h:Rel c d):Rel (cPop c) (cPop d):=by
 obtain⟨h1,h2⟩:=h
 cases hb:c.bad with
 | true=>exact .of_bad (cPop_bad hb) (cPop_bad (h1 ▸ hb))
 | false=>
  obtain⟨h3,h4,h5⟩:=h2 hb
  obtain⟨m,b⟩:=c
  obtain⟨m',b'⟩:=d
  dsimp only at *
  subst h3;subst h1;subst hb
  refine⟨rfl,fun hn=>⟨rfl,?_⟩⟩
  unfold cPop at hn ⊢
  dsimp only at hn ⊢
  split at hn
  ·cases hn
  ·rename_i hi
   rw[if_neg hi]
   have:inStk m.fSp=true:=by simpa using hi
   have:=inStk_iff.1 this
   dsimp only
   omega
theorem rel_top {c d:CS}(h:Rel c d)(hb:(cPop c).bad=false):cTop c=qTop d:=by
 obtain⟨h1,h2⟩:=h
 unfold cPop at hb
 split at hb
 ·cases hb
 ·rename_i hi
  have hi':c.bad=false∧inStk c.m.fSp=true:=by simpa using hi
  obtain⟨h3,_⟩:=h2 hi'.1
  unfold cTop qTop qVal
  rw[if_neg hi,←h3,if_pos hi'.2]
theorem rel_drop:∀{n:Nat} {c d:CS},Rel c d→Rel (cDrop n c) (cDrop n d)
 | 0,_,_,h=>h
 | n+1,_,_,h=>rel_drop (n:=n) (rel_pop h)
theorem drop_good:∀{n:Nat} {c:CS},(cDrop n c).bad=false→c.bad=false
 | n,c,h=>by cases hb:c.bad with
  | false=>rfl
  | true=>rw[cDrop_bad hb]at h;cases h
theorem pop_good {c:CS}(h:(cPop c).bad=false):c.bad=false:=by cases hb:c.bad with
  | false=>rfl
  | true=>rw[cPop_bad hb]at h;cases h
theorem rel_zeros:∀{n:Nat} {c d:CS},Rel c d→Rel (cZeros n c) (qZeros n d)
 | 0,_,_,h=>h
 | n+1,_,_,h=>rel_zeros (n:=n) (rel_push h fun _=>rfl)
theorem rel_load {c d:CS}{a a':Int}(h:Rel c d)(hi:inStk a=inStk a')(ha:inStk a=true→a=a'):Rel (cLoad c a) (qLoad d a'):=by
 obtain⟨h1,h2⟩:=h
 unfold cLoad qLoad cAt
 rw[←hi]
 cases hb:c.bad with
 | true=>exact .of_bad (by simp) (qPush_bad (by simp[←h1,hb]))
 | false=>
  obtain⟨h3,h4,h5⟩:=h2 hb
  cases hn:inStk a with
  | false=>exact .of_bad (by simp) (qPush_bad (by simp))
  | true=>
   have e:=ha hn
   subst e
   rw[if_neg (by simp)]
   refine rel_push ⟨?_,fun _=>⟨h3,h4,h5⟩⟩ fun _=>?_
   ·simp[←h1,hb]
   ·rw[qVal,if_pos hn,h3]
theorem rel_store {c d:CS}{a a':Int}(h:Rel c d)(hi:inStk a=inStk a')(ha:inStk a=true→a=a'):Rel (cStore c a) (qStore d a'):=by
 have hp:=rel_pop h
 have ht:=rel_top h
 unfold cStore qStore qPut
 rw[←hi]
 cases hb:(cPop c).bad with
 | true=>
  rw[if_pos (by simp)]
  refine .of_bad rfl ?_
  split
  ·rw[←hp.1];exact hb
  ·rfl
 | false=>
  obtain⟨h3,h4,h5⟩:=hp.2 hb
  cases hn:inStk a with
  | false=>rw[if_pos (by simp),if_neg (by simp)];exact .bad
  | true=>
   have e:=ha hn
   subst e
   rw[if_neg (by simp),if_pos rfl,ht hb,←h3]
   exact⟨by rw[←hp.1,hb],fun _=>⟨rfl,h4,h5⟩⟩
theorem near_in {f n:Int}(hf:inI f)(hn:-65536≤n∧n≤65536):inStk (wr (f+n))=inStk (qNear f n)∧(inStk (wr (f+n))=true→wr (f+n)=qNear f n):=by
 unfold qNear
 by_cases hw:within f (-100000) 100000=true
 ·rw[if_pos hw];exact⟨rfl,fun _=>rfl⟩
 ·rw[if_neg hw]
  have h0:¬(-100000≤f∧f≤100000):=fun h=>hw (within_iff.2 h)
  have:inStk (wr (f+n))=false:=by
   cases hi:inStk (wr (f+n))with
   | false=>rfl
   | true=>
    exfalso
    have h1:=inStk_iff.1 hi
    unfold inI at hf
    have e:wr (f+n)=if(f+n) % 18446744073709551616≥9223372036854775808 then(f+n) % 18446744073709551616 - 18446744073709551616 else(f+n) % 18446744073709551616:=by simp[wr,IntKind.wrap,IntKind.bits,IntKind.signed]
    rw[e]at h1
    split at h1 <;> omega
  rw[this]
  exact⟨by decide,fun h=>by cases h⟩
theorem rel_perf (es:List Int)(m:TMachine)(x:TOp)(hsp:0≤m.fSp∧m.fSp≤1200)(hfp:inI m.fFp)(hc:0≤x.fCode∧x.fCode≤17)(h1:12≤x.fCode→x.fCode≤16→0≤x.fArg∧x.fArg≤65536)(h2:1≤x.fCode→x.fCode≤11→-65536≤x.fArg∧x.fArg≤65536):
  Rel (cPerf es ⟨m,false⟩ x) (qPerf es ⟨m,false⟩ x):=by
 have h0:Rel ⟨m,false⟩ ⟨m,false⟩:=⟨rfl,fun _=>⟨rfl,hsp⟩⟩
 obtain⟨k,a⟩:=x
 dsimp only at hc h1 h2
 generalize hd:(⟨m,false⟩:CS)=d at *
 have hdf:d.m.fFp=m.fFp:=by rw[←hd]
 unfold cPerf qPerf
 dsimp only
 by_cases e0:k=0
 ·rw[if_pos e0,if_pos e0];exact rel_push h0 fun _=>rfl
 rw[if_neg e0,if_neg e0]
 by_cases e1:k=1
 ·rw[if_pos e1,if_pos e1]
  have:=near_in (n:=a) hfp (h2 (by omega) (by omega))
  rw[hdf]
  exact rel_load h0 this.1 this.2
 rw[if_neg e1,if_neg e1]
 by_cases e3:k=3
 ·rw[if_pos e3,if_pos e3];exact rel_load h0 rfl fun _=>rfl
 rw[if_neg e3,if_neg e3]
 by_cases e2:k=2
 ·rw[if_pos e2,if_pos e2]
  have:=near_in (n:=a) hfp (h2 (by omega) (by omega))
  rw[hdf]
  exact rel_store h0 this.1 this.2
 rw[if_neg e2,if_neg e2]
 by_cases e4:k=4
 ·rw[if_pos e4,if_pos e4];exact rel_store h0 rfl fun _=>rfl
 rw[if_neg e4,if_neg e4]
 by_cases e59:5≤k∧k≤9
 ·rw[if_pos e59,if_neg (by omega),if_neg (by omega),if_neg (by omega),if_neg (by omega),if_neg (by omega),if_neg (by omega),if_neg (by omega),if_neg (by omega)]
  unfold cArith qArith
  refine rel_push (rel_pop (rel_pop h0)) fun hb=>?_
  rw[rel_top h0 (pop_good hb),rel_top (rel_pop h0) hb]
 rw[if_neg e59]
 by_cases e10:k=10
 ·rw[if_pos e10,if_pos e10]
  unfold cJump
  exact⟨rfl,fun hb=>⟨rfl,(h0.2 hb).2⟩⟩
 rw[if_neg e10,if_neg e10]
 by_cases e11:k=11
 ·rw[if_pos e11,if_pos e11]
  unfold cZero qZero
  have hp:=rel_pop h0
  cases hb:(cPop d).bad with
  | true=>refine .of_bad ?_ ?_ <;> split <;> simp[cJump,hb]
  | false=>
   rw[rel_top h0 hb]
   split
   ·unfold cJump;exact⟨rfl,fun hb=>⟨rfl,(hp.2 hb).2⟩⟩
   ·exact hp
 rw[if_neg e11,if_neg e11]
 by_cases e12:k=12
 ·rw[if_pos e12,if_pos e12]
  have hp:=rel_push (v:=d.m.fPc) (v':=d.m.fPc) h0 fun _=>rfl
  unfold cGoto qGoto
  cases he:es[a.toNat]? with
  | some e=>exact⟨hp.1,fun hb=>by obtain⟨g1,g2,g3⟩:=hp.2 hb;exact⟨by dsimp only;rw[g1],g2,g3⟩⟩
  | none=>exact .bad
 rw[if_neg e12,if_neg e12]
 by_cases e13:k=13
 ·rw[if_pos e13,if_pos e13]
  have hp:=rel_push (v:=d.m.fFp) (v':=d.m.fFp) h0 fun _=>rfl
  unfold cEnter qEnter
  refine rel_zeros ⟨hp.1,fun hb=>?_⟩
  obtain⟨g1,g2,g3⟩:=hp.2 hb
  exact⟨by dsimp only;rw[g1],g2,g3⟩
 rw[if_neg e13,if_neg e13]
 by_cases e15:k=15
 ·rw[if_pos e15,if_pos e15];exact rel_zeros h0
 rw[if_neg e15,if_neg e15]
 by_cases e14:k=14
 ·rw[if_pos e14,if_pos e14]
  unfold cLeave qLeave
  have hp:=rel_pop h0
  by_cases hw:within (cPop d).m.fFp 0 1200=true
  ·rw[if_pos hw]
   have hw':=within_iff.1 hw
   have hcut:Rel (cCut (cPop d)) (cCut (cPop d)):=⟨rfl,fun _=>⟨rfl,hw'.1,hw'.2⟩⟩
   have p2:=rel_pop hcut
   have r3:Rel (cFp (cCut (cPop d))) (qFp (cCut (cPop d))):=⟨p2.1,fun hb=>by
    unfold cFp qFp
    rw[rel_top hcut hb]
    exact⟨rfl,(p2.2 hb).2⟩⟩
   have p3:=rel_pop r3
   have r4:Rel (cPc (cFp (cCut (cPop d)))) (qPc (qFp (cCut (cPop d)))):=⟨p3.1,fun hb=>by
    obtain⟨g1,g2,g3⟩:=p3.2 hb
    unfold cPc qPc
    rw[rel_top r3 hb]
    exact⟨by dsimp only;rw[g1],g2,g3⟩⟩
   refine rel_push (rel_drop r4) fun hb=>rel_top h0 ?_
   have b0:(cPc (cFp (cCut (cPop d)))).bad=false:=drop_good hb
   have b1:(cPop (cFp (cCut (cPop d)))).bad=false:=b0
   have b1':(cFp (cCut (cPop d))).bad=false:=pop_good b1
   have b2:(cPop (cCut (cPop d))).bad=false:=b1'
   have b2':(cCut (cPop d)).bad=false:=pop_good b2
   exact b2'
  ·rw[if_neg hw]
   refine .of_bad ?_ rfl
   refine cPush_bad (cDrop_bad ?_)
   show(cPop (cFp (cCut (cPop d)))).bad=true
   refine cPop_bad ?_
   show(cPop (cCut (cPop d))).bad=true
   have hn:inStk (cPop d).m.fFp=false:=by
    cases hi:inStk (cPop d).m.fFp with
    | false=>rfl
    | true=>exact absurd (within_iff.2 (by have:=inStk_iff.1 hi;omega)) hw
   exact cPop_out (c:=cCut (cPop d)) hn
 rw[if_neg e14,if_neg e14]
 by_cases e16:k=16
 ·rw[if_pos e16,if_pos e16]
  unfold cReturn qReturn
  have hp:=rel_pop h0
  have r2:=rel_drop (n:=a.toNat / 16) hp
  have p3:=rel_pop r2
  have r4:Rel (cPc (cDrop (a.toNat / 16) (cPop d))) (qPc (cDrop (a.toNat / 16) (cPop d))):=⟨p3.1,fun hb=>by
   obtain⟨g1,g2,g3⟩:=p3.2 hb
   unfold cPc qPc
   rw[rel_top r2 hb]
   exact⟨rfl,g2,g3⟩⟩
  refine rel_push (rel_drop r4) fun hb=>rel_top h0 ?_
  have b0:(cPc (cDrop (a.toNat / 16) (cPop d))).bad=false:=drop_good hb
  have b1:(cPop (cDrop (a.toNat / 16) (cPop d))).bad=false:=b0
  have b2:(cDrop (a.toNat / 16) (cPop d)).bad=false:=pop_good b1
  exact drop_good b2
 rw[if_neg e16,if_neg e16]
 have e17:k=17:=by omega
 rw[if_pos e17,if_pos e17]
 have hp:=rel_pop h0
 unfold cOut qOut
 refine⟨rfl,fun hb=>?_⟩
 rw[rel_top h0 hb]
 exact⟨rfl,(hp.2 hb).2⟩
end Go.Proofs.YtjmplnfiabmalaaGreat
