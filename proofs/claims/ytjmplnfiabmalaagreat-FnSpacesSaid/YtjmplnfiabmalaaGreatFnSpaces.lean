/- The law FnSpaces answers true for every input and leaves its argument as it was. Conditions: none beyond the given statement. -/
import Derived.Test.YtjmplnfiabmalaaGreatGj
namespace Go.Proofs.YtjmplnfiabmalaaGreat
open Go.Sim Go.ChangeShapes Go.WideShapes Go.ChangeAt Go.RowKit
set_option maxRecDepth 100000
set_option maxHeartbeats 4000000
theorem sH (code:List UInt8):Sim.Spec Tryz.prog 5 [tvL 1 (code.map aQ)] (rB true):=by
 refine aE hΓ ay Tryz.func5 rfl (by decide) rfl ?_
 repeat' ((conv=>whnf);first|apply Wx|apply W6|apply oi|(apply fi<;>intro h)|refine cl ((Bo code)) ?_|refine⟨_,rfl,?_⟩|exact rfl)
 all_goals try exact⟨KP⟩
 have hl:code.length≤1048576:=by have:=of_decide_eq_false h;omega
 obtain⟨p,b,first,second,hok,g0⟩:=qP code hl
 have h6:=(dU hok.prog).1
 have h60:=(dU hok.prog).2
 have hLS:=qG p b first second hok.small
 rw[show dy p b first second=some (cQ p b first second) by rw[dy,if_pos ⟨hok.prog,hok.build,hok.space⟩]]at hLS
 simp only[oSp]at hLS
 have hsp:=Gq hok
 have hel:=rp (p:=p) (b:=b) (first:=first) (second:=second)
 have hml:((entries p b first second).map aa).length=(ak p).length:=by rw[List.length_map,hel]
 have hSI:=sS (entries p b first second) (entries p b first second) (by omega)
 rw[beq_self_eq_true]at hSI
 have hFL:=bS p (by omega)
 have hfl:((ak p).map fun n:Nat=>aa n).length=(ak p).length:=by simp
 have hfb:=hok.fb
 have hsb:=hok.sb
 refine cg (g0) ?_
 repeat' ((conv=>whnf);first|(with_reducible apply W1;fail_if_success (with_reducible show Wo _ _ _ _ (Code.seq (Code.region 7 _ _) _) _ _))|(with_reducible first|apply W2|apply W3|apply W4|apply W5|apply W6|apply W7|apply W8|apply W9)|apply bh|apply oi|(apply fi<;>intro h)|refine⟨0,rfl,(by simp),?_⟩|refine⟨1,rfl,(by simp),?_⟩|refine⟨_,rfl,?_⟩|refine cl hLS ?_|refine cl hsp ?_|refine cl hSI ?_|refine⟨_,rfl,?_⟩|exact rfl)
 all_goals try exact⟨KP⟩
 all_goals try(exfalso;simp at h;done)
 conv=>whnf
 refine gx ⟨[(3,vP p),(5,.r (.c (.ptr (5,0,0) 0))),(6,.r (.c (.ptr (6,0,0) 0)))],
  [((5,0,0),some (.box [.t (.lst 2 [(ag p b 0).tr,(ag p b 1).tr]),.t (.lst 1 [aa first,aa second]),.t (.lst 1 ((entries p b first second).map aa))])),((6,0,0),some (.box [.t (.lst 2 [(ag p b 0).tr,(ag p b 1).tr]),.t (.lst 1 [aa first,aa second]),.t (.lst 1 ((entries p b first second).map aa))]))],_⟩ ?_ ?_ rfl ?_
 ·exact⟨.inl rfl,.inl rfl,.inl rfl,trivial⟩
 ·have tq:∀{H H':Sim.Id→Option AO} {o:Sim.Id} {t:Tr},dR H (.own o) t→H' o=none→vwC H H' (.own o) (.t t):=fun h1 h2=> .inr (.inr ⟨_,rfl,h1,fun q hq=>by simp only[AC.ids,List.mem_cons,List.not_mem_nil,or_false]at hq;subst hq;exact h2⟩)
  exact⟨.inr (.inr (.inl ⟨_,_,rfl,rfl,tq rfl rfl,tq rfl rfl,tq rfl rfl,trivial⟩)),.inr (.inr (.inl ⟨_,_,rfl,rfl,tq rfl rfl,tq rfl rfl,tq rfl rfl,trivial⟩)),trivial⟩
 repeat' ((conv=>whnf);first|apply Wx|apply W6|apply oi|(apply fi<;>intro h)|refine⟨_,rfl,?_⟩|exact rfl)
 all_goals try exact⟨KP⟩
 conv=>whnf
 refine⟨{f:Nat // f≤(ak p).length},fun f=>⟨[(3,vP p),(5,.r (.c (.ptr (5,0,0) 0))),(6,.r (.c (.ptr (6,0,0) 0))),(8,tI .i64 (f.1:Int))],
  [((5,0,0),some (.box [.t (.lst 2 [(ag p b 0).tr,(ag p b 1).tr]),.t (.lst 1 [aa first,aa second]),.t (.lst 1 ((entries p b first second).map aa))])),((6,0,0),some (.box [.t (.lst 2 [(ag p b 0).tr,(ag p b 1).tr]),.t (.lst 1 [aa first,aa second]),.t (.lst 1 ((entries p b first second).map aa))]))],[6,5]⟩,fun f=>(ak p).length - f.1,⟨0,by omega⟩,?_,?_⟩
 ·skip
  repeat' ((conv=>whnf);first|apply Wx|apply W6|apply oi|(apply fi<;>intro h)|refine⟨_,rfl,?_⟩|exact rfl)
  all_goals try exact⟨KP⟩
 intro⟨f,hf⟩
 dsimp only
 by_cases hlt:f < (ak p).length
 ·obtain⟨i,im,base,he⟩:=yl hok hlt
  have hLo:=fT hok (bd p b first second f)
  rw[he.loc]at hLo
  obtain⟨o,z,hoc,hFe⟩:=sr hok he
  have hFu:=oG hok hlt he
  have hst:=he.start
  have hrg:=he.range
  have hlen:=he.len
  have hbt:[aa first,aa second][i]?=some (aa base):=by
   have h2:=congrArg (Option.map aa) he.bas
   rw[←List.getElem?_map]at h2
   exact h2
  have hft:((entries p b first second).map aa)[f]?=some (aa (bd p b first second f)):=ab (sf hlt)
  have hent:=he.entry
  have hw:IntKind.i64.wrap (base+bt p b f)=bd p b first second f:=by rw[hent,IntWalk.i64_in _ (by omega)]
  generalize bd p b first second f=e at *
  generalize bt p b f=so at *
  rcases hoc with hoc|hoc
  all_goals(
   repeat' ((conv=>whnf);first|apply Wx|apply W6|apply oi|(apply fi<;>intro h)|refine⟨f,(aa e),rfl,hft,?_⟩|refine⟨i,(aa base),rfl,hbt,?_⟩|refine cl hLo ?_|refine cl hFe ?_|refine cl hFu ?_|refine⟨_,rfl,?_⟩|exact rfl)
   all_goals try exact⟨KP⟩
   all_goals try exact KX
   all_goals try(exfalso;first|(rw[hw]at h;simp at h;done)|(simp[hoc]at h;done)|(simp at h;omega)|(simp at h;done))
   all_goals try(exfalso;rename_i g3;simp[hoc]at g3;done)
   all_goals try(exfalso;rename_i g2 g3;simp[hoc]at g2;done)
   conv=>whnf
   refine⟨⟨f+1,by omega⟩,?_,KD⟩
   repeat' ((conv=>whnf);first|apply Wx|apply W6|apply oi|(apply fi<;>intro h)|refine⟨_,rfl,?_⟩|exact rfl)
   all_goals try exact⟨KP⟩
   all_goals try exact⟨KW⟩
   skip)
 ·have hL0:=fT hok 0
  rw[show CQ (cQ p b first second) 0=(-1,-1) by
   show gv (ag p b 0) (ag p b 1) first second 0=_
   rw[gv,if_neg (by omega),if_neg (by omega)]]at hL0
  repeat' ((conv=>whnf);first|apply Wx|apply W6|apply oi|(apply fi<;>intro h)|refine cl hL0 ?_|refine cl hFL ?_|refine⟨_,rfl,?_⟩|exact rfl)
  all_goals try exact⟨KP⟩
  all_goals try exact KX
  all_goals exact⟨by rw[hml,hfl];simp⟩
theorem fnSpaces_lifted (os:Os)(started:os.Started)(H:Type)(enc:TypeId×Value→H):
  ReturnsInHanded {} Tryz.checked os 5 .any (Rows.fnSpacesSpec.pre6 enc Tryz.prog Tryz.f5 Rows.fnSpacesRow.domain false) (Rows.fnSpacesSpec.post enc Tryz.prog Tryz.f5 false true false false):=by
 refine returnsInHanded_of_change (C:=Tryz.checked) own started (by kernel_rfl) Tryz.func5
  (ChangeSpec.witness6 (enc:=enc) (C:=Tryz.checked) false ⟨#[],#[.slice none 0 0],[]⟩ 8 (by kernel_rfl) (by kernel_rfl) (by kernel_rfl) (by kernel_rfl)) ?_
 intro W base args ds gs before hval hW _ _
 have hW0:=hW
 obtain⟨p,q,hA,_,_,_,_⟩:=hW0
 have hlen:=rG hA
 obtain⟨xs,hx,hty⟩:=vi (n:=8) hΓ (by kernel_rfl) (fun j t v h1 h2=>hval j t v (by simpa using h1) (by simpa using h2)) hA
 rw[Tryz.params5]at hty hlen
 obtain⟨_,xs0,rfl,hx0,hty0⟩:=yp hty
 obtain⟨_,rfl,rows,⟨⟩,hl,hr⟩:=hx0
 obtain rfl:=Am hty0
 obtain⟨d0,rfl⟩:=Hy hlen
 obtain⟨bs,rfl⟩:=CL (rows:=rows) (fun r hr'=>hr r hr')
 exact CO Gj rfl Tryz.underlying4 rfl (by kernel_rfl) rfl hx (sH bs) hW
theorem fnSpaces_holds:Rows.FnSpacesSaid:=
 OpenClaim.holds_of_wide 5 Tryz.f5 rfl rfl rfl rfl rfl rfl rfl ⟨rfl,rfl,rfl,rfl,rfl⟩ rfl rfl rfl rfl rfl (by kernel_rfl) Tryz.func5 (by kernel_rfl)
  (of_decide_eq_true (by kernel_rfl)) (by unfold Func.isWrapper;first|(rw[if_pos (by decide+kernel)];kernel_rfl)|(rw[if_neg (by decide+kernel)];exact⟨rfl,rfl⟩))
  (fun os started H enc _=>fnSpaces_lifted os started H enc)
end Go.Proofs.YtjmplnfiabmalaaGreat
