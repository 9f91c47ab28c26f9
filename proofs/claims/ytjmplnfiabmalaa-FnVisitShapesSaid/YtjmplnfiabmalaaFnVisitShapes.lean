/- The law FnVisitShapes answers true for every input and leaves its argument as it was. Conditions: none beyond the given statement. -/
import Derived.Test.YtjmplnfiabmalaaGi
namespace Go.Proofs.Ytjmplnfiabmalaa
open Go.Sim Go.ChangeShapes Go.WideShapes Go.ChangeAt Go.RowKit
set_option maxRecDepth 100000
set_option maxHeartbeats 4000000
abbrev im (nm:List UInt8)(t:Ar):Bool:=t.faa==7 && t.fab==nm
abbrev vsH (R:Ao):List (Sim.Id×Option AO):=[((4,0,0),some (.box [.t (.lst 1 (R.fak.map ab)),.t (.lst 1 (R.fah.map (ph 1 ab))),.t (.int .i64 R.fao),.t (.int .i64 R.fag)]))]
theorem iy (code:List UInt8):Sim.Spec Try.prog 6 [tvL 1 (code.map aI)] (rB true):=by
 refine eY hΓ au Try.func6 rfl (by decide) rfl ?_
 repeat' ((conv=>whnf);first|apply Wx|apply W6|apply oi|(apply fi<;>intro h)|refine cl ((tJ code)) ?_|refine⟨_,rfl,?_⟩|exact rfl)
 all_goals try exact⟨KP⟩
 have hl:code.length≤1048576:=by have:=of_decide_eq_false h;omega
 clear h
 obtain⟨p,hPL,hlen,hs,g0⟩:=jR code hl
 have hpn:p.length≤1048576:=by omega
 have hA:=kD p hs 60
 have hC:=kZ p hs 60
 have hR:(∀v∈(ivR p 60).fah,VShape p v)∧(ivR p 60).fah.length≤60∧((ivR p 60).fag=3→(ivR p 60).fah.length=0):=by
  by_cases h:(aB p && ae 60 0 1000)=true
  ·rw[tW h]
   rw[Bool.and_eq_true]at h
   have hp:=qW hs h.1
   have hk:=yf hp h.1 (lim:=60) (by omega)
   have h1:=hk.vis
   have h2:=hk.code
   exact⟨tF hp h.1 (by omega),by dsimp only;omega,fun e=>by dsimp only at e;omega⟩
  ·rw[qC h]
   exact⟨fun v hv=>absurd hv (List.not_mem_nil),by simp,fun _=>rfl⟩
 obtain⟨hshape,hvl,hcode⟩:=hR
 generalize ivR p 60=R at *
 have hVl:(R.fah.map (ph 1 ab)).length=R.fah.length:=by simp
 have hpl:(p.map Ai.tr).length=p.length:=by simp
 refine cg (g0) ?_
 repeat' ((conv=>whnf);first|(with_reducible apply W1;fail_if_success (with_reducible show Wo _ _ _ _ (Code.region 7 _ _) _ _))|(with_reducible first|apply W2|apply W3|apply W4|apply W5|apply W6|apply W7|apply W8|apply W9)|apply bB|apply oi|(apply fi<;>intro h)|refine cl hA ?_|refine cl hC ?_|refine⟨_,rfl,?_⟩|exact rfl)
 all_goals try exact⟨KP⟩
 all_goals try(exfalso;simp at h;done)
 conv=>whnf
 refine nz ⟨[(3,vP p),(4,.r (.c (.ptr (4,0,0) 0)))],vsH R,_⟩ ?_ ?_ rfl ?_
 ·exact⟨.inl rfl,.inl rfl,trivial⟩
 ·have tq:∀{H H':Sim.Id→Option AO} {o:Sim.Id} {t:Tr},bV H (.own o) t→H' o=none→vwC H H' (.own o) (.t t):=fun h1 h2=> .inr (.inr ⟨_,rfl,h1,fun q hq=>by simp only[AC.ids,List.mem_cons,List.not_mem_nil,or_false]at hq;subst hq;exact h2⟩)
  exact⟨.inr (.inr (.inl ⟨_,_,rfl,rfl,tq rfl rfl,tq rfl rfl,.inl rfl,.inl rfl,trivial⟩)),trivial⟩
 repeat' ((conv=>whnf);first|apply Wx|apply W6|apply oi|(apply fi<;>intro h)|refine⟨_,rfl,?_⟩|exact rfl)
 all_goals try exact⟨KP⟩
 conv=>whnf
 refine⟨{k:Nat // k≤R.fah.length},fun k=>⟨[(3,vP p),(4,.r (.c (.ptr (4,0,0) 0))),(5,tI .i64 (k.1:Int))],vsH R,[4]⟩,fun k=>R.fah.length - k.1,⟨0,by omega⟩,?_,?_⟩
 ·skip
  repeat' ((conv=>whnf);first|apply Wx|apply W6|apply oi|(apply fi<;>intro h)|refine⟨_,rfl,?_⟩|exact rfl)
  all_goals try exact⟨KP⟩
 intro⟨k,hk⟩
 dsimp only
 by_cases hkl:k < R.fah.length
 ·obtain⟨v,hv⟩:=af hkl
  have hsh:=hshape v (List.mem_of_getElem? hv)
  obtain⟨a0,ha0,hmain⟩:=hsh.main
  have hF0:=dz p a0 hpn
  rw[hmain]at hF0
  have h7:=hsh.len
  have h0:=aU ha0
  have hvL:(v.map ab).length=v.length:=by simp
  repeat' ((conv=>whnf);first|apply Wx|apply W6|apply oi|(apply fi<;>intro h)|refine⟨k,(ph 1 ab v),rfl,aa hv,?_⟩|refine⟨0,(ab a0),rfl,aa ha0,?_⟩|refine cl hF0 ?_|refine⟨_,rfl,?_⟩|exact rfl)
  all_goals try exact⟨KP⟩
  all_goals try(exfalso;simp[cB]at h;done)
  all_goals try(exfalso;rename_i g1;simp at g1;omega)
  all_goals try(exfalso;rw[hvL]at h;simp at h;first|omega|(subst h;simp at h0))
  conv=>whnf
  refine⟨{i:Nat // i < v.length},fun i=>⟨[(3,vP p),(4,.r (.c (.ptr (4,0,0) 0))),(5,tI .i64 (k:Int)),(6,.r (.c (.t (.lst 1 (v.map ab))))),(7,tI .i64 (i.1:Int))],vsH R,[4]⟩,fun i=>v.length - i.1,⟨0,h0⟩,?_,?_⟩
  ·skip
   repeat' ((conv=>whnf);first|apply Wx|apply W6|apply oi|(apply fi<;>intro h)|refine⟨_,rfl,?_⟩|exact rfl)
   all_goals try exact⟨KP⟩
  intro⟨i,hi⟩
  dsimp only
  by_cases hil:i+1 < v.length
  ·obtain⟨a,ha⟩:=af (l:=v) (k:=i) (by omega)
   obtain⟨b,hb⟩:=af hil
   obtain⟨q,y,rfl,hy,t0,ht0,hk0,hn0⟩:=hsh.step i a b ha hb
   have hq:=aU hy
   have hFb:=dz p b hpn
   rw[←hn0]at hFb
   have hyl:=(cb (cz hs (List.mem_of_getElem? hy))).2.2.2.1
   have hyL:(y.fac.map Ar.tr).length=y.fac.length:=by simp
   have hwi:IntKind.i64.wrap ((i:Int)+1)=((i+1:Nat):Int):=by rw[IntWalk.i64_in _ (by omega)];rfl
   repeat' ((conv=>whnf);first|apply Wx|apply W6|apply oi|(apply fi<;>intro h)|refine⟨i,(ab (q:Int)),rfl,aa ha,?_⟩|refine⟨_,rfl,?_⟩|exact rfl)
   all_goals try exact⟨KP⟩
   all_goals try exact KX
   conv=>whnf
   refine⟨{j:Nat // j≤y.fac.length},fun j=>⟨[(3,vP p),(4,.r (.c (.ptr (4,0,0) 0))),(5,tI .i64 (k:Int)),(6,.r (.c (.t (.lst 1 (v.map ab))))),(7,tI .i64 (i:Int)),(8,tB ((y.fac.take j.1).any (im t0.fab))),(9,tI .i64 (j.1:Int))],vsH R,[4]⟩,fun j=>y.fac.length - j.1,⟨0,by omega⟩,?_,?_⟩
   ·skip
    repeat' ((conv=>whnf);first|apply Wx|apply W6|apply oi|(apply fi<;>intro h)|refine⟨_,rfl,?_⟩|exact rfl)
    all_goals try exact⟨KP⟩
   intro⟨j,hj⟩
   dsimp only
   by_cases hjl:j < y.fac.length
   ·obtain⟨t,ht⟩:=af hjl
    have hany:(y.fac.take (j+1)).any (im t0.fab)=((y.fac.take j).any (im t0.fab) || im t0.fab t):=by rw[List.take_add_one,ht];simp
    repeat' ((conv=>whnf);first|apply Wx|apply W6|apply oi|(apply fi<;>intro h)|refine⟨i,(ab (q:Int)),rfl,aa ha,?_⟩|refine⟨q,(Ai.tr y),rfl,aa hy,?_⟩|refine⟨j,(Ar.tr t),rfl,aa ht,?_⟩|refine⟨(i+1),(ab b),hwi,aa hb,?_⟩|refine cl hFb ?_|refine⟨_,rfl,?_⟩|exact rfl)
    all_goals try exact⟨KP⟩
    all_goals try exact KX
    all_goals(
     conv=>whnf
     refine⟨⟨j+1,by omega⟩,?_,KD⟩
     repeat' ((conv=>whnf);first|apply Wx|apply W6|apply oi|(apply fi<;>intro h)|refine⟨_,rfl,?_⟩|exact rfl)
     all_goals try exact⟨KP⟩
     all_goals try exact⟨KW⟩
     all_goals try exact⟨congrArg Tr.bool (by dsimp only;rw[hany,‹(List.take j y.fac).any (im t0.fab)=false›];simp[im,h])⟩
     all_goals try exact⟨congrArg Tr.bool (by dsimp only;rw[hany,‹(List.take j y.fac).any (im t0.fab)=true›];rfl)⟩
     skip)
   ·have hall:(y.fac.take j).any (im t0.fab)=true:=by
     rw[List.take_of_length_le (by omega)]
     exact List.any_eq_true.2 ⟨t0,ht0,by simp[hk0]⟩
    rw[hall]
    repeat' ((conv=>whnf);first|apply Wx|apply W6|apply oi|(apply fi<;>intro h)|refine⟨i,(ab (q:Int)),rfl,aa ha,?_⟩|refine⟨q,(Ai.tr y),rfl,aa hy,?_⟩|refine⟨_,rfl,?_⟩|exact rfl)
    all_goals try exact⟨KP⟩
    all_goals try exact KX
    all_goals try(exfalso;simp at h;done)
    conv=>whnf
    refine⟨⟨i+1,hil⟩,?_,KD⟩
    repeat' ((conv=>whnf);first|apply Wx|apply W6|apply oi|(apply fi<;>intro h)|refine⟨_,rfl,?_⟩|exact rfl)
    all_goals try exact⟨KP⟩
    all_goals try exact⟨KW⟩
  ·have hwi:IntKind.i64.wrap ((i:Int)+1)=((i+1:Nat):Int):=by rw[IntWalk.i64_in _ (by omega)];rfl
   repeat' ((conv=>whnf);first|apply Wx|apply W6|apply oi|(apply fi<;>intro h)|refine⟨_,rfl,?_⟩|exact rfl)
   all_goals try exact⟨KP⟩
   all_goals try exact KX
   all_goals try(exfalso;rw[hwi]at h;simp at h;omega)
   conv=>whnf
   refine⟨⟨k+1,by omega⟩,?_,KD⟩
   repeat' ((conv=>whnf);first|apply Wx|apply W6|apply oi|(apply fi<;>intro h)|refine⟨_,rfl,?_⟩|exact rfl)
   all_goals try exact⟨KP⟩
   all_goals try exact⟨KW⟩
 ·skip
  repeat' ((conv=>whnf);first|apply Wx|apply W6|apply oi|(apply fi<;>intro h)|refine⟨_,rfl,?_⟩|exact rfl)
  all_goals try exact⟨KP⟩
  all_goals try exact KX
  all_goals exact⟨by simp[hcode (by simpa using h)]⟩
theorem fnVisitShapes_lifted (os:Os)(started:os.Started)(H:Type)(enc:TypeId×Value→H):
  ReturnsInHanded {} Try.checked os 6 .any (Rows.fnVisitShapesSpec.pre6 enc Try.prog Try.f6 Rows.fnVisitShapesRow.domain false) (Rows.fnVisitShapesSpec.post enc Try.prog Try.f6 false true false false):=by
 refine returnsInHanded_of_change (C:=Try.checked) own started (by kernel_rfl) Try.func6
  (ChangeSpec.witness6 (enc:=enc) (C:=Try.checked) false ⟨#[],#[.slice none 0 0],[]⟩ 8 (by kernel_rfl) (by kernel_rfl) (by kernel_rfl) (by kernel_rfl)) ?_
 intro W base args ds gs before hval hW _ _
 have hW0:=hW
 obtain⟨p,q,hA,_,_,_,_⟩:=hW0
 have hlen:=mc hA
 obtain⟨xs,hx,hty⟩:=ob (n:=8) hΓ (by kernel_rfl) (fun j t v h1 h2=>hval j t v (by simpa using h1) (by simpa using h2)) hA
 rw[Try.params6]at hty hlen
 obtain⟨_,xs0,rfl,hx0,hty0⟩:=qV hty
 obtain⟨_,rfl,rows,⟨⟩,hl,hr⟩:=hx0
 obtain rfl:=rX hty0
 obtain⟨d0,rfl⟩:=zv hlen
 obtain⟨bs,rfl⟩:=vZ (rows:=rows) (fun r hr'=>hr r hr')
 exact vu xL rfl Try.underlying4 rfl (by kernel_rfl) rfl hx (iy bs) hW
theorem fnVisitShapes_holds:Rows.FnVisitShapesSaid:=
 OpenClaim.holds_of_wide 6 Try.f6 rfl rfl rfl rfl rfl rfl rfl ⟨rfl,rfl,rfl,rfl,rfl⟩ rfl rfl rfl rfl rfl (by kernel_rfl) Try.func6 (by kernel_rfl)
  (of_decide_eq_true (by kernel_rfl)) (by unfold Func.isWrapper;first|(rw[if_pos (by decide+kernel)];kernel_rfl)|(rw[if_neg (by decide+kernel)];exact⟨rfl,rfl⟩))
  (fun os started H enc _=>fnVisitShapes_lifted os started H enc)
end Go.Proofs.Ytjmplnfiabmalaa
