import Derived.Test.YtjmplnfiabmalaaGreatGi
namespace Go.Proofs.YtjmplnfiabmalaaGreat
open Go.Sim
set_option maxRecDepth 100000
set_option maxHeartbeats 4000000
theorem jv (b:Hz):Sim.Spec Tryz.prog 98 [.agg b.tr] (rB (aJ b)):=by
 refine aE hΓ ay Tryz.func98 rfl (by decide) rfl ?_
 have h1:=aD b.far 0 63
 have h2:=aD b.fal 0 3
 unfold aJ
 generalize af b.far 0 63=x at *
 generalize af b.fal 0 3=y at *
 cases x
 ·skip
  repeat' ((conv=>whnf);first|apply Wx|apply W6|apply oi|(apply fi<;>intro h)|refine cl h1 ?_|refine cl h2 ?_|refine⟨_,rfl,?_⟩|exact rfl)
  all_goals try exact⟨KP⟩
  all_goals try exact KX
 ·cases y
  ·skip
   repeat' ((conv=>whnf);first|apply Wx|apply W6|apply oi|(apply fi<;>intro h)|refine cl h1 ?_|refine cl h2 ?_|refine⟨_,rfl,?_⟩|exact rfl)
   all_goals try exact⟨KP⟩
   all_goals try exact KX
  ·skip
   repeat' ((conv=>whnf);first|apply Wx|apply W6|apply oi|(apply fi<;>intro h)|refine cl h1 ?_|refine cl h2 ?_|refine⟨_,rfl,?_⟩|exact rfl)
   all_goals try exact⟨KP⟩
   all_goals try exact KX
abbrev tE (a:Ex):List Tr:=[.lst 3 (a.toks.map HP.tr)]
theorem nM:∀(n:Nat) (e:Ex),e.toks.length≤n→∀(l:List HP) (p:Nat),l.length≤1048576→dH l→e.ok→fZ l p e→Sim.Spec Tryz.prog 268 [tvL 3 (l.map HP.tr),tvI p] (rL 3 (e.fold.toks.map HP.tr))
 | 0,e,hn,_,_,_,_,_,_=>by have:=e.toks_pos;omega
 | n+1,.node t es,hn,l,p,hl,hsh,ho,hs=>by
  refine aE hΓ ay Tryz.func268 rfl (by decide) rfl ?_
  have hlen:(l.map HP.tr).length=l.length:=by simp
  have hle:=fF hs
  obtain⟨ht,hsa⟩:=go hs
  have hO:=lF l p t es hl hsh ho hs
  have hpl:((fK (p+1) es).map nR).length=es.length:=by rw[List.length_map,pC]
  rw[Ex.toks,List.length_cons]at hn hle
  rw[Ex.fold]
  have hfe:=nn es
  obtain⟨e1,e2⟩:=qk ho.1
  have hel:es.length=ar t:=ho.2.1
  repeat' ((conv=>whnf);first|apply Wx|apply W6|apply oi|(apply fi<;>intro h)|refine cl hO ?_|refine⟨p,t.tr,rfl,ab ht,?_⟩|refine⟨_,rfl,?_⟩|exact rfl)
  all_goals try exact⟨KP⟩
  conv=>whnf
  refine⟨{j:Nat // j≤es.length},fun q=>⟨[(0,.r (.c (.t (.lst 3 (l.map HP.tr))))),(1,tI .i64 (p:Int)),(5,.r (.c (.ptr (5,0,0) 0))),(6,.r (.c (.own (21,0,1)))),(7,.r (.c (.own (21,0,2)))),(21,.r (.c (.own (21,0,0)))),(22,tI .i64 (((fK (p+1) es).map nR).length:Int)),(23,tI .i64 (q.1:Int))],
   [((5,0,0),some (.box (t.tr.map .t))),((21,0,1),some (.arr false 3 ((t::au (aZ (es.take q.1))).map HP.tr))),((21,0,2),some (.arr false 1 ((aZ (es.take q.1)).map tE))),((21,0,0),some (.arr true 1 ((fK (p+1) es).map nR)))],[21,5]⟩,fun q=>es.length - q.1,⟨0,by omega⟩,?_,?_⟩
  ·skip
   repeat' ((conv=>whnf);first|apply Wx|apply W6|apply oi|(apply fi<;>intro h)|refine⟨_,rfl,?_⟩|exact rfl)
   all_goals try exact⟨KP⟩
   all_goals first|exact⟨by simp[aZ,au];rfl⟩|exact⟨by simp[aZ]⟩
  intro⟨j,hj⟩
  dsimp only at hj ⊢
  by_cases hlt:j < es.length
  ·obtain⟨a,ha⟩:=ae hlt
   obtain⟨q,hq,hqs⟩:=tF hsa ha
   have hal:=iX ha
   have hR:=nM n a (by omega) l q hl hsh (kw ho.2.2 ha) hqs
   have hjl:j < ((fK (p+1) es).map nR).length:=by rw[hpl];exact hlt
   have hfa:=a.fold_le
   have hft:=cV (aZ es) j
   rw[mh]at hft
   have hfl1:((t::au (aZ (es.take j))).map HP.tr).length=1+(au (aZ (es.take j))).length:=by simp;omega
   have hfl2:(a.fold.toks.map HP.tr).length=a.fold.toks.length:=by simp
   repeat' ((conv=>whnf);first|(with_reducible apply W1;fail_if_success (with_reducible show Wo _ _ _ _ (Code.region 8 _ _) _ _))|(with_reducible first|apply W2|apply W3|apply W4|apply W5|apply W6|apply W7|apply W8|apply W9)|apply bh|apply oi|(apply fi<;>intro h)|refine cl hR ?_|refine⟨j,rfl,hjl,?_⟩|refine⟨(nR q),(ab hq),?_⟩|refine⟨_,rfl,?_⟩|exact rfl)
   all_goals try exact⟨KP⟩
   all_goals try exact KX
   conv=>whnf
   refine gx ⟨[(0,.r (.c (.t (.lst 3 (l.map HP.tr))))),(1,tI .i64 (p:Int)),(5,.r (.c (.ptr (5,0,0) 0))),(6,.r (.c (.own (21,0,1)))),(7,.r (.c (.own (21,0,2)))),(10,.r (.c (.t (.lst 3 (a.fold.toks.map HP.tr))))),(21,.r (.c (.own (21,0,0)))),(22,tI .i64 (((fK (p+1) es).map nR).length:Int)),(23,tI .i64 (j:Int))],
    [((5,0,0),some (.box (t.tr.map .t))),((21,0,1),some (.arr false 3 ((t::au (aZ (es.take j))).map HP.tr))),((21,0,2),some (.arr false 1 ((aZ (es.take j)).map tE))),((21,0,0),some (.arr true 1 ((fK (p+1) es).map nR)))],_⟩ ?_ ?_ rfl ?_
   ·refine⟨.inl rfl,.inl rfl,.inl rfl,.inl rfl,.inl rfl,.inr (.inl ⟨_,_,rfl,rfl,.inr (.inr ⟨_,rfl,rfl,?_⟩)⟩),.inl rfl,.inl rfl,.inl rfl,trivial⟩
    intro q hq;simp only[AC.ids,List.mem_cons,List.not_mem_nil,or_false]at hq;subst hq;rfl
   ·exact⟨.inr (.inl rfl),.inr (.inl rfl),.inr (.inl rfl),.inr (.inl rfl),trivial⟩
   have hfl4:((aZ (es.take j)).map tE).length=j:=by rw[List.length_map,jo,List.length_take];omega
   repeat' ((conv=>whnf);first|apply Wx|apply W6|apply oi|(apply fi<;>intro h)|refine⟨_,rfl,?_⟩|exact rfl)
   all_goals try exact⟨KP⟩
   all_goals try exact⟨⟨by rw[hfl4];simp <;> omega,by rw[hfl4];simp <;> omega⟩⟩
   all_goals try exact⟨⟨by rw[hfl1,hfl2];(try dsimp only);omega,by rw[hfl1,hfl2];(try dsimp only);omega⟩⟩
   conv=>whnf
   refine⟨⟨j+1,by omega⟩,?_,KD⟩
   repeat' ((conv=>whnf);first|apply Wx|apply W6|apply oi|(apply fi<;>intro h)|refine⟨_,rfl,?_⟩|exact rfl)
   all_goals try exact⟨KP⟩
   all_goals try exact⟨KW⟩
   all_goals first|exact⟨by rw[lC ha,eV,lz];simp⟩|exact⟨by rw[lC ha];simp⟩
  ·have hje:j=es.length:=by omega
   subst hje
   rw[List.take_length]
   have hB:=aD t.faa 2 6
   have hFl:=jo es
   have hout:((t::au (aZ es)).map HP.tr).length=1+(au (aZ es)).length:=by simp;omega
   generalize aZ es=F at *
   cases hk:af t.faa 2 6 with
   | false=>
    rw[hk]at hB
    rw[ls (.inr hk),Ex.toks]
    repeat' ((conv=>whnf);first|apply Wx|apply W6|apply oi|(apply fi<;>intro h)|refine cl hB ?_|refine⟨_,rfl,?_⟩|exact rfl)
    all_goals try exact⟨KP⟩
    all_goals try exact KX
    all_goals exact⟨⟨rfl,aG _⟩⟩
   | true=>
    rw[hk]at hB
    by_cases h2:(au F).length=2
    ·obtain⟨f1,f2,rfl⟩:=ET (hFl.trans (hel.trans (DO ho.1 hk)))
     rw[au,lz,List.length_append]at h2
     have p1:=f1.toks_pos
     have p2:=f2.toks_pos
     obtain⟨a,rfl⟩:=tn (f:=f1) (by omega)
     obtain⟨b,rfl⟩:=tn (f:=f2) (by omega)
     have e3:t::au [Ex.node a [],Ex.node b []]=[t,a,b]:=by simp[au,Ex.toks]
     have e4:(Ex.node t [Ex.node a [],Ex.node b []]).toks=[t,a,b]:=by rw[Ex.toks];exact e3
     have e6:([Ex.node a [],Ex.node b []].map tE)=[[.lst 3 [a.tr]],[.lst 3 [b.tr]]]:=by simp[Ex.toks,au]
     rw[e3,e6]
     have h1l:1 < ([t,a,b].map HP.tr).length:=by simp
     have h2l:2 < ([t,a,b].map HP.tr).length:=by simp
     have h0l:0 < [[Tr.lst 3 [a.tr]],[Tr.lst 3 [b.tr]]].length:=by simp
     have hAp:=yu t.faa a.faj b.faj
     have hB2:=aD (cT t.faa a.faj b.faj) 0 999
     rw[zb]
     by_cases hc:Db t a b
     ·rw[if_pos hc]
      obtain⟨_,c1,c2,c3⟩:=hc
      rw[c3]at hB2
      have e5:(yF (cT t.faa a.faj b.faj)).toks=[⟨0,cT t.faa a.faj b.faj,[]⟩]:=by simp[yF,Ex.toks,au]
      rw[e5]
      generalize cT t.faa a.faj b.faj=ap at *
      repeat' ((conv=>whnf);first|apply Wx|apply W6|apply oi|(apply fi<;>intro h)|refine cl hB ?_|refine⟨0,rfl,h0l,?_⟩|refine⟨[Tr.lst 3 [a.tr]],rfl,?_⟩|refine⟨1,rfl,h1l,?_⟩|refine⟨2,rfl,h2l,?_⟩|refine⟨a.tr,rfl,?_⟩|refine⟨b.tr,rfl,?_⟩|refine cl hAp ?_|refine cl hB2 ?_|refine⟨_,rfl,?_⟩|exact rfl)
      all_goals try exact⟨KP⟩
      all_goals try exact KX
      all_goals try(exfalso;simp_all;done)
     ·rw[if_neg hc,e4]
      have hc2:∀w,af (cT t.faa a.faj b.faj) 0 999=w→a.faa=0→b.faa=0→w=true→False:=fun w h1 h2 h3 h4=>hc ⟨hk,h2,h3,h1.trans h4⟩
      cases hw:af (cT t.faa a.faj b.faj) 0 999 with
      | true=>
       rw[hw]at hB2
       have hc3:=hc2 true hw
       generalize cT t.faa a.faj b.faj=ap at *
       repeat' ((conv=>whnf);first|apply Wx|apply W6|apply oi|(apply fi<;>intro h)|refine cl hB ?_|refine⟨0,rfl,h0l,?_⟩|refine⟨[Tr.lst 3 [a.tr]],rfl,?_⟩|refine⟨1,rfl,h1l,?_⟩|refine⟨2,rfl,h2l,?_⟩|refine⟨a.tr,rfl,?_⟩|refine⟨b.tr,rfl,?_⟩|refine cl hAp ?_|refine cl hB2 ?_|refine⟨_,rfl,?_⟩|exact rfl)
       all_goals try exact⟨KP⟩
       all_goals try exact KX
       all_goals try exact⟨⟨rfl,aG _⟩⟩
       all_goals try(exfalso;simp_all;done)
      | false=>
       rw[hw]at hB2
       generalize cT t.faa a.faj b.faj=ap at *
       repeat' ((conv=>whnf);first|apply Wx|apply W6|apply oi|(apply fi<;>intro h)|refine cl hB ?_|refine⟨0,rfl,h0l,?_⟩|refine⟨[Tr.lst 3 [a.tr]],rfl,?_⟩|refine⟨1,rfl,h1l,?_⟩|refine⟨2,rfl,h2l,?_⟩|refine⟨a.tr,rfl,?_⟩|refine⟨b.tr,rfl,?_⟩|refine cl hAp ?_|refine cl hB2 ?_|refine⟨_,rfl,?_⟩|exact rfl)
       all_goals try exact⟨KP⟩
       all_goals try exact KX
       all_goals try exact⟨⟨rfl,aG _⟩⟩
       all_goals try(exfalso;simp_all;done)
    ·rw[ls (.inl h2),Ex.toks]
     repeat' ((conv=>whnf);first|apply Wx|apply W6|apply oi|(apply fi<;>intro h)|refine cl hB ?_|refine⟨_,rfl,?_⟩|exact rfl)
     all_goals try exact⟨KP⟩
     all_goals try exact KX
     all_goals try exact⟨⟨rfl,aG _⟩⟩
     all_goals try(exfalso;rw[hout]at *;simp at *;omega)
theorem sV (l:List HP)(hl:l.length≤1048576)(hn:dH l):Sim.Spec Tryz.prog 255 [tvL 3 (l.map HP.tr)] (rL 3 ((kF l).map HP.tr)):=by
 refine aE hΓ ay Tryz.func255 rfl (by decide) rfl ?_
 have hE:=nU l hl hn
 cases h:br l with
 | false=>
  rw[h]at hE
  rw[oV h]
  repeat' ((conv=>whnf);first|apply Wx|apply W6|apply oi|(apply fi<;>intro h)|refine cl hE ?_|refine⟨_,rfl,?_⟩|exact rfl)
  all_goals try exact⟨KP⟩
  all_goals try exact KX
 | true=>
  rw[h]at hE
  obtain⟨e,h1,h2,h3⟩:=oX h
  have hF:=nM e.toks.length e (Nat.le_refl _) l 0 hl hn h1 ⟨[],by rw[List.drop_zero,List.append_nil];exact h2⟩
  rw[h3]
  generalize e.fold.toks=r at *
  repeat' ((conv=>whnf);first|apply Wx|apply W6|apply oi|(apply fi<;>intro h)|refine cl hE ?_|refine cl hF ?_|refine⟨_,rfl,?_⟩|exact rfl)
  all_goals try exact⟨KP⟩
  all_goals try exact KX
theorem sR (x:HH)(hs:aK 1048576 x.tr):Sim.Spec Tryz.prog 254 [.agg x.tr] (.r (.agg (x.tr.map CZ))):=by
 refine aE hΓ ay Tryz.func254 rfl (by decide) rfl ?_
 obtain⟨h1,h2,h3,h4,h5⟩:=cG hs
 repeat' ((conv=>whnf);first|apply Wx|apply W6|apply oi|(apply fi<;>intro h)|refine⟨_,rfl,?_⟩|exact rfl)
 all_goals try exact⟨KP⟩
 all_goals try exact⟨⟨by simp <;> omega,by simp <;> omega⟩⟩
 all_goals try exact⟨⟨rfl,eN _⟩⟩
 all_goals try exact⟨⟨rfl,aG _⟩⟩
theorem oB (l:List HH)(hs:aB 1048576 (.lst 4 (l.map HH.tr))):Sim.Spec Tryz.prog 235 [tvP l] (rL 4 ((dn l).map HH.tr)):=by
 refine aE hΓ ay Tryz.func235 rfl (by decide) rfl ?_
 have hl:=cv hs
 have hP:=eJ l hs
 have hlen:(l.map HH.tr).length=l.length:=by simp
 cases hpo:aw l with
 | false=>
  rw[hpo]at hP
  have:dn l=[]:=by rw[dn,if_neg (by simp[hpo])]
  rw[this]
  repeat' ((conv=>whnf);first|apply Wx|apply W6|apply oi|(apply fi<;>intro h)|refine cl hP ?_|refine⟨_,rfl,?_⟩|exact rfl)
  all_goals try exact⟨KP⟩
  all_goals try exact KX
 | true=>
  rw[hpo]at hP
  have:dn l=l.map aP:=by rw[dn,if_pos hpo]
  rw[this]
  repeat' ((conv=>whnf);first|apply Wx|apply W6|apply oi|(apply fi<;>intro h)|refine cl hP ?_|refine⟨_,rfl,?_⟩|exact rfl)
  all_goals try exact⟨KP⟩
  all_goals try exact KX
  conv=>whnf
  refine⟨{k:Nat // k≤l.length},fun q=>⟨[(0,vP l),(3,.r (.c (.own (10,0,0)))),(11,vP l),(12,tI .i64 ((l.map HH.tr).length:Int)),(13,tI .i64 (q.1:Int))],[((10,0,0),some (.dar 4 (ax (((l.take q.1).map aP).map HH.tr)) none))],[10]⟩,fun q=>l.length - q.1,⟨0,by omega⟩,?_,?_⟩
  ·skip
   repeat' ((conv=>whnf);first|apply Wx|apply W6|apply oi|(apply fi<;>intro h)|refine⟨_,rfl,?_⟩|exact rfl)
   all_goals try exact⟨KP⟩
  intro⟨k,hk⟩
  dsimp only at hk ⊢
  have hdl:(ax (((l.take k).map aP).map HH.tr)).length=k:=by rw[cJ,List.length_map,List.length_map,List.length_take];omega
  by_cases hlt:k < l.length
  ·obtain⟨x,hx⟩:=ae hlt
   have hsx:=aT hs (List.mem_of_getElem? hx)
   obtain⟨h1,h2,h3,h4,h5⟩:=cG hsx
   have hF:=sV x.fad h4 (fun y hy=>by have:=h5 y hy;omega)
   have hC:=sR x hsx
   have hel3:(x.fad.map HP.tr).length=x.fad.length:=by simp
   have htk:=uc aP l k x hx
   by_cases hpos:0 < x.fad.length
   ·have hfl:aP x=⟨x.faa,x.fac,x.fag,kF x.fad⟩:=by rw[aP,if_pos hpos]
    repeat' ((conv=>whnf);first|apply Wx|apply W6|apply oi|(apply fi<;>intro h)|refine⟨k,x.tr,rfl,ab hx,?_⟩|refine cl hC ?_|refine cl hF ?_|refine⟨_,rfl,?_⟩|exact rfl)
    all_goals try exact⟨KP⟩
    all_goals try exact KX
    all_goals try exact⟨aG _⟩
    all_goals try exact⟨eN _⟩
    all_goals try exact⟨⟨by rw[hdl];(try dsimp only);simp <;> omega,by rw[hdl];(try dsimp only);simp <;> omega⟩⟩
    all_goals try(exfalso;have h':=of_decide_eq_false h;rw[hel3]at h';omega)
    conv=>whnf
    refine⟨⟨k+1,by omega⟩,?_,KD⟩
    repeat' ((conv=>whnf);first|apply Wx|apply W6|apply oi|(apply fi<;>intro h)|refine⟨_,rfl,?_⟩|exact rfl)
    all_goals try exact⟨KP⟩
    all_goals try exact⟨KW⟩
    all_goals(refine⟨?_⟩;dsimp only;rw[htk,hfl];simp[ax,HH.tr])
   ·have hfl:aP x=x:=by rw[aP,if_neg hpos]
    repeat' ((conv=>whnf);first|apply Wx|apply W6|apply oi|(apply fi<;>intro h)|refine⟨k,x.tr,rfl,ab hx,?_⟩|refine cl hC ?_|refine⟨_,rfl,?_⟩|exact rfl)
    all_goals try exact⟨KP⟩
    all_goals try exact KX
    all_goals try exact⟨aG _⟩
    all_goals try exact⟨eN _⟩
    all_goals try exact⟨⟨by rw[hdl];(try dsimp only);simp <;> omega,by rw[hdl];(try dsimp only);simp <;> omega⟩⟩
    all_goals try(exfalso;have h':=of_decide_eq_true h;rw[hel3]at h';omega)
    conv=>whnf
    refine⟨⟨k+1,by omega⟩,?_,KD⟩
    repeat' ((conv=>whnf);first|apply Wx|apply W6|apply oi|(apply fi<;>intro h)|refine⟨_,rfl,?_⟩|exact rfl)
    all_goals try exact⟨KP⟩
    all_goals try exact⟨KW⟩
    all_goals(refine⟨?_⟩;dsimp only;rw[htk,hfl];simp[ax,HH.tr])
  ·have hke:k=l.length:=by omega
   subst hke
   rw[List.take_length]
   repeat' ((conv=>whnf);first|apply Wx|apply W6|apply oi|(apply fi<;>intro h)|refine⟨_,rfl,?_⟩|exact rfl)
   all_goals try exact⟨KP⟩
   all_goals try exact KX
def yH (x:HG):HG:=⟨x.fae,x.fam,false,x.fap,x.faq,x.fat⟩
def jC (pend:List Nat)(i:Nat)(x:HG):HG:=if pend.contains i=true then yH x else x
def pk (pend:List Nat):Nat→List HG→List HG
 | _,[]=>[]
 | i,x::l=>jC pend i x::pk pend (i+1) l
def clr (pend:List Nat)(l:List HG):List HG:=pk pend 0 l
theorem Ai (pend:List Nat):∀(l:List HG) (i:Nat),(pk pend i l).length=l.length
 | [],_=>rfl
 | x::l,i=>by rw[pk,List.length_cons,List.length_cons,Ai pend l]
theorem nq (pend:List Nat)(l:List HG):(clr pend l).length=l.length:=Ai pend l 0
theorem zl (pend:List Nat):∀(l:List HG) (i j:Nat),(pk pend i l)[j]?=(l[j]?).map (jC pend (i+j))
 | [],i,j=>by simp[pk]
 | x::l,i,0=>by simp[pk]
 | x::l,i,j+1=>by
  rw[pk,List.getElem?_cons_succ,zl pend l,List.getElem?_cons_succ,show i+1+j=i+(j+1) by omega]
theorem fo (pend:List Nat)(l:List HG)(j:Nat):(clr pend l)[j]?=(l[j]?).map (jC pend j):=by
 rw[clr,zl,Nat.zero_add]
theorem rF (pend:List Nat):∀(a b:List HG) (i:Nat),pk pend i (a++b)=pk pend i a++pk pend (i+a.length) b
 | [],b,i=>by simp[pk]
 | x::a,b,i=>by
  rw[List.cons_append,pk,pk,rF pend a b,List.cons_append,List.length_cons,show i+1+a.length=i+(a.length+1) by omega]
theorem DI (pend:List Nat)(l:List HG)(x:HG):clr pend (l++[x])=clr pend l++[jC pend l.length x]:=by
 rw[clr,rF,Nat.zero_add]
 rfl
theorem Em {x:HG}(h:x.fah=false):yH x=x:=by
 obtain⟨a,b,c,d,e,f⟩:=x
 simp only at h
 subst h
 rfl
theorem Gc (pend:List Nat)(l:List HG)(j:Nat)(x:HG):clr pend (l.set j x)=(clr pend l).set j (jC pend j x):=by
 apply List.ext_getElem?
 intro i
 rw[fo,List.getElem?_set,List.getElem?_set,nq,fo]
 by_cases h:j=i
 ·subst h
  rw[if_pos rfl,if_pos rfl]
  split <;> rfl
 ·rw[if_neg h,if_neg h]
theorem nW (pend:List Nat)(l:List HG)(j v:Int):clr pend (bN l j v)=bN (clr pend l) j v:=by
 unfold bN
 split
 ·rw[fo]
  cases hx:l[j.toNat]? with
  | none=>rfl
  | some x=>
   dsimp only[Option.map_some]
   rw[Gc]
   congr 1
   unfold jC
   split <;> rfl
 ·rfl
theorem yo (l:List HG):clr [] l=l:=by
 apply List.ext_getElem?
 intro i
 rw[fo]
 cases l[i]? <;> rfl
def Beg (b:Nat)(s:Gs):Prop:=b≤s.items.length∧(s.start=true↔s.items.length=b)
theorem Beg.emit {b:Nat}{s:Gs}(h:Beg b s)(C:Cx)(d code arg line:Int)(chain:List Int):Beg b (az C s d code arg line chain):=by
 obtain⟨h1,h2⟩:=h
 refine⟨by simp only[az,List.length_append,List.length_cons,List.length_nil];omega,?_⟩
 simp only[az,List.length_append,List.length_cons,List.length_nil]
 exact⟨fun h=>(by cases h),fun h=>by omega⟩
theorem Beg.off {b:Nat}{s s':Gs}(h:Beg b s)(h1:s.items.length < s'.items.length)(h2:s'.start=false):Beg b s':=by
 have:=h.1
 exact⟨by omega,by rw[h2];exact⟨fun h=>(by cases h),fun h=>by omega⟩⟩
theorem lY {b:Nat}{C:Cx}(y:Sc)(chain:List Int)(line:Int):∀(n:Nat) (d:Int) (s:Gs),Beg b s→Beg b (cF C y chain line n d s)
 | 0,d,s,h=>h
 | n+1,d,s,h=>by rw[cF];exact lY y chain line n (d - 1) _ (h.emit ..)
theorem oH {b:Nat}{C:Cx}(y:Sc)(chain:List Int)(line d:Int):∀(n i:Nat) (s:Gs),Beg b s→Beg b (db C y chain line d n i s)
 | 0,i,s,h=>h
 | n+1,i,s,h=>by rw[db];exact oH y chain line d n (i+1) _ ((h.emit ..).emit ..)
theorem ug {C:Cx}{x:Sc}{k:Nat}{last:Bool}{d:Int}{L:Ls}(h:L.g.start=false∨(x.outer=true∨last=false)):(aR C x k last d L).g.start=false:=by
 unfold aR
 split
 ·split <;> rfl
 ·split
  ·rename_i h1 h2
   rcases h with h|h|h
   ·exact h
   ·exact absurd h h1
   ·rw[h2]at h;cases h
  ·rfl
theorem wJ {C:Cx}{rep:Sc→List Nat→Nat→Nat→Int→Gs→Gs}{x:Sc}{ins:List Nat}{base:Int}{k:Nat}{ln:HH}{L:Ls}(h:L.g.start=false):(dI C rep x ins base k ln L).g.start=false:=by
 unfold dI
 split
 ·rfl
 ·split
  ·split
   ·exact ug (.inl rfl)
   ·split
    ·rfl
    ·exact h
  ·dsimp only
   split
   ·rfl
   ·split
    ·rfl
    ·split
     ·exact ug (.inr (.inr rfl))
     ·rfl
theorem DD {C:Cx}{x:Sc}{k:Nat}{ln:HH}{L:Ls}(h:L.g.start=false):(aW C x k ln L).g.start=false:=by
 unfold aW
 split <;> exact h
theorem zS {C:Cx}{rep:Sc→List Nat→Nat→Nat→Int→Gs→Gs}{x:Sc}{ins:List Nat}{base:Int}:∀(n k:Nat) (L:Ls),L.g.start=false→(jX C rep x ins base n k L).g.start=false
 | 0,k,L,h=>h
 | n+1,k,L,h=>by
  rw[jX]
  split
  ·exact zS n (k+1) _ (DD (wJ h))
  ·exact h
theorem vw {C:Cx}{rep:Sc→List Nat→Nat→Nat→Int→Gs→Gs}{x:Sc}{ins:List Nat}{base:Int}{s:Gs}(h:s.start=false):(aU C rep x ins base s).1.start=false:=zS _ _ _ h
theorem om {b:Nat}{C:Cx}{x:Sc}{line:Nat}{d:Int}{s:Gs}(h:Beg b s):Beg b (bQ C x line d s)∧(bQ C x line d s).start=false:=by
 unfold bQ
 split
 ·exact⟨h.emit ..,rfl⟩
 ·rename_i hn;exact⟨h,by simpa using hn⟩
theorem yQ {C:Cx}(hC:CxOk C):∀(lev:Nat) {x:Sc} {ins:List Nat} {b:Nat} (line g:Nat) (d:Int) (s:Gs),ScOk C x ins→bG C g→cb C ins g s.items.length=true→Beg b s→Beg b (aX C lev x ins line g d s)
 | 0,x,ins,b,line,g,d,s,hx,hg,hr,h=>h
 | lev+1,x,ins,b,line,g,d,s,hx,hg,hr,h=>by
  have hy:=lj hC hx line hg
  have h1:Beg b (ec C x line g d s):=by
   unfold ec
   exact oH _ _ _ _ _ _ _ (lY _ _ _ _ _ _ ⟨h.1,h.2⟩)
  obtain⟨h2,h3⟩:=om (C:=C) (x:=x) (line:=line) (d:=d - argsN C.p g) h1
  have hG:=gZ (lev:=lev) (rep:=aX C lev) (fun line g d s hg hr=>cR hC lev line g d s hy hg hr) hC hy (d - argsN C.p g) (bQ C x line (d - argsN C.p g) (ec C x line g d s))
  have hoff:=vw (C:=C) (rep:=aX C lev) (x:=bI C x line g) (ins:=ins++[g]) (base:=d - argsN C.p g) h3
  show Beg b (ia C (aU C (aX C lev)) x ins line g d s)
  unfold ia
  have hb:=h2.2
  rw[h3]at hb
  have hne:(bQ C x line (d - argsN C.p g) (ec C x line g d s)).items.length≠b:=fun e=>by have:=hb.2 e;cases this
  have hle:=h2.1
  have hge:=hG.ge
  refine⟨by dsimp only;rw[fy];omega,?_⟩
  dsimp only
  rw[fy,hoff]
  exact⟨fun h=>(by cases h),fun h=>by omega⟩
section
variable {C:Cx} {x:Sc} {ins:List Nat} {rep:Sc→List Nat→Nat→Nat→Int→Gs→Gs} {line b:Nat}
theorem EP (hrep:∀g d s,bG C g→cb C ins g s.items.length=true→Beg b s→Beg b (rep x ins line g d s))(t:HP)(d:Int){s:Gs}(h:Beg b s):Beg b (jy C rep x ins line t d s):=by
 unfold jy
 split
 ·exact h.emit ..
 ·split
  ·exact h.emit ..
  ·split
   ·split
    ·rename_i g hg
     split
     ·rename_i hr
      obtain⟨_,ln,h1,h2,_⟩:=fD hg
      exact hrep g d s ⟨ln,h1,h2⟩ hr h
     ·exact h.emit ..
    ·exact h
   ·exact h.emit ..
mutual
theorem DP (hrep:∀g d s,bG C g→cb C ins g s.items.length=true→Beg b s→Beg b (rep x ins line g d s)):∀(e:Ex) (d:Int) {s:Gs},Beg b s→Beg b (eb C rep x ins line e d s)
 | .node t es,d,s,h=>by
  rw[eb]
  exact EP hrep t _ (mV hrep es d h)
theorem mV (hrep:∀g d s,bG C g→cb C ins g s.items.length=true→Beg b s→Beg b (rep x ins line g d s)):∀(es:List Ex) (d:Int) {s:Gs},Beg b s→Beg b (dt C rep x ins line es d s)
 | [],d,s,h=>h
 | a::es,d,s,h=>by
  rw[dt]
  exact mV hrep es (d+1) (DP hrep a d h)
end
end
def Keep (s s':Gs):Prop:=∀(j:Nat) (it:HG),s.items[j]?=some it→∃it',s'.items[j]?=some it'∧it'.fah=it.fah
theorem Keep.refl (s:Gs):Keep s s:=fun _ it h=>⟨it,h,rfl⟩
theorem Keep.trans {a b c:Gs}(h:Keep a b)(h':Keep b c):Keep a c:=fun j it hj=>by
 obtain⟨it1,h1,e1⟩:=h j it hj
 obtain⟨it2,h2,e2⟩:=h' j it1 h1
 exact⟨it2,h2,e2.trans e1⟩
theorem Keep.emit (C:Cx)(s:Gs)(d code arg line:Int)(chain:List Int):Keep s (az C s d code arg line chain):=fun j it hj=>by
 refine⟨it,?_,rfl⟩
 show(s.items++_)[j]?=_
 rw[List.getElem?_append_left (aM hj)]
 exact hj
theorem mn {l:List HG}{j v:Int}{i:Nat}{it:HG}(h:l[i]?=some it):∃it',(bN l j v)[i]?=some it'∧it'.fah=it.fah:=by
 unfold bN
 split
 ·split
  ·rename_i x hx
   by_cases hij:j.toNat=i
   ·subst hij
    rw[hx]at h
    injection h with h
    subst h
    exact⟨_,List.getElem?_set_self (aM hx),rfl⟩
   ·exact⟨it,by rw[List.getElem?_set_ne hij];exact h,rfl⟩
  ·exact⟨it,h,rfl⟩
 ·exact⟨it,h,rfl⟩
theorem mt {v:Int}:∀{js:List Int} {l:List HG} {i:Nat} {it:HG},l[i]?=some it→∃it',(cz l v js)[i]?=some it'∧it'.fah=it.fah
 | [],l,i,it,h=>⟨it,h,rfl⟩
 | j::js,l,i,it,h=>by
  obtain⟨it1,h1,e1⟩:=mn (j:=j) (v:=v) h
  obtain⟨it2,h2,e2⟩:=mt (v:=v) (js:=js) h1
  exact⟨it2,by rw[cz];exact h2,e2.trans e1⟩
theorem pR {C:Cx}(y:Sc)(chain:List Int)(line:Int):∀(n:Nat) (d:Int) (s:Gs),Keep s (cF C y chain line n d s)
 | 0,d,s=>Keep.refl s
 | n+1,d,s=>by rw[cF];exact(Keep.emit C s d _ _ _ _).trans (pR y chain line n (d - 1) _)
theorem rq {C:Cx}(y:Sc)(chain:List Int)(line d:Int):∀(n i:Nat) (s:Gs),Keep s (db C y chain line d n i s)
 | 0,i,s=>Keep.refl s
 | n+1,i,s=>by rw[db];exact((Keep.emit C s d _ _ _ _).trans (Keep.emit C _ (d+1) _ _ _ _)).trans (rq y chain line d n (i+1) _)
theorem ry {C:Cx}{x:Sc}(k:Nat)(last:Bool)(d:Int)(L:Ls):Keep L.g (aR C x k last d L).g:=by
 unfold aR
 split
 ·split
  ·exact Keep.emit _ _ _ _ _ _ _
  ·exact Keep.emit _ _ _ _ _ _ _
 ·split
  ·exact Keep.refl _
  ·exact Keep.emit _ _ _ _ _ _ _
section
variable {C:Cx} {rep:Sc→List Nat→Nat→Nat→Int→Gs→Gs}
theorem Du (hrep:∀x ins line g d s,Keep s (rep x ins line g d s))(x:Sc)(ins:List Nat)(line:Nat)(t:HP)(d:Int)(s:Gs):Keep s (jy C rep x ins line t d s):=by
 unfold jy
 repeat' split
 all_goals first|exact Keep.emit _ _ _ _ _ _ _|exact hrep _ _ _ _ _ _|exact Keep.refl _
mutual
theorem wO (hrep:∀x ins line g d s,Keep s (rep x ins line g d s))(x:Sc)(ins:List Nat)(line:Nat):∀(e:Ex) (d:Int) (s:Gs),Keep s (eb C rep x ins line e d s)
 | .node t es,d,s=>by rw[eb];exact(uV hrep x ins line es d s).trans (Du hrep x ins line t _ _)
theorem uV (hrep:∀x ins line g d s,Keep s (rep x ins line g d s))(x:Sc)(ins:List Nat)(line:Nat):∀(es:List Ex) (d:Int) (s:Gs),Keep s (dt C rep x ins line es d s)
 | [],d,s=>Keep.refl s
 | a::es,d,s=>by rw[dt];exact(wO hrep x ins line a d s).trans (uV hrep x ins line es (d+1) _)
end
theorem AW (hrep:∀x ins line g d s,Keep s (rep x ins line g d s))(x:Sc)(ins:List Nat)(base:Int)(k:Nat)(ln:HH)(L:Ls):Keep L.g (dI C rep x ins base k ln L).g:=by
 unfold dI
 split
 ·intro j it hj
  obtain⟨it1,h1,e1⟩:=Keep.emit C L.g base 10 0 k x.chain j it hj
  obtain⟨it2,h2,e2⟩:=mn (j:=atL L.pos (aI C.p k)) (v:=((az C L.g base 10 0 k x.chain).items.length:Int)) h1
  exact⟨it2,h2,e2.trans e1⟩
 ·split
  ·split
   ·exact(Keep.emit C L.g base 0 0 k x.chain).trans (ry k true (base+1) {L with g:=az C L.g base 0 0 k x.chain})
   ·split
    ·exact Keep.emit _ _ _ _ _ _ _
    ·exact Keep.refl _
  ·have h20:Keep L.g (eb C rep x ins k (exL ln.fad) base ⟨L.g.items,L.g.most,true⟩):=fun j it hj=>wO hrep x ins k (exL ln.fad) base ⟨L.g.items,L.g.most,true⟩ j it hj
   dsimp only
   split
   ·exact h20.trans (Keep.emit _ _ _ _ _ _ _)
   ·split
    ·exact h20.trans (Keep.emit _ _ _ _ _ _ _)
    ·split
     ·exact h20.trans (ry k false (base+1) {L with g:=eb C rep x ins k (exL ln.fad) base ⟨L.g.items,L.g.most,true⟩,heads:=L.heads.set k L.g.items.length})
     ·exact h20.trans (Keep.emit _ _ _ _ _ _ _)
theorem BB (x:Sc)(k:Nat)(ln:HH)(L:Ls):Keep L.g (aW C x k ln L).g:=by
 unfold aW
 split
 ·exact fun j it hj=>mn hj
 ·exact Keep.refl _
theorem qx (hrep:∀x ins line g d s,Keep s (rep x ins line g d s))(x:Sc)(ins:List Nat)(base:Int):∀(n k:Nat) (L:Ls),Keep L.g (jX C rep x ins base n k L).g
 | 0,k,L=>Keep.refl _
 | n+1,k,L=>by
  rw[jX]
  split
  ·rename_i ln _
   exact((AW hrep x ins base k ln L).trans (BB x k ln _)).trans (qx hrep x ins base n (k+1) _)
  ·exact Keep.refl _
end
theorem wA {C:Cx}:∀(lev:Nat) (x:Sc) (ins:List Nat) (line g:Nat) (d:Int) (s:Gs),Keep s (aX C lev x ins line g d s)
 | 0,x,ins,line,g,d,s=>Keep.refl s
 | lev+1,x,ins,line,g,d,s=>by
  show Keep s (ia C (aU C (aX C lev)) x ins line g d s)
  unfold ia
  have h1:Keep s (ec C x line g d s):=by
   unfold ec
   exact fun j it hj=>((pR _ _ _ _ _ _).trans (rq _ _ _ _ _ _ _)) j it hj
  have h2:Keep (ec C x line g d s) (bQ C x line (d - argsN C.p g) (ec C x line g d s)):=by
   unfold bQ
   split
   ·exact Keep.emit _ _ _ _ _ _ _
   ·exact Keep.refl _
  have h3:Keep (bQ C x line (d - argsN C.p g) (ec C x line g d s)) (aU C (aX C lev) (bI C x line g) (ins++[g]) (d - argsN C.p g) (bQ C x line (d - argsN C.p g) (ec C x line g d s))).1:=qx (fun x ins line g d s=>wA lev x ins line g d s) _ _ _ _ _ (cq C _)
  intro j it hj
  obtain⟨it1,k1,e1⟩:=((h1.trans h2).trans h3) j it hj
  obtain⟨it2,k2,e2⟩:=mt (v:=((aU C (aX C lev) (bI C x line g) (ins++[g]) (d - argsN C.p g) (bQ C x line (d - argsN C.p g) (ec C x line g d s))).1.items.length:Int)) (js:=(aU C (aX C lev) (bI C x line g) (ins++[g]) (d - argsN C.p g) (bQ C x line (d - argsN C.p g) (ec C x line g d s))).2) k1
  exact⟨it2,k2,e2.trans e1⟩
def Mark (b:Nat)(s:Gs):Prop:=(s.start=true∧s.items.length=b)∨∃it,s.items[b]?=some it∧it.fah=true
theorem Mark.keep {b:Nat}{s s':Gs}(h:∃it,s.items[b]?=some it∧it.fah=true)(hk:Keep s s'):∃it,s'.items[b]?=some it∧it.fah=true:=by
 obtain⟨it,h1,h2⟩:=h
 obtain⟨it',h3,h4⟩:=hk b it h1
 exact⟨it',h3,h4.trans h2⟩
theorem Mark.emit {b:Nat}{s:Gs}(h:Mark b s)(C:Cx)(d code arg line:Int)(chain:List Int):Mark b (az C s d code arg line chain):=by
 rcases h with⟨h1,h2⟩|h
 ·refine .inr ⟨kP C s d code arg line chain,?_,h1⟩
  show(s.items++[_])[b]?=_
  rw[←h2]
  simp
 ·exact .inr (Mark.keep h (Keep.emit _ _ _ _ _ _ _))
theorem pQ {b:Nat}{C:Cx}(y:Sc)(chain:List Int)(line:Int):∀(n:Nat) (d:Int) (s:Gs),Mark b s→Mark b (cF C y chain line n d s)
 | 0,d,s,h=>h
 | n+1,d,s,h=>by rw[cF];exact pQ y chain line n (d - 1) _ (h.emit ..)
theorem rY {b:Nat}{C:Cx}(y:Sc)(chain:List Int)(line d:Int):∀(n i:Nat) (s:Gs),Mark b s→Mark b (db C y chain line d n i s)
 | 0,i,s,h=>h
 | n+1,i,s,h=>by rw[db];exact rY y chain line d n (i+1) _ ((h.emit ..).emit ..)
theorem CT {C:Cx}:∀(lev:Nat) {b:Nat} (x:Sc) (ins:List Nat) (line g:Nat) (d:Int) (s:Gs),Mark b s→Mark b (aX C lev x ins line g d s)
 | 0,b,x,ins,line,g,d,s,h=>h
 | lev+1,b,x,ins,line,g,d,s,h=>by
  show Mark b (ia C (aU C (aX C lev)) x ins line g d s)
  unfold ia
  have h1:Mark b (ec C x line g d s):=by
   unfold ec
   exact rY _ _ _ _ _ _ _ (pQ _ _ _ _ _ _ h)
  have h2:∃it,(bQ C x line (d - argsN C.p g) (ec C x line g d s)).items[b]?=some it∧it.fah=true:=by
   unfold bQ
   split
   ·rcases Mark.emit h1 C (d - argsN C.p g) 15 0 line x.chain with⟨k,_⟩|k
    ·cases k
    ·exact k
   ·rename_i hn
    rcases h1 with⟨k,_⟩|k
    ·exact absurd k hn
    ·exact k
  have h3:=Mark.keep h2 (qx (C:=C) (rep:=aX C lev) (fun x ins line g d s=>wA lev x ins line g d s) (bI C x line g) (ins++[g]) (d - argsN C.p g) (ko C.p g - g) (g+1) (cq C _))
  obtain⟨it,k1,k2⟩:=h3
  obtain⟨it2,k3,e2⟩:=mt (v:=((aU C (aX C lev) (bI C x line g) (ins++[g]) (d - argsN C.p g) (bQ C x line (d - argsN C.p g) (ec C x line g d s))).1.items.length:Int)) (js:=(aU C (aX C lev) (bI C x line g) (ins++[g]) (d - argsN C.p g) (bQ C x line (d - argsN C.p g) (ec C x line g d s))).2) k1
  exact .inr ⟨it2,k3,e2.trans k2⟩
section
variable {C:Cx} {rep:Sc→List Nat→Nat→Nat→Int→Gs→Gs} {b:Nat}
theorem CN (hrep:∀x ins line g d s,Mark b s→Mark b (rep x ins line g d s))(x:Sc)(ins:List Nat)(line:Nat)(t:HP)(d:Int)(s:Gs)(h:Mark b s):Mark b (jy C rep x ins line t d s):=by
 unfold jy
 repeat' split
 all_goals first|exact Mark.emit h ..|exact hrep _ _ _ _ _ _ h|exact h
mutual
theorem wL (hrep:∀x ins line g d s,Mark b s→Mark b (rep x ins line g d s))(x:Sc)(ins:List Nat)(line:Nat):∀(e:Ex) (d:Int) (s:Gs),Mark b s→Mark b (eb C rep x ins line e d s)
 | .node t es,d,s,h=>by rw[eb];exact CN hrep x ins line t _ _ (uI hrep x ins line es d s h)
theorem uI (hrep:∀x ins line g d s,Mark b s→Mark b (rep x ins line g d s))(x:Sc)(ins:List Nat)(line:Nat):∀(es:List Ex) (d:Int) (s:Gs),Mark b s→Mark b (dt C rep x ins line es d s)
 | [],d,s,h=>h
 | a::es,d,s,h=>by rw[dt];exact uI hrep x ins line es (d+1) _ (wL hrep x ins line a d s h)
end
end
theorem Ev {C:Cx}{lev:Nat}{x:Sc}{ins:List Nat}{line g:Nat}{d:Int}{s:Gs}{b:Nat}(h:Beg b s):(aX C (lev+1) x ins line g d s).start=false:=by
 show(ia C (aU C (aX C lev)) x ins line g d s).start=false
 unfold ia
 have h1:Beg b (ec C x line g d s):=by
  unfold ec
  exact oH _ _ _ _ _ _ _ (lY _ _ _ _ _ _ ⟨h.1,h.2⟩)
 exact vw (om (C:=C) (x:=x) (line:=line) (d:=d - argsN C.p g) h1).2
end Go.Proofs.YtjmplnfiabmalaaGreat
namespace Go.Proofs.YtjmplnfiabmalaaGreat
open Go.Sim
set_option maxRecDepth 100000
set_option maxHeartbeats 4000000
structure Ib where
 f:Int
 e:Int
 locals:List (List UInt8)
 args:Int
 first:Int
 chain:List Int
 base:Int
abbrev ibB (q:Ib)(j:Sim.Id):AO:= .box [.t (.int .i64 q.f),.t (.int .i64 q.e),.t (.lst 1 (q.locals.map ah)),.t (.int .i64 q.args),.t (.int .i64 q.first),.t (.lst 1 (q.chain.map aa)),.t (.int .i64 q.base),.own j]
abbrev uG (C:Cx)(s:Gs)(d:Int)(i1 i2:Sim.Id):AO:= .box [.t (.lst 4 (C.p.map HH.tr)),.t (.int .i64 C.b.far),.t (.int .i64 C.b.fal),.t (.bool C.b.faw),.t (.bool C.b.fas),.t (.bool C.framed),.t (.int .i64 C.words),.t (.int .i64 s.most),.own i1,.t (.int .i64 d),.own i2]
abbrev kY (ins:List Nat):List (List Tr):=ins.map fun n:Nat=>aa (n:Int)
abbrev iH (i1 i2 j:Sim.Id)(C:Cx)(pd:List Nat)(s:Gs)(d:Int)(ins:List Nat)(q:Ib)(lv:List Int):List (Sim.Id×AO):=
 [((0,0,0),uG C s d i1 i2),(i1,.dar 7 (itR (clr pd s.items)) none),(i2,.arr false 1 (kY ins)),((0,1,0),ibB q j),(j,.arr false 1 (lv.map aa))]
abbrev ibP:AV:= .r (.c (.ptr (0,1,0) 0))
structure IbOk (C:Cx) (x:Sc) (q:Ib):Prop where
 chain:q.chain=x.chain
 first:q.first=x.first
 locals:q.locals=x.locals
 args:x.outer=true→q.args=C.args
 out:x.outer=true↔x.chain=[]
 zero:x.outer=true→x.first=0
theorem DW {C:Cx}{pd:List Nat}{s:Gs}{d code arg line:Int}{chain:List Int}(h:s.start=true→s.items.length∈pd):clr pd (az C s d code arg line chain).items=clr pd s.items++[yH (kP C s d code arg line chain)]:=by
 show clr pd (s.items++[_])=_
 rw[DI]
 congr 2
 unfold jC
 cases hs:s.start with
 | true=>rw[if_pos (List.contains_iff_mem.2 (h hs))]
 | false=>
  split
  ·rfl
  ·exact(Em (by show s.start=false;exact hs)).symm
theorem bD (pd:List Nat)(l:List HG):(itR (clr pd l)).length=l.length:=by rw[iB,nq]
theorem bJ (C:Cx)(pd:List Nat)(s:Gs)(d:Int)(ins:List Nat)(q:Ib)(lv:List Int)(line code arg change:Int)(h1:bu s)(h2:q.chain.length≤100)(h3:s.start=true→s.items.length∈pd)(h4:-2000≤d∧d≤2000)(h5:-100≤change∧change≤1000):
  aV Tryz.prog 256 [cS,ibP,tI .i64 line,tI .i64 code,tI .i64 arg,tI .i64 change] (iH (0,0,1) (0,0,2) (0,1,1) C pd s d ins q lv) (.tup []) (iH (1,0,1) (0,0,2) (0,1,1) C pd (az C s d code arg line q.chain) (d+change) ins q lv):=by
 refine aj hΓ ay Tryz.func256 rfl (by decide) rfl rfl ?_
 unfold bu at h1
 have hlen:=bD pd s.items
 have hcl:(q.chain.map aa).length=q.chain.length:=by simp
 have hfl:=fE q.chain
 have hem:=DW (C:=C) (pd:=pd) (s:=s) (d:=d) (code:=code) (arg:=arg) (line:=line) (chain:=q.chain) h3
 repeat' ((conv=>whnf);first|apply Wx|apply W6|apply oi|(apply fi<;>intro h)|refine⟨_,rfl,?_⟩|exact rfl)
 all_goals try exact⟨KP⟩
 all_goals try exact⟨⟨by rw[hlen];(try dsimp only);omega,by rw[hlen];(try dsimp only);omega⟩⟩
 all_goals try exact⟨⟨by simp <;> omega,by simp <;> omega⟩⟩
 all_goals try exact⟨by simpa using hfl⟩
 all_goals try exact⟨KW⟩
 all_goals(refine⟨?_⟩;rw[hem,Ad];(try rw[hlen]at *);congr 1;simp_all[kP,HG.tr,yH])
theorem rn (C:Cx)(pd:List Nat)(s:Gs)(d:Int)(ins:List Nat)(q:Ib)(lv:List Int)(y:Sc)(line i:Int)(hy:y.outer=false)(hf:q.first=y.first)(h1:bu s)(h2:q.chain.length≤100)(h3:s.start=true→s.items.length∈pd)(h4:-1000≤d∧d≤2000)(h5:0≤y.first∧y.first≤1000)(h6:-2≤i∧i≤100):
  aV Tryz.prog 278 [cS,ibP,tI .i64 line,tI .i64 i] (iH (0,0,1) (0,0,2) (0,1,1) C pd s d ins q lv) (.tup []) (iH (1,0,1) (0,0,2) (0,1,1) C pd (dD C y s d i line q.chain) (d - 1) ins q lv):=by
 refine aj hΓ ay Tryz.func278 rfl (by decide) rfl rfl ?_
 have g1:=bJ C pd s d ins q lv line (co C true) (cD C y d i) (-1) h1 h2 h3 (by omega) (by omega)
 have hy2:kl C y i=false:=by unfold kl;rw[hy];rfl
 have hy3:eR C y i=y.first+i:=by unfold eR;rw[if_neg (by simp[hy])]
 have e1:IntKind.i64.wrap (q.first+i)=y.first+i:=by rw[hf,IntWalk.i64_in _ (by omega)]
 unfold dD
 cases hfm:C.framed with
 | true=>
  have e2:co C true=2:=by unfold co;rw[if_pos hfm];rfl
  have e3:cD C y d i=IntKind.i64.wrap (-1 - IntKind.i64.wrap (q.first+i)):=by unfold cD;rw[if_pos hfm,if_neg (by simp[hy2]),hy3,e1,IntWalk.i64_in _ (by omega)]
  rw[e2,e3]at g1
  rw[e2,e3]
  repeat' ((conv=>whnf);first|apply Wx|apply W6|refine cg g1 ?_|apply oi|(apply fi<;>intro h)|refine⟨_,rfl,?_⟩|exact rfl)
  all_goals try exact⟨KP⟩
  all_goals try(exfalso;rw[hfm]at h;cases h;done)
  all_goals try exact⟨KW⟩
 | false=>
  have e2:co C true=4:=by unfold co;rw[if_neg (by simp[hfm])];rfl
  have e3:cD C y d i=IntKind.i64.wrap (IntKind.i64.wrap (d - 1) - IntKind.i64.wrap (q.first+i)):=by unfold cD;rw[if_neg (by simp[hfm]),if_neg (by simp[hy2]),hy3,e1];simp(disch:=omega)only[IntWalk.i64_in]
  rw[e2,e3]at g1
  rw[e2,e3]
  repeat' ((conv=>whnf);first|apply Wx|apply W6|refine cg g1 ?_|apply oi|(apply fi<;>intro h)|refine⟨_,rfl,?_⟩|exact rfl)
  all_goals try exact⟨KP⟩
  all_goals try(exfalso;rw[hfm]at h;cases h;done)
  all_goals try exact⟨KW⟩
theorem nD (C:Cx)(hC:CxOk C)(pd:List Nat)(s:Gs)(d:Int)(ins:List Nat)(q:Ib)(lv:List Int)(x:Sc)(hq:IbOk C x q)(line i chg:Int)(store:Bool)(hch:chg=if store=true then -1 else 1)(h1:bu s)(h2:x.chain.length≤100)(h3:s.start=true→s.items.length∈pd)(h4:-1000≤d∧d≤1999)(h5:0≤x.first∧x.first≤1000)(h6:-2≤i∧i≤100):
  aV Tryz.prog 271 [cS,ibP,tI .i64 line,tI .i64 i,tB store] (iH (0,0,1) (0,0,2) (0,1,1) C pd s d ins q lv) (.tup []) (iH (1,0,1) (0,0,2) (0,1,1) C pd (az C s d (co C store) (cD C x d i) line x.chain) (d+chg) ins q lv):=by
 refine aj hΓ ay Tryz.func271 rfl (by decide) rfl rfl ?_
 obtain⟨a1,a2⟩:=hC.args
 obtain⟨qf,qe,ql,qa,qi,qc,qb⟩:=q
 obtain⟨xf,xc,xl,xi,xo⟩:=x
 obtain⟨q1,q2,q3,q4,q5,q6⟩:=hq
 dsimp only at q1 q2 q3 q4 q5 q6 h2 h5
 subst q1;subst q2;subst q3
 have g1:=bJ C pd s d ins ⟨qf,qe,ql,qa,qi,qc,qb⟩ lv line (co C store) (cD C ⟨xf,qc,ql,qi,xo⟩ d i) chg h1 h2 h3 (by omega) (by subst hch;split <;> omega)
 cases xo with
 | true=>
  have e1:qc=[]:=q5.1 rfl
  have e2:=q4 rfl
  have e3:=q6 rfl
  subst e1;subst e2;subst e3
  cases store
  all_goals cases hfm:C.framed
  all_goals skip
  ·skip
   repeat' ((conv=>whnf);first|apply Wx|apply W6|refine cg g1 ?_|apply oi|(apply fi<;>intro h)|refine⟨_,rfl,?_⟩|exact rfl)
   all_goals try exact⟨KP⟩
   all_goals try(exfalso;rw[hfm]at h;cases h;done)
   all_goals try exact K1
   all_goals try exact⟨congrArg (Tr.int .i64) (by(try subst hch);(try unfold co);(try unfold cD kl eR);(try simp(disch:=omega)only[IntWalk.i64_in]);simp_all <;> omega)⟩
  ·skip
   repeat' ((conv=>whnf);first|apply Wx|apply W6|refine cg g1 ?_|apply oi|(apply fi<;>intro h)|refine⟨_,rfl,?_⟩|exact rfl)
   all_goals try exact⟨KP⟩
   all_goals try(exfalso;rw[hfm]at h;cases h;done)
   all_goals try exact K1
   all_goals try exact⟨congrArg (Tr.int .i64) (by(try subst hch);(try unfold co);(try unfold cD kl eR);(try simp(disch:=omega)only[IntWalk.i64_in]);simp_all <;> omega)⟩
  ·skip
   repeat' ((conv=>whnf);first|apply Wx|apply W6|refine cg g1 ?_|apply oi|(apply fi<;>intro h)|refine⟨_,rfl,?_⟩|exact rfl)
   all_goals try exact⟨KP⟩
   all_goals try(exfalso;rw[hfm]at h;cases h;done)
   all_goals try exact K1
   all_goals try exact⟨congrArg (Tr.int .i64) (by(try subst hch);(try unfold co);(try unfold cD kl eR);(try simp(disch:=omega)only[IntWalk.i64_in]);simp_all <;> omega)⟩
  ·skip
   repeat' ((conv=>whnf);first|apply Wx|apply W6|refine cg g1 ?_|apply oi|(apply fi<;>intro h)|refine⟨_,rfl,?_⟩|exact rfl)
   all_goals try exact⟨KP⟩
   all_goals try(exfalso;rw[hfm]at h;cases h;done)
   all_goals try exact K1
   all_goals try exact⟨congrArg (Tr.int .i64) (by(try subst hch);(try unfold co);(try unfold cD kl eR);(try simp(disch:=omega)only[IntWalk.i64_in]);simp_all <;> omega)⟩
 | false=>
  have hne:qc≠[]:=fun e=>by have:=q5.2 e;cases this
  obtain⟨c,cs,rfl⟩:∃c cs,qc=c::cs:=by
   cases qc with
   | nil=>exact absurd rfl hne
   | cons c cs=>exact⟨c,cs,rfl⟩
  have hcl:(((c::cs).map aa).length:Int)=(cs.length:Int)+1:=by simp
  cases store
  all_goals cases hfm:C.framed
  all_goals skip
  ·skip
   repeat' ((conv=>whnf);first|apply Wx|apply W6|refine cg g1 ?_|apply oi|(apply fi<;>intro h)|refine⟨_,rfl,?_⟩|exact rfl)
   all_goals try exact⟨KP⟩
   all_goals try(exfalso;rw[hfm]at h;cases h;done)
   all_goals try exact K1
   all_goals try exact⟨congrArg (Tr.int .i64) (by(try subst hch);(try unfold co);(try unfold cD kl eR);(try simp(disch:=omega)only[IntWalk.i64_in]);simp_all <;> omega)⟩
  ·skip
   repeat' ((conv=>whnf);first|apply Wx|apply W6|refine cg g1 ?_|apply oi|(apply fi<;>intro h)|refine⟨_,rfl,?_⟩|exact rfl)
   all_goals try exact⟨KP⟩
   all_goals try(exfalso;rw[hfm]at h;cases h;done)
   all_goals try exact K1
   all_goals try exact⟨congrArg (Tr.int .i64) (by(try subst hch);(try unfold co);(try unfold cD kl eR);(try simp(disch:=omega)only[IntWalk.i64_in]);simp_all <;> omega)⟩
  ·skip
   repeat' ((conv=>whnf);first|apply Wx|apply W6|refine cg g1 ?_|apply oi|(apply fi<;>intro h)|refine⟨_,rfl,?_⟩|exact rfl)
   all_goals try exact⟨KP⟩
   all_goals try(exfalso;rw[hfm]at h;cases h;done)
   all_goals try exact K1
   all_goals try exact⟨congrArg (Tr.int .i64) (by(try subst hch);(try unfold co);(try unfold cD kl eR);(try simp(disch:=omega)only[IntWalk.i64_in]);simp_all <;> omega)⟩
  ·skip
   repeat' ((conv=>whnf);first|apply Wx|apply W6|refine cg g1 ?_|apply oi|(apply fi<;>intro h)|refine⟨_,rfl,?_⟩|exact rfl)
   all_goals try exact⟨KP⟩
   all_goals try(exfalso;rw[hfm]at h;cases h;done)
   all_goals try exact K1
   all_goals try exact⟨congrArg (Tr.int .i64) (by(try subst hch);(try unfold co);(try unfold cD kl eR);(try simp(disch:=omega)only[IntWalk.i64_in]);simp_all <;> omega)⟩
theorem pG (C:Cx)(hC:CxOk C)(pd:List Nat)(s:Gs)(d:Int)(ins:List Nat)(q:Ib)(lv:List Int)(x:Sc)(hq:IbOk C x q)(k:Nat)(last:Bool)(h1:bu s)(h2:x.chain.length≤100)(h3:s.start=true→s.items.length∈pd)(h4:-1000≤d∧d≤1999)(hlv:lv.length≤68719476736)(hd p:List Int):
  aV Tryz.prog 272 [cS,ibP,tI .i64 (k:Int),tB last] (iH (0,0,1) (0,0,2) (0,1,1) C pd s d ins q lv) (.tup []) (iH (1,0,1) (0,0,2) (1,1,1) C pd (aR C x k last d ⟨s,hd,p,lv⟩).g (if x.outer=false∧last=true then d else d - 1) ins q (aR C x k last d ⟨s,hd,p,lv⟩).lv):=by
 refine aj hΓ ay Tryz.func272 rfl (by decide) rfl rfl ?_
 obtain⟨a1,a2⟩:=hC.args
 obtain⟨a3,a4⟩:=hC.words
 obtain⟨qf,qe,ql,qa,qi,qc,qb⟩:=q
 obtain⟨xf,xc,xl,xi,xo⟩:=x
 obtain⟨q1,q2,q3,q4,q5,q6⟩:=hq
 dsimp only at q1 q2 q3 q4 q5 q6 h2
 subst q1;subst q2;subst q3
 have hlen:=bD pd s.items
 have hll:(lv.map aa).length=lv.length:=by simp
 cases xo with
 | true=>
  have e1:qc=[]:=q5.1 rfl
  have e2:=q4 rfl
  subst e1;subst e2
  rw[if_neg (by simp)]
  have e4:IntKind.i64.wrap (C.args+IntKind.i64.wrap (16 * C.words))=C.args+16 * C.words:=by simp(disch:=omega)only[IntWalk.i64_in]
  cases hfm:C.framed with
  | true=>
   have g1:=bJ C pd s d ins ⟨qf,qe,ql,C.args,qi,[],qb⟩ lv k 14 C.args (-1) h1 h2 h3 (by omega) (by omega)
   have e:aR C ⟨xf,[],ql,qi,true⟩ k last d ⟨s,hd,p,lv⟩=⟨az C s d 14 C.args k [],hd,p,lv⟩:=by simp[aR,hfm]
   rw[e]
   cases last
   all_goals skip
   ·skip
    repeat' ((conv=>whnf);first|apply Wx|apply W6|refine cg g1 ?_|apply oi|(apply fi<;>intro h)|refine⟨_,rfl,?_⟩|exact rfl)
    all_goals try exact⟨KP⟩
    all_goals try exact⟨KW⟩
    all_goals try(exfalso;rw[hfm]at h;cases h;done)
   ·skip
    repeat' ((conv=>whnf);first|apply Wx|apply W6|refine cg g1 ?_|apply oi|(apply fi<;>intro h)|refine⟨_,rfl,?_⟩|exact rfl)
    all_goals try exact⟨KP⟩
    all_goals try exact⟨KW⟩
    all_goals try(exfalso;rw[hfm]at h;cases h;done)
  | false=>
   have g1:=bJ C pd s d ins ⟨qf,qe,ql,C.args,qi,[],qb⟩ lv k 16 (C.args+16 * C.words) (-1) h1 h2 h3 (by omega) (by omega)
   have e:aR C ⟨xf,[],ql,qi,true⟩ k last d ⟨s,hd,p,lv⟩=⟨az C s d 16 (IntKind.i64.wrap (C.args+IntKind.i64.wrap (16 * C.words))) k [],hd,p,lv⟩:=by simp[aR,hfm,e4]
   rw[←e4]at g1
   rw[e]
   cases last
   all_goals skip
   ·skip
    repeat' ((conv=>whnf);first|apply Wx|apply W6|refine cg g1 ?_|apply oi|(apply fi<;>intro h)|refine⟨_,rfl,?_⟩|exact rfl)
    all_goals try exact⟨KP⟩
    all_goals try exact⟨KW⟩
    all_goals try(exfalso;rw[hfm]at h;cases h;done)
   ·skip
    repeat' ((conv=>whnf);first|apply Wx|apply W6|refine cg g1 ?_|apply oi|(apply fi<;>intro h)|refine⟨_,rfl,?_⟩|exact rfl)
    all_goals try exact⟨KP⟩
    all_goals try exact⟨KW⟩
    all_goals try(exfalso;rw[hfm]at h;cases h;done)
 | false=>
  have hne:qc≠[]:=fun e=>by have:=q5.2 e;cases this
  obtain⟨c,cs,rfl⟩:∃c cs,qc=c::cs:=by
   cases qc with
   | nil=>exact absurd rfl hne
   | cons c cs=>exact⟨c,cs,rfl⟩
  have hcl:(((c::cs).map aa).length:Int)=(cs.length:Int)+1:=by simp
  cases last with
  | true=>
   have e:aR C ⟨xf,c::cs,ql,qi,false⟩ k true d ⟨s,hd,p,lv⟩=⟨s,hd,p,lv⟩:=by simp[aR]
   rw[e,if_pos ⟨rfl,rfl⟩]
   repeat' ((conv=>whnf);first|apply Wx|apply W6|apply oi|(apply fi<;>intro h)|refine⟨_,rfl,?_⟩|exact rfl)
   all_goals try exact⟨KP⟩
   all_goals try exact⟨KW⟩
   all_goals try exact KN
  | false=>
   have e:aR C ⟨xf,c::cs,ql,qi,false⟩ k false d ⟨s,hd,p,lv⟩=⟨az C s d 10 0 k (c::cs),hd,p,lv++[(s.items.length:Int)]⟩:=by simp[aR]
   rw[e,if_neg (by simp)]
   have g1:=bJ C pd s d ins ⟨qf,qe,ql,qa,qi,c::cs,qb⟩ (lv++[(s.items.length:Int)]) k 10 0 (-1) h1 h2 h3 (by omega) (by omega)
   have hap:lv.map aa++[[Tr.int .i64 ((itR (clr pd s.items)).length:Int)]]=(lv++[(s.items.length:Int)]).map aa:=by rw[hlen];simp[aa]
   repeat' ((conv=>whnf);first|apply Wx|apply W6|refine cg g1 ?_|apply oi|(apply fi<;>intro h)|refine⟨_,rfl,?_⟩|exact rfl)
   all_goals try exact⟨KP⟩
   all_goals try exact⟨KW⟩
   all_goals try exact⟨⟨by rw[hll];(try dsimp only);simp only[List.length_cons,List.length_nil];omega,by rw[hll];(try dsimp only);simp only[List.length_cons,List.length_nil];omega⟩⟩
   all_goals try exact⟨hap⟩
   all_goals try exact KN
abbrev GD (i1 i2:Sim.Id)(C:Cx)(pd:List Nat)(s:Gs)(d:Int)(ins:List Nat):List (Sim.Id×AO):=[((0,0,0),uG C s d i1 i2),(i1,.dar 7 (itR (clr pd s.items)) none),(i2,.arr false 1 (kY ins))]
theorem xk {g:Nat}:∀{l:List HH} {i j:Nat} {x:HH},i≤g→l[g - i]?=some x→x.faa=0→ka ((funsF l i).map fun n:Nat=>(n:Int)) j (g:Int)=some (j+((l.take (g - i)).filter fun x=>x.faa==0).length)
 | [],i,j,x,h,hx,_=>by simp at hx
 | y::l,i,j,x,h,hx,h0=>by
  rw[funsF]
  by_cases hgi:g=i
  ·subst hgi
   rw[Nat.sub_self,List.getElem?_cons_zero]at hx
   injection hx with hx
   subst hx
   rw[if_pos h0,List.map_append,List.map_cons,List.cons_append,ka,if_pos (by simp),Nat.sub_self]
   simp
  ·have hs:g - i=(g - (i+1))+1:=by omega
   rw[hs,List.getElem?_cons_succ]at hx
   have ih:=fun j=>xk (g:=g) (l:=l) (i:=i+1) (j:=j) (by omega) hx h0
   rw[hs,List.take_succ_cons]
   by_cases hy:y.faa=0
   ·rw[if_pos hy,List.map_append,List.map_cons,List.map_nil,List.cons_append,List.nil_append,ka,if_neg (by simp;omega),ih,List.filter_cons,if_pos (by simp[hy]),List.length_cons]
    congr 1;omega
   ·rw[if_neg hy,List.nil_append,ih,List.filter_cons,if_neg (by simp[hy])]
theorem DM {C:Cx}{g:Nat}(hg:bG C g):cY ((ak C.p).map fun n:Nat=>(n:Int)) (g:Int)=(lJ C.p g:Int):=by
 obtain⟨x,hx,h0⟩:=hg
 have:=xk (l:=C.p) (i:=0) (j:=0) (x:=x) (Nat.zero_le g) (by simpa using hx) h0
 unfold cY ak
 rw[this]
 simp[cu,lJ]
theorem su (C:Cx)(hC:CxOk C)(pd:List Nat)(s:Gs)(d:Int)(ins:List Nat)(g:Nat)(hg:bG C g):
  aV Tryz.prog 277 [cS,tI .i64 (g:Int)] (GD (0,0,1) (0,0,2) C pd s d ins) (tI .i64 (lJ C.p g:Int)) (GD (0,0,1) (0,0,2) C pd s d ins):=by
 refine aj hΓ ay Tryz.func277 rfl (by decide) rfl rfl ?_
 have h60:=hC.len
 have gF:=bE C.p (by omega)
 have hfl:=nl C.p 0
 have gI:=lK ((ak C.p).map fun n:Nat=>(n:Int)) (g:Int) (by unfold ak;rw[List.length_map];omega)
 rw[DM hg,List.map_map]at gI
 repeat' ((conv=>whnf);first|apply Wx|apply W6|apply oi|(apply fi<;>intro h)|refine cl gF ?_|refine cl gI ?_|refine⟨_,rfl,?_⟩|exact rfl)
 all_goals try exact⟨KP⟩
theorem DY (ins:List Nat)(g:Nat):(ins.map fun n:Nat=>(n:Int)).contains (g:Int)=ins.contains g:=by
 induction ins with
 | nil=>rfl
 | cons a l ih=>
  rw[List.map_cons,List.contains_cons,List.contains_cons,ih]
  congr 1
  rw[Bool.eq_iff_iff]
  simp
  omega
theorem sT (C:Cx)(hC:CxOk C)(pd:List Nat)(s:Gs)(d:Int)(ins:List Nat)(q:Ib)(lv:List Int)(g:Nat)(h1:bu s)(hS:q.chain.length+1=ins.length)(hi:ins.length≤100)(hg:g < C.p.length):
  aV Tryz.prog 275 [cS,ibP,tI .i64 (g:Int)] (iH (0,0,1) (0,0,2) (0,1,1) C pd s d ins q lv) (tB (cb C ins g s.items.length)) (iH (0,0,1) (0,0,2) (0,1,1) C pd s d ins q lv):=by
 refine aj hΓ ay Tryz.func275 rfl (by decide) rfl rfl ?_
 unfold bu at h1
 have hlen:=bD pd s.items
 have h60:=hC.len
 have hin:=hC.inl
 have hE:=cM C.p (g:Int) (by omega)
 have gC:=iQ (ins.map fun n:Nat=>(n:Int)) (g:Int) (by rw[List.length_map];omega)
 rw[DY,List.map_map]at gC
 have hee:=mq C.p g
 have hql:((q.chain.map aa).length:Int)=(ins.length:Int) - 1:=by rw[List.length_map];omega
 have hw2:IntKind.i64.wrap (bn C.p (g:Int) - (g:Int))=bn C.p (g:Int) - g:=by rw[IntWalk.i64_in _ (by omega)]
 have hr:cb C ins g s.items.length=(decide ((ins.length:Int)≤C.b.fal) && (decide (bn C.p (g:Int) - g≤9) && (decide (s.items.length < 200) && !ins.contains g))):=rfl
 rw[hr]
 generalize bn C.p (g:Int)=eg at *
 cases hcn:ins.contains g with
 | true=>
  rw[hcn]at gC
  repeat' ((conv=>whnf);first|apply Wx|apply W6|apply oi|(apply fi<;>intro h)|refine cl gC ?_|refine cl hE ?_|refine⟨_,rfl,?_⟩|exact rfl)
  all_goals try exact⟨KP⟩
  all_goals exact⟨by simp⟩
 | false=>
  rw[hcn]at gC
  repeat' ((conv=>whnf);first|apply Wx|apply W6|apply oi|(apply fi<;>intro h)|refine cl gC ?_|refine cl hE ?_|refine⟨_,rfl,?_⟩|exact rfl)
  all_goals try exact⟨KP⟩
  all_goals(refine⟨congrArg Tr.bool ?_⟩;(try rw[hlen]);rw[Bool.eq_iff_iff];simp only[Bool.and_eq_true,decide_eq_true_eq,Bool.not_false,and_true,Bool.false_eq_true];clear hr hcn gC hE;simp only[hw2,hql,decide_eq_true_eq,decide_eq_false_iff_not]at *;first|omega|exact iff_of_false id (by omega))
structure IRm (C:Cx) (lev n:Nat) (x:Sc) (q:Ib) (ins pd:List Nat) (b:Nat) (s:Gs) (d:Int):Prop where
 sc:ScOk C x ins
 ib:IbOk C x q
 rm:Rm C lev n (ins.length - 1) s d
 beg:Beg b s
 mem:b∈pd
 le:∀i∈pd,i≤b
def GK (C:Cx)(lev:Nat):Prop:=∀(e:Ex) (x:Sc) (q:Ib) (ins pd:List Nat) (lv:List Int) (k p b:Nat) (ln:HH) (s:Gs) (d:Int),e.ok→C.p[k]?=some ln→fZ ln.fad p e→nc C ln.fad→IRm C lev e.toks.length x q ins pd b s d→
 aV Tryz.prog 270 [cS,ibP,tI .i64 (k:Int),.r (.c (.t (.lst 3 (ln.fad.map HP.tr)))),tI .i64 (p:Int),tI .i64 (b:Int)] (iH (0,0,1) (0,0,2) (0,1,1) C pd s d ins q lv) (.tup []) (iH (1,0,1) (1,0,2) (0,1,1) C pd (eb C (aX C lev) x ins k e d s) (d+1) ins q lv)
def zN (C:Cx)(lev:Nat):Prop:=∀(x:Sc) (q:Ib) (ins pd:List Nat) (lv:List Int) (k g b:Nat) (s:Gs) (d:Int),k < C.p.length→bG C g→cb C ins g s.items.length=true→IRm C lev 1 x q ins pd b s (d - argsN C.p g)→
 aV Tryz.prog 276 [cS,ibP,tI .i64 (k:Int),tI .i64 (g:Int),tI .i64 (b:Int)] (iH (0,0,1) (0,0,2) (0,1,1) C pd s d ins q lv) (.tup []) (iH (1,0,1) (1,0,2) (0,1,1) C pd (aX C lev x ins k g d s) (d - argsN C.p g+1) ins q lv)
theorem xd {C:Cx}(hC:CxOk C){lev:Nat}(hR:zN C lev):∀(n:Nat) (e:Ex),e.toks.length≤n→∀(x:Sc) (q:Ib) (ins pd:List Nat) (lv:List Int) (k p b:Nat) (ln:HH) (s:Gs) (d:Int),e.ok→C.p[k]?=some ln→fZ ln.fad p e→nc C ln.fad→IRm C lev e.toks.length x q ins pd b s d→
  aV Tryz.prog 270 [cS,ibP,tI .i64 (k:Int),.r (.c (.t (.lst 3 (ln.fad.map HP.tr)))),tI .i64 (p:Int),tI .i64 (b:Int)] (iH (0,0,1) (0,0,2) (0,1,1) C pd s d ins q lv) (.tup []) (iH (1,0,1) (1,0,2) (0,1,1) C pd (eb C (aX C lev) x ins k e d s) (d+1) ins q lv)
 | 0,e,hn,_,_,_,_,_,_,_,_,_,_,_,_,_,_,_,_=>by have:=e.toks_pos;omega
 | n+1,.node t es,hn,x,q,ins,pd,lv,k,p,b,ln,s,d,ho,hk,hs,hca,hr=>by
  refine aj hΓ ay Tryz.func270 rfl (by decide) rfl rfl ?_
  obtain⟨hx,hq,hrm,hbg,hbm,hpl2⟩:=hr
  obtain⟨hsh,hnm⟩:=lr hC hk
  have hle:=fF hs
  obtain⟨ht,hsa⟩:=go hs
  obtain⟨e1,e2⟩:=qk ho.1
  have hel:es.length=ar t:=ho.2.1
  have h60:=hC.len
  have h20:=(hC.line _ _ hk).2.2.2.1
  have hr1:=hrm.room
  have hr2:=hrm.depth
  have hr3:=hrm.low
  have hr4:=hrm.high
  have hin:=hC.inl
  have hchn:=hx.chain
  have htp:=ui lev
  have hO:=lF ln.fad p t es (by omega) hsh ho hs
  have hpl:((fK (p+1) es).map nR).length=es.length:=by rw[List.length_map,pC]
  rw[Ex.toks,List.length_cons]at hn hle hr1 hr4
  rw[eb]
  have hrepG:∀g d s,bG C g→cb C ins g s.items.length=true→Grow (cf lev) s (aX C lev x ins k g d s):=fun g d s hg hr=>cR hC lev k g d s hx hg hr
  have hrepB:∀g d s,bG C g→cb C ins g s.items.length=true→Beg b s→Beg b (aX C lev x ins k g d s):=fun g d s hg hr hb=>yQ hC lev k g d s hx hg hr hb
  repeat' ((conv=>whnf);first|apply Wx|apply W6|apply oi|(apply fi<;>intro h)|refine⟨p,t.tr,rfl,ab ht,?_⟩|refine cl hO ?_|refine⟨_,rfl,?_⟩|exact rfl)
  all_goals try exact⟨KP⟩
  conv=>whnf
  refine⟨{j:Nat // j≤es.length},fun r=>⟨[(0,cS),(1,ibP),(2,tI .i64 (k:Int)),(3,.r (.c (.t (.lst 3 (ln.fad.map HP.tr))))),(4,tI .i64 (p:Int)),(5,tI .i64 (b:Int)),(12,.r (.c (.ptr (12,0,0) 0))),(23,.r (.c (.own (23,0,0)))),(24,tI .i64 (((fK (p+1) es).map nR).length:Int)),(25,tI .i64 (r.1:Int))],
   [(
    (0,0,0),some (uG C (dt C (aX C lev) x ins k (es.take r.1) d s) (d+r.1) (12,0,1) (12,0,2))),((12,0,1),some (.dar 7 (itR (clr pd (dt C (aX C lev) x ins k (es.take r.1) d s).items)) none)),((12,0,2),some (.arr false 1 (kY ins))),
    ((0,1,0),some (ibB q (0,1,1))),((0,1,1),some (.arr false 1 (lv.map aa))),((12,0,0),some (.box (t.tr.map .t))),((23,0,0),some (.arr true 1 ((fK (p+1) es).map nR)))],[23,12,0]⟩,fun r=>es.length - r.1,⟨0,by omega⟩,?_,?_⟩
  ·skip
   repeat' ((conv=>whnf);first|apply Wx|apply W6|apply oi|(apply fi<;>intro h)|refine⟨_,rfl,?_⟩|exact rfl)
   all_goals try exact⟨KP⟩
   all_goals try exact⟨KW⟩
  intro⟨j,hj⟩
  dsimp only at hj ⊢
  have hgr:=kV (C:=C) (x:=x) (ins:=ins) (line:=k) (lev:=lev) hrepG (es.take j) d s
  have hg2:=hgr.le
  have hb2:=mV (C:=C) (x:=x) (ins:=ins) (line:=k) (rep:=aX C lev) hrepB (es.take j) d hbg
  have htk:=cV es j
  obtain⟨s1,hs1⟩:∃s1,dt C (aX C lev) x ins k (es.take j) d s=s1:=⟨_,rfl⟩
  rw[hs1]at hgr hg2 hb2 ⊢
  have hpd1:s1.start=true→s1.items.length∈pd:=fun h=>by rw[hb2.2.1 h];exact hbm
  by_cases hlj:j < es.length
  ·obtain⟨a,ha⟩:=ae hlj
   obtain⟨o,ho1,ho2⟩:=tF hsa ha
   have hta:=iw ha
   have htk2:=cV es (j+1)
   have hal:=iX ha
   have hjt:j≤(au (es.take j)).length:=by
    have:∀(l:List Ex),l.length≤(au l).length:=by
     intro l
     induction l with
     | nil=>simp
     | cons b l ih=>have:=b.toks_pos;rw[au,List.length_append,List.length_cons];omega
    have h2:=this (es.take j)
    rw[List.length_take]at h2
    omega
   have hm:=Nat.mul_le_mul_right (cf lev) (show(au (es.take j)).length+a.toks.length≤(au es).length+1 by omega)
   rw[Nat.add_mul]at hm
   have hI:=xd hC hR n a (by omega) x q ins pd lv k o b ln s1 (d+j) (kw ho.2.2 ha) hk ho2 hca ⟨hx,hq,⟨by omega,hr2,by omega,by omega⟩,hb2,hbm,hpl2⟩
   have hnext:=oK C (aX C lev) x ins k d s ha
   rw[hs1]at hnext
   have hjl:j < ((fK (p+1) es).map nR).length:=by rw[hpl];exact hlj
   repeat' ((conv=>whnf);first|apply Wx|apply W6|apply oi|(apply fi<;>intro h)|refine⟨j,rfl,hjl,?_⟩|refine⟨(nR o),(ab ho1),?_⟩|refine⟨_,rfl,?_⟩|exact rfl)
   all_goals try exact⟨KP⟩
   all_goals try exact KX
   refine cg (hI) ?_
   repeat' ((conv=>whnf);first|apply Wx|apply W6|apply oi|(apply fi<;>intro h)|refine⟨_,rfl,?_⟩|exact rfl)
   all_goals try exact⟨KP⟩
   conv=>whnf
   refine⟨⟨j+1,by omega⟩,?_,KD⟩
   repeat' ((conv=>whnf);first|apply Wx|apply W6|apply oi|(apply fi<;>intro h)|refine⟨_,rfl,?_⟩|exact rfl)
   all_goals try exact⟨KP⟩
   all_goals try exact⟨by dsimp only;rw[hnext]⟩
   all_goals try exact⟨KW⟩
  ·have hje:j=es.length:=by omega
   subst hje
   rw[List.take_length]at hs1 hg2 htk
   have hroom:s1.items.length+cf lev≤68719476736:=by
    have:((au es).length+1) * cf lev=(au es).length * cf lev+cf lev:=by rw[Nat.add_mul];omega
    omega
   rw[hs1]
   have hch:x.chain.length≤100:=by omega
   have hch':q.chain.length≤100:=by rw[hq.chain];exact hch
   have hro:bu s1:=by unfold bu;omega
   obtain⟨k1,k2,k3⟩:=Cv ho.1
   have htl:=hsh t (List.mem_of_getElem? ht)
   have hxf:0≤x.first∧x.first≤1000:=by
    have:=hx.first
    omega
   obtain⟨ee,_,_,_,_,hll⟩:=hx.endE hC
   rcases wo ho.1 with hk0|hk1|hk7|hk26
   ·have g1:=bJ C pd s1 (d+es.length) ins q lv k 0 t.faj 1 hro hch' hpd1 (by omega) (by omega)
    rw[hq.chain]at g1
    have hz:=k1 (.inl hk0)
    unfold jy
    rw[if_pos hk0]
    repeat' ((conv=>whnf);first|apply Wx|apply W6|refine cg g1 ?_|apply oi|(apply fi<;>intro h)|refine⟨_,rfl,?_⟩|exact rfl)
    all_goals try exact⟨KP⟩
    all_goals try exact KX
    all_goals try exact⟨KW⟩
    all_goals try exact KK
   ·have g1:=nD C hC pd s1 (d+es.length) ins q lv x hq k (cY x.locals t.fac) 1 false rfl hro hch hpd1 (by omega) hxf (by have:=kB x.locals t.fac;omega)
    have gI:=iv x.locals t.fac (by omega)
    rw[←hq.locals]at gI g1
    have hz:=k1 (.inr hk1)
    unfold jy BS
    rw[if_neg (by omega),if_pos hk1,←hq.locals]
    generalize cY q.locals t.fac=ix at *
    repeat' ((conv=>whnf);first|apply Wx|apply W6|refine cg g1 ?_|apply oi|(apply fi<;>intro h)|refine cl gI ?_|refine⟨_,rfl,?_⟩|exact rfl)
    all_goals try exact⟨KP⟩
    all_goals try exact KX
    all_goals try exact⟨KW⟩
    all_goals try exact KK
   ·obtain⟨f,hf,hfa⟩:=hca t (List.mem_of_getElem? ht) hk7
    obtain⟨hfl,y,hy,hy0,_⟩:=fD hf
    have hfun:bG C f:=⟨y,hy,hy0⟩
    have hkk:=k2 hk7
    have gF:=eT C.p t.fac (by omega)
    rw[show eW C.p t.fac=(f:Int) from be hf]at gF
    have g1:=sT C hC pd s1 (d+es.length) ins q lv f hro (by rw[hq.chain];exact hchn) (by omega) hfl
    unfold jy
    rw[if_neg (by omega),if_neg (by omega),if_pos hk7,hf]
    dsimp only
    cases hrb:cb C ins f s1.items.length with
    | true=>
     have g2:=hR x q ins pd lv k f b s1 (d+es.length) (aM hk) hfun hrb ⟨hx,hq,⟨by omega,hr2,by omega,by omega⟩,hb2,hbm,hpl2⟩
     rw[hrb]at g1
     rw[if_pos rfl]
     repeat' ((conv=>whnf);first|apply Wx|apply W6|refine cg g1 ?_|refine cg g2 ?_|apply oi|(apply fi<;>intro h)|refine cl gF ?_|refine⟨_,rfl,?_⟩|exact rfl)
     all_goals try exact⟨KP⟩
     all_goals try exact KX
     all_goals try exact⟨KW⟩
     all_goals try exact KK
    | false=>
     rw[hrb]at g1
     rw[if_neg (by simp)]
     have g2:=su C hC pd s1 (d+es.length) ins f hfun
     have g3:=bJ C pd s1 (d+es.length) ins q lv k 12 (lJ C.p f) (1 - t.faj) hro hch' hpd1 (by omega) (by omega)
     have hw1:IntKind.i64.wrap (1 - t.faj)=1 - t.faj:=by rw[IntWalk.i64_in _ (by omega)]
     rw[←hw1,hq.chain]at g3
     repeat' ((conv=>whnf);first|apply Wx|apply W6|refine cg g1 ?_|refine cg g2 ?_|refine cg g3 ?_|apply oi|(apply fi<;>intro h)|refine cl gF ?_|refine⟨_,rfl,?_⟩|exact rfl)
     all_goals try exact⟨KP⟩
     all_goals try exact KX
     all_goals try exact⟨KW⟩
     all_goals try exact KK
   ·have g1:=bJ C pd s1 (d+es.length) ins q lv k (5+t.faa - 2) 0 (-1) hro hch' hpd1 (by omega) (by omega)
    rw[hq.chain]at g1
    have hw5:IntKind.i64.wrap (IntKind.i64.wrap (5+t.faa) - 2)=5+t.faa - 2:=by simp(disch:=omega)only[IntWalk.i64_in]
    rw[←hw5]at g1
    have hz:=k3 hk26.1 hk26.2
    unfold jy
    rw[if_neg (by omega),if_neg (by omega),if_neg (by omega),←hw5]
    repeat' ((conv=>whnf);first|apply Wx|apply W6|refine cg g1 ?_|apply oi|(apply fi<;>intro h)|refine⟨_,rfl,?_⟩|exact rfl)
    all_goals try exact⟨KP⟩
    all_goals try exact KX
    all_goals try exact⟨KW⟩
    all_goals try exact KK
def ta (C:Cx)(lev:Nat):Prop:=∀(x:Sc) (q:Ib) (ins pd:List Nat) (s:Gs) (d:Int),ScOk C x ins→IbOk C x q→q.f=(x.f:Int)→q.e=(ko C.p x.f:Int)→q.base=d→s.start=false→(∀i∈pd,i < s.items.length)→
 s.items.length+(ko C.p x.f - x.f) * (20 * cf lev+3)≤68719476736→((lev+(ins.length - 1):Nat):Int)=C.b.fal→0≤d→d+30+100 * (lev:Int)≤1900→
 aV Tryz.prog 257 [cS,ibP] (iH (0,0,1) (0,0,2) (0,1,1) C pd s d ins q []) (.tup []) (iH (1,0,1) (1,0,2) (1,1,1) C pd (aU C (aX C lev) x ins d s).1 (if x.outer=true then d else d+1) ins q (aU C (aX C lev) x ins d s).2)
theorem DN {C:Cx}(hC:CxOk C){lev:Nat}(hL:ta C lev):zN C (lev+1):=by
 intro x q ins pd lv k g b s d hk hg hrb hr
 refine aj hΓ ay Tryz.func276 rfl (by decide) rfl rfl ?_
 obtain⟨hx,hq,hrm,hbg,hbm,hpl2⟩:=hr
 obtain⟨r1,r2,r3,r4⟩:=eA hrb
 obtain⟨y,hy,hy0⟩:=hg
 have h60:=hC.len
 have hin:=hC.inl
 have hloc:=cO hC ⟨y,hy,hy0⟩
 have hA:argsN C.p g=y.fag.length:=by rw[argsN,hy]
 have hLo:=iz C.p (g:Int) (by omega) (fun z hz=>aT hC.small hz)
 have htop:=oY hC hx
 have hxl:x.locals.length≤8:=by obtain⟨_,_,_,_,_,h⟩:=hx.endE hC;exact h
 have hxf:=hx.first
 have ha:=hC.args
 have hch:=hx.chain
 obtain⟨q1,q2,q3,q4⟩:=hrm
 have hyS:=lj hC hx k ⟨y,hy,hy0⟩
 obtain⟨ye,ye1,ye2,ye3,ye4,_⟩:=hyS.endE hC
 have gE:=cM C.p (g:Int) (by omega)
 have hee:bn C.p (g:Int)=(ye:Int):=by rw[bf];exact be ye1
 rw[hee]at gE r2
 have hyl:(y.fag.map ah).length=y.fag.length:=by simp
 have hxll:(x.locals.map ah).length=x.locals.length:=by simp
 have hcl:(x.chain.map aa).length=x.chain.length:=by simp
 obtain⟨qf,qe,ql,qa,qi,qc,qb⟩:=q
 obtain⟨i1,i2,i3,i4,i5,i6⟩:=hq
 dsimp only at i1 i2 i3 i4
 subst i1;subst i2;subst i3
 have e2:IntKind.i64.wrap (x.first+(x.locals.length:Int))=x.first+x.locals.length:=by rw[IntWalk.i64_in _ (by omega)]
 repeat' ((conv=>whnf);first|(with_reducible apply W1;fail_if_success (with_reducible show Wo _ _ _ _ (Code.region 1 _ _) _ _))|(with_reducible first|apply W2|apply W3|apply W4|apply W5|apply W6|apply W7|apply W8|apply W9)|apply bh|apply oi|(apply fi<;>intro h)|refine⟨g,y.tr,rfl,ab hy,?_⟩|refine cl gE ?_|refine cl hLo ?_|refine⟨_,rfl,?_⟩|exact rfl)
 all_goals try exact⟨KP⟩
 all_goals try exact⟨⟨by simp <;> omega,by simp <;> omega⟩⟩
 conv=>whnf
 refine gx ⟨[(0,cS),(1,ibP),(2,tI .i64 (k:Int)),(3,tI .i64 (g:Int)),(4,tI .i64 (b:Int)),(10,.r (.c (.ptr (48,0,0) 0)))],
  [((0,0,0),some (uG C s d (0,0,1) (0,0,2))),((0,0,1),some (.dar 7 (itR (clr pd (s).items)) none)),((0,0,2),some (.arr false 1 (kY ins))),((0,1,0),some (ibB ⟨qf,qe,x.locals,qa,x.first,x.chain,qb⟩ (0,1,1))),((0,1,1),some (.arr false 1 (lv.map aa))),((48,0,0),some (.box [.t (.int .i64 (g:Int)),.t (.int .i64 (ye:Int)),.t (.lst 1 ((localsOf C.p (g:Int)).map ah)),.t (.int .i64 (argsN C.p g:Int)),.t (.int .i64 0),.t (.lst 1 ((x.chain++[(k:Int)]).map aa)),.t (.int .i64 0),.nils 1]))],_⟩ ?_ ?_ rfl ?_
 ·exact⟨.inl rfl,.inl rfl,.inl rfl,.inl rfl,.inl rfl,.inl rfl,trivial⟩
 ·refine⟨.inr (.inl rfl),.inr (.inl rfl),.inr (.inl rfl),.inr (.inl rfl),.inr (.inl rfl),.inr (.inr (.inl ⟨_,_,rfl,rfl,.inl rfl,.inl rfl,.inr (.inr ⟨_,rfl,rfl,?_⟩),.inl ?_,.inl rfl,.inr (.inr ⟨_,rfl,?_,?_⟩),.inl rfl,.inr (.inl ⟨_,_,rfl,rfl⟩),trivial⟩)),trivial⟩
  ·intro q hq;simp only[AC.ids,List.mem_cons,List.not_mem_nil,or_false]at hq;subst hq;rfl
  ·rw[hyl,hA]
  ·show Tr.lst 1 _=Tr.lst 1 ([]++List.map aa x.chain++[[Tr.int .i64 (k:Int)]])
   simp[aa]
  ·intro q hq;simp only[AC.ids,List.mem_cons,List.not_mem_nil,or_false]at hq;subst hq;rfl
 repeat' ((conv=>whnf);first|(with_reducible apply W1;fail_if_success (with_reducible show Wo _ _ _ _ (Code.seq (Code.region 2 _ _) _) _ _))|(with_reducible first|apply W2|apply W3|apply W4|apply W5|apply W6|apply W7|apply W8|apply W9)|apply bh|apply oi|(apply fi<;>intro h)|refine⟨_,rfl,?_⟩|exact rfl)
 all_goals try exact⟨KP⟩
 conv=>whnf
 refine iN Unit (fun _=>⟨[(0,cS),(1,ibP),(2,tI .i64 (k:Int)),(3,tI .i64 (g:Int)),(4,tI .i64 (b:Int)),(10,.r (.c (.ptr (48,0,0) 0)))],
  [((0,0,0),some (uG C s d (0,0,1) (0,0,2))),((0,0,1),some (.dar 7 (itR (clr pd (s).items)) none)),((0,0,2),some (.arr false 1 (kY ins))),((0,1,0),some (ibB ⟨qf,qe,x.locals,qa,x.first,x.chain,qb⟩ (0,1,1))),((0,1,1),some (.arr false 1 (lv.map aa))),((48,0,0),some (.box [.t (.int .i64 (g:Int)),.t (.int .i64 (ye:Int)),.t (.lst 1 ((localsOf C.p (g:Int)).map ah)),.t (.int .i64 (argsN C.p g:Int)),.t (.int .i64 (bz C x)),.t (.lst 1 ((x.chain++[(k:Int)]).map aa)),.t (.int .i64 0),.nils 1]))],[48,0]⟩) ?_ ?_
 ·cases ho:x.outer with
  | true=>
   have c1:=i5.1 ho
   have c2:=i6 ho
   have c3:=i4 ho
   have c4:bz C x=(x.locals.length:Int) - C.args:=by unfold bz;rw[if_pos ho]
   have c5:IntKind.i64.wrap (IntKind.i64.wrap (x.first+((x.locals.map ah).length:Int)) - qa)=bz C x:=by rw[c4,hxll,e2,c2,c3,IntWalk.i64_in _ (by omega)];omega
   repeat' ((conv=>whnf);first|apply Wx|apply W6|apply oi|(apply fi<;>intro h)|refine⟨_,rfl,?_⟩|exact rfl)
   all_goals try exact⟨KP⟩
   all_goals try(exfalso;rw[c1]at h;simp at h;done)
   all_goals(conv=>whnf)
   all_goals(refine⟨(),?_⟩)
   repeat' ((conv=>whnf);first|apply Wx|apply W6|apply oi|(apply fi<;>intro h)|refine⟨_,rfl,?_⟩|exact rfl)
   all_goals try exact⟨KP⟩
   all_goals exact⟨congrArg (Tr.int .i64) c5⟩
  | false=>
   have hne:x.chain≠[]:=fun e=>by rw[i5.2 e]at ho;cases ho
   have c4:bz C x=x.first+x.locals.length:=by unfold bz;rw[if_neg (by simp[ho])]
   have c5:IntKind.i64.wrap (x.first+((x.locals.map ah).length:Int))=bz C x:=by rw[c4,hxll,e2]
   repeat' ((conv=>whnf);first|apply Wx|apply W6|apply oi|(apply fi<;>intro h)|refine⟨_,rfl,?_⟩|exact rfl)
   all_goals try exact⟨KP⟩
   all_goals try(exfalso;simp at h;exact hne h)
   all_goals(conv=>whnf)
   all_goals(refine⟨(),?_⟩)
   repeat' ((conv=>whnf);first|apply Wx|apply W6|apply oi|(apply fi<;>intro h)|refine⟨_,rfl,?_⟩|exact rfl)
   all_goals try exact⟨KP⟩
   all_goals exact⟨congrArg (Tr.int .i64) c5⟩
 intro _
 have hll:((localsOf C.p (g:Int)).map ah).length=(localsOf C.p (g:Int)).length:=by simp
 have em:IntKind.i64.wrap (bz C x+(((localsOf C.p (g:Int)).map ah).length:Int))=bz C x+((localsOf C.p (g:Int)).length:Int):=by rw[hll,IntWalk.i64_in _ (by omega)]
 obtain⟨s0,hs0⟩:∃s0:Gs,(⟨s.items,max s.most (bz C x+(localsOf C.p (g:Int)).length),s.start⟩:Gs)=s0:=⟨_,rfl⟩
 have z1:s.items=s0.items:=by rw[←hs0]
 have z2:max s.most (bz C x+(localsOf C.p (g:Int)).length)=s0.most:=by rw[←hs0]
 have hb0:Beg b s0:=by rw[←hs0];exact⟨hbg.1,hbg.2⟩
 obtain⟨T1,hT1⟩:∃T1,cF C (bI C x k g) x.chain k (argsN C.p g) d s0=T1:=⟨_,rfl⟩
 have hst:∀{t:Gs},Beg b t→t.start=true→t.items.length∈pd:=fun{t} hb h=>by rw[hb.2.1 h];exact hbm
 repeat' ((conv=>whnf);first|apply Wx|apply W6|apply oi|(apply fi<;>intro h)|refine⟨_,rfl,?_⟩|exact rfl)
 all_goals try exact⟨KP⟩
 conv=>whnf
 refine⟨{r:Nat×Gs // r.1≤argsN C.p g∧cF C (bI C x k g) x.chain k r.1 (d - ((argsN C.p g - r.1:Nat):Int)) r.2=T1∧r.2.items.length≤300 - r.1∧Beg b r.2},fun r=>⟨[(0,cS),(1,ibP),(2,tI .i64 (k:Int)),(3,tI .i64 (g:Int)),(4,tI .i64 (b:Int)),(10,.r (.c (.ptr (48,0,0) 0))),(11,.r (.c (.ptr (117,0,0) 0))),(12,tI .i64 ((r.1.1:Int) - 1))],
  [((0,0,0),some (uG C r.1.2 (d - ((argsN C.p g - r.1.1:Nat):Int)) (48,0,2) (48,0,3))),((48,0,2),some (.dar 7 (itR (clr pd (r.1.2).items)) none)),((48,0,3),some (.arr false 1 (kY ins))),((0,1,0),some (ibB ⟨qf,qe,x.locals,qa,x.first,x.chain,qb⟩ (0,1,1))),((0,1,1),some (.arr false 1 (lv.map aa))),((48,0,0),some (.box [.t (.int .i64 (g:Int)),.t (.int .i64 (ye:Int)),.t (.lst 1 ((localsOf C.p (g:Int)).map ah)),.t (.int .i64 (argsN C.p g:Int)),.t (.int .i64 (bz C x)),.t (.lst 1 ((x.chain++[(k:Int)]).map aa)),.t (.int .i64 0),.own (48,0,1)])),((48,0,1),some (.arr false 1 [])),((117,0,0),some (ibB ⟨0,0,localsOf C.p (g:Int),0,bz C x,x.chain,0⟩ (117,0,1))),((117,0,1),some (.arr false 1 []))],[117,48,0]⟩,fun r=>r.1.1,⟨(argsN C.p g,s0),by dsimp only;omega,by rw[←hT1];simp,by dsimp only;rw[←z1];omega,hb0⟩,?_,?_⟩
 ·skip
  repeat' ((conv=>whnf);first|apply Wx|apply W6|apply oi|(apply fi<;>intro h)|refine⟨_,rfl,?_⟩|exact rfl)
  all_goals try exact⟨KP⟩
  all_goals try exact⟨congrArg (fun l=>itR (clr pd l)) z1⟩
  all_goals try exact⟨congrArg (Tr.int _) (by rw[em];exact z2)⟩
  all_goals try exact⟨KW⟩
 intro⟨⟨m,t⟩,hm,ht,htl,htb⟩
 dsimp only at hm ht htl htb ⊢
 cases m with
 | succ m=>
  have g1:=rn C pd t (d - ((argsN C.p g - (m+1):Nat):Int)) ins ⟨0,0,localsOf C.p (g:Int),0,bz C x,x.chain,0⟩ [] (bI C x k g) k m rfl rfl (by unfold bu;omega) (by dsimp only;omega) (hst htb) (by omega) (by show 0≤bz C x∧bz C x≤1000;omega) (by omega)
  rw[cF]at ht
  rw[show((m+1:Nat):Int) - 1=(m:Int) by omega]
  repeat' ((conv=>whnf);first|apply Wx|apply W6|refine cg g1 ?_|apply oi|(apply fi<;>intro h)|refine⟨_,rfl,?_⟩|exact rfl)
  all_goals try exact⟨KP⟩
  all_goals try exact KX
  conv=>whnf
  refine⟨⟨(m,dD C (bI C x k g) t (d - ((argsN C.p g - (m+1):Nat):Int)) m k x.chain),by dsimp only;omega,by rw[←ht];dsimp only;congr 1;omega,by dsimp only;simp only[dD,az,List.length_append,List.length_cons,List.length_nil];omega,by unfold dD;exact htb.emit ..⟩,?_,KD⟩
  repeat' ((conv=>whnf);first|apply Wx|apply W6|apply oi|(apply fi<;>intro h)|refine⟨_,rfl,?_⟩|exact rfl)
  all_goals try exact⟨KP⟩
  all_goals try exact⟨KW⟩
 | zero=>
  have e0:t=T1:=by rw[←ht];rfl
  subst e0
  have ed:d - ((argsN C.p g - 0:Nat):Int)=d - argsN C.p g:=by rw[Nat.sub_zero]
  rw[ed]
  obtain⟨T2,hT2⟩:∃T2,db C (bI C x k g) x.chain k (d - argsN C.p g) ((localsOf C.p (g:Int)).length - argsN C.p g) (argsN C.p g) t=T2:=⟨_,rfl⟩
  repeat' ((conv=>whnf);first|apply Wx|apply W6|apply oi|(apply fi<;>intro h)|refine⟨_,rfl,?_⟩|exact rfl)
  all_goals try exact⟨KP⟩
  all_goals try exact KX
  conv=>whnf
  refine⟨{r:Nat×Gs // r.1≤(localsOf C.p (g:Int)).length∧db C (bI C x k g) x.chain k (d - argsN C.p g) ((localsOf C.p (g:Int)).length - r.1) r.1 r.2=T2∧r.2.items.length≤400 - 2 * ((localsOf C.p (g:Int)).length - r.1)∧Beg b r.2},fun r=>⟨[(0,cS),(1,ibP),(2,tI .i64 (k:Int)),(3,tI .i64 (g:Int)),(4,tI .i64 (b:Int)),(10,.r (.c (.ptr (48,0,0) 0))),(11,.r (.c (.ptr (117,0,0) 0))),(13,tI .i64 (r.1.1:Int))],
   [((0,0,0),some (uG C r.1.2 (d - argsN C.p g) (48,0,2) (48,0,3))),((48,0,2),some (.dar 7 (itR (clr pd (r.1.2).items)) none)),((48,0,3),some (.arr false 1 (kY ins))),((0,1,0),some (ibB ⟨qf,qe,x.locals,qa,x.first,x.chain,qb⟩ (0,1,1))),((0,1,1),some (.arr false 1 (lv.map aa))),((48,0,0),some (.box [.t (.int .i64 (g:Int)),.t (.int .i64 (ye:Int)),.t (.lst 1 ((localsOf C.p (g:Int)).map ah)),.t (.int .i64 (argsN C.p g:Int)),.t (.int .i64 (bz C x)),.t (.lst 1 ((x.chain++[(k:Int)]).map aa)),.t (.int .i64 0),.own (48,0,1)])),((48,0,1),some (.arr false 1 [])),((117,0,0),some (ibB ⟨0,0,localsOf C.p (g:Int),0,bz C x,x.chain,0⟩ (117,0,1))),((117,0,1),some (.arr false 1 []))],[117,48,0]⟩,fun r=>(localsOf C.p (g:Int)).length - r.1.1,⟨(argsN C.p g,t),by dsimp only;omega,hT2,by dsimp only;omega,htb⟩,?_,?_⟩
  ·skip
   repeat' ((conv=>whnf);first|apply Wx|apply W6|apply oi|(apply fi<;>intro h)|refine⟨_,rfl,?_⟩|exact rfl)
   all_goals try exact⟨KP⟩
  intro⟨⟨i,u⟩,hi,hu,hul,hub⟩
  dsimp only at hi hu hul hub ⊢
  by_cases hil2:i < (localsOf C.p (g:Int)).length
  ·obtain⟨c,hc⟩:∃c,(localsOf C.p (g:Int)).length - i=c+1:=⟨(localsOf C.p (g:Int)).length - i - 1,by omega⟩
   rw[hc,db]at hu
   have g1:=bJ C pd u (d - argsN C.p g) ins ⟨qf,qe,x.locals,qa,x.first,x.chain,qb⟩ lv k 0 0 1 (by unfold bu;omega) (by dsimp only;omega) (hst hub) (by omega) (by omega)
   have g2:=rn C pd (az C u (d - argsN C.p g) 0 0 k x.chain) (d - argsN C.p g+1) ins ⟨0,0,localsOf C.p (g:Int),0,bz C x,x.chain,0⟩ [] (bI C x k g) k i rfl rfl (by unfold bu az;simp only[List.length_append,List.length_cons,List.length_nil];omega) (by dsimp only;omega) (hst (hub.emit ..)) (by omega) (by show 0≤bz C x∧bz C x≤1000;omega) (by omega)
   repeat' ((conv=>whnf);first|apply Wx|apply W6|refine cg g1 ?_|refine cg g2 ?_|apply oi|(apply fi<;>intro h)|refine⟨_,rfl,?_⟩|exact rfl)
   all_goals try exact⟨KP⟩
   all_goals try exact KX
   conv=>whnf
   refine⟨⟨(i+1,dD C (bI C x k g) (az C u (d - argsN C.p g) 0 0 k x.chain) (d - argsN C.p g+1) i k x.chain),by dsimp only;omega,by rw[←hu];dsimp only;rw[show(localsOf C.p (g:Int)).length - (i+1)=c by omega],by dsimp only;simp only[dD,az,List.length_append,List.length_cons,List.length_nil];omega,by unfold dD;exact(hub.emit ..).emit ..⟩,?_,KD⟩
   repeat' ((conv=>whnf);first|apply Wx|apply W6|apply oi|(apply fi<;>intro h)|refine⟨_,rfl,?_⟩|exact rfl)
   all_goals try exact⟨KP⟩
   all_goals try exact⟨KW⟩
  ·have hie:i=(localsOf C.p (g:Int)).length:=by omega
   subst hie
   rw[Nat.sub_self,db]at hu
   subst hu
   have hpre:ec C x k g d s=u:=by rw[ec,hs0,hT1,hT2]
   repeat' ((conv=>whnf);first|(with_reducible apply W1;fail_if_success (with_reducible show Wo _ _ _ _ (Code.seq (Code.region 15 _ _) _) _ _))|(with_reducible first|apply W2|apply W3|apply W4|apply W5|apply W6|apply W7|apply W8|apply W9)|apply bh|apply oi|(apply fi<;>intro h)|refine⟨_,rfl,?_⟩|exact rfl)
   all_goals try exact⟨KP⟩
   all_goals try exact KX
   conv=>whnf
   obtain⟨v,hv⟩:∃v,bQ C x k (d - argsN C.p g) u=v:=⟨_,rfl⟩
   have hvl:v.items.length≤500:=by rw[←hv,bQ];split <;> first|(simp[az];omega)|omega
   obtain⟨hvb,hvs⟩:=om (C:=C) (x:=x) (line:=k) (d:=d - argsN C.p g) hub
   rw[hv]at hvb hvs
   have hlen:=bD pd u.items
   refine iN Unit (fun _=>⟨[(0,cS),(1,ibP),(2,tI .i64 (k:Int)),(3,tI .i64 (g:Int)),(4,tI .i64 (b:Int)),(10,.r (.c (.ptr (48,0,0) 0)))],
    [((0,0,0),some (uG C v (d - argsN C.p g) (48,0,2) (48,0,3))),((48,0,2),some (.dar 7 (itR (clr pd (v).items)) none)),((48,0,3),some (.arr false 1 (kY ins))),((0,1,0),some (ibB ⟨qf,qe,x.locals,qa,x.first,x.chain,qb⟩ (0,1,1))),((0,1,1),some (.arr false 1 (lv.map aa))),((48,0,0),some (.box [.t (.int .i64 (g:Int)),.t (.int .i64 (ye:Int)),.t (.lst 1 ((localsOf C.p (g:Int)).map ah)),.t (.int .i64 (argsN C.p g:Int)),.t (.int .i64 (bz C x)),.t (.lst 1 ((x.chain++[(k:Int)]).map aa)),.t (.int .i64 0),.own (48,0,1)])),((48,0,1),some (.arr false 1 []))],[117,48,0]⟩) ?_ ?_
   ·have g3:=bJ C pd u (d - argsN C.p g) ins ⟨qf,qe,x.locals,qa,x.first,x.chain,qb⟩ lv k 15 0 0 (by unfold bu;omega) (by dsimp only;omega) (hst hub) (by omega) (by omega)
    unfold bQ at hv
    cases hst2:u.start with
    | true=>
     rw[if_pos hst2]at hv
     subst hv
     have hub2:=hub.2.1 hst2
     repeat' ((conv=>whnf);first|apply Wx|apply W6|refine cg g3 ?_|apply oi|(apply fi<;>intro h)|refine⟨_,rfl,?_⟩|exact rfl)
     all_goals try exact⟨KP⟩
     ·conv=>whnf
      refine⟨(),?_⟩
      repeat' ((conv=>whnf);first|apply Wx|apply W6|apply oi|(apply fi<;>intro h)|refine⟨_,rfl,?_⟩|exact rfl)
      all_goals try exact⟨KP⟩
      all_goals try exact⟨KW⟩
     ·exfalso;rw[hlen,hub2]at h;simp at h
    | false=>
     rw[if_neg (by simp[hst2])]at hv
     subst hv
     repeat' ((conv=>whnf);first|apply Wx|apply W6|refine cg g3 ?_|apply oi|(apply fi<;>intro h)|refine⟨_,rfl,?_⟩|exact rfl)
     all_goals try exact⟨KP⟩
     ·exfalso
      rw[hlen]at h
      have h9:=hub.2.2 (by have:=eq_of_beq h;omega)
      rw[hst2]at h9
      cases h9
     ·conv=>whnf
      refine⟨(),?_⟩
      repeat' ((conv=>whnf);first|apply Wx|apply W6|apply oi|(apply fi<;>intro h)|refine⟨_,rfl,?_⟩|exact rfl)
      all_goals try exact⟨KP⟩
      all_goals try exact⟨KW⟩
   intro _
   have hye:ko C.p (bI C x k g).f - (bI C x k g).f≤9:=by
    rw[ye4]
    show ye - g≤9
    omega
   have h3:=qW (n:=lev) (by omega)
   have hmul:=Nat.mul_le_mul hye (show 20 * cf lev+3≤20 * 8679837+3 by omega)
   have hvne:v.items.length≠b:=fun e=>by have:=hvb.2.2 e;rw[hvs]at this;cases this
   have hgL:=hL (bI C x k g) ⟨(g:Int),(ye:Int),localsOf C.p (g:Int),(argsN C.p g:Int),bz C x,x.chain++[(k:Int)],d - argsN C.p g⟩ (ins++[g]) pd v (d - argsN C.p g) hyS ⟨rfl,rfl,rfl,fun h=>(by cases h),hyS.out,fun h=>(by cases h)⟩ rfl (by rw[ye4]) rfl hvs (fun i hi=>by have:=hpl2 i hi;have:=hvb.1;omega) (by omega) (by rw[List.length_append,List.length_cons,List.length_nil];have h9:=hch;omega) q3 (by omega)
   rw[if_neg (by simp[bI])]at hgL
   have hgr2:=gZ (lev:=lev) (rep:=aX C lev) (fun line g d s hg hr=>cR hC lev line g d s hyS hg hr) hC hyS (d - argsN C.p g) v
   obtain⟨hlvl,hin2⟩:=wG (lev:=lev) (rep:=aX C lev) (fun line g d s hg hr=>cR hC lev line g d s hyS hg hr) hC hyS (d - argsN C.p g) v
   obtain⟨r,hr⟩:∃r,aU C (aX C lev) (bI C x k g) (ins++[g]) (d - argsN C.p g) v=r:=⟨_,rfl⟩
   rw[hr]at hgL hgr2 hlvl hin2
   have hrle:=hgr2.le
   have hil:(kY ins).length=ins.length:=by simp
   have hil2':(kY (ins++[g])).length=ins.length+1:=by simp
   have hw2:IntKind.i64.wrap (((kY (ins++[g])).length:Int) - 1)=(ins.length:Int):=by rw[hil2',IntWalk.i64_in _ (by omega)];omega
   have hle2:ins.length≤(kY (ins++[g])).length:=by omega
   have hcut:(kY (ins++[g])).take ins.length=kY ins:=by rw[←List.map_take,List.take_left' rfl]
   have hap:kY ins++[[Tr.int .i64 (g:Int)]]=kY (ins++[g]):=by simp[aa]
   have hrl:(r.2.map aa).length=r.2.length:=by simp
   have hfin:aX C (lev+1) x ins k g d s=⟨cz r.1.items r.1.items.length r.2,r.1.most,r.1.start⟩:=by
    show ia C (aU C (aX C lev)) x ins k g d s=_
    unfold ia
    rw[hpre,hv,hr]
   rw[hfin]
   repeat' ((conv=>whnf);first|apply Wx|apply W6|refine cg hgL ?_|apply oi|(apply fi<;>intro h)|refine⟨ins.length,hw2,hle2,?_⟩|refine⟨_,rfl,?_⟩|exact rfl)
   all_goals try exact⟨KP⟩
   all_goals try exact⟨⟨by rw[hil];simp <;> omega,by rw[hil];simp <;> omega⟩⟩
   all_goals try exact⟨hap⟩
   conv=>whnf
   refine⟨{j:Nat // j≤r.2.length},fun j=>⟨[(0,cS),(10,.r (.c (.ptr (48,0,0) 0))),(202,.r (.c (.own (48,0,1)))),(203,tI .i64 (r.2.length:Int)),(204,tI .i64 (j.1:Int))],
    [((0,0,0),some (uG C ⟨cz r.1.items r.1.items.length (r.2.take j.1),r.1.most,r.1.start⟩ (d - argsN C.p g+1) (48,0,2) (48,0,3))),((48,0,2),some (.dar 7 (itR (clr pd (cz r.1.items r.1.items.length (r.2.take j.1)))) none)),((48,0,3),some (.arr false 1 (kY ins))),((0,1,0),some (ibB ⟨qf,qe,x.locals,qa,x.first,x.chain,qb⟩ (0,1,1))),((0,1,1),some (.arr false 1 (lv.map aa))),((48,0,0),some (ibB ⟨(g:Int),(ye:Int),localsOf C.p (g:Int),(argsN C.p g:Int),bz C x,x.chain++[(k:Int)],d - argsN C.p g⟩ (48,0,1))),((48,0,1),some (.arr false 1 (r.2.map aa)))],[117,48,0]⟩,fun j=>r.2.length - j.1,⟨0,by omega⟩,?_,?_⟩
   ·skip
    repeat' ((conv=>whnf);first|apply Wx|apply W6|apply oi|(apply fi<;>intro h)|refine⟨_,rfl,?_⟩|exact rfl)
    all_goals try exact⟨KP⟩
    all_goals try exact⟨KW⟩
    all_goals try exact⟨congrArg (Tr.int _) (by rw[hrl])⟩
    all_goals try exact⟨hle2⟩
    all_goals try exact⟨hcut⟩
   intro⟨j,hj3⟩
   dsimp only at hj3 ⊢
   have hpl:=fy (r.1.items.length:Int) (r.2.take j) r.1.items
   have hil4:(itR (clr pd (cz r.1.items r.1.items.length (r.2.take j)))).length=r.1.items.length:=by rw[bD,hpl]
   by_cases hlj:j < r.2.length
   ·obtain⟨a,haj⟩:=ae hlj
    obtain⟨j1,j2⟩:=hin2 a (List.mem_of_getElem? haj)
    obtain⟨jn,rfl⟩:=Int.eq_ofNat_of_zero_le j1
    have hjl:jn < (itR (clr pd (cz r.1.items r.1.items.length (r.2.take j)))).length:=by rw[hil4];omega
    obtain⟨it,hit⟩:=ae (l:=clr pd (cz r.1.items r.1.items.length (r.2.take j))) (k:=jn) (by rw[nq,hpl];omega)
    have hnext:r.2.take (j+1)=r.2.take j++[(jn:Int)]:=by rw[List.take_add_one,haj];rfl
    have hps:=ml r.1.items.length (jn:Int) (r.2.take j) r.1.items
    have hjr:j < (r.2.map aa).length:=by omega
    repeat' ((conv=>whnf);first|apply Wx|apply W6|apply oi|(apply fi<;>intro h)|refine⟨j,rfl,hjr,?_⟩|refine⟨(aa jn),(ab haj),?_⟩|refine⟨jn,rfl,hjl,?_⟩|refine⟨_,(fj hit),?_⟩|refine⟨_,rfl,?_⟩|exact rfl)
    all_goals try exact⟨KP⟩
    all_goals try exact KX
    conv=>whnf
    refine⟨⟨j+1,by omega⟩,?_,KD⟩
    repeat' ((conv=>whnf);first|apply Wx|apply W6|apply oi|(apply fi<;>intro h)|refine⟨_,rfl,?_⟩|exact rfl)
    all_goals try exact⟨KP⟩
    all_goals try exact⟨KW⟩
    all_goals(refine⟨?_⟩;rw[hil4];dsimp only;rw[hnext,hps,nW,jw hit];rfl)
   ·have hje:j=r.2.length:=by omega
    subst hje
    rw[List.take_length]
    repeat' ((conv=>whnf);first|apply Wx|apply W6|apply oi|(apply fi<;>intro h)|refine⟨_,rfl,?_⟩|exact rfl)
    all_goals try exact⟨KP⟩
    all_goals try exact KX
    all_goals try exact⟨KW⟩
abbrev kI (n:Int):Tr:= .int .i64 n
theorem xh {a:Int}{q:Tr}(h:cj (kI a) q=true):∃k,q= .int k a:=by
 cases q with
 | int k n=>simp only[cj,beq_iff_eq]at h;exact⟨k,by rw[h]⟩
 | str s=>simp[cj]at h
 | bool b=>simp[cj]at h
 | lst sz rows=>simp[cj]at h
theorem vf {a b:Int}{q:Tr}(hab:a≠b)(h:cj (kI a) q=true):cj (kI b) q=false:=by
 obtain⟨k,rfl⟩:=xh h
 simp only[cj,beq_eq_false_iff_ne]
 exact fun e=>hab e.symm
theorem Bn (a b:Tr):cj a b=cj b a:=by
 cases a <;> cases b <;> first|rfl|(simp only[cj];rw[Bool.eq_iff_iff];simp only[beq_iff_eq];exact eq_comm)
theorem ue (a:Int):cj (kI a) (kI a)=true:=by simp[cj]
theorem fN (v:Int)(a:Int):∀es:List (Tr×Int),bB (ct es (kI a) v) (kI a)=some v
 | []=>by simp[bB,ct,jS,dS,cj]
 |(q,x)::r=>by
  have ih:=fN v a r
  unfold bB ct at ih ⊢
  rw[jS]
  cases h:cj (kI a) q with
  | true=>simp[dS,h]
  | false=>simp only[cond_false];rw[dS,h,cond_false];exact ih
theorem dk {a b:Int}(hab:a≠b)(v:Int):∀es:List (Tr×Int),bB (ct es (kI a) v) (kI b)=bB es (kI b)
 | []=>by
  simp only[bB,ct,jS,dS]
  rw[vf hab (ue a),cond_false]
 |(q,x)::r=>by
  have ih:=dk hab v r
  unfold bB ct at ih ⊢
  rw[jS]
  cases h:cj (kI a) q with
  | true=>simp only[cond_true];rw[dS,dS,vf hab h];rfl
  | false=>simp only[cond_false];rw[dS,dS,ih]
theorem pT {a b:Int}(hab:a≠b):∀es:List (Tr×Int),bB (gh es (kI a)) (kI b)=bB es (kI b)
 | []=>rfl
 |(q,x)::r=>by
  have ih:=pT hab r
  unfold bB gh at ih ⊢
  rw[nV]
  cases h:cj (kI a) q with
  | true=>simp only[cond_true];rw[dS,vf hab h,cond_false]
  | false=>simp only[cond_false];rw[dS,dS,ih]
def Uniq:List (Tr×Int)→Prop
 | []=>True
 |(q,_)::r=>(∀e∈r,cj q e.1=false)∧Uniq r
theorem rU {k:Tr}:∀{es:List (Tr×Int)},(∀e∈es,cj k e.1=false)→dS (cj k) es=none
 | [],_=>rfl
 |(q,x)::r,h=>by rw[dS,h (q,x) (by simp),cond_false];exact rU fun e he=>h e (by simp[he])
theorem mG {a:Int}:∀{es:List (Tr×Int)},Uniq es→bB (gh es (kI a)) (kI a)=none
 | [],_=>rfl
 |(q,x)::r,h=>by
  have ih:=mG (a:=a) h.2
  unfold bB gh at ih ⊢
  rw[nV]
  cases hq:cj (kI a) q with
  | true=>
   simp only[cond_true]
   refine rU fun e he=>?_
   obtain⟨k,rfl⟩:=xh hq
   have:=h.1 e he
   cases e with
   | mk e1 e2=>
    cases e1 <;> simp_all[cj]
  | false=>simp only[cond_false];rw[dS,hq,cond_false];exact ih
theorem uQ {k key:Tr}{v:Int}(hk:cj k key=true):∀(es:List (Tr×Int)) (q:Tr),(∀e∈es,cj q e.1=false)→cj q key=false→∀e∈jS (cj k) key v es,cj q e.1=false
 | [],q,_,hq,e,he=>by
  simp only[jS,List.mem_cons,List.not_mem_nil,or_false]at he
  subst he;exact hq
 |(q2,x)::r,q,h,hq,e,he=>by
  rw[jS]at he
  cases hb:cj k q2 with
  | true=>
   rw[hb,cond_true]at he
   rcases List.mem_cons.1 he with rfl|he
   ·exact h (q2,x) (by simp)
   ·exact h e (by simp[he])
  | false=>
   rw[hb,cond_false]at he
   rcases List.mem_cons.1 he with rfl|he
   ·exact h (q2,x) (by simp)
   ·exact uQ hk r q (fun e he=>h e (by simp[he])) hq e he
theorem Uniq.put {a:Int}{v:Int}:∀{es:List (Tr×Int)},Uniq es→Uniq (ct es (kI a) v)
 | [],_=>by unfold ct jS;exact⟨fun e he=>(by cases he),trivial⟩
 |(q,x)::r,h=>by
  have ih:=Uniq.put (a:=a) (v:=v) h.2
  unfold ct at ih ⊢
  rw[jS]
  cases hb:cj (kI a) q with
  | true=>exact⟨h.1,h.2⟩
  | false=>exact⟨uQ (ue a) r q h.1 (by rw[Bn];exact hb),ih⟩
theorem xp {f:Tr→Bool}:∀{es:List (Tr×Int)} {e:Tr×Int},e∈nV f es→e∈es
 | [],_,h=>h
 |(q,x)::r,e,h=>by
  rw[nV]at h
  cases hb:f q with
  | true=>rw[hb,cond_true]at h;exact List.mem_cons_of_mem _ h
  | false=>
   rw[hb,cond_false]at h
   rcases List.mem_cons.1 h with rfl|h
   ·simp
   ·exact List.mem_cons_of_mem _ (xp h)
theorem Uniq.del {k:Tr}:∀{es:List (Tr×Int)},Uniq es→Uniq (gh es k)
 | [],_=>trivial
 |(q,x)::r,h=>by
  have ih:=Uniq.del (k:=k) h.2
  unfold gh at ih ⊢
  rw[nV]
  cases hb:cj k q with
  | true=>exact h.2
  | false=>exact⟨fun e he=>h.1 e (xp he),ih⟩
structure MapOk (C:Cx) (x:Sc) (k:Nat) (pos heads:List Int) (zs os fs:List (Tr×Int)):Prop where
 uniq:Uniq zs
 zero:∀i:Nat,x.f < i→i < k→(cm C.p i=3∨cm C.p i=5)→bB zs (kI i)=(match elseAt C.p i with|some j=>if j < k then none else some (atL pos i)|none=>some (atL pos i))
 over:∀i:Nat,x.f < i→i < k→(cm C.p i=3∨cm C.p i=5)→bB os (kI i)=(match elseAt C.p i with|some j=>if j < k then some (atL pos j)else none|none=>none)
 fresh:∀i:Nat,k≤i→bB os (kI i)=none
 first:∀i:Nat,x.f < i→i < k→cm C.p i=5→bB fs (kI i)=some (atL heads i)
section
variable {C:Cx} {x:Sc} {ins:List Nat} {k e:Nat} {pos heads:List Int} {zs os fs:List (Tr×Int)}
theorem th {p:List HH}{i k:Nat}{j:Nat}(h:elseAt p i=some j)(hk:cm p k≠4):j≠k:=by
 rintro rfl
 obtain⟨_,_,_,_,_,_,_,y,hy,h4⟩:=aY h
 exact hk (by rw[bp hy];exact h4)
theorem MapOk.plain (h:MapOk C x k pos heads zs os fs)(hk:cm C.p k≠3∧cm C.p k≠4∧cm C.p k≠5)(hd:Int)(v:Int):MapOk C x (k+1) pos (heads.set k hd) zs os (ct fs (kI k) v):=by
 refine⟨h.uniq,fun i h1 h2 h3=>?_,fun i h1 h2 h3=>?_,fun i h1=>h.fresh i (by omega),fun i h1 h2 h3=>?_⟩
 ·have hik:i≠k:=fun e=>by subst e;omega
  rw[h.zero i h1 (by omega) h3]
  cases he:elseAt C.p i with
  | none=>rfl
  | some j=>
   have:=th he hk.2.1
   dsimp only
   by_cases hj:j < k
   ·rw[if_pos hj,if_pos (by omega)]
   ·rw[if_neg hj,if_neg (by omega)]
 ·have hik:i≠k:=fun e=>by subst e;omega
  rw[h.over i h1 (by omega) h3]
  cases he:elseAt C.p i with
  | none=>rfl
  | some j=>
   have:=th he hk.2.1
   dsimp only
   by_cases hj:j < k
   ·rw[if_pos hj,if_pos (by omega)]
   ·rw[if_neg hj,if_neg (by omega)]
 ·have hik:i≠k:=fun e=>by subst e;omega
  rw[dk (by omega),eM hik]
  exact h.first i h1 (by omega) h3
theorem MapOk.opens (h:MapOk C x k pos heads zs os fs)(hk:cm C.p k=3∨cm C.p k=5)(hp:k < pos.length)(hh:k < heads.length)(pv hd:Int):MapOk C x (k+1) (pos.set k pv) (heads.set k hd) (ct zs (kI k) pv) os (ct fs (kI k) hd):=by
 have helse:∀j,elseAt C.p k=some j→k < j:=fun j hj=>by obtain⟨_,_,_,_,_,h,_⟩:=aY hj;exact h
 refine⟨h.uniq.put,fun i h1 h2 h3=>?_,fun i h1 h2 h3=>?_,fun i h1=>h.fresh i (by omega),fun i h1 h2 h3=>?_⟩
 ·by_cases hik:i=k
  ·subst hik
   rw[fN,gQ hp]
   cases he:elseAt C.p i with
   | none=>rfl
   | some j=>dsimp only;rw[if_neg (by have:=helse j he;omega)]
  ·rw[dk (by omega),h.zero i h1 (by omega) h3,eM hik]
   cases he:elseAt C.p i with
   | none=>rfl
   | some j=>
    have:=th (k:=k) he (by omega)
    dsimp only
    by_cases hj:j < k
    ·rw[if_pos hj,if_pos (by omega)]
    ·rw[if_neg hj,if_neg (by omega)]
 ·by_cases hik:i=k
  ·subst hik
   rw[h.fresh i (Nat.le_refl _)]
   cases he:elseAt C.p i with
   | none=>rfl
   | some j=>dsimp only;rw[if_neg (by have:=helse j he;omega)]
  ·rw[h.over i h1 (by omega) h3]
   cases he:elseAt C.p i with
   | none=>rfl
   | some j=>
    have:=th (k:=k) he (by omega)
    dsimp only
    rw[eM this]
    by_cases hj:j < k
    ·rw[if_pos hj,if_pos (by omega)]
    ·rw[if_neg hj,if_neg (by omega)]
 ·by_cases hik:i=k
  ·subst hik
   rw[fN,gQ hh]
  ·rw[dk (by omega),eM hik]
   exact h.first i h1 (by omega) h3
theorem MapOk.else (h:MapOk C x k pos heads zs os fs)(hk:cm C.p k=4)(ho:elseAt C.p (aI C.p k)=some k)(ho1:aI C.p k < k)(hp:k < pos.length)(pv v:Int):MapOk C x (k+1) (pos.set k pv) heads (gh zs (kI (aI C.p k:Int))) (ct os (kI (aI C.p k:Int)) pv) (ct fs (kI k) v):=by
 have huq:∀i j,elseAt C.p i=some j→i≠aI C.p k→j≠k:=fun i j hj hi e=>by subst e;exact hi (kZ hj ho)
 refine⟨h.uniq.del,fun i h1 h2 h3=>?_,fun i h1 h2 h3=>?_,fun i h1=>?_,fun i h1 h2 h3=>?_⟩
 ·have hik:i≠k:=fun e=>by subst e;omega
  by_cases hio:i=aI C.p k
  ·subst hio
   rw[mG h.uniq,ho]
   dsimp only
   rw[if_pos (by omega)]
  ·rw[pT (by omega),h.zero i h1 (by omega) h3,eM hik]
   cases he:elseAt C.p i with
   | none=>rfl
   | some j=>
    have:=huq i j he hio
    dsimp only
    by_cases hj:j < k
    ·rw[if_pos hj,if_pos (by omega)]
    ·rw[if_neg hj,if_neg (by omega)]
 ·have hik:i≠k:=fun e=>by subst e;omega
  by_cases hio:i=aI C.p k
  ·subst hio
   rw[fN,ho]
   dsimp only
   rw[if_pos (by omega),gQ hp]
  ·rw[dk (by omega),h.over i h1 (by omega) h3]
   cases he:elseAt C.p i with
   | none=>rfl
   | some j=>
    have:=huq i j he hio
    dsimp only
    rw[eM this]
    by_cases hj:j < k
    ·rw[if_pos hj,if_pos (by omega)]
    ·rw[if_neg hj,if_neg (by omega)]
 ·rw[dk (by omega)]
  exact h.fresh i (by omega)
 ·have hik:i≠k:=fun e=>by subst e;omega
  rw[dk (by omega)]
  exact h.first i h1 (by omega) h3
theorem MapOk.end (h:MapOk C x k pos heads zs os fs)(hk:cm C.p k=7)(v:Int):MapOk C x (k+1) pos heads zs os (ct fs (kI k) v):=by
 have h':=h.plain (by omega) (atL heads k) v
 refine⟨h'.uniq,h'.zero,h'.over,h'.fresh,fun i h1 h2 h3=>?_⟩
 have hik:i≠k:=fun e=>by subst e;omega
 rw[h'.first i h1 h2 h3,eM hik]
theorem MapOk.exit (h:MapOk C x k pos heads zs os fs){i:Nat}(hi:aI C.p k=i)(h1:x.f < i)(h2:i < k)(hk:cm C.p i=3∨cm C.p i=5)(hj:∀j,elseAt C.p i=some j→j < k):
  (bB zs (kI i)=some (atL pos (ik C.p k))∧bB os (kI i)=none)∨(bB zs (kI i)=none∧bB os (kI i)=some (atL pos (ik C.p k))):=by
 have hz:=h.zero i h1 h2 hk
 have ho:=h.over i h1 h2 hk
 unfold ik
 rw[hi]
 cases he:elseAt C.p i with
 | none=>rw[he]at hz ho;exact .inl ⟨hz,ho⟩
 | some j=>
  rw[he]at hz ho
  dsimp only at hz ho ⊢
  rw[if_pos (hj j he)]at hz ho
  exact .inr ⟨hz,ho⟩
end
abbrev mpV (o:Sim.Id):AV:= .r (.c (.mpv o))
abbrev mpH (zs os fs:List (Tr×Int)):List (Sim.Id×AO):=[((0,2,0),.mp (some .i64) zs),((0,2,1),.mp (some .i64) os),((0,2,2),.mp (some .i64) fs)]
theorem ul (C:Cx)(hC:CxOk C)(pd:List Nat)(s:Gs)(d:Int)(ins:List Nat)(q:Ib)(lv:List Int)(x:Sc)(hq:IbOk C x q)(k g:Nat)(hg:bG C g)(zs os fs:List (Tr×Int))(h1:s.items.length+2≤68719476736)(h2:x.chain.length≤100)(h3:s.start=true→s.items.length∈pd)(h4:-1000≤d∧d≤1990)(hlv:lv.length≤68719476736)(hd p:List Int):
  aV Tryz.prog 273 [cS,ibP,tI .i64 (k:Int),tI .i64 (g:Int),mpV (0,2,0),mpV (0,2,1),mpV (0,2,2)] (iH (0,0,1) (0,0,2) (0,1,1) C pd s d ins q lv++mpH zs os fs) (.tup [])
   (iH (1,0,1) (0,0,2) (1,1,1) C pd (aR C x k true (d+1) ⟨az C s d 0 0 k x.chain,hd,p,lv⟩).g (if x.outer=true then d else d+1) ins q (aR C x k true (d+1) ⟨az C s d 0 0 k x.chain,hd,p,lv⟩).lv++mpH zs os fs):=by
 refine aj hΓ ay Tryz.func273 rfl (by decide) rfl rfl ?_
 obtain⟨y,hy,hy0⟩:=hg
 have g1:=bJ C pd s d ins q lv k 0 0 1 (by unfold bu;omega) (by rw[hq.chain];exact h2) h3 (by omega) (by omega)
 rw[hq.chain]at g1
 have g2:=pG C hC pd (az C s d 0 0 k x.chain) (d+1) ins q lv x hq k true (by unfold bu az;simp only[List.length_append,List.length_cons,List.length_nil];omega) h2 (fun h=>by cases h) (by omega) hlv hd p
 have hdd:(if x.outer=false∧true=true then d+1 else d+1 - 1)=if x.outer=true then d else d+1:=by
  cases x.outer
  ·rw[if_pos ⟨rfl,rfl⟩,if_neg (by simp)]
  ·rw[if_neg (by simp),if_pos rfl];omega
 rw[hdd]at g2
 repeat' ((conv=>whnf);first|apply Wx|apply W6|refine cg g1 ?_|refine cg g2 ?_|apply oi|(apply fi<;>intro h)|refine⟨g,y.tr,rfl,ab hy,?_⟩|refine⟨_,rfl,?_⟩|exact rfl)
 all_goals try exact⟨KP⟩
 all_goals try exact KK
theorem sC (C:Cx)(hC:CxOk C)(pd:List Nat)(s:Gs)(d:Int)(ins:List Nat)(q:Ib)(lv:List Int)(x:Sc)(hq:IbOk C x q)(k g:Nat)(y:HH)(hy:C.p[g]?=some y)(hk:y.faa=3∨y.faa=5)(zs os fs:List (Tr×Int))(j:Nat)(hd:Int)
  (hm:(bB zs (kI g)=some (j:Int)∧bB os (kI g)=none)∨(bB zs (kI g)=none∧bB os (kI g)=some (j:Int))) (hf:y.faa=5→bB fs (kI g)=some hd) (hj:j < s.items.length) (h1:s.items.length+2≤68719476736) (h2:x.chain.length≤100) (h3:s.start=true→s.items.length∈pd) (h4:-1000≤d∧d≤1990) (hlv:lv.length≤68719476736) (s1:Gs) (hs1:s1=if y.faa=5 then az C s d 10 hd k x.chain else s):
  aV Tryz.prog 273 [cS,ibP,tI .i64 (k:Int),tI .i64 (g:Int),mpV (0,2,0),mpV (0,2,1),mpV (0,2,2)] (iH (0,0,1) (0,0,2) (0,1,1) C pd s d ins q lv++mpH zs os fs) (.tup [])
   (iH (1,0,1) (0,0,2) (0,1,1) C pd ⟨bN s1.items j s1.items.length,s1.most,s1.start⟩ d ins q lv++mpH zs os fs):=by
 refine aj hΓ ay Tryz.func273 rfl (by decide) rfl rfl ?_
 have hl1:j < s1.items.length:=by rw[hs1];split <;> first|(simp[az];omega)|omega
 have hil:=bD pd s1.items
 have hjl:j < (itR (clr pd s1.items)).length:=by omega
 obtain⟨it,hit⟩:=ae (l:=clr pd s1.items) (k:=j) (by rw[nq];exact hl1)
 have hfin:itR (clr pd (bN s1.items j s1.items.length))=(itR (clr pd s1.items)).set j [.d (.int .i64 it.fae.fab),.d (.int .i64 (s1.items.length:Int)),.d (.int .i64 it.fam),.d (.bool it.fah),.d (.lst 1 (it.fap.map aa)),.d (.int .i64 it.faq),.d (.bool it.fat)]:=by rw[nW,jw hit]
 have hne:¬y.faa=0:=by omega
 by_cases h5:y.faa=5
 ·rw[if_pos h5]at hs1
  have hf5:=hf h5
  have g1:=bJ C pd s d ins q lv k 10 hd 0 (by unfold bu;omega) (by rw[hq.chain];exact h2) h3 (by omega) (by omega)
  rw[hq.chain,←hs1,Int.add_zero]at g1
  have hfv:kD (bB fs (kI g))=hd:=by rw[hf5];rfl
  rw[←hfv]at g1
  rcases hm with⟨m1,m2⟩|⟨m1,m2⟩
  ·have hv:kD (bB zs (kI g))=(j:Int):=by rw[m1];rfl
   repeat' ((conv=>whnf);first|apply Wx|apply W6|refine cg g1 ?_|apply oi|(apply fi<;>intro h)|refine⟨g,y.tr,rfl,ab hy,?_⟩|refine⟨j,hv,hjl,?_⟩|refine⟨_,(fj hit),?_⟩|refine⟨_,rfl,?_⟩|exact rfl)
   all_goals try exact⟨KP⟩
   all_goals try(exfalso;(simp only[m1,m2,Option.isSome_some,Option.isSome_none,Bool.false_eq_true,Bool.true_eq_false,beq_iff_eq,beq_eq_false_iff_ne,ne_eq]at *) <;> first|omega|contradiction)
   all_goals(refine⟨?_⟩;rw[hil,hfin];rfl)
  ·have hv:kD (bB os (kI g))=(j:Int):=by rw[m2];rfl
   repeat' ((conv=>whnf);first|apply Wx|apply W6|refine cg g1 ?_|apply oi|(apply fi<;>intro h)|refine⟨g,y.tr,rfl,ab hy,?_⟩|refine⟨j,hv,hjl,?_⟩|refine⟨_,(fj hit),?_⟩|refine⟨_,rfl,?_⟩|exact rfl)
   all_goals try exact⟨KP⟩
   all_goals try(exfalso;(simp only[m1,m2,Option.isSome_some,Option.isSome_none,Bool.false_eq_true,Bool.true_eq_false,beq_iff_eq,beq_eq_false_iff_ne,ne_eq]at *) <;> first|omega|contradiction)
   all_goals(refine⟨?_⟩;rw[hil,hfin];rfl)
 ·rw[if_neg h5]at hs1
  subst hs1
  rcases hm with⟨m1,m2⟩|⟨m1,m2⟩
  ·have hv:kD (bB zs (kI g))=(j:Int):=by rw[m1];rfl
   repeat' ((conv=>whnf);first|apply Wx|apply W6|apply oi|(apply fi<;>intro h)|refine⟨g,y.tr,rfl,ab hy,?_⟩|refine⟨j,hv,hjl,?_⟩|refine⟨_,(fj hit),?_⟩|refine⟨_,rfl,?_⟩|exact rfl)
   all_goals try exact⟨KP⟩
   all_goals try(exfalso;(simp only[m1,m2,Option.isSome_some,Option.isSome_none,Bool.false_eq_true,Bool.true_eq_false,beq_iff_eq,beq_eq_false_iff_ne,ne_eq]at *) <;> first|omega|contradiction)
   all_goals(refine⟨?_⟩;rw[hil,hfin];rfl)
  ·have hv:kD (bB os (kI g))=(j:Int):=by rw[m2];rfl
   repeat' ((conv=>whnf);first|apply Wx|apply W6|apply oi|(apply fi<;>intro h)|refine⟨g,y.tr,rfl,ab hy,?_⟩|refine⟨j,hv,hjl,?_⟩|refine⟨_,(fj hit),?_⟩|refine⟨_,rfl,?_⟩|exact rfl)
   all_goals try exact⟨KP⟩
   all_goals try(exfalso;(simp only[m1,m2,Option.isSome_some,Option.isSome_none,Bool.false_eq_true,Bool.true_eq_false,beq_iff_eq,beq_eq_false_iff_ne,ne_eq]at *) <;> first|omega|contradiction)
   all_goals(refine⟨?_⟩;rw[hil,hfin];rfl)
theorem Dr {pd:List Nat}{l:List HG}:clr (l.length::pd) l=clr pd l:=by
 apply List.ext_getElem?
 intro i
 rw[fo,fo]
 cases hx:l[i]? with
 | none=>rfl
 | some x=>
  have:=aM hx
  simp only[Option.map_some,jC,List.contains_cons]
  rw[show(i==l.length)=false by simp;omega,Bool.false_or]
theorem pg {pd:List Nat}{l:List HG}{n:Nat}{it:HG}(hx:l[n]?=some it)(hs:it.fah=true)(hn:n∉pd):(itR (clr (n::pd) l)).set n [.d (.int .i64 it.fae.fab),.d (.int .i64 it.fae.fak),.d (.int .i64 it.fam),.d (.bool true),.d (.lst 1 (it.fap.map aa)),.d (.int .i64 it.faq),.d (.bool it.fat)]=itR (clr pd l):=by
 have h1:clr pd l=(clr (n::pd) l).set n it:=by
  apply List.ext_getElem?
  intro i
  rw[List.getElem?_set,nq,fo,fo]
  by_cases h:n=i
  ·subst h
   rw[if_pos rfl,if_pos (aM hx),hx]
   simp only[Option.map_some,jC]
   rw[if_neg (by simpa using hn)]
  ·rw[if_neg h]
   cases l[i]? with
   | none=>rfl
   | some y=>
    simp only[Option.map_some,jC,List.contains_cons]
    rw[show(i==n)=false by simp;omega,Bool.false_or]
 rw[h1]
 simp only[itR,ax,List.map_set]
 congr 1
 simp[HG.tr,hs]
theorem EG {C:Cx}(hC:CxOk C){lev:Nat}{x:Sc}{ins:List Nat}(hx:ScOk C x ins)(hlev:((lev+(ins.length - 1):Nat):Int)=C.b.fal){line b:Nat}:∀(e:Ex) {d:Int} {s:Gs},(∀t∈e.toks,t.faa=7→∃f,findN C.p 0 t.fac=some f)→Beg b s→(eb C (aX C lev) x ins line e d s).start=false
 | .node t es,d,s,hca,hb=>by
  rw[eb]
  have hb2:=mV (C:=C) (x:=x) (ins:=ins) (line:=line) (rep:=aX C lev) (fun g d s hg hr hb=>yQ hC lev line g d s hx hg hr hb) es d hb
  obtain⟨s1,hs1⟩:∃s1,dt C (aX C lev) x ins line es d s=s1:=⟨_,rfl⟩
  rw[hs1]at hb2 ⊢
  unfold jy
  split
  ·rfl
  ·split
   ·rfl
   ·split
    ·rename_i h7
     obtain⟨f,hf⟩:=hca t (by simp[Ex.toks]) h7
     rw[hf]
     dsimp only
     split
     ·rename_i hr
      obtain⟨r1,_⟩:=eA hr
      have hc:=hx.chain
      obtain⟨m,rfl⟩:∃m,lev=m+1:=⟨lev - 1,by omega⟩
      exact Ev hb2
     ·rfl
    ·rfl
theorem AP {C:Cx}(hC:CxOk C){lev:Nat}(hE:GK C lev):ta C lev:=by
 intro x q ins pd s d hx hq hqf hqe hqb hst hpd hroom hlev hd0 hd1
 refine aj hΓ ay Tryz.func257 rfl (by decide) rfl rfl ?_
 obtain⟨e,he,hfe,hel,hen,hll⟩:=hx.endE hC
 rw[hen]at hqe hroom
 have h60:=hC.len
 have hin:=hC.inl
 have hchn:=hx.chain
 have h3:=qW (n:=lev) (by omega)
 have hch:x.chain.length≤100:=by omega
 have hch':q.chain.length≤100:=by rw[hq.chain];exact hch
 have hxf:0≤x.first∧x.first≤1000:=by have:=hx.first;omega
 have gO:=vY C.p h60
 have hol:=oQ C.p C.p.length
 obtain⟨R,hR⟩:∃R,jX C (aX C lev) x ins d (e+1 - (x.f+1)) (x.f+1) (cq C s)=R:=⟨_,rfl⟩
 have hfin:aU C (aX C lev) x ins d s=(R.g,R.lv):=by
  unfold aU
  rw[hen,show e - x.f=e+1 - (x.f+1) by omega,hR]
 rw[hfin]
 have hI0:LInv C lev x ins d e R (x.f+1) (cq C s):=⟨Nat.le_refl _,by omega,by simp[cq],by simp[cq],fun i h1 h2=>by omega,⟨by simp[cq],fun j hj=>by simp[cq]at hj⟩,by rw[show e+1 - (x.f+1)=e - x.f by omega];exact hroom,hR⟩
 have hM0:MapOk C x (x.f+1) (cq C s).pos (cq C s).heads [] [] []:=⟨trivial,fun i h1 h2=>by omega,fun i h1 h2=>by omega,fun i _=>rfl,fun i h1 h2=>by omega⟩
 repeat' ((conv=>whnf);first|apply Wx|apply W6|apply oi|(apply fi<;>intro h)|refine cl gO ?_|refine⟨_,rfl,?_⟩|exact rfl)
 all_goals try exact⟨KP⟩
 conv=>whnf
 refine⟨{r:(Nat×Ls×Int)×(List (Tr×Int)×List (Tr×Int)×List (Tr×Int)) // LInv C lev x ins d e R r.1.1 r.1.2.1∧MapOk C x r.1.1 r.1.2.1.pos r.1.2.1.heads r.2.1 r.2.2.1 r.2.2.2∧(r.1.1=e+1→r.1.2.2=if x.outer=true then d else d+1)∧s.items.length≤r.1.2.1.g.items.length∧r.1.2.1.g.start=false},
  fun r=>⟨[(0,cS),(1,ibP),(4,.r (.c (.own (15,0,0)))),(5,mpV (16,0,0)),(6,mpV (17,0,0)),(7,mpV (18,0,0)),(8,tI .i64 (r.1.1.1:Int))],
   [(
    (0,0,0),some (uG C r.1.1.2.1.g r.1.1.2.2 (15,0,1) (15,0,2))),((15,0,1),some (.dar 7 (itR (clr pd r.1.1.2.1.g.items)) none)),((15,0,2),some (.arr false 1 (kY ins))),((0,1,0),some (ibB q (15,0,3))),((15,0,3),some (.arr false 1 (r.1.1.2.1.lv.map aa))),((15,0,0),some (.arr true 1 ((kc C.p C.p.length).map aa))),
    ((16,0,0),some (.mp (some .i64) r.1.2.1)),((17,0,0),some (.mp (some .i64) r.1.2.2.1)),((18,0,0),some (.mp (some .i64) r.1.2.2.2))],[18,17,16,15,0]⟩,
  fun r=>e+1 - r.1.1.1,⟨((x.f+1,cq C s,d),([],[],[])),hI0,hM0,fun h=>by dsimp only at h;omega,Nat.le_refl _,hst⟩,?_,?_⟩
 ·skip
  repeat' ((conv=>whnf);first|apply Wx|apply W6|apply oi|(apply fi<;>intro h)|refine⟨_,rfl,?_⟩|exact rfl)
  all_goals try exact⟨KP⟩
  all_goals try exact⟨KW⟩
 intro⟨⟨⟨k,L,dep⟩,⟨zs,os,fs⟩⟩,hI,hM,hdep,hgs,hL0⟩
 dsimp only at hI hM hdep hgs hL0 ⊢
 by_cases hke:k≤e
 ·obtain⟨ln,hl⟩:=ae (l:=C.p) (k:=k) (by omega)
  have h0:=jN hC hx he hI.lo hke hl
  obtain⟨hk0,hk7,_,h20,hexp⟩:=hC.line _ _ hl
  obtain⟨hsh,hnm⟩:=lr hC hl
  have hkf:=hI.lo
  have hIr:=hI.room
  have hIh:=hI.heads
  have hIp:=hI.pos
  have hlvl:=hI.lv.1
  have hkk:=bp hl
  have hIroom:L.g.items.length+20 * cf lev+3≤68719476736:=by
   obtain⟨n,hn⟩:∃n,e+1 - k=n+1:=⟨e - k,by omega⟩
   rw[hn,Nat.add_mul]at hIr
   omega
  obtain⟨A,hA⟩:∃A,dI C (aX C lev) x ins d k ln L=A:=⟨_,rfl⟩
  have hrepG:∀line g d s,bG C g→cb C ins g s.items.length=true→Grow (cf lev) s (aX C lev x ins line g d s):=fun line g d s hg hr=>cR hC lev line g d s hx hg hr
  have hN:=LInv.next hC hx he hI hke hl
  have hAo:A.g.start=false:=by rw[←hA];exact wJ hL0
  have hAg:=(li (x:=x) (ins:=ins) (rep:=aX C lev) (lev:=lev) hrepG hC hl h0 d L).ge
  rw[hA]at hN hAg
  obtain⟨b1,b2,b3,b4,b5,b6⟩:=ot (C:=C) (x:=x) k ln A
  have hBo:(aW C x k ln A).g.start=false:=by rw[b6];exact hAo
  have hsg:s.items.length≤(aW C x k ln A).g.items.length:=by rw[b4];omega
  have hitl:=bD pd L.g.items
  have hro:bu L.g:=by unfold bu;omega
  have hpdn:∀i∈pd,i < L.g.items.length:=fun i hi=>by have:=hpd i hi;omega
  have gH:=mc ln.faa
  have hpk:k < L.pos.length:=by omega
  have hhk:k < L.heads.length:=by omega
  have hown:∀i:Nat,(endAt C.p i=some k∨elseAt C.p i=some k)→((kc C.p C.p.length).map aa)[k]?=some (aa (i:Int)):=fun i hi=>by
   have hi2:i < C.p.length:=by
    rcases hi with h|h
    ·obtain⟨_,hx,_⟩:=aF h;exact aM hx
    ·obtain⟨_,_,hx,_⟩:=aY h;exact aM hx
   rw[List.getElem?_map,zp hi (by omega) _ hi2]
   rfl
  have hkol:k < ((kc C.p C.p.length).map aa).length:=by rw[List.length_map,hol];omega
  have hkne:ln.faa≠7→k < e:=fun h=>by
   rcases Nat.lt_or_eq_of_le hke with h'|h'
   ·exact h'
   ·subst h'
    obtain⟨z,hz,hz7⟩:=bC he
    rw[hl]at hz
    injection hz with hz
    subst hz
    exact absurd hz7 h
  have hcalls:ln.faa≠7→nc C ln.fad:=fun h=>by
   obtain⟨l0,q1,q2⟩:=hx.fn
   obtain⟨e',q3,_,_,q4⟩:=hC.fn _ _ q1 q2
   rw[he]at q3
   injection q3 with q3
   subst q3
   exact(q4 k ln (by omega) (hkne h) hl).2.1
  obtain⟨g1,hg1⟩:∃g1,eb C (aX C lev) x ins k (exL ln.fad) d ⟨L.g.items,L.g.most,true⟩=g1:=⟨_,rfl⟩
  have hbeg:Beg L.g.items.length (⟨L.g.items,L.g.most,true⟩:Gs):=⟨Nat.le_refl _,⟨fun _=>rfl,fun _=>rfl⟩⟩
  have hX:br ln.fad=true→ln.faa≠7→aV Tryz.prog 270 [cS,ibP,tI .i64 (k:Int),.r (.c (.t (.lst 3 (ln.fad.map HP.tr)))),tI .i64 (0:Int),tI .i64 (L.g.items.length:Int)] (iH (0,0,1) (0,0,2) (0,1,1) C (L.g.items.length::pd) ⟨L.g.items,L.g.most,true⟩ d ins q L.lv) (.tup []) (iH (1,0,1) (1,0,2) (0,1,1) C (L.g.items.length::pd) g1 (d+1) ins q L.lv):=fun hx1 hx7=>by
   obtain⟨eo,et⟩:=qS hx1
   have h20':(exL ln.fad).toks.length≤20:=by rw[←et];exact h20
   have hmu:=Nat.mul_le_mul_right (cf lev) h20'
   have:=hE (exL ln.fad) x q ins (L.g.items.length::pd) L.lv k 0 L.g.items.length ln ⟨L.g.items,L.g.most,true⟩ d eo hl ⟨[],by rw[List.drop_zero,List.append_nil];exact et⟩ (hcalls hx7) ⟨hx,hq,⟨by dsimp only;omega,hlev,hd0,by omega⟩,hbeg,by simp,fun i hi=>by
    rcases List.mem_cons.1 hi with rfl|hi
    ·exact Nat.le_refl _
    ·have:=hpdn i hi;omega⟩
   rw[hg1]at this
   exact this
  have hGr:br ln.fad=true→ln.faa≠7→g1.items.length≤L.g.items.length+20 * cf lev∧g1.start=false∧∃it,g1.items[L.g.items.length]?=some it∧it.fah=true:=fun hx1 hx7=>by
   have:=(kS (x:=x) (ins:=ins) (rep:=aX C lev) (line:=k) (lev:=lev) (fun g d s hg hr=>cR hC lev k g d s hx hg hr) hC hl hx1 d ⟨L.g.items,L.g.most,true⟩).le
   have et:=(qS hx1).2
   have ho:=EG hC hx hlev (line:=k) (exL ln.fad) (d:=d) (by rw[←et];exact fun t ht h7=>by obtain⟨f,hf,_⟩:=hcalls hx7 t ht h7;exact⟨f,hf⟩) hbeg
   have hm:=wL (C:=C) (rep:=aX C lev) (b:=L.g.items.length) (fun x ins line g d s h=>CT lev x ins line g d s h) x ins k (exL ln.fad) d ⟨L.g.items,L.g.most,true⟩ (.inl ⟨rfl,rfl⟩)
   rw[hg1]at this ho hm
   refine⟨this,ho,?_⟩
   rcases hm with⟨hm,_⟩|hm
   ·rw[ho]at hm;cases hm
   ·exact hm
  unfold dI at hA
  rw[hg1]at hA
  dsimp only at hA
  have hfr:=Dr (pd:=pd) (l:=L.g.items)
  have hcase:ln.faa=4∨ln.faa=7∨ln.faa=1∨ln.faa=2∨ln.faa=6∨(ln.faa=3∨ln.faa=5):=by omega
  rcases hcase with h4|h7|h1|h2|h6|h35
  ·
   rw[if_pos h4]at hA
   obtain⟨o1,o2,o3,o4⟩:=hx.own4 hC he (by omega) hke hl h4
   obtain⟨y,m,hy,y3,hm,_⟩:=aY o1
   have hky:=bp hy
   have hhe:cZ ln.faa=false:=by rw[h4];rfl
   rw[hhe]at gH
   have gS:=bJ C pd L.g d ins q L.lv k 10 0 0 hro hch' (fun h=>by rw[hL0]at h;cases h) (by omega) (by omega)
   rw[hq.chain,Int.add_zero]at gS
   have a1:A.g=⟨bN (az C L.g d 10 0 k x.chain).items (atL L.pos (aI C.p k)) (az C L.g d 10 0 k x.chain).items.length,(az C L.g d 10 0 k x.chain).most,(az C L.g d 10 0 k x.chain).start⟩:=by rw[←hA]
   have a4:A.heads=L.heads:=by rw[←hA]
   have a5:A.pos=L.pos.set k L.g.items.length:=by rw[←hA]
   have a6:A.lv=L.lv:=by rw[←hA]
   have hM2:=hM.else (by omega) o1 o3 hpk (L.g.items.length:Int) (L.g.items.length:Int)
   have hB:aW C x k ln A=A:=by unfold aW;rw[if_neg (by omega)]
   have hz:=hM.zero _ o2 o3 (.inl (by omega))
   rw[o1]at hz
   dsimp only at hz
   rw[if_neg (by omega)]at hz
   obtain⟨p1,p2⟩:=hI.at_ _ o2 o3 (by unfold jumps;omega)
   obtain⟨jn,hjn⟩:=Int.eq_ofNat_of_zero_le p1
   have hzv:kD (bB zs (kI (aI C.p k:Int)))=(jn:Int):=by rw[hz];exact hjn
   have hel1:(az C L.g d 10 0 k x.chain).items.length=L.g.items.length+1:=by simp[az]
   have hjl:jn < (itR (clr pd (az C L.g d 10 0 k x.chain).items)).length:=by rw[bD,hel1];omega
   obtain⟨it,hit⟩:=ae (l:=clr pd (az C L.g d 10 0 k x.chain).items) (k:=jn) (by rw[nq,hel1];omega)
   have hsa:itR (clr pd (bN (az C L.g d 10 0 k x.chain).items (atL L.pos (aI C.p k)) (az C L.g d 10 0 k x.chain).items.length))=(itR (clr pd (az C L.g d 10 0 k x.chain).items)).set jn [.d (.int .i64 it.fae.fab),.d (.int .i64 ((itR (clr pd (az C L.g d 10 0 k x.chain).items)).length:Int)),.d (.int .i64 it.fam),.d (.bool it.fah),.d (.lst 1 (it.fap.map aa)),.d (.int .i64 it.faq),.d (.bool it.fat)]:=by rw[nW,hjn,jw hit,bD]
   have hok:=hown _ (.inr o1)
   repeat' ((conv=>whnf);first|(with_reducible apply W1;fail_if_success (with_reducible show Wo _ _ _ _ (Code.region 10 _ _) _ _))|(with_reducible first|apply W2|apply W3|apply W4|apply W5|apply W6|apply W7|apply W8|apply W9)|apply bh|apply oi|(apply fi<;>intro h)|refine⟨k,ln.tr,rfl,ab hl,?_⟩|refine⟨_,rfl,?_⟩|exact rfl)
   all_goals try exact⟨KP⟩
   all_goals try(exfalso;rw[hqe]at h;have:=of_decide_eq_false h;omega)
   conv=>whnf
   rw[hitl]
   repeat' ((conv=>whnf);first|apply Wx|apply W6|refine cg gS ?_|apply oi|(apply fi<;>intro h)|refine cl gH ?_|refine⟨k,rfl,hkol,?_⟩|refine⟨_,hok,?_⟩|refine⟨jn,hzv,hjl,?_⟩|refine⟨_,(fj hit),?_⟩|refine⟨_,rfl,?_⟩|exact rfl)
   all_goals try exact⟨KP⟩
   all_goals try exact⟨congrArg (Tr.int .i64) hqb.symm⟩
   all_goals try exact KK
   all_goals(conv=>whnf)
   all_goals(refine⟨⟨((k+1,aW C x k ln A,d),(gh zs (kI (aI C.p k:Int)),ct os (kI (aI C.p k:Int)) (L.g.items.length:Int),ct fs (kI k) (L.g.items.length:Int))),hN,by dsimp only;rw[b2,b1];rw[a5,a4];exact hM2,fun h=>by have:=hkne (by omega);dsimp only at h;omega,hsg,hBo⟩,?_,KD⟩)
   repeat' ((conv=>whnf);first|apply Wx|apply W6|apply oi|(apply fi<;>intro h)|refine⟨_,rfl,?_⟩|exact rfl)
   all_goals try exact⟨KP⟩
   all_goals try exact⟨KW⟩
   all_goals(refine⟨?_⟩;dsimp only;simp only[hB,a1,a4,a5,a6,hsa,hitl];try rfl)
  ·
   rw[if_neg (by omega),if_pos h7]at hA
   have hhe:cZ ln.faa=false:=by rw[h7];rfl
   rw[hhe]at gH
   obtain⟨o1,o2⟩:=hx.own7 hC he (by omega) hke hl h7
   have hok:=hown _ (.inl o1)
   have hM2:=hM.end (by omega) (L.g.items.length:Int)
   rcases o2 with⟨o2,o3⟩|⟨o2,o3,o4,y,hy,o5⟩
   ·subst o2
    rw[if_pos o3]at hA
    rw[o3]at hok
    have gS:=ul C hC pd L.g d ins q L.lv x hq k x.f hx.fn zs os (ct fs (kI k) (L.g.items.length:Int)) (by omega) hch (fun h=>by rw[hL0]at h;cases h) (by omega) (by omega) L.heads L.pos
    rw[show aR C x k true (d+1) ⟨az C L.g d 0 0 k x.chain,L.heads,L.pos,L.lv⟩=A from hA]at gS
    have a4:A.heads=L.heads:=by rw[←hA];unfold aR;(repeat' split) <;> rfl
    have a5:A.pos=L.pos:=by rw[←hA];unfold aR;(repeat' split) <;> rfl
    have hB:aW C x k ln A=A:=by unfold aW;rw[if_neg (by rintro⟨_,h⟩;exact h o3)]
    repeat' ((conv=>whnf);first|(with_reducible apply W1;fail_if_success (with_reducible show Wo _ _ _ _ (Code.region 10 _ _) _ _))|(with_reducible first|apply W2|apply W3|apply W4|apply W5|apply W6|apply W7|apply W8|apply W9)|apply bh|apply oi|(apply fi<;>intro h)|refine⟨k,ln.tr,rfl,ab hl,?_⟩|refine⟨_,rfl,?_⟩|exact rfl)
    all_goals try exact⟨KP⟩
    all_goals try(exfalso;rw[hqe]at h;have:=of_decide_eq_false h;omega)
    conv=>whnf
    rw[hitl]
    repeat' ((conv=>whnf);first|apply Wx|apply W6|refine cg gS ?_|apply oi|(apply fi<;>intro h)|refine cl gH ?_|refine⟨k,rfl,hkol,?_⟩|refine⟨_,hok,?_⟩|refine⟨_,rfl,?_⟩|exact rfl)
    all_goals try exact⟨KP⟩
    all_goals try exact⟨congrArg (Tr.int .i64) hqb.symm⟩
    all_goals try exact KK
    all_goals(conv=>whnf)
    all_goals(refine⟨⟨((k+1,aW C x k ln A,(if x.outer=true then d else d+1)),(zs,os,ct fs (kI k) (L.g.items.length:Int))),hN,by dsimp only;rw[b2,b1];rw[a5,a4];exact hM2,fun _=>rfl,hsg,hBo⟩,?_,KD⟩)
    repeat' ((conv=>whnf);first|apply Wx|apply W6|apply oi|(apply fi<;>intro h)|refine⟨_,rfl,?_⟩|exact rfl)
    all_goals try exact⟨KP⟩
    all_goals try exact⟨KW⟩
    all_goals(refine⟨?_⟩;dsimp only;simp only[hB];try rfl)
   ·rw[if_neg (by omega)]at hA
    have hky:=bp hy
    have a1:A.g=if y.faa=5 then az C L.g d 10 (atL L.heads (aI C.p k)) k x.chain else L.g:=by rw[←hA,hky];split <;> rfl
    have a4:A.heads=L.heads:=by rw[←hA];split <;> rfl
    have a5:A.pos=L.pos:=by rw[←hA];split <;> rfl
    have a6:A.lv=L.lv:=by rw[←hA];split <;> rfl
    have hex:=hM.exit (i:=aI C.p k) rfl o3 o4 (by omega) (fun j hj=>by
     obtain⟨_,e2,_,_,q1,_,q2,_⟩:=aY hj
     rw[o1]at q1
     injection q1 with q1
     omega)
    obtain⟨x1,x2,x3,_⟩:=xI hC hx he (by omega) (by omega) hl h7
    obtain⟨p1,p2⟩:=hI.at_ _ (by omega) x2 x3
    obtain⟨jn,hjn⟩:=Int.eq_ofNat_of_zero_le p1
    rw[hjn]at hex
    have hfs:y.faa=5→bB (ct fs (kI k) (L.g.items.length:Int)) (kI (aI C.p k:Int))=some (atL L.heads (aI C.p k)):=fun h5=>by rw[dk (by omega)];exact hM.first _ o3 o4 (by omega)
    have gS:=sC C hC pd L.g d ins q L.lv x hq k (aI C.p k) y hy o5 zs os (ct fs (kI k) (L.g.items.length:Int)) jn (atL L.heads (aI C.p k)) hex hfs (by omega) (by omega) hch (fun h=>by rw[hL0]at h;cases h) (by omega) (by omega) A.g a1
    have hB:(aW C x k ln A).g=⟨bN A.g.items (jn:Int) A.g.items.length,A.g.most,A.g.start⟩:=by unfold aW;rw[if_pos ⟨h7,by omega⟩,a5,hjn]
    repeat' ((conv=>whnf);first|(with_reducible apply W1;fail_if_success (with_reducible show Wo _ _ _ _ (Code.region 10 _ _) _ _))|(with_reducible first|apply W2|apply W3|apply W4|apply W5|apply W6|apply W7|apply W8|apply W9)|apply bh|apply oi|(apply fi<;>intro h)|refine⟨k,ln.tr,rfl,ab hl,?_⟩|refine⟨_,rfl,?_⟩|exact rfl)
    all_goals try exact⟨KP⟩
    all_goals try(exfalso;rw[hqe]at h;have:=of_decide_eq_false h;omega)
    conv=>whnf
    rw[hitl]
    repeat' ((conv=>whnf);first|apply Wx|apply W6|refine cg gS ?_|apply oi|(apply fi<;>intro h)|refine cl gH ?_|refine⟨k,rfl,hkol,?_⟩|refine⟨_,hok,?_⟩|refine⟨_,rfl,?_⟩|exact rfl)
    all_goals try exact⟨KP⟩
    all_goals try exact⟨congrArg (Tr.int .i64) hqb.symm⟩
    all_goals try exact KK
    all_goals(conv=>whnf)
    all_goals(refine⟨⟨((k+1,aW C x k ln A,d),(zs,os,ct fs (kI k) (L.g.items.length:Int))),hN,by dsimp only;rw[b2,b1];rw[a5,a4];exact hM2,fun h=>by dsimp only at h;omega,hsg,hBo⟩,?_,KD⟩)
    repeat' ((conv=>whnf);first|apply Wx|apply W6|apply oi|(apply fi<;>intro h)|refine⟨_,rfl,?_⟩|exact rfl)
    all_goals try exact⟨KP⟩
    all_goals try exact⟨KW⟩
    all_goals(refine⟨?_⟩;dsimp only;simp only[hB,b3,a6];try rfl)
  ·
   rw[if_neg (by omega),if_neg (by omega),if_pos h1]at hA
   have hx1:=hexp (.inl h1)
   have gX:=hX hx1 (by omega)
   obtain⟨hG1,hG2,it,hit1,hit2⟩:=hGr hx1 (by omega)
   have hnp:L.g.items.length∉pd:=fun h=>by have:=hpdn _ h;omega
   have hmk:=pg (pd:=pd) hit1 hit2 hnp
   have hitx:(clr (L.g.items.length::pd) g1.items)[L.g.items.length]?=some (yH it):=by rw[fo,hit1];simp[jC]
   have hnl:L.g.items.length < (itR (clr (L.g.items.length::pd) g1.items)).length:=by rw[bD];exact aM hit1
   have hhe:cZ ln.faa=true:=hasExpr_iff.2 (.inl h1)
   rw[hhe]at gH
   have hix:=kB x.locals ln.fac
   have gI:=iv x.locals ln.fac (by omega)
   have gS:=nD C hC pd g1 (d+1) ins q L.lv x hq k (cY x.locals ln.fac) (-1) true rfl (by unfold bu;omega) hch (fun h=>by rw[hG2]at h;cases h) (by omega) hxf (by omega)
   rw[show d+1+-1=d by omega]at gS
   have a1:A.g=az C g1 (d+1) (co C true) (cD C x (d+1) (cY x.locals ln.fac)) k x.chain:=by rw[←hA];rfl
   have a4:A.heads=L.heads.set k L.g.items.length:=by rw[←hA]
   have a5:A.pos=L.pos:=by rw[←hA]
   have a6:A.lv=L.lv:=by rw[←hA]
   rw[←hq.locals]at gI gS a1
   have hM2:=hM.plain (by omega) (L.g.items.length:Int) (L.g.items.length:Int)
   have hB:aW C x k ln A=A:=by unfold aW;rw[if_neg (by omega)]
   generalize cY q.locals ln.fac=ix at *
   repeat' ((conv=>whnf);first|(with_reducible apply W1;fail_if_success (with_reducible show Wo _ _ _ _ (Code.region 10 _ _) _ _))|(with_reducible first|apply W2|apply W3|apply W4|apply W5|apply W6|apply W7|apply W8|apply W9)|apply bh|apply oi|(apply fi<;>intro h)|refine⟨k,ln.tr,rfl,ab hl,?_⟩|refine⟨_,rfl,?_⟩|exact rfl)
   all_goals try exact⟨KP⟩
   all_goals try(exfalso;rw[hqe]at h;have:=of_decide_eq_false h;omega)
   conv=>whnf
   rw[hitl]
   repeat' ((conv=>whnf);first|apply Wx|apply W6|refine cg gX ?_|refine cg gS ?_|apply oi|(apply fi<;>intro h)|refine cl gH ?_|refine⟨L.g.items.length,rfl,hnl,?_⟩|refine⟨_,(fj hitx),?_⟩|refine cl gI ?_|refine⟨_,rfl,?_⟩|exact rfl)
   all_goals try exact⟨KP⟩
   all_goals try exact⟨congrArg (Tr.int .i64) hqb.symm⟩
   all_goals try exact⟨congrArg itR hfr.symm⟩
   all_goals try exact⟨hmk⟩
   all_goals try exact KK
   all_goals(conv=>whnf)
   all_goals(refine⟨⟨((k+1,aW C x k ln A,d),(zs,os,ct fs (kI k) (L.g.items.length:Int))),hN,by dsimp only;rw[b2,b1];rw[a5,a4];exact hM2,fun h=>by have:=hkne (by omega);dsimp only at h;omega,hsg,hBo⟩,?_,KD⟩)
   repeat' ((conv=>whnf);first|apply Wx|apply W6|apply oi|(apply fi<;>intro h)|refine⟨_,rfl,?_⟩|exact rfl)
   all_goals try exact⟨KP⟩
   all_goals try exact⟨KW⟩
   all_goals(refine⟨?_⟩;dsimp only;simp only[hB,a1,a4,a5,a6];try rfl)
  ·
   rw[if_neg (by omega),if_neg (by omega),if_neg (by omega),if_pos h2]at hA
   have hx1:=hexp (.inr (.inl h2))
   have gX:=hX hx1 (by omega)
   obtain⟨hG1,hG2,it,hit1,hit2⟩:=hGr hx1 (by omega)
   have hnp:L.g.items.length∉pd:=fun h=>by have:=hpdn _ h;omega
   have hmk:=pg (pd:=pd) hit1 hit2 hnp
   have hitx:(clr (L.g.items.length::pd) g1.items)[L.g.items.length]?=some (yH it):=by rw[fo,hit1];simp[jC]
   have hnl:L.g.items.length < (itR (clr (L.g.items.length::pd) g1.items)).length:=by rw[bD];exact aM hit1
   have hhe:cZ ln.faa=true:=hasExpr_iff.2 (.inr (.inl h2))
   rw[hhe]at gH
   have gS:=bJ C pd g1 (d+1) ins q L.lv k 17 0 (-1) (by unfold bu;omega) hch' (fun h=>by rw[hG2]at h;cases h) (by omega) (by omega)
   rw[hq.chain,show d+1+-1=d by omega]at gS
   have a1:A.g=az C g1 (d+1) 17 0 k x.chain:=by rw[←hA]
   have a4:A.heads=L.heads.set k L.g.items.length:=by rw[←hA]
   have a5:A.pos=L.pos:=by rw[←hA]
   have a6:A.lv=L.lv:=by rw[←hA]
   have hM2:=hM.plain (by omega) (L.g.items.length:Int) (L.g.items.length:Int)
   have hB:aW C x k ln A=A:=by unfold aW;rw[if_neg (by omega)]
   repeat' ((conv=>whnf);first|(with_reducible apply W1;fail_if_success (with_reducible show Wo _ _ _ _ (Code.region 10 _ _) _ _))|(with_reducible first|apply W2|apply W3|apply W4|apply W5|apply W6|apply W7|apply W8|apply W9)|apply bh|apply oi|(apply fi<;>intro h)|refine⟨k,ln.tr,rfl,ab hl,?_⟩|refine⟨_,rfl,?_⟩|exact rfl)
   all_goals try exact⟨KP⟩
   all_goals try(exfalso;rw[hqe]at h;have:=of_decide_eq_false h;omega)
   conv=>whnf
   rw[hitl]
   repeat' ((conv=>whnf);first|apply Wx|apply W6|refine cg gX ?_|refine cg gS ?_|apply oi|(apply fi<;>intro h)|refine cl gH ?_|refine⟨L.g.items.length,rfl,hnl,?_⟩|refine⟨_,(fj hitx),?_⟩|refine⟨_,rfl,?_⟩|exact rfl)
   all_goals try exact⟨KP⟩
   all_goals try exact⟨congrArg (Tr.int .i64) hqb.symm⟩
   all_goals try exact⟨congrArg itR hfr.symm⟩
   all_goals try exact⟨hmk⟩
   all_goals try exact KK
   all_goals(conv=>whnf)
   all_goals(refine⟨⟨((k+1,aW C x k ln A,d),(zs,os,ct fs (kI k) (L.g.items.length:Int))),hN,by dsimp only;rw[b2,b1];rw[a5,a4];exact hM2,fun h=>by have:=hkne (by omega);dsimp only at h;omega,hsg,hBo⟩,?_,KD⟩)
   repeat' ((conv=>whnf);first|apply Wx|apply W6|apply oi|(apply fi<;>intro h)|refine⟨_,rfl,?_⟩|exact rfl)
   all_goals try exact⟨KP⟩
   all_goals try exact⟨KW⟩
   all_goals(refine⟨?_⟩;dsimp only;simp only[hB,a1,a4,a5,a6];try rfl)
  ·
   rw[if_neg (by omega),if_neg (by omega),if_neg (by omega),if_neg (by omega),if_pos h6]at hA
   have hx1:=hexp (.inr (.inr (.inr (.inr h6))))
   have gX:=hX hx1 (by omega)
   obtain⟨hG1,hG2,it,hit1,hit2⟩:=hGr hx1 (by omega)
   have hnp:L.g.items.length∉pd:=fun h=>by have:=hpdn _ h;omega
   have hmk:=pg (pd:=pd) hit1 hit2 hnp
   have hitx:(clr (L.g.items.length::pd) g1.items)[L.g.items.length]?=some (yH it):=by rw[fo,hit1];simp[jC]
   have hnl:L.g.items.length < (itR (clr (L.g.items.length::pd) g1.items)).length:=by rw[bD];exact aM hit1
   have hhe:cZ ln.faa=true:=hasExpr_iff.2 (.inr (.inr (.inr (.inr h6))))
   rw[hhe]at gH
   have gS:=pG C hC pd g1 (d+1) ins q L.lv x hq k false (by unfold bu;omega) hch (fun h=>by rw[hG2]at h;cases h) (by omega) (by omega) (L.heads.set k L.g.items.length) L.pos
   rw[hA,if_neg (by simp),Int.add_sub_cancel]at gS
   have a4:A.heads=L.heads.set k L.g.items.length:=by rw[←hA];unfold aR;(repeat' split) <;> rfl
   have a5:A.pos=L.pos:=by rw[←hA];unfold aR;(repeat' split) <;> rfl
   have hM2:=hM.plain (by omega) (L.g.items.length:Int) (L.g.items.length:Int)
   have hB:aW C x k ln A=A:=by unfold aW;rw[if_neg (by omega)]
   repeat' ((conv=>whnf);first|(with_reducible apply W1;fail_if_success (with_reducible show Wo _ _ _ _ (Code.region 10 _ _) _ _))|(with_reducible first|apply W2|apply W3|apply W4|apply W5|apply W6|apply W7|apply W8|apply W9)|apply bh|apply oi|(apply fi<;>intro h)|refine⟨k,ln.tr,rfl,ab hl,?_⟩|refine⟨_,rfl,?_⟩|exact rfl)
   all_goals try exact⟨KP⟩
   all_goals try(exfalso;rw[hqe]at h;have:=of_decide_eq_false h;omega)
   conv=>whnf
   rw[hitl]
   repeat' ((conv=>whnf);first|apply Wx|apply W6|refine cg gX ?_|refine cg gS ?_|apply oi|(apply fi<;>intro h)|refine cl gH ?_|refine⟨L.g.items.length,rfl,hnl,?_⟩|refine⟨_,(fj hitx),?_⟩|refine⟨_,rfl,?_⟩|exact rfl)
   all_goals try exact⟨KP⟩
   all_goals try exact⟨congrArg (Tr.int .i64) hqb.symm⟩
   all_goals try exact⟨congrArg itR hfr.symm⟩
   all_goals try exact⟨hmk⟩
   all_goals try exact KK
   all_goals(conv=>whnf)
   all_goals(refine⟨⟨((k+1,aW C x k ln A,d),(zs,os,ct fs (kI k) (L.g.items.length:Int))),hN,by dsimp only;rw[b2,b1];rw[a5,a4];exact hM2,fun h=>by have:=hkne (by omega);dsimp only at h;omega,hsg,hBo⟩,?_,KD⟩)
   repeat' ((conv=>whnf);first|apply Wx|apply W6|apply oi|(apply fi<;>intro h)|refine⟨_,rfl,?_⟩|exact rfl)
   all_goals try exact⟨KP⟩
   all_goals try exact⟨KW⟩
   all_goals(refine⟨?_⟩;dsimp only;simp only[hB,a4,a5];try rfl)
  ·
   rw[if_neg (by omega),if_neg (by omega),if_neg (by omega),if_neg (by omega),if_neg (by omega)]at hA
   have hx1:=hexp (by omega)
   have gX:=hX hx1 (by omega)
   obtain⟨hG1,hG2,it,hit1,hit2⟩:=hGr hx1 (by omega)
   have hnp:L.g.items.length∉pd:=fun h=>by have:=hpdn _ h;omega
   have hmk:=pg (pd:=pd) hit1 hit2 hnp
   have hitx:(clr (L.g.items.length::pd) g1.items)[L.g.items.length]?=some (yH it):=by rw[fo,hit1];simp[jC]
   have hnl:L.g.items.length < (itR (clr (L.g.items.length::pd) g1.items)).length:=by rw[bD];exact aM hit1
   have hhe:cZ ln.faa=true:=hasExpr_iff.2 (by omega)
   rw[hhe]at gH
   have gS:=bJ C pd g1 (d+1) ins q L.lv k 11 0 (-1) (by unfold bu;omega) hch' (fun h=>by rw[hG2]at h;cases h) (by omega) (by omega)
   rw[hq.chain,show d+1+-1=d by omega]at gS
   have a1:A.g=az C g1 (d+1) 11 0 k x.chain:=by rw[←hA]
   have hitg:=bD pd g1.items
   have a4:A.heads=L.heads.set k L.g.items.length:=by rw[←hA]
   have a5:A.pos=L.pos.set k g1.items.length:=by rw[←hA]
   have a6:A.lv=L.lv:=by rw[←hA]
   have hM2:=hM.opens (by omega) hpk hhk (g1.items.length:Int) (L.g.items.length:Int)
   have hB:aW C x k ln A=A:=by unfold aW;rw[if_neg (by omega)]
   repeat' ((conv=>whnf);first|(with_reducible apply W1;fail_if_success (with_reducible show Wo _ _ _ _ (Code.region 10 _ _) _ _))|(with_reducible first|apply W2|apply W3|apply W4|apply W5|apply W6|apply W7|apply W8|apply W9)|apply bh|apply oi|(apply fi<;>intro h)|refine⟨k,ln.tr,rfl,ab hl,?_⟩|refine⟨_,rfl,?_⟩|exact rfl)
   all_goals try exact⟨KP⟩
   all_goals try(exfalso;rw[hqe]at h;have:=of_decide_eq_false h;omega)
   conv=>whnf
   rw[hitl]
   repeat' ((conv=>whnf);first|apply Wx|apply W6|refine cg gX ?_|refine cg gS ?_|apply oi|(apply fi<;>intro h)|refine cl gH ?_|refine⟨L.g.items.length,rfl,hnl,?_⟩|refine⟨_,(fj hitx),?_⟩|refine⟨_,rfl,?_⟩|exact rfl)
   all_goals try exact⟨KP⟩
   all_goals try exact⟨congrArg (Tr.int .i64) hqb.symm⟩
   all_goals try exact⟨congrArg itR hfr.symm⟩
   all_goals try exact⟨hmk⟩
   all_goals try exact KK
   all_goals(conv=>whnf)
   all_goals(refine⟨⟨((k+1,aW C x k ln A,d),(ct zs (kI k) (g1.items.length:Int),os,ct fs (kI k) (L.g.items.length:Int))),hN,by dsimp only;rw[b2,b1];rw[a5,a4];exact hM2,fun h=>by have:=hkne (by omega);dsimp only at h;omega,hsg,hBo⟩,?_,KD⟩)
   repeat' ((conv=>whnf);first|apply Wx|apply W6|apply oi|(apply fi<;>intro h)|refine⟨_,rfl,?_⟩|exact rfl)
   all_goals try exact⟨KP⟩
   all_goals try exact⟨KW⟩
   all_goals(refine⟨?_⟩;dsimp only;simp only[hB,a1,a4,a5,a6,List.length_set,bD];try rfl)
 ·have hk1:k=e+1:=by have:=hI.hi;omega
  subst hk1
  have hf:=hI.fin
  rw[Nat.sub_self,jX]at hf
  subst hf
  rw[hdep rfl]
  repeat' ((conv=>whnf);first|apply Wx|apply W6|apply oi|(apply fi<;>intro h)|refine⟨_,rfl,?_⟩|exact rfl)
  all_goals try exact⟨KP⟩
  all_goals try(exfalso;rw[hqe]at h;have:=of_decide_eq_true h;omega)
theorem AD {C:Cx}(hC:CxOk C):∀lev,zN C lev∧ta C lev:=by
 have hL:∀lev,zN C lev→ta C lev:=fun lev hR=>AP hC fun e x q ins pd lv k p b ln s d h1 h2 h3 h4 h5=>xd hC hR e.toks.length e (Nat.le_refl _) x q ins pd lv k p b ln s d h1 h2 h3 h4 h5
 intro lev
 induction lev with
 | zero=>
  have hR:zN C 0:=by
   intro x q ins pd lv k g b s d hk hg hrb hr
   obtain⟨r1,_⟩:=eA hrb
   have h1:=hr.rm.depth
   have h2:=hr.sc.chain
   omega
  exact⟨hR,hL 0 hR⟩
 | succ n ih=>
  have hR:=DN hC ih.2
  exact⟨hR,hL _ hR⟩
abbrev bV (b:Hz):AV:= .r (.agg [.t (.int .i64 b.far),.t (.int .i64 b.fal),.t (.bool b.faw),.t (.bool b.fas)])
theorem ma (C:Cx)(hC:CxOk C)(g:Nat)(hg:bG C g)(e5:C.args=argsN C.p g):
  aV Tryz.prog 236 [vP C.p,tI .i64 (g:Int),bV C.b,tB C.framed,tI .i64 C.words] [] (.tup [.c (.own (1,0,0)),.c (.t (.int .i64 (cK C g).most))]) [((1,0,0),.dar 7 (ax ((cK C g).items.map HG.tr)) none)]:=by
 refine aj hΓ ay Tryz.func236 rfl (by decide) rfl rfl ?_
 obtain⟨y,hy,hy0⟩:=hg
 have h60:=hC.len
 have hw:=hC.words
 have hin:=hC.inl
 have hA:argsN C.p g=y.fag.length:=by rw[argsN,hy]
 have h4:=(hC.line g y hy).2.2.1
 have hloc:=cO hC ⟨y,hy,hy0⟩
 have hyl:(y.fag.map ah).length=y.fag.length:=by simp
 have hll:((localsOf C.p (g:Int)).map ah).length=(localsOf C.p (g:Int)).length:=by simp
 have hS:ScOk C (bA C g) [g]:=⟨⟨y,hy,hy0⟩,rfl,⟨Int.le_refl _,by simp[bA]⟩,rfl,by simp[bA],fun _=>e5,rfl⟩
 obtain⟨e,he1,he2,he3,he4,_⟩:=hS.endE hC
 have gL:=iz C.p (g:Int) (by omega) (fun z hz=>aT hC.small hz)
 have gE:=cM C.p (g:Int) (by omega)
 have hee:bn C.p (g:Int)=(e:Int):=by rw[bf];exact be he1
 rw[hee]at gE
 have hlev:((C.b.fal.toNat:Nat):Int)=C.b.fal:=Int.toNat_of_nonneg hin.1
 have h3:=qW (n:=C.b.fal.toNat) (by omega)
 have gLs:=(AD hC C.b.fal.toNat).2 (bA C g) ⟨(g:Int),(e:Int),localsOf C.p (g:Int),C.args,0,[],C.words⟩ [g] [] (eF C g) C.words hS ⟨rfl,rfl,rfl,fun _=>rfl,hS.out,fun _=>rfl⟩ rfl (by rw[he4]) rfl rfl (fun i hi=>by cases hi) (by
  rw[he4]
  have:=Nat.mul_le_mul (show e - (bA C g).f≤60 by omega) (show 20 * cf C.b.fal.toNat+3≤20 * 8679837+3 by omega)
  simp only[eF,az,List.length_append,List.length_nil,List.length_cons]
  omega) (by simpa using hlev) hw.1 (by omega)
 rw[if_pos (by rfl)]at gLs
 have g1:=fun code=>bJ C [] ⟨[],(localsOf C.p (g:Int)).length - C.args,false⟩ 0 [g] ⟨(g:Int),(e:Int),localsOf C.p (g:Int),C.args,0,[],C.words⟩ [] g code C.words C.words (by unfold bu;simp) (by simp) (fun h=>by cases h) (by omega) (by omega)
 have hwm:IntKind.i64.wrap ((((localsOf C.p (g:Int)).map ah).length:Int) - C.args)=((localsOf C.p (g:Int)).length:Int) - C.args:=by rw[hll,IntWalk.i64_in _ (by omega)]
 repeat' ((conv=>whnf);first|(with_reducible apply W1;fail_if_success (with_reducible show Wo _ _ _ _ (Code.region 3 _ _) _ _))|(with_reducible first|apply W2|apply W3|apply W4|apply W5|apply W6|apply W7|apply W8|apply W9)|apply bh|apply oi|(apply fi<;>intro h)|refine cl gE ?_|refine cl gL ?_|refine⟨g,y.tr,rfl,ab hy,?_⟩|refine⟨_,rfl,?_⟩|exact rfl)
 all_goals try exact⟨KP⟩
 conv=>whnf
 refine gx ⟨[(0,vP C.p),(1,tI .i64 (g:Int)),(3,tB C.framed),(4,tI .i64 C.words),(12,.r (.c (.ptr (22,0,0) 0))),(13,.r (.c (.ptr (38,0,0) 0)))],
  [(
   (22,0,0),some (.box [.t (.lst 4 (C.p.map HH.tr)),.t (.int .i64 C.b.far),.t (.int .i64 C.b.fal),.t (.bool C.b.faw),.t (.bool C.b.fas),.t (.bool C.framed),.t (.int .i64 C.words),.t (.int .i64 0),.nils 0,.t (.int .i64 0),.own (20,0,0)])),((20,0,0),some (.arr true 1 [aa (g:Int)])),
   ((38,0,0),some (.box [.t (.int .i64 (g:Int)),.t (.int .i64 (e:Int)),.t (.lst 1 ((localsOf C.p (g:Int)).map ah)),.t (.int .i64 C.args),.t (.int .i64 0),.t (.lst 1 []),.t (.int .i64 C.words),.nils 0]))],_⟩ ?_ ?_ rfl ?_
 ·exact⟨.inl rfl,.inl rfl,.inl rfl,.inl rfl,.inl rfl,.inl rfl,trivial⟩
 ·refine⟨.inr (.inl rfl),.inr (.inl rfl),.inr (.inr (.inl ⟨_,_,rfl,rfl,.inl rfl,.inl rfl,.inr (.inr ⟨_,rfl,rfl,?_⟩),.inl ?_,.inl rfl,.inr (.inr ⟨_,rfl,⟨_,rfl⟩,?_⟩),.inl rfl,.inl rfl,trivial⟩)),trivial⟩
  ·intro q hq;simp only[AC.ids,List.mem_cons,List.not_mem_nil,or_false]at hq;subst hq;rfl
  ·rw[e5,hyl,hA]
  ·intro q hq;simp[AC.ids]at hq
 refine oZ ⟨[(0,vP C.p),(1,tI .i64 (g:Int)),(3,tB C.framed),(4,tI .i64 C.words),(12,.r (.c (.ptr (22,0,0) 0))),(13,.r (.c (.ptr (38,0,0) 0)))],
  [((22,0,0),some (uG C ⟨[],0,false⟩ 0 (22,0,1) (22,0,2))),((22,0,1),some (.dar 7 (itR (clr [] [])) none)),((22,0,2),some (.arr false 1 (kY [g]))),((38,0,0),some (ibB ⟨(g:Int),(e:Int),localsOf C.p (g:Int),C.args,0,[],C.words⟩ (38,0,1))),((38,0,1),some (.arr false 1 []))],[38,22,0]⟩ ?_ ?_
 ·skip
  repeat' ((conv=>whnf);first|apply Wx|apply W6|apply oi|(apply fi<;>intro h)|refine⟨_,rfl,?_⟩|exact rfl)
  all_goals try exact⟨KP⟩
  all_goals try exact⟨by rw[yo]⟩
 cases hfm:C.framed with
 | true=>
  have hh:eF C g=az C ⟨[],(localsOf C.p (g:Int)).length - C.args,false⟩ 0 13 C.words g []:=by rw[eF,if_pos hfm]
  rw[hh]at gLs
  have g2:=g1 13
  rw[Int.zero_add]at g2
  have hcr:cK C g=(aU C (aX C C.b.fal.toNat) (bA C g) [g] C.words (az C ⟨[],(localsOf C.p (g:Int)).length - C.args,false⟩ 0 13 C.words g [])).1:=by rw[cK,hh]
  rw[hcr]
  repeat' ((conv=>whnf);first|apply Wx|apply W6|refine cg g2 ?_|refine cg gLs ?_|apply oi|(apply fi<;>intro h)|refine⟨_,rfl,?_⟩|exact rfl)
  all_goals try exact⟨KP⟩
  all_goals try(exfalso;rw[hfm]at h;cases h;done)
  all_goals try exact⟨congrArg (Tr.int .i64) hwm.symm⟩
  all_goals try exact⟨by rw[yo]⟩
 | false=>
  have hh:eF C g=az C ⟨[],(localsOf C.p (g:Int)).length - C.args,false⟩ 0 15 C.words g []:=by rw[eF,if_neg (by simp[hfm])]
  rw[hh]at gLs
  have g2:=g1 15
  rw[Int.zero_add]at g2
  have hcr:cK C g=(aU C (aX C C.b.fal.toNat) (bA C g) [g] C.words (az C ⟨[],(localsOf C.p (g:Int)).length - C.args,false⟩ 0 15 C.words g [])).1:=by rw[cK,hh]
  rw[hcr]
  repeat' ((conv=>whnf);first|apply Wx|apply W6|refine cg g2 ?_|refine cg gLs ?_|apply oi|(apply fi<;>intro h)|refine⟨_,rfl,?_⟩|exact rfl)
  all_goals try exact⟨KP⟩
  all_goals try(exfalso;rw[hfm]at h;cases h;done)
  all_goals try exact⟨congrArg (Tr.int .i64) hwm.symm⟩
  all_goals try exact⟨by rw[yo]⟩
theorem lg (p:List HH)(f:Int)(b:Hz)(hs:aB 1048576 (.lst 4 (p.map HH.tr))):aV Tryz.prog 194 [vP p,tI .i64 f,bV b] [] (.r (.c (.own (1,0,0)))) [((1,0,0),.dar 7 (ax ((aL p f b).map HG.tr)) none)]:=by
 refine aj hΓ ay Tryz.func194 rfl (by decide) rfl rfl ?_
 have hP:=eJ p hs
 have hB:=jv b
 have hl:=cv hs
 have gF:=bE p (by omega)
 have hfl:((ak p).map fun n:Nat=>aa n).length=(ak p).length:=by simp
 have hfl2:=nl p 0
 change(ak p).length≤_ at hfl2
 have hww:IntKind.i64.wrap ((((ak p).map fun n:Nat=>aa n).length:Int) - 1)=((ak p).length:Int) - 1:=by rw[hfl,IntWalk.i64_in _ (by omega)]
 have gb:=aD f 0 (IntKind.i64.wrap ((((ak p).map fun n:Nat=>aa n).length:Int) - 1))
 have hbw:af f 0 (IntKind.i64.wrap ((((ak p).map fun n:Nat=>aa n).length:Int) - 1))=decide (0≤f∧f < (ak p).length):=by
  rw[hww,af];by_cases h:0≤f∧f < (ak p).length <;> simp[h] <;> omega
 rw[hbw]at gb
 by_cases hc:aw p=true∧aJ b=true∧0≤f∧f < (ak p).length
 ·have hcf:aL p f b=ij p f.toNat b:=by rw[aL,if_pos hc]
  rw[hcf]
  obtain⟨h1,h2,h3,h4⟩:=hc
  rw[show decide (0≤f∧f < (ak p).length)=true from decide_eq_true ⟨h3,h4⟩]at gb
  obtain⟨f,rfl⟩:=Int.eq_ofNat_of_zero_le h3
  rw[Int.toNat_natCast]
  rw[h1]at hP
  rw[h2]at hB
  have hb:0≤b.fal∧b.fal≤3:=by
   unfold aJ at h2
   simp only[Bool.and_eq_true,within_iff]at h2
   exact h2.2
  obtain⟨g,hg⟩:=ae (l:=ak p) (k:=f) (by omega)
  have hpg:=(tD hs h1).foldIf b
  have hg':(ak (foldIf p b))[f]?=some g:=by rw[jL];exact hg
  obtain⟨hgl,y,hy,hy0⟩:=iC (List.mem_of_getElem? hg')
  have h4':=(hpg.line g y hy).2.2.1
  have ha:(0:Int)≤(argsN (foldIf p b) g:Int)∧(argsN (foldIf p b) g:Int)≤4:=by rw[argsN,hy];dsimp only;omega
  have hC0:CxOk (ctx (foldIf p b) f g b 0):=hpg.cx ha (by omega) hb
  have hm:=oC hC0 ⟨y,hy,hy0⟩ rfl
  have hC1:CxOk (ctx (foldIf p b) f g b (cK (ctx (foldIf p b) f g b 0) g).most):=hpg.cx ha hm hb
  have g0:=ma _ hC0 g ⟨y,hy,hy0⟩ rfl
  have g1:=ma _ hC1 g ⟨y,hy,hy0⟩ rfl
  have hcd:ij p f b=(cK (ctx (foldIf p b) f g b (cK (ctx (foldIf p b) f g b 0) g).most) g).items:=by rw[ij,hg']
  rw[hcd]
  generalize cK (ctx (foldIf p b) f g b 0) g=R0 at *
  generalize cK (ctx (foldIf p b) f g b R0.most) g=R1 at *
  have hfo:=oB p hs
  rw[show dn p=p.map aP by rw[dn,if_pos h1]]at hfo
  have gF2:=bE (foldIf p b) (Nat.le_trans hpg.len (by omega))
  rw[jL]at gF2
  have hfr:f < ((ak p).map fun n:Nat=>aa n).length:=by omega
  have hfg:((ak p).map fun n:Nat=>aa n)[f]?=some (aa (g:Int)):=by rw[List.getElem?_map,hg];rfl
  obtain⟨fr,inl,fold,sp⟩:=b
  cases fold with
  | true=>
   have e:foldIf p ⟨fr,inl,true,sp⟩=p.map aP:=rfl
   simp only[ctx,e]at g0 g1 gF2
   repeat' ((conv=>whnf);first|apply Wx|apply W6|apply oi|(apply fi<;>intro h)|refine cl hP ?_|refine cl hB ?_|refine cl gF ?_|refine cl gb ?_|refine cl hfo ?_|refine cl gF2 ?_|refine⟨f,rfl,hfr,?_⟩|refine⟨_,hfg,?_⟩|refine⟨_,rfl,?_⟩|exact rfl)
   all_goals try exact⟨KP⟩
   all_goals try exact⟨by omega⟩
   all_goals try exact⟨rfl⟩
   conv=>whnf
   refine cg (g0) ?_
   repeat' ((conv=>whnf);first|apply Wx|apply W6|refine cg g1 ?_|apply oi|(apply fi<;>intro h)|refine⟨_,rfl,?_⟩|exact rfl)
   all_goals try exact⟨KP⟩
   all_goals try exact⟨qY _⟩
   all_goals try exact⟨by omega⟩
   all_goals try exact⟨rfl⟩
   all_goals try exact KX
  | false=>
   have e:foldIf p ⟨fr,inl,false,sp⟩=p:=rfl
   simp only[ctx,e]at g0 g1 gF2
   repeat' ((conv=>whnf);first|apply Wx|apply W6|apply oi|(apply fi<;>intro h)|refine cl hP ?_|refine cl hB ?_|refine cl gF ?_|refine cl gb ?_|refine⟨f,rfl,hfr,?_⟩|refine⟨_,hfg,?_⟩|refine⟨_,rfl,?_⟩|exact rfl)
   all_goals try exact⟨KP⟩
   all_goals try exact⟨by omega⟩
   all_goals try exact⟨rfl⟩
   conv=>whnf
   refine cg (g0) ?_
   repeat' ((conv=>whnf);first|apply Wx|apply W6|refine cg g1 ?_|apply oi|(apply fi<;>intro h)|refine⟨_,rfl,?_⟩|exact rfl)
   all_goals try exact⟨KP⟩
   all_goals try exact⟨qY _⟩
   all_goals try exact⟨by omega⟩
   all_goals try exact⟨rfl⟩
   all_goals try exact KX
 ·have hcf:aL p f b=[]:=by rw[aL,if_neg hc]
  rw[hcf]
  cases h1:aw p with
  | false=>
   rw[h1]at hP
   repeat' ((conv=>whnf);first|apply Wx|apply W6|apply oi|(apply fi<;>intro h)|refine cl hP ?_|refine cl hB ?_|refine cl gF ?_|refine cl gb ?_|refine⟨_,rfl,?_⟩|exact rfl)
   all_goals try exact⟨KP⟩
   all_goals try exact KX
  | true=>
   rw[h1]at hP
   cases h2:aJ b with
   | false=>
    rw[h2]at hB
    repeat' ((conv=>whnf);first|apply Wx|apply W6|apply oi|(apply fi<;>intro h)|refine cl hP ?_|refine cl hB ?_|refine cl gF ?_|refine cl gb ?_|refine⟨_,rfl,?_⟩|exact rfl)
    all_goals try exact⟨KP⟩
    all_goals try exact KX
   | true=>
    rw[h2]at hB
    have hc':¬(0≤f∧f < (ak p).length):=fun hh=>hc ⟨h1,h2,hh⟩
    rw[show decide (0≤f∧f < (ak p).length)=false from decide_eq_false hc']at gb
    repeat' ((conv=>whnf);first|apply Wx|apply W6|apply oi|(apply fi<;>intro h)|refine cl hP ?_|refine cl hB ?_|refine cl gF ?_|refine cl gb ?_|refine⟨_,rfl,?_⟩|exact rfl)
    all_goals try exact⟨KP⟩
    all_goals try exact KX
theorem lB (p:List HH)(f:Int)(b:Hz)(hs:aB 1048576 (.lst 4 (p.map HH.tr))):Sim.Spec Tryz.prog 194 [tvP p,tvI f,.agg b.tr] (rL 7 ((aL p f b).map HG.tr)):=
 Be (ts:=[tvP p,tvI f,.agg b.tr]) (lg p f b hs)
theorem vH (f:Nat)(b:Hz)(image:Int)(hf:f≤100):Sim.Spec Tryz.prog 192 [tvI (f:Int),.agg b.tr,tvI image] (rB (mi b image f)):=by
 refine aE hΓ ay Tryz.func192 rfl (by decide) rfl ?_
 unfold mi
 have hm:(f:Int).tmod 2=(f:Int) % 2:=Int.tmod_eq_emod_of_nonneg (by omega)
 repeat' ((conv=>whnf);first|apply Wx|apply W6|apply oi|(apply fi<;>intro h)|refine⟨_,rfl,?_⟩|exact rfl)
 all_goals try exact⟨KP⟩
 all_goals exact⟨by simp[h,hm]⟩
theorem oh (p:List HH)(b:Hz)(image:Int)(hs:aB 1048576 (.lst 4 (p.map HH.tr)))(h1:aw p=true)(h2:aJ b=true):aV Tryz.prog 133 [vP p,bV b,tI .i64 image] [] (.tup [.c (.own (1,0,0)),.c (.own (1,0,1))]) [((1,0,0),.arr true 1 (eh (bZ p b image (ak p).length 0 0))),((1,0,1),.dar 1 (ax (dz (bZ p b image (ak p).length 0 0))) none)]:=by
 refine aj hΓ ay Tryz.func133 rfl (by decide) rfl rfl ?_
 obtain⟨h6,h60⟩:=dU h1
 have gF:=bE p (by omega)
 have hfl:((ak p).map fun n:Nat=>aa n).length=(ak p).length:=by simp
 repeat' ((conv=>whnf);first|apply Wx|apply W6|apply oi|(apply fi<;>intro h)|refine cl gF ?_|refine⟨_,rfl,?_⟩|exact rfl)
 all_goals try exact⟨KP⟩
 conv=>whnf
 refine⟨GB p b image,fun q=>⟨[(0,vP p),(2,tI .i64 image),(4,.r (.c (.ptr (4,0,0) 0))),(8,.r (.c (.own (14,0,0)))),(9,.r (.c (.own (15,0,0)))),(10,tI .i64 q.1.2.1),(18,tI .i64 (((ak p).map fun n:Nat=>aa n).length:Int)),(19,tI .i64 (q.1.1:Int))],[((14,0,0),some (.arr true 1 (eh q.1.2.2))),((15,0,0),some (.dar 1 (ax (dz q.1.2.2)) none)),((4,0,0),some (.box [.t (.int .i64 b.far),.t (.int .i64 b.fal),.t (.bool b.faw),.t (.bool b.fas)]))],[14,15,4,0]⟩,fun q=>(ak p).length - q.1.1,⟨(0,0,[]),by simp,by simp,by simp,by simp⟩,?_,?_⟩
 ·skip
  repeat' ((conv=>whnf);first|apply Wx|apply W6|apply oi|(apply fi<;>intro h)|refine⟨_,rfl,?_⟩|exact rfl)
  all_goals try exact⟨KP⟩
 intro⟨⟨f,at0,acc⟩,hk,ha,hal,hr⟩
 dsimp only at hk ha hal hr ⊢
 have hnl:(eh acc).length=acc.length:=by simp[eh]
 have hrl:(ax (dz acc)).length=acc.length:=by rw[cJ];simp[dz]
 by_cases hlt:f < (ak p).length
 ·obtain⟨n,hn⟩:∃n,(ak p).length - f=n+1:=⟨(ak p).length - f - 1,by omega⟩
  have hi:=vH f b image (by omega)
  rw[hn,kH]at hr
  cases hin:mi b image f with
  | false=>
   rw[hin]at hi hr
   rw[if_neg (by simp)]at hr
   repeat' ((conv=>whnf);first|apply Wx|apply W6|apply oi|(apply fi<;>intro h)|refine cl hi ?_|refine⟨_,rfl,?_⟩|exact rfl)
   all_goals try exact⟨KP⟩
   all_goals try exact KX
   conv=>whnf
   refine⟨⟨(f+1,at0,acc),by dsimp only;omega,by dsimp only;omega,by dsimp only;omega,by dsimp only;rw[show(ak p).length - (f+1)=n by omega];exact hr⟩,?_,KD⟩
   repeat' ((conv=>whnf);first|apply Wx|apply W6|apply oi|(apply fi<;>intro h)|refine⟨_,rfl,?_⟩|exact rfl)
   all_goals try exact⟨KP⟩
   all_goals try exact⟨KW⟩
  | true=>
   rw[hin]at hi hr
   rw[if_pos rfl]at hr
   have hcs:=lB p (f:Int) b hs
   obtain⟨f1,f2,f3⟩:=Er (f:=f) hs h1 h2 hlt
   have hch:=(fV (p:=p) (f:=(f:Int)) (b:=b) hs).2
   generalize aL p (f:Int) b=I at *
   have gP:=lN I at0 f2 (by omega) f3 (fun x hx=>by have:=hch x hx;omega)
   obtain⟨y,y1,y2,y3,y4⟩:=yG (at0:=at0) f1
   have ye:=Cb (l:=I) (at0:=at0)
   have hz:=gl y.fai.fae.fab
   have ho:=gG y.fai.fae.fab
   have hpl:=dv I at0
   have hdl:(ax ((cP I at0).map HK.tr)).length=I.length:=by rw[cJ,List.length_map,hpl]
   have hix:IntKind.i64.wrap (((ax ((cP I at0).map HK.tr)).length:Int) - 1)=((I.length - 1:Nat):Int):=by rw[hdl,IntWalk.i64_in _ (by omega)];omega
   have hlx:I.length - 1 < (ax ((cP I at0).map HK.tr)).length:=by omega
   have hgx:(ax ((cP I at0).map HK.tr))[I.length - 1]?=some (y.tr.map .d):=by rw[ax,List.getElem?_map,List.getElem?_map,y1];rfl
   repeat' ((conv=>whnf);first|apply Wx|apply W6|refine cg gP ?_|apply oi|(apply fi<;>intro h)|refine cl hi ?_|refine cl hcs ?_|refine⟨_,hix,hlx,?_⟩|refine⟨_,hgx,?_⟩|refine cl ho ?_|refine⟨_,rfl,?_⟩|exact rfl)
   all_goals try exact⟨KP⟩
   all_goals try exact KX
   all_goals try exact⟨qY _⟩
   all_goals try exact⟨⟨by simp only[List.length_nil,List.length_cons,hnl,hrl] <;> omega,by simp only[List.length_nil,List.length_cons,hnl,hrl] <;> omega⟩⟩
   conv=>whnf
   refine⟨⟨(f+1,sG at0 I,acc++[(f,cP I at0)]),by dsimp only;omega,by dsimp only;omega,by simp;omega,by dsimp only;rw[List.append_assoc,show(ak p).length - (f+1)=n by omega];exact hr⟩,?_,KD⟩
   repeat' ((conv=>whnf);first|apply Wx|apply W6|apply oi|(apply fi<;>intro h)|refine⟨_,rfl,?_⟩|exact rfl)
   all_goals try exact⟨KP⟩
   all_goals try exact⟨KW⟩
   all_goals try exact⟨congrArg (Tr.int .i64) (by rw[IntWalk.i64_in _ (by omega),y2])⟩
   all_goals try exact⟨by rw[eh,eh,List.map_append];rfl⟩
   all_goals try exact⟨by rw[dz,dz,List.map_append,iy];rfl⟩
 ·rw[show(ak p).length - f=0 by omega]at hr
  have hr2:acc=bZ p b image (ak p).length 0 0:=by rw[←hr];simp[bZ]
  repeat' ((conv=>whnf);first|apply Wx|apply W6|apply oi|(apply fi<;>intro h)|refine⟨_,rfl,?_⟩|exact rfl)
  all_goals try exact⟨KP⟩
  all_goals try exact KX
  all_goals exact⟨by rw[hr2]⟩
theorem og (p:List HH)(b:Hz)(image:Int)(hs:aB 1048576 (.lst 4 (p.map HH.tr)))(h1:aw p=true)(h2:aJ b=true):Sim.Spec Tryz.prog 133 [tvP p,.agg b.tr,tvI image] (.tup [.c (.arr 1 (eh (bZ p b image (ak p).length 0 0))),.c (.arr 1 (dz (bZ p b image (ak p).length 0 0)))]):=by
 refine xb (ts:=[tvP p,.agg b.tr,tvI image]) (oh p b image hs h1 h2) rfl ⟨trivial,trivial,trivial⟩ ⟨rfl,rfl,?_⟩
 conv=>whnf
 refine⟨rfl,rfl,?_⟩
 conv=>whnf
 exact⟨trivial,rfl,rfl,rfl,rfl⟩
theorem hZ (p:List HH)(b:Hz)(image:Int)(hs:aB 1048576 (.lst 4 (p.map HH.tr))):Sim.Spec Tryz.prog 99 [tvP p,.agg b.tr,tvI image] (.r (.agg ((ag p b image).tr.map CZ))):=by
 refine aE hΓ ay Tryz.func99 rfl (by decide) rfl ?_
 have hP:=eJ p hs
 have hB:=jv b
 have gb:=aD image 0 1
 by_cases hc:aw p=true∧aJ b=true∧af image 0 1=true
 ·have hcf:ag p b image=⟨ao (aC (bZ p b image (ak p).length 0 0)),bx p 0 (bZ p b image (ak p).length 0 0)⟩:=by rw[ag,if_pos hc]
  rw[hcf]
  obtain⟨h1,h2,h3⟩:=hc
  rw[h1]at hP
  rw[h2]at hB
  rw[h3]at gb
  obtain⟨h6,h60⟩:=dU h1
  have gF:=bE p (by omega)
  have hfl:((ak p).map fun n:Nat=>aa n).length=(ak p).length:=by simp
  have gi:=og p b image hs h1 h2
  have hll:=jc p b image (ak p).length 0 0
  have hlc:=fun x (hx:x∈bZ p b image (ak p).length 0 0)=>(jf hs hx).1
  have hlf:=fun x (hx:x∈bZ p b image (ak p).length 0 0)=>(kp hx).2
  generalize bZ p b image (ak p).length 0 0=L at *
  have hrl:(dz L).length=L.length:=by simp[dz]
  have hnl:(eh L).length=L.length:=by simp[eh]
  repeat' ((conv=>whnf);first|apply Wx|apply W6|apply oi|(apply fi<;>intro h)|refine cl hP ?_|refine cl hB ?_|refine cl gb ?_|refine cl gi ?_|refine⟨_,rfl,?_⟩|exact rfl)
  all_goals try exact⟨KP⟩
  conv=>whnf
  refine⟨{k:Nat // k≤L.length},fun k=>⟨[(0,vP p),(6,.r (.c (.ptr (6,0,0) 0))),(7,.r (.c (.ptr (7,0,0) 0))),(8,.r (.c (.own (34,0,0)))),(37,.r (.c (.own (34,1,0)))),(38,tI .i64 ((dz L).length:Int)),(39,tI .i64 (k.1:Int))],[((6,0,0),some (.box [.t (.str []),.nils 0])),((7,0,0),some (.box [.t (.str (ao (aC (L.take k.1)))),.own (7,0,1)])),((7,0,1),some (.arr true 3 ((bx p 0 (L.take k.1)).map HO.tr))),((34,0,0),some (.arr true 1 (eh L))),((34,1,0),some (.arr true 1 (dz L)))],[34,7,6]⟩,fun k=>L.length - k.1,⟨0,by omega⟩,?_,?_⟩
  ·skip
   repeat' ((conv=>whnf);first|apply Wx|apply W6|apply oi|(apply fi<;>intro h)|refine⟨_,rfl,?_⟩|exact rfl)
   all_goals try exact⟨KP⟩
  intro⟨k,hk⟩
  dsimp only
  have hpl:=na hlc hk
  have hcl:=eu (aC (L.take k))
  have hsy:(bx p 0 (L.take k)).length=k:=by rw[iO,List.length_take];omega
  by_cases hlt:k < L.length
  ·obtain⟨x,hx⟩:=ae hlt
   have hxl:=hlc x (List.mem_of_getElem? hx)
   have hxf:=hlf x (List.mem_of_getElem? hx)
   obtain⟨g,hg⟩:=ae (l:=ak p) (k:=x.1) (by omega)
   obtain⟨hgl,ln,hln,_⟩:=iC (List.mem_of_getElem? hg)
   have hnm:bb p x.1=ln.fac:=by rw[bb,hg];dsimp only;rw[hln]
   have hxr:(dz L)[k]?=some [.lst 8 (x.2.map HK.tr)]:=by rw[dz,List.getElem?_map,hx];rfl
   have hxn:(eh L)[k]?=some (aa (x.1:Int)):=by rw[eh,List.getElem?_map,hx];rfl
   have hfg:((ak p).map fun n:Nat=>aa (n:Int))[x.1]?=some (aa (g:Int)):=by rw[List.getElem?_map,hg];rfl
   have hkr:k < (dz L).length:=by omega
   have hkn:k < (eh L).length:=by omega
   have hxm:(x.2.map HK.tr).length=x.2.length:=by simp
   have hfgl:x.1 < ((ak p).map fun n:Nat=>aa (n:Int)).length:=by rw[hfl];omega
   have hsn:bx p 0 (L.take (k+1))=bx p 0 (L.take k)++[⟨bb p x.1,0+(ao (aC (L.take k))).length,(ao x.2).length⟩]:=by rw[cr hx,mJ]
   have hcn:ao (aC (L.take (k+1)))=ao (aC (L.take k))++ao x.2:=by rw[cr hx,kU,aH]
   have hcx:=eu x.2
   generalize hSS:bx p 0 (L.take (k+1))=S1 at *
   generalize hS0:bx p 0 (L.take k)=S0 at *
   generalize hCC:ao (aC (L.take (k+1)))=C1 at *
   generalize hC0:ao (aC (L.take k))=C0 at *
   repeat' ((conv=>whnf);first|apply Wx|apply W6|apply oi|(apply fi<;>intro h)|refine⟨k,rfl,hkr,?_⟩|refine⟨_,hxr,?_⟩|refine⟨_,rfl,?_⟩|exact rfl)
   all_goals try exact⟨KP⟩
   all_goals try exact KX
   conv=>whnf
   refine⟨{j:Nat // j≤x.2.length},fun j=>⟨[(0,vP p),(6,.r (.c (.ptr (6,0,0) 0))),(7,.r (.c (.ptr (7,0,0) 0))),(8,.r (.c (.own (34,0,0)))),(37,.r (.c (.own (34,1,0)))),(38,tI .i64 ((dz L).length:Int)),(39,tI .i64 (k:Int)),(10,tI .i64 (k:Int)),(12,tI .i64 (C0.length:Int)),(47,.r (.c (.t (.lst 8 (x.2.map HK.tr))))),(48,tI .i64 ((x.2.map HK.tr).length:Int)),(49,tI .i64 (j.1:Int))],[((6,0,0),some (.box [.t (.str []),.nils 0])),((7,0,0),some (.box [.t (.str (C0++ao (x.2.take j.1))),.own (7,0,1)])),((7,0,1),some (.arr true 3 ((S0).map HO.tr))),((34,0,0),some (.arr true 1 (eh L))),((34,1,0),some (.arr true 1 (dz L)))],[34,7,6]⟩,fun j=>x.2.length - j.1,⟨0,by omega⟩,?_,?_⟩
   ·skip
    repeat' ((conv=>whnf);first|apply Wx|apply W6|apply oi|(apply fi<;>intro h)|refine⟨_,rfl,?_⟩|exact rfl)
    all_goals try exact⟨KP⟩
    all_goals try exact⟨by simp[ao]⟩
   intro⟨j,hj⟩
   dsimp only
   have hct:=eu (x.2.take j)
   have hjt:(x.2.take j).length≤2500:=by rw[List.length_take];omega
   by_cases hjl:j < x.2.length
   ·obtain⟨y,hy⟩:=ae hjl
    have hE:=sW y.fai.fae
    have hE5:=mI y.fai.fae
    have hym:=ab (f:=HK.tr) hy
    have hcy:ao (x.2.take (j+1))=ao (x.2.take j)++aS y.fai.fae:=by rw[cr hy,aH,ew]
    repeat' ((conv=>whnf);first|apply Wx|apply W6|apply oi|(apply fi<;>intro h)|refine⟨j,y.tr,rfl,hym,?_⟩|refine cl hE ?_|refine⟨_,rfl,?_⟩|exact rfl)
    all_goals try exact⟨KP⟩
    all_goals try exact KX
    all_goals try exact⟨K9⟩
    conv=>whnf
    refine⟨⟨j+1,by omega⟩,?_,KD⟩
    repeat' ((conv=>whnf);first|apply Wx|apply W6|apply oi|(apply fi<;>intro h)|refine⟨_,rfl,?_⟩|exact rfl)
    all_goals try exact⟨KP⟩
    all_goals try exact⟨KW⟩
    all_goals try exact⟨by dsimp only;rw[hcy,List.append_assoc]⟩
   ·have hjx:j=x.2.length:=by omega
    subst hjx
    rw[List.take_of_length_le (Nat.le_refl _),←hcn]
    repeat' ((conv=>whnf);first|apply Wx|apply W6|apply oi|(apply fi<;>intro h)|refine cl gF ?_|refine⟨k,rfl,hkn,?_⟩|refine⟨_,hxn,?_⟩|refine⟨x.1,rfl,hfgl,?_⟩|refine⟨_,hfg,?_⟩|refine⟨g,ln.tr,rfl,ab hln,?_⟩|refine⟨_,rfl,?_⟩|exact rfl)
    all_goals try exact⟨KP⟩
    all_goals try exact KX
    all_goals try exact⟨⟨by simp only[List.length_nil,List.length_cons,List.length_map,hsy] <;> omega,by simp only[List.length_nil,List.length_cons,List.length_map,hsy] <;> omega⟩⟩
    conv=>whnf
    refine⟨⟨k+1,by omega⟩,?_,KD⟩
    repeat' ((conv=>whnf);first|apply Wx|apply W6|apply oi|(apply fi<;>intro h)|refine⟨_,rfl,?_⟩|exact rfl)
    all_goals try exact⟨KP⟩
    all_goals try exact⟨KW⟩
    all_goals try exact⟨by rw[hCC]⟩
    all_goals exact⟨by
     have e:C1.length=C0.length+(ao x.2).length:=by rw[hcn,List.length_append]
     dsimp only
     rw[hSS,hsn,List.map_append,hnm,IntWalk.i64_in _ (by omega),show(C1.length:Int) - C0.length=((ao x.2).length:Int) by omega,Int.zero_add]
     rfl⟩
  ·have hkl:k=L.length:=by omega
   subst hkl
   rw[List.take_of_length_le (Nat.le_refl _)]
   repeat' ((conv=>whnf);first|apply Wx|apply W6|apply oi|(apply fi<;>intro h)|refine⟨_,rfl,?_⟩|exact rfl)
   all_goals try exact⟨KP⟩
   all_goals try exact KX
 ·have hcf:ag p b image=⟨[],[]⟩:=by rw[ag,if_neg hc]
  rw[hcf]
  cases h1:aw p with
  | false=>
   rw[h1]at hP
   repeat' ((conv=>whnf);first|apply Wx|apply W6|apply oi|(apply fi<;>intro h)|refine cl hP ?_|refine cl hB ?_|refine cl gb ?_|refine⟨_,rfl,?_⟩|exact rfl)
   all_goals try exact⟨KP⟩
   all_goals try exact KX
  | true=>
   rw[h1]at hP
   cases h2:aJ b with
   | false=>
    rw[h2]at hB
    repeat' ((conv=>whnf);first|apply Wx|apply W6|apply oi|(apply fi<;>intro h)|refine cl hP ?_|refine cl hB ?_|refine cl gb ?_|refine⟨_,rfl,?_⟩|exact rfl)
    all_goals try exact⟨KP⟩
    all_goals try exact KX
   | true=>
    rw[h2]at hB
    cases h3:af image 0 1 with
    | true=>exact absurd ⟨h1,h2,h3⟩ hc
    | false=>
     rw[h3]at gb
     repeat' ((conv=>whnf);first|apply Wx|apply W6|apply oi|(apply fi<;>intro h)|refine cl hP ?_|refine cl hB ?_|refine cl gb ?_|refine⟨_,rfl,?_⟩|exact rfl)
     all_goals try exact⟨KP⟩
     all_goals try exact KX
theorem qG (p:List HH)(b:Hz)(first second:Int)(hs:aB 1048576 (.lst 4 (p.map HH.tr))):Sim.Spec Tryz.prog 28 [tvP p,.agg b.tr,tvI first,tvI second] (.tup [.agg ((oSp (dy p b first second)).tr.map CZ),.c (.t (.bool (dy p b first second).isSome))]):=by
 refine aE hΓ ay Tryz.func28 rfl (by decide) rfl ?_
 have hP:=eJ p hs
 have hB:=jv b
 cases h1:aw p with
 | false=>
  rw[h1]at hP
  rw[show dy p b first second=none by rw[dy,if_neg (by rw[h1];simp)]]
  repeat' ((conv=>whnf);first|apply Wx|apply W6|apply oi|(apply fi<;>intro h)|refine cl hP ?_|refine cl hB ?_|refine⟨_,rfl,?_⟩|exact rfl)
  all_goals try exact⟨KP⟩
  all_goals try exact KX
 | true=>
  rw[h1]at hP
  cases h2:aJ b with
  | false=>
   rw[h2]at hB
   rw[show dy p b first second=none by rw[dy,if_neg (by rw[h2];simp)]]
   repeat' ((conv=>whnf);first|apply Wx|apply W6|apply oi|(apply fi<;>intro h)|refine cl hP ?_|refine cl hB ?_|refine⟨_,rfl,?_⟩|exact rfl)
   all_goals try exact⟨KP⟩
   all_goals try exact KX
  | true=>
   rw[h2]at hB
   obtain⟨h6,h60⟩:=dU h1
   have hA0:=hZ p b 0 hs
   have hA1:=hZ p b 1 hs
   have gF:=bE p (by omega)
   have hfl:((ak p).map fun n:Nat=>aa n).length=(ak p).length:=by simp
   have hsp:=lU (cQ p b first second) (oc hs h6)
   repeat' ((conv=>whnf);first|(with_reducible apply W1;fail_if_success (with_reducible show Wo _ _ _ _ (Code.region 4 _ _) _ _))|(with_reducible first|apply W2|apply W3|apply W4|apply W5|apply W6|apply W7|apply W8|apply W9)|apply bh|apply oi|(apply fi<;>intro h)|refine cl hP ?_|refine cl hB ?_|refine cl hA0 ?_|refine cl hA1 ?_|refine⟨_,rfl,?_⟩|exact rfl)
   all_goals try exact⟨KP⟩
   all_goals try exact KX
   all_goals try exact⟨mr _ (by intro x c hc sz rs e;subst e;simp[HO.tr]at hc)⟩
   have hS0:(ag p b 0).faf.length≤6:=fc h6
   have hS1:(ag p b 1).faf.length≤6:=fc h6
   have hE:∀f,f < (ak p).length→nA p b (ag p b 0) (ag p b 1) first second f=[bd p b first second f]:=fun f hf=>Fw h1 h2 hf first second
   have hall:dP (nA p b (ag p b 0) (ag p b 1) first second) (ak p).length=entries p b first second:=qN hE
   have hld:dy p b first second=if eL (cQ p b first second)=true then some (cQ p b first second)else none:=by
    rw[dy]
    by_cases hso:eL (cQ p b first second)=true
    ·rw[if_pos hso,if_pos ⟨h1,h2,hso⟩]
    ·rw[if_neg hso,if_neg fun h=>hso h.2.2]
   have hcand:(cQ p b first second).tr=[.lst 2 [(ag p b 0).tr,(ag p b 1).tr],.lst 1 [aa first,aa second],.lst 1 ((entries p b first second).map aa)]:=rfl
   rw[hld]
   generalize cQ p b first second=cd at *
   generalize ag p b 0=i0 at *
   generalize ag p b 1=i1 at *
   have hEl:∀f,(nA p b i0 i1 first second f).length≤12:=fun f=>by
    unfold nA
    have:=iT (bb p f) second i1.faf
    have:=iT (bb p f) first i0.faf
    rw[List.length_append]
    omega
   have hEt:=oa hEl
   conv=>whnf
   refine oZ ⟨[(0,vP p),(5,.r (.c (.ptr (5,0,0) 0))),(8,.r (.c (.ptr (8,0,0) 0))),(10,.r (.c (.ptr (10,0,0) 0)))],[((5,0,0),some (.box (b.tr.map .t))),((8,0,0),some (.box [.nils 0,.nils 0,.nils 0])),((10,0,0),some (.box [.own (10,0,1),.own (10,0,2),.own (10,0,3)])),((10,0,1),some (.arr true 2 [i0.tr,i1.tr])),((10,0,2),some (.arr true 1 [aa first,aa second])),((10,0,3),some (.arr true 1 []))],[10,8,5]⟩ ?_ ?_
   ·skip
    repeat' ((conv=>whnf);first|apply Wx|apply W6|apply oi|(apply fi<;>intro h)|refine⟨_,rfl,?_⟩|exact rfl)
    all_goals try exact⟨KP⟩
   repeat' ((conv=>whnf);first|apply Wx|apply W6|apply oi|(apply fi<;>intro h)|refine cl gF ?_|refine⟨_,rfl,?_⟩|exact rfl)
   all_goals try exact⟨KP⟩
   conv=>whnf
   refine⟨{f:Nat // f≤(ak p).length},fun q=>⟨[(0,vP p),(5,.r (.c (.ptr (5,0,0) 0))),(8,.r (.c (.ptr (8,0,0) 0))),(10,.r (.c (.ptr (10,0,0) 0))),(38,.r (.c (.own (10,0,4)))),(39,tI .i64 (((ak p).map fun n:Nat=>aa (n:Int)).length:Int)),(40,tI .i64 (q.1:Int))],[((5,0,0),some (.box (b.tr.map .t))),((8,0,0),some (.box [.nils 0,.nils 0,.nils 0])),((10,0,0),some (.box [.own (10,0,1),.own (10,0,2),.own (10,0,3)])),((10,0,1),some (.arr true 2 [i0.tr,i1.tr])),((10,0,2),some (.arr true 1 [aa first,aa second])),((10,0,4),some (.arr true 1 ((ak p).map fun n:Nat=>aa (n:Int)))),((10,0,3),some (.arr true 1 ((dP (nA p b i0 i1 first second) q.1).map aa)))],[10,8,5]⟩,fun q=>(ak p).length - q.1,⟨0,by omega⟩,?_,?_⟩
   ·skip
    repeat' ((conv=>whnf);first|apply Wx|apply W6|apply oi|(apply fi<;>intro h)|refine⟨_,rfl,?_⟩|exact rfl)
    all_goals try exact⟨KP⟩
   intro⟨f,hf⟩
   dsimp only
   have hef:=hEt f
   by_cases hlt:f < (ak p).length
   ·obtain⟨g,hg⟩:=ae hlt
    obtain⟨ln,hln,_,hnm,_⟩:=mj h1 hg
    have hes:nA p b i0 i1 first second f=eG ln.fac first i0.faf++eG ln.fac second i1.faf:=by rw[nA,hnm]
    have hfr:f < ((ak p).map fun n:Nat=>aa n).length:=by omega
    have hfg:((ak p).map fun n:Nat=>aa n)[f]?=some (aa (g:Int)):=by rw[List.getElem?_map,hg];rfl
    have hh0:=iT ln.fac first i0.faf
    repeat' ((conv=>whnf);first|apply Wx|apply W6|apply oi|(apply fi<;>intro h)|refine⟨f,rfl,hfr,?_⟩|refine⟨_,hfg,?_⟩|refine⟨_,rfl,?_⟩|exact rfl)
    all_goals try exact⟨KP⟩
    all_goals try exact KX
    conv=>whnf
    refine⟨{j:Nat // j≤2},fun q=>⟨[(0,vP p),(5,.r (.c (.ptr (5,0,0) 0))),(8,.r (.c (.ptr (8,0,0) 0))),(10,.r (.c (.ptr (10,0,0) 0))),(38,.r (.c (.own (10,0,4)))),(39,tI .i64 (((ak p).map fun n:Nat=>aa (n:Int)).length:Int)),(40,tI .i64 (f:Int)),(12,tI .i64 (g:Int)),(45,.r (.c (.own (10,0,1)))),(46,tI .i64 2),(47,tI .i64 (q.1:Int))],[((5,0,0),some (.box (b.tr.map .t))),((8,0,0),some (.box [.nils 0,.nils 0,.nils 0])),((10,0,0),some (.box [.own (10,0,1),.own (10,0,2),.own (10,0,3)])),((10,0,1),some (.arr true 2 [i0.tr,i1.tr])),((10,0,2),some (.arr true 1 [aa first,aa second])),((10,0,4),some (.arr true 1 ((ak p).map fun n:Nat=>aa (n:Int)))),((10,0,3),some (.arr true 1 ((dP (nA p b i0 i1 first second) f++(if 0 < q.1 then eG ln.fac first i0.faf else [])++(if 1 < q.1 then eG ln.fac second i1.faf else [])).map aa)))],[10,8,5]⟩,fun q=>2 - q.1,⟨0,by omega⟩,?_,?_⟩
    ·skip
     repeat' ((conv=>whnf);first|apply Wx|apply W6|apply oi|(apply fi<;>intro h)|refine⟨_,rfl,?_⟩|exact rfl)
     all_goals try exact⟨KP⟩
     all_goals try exact⟨KW⟩
     all_goals try exact⟨by simp⟩
    intro⟨j,hj2⟩
    dsimp only
    by_cases hj:j < 2
    ·obtain⟨im,base,acc,him,hbase,hsy,hacc,hnx,hal⟩:∃(im:HE) (base:Int) (acc:List Int),[i0.tr,i1.tr][j]?=some im.tr∧[aa first,aa second][j]?=some (aa base)∧im.faf.length≤6∧dP (nA p b i0 i1 first second) f++(if 0 < j then eG ln.fac first i0.faf else [])++(if 1 < j then eG ln.fac second i1.faf else [])=acc∧dP (nA p b i0 i1 first second) f++(if 0 < j+1 then eG ln.fac first i0.faf else [])++(if 1 < j+1 then eG ln.fac second i1.faf else [])=acc++eG ln.fac base im.faf∧acc.length≤100:=by
      rcases(show j=0∨j=1 by omega)with rfl|rfl
      ·exact⟨i0,first,dP (nA p b i0 i1 first second) f,rfl,rfl,hS0,by simp,by simp,by omega⟩
      ·exact⟨i1,second,dP (nA p b i0 i1 first second) f++eG ln.fac first i0.faf,rfl,rfl,hS1,by simp,by simp,by rw[List.length_append];omega⟩
     rw[hacc]
     have hjl:j < [i0.tr,i1.tr].length:=by simp;omega
     have hjb:j < [aa first,aa second].length:=by simp;omega
     have hsl:(im.faf.map HO.tr).length=im.faf.length:=by simp
     repeat' ((conv=>whnf);first|apply Wx|apply W6|apply oi|(apply fi<;>intro h)|refine⟨j,rfl,hjl,?_⟩|refine⟨_,him,?_⟩|refine⟨_,rfl,?_⟩|exact rfl)
     all_goals try exact⟨KP⟩
     all_goals try exact KX
     conv=>whnf
     refine⟨{k:Nat // k≤im.faf.length},fun q=>⟨[(0,vP p),(5,.r (.c (.ptr (5,0,0) 0))),(8,.r (.c (.ptr (8,0,0) 0))),(10,.r (.c (.ptr (10,0,0) 0))),(38,.r (.c (.own (10,0,4)))),(39,tI .i64 (((ak p).map fun n:Nat=>aa (n:Int)).length:Int)),(40,tI .i64 (f:Int)),(12,tI .i64 (g:Int)),(45,.r (.c (.own (10,0,1)))),(46,tI .i64 2),(47,tI .i64 (j:Int)),(13,tI .i64 (j:Int)),(14,.r (.c (.ptr (14,0,0) 0))),(53,.r (.c (.f (.lst 3 (im.faf.map HO.tr))))),(54,tI .i64 ((im.faf.map HO.tr).length:Int)),(55,tI .i64 (q.1:Int))],[((5,0,0),some (.box (b.tr.map .t))),((8,0,0),some (.box [.nils 0,.nils 0,.nils 0])),((10,0,0),some (.box [.own (10,0,1),.own (10,0,2),.own (10,0,3)])),((10,0,1),some (.arr true 2 [i0.tr,i1.tr])),((10,0,2),some (.arr true 1 [aa first,aa second])),((10,0,4),some (.arr true 1 ((ak p).map fun n:Nat=>aa (n:Int)))),((10,0,3),some (.arr true 1 ((acc++eG ln.fac base (im.faf.take q.1)).map aa)))],[14,10,8,5]⟩,fun q=>im.faf.length - q.1,⟨0,by omega⟩,?_,?_⟩
     ·skip
      repeat' ((conv=>whnf);first|apply Wx|apply W6|apply oi|(apply fi<;>intro h)|refine⟨_,rfl,?_⟩|exact rfl)
      all_goals try exact⟨KP⟩
      all_goals try exact⟨by simp[zf]⟩
     intro⟨k,hk⟩
     dsimp only
     by_cases hkl:k < im.faf.length
     ·obtain⟨y,hy⟩:=ae hkl
      have hyt:(im.faf.map HO.tr)[k]?=some y.tr:=ab hy
      have hht:=wP (nm:=ln.fac) (b:=base) hy
      have hhl:=iT ln.fac base (im.faf.take k)
      rw[List.length_take]at hhl
      cases hq:(y.fac==ln.fac)with
      | true=>
       rw[hq,if_pos rfl]at hht
       repeat' ((conv=>whnf);first|apply Wx|apply W6|apply oi|(apply fi<;>intro h)|refine⟨k,y.tr,rfl,hyt,?_⟩|refine⟨g,ln.tr,rfl,ab hln,?_⟩|refine⟨j,rfl,hjb,?_⟩|refine⟨_,hbase,?_⟩|refine⟨_,rfl,?_⟩|exact rfl)
       all_goals try exact⟨KP⟩
       all_goals try exact KX
       all_goals try(exfalso;rw[hq]at h;cases h;done)
       all_goals try exact⟨⟨by simp <;> omega,by simp <;> omega⟩⟩
       conv=>whnf
       refine⟨⟨k+1,by omega⟩,?_,KD⟩
       repeat' ((conv=>whnf);first|apply Wx|apply W6|apply oi|(apply fi<;>intro h)|refine⟨_,rfl,?_⟩|exact rfl)
       all_goals try exact⟨KP⟩
       all_goals try exact⟨KW⟩
       all_goals exact⟨by dsimp only;rw[hht];simp[List.append_assoc,aa]⟩
      | false=>
       rw[hq,if_neg (by simp)]at hht
       repeat' ((conv=>whnf);first|apply Wx|apply W6|apply oi|(apply fi<;>intro h)|refine⟨k,y.tr,rfl,hyt,?_⟩|refine⟨g,ln.tr,rfl,ab hln,?_⟩|refine⟨j,rfl,hjb,?_⟩|refine⟨_,hbase,?_⟩|refine⟨_,rfl,?_⟩|exact rfl)
       all_goals try exact⟨KP⟩
       all_goals try exact KX
       all_goals try(exfalso;rw[hq]at h;cases h;done)
       conv=>whnf
       refine⟨⟨k+1,by omega⟩,?_,KD⟩
       repeat' ((conv=>whnf);first|apply Wx|apply W6|apply oi|(apply fi<;>intro h)|refine⟨_,rfl,?_⟩|exact rfl)
       all_goals try exact⟨KP⟩
       all_goals try exact⟨KW⟩
       all_goals exact⟨by dsimp only;rw[hht,List.append_nil]⟩
     ·obtain rfl:k=im.faf.length:=by omega
      rw[List.take_of_length_le (Nat.le_refl _),←hnx]
      repeat' ((conv=>whnf);first|apply Wx|apply W6|apply oi|(apply fi<;>intro h)|refine⟨_,rfl,?_⟩|exact rfl)
      all_goals try exact⟨KP⟩
      all_goals try exact KX
      conv=>whnf
      refine⟨⟨j+1,by omega⟩,?_,KD⟩
      repeat' ((conv=>whnf);first|apply Wx|apply W6|apply oi|(apply fi<;>intro h)|refine⟨_,rfl,?_⟩|exact rfl)
      all_goals try exact⟨KP⟩
      all_goals try exact⟨KW⟩
    ·obtain rfl:j=2:=by omega
     have hfin:dP (nA p b i0 i1 first second) f++(if 0 < 2 then eG ln.fac first i0.faf else [])++(if 1 < 2 then eG ln.fac second i1.faf else [])=dP (nA p b i0 i1 first second) (f+1):=by
      rw[if_pos (by decide),if_pos (by decide),List.append_assoc,←hes];rfl
     rw[hfin]
     repeat' ((conv=>whnf);first|apply Wx|apply W6|apply oi|(apply fi<;>intro h)|refine⟨_,rfl,?_⟩|exact rfl)
     all_goals try exact⟨KP⟩
     all_goals try exact KX
     conv=>whnf
     refine⟨⟨f+1,by omega⟩,?_,KD⟩
     repeat' ((conv=>whnf);first|apply Wx|apply W6|apply oi|(apply fi<;>intro h)|refine⟨_,rfl,?_⟩|exact rfl)
     all_goals try exact⟨KP⟩
     all_goals try exact⟨KW⟩
   ·obtain rfl:f=(ak p).length:=by omega
    rw[hall]
    cases hso:eL cd with
    | true=>
     rw[hso]at hsp
     rw[if_pos rfl]
     rw[hcand]at hsp
     simp only[oSp,hcand]
     repeat' ((conv=>whnf);first|apply Wx|apply W6|apply oi|(apply fi<;>intro h)|refine cl hsp ?_|refine⟨_,rfl,?_⟩|exact rfl)
     all_goals try exact⟨KP⟩
     all_goals try exact KX
    | false=>
     rw[hso]at hsp
     rw[if_neg (by simp)]
     rw[hcand]at hsp
     repeat' ((conv=>whnf);first|apply Wx|apply W6|apply oi|(apply fi<;>intro h)|refine cl hsp ?_|refine⟨_,rfl,?_⟩|exact rfl)
     all_goals try exact⟨KP⟩
     all_goals try exact KX
end Go.Proofs.YtjmplnfiabmalaaGreat
