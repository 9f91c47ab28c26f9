import Derived.Test.YtjmplnfiabmalaaGreatGf
namespace Go.Proofs.YtjmplnfiabmalaaGreat
open Go.Sim
set_option maxRecDepth 100000
set_option maxHeartbeats 4000000
theorem oF (l:List HP)(hl:l.length≤1048576):Sim.Spec Tryz.prog 259 [tvL 3 (l.map HP.tr)] (rL 3 (l.map HP.tr)):=by
 refine aE hΓ ay Tryz.func259 rfl (by decide) rfl ?_
 repeat' ((conv=>whnf);first|apply Wx|apply W6|apply oi|(apply fi<;>intro h)|refine⟨_,rfl,?_⟩|exact rfl)
 all_goals try exact⟨KP⟩
 all_goals try exact⟨⟨by simp <;> omega,by simp <;> omega⟩⟩
 all_goals try exact⟨⟨rfl,aG _⟩⟩
theorem vO (x:HH)(hs:aK 1048576 x.tr):Sim.Spec Tryz.prog 241 [.agg x.tr] (.r (.agg (x.tr.map CZ))):=by
 refine aE hΓ ay Tryz.func241 rfl (by decide) rfl ?_
 obtain⟨h1,h2,h3,h4,h5⟩:=cG hs
 have hT:=oF x.fad h4
 repeat' ((conv=>whnf);first|apply Wx|apply W6|apply oi|(apply fi<;>intro h)|refine cl hT ?_|refine⟨_,rfl,?_⟩|exact rfl)
 all_goals try exact⟨KP⟩
 all_goals try exact⟨⟨by simp <;> omega,by simp <;> omega⟩⟩
 all_goals try exact⟨⟨rfl,eN _⟩⟩
theorem uc {α β:Type}(f:α→β)(l:List α)(k:Nat)(x:α)(hx:l[k]?=some x):(l.take (k+1)).map f=(l.take k).map f++[f x]:=by
 rw[List.take_add_one,hx,List.map_append]
 rfl
theorem qg (l:List HH)(hs:aB 1048576 (.lst 4 (l.map HH.tr))):aV Tryz.prog 204 [vP l] [] (.r (.c (.own (1,0,0)))) [((1,0,0),.dar 4 (ax (l.map HH.tr)) none)]:=by
 refine aj hΓ ay Tryz.func204 rfl (by decide) rfl rfl ?_
 have hl:=cv hs
 have hlen:(l.map HH.tr).length=l.length:=by simp
 repeat' ((conv=>whnf);first|apply Wx|apply W6|apply oi|(apply fi<;>intro h)|refine⟨_,rfl,?_⟩|exact rfl)
 all_goals try exact⟨KP⟩
 conv=>whnf
 refine⟨{k:Nat // k≤l.length},fun q=>⟨[(0,vP l),(3,.r (.c (.own (3,0,0)))),(4,tI .i64 (q.1:Int))],[((3,0,0),some (.dar 4 (ax ((l.take q.1).map HH.tr)) none))],[3,0]⟩,fun q=>l.length - q.1,⟨0,by omega⟩,?_,?_⟩
 ·skip
  repeat' ((conv=>whnf);first|apply Wx|apply W6|apply oi|(apply fi<;>intro h)|refine⟨_,rfl,?_⟩|exact rfl)
  all_goals try exact⟨KP⟩
 intro⟨k,hk⟩
 dsimp only at hk ⊢
 by_cases hlt:k < l.length
 ·obtain⟨x,hx⟩:=ae hlt
  have hdl:(ax ((l.take k).map HH.tr)).length=k:=by rw[cJ,List.length_map,List.length_take];omega
  have hC:=vO x (aT hs (List.mem_of_getElem? hx))
  repeat' ((conv=>whnf);first|apply Wx|apply W6|apply oi|(apply fi<;>intro h)|refine⟨k,x.tr,rfl,ab hx,?_⟩|refine cl hC ?_|refine⟨_,rfl,?_⟩|exact rfl)
  all_goals try exact⟨KP⟩
  all_goals try exact KX
  all_goals try exact⟨aG _⟩
  all_goals try exact⟨eN _⟩
  all_goals try exact⟨⟨by rw[hdl];(try dsimp only);simp <;> omega,by rw[hdl];(try dsimp only);simp <;> omega⟩⟩
  repeat' ((conv=>whnf);first|apply Wx|apply W6|apply oi|(apply fi<;>intro h)|refine⟨_,rfl,?_⟩|exact rfl)
  all_goals try exact⟨KP⟩
  conv=>whnf
  refine⟨⟨k+1,by omega⟩,?_,KD⟩
  repeat' ((conv=>whnf);first|apply Wx|apply W6|apply oi|(apply fi<;>intro h)|refine⟨_,rfl,?_⟩|exact rfl)
  all_goals try exact⟨KP⟩
  all_goals try exact⟨K2⟩
  all_goals exact⟨by rw[uc HH.tr l k x hx];simp[ax,HH.tr]⟩
 ·skip
  repeat' ((conv=>whnf);first|apply Wx|apply W6|apply oi|(apply fi<;>intro h)|refine⟨_,rfl,?_⟩|exact rfl)
  all_goals try exact⟨KP⟩
  all_goals try exact KX
  all_goals exact⟨by rw[List.take_of_length_le (by omega)]⟩
noncomputable def kF (l:List HP):List HP:=if h:br l=true then(Classical.choose (iG h)).fold.toks else []
theorem oX {l:List HP}(h:br l=true):∃e:Ex,e.ok∧l=e.toks∧kF l=e.fold.toks:=by
 have hc:=Classical.choose_spec (iG h)
 exact⟨_,hc.1,hc.2,by rw[kF,dif_pos h]⟩
theorem oV {l:List HP}(h:br l=false):kF l=[]:=by rw[kF,dif_neg (by simp[h])]
theorem wN (l:List HP):(kF l).length≤l.length:=by
 cases h:br l with
 | false=>rw[oV h];simp
 | true=>
  obtain⟨e,_,h1,h2⟩:=oX h
  rw[h2,h1]
  exact e.fold_le
theorem sF (l:List HP)(hl:l.length≤1048576)(hn:dH l):Sim.Spec Tryz.prog 205 [tvL 3 (l.map HP.tr)] (rL 3 ((kF l).map HP.tr)):=by
 refine aE hΓ ay Tryz.func205 rfl (by decide) rfl ?_
 have hE:=nL l hl hn
 cases h:br l with
 | false=>
  rw[h]at hE
  rw[oV h]
  repeat' ((conv=>whnf);first|apply Wx|apply W6|apply oi|(apply fi<;>intro h)|refine cl hE ?_|refine⟨_,rfl,?_⟩|exact rfl)
  all_goals try exact⟨KP⟩
  all_goals try exact KX
 | true=>
  rw[h]at hE
  obtain⟨e,h1,h2,h3⟩:=oX h
  have hF:=mw e.toks.length e (Nat.le_refl _) l 0 hl hn h1 ⟨[],by rw[List.drop_zero,List.append_nil];exact h2⟩
  rw[h3]
  generalize e.fold.toks=r at *
  repeat' ((conv=>whnf);first|apply Wx|apply W6|apply oi|(apply fi<;>intro h)|refine cl hE ?_|refine cl hF ?_|refine⟨_,rfl,?_⟩|exact rfl)
  all_goals try exact⟨KP⟩
  all_goals try exact KX
noncomputable def aP (x:HH):HH:=if 0 < x.fad.length then⟨x.faa,x.fac,x.fag,kF x.fad⟩else x
noncomputable def fg (l:List HH) (k:Nat):List HH:=(l.take k).map aP++l.drop k
theorem An (l:List HH)(k:Nat):(fg l k).length=l.length:=by simp[fg];omega
theorem mK {l:List HH}{k:Nat}{x:HH}(hx:l[k]?=some x):(fg l k)[k]?=some x:=by
 have hk:k < l.length:=by
  rcases Nat.lt_or_ge k l.length with h|h
  ·exact h
  ·rw[List.getElem?_eq_none h]at hx;cases hx
 rw[fg,List.getElem?_append_right (by simp;omega)]
 simp only[List.length_map,List.length_take]
 rw[Nat.min_eq_left (by omega),Nat.sub_self,List.getElem?_drop]
 exact hx
theorem pZ {l:List HH}{k:Nat}{x:HH}(hx:l[k]?=some x):fg l (k+1)=(fg l k).set k (aP x):=by
 have hk:k < l.length:=by
  rcases Nat.lt_or_ge k l.length with h|h
  ·exact h
  ·rw[List.getElem?_eq_none h]at hx;cases hx
 rw[fg,fg,uc aP l k x hx,dq hx,List.set_append_right _ _ (by simp;omega)]
 simp only[List.length_map,List.length_take]
 rw[Nat.min_eq_left (by omega),Nat.sub_self,List.set_cons_zero,List.append_assoc]
 rfl
noncomputable def dn (l:List HH):List HH:=if aw l=true then l.map aP else []
theorem oI (l:List HH)(hs:aB 1048576 (.lst 4 (l.map HH.tr))):Sim.Spec Tryz.prog 149 [tvP l] (rL 4 ((dn l).map HH.tr)):=by
 refine aE hΓ ay Tryz.func149 rfl (by decide) rfl ?_
 have hl:=cv hs
 have hP:=dF l hs
 have hC:=qg l hs
 cases hpo:aw l with
 | false=>
  rw[hpo]at hP
  have:dn l=[]:=by rw[dn,if_neg (by simp[hpo])]
  rw[this]
  repeat' ((conv=>whnf);first|apply Wx|apply W6|apply oi|(apply fi<;>intro h)|refine cl hP ?_|refine⟨_,rfl,?_⟩|exact rfl)
  all_goals try exact⟨KP⟩
  all_goals try exact KX
 | true=>
  rw[hpo]at hP
  have:dn l=l.map aP:=by rw[dn,if_pos hpo]
  rw[this]
  repeat' ((conv=>whnf);first|apply Wx|apply W6|refine cg hC ?_|apply oi|(apply fi<;>intro h)|refine cl hP ?_|refine⟨_,rfl,?_⟩|exact rfl)
  all_goals try exact⟨KP⟩
  all_goals try exact KX
  conv=>whnf
  refine⟨{k:Nat // k≤l.length},fun q=>⟨[(3,.r (.c (.own (3,0,0)))),(4,tI .i64 (q.1:Int))],[((3,0,0),some (.dar 4 (ax ((fg l q.1).map HH.tr)) none))],[3]⟩,fun q=>l.length - q.1,⟨0,by omega⟩,?_,?_⟩
  ·skip
   repeat' ((conv=>whnf);first|apply Wx|apply W6|apply oi|(apply fi<;>intro h)|refine⟨_,rfl,?_⟩|exact rfl)
   all_goals try exact⟨KP⟩
  intro⟨k,hk⟩
  dsimp only at hk ⊢
  have hdl:(ax ((fg l k).map HH.tr)).length=l.length:=by rw[cJ,List.length_map,An]
  by_cases hlt:k < l.length
  ·obtain⟨x,hx⟩:=ae hlt
   obtain⟨h1,h2,h3,h4,h5⟩:=cG (aT hs (List.mem_of_getElem? hx))
   have hF:=sF x.fad h4 (fun y hy=>by have:=h5 y hy;omega)
   have hkl:k < (ax ((fg l k).map HH.tr)).length:=by rw[hdl];exact hlt
   have hel3:(x.fad.map HP.tr).length=x.fad.length:=by simp
   by_cases hpos:0 < x.fad.length
   ·have hfl:aP x=⟨x.faa,x.fac,x.fag,kF x.fad⟩:=by rw[aP,if_pos hpos]
    repeat' ((conv=>whnf);first|apply Wx|apply W6|apply oi|(apply fi<;>intro h)|refine⟨k,rfl,hkl,?_⟩|refine⟨k,rfl,(by simpa using hkl),?_⟩|refine⟨_,iD (ab (mK hx)),?_⟩|refine⟨_,(List.getElem?_set_self (by simpa using hkl)),?_⟩|refine cl hF ?_|refine⟨_,rfl,?_⟩|exact rfl)
    all_goals try exact⟨KP⟩
    all_goals try exact⟨aG _⟩
    all_goals try(exfalso;have h':=of_decide_eq_false h;rw[hdl]at h';omega)
    all_goals try(exfalso;have h':=of_decide_eq_false h;rw[hel3]at h';omega)
    conv=>whnf
    refine⟨⟨k+1,by omega⟩,?_,KD⟩
    repeat' ((conv=>whnf);first|apply Wx|apply W6|apply oi|(apply fi<;>intro h)|refine⟨_,rfl,?_⟩|exact rfl)
    all_goals try exact⟨KP⟩
    all_goals try exact⟨aG _⟩
    all_goals try exact⟨K2⟩
    all_goals(refine⟨?_⟩;(try dsimp only);rw[pZ hx,List.map_set,←pE,hfl];simp[HH.tr])
   ·have hfl:aP x=x:=by rw[aP,if_neg hpos]
    repeat' ((conv=>whnf);first|apply Wx|apply W6|apply oi|(apply fi<;>intro h)|refine⟨k,rfl,hkl,?_⟩|refine⟨k,rfl,(by simpa using hkl),?_⟩|refine⟨_,iD (ab (mK hx)),?_⟩|refine⟨_,(List.getElem?_set_self (by simpa using hkl)),?_⟩|refine cl hF ?_|refine⟨_,rfl,?_⟩|exact rfl)
    all_goals try exact⟨KP⟩
    all_goals try exact⟨aG _⟩
    all_goals try(exfalso;have h':=of_decide_eq_false h;rw[hdl]at h';omega)
    all_goals try(exfalso;have h':=of_decide_eq_true h;rw[hel3]at h';omega)
    conv=>whnf
    refine⟨⟨k+1,by omega⟩,?_,KD⟩
    repeat' ((conv=>whnf);first|apply Wx|apply W6|apply oi|(apply fi<;>intro h)|refine⟨k,rfl,hkl,?_⟩|refine⟨k,rfl,(by simpa using hkl),?_⟩|refine⟨_,iD (ab (mK hx)),?_⟩|refine⟨_,(List.getElem?_set_self (by simpa using hkl)),?_⟩|refine⟨_,rfl,?_⟩|exact rfl)
    all_goals try exact⟨KP⟩
    all_goals try exact⟨aG _⟩
    all_goals try exact⟨K2⟩
    all_goals(refine⟨?_⟩;(try dsimp only);rw[pZ hx,List.map_set,←pE,hfl];simp[HH.tr])
  ·skip
   repeat' ((conv=>whnf);first|apply Wx|apply W6|apply oi|(apply fi<;>intro h)|refine⟨_,rfl,?_⟩|exact rfl)
   all_goals try exact⟨KP⟩
   all_goals try exact KX
   all_goals exact⟨by rw[fg,List.take_of_length_le (by omega),List.drop_eq_nil_of_le (by omega),List.append_nil]⟩
structure PgOk (p:List HH):Prop where
 len:p.length≤60
 small:aB 1048576 (.lst 4 (p.map HH.tr))
 line:∀(k:Nat) (ln:HH),p[k]?=some ln→0≤ln.faa∧ln.faa≤7∧ln.fag.length≤4∧ln.fad.length≤20∧((ln.faa=1∨ln.faa=2∨ln.faa=3∨ln.faa=5∨ln.faa=6)→br ln.fad=true)
 fn:∀(g:Nat) (ln:HH),p[g]?=some ln→ln.faa=0→∃e,endAt p g=some e∧(localsOf p (g:Int)).length≤8∧ln.fag.length≤(localsOf p (g:Int)).length∧∀(k:Nat) (y:HH),g < k→k < e→p[k]?=some y→y.faa≠0∧(∀t∈y.fad,t.faa=7→∃f,findN p 0 t.fac=some f∧(argsN p f:Int)=t.faj)∧(y.faa=4→∃i,g≤i∧i < k∧elseAt p i=some k)
theorem PgOk.cx {p:List HH}(h:PgOk p){b:Hz}{framed:Bool}{words args:Int}(ha:0≤args∧args≤4)(hw:0≤words∧words≤1000)(hi:0≤b.fal∧b.fal≤3):CxOk ⟨p,b,framed,words,args⟩:=
 ⟨h.len,h.small,h.line,h.fn,ha,hw,hi⟩
theorem vh {F:Nat→Nat→Bool}{l:List HH}(hF:∀k e,endAt l k=some e→F k e=true→∀i x,k < i→i < e→l[i]?=some x→x.faa≠0):∀(n k:Nat),bO F l n k=true→∀g x,k≤g→l[g]?=some x→x.faa=0→∃e,endAt l g=some e∧F g e=true
 | 0,k,h,g,x,hk,hg,_=>by
  rw[bO,decide_eq_true_eq]at h
  have:=aM hg
  omega
 | n+1,k,h,g,x,hk,hg,h0=>by
  rw[bO,if_pos (by have:=aM hg;omega)]at h
  split at h
  ·rename_i y e hy he
   split at h
   ·rename_i hc
    by_cases hgk:g=k
    ·subst hgk;exact⟨e,he,hc.2⟩
    ·by_cases hge:g≤e
     ·by_cases hge2:g=e
      ·subst hge2
       obtain⟨z,hz,h7⟩:=bC he
       rw[hg]at hz
       injection hz with hz
       subst hz
       omega
      ·exact absurd h0 (hF k e he hc.2 g x (by omega) (by omega) hg)
     ·exact vh hF n (e+1) h g x (by omega) hg h0
   ·cases h
  ·cases h
theorem uo {l:List HH}{locals:List (List UInt8)}{e:Nat}:∀(n i d:Nat),e - i≤n→e≤l.length→iY l locals e n i d=true→∀j x,i≤j→j < e→l[j]?=some x→bH l locals x.fad=true
 | 0,i,d,hn,_,_,j,x,h1,h2,_=>by omega
 | n+1,i,d,hn,he,hb,j,x,h1,h2,hx=>by
  rw[iY,if_pos (by omega)]at hb
  obtain⟨y,hy⟩:=ae (l:=l) (k:=i) (by omega)
  rw[hy]at hb
  dsimp only at hb
  split at hb
  ·cases hb
  ·split at hb
   ·rename_i hk
    by_cases hj:j=i
    ·subst hj
     rw[hy]at hx
     injection hx with hx
     subst hx
     exact hk.2
    ·exact uo n (i+1) _ (by omega) he hb j x (by omega) h2 hx
   ·cases hb
theorem Bg (acc:List (List UInt8))(s:List UInt8):acc.length≤(jI acc s).length:=by
 unfold jI
 split <;> simp
theorem Cr {l:List HH}{e:Nat}:∀(n i:Nat) (acc:List (List UInt8)),acc.length≤(locN l e n i acc).length
 | 0,_,_=>by simp[locN]
 | n+1,i,acc=>by
  rw[locN]
  split
  ·split
   ·refine Nat.le_trans ?_ (Cr n _ _)
    split
    ·exact Bg _ _
    ·exact Nat.le_refl _
   ·exact Nat.le_refl _
  ·exact Nat.le_refl _
theorem hasExpr_iff {k:Int}:cZ k=true↔(k=1∨k=2∨k=3∨k=5∨k=6):=by
 unfold cZ
 simp
theorem xS {x:HH}(h:cy x=true):0≤x.faa∧x.faa≤7∧x.fag.length≤4∧x.fad.length≤20∧((x.faa=1∨x.faa=2∨x.faa=3∨x.faa=5∨x.faa=6)→br x.fad=true):=by
 have h4:x.fag.length≤4:=by
  rcases Nat.lt_or_ge 4 x.fag.length with h'|h'
  ·rw[rT h']at h;cases h
  ·exact h'
 unfold cy at h
 simp only[Bool.and_eq_true,within_iff]at h
 obtain⟨⟨h1,h2⟩,_,_,h3⟩:=h
 refine⟨h1,h2,h4,?_,fun hk=>by rw[if_pos (hasExpr_iff.2 hk)]at h3;exact h3⟩
 split at h3
 ·unfold br at h3
  simp only[Bool.and_eq_true,decide_eq_true_eq]at h3
  exact h3.1
 ·have:=eq_of_beq h3
  omega
theorem tD {p:List HH}(hs:aB 1048576 (.lst 4 (p.map HH.tr)))(h:aw p=true):PgOk p:=by
 unfold aw at h
 simp only[Bool.and_eq_true,decide_eq_true_eq]at h
 obtain⟨h1,_,h2,_,_,h3,h4⟩:=h
 have hS:=vo p
 rw[h3,h4]at hS
 have hlines:∀(k:Nat) (ln:HH),p[k]?=some ln→0≤ln.faa∧ln.faa≤7∧ln.fag.length≤4∧ln.fad.length≤20∧((ln.faa=1∨ln.faa=2∨ln.faa=3∨ln.faa=5∨ln.faa=6)→br ln.fad=true):=fun k ln hk=>xS (List.all_eq_true.1 h2 ln (List.mem_of_getElem? hk))
 have hlt:∀k e,endAt p k=some e→e≤p.length:=fun k e he=>by obtain⟨_,_,_,_,_,h⟩:=aF he;omega
 have hF:∀k e,endAt p k=some e→mE p k e=true→∀i x,k < i→i < e→p[i]?=some x→x.faa≠0:=fun k e he hf=>by
  rw[ux,Bool.and_eq_true]at hf
  exact uu hf.1 (hlt k e he)
 refine⟨h1,hs,hlines,fun g ln hg h0=>?_⟩
 obtain⟨e,he,hf⟩:=vh hF p.length 0 hS g ln (Nat.zero_le _) hg h0
 have hf':=hf
 rw[ux,Bool.and_eq_true]at hf'
 obtain⟨hf1,hf2⟩:=hf'
 have hf1':=hf1
 rw[jA,Bool.and_eq_true,decide_eq_true_eq]at hf1'
 obtain⟨hl8,hbody⟩:=hf1'
 refine⟨e,he,hl8,?_,fun k y hk1 hk2 hy=>⟨hF g e he hf k y hk1 hk2 hy,fun t ht h7=>?_,fun h4'=>?_⟩⟩
 ·unfold localsOf
  rw[if_pos (by omega),Int.toNat_natCast,hg,he]
  dsimp only
  rw[if_pos h0]
  exact Cr _ _ _
 ·have hkn:=uo (e - (g+1)) (g+1) 0 (Nat.le_refl _) (hlt g e he) hbody k y (by omega) hk2 hy
  unfold bH at hkn
  have:=List.all_eq_true.1 hkn t ht
  unfold bW at this
  rw[if_neg (by omega),if_pos h7]at this
  split at this
  ·rename_i f hfi
   refine⟨f,hfi,?_⟩
   unfold argsN
   split at this
   ·rename_i x hx
    (try rw[hx])
    exact eq_of_beq this
   ·cases this
  ·cases this
 ·have:=(gT (Nat.le_refl _)).1 hf2 k y (by omega) hk2 hy h4'
  rw[mu]at this
  obtain⟨i,i1,i2,i3⟩:=this
  exact⟨i,i1,by omega,i3⟩
def alike (p q:List HH):Prop:=p.map (fun x=>(x.faa,x.fac,x.fag))=q.map (fun x=>(x.faa,x.fac,x.fag))
theorem alike.len {p q:List HH}(h:alike p q):p.length=q.length:=by simpa using congrArg List.length h
theorem alike.get {p q:List HH}(h:alike p q){k:Nat}{x:HH}(hx:p[k]?=some x):∃y,q[k]?=some y∧x.faa=y.faa∧x.fac=y.fac∧x.fag=y.fag:=by
 have:=congrArg (·[k]?) h
 simp only[List.getElem?_map,hx,Option.map_some]at this
 cases hy:q[k]? with
 | none=>rw[hy]at this;cases this
 | some y=>
  rw[hy]at this
  simp only[Option.map_some,Option.some.injEq,Prod.mk.injEq]at this
  exact⟨y,rfl,this.1,this.2.1,this.2.2⟩
theorem alike.none {p q:List HH}(h:alike p q){k:Nat}(hx:p[k]?=none):q[k]?=none:=by
 rw[List.getElem?_eq_none_iff]at hx ⊢
 have:=h.len
 omega
theorem alike.symm {p q:List HH}(h:alike p q):alike q p:=Eq.symm h
theorem alike.drop {p q:List HH}(h:alike p q)(n:Nat):alike (p.drop n) (q.drop n):=by
 unfold alike at *
 rw[List.map_drop,List.map_drop,h]
theorem alike.endN:∀{p q:List HH},alike p q→∀(i o:Nat),endN p i o=endN q i o
 | [],[],_,_,_=>rfl
 | x::p,y::q,h,i,o=>by
  simp only[alike,List.map_cons,List.cons.injEq,Prod.mk.injEq]at h
  have ih:=alike.endN (p:=p) (q:=q) h.2
  rw[Go.Proofs.YtjmplnfiabmalaaGreat.endN,Go.Proofs.YtjmplnfiabmalaaGreat.endN,h.1.1,ih,ih,ih]
 | [],_::_,h,_,_=>by simp[alike]at h
 | _::_,[],h,_,_=>by simp[alike]at h
theorem alike.endAt {p q:List HH}(h:alike p q)(k:Nat):endAt p k=endAt q k:=by
 unfold Go.Proofs.YtjmplnfiabmalaaGreat.endAt
 cases hx:p[k]? with
 | none=>rw[h.none hx]
 | some x=>
  obtain⟨y,hy,e1,_⟩:=h.get hx
  rw[hy]
  dsimp only
  rw[e1,(h.drop (k+1)).endN]
theorem alike.elseN {p q:List HH}(h:alike p q){e:Nat}:∀(n i:Nat),elseN p e n i=elseN q e n i
 | 0,_=>rfl
 | n+1,i=>by
  rw[Go.Proofs.YtjmplnfiabmalaaGreat.elseN,Go.Proofs.YtjmplnfiabmalaaGreat.elseN]
  cases hx:p[i]? with
  | none=>rw[h.none hx]
  | some x=>
   obtain⟨y,hy,e1,_⟩:=h.get hx
   rw[hy]
   dsimp only
   rw[e1,h.endAt i]
   cases Go.Proofs.YtjmplnfiabmalaaGreat.endAt q i with
   | none=>dsimp only;rw[alike.elseN h n]
   | some m=>dsimp only;rw[alike.elseN h n,alike.elseN h n]
theorem alike.elseAt {p q:List HH}(h:alike p q)(k:Nat):elseAt p k=elseAt q k:=by
 unfold Go.Proofs.YtjmplnfiabmalaaGreat.elseAt
 rw[h.endAt k]
 cases hx:p[k]? with
 | none=>rw[h.none hx]
 | some x=>
  obtain⟨y,hy,e1,_⟩:=h.get hx
  rw[hy]
  cases Go.Proofs.YtjmplnfiabmalaaGreat.endAt q k with
  | none=>rfl
  | some e=>dsimp only;rw[e1,h.elseN]
theorem alike.findN:∀{p q:List HH},alike p q→∀(i:Nat) (s:List UInt8),findN p i s=findN q i s
 | [],[],_,_,_=>rfl
 | x::p,y::q,h,i,s=>by
  simp only[alike,List.map_cons,List.cons.injEq,Prod.mk.injEq]at h
  have ih:=alike.findN (p:=p) (q:=q) h.2
  rw[Go.Proofs.YtjmplnfiabmalaaGreat.findN,Go.Proofs.YtjmplnfiabmalaaGreat.findN,h.1.1,h.1.2.1,ih]
 | [],_::_,h,_,_=>by simp[alike]at h
 | _::_,[],h,_,_=>by simp[alike]at h
theorem alike.locN {p q:List HH}(h:alike p q){e:Nat}:∀(n i:Nat) (acc:List (List UInt8)),locN p e n i acc=locN q e n i acc
 | 0,_,_=>rfl
 | n+1,i,acc=>by
  rw[Go.Proofs.YtjmplnfiabmalaaGreat.locN,Go.Proofs.YtjmplnfiabmalaaGreat.locN]
  cases hx:p[i]? with
  | none=>rw[h.none hx]
  | some x=>
   obtain⟨y,hy,e1,e2,_⟩:=h.get hx
   rw[hy]
   dsimp only
   rw[e1,e2,alike.locN h n]
theorem alike.localsOf {p q:List HH}(h:alike p q)(k:Int):localsOf p k=localsOf q k:=by
 unfold Go.Proofs.YtjmplnfiabmalaaGreat.localsOf
 rw[h.endAt]
 cases hx:p[k.toNat]? with
 | none=>rw[h.none hx]
 | some x=>
  obtain⟨y,hy,e1,_,e3⟩:=h.get hx
  rw[hy]
  cases Go.Proofs.YtjmplnfiabmalaaGreat.endAt q k.toNat with
  | none=>rfl
  | some e=>dsimp only;rw[e1,e3,h.locN]
theorem alike.argsN {p q:List HH}(h:alike p q)(g:Nat):argsN p g=argsN q g:=by
 unfold Go.Proofs.YtjmplnfiabmalaaGreat.argsN
 cases hx:p[g]? with
 | none=>rw[h.none hx]
 | some x=>
  obtain⟨y,hy,_,_,e3⟩:=h.get hx
  rw[hy]
  dsimp only
  rw[e3]
theorem iZ (p:List HH):alike (p.map aP) p:=by
 unfold alike
 rw[List.map_map]
 refine List.map_congr_left fun x _=>?_
 simp only[Function.comp,aP]
 split <;> rfl
theorem Hd (v:Int):ar ⟨0,v,[]⟩=0:=by
 unfold ar nE
 split <;> simp
theorem Gb {v:Int}(h:af v 0 999=true):(yF v).ok:=⟨by simp[eO,h],by rw[Hd];rfl,trivial⟩
theorem FQ {t:HP}{fs:List Ex}(h1:eO t=true)(h2:fs.length=ar t)(h3:iU fs):(wb t fs).ok:=by
 unfold wb
 split
 ·split
  ·rename_i hc
   exact Gb hc.2.2.2
  ·exact⟨h1,h2,h3⟩
 ·exact⟨h1,h2,h3⟩
mutual
theorem Ex.fold_ok:∀e:Ex,e.ok→e.fold.ok
 | .node t es,h=>by rw[Ex.fold];exact FQ h.1 (by rw[jo];exact h.2.1) (wE es h.2.2)
theorem wE:∀es:List Ex,iU es→iU (aZ es)
 | [],_=>by rw[aZ];trivial
 | a::es,h=>by rw[aZ];exact⟨a.fold_ok h.1,wE es h.2⟩
end
theorem Ej {t:HP}{fs:List Ex}{z:HP}(h:z∈(wb t fs).toks):z=t∨z∈au fs∨∃n,z=⟨0,n,[]⟩:=by
 unfold wb at h
 split at h
 ·split at h
  ·simp only[yF,Ex.toks,au,List.mem_cons,List.not_mem_nil,or_false]at h
   exact .inr (.inr ⟨_,h⟩)
  ·rw[Ex.toks,List.mem_cons]at h
   exact h.imp id .inl
 ·rw[Ex.toks,List.mem_cons]at h
  exact h.imp id .inl
mutual
theorem Ex.fold_mem:∀(e:Ex) {z:HP},z∈e.fold.toks→z∈e.toks∨∃n,z=⟨0,n,[]⟩
 | .node t es,z,h=>by
  rw[Ex.fold]at h
  rw[Ex.toks,List.mem_cons]
  rcases Ej h with h|h|h
  ·exact .inl (.inl h)
  ·rcases uC es h with h|h
   ·exact .inl (.inr h)
   ·exact .inr h
  ·exact .inr h
theorem uC:∀(es:List Ex) {z:HP},z∈au (aZ es)→z∈au es∨∃n,z=⟨0,n,[]⟩
 | [],z,h=>by rw[aZ]at h;exact .inl h
 | a::es,z,h=>by
  rw[aZ,au,List.mem_append]at h
  rw[au,List.mem_append]
  rcases h with h|h
  ·exact(a.fold_mem h).imp .inl id
  ·exact(uC es h).imp .inr id
end
theorem DA {e:Ex}(ho:e.ok)(hl:e.toks.length≤20):br e.toks=true:=by
 have h:=jq (l:=e.toks) (p:=0) ⟨[],by rw[List.drop_zero,List.append_nil]⟩ ho
 have hp:=e.toks_pos
 unfold br
 rw[decide_eq_true hl,decide_eq_true hp,show di e.toks 0=_ from h]
 simp
theorem rV {l:List HP}(h:br l=true):br (kF l)=true∧∀z∈kF l,z∈l∨∃n,z=⟨0,n,[]⟩:=by
 obtain⟨e,h1,h2,h3⟩:=oX h
 have hl:=wN l
 have h20:l.length≤20:=by
  unfold br at h
  simp only[Bool.and_eq_true,decide_eq_true_eq]at h
  exact h.1
 rw[h3]at hl ⊢
 refine⟨DA (e.fold_ok h1) (by omega),fun z hz=>?_⟩
 rw[h2]
 exact e.fold_mem hz
theorem lR {L:Int}:∀{rows:List (List Tr)},(∀r∈rows,aK L r)→fG L rows
 | [],_=>by rw[fG];trivial
 | r::rs,h=>by rw[fG];exact⟨h r (by simp),lR fun x hx=>h x (by simp[hx])⟩
theorem uD {x:HH}(hs:aK 1048576 x.tr)(he:(x.faa=1∨x.faa=2∨x.faa=3∨x.faa=5∨x.faa=6)→br x.fad=true)(h20:x.fad.length≤20):
  (aP x).faa=x.faa∧(aP x).fag=x.fag∧(aP x).fad.length≤20∧((x.faa=1∨x.faa=2∨x.faa=3∨x.faa=5∨x.faa=6)→br (aP x).fad=true)∧(∀z∈(aP x).fad,z∈x.fad∨∃n,z=⟨0,n,[]⟩)∧aK 1048576 (aP x).tr:=by
 unfold aP
 split
 ·rename_i hpos
  have hl:=wN x.fad
  have hz:∀z∈kF x.fad,z∈x.fad∨∃n,z=⟨0,n,[]⟩:=by
   cases hx:br x.fad with
   | true=>exact(rV hx).2
   | false=>rw[oV hx];intro z hz;cases hz
  refine⟨rfl,rfl,by dsimp only;omega,fun hk=>(rV (he hk)).1,hz,?_⟩
  simp only[HH.tr,aK]at hs ⊢
  obtain⟨q0,q1,q2,q3,q4⟩:=hs
  refine⟨q0,q1,q2,?_,q4⟩
  have hsl:=mU q3
  rw[aB]
  refine⟨by rw[List.length_map];omega,lR fun r hr=>?_⟩
  obtain⟨z,hz1,rfl⟩:=List.mem_map.1 hr
  rcases hz z hz1 with h|⟨n,rfl⟩
  ·exact aT q3 h
  ·simp[HP.tr,aK,aB]
 ·exact⟨rfl,rfl,h20,he,fun z hz=> .inl hz,hs⟩
theorem PgOk.fold {p:List HH}(h:PgOk p):PgOk (p.map aP):=by
 have ha:=iZ p
 have bU:∀{k:Nat} {y:HH},(p.map aP)[k]?=some y→∃x,p[k]?=some x∧y=aP x:=fun{k y} hy=>by
  rw[List.getElem?_map]at hy
  cases hx:p[k]? with
  | none=>rw[hx]at hy;cases hy
  | some x=>rw[hx]at hy;injection hy with hy;exact⟨x,rfl,hy.symm⟩
 have hf:∀{k:Nat} {x:HH},p[k]?=some x→_:=fun{k x} hx=>uD (aT h.small (List.mem_of_getElem? hx)) (h.line k x hx).2.2.2.2 (h.line k x hx).2.2.2.1
 refine⟨by rw[List.length_map];exact h.len,?_,fun k y hy=>?_,fun g y hy h0=>?_⟩
 ·rw[aB]
  refine⟨by have:=h.len;simp;omega,lR fun r hr=>?_⟩
  obtain⟨y,hy,rfl⟩:=List.mem_map.1 hr
  obtain⟨x,hx,rfl⟩:=List.mem_map.1 hy
  obtain⟨k,hk,hkx⟩:=List.mem_iff_getElem.1 hx
  exact(hf (k:=k) (x:=x) (by rw[List.getElem?_eq_getElem hk,hkx])).2.2.2.2.2
 ·obtain⟨x,hx,rfl⟩:=bU hy
  obtain⟨f1,f2,f3,f4,_⟩:=hf hx
  obtain⟨l1,l2,l3,_⟩:=h.line k x hx
  rw[f1,f2]
  exact⟨l1,l2,l3,f3,f4⟩
 ·obtain⟨x,hx,rfl⟩:=bU hy
  obtain⟨f1,f2,_⟩:=hf hx
  rw[f1]at h0
  obtain⟨e,he,q1,q2,q3⟩:=h.fn g x hx h0
  refine⟨e,by rw[ha.endAt];exact he,by rw[ha.localsOf];exact q1,by rw[ha.localsOf,f2];exact q2,fun k y hk1 hk2 hy=>?_⟩
  obtain⟨z,hz,rfl⟩:=bU hy
  obtain⟨g1,_,_,_,g5,_⟩:=hf hz
  obtain⟨r1,r2,r3⟩:=q3 k z hk1 hk2 hz
  refine⟨by rw[g1];exact r1,fun t ht h7=>?_,fun h4=>?_⟩
  ·rcases g5 t ht with h'|⟨n,rfl⟩
   ·obtain⟨f,hf1,hf2⟩:=r2 t h' h7
    exact⟨f,by rw[ha.findN];exact hf1,by rw[ha.argsN];exact hf2⟩
   ·exact absurd h7 (show ¬(0:Int)=7 by decide)
  ·rw[g1]at h4
   obtain⟨i,i1,i2,i3⟩:=r3 h4
   exact⟨i,i1,i2,by rw[ha.elseAt];exact i3⟩
end Go.Proofs.YtjmplnfiabmalaaGreat
namespace Go.Proofs.YtjmplnfiabmalaaGreat
open Go.Sim
set_option maxRecDepth 100000
set_option maxHeartbeats 4000000
abbrev kJ (x:Sc)(lv:List Int):List DC:=[.d (.int .i64 (x.f:Int)),.t (.lst 1 (x.chain.map aa)),.t (.lst 1 (x.locals.map ah)),.d (.int .i64 x.first),.d (.bool x.outer),.d (.lst (if x.outer=true then 0 else 1) (lv.map aa))]
abbrev scV (x:Sc):AV:= .r (.agg [.t (.int .i64 (x.f:Int)),.t (.lst 1 (x.chain.map aa)),.t (.lst 1 (x.locals.map ah)),.t (.int .i64 x.first),.t (.bool x.outer),.opq])
abbrev wv (l:List Int):AV:= .r (.c (.t (.lst 1 (l.map aa))))
abbrev itR (l:List HG):List (List DC):=ax (l.map HG.tr)
abbrev nY (C:Cx)(s:Gs)(d:Int)(i1 i2:Sim.Id):AO:= .box [.t (.lst 4 (C.p.map HH.tr)),.t (.int .i64 C.b.far),.t (.int .i64 C.b.fal),.t (.bool C.b.faw),.t (.bool C.b.fas),.t (.bool C.framed),.t (.int .i64 C.words),.t (.int .i64 s.most),.t (.int .i64 C.args),.t (.int .i64 d),.own i1,.own i2,.t (.bool s.start)]
abbrev gn (i1 i2:Sim.Id)(C:Cx)(s:Gs)(d:Int)(S:List (List DC)):List (Sim.Id×AO):=[((0,0,0),nY C s d i1 i2),(i1,.dar 7 (itR s.items) none),(i2,.dar 6 S none)]
abbrev cS:AV:= .r (.c (.ptr (0,0,0) 0))
theorem iB (l:List HG):(itR l).length=l.length:=by rw[itR,cJ,List.length_map]
theorem Ad (l:List HG)(x:HG):itR (l++[x])=itR l++[x.tr.map .d]:=by simp[itR,ax]
def bu (s:Gs):Prop:=s.items.length≤68719476736
theorem bK (C:Cx)(s:Gs)(d:Int)(S:List (List DC))(code arg line:Int)(chain:List Int)(h1:bu s)(h2:chain.length≤100):aV Tryz.prog 206 [cS,tI .i64 code,tI .i64 arg,tI .i64 line,wv chain] (gn (0,0,1) (0,0,2) C s d S) (.tup []) (gn (1,0,1) (0,0,2) C (az C s d code arg line chain) d S):=by
 refine aj hΓ ay Tryz.func206 rfl (by decide) rfl rfl ?_
 unfold bu at h1
 have hlen:=iB s.items
 have hcl:(chain.map aa).length=chain.length:=by simp
 have hfl:=fE chain
 repeat' ((conv=>whnf);first|apply Wx|apply W6|apply oi|(apply fi<;>intro h)|refine⟨_,rfl,?_⟩|exact rfl)
 all_goals try exact⟨KP⟩
 all_goals try exact⟨⟨by rw[hlen];(try dsimp only);omega,by rw[hlen];(try dsimp only);omega⟩⟩
 all_goals try exact⟨⟨by simp <;> omega,by simp <;> omega⟩⟩
 all_goals try exact⟨by simpa using hfl⟩
 all_goals(refine⟨?_⟩;(try rw[hlen]at *);rw[az,Ad];congr 1;simp_all[kP,HG.tr])
theorem pw (C:Cx)(hC:CxOk C)(s:Gs)(d:Int)(S:List (List DC))(x:Sc)(i:Int)(store:Bool)(hd:-2000≤d∧d≤2000)(hx:0≤x.first∧x.first≤1000)(hi:-2≤i∧i≤100):aV Tryz.prog 264 [cS,scV x,tI .i64 i,tB store] (gn (0,0,1) (0,0,2) C s d S) (.tup [.c (.t (.int .i64 (co C store))),.c (.t (.int .i64 (cD C x d i)))]) (gn (0,0,1) (0,0,2) C s d S):=by
 refine aj hΓ ay Tryz.func264 rfl (by decide) rfl rfl ?_
 obtain⟨a1,a2⟩:=hC.args
 repeat' ((conv=>whnf);first|apply Wx|apply W6|apply oi|(apply fi<;>intro h)|refine⟨_,rfl,?_⟩|exact rfl)
 all_goals try exact⟨KP⟩
 all_goals try(exfalso;simp_all;done)
 all_goals(refine⟨congrArg (Tr.int _) ?_⟩;(try unfold co);(try unfold cD kl eR);(try simp(disch:=omega)only[IntWalk.i64_in]);simp_all <;> omega)
theorem yO (C:Cx)(hC:CxOk C)(s:Gs)(d:Int)(S:List (List DC))(x:Sc)(i line:Int)(h1:bu s)(h2:x.chain.length≤100)(hd:-1000≤d∧d≤1999)(hx:0≤x.first∧x.first≤1000)(hi:-2≤i∧i≤100):aV Tryz.prog 261 [cS,scV x,tI .i64 i,tI .i64 line] (gn (0,0,1) (0,0,2) C s d S) (.tup []) (gn (1,0,1) (0,0,2) C (BS C x s d i line) (d+1) S):=by
 refine aj hΓ ay Tryz.func261 rfl (by decide) rfl rfl ?_
 have g1:=pw C hC s d S x i false (by omega) hx hi
 have g2:=bK C s d S (co C false) (cD C x d i) line x.chain h1 h2
 repeat' ((conv=>whnf);first|apply Wx|apply W6|apply oi|(apply fi<;>intro h)|refine⟨_,rfl,?_⟩|exact rfl)
 all_goals try exact⟨KP⟩
 refine cg (g1) ?_
 repeat' ((conv=>whnf);first|apply Wx|apply W6|apply oi|(apply fi<;>intro h)|refine⟨_,rfl,?_⟩|exact rfl)
 all_goals try exact⟨KP⟩
 refine cg (g2) ?_
 repeat' ((conv=>whnf);first|apply Wx|apply W6|apply oi|(apply fi<;>intro h)|refine⟨_,rfl,?_⟩|exact rfl)
 all_goals try exact⟨KP⟩
 all_goals try exact⟨KW⟩
theorem kX (C:Cx)(hC:CxOk C)(s:Gs)(d:Int)(S:List (List DC))(x:Sc)(i line:Int)(chain:List Int)(h1:bu s)(h2:chain.length≤100)(hd:-1000≤d∧d≤2000)(hx:0≤x.first∧x.first≤1000)(hi:-2≤i∧i≤100):aV Tryz.prog 247 [cS,scV x,tI .i64 i,tI .i64 line,wv chain] (gn (0,0,1) (0,0,2) C s d S) (.tup []) (gn (1,0,1) (0,0,2) C (dD C x s d i line chain) (d - 1) S):=by
 refine aj hΓ ay Tryz.func247 rfl (by decide) rfl rfl ?_
 have g1:=pw C hC s d S x i true (by omega) hx hi
 have g2:=bK C s d S (co C true) (cD C x d i) line chain h1 h2
 repeat' ((conv=>whnf);first|apply Wx|apply W6|apply oi|(apply fi<;>intro h)|refine⟨_,rfl,?_⟩|exact rfl)
 all_goals try exact⟨KP⟩
 refine cg (g1) ?_
 repeat' ((conv=>whnf);first|apply Wx|apply W6|apply oi|(apply fi<;>intro h)|refine⟨_,rfl,?_⟩|exact rfl)
 all_goals try exact⟨KP⟩
 refine cg (g2) ?_
 repeat' ((conv=>whnf);first|apply Wx|apply W6|apply oi|(apply fi<;>intro h)|refine⟨_,rfl,?_⟩|exact rfl)
 all_goals try exact⟨KP⟩
 all_goals try exact⟨KW⟩
theorem ke (C:Cx)(s:Gs)(d:Int)(S:List (List DC))(v line:Int)(chain:List Int)(h1:bu s)(h2:chain.length≤100)(hd:-1000≤d∧d≤1999):aV Tryz.prog 244 [cS,tI .i64 v,tI .i64 line,wv chain] (gn (0,0,1) (0,0,2) C s d S) (.tup []) (gn (1,0,1) (0,0,2) C (az C s d 0 v line chain) (d+1) S):=by
 refine aj hΓ ay Tryz.func244 rfl (by decide) rfl rfl ?_
 have g2:=bK C s d S 0 v line chain h1 h2
 repeat' ((conv=>whnf);first|apply Wx|apply W6|apply oi|(apply fi<;>intro h)|refine⟨_,rfl,?_⟩|exact rfl)
 all_goals try exact⟨KP⟩
 refine cg (g2) ?_
 repeat' ((conv=>whnf);first|apply Wx|apply W6|apply oi|(apply fi<;>intro h)|refine⟨_,rfl,?_⟩|exact rfl)
 all_goals try exact⟨KP⟩
 all_goals try exact⟨KW⟩
abbrev scH (l:List (Sc×List Int)):List (List DC):=l.map fun y=>kJ y.1 y.2
theorem pz (C:Cx)(hC:CxOk C)(s:Gs)(d:Int)(S:List (Sc×List Int))(x:Sc)(lv:List Int)(k:Nat)(last:Bool)(h1:bu s)(h2:x.chain.length≤100)(hd:-1000≤d∧d≤2000)(hS:S.length≤100)(hlv:lv.length≤68719476736)(hd p:List Int):
  aV Tryz.prog 245 [cS,tI .i64 (k:Int),tB last] (gn (0,0,1) (0,0,2) C s d (scH (S++[(x,lv)]))) (.tup []) (gn (1,0,1) (1,0,2) C (aR C x k last d ⟨s,hd,p,lv⟩).g (d - 1) (scH (S++[(x,(aR C x k last d ⟨s,hd,p,lv⟩).lv)]))):=by
 refine aj hΓ ay Tryz.func245 rfl (by decide) rfl rfl ?_
 obtain⟨f,chain,locals,first,outer⟩:=x
 have hlen:=iB s.items
 have hsl:(scH (S++[(⟨f,chain,locals,first,outer⟩,lv)])).length=S.length+1:=by simp
 have hrow:(scH (S++[(⟨f,chain,locals,first,outer⟩,lv)]))[S.length]?=some (kJ ⟨f,chain,locals,first,outer⟩ lv):=by simp
 have hw:IntKind.i64.wrap (((scH (S++[(⟨f,chain,locals,first,outer⟩,lv)])).length:Int) - 1)=(S.length:Int):=by rw[hsl,IntWalk.i64_in _ (by omega)];omega
 have hfl:=fE lv
 have hfl2:=fE (lv++[(s.items.length:Int)])
 have hlt:S.length < (scH (S++[(⟨f,chain,locals,first,outer⟩,lv)])).length:=by omega
 have hll:(lv.map aa).length=lv.length:=by simp
 unfold bu at h1
 cases outer with
 | false=>
  cases last with
  | true=>
   have e:aR C ⟨f,chain,locals,first,false⟩ k true d ⟨s,hd,p,lv⟩=⟨s,hd,p,lv⟩:=by simp[aR]
   rw[e]
   repeat' ((conv=>whnf);first|apply Wx|apply W6|apply oi|(apply fi<;>intro h)|refine⟨S.length,hw,hlt,?_⟩|refine⟨_,hrow,?_⟩|refine⟨_,rfl,?_⟩|exact rfl)
   all_goals try exact⟨KP⟩
   all_goals try exact⟨KW⟩
   all_goals(exfalso;simp_all;done)
  | false=>
   have e:aR C ⟨f,chain,locals,first,false⟩ k false d ⟨s,hd,p,lv⟩=⟨az C s d 10 0 k chain,hd,p,lv++[(s.items.length:Int)]⟩:=by simp[aR]
   rw[e]
   have g:=bK C s d ((scH (S++[(⟨f,chain,locals,first,false⟩,lv)])).set S.length [.d (.int .i64 (f:Int)),.t (.lst 1 (chain.map aa)),.t (.lst 1 (locals.map ah)),.d (.int .i64 first),.d (.bool false),.d (.lst 1 (lv.map aa++[[.int .i64 ((itR s.items).length:Int)]]))]) 10 0 k chain h1 h2
   repeat' ((conv=>whnf);first|apply Wx|apply W6|refine cg g ?_|apply oi|(apply fi<;>intro h)|refine⟨S.length,hw,hlt,?_⟩|refine⟨_,hrow,?_⟩|refine⟨_,(List.getElem?_set_self hlt),?_⟩|refine⟨_,rfl,?_⟩|exact rfl)
   all_goals try exact⟨KP⟩
   all_goals try exact⟨hfl⟩
   all_goals try exact⟨⟨by rw[hll];(try dsimp only);simp <;> omega,by rw[hll];(try dsimp only);simp <;> omega⟩⟩
   all_goals try exact⟨by rw[hlen];first|(simp[aa];done)|simpa [aa]using hfl2⟩
   all_goals try exact⟨KW⟩
   all_goals try(exfalso;simp_all;done)
   all_goals(refine⟨?_⟩;rw[hlen];simp[List.set_append,aa])
 | true=>
  have g1:=bK C s d (scH (S++[(⟨f,chain,locals,first,true⟩,lv)])) 14 C.args k chain h1 h2
  have g2:=bK C s d (scH (S++[(⟨f,chain,locals,first,true⟩,lv)])) 16 (C.args+16 * C.words) k chain h1 h2
  obtain⟨a1,a2⟩:=hC.args
  obtain⟨a3,a4⟩:=hC.words
  have e2:IntKind.i64.wrap (C.args+IntKind.i64.wrap (16 * C.words))=C.args+16 * C.words:=by simp(disch:=omega)only[IntWalk.i64_in]
  rw[←e2]at g2
  cases hf:C.framed with
  | true=>
   have e:aR C ⟨f,chain,locals,first,true⟩ k last d ⟨s,hd,p,lv⟩=⟨az C s d 14 C.args k chain,hd,p,lv⟩:=by simp[aR,hf]
   rw[e]
   repeat' ((conv=>whnf);first|apply Wx|apply W6|refine cg g1 ?_|apply oi|(apply fi<;>intro h)|refine⟨S.length,hw,hlt,?_⟩|refine⟨_,hrow,?_⟩|refine⟨_,rfl,?_⟩|exact rfl)
   all_goals try exact⟨KP⟩
   all_goals try exact⟨KW⟩
   all_goals(exfalso;simp_all;done)
  | false=>
   have e:aR C ⟨f,chain,locals,first,true⟩ k last d ⟨s,hd,p,lv⟩=⟨az C s d 16 (IntKind.i64.wrap (C.args+IntKind.i64.wrap (16 * C.words))) k chain,hd,p,lv⟩:=by simp[aR,hf,e2]
   rw[e]
   repeat' ((conv=>whnf);first|apply Wx|apply W6|refine cg g2 ?_|apply oi|(apply fi<;>intro h)|refine⟨S.length,hw,hlt,?_⟩|refine⟨_,hrow,?_⟩|refine⟨_,rfl,?_⟩|exact rfl)
   all_goals try exact⟨KP⟩
   all_goals try exact⟨KW⟩
   all_goals(exfalso;simp_all;done)
abbrev my (e:Int×Int):List Tr:=[.int .i64 e.1,.int .i64 e.2]
theorem CR {l:List HG}{j:Nat}{x:HG}(h:l[j]?=some x)(v:Int):bN l (j:Int) v=l.set j ⟨⟨x.fae.fab,v⟩,x.fam,x.fah,x.fap,x.faq,x.fat⟩:=by
 rw[bN,if_pos (by omega),Int.toNat_natCast,h]
theorem jw {l:List HG}{j:Nat}{x:HG}(h:l[j]?=some x)(v:Int):itR (bN l (j:Int) v)=(itR l).set j [.d (.int .i64 x.fae.fab),.d (.int .i64 v),.d (.int .i64 x.fam),.d (.bool x.fah),.d (.lst 1 (x.fap.map aa)),.d (.int .i64 x.faq),.d (.bool x.fat)]:=by
 rw[CR h]
 simp[ax,List.map_set,HG.tr]
theorem fj {l:List HG}{j:Nat}{x:HG}(h:l[j]?=some x):(itR l)[j]?=some (x.tr.map .d):=iD (ab h)
theorem oR (C:Cx)(s:Gs)(d:Int)(S:List (List DC))(E:List (Int×Int))(to:Int)(h1:bu s)(hE:E.length≤100)(hin:∀e∈E,0≤e.2∧e.2 < s.items.length):
  aV Tryz.prog 243 [cS,.r (.c (.own (0,1,0))),tI .i64 to] (gn (0,0,1) (0,0,2) C s d S++[((0,1,0),.arr false 2 (E.map my))]) (.tup []) (gn (0,0,1) (0,0,2) C ⟨cX s.items s.items.length to E,s.most,s.start⟩ d S++[((0,1,0),.arr false 2 (E.map my))]):=by
 refine aj hΓ ay Tryz.func243 rfl (by decide) rfl rfl ?_
 have hEl:(E.map my).length=E.length:=by simp
 unfold bu at h1
 repeat' ((conv=>whnf);first|apply Wx|apply W6|apply oi|(apply fi<;>intro h)|refine⟨_,rfl,?_⟩|exact rfl)
 all_goals try exact⟨KP⟩
 conv=>whnf
 refine⟨{k:Nat // k≤E.length},fun q=>⟨[(0,cS),(1,.r (.c (.own (0,1,0)))),(2,tI .i64 to),(6,tI .i64 (q.1:Int))],[((0,0,0),some (nY C s d (0,0,1) (0,0,2))),((0,0,1),some (.dar 7 (itR (cX s.items s.items.length to (E.take q.1))) none)),((0,0,2),some (.dar 6 S none)),((0,1,0),some (.arr false 2 (E.map my)))],[0]⟩,fun q=>E.length - q.1,⟨0,by omega⟩,?_,?_⟩
 ·skip
  repeat' ((conv=>whnf);first|apply Wx|apply W6|apply oi|(apply fi<;>intro h)|refine⟨_,rfl,?_⟩|exact rfl)
  all_goals try exact⟨KP⟩
 intro⟨k,hk⟩
 dsimp only at hk ⊢
 have hpl:=tH s.items.length to (E.take k) s.items
 have hil:(itR (cX s.items s.items.length to (E.take k))).length=s.items.length:=by rw[iB,hpl]
 by_cases hlt:k < E.length
 ·obtain⟨e,he⟩:=ae hlt
  obtain⟨i1,i2⟩:=hin e (List.mem_of_getElem? he)
  obtain⟨j,hj⟩:=Int.eq_ofNat_of_zero_le i1
  have hjl:j < (itR (cX s.items s.items.length to (E.take k))).length:=by rw[hil];omega
  obtain⟨x,hx⟩:=ae (l:=cX s.items s.items.length to (E.take k)) (k:=j) (by rw[hpl];omega)
  have hkl:k < (E.map my).length:=by rw[hEl];exact hlt
  have hnext:E.take (k+1)=E.take k++[e]:=by rw[List.take_add_one,he];rfl
  have hps:=Ao s.items.length to e (E.take k) s.items
  repeat' ((conv=>whnf);first|apply Wx|apply W6|apply oi|(apply fi<;>intro h)|refine⟨k,rfl,hkl,?_⟩|refine⟨my e,(ab he),?_⟩|refine⟨j,hj,hjl,?_⟩|refine⟨_,(fj hx),?_⟩|refine⟨_,rfl,?_⟩|exact rfl)
  all_goals try exact⟨KP⟩
  all_goals try exact KX
  all_goals(conv=>whnf)
  all_goals(refine⟨⟨k+1,by omega⟩,?_,KD⟩)
  repeat' ((conv=>whnf);first|apply Wx|apply W6|apply oi|(apply fi<;>intro h)|refine⟨_,rfl,?_⟩|exact rfl)
  all_goals try exact⟨KP⟩
  all_goals try exact⟨KW⟩
  all_goals(refine⟨?_⟩;(try rw[hil]);rw[hnext,hps])
  ·rw[if_pos (by simpa using h),hj,jw hx];rfl
  ·rw[if_neg (by simpa using h)]
 ·skip
  repeat' ((conv=>whnf);first|apply Wx|apply W6|apply oi|(apply fi<;>intro h)|refine⟨_,rfl,?_⟩|exact rfl)
  all_goals try exact⟨KP⟩
  all_goals try exact KX
  all_goals(refine⟨?_⟩;rw[List.take_of_length_le (by omega)])
abbrev bP (S:List (Sc×List Int)):List Nat:=S.map fun y=>y.1.f
theorem sy (C:Cx)(hC:CxOk C)(s:Gs)(d:Int)(S:List (Sc×List Int))(g:Nat)(h1:bu s)(hS:1≤S.length∧S.length≤100)(hg:g < C.p.length):
  aV Tryz.prog 262 [cS,tI .i64 (g:Int)] (gn (0,0,1) (0,0,2) C s d (scH S)) (tB (cb C (bP S) g s.items.length)) (gn (0,0,1) (0,0,2) C s d (scH S)):=by
 refine aj hΓ ay Tryz.func262 rfl (by decide) rfl rfl ?_
 unfold bu at h1
 have hlen:=iB s.items
 have hsl:(scH S).length=S.length:=by simp
 have hpl:(C.p.map HH.tr).length=C.p.length:=by simp
 have hE:=cN C.p (g:Int) (by have:=hC.len;omega)
 have hil:(bP S).length=S.length:=by simp
 have h60:=hC.len
 have hin:=hC.inl
 have hee:-1≤bn C.p (g:Int)∧bn C.p (g:Int)≤60:=by
  rw[bf]
  cases he:endAt C.p g with
  | none=>simp[cu]
  | some e=>have:=aF he;obtain⟨_,_,_,_,_,h⟩:=this;simp only[cu];omega
 unfold cb
 rw[hil]
 generalize bn C.p (g:Int)=eg at *
 have hw1:IntKind.i64.wrap (((scH S).length:Int) - 1)=(S.length:Int) - 1:=by rw[hsl,IntWalk.i64_in _ (by omega)]
 have hw2:IntKind.i64.wrap (eg - (g:Int))=eg - g:=by rw[IntWalk.i64_in _ (by omega)]
 repeat' ((conv=>whnf);first|apply Wx|apply W6|apply oi|(apply fi<;>intro h)|refine cl hE ?_|refine⟨_,rfl,?_⟩|exact rfl)
 all_goals try exact⟨KP⟩
 all_goals try(refine⟨congrArg Tr.bool ?_⟩;(try rw[hw1]at h);(try rw[hw2]at h);(try rw[hlen]at h);simp only[decide_eq_true_eq]at h;symm;simp only[Bool.and_eq_false_iff,decide_eq_false_iff_not];omega)
 conv=>whnf
 refine⟨{k:Nat // k≤S.length∧((bP S).take k).contains g=false},fun q=>⟨[(0,cS),(1,tI .i64 (g:Int)),(5,tI .i64 (q.1:Int))],(gn (0,0,1) (0,0,2) C s d (scH S)).map (fun p=>(p.1,some p.2)),[0]⟩,fun q=>S.length - q.1,⟨0,by omega,by simp⟩,?_,?_⟩
 ·skip
  repeat' ((conv=>whnf);first|apply Wx|apply W6|apply oi|(apply fi<;>intro h)|refine⟨_,rfl,?_⟩|exact rfl)
  all_goals try exact⟨KP⟩
 rename_i ha hb
 rw[hw1]at ha
 rw[hw2]at hb
 rw[hlen]at h
 simp only[decide_eq_false_iff_not]at ha hb h
 have hfin:∀c:Bool,(decide ((S.length:Int)≤C.b.fal) && (decide (eg - (g:Int)≤9) && (decide (s.items.length < 200) && !c)))= !c:=fun c=>by
  rw[decide_eq_true (by omega),decide_eq_true (by omega),decide_eq_true (by omega)];rfl
 rw[hfin]
 clear hfin
 intro⟨k,hk,hno⟩
 dsimp only at hk hno ⊢
 by_cases hlt:k < S.length
 ·obtain⟨y,hy⟩:=ae hlt
  have hyr:(scH S)[k]?=some (kJ y.1 y.2):=by simp[hy]
  have hkl:k < (scH S).length:=by omega
  have hnext:(bP S).take (k+1)=(bP S).take k++[y.1.f]:=by rw[List.take_add_one,List.getElem?_map,hy];rfl
  have hmem:y.1.f∈bP S:=List.mem_map.2 ⟨y,List.mem_of_getElem? hy,rfl⟩
  repeat' ((conv=>whnf);first|apply Wx|apply W6|apply oi|(apply fi<;>intro h)|refine⟨k,rfl,hkl,?_⟩|refine⟨_,hyr,?_⟩|refine⟨_,rfl,?_⟩|exact rfl)
  all_goals try exact⟨KP⟩
  all_goals try exact KX
  ·refine⟨congrArg Tr.bool ?_⟩
   have e:y.1.f=g:=by have:=eq_of_beq h;omega
   rw[←e,List.contains_iff_mem.2 hmem]
   rfl
  ·conv=>whnf
   refine⟨⟨k+1,by omega,?_⟩,?_,KD⟩
   ·have e:g≠y.1.f:=fun e=>by rw[←e]at h;simp at h
    rw[hnext,List.contains_eq_any_beq,List.any_append,←List.contains_eq_any_beq,hno]
    simp[e]
   repeat' ((conv=>whnf);first|apply Wx|apply W6|apply oi|(apply fi<;>intro h)|refine⟨_,rfl,?_⟩|exact rfl)
   all_goals try exact⟨KP⟩
   all_goals try exact⟨KW⟩
 ·skip
  repeat' ((conv=>whnf);first|apply Wx|apply W6|apply oi|(apply fi<;>intro h)|refine⟨_,rfl,?_⟩|exact rfl)
  all_goals try exact⟨KP⟩
  all_goals try exact KX
  rw[List.take_of_length_le (by omega)]at hno
  exact⟨by rw[hno];rfl⟩
def nc (C:Cx)(l:List HP):Prop:=∀t∈l,t.faa=7→∃f,findN C.p 0 t.fac=some f∧(argsN C.p f:Int)=t.faj
structure Rm (C:Cx) (lev n:Nat) (S:Nat) (s:Gs) (d:Int):Prop where
 room:s.items.length+n * cf lev≤68719476736
 depth:((lev+S:Nat):Int)=C.b.fal
 low:0≤d
 high:d+(n:Int)+100 * (lev:Int)≤1900
def Hq (C:Cx)(lev:Nat):Prop:=∀(e:Ex) (x:Sc) (S:List (Sc×List Int)) (lv:List Int) (k p:Nat) (ln:HH) (s:Gs) (d:Int),e.ok→ScOk C x (bP (S++[(x,lv)]))→C.p[k]?=some ln→fZ ln.fad p e→nc C ln.fad→Rm C lev e.toks.length S.length s d→
 aV Tryz.prog 246 [cS,tI .i64 (k:Int),tI .i64 (p:Int)] (gn (0,0,1) (0,0,2) C s d (scH (S++[(x,lv)]))) (tI .i64 ((p+e.toks.length:Nat):Int)) (gn (1,0,1) (1,0,2) C (eb C (aX C lev) x (bP (S++[(x,lv)])) k e d s) (d+1) (scH (S++[(x,lv)])))
def Eh (C:Cx)(lev:Nat):Prop:=∀(x:Sc) (S:List (Sc×List Int)) (lv:List Int) (k g:Nat) (s:Gs) (d:Int),ScOk C x (bP (S++[(x,lv)]))→k < C.p.length→bG C g→cb C (bP (S++[(x,lv)])) g s.items.length=true→Rm C lev 1 S.length s (d - argsN C.p g)→
 aV Tryz.prog 263 [cS,tI .i64 (g:Int),tI .i64 (k:Int),scV x] (gn (0,0,1) (0,0,2) C s d (scH (S++[(x,lv)]))) (.tup []) (gn (1,0,1) (1,0,2) C (aX C lev x (bP (S++[(x,lv)])) k g d s) (d - argsN C.p g+1) (scH (S++[(x,lv)])))
theorem kB {α:Type}[BEq α](l:List α)(s:α):-1≤cY l s∧cY l s≤l.length:=by
 unfold cY
 cases h:ka l 0 s with
 | none=>simp only[cu];omega
 | some k=>have:=wi h;simp only[cu];omega
theorem lr {C:Cx}(hC:CxOk C){k:Nat}{ln:HH}(hk:C.p[k]?=some ln):dH ln.fad∧ln.fac.length≤1048576:=by
 obtain⟨h1,_,_,_,h5⟩:=cG (aT hC.small (List.mem_of_getElem? hk))
 exact⟨fun t ht=>by have:=h5 t ht;omega,h1⟩
theorem Aq (p:List HH)(g:Nat):lJ p g≤g:=by
 unfold lJ
 have h1:=List.length_filter_le (fun x:HH=>x.faa==0) (p.take g)
 have h2:=List.length_take_le g p
 omega
theorem BD {p:List HH}{i:Nat}{x:HH}(hx:p[i]?=some x):lJ p (i+1)=lJ p i+if x.faa=0 then 1 else 0:=by
 unfold lJ
 rw[List.take_add_one,hx,List.filter_append,List.length_append]
 by_cases h:x.faa=0
 ·simp[h]
 ·simp[h]
theorem Aa {C:Cx}(hC:CxOk C){lev:Nat}(hR:Eh C lev):∀(n:Nat) (e:Ex),e.toks.length≤n→∀(x:Sc) (S:List (Sc×List Int)) (lv:List Int) (k p:Nat) (ln:HH) (s:Gs) (d:Int),e.ok→ScOk C x (bP (S++[(x,lv)]))→C.p[k]?=some ln→fZ ln.fad p e→nc C ln.fad→Rm C lev e.toks.length S.length s d→
  aV Tryz.prog 246 [cS,tI .i64 (k:Int),tI .i64 (p:Int)] (gn (0,0,1) (0,0,2) C s d (scH (S++[(x,lv)]))) (tI .i64 ((p+e.toks.length:Nat):Int)) (gn (1,0,1) (1,0,2) C (eb C (aX C lev) x (bP (S++[(x,lv)])) k e d s) (d+1) (scH (S++[(x,lv)])))
 | 0,e,hn,_,_,_,_,_,_,_,_,_,_,_,_,_,_=>by have:=e.toks_pos;omega
 | n+1,.node t es,hn,x,S,lv,k,p,ln,s,d,ho,hx,hk,hs,hca,hr=>by
  refine aj hΓ ay Tryz.func246 rfl (by decide) rfl rfl ?_
  obtain⟨hsh,hnm⟩:=lr hC hk
  have hle:=fF hs
  obtain⟨ht,hsa⟩:=go hs
  obtain⟨e1,e2⟩:=qk ho.1
  have hel:es.length=ar t:=ho.2.1
  have hA:=ly t (hsh t (List.mem_of_getElem? ht))
  rw[e1,←hel]at hA
  have h60:=hC.len
  have h20:=(hC.line _ _ hk).2.2.2.1
  have hsl:(scH (S++[(x,lv)])).length=S.length+1:=by simp
  have hrow:(scH (S++[(x,lv)]))[S.length]?=some (kJ x lv):=by simp
  have hlt:S.length < (scH (S++[(x,lv)])).length:=by omega
  have hr1:=hr.room
  have hr2:=hr.depth
  have hr3:=hr.low
  have hr4:=hr.high
  have hin:=hC.inl
  have hw:IntKind.i64.wrap (((scH (S++[(x,lv)])).length:Int) - 1)=(S.length:Int):=by rw[hsl,IntWalk.i64_in _ (by omega)];omega
  have htp:=ui lev
  rw[Ex.toks,List.length_cons]at hn hle hr1 hr4
  rw[eb]
  repeat' ((conv=>whnf);first|apply Wx|apply W6|apply oi|(apply fi<;>intro h)|refine⟨S.length,hw,hlt,?_⟩|refine⟨_,hrow,?_⟩|refine⟨k,ln.tr,rfl,ab hk,?_⟩|refine⟨p,t.tr,rfl,ab ht,?_⟩|refine cl hA ?_|refine⟨_,rfl,?_⟩|exact rfl)
  all_goals try exact⟨KP⟩
  conv=>whnf
  refine⟨{j:Nat // j≤es.length},fun q=>⟨[(0,cS),(1,tI .i64 (k:Int)),(2,tI .i64 ((p+1+(au (es.take q.1)).length:Nat):Int)),(9,tI .i64 ((es.length - q.1:Nat):Int)),(7,.r (.c (.ptr (7,0,0) 0))),(8,.r (.c (.ptr (8,0,0) 0)))],
   [(
    (0,0,0),some (nY C (dt C (aX C lev) x (bP (S++[(x,lv)])) k (es.take q.1) d s) (d+q.1) (7,0,1) (7,0,2))),((7,0,1),some (.dar 7 (itR (dt C (aX C lev) x (bP (S++[(x,lv)])) k (es.take q.1) d s).items) none)),((7,0,2),some (.dar 6 (scH (S++[(x,lv)])) none)),
    ((7,0,0),some (.box [.t (.int .i64 (x.f:Int)),.t (.lst 1 (x.chain.map aa)),.t (.lst 1 (x.locals.map ah)),.t (.int .i64 x.first),.t (.bool x.outer),.opq])),((8,0,0),some (.box (t.tr.map .t)))],[8,7,0]⟩,fun q=>es.length - q.1,⟨0,by omega⟩,?_,?_⟩
  ·skip
   repeat' ((conv=>whnf);first|apply Wx|apply W6|apply oi|(apply fi<;>intro h)|refine⟨_,rfl,?_⟩|exact rfl)
   all_goals try exact⟨KP⟩
   ·exact⟨congrArg (Tr.int _) (by rw[IntWalk.i64_in _ (by omega)];simp[au])⟩
   ·exact⟨congrArg (Tr.int _) (by simp)⟩
  intro⟨j,hj⟩
  dsimp only at hj ⊢
  have hgr:=kV (C:=C) (x:=x) (ins:=bP (S++[(x,lv)])) (line:=k) (lev:=lev) (fun g d s hg hr=>cR hC lev k g d s hx hg hr) (es.take j) d s
  have hg2:=hgr.le
  have htk:=cV es j
  obtain⟨s1,hs1⟩:∃s1,dt C (aX C lev) x (bP (S++[(x,lv)])) k (es.take j) d s=s1:=⟨_,rfl⟩
  rw[hs1]at hgr hg2 ⊢
  by_cases hlj:j < es.length
  ·obtain⟨a,ha⟩:=ae hlj
   have hta:=iw ha
   have htk2:=cV es (j+1)
   have hal:=iX ha
   have hjt:j≤(au (es.take j)).length:=by
    have:∀(l:List Ex),l.length≤(au l).length:=by
     intro l
     induction l with
     | nil=>simp
     | cons b l ih=>have:=b.toks_pos;rw[au,List.length_append,List.length_cons];omega
    have h2:=this (es.take j)
    rw[List.length_take]at h2
    omega
   have hm:=Nat.mul_le_mul_right (cf lev) (show(au (es.take j)).length+a.toks.length≤(au es).length+1 by omega)
   rw[Nat.add_mul]at hm
   have hI:=Aa hC hR n a (by omega) x S lv k (p+1+(au (es.take j)).length) ln s1 (d+j) (kw ho.2.2 ha) hx hk (rx hsa ha) hca ⟨by omega,hr2,by omega,by omega⟩
   have hnext:=oK C (aX C lev) x (bP (S++[(x,lv)])) k d s ha
   rw[hs1]at hnext
   repeat' ((conv=>whnf);first|apply Wx|apply W6|apply oi|(apply fi<;>intro h)|refine⟨_,rfl,?_⟩|exact rfl)
   all_goals try exact⟨KP⟩
   all_goals try exact KX
   refine cg (hI) ?_
   repeat' ((conv=>whnf);first|apply Wx|apply W6|apply oi|(apply fi<;>intro h)|refine⟨_,rfl,?_⟩|exact rfl)
   all_goals try exact⟨KP⟩
   conv=>whnf
   refine⟨⟨j+1,by omega⟩,?_,KD⟩
   repeat' ((conv=>whnf);first|apply Wx|apply W6|apply oi|(apply fi<;>intro h)|refine⟨_,rfl,?_⟩|exact rfl)
   all_goals try exact⟨KP⟩
   all_goals try exact⟨by dsimp only;rw[hnext]⟩
   all_goals try exact⟨KW⟩
  ·have hje:j=es.length:=by omega
   subst hje
   rw[List.take_length]at hs1 hg2 htk ⊢
   have hT:(Ex.node t es).toks.length=(au es).length+1:=by rw[Ex.toks,List.length_cons]
   rw[hs1]
   have hroom:s1.items.length+cf lev≤68719476736:=by
    have:((au es).length+1) * cf lev=(au es).length * cf lev+cf lev:=by rw[Nat.add_mul];omega
    omega
   have hch:x.chain.length≤100:=by
    have:=hx.chain
    rw[show(bP (S++[(x,lv)])).length=S.length+1 by simp]at this
    omega
   have hro:bu s1:=by unfold bu;omega
   obtain⟨k1,k2,k3⟩:=Cv ho.1
   have htl:=hsh t (List.mem_of_getElem? ht)
   have hxf:0≤x.first∧x.first≤1000:=by
    have:=hx.first
    rw[show(bP (S++[(x,lv)])).length=S.length+1 by simp]at this
    omega
   obtain⟨ee,_,_,_,_,hll⟩:=hx.endE hC
   rcases wo ho.1 with hk0|hk1|hk7|hk26
   ·have g1:=ke C s1 (d+es.length) (scH (S++[(x,lv)])) t.faj k x.chain hro hch (by omega)
    have hz:=k1 (.inl hk0)
    unfold jy
    rw[if_pos hk0]
    repeat' ((conv=>whnf);first|apply Wx|apply W6|refine cg g1 ?_|apply oi|(apply fi<;>intro h)|refine⟨_,rfl,?_⟩|exact rfl)
    all_goals try exact⟨KP⟩
    all_goals try exact KX
    all_goals try exact⟨KW⟩
    all_goals try exact KK
   ·have g1:=yO C hC s1 (d+es.length) (scH (S++[(x,lv)])) x (cY x.locals t.fac) k hro hch (by omega) hxf (by have:=kB x.locals t.fac;omega)
    have gI:=fh x.locals t.fac (by omega)
    have hz:=k1 (.inr hk1)
    unfold jy
    rw[if_neg (by omega),if_pos hk1]
    generalize cY x.locals t.fac=ix at *
    repeat' ((conv=>whnf);first|apply Wx|apply W6|refine cg g1 ?_|apply oi|(apply fi<;>intro h)|refine cl gI ?_|refine⟨_,rfl,?_⟩|exact rfl)
    all_goals try exact⟨KP⟩
    all_goals try exact KX
    all_goals try exact⟨KW⟩
    all_goals try exact KK
   ·obtain⟨f,hf,hfa⟩:=hca t (List.mem_of_getElem? ht) hk7
    obtain⟨hfl,y,hy,hy0,_⟩:=fD hf
    have hfun:bG C f:=⟨y,hy,hy0⟩
    have hkk:=k2 hk7
    have gF:=dC C.p t.fac (by omega)
    rw[show eW C.p t.fac=(f:Int) from be hf]at gF
    have g1:=sy C hC s1 (d+es.length) (S++[(x,lv)]) f hro (by simp;omega) hfl
    unfold jy
    rw[if_neg (by omega),if_neg (by omega),if_pos hk7,hf]
    dsimp only
    cases hrb:cb C (bP (S++[(x,lv)])) f s1.items.length with
    | true=>
     have g2:=hR x S lv k f s1 (d+es.length) hx (aM hk) hfun hrb ⟨by omega,hr2,by omega,by omega⟩
     rw[hrb]at g1
     rw[if_pos rfl]
     repeat' ((conv=>whnf);first|apply Wx|apply W6|refine cg g1 ?_|refine cg g2 ?_|apply oi|(apply fi<;>intro h)|refine cl gF ?_|refine⟨_,rfl,?_⟩|exact rfl)
     all_goals try exact⟨KP⟩
     all_goals try exact KX
     all_goals try exact⟨KW⟩
     all_goals try exact KK
    | false=>
     rw[hrb]at g1
     rw[if_neg (by simp)]
     have g2:=bK C s1 (d+es.length) (scH (S++[(x,lv)])) 12 (lJ C.p f) k x.chain hro hch
     repeat' ((conv=>whnf);first|apply Wx|apply W6|refine cg g1 ?_|apply oi|(apply fi<;>intro h)|refine cl gF ?_|refine⟨_,rfl,?_⟩|exact rfl)
     all_goals try exact⟨KP⟩
     all_goals try exact KX
     all_goals try exact KK
     conv=>whnf
     refine⟨{i:Nat // i≤f},fun q=>⟨[(0,cS),(1,tI .i64 (k:Int)),(2,tI .i64 ((p+1+(au es).length:Nat):Int)),(10,tI .i64 (f:Int)),(11,tI .i64 (lJ C.p q.1:Int)),(12,tI .i64 (q.1:Int)),(7,.r (.c (.ptr (7,0,0) 0))),(8,.r (.c (.ptr (8,0,0) 0)))],
      [(
       (0,0,0),some (nY C s1 (d+es.length) (7,0,1) (7,0,2))),((7,0,1),some (.dar 7 (itR s1.items) none)),((7,0,2),some (.dar 6 (scH (S++[(x,lv)])) none)),
       ((7,0,0),some (.box [.t (.int .i64 (x.f:Int)),.t (.lst 1 (x.chain.map aa)),.t (.lst 1 (x.locals.map ah)),.t (.int .i64 x.first),.t (.bool x.outer),.opq])),((8,0,0),some (.box (t.tr.map .t)))],[8,7,0]⟩,fun q=>f - q.1,⟨0,by omega⟩,?_,?_⟩
     ·skip
      repeat' ((conv=>whnf);first|apply Wx|apply W6|apply oi|(apply fi<;>intro h)|refine⟨_,rfl,?_⟩|exact rfl)
      all_goals try exact⟨KP⟩
     intro⟨i,hi⟩
     dsimp only at hi ⊢
     have hnl:=Aq C.p i
     by_cases hif:i < f
     ·obtain⟨z,hz⟩:=ae (l:=C.p) (k:=i) (by omega)
      have hns:=BD hz
      repeat' ((conv=>whnf);first|apply Wx|apply W6|apply oi|(apply fi<;>intro h)|refine⟨i,z.tr,rfl,ab hz,?_⟩|refine⟨_,rfl,?_⟩|exact rfl)
      all_goals try exact⟨KP⟩
      all_goals try exact KX
      all_goals(conv=>whnf)
      all_goals(refine⟨⟨i+1,by omega⟩,?_,KD⟩)
      repeat' ((conv=>whnf);first|apply Wx|apply W6|apply oi|(apply fi<;>intro h)|refine⟨_,rfl,?_⟩|exact rfl)
      all_goals try exact⟨KP⟩
      all_goals try exact⟨KW⟩
      ·rw[if_pos (by simpa using h)]at hns
       all_goals try exact⟨KW⟩
      ·rw[if_neg (by simpa using h)]at hns
       all_goals try exact⟨KW⟩
     ·have hie:i=f:=by omega
      subst hie
      repeat' ((conv=>whnf);first|apply Wx|apply W6|refine cg g2 ?_|apply oi|(apply fi<;>intro h)|refine⟨_,rfl,?_⟩|exact rfl)
      all_goals try exact⟨KP⟩
      all_goals try exact KX
      all_goals try exact⟨KW⟩
   ·have g1:=bK C s1 (d+es.length) (scH (S++[(x,lv)])) (5+t.faa - 2) 0 k x.chain hro hch
    have hw5:IntKind.i64.wrap (IntKind.i64.wrap (5+t.faa) - 2)=5+t.faa - 2:=by simp(disch:=omega)only[IntWalk.i64_in]
    rw[←hw5]at g1
    have hz:=k3 hk26.1 hk26.2
    unfold jy
    rw[if_neg (by omega),if_neg (by omega),if_neg (by omega),←hw5]
    repeat' ((conv=>whnf);first|apply Wx|apply W6|refine cg g1 ?_|apply oi|(apply fi<;>intro h)|refine⟨_,rfl,?_⟩|exact rfl)
    all_goals try exact⟨KP⟩
    all_goals try exact KX
    all_goals try exact⟨KW⟩
    all_goals try exact KK
def ym (C:Cx)(lev:Nat):Prop:=∀(x:Sc) (S:List (Sc×List Int)) (s:Gs) (d:Int),ScOk C x (bP (S++[(x,[])]))→s.items.length+(ko C.p x.f - x.f) * (20 * cf lev+3)≤68719476736→((lev+S.length:Nat):Int)=C.b.fal→0≤d→d+30+100 * (lev:Int)≤1900→
 aV Tryz.prog 207 [cS] (gn (0,0,1) (0,0,2) C s d (scH (S++[(x,[])]))) (.tup []) (gn (1,0,1) (1,0,2) C (aU C (aX C lev) x (bP (S++[(x,[])])) d s).1 d (scH (S++[(x,(aU C (aX C lev) x (bP (S++[(x,[])])) d s).2)])))
theorem jp (S:List (Sc×List Int))(y:Sc×List Int):bP (S++[y])=bP S++[y.1.f]:=by simp
theorem Ft {C:Cx}(hC:CxOk C){lev:Nat}(hL:ym C lev):Eh C (lev+1):=by
 intro x S lv k g s d hx hk hg hrb hr
 refine aj hΓ ay Tryz.func263 rfl (by decide) rfl rfl ?_
 obtain⟨r1,r2,r3,r4⟩:=eA hrb
 obtain⟨y,hy,hy0⟩:=hg
 have h60:=hC.len
 have hin:=hC.inl
 have hloc:=cO hC ⟨y,hy,hy0⟩
 have hA:argsN C.p g=y.fag.length:=by rw[argsN,hy]
 have hLo:=ir C.p (g:Int) (by omega) (fun z hz=>aT hC.small hz)
 have htop:=oY hC hx
 have hil:(bP (S++[(x,lv)])).length=S.length+1:=by simp
 rw[hil]at htop r1
 have hxl:x.locals.length≤8:=by obtain⟨_,_,_,_,_,h⟩:=hx.endE hC;exact h
 have hxf:=hx.first
 rw[hil]at hxf
 have ha:=hC.args
 have hch:=hx.chain
 rw[hil]at hch
 obtain⟨q1,q2,q3,q4⟩:=hr
 have hfl:=fE (x.chain++[(k:Int)])
 have hyl:(y.fag.map ah).length=y.fag.length:=by simp
 have hxll:(x.locals.map ah).length=x.locals.length:=by simp
 have hcl:(x.chain.map aa).length=x.chain.length:=by simp
 have e1:IntKind.i64.wrap ((x.locals.length:Int) - C.args)=(x.locals.length:Int) - C.args:=by rw[IntWalk.i64_in _ (by omega)]
 have e2:IntKind.i64.wrap (x.first+(x.locals.length:Int))=x.first+x.locals.length:=by rw[IntWalk.i64_in _ (by omega)]
 repeat' ((conv=>whnf);first|(with_reducible apply W1;fail_if_success (with_reducible show Wo _ _ _ _ (Code.seq (Code.region 3 _ _) _) _ _))|(with_reducible first|apply W2|apply W3|apply W4|apply W5|apply W6|apply W7|apply W8|apply W9)|apply bh|apply oi|(apply fi<;>intro h)|refine⟨g,y.tr,rfl,ab hy,?_⟩|refine⟨_,rfl,?_⟩|exact rfl)
 all_goals try exact⟨KP⟩
 refine iN Unit (fun _=>⟨[(0,cS),(1,tI .i64 (g:Int)),(2,tI .i64 (k:Int)),(7,.r (.c (.ptr (7,0,0) 0))),(8,tI .i64 (argsN C.p g:Int)),(9,tI .i64 (bz C x))],
  [(
   (0,0,0),some (nY C s d (0,0,1) (0,0,2))),((0,0,1),some (.dar 7 (itR s.items) none)),((0,0,2),some (.dar 6 (scH (S++[(x,lv)])) none)),
   ((7,0,0),some (.box [.t (.int .i64 (x.f:Int)),.t (.lst 1 (x.chain.map aa)),.t (.lst 1 (x.locals.map ah)),.t (.int .i64 x.first),.t (.bool x.outer),.opq]))],[7,0]⟩) ?_ ?_
 ·skip
  repeat' ((conv=>whnf);first|apply Wx|apply W6|apply oi|(apply fi<;>intro h)|refine⟨_,rfl,?_⟩|exact rfl)
  all_goals try exact⟨KP⟩
  all_goals(conv=>whnf)
  all_goals(refine⟨(),?_⟩)
  repeat' ((conv=>whnf);first|apply Wx|apply W6|apply oi|(apply fi<;>intro h)|refine⟨_,rfl,?_⟩|exact rfl)
  all_goals try exact⟨KP⟩
  all_goals(refine⟨congrArg (Tr.int _) ?_⟩)
  all_goals try(rw[hyl,hA];done)
  all_goals(unfold bz;rw[hxll])
  all_goals first|(rw[if_pos (by assumption)];exact e1)|(rw[if_neg (by simp_all)];exact e2)
 intro _
 repeat' ((conv=>whnf);first|(with_reducible apply W1;fail_if_success (with_reducible show Wo _ _ _ _ (Code.region 7 _ _) _ _))|(with_reducible first|apply W2|apply W3|apply W4|apply W5|apply W6|apply W7|apply W8|apply W9)|apply bh|apply oi|(apply fi<;>intro h)|refine cl hLo ?_|refine⟨_,rfl,?_⟩|exact rfl)
 all_goals try exact⟨KP⟩
 all_goals try exact⟨⟨by simp <;> omega,by simp <;> omega⟩⟩
 conv=>whnf
 refine gx ⟨[(0,cS),(1,tI .i64 (g:Int)),(2,tI .i64 (k:Int)),(7,.r (.c (.ptr (7,0,0) 0))),(8,tI .i64 (argsN C.p g:Int)),(9,tI .i64 (bz C x)),(10,.r (.c (.ptr (10,0,0) 0)))],
  [(
   (0,0,0),some (nY C s d (0,0,1) (0,0,2))),((0,0,1),some (.dar 7 (itR s.items) none)),((0,0,2),some (.dar 6 (scH (S++[(x,lv)])) none)),
   ((7,0,0),some (.box [.t (.int .i64 (x.f:Int)),.t (.lst 1 (x.chain.map aa)),.t (.lst 1 (x.locals.map ah)),.t (.int .i64 x.first),.t (.bool x.outer),.opq])),
   ((10,0,0),some (.box [.t (.int .i64 (g:Int)),.t (.lst 1 ((x.chain++[(k:Int)]).map aa)),.t (.lst 1 ((localsOf C.p (g:Int)).map ah)),.t (.int .i64 (bz C x)),.t (.bool false),.nils 1]))],_⟩ ?_ ?_ rfl ?_
 ·exact⟨.inl rfl,.inl rfl,.inl rfl,.inl rfl,.inl rfl,.inl rfl,.inl rfl,trivial⟩
 ·refine⟨.inr (.inl rfl),.inr (.inl rfl),.inr (.inl rfl),.inr (.inl rfl),.inr (.inr (.inl ⟨_,_,rfl,rfl,.inl rfl,.inr (.inr ⟨_,rfl,?_,?_⟩),.inr (.inr ⟨_,rfl,rfl,?_⟩),.inl rfl,.inl rfl,.inr (.inl ⟨_,_,rfl,rfl⟩),trivial⟩)),trivial⟩
  ·show Tr.lst 1 _=Tr.lst 1 ([]++List.map aa x.chain++[[Tr.int .i64 (k:Int)]])
   simp[aa]
  all_goals(intro q hq;simp only[AC.ids,List.mem_cons,List.not_mem_nil,or_false]at hq;subst hq;rfl)
 have hll:((localsOf C.p (g:Int)).map ah).length=(localsOf C.p (g:Int)).length:=by simp
 have em:IntKind.i64.wrap (bz C x+(((localsOf C.p (g:Int)).map ah).length:Int))=bz C x+((localsOf C.p (g:Int)).length:Int):=by rw[hll,IntWalk.i64_in _ (by omega)]
 obtain⟨s0,hs0⟩:∃s0:Gs,(⟨s.items,max s.most (bz C x+(localsOf C.p (g:Int)).length),s.start⟩:Gs)=s0:=⟨_,rfl⟩
 have z1:s.items=s0.items:=by rw[←hs0]
 have z2:max s.most (bz C x+(localsOf C.p (g:Int)).length)=s0.most:=by rw[←hs0]
 have z3:s.start=s0.start:=by rw[←hs0]
 obtain⟨Y,hY⟩:∃Y,bI C x k g=Y:=⟨_,rfl⟩
 obtain⟨T1,hT1⟩:∃T1,cF C (bI C x k g) x.chain k (argsN C.p g) d s0=T1:=⟨_,rfl⟩
 repeat' ((conv=>whnf);first|apply Wx|apply W6|apply oi|(apply fi<;>intro h)|refine⟨_,rfl,?_⟩|exact rfl)
 all_goals try exact⟨KP⟩
 conv=>whnf
 refine⟨{q:Nat×Gs // q.1≤argsN C.p g∧cF C (bI C x k g) x.chain k q.1 (d - ((argsN C.p g - q.1:Nat):Int)) q.2=T1∧q.2.items.length≤300 - q.1},fun q=>⟨[(0,cS),(1,tI .i64 (g:Int)),(2,tI .i64 (k:Int)),(7,.r (.c (.ptr (7,0,0) 0))),(8,tI .i64 (argsN C.p g:Int)),(10,.r (.c (.ptr (10,0,0) 0))),(11,tI .i64 ((q.1.1:Int) - 1))],
  [(
   (0,0,0),some (nY C q.1.2 (d - ((argsN C.p g - q.1.1:Nat):Int)) (7,0,1) (7,0,2))),((7,0,1),some (.dar 7 (itR q.1.2.items) none)),((7,0,2),some (.dar 6 (scH (S++[(x,lv)])) none)),
   ((7,0,0),some (.box [.t (.int .i64 (x.f:Int)),.t (.lst 1 (x.chain.map aa)),.t (.lst 1 (x.locals.map ah)),.t (.int .i64 x.first),.t (.bool x.outer),.opq])),
   ((10,0,0),some (.box [.t (.int .i64 (g:Int)),.t (.lst 1 ((x.chain++[(k:Int)]).map aa)),.t (.lst 1 ((localsOf C.p (g:Int)).map ah)),.t (.int .i64 (bz C x)),.t (.bool false),.nils 1]))],[10,7,0]⟩,fun q=>q.1.1,⟨(argsN C.p g,s0),by dsimp only;omega,by rw[←hT1];simp,by dsimp only;rw[←z1];omega⟩,?_,?_⟩
 ·skip
  repeat' ((conv=>whnf);first|apply Wx|apply W6|apply oi|(apply fi<;>intro h)|refine⟨_,rfl,?_⟩|exact rfl)
  all_goals try exact⟨KP⟩
  all_goals try exact⟨by rw[z1]⟩
  all_goals try exact⟨by rw[z3]⟩
  all_goals try exact⟨congrArg itR z1⟩
  all_goals try exact⟨congrArg (Tr.int _) (by rw[em];exact z2)⟩
  all_goals try exact⟨KW⟩
 intro⟨⟨m,t⟩,hm,ht,htl⟩
 dsimp only at hm ht htl ⊢
 cases m with
 | succ m=>
  have g1:=kX C hC t (d - ((argsN C.p g - (m+1):Nat):Int)) (scH (S++[(x,lv)])) (bI C x k g) m k x.chain (by unfold bu;omega) (by omega) (by omega) (by show 0≤bz C x∧bz C x≤1000;omega) (by omega)
  rw[cF]at ht
  rw[show((m+1:Nat):Int) - 1=(m:Int) by omega]
  repeat' ((conv=>whnf);first|apply Wx|apply W6|refine cg g1 ?_|apply oi|(apply fi<;>intro h)|refine⟨_,rfl,?_⟩|exact rfl)
  all_goals try exact⟨KP⟩
  all_goals try exact KX
  conv=>whnf
  refine⟨⟨(m,dD C (bI C x k g) t (d - ((argsN C.p g - (m+1):Nat):Int)) m k x.chain),by dsimp only;omega,by rw[←ht];dsimp only;congr 1;omega,by dsimp only;simp only[dD,az,List.length_append,List.length_cons,List.length_nil];omega⟩,?_,KD⟩
  repeat' ((conv=>whnf);first|apply Wx|apply W6|apply oi|(apply fi<;>intro h)|refine⟨_,rfl,?_⟩|exact rfl)
  all_goals try exact⟨KP⟩
  all_goals try exact⟨KW⟩
 | zero=>
  have e0:t=T1:=by rw[←ht];rfl
  subst e0
  have ed:d - ((argsN C.p g - 0:Nat):Int)=d - argsN C.p g:=by rw[Nat.sub_zero]
  rw[ed]
  obtain⟨T2,hT2⟩:∃T2,db C (bI C x k g) x.chain k (d - argsN C.p g) ((localsOf C.p (g:Int)).length - argsN C.p g) (argsN C.p g) t=T2:=⟨_,rfl⟩
  repeat' ((conv=>whnf);first|apply Wx|apply W6|apply oi|(apply fi<;>intro h)|refine⟨_,rfl,?_⟩|exact rfl)
  all_goals try exact⟨KP⟩
  all_goals try exact KX
  conv=>whnf
  refine⟨{q:Nat×Gs // q.1≤(localsOf C.p (g:Int)).length∧db C (bI C x k g) x.chain k (d - argsN C.p g) ((localsOf C.p (g:Int)).length - q.1) q.1 q.2=T2∧q.2.items.length≤400 - 2 * ((localsOf C.p (g:Int)).length - q.1)},fun q=>⟨[(0,cS),(1,tI .i64 (g:Int)),(2,tI .i64 (k:Int)),(7,.r (.c (.ptr (7,0,0) 0))),(10,.r (.c (.ptr (10,0,0) 0))),(12,tI .i64 (q.1.1:Int))],
   [(
    (0,0,0),some (nY C q.1.2 (d - argsN C.p g) (7,0,1) (7,0,2))),((7,0,1),some (.dar 7 (itR q.1.2.items) none)),((7,0,2),some (.dar 6 (scH (S++[(x,lv)])) none)),
    ((7,0,0),some (.box [.t (.int .i64 (x.f:Int)),.t (.lst 1 (x.chain.map aa)),.t (.lst 1 (x.locals.map ah)),.t (.int .i64 x.first),.t (.bool x.outer),.opq])),
    ((10,0,0),some (.box [.t (.int .i64 (g:Int)),.t (.lst 1 ((x.chain++[(k:Int)]).map aa)),.t (.lst 1 ((localsOf C.p (g:Int)).map ah)),.t (.int .i64 (bz C x)),.t (.bool false),.nils 1]))],[10,7,0]⟩,fun q=>(localsOf C.p (g:Int)).length - q.1.1,⟨(argsN C.p g,t),by dsimp only;omega,hT2,by dsimp only;omega⟩,?_,?_⟩
  ·skip
   repeat' ((conv=>whnf);first|apply Wx|apply W6|apply oi|(apply fi<;>intro h)|refine⟨_,rfl,?_⟩|exact rfl)
   all_goals try exact⟨KP⟩
  intro⟨⟨i,u⟩,hi,hu,hul⟩
  dsimp only at hi hu hul ⊢
  by_cases hil2:i < (localsOf C.p (g:Int)).length
  ·obtain⟨c,hc⟩:∃c,(localsOf C.p (g:Int)).length - i=c+1:=⟨(localsOf C.p (g:Int)).length - i - 1,by omega⟩
   rw[hc,db]at hu
   have g1:=ke C u (d - argsN C.p g) (scH (S++[(x,lv)])) 0 k x.chain (by unfold bu;omega) (by omega) (by omega)
   have g2:=kX C hC (az C u (d - argsN C.p g) 0 0 k x.chain) (d - argsN C.p g+1) (scH (S++[(x,lv)])) (bI C x k g) i k x.chain (by unfold bu az;simp only[List.length_append,List.length_cons,List.length_nil];omega) (by omega) (by omega) (by show 0≤bz C x∧bz C x≤1000;omega) (by omega)
   repeat' ((conv=>whnf);first|apply Wx|apply W6|refine cg g1 ?_|refine cg g2 ?_|apply oi|(apply fi<;>intro h)|refine⟨_,rfl,?_⟩|exact rfl)
   all_goals try exact⟨KP⟩
   all_goals try exact KX
   conv=>whnf
   refine⟨⟨(i+1,dD C (bI C x k g) (az C u (d - argsN C.p g) 0 0 k x.chain) (d - argsN C.p g+1) i k x.chain),by dsimp only;omega,by rw[←hu];dsimp only;rw[show(localsOf C.p (g:Int)).length - (i+1)=c by omega],by dsimp only;simp only[dD,az,List.length_append,List.length_cons,List.length_nil];omega⟩,?_,KD⟩
   repeat' ((conv=>whnf);first|apply Wx|apply W6|apply oi|(apply fi<;>intro h)|refine⟨_,rfl,?_⟩|exact rfl)
   all_goals try exact⟨KP⟩
   all_goals try exact⟨KW⟩
  ·have hie:i=(localsOf C.p (g:Int)).length:=by omega
   subst hie
   rw[Nat.sub_self,db]at hu
   subst hu
   have hpre:ec C x k g d s=u:=by rw[ec,hs0,hT1,hT2]
   repeat' ((conv=>whnf);first|(with_reducible apply W1;fail_if_success (with_reducible show Wo _ _ _ _ (Code.seq (Code.region 17 _ _) _) _ _))|(with_reducible first|apply W2|apply W3|apply W4|apply W5|apply W6|apply W7|apply W8|apply W9)|apply bh|apply oi|(apply fi<;>intro h)|refine⟨_,rfl,?_⟩|exact rfl)
   all_goals try exact⟨KP⟩
   all_goals try exact KX
   obtain⟨v,hv⟩:∃v,bQ C x k (d - argsN C.p g) u=v:=⟨_,rfl⟩
   have hvl:v.items.length≤500:=by rw[←hv,bQ];split <;> first|(simp[az];omega)|omega
   refine iN Unit (fun _=>⟨[(0,cS),(1,tI .i64 (g:Int)),(2,tI .i64 (k:Int)),(7,.r (.c (.ptr (7,0,0) 0))),(10,.r (.c (.ptr (10,0,0) 0)))],
    [(
     (0,0,0),some (nY C v (d - argsN C.p g) (7,0,1) (7,0,2))),((7,0,1),some (.dar 7 (itR v.items) none)),((7,0,2),some (.dar 6 (scH (S++[(x,lv)])) none)),
     ((10,0,0),some (.box [.t (.int .i64 (g:Int)),.t (.lst 1 ((x.chain++[(k:Int)]).map aa)),.t (.lst 1 ((localsOf C.p (g:Int)).map ah)),.t (.int .i64 (bz C x)),.t (.bool false),.own (10,0,1)])),((10,0,1),some (.arr true 1 []))],[10,7,0]⟩) ?_ ?_
   ·have g3:=bK C u (d - argsN C.p g) (scH (S++[(x,lv)])) 15 0 k x.chain (by unfold bu;omega) (by omega)
    unfold bQ at hv
    cases hst:u.start with
    | true=>
     rw[if_pos hst]at hv
     subst hv
     repeat' ((conv=>whnf);first|apply Wx|apply W6|refine cg g3 ?_|apply oi|(apply fi<;>intro h)|refine⟨_,rfl,?_⟩|exact rfl)
     all_goals try exact⟨KP⟩
     ·conv=>whnf
      refine⟨(),?_⟩
      repeat' ((conv=>whnf);first|apply Wx|apply W6|apply oi|(apply fi<;>intro h)|refine⟨_,rfl,?_⟩|exact rfl)
      all_goals try exact⟨KP⟩
     ·exfalso;simp_all
    | false=>
     rw[if_neg (by simp[hst])]at hv
     subst hv
     repeat' ((conv=>whnf);first|apply Wx|apply W6|refine cg g3 ?_|apply oi|(apply fi<;>intro h)|refine⟨_,rfl,?_⟩|exact rfl)
     all_goals try exact⟨KP⟩
     ·exfalso;simp_all
     ·conv=>whnf
      refine⟨(),?_⟩
      repeat' ((conv=>whnf);first|apply Wx|apply W6|apply oi|(apply fi<;>intro h)|refine⟨_,rfl,?_⟩|exact rfl)
      all_goals try exact⟨KP⟩
   intro _
   have hyS:ScOk C (bI C x k g) (bP ((S++[(x,lv)])++[(bI C x k g,[])])):=by rw[jp];exact lj hC hx k ⟨y,hy,hy0⟩
   obtain⟨ye,ye1,ye2,ye3,ye4,_⟩:=hyS.endE hC
   have hye:ko C.p (bI C x k g).f - (bI C x k g).f≤9:=by
    rw[ye4]
    have:bn C.p (g:Int)=(ye:Int):=by rw[bf];exact be ye1
    show ye - g≤9
    omega
   have h3:=qW (n:=lev) (by omega)
   have hgL:=hL (bI C x k g) (S++[(x,lv)]) v (d - argsN C.p g) hyS (by
    have:=Nat.mul_le_mul hye (show 20 * cf lev+3≤20 * 8679837+3 by omega)
    omega) (by simp only[List.length_append,List.length_cons,List.length_nil];omega) q3 (by omega)
   have hsl:(scH (S++[(x,lv)])).length=S.length+1:=by simp
   obtain⟨r,hr⟩:∃r,aU C (aX C lev) (bI C x k g) (bP ((S++[(x,lv)])++[(bI C x k g,[])])) (d - argsN C.p g) v=r:=⟨_,rfl⟩
   rw[hr]at hgL
   have hsl2:(scH ((S++[(x,lv)])++[(bI C x k g,r.2)])).length=S.length+2:=by simp
   have hw2:IntKind.i64.wrap (((scH ((S++[(x,lv)])++[(bI C x k g,r.2)])).length:Int) - 1)=((S.length+1:Nat):Int):=by rw[hsl2,IntWalk.i64_in _ (by omega)];omega
   have hlt2:S.length+1 < (scH ((S++[(x,lv)])++[(bI C x k g,r.2)])).length:=by omega
   have hrow2:(scH ((S++[(x,lv)])++[(bI C x k g,r.2)]))[S.length+1]?=some (kJ (bI C x k g) r.2):=by simp
   have hfl3:=fE r.2
   repeat' ((conv=>whnf);first|(with_reducible apply W1;fail_if_success (with_reducible show Wo _ _ _ _ (Code.region 23 _ _) _ _))|(with_reducible first|apply W2|apply W3|apply W4|apply W5|apply W6|apply W7|apply W8|apply W9)|apply bh|refine cg hgL ?_|apply oi|(apply fi<;>intro h)|refine⟨S.length+1,hw2,hlt2,?_⟩|refine⟨_,hrow2,?_⟩|refine⟨_,rfl,?_⟩|exact rfl)
   all_goals try exact⟨KP⟩
   all_goals try exact⟨⟨by rw[hsl];simp <;> omega,by rw[hsl];simp <;> omega⟩⟩
   all_goals try exact⟨hfl3⟩
   all_goals try exact⟨by simp[bI,aa]⟩
   conv=>whnf
   refine gx ⟨[(0,cS),(13,tI .i64 (d - argsN C.p g)),(14,.r (.c (.t (.lst 1 (r.2.map aa)))))],
    [((0,0,0),some (nY C r.1 (d - argsN C.p g) (127,0,1) (127,0,2))),((127,0,1),some (.dar 7 (itR r.1.items) none)),((127,0,2),some (.dar 6 ((scH ((S++[(x,lv)])++[(bI C x k g,r.2)])).set (S.length+1) ((kJ (bI C x k g) r.2).set 5 (.t (.lst 1 (r.2.map aa))))) none))],_⟩ ?_ ?_ rfl ?_
   ·refine⟨.inl rfl,.inl rfl,.inr (.inl ⟨_,_,rfl,rfl,.inr (.inr ⟨_,rfl,rfl,?_⟩)⟩),trivial⟩
    intro q hq;simp only[AC.ids,List.mem_cons,List.not_mem_nil,or_false]at hq;subst hq;rfl
   ·exact⟨.inr (.inl rfl),.inr (.inl rfl),.inr (.inr (.inr ⟨_,_,_,_,_,_,_,rfl,hrow2,(by decide),rfl,rfl,rfl⟩)),trivial⟩
   have hsl4:((scH ((S++[(x,lv)])++[(bI C x k g,r.2)])).set (S.length+1) ((kJ (bI C x k g) r.2).set 5 (.t (.lst 1 (r.2.map aa))))).length=S.length+2:=by rw[List.length_set];exact hsl2
   have hw4:IntKind.i64.wrap ((((scH ((S++[(x,lv)])++[(bI C x k g,r.2)])).set (S.length+1) ((kJ (bI C x k g) r.2).set 5 (.t (.lst 1 (r.2.map aa))))).length:Int) - 1)=((S.length+1:Nat):Int):=by rw[hsl4,IntWalk.i64_in _ (by omega)];omega
   have hle4:S.length+1≤((scH ((S++[(x,lv)])++[(bI C x k g,r.2)])).set (S.length+1) ((kJ (bI C x k g) r.2).set 5 (.t (.lst 1 (r.2.map aa))))).length:=by omega
   have hcut:((scH ((S++[(x,lv)])++[(bI C x k g,r.2)])).set (S.length+1) ((kJ (bI C x k g) r.2).set 5 (.t (.lst 1 (r.2.map aa))))).take (S.length+1)=scH (S++[(x,lv)]):=by
    rw[List.take_set_of_le (Nat.le_refl _),←List.map_take,List.take_left' (by simp)]
   have hrl:(r.2.map aa).length=r.2.length:=by simp
   have hin2:=wG (lev:=lev) (rep:=aX C lev) (fun line g d s hg hr=>cR hC lev line g d s hyS hg hr) hC hyS (d - argsN C.p g) v
   have hgr2:=gZ (lev:=lev) (rep:=aX C lev) (fun line g d s hg hr=>cR hC lev line g d s hyS hg hr) hC hyS (d - argsN C.p g) v
   rw[hr]at hin2 hgr2
   have hrle:=hgr2.le
   obtain⟨hlvl,hin2⟩:=hin2
   have hmul:=Nat.mul_le_mul hye (show 20 * cf lev+3≤20 * 8679837+3 by omega)
   repeat' ((conv=>whnf);first|apply Wx|apply W6|apply oi|(apply fi<;>intro h)|refine⟨S.length+1,hw4,hle4,?_⟩|refine⟨_,rfl,?_⟩|exact rfl)
   all_goals try exact⟨KP⟩
   conv=>whnf
   refine⟨{i:Nat // i≤r.2.length},fun q=>⟨[(0,cS),(13,tI .i64 (d - argsN C.p g)),(14,.r (.c (.t (.lst 1 (r.2.map aa))))),(15,tI .i64 (q.1:Int))],
    [((0,0,0),some (nY C r.1 (d - argsN C.p g) (127,0,1) (127,0,2))),((127,0,1),some (.dar 7 (itR (cz r.1.items r.1.items.length (r.2.take q.1))) none)),((127,0,2),some (.dar 6 (scH (S++[(x,lv)])) none))],[127,0]⟩,fun q=>r.2.length - q.1,⟨0,by omega⟩,?_,?_⟩
   ·skip
    repeat' ((conv=>whnf);first|apply Wx|apply W6|apply oi|(apply fi<;>intro h)|refine⟨_,rfl,?_⟩|exact rfl)
    all_goals try exact⟨KP⟩
    all_goals first|exact⟨hle4⟩|exact⟨hcut⟩
   intro⟨i,hi3⟩
   dsimp only at hi3 ⊢
   have hpl:=fy (r.1.items.length:Int) (r.2.take i) r.1.items
   have hil4:(itR (cz r.1.items r.1.items.length (r.2.take i))).length=r.1.items.length:=by rw[iB,hpl]
   by_cases hli:i < r.2.length
   ·obtain⟨j,hj⟩:=ae hli
    obtain⟨j1,j2⟩:=hin2 j (List.mem_of_getElem? hj)
    obtain⟨jn,rfl⟩:=Int.eq_ofNat_of_zero_le j1
    have hjl:jn < (itR (cz r.1.items r.1.items.length (r.2.take i))).length:=by rw[hil4];omega
    obtain⟨it,hit⟩:=ae (l:=cz r.1.items r.1.items.length (r.2.take i)) (k:=jn) (by rw[hpl];omega)
    have hnext:r.2.take (i+1)=r.2.take i++[(jn:Int)]:=by rw[List.take_add_one,hj];rfl
    have hps:=ml r.1.items.length (jn:Int) (r.2.take i) r.1.items
    repeat' ((conv=>whnf);first|apply Wx|apply W6|apply oi|(apply fi<;>intro h)|refine⟨i,(aa jn),rfl,ab hj,?_⟩|refine⟨jn,rfl,hjl,?_⟩|refine⟨_,(fj hit),?_⟩|refine⟨_,rfl,?_⟩|exact rfl)
    all_goals try exact⟨KP⟩
    all_goals try exact KX
    conv=>whnf
    refine⟨⟨i+1,by omega⟩,?_,KD⟩
    repeat' ((conv=>whnf);first|apply Wx|apply W6|apply oi|(apply fi<;>intro h)|refine⟨_,rfl,?_⟩|exact rfl)
    all_goals try exact⟨KP⟩
    all_goals try exact⟨KW⟩
    all_goals(refine⟨?_⟩;rw[hil4];dsimp only;rw[hnext,hps,jw hit];rfl)
   ·have hie:i=r.2.length:=by omega
    subst hie
    have hr':aU C (aX C lev) (bI C x k g) (bP (S++[(x,lv)])++[g]) (d - argsN C.p g) v=r:=(congrArg (fun l=>aU C (aX C lev) (bI C x k g) l (d - argsN C.p g) v) (by simp[bI])).trans hr
    have hfin:aX C (lev+1) x (bP (S++[(x,lv)])) k g d s=⟨cz r.1.items r.1.items.length r.2,r.1.most,r.1.start⟩:=by
     show ia C (aU C (aX C lev)) x (bP (S++[(x,lv)])) k g d s=_
     unfold ia
     rw[hpre,hv,hr']
    rw[hfin]
    rw[List.take_length]
    repeat' ((conv=>whnf);first|apply Wx|apply W6|apply oi|(apply fi<;>intro h)|refine⟨_,rfl,?_⟩|exact rfl)
    all_goals try exact⟨KP⟩
    all_goals try exact KX
    all_goals try exact⟨congrArg (fun z:Gs=>Tr.bool z.start) hfin.symm⟩
    all_goals try exact⟨congrArg (fun z:Gs=>itR z.items) hfin.symm⟩
    all_goals try exact⟨congrArg (fun z:Gs=>Tr.int .i64 z.most) hfin.symm⟩
    all_goals try exact⟨KW⟩
theorem Dg {C:Cx}(hC:CxOk C){lev:Nat}(hE:Hq C lev):ym C lev:=by
 intro x S s d hx hroom hlev hd0 hd1
 refine aj hΓ ay Tryz.func207 rfl (by decide) rfl rfl ?_
 rw[jp]at hx
 rw[jp]
 dsimp only at hx ⊢
 obtain⟨e,he,hfe,hel,hen,hll⟩:=hx.endE hC
 have h60:=hC.len
 have hin:=hC.inl
 have hsl:∀lv:List Int,(scH (S++[(x,lv)])).length=S.length+1:=fun lv=>by simp
 have hrow:∀lv:List Int,(scH (S++[(x,lv)]))[S.length]?=some (kJ x lv):=fun lv=>by simp
 have hlt:∀lv:List Int,S.length < (scH (S++[(x,lv)])).length:=fun lv=>by rw[hsl];omega
 have hw:∀lv:List Int,IntKind.i64.wrap (((scH (S++[(x,lv)])).length:Int) - 1)=(S.length:Int):=fun lv=>by rw[hsl,IntWalk.i64_in _ (by omega)];omega
 have gE:=cN C.p (x.f:Int) (by omega)
 rw[show bn C.p (x.f:Int)=(e:Int) by rw[bf];exact be he]at gE
 have hpl:(C.p.map HH.tr).length=C.p.length:=by simp
 have hm1:(((C.p.map HH.tr).length:Nat):Int)=(C.p.length:Int):=by rw[hpl]
 have hm2:C.p.length≤9223372036854775807:=by omega
 have hm3:C.p.length * 8≤140737488355328:=by omega
 have h3:=qW (n:=lev) (by omega)
 have hch:x.chain.length≤100:=by
  have:=hx.chain
  rw[List.length_append,List.length_map]at this
  simp only[List.length_cons,List.length_nil]at this
  omega
 have hxf:0≤x.first∧x.first≤1000:=by
  have:=hx.first
  rw[List.length_append,List.length_map]at this
  simp only[List.length_cons,List.length_nil]at this
  omega
 obtain⟨R,hR⟩:∃R,jX C (aX C lev) x (bP S++[x.f]) d (e+1 - (x.f+1)) (x.f+1) (cq C s)=R:=⟨_,rfl⟩
 have hfin:aU C (aX C lev) x (bP S++[x.f]) d s=(R.g,R.lv):=by
  unfold aU
  rw[hen,show e - x.f=e+1 - (x.f+1) by omega,hR]
 rw[hfin]
 rw[hen]at hroom
 have hI0:LInv C lev x (bP S++[x.f]) d e R (x.f+1) (cq C s):=⟨Nat.le_refl _,by omega,by simp[cq],by simp[cq],fun i h1 h2=>by omega,⟨by simp[cq],fun j hj=>by simp[cq]at hj⟩,by rw[show e+1 - (x.f+1)=e - x.f by omega];exact hroom,hR⟩
 repeat' ((conv=>whnf);first|apply Wx|apply W6|apply oi|(apply fi<;>intro h)|refine⟨S.length,hw [],hlt [],?_⟩|refine⟨_,hrow [],?_⟩|refine cl gE ?_|refine⟨C.p.length,hm1,hm1,hm2,hm3,?_⟩|refine⟨_,rfl,?_⟩|exact rfl)
 all_goals try exact⟨KP⟩
 conv=>whnf
 refine⟨{q:Nat×Ls×List HG // LInv C lev x (bP S++[x.f]) d e R q.1 q.2.1∧q.2.2.length=q.2.1.g.items.length∧(q.1≤e→cX q.2.2 q.2.2.length (q.1:Int) (bc C.p q.2.1.pos (x.f+1) (q.1 - (x.f+1)))=q.2.1.g.items)∧(q.1=e+1→q.2.2=q.2.1.g.items)},
  fun q=>⟨[(0,cS),(2,tI .i64 (x.f:Int)),(3,wv x.chain),(4,tI .i64 (e:Int)),(5,.r (.c (.own (5,0,0)))),(6,.r (.c (.own (6,0,0)))),(7,tI .i64 (q.1.1:Int))],
   [((0,0,0),some (nY C ⟨q.1.2.2,q.1.2.1.g.most,q.1.2.1.g.start⟩ d (5,0,1) (5,0,2))),((5,0,1),some (.dar 7 (itR q.1.2.2) none)),((5,0,2),some (.dar 6 (scH (S++[(x,q.1.2.1.lv)])) none)),((5,0,0),some (.arr false 1 (q.1.2.1.heads.map aa))),((6,0,0),some (.arr false 2 ((bc C.p q.1.2.1.pos (x.f+1) (q.1.1 - (x.f+1))).map my)))],[6,5,0]⟩,
  fun q=>e+1 - q.1.1,⟨(x.f+1,cq C s,s.items),hI0,rfl,fun _=>by rw[Nat.sub_self];rfl,fun _=>rfl⟩,?_,?_⟩
 ·skip
  repeat' ((conv=>whnf);first|apply Wx|apply W6|apply oi|(apply fi<;>intro h)|refine⟨_,rfl,?_⟩|exact rfl)
  all_goals try exact⟨KP⟩
  all_goals try exact⟨KW⟩
  ·exact⟨by simp[cq,aa]⟩
  ·exact⟨by dsimp only;rw[Nat.sub_self];rfl⟩
 intro⟨⟨k,L,u⟩,hI,hul,hpat,hlast⟩
 dsimp only at hI hul hpat hlast ⊢
 by_cases hke:k≤e
 ·obtain⟨ln,hl⟩:=ae (l:=C.p) (k:=k) (by omega)
  have h0:=jN hC hx he hI.lo hke hl
  obtain⟨hk0,hk7,_,h20,hexp⟩:=hC.line _ _ hl
  obtain⟨hsh,hnm⟩:=lr hC hl
  have hkf:=hI.lo
  have hIr:=hI.room
  have hIh:=hI.heads
  have hIp:=hI.pos
  have hlvl:=hI.lv.1
  have hIroom:L.g.items.length+20 * cf lev+3≤68719476736:=by
   obtain⟨n,hn⟩:∃n,e+1 - k=n+1:=⟨e - k,by omega⟩
   rw[hn,Nat.add_mul]at hIr
   omega
  have hEl:=ou C.p L.pos (x.f+1) (k - (x.f+1))
  have hEin:∀z∈bc C.p L.pos (x.f+1) (k - (x.f+1)),0≤z.2∧z.2 < (L.g.items.length:Int):=fun z hz=>by
   obtain⟨i,i1,i2,i3,rfl⟩:=lb hz
   exact hI.at_ i (by omega) (by omega) i3
  have gP:=oR C ⟨u,L.g.most,L.g.start⟩ d (scH (S++[(x,L.lv)])) (bc C.p L.pos (x.f+1) (k - (x.f+1))) k (by unfold bu;dsimp only;omega) (by omega) (by dsimp only;rw[hul];exact hEin)
  rw[hpat hke]at gP
  obtain⟨A,hA⟩:∃A,dI C (aX C lev) x (bP S++[x.f]) d k ln L=A:=⟨_,rfl⟩
  have hN:=LInv.next hC hx he hI hke hl
  rw[hA]at hN
  obtain⟨hP1,hP2⟩:=AU hC hx he hkf hke hl A
  obtain⟨b1,b2,b3,b4,b5,b6⟩:=ot (C:=C) (x:=x) k ln A
  have hQ:LInv C lev x (bP S++[x.f]) d e R (k+1) (aW C x k ln A)∧A.g.items.length=(aW C x k ln A).g.items.length∧(k+1≤e→cX A.g.items A.g.items.length ((k+1:Nat):Int) (bc C.p (aW C x k ln A).pos (x.f+1) (k+1 - (x.f+1)))=(aW C x k ln A).g.items)∧(k+1=e+1→A.g.items=(aW C x k ln A).g.items):=⟨hN,b4.symm,fun h=>by rw[b2];exact hP1 h,fun h=>hP2 (by omega)⟩
  have hIl:k < (L.heads.map aa).length:=by rw[List.length_map,hIh];omega
  have hro:bu L.g:=by unfold bu;omega
  have hitl:=iB L.g.items
  have hkne:ln.faa≠7→k < e:=fun h=>by
   rcases Nat.lt_or_eq_of_le hke with h'|h'
   ·exact h'
   ·subst h'
    obtain⟨z,hz,hz7⟩:=bC he
    rw[hl]at hz
    injection hz with hz
    subst hz
    exact absurd hz7 h
  have hcalls:ln.faa≠7→nc C ln.fad:=fun h=>by
   obtain⟨l0,q1,q2⟩:=hx.fn
   obtain⟨e',q3,_,_,q4⟩:=hC.fn _ _ q1 q2
   rw[he]at q3
   injection q3 with q3
   subst q3
   exact(q4 k ln (by omega) (hkne h) hl).2.1
  obtain⟨g1,hg1⟩:∃g1,eb C (aX C lev) x (bP S++[x.f]) k (exL ln.fad) d ⟨L.g.items,L.g.most,true⟩=g1:=⟨_,rfl⟩
  have hX:br ln.fad=true→ln.faa≠7→aV Tryz.prog 246 [cS,tI .i64 (k:Int),tI .i64 (0:Int)] (gn (0,0,1) (0,0,2) C ⟨L.g.items,L.g.most,true⟩ d (scH (S++[(x,L.lv)]))) (tI .i64 ((0+(exL ln.fad).toks.length:Nat):Int)) (gn (1,0,1) (1,0,2) C g1 (d+1) (scH (S++[(x,L.lv)]))):=fun hx1 hx7=>by
   obtain⟨eo,et⟩:=qS hx1
   have h20':(exL ln.fad).toks.length≤20:=by rw[←et];exact h20
   have hmu:=Nat.mul_le_mul_right (cf lev) h20'
   have:=hE (exL ln.fad) x S L.lv k 0 ln ⟨L.g.items,L.g.most,true⟩ d eo (by rw[jp];exact hx) hl ⟨[],by rw[List.drop_zero,List.append_nil];exact et⟩ (hcalls hx7) ⟨by dsimp only;omega,hlev,hd0,by omega⟩
   rw[jp]at this
   dsimp only at this
   rw[hg1]at this
   exact this
  have hG:br ln.fad=true→g1.items.length≤L.g.items.length+20 * cf lev:=fun hx1=>by
   have:=(kS (x:=x) (ins:=bP S++[x.f]) (rep:=aX C lev) (line:=k) (lev:=lev) (fun g d s hg hr=>cR hC lev k g d s hx hg hr) hC hl hx1 d ⟨L.g.items,L.g.most,true⟩).le
   rw[hg1]at this
   exact this
  have hhr:(L.heads.map aa)[k]?=some (aa (atL L.heads k)):=by
   rw[List.getElem?_map]
   have:k < L.heads.length:=by omega
   rw[List.getElem?_eq_getElem this,atL,List.getElem?_eq_getElem this]
   rfl
  have hhs:∀v:Int,(L.heads.map aa).set k [.int .i64 v]=(L.heads.set k v).map aa:=fun v=>by simp[List.map_set,aa]
  unfold dI at hA
  rw[hg1]at hA
  dsimp only at hA
  have hcase:ln.faa=4∨ln.faa=7∨ln.faa=1∨ln.faa=2∨ln.faa=6∨(ln.faa=3∨ln.faa=5):=by omega
  rcases hcase with h4|h7|h1|h2|h6|h35
  ·
   rw[if_pos h4]at hA
   have a1:A.g.items=bN (az C L.g d 10 0 k x.chain).items (atL L.pos (aI C.p k)) (az C L.g d 10 0 k x.chain).items.length:=by rw[←hA]
   have a2:A.g.most=L.g.most:=by rw[←hA];rfl
   have a3:A.g.start=false:=by rw[←hA];rfl
   have a4:A.heads=L.heads:=by rw[←hA]
   have a5:A.pos=L.pos.set k L.g.items.length:=by rw[←hA]
   have a6:A.lv=L.lv:=by rw[←hA]
   obtain⟨o1,o2,o3,o4⟩:=hx.own4 hC he (by omega) hke hl h4
   obtain⟨y,m,hy,y3,hm,_⟩:=aY o1
   have hkk:=bp hl
   have hto:kj C.p k=bn C.p (aI C.p k:Int)+1:=by unfold kj;rw[if_pos (by omega)]
   have hge:=mq C.p (aI C.p k)
   have hEn:bc C.p L.pos (x.f+1) (k - (x.f+1))++[(kj C.p k,(L.g.items.length:Int))]=bc C.p (L.pos.set k L.g.items.length) (x.f+1) (k+1 - (x.f+1)):=uy hkf (by unfold jumps;omega) (by rw[hIp];omega) _
   have gEm:=bK C L.g d (scH (S++[(x,L.lv)])) 10 0 k x.chain hro hch
   have gP2:=oR C (az C L.g d 10 0 k x.chain) d (scH (S++[(x,L.lv)])) (bc C.p (L.pos.set k L.g.items.length) (x.f+1) (k+1 - (x.f+1))) (-(k:Int)) (by unfold bu az;simp only[List.length_append,List.length_cons,List.length_nil];omega) (by have:=ou C.p (L.pos.set k L.g.items.length) (x.f+1) (k+1 - (x.f+1));omega) (fun z hz=>by
    rw[←hEn,List.mem_append]at hz
    simp only[az,List.length_append,List.length_cons,List.length_nil]
    rcases hz with hz|hz
    ·have:=hEin z hz;omega
    ·simp only[List.mem_cons,List.not_mem_nil,or_false]at hz
     subst hz
     dsimp only
     omega)
   rw[AQ hC hx he hkf hke hl h4,eM (by omega)]at gP2
   have hng:IntKind.i64.wrap (0 - (k:Int))= -(k:Int):=by rw[IntWalk.i64_in _ (by omega)];omega
   rw[←hng]at gP2
   repeat' ((conv=>whnf);first|apply Wx|apply W6|refine cg gP ?_|apply oi|(apply fi<;>intro h)|refine⟨k,ln.tr,rfl,ab hl,?_⟩|refine⟨_,rfl,?_⟩|exact rfl)
   all_goals try exact⟨KP⟩
   all_goals try exact KX
   all_goals try exact KK
   conv=>whnf
   refine⟨{i:Nat // x.f≤i∧i≤k},fun q=>⟨[(0,cS),(2,tI .i64 (x.f:Int)),(3,wv x.chain),(4,tI .i64 (e:Int)),(5,.r (.c (.own (5,0,0)))),(6,.r (.c (.own (6,0,0)))),(7,tI .i64 (k:Int)),(9,tI .i64 (q.1:Int))],
    [((0,0,0),some (nY C L.g d (5,0,1) (5,0,2))),((5,0,1),some (.dar 7 (itR L.g.items) none)),((5,0,2),some (.dar 6 (scH (S++[(x,L.lv)])) none)),((5,0,0),some (.arr false 1 (L.heads.map aa))),((6,0,0),some (.arr false 2 ((bc C.p L.pos (x.f+1) (k - (x.f+1))++(if aI C.p k < q.1 then [(kj C.p k,(L.g.items.length:Int))]else [])).map my)))],[6,5,0]⟩,
    fun q=>k - q.1,⟨x.f,by omega,by omega⟩,?_,?_⟩
   ·skip
    repeat' ((conv=>whnf);first|apply Wx|apply W6|apply oi|(apply fi<;>intro h)|refine⟨_,rfl,?_⟩|exact rfl)
    all_goals try exact⟨KP⟩
    all_goals exact⟨by rw[if_neg (by dsimp only;omega)];simp⟩
   intro⟨i,hi1,hi2⟩
   dsimp only at hi1 hi2 ⊢
   by_cases hik:i < k
   ·have gEl:=jZ C.p (i:Int) (by omega)
    by_cases hio:i=aI C.p k
    ·subst hio
     rw[show bg C.p (aI C.p k:Int)=(k:Int) by rw[fB];exact be o1]at gEl
     have gEn:=cN C.p (aI C.p k:Int) (by omega)
     rw[if_neg (by omega),List.append_nil]
     have hml:((bc C.p L.pos (x.f+1) (k - (x.f+1))).map my).length=(bc C.p L.pos (x.f+1) (k - (x.f+1))).length:=by simp
     have hitl:=iB L.g.items
     repeat' ((conv=>whnf);first|apply Wx|apply W6|apply oi|(apply fi<;>intro h)|refine cl gEl ?_|refine cl gEn ?_|refine⟨_,rfl,?_⟩|exact rfl)
     all_goals try exact⟨KP⟩
     all_goals try exact KX
     all_goals try(exfalso;simp at h;done)
     all_goals try exact⟨⟨by rw[hml];simp <;> omega,by rw[hml];simp <;> omega⟩⟩
     conv=>whnf
     refine⟨⟨aI C.p k+1,by omega,by omega⟩,?_,KD⟩
     repeat' ((conv=>whnf);first|apply Wx|apply W6|apply oi|(apply fi<;>intro h)|refine⟨_,rfl,?_⟩|exact rfl)
     all_goals try exact⟨KP⟩
     all_goals try exact⟨KW⟩
     all_goals(refine⟨?_⟩;dsimp only;rw[if_pos (by omega),hto,hitl,IntWalk.i64_in _ (by omega)];simp)
    ·have hne:bg C.p (i:Int)≠(k:Int):=fun hh=>by
      rw[fB]at hh
      cases hz:elseAt C.p i with
      | none=>rw[hz]at hh;simp only[cu]at hh;omega
      | some j=>
       rw[hz]at hh
       simp only[cu]at hh
       have:j=k:=by omega
       subst this
       exact hio (kZ hz o1)
     generalize bg C.p (i:Int)=el at *
     repeat' ((conv=>whnf);first|apply Wx|apply W6|apply oi|(apply fi<;>intro h)|refine cl gEl ?_|refine⟨_,rfl,?_⟩|exact rfl)
     all_goals try exact⟨KP⟩
     all_goals try exact KX
     ·exact absurd (eq_of_beq h) hne
     ·conv=>whnf
      refine⟨⟨i+1,by omega,by omega⟩,?_,KD⟩
      repeat' ((conv=>whnf);first|apply Wx|apply W6|apply oi|(apply fi<;>intro h)|refine⟨_,rfl,?_⟩|exact rfl)
      all_goals try exact⟨KP⟩
      all_goals try exact⟨KW⟩
      all_goals(refine⟨?_⟩;dsimp only;congr 2)
      all_goals(by_cases hh:aI C.p k < i)
      all_goals first|rw[if_pos hh,if_pos (by omega)]|rw[if_neg hh,if_neg (by omega)]
   ·have hie:i=k:=by omega
    subst hie
    rw[if_pos o3,hEn]
    repeat' ((conv=>whnf);first|apply Wx|apply W6|refine cg gEm ?_|refine cg gP2 ?_|apply oi|(apply fi<;>intro h)|refine⟨_,rfl,?_⟩|exact rfl)
    all_goals try exact⟨KP⟩
    all_goals try exact KX
    conv=>whnf
    refine⟨⟨(i+1,aW C x i ln A,A.g.items),hQ⟩,?_,KD⟩
    repeat' ((conv=>whnf);first|apply Wx|apply W6|apply oi|(apply fi<;>intro h)|refine⟨_,rfl,?_⟩|exact rfl)
    all_goals try exact⟨KP⟩
    all_goals try exact⟨KW⟩
    all_goals(refine⟨?_⟩;dsimp only;simp only[b1,b2,b3,b5,b6,a1,a2,a3,a4,a5,a6];try rfl)
  ·
   rw[if_neg (by omega),if_pos h7]at hA
   obtain⟨o1,o2⟩:=hx.own7 hC he (by omega) hke hl h7
   have hee:bc C.p L.pos (x.f+1) (k+1 - (x.f+1))=bc C.p L.pos (x.f+1) (k - (x.f+1)):=kW hkf (by unfold jumps;rw[bp hl,h7];decide)
   rcases o2 with⟨o2,o3⟩|⟨o2,o3,o4,y,hy,o5⟩
   ·subst o2
    rw[if_pos o3]at hA
    have gN:=ke C L.g d (scH (S++[(x,L.lv)])) 0 k x.chain hro hch (by omega)
    have gL:=pz C hC (az C L.g d 0 0 k x.chain) (d+1) S x L.lv k true (by unfold bu az;simp only[List.length_append,List.length_cons,List.length_nil];omega) hch (by omega) (by omega) (by omega) L.heads L.pos
    rw[show aR C x k true (d+1) ⟨az C L.g d 0 0 k x.chain,L.heads,L.pos,L.lv⟩=A from hA,Int.add_sub_cancel]at gL
    have a4:A.heads=L.heads:=by rw[←hA];unfold aR;(repeat' split) <;> rfl
    have a5:A.pos=L.pos:=by rw[←hA];unfold aR;(repeat' split) <;> rfl
    repeat' ((conv=>whnf);first|apply Wx|apply W6|refine cg gP ?_|refine cg gN ?_|refine cg gL ?_|apply oi|(apply fi<;>intro h)|refine⟨k,ln.tr,rfl,ab hl,?_⟩|refine⟨_,rfl,?_⟩|exact rfl)
    all_goals try exact⟨KP⟩
    all_goals try exact KX
    all_goals try exact KK
    all_goals try(exfalso;simp at h;done)
    conv=>whnf
    refine⟨⟨(k+1,aW C x k ln A,A.g.items),hQ⟩,?_,KD⟩
    repeat' ((conv=>whnf);first|apply Wx|apply W6|apply oi|(apply fi<;>intro h)|refine⟨_,rfl,?_⟩|exact rfl)
    all_goals try exact⟨KP⟩
    all_goals try exact⟨KW⟩
    all_goals(refine⟨?_⟩;dsimp only;simp only[b1,b2,b3,b5,b6,a4,a5,hee];try rfl)
   ·rw[if_neg (by omega)]at hA
    have hky:=bp hy
    have gEm:=bK C L.g d (scH (S++[(x,L.lv)])) 10 (atL L.heads (aI C.p k)) k x.chain hro hch
    have a4:A.heads=L.heads:=by rw[←hA];split <;> rfl
    have a5:A.pos=L.pos:=by rw[←hA];split <;> rfl
    have a6:A.lv=L.lv:=by rw[←hA];split <;> rfl
    have a1:A.g=if cm C.p (aI C.p k)=5 then az C L.g d 10 (atL L.heads (aI C.p k)) k x.chain else L.g:=by rw[←hA];split <;> rfl
    have hend:bn C.p (aI C.p k:Int)=(k:Int):=by rw[bf];exact be o1
    have hhd:(L.heads.map aa)[aI C.p k]?=some (aa (atL L.heads (aI C.p k))):=by
     rw[List.getElem?_map]
     have:aI C.p k < L.heads.length:=by omega
     rw[List.getElem?_eq_getElem this,atL,List.getElem?_eq_getElem this]
     rfl
    have hol:aI C.p k < (L.heads.map aa).length:=by rw[List.length_map];omega
    repeat' ((conv=>whnf);first|apply Wx|apply W6|refine cg gP ?_|apply oi|(apply fi<;>intro h)|refine⟨k,ln.tr,rfl,ab hl,?_⟩|refine⟨_,rfl,?_⟩|exact rfl)
    all_goals try exact⟨KP⟩
    all_goals try exact KX
    all_goals try exact KK
    conv=>whnf
    refine⟨{i:Nat // x.f+1≤i∧i≤k},fun q=>⟨[(0,cS),(2,tI .i64 (x.f:Int)),(3,wv x.chain),(4,tI .i64 (e:Int)),(5,.r (.c (.own (5,0,0)))),(6,.r (.c (.own (6,0,0)))),(7,tI .i64 (k:Int)),(11,tI .i64 (q.1:Int))],
     [((0,0,0),some (nY C (if aI C.p k < q.1 then A.g else L.g) d (5,0,1) (5,0,2))),((5,0,1),some (.dar 7 (itR (if aI C.p k < q.1 then A.g else L.g).items) none)),((5,0,2),some (.dar 6 (scH (S++[(x,L.lv)])) none)),((5,0,0),some (.arr false 1 (L.heads.map aa))),((6,0,0),some (.arr false 2 ((bc C.p L.pos (x.f+1) (k - (x.f+1))).map my)))],[6,5,0]⟩,
     fun q=>k - q.1,⟨x.f+1,by omega,by omega⟩,?_,?_⟩
    ·skip
     repeat' ((conv=>whnf);first|apply Wx|apply W6|apply oi|(apply fi<;>intro h)|refine⟨_,rfl,?_⟩|exact rfl)
     all_goals try exact⟨KP⟩
     all_goals try(refine⟨?_⟩;dsimp only;rw[if_neg (by omega)];done)
     all_goals try exact⟨KW⟩
    intro⟨i,hi1,hi2⟩
    dsimp only at hi1 hi2 ⊢
    by_cases hik:i < k
    ·have gEn:=cN C.p (i:Int) (by omega)
     obtain⟨z,hz⟩:=ae (l:=C.p) (k:=i) (by omega)
     by_cases hio:i=aI C.p k
     ·subst hio
      rw[hend]at gEn
      rw[hy]at hz
      injection hz with hz
      subst hz
      rw[if_neg (by omega)]
      by_cases h5:y.faa=5
      ·rw[if_pos (by omega)]at a1
       repeat' ((conv=>whnf);first|apply Wx|apply W6|refine cg gEm ?_|apply oi|(apply fi<;>intro h)|refine cl gEn ?_|refine⟨(aI C.p k),y.tr,rfl,ab hy,?_⟩|refine⟨aI C.p k,rfl,hol,?_⟩|refine⟨_,hhd,?_⟩|refine⟨_,rfl,?_⟩|exact rfl)
       all_goals try exact⟨KP⟩
       all_goals try exact KX
       all_goals try exact KK
       all_goals try(exfalso;simp at h;done)
       conv=>whnf
       refine⟨⟨aI C.p k+1,by omega,by omega⟩,?_,KD⟩
       repeat' ((conv=>whnf);first|apply Wx|apply W6|apply oi|(apply fi<;>intro h)|refine⟨_,rfl,?_⟩|exact rfl)
       all_goals try exact⟨KP⟩
       all_goals try exact⟨KW⟩
       all_goals(refine⟨?_⟩;dsimp only;rw[if_pos (by omega),a1])
      ·rw[if_neg (by omega)]at a1
       repeat' ((conv=>whnf);first|apply Wx|apply W6|refine cg gEm ?_|apply oi|(apply fi<;>intro h)|refine cl gEn ?_|refine⟨(aI C.p k),y.tr,rfl,ab hy,?_⟩|refine⟨aI C.p k,rfl,hol,?_⟩|refine⟨_,hhd,?_⟩|refine⟨_,rfl,?_⟩|exact rfl)
       all_goals try exact⟨KP⟩
       all_goals try exact KX
       all_goals try exact KK
       all_goals try(exfalso;simp at h;done)
       conv=>whnf
       refine⟨⟨aI C.p k+1,by omega,by omega⟩,?_,KD⟩
       repeat' ((conv=>whnf);first|apply Wx|apply W6|apply oi|(apply fi<;>intro h)|refine⟨_,rfl,?_⟩|exact rfl)
       all_goals try exact⟨KP⟩
       all_goals try exact⟨KW⟩
       all_goals(refine⟨?_⟩;dsimp only;rw[if_pos (by omega),a1])
     ·have hne:bn C.p (i:Int)≠(k:Int):=fun hh=>by
       have h':=nX hh (by omega)
       rw[Int.toNat_natCast]at h'
       exact hio (wF h' o1)
      generalize bn C.p (i:Int)=en at *
      repeat' ((conv=>whnf);first|apply Wx|apply W6|apply oi|(apply fi<;>intro h)|refine cl gEn ?_|refine⟨i,z.tr,rfl,ab hz,?_⟩|refine⟨_,rfl,?_⟩|exact rfl)
      all_goals try exact⟨KP⟩
      all_goals try exact KX
      all_goals try(exfalso;exact hne (eq_of_beq (by assumption)))
      conv=>whnf
      refine⟨⟨i+1,by omega,by omega⟩,?_,KD⟩
      have hsm:(if aI C.p k < i+1 then A.g else L.g)=if aI C.p k < i then A.g else L.g:=by
       by_cases hh:aI C.p k < i
       ·rw[if_pos hh,if_pos (by omega)]
       ·rw[if_neg hh,if_neg (by omega)]
      dsimp only
      rw[hsm]
      repeat' ((conv=>whnf);first|apply Wx|apply W6|apply oi|(apply fi<;>intro h)|refine⟨_,rfl,?_⟩|exact rfl)
      all_goals try exact⟨KP⟩
      all_goals try exact⟨KW⟩
    ·have hie:i=k:=by omega
     subst hie
     rw[if_pos o4]
     repeat' ((conv=>whnf);first|apply Wx|apply W6|apply oi|(apply fi<;>intro h)|refine⟨_,rfl,?_⟩|exact rfl)
     all_goals try exact⟨KP⟩
     all_goals try exact KX
     conv=>whnf
     refine⟨⟨(i+1,aW C x i ln A,A.g.items),hQ⟩,?_,KD⟩
     repeat' ((conv=>whnf);first|apply Wx|apply W6|apply oi|(apply fi<;>intro h)|refine⟨_,rfl,?_⟩|exact rfl)
     all_goals try exact⟨KP⟩
     all_goals try exact⟨KW⟩
     all_goals(refine⟨?_⟩;dsimp only;simp only[b1,b2,b3,b5,b6,a4,a5,a6,hee];try rfl)
  ·
   rw[if_neg (by omega),if_neg (by omega),if_pos h1]at hA
   have hx1:=hexp (.inl h1)
   have gX:=hX hx1 (by omega)
   have hG1:=hG hx1
   have hix:=kB x.locals ln.fac
   have gI:=fh x.locals ln.fac (by omega)
   have gS:=kX C hC g1 (d+1) (scH (S++[(x,L.lv)])) x (cY x.locals ln.fac) k x.chain (by unfold bu;omega) hch (by omega) hxf (by omega)
   rw[Int.add_sub_cancel]at gS
   have a1:A.g=dD C x g1 (d+1) (cY x.locals ln.fac) k x.chain:=by rw[←hA]
   have a4:A.heads=L.heads.set k L.g.items.length:=by rw[←hA]
   have a5:A.pos=L.pos:=by rw[←hA]
   have a6:A.lv=L.lv:=by rw[←hA]
   have hee:bc C.p L.pos (x.f+1) (k+1 - (x.f+1))=bc C.p L.pos (x.f+1) (k - (x.f+1)):=kW hkf (by unfold jumps;rw[bp hl,h1];decide)
   generalize cY x.locals ln.fac=ix at *
   repeat' ((conv=>whnf);first|apply Wx|apply W6|refine cg gP ?_|refine cg gX ?_|refine cg gS ?_|apply oi|(apply fi<;>intro h)|refine⟨k,ln.tr,rfl,ab hl,?_⟩|refine⟨k,rfl,hIl,?_⟩|refine⟨_,hhr,?_⟩|refine⟨S.length,hw L.lv,hlt L.lv,?_⟩|refine⟨_,hrow L.lv,?_⟩|refine cl gI ?_|refine⟨_,rfl,?_⟩|exact rfl)
   all_goals try exact⟨KP⟩
   all_goals try exact KX
   all_goals try exact KK
   conv=>whnf
   refine⟨⟨(k+1,aW C x k ln A,A.g.items),hQ⟩,?_,KD⟩
   repeat' ((conv=>whnf);first|apply Wx|apply W6|apply oi|(apply fi<;>intro h)|refine⟨_,rfl,?_⟩|exact rfl)
   all_goals try exact⟨KP⟩
   all_goals try exact⟨KW⟩
   all_goals(refine⟨?_⟩;dsimp only;simp only[b1,b2,b3,b5,b6,a1,a4,a5,a6,hee,hitl,←hhs];try rfl)
  ·
   rw[if_neg (by omega),if_neg (by omega),if_neg (by omega),if_pos h2]at hA
   have hx1:=hexp (.inr (.inl h2))
   have gX:=hX hx1 (by omega)
   have hG1:=hG hx1
   have gS:=bK C g1 (d+1) (scH (S++[(x,L.lv)])) 17 0 k x.chain (by unfold bu;omega) hch
   have a1:A.g=az C g1 (d+1) 17 0 k x.chain:=by rw[←hA]
   have a4:A.heads=L.heads.set k L.g.items.length:=by rw[←hA]
   have a5:A.pos=L.pos:=by rw[←hA]
   have a6:A.lv=L.lv:=by rw[←hA]
   have hee:bc C.p L.pos (x.f+1) (k+1 - (x.f+1))=bc C.p L.pos (x.f+1) (k - (x.f+1)):=kW hkf (by unfold jumps;rw[bp hl,h2];decide)
   repeat' ((conv=>whnf);first|apply Wx|apply W6|refine cg gP ?_|refine cg gX ?_|refine cg gS ?_|apply oi|(apply fi<;>intro h)|refine⟨k,ln.tr,rfl,ab hl,?_⟩|refine⟨k,rfl,hIl,?_⟩|refine⟨_,hhr,?_⟩|refine⟨_,rfl,?_⟩|exact rfl)
   all_goals try exact⟨KP⟩
   all_goals try exact KX
   all_goals try exact KK
   conv=>whnf
   refine⟨⟨(k+1,aW C x k ln A,A.g.items),hQ⟩,?_,KD⟩
   repeat' ((conv=>whnf);first|apply Wx|apply W6|apply oi|(apply fi<;>intro h)|refine⟨_,rfl,?_⟩|exact rfl)
   all_goals try exact⟨KP⟩
   all_goals try exact⟨KW⟩
   all_goals(refine⟨?_⟩;dsimp only;simp only[b1,b2,b3,b5,b6,a1,a4,a5,a6,hee,hitl,←hhs];try rfl)
  ·
   rw[if_neg (by omega),if_neg (by omega),if_neg (by omega),if_neg (by omega),if_pos h6]at hA
   have hx1:=hexp (.inr (.inr (.inr (.inr h6))))
   have gX:=hX hx1 (by omega)
   have hG1:=hG hx1
   have gS:=pz C hC g1 (d+1) S x L.lv k false (by unfold bu;omega) hch (by omega) (by omega) (by omega) (L.heads.set k L.g.items.length) L.pos
   rw[hA,Int.add_sub_cancel]at gS
   have a4:A.heads=L.heads.set k L.g.items.length:=by rw[←hA];unfold aR;(repeat' split) <;> rfl
   have a5:A.pos=L.pos:=by rw[←hA];unfold aR;(repeat' split) <;> rfl
   have hee:bc C.p L.pos (x.f+1) (k+1 - (x.f+1))=bc C.p L.pos (x.f+1) (k - (x.f+1)):=kW hkf (by unfold jumps;rw[bp hl,h6];decide)
   repeat' ((conv=>whnf);first|apply Wx|apply W6|refine cg gP ?_|refine cg gX ?_|refine cg gS ?_|apply oi|(apply fi<;>intro h)|refine⟨k,ln.tr,rfl,ab hl,?_⟩|refine⟨k,rfl,hIl,?_⟩|refine⟨_,hhr,?_⟩|refine⟨_,rfl,?_⟩|exact rfl)
   all_goals try exact⟨KP⟩
   all_goals try exact KX
   all_goals try exact KK
   conv=>whnf
   refine⟨⟨(k+1,aW C x k ln A,A.g.items),hQ⟩,?_,KD⟩
   repeat' ((conv=>whnf);first|apply Wx|apply W6|apply oi|(apply fi<;>intro h)|refine⟨_,rfl,?_⟩|exact rfl)
   all_goals try exact⟨KP⟩
   all_goals try exact⟨KW⟩
   all_goals(refine⟨?_⟩;dsimp only;simp only[b1,b2,b3,b5,b6,a4,a5,hee,hitl,←hhs];try rfl)
  ·
   rw[if_neg (by omega),if_neg (by omega),if_neg (by omega),if_neg (by omega),if_neg (by omega)]at hA
   have hx1:=hexp (by omega)
   have gX:=hX hx1 (by omega)
   have hG1:=hG hx1
   have gS:=bK C g1 (d+1) (scH (S++[(x,L.lv)])) 11 0 k x.chain (by unfold bu;omega) hch
   have a1:A.g=az C g1 (d+1) 11 0 k x.chain:=by rw[←hA]
   have a4:A.heads=L.heads.set k L.g.items.length:=by rw[←hA]
   have a5:A.pos=L.pos.set k g1.items.length:=by rw[←hA]
   have a6:A.lv=L.lv:=by rw[←hA]
   have hkk:=bp hl
   have hee:=uy (pos:=L.pos) (p:=C.p) (f:=x.f) (k:=k) hkf (by unfold jumps;omega) (by rw[hIp];omega) (g1.items.length:Int)
   have gEn:=cN C.p (k:Int) (by omega)
   have gEl:=jZ C.p (k:Int) (by omega)
   have hge:=mq C.p k
   have hgl:-1≤bg C.p (k:Int)∧bg C.p (k:Int)≤C.p.length:=by
    rw[fB]
    cases hz:elseAt C.p k with
    | none=>simp only[cu];omega
    | some j=>
     obtain⟨_,_,_,_,_,_,_,w,hw,_⟩:=aY hz
     have:=aM hw
     simp only[cu];omega
   have hto:kj C.p k=if ln.faa=3∧0≤bg C.p (k:Int)then - bg C.p (k:Int)else bn C.p (k:Int)+1:=by unfold kj;rw[if_neg (by omega),hkk]
   have hml:((bc C.p L.pos (x.f+1) (k - (x.f+1))).map my).length=(bc C.p L.pos (x.f+1) (k - (x.f+1))).length:=by simp
   have hitg:=iB g1.items
   generalize kj C.p k=to at *
   generalize bn C.p (k:Int)=en at *
   generalize bg C.p (k:Int)=el at *
   have hw1:IntKind.i64.wrap (en+1)=en+1:=by rw[IntWalk.i64_in _ (by omega)]
   have hw2:IntKind.i64.wrap (0 - el)= - el:=by rw[IntWalk.i64_in _ (by omega)];omega
   repeat' ((conv=>whnf);first|apply Wx|apply W6|refine cg gP ?_|refine cg gX ?_|refine cg gS ?_|apply oi|(apply fi<;>intro h)|refine⟨k,ln.tr,rfl,ab hl,?_⟩|refine⟨k,rfl,hIl,?_⟩|refine⟨_,hhr,?_⟩|refine cl gEn ?_|refine cl gEl ?_|refine⟨_,rfl,?_⟩|exact rfl)
   all_goals try exact⟨KP⟩
   all_goals try exact KX
   all_goals try exact KK
   all_goals try exact⟨⟨by rw[hml];simp <;> omega,by rw[hml];simp <;> omega⟩⟩
   all_goals(conv=>whnf)
   all_goals(refine⟨⟨(k+1,aW C x k ln A,A.g.items),hQ⟩,?_,KD⟩)
   repeat' ((conv=>whnf);first|apply Wx|apply W6|apply oi|(apply fi<;>intro h)|refine⟨_,rfl,?_⟩|exact rfl)
   all_goals try exact⟨KP⟩
   all_goals try exact⟨KW⟩
   all_goals(refine⟨?_⟩;dsimp only;simp only[b1,b2,b3,b5,b6,a1,a4,a5,a6,←hee,hitl,hitg,←hhs,hw1,hw2];try rfl)
   all_goals first
    |(rw[hto,if_pos ⟨eq_of_beq (by assumption),of_decide_eq_true (by assumption)⟩];simp)
    |(rw[hto,if_neg (fun hh=>absurd hh.2 (of_decide_eq_false (by assumption)))];simp)
    |(rw[hto,if_neg (fun hh=>by
                     have h9:(ln.faa==3)=false:=by assumption
                     rw[hh.1]at h9;cases h9)];simp)
 ·have hk1:k=e+1:=by have:=hI.hi;omega
  subst hk1
  have hf:=hI.fin
  rw[Nat.sub_self,jX]at hf
  subst hf
  rw[hlast rfl]
  repeat' ((conv=>whnf);first|apply Wx|apply W6|apply oi|(apply fi<;>intro h)|refine⟨_,rfl,?_⟩|exact rfl)
  all_goals try exact⟨KP⟩
  all_goals try exact KX
structure HA where
 b:List UInt8
 i:Nat
 h:Int
def HA.ok (c:HA):Prop:=c.i≤c.b.length∧c.b.length≤1048576
abbrev eQ (c:HA):List (Sim.Id×AO):=[((0,0,0),.box [.t (.lst 1 (c.b.map aQ)),.t (.int .i64 c.i),.t (.int .i64 c.h)])]
abbrev gg:AV:= .r (.c (.ptr (0,0,0) 0))
theorem Hr (z:Int):∃x:Nat,x < 256∧IntKind.i64.wrap ((BitVec.ofInt IntKind.i64.bits z &&& BitVec.ofInt IntKind.i64.bits 255).toNat:Int)=(x:Int):=by
 have e:(BitVec.ofInt 64 255).toNat=2 ^ 8 - 1:=by decide
 have h:(BitVec.ofInt IntKind.i64.bits z &&& BitVec.ofInt IntKind.i64.bits 255).toNat < 256:=by
  show(BitVec.ofInt 64 z &&& BitVec.ofInt 64 255).toNat < 256
  rw[BitVec.toNat_and,e,Nat.and_two_pow_sub_one_eq_mod]
  omega
 generalize(BitVec.ofInt IntKind.i64.bits z &&& BitVec.ofInt IntKind.i64.bits 255).toNat=n at *
 exact⟨n,h,IntWalk.i64_in _ (by omega)⟩
def gR (h:Int):Int:=IntKind.i64.wrap (IntKind.i64.wrap (h * 6364136223846793005)+1442695040888963407)
theorem fR (c:HA)(hc:c.ok):∃(x:Nat) (c':HA),x < 256∧c'.b=c.b∧c'.ok∧aV Tryz.prog 203 [gg] (eQ c) (tI .i64 x) (eQ c'):=by
 obtain⟨hi,hl⟩:=hc
 have hbl:(c.b.map aQ).length=c.b.length:=by simp
 obtain⟨x0,hx0,he0⟩:=Hr (IntKind.i64.wrap ((BitVec.ofInt IntKind.i64.bits ((gR c.h).fdiv (2 ^ min (Int.toNat 33) IntKind.i64.bits)) ^^^ BitVec.ofInt IntKind.i64.bits ((gR c.h).fdiv (2 ^ min (Int.toNat 45) IntKind.i64.bits))).toNat:Int))
 unfold gR at he0
 by_cases hlt:c.i < c.b.length
 ·obtain⟨u,hu⟩:=ae hlt
  obtain⟨x,hx,he⟩:=Hr (IntKind.i64.wrap ((x0:Int)+IntKind.i64.wrap (u.toNat:Int)))
  rw[←he0]at he
  refine⟨x,⟨c.b,c.i+1,gR c.h⟩,hx,rfl,⟨by dsimp only;omega,hl⟩,?_⟩
  refine aj hΓ ay Tryz.func203 rfl (by decide) rfl rfl ?_
  repeat' ((conv=>whnf);first|apply Wx|apply W6|apply oi|(apply fi<;>intro h)|refine⟨c.i,(aQ u),rfl,ab hu,?_⟩|refine⟨_,rfl,?_⟩|exact rfl)
  all_goals try exact⟨KP⟩
  all_goals try exact KX
  all_goals try exact⟨congrArg (Tr.int _) he⟩
  all_goals try exact⟨K6⟩
  all_goals exact⟨rfl⟩
 ·refine⟨x0,⟨c.b,c.i,gR c.h⟩,hx0,rfl,⟨hi,hl⟩,?_⟩
  refine aj hΓ ay Tryz.func203 rfl (by decide) rfl rfl ?_
  repeat' ((conv=>whnf);first|apply Wx|apply W6|apply oi|(apply fi<;>intro h)|refine⟨_,rfl,?_⟩|exact rfl)
  all_goals try exact⟨KP⟩
  all_goals try exact KX
  all_goals try exact⟨congrArg (Tr.int _) he0⟩
  all_goals exact⟨rfl⟩
theorem oD {x:Nat}{n:Int}(h:0 < n):∃y:Nat,(y:Int) < n∧(x:Int).tmod n=(y:Int):=by
 have h1:=Int.tmod_nonneg n (Int.natCast_nonneg x)
 have h2:=Int.tmod_lt_of_pos (x:Int) h
 obtain⟨y,hy⟩:=Int.eq_ofNat_of_zero_le h1
 exact⟨y,by omega,hy⟩
theorem bF (c:HA)(n:Int)(hc:c.ok):∃(x:Nat) (c':HA),(0 < n→(x:Int) < n)∧(n≤0→x=0)∧c'.b=c.b∧c'.ok∧aV Tryz.prog 146 [gg,tI .i64 n] (eQ c) (tI .i64 x) (eQ c'):=by
 by_cases h0:n≤0
 ·refine⟨0,c,by omega,fun _=>rfl,rfl,hc,?_⟩
  refine aj hΓ ay Tryz.func146 rfl (by decide) rfl rfl ?_
  repeat' ((conv=>whnf);first|apply Wx|apply W6|apply oi|(apply fi<;>intro h)|refine⟨_,rfl,?_⟩|exact rfl)
  all_goals try exact⟨KP⟩
  all_goals try exact KX
 ·obtain⟨x1,c1,k1,b1,o1,g1⟩:=fR c hc
  by_cases h2:n≤256
  ·obtain⟨y,hy,hm⟩:=oD (x:=x1) (n:=n) (by omega)
   refine⟨y,c1,fun _=>hy,by omega,b1,o1,?_⟩
   refine aj hΓ ay Tryz.func146 rfl (by decide) rfl rfl ?_
   repeat' ((conv=>whnf);first|apply Wx|apply W6|refine cg g1 ?_|apply oi|(apply fi<;>intro h)|refine⟨_,rfl,?_⟩|exact rfl)
   all_goals try exact⟨KP⟩
   all_goals try exact KX
   all_goals try exact⟨by omega⟩
   all_goals exact⟨congrArg (Tr.int _) hm⟩
  ·obtain⟨x2,c2,k2,b2,o2,g2⟩:=fR c1 o1
   obtain⟨x3,c3,k3,b3,o3,g3⟩:=fR c2 o2
   obtain⟨x4,c4,k4,b4,o4,g4⟩:=fR c3 o3
   obtain⟨y,hy,hm⟩:=oD (x:=x1 * 16777216+x2 * 65536+x3 * 256+x4) (n:=n) (by omega)
   refine⟨y,c4,fun _=>hy,by omega,((b4.trans b3).trans b2).trans b1,o4,?_⟩
   refine aj hΓ ay Tryz.func146 rfl (by decide) rfl rfl ?_
   repeat' ((conv=>whnf);first|apply Wx|apply W6|apply oi|(apply fi<;>intro h)|refine⟨_,rfl,?_⟩|exact rfl)
   all_goals try exact⟨KP⟩
   all_goals try exact KX
   refine cg (g1) ?_
   repeat' ((conv=>whnf);first|apply Wx|apply W6|apply oi|(apply fi<;>intro h)|refine⟨_,rfl,?_⟩|exact rfl)
   all_goals try exact⟨KP⟩
   refine cg (g2) ?_
   repeat' ((conv=>whnf);first|apply Wx|apply W6|apply oi|(apply fi<;>intro h)|refine⟨_,rfl,?_⟩|exact rfl)
   all_goals try exact⟨KP⟩
   refine cg (g3) ?_
   repeat' ((conv=>whnf);first|apply Wx|apply W6|apply oi|(apply fi<;>intro h)|refine⟨_,rfl,?_⟩|exact rfl)
   all_goals try exact⟨KP⟩
   refine cg (g4) ?_
   repeat' ((conv=>whnf);first|apply Wx|apply W6|apply oi|(apply fi<;>intro h)|refine⟨_,rfl,?_⟩|exact rfl)
   all_goals try exact⟨KP⟩
   all_goals try exact⟨by omega⟩
   all_goals(
    have hw:IntKind.i64.wrap (IntKind.i64.wrap (IntKind.i64.wrap (IntKind.i64.wrap ((x1:Int) * 16777216)+IntKind.i64.wrap ((x2:Int) * 65536))+IntKind.i64.wrap ((x3:Int) * 256))+(x4:Int))=((x1 * 16777216+x2 * 65536+x3 * 256+x4:Nat):Int):=by
     rw[IntWalk.i64_in ((x1:Int) * 16777216) (by omega),IntWalk.i64_in ((x2:Int) * 65536) (by omega),IntWalk.i64_in ((x3:Int) * 256) (by omega),IntWalk.i64_in ((x1:Int) * 16777216+(x2:Int) * 65536) (by omega),IntWalk.i64_in ((x1:Int) * 16777216+(x2:Int) * 65536+(x3:Int) * 256) (by omega),IntWalk.i64_in _ (by omega)]
     omega
    exact⟨by rw[hw,hm]⟩)
theorem dG (c:HA)(n:Int)(hc:c.ok):∃(x:Bool) (c':HA),c'.b=c.b∧c'.ok∧aV Tryz.prog 148 [gg,tI .i64 n] (eQ c) (tB x) (eQ c'):=by
 obtain⟨x,c',_,_,b1,o1,g1⟩:=bF c n hc
 refine⟨(x:Int)==0,c',b1,o1,?_⟩
 refine aj hΓ ay Tryz.func148 rfl (by decide) rfl rfl ?_
 repeat' ((conv=>whnf);first|apply Wx|apply W6|refine cg g1 ?_|apply oi|(apply fi<;>intro h)|refine⟨_,rfl,?_⟩|exact rfl)
 all_goals try exact⟨KP⟩
theorem jg (c:HA)(ns:List Int)(hc:c.ok)(hp:0 < ns.length)(hl:ns.length≤1048576):∃(v:Int) (c':HA),v∈ns∧c'.b=c.b∧c'.ok∧aV Tryz.prog 147 [gg,.r (.c (.own (0,0,1)))] (eQ c++[((0,0,1),.arr false 1 (ns.map aa))]) (tI .i64 v) (eQ c'++[((0,0,1),.arr false 1 (ns.map aa))]):=by
 have hlen:(ns.map aa).length=ns.length:=by simp
 obtain⟨x,c',h1,_,b1,o1,g1⟩:=bF c ((ns.map aa).length:Int) hc
 rw[hlen]at h1
 obtain⟨v,hv⟩:=ae (l:=ns) (k:=x) (by omega)
 have hxl:x < (ns.map aa).length:=by rw[hlen];omega
 refine⟨v,c',List.mem_of_getElem? hv,b1,o1,?_⟩
 refine aj hΓ ay Tryz.func147 rfl (by decide) rfl rfl ?_
 repeat' ((conv=>whnf);first|apply Wx|apply W6|refine cg g1 ?_|apply oi|(apply fi<;>intro h)|refine⟨x,rfl,hxl,?_⟩|refine⟨(aa v),ab hv,?_⟩|refine⟨_,rfl,?_⟩|exact rfl)
 all_goals try exact⟨KP⟩
def aJ (b:Hz):Bool:=af b.far 0 63 && af b.fal 0 3
theorem jt (b:Hz):Sim.Spec Tryz.prog 73 [.agg b.tr] (rB (aJ b)):=by
 refine aE hΓ ay Tryz.func73 rfl (by decide) rfl ?_
 have h1:=bi b.far 0 63
 have h2:=bi b.fal 0 3
 unfold aJ
 generalize af b.far 0 63=w1 at *
 generalize af b.fal 0 3=w2 at *
 repeat' ((conv=>whnf);first|apply Wx|apply W6|apply oi|(apply fi<;>intro h)|refine cl h1 ?_|refine cl h2 ?_|refine⟨_,rfl,?_⟩|exact rfl)
 all_goals try exact⟨KP⟩
 all_goals(refine⟨congrArg Tr.bool ?_⟩;simp_all)
theorem sP (c:HA)(hc:c.ok):∃(b:Hz) (c':HA),aJ b=true∧c'.b=c.b∧c'.ok∧aV Tryz.prog 71 [gg] (eQ c) (.r (.agg (b.tr.map .t))) (eQ c'):=by
 obtain⟨f,c1,k1,_,b1,o1,g1⟩:=bF c 64 hc
 obtain⟨v,c2,hv,b2,o2,g2⟩:=jg c1 [0,1,2,3] o1 (by decide) (by decide)
 obtain⟨x,c3,b3,o3,g3⟩:=dG c2 2 o2
 obtain⟨y,c4,b4,o4,g4⟩:=dG c3 2 o3
 refine⟨⟨f,v,x,y⟩,c4,?_,((b4.trans b3).trans b2).trans b1,o4,?_⟩
 ·have:=k1 (by omega)
  simp only[List.mem_cons,List.not_mem_nil,or_false]at hv
  unfold aJ
  rw[within_iff.2 ⟨by dsimp only;omega,by dsimp only;omega⟩,within_iff.2 ⟨by dsimp only;omega,by dsimp only;omega⟩]
  rfl
 ·refine aj hΓ ay Tryz.func71 rfl (by decide) rfl rfl ?_
  repeat' ((conv=>whnf);first|apply Wx|apply W6|apply oi|(apply fi<;>intro h)|refine⟨_,rfl,?_⟩|exact rfl)
  all_goals try exact⟨KP⟩
  refine cg (g1) ?_
  repeat' ((conv=>whnf);first|apply Wx|apply W6|apply oi|(apply fi<;>intro h)|refine⟨_,rfl,?_⟩|exact rfl)
  all_goals try exact⟨KP⟩
  refine cg (g2) ?_
  repeat' ((conv=>whnf);first|apply Wx|apply W6|apply oi|(apply fi<;>intro h)|refine⟨_,rfl,?_⟩|exact rfl)
  all_goals try exact⟨KP⟩
  refine cg (g3) ?_
  repeat' ((conv=>whnf);first|apply Wx|apply W6|apply oi|(apply fi<;>intro h)|refine⟨_,rfl,?_⟩|exact rfl)
  all_goals try exact⟨KP⟩
  refine cg (g4) ?_
  repeat' ((conv=>whnf);first|apply Wx|apply W6|apply oi|(apply fi<;>intro h)|refine⟨_,rfl,?_⟩|exact rfl)
  all_goals try exact⟨KP⟩
theorem Dd {C:Cx}(hC:CxOk C):∀lev,Eh C lev∧ym C lev:=by
 have hL:∀lev,Eh C lev→ym C lev:=fun lev hR=>Dg hC fun e x S lv k p ln s d h1 h2 h3 h4 h5 h6=>Aa hC hR e.toks.length e (Nat.le_refl _) x S lv k p ln s d h1 h2 h3 h4 h5 h6
 intro lev
 induction lev with
 | zero=>
  have hR:Eh C 0:=by
   intro x S lv k g s d hx hk hg hrb hr
   obtain⟨r1,_⟩:=eA hrb
   have:=hr.depth
   rw[show(bP (S++[(x,lv)])).length=S.length+1 by simp]at r1
   omega
  exact⟨hR,hL 0 hR⟩
 | succ n ih=>
  have hR:=Ft hC ih.2
  exact⟨hR,hL _ hR⟩
def xF (frames f:Int):Bool:=IntKind.i64.wrap (BitVec.ofInt IntKind.i64.bits (frames.fdiv (2 ^ min f.toNat IntKind.i64.bits)) &&& BitVec.ofInt IntKind.i64.bits 1).toNat==1
theorem jD (C:Cx)(hC:CxOk C)(f g:Nat)(hf:(ak C.p)[f]?=some g)(e3:C.framed=xF C.b.far f)(e5:C.args=argsN C.p g):
  Sim.Spec Tryz.prog 150 [tvP C.p,tvI (f:Int),.agg C.b.tr,tvI C.words] (.tup [.c (.arr 7 ((cK C g).items.map HG.tr)),.c (.t (.int .i64 (cK C g).most))]):=by
 refine aE hΓ ay Tryz.func150 rfl (by decide) rfl ?_
 obtain⟨hgl,y,hy,hy0⟩:=iC (List.mem_of_getElem? hf)
 have h60:=hC.len
 have hw:=hC.words
 have hin:=hC.inl
 have gF:=bS C.p (by omega)
 have gL:=ir C.p (g:Int) (by omega) (fun z hz=>aT hC.small hz)
 have hA:argsN C.p g=y.fag.length:=by rw[argsN,hy]
 have h4:=(hC.line g y hy).2.2.1
 have hfl:f < (ak C.p).length:=aM hf
 have hfr:f < ((ak C.p).map fun n:Nat=>aa n).length:=by rw[List.length_map];exact hfl
 have hfg:((ak C.p).map fun n:Nat=>aa n)[f]?=some (aa (g:Int)):=by rw[List.getElem?_map,hf];rfl
 have hloc:=cO hC ⟨y,hy,hy0⟩
 have hyl:(y.fag.map ah).length=y.fag.length:=by simp
 have hll:((localsOf C.p (g:Int)).map ah).length=(localsOf C.p (g:Int)).length:=by simp
 have hS:ScOk C (bA C g) [g]:=⟨⟨y,hy,hy0⟩,rfl,⟨Int.le_refl _,by simp[bA]⟩,rfl,by simp[bA],fun _=>e5,rfl⟩
 obtain⟨e,he1,he2,he3,he4,_⟩:=hS.endE hC
 obtain⟨O,hO⟩:∃O,bA C g=O:=⟨_,rfl⟩
 have hOr:kJ O []=[.d (.int .i64 (g:Int)),.t (.lst 1 []),.t (.lst 1 ((localsOf C.p (g:Int)).map ah)),.d (.int .i64 0),.d (.bool true),.d (.lst 0 [])]:=by rw[←hO,bA];rfl
 have hOl:(scH [(O,[])])[0]?=some [.d (.int .i64 (g:Int)),.t (.lst 1 []),.t (.lst 1 ((localsOf C.p (g:Int)).map ah)),.d (.int .i64 0),.d (.bool true),.d (.lst 0 [])]:=by rw[←hOr];rfl
 have g1:=fun code=>bK C ⟨[],(localsOf C.p (g:Int)).length - C.args,false⟩ 0 (scH [(O,[])]) code C.words g [] (by unfold bu;simp) (by simp)
 have hlev:((C.b.fal.toNat:Nat):Int)=C.b.fal:=Int.toNat_of_nonneg hin.1
 have h3:=qW (n:=C.b.fal.toNat) (by omega)
 have gLs:=(Dd hC C.b.fal.toNat).2 O [] (eF C g) C.words (by rw[←hO];exact hS) (by
  rw[←hO,he4]
  have:=Nat.mul_le_mul (show e - (bA C g).f≤60 by omega) (show 20 * cf C.b.fal.toNat+3≤20 * 8679837+3 by omega)
  simp only[eF,az,List.length_append,List.length_nil,List.length_cons]
  omega) (by simpa using hlev) hw.1 (by omega)
 have hcg:aU C (aX C C.b.fal.toNat) O (bP ([]++[(O,[])])) C.words (eF C g)=aU C (aX C C.b.fal.toNat) (bA C g) [g] C.words (eF C g):=by rw[←hO];rfl
 rw[hcg,List.nil_append,List.nil_append]at gLs
 repeat' ((conv=>whnf);first|(with_reducible apply W1;fail_if_success (with_reducible show Wo _ _ _ _ (Code.region 4 _ _) _ _))|(with_reducible first|apply W2|apply W3|apply W4|apply W5|apply W6|apply W7|apply W8|apply W9)|apply bh|apply oi|(apply fi<;>intro h)|refine cl gF ?_|refine⟨f,rfl,hfr,?_⟩|refine⟨_,hfg,?_⟩|refine⟨g,y.tr,rfl,ab hy,?_⟩|refine cl gL ?_|refine⟨_,rfl,?_⟩|exact rfl)
 all_goals try exact⟨KP⟩
 all_goals try exact⟨by omega⟩
 all_goals try exact⟨eN _⟩
 conv=>whnf
 refine Dc (40,0,0) (rows':=[kJ O []]) rfl ?_ ?_
 ·rw[hOr]
  refine⟨⟨rfl,fun q c d hc hd=>?_⟩,trivial⟩
  match q with
  | 0=>simp at hc hd;subst hc;subst hd;exact .inl rfl
  | 1=>simp at hc hd;subst hc;subst hd;exact .inr (.inr ⟨0,1,rfl,rfl⟩)
  | 2=>simp at hc hd;subst hc;subst hd;exact .inr (.inl rfl)
  | 3=>simp at hc hd;subst hc;subst hd;exact .inl rfl
  | 4=>simp at hc hd;subst hc;subst hd;exact .inl rfl
  | 5=>simp at hc hd;subst hc;subst hd;exact .inl rfl
  | q+6=>simp at hc
 refine oZ ⟨[(0,vP C.p),(3,tI .i64 C.words),(10,tI .i64 (g:Int)),(11,.r (.c (.ptr (33,0,0) 0)))],[((33,0,0),some (nY C ⟨[],0,false⟩ 0 (33,0,1) (33,0,2))),((33,0,1),some (.dar 7 (itR []) none)),((33,0,2),some (.dar 6 (scH [(O,[])]) none))],[40,38,33,13,6]⟩ ?_ ?_
 ·skip
  repeat' ((conv=>whnf);first|apply Wx|apply W6|apply oi|(apply fi<;>intro h)|refine⟨_,rfl,?_⟩|exact rfl)
  all_goals try exact⟨KP⟩
  all_goals try exact⟨by rw[e3];rfl⟩
  all_goals try exact⟨by rw[e5,hA,hyl]⟩
 have hwm:IntKind.i64.wrap ((((localsOf C.p (g:Int)).map ah).length:Int) - C.args)=((localsOf C.p (g:Int)).length:Int) - C.args:=by rw[hll,IntWalk.i64_in _ (by omega)]
 cases hfm:C.framed with
 | true=>
  have hh:eF C g=az C ⟨[],(localsOf C.p (g:Int)).length - C.args,false⟩ 0 13 C.words g []:=by rw[eF,if_pos hfm]
  rw[hh]at gLs
  have g2:=g1 13
  have hcr:cK C g=(aU C (aX C C.b.fal.toNat) (bA C g) [g] C.words (az C ⟨[],(localsOf C.p (g:Int)).length - C.args,false⟩ 0 13 C.words g [])).1:=by rw[cK,hh]
  rw[hcr]
  repeat' ((conv=>whnf);first|apply Wx|apply W6|refine cg g2 ?_|refine cg gLs ?_|apply oi|(apply fi<;>intro h)|refine⟨0,rfl,(by simp),?_⟩|refine⟨_,hOl,?_⟩|refine⟨_,rfl,?_⟩|exact rfl)
  all_goals try exact⟨KP⟩
  all_goals try(exfalso;rw[hfm]at h;cases h;done)
  all_goals first|exact⟨⟨_,rfl⟩⟩|exact⟨congrArg (Tr.int .i64) hwm.symm⟩
 | false=>
  have hh:eF C g=az C ⟨[],(localsOf C.p (g:Int)).length - C.args,false⟩ 0 15 C.words g []:=by rw[eF,if_neg (by simp[hfm])]
  rw[hh]at gLs
  have g2:=g1 15
  have hcr:cK C g=(aU C (aX C C.b.fal.toNat) (bA C g) [g] C.words (az C ⟨[],(localsOf C.p (g:Int)).length - C.args,false⟩ 0 15 C.words g [])).1:=by rw[cK,hh]
  rw[hcr]
  repeat' ((conv=>whnf);first|apply Wx|apply W6|refine cg g2 ?_|refine cg gLs ?_|apply oi|(apply fi<;>intro h)|refine⟨0,rfl,(by simp),?_⟩|refine⟨_,hOl,?_⟩|refine⟨_,rfl,?_⟩|exact rfl)
  all_goals try exact⟨KP⟩
  all_goals try(exfalso;rw[hfm]at h;cases h;done)
  all_goals first|exact⟨⟨_,rfl⟩⟩|exact⟨congrArg (Tr.int .i64) hwm.symm⟩
theorem oC {C:Cx}(hC:CxOk C){g:Nat}(hg:bG C g)(e5:C.args=argsN C.p g):0≤(cK C g).most∧(cK C g).most≤1000:=by
 have hS:ScOk C (bA C g) [g]:=⟨hg,rfl,⟨Int.le_refl _,by simp[bA]⟩,rfl,by simp[bA],fun _=>e5,rfl⟩
 have hG:=gZ (lev:=C.b.fal.toNat) (rep:=aX C C.b.fal.toNat) (fun line g d s hg hr=>cR hC _ line g d s hS hg hr) hC hS C.words (eF C g)
 obtain⟨l1,l2⟩:=cO hC hg
 have hm:(eF C g).most=(localsOf C.p (g:Int)).length - C.args:=rfl
 have h1:=hG.most
 have h2:=hG.cap (by rw[hm];omega)
 rw[hm]at h1
 exact⟨Int.le_trans (by omega) h1,h2⟩
def ctx (p:List HH)(f g:Nat)(b:Hz)(words:Int):Cx:=⟨p,b,xF b.far f,words,argsN p g⟩
noncomputable def foldIf (p:List HH) (b:Hz):List HH:=if b.faw=true then p.map aP else p
noncomputable def ij (p:List HH) (f:Nat) (b:Hz):List HG:=match(ak (foldIf p b))[f]? with
 | some g=>(cK (ctx (foldIf p b) f g b (cK (ctx (foldIf p b) f g b 0) g).most) g).items
 | none=>[]
noncomputable def aL (p:List HH) (f:Int) (b:Hz):List HG:=
 if aw p=true∧aJ b=true∧0≤f∧f < (ak p).length then ij p f.toNat b else []
theorem alike.funsF:∀{p q:List HH},alike p q→∀i:Nat,funsF p i=funsF q i
 | [],[],_,_=>rfl
 | x::p,y::q,h,i=>by
  simp only[alike,List.map_cons,List.cons.injEq,Prod.mk.injEq]at h
  have ih:=alike.funsF (p:=p) (q:=q) h.2
  rw[Go.Proofs.YtjmplnfiabmalaaGreat.funsF,Go.Proofs.YtjmplnfiabmalaaGreat.funsF,h.1.1,ih]
 | [],_::_,h,_=>by simp[alike]at h
 | _::_,[],h,_=>by simp[alike]at h
theorem jL (p:List HH)(b:Hz):ak (foldIf p b)=ak p:=by
 unfold foldIf
 split
 ·exact(iZ p).funsF 0
 ·rfl
theorem PgOk.foldIf {p:List HH}(h:PgOk p)(b:Hz):PgOk (foldIf p b):=by
 unfold Go.Proofs.YtjmplnfiabmalaaGreat.foldIf
 split
 ·exact h.fold
 ·exact h
theorem lq (p:List HH)(f:Int)(b:Hz)(hs:aB 1048576 (.lst 4 (p.map HH.tr))):Sim.Spec Tryz.prog 76 [tvP p,tvI f,.agg b.tr] (rL 7 ((aL p f b).map HG.tr)):=by
 refine aE hΓ ay Tryz.func76 rfl (by decide) rfl ?_
 have hP:=dF p hs
 have hB:=jt b
 have hl:=cv hs
 have gF:=bS p (by omega)
 have hfl:((ak p).map fun n:Nat=>aa n).length=(ak p).length:=by simp
 by_cases hc:aw p=true∧aJ b=true∧0≤f∧f < (ak p).length
 ·have hcf:aL p f b=ij p f.toNat b:=by rw[aL,if_pos hc]
  rw[hcf]
  obtain⟨h1,h2,h3,h4⟩:=hc
  obtain⟨f,rfl⟩:=Int.eq_ofNat_of_zero_le h3
  rw[Int.toNat_natCast]
  rw[h1]at hP
  rw[h2]at hB
  have hb:0≤b.fal∧b.fal≤3:=by
   unfold aJ at h2
   simp only[Bool.and_eq_true,within_iff]at h2
   exact h2.2
  obtain⟨g,hg⟩:=ae (l:=ak p) (k:=f) (by omega)
  have hpg:=(tD hs h1).foldIf b
  have hg':(ak (foldIf p b))[f]?=some g:=by rw[jL];exact hg
  obtain⟨hgl,y,hy,hy0⟩:=iC (List.mem_of_getElem? hg')
  have h4':=(hpg.line g y hy).2.2.1
  have ha:(0:Int)≤(argsN (foldIf p b) g:Int)∧(argsN (foldIf p b) g:Int)≤4:=by rw[argsN,hy];dsimp only;omega
  have hC0:CxOk (ctx (foldIf p b) f g b 0):=hpg.cx ha (by omega) hb
  have hm:=oC hC0 ⟨y,hy,hy0⟩ rfl
  have hC1:CxOk (ctx (foldIf p b) f g b (cK (ctx (foldIf p b) f g b 0) g).most):=hpg.cx ha hm hb
  have g0:=jD _ hC0 f g hg' rfl rfl
  have g1:=jD _ hC1 f g hg' rfl rfl
  have hcd:ij p f b=(cK (ctx (foldIf p b) f g b (cK (ctx (foldIf p b) f g b 0) g).most) g).items:=by rw[ij,hg']
  rw[hcd]
  generalize cK (ctx (foldIf p b) f g b 0) g=R0 at *
  generalize cK (ctx (foldIf p b) f g b R0.most) g=R1 at *
  have hfo:=oI p hs
  rw[show dn p=p.map aP by rw[dn,if_pos h1]]at hfo
  obtain⟨fr,inl,fold,sp⟩:=b
  cases fold with
  | true=>
   have e:foldIf p ⟨fr,inl,true,sp⟩=p.map aP:=rfl
   simp only[ctx,e]at g0 g1
   repeat' ((conv=>whnf);first|apply Wx|apply W6|apply oi|(apply fi<;>intro h)|refine cl hP ?_|refine cl hB ?_|refine cl gF ?_|refine cl hfo ?_|refine cl g0 ?_|refine cl g1 ?_|refine⟨_,rfl,?_⟩|exact rfl)
   all_goals try exact⟨KP⟩
   all_goals try exact KX
  | false=>
   have e:foldIf p ⟨fr,inl,false,sp⟩=p:=rfl
   simp only[ctx,e]at g0 g1
   repeat' ((conv=>whnf);first|apply Wx|apply W6|apply oi|(apply fi<;>intro h)|refine cl hP ?_|refine cl hB ?_|refine cl gF ?_|refine cl hfo ?_|refine cl g0 ?_|refine cl g1 ?_|refine⟨_,rfl,?_⟩|exact rfl)
   all_goals try exact⟨KP⟩
   all_goals try exact KX
 ·have hcf:aL p f b=[]:=by rw[aL,if_neg hc]
  rw[hcf]
  cases h1:aw p with
  | false=>
   rw[h1]at hP
   repeat' ((conv=>whnf);first|apply Wx|apply W6|apply oi|(apply fi<;>intro h)|refine cl hP ?_|refine cl hB ?_|refine cl gF ?_|refine⟨_,rfl,?_⟩|exact rfl)
   all_goals try exact⟨KP⟩
   all_goals try exact KX
  | true=>
   rw[h1]at hP
   cases h2:aJ b with
   | false=>
    rw[h2]at hB
    repeat' ((conv=>whnf);first|apply Wx|apply W6|apply oi|(apply fi<;>intro h)|refine cl hP ?_|refine cl hB ?_|refine cl gF ?_|refine⟨_,rfl,?_⟩|exact rfl)
    all_goals try exact⟨KP⟩
    all_goals try exact KX
   | true=>
    rw[h2]at hB
    have hc':¬(0≤f∧f < (ak p).length):=fun hh=>hc ⟨h1,h2,hh⟩
    repeat' ((conv=>whnf);first|apply Wx|apply W6|apply oi|(apply fi<;>intro h)|refine cl hP ?_|refine cl hB ?_|refine cl gF ?_|refine⟨_,rfl,?_⟩|exact rfl)
    all_goals try exact⟨KP⟩
    all_goals try exact KX
def vU (l:List HG):Prop:=∀it∈l,it.fap.length≤4
structure Cap (M t:Nat) (s s':Gs):Prop where
 le:s'.items.length≤max s.items.length M+t
 ch:vU s.items→vU s'.items
theorem Cap.refl {M:Nat}(s:Gs):Cap M 0 s s:=⟨by omega,id⟩
theorem Cap.trans {M n m:Nat}{a b c:Gs}(h:Cap M n a b)(h':Cap M m b c):Cap M (n+m) a c:=⟨by have:=h.le;have:=h'.le;omega,fun x=>h'.ch (h.ch x)⟩
theorem Cap.mono {M n m:Nat}{a b:Gs}(h:Cap M n a b)(hn:n≤m):Cap M m a b:=⟨by have:=h.le;omega,h.ch⟩
theorem bT {M:Nat}(C:Cx)(s:Gs)(d code arg line:Int){chain:List Int}(hc:chain.length≤4):Cap M 1 s (az C s d code arg line chain):=by
 refine⟨by simp only[az,List.length_append,List.length_cons,List.length_nil];omega,fun h it hit=>?_⟩
 simp only[az,List.mem_append,List.mem_cons,List.not_mem_nil,or_false]at hit
 rcases hit with hit|rfl
 ·exact h it hit
 ·exact hc
theorem qA {l:List HG}(h:vU l)(j v:Int):vU (bN l j v):=by
 unfold bN
 split
 ·split
  ·rename_i it hi
   intro z hz
   rcases List.mem_or_eq_of_mem_set hz with hz|rfl
   ·exact h z hz
   ·exact h it (List.mem_of_getElem? hi)
  ·exact h
 ·exact h
theorem xn (v:Int):∀(js:List Int) {l:List HG},vU l→vU (cz l v js)
 | [],_,h=>h
 | j::js,_,h=>by rw[cz];exact xn v js (qA h j v)
theorem Cap.set {M n:Nat}{a b:Gs}{l:List HG}(h:Cap M n a b)(hl:l.length=b.items.length)(hc:vU b.items→vU l):Cap M n a ⟨l,b.most,b.start⟩:=⟨by have:=h.le;simp only[hl];omega,fun x=>hc (h.ch x)⟩
section
variable {C:Cx} {x:Sc} {ins:List Nat} {rep:Sc→List Nat→Nat→Nat→Int→Gs→Gs} {line:Nat} {M:Nat}
theorem rz (y:Sc){chain:List Int}(hc:chain.length≤4)(line:Int):∀(n:Nat) (d:Int) (s:Gs),Cap M n s (cF C y chain line n d s)
 | 0,d,s=>Cap.refl s
 | n+1,d,s=>by
  rw[cF]
  exact((bT C s d _ _ _ hc).trans (rz y hc line n (d - 1) _)).mono (by omega)
theorem vD (y:Sc){chain:List Int}(hc:chain.length≤4)(line d:Int):∀(n i:Nat) (s:Gs),Cap M (2 * n) s (db C y chain line d n i s)
 | 0,i,s=>Cap.refl s
 | n+1,i,s=>by
  rw[db]
  exact(((bT C s d _ _ _ hc).trans (bT C _ (d+1) _ _ _ hc)).trans (vD y hc line d n (i+1) _)).mono (by omega)
theorem Ew (hx:x.chain.length≤4)(hrep:∀g d s,bG C g→cb C ins g s.items.length=true→Cap M 0 s (rep x ins line g d s))(t:HP)(d:Int)(s:Gs):Cap M 1 s (jy C rep x ins line t d s):=by
 unfold jy
 split
 ·exact bT _ _ _ _ _ _ hx
 ·split
  ·exact bT _ _ _ _ _ _ hx
  ·split
   ·split
    ·rename_i g hg
     split
     ·rename_i hr
      obtain⟨_,ln,h1,h2,_⟩:=fD hg
      exact(hrep g d s ⟨ln,h1,h2⟩ hr).mono (by omega)
     ·exact bT _ _ _ _ _ _ hx
    ·exact(Cap.refl s).mono (by omega)
   ·exact bT _ _ _ _ _ _ hx
mutual
theorem yM (hx:x.chain.length≤4)(hrep:∀g d s,bG C g→cb C ins g s.items.length=true→Cap M 0 s (rep x ins line g d s)):∀(e:Ex) (d:Int) (s:Gs),Cap M e.toks.length s (eb C rep x ins line e d s)
 | .node t es,d,s=>by
  rw[eb,Ex.toks,List.length_cons]
  exact((wl hx hrep es d s).trans (Ew hx hrep t _ _)).mono (by omega)
theorem wl (hx:x.chain.length≤4)(hrep:∀g d s,bG C g→cb C ins g s.items.length=true→Cap M 0 s (rep x ins line g d s)):∀(es:List Ex) (d:Int) (s:Gs),Cap M (au es).length s (dt C rep x ins line es d s)
 | [],d,s=>by rw[dt,au];exact(Cap.refl s).mono (by omega)
 | a::es,d,s=>by
  rw[dt,au,List.length_append]
  exact(yM hx hrep a d s).trans (wl hx hrep es (d+1) _)
end
theorem EL (hC:CxOk C)(hx:x.chain.length≤4)(line:Nat){g:Nat}(hg:bG C g)(d:Int)(s:Gs):Cap M 16 s (ec C x line g d s):=by
 obtain⟨h1,h2⟩:=cO hC hg
 have h0:Cap M 0 s ⟨s.items,max s.most (bz C x+(localsOf C.p (g:Int)).length),s.start⟩:=⟨by dsimp only;omega,id⟩
 unfold ec
 exact((h0.trans (rz _ hx _ _ _ _)).trans (vD _ hx _ _ _ _ _)).mono (by omega)
theorem Bw (hx:x.chain.length≤4)(line:Nat)(d:Int)(s:Gs):Cap M 1 s (bQ C x line d s):=by
 unfold bQ
 split
 ·exact bT _ _ _ _ _ _ hx
 ·exact(Cap.refl s).mono (by omega)
theorem uR (hx:x.chain.length≤4)(k:Nat)(last:Bool)(d:Int)(L:Ls):Cap M 1 L.g (aR C x k last d L).g:=by
 unfold aR
 split
 ·split
  ·exact bT _ _ _ _ _ _ hx
  ·exact bT _ _ _ _ _ _ hx
 ·split
  ·exact(Cap.refl _).mono (by omega)
  ·exact bT _ _ _ _ _ _ hx
theorem CY (hx:x.chain.length≤4)(hrep:∀g d s,bG C g→cb C ins g s.items.length=true→Cap M 0 s (rep x ins line g d s))(hC:CxOk C){k:Nat}{ln:HH}(hk:C.p[k]?=some ln)(he:br ln.fad=true)(d:Int)(s:Gs):Cap M 20 s (eb C rep x ins line (exL ln.fad) d s):=by
 have h1:=(qS he).2
 have h2:=(hC.line _ _ hk).2.2.2.1
 rw[h1]at h2
 exact(yM hx hrep _ d s).mono h2
theorem Dt (hx:x.chain.length≤4)(hrep:∀line g d s,bG C g→cb C ins g s.items.length=true→Cap M 0 s (rep x ins line g d s))(hC:CxOk C){k:Nat}{ln:HH}(hk:C.p[k]?=some ln)(h0:ln.faa≠0)(base:Int)(L:Ls):Cap M 22 L.g (dI C rep x ins base k ln L).g:=by
 unfold dI
 split
 ·exact((bT C L.g base 10 0 k hx).set (dl _ _ _) fun h=>qA h _ _).mono (by omega)
 ·split
  ·split
   ·refine Cap.mono (n:=1+1) ?_ (by omega)
    exact(bT C L.g base 0 0 k hx).trans (uR hx k true (base+1) {L with g:=az C L.g base 0 0 k x.chain})
   ·split
    ·exact(bT _ _ _ _ _ _ hx).mono (by omega)
    ·exact(Cap.refl _).mono (by omega)
  ·rename_i h4 h7
   have hl:=hC.line _ _ hk
   have h20:Cap M 20 L.g (eb C rep x ins k (exL ln.fad) base ⟨L.g.items,L.g.most,true⟩):=by
    have:=CY hx (fun g d s=>hrep k g d s) hC hk (hl.2.2.2.2 (by omega)) base ⟨L.g.items,L.g.most,true⟩
    exact⟨this.le,this.ch⟩
   split
   ·exact(h20.trans (bT _ _ _ _ _ _ hx)).mono (by omega)
   ·split
    ·exact(h20.trans (bT _ _ _ _ _ _ hx)).mono (by omega)
    ·split
     ·refine Cap.mono (n:=20+1) ?_ (by omega)
      exact h20.trans (uR hx k false (base+1) {L with g:=eb C rep x ins k (exL ln.fad) base ⟨L.g.items,L.g.most,true⟩,heads:=L.heads.set k L.g.items.length})
     ·exact(h20.trans (bT _ _ _ _ _ _ hx)).mono (by omega)
theorem CF (k:Nat)(ln:HH)(L:Ls):Cap M 0 L.g (aW C x k ln L).g:=by
 unfold aW
 split
 ·exact(Cap.refl _).set (dl _ _ _) fun h=>qA h _ _
 ·exact Cap.refl _
theorem zj (hx:x.chain.length≤4)(hrep:∀line g d s,bG C g→cb C ins g s.items.length=true→Cap M 0 s (rep x ins line g d s))(hC:CxOk C)(base:Int):∀(n k:Nat) (L:Ls),(∀i y,k≤i→i < k+n→C.p[i]?=some y→y.faa≠0)→Cap M (n * 22) L.g (jX C rep x ins base n k L).g
 | 0,k,L,_=>(Cap.refl _).mono (by omega)
 | n+1,k,L,h=>by
  rw[jX]
  split
  ·rename_i ln hk
   exact(((Dt hx hrep hC hk (h k ln (Nat.le_refl _) (by omega) hk) base L).trans (CF k ln _)).trans (zj hx hrep hC base n (k+1) _ fun i y h1 h2 hy=>h i y (by omega) (by omega) hy)).mono (by omega)
  ·exact(Cap.refl _).mono (by omega)
theorem uq (hc:x.chain.length≤4)(hrep:∀line g d s,bG C g→cb C ins g s.items.length=true→Cap M 0 s (rep x ins line g d s))(hC:CxOk C)(hx:ScOk C x ins)(base:Int)(s:Gs):Cap M ((ko C.p x.f - x.f) * 22) s (aU C rep x ins base s).1:=by
 unfold aU
 obtain⟨ln,h1,h2⟩:=hx.fn
 obtain⟨e,h3,_,_,h4⟩:=hC.fn _ _ h1 h2
 obtain⟨e',g3,_,_,g5,_⟩:=hx.endE hC
 rw[h3]at g3
 injection g3 with g3
 subst g3
 rw[g5]
 refine zj hc hrep hC base (e - x.f) (x.f+1) (cq C s) fun i y k1 k2 hy=>?_
 by_cases hie:i=e
 ·subst hie
  obtain⟨z,hz,h7⟩:=bC h3
  rw[hy]at hz
  injection hz with hz
  subst hz
  omega
 ·exact(h4 i y (by omega) (by omega) hy).1
end
theorem zi {C:Cx}(hC:CxOk C):∀(lev:Nat) {x:Sc} {ins:List Nat} (line g:Nat) (d:Int) (s:Gs),ScOk C x ins→bG C g→cb C ins g s.items.length=true→Cap (217+198 * lev) 0 s (aX C lev x ins line g d s)
 | 0,x,ins,line,g,d,s,hx,hg,hr=>(Cap.refl s).mono (by omega)
 | lev+1,x,ins,line,g,d,s,hx,hg,hr=>by
  obtain⟨r1,r2,r3,_⟩:=eA hr
  have hin:=hC.inl
  have hch:=hx.chain
  have hy:=lj hC hx line hg
  have h1:=EL (M:=217) (x:=x) hC (by omega) line hg d s
  have h2:=Bw (C:=C) (M:=217) (x:=x) (by omega) line (d - argsN C.p g) (ec C x line g d s)
  have hcy:=hy.chain
  rw[List.length_append,List.length_cons,List.length_nil]at hcy
  have h3:=uq (M:=217+198 * lev) (rep:=aX C lev) (by omega) (fun line g d s hg hr=>zi hC lev line g d s hy hg hr) hC hy (d - argsN C.p g) (bQ C x line (d - argsN C.p g) (ec C x line g d s))
  obtain⟨e,e1,e2,e3,e4,_⟩:=hy.endE hC
  have e5:bn C.p (g:Int)=(e:Int):=by rw[bf];exact be e1
  have e6:ko C.p (bI C x line g).f - (bI C x line g).f≤9:=by rw[e4];show e - g≤9;omega
  show Cap _ 0 s (ia C (aU C (aX C lev)) x ins line g d s)
  unfold ia
  have l1:=xt hC hx (by omega) line hg d s
  have l2:=sj (C:=C) x line (d - argsN C.p g) (ec C x line g d s)
  refine⟨?_,fun h=>xn _ _ (h3.ch (h2.ch (h1.ch h)))⟩
  simp only[fy]
  have k3:=h3.le
  have k1:=l1.le
  have k2:=l2.le
  omega
theorem Di {C:Cx}(hC:CxOk C){g:Nat}(hg:bG C g)(e5:C.args=argsN C.p g):(cK C g).items.length≤2500∧vU (cK C g).items:=by
 have hS:ScOk C (bA C g) [g]:=⟨hg,rfl,⟨Int.le_refl _,by simp[bA]⟩,rfl,by simp[bA],fun _=>e5,rfl⟩
 have hG:=uq (M:=217+198 * C.b.fal.toNat) (rep:=aX C C.b.fal.toNat) (by simp[bA]) (fun line g d s hg hr=>zi hC _ line g d s hS hg hr) hC hS C.words (eF C g)
 obtain⟨e,e1,e2,e3,e4,_⟩:=hS.endE hC
 have hl:=hC.len
 have hin:=hC.inl
 have hh:(eF C g).items.length=1:=by simp[eF,az]
 have hk:=hG.le
 refine⟨?_,hG.ch fun it hit=>?_⟩
 ·show(aU C (aX C C.b.fal.toNat) (bA C g) [g] C.words (eF C g)).1.items.length≤2500
  omega
 ·simp only[eF,az,List.nil_append,List.mem_cons,List.not_mem_nil,or_false]at hit
  subst hit
  exact Nat.zero_le _
theorem rQ {p:List HH}{f:Int}{b:Hz}(hs:aB 1048576 (.lst 4 (p.map HH.tr)))(h1:aw p=true)(h2:aJ b=true)(h3:0≤f)(h4:f < (ak p).length):∃(g:Nat) (C:Cx),(ak p)[f.toNat]?=some g∧CxOk C∧C.p=foldIf p b∧C.b=b∧C.args=argsN C.p g∧C.framed=xF b.far f∧bG C g∧aL p f b=(cK C g).items∧C.words=(cK (ctx (foldIf p b) f.toNat g b 0) g).most:=by
 obtain⟨f,rfl⟩:=Int.eq_ofNat_of_zero_le h3
 have hb:0≤b.fal∧b.fal≤3:=by
  unfold aJ at h2
  simp only[Bool.and_eq_true,within_iff]at h2
  exact h2.2
 obtain⟨g,hg⟩:=ae (l:=ak p) (k:=f) (by omega)
 have hpg:=(tD hs h1).foldIf b
 have hg':(ak (foldIf p b))[f]?=some g:=by rw[jL];exact hg
 obtain⟨hgl,y,hy,hy0⟩:=iC (List.mem_of_getElem? hg')
 have h4':=(hpg.line g y hy).2.2.1
 have ha:(0:Int)≤(argsN (foldIf p b) g:Int)∧(argsN (foldIf p b) g:Int)≤4:=by rw[argsN,hy];dsimp only;omega
 have hC0:CxOk (ctx (foldIf p b) f g b 0):=hpg.cx ha (by omega) hb
 have hm:=oC hC0 ⟨y,hy,hy0⟩ rfl
 have hC1:CxOk (ctx (foldIf p b) f g b (cK (ctx (foldIf p b) f g b 0) g).most):=hpg.cx ha hm hb
 refine⟨g,_,by rw[Int.toNat_natCast];exact hg,hC1,rfl,rfl,rfl,rfl,⟨y,hy,hy0⟩,?_,by rw[Int.toNat_natCast];rfl⟩
 rw[aL,if_pos ⟨h1,h2,h3,h4⟩,Int.toNat_natCast,ij,hg']
theorem fV {p:List HH}{f:Int}{b:Hz}(hs:aB 1048576 (.lst 4 (p.map HH.tr))):(aL p f b).length≤2500∧vU (aL p f b):=by
 by_cases hc:aw p=true∧aJ b=true∧0≤f∧f < (ak p).length
 ·obtain⟨h1,h2,h3,h4⟩:=hc
  obtain⟨g,C,_,k2,_,_,k5,_,k7,k8,_⟩:=rQ hs h1 h2 h3 h4
  rw[k8]
  exact Di k2 k7 k5
 ·rw[aL,if_neg hc]
  exact⟨by simp,fun it h=>by cases h⟩
end Go.Proofs.YtjmplnfiabmalaaGreat
namespace Go.Proofs.YtjmplnfiabmalaaGreat
open Go.Sim
set_option maxRecDepth 100000
set_option maxHeartbeats 4000000
def eE (c a:Int):Prop:=0≤c∧c≤17∧(c=0→-2147483648≤a∧a≤2147483647)∧(c=1∨c=2∨c=3∨c=4∨c=10∨c=11→-32768≤a∧a≤32767)∧(c=16→0≤a∧a≤65535)∧(c=12∨c=13∨c=14∨c=15→0≤a∧a≤255)∧(5≤c∧c≤9∨c=17→a=0)
def jT (C:Cx)(line:Int):Prop:=∃y,0≤line∧C.p[line.toNat]?=some y∧y.faa≠0
structure GoodI (C:Cx) (n:Nat) (it:HG):Prop where
 line:jT C it.fam
 jump:it.fae.fab=10∨it.fae.fab=11→0≤it.fae.fak∧it.fae.fak≤n
 op:¬(it.fae.fab=10∨it.fae.fab=11)→eE it.fae.fab it.fae.fak
 enter:it.fae.fab≠13
theorem GoodI.mono {C:Cx}{n m:Nat}{it:HG}(h:GoodI C n it)(hn:n≤m):GoodI C m it:=⟨h.line,fun k=>by have:=h.jump k;omega,h.op,h.enter⟩
def Hx (C:Cx)(g:Nat)(it:HG):Prop:=(it.fae.fab=13∨it.fae.fab=15)∧it.fam=g∧it.fae.fak=C.words
def InvI (C:Cx)(g:Nat)(l:List HG):Prop:=∃h t,l=h::t∧Hx C g h∧∀it∈t,GoodI C l.length it
def fu (l:List HG)(i:Nat):Option Int:=(l[i]?).map (·.fae.fab)
def JP (l:List HG)(j:Int):Prop:=0≤j∧∃c,fu l j.toNat=some c∧(c=10∨c=11)
structure Tr2 (C:Cx) (g:Nat) (a b:Gs):Prop where
 ext:∀i c,fu a.items i=some c→fu b.items i=some c
 inv:InvI C g a.items→InvI C g b.items
 most:a.most≤60→b.most≤60
theorem Tr2.refl {C:Cx}{g:Nat}(s:Gs):Tr2 C g s s:=⟨fun _ _ h=>h,id,id⟩
theorem Tr2.trans {C:Cx}{g:Nat}{a b c:Gs}(h:Tr2 C g a b)(h':Tr2 C g b c):Tr2 C g a c:=⟨fun i v x=>h'.ext i v (h.ext i v x),fun x=>h'.inv (h.inv x),fun x=>h'.most (h.most x)⟩
theorem wZ {l:List HG}{i:Nat}{c:Int}(h:fu l i=some c):i < l.length:=by
 unfold fu at h
 cases hi:l[i]? with
 | none=>rw[hi]at h;cases h
 | some x=>exact aM hi
theorem zF {l:List HG}{i:Nat}(h:i < l.length):∃c,fu l i=some c:=by
 obtain⟨x,hx⟩:=ae h
 exact⟨x.fae.fab,by rw[fu,hx];rfl⟩
theorem JP.ext {a b:List HG}(h:∀i c,fu a i=some c→fu b i=some c){j:Int}(hj:JP a j):JP b j:=by
 obtain⟨h0,c,h1,h2⟩:=hj
 exact⟨h0,c,h _ _ h1,h2⟩
theorem Tr2.len {C:Cx}{g:Nat}{a b:Gs}(h:Tr2 C g a b):a.items.length≤b.items.length:=by
 rcases Nat.eq_zero_or_pos a.items.length with h0|h0
 ·omega
 ·obtain⟨c,hc⟩:=zF (l:=a.items) (i:=a.items.length - 1) (by omega)
  have:=wZ (h.ext _ _ hc)
  omega
theorem dM {C:Cx}{g:Nat}{s:Gs}{d code arg line:Int}{chain:List Int}(hl:jT C line)(h1:code=10∨code=11→0≤arg∧arg≤s.items.length)(h2:¬(code=10∨code=11)→eE code arg)(h3:code≠13):Tr2 C g s (az C s d code arg line chain):=by
 refine⟨fun i c h=>?_,fun⟨h,t,e1,e2,e3⟩=>?_,id⟩
 ·have:=wZ h
  unfold fu at h ⊢
  simp only[az]
  rw[List.getElem?_append_left this]
  exact h
 ·refine⟨h,t++[kP C s d code arg line chain],by simp[az,e1],e2,fun it hit=>?_⟩
  have hn:s.items.length≤(az C s d code arg line chain).items.length:=by simp[az]
  rw[List.mem_append,List.mem_singleton]at hit
  rcases hit with hit|rfl
  ·exact(e3 it hit).mono hn
  ·exact⟨hl,fun k=>by have:=h1 k;simp only[kP];omega,h2,h3⟩
theorem zw {l:List HG}{j v:Int}(i:Nat):fu (bN l j v) i=fu l i:=by
 unfold bN
 split
 ·split
  ·rename_i x hx
   unfold fu
   by_cases h:j.toNat=i
   ·subst h
    rw[List.getElem?_set_self (aM hx),hx]
    rfl
   ·rw[List.getElem?_set_ne h]
  ·rfl
 ·rfl
theorem Ba {C:Cx}{g:Nat}{l:List HG}{j:Int}(h:InvI C g l)(hj:JP l j):InvI C g (bN l j l.length):=by
 obtain⟨a,t,e1,e2,e3⟩:=h
 obtain⟨h0,c,h1,h2⟩:=hj
 unfold bN
 rw[if_pos h0]
 cases hx:l[j.toNat]? with
 | none=>simp only;exact⟨a,t,e1,e2,e3⟩
 | some x=>
  have hc:x.fae.fab=c:=by rw[fu,hx]at h1;simpa using h1
  have hj0:j.toNat≠0:=by
   intro h
   rw[h,e1]at hx
   simp at hx
   subst hx
   have:=e2.1
   omega
  obtain⟨m,hm⟩:∃m,j.toNat=m+1:=⟨j.toNat - 1,by omega⟩
  rw[hm,e1,List.getElem?_cons_succ]at hx
  have hg:=e3 x (List.mem_of_getElem? hx)
  refine⟨a,t.set m ⟨⟨x.fae.fab,l.length⟩,x.fam,x.fah,x.fap,x.faq,x.fat⟩,?_,e2,fun it hit=>?_⟩
  ·rw[e1,hm];rfl
  ·rw[List.length_set]
   rcases List.mem_or_eq_of_mem_set hit with hit|rfl
   ·exact e3 it hit
   ·exact⟨hg.line,fun _=>by simp only;omega,fun k=>absurd (by rw[hc];exact h2) k,hg.enter⟩
theorem qH {C:Cx}{g:Nat}{s:Gs}{j:Int}(hj:JP s.items j):Tr2 C g s ⟨bN s.items j s.items.length,s.most,s.start⟩:=
 ⟨fun i c h=>by rw[zw];exact h,fun h=>Ba h hj,id⟩
theorem wM {C:Cx}{g:Nat}:∀(js:List Int) {s:Gs},(∀j∈js,JP s.items j)→Tr2 C g s ⟨cz s.items s.items.length js,s.most,s.start⟩
 | [],s,_=>Tr2.refl s
 | j::js,s,h=>by
  have h1:=qH (C:=C) (g:=g) (s:=s) (h j (by simp))
  have h2:=wM (C:=C) (g:=g) js (s:=⟨bN s.items j s.items.length,s.most,s.start⟩) fun i hi=>(h i (by simp[hi])).ext h1.ext
  simp only[dl]at h2
  exact h1.trans h2
theorem xJ {C:Cx}{s:Gs}{d code arg line:Int}{chain:List Int}(h:code=10∨code=11):JP (az C s d code arg line chain).items (s.items.length:Int):=by
 refine⟨by omega,code,?_,h⟩
 rw[fu,Int.toNat_natCast]
 simp[az,kP]
theorem Cu:∀(es:List Ex),es.length≤(au es).length
 | []=>Nat.zero_le _
 | a::es=>by
  have:=Cu es
  have:=a.toks_pos
  rw[au,List.length_append,List.length_cons];omega
section
variable {C:Cx} {x:Sc} {ins:List Nat} {rep:Sc→List Nat→Nat→Nat→Int→Gs→Gs} {line:Nat} {G:Nat}
theorem tU (hC:CxOk C){y:Sc}(hf:0≤y.first∧y.first≤200){d i:Int}(hd:-100≤d∧d≤2000)(hi:-2≤i∧i≤100)(store:Bool):¬(co C store=10∨co C store=11)∧co C store≠13∧eE (co C store) (cD C y d i):=by
 have ha:=hC.args
 have hk:eR C y i≥-10∧eR C y i≤400:=by unfold eR;split <;> omega
 have hc:1≤co C store∧co C store≤4:=by unfold co;split <;> split <;> omega
 have hA:-10000≤cD C y d i∧cD C y d i≤10000:=by unfold cD;repeat' split <;> omega
 unfold eE
 omega
theorem FD (hC:CxOk C){y:Sc}(hf:0≤y.first∧y.first≤200){d i line:Int}(hd:-100≤d∧d≤2000)(hi:-2≤i∧i≤100)(hl:jT C line)(s:Gs):Tr2 C G s (BS C y s d i line):=by
 obtain⟨h1,h2,h3⟩:=tU hC hf hd hi false
 exact dM hl (fun k=>absurd k h1) (fun _=>h3) h2
theorem vB (hC:CxOk C){y:Sc}(hf:0≤y.first∧y.first≤200){d i line:Int}(hd:-100≤d∧d≤2000)(hi:-2≤i∧i≤100)(hl:jT C line)(s:Gs)(chain:List Int):Tr2 C G s (dD C y s d i line chain):=by
 obtain⟨h1,h2,h3⟩:=tU hC hf hd hi true
 exact dM hl (fun k=>absurd k h1) (fun _=>h3) h2
theorem wS:eE 0 0:=by unfold eE;omega
theorem wI (hC:CxOk C){y:Sc}(hf:0≤y.first∧y.first≤200){chain:List Int}{line:Int}(hl:jT C line):∀(n:Nat) (d:Int) (s:Gs),n≤50→-100≤d - n→d≤2000→Tr2 C G s (cF C y chain line n d s)
 | 0,d,s,_,_,_=>Tr2.refl s
 | n+1,d,s,h0,h1,h2=>by
  rw[cF]
  exact(vB hC hf (by omega) (by omega) hl s chain).trans (wI hC hf hl n (d - 1) _ (by omega) (by omega) (by omega))
theorem zL (hC:CxOk C){y:Sc}(hf:0≤y.first∧y.first≤200){chain:List Int}{line d:Int}(hl:jT C line)(hd:-100≤d∧d≤1999):∀(n i:Nat) (s:Gs),i+n≤50→Tr2 C G s (db C y chain line d n i s)
 | 0,i,s,_=>Tr2.refl s
 | n+1,i,s,h=>by
  rw[db]
  exact((dM hl (fun k=>by omega) (fun _=>wS) (by omega)).trans (vB hC hf (by omega) (by omega) hl _ chain)).trans (zL hC hf hl hd n (i+1) _ (by omega))
def AF (C:Cx)(rep:Sc→List Nat→Nat→Nat→Int→Gs→Gs)(G:Nat)(x:Sc)(ins:List Nat):Prop:=
 ∀(line g:Nat) (d:Int) (s:Gs),jT C line→bG C g→-10 * (ins.length:Int)≤d→d≤1000+30 * ins.length+21→cb C ins g s.items.length=true→Tr2 C G s (rep x ins line g d s)
theorem GT (hC:CxOk C)(hx:ScOk C x ins)(hi:ins.length≤4)(hrep:AF C rep G x ins)(hl:jT C line){t:HP}(ht:eO t=true){d:Int}(h1:-10 * (ins.length:Int)≤d)(h2:d≤1000+30 * ins.length+21)(s:Gs):Tr2 C G s (jy C rep x ins line t d s):=by
 obtain⟨e,e1,e2,e3,e4,e5⟩:=hx.endE hC
 have hfi:=hx.first
 have hli:=kB x.locals t.fac
 unfold eO at ht
 unfold jy
 split
 ·rename_i h0
  rw[if_pos h0]at ht
  simp only[Bool.and_eq_true,within_iff]at ht
  exact dM hl (fun k=>by omega) (fun _=>by unfold eE;omega) (by omega)
 ·rename_i h0
  rw[if_neg h0]at ht
  split
  ·exact FD hC (by omega) (by omega) (by omega) hl s
  ·rename_i h1
   split
   ·split
    ·rename_i g hg
     obtain⟨_,ln,k1,k2,_⟩:=fD hg
     split
     ·rename_i hr
      exact hrep line g d s hl ⟨ln,k1,k2⟩ (by omega) (by omega) hr
     ·have hn:=Aq C.p g
      have:=aM k1
      have:=hC.len
      exact dM hl (fun k=>by omega) (fun _=>by unfold eE;omega) (by omega)
    ·exact Tr2.refl s
   ·rename_i h7
    rw[if_neg h7,if_neg h1]at ht
    simp only[Bool.and_eq_true,within_iff]at ht
    exact dM hl (fun k=>by omega) (fun _=>by unfold eE;omega) (by omega)
mutual
theorem Cg (hC:CxOk C)(hx:ScOk C x ins)(hi:ins.length≤4)(hrep:AF C rep G x ins)(hl:jT C line):∀(e:Ex) (d:Int) (s:Gs),e.ok→-10 * (ins.length:Int)≤d→d+e.toks.length≤1000+30 * ins.length+21→Tr2 C G s (eb C rep x ins line e d s)
 | .node t es,d,s,h,h1,h2=>by
  rw[Ex.toks,List.length_cons]at h2
  rw[eb]
  have hle:=Cu es
  exact(zK hC hx hi hrep hl es d s h.2.2 h1 (by omega)).trans (GT hC hx hi hrep hl h.1 (by omega) (by omega) _)
theorem zK (hC:CxOk C)(hx:ScOk C x ins)(hi:ins.length≤4)(hrep:AF C rep G x ins)(hl:jT C line):∀(es:List Ex) (d:Int) (s:Gs),iU es→-10 * (ins.length:Int)≤d→d+(au es).length≤1000+30 * ins.length+21→Tr2 C G s (dt C rep x ins line es d s)
 | [],d,s,_,_,_=>by rw[dt];exact Tr2.refl s
 | a::es,d,s,h,h1,h2=>by
  rw[au,List.length_append]at h2
  rw[dt]
  have hp:=a.toks_pos
  exact(Cg hC hx hi hrep hl a d s h.1 h1 (by omega)).trans (zK hC hx hi hrep hl es (d+1) _ h.2 (by omega) (by omega))
end
theorem Et (hl:jT C line)(x:Sc)(d:Int)(s:Gs):Tr2 C G s (bQ C x line d s):=by
 unfold bQ
 split
 ·exact dM hl (fun k=>by omega) (fun _=>by unfold eE;omega) (by omega)
 ·exact Tr2.refl s
theorem GG (hC:CxOk C)(hx:ScOk C x ins)(hi:ins.length≤3)(hl:jT C line){g:Nat}(hg:bG C g){d:Int}(h1:-10 * (ins.length:Int)≤d)(h2:d≤1000+30 * ins.length+21)(s:Gs):Tr2 C G s (ec C x line g d s):=by
 obtain⟨k1,k2⟩:=cO hC hg
 have hy:=lj hC hx line hg
 have hf:=hy.first
 rw[List.length_append,List.length_cons,List.length_nil]at hf
 have ht:=oY hC hx
 have ha:=hC.argsN g
 have h0:Tr2 C G s ⟨s.items,max s.most (bz C x+(localsOf C.p (g:Int)).length),s.start⟩:=⟨fun _ _ h=>h,id,fun h=>by dsimp only;omega⟩
 unfold ec
 exact(h0.trans (wI hC (by omega) hl _ d _ (by omega) (by omega) (by omega))).trans (zL hC (by omega) hl (by omega) _ _ _ (by omega))
structure LsI (C:Cx) (G f k:Nat) (g0:Gs) (L:Ls):Prop where
 tr:Tr2 C G g0 L.g
 heads:∀v∈L.heads,0≤v∧v≤L.g.items.length
 pos:∀i,f+1≤i→i < k→jumps C.p i→JP L.g.items (atL L.pos i)
 lv:∀j∈L.lv,JP L.g.items j
 len:L.pos.length=C.p.length
theorem LsI.step {f k k':Nat}{g0:Gs}{L L':Ls}(h:LsI C G f k g0 L)(ht:Tr2 C G L.g L'.g)(hh:∀v∈L'.heads,v∈L.heads∨(0≤v∧v≤L'.g.items.length))(hp:∀i,f+1≤i→i < k'→jumps C.p i→(i < k∧atL L'.pos i=atL L.pos i)∨JP L'.g.items (atL L'.pos i))(hv:∀j∈L'.lv,j∈L.lv∨JP L'.g.items j)(hl:L'.pos.length=L.pos.length):LsI C G f k' g0 L':=by
 have hle:=ht.len
 refine⟨h.tr.trans ht,fun v hv=>?_,fun i h1 h2 h3=>?_,fun j hj=>?_,by rw[hl,h.len]⟩
 ·rcases hh v hv with h1|h1
  ·have:=h.heads v h1;omega
  ·exact h1
 ·rcases hp i h1 h2 h3 with⟨k1,k2⟩|k1
  ·rw[k2];exact(h.pos i h1 k1 h3).ext ht.ext
  ·exact k1
 ·rcases hv j hj with h1|h1
  ·exact(h.lv j h1).ext ht.ext
  ·exact h1
theorem LsI.same {f k:Nat}{g0:Gs}{L L':Ls}(h:LsI C G f k g0 L)(ht:Tr2 C G L.g L'.g)(e1:L'.heads=L.heads)(e2:L'.pos=L.pos)(e3:L'.lv=L.lv):LsI C G f k g0 L':=
 h.step ht (fun v hv=> .inl (by rw[←e1];exact hv)) (fun i _ h2 _=> .inl ⟨h2,by rw[e2]⟩) (fun j hj=> .inl (by rw[←e3];exact hj)) (by rw[e2])
theorem LsI.next {f k:Nat}{g0:Gs}{L:Ls}(h:LsI C G f k g0 L)(hj:¬jumps C.p k):LsI C G f (k+1) g0 L:=
 h.step (Tr2.refl _) (fun v hv=> .inl hv) (fun i h1 h2 h3=> .inl ⟨by
  rcases Nat.lt_or_ge i k with h|h
  ·exact h
  ·rw[show i=k by omega]at h3;exact absurd h3 hj,rfl⟩) (fun j hj=> .inl hj) rfl
theorem zr (hC:CxOk C)(hw:C.words≤255){f k k':Nat}{g0:Gs}{L:Ls}(hl:jT C (k':Int))(last:Bool)(d:Int)(h:LsI C G f k g0 L):LsI C G f k g0 (aR C x k' last d L):=by
 have ha:=hC.args
 have hww:=hC.words
 unfold aR
 split
 ·split
  ·exact h.same (dM hl (fun k=>by omega) (fun _=>by unfold eE;omega) (by omega)) rfl rfl rfl
  ·exact h.same (dM hl (fun k=>by omega) (fun _=>by unfold eE;omega) (by omega)) rfl rfl rfl
 ·split
  ·exact h
  ·refine h.step (dM hl (fun k=>by omega) (fun k=>by omega) (by omega)) (fun v hv=> .inl hv) (fun i _ h2 _=> .inl ⟨h2,rfl⟩) (fun j hj=>?_) rfl
   simp only[List.mem_append,List.mem_singleton]at hj
   rcases hj with hj|rfl
   ·exact .inl hj
   ·exact .inr (xJ (.inl rfl))
theorem CJ {l:List Int}{n:Int}(h:∀v∈l,0≤v∧v≤n)(hn:0≤n)(k:Nat):0≤atL l k∧atL l k≤n:=by
 unfold atL
 cases hk:l[k]? with
 | none=>simp only[Option.getD];omega
 | some v=>exact h v (List.mem_of_getElem? hk)
theorem Fc (hC:CxOk C)(hw:C.words≤255)(hx:ScOk C x ins)(hi:ins.length≤4)(hrep:AF C rep G x ins){e:Nat}(he:endAt C.p x.f=some e){k:Nat}{ln:HH}(hk:C.p[k]?=some ln)(h0:ln.faa≠0)(hk1:x.f < k)(hk2:k≤e){base:Int}(hb1:-10 * (ins.length:Int)≤base)(hb2:base≤1000+30 * ins.length){g0:Gs}{L:Ls}(h:LsI C G x.f k g0 L):LsI C G x.f (k+1) g0 (dI C rep x ins base k ln L):=by
 have hl:jT C (k:Int):=⟨ln,by omega,by rw[Int.toNat_natCast];exact hk,h0⟩
 have hkl:k < C.p.length:=aM hk
 have hka:=bp hk
 unfold dI
 split
 ·rename_i h4
  obtain⟨o1,o2,o3,o4⟩:=hx.own4 hC he hk1 hk2 hk h4
  obtain⟨y,_,hy,hy3,_⟩:=aY o1
  have hJ:=h.pos (aI C.p k) o2 o3 (.inl (by rw[bp hy];exact hy3))
  have t1:Tr2 C G L.g (az C L.g base 10 0 k x.chain):=dM hl (fun _=>by omega) (fun k=>by omega) (by omega)
  have t2:=qH (C:=C) (g:=G) (hJ.ext t1.ext)
  refine h.step (t1.trans t2) (fun v hv=> .inl hv) (fun i h1 h2 h3=>?_) (fun j hj=> .inl hj) (by simp)
  by_cases hik:i=k
  ·subst hik
   refine .inr ?_
   rw[gQ (by rw[h.len];exact hkl)]
   exact JP.ext t2.ext (xJ (.inl rfl))
  ·exact .inl ⟨by omega,eM hik⟩
 ·rename_i h4
  split
  ·rename_i h7
   have hnj:¬jumps C.p k:=by unfold jumps;rw[hka];omega
   split
   ·exact(zr hC hw (x:=x) hl true (base+1) (h.same (L':={L with g:=az C L.g base 0 0 k x.chain}) (dM hl (fun k=>by omega) (fun _=>wS) (by omega)) rfl rfl rfl)).next hnj
   ·split
    ·have hh:=CJ h.heads (by omega) (aI C.p k)
     exact(h.same (L':={L with g:=az C L.g base 10 (atL L.heads (aI C.p k)) k x.chain}) (dM hl (fun _=>hh) (fun k=>by omega) (by omega)) rfl rfl rfl).next hnj
    ·exact h.next hnj
  ·rename_i h7
   have hlk:=hC.line _ _ hk
   have hex:=qS (hlk.2.2.2.2 (by omega))
   have h20:=hlk.2.2.2.1
   rw[hex.2]at h20
   have tg:Tr2 C G L.g (eb C rep x ins k (exL ln.fad) base ⟨L.g.items,L.g.most,true⟩):=by
    have:=Cg hC hx hi hrep hl (exL ln.fad) base ⟨L.g.items,L.g.most,true⟩ hex.1 hb1 (by omega)
    exact⟨this.ext,this.inv,this.most⟩
   have hL1:LsI C G x.f k g0 {L with g:=eb C rep x ins k (exL ln.fad) base ⟨L.g.items,L.g.most,true⟩,heads:=L.heads.set k L.g.items.length}:=by
    refine h.step tg (fun v hv=>?_) (fun i _ h2 _=> .inl ⟨h2,rfl⟩) (fun j hj=> .inl hj) rfl
    rcases List.mem_or_eq_of_mem_set hv with hv|rfl
    ·exact .inl hv
    ·exact .inr ⟨by omega,by have:=tg.len;simp only;omega⟩
   have hli:=kB x.locals ln.fac
   obtain⟨_,_,_,_,_,e5⟩:=hx.endE hC
   have hfi:=hx.first
   generalize eb C rep x ins k (exL ln.fad) base ⟨L.g.items,L.g.most,true⟩=GE at tg hL1 ⊢
   split
   ·rename_i k1
    have hnj:¬jumps C.p k:=by unfold jumps;rw[hka];omega
    have t2:Tr2 C G GE (dD C x GE (base+1) (cY x.locals ln.fac) k x.chain):=vB hC (by omega) (by omega) (by omega) hl _ _
    exact(hL1.same (L':={L with g:=dD C x GE (base+1) (cY x.locals ln.fac) k x.chain,heads:=L.heads.set k L.g.items.length}) t2 rfl rfl rfl).next hnj
   ·split
    ·rename_i k2
     have hnj:¬jumps C.p k:=by unfold jumps;rw[hka];omega
     have t2:Tr2 C G GE (az C GE (base+1) 17 0 k x.chain):=dM hl (fun k=>by omega) (fun _=>by unfold eE;omega) (by omega)
     exact(hL1.same (L':={L with g:=az C GE (base+1) 17 0 k x.chain,heads:=L.heads.set k L.g.items.length}) t2 rfl rfl rfl).next hnj
    ·split
     ·rename_i k6
      have hnj:¬jumps C.p k:=by unfold jumps;rw[hka];omega
      exact(zr hC hw (x:=x) hl false (base+1) hL1).next hnj
     ·refine hL1.step (dM hl (fun _=>by omega) (fun k=>by omega) (by omega)) (fun v hv=> .inl hv) (fun i h1 h2 h3=>?_) (fun j hj=> .inl hj) (by simp)
      by_cases hik:i=k
      ·subst hik
       refine .inr ?_
       rw[gQ (by rw[h.len];exact hkl)]
       exact xJ (.inr rfl)
      ·exact .inl ⟨by omega,eM hik⟩
theorem ES (hC:CxOk C)(hx:ScOk C x ins){e:Nat}(he:endAt C.p x.f=some e){k:Nat}{ln:HH}(hk:C.p[k]?=some ln)(hk1:x.f < k)(hk2:k≤e){g0:Gs}{L:Ls}(h:LsI C G x.f (k+1) g0 L):LsI C G x.f (k+1) g0 (aW C x k ln L):=by
 unfold aW
 split
 ·rename_i h7
  have hke:k≠e:=fun hh=>by
   rcases(hx.own7 hC he hk1 hk2 hk h7.1).2 with⟨_,o⟩|⟨o,_⟩
   ·exact h7.2 o
   ·omega
  obtain⟨k1,k2,k3,_,_⟩:=xI hC hx he hk1 (by omega) hk h7.1
  exact h.same (qH (h.pos _ k1 (by omega) k3)) rfl rfl rfl
 ·exact h
theorem BM (hC:CxOk C)(hw:C.words≤255)(hx:ScOk C x ins)(hi:ins.length≤4)(hrep:AF C rep G x ins){e:Nat}(he:endAt C.p x.f=some e){base:Int}(hb1:-10 * (ins.length:Int)≤base)(hb2:base≤1000+30 * ins.length)(h0:∀i y,x.f < i→i≤e→C.p[i]?=some y→y.faa≠0){g0:Gs}:∀(n k:Nat) (L:Ls),x.f < k→k+n=e+1→LsI C G x.f k g0 L→LsI C G x.f (e+1) g0 (jX C rep x ins base n k L)
 | 0,k,L,_,h2,h=>by rw[jX,←h2];exact h
 | n+1,k,L,h1,h2,h=>by
  obtain⟨_,_,_,_,_,hel⟩:=aF he
  obtain⟨ln,hk⟩:=ae (l:=C.p) (k:=k) (by omega)
  rw[jX,hk]
  exact BM hC hw hx hi hrep he hb1 hb2 h0 n (k+1) _ (by omega) (by omega) (ES hC hx he hk h1 (by omega) (Fc hC hw hx hi hrep he hk (h0 k ln h1 (by omega) hk) h1 (by omega) hb1 hb2 h))
theorem xg (hC:CxOk C)(hw:C.words≤255)(hx:ScOk C x ins)(hi:ins.length≤4)(hrep:AF C rep G x ins){base:Int}(hb1:-10 * (ins.length:Int)≤base)(hb2:base≤1000+30 * ins.length)(s:Gs):Tr2 C G s (aU C rep x ins base s).1∧∀j∈(aU C rep x ins base s).2,JP (aU C rep x ins base s).1.items j:=by
 obtain⟨ln,h1,h2⟩:=hx.fn
 obtain⟨e,h3,_,_,h4⟩:=hC.fn _ _ h1 h2
 obtain⟨e',g3,g4,g4',g5,_⟩:=hx.endE hC
 rw[h3]at g3
 injection g3 with g3
 subst g3
 have h:=BM hC hw hx hi hrep h3 hb1 hb2 (fun i y k1 k2 hy=>by
  by_cases hie:i=e
  ·subst hie
   obtain⟨z,hz,h7⟩:=bC h3
   rw[hy]at hz
   injection hz with hz
   subst hz
   omega
  ·exact(h4 i y (by omega) (by omega) hy).1) (g0:=s) (e - x.f) (x.f+1) (cq C s) (by omega) (by omega) ⟨Tr2.refl s,fun v hv=>by
   simp only[cq,List.mem_replicate]at hv
   omega,fun i k1 k2 _=>by omega,fun j hj=>(by cases hj),by simp[cq]⟩
 unfold aU
 rw[g5]
 exact⟨h.tr,h.lv⟩
end
theorem BZ {C:Cx}{G:Nat}(hC:CxOk C)(hw:C.words≤255):∀(lev:Nat) {x:Sc} {ins:List Nat},ScOk C x ins→AF C (aX C lev) G x ins
 | 0,x,ins,hx,line,g,d,s,_,_,_,_,_=>Tr2.refl s
 | lev+1,x,ins,hx,line,g,d,s,hl,hg,h1,h2,hr=>by
  obtain⟨r1,r2,r3,_⟩:=eA hr
  have hin:=hC.inl
  have hy:=lj hC hx line hg
  have ha:=hC.argsN g
  have hil:(ins++[g]).length=ins.length+1:=by simp
  have t1:=GG (G:=G) hC hx (by omega) hl hg h1 h2 s
  have t2:=Et (G:=G) hl x (d - argsN C.p g) (ec C x line g d s)
  have t3:=xg (G:=G) hC hw hy (by omega) (BZ hC hw lev hy) (base:=d - argsN C.p g) (by omega) (by omega) (bQ C x line (d - argsN C.p g) (ec C x line g d s))
  exact((t1.trans t2).trans t3.1).trans (wM _ t3.2)
theorem yK {C:Cx}(hC:CxOk C)(hw:C.words≤255){g:Nat}(hg:bG C g)(e5:C.args=argsN C.p g):InvI C g (cK C g).items∧(cK C g).most≤60:=by
 have hS:ScOk C (bA C g) [g]:=⟨hg,rfl,⟨Int.le_refl _,by simp[bA]⟩,rfl,by simp[bA],fun _=>e5,rfl⟩
 have hww:=hC.words
 have t:=(xg (G:=g) hC hw hS (by simp) (BZ hC hw C.b.fal.toNat hS) (base:=C.words) (by simp only[List.length_cons,List.length_nil];omega) (by simp only[List.length_cons,List.length_nil];omega) (eF C g)).1
 obtain⟨l1,l2⟩:=cO hC hg
 refine⟨t.inv ⟨_,[],rfl,⟨?_,rfl,rfl⟩,fun it h=>by cases h⟩,t.most ?_⟩
 ·simp only[kP];split <;> omega
 ·show(localsOf C.p (g:Int)).length - C.args≤60;omega
theorem pF {p:List HH}{f:Int}{b:Hz}(hs:aB 1048576 (.lst 4 (p.map HH.tr)))(h1:aw p=true)(h2:aJ b=true)(h3:0≤f)(h4:f < (ak p).length):∃(g:Nat) (C:Cx),(ak p)[f.toNat]?=some g∧C.p=foldIf p b∧0≤C.words∧C.words≤255∧InvI C g (aL p f b):=by
 obtain⟨g,C,k1,k2,k3,k4,k5,k6,k7,k8,k9⟩:=rQ hs h1 h2 h3 h4
 have hb:0≤b.fal∧b.fal≤3:=by
  unfold aJ at h2
  simp only[Bool.and_eq_true,within_iff]at h2
  exact h2.2
 have hpg:=(tD hs h1).foldIf b
 have ha:(0:Int)≤(argsN (foldIf p b) g:Int)∧(argsN (foldIf p b) g:Int)≤4:=by have:=k2.argsN g;rw[k3]at this;omega
 have hC0:CxOk (ctx (foldIf p b) f.toNat g b 0):=hpg.cx ha (by omega) hb
 obtain⟨y,y1,y2⟩:=k7
 have hf0:bG (ctx (foldIf p b) f.toNat g b 0) g:=⟨y,by rw[k3]at y1;exact y1,y2⟩
 have h60:=(yK hC0 (by show(0:Int)≤255;omega) hf0 rfl).2
 have hw:=k2.words
 refine⟨g,C,k1,k3,hw.1,by omega,?_⟩
 rw[k8]
 exact(yK k2 (by omega) ⟨y,y1,y2⟩ k5).1
end Go.Proofs.YtjmplnfiabmalaaGreat
namespace Go.Proofs.YtjmplnfiabmalaaGreat
open Go.Sim
set_option maxRecDepth 100000
set_option maxHeartbeats 4000000
theorem ut {α:Type}{g:α→List Tr}{L:Int}:∀{l:List α},(∀x∈l,aK L (g x))→fG L (l.map g)
 | [],_=>by rw[List.map_nil,fG];trivial
 | x::l,h=>by
  rw[List.map_cons,fG]
  exact⟨h x (by simp),ut fun y hy=>h y (by simp[hy])⟩
theorem kC {α:Type}{g:α→List Tr}{l:List α}{sz:Nat}(hl:l.length≤1048576)(h:∀x∈l,aK 1048576 (g x)):aB 1048576 (.lst sz (l.map g)):=by
 rw[aB]
 exact⟨by simp;omega,ut h⟩
def bk (c:Int):Int×Bool:=
 if c=0 then(4,true)else if c=1∨c=2∨c=3∨c=4∨c=10∨c=11 then(2,true)
 else if c=16 then(2,false)else if c=12∨c=13∨c=14∨c=15 then(1,false)else(0,false)
def aN (c:Int):Int:=if af c 0 17 then(bk c).1+1 else 0
theorem cL (c:Int):0≤(bk c).1∧(bk c).1≤4:=by
 unfold bk
 repeat' split
 all_goals simp
theorem gl (c:Int):0≤aN c∧aN c≤5:=by
 have:=cL c
 unfold aN
 split <;> omega
abbrev DE (c:Int):Res:= .tup [.c (.t (.int .i64 (bk c).1)),.c (.t (.bool (bk c).2))]
theorem fk (c:Int):Sim.Spec Tryz.prog 171 [tvI c] (DE c):=by
 refine aq hΓ ay Tryz.func171 rfl (by decide) rfl ?_
 repeat' ((conv=>whnf);first|refine Or.inl ?_|apply oi|(apply fi<;>intro h)|refine⟨_,rfl,?_⟩|exact rfl)
 all_goals try exact⟨KO⟩
 all_goals(refine⟨?_⟩;simp_all[bk])
theorem fm (c:Int):Sim.Spec Tryz.prog 151 [tvI c] (DE c):=by
 refine aq hΓ ay Tryz.func151 rfl (by decide) rfl ?_
 repeat' ((conv=>whnf);first|refine Or.inl ?_|apply oi|(apply fi<;>intro h)|refine⟨_,rfl,?_⟩|exact rfl)
 all_goals try exact⟨KO⟩
 all_goals(refine⟨?_⟩;simp_all[bk])
theorem gG (c:Int):Sim.Spec Tryz.prog 158 [tvI c] (rI (aN c)):=by
 refine aq hΓ ay Tryz.func158 rfl (by decide) rfl ?_
 have hb:=aD c 0 17
 have ha:=fk c
 have hle:=cL c
 unfold aN
 cases hw:af c 0 17 with
 | false=>
  rw[hw]at hb
  repeat' ((conv=>whnf);first|refine Or.inl ?_|apply oi|(apply fi<;>intro h)|refine ci hb (ai rfl (ai rfl (ai rfl trivial))) ?_|refine⟨_,rfl,?_⟩|exact rfl)
  all_goals try exact⟨KO⟩
 | true=>
  rw[hw]at hb
  repeat' ((conv=>whnf);first|refine Or.inl ?_|apply oi|(apply fi<;>intro h)|refine ci hb (ai rfl (ai rfl (ai rfl trivial))) ?_|refine ci ha (ai rfl trivial) ?_|refine⟨_,rfl,?_⟩|exact rfl)
  all_goals try exact⟨KO⟩
  exact⟨by rw[IntWalk.i64_in _ (by omega)];rfl⟩
theorem nQ (c:Int):Sim.Spec Tryz.prog 77 [tvI c] (rI (aN c)):=by
 refine aq hΓ ay Tryz.func77 rfl (by decide) rfl ?_
 have hb:=bi c 0 17
 have ha:=fm c
 have hle:=cL c
 unfold aN
 cases hw:af c 0 17 with
 | false=>
  rw[hw]at hb
  repeat' ((conv=>whnf);first|refine Or.inl ?_|apply oi|(apply fi<;>intro h)|refine ci hb (ai rfl (ai rfl (ai rfl trivial))) ?_|refine⟨_,rfl,?_⟩|exact rfl)
  all_goals try exact⟨KO⟩
 | true=>
  rw[hw]at hb
  repeat' ((conv=>whnf);first|refine Or.inl ?_|apply oi|(apply fi<;>intro h)|refine ci hb (ai rfl (ai rfl (ai rfl trivial))) ?_|refine ci ha (ai rfl trivial) ?_|refine⟨_,rfl,?_⟩|exact rfl)
  all_goals try exact⟨KO⟩
  exact⟨by rw[IntWalk.i64_in _ (by omega),Int.add_comm];rfl⟩
end Go.Proofs.YtjmplnfiabmalaaGreat
