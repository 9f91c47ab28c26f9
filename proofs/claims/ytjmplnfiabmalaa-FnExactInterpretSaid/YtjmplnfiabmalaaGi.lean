import Derived.Test.YtjmplnfiabmalaaGh
namespace Go.Proofs.Ytjmplnfiabmalaa
open Go.Sim
set_option maxRecDepth 100000
set_option maxHeartbeats 4000000
theorem wb {p:List Ah}(h:aD p=true){f:Nat}{y:Ah}(hy:p[f]?=some y)(h0:y.faa=0):dA y.fac=true:=by
 unfold aD at h
 simp only[Bool.and_eq_true,decide_eq_true_eq]at h
 have hl:=List.all_eq_true.1 h.2.2.1 y (List.mem_of_getElem? hy)
 unfold bk at hl
 simp only[Bool.and_eq_true]at hl
 have:=hl.2.2.1
 rwa [if_pos h0]at this
theorem mC {p:List Ah}(h60:p.length≤60)(lim:Int)(calls:List Int)(s:IS)(k ek:Nat)(hek:endAt p k=some ek):bG Try.prog 74 [.r (.c (.ptr (0,0,0) 0)),tI .i64 (k:Int)] (rnH (0,0,1) (0,0,2) (0,0,3) p lim calls s) (tI .i64 (bc p k:Int)) (rnH (0,0,1) (0,0,2) (0,0,3) p lim calls s):=by
 have hEl:=fA p (k:Int) (by omega)
 have hEk:=bI p (k:Int) (by omega)
 rw[show br p (k:Int)=(ek:Int) by rw[aK];exact aN hek]at hEk
 refine aT hΓ ap Try.func74 rfl (by decide) rfl rfl ?_
 cases hel2:elseAt p k with
 | some j=>
  rw[show aL p (k:Int)=(j:Int) by rw[dh,hel2];rfl]at hEl
  rw[show bc p k=j by rw[bc,hel2]]
  repeat' ((conv=>whnf);first|apply Wx|apply W6|apply oi|(apply fi<;>intro h)|refine cl hEl ?_|refine cl hEk ?_|refine⟨_,rfl,?_⟩|exact rfl)
  all_goals try exact⟨KP⟩
  all_goals try exact KX
 | none=>
  rw[show aL p (k:Int)= -1 by rw[dh,hel2];rfl]at hEl
  rw[show bc p k=ek by rw[bc,hel2,cn,hek];rfl]
  repeat' ((conv=>whnf);first|apply Wx|apply W6|apply oi|(apply fi<;>intro h)|refine cl hEl ?_|refine cl hEk ?_|refine⟨_,rfl,?_⟩|exact rfl)
  all_goals try exact⟨KP⟩
  all_goals try exact KX
theorem xZ {p:List Ah}(hp:PgOk p)(hpo:aD p=true){lim:Int}:∀n,zf p lim n:=by
 intro n
 induction n using Nat.strongRecOn with
 | ind n ihn=>
  intro calls f args s hf hal hV hnf
  have hEv:∀m,m < n→∀e,yQ p lim m e:=fun m hm e=>ux hp (ihn m hm) e.toks.length e (Nat.le_refl _)
  obtain⟨en,hI0⟩:=InF.start hp hf
  have h60:=hp.len
  obtain⟨y,hy,hy0⟩:=hf
  obtain⟨e',he',hL8,hAL,_⟩:=hp.fn f y hy hy0
  rw[hI0.en]at he';injection he' with he';subst he'
  obtain⟨_,_,_,_,hfe,hel⟩:=aw hI0.en
  have hA:argsN p f=y.fac.length:=by rw[argsN,hy]
  have h4:=(hp.line f y hy).2.2.1
  have hdist:=wb hpo hy hy0
  have hpre:=pD hy hy0 hI0.en
  obtain⟨L,hL⟩:∃L,localsOf p (f:Int)=L:=⟨_,rfl⟩
  have hKn:=fun{k:Nat} {ln:Ah} (hI:InF p f en k) (hk:p[k]?=some ln) (hke:k < en)=>tg hpo hI hk hke
  have hfl:=bm hy
  have hoL:=kW p p.length
  have hoLm:((dt p p.length).map aa).length=p.length:=by rw[List.length_map,hoL]
  rw[hL]at hL8 hAL hnf hpre ⊢
  obtain⟨R,hR⟩:∃R,aC p lim n calls f (f+1) (bZ L.length args) s=R:=⟨_,rfl⟩
  rw[hR]at hnf ⊢
  have hargs:(args.map aa).length=args.length:=by simp
  have hanl:(y.fac.map ah).length=y.fac.length:=by simp
  refine tX Try.func34 rfl (by decide) rfl rfl ?_
  repeat' ((conv=>whnf);first|apply Wx|apply W6|apply oi|(apply fi<;>intro h)|refine⟨f,y.tr,rfl,ab hy,?_⟩|refine⟨_,rfl,?_⟩|exact rfl)
  all_goals try exact⟨KP⟩
  conv=>whnf
  refine⟨{q:Nat×List (Tr×Int) // q.1≤y.fac.length∧FillM y.fac args q.1 q.2},fun q=>⟨[(0,.r (.c (.ptr (0,0,0) 0))),(1,tI .i64 (f:Int)),(2,.r (.c (.t (.lst 1 (args.map aa))))),(7,.r (.c (.mpv (13,0,0)))),(21,.r (.c (.t (.lst 1 (y.fac.map ah))))),(22,tI .i64 ((y.fac.map ah).length:Int)),(23,tI .i64 (q.1.1:Int))],
   [((0,0,0),some (rnB p lim (0,0,1) (0,0,2) (0,0,3))),((0,0,1),some (.arr false 1 (s.out.map aa))),((0,0,2),some (.dar 1 (ae (s.visits.map aV)) none)),((0,0,3),some (.arr false 1 (calls.map aa))),((13,0,0),some (.mp none q.1.2))],[13,0]⟩,fun q=>y.fac.length - q.1.1,⟨(0,[]),Nat.zero_le _,FillM.zero _ _⟩,?_,?_⟩
  ·skip
   repeat' ((conv=>whnf);first|apply Wx|apply W6|apply oi|(apply fi<;>intro h)|refine⟨_,rfl,?_⟩|exact rfl)
   all_goals try exact⟨KP⟩
  intro⟨⟨j,ms⟩,hj,hfm⟩
  dsimp only at hj hfm ⊢
  by_cases hjlt:j < y.fac.length
  ·obtain⟨nm,hnm⟩:=ak hjlt
   have hav:args[j]?=some (atL args j):=pa (by omega)
   repeat' ((conv=>whnf);first|apply Wx|apply W6|apply oi|(apply fi<;>intro h)|refine⟨j,(ah nm),rfl,ab hnm,?_⟩|refine⟨j,(aa (atL args j)),rfl,ab hav,?_⟩|refine⟨_,rfl,?_⟩|exact rfl)
   all_goals try exact⟨KP⟩
   all_goals try exact KX
   conv=>whnf
   refine⟨⟨(j+1,eB ms (kS nm) (atL args j)),by dsimp only;omega,hfm.step hdist hnm⟩,?_,KD⟩
   repeat' ((conv=>whnf);first|apply Wx|apply W6|apply oi|(apply fi<;>intro h)|refine⟨_,rfl,?_⟩|exact rfl)
   all_goals try exact⟨KP⟩
   all_goals try exact⟨KW⟩
  ·have hvm0:VarsM L (bZ L.length args) ms:=by
    rw[show j=y.fac.length by omega]at hfm
    exact hfm.vars hpre (by omega)
   have hpl:(bZ L.length args).length=L.length:=by rw[bZ,List.length_append,List.length_replicate];omega
   generalize bZ L.length args=V0 at *
   repeat' ((conv=>whnf);first|apply Wx|apply W6|apply oi|(apply fi<;>intro h)|refine⟨_,rfl,?_⟩|exact rfl)
   all_goals try exact⟨KP⟩
   all_goals try exact KX
   conv=>whnf
   refine⟨{q:Nat×Nat×List Int×List (Tr×Int)×IS // q.1≤n∧InF p f en q.2.1∧q.2.2.1.length=L.length∧VarsM L q.2.2.1 q.2.2.2.1∧InV lim calls q.2.2.2.2∧aC p lim q.1 calls f q.2.1 q.2.2.1 q.2.2.2.2=R},fun q=>⟨[(0,.r (.c (.ptr (0,0,0) 0))),(1,tI .i64 (f:Int)),(7,.r (.c (.mpv (13,0,0)))),(10,tI .i64 (q.1.2.1:Int))],
    [((0,0,0),some (rnB p lim (13,0,1) (13,0,2) (13,0,3))),((13,0,1),some (.arr false 1 (q.1.2.2.2.2.out.map aa))),((13,0,2),some (.dar 1 (ae (q.1.2.2.2.2.visits.map aV)) none)),((13,0,3),some (.arr false 1 (calls.map aa))),((13,0,0),some (.mp none q.1.2.2.2.1))],[13,0]⟩,fun q=>q.1.1,⟨(n,f+1,V0,ms,s),Nat.le_refl _,hI0,hpl,hvm0,hV,hR⟩,?_,?_⟩
   ·skip
    repeat' ((conv=>whnf);first|apply Wx|apply W6|apply oi|(apply fi<;>intro h)|refine⟨_,rfl,?_⟩|exact rfl)
    all_goals try exact⟨KP⟩
    all_goals try exact⟨KW⟩
   intro⟨⟨m,k,vals,ms,sk⟩,hm,hI,hvl,hvm,hVk,hRk⟩
   dsimp only at hm hI hvl hvm hVk hRk ⊢
   match m,hm,hRk with
   | 0,_,hRk=>exact absurd hRk.symm hnf
   | m+1,hm,hRk=>
   obtain⟨ln,hk,hk1,hk7,hke⟩:=hI.line hp
   have hkp:=bm hk
   obtain⟨kd,nm,ag,ex⟩:=ln
   dsimp only at hk1 hk7 hke
   have hHE:=iG kd
   have hkm:k < ((dt p p.length).map aa).length:=by omega
   by_cases hkl:k < en
   ·rcases(show kd=7∨kd=4∨(kd≠7∧kd≠4) by omega)with rfl|rfl|⟨h7,h4'⟩
    ·obtain⟨ho,h|⟨q1,q2,q3,y2,hy2,q4⟩⟩:=hI.own7 hp hk rfl
     ·omega
     rw[bv hk rfl,if_neg (by omega),bz hy2]at hRk
     have hog:=kF (p:=p) (.inl ho) hkp p.length (by omega)
     generalize aH p k=o at *
     have hgt:((dt p p.length).map aa)[k]?=some (aa (o:Int)):=ab hog
     have hop:=bm hy2
     rw[show bR 7=false from rfl]at hHE
     by_cases h5:y2.faa=5
     ·rw[if_pos h5]at hRk
      repeat' ((conv=>whnf);first|apply Wx|apply W6|apply oi|(apply fi<;>intro h)|refine⟨k,(Ah.tr ⟨7,nm,ag,ex⟩),rfl,ab hk,?_⟩|refine cl hHE ?_|refine⟨k,(aa (o:Int)),rfl,hgt,?_⟩|refine⟨o,y2.tr,rfl,ab hy2,?_⟩|refine⟨_,rfl,?_⟩|exact rfl)
      all_goals try exact⟨KP⟩
      all_goals try exact KX
      all_goals try(exfalso;simp_all;done)
      conv=>whnf
      refine⟨⟨(m,o,vals,ms,sk),by dsimp only;omega,hI.at q2 (by dsimp only;omega),hvl,hvm,hVk,hRk⟩,?_,KD⟩
      repeat' ((conv=>whnf);first|apply Wx|apply W6|apply oi|(apply fi<;>intro h)|refine⟨_,rfl,?_⟩|exact rfl)
      all_goals try exact⟨KP⟩
      all_goals try exact⟨KW⟩
     ·rw[if_neg h5]at hRk
      repeat' ((conv=>whnf);first|apply Wx|apply W6|apply oi|(apply fi<;>intro h)|refine⟨k,(Ah.tr ⟨7,nm,ag,ex⟩),rfl,ab hk,?_⟩|refine cl hHE ?_|refine⟨k,(aa (o:Int)),rfl,hgt,?_⟩|refine⟨o,y2.tr,rfl,ab hy2,?_⟩|refine⟨_,rfl,?_⟩|exact rfl)
      all_goals try exact⟨KP⟩
      all_goals try exact KX
      all_goals try(exfalso;simp_all;done)
      conv=>whnf
      refine⟨⟨(m,k+1,vals,ms,sk),by dsimp only;omega,hI.at (by have:=hI.lo;dsimp only;omega) (by dsimp only;omega),hvl,hvm,hVk,hRk⟩,?_,KD⟩
      repeat' ((conv=>whnf);first|apply Wx|apply W6|apply oi|(apply fi<;>intro h)|refine⟨_,rfl,?_⟩|exact rfl)
      all_goals try exact⟨KP⟩
      all_goals try exact⟨KW⟩
    ·have hn4:=hI.elseNext hp hk rfl
     obtain⟨q1,q2,q3,q4⟩:=hI.own4 hp hk rfl
     rw[cw hk rfl]at hRk
     have hEo:=bI p (aH p k:Int) (by omega)
     obtain⟨x3,e3,hx3,hx33,he3,_,_,_⟩:=aO q1
     have hE3:cn p (aH p k)=e3:=by rw[cn,he3];rfl
     rw[show br p (aH p k:Int)=(e3:Int) by rw[aK];exact aN he3]at hEo
     rw[hE3]at hn4 hRk
     have hog:=kF (p:=p) (.inr q1) hkp p.length (by omega)
     generalize aH p k=o at *
     have hgt:((dt p p.length).map aa)[k]?=some (aa (o:Int)):=ab hog
     rw[show bR 4=false from rfl]at hHE
     repeat' ((conv=>whnf);first|apply Wx|apply W6|apply oi|(apply fi<;>intro h)|refine⟨k,(Ah.tr ⟨4,nm,ag,ex⟩),rfl,ab hk,?_⟩|refine cl hHE ?_|refine⟨k,(aa (o:Int)),rfl,hgt,?_⟩|refine cl hEo ?_|refine⟨_,rfl,?_⟩|exact rfl)
     all_goals try exact⟨KP⟩
     all_goals try exact KX
     all_goals try(exfalso;simp at h;done)
     conv=>whnf
     refine⟨⟨(m,e3+1,vals,ms,sk),by dsimp only;omega,hI.at (by have:=hI.lo;dsimp only;omega) (by dsimp only;omega),hvl,hvm,hVk,hRk⟩,?_,KD⟩
     repeat' ((conv=>whnf);first|apply Wx|apply W6|apply oi|(apply fi<;>intro h)|refine⟨_,rfl,?_⟩|exact rfl)
     all_goals try exact⟨KP⟩
     all_goals try exact⟨KW⟩
    ·have hk6:kd=1∨kd=2∨kd=3∨kd=5∨kd=6:=by omega
     have hHE1:bR kd=true:=by rcases hk6 with rfl|rfl|rfl|rfl|rfl <;> rfl
     rw[hHE1]at hHE
     have hlm:=hVk.lm
     have hvs:=hVk.vis
     by_cases hfull:(sk.visits.length:Int)=lim
     ·rw[cu hk h7 h4' hfull]at hRk
      subst hRk
      have gv:=qK p lim (k:Int) calls sk hfull
      repeat' ((conv=>whnf);first|with_reducible refine nu (id:=12) 2 ?_|with_reducible apply Wx|with_reducible apply W6|refine cp gv ?_|apply oi|(apply fi<;>intro h)|refine⟨k,(Ah.tr ⟨_,nm,ag,ex⟩),rfl,ab hk,?_⟩|refine cl hHE ?_|refine⟨_,rfl,?_⟩|exact rfl)
      all_goals try exact⟨KP⟩
      all_goals try exact KX
     ·rw[cB hk h7 h4' hfull]at hRk
      have gv:=qv p lim (k:Int) calls sk hlm hVk.calls (by omega)
      obtain⟨hxo,e1,e2,e3⟩:=hI.known hp hk h7 h4'
      obtain⟨hkn,hset⟩:=hKn hI hk hkl
      have hV1:InV lim calls ⟨sk.out,sk.visits++[calls++[(k:Int)]]⟩:=hVk.ext (fP hfull _)
      dsimp only at hRk hxo e1 e2 hkn hset
      obtain⟨E,hE⟩:∃E,cG p lim m calls f k vals (exL ex) ⟨sk.out,sk.visits++[calls++[(k:Int)]]⟩=E:=⟨_,rfl⟩
      have hxE:=iP (p:=p) (locals:=localsOf p (f:Int)) (vals:=vals) (dc (p:=p) (lim:=lim) m calls k) (exL ex) ⟨sk.out,sk.visits++[calls++[(k:Int)]]⟩
      rw[show evE p (localsOf p (f:Int)) vals (aB p lim m calls k) (exL ex) ⟨sk.out,sk.visits++[calls++[(k:Int)]]⟩=E from hE]at hRk hxE
      have hnE:cG p lim m calls f k vals (exL ex) ⟨sk.out,sk.visits++[calls++[(k:Int)]]⟩≠.fuel:=fun e=>by
       rw[hE]at e;rw[e]at hRk;exact hnf hRk.symm
      have gE:=hEv m (by omega) (exL ex) calls f en k 0 ⟨kd,nm,ag,ex⟩ vals ms ⟨sk.out,sk.visits++[calls++[(k:Int)]]⟩ e1 hI hk ⟨[],by rw[List.drop_zero,List.append_nil];exact e2⟩ hkn (by rw[hL];exact hvl) (by rw[hL];exact hvm) hV1 hnE
      rw[hE]at gE
      rw[hL]at hRk hset
      match E,hE,hRk,hxE,gE with
      | .fuel,hE,_,_,_=>exact absurd hE hnE
      | .stop c s2,hE,hRk,hxE,g=>
       have hRk:Rr.stop c s2=R:=hRk
       subst hRk
       simp only[kG]at g
       repeat' ((conv=>whnf);first|with_reducible refine nu (id:=13) 5 ?_|with_reducible apply Wx|with_reducible apply W6|refine cp g ?_|apply oi|(apply fi<;>intro h)|refine⟨k,(Ah.tr ⟨_,nm,ag,ex⟩),rfl,ab hk,?_⟩|refine cl hHE ?_|refine⟨_,rfl,?_⟩|exact rfl)
       all_goals try exact⟨KP⟩
       all_goals try exact KX
       refine cg (gv) ?_
       repeat' ((conv=>whnf);first|with_reducible refine nu (id:=13) 5 ?_|with_reducible apply Wx|with_reducible apply W6|refine cp g ?_|apply oi|(apply fi<;>intro h)|refine⟨_,rfl,?_⟩|exact rfl)
       all_goals try exact⟨KP⟩
      | .ok v s2,hE,hRk,hxE,g=>
       rw[Rr.bnd_ok]at hRk
       have hxE:Ext lim ⟨sk.out,sk.visits++[calls++[(k:Int)]]⟩ s2:=hxE
       have hV2:InV lim calls s2:=hV1.ext hxE
       have hvn2:s2.out.length≤1000:=by have:=hV2.vis;have:=hV2.lm;have:=hV2.out;omega
       simp only[kG]at g
       rcases hk6 with rfl|rfl|rfl|rfl|rfl
       ·obtain⟨ix,hix⟩:=hset rfl
        have hixl:=fT hix
        have hsv:gk L ⟨1,nm,ag,ex⟩ vals v=vals.set ix v:=by rw[gk,if_pos rfl,hix]
        have hov:ey ⟨1,nm,ag,ex⟩ s2 v=s2:=by rw[ey,if_neg (by simp)]
        have hnx:bC p ⟨1,nm,ag,ex⟩ k v=k+1:=by rw[bC,if_neg (by simp)]
        rw[if_neg (by simp),hsv,hov,hnx]at hRk
        have hvm2:=hvm.set hix (by omega) v
        repeat' ((conv=>whnf);first|apply Wx|apply W6|apply oi|(apply fi<;>intro h)|refine⟨k,(Ah.tr ⟨_,nm,ag,ex⟩),rfl,ab hk,?_⟩|refine cl hHE ?_|refine⟨_,rfl,?_⟩|exact rfl)
        all_goals try exact⟨KP⟩
        all_goals try exact KX
        refine cg (gv) ?_
        repeat' ((conv=>whnf);first|apply Wx|apply W6|apply oi|(apply fi<;>intro h)|refine⟨_,rfl,?_⟩|exact rfl)
        all_goals try exact⟨KP⟩
        refine cg (g) ?_
        repeat' ((conv=>whnf);first|apply Wx|apply W6|apply oi|(apply fi<;>intro h)|refine⟨_,rfl,?_⟩|exact rfl)
        all_goals try exact⟨KP⟩
        all_goals try exact KX
        conv=>whnf
        refine⟨⟨(m,k+1,vals.set ix v,eB ms (kS nm) v,s2),by dsimp only;omega,hI.at (by have:=hI.lo;dsimp only;omega) (by dsimp only;omega),by dsimp only;rw[List.length_set];exact hvl,hvm2,hV2,hRk⟩,?_,KD⟩
        repeat' ((conv=>whnf);first|apply Wx|apply W6|apply oi|(apply fi<;>intro h)|refine⟨_,rfl,?_⟩|exact rfl)
        all_goals try exact⟨KP⟩
        all_goals try exact⟨KW⟩
       ·have hsv:gk L ⟨2,nm,ag,ex⟩ vals v=vals:=by rw[gk,if_neg (by simp)]
        have hov:ey ⟨2,nm,ag,ex⟩ s2 v=⟨s2.out++[v],s2.visits⟩:=by rw[ey,if_pos rfl]
        have hnx:bC p ⟨2,nm,ag,ex⟩ k v=k+1:=by rw[bC,if_neg (by simp)]
        have hxo:=ni (ln:=⟨2,nm,ag,ex⟩) (v:=v) hfull hxE
        rw[hov]at hxo
        rw[if_neg (by simp),hsv,hov,hnx]at hRk
        repeat' ((conv=>whnf);first|apply Wx|apply W6|apply oi|(apply fi<;>intro h)|refine⟨k,(Ah.tr ⟨_,nm,ag,ex⟩),rfl,ab hk,?_⟩|refine cl hHE ?_|refine⟨_,rfl,?_⟩|exact rfl)
        all_goals try exact⟨KP⟩
        all_goals try exact KX
        refine cg (gv) ?_
        repeat' ((conv=>whnf);first|apply Wx|apply W6|apply oi|(apply fi<;>intro h)|refine⟨_,rfl,?_⟩|exact rfl)
        all_goals try exact⟨KP⟩
        refine cg (g) ?_
        repeat' ((conv=>whnf);first|apply Wx|apply W6|apply oi|(apply fi<;>intro h)|refine⟨_,rfl,?_⟩|exact rfl)
        all_goals try exact⟨KP⟩
        all_goals try exact KX
        all_goals try exact⟨⟨by simp <;> omega,by simp <;> omega⟩⟩
        conv=>whnf
        refine⟨⟨(m,k+1,vals,ms,⟨s2.out++[v],s2.visits⟩),by dsimp only;omega,hI.at (by have:=hI.lo;dsimp only;omega) (by dsimp only;omega),hvl,hvm,hVk.ext hxo,hRk⟩,?_,KD⟩
        repeat' ((conv=>whnf);first|apply Wx|apply W6|apply oi|(apply fi<;>intro h)|refine⟨_,rfl,?_⟩|exact rfl)
        all_goals try exact⟨KP⟩
        all_goals try exact⟨KW⟩
        all_goals try exact⟨by simp[aa]⟩
       ·have hsv:gk L ⟨3,nm,ag,ex⟩ vals v=vals:=by rw[gk,if_neg (by simp)]
        have hov:ey ⟨3,nm,ag,ex⟩ s2 v=s2:=by rw[ey,if_neg (by simp)]
        rw[if_neg (by simp),hsv,hov]at hRk
        by_cases hv0:v=0
        ·subst hv0
         have hnx:bC p ⟨3,nm,ag,ex⟩ k 0=bc p k+1:=by rw[bC,if_pos ⟨.inl rfl,rfl⟩]
         rw[hnx]at hRk
         have hsk:=hI.skip hp hk (.inl rfl) hkl
         obtain⟨ek,hek,_,_⟩:=bt hI.en hI.lo hkl hk (by rw[opensK_iff];simp)
         have gs:=mC h60 lim calls s2 k ek hek
         repeat' ((conv=>whnf);first|apply Wx|apply W6|apply oi|(apply fi<;>intro h)|refine⟨k,(Ah.tr ⟨_,nm,ag,ex⟩),rfl,ab hk,?_⟩|refine cl hHE ?_|refine⟨_,rfl,?_⟩|exact rfl)
         all_goals try exact⟨KP⟩
         all_goals try exact KX
         refine cg (gv) ?_
         repeat' ((conv=>whnf);first|apply Wx|apply W6|apply oi|(apply fi<;>intro h)|refine⟨_,rfl,?_⟩|exact rfl)
         all_goals try exact⟨KP⟩
         refine cg (g) ?_
         repeat' ((conv=>whnf);first|apply Wx|apply W6|apply oi|(apply fi<;>intro h)|refine⟨_,rfl,?_⟩|exact rfl)
         all_goals try exact⟨KP⟩
         all_goals try exact KX
         refine cg (gs) ?_
         repeat' ((conv=>whnf);first|apply Wx|apply W6|apply oi|(apply fi<;>intro h)|refine⟨_,rfl,?_⟩|exact rfl)
         all_goals try exact⟨KP⟩
         conv=>whnf
         refine⟨⟨(m,bc p k+1,vals,ms,s2),by dsimp only;omega,hI.at (by have:=hI.lo;dsimp only;omega) (by dsimp only;omega),hvl,hvm,hV2,hRk⟩,?_,KD⟩
         repeat' ((conv=>whnf);first|apply Wx|apply W6|apply oi|(apply fi<;>intro h)|refine⟨_,rfl,?_⟩|exact rfl)
         all_goals try exact⟨KP⟩
         all_goals try exact⟨KW⟩
        ·have hnx:bC p ⟨3,nm,ag,ex⟩ k v=k+1:=by rw[bC,if_neg (fun h=>hv0 h.2)]
         rw[hnx]at hRk
         repeat' ((conv=>whnf);first|apply Wx|apply W6|apply oi|(apply fi<;>intro h)|refine⟨k,(Ah.tr ⟨_,nm,ag,ex⟩),rfl,ab hk,?_⟩|refine cl hHE ?_|refine⟨_,rfl,?_⟩|exact rfl)
         all_goals try exact⟨KP⟩
         all_goals try exact KX
         refine cg (gv) ?_
         repeat' ((conv=>whnf);first|apply Wx|apply W6|apply oi|(apply fi<;>intro h)|refine⟨_,rfl,?_⟩|exact rfl)
         all_goals try exact⟨KP⟩
         refine cg (g) ?_
         repeat' ((conv=>whnf);first|apply Wx|apply W6|apply oi|(apply fi<;>intro h)|refine⟨_,rfl,?_⟩|exact rfl)
         all_goals try exact⟨KP⟩
         all_goals try exact KX
         all_goals try(exfalso;simp at h;exact hv0 h)
         conv=>whnf
         refine⟨⟨(m,k+1,vals,ms,s2),by dsimp only;omega,hI.at (by have:=hI.lo;dsimp only;omega) (by dsimp only;omega),hvl,hvm,hV2,hRk⟩,?_,KD⟩
         repeat' ((conv=>whnf);first|apply Wx|apply W6|apply oi|(apply fi<;>intro h)|refine⟨_,rfl,?_⟩|exact rfl)
         all_goals try exact⟨KP⟩
         all_goals try exact⟨KW⟩
       ·have hsv:gk L ⟨5,nm,ag,ex⟩ vals v=vals:=by rw[gk,if_neg (by simp)]
        have hov:ey ⟨5,nm,ag,ex⟩ s2 v=s2:=by rw[ey,if_neg (by simp)]
        rw[if_neg (by simp),hsv,hov]at hRk
        by_cases hv0:v=0
        ·subst hv0
         have hnx:bC p ⟨5,nm,ag,ex⟩ k 0=bc p k+1:=by rw[bC,if_pos ⟨.inr rfl,rfl⟩]
         rw[hnx]at hRk
         have hsk:=hI.skip hp hk (.inr rfl) hkl
         obtain⟨ek,hek,_,_⟩:=bt hI.en hI.lo hkl hk (by rw[opensK_iff];simp)
         have gs:=mC h60 lim calls s2 k ek hek
         repeat' ((conv=>whnf);first|apply Wx|apply W6|apply oi|(apply fi<;>intro h)|refine⟨k,(Ah.tr ⟨_,nm,ag,ex⟩),rfl,ab hk,?_⟩|refine cl hHE ?_|refine⟨_,rfl,?_⟩|exact rfl)
         all_goals try exact⟨KP⟩
         all_goals try exact KX
         refine cg (gv) ?_
         repeat' ((conv=>whnf);first|apply Wx|apply W6|apply oi|(apply fi<;>intro h)|refine⟨_,rfl,?_⟩|exact rfl)
         all_goals try exact⟨KP⟩
         refine cg (g) ?_
         repeat' ((conv=>whnf);first|apply Wx|apply W6|apply oi|(apply fi<;>intro h)|refine⟨_,rfl,?_⟩|exact rfl)
         all_goals try exact⟨KP⟩
         all_goals try exact KX
         refine cg (gs) ?_
         repeat' ((conv=>whnf);first|apply Wx|apply W6|apply oi|(apply fi<;>intro h)|refine⟨_,rfl,?_⟩|exact rfl)
         all_goals try exact⟨KP⟩
         conv=>whnf
         refine⟨⟨(m,bc p k+1,vals,ms,s2),by dsimp only;omega,hI.at (by have:=hI.lo;dsimp only;omega) (by dsimp only;omega),hvl,hvm,hV2,hRk⟩,?_,KD⟩
         repeat' ((conv=>whnf);first|apply Wx|apply W6|apply oi|(apply fi<;>intro h)|refine⟨_,rfl,?_⟩|exact rfl)
         all_goals try exact⟨KP⟩
         all_goals try exact⟨KW⟩
        ·have hnx:bC p ⟨5,nm,ag,ex⟩ k v=k+1:=by rw[bC,if_neg (fun h=>hv0 h.2)]
         rw[hnx]at hRk
         repeat' ((conv=>whnf);first|apply Wx|apply W6|apply oi|(apply fi<;>intro h)|refine⟨k,(Ah.tr ⟨_,nm,ag,ex⟩),rfl,ab hk,?_⟩|refine cl hHE ?_|refine⟨_,rfl,?_⟩|exact rfl)
         all_goals try exact⟨KP⟩
         all_goals try exact KX
         refine cg (gv) ?_
         repeat' ((conv=>whnf);first|apply Wx|apply W6|apply oi|(apply fi<;>intro h)|refine⟨_,rfl,?_⟩|exact rfl)
         all_goals try exact⟨KP⟩
         refine cg (g) ?_
         repeat' ((conv=>whnf);first|apply Wx|apply W6|apply oi|(apply fi<;>intro h)|refine⟨_,rfl,?_⟩|exact rfl)
         all_goals try exact⟨KP⟩
         all_goals try exact KX
         all_goals try(exfalso;simp at h;exact hv0 h)
         conv=>whnf
         refine⟨⟨(m,k+1,vals,ms,s2),by dsimp only;omega,hI.at (by have:=hI.lo;dsimp only;omega) (by dsimp only;omega),hvl,hvm,hV2,hRk⟩,?_,KD⟩
         repeat' ((conv=>whnf);first|apply Wx|apply W6|apply oi|(apply fi<;>intro h)|refine⟨_,rfl,?_⟩|exact rfl)
         all_goals try exact⟨KP⟩
         all_goals try exact⟨KW⟩
       ·rw[if_pos rfl]at hRk
        subst hRk
        repeat' ((conv=>whnf);first|apply Wx|apply W6|apply oi|(apply fi<;>intro h)|refine⟨k,(Ah.tr ⟨_,nm,ag,ex⟩),rfl,ab hk,?_⟩|refine cl hHE ?_|refine⟨_,rfl,?_⟩|exact rfl)
        all_goals try exact⟨KP⟩
        all_goals try exact KX
        refine cg (gv) ?_
        repeat' ((conv=>whnf);first|apply Wx|apply W6|apply oi|(apply fi<;>intro h)|refine⟨_,rfl,?_⟩|exact rfl)
        all_goals try exact⟨KP⟩
        refine cg (g) ?_
        repeat' ((conv=>whnf);first|apply Wx|apply W6|apply oi|(apply fi<;>intro h)|refine⟨_,rfl,?_⟩|exact rfl)
        all_goals try exact⟨KP⟩
        all_goals try exact KX
   ·have hke':k=en:=by have:=hI.hi;omega
    have h7:kd=7:=by omega
    subst h7
    obtain⟨ho,how⟩:=hI.own7 hp hk rfl
    have how:aH p k=f:=by rcases how with h|h;exact h.2;omega
    rw[bv hk rfl,if_pos how]at hRk
    subst hRk
    rw[how]at ho
    have hog:=kF (p:=p) (.inl ho) hkp p.length (by omega)
    have hgt:((dt p p.length).map aa)[k]?=some (aa (f:Int)):=ab hog
    rw[show bR 7=false from rfl]at hHE
    repeat' ((conv=>whnf);first|apply Wx|apply W6|apply oi|(apply fi<;>intro h)|refine⟨k,(Ah.tr ⟨7,nm,ag,ex⟩),rfl,ab hk,?_⟩|refine cl hHE ?_|refine⟨k,(aa (f:Int)),rfl,hgt,?_⟩|refine⟨f,y.tr,rfl,ab hy,?_⟩|refine⟨_,rfl,?_⟩|exact rfl)
    all_goals try exact⟨KP⟩
    all_goals try exact KX
    all_goals try(exfalso;simp_all;done)
abbrev is0:IS:=⟨[],[]⟩
noncomputable def dY (p:List Ah) (lim:Int):Rr Int:=open Classical in
 if h:∃n,aC p lim n [] 0 1 (bZ (localsOf p 0).length []) is0≠.fuel then aC p lim (Classical.choose h) [] 0 1 (bZ (localsOf p 0).length []) is0 else .fuel
theorem kz {p:List Ah}{lim:Int}{n:Nat}(h:aC p lim n [] 0 1 (bZ (localsOf p 0).length []) is0≠.fuel):dY p lim=aC p lim n [] 0 1 (bZ (localsOf p 0).length []) is0:=by
 have hx:∃n,aC p lim n [] 0 1 (bZ (localsOf p 0).length []) is0≠.fuel:=⟨n,h⟩
 rw[dY,dif_pos hx]
 have h2:=Classical.choose_spec hx
 rcases Nat.le_total n (Classical.choose hx)with hle|hle
 ·exact fy h hle
 ·exact(fy h2 hle).symm
theorem qx {p:List Ah}(h:aD p=true):∃y,p[0]?=some y∧y.faa=0∧y.fab=dv∧y.fac=[]:=by
 unfold aD at h
 simp only[Bool.and_eq_true,decide_eq_true_eq]at h
 have h4:=h.2.2.2.1
 unfold gM at h4
 match p,h4 with
 | y::q,h4=>
  simp only[Bool.and_eq_true,beq_iff_eq]at h4
  exact⟨y,rfl,h4.1,h4.2.1,List.length_eq_zero_iff.1 h4.2.2⟩
theorem kh {p:List Ah}(hp:PgOk p)(h:aD p=true){lim:Int}(h0:0≤lim):∃n,aC p lim n [] 0 1 (bZ (localsOf p 0).length []) is0≠.fuel:=by
 obtain⟨y,hy,hy0,_⟩:=qx h
 obtain⟨e,hI⟩:=InF.start hp ⟨y,hy,hy0⟩
 exact kO hp 6 [] rfl 0 e 1 _ is0 (by simpa using h0) hI
theorem lW (p:List Ah)(hs:aF 1048576 (.lst 4 (p.map Ah.tr)))(hpo:aD p=true)(lim:Int)(h0:0≤lim)(h1:lim≤1000):
  bG Try.prog 8 [.r (.c (.t (.lst 4 (p.map Ah.tr)))),tI .i64 lim] [] (.r (.agg [.own (1,0,1),.own (1,0,2),.t (.int .i64 (dY p lim).val),.t (.int .i64 (dY p lim).code)])) [((1,0,1),.arr false 1 ((dY p lim).st.out.map aa)),((1,0,2),.dar 1 (ae ((dY p lim).st.visits.map aV)) none)]:=by
 have hp:=qE hs hpo
 obtain⟨n,hn⟩:=kh hp hpo h0
 have hP:=fZ p hs
 rw[hpo]at hP
 have gl:=dx lim 0 1000
 rw[show af lim 0 1000=true by rw[within_iff];exact⟨h0,h1⟩]at gl
 obtain⟨y,hy,hy0,_,hya⟩:=qx hpo
 have hA:argsN p 0=0:=by rw[argsN,hy];dsimp only;rw[hya];rfl
 have gp:=wn hp hpo (lim:=lim) n [] 0 [] is0 ⟨y,hy,hy0⟩ (by rw[hA];rfl) ⟨h1,by simpa using h0,by simp,by simp⟩ hn
 rw[show(((0:Nat):Int))=0 from rfl,show(0:Nat)+1=1 from rfl,←kz hn]at gp
 have hcode:(∃v s,dY p lim= .ok v s)∨(∃c s,dY p lim= .stop c s∧(c=1∨c=2)):=by
  have hx:=ct (p:=p) (lim:=lim) n [] 0 1 (bZ (localsOf p 0).length []) is0
  rw[kz hn]
  cases hr:aC p lim n [] 0 1 (bZ (localsOf p 0).length []) is0 with
  | ok v s=>exact .inl ⟨v,s,rfl⟩
  | stop c s=>rw[hr]at hx;exact .inr ⟨c,s,rfl,hx.2⟩
  | fuel=>exact absurd hr hn
 generalize dY p lim=R at *
 refine aT hΓ ap Try.func8 rfl (by decide) rfl rfl ?_
 repeat' ((conv=>whnf);first|(with_reducible apply W1;fail_if_success (with_reducible show Wo _ _ _ _ (Code.region 4 _ _) _ _))|(with_reducible first|apply W2|apply W3|apply W4|apply W5|apply W6|apply W7|apply W8|apply W9)|apply bu|apply oi|(apply fi<;>intro h)|refine cl hP ?_|refine cl gl ?_|refine⟨_,rfl,?_⟩|exact rfl)
 all_goals try exact⟨KP⟩
 all_goals try exact KX
 conv=>whnf
 refine wF ⟨[(4,.r (.c (.ptr (4,0,0) 0))),(5,.r (.c (.ptr (19,0,0) 0)))],[((4,0,0),some (.box [.nils 1,.nils 1,.t (.int .i64 0),.t (.int .i64 0)])),((19,0,0),some (.box [.t (.lst 4 (p.map Ah.tr)),.t (.int .i64 lim),.own (19,0,1),.own (19,0,2),.t (.int .i64 0),.t (.int .i64 0),.own (19,0,3)])),((19,0,1),some (.arr false 1 [])),((19,0,2),some (.dar 1 [] none)),((19,0,3),some (.arr false 1 []))],[19,4,0]⟩ ?_ ?_
 ·skip
  repeat' ((conv=>whnf);first|apply Wx|apply W6|apply oi|(apply fi<;>intro h)|refine⟨_,rfl,?_⟩|exact rfl)
  all_goals try exact⟨KP⟩
 rcases hcode with⟨v,s,rfl⟩|⟨c,s,rfl,hc⟩
 ·dsimp only[Rr.val,Rr.st,Rr.code]at gp ⊢
  repeat' ((conv=>whnf);first|apply Wx|apply W6|apply oi|(apply fi<;>intro h)|refine⟨_,rfl,?_⟩|exact rfl)
  all_goals try exact⟨KP⟩
  refine cg (gp) ?_
  repeat' ((conv=>whnf);first|apply Wx|apply W6|apply oi|(apply fi<;>intro h)|refine⟨_,rfl,?_⟩|exact rfl)
  all_goals try exact⟨KP⟩
  all_goals try exact⟨⟨_,rfl⟩⟩
 ·dsimp only[Rr.val,Rr.st,Rr.code]at gp ⊢
  repeat' ((conv=>whnf);first|apply Wx|apply W6|apply oi|(apply fi<;>intro h)|refine⟨_,rfl,?_⟩|exact rfl)
  all_goals try exact⟨KP⟩
  refine cg (gp) ?_
  repeat' ((conv=>whnf);first|apply Wx|apply W6|apply oi|(apply fi<;>intro h)|refine⟨_,rfl,?_⟩|exact rfl)
  all_goals try exact⟨KP⟩
  all_goals try(exfalso;simp at h;omega)
  all_goals try exact⟨⟨_,rfl⟩⟩
abbrev clH (p:List Ah)(lim:Int)(s:IS):List (Sim.Id×AO):=[((0,0,0),.box [.ptr (0,0,2) 0]),((0,0,1),.box [.nils 1,.nils 1,.t (.int .i64 0),.t (.int .i64 0)]),
 ((0,0,2),.box [.t (.lst 4 (p.map Ah.tr)),.t (.int .i64 lim),.opq,.own (0,0,3),.own (0,0,4),.t (.int .i64 0),.t (.int .i64 0),.t (.lst 1 ((dt p p.length).map aa))]),((0,0,3),.arr false 1 (s.out.map aa)),((0,0,4),.dar 1 (ae (s.visits.map aV)) none)]
abbrev clE (s:IS)(c:Int):List (Sim.Id×AO):=[((0,0,1),.box [.own (0,0,3),.own (0,0,4),.t (.int .i64 0),.t (.int .i64 c)]),((0,0,3),.arr false 1 (s.out.map aa)),((0,0,4),.dar 1 (ae (s.visits.map aV)) none)]
theorem pc {a:Act}{d t:Nat}{v:Value}(hd:d < a.tmps.size):(a.put (some d) v).eval (.tmp t)=if t=d then v else a.eval (.tmp t):=by
 have:=dR a d v t hd
 simpa [Act.eval,Array.getD_eq_getD_getElem?]using this
theorem tD {v s7 s8:Value}{a:Act}{w:World}(hv:a.eval (.tmp 5)=v)(hr:∀o:Oper,o.op= .typeAssert (.tmp 5) 20 67 true→(execOp (fun _=>v) o).run Try.prog w= .ok (.value (.tuple #[s7,s8])) w):∀o:Oper,o.op= .typeAssert (.tmp 5) 20 67 true→(execOp a.eval o).run Try.prog w= .ok (.value (.tuple #[s7,s8])) w:=fun o ho=>by
 have:=hr o ho
 simp only[execOp,ho]at this ⊢
 rw[hv]
 exact this
theorem wA {v:Value}{a:Act}{w:World}{t:Nat}(hv:a.eval (.tmp t)=v):∀o:Oper,o.op= .move (.tmp t)→(execOp a.eval o).run Try.prog w= .ok (.value v) w:=fun o ho=>by
 simp only[execOp,ho]
 rw[hv]
 rfl
theorem mr {v:Value}{vs:Array Value}{a:Act}{w:World}{t i:Nat}(hv:a.eval (.tmp t)= .tuple vs)(hi:vs[i]?=some v):∀o:Oper,o.op= .extract (.tmp t) i→(execOp a.eval o).run Try.prog w= .ok (.value v) w:=fun o ho=>by
 simp only[execOp,ho]
 rw[hv]
 simp[Instr.extract,hi]
theorem qj {ops:Array Oper}{u u':FrameMode}{v s7 s8:Value}(hsz8:ops.size=8){o0 o1 o2 o3 o4:Oper}(h0:ops[0]?=some o0)(h1:ops[1]?=some o1)(h2:ops[2]?=some o2)(h3:ops[3]?=some o3)(h4:ops[4]?=some o4)
  (p0:o0.op= .call {callee:= .builtin .recover,args:=#[],argTypes:=#[]}) (p1:o1.op= .typeAssert (.tmp 5) 20 67 true) (p2:o2.op= .move (.tmp 6)) (p3:o3.op= .extract (.tmp 4) 0) (p4:o4.op= .extract (.tmp 4) 1)
  (d0:o0.dst=some 5) (d1:o1.dst=some 6) (d2:o2.dst=some 4) (d3:o3.dst=some 7) (d4:o4.dst=some 8) (g0:o0.guard=none) (g1:o1.guard=none) (g2:o2.guard=none) (g3:o3.guard=none) (g4:o4.guard=none)
  (hr:∀(c₀:Frame) (cs:List Frame),c₀.mode=u→recoverD (c₀::cs)=some (v,{c₀ with mode:=u'}::cs)∨(recoverD (c₀::cs)=none∧v= .nilIface∧{c₀ with mode:=u'}::cs=c₀::cs))
  (ha:∀(w:World) (o:Oper),o.op= .typeAssert (.tmp 5) 20 67 true→(execOp (fun _=>v) o).run Try.prog w= .ok (.value (.tuple #[s7,s8])) w)
  (a:Act) (c₀:Frame) (cs:List Frame) (w:World) (Q:Exit→Act→List Frame→World→Prop) (hsz:a.tmps.size=23) (hm:c₀.mode=u) (h:wpOpsS Try.prog ops Q [5,6,7] (qA a v s7 s8) ({c₀ with mode:=u'}::cs) w):wpOpsS Try.prog ops Q (List.range ops.size) a (c₀::cs) w:=by
 rw[hsz8,show List.range 8=[0,1,2,3,4,5,6,7] from rfl]
 refine tM h0 p0 d0 g0 (fun o ho=>?_) (hr c₀ cs hm) ?_
 ·simp only[execOp,ho]
  rfl
 refine gF h1 p1 d1 g1 (tD (by rw[pc (by omega),if_pos rfl]) (ha w)) ?_
 refine gF h2 p2 d2 g2 (wA (by rw[pc (by simp only[bi];omega),if_pos rfl])) ?_
 refine gF h3 p3 d3 g3 (mr (vs:=#[s7,s8]) (by rw[pc (by simp only[bi];omega),if_pos rfl]) rfl) ?_
 refine gF h4 p4 d4 g4 (mr (vs:=#[s7,s8]) (by rw[pc (by simp only[bi];omega),if_neg (by decide),pc (by simp only[bi];omega),if_pos rfl]) rfl) ?_
 exact h
theorem xx (p:List Ah)(lim:Int)(s:IS)(c:Int):mP (qn Try.prog 33 (.panicking [{v:=gQ c,recovered:=false}]) (.panicking [{v:=gQ c,recovered:=true}])) [im,ig] (clH p lim s) (clE s c):=by
 refine nE (Γ:=Γ) (v5:=gQ c) (s7:= .agg #[.int .i64 c]) (s8:= .bool true) (x7:= .r (.agg [.t (.int .i64 c)])) (x8:=tB true) hΓ ap Try.func33 rfl rfl (by decide) (fun B ρ w ok=>⟨_,rfl,.int _ _,trivial⟩) (fun B ρ w ok=> .bool _) rfl ?_ rfl ?_
 ·refine qj rfl rfl rfl rfl rfl rfl rfl rfl rfl rfl rfl rfl rfl rfl rfl rfl rfl rfl rfl rfl rfl (fun c₀ cs hm=> .inl (by simp[recoverD,hm])) (fun w o ho=>?_)
  simp only[execOp,ho]
  kernel_rfl
 ·conv=>whnf
  repeat' ((conv=>whnf);first|apply Wx|apply W6|apply oi|(apply fi<;>intro h)|refine⟨_,rfl,?_⟩|exact rfl)
  all_goals try exact⟨KP⟩
theorem wM:mP (qn Try.prog 33 .returning .returning) [.r (.c .opq),.r (.c .opq)] [] []:=by
 refine nE (Γ:=Γ) (v5:= .nilIface) (s7:= .agg #[.int .i64 0]) (s8:= .bool false) (x7:= .r (.agg [.t (.int .i64 0)])) (x8:=tB false) hΓ ap Try.func33 rfl rfl (by decide) (fun B ρ w ok=>⟨_,rfl,.int _ _,trivial⟩) (fun B ρ w ok=> .bool _) rfl ?_ rfl ?_
 ·refine qj rfl rfl rfl rfl rfl rfl rfl rfl rfl rfl rfl rfl rfl rfl rfl rfl rfl rfl rfl rfl rfl (fun c₀ cs hm=> .inr ⟨by simp[recoverD,hm],rfl,by rw[←hm]⟩) (fun w o ho=>?_)
  simp only[execOp,ho]
  kernel_rfl
 ·conv=>whnf
  repeat' ((conv=>whnf);first|apply Wx|apply W6|apply oi|(apply fi<;>intro h)|refine⟨_,rfl,?_⟩|exact rfl)
  all_goals try exact⟨KP⟩
abbrev tlH (p:List Ah)(lim:Int):List (Sim.Id×AO):=[((0,0,0),.box [.ptr (0,0,2) 0]),((0,0,1),.box [.nils 1,.nils 1,.t (.int .i64 0),.t (.int .i64 0)]),
 ((0,0,2),.box [.t (.lst 4 (p.map Ah.tr)),.t (.int .i64 lim),.own (0,0,5),.own (0,0,3),.own (0,0,4),.t (.int .i64 0),.t (.int .i64 0),.own (0,0,6)]),((0,0,3),.arr false 1 []),((0,0,4),.dar 1 [] none),((0,0,5),.arr false 1 []),((0,0,6),.arr false 1 ((dt p p.length).map aa))]
abbrev tlV (p:List Ah)(lim:Int):List (Sim.Id×AO):=[((0,0,0),.box [.ptr (0,0,2) 0]),((0,0,1),.box [.nils 1,.nils 1,.t (.int .i64 0),.t (.int .i64 0)]),((0,0,2),rnB p lim (0,0,3) (0,0,4) (0,0,5)),((0,0,3),.arr false 1 []),((0,0,4),.dar 1 [] none),((0,0,5),.arr false 1 [])]
theorem qi {p:List Ah}{lim:Int}{c:Code}{K:Out→St→Prop}(h:Wo false Try.prog Γ 32 c K ⟨[(5,im),(4,ig)],(tlV p lim).map (fun p=>(p.1,some p.2)),[0]⟩):Wo false Try.prog Γ 32 c K ⟨[(5,im),(4,ig)],(tlH p lim).map (fun p=>(p.1,some p.2)),[0]⟩:=by
 refine um ⟨[(5,im),(4,ig)],(tlV p lim).map (fun p=>(p.1,some p.2)),[0]⟩ ?_ ?_ rfl h
 ·exact⟨.inl rfl,.inl rfl,trivial⟩
 ·have tq:∀{H H':Sim.Id→Option AO} {o:Sim.Id} {t:Tr},bW H (.own o) t→H' o=none→vwC H H' (.own o) (.t t):=fun h1 h2=> .inr (.inr ⟨_,rfl,h1,fun q hq=>by simp only[AC.ids,List.mem_cons,List.not_mem_nil,or_false]at hq;subst hq;exact h2⟩)
  exact⟨.inr (.inl rfl),.inr (.inl rfl),.inr (.inr (.inl ⟨_,_,rfl,rfl,.inl rfl,.inl rfl,.inl rfl,.inl rfl,.inl rfl,.inl rfl,.inl rfl,tq rfl rfl,trivial⟩)),.inr (.inl rfl),.inr (.inl rfl),.inr (.inl rfl),trivial⟩
abbrev tlE (s:IS)(v c:Int):List (Sim.Id×AO):=[((0,0,1),.box [.own (1,0,3),.own (1,0,4),.t (.int .i64 v),.t (.int .i64 c)]),((1,0,3),.arr false 1 (s.out.map aa)),((1,0,4),.dar 1 (ae (s.visits.map aV)) none)]
noncomputable abbrev ob:Code:=match Try.f10.body with
 | some (.seq _ (.seq _ (.seq _ (.seq _ t))))=>t
 | _=> .skip
theorem mq:lB Try.prog 33:=dF Try.func33 rfl rfl
theorem xL {p:List Ah}{lim:Int}{v:Int}{s:IS}(gf:bG Try.prog 34 [.r (.c (.ptr (0,0,0) 0)),tI .i64 ((0:Nat):Int),.r (.c (.t (.lst 1 [])))] (rnH (0,0,1) (0,0,2) (0,0,3) p lim [] is0) (tI .i64 v) (rnH (1,0,1) (1,0,2) (1,0,3) p lim [] s)):
  mP (nA Try.prog Try.f10 ob 33) [im,ig] (tlH p lim) (tlE s v 0):=by
 refine nX (Γ:=Γ) hΓ ap mq rfl rfl ?_
 show Wo false Try.prog Γ 32 ob _ _
 refine qi ?_
 repeat' ((conv=>whnf);first|apply Wx|apply W6|apply oi|(apply fi<;>intro h)|refine⟨_,rfl,?_⟩|exact rfl)
 all_goals try exact⟨KP⟩
 refine cg (gf) ?_
 repeat' ((conv=>whnf);first|apply Wx|apply W6|apply oi|(apply fi<;>intro h)|refine⟨_,rfl,?_⟩|exact rfl)
 all_goals try exact⟨KP⟩
 all_goals try exact⟨⟨_,rfl⟩⟩
 conv=>whnf
 refine⟨⟨[(5,im),(4,ig)],[((0,0,1),some (.box [.own (24,0,1),.own (24,0,2),.t (.int .i64 v),.t (.int .i64 0)])),((24,0,1),some (.arr false 1 (s.out.map aa))),((24,0,2),some (.dar 1 (ae (s.visits.map aV)) none))],[24,0]⟩,?_,rfl,rfl,rfl,⟨_,_,_,wM,?_⟩⟩
 ·skip
  repeat' ((conv=>whnf);first|apply Wx|apply W6|apply oi|(apply fi<;>intro h)|refine⟨_,rfl,?_⟩|exact rfl)
  all_goals try exact⟨KP⟩
 ·skip
  repeat' ((conv=>whnf);first|apply Wx|apply W6|apply oi|(apply fi<;>intro h)|refine⟨_,rfl,?_⟩|exact rfl)
  all_goals try exact⟨KP⟩
theorem wm {p:List Ah}{lim:Int}{c:Int}{s:IS}(gf:pL Try.prog 34 [.r (.c (.ptr (0,0,0) 0)),tI .i64 ((0:Nat):Int),.r (.c (.t (.lst 1 [])))] (rnH (0,0,1) (0,0,2) (0,0,3) p lim [] is0) (gQ c) (rnP (1,0,1) (1,0,2) p lim s)):
  mP (nA Try.prog Try.f10 ob 33) [im,ig] (tlH p lim) (tlE s 0 c):=by
 refine nX (Γ:=Γ) hΓ ap mq rfl rfl ?_
 show Wo false Try.prog Γ 32 ob _ _
 refine qi ?_
 repeat' ((conv=>whnf);first|with_reducible refine wq (id:=5) 2 ?_ ?_|((with_reducible show qB _=true);kernel_rfl)|refine Both.mk ?_ ?_|with_reducible apply Wx|with_reducible apply W6|refine cp gf ?_|apply oi|(apply fi<;>intro h)|refine True.intro|refine⟨_,rfl,?_⟩|exact rfl)
 all_goals try exact⟨KP⟩
 all_goals try exact⟨⟨_,rfl⟩⟩
 all_goals(conv=>whnf)
 all_goals refine⟨⟨[(5,im),(4,ig)],[((0,0,0),some (.box [.ptr (0,0,2) 0])),((0,0,1),some (.box [.nils 1,.nils 1,.t (.int .i64 0),.t (.int .i64 0)])),
  ((0,0,2),some (.box [.t (.lst 4 (p.map Ah.tr)),.t (.int .i64 lim),.opq,.own (24,0,1),.own (24,0,2),.t (.int .i64 0),.t (.int .i64 0),.t (.lst 1 ((dt p p.length).map aa))])),
  ((24,0,1),some (.arr false 1 (s.out.map aa))),((24,0,2),some (.dar 1 (ae (s.visits.map aV)) none))],[24,0]⟩,?_,rfl,rfl,rfl,⟨_,_,_,xx p lim s c,?_⟩⟩
 repeat' ((conv=>whnf);first|apply Wx|apply W6|apply oi|(apply fi<;>intro h)|refine⟨_,rfl,?_⟩|exact rfl)
 all_goals try exact⟨KP⟩
theorem lP (p:List Ah)(hs:aF 1048576 (.lst 4 (p.map Ah.tr)))(hpo:aD p=true)(lim:Int)(h0:0≤lim)(h1:lim≤1000):
  bG Try.prog 10 [.r (.c (.t (.lst 4 (p.map Ah.tr)))),tI .i64 lim] [] (.r (.agg [.own (1,0,1),.own (1,0,2),.t (.int .i64 (dY p lim).val),.t (.int .i64 (dY p lim).code)])) [((1,0,1),.arr false 1 ((dY p lim).st.out.map aa)),((1,0,2),.dar 1 (ae ((dY p lim).st.visits.map aV)) none)]:=by
 have hp:=qE hs hpo
 obtain⟨n,hn⟩:=kh hp hpo h0
 have hP:=fQ p hs
 rw[hpo]at hP
 have gl:=aZ lim 0 1000
 rw[show af lim 0 1000=true by rw[within_iff];exact⟨h0,h1⟩]at gl
 have hO:=pt p hp.len
 obtain⟨y,hy,hy0,_,hya⟩:=qx hpo
 have hA:argsN p 0=0:=by rw[argsN,hy];dsimp only;rw[hya];rfl
 have gp:=xZ hp hpo (lim:=lim) n [] 0 [] is0 ⟨y,hy,hy0⟩ (by rw[hA];rfl) ⟨h1,by simpa using h0,by simp,by simp⟩ hn
 rw[show(((0:Nat):Int))=0 from rfl,show(0:Nat)+1=1 from rfl,←kz hn]at gp
 have hcode:∃v s c,(dY p lim).val=v∧(dY p lim).st=s∧(dY p lim).code=c∧mP (nA Try.prog Try.f10 ob 33) [im,ig] (tlH p lim) (tlE s v c):=by
  have hx:=ct (p:=p) (lim:=lim) n [] 0 1 (bZ (localsOf p 0).length []) is0
  rw[←kz hn]at hx hn
  cases hr:dY p lim with
  | ok v s=>rw[hr]at gp;exact⟨v,s,0,rfl,rfl,rfl,xL gp⟩
  | stop c s=>rw[hr]at gp;exact⟨0,s,c,rfl,rfl,rfl,wm gp⟩
  | fuel=>exact absurd hr hn
 obtain⟨v,s,c,hv,hst,hc,ht⟩:=hcode
 rw[hv,hst,hc]
 refine sD hΓ Try.func10 rfl rfl rfl rfl fun B M w0 ρ a w Q hF hd hco hQ=>?_
 refine qM hΓ ap hF hco (S:=⟨[(0,.r (.c (.t (.lst 4 (p.map Ah.tr))))),(1,tI .i64 lim),(4,.r (.c (.ptr (4,0,0) 0)))],[((4,0,0),some (.box [.nils 1,.nils 1,.t (.int .i64 0),.t (.int .i64 0)]))],[4,0]⟩) ?_ fun ρ1 a1 w1 hc1=>?_
 ·skip
  repeat' ((conv=>whnf);first|apply Wx|apply W6|apply oi|(apply fi<;>intro h)|refine⟨_,rfl,?_⟩|exact rfl)
  all_goals try exact⟨KP⟩
 refine qM hΓ ap hF hc1 (S:=⟨[(0,.r (.c (.t (.lst 4 (p.map Ah.tr))))),(1,tI .i64 lim),(4,.r (.c (.ptr (4,0,0) 0)))],[((4,0,0),some (.box [.nils 1,.nils 1,.t (.int .i64 0),.t (.int .i64 0)]))],[4,0]⟩) ?_ fun ρ2 a2 w2 hc2=>?_
 ·skip
  repeat' ((conv=>whnf);first|apply Wx|apply W6|apply oi|(apply fi<;>intro h)|refine cl hP ?_|refine cl gl ?_|refine⟨_,rfl,?_⟩|exact rfl)
  all_goals try exact⟨KP⟩
  all_goals try exact KX
 refine qM hΓ ap hF hc2 (S:=⟨[(5,.r (.c (.ptr (5,0,0) 0))),(4,.r (.c (.ptr (4,0,0) 0)))],[((4,0,0),some (.box [.nils 1,.nils 1,.t (.int .i64 0),.t (.int .i64 0)])),((5,0,0),some (.box [.ptr (20,0,0) 0])),
  ((20,0,0),some (.box [.t (.lst 4 (p.map Ah.tr)),.t (.int .i64 lim),.own (20,0,1),.own (20,0,2),.own (20,0,3),.t (.int .i64 0),.t (.int .i64 0),.own (18,0,0)])),((20,0,1),some (.arr false 1 [])),((20,0,2),some (.arr false 1 [])),((20,0,3),some (.dar 1 [] none)),((18,0,0),some (.arr false 1 ((dt p p.length).map aa)))],[20,18,5,4,0]⟩) ?_ fun ρ3 a3 w3 hc3=>?_
 ·skip
  repeat' ((conv=>whnf);first|apply Wx|apply W6|apply oi|(apply fi<;>intro h)|refine cl hO ?_|refine⟨_,rfl,?_⟩|exact rfl)
  all_goals try exact⟨KP⟩
 refine wH hΓ hF hd hc3 rfl (by decide) (by decide) (by decide) rfl rfl rfl rfl rfl (fun a w=>?_) (fun a w vs h=>?_) ⟨_,_,_,ht,?_⟩ hQ
 ·simp[execOp,Instr.makeFunc]
 ·simp[execOp,resolve,h,Deferred.ofValue]
 ·skip
  repeat' ((conv=>whnf);first|apply Wx|apply W6|apply oi|(apply fi<;>intro h)|refine⟨_,rfl,?_⟩|exact rfl)
  all_goals try exact⟨KP⟩
def vA (Φ:IS→Prop){α:Type}(r:Rr α):Prop:=match r with
 | .ok _ s=>Φ s
 | .stop _ s=>Φ s
 | .fuel=>True
section
variable {p:List Ah} {locals:List (List UInt8)} {vals:List Int} {call:gd} {Φ:IS→Prop}
mutual
theorem uM (h:∀g av s,Φ s→vA Φ (call g av s)):∀(e:Ex) (s:IS),Φ s→vA Φ (evE p locals vals call e s)
 | .node t es,s,hs=>by
  have h1:=sb h es s hs
  rw[evE]
  cases hr:aJ p locals vals call es s with
  | ok av s1=>
   rw[hr]at h1
   rw[Rr.bnd_ok,cI]
   split
   ·exact h1
   ·split
    ·exact h1
    ·split
     ·exact h _ _ _ h1
     ·exact h1
  | stop c s1=>rw[hr]at h1;exact h1
  | fuel=>trivial
theorem sb (h:∀g av s,Φ s→vA Φ (call g av s)):∀(es:List Ex) (s:IS),Φ s→vA Φ (aJ p locals vals call es s)
 | [],s,hs=>by rw[aJ];exact hs
 | a::es,s,hs=>by
  have h1:=uM h a s hs
  rw[aJ]
  cases hr:evE p locals vals call a s with
  | ok v s1=>
   rw[hr]at h1
   rw[Rr.bnd_ok]
   have h2:=sb h es s1 h1
   cases hr2:aJ p locals vals call es s1 with
   | ok vs s2=>rw[hr2]at h2;exact h2
   | stop c s2=>rw[hr2]at h2;exact h2
   | fuel=>trivial
  | stop c s1=>rw[hr]at h1;exact h1
  | fuel=>trivial
end
theorem eX {lim:Int}(hvis:∀(calls:List Int) (k:Nat) (s:IS),calls.length≤6→Φ s→Φ ⟨s.out,s.visits++[calls++[(k:Int)]]⟩)(hout:∀(s:IS) (v:Int),Φ s→Φ ⟨s.out++[v],s.visits⟩):
  ∀(n:Nat) (calls:List Int) (f k:Nat) (vals:List Int) (s:IS),calls.length≤6→Φ s→vA Φ (aC p lim n calls f k vals s)
 | 0,_,_,_,_,_,_,_=>trivial
 | n+1,calls,f,k,vals,s,hc,hs=>by
  cases hk:p[k]? with
  | none=>rw[fj hk];exact hs
  | some ln=>
   by_cases h7:ln.faa=7
   ·rw[bv hk h7]
    split
    ·exact hs
    ·exact eX hvis hout n _ _ _ _ _ hc hs
   by_cases h4:ln.faa=4
   ·rw[cw hk h4]
    exact eX hvis hout n _ _ _ _ _ hc hs
   by_cases hv:(s.visits.length:Int)=lim
   ·rw[cu hk h7 h4 hv];exact hs
   ·rw[cB hk h7 h4 hv]
    have hcall:∀g av s,Φ s→vA Φ (aB p lim n calls k g av s):=by
     intro g av s' hs'
     unfold aB
     split
     ·exact hs'
     ·exact eX hvis hout n _ _ _ _ _ (by rw[List.length_append];simp;omega) hs'
    have he:=uM (p:=p) (locals:=localsOf p (f:Int)) (vals:=vals) hcall (exL ln.fad) _ (hvis calls k s hc hs)
    cases hr:evE p (localsOf p (f:Int)) vals (aB p lim n calls k) (exL ln.fad) ⟨s.out,s.visits++[calls++[(k:Int)]]⟩with
    | ok v s1=>
     rw[hr]at he
     rw[Rr.bnd_ok]
     split
     ·exact he
     ·refine eX hvis hout n _ _ _ _ _ hc ?_
      unfold ey
      split
      ·exact hout _ _ he
      ·exact he
    | stop c s1=>rw[hr]at he;exact he
    | fuel=>trivial
end
structure RunOk (lim:Int) (R:Rr Int):Prop where
 nf:R≠.fuel
 vis:(R.st.visits.length:Int)≤lim
 out:R.st.out.length≤R.st.visits.length
 rows:∀x∈R.st.visits,x.length≤7
 code:R.code=0∨R.code=1∨R.code=2
theorem xI {p:List Ah}(hp:PgOk p)(h:aD p=true){lim:Int}(h0:0≤lim):RunOk lim (dY p lim):=by
 obtain⟨n,hn⟩:=kh hp h h0
 rw[kz hn]
 have hx:=ct (p:=p) (lim:=lim) n [] 0 1 (bZ (localsOf p 0).length []) is0
 have hr:=eX (p:=p) (lim:=lim) (Φ:=fun s=>∀x∈s.visits,x.length≤7) (fun calls k s hc hs x hx=>by
  rcases List.mem_append.1 hx with hx|hx
  ·exact hs x hx
  ·rw[List.mem_singleton]at hx;subst hx;rw[List.length_append];simp;omega) (fun s v hs=>hs) n [] 0 1 (bZ (localsOf p 0).length []) is0 (by simp) (fun x hx=>by cases hx)
 cases hR:aC p lim n [] 0 1 (bZ (localsOf p 0).length []) is0 with
 | fuel=>exact absurd hR hn
 | ok v s=>
  rw[hR]at hx hr
  have h1:=hx.le (by simpa using h0)
  have h2:=hx.ol
  exact⟨(fun e=>by cases e),h1,(show s.out.length≤s.visits.length by simpa using h2),hr,.inl rfl⟩
 | stop c s=>
  rw[hR]at hx hr
  have h1:=hx.1.le (by simpa using h0)
  have h2:=hx.1.ol
  exact⟨(fun e=>by cases e),h1,(show s.out.length≤s.visits.length by simpa using h2),hr,.inr hx.2⟩
end Go.Proofs.Ytjmplnfiabmalaa
namespace Go.Proofs.Ytjmplnfiabmalaa
open Go.Sim Go.RowKit
set_option maxRecDepth 100000
structure An where
 fae:List Int
 fag:List (List Int)
 fao:Int
 fai:Int
def An.tr (x:An):List Tr:=[.lst 1 (x.fae.map aa),.lst 1 (x.fag.map (aq 1 aa)),.int .i64 x.fao,.int .i64 x.fai]
def An.wf (x:An):Prop:=(x.fae.length≤maxLen∧∀y∈x.fae,inI y)∧(x.fag.length≤maxLen∧∀y∈x.fag,(y.length≤maxLen∧∀z∈y,inI z))∧inI x.fao∧inI x.fai
theorem pm (xs:List (List Int))(hs:aF 1048576 (.lst 1 (xs.map (aq 1 aa)))):Sim.Spec Try.prog 36 [tvL 1 (xs.map (aq 1 aa)),tvL 1 (xs.map (aq 1 aa))] (rB true):=by
 have hl:=cm hs
 have hlen:(xs.map (aq 1 aa)).length=xs.length:=by simp
 refine an hΓ ap Try.func36 rfl (by decide) rfl ?_
 repeat' ((conv=>whnf);first|refine Or.inl ?_|apply oi|(apply fi<;>intro h)|refine⟨_,rfl,?_⟩|exact rfl)
 all_goals try exact⟨KO⟩
 ·simp at h
 conv=>whnf
 refine⟨{k:Nat // k≤xs.length},fun k=>⟨[(0,.r (.c (.t (.lst 1 (xs.map (aq 1 aa)))))),(1,.r (.c (.t (.lst 1 (xs.map (aq 1 aa)))))),(5,tI .i64 (k.1:Int))],[],[]⟩,fun k=>xs.length - k.1,⟨0,by omega⟩,?_,?_⟩
 ·skip
  repeat' ((conv=>whnf);first|refine Or.inl ?_|apply oi|(apply fi<;>intro h)|refine⟨_,rfl,?_⟩|exact rfl)
  all_goals try exact⟨KO⟩
 intro⟨k,hk⟩
 dsimp only
 repeat' ((conv=>whnf);first|refine Or.inl ?_|apply oi|(apply fi<;>intro h)|refine⟨_,rfl,?_⟩|exact rfl)
 all_goals try exact⟨KO⟩
 ·have hlt:k < xs.length:=by have:=of_decide_eq_true h;omega
  obtain⟨x,hx⟩:=ak hlt
  have hsr:=aS hs (List.mem_of_getElem? hx)
  simp only[aq,ay]at hsr
  have hsr:=hsr.1
  conv=>whnf
  refine⟨k,_,rfl,ab hx,?_⟩
  repeat' ((conv=>whnf);first|refine Or.inl ?_|apply oi|(apply fi<;>intro h)|refine ci ((fF x x (aX hsr))) (ai rfl (ai rfl trivial)) ?_|refine⟨_,rfl,?_⟩|exact rfl)
  all_goals try exact⟨KO⟩
  conv=>whnf
  refine⟨k,_,rfl,ab hx,?_⟩
  repeat' ((conv=>whnf);first|refine Or.inl ?_|apply oi|(apply fi<;>intro h)|refine ci ((fF x x (aX hsr))) (ai rfl (ai rfl trivial)) ?_|refine⟨_,rfl,?_⟩|exact rfl)
  all_goals try exact⟨KO⟩
  all_goals try(exfalso;simp at h;done)
  conv=>whnf
  refine⟨⟨k+1,by omega⟩,?_,KD⟩
  repeat' ((conv=>whnf);first|refine Or.inl ?_|apply oi|(apply fi<;>intro h)|refine⟨_,rfl,?_⟩|exact rfl)
  all_goals try exact⟨KO⟩
  exact⟨by dsimp only;rw[IntWalk.i64_in _ (by omega)];rfl⟩
theorem rP (x:An)(hs:ay 1048576 x.tr):Sim.Spec Try.prog 11 [.agg x.tr,.agg x.tr] (rB true):=by
 simp only[An.tr,ay]at hs
 refine an hΓ ap Try.func11 rfl (by decide) rfl ?_
 repeat' ((conv=>whnf);first|refine Or.inl ?_|apply oi|(apply fi<;>intro h)|refine ci ((fF x.fae x.fae (aX hs.1))) (ai rfl (ai rfl trivial)) ?_|refine ci ((pm x.fag hs.2.1)) (ai rfl (ai rfl trivial)) ?_|refine⟨_,rfl,?_⟩|exact rfl)
 all_goals try exact⟨KO⟩
 all_goals simp at *
end Go.Proofs.Ytjmplnfiabmalaa
namespace Go.Proofs.Ytjmplnfiabmalaa
open Go.Sim
set_option maxRecDepth 100000
set_option maxHeartbeats 4000000
noncomputable def kv (p:List Ah) (lim:Int):An:=if(aD p && af lim 0 1000)=true then⟨(dY p lim).st.out,(dY p lim).st.visits,(dY p lim).val,(dY p lim).code⟩else⟨[],[],0,3⟩
abbrev zj (x:An):List (Sim.Id×AO):=[((1,0,1),.arr false 1 (x.fae.map aa)),((1,0,2),.dar 1 (ae (x.fag.map (aq 1 aa))) none)]
abbrev yG (x:An):AV:= .r (.agg [.own (1,0,1),.own (1,0,2),.t (.int .i64 x.fao),.t (.int .i64 x.fai)])
theorem ny {p:List Ah}{lim:Int}(h:¬(aD p && af lim 0 1000)=true):kv p lim=⟨[],[],0,3⟩:=by rw[kv,if_neg h]
theorem qH {p:List Ah}{lim:Int}(h:(aD p && af lim 0 1000)=true):kv p lim=⟨(dY p lim).st.out,(dY p lim).st.visits,(dY p lim).val,(dY p lim).code⟩:=by rw[kv,if_pos h]
theorem jE {L:Int}:∀{rs:List (List Tr)},(∀r∈rs,ay L r)→dn L rs
 | [],_=>by rw[dn];trivial
 | r::rs,h=>by rw[dn];exact⟨h r (by simp),jE fun x hx=>h x (by simp[hx])⟩
theorem jX {l:List Int}(h:l.length≤1000):aF 1048576 (.lst 1 (l.map aa)):=by
 rw[aF]
 refine⟨by simp;omega,jE fun r hr=>?_⟩
 obtain⟨x,_,rfl⟩:=List.mem_map.1 hr
 rw[aa,ay,ay,aF]
 trivial
theorem uq {p:List Ah}(hs:aF 1048576 (.lst 4 (p.map Ah.tr)))(lim:Int):ay 1048576 (kv p lim).tr:=by
 by_cases h:(aD p && af lim 0 1000)=true
 ·rw[qH h]
  rw[Bool.and_eq_true,within_iff]at h
  have hk:=xI (qE hs h.1) h.1 h.2.1
  have hv:=hk.vis
  have ho:=hk.out
  rw[An.tr,ay,ay,ay,ay,ay]
  refine⟨jX (by dsimp only;omega),?_,by rw[aF];trivial,by rw[aF];trivial,trivial⟩
  rw[aF]
  refine⟨by simp;omega,jE fun r hr=>?_⟩
  obtain⟨x,hx,rfl⟩:=List.mem_map.1 hr
  rw[aq,ay,ay]
  exact⟨jX (by have:=hk.rows x hx;omega),trivial⟩
 ·rw[ny h]
  rw[An.tr,ay,ay,ay,ay,ay]
  exact⟨jX (by simp),by rw[aF];exact⟨by simp,by rw[List.map_nil,dn];trivial⟩,by rw[aF];trivial,by rw[aF];trivial,trivial⟩
theorem lw (p:List Ah)(hs:aF 1048576 (.lst 4 (p.map Ah.tr)))(lim:Int):
  bG Try.prog 8 [.r (.c (.t (.lst 4 (p.map Ah.tr)))),tI .i64 lim] [] (yG (kv p lim)) (zj (kv p lim)):=by
 by_cases h:(aD p && af lim 0 1000)=true
 ·rw[qH h]
  rw[Bool.and_eq_true,within_iff]at h
  exact lW p hs h.1 lim h.2.1 h.2.2
 rw[ny h]
 have hP:=fZ p hs
 have gl:=dx lim 0 1000
 generalize aD p=b1 at *
 generalize af lim 0 1000=b2 at *
 refine aT hΓ ap Try.func8 rfl (by decide) rfl rfl ?_
 repeat' ((conv=>whnf);first|(with_reducible apply W1;fail_if_success (with_reducible show Wo _ _ _ _ (Code.region 4 _ _) _ _))|(with_reducible first|apply W2|apply W3|apply W4|apply W5|apply W6|apply W7|apply W8|apply W9)|apply bu|apply oi|(apply fi<;>intro h)|refine cl hP ?_|refine cl gl ?_|refine⟨_,rfl,?_⟩|exact rfl)
 all_goals try exact⟨KP⟩
 all_goals try(exfalso;revert h;cases b1 <;> cases b2 <;> simp_all;done)
theorem lx (p:List Ah)(hs:aF 1048576 (.lst 4 (p.map Ah.tr)))(lim:Int):
  bG Try.prog 10 [.r (.c (.t (.lst 4 (p.map Ah.tr)))),tI .i64 lim] [] (yG (kv p lim)) (zj (kv p lim)):=by
 by_cases h:(aD p && af lim 0 1000)=true
 ·rw[qH h]
  rw[Bool.and_eq_true,within_iff]at h
  exact lP p hs h.1 lim h.2.1 h.2.2
 rw[ny h]
 have hP:=fQ p hs
 have gl:=aZ lim 0 1000
 generalize aD p=b1 at *
 generalize af lim 0 1000=b2 at *
 refine aT hΓ ap Try.func10 rfl (by decide) rfl rfl ?_
 repeat' ((conv=>whnf);first|(with_reducible apply W1;fail_if_success (with_reducible show Wo _ _ _ _ (Code.region 3 _ _) _ _))|(with_reducible first|apply W2|apply W3|apply W4|apply W5|apply W6|apply W7|apply W8|apply W9)|apply bu|apply oi|(apply fi<;>intro h)|refine cl hP ?_|refine cl gl ?_|refine⟨_,rfl,?_⟩|exact rfl)
 all_goals try exact⟨KP⟩
 all_goals try(exfalso;revert h;cases b1 <;> cases b2 <;> simp_all;done)
theorem kP (p:List Ah)(hs:aF 1048576 (.lst 4 (p.map Ah.tr)))(lim:Int):Sim.Spec Try.prog 8 [tvP p,tvI lim] (.r (.agg ((kv p lim).tr.map yA))):=by
 refine vC (ts:=[tvP p,tvI lim]) (lw p hs lim) rfl ⟨trivial,trivial,trivial,trivial,trivial⟩ ⟨rfl,rfl,?_⟩
 repeat' ((conv=>whnf);first|exact rfl|exact trivial|(refine And.intro ?_ ?_))
 all_goals first|rfl|exact db _
abbrev zw (x:An):List (Sim.Id×AO):=[((1,0,1),.arr true 1 (x.fae.map aa)),((1,0,2),.dar 1 (ae (x.fag.map (aq 1 aa))) none)]
theorem kw (p:List Ah)(hs:aF 1048576 (.lst 4 (p.map Ah.tr)))(lim:Int):
  bG Try.prog 10 [.r (.c (.t (.lst 4 (p.map Ah.tr)))),tI .i64 lim] [] (yG (kv p lim)) (zw (kv p lim)):=by
 refine vV (lx p hs lim) rfl ?_
 repeat' ((conv=>whnf);first|exact rfl|exact trivial|(refine And.intro ?_ ?_))
 all_goals first|rfl|exact db _
end Go.Proofs.Ytjmplnfiabmalaa
namespace Go.Proofs.Ytjmplnfiabmalaa
open Go.Sim Go.RowKit
set_option maxRecDepth 100000
set_option maxHeartbeats 4000000
theorem lE (xs:List (List Int))(k:Int)(hk0:0≤k)(hl:xs.length≤1099511627776)(hk:k+(au (xs.map (aq 1 aa)):Nat)≤4611686018427387904)(hin:∀x∈xs,x.length≤1099511627776):bG Try.prog 42 [.r (.c (.own (0,0,0))),tI .i64 k] [((0,0,0),.dar 1 (ae (xs.map (aq 1 aa))) none)] (tI .i64 (k+(au (xs.map (aq 1 aa)):Nat))) [((0,0,0),.dar 1 (ae (aG (xs.map (aq 1 aa)) k)) none)]:=by
 refine cV hΓ ap Try.func42 rfl (by decide) rfl rfl ?_
 repeat' ((conv=>whnf);first|refine Or.inl ?_|apply oi|(apply fi<;>intro h)|refine⟨_,rfl,?_⟩|exact rfl)
 all_goals try exact⟨KO⟩
 conv=>whnf
 refine⟨{q:List (List Int)×List (List Int) // q.1++q.2=xs},fun q=>⟨[(0,.r (.c (.own (0,0,0)))),(1,tI .i64 (k+(au (q.1.1.map (aq 1 aa)):Nat))),(5,tI .i64 (q.1.1.length:Nat))],[((0,0,0),some (.dar 1 (ae (aG (q.1.1.map (aq 1 aa)) k++q.1.2.map (aq 1 aa))) none))],[0]⟩,fun q=>q.1.2.length,⟨([],xs),rfl⟩,?_,?_⟩
 ·skip
  repeat' ((conv=>whnf);first|refine Or.inl ?_|apply oi|(apply fi<;>intro h)|refine⟨_,rfl,?_⟩|exact rfl)
  all_goals try exact⟨KO⟩
  all_goals exact⟨by first|rfl|simp[au,aG]⟩
 intro⟨⟨a,b⟩,hab⟩
 dsimp only at hab ⊢
 have hal:a.length+b.length≤1099511627776:=by rw[←List.length_append,hab];exact hl
 have hsum:k+(au (a.map (aq 1 aa)):Nat)+(au (b.map (aq 1 aa)):Nat)=k+(au (xs.map (aq 1 aa)):Nat):=by rw[←hab,List.map_append,bH];omega
 have hall:aG (xs.map (aq 1 aa)) k=aG (a.map (aq 1 aa)) k++aG (b.map (aq 1 aa)) (k+(au (a.map (aq 1 aa)):Nat)):=by rw[←hab,List.map_append,bq]
 have hDl:(aG (a.map (aq 1 aa)) k).length=a.length:=by rw[bx,List.length_map]
 generalize hR:ae (aG (a.map (aq 1 aa)) k++b.map (aq 1 aa))=R
 have hRl:R.length=a.length+b.length:=by rw[←hR];simp[hDl,aE]
 generalize hK:k+(au (a.map (aq 1 aa)):Nat)=K at hsum hall ⊢
 generalize hD:aG (a.map (aq 1 aa)) k=D at hR hall hDl
 generalize hT:aG (xs.map (aq 1 aa)) k=T at hall ⊢
 generalize hC:k+(au (xs.map (aq 1 aa)):Nat)=C at hk hsum ⊢
 have hK0:0≤K:=by omega
 rcases hb:b with _|⟨x,b2⟩
 all_goals rw[hb]at hR hall hsum hRl hal
 ·have hKC:K=C:=by simpa [au]using hsum
  have hRT:R=ae (T):=by rw[hall,←hR];simp[aG]
  repeat' ((conv=>whnf);first|refine Or.inl ?_|apply oi|(apply fi<;>intro h)|refine⟨_,rfl,?_⟩|exact rfl)
  all_goals try exact⟨KO⟩
  all_goals try(exfalso;have h':=of_decide_eq_true h;rw[hRl]at h';simp at h';done)
  all_goals first|exact⟨by rw[hKC]⟩|exact⟨hRT⟩
 ·have hal2:a.length+(b2.length+1)≤1099511627776:=hal
  have hcx:cnR ((aq 1 aa) x)=0+au (x.map aa):=by simp only[aq,cnR,cnT] <;> omega
  have hsm:K+((0+au (x.map aa):Nat):Int)+(au (b2.map (aq 1 aa)):Nat)=C:=by rw[←hsum,List.map_cons,au,hcx];omega
  have hRl2:R.length=a.length+(b2.length+1):=hRl
  have hix:=hin x (by rw[←hab,hb];simp)
  have aU:R[a.length]?=some ((((aq 1 aa) x).map .d)):=by rw[←hR,List.map_cons,cS,dS];exact gN (by rw[aE];exact hDl)
  repeat' ((conv=>whnf);first|refine cg (gV x (K) (by omega) hix (by omega)) ?_|refine Or.inl ?_|apply oi|(apply fi<;>intro h)|refine⟨_,aU,?_⟩|refine⟨_,gi (by(try simp only[List.length_set]);omega),?_⟩|refine ci ((cb _ (by(try simp(disch:=omega)only[IntWalk.i64_in]);omega))) (ai rfl trivial) ?_|refine⟨_,rfl,?_⟩|exact rfl)
  all_goals try exact⟨KO⟩
  all_goals try(exfalso;have h':=of_decide_eq_false h;omega;done)
  all_goals try exact⟨by(try simp only[List.length_set]);omega⟩
  all_goals try exact⟨dq _ (by intro x c hc sz rs e;subst e;simp[aa]at hc)⟩
  all_goals try exact⟨kQ _ _ (dq _ (by intro x c hc sz rs e;subst e;simp[aa]at hc))⟩
  all_goals try exact⟨K2⟩
  conv=>whnf
  refine⟨⟨(a++[x],b2),by rw[←hab,hb];simp⟩,?_,Nat.lt_succ_self _⟩
  repeat' ((conv=>whnf);first|refine Or.inl ?_|apply oi|(apply fi<;>intro h)|refine⟨_,aU,?_⟩|refine⟨_,gi (by(try simp only[List.length_set]);omega),?_⟩|refine⟨_,rfl,?_⟩|exact rfl)
  all_goals try exact⟨KO⟩
  all_goals try exact⟨kQ _ _ (dq _ (by intro x c hc sz rs e;subst e;simp[aa]at hc))⟩
  ·refine⟨congrArg (Tr.int _) ?_⟩
   dsimp only
   rw[dH,hcx]
   try simp(disch:=omega)only[IntWalk.i64_in]
   try omega
  ·refine⟨congrArg (Tr.int _) ?_⟩
   dsimp only
   rw[List.length_append]
   try simp(disch:=omega)only[IntWalk.i64_in]
   try rfl
  ·refine⟨?_⟩
   dsimp only
   have hDd:(ae D).length=a.length:=by rw[aE];exact hDl
   rw[fX,fV,hD,hK,←hR]
   try simp(disch:=omega)only[set_set,cS,dS,kL hDd,List.map_cons,IntWalk.i64_in]
   try rfl
theorem lR (xs:List (List Int))(k:Int)(hk0:0≤k)(hl:xs.length≤1099511627776)(hk:k+(au (xs.map (aq 1 aa)):Nat)≤4611686018427387904)(hin:∀x∈xs,x.length≤1099511627776):Sim.Spec Try.prog 44 [tvL 1 (aG (xs.map (aq 1 aa)) k),tvI k] (rI (k+(au (xs.map (aq 1 aa)):Nat))):=by
 refine an hΓ ap Try.func44 rfl (by decide) rfl ?_
 have hTl:(aG (xs.map (aq 1 aa)) k).length=xs.length:=by rw[bx,List.length_map]
 have hal0:=fun(a b:List (List Int))=>bq (a.map (aq 1 aa)) (b.map (aq 1 aa)) k
 generalize hT:aG (xs.map (aq 1 aa)) k=T at hTl ⊢
 repeat' ((conv=>whnf);first|refine Or.inl ?_|apply oi|(apply fi<;>intro h)|refine⟨_,rfl,?_⟩|exact rfl)
 all_goals try exact⟨KO⟩
 conv=>whnf
 refine⟨{q:List (List Int)×List (List Int) // q.1++q.2=xs},fun q=>⟨[(0,.r (.c (.t (.lst 1 T)))),(1,tI .i64 (k+(au (q.1.1.map (aq 1 aa)):Nat))),(5,tI .i64 (q.1.1.length:Nat))],[],[]⟩,fun q=>q.1.2.length,⟨([],xs),rfl⟩,?_,?_⟩
 ·skip
  repeat' ((conv=>whnf);first|refine Or.inl ?_|apply oi|(apply fi<;>intro h)|refine⟨_,rfl,?_⟩|exact rfl)
  all_goals try exact⟨KO⟩
  all_goals exact⟨by first|rfl|simp[au]⟩
 intro⟨⟨a,b⟩,hab⟩
 dsimp only at hab ⊢
 have hal:a.length+b.length≤1099511627776:=by rw[←List.length_append,hab];exact hl
 have hsum:k+(au (a.map (aq 1 aa)):Nat)+(au (b.map (aq 1 aa)):Nat)=k+(au (xs.map (aq 1 aa)):Nat):=by rw[←hab,List.map_append,bH];omega
 have hall:T=aG (a.map (aq 1 aa)) k++aG (b.map (aq 1 aa)) (k+(au (a.map (aq 1 aa)):Nat)):=by rw[←hT,←hab,List.map_append,bq]
 have hDl:(aG (a.map (aq 1 aa)) k).length=a.length:=by rw[bx,List.length_map]
 have hTl2:T.length=a.length+b.length:=by rw[hTl,←hab,List.length_append]
 generalize hK:k+(au (a.map (aq 1 aa)):Nat)=K at hsum hall ⊢
 generalize hD:aG (a.map (aq 1 aa)) k=D at hall hDl
 generalize hC:k+(au (xs.map (aq 1 aa)):Nat)=C at hk hsum ⊢
 have hK0:0≤K:=by omega
 rcases hb:b with _|⟨x,b2⟩
 all_goals rw[hb]at hall hsum hTl2 hal
 ·have hKC:K=C:=by simpa [au]using hsum
  repeat' ((conv=>whnf);first|refine Or.inl ?_|apply oi|(apply fi<;>intro h)|refine⟨_,rfl,?_⟩|exact rfl)
  all_goals try exact⟨KO⟩
  all_goals try(exfalso;have h':=of_decide_eq_true h;rw[hTl2]at h';simp at h';done)
  all_goals exact⟨by rw[hKC]⟩
 ·have hal2:a.length+(b2.length+1)≤1099511627776:=hal
  have hcx:cnR ((aq 1 aa) x)=0+au (x.map aa):=by simp only[aq,cnR,cnT] <;> omega
  have hsm:K+((0+au (x.map aa):Nat):Int)+(au (b2.map (aq 1 aa)):Nat)=C:=by rw[←hsum,List.map_cons,au,hcx];omega
  have hTl3:T.length=a.length+(b2.length+1):=hTl2
  have hix:=hin x (by rw[←hab,hb];simp)
  have aU:T[a.length]?=some [.lst 1 (aG (x.map aa) (K))]:=by rw[hall,List.map_cons,aG];exact gN hDl
  repeat' ((conv=>whnf);first|refine Or.inl ?_|apply oi|(apply fi<;>intro h)|refine⟨a.length,_,rfl,aU,?_⟩|refine⟨_,rfl,?_⟩|exact rfl)
  all_goals try exact⟨KO⟩
  all_goals try(exfalso;have h':=of_decide_eq_false h;omega;done)
  all_goals try(exfalso;(try have h':=of_decide_eq_true h);(try simp(disch:=omega) [IntWalk.i64_in]at h');(try simp(disch:=omega) [IntWalk.i64_in]at h);(try omega);done)
  repeat' ((conv=>whnf);first|refine Or.inl ?_|apply oi|(apply fi<;>intro h)|refine⟨a.length,_,rfl,aU,?_⟩|refine ci ((gS x (K) (by omega) hix (by omega))) (ai rfl (ai KW trivial)) ?_|refine⟨_,rfl,?_⟩|exact rfl)
  all_goals try exact⟨KO⟩
  all_goals try(exfalso;have h':=of_decide_eq_false h;omega;done)
  all_goals try(exfalso;(try have h':=of_decide_eq_true h);(try simp(disch:=omega) [IntWalk.i64_in]at h');(try simp(disch:=omega) [IntWalk.i64_in]at h);(try omega);done)
  conv=>whnf
  refine⟨⟨(a++[x],b2),by rw[←hab,hb];simp⟩,?_,Nat.lt_succ_self _⟩
  repeat' ((conv=>whnf);first|refine Or.inl ?_|apply oi|(apply fi<;>intro h)|refine⟨_,rfl,?_⟩|exact rfl)
  all_goals try exact⟨KO⟩
  ·refine⟨congrArg (Tr.int _) ?_⟩
   dsimp only
   rw[dH,hcx]
   try simp(disch:=omega)only[IntWalk.i64_in]
   try omega
  ·refine⟨congrArg (Tr.int _) ?_⟩
   dsimp only
   rw[List.length_append]
   try simp(disch:=omega)only[IntWalk.i64_in]
   try rfl
theorem wi (xs:List (List Int))(hs:aF 1048576 (.lst 1 (xs.map (aq 1 aa)))):au (xs.map (aq 1 aa))≤1048576 * 1048576:=by
 have h1:=aX hs
 refine Nat.le_trans (dX (g:=(aq 1 aa)) (M:=1048576) fun x hx=>?_) (Nat.mul_le_mul_right _ h1)
 have hcx:cnR ((aq 1 aa) x)=0+au (x.map aa):=by simp only[aq,cnR,cnT] <;> omega
 rw[hcx]
 have hr:=aS hs hx
 simp only[aq,ay]at hr
 have c0:=vf _ (hr.1)
 omega
theorem qt (xs:List (List Int))(hs:aF 1048576 (.lst 1 (xs.map (aq 1 aa)))):∀x∈xs,x.length≤1099511627776:=by
 intro x hx
 have hr:=aS hs hx
 simp only[aq,ay]at hr
 exact Nat.le_trans (aX (hr.1)) (by omega)
theorem oZ (x:An)(k:Int)(hk0:0≤k)(hl0:x.fae.length≤1099511627776)(hl1:x.fag.length≤1099511627776)(hin1:∀y∈x.fag,y.length≤1099511627776)(hk:k+(au (x.fae.map aa):Nat)+(au (x.fag.map (aq 1 aa)):Nat)≤4611686018427387904):bG Try.prog 14 [.r (.agg [.own (0,0,0),.own (0,0,1),.t (.int .i64 x.fao),.t (.int .i64 x.fai)]),tI .i64 k] [((0,0,0),.arr false 1 (x.fae.map aa)),((0,0,1),.dar 1 (ae (x.fag.map (aq 1 aa))) none)] (tI .i64 (k+(au (x.fae.map aa):Nat)+(au (x.fag.map (aq 1 aa)):Nat))) [((0,0,0),.arr false 1 (aG (x.fae.map aa) (k))),((0,0,1),.dar 1 (ae (aG (x.fag.map (aq 1 aa)) (k+(au (x.fae.map aa):Nat)))) none)]:=by
 refine cV hΓ ap Try.func14 rfl (by decide) rfl rfl ?_
 repeat' ((conv=>whnf);first|refine cQ ?_|apply bu|apply oi|(apply fi<;>intro h)|refine⟨_,rfl,?_⟩|exact rfl)
 all_goals try exact⟨KO⟩
 refine cg (gV x.fae (k) (by omega) hl0 (by omega)) ?_
 repeat' ((conv=>whnf);first|refine cQ ?_|apply bu|apply oi|(apply fi<;>intro h)|refine⟨_,rfl,?_⟩|exact rfl)
 all_goals try exact⟨KO⟩
 refine cg (lE x.fag (k+(au (x.fae.map aa):Nat)) (by omega) hl1 (by omega) hin1) ?_
 repeat' ((conv=>whnf);first|refine cQ ?_|apply bu|apply oi|(apply fi<;>intro h)|refine⟨_,rfl,?_⟩|exact rfl)
 all_goals try exact⟨KO⟩
theorem nI (x:An)(k:Int)(hk0:0≤k)(hl0:x.fae.length≤1099511627776)(hl1:x.fag.length≤1099511627776)(hin1:∀y∈x.fag,y.length≤1099511627776)(hk:k+(au (x.fae.map aa):Nat)+(au (x.fag.map (aq 1 aa)):Nat)≤4611686018427387904):Sim.Spec Try.prog 15 [.agg [.lst 1 (aG (x.fae.map aa) (k)),.lst 1 (aG (x.fag.map (aq 1 aa)) (k+(au (x.fae.map aa):Nat))),.int .i64 x.fao,.int .i64 x.fai],tvI k] (rI (k+(au (x.fae.map aa):Nat)+(au (x.fag.map (aq 1 aa)):Nat))):=by
 refine an hΓ ap Try.func15 rfl (by decide) rfl ?_
 repeat' ((conv=>whnf);first|refine Or.inl ?_|apply oi|(apply fi<;>intro h)|refine ci ((gS x.fae (k) (by omega) hl0 (by omega))) (ai rfl (ai rfl trivial)) ?_|refine⟨_,rfl,?_⟩|exact rfl)
 all_goals try exact⟨KO⟩
 all_goals try(exfalso;have h':=of_decide_eq_true h;omega;done)
 repeat' ((conv=>whnf);first|refine Or.inl ?_|apply oi|(apply fi<;>intro h)|refine ci ((lR x.fag (k+(au (x.fae.map aa):Nat)) (by omega) hl1 (by omega) hin1)) (ai rfl (ai rfl trivial)) ?_|refine⟨_,rfl,?_⟩|exact rfl)
 all_goals try exact⟨KO⟩
 all_goals try(exfalso;have h':=of_decide_eq_true h;omega;done)
 all_goals exact⟨rfl⟩
end Go.Proofs.Ytjmplnfiabmalaa
