import Derived.Test.YtoglejgmjeojoaaGreatGg
namespace Go.Proofs.YtoglejgmjeojoaaGreat
open Go.Sim
set_option maxRecDepth 100000
set_option maxHeartbeats 4000000
theorem yZ {C:Cx}(hC:CxOk C){lev:Nat}(hE:Cs C lev):uB C lev:=by
 intro x S s d hx hroom hlev hd0 hd1
 refine ax hΓ aq Tryz.func198 rfl (by decide) rfl rfl ?_
 rw[fU]at hx
 rw[fU]
 dsimp only at hx ⊢
 obtain⟨e,he,hfe,hel,hen,hll⟩:=hx.endE hC
 have h60:=hC.len
 have hin:=hC.inl
 have hsl:∀lv:List Int,(scH (S++[(x,lv)])).length=S.length+1:=fun lv=>by simp
 have hrow:∀lv:List Int,(scH (S++[(x,lv)]))[S.length]?=some (iv x lv):=fun lv=>by simp
 have hlt:∀lv:List Int,S.length < (scH (S++[(x,lv)])).length:=fun lv=>by rw[hsl];omega
 have hw:∀lv:List Int,IntKind.i64.wrap (((scH (S++[(x,lv)])).length:Int) - 1)=(S.length:Int):=fun lv=>by rw[hsl,IntWalk.i64_in _ (by omega)];omega
 have gE:=cm C.p (x.f:Int) (by omega)
 rw[show aY C.p (x.f:Int)=(e:Int) by rw[aV];exact aU he]at gE
 have hpl:(C.p.map CM.tr).length=C.p.length:=by simp
 have hm1:(((C.p.map CM.tr).length:Nat):Int)=(C.p.length:Int):=by rw[hpl]
 have hm2:C.p.length≤9223372036854775807:=by omega
 have hm3:C.p.length * 8≤140737488355328:=by omega
 have h3:=oD (n:=lev) (by omega)
 have hch:x.chain.length≤100:=by
  have:=hx.chain
  rw[List.length_append,List.length_map]at this
  simp only[List.length_cons,List.length_nil]at this
  omega
 have hxf:0≤x.first∧x.first≤1000:=by
  have:=hx.first
  rw[List.length_append,List.length_map]at this
  simp only[List.length_cons,List.length_nil]at this
  omega
 obtain⟨R,hR⟩:∃R,gY C (aL C lev) x (bz S++[x.f]) d (e+1 - (x.f+1)) (x.f+1) (bN C s)=R:=⟨_,rfl⟩
 have hfin:aI C (aL C lev) x (bz S++[x.f]) d s=(R.g,R.lv):=by
  unfold aI
  rw[hen,show e - x.f=e+1 - (x.f+1) by omega,hR]
 rw[hfin]
 rw[hen]at hroom
 have hI0:LInv C lev x (bz S++[x.f]) d e R (x.f+1) (bN C s):=⟨Nat.le_refl _,by omega,by simp[bN],by simp[bN],fun i h1 h2=>by omega,⟨by simp[bN],fun j hj=>by simp[bN]at hj⟩,by rw[show e+1 - (x.f+1)=e - x.f by omega];exact hroom,hR⟩
 repeat' ((conv=>whnf);first|apply Wx|apply W6|apply oi|(apply fi<;>intro h)|refine⟨S.length,hw [],hlt [],?_⟩|refine⟨_,hrow [],?_⟩|refine cl gE ?_|refine⟨C.p.length,hm1,hm1,hm2,hm3,?_⟩|refine⟨_,rfl,?_⟩|exact rfl)
 all_goals try exact⟨KP⟩
 conv=>whnf
 refine⟨{q:Nat×Ls×List CL // LInv C lev x (bz S++[x.f]) d e R q.1 q.2.1∧q.2.2.length=q.2.1.g.items.length∧(q.1≤e→cu q.2.2 q.2.2.length (q.1:Int) (aT C.p q.2.1.pos (x.f+1) (q.1 - (x.f+1)))=q.2.1.g.items)∧(q.1=e+1→q.2.2=q.2.1.g.items)},
  fun q=>⟨[(0,cr),(2,tI .i64 (x.f:Int)),(3,sQ x.chain),(4,tI .i64 (e:Int)),(5,.r (.c (.own (5,0,0)))),(6,.r (.c (.own (6,0,0)))),(7,tI .i64 (q.1.1:Int))],
   [((0,0,0),some (md C ⟨q.1.2.2,q.1.2.1.g.most,q.1.2.1.g.start⟩ d (5,0,1) (5,0,2))),((5,0,1),some (.dar 7 (itR q.1.2.2) none)),((5,0,2),some (.dar 6 (scH (S++[(x,q.1.2.1.lv)])) none)),((5,0,0),some (.arr false 1 (q.1.2.1.heads.map ab))),((6,0,0),some (.arr false 2 ((aT C.p q.1.2.1.pos (x.f+1) (q.1.1 - (x.f+1))).map kF)))],[6,5,0]⟩,
  fun q=>e+1 - q.1.1,⟨(x.f+1,bN C s,s.items),hI0,rfl,fun _=>by rw[Nat.sub_self];rfl,fun _=>rfl⟩,?_,?_⟩
 ·skip
  repeat' ((conv=>whnf);first|apply Wx|apply W6|apply oi|(apply fi<;>intro h)|refine⟨_,rfl,?_⟩|exact rfl)
  all_goals try exact⟨KP⟩
  all_goals try exact⟨KW⟩
  ·exact⟨by simp[bN,ab]⟩
  ·exact⟨by dsimp only;rw[Nat.sub_self];rfl⟩
 intro⟨⟨k,L,u⟩,hI,hul,hpat,hlast⟩
 dsimp only at hI hul hpat hlast ⊢
 by_cases hke:k≤e
 ·obtain⟨ln,hl⟩:=af (l:=C.p) (k:=k) (by omega)
  have h0:=gz hC hx he hI.lo hke hl
  obtain⟨hk0,hk7,_,h20,hexp⟩:=hC.line _ _ hl
  obtain⟨hsh,hnm⟩:=iU hC hl
  have hkf:=hI.lo
  have hIr:=hI.room
  have hIh:=hI.heads
  have hIp:=hI.pos
  have hlvl:=hI.lv.1
  have hIroom:L.g.items.length+20 * bG lev+3≤68719476736:=by
   obtain⟨n,hn⟩:∃n,e+1 - k=n+1:=⟨e - k,by omega⟩
   rw[hn,Nat.add_mul]at hIr
   omega
  have hEl:=lX C.p L.pos (x.f+1) (k - (x.f+1))
  have hEin:∀z∈aT C.p L.pos (x.f+1) (k - (x.f+1)),0≤z.2∧z.2 < (L.g.items.length:Int):=fun z hz=>by
   obtain⟨i,i1,i2,i3,rfl⟩:=jg hz
   exact hI.at_ i (by omega) (by omega) i3
  have gP:=nT C ⟨u,L.g.most,L.g.start⟩ d (scH (S++[(x,L.lv)])) (aT C.p L.pos (x.f+1) (k - (x.f+1))) k (by unfold bc;dsimp only;omega) (by omega) (by dsimp only;rw[hul];exact hEin)
  rw[hpat hke]at gP
  obtain⟨A,hA⟩:∃A,cO C (aL C lev) x (bz S++[x.f]) d k ln L=A:=⟨_,rfl⟩
  have hN:=LInv.next hC hx he hI hke hl
  rw[hA]at hN
  obtain⟨hP1,hP2⟩:=xh hC hx he hkf hke hl A
  obtain⟨b1,b2,b3,b4,b5,b6⟩:=mz (C:=C) (x:=x) k ln A
  have hQ:LInv C lev x (bz S++[x.f]) d e R (k+1) (aK C x k ln A)∧A.g.items.length=(aK C x k ln A).g.items.length∧(k+1≤e→cu A.g.items A.g.items.length ((k+1:Nat):Int) (aT C.p (aK C x k ln A).pos (x.f+1) (k+1 - (x.f+1)))=(aK C x k ln A).g.items)∧(k+1=e+1→A.g.items=(aK C x k ln A).g.items):=⟨hN,b4.symm,fun h=>by rw[b2];exact hP1 h,fun h=>hP2 (by omega)⟩
  have hIl:k < (L.heads.map ab).length:=by rw[List.length_map,hIh];omega
  have hro:bc L.g:=by unfold bc;omega
  have hitl:=fK L.g.items
  have hkne:ln.faa≠7→k < e:=fun h=>by
   rcases Nat.lt_or_eq_of_le hke with h'|h'
   ·exact h'
   ·subst h'
    obtain⟨z,hz,hz7⟩:=bk he
    rw[hl]at hz
    injection hz with hz
    subst hz
    exact absurd hz7 h
  have hcalls:ln.faa≠7→kT C ln.fac:=fun h=>by
   obtain⟨l0,q1,q2⟩:=hx.fn
   obtain⟨e',q3,_,_,q4⟩:=hC.fn _ _ q1 q2
   rw[he]at q3
   injection q3 with q3
   subst q3
   exact(q4 k ln (by omega) (hkne h) hl).2.1
  obtain⟨g1,hg1⟩:∃g1,dh C (aL C lev) x (bz S++[x.f]) k (exL ln.fac) d ⟨L.g.items,L.g.most,true⟩=g1:=⟨_,rfl⟩
  have hX:ba ln.fac=true→ln.faa≠7→bp Tryz.prog 244 [cr,tI .i64 (k:Int),tI .i64 (0:Int)] (eM (0,0,1) (0,0,2) C ⟨L.g.items,L.g.most,true⟩ d (scH (S++[(x,L.lv)]))) (tI .i64 ((0+(exL ln.fac).toks.length:Nat):Int)) (eM (1,0,1) (1,0,2) C g1 (d+1) (scH (S++[(x,L.lv)]))):=fun hx1 hx7=>by
   obtain⟨eo,et⟩:=ox hx1
   have h20':(exL ln.fac).toks.length≤20:=by rw[←et];exact h20
   have hmu:=Nat.mul_le_mul_right (bG lev) h20'
   have:=hE (exL ln.fac) x S L.lv k 0 ln ⟨L.g.items,L.g.most,true⟩ d eo (by rw[fU];exact hx) hl ⟨[],by rw[List.drop_zero,List.append_nil];exact et⟩ (hcalls hx7) ⟨by dsimp only;omega,hlev,hd0,by omega⟩
   rw[fU]at this
   dsimp only at this
   rw[hg1]at this
   exact this
  have hG:ba ln.fac=true→g1.items.length≤L.g.items.length+20 * bG lev:=fun hx1=>by
   have:=(iQ (x:=x) (ins:=bz S++[x.f]) (rep:=aL C lev) (line:=k) (lev:=lev) (fun g d s hg hr=>cq hC lev k g d s hx hg hr) hC hl hx1 d ⟨L.g.items,L.g.most,true⟩).le
   rw[hg1]at this
   exact this
  have hhr:(L.heads.map ab)[k]?=some (ab (atL L.heads k)):=by
   rw[List.getElem?_map]
   have:k < L.heads.length:=by omega
   rw[List.getElem?_eq_getElem this,atL,List.getElem?_eq_getElem this]
   rfl
  have hhs:∀v:Int,(L.heads.map ab).set k [.int .i64 v]=(L.heads.set k v).map ab:=fun v=>by simp[List.map_set,ab]
  unfold cO at hA
  rw[hg1]at hA
  dsimp only at hA
  have hcase:ln.faa=4∨ln.faa=7∨ln.faa=1∨ln.faa=2∨ln.faa=6∨(ln.faa=3∨ln.faa=5):=by omega
  rcases hcase with h4|h7|h1|h2|h6|h35
  ·
   rw[if_pos h4]at hA
   have a1:A.g.items=bx (an C L.g d 10 0 k x.chain).items (atL L.pos (az C.p k)) (an C L.g d 10 0 k x.chain).items.length:=by rw[←hA]
   have a2:A.g.most=L.g.most:=by rw[←hA];rfl
   have a3:A.g.start=false:=by rw[←hA];rfl
   have a4:A.heads=L.heads:=by rw[←hA]
   have a5:A.pos=L.pos.set k L.g.items.length:=by rw[←hA]
   have a6:A.lv=L.lv:=by rw[←hA]
   obtain⟨o1,o2,o3,o4⟩:=hx.own4 hC he (by omega) hke hl h4
   obtain⟨y,m,hy,y3,hm,_⟩:=aP o1
   have hkk:=aZ hl
   have hto:iM C.p k=aY C.p (az C.p k:Int)+1:=by unfold iM;rw[if_pos (by omega)]
   have hge:=km C.p (az C.p k)
   have hEn:aT C.p L.pos (x.f+1) (k - (x.f+1))++[(iM C.p k,(L.g.items.length:Int))]=aT C.p (L.pos.set k L.g.items.length) (x.f+1) (k+1 - (x.f+1)):=rh hkf (by unfold jumps;omega) (by rw[hIp];omega) _
   have gEm:=bt C L.g d (scH (S++[(x,L.lv)])) 10 0 k x.chain hro hch
   have gP2:=nT C (an C L.g d 10 0 k x.chain) d (scH (S++[(x,L.lv)])) (aT C.p (L.pos.set k L.g.items.length) (x.f+1) (k+1 - (x.f+1))) (-(k:Int)) (by unfold bc an;simp only[List.length_append,List.length_cons,List.length_nil];omega) (by have:=lX C.p (L.pos.set k L.g.items.length) (x.f+1) (k+1 - (x.f+1));omega) (fun z hz=>by
    rw[←hEn,List.mem_append]at hz
    simp only[an,List.length_append,List.length_cons,List.length_nil]
    rcases hz with hz|hz
    ·have:=hEin z hz;omega
    ·simp only[List.mem_cons,List.not_mem_nil,or_false]at hz
     subst hz
     dsimp only
     omega)
   rw[xw hC hx he hkf hke hl h4,dA (by omega)]at gP2
   have hng:IntKind.i64.wrap (0 - (k:Int))= -(k:Int):=by rw[IntWalk.i64_in _ (by omega)];omega
   rw[←hng]at gP2
   repeat' ((conv=>whnf);first|apply Wx|apply W6|refine cg gP ?_|apply oi|(apply fi<;>intro h)|refine⟨k,ln.tr,rfl,aa hl,?_⟩|refine⟨_,rfl,?_⟩|exact rfl)
   all_goals try exact⟨KP⟩
   all_goals try exact KX
   all_goals try exact KK
   conv=>whnf
   refine⟨{i:Nat // x.f≤i∧i≤k},fun q=>⟨[(0,cr),(2,tI .i64 (x.f:Int)),(3,sQ x.chain),(4,tI .i64 (e:Int)),(5,.r (.c (.own (5,0,0)))),(6,.r (.c (.own (6,0,0)))),(7,tI .i64 (k:Int)),(9,tI .i64 (q.1:Int))],
    [((0,0,0),some (md C L.g d (5,0,1) (5,0,2))),((5,0,1),some (.dar 7 (itR L.g.items) none)),((5,0,2),some (.dar 6 (scH (S++[(x,L.lv)])) none)),((5,0,0),some (.arr false 1 (L.heads.map ab))),((6,0,0),some (.arr false 2 ((aT C.p L.pos (x.f+1) (k - (x.f+1))++(if az C.p k < q.1 then [(iM C.p k,(L.g.items.length:Int))]else [])).map kF)))],[6,5,0]⟩,
    fun q=>k - q.1,⟨x.f,by omega,by omega⟩,?_,?_⟩
   ·skip
    repeat' ((conv=>whnf);first|apply Wx|apply W6|apply oi|(apply fi<;>intro h)|refine⟨_,rfl,?_⟩|exact rfl)
    all_goals try exact⟨KP⟩
    all_goals exact⟨by rw[if_neg (by dsimp only;omega)];simp⟩
   intro⟨i,hi1,hi2⟩
   dsimp only at hi1 hi2 ⊢
   by_cases hik:i < k
   ·have gEl:=im C.p (i:Int) (by omega)
    by_cases hio:i=az C.p k
    ·subst hio
     rw[show aX C.p (az C.p k:Int)=(k:Int) by rw[dW];exact aU o1]at gEl
     have gEn:=cm C.p (az C.p k:Int) (by omega)
     rw[if_neg (by omega),List.append_nil]
     have hml:((aT C.p L.pos (x.f+1) (k - (x.f+1))).map kF).length=(aT C.p L.pos (x.f+1) (k - (x.f+1))).length:=by simp
     have hitl:=fK L.g.items
     repeat' ((conv=>whnf);first|apply Wx|apply W6|apply oi|(apply fi<;>intro h)|refine cl gEl ?_|refine cl gEn ?_|refine⟨_,rfl,?_⟩|exact rfl)
     all_goals try exact⟨KP⟩
     all_goals try exact KX
     all_goals try(exfalso;simp at h;done)
     all_goals try exact⟨⟨by rw[hml];simp <;> omega,by rw[hml];simp <;> omega⟩⟩
     conv=>whnf
     refine⟨⟨az C.p k+1,by omega,by omega⟩,?_,KD⟩
     repeat' ((conv=>whnf);first|apply Wx|apply W6|apply oi|(apply fi<;>intro h)|refine⟨_,rfl,?_⟩|exact rfl)
     all_goals try exact⟨KP⟩
     all_goals try exact⟨KW⟩
     all_goals(refine⟨?_⟩;dsimp only;rw[if_pos (by omega),hto,hitl,IntWalk.i64_in _ (by omega)];simp)
    ·have hne:aX C.p (i:Int)≠(k:Int):=fun hh=>by
      rw[dW]at hh
      cases hz:elseAt C.p i with
      | none=>rw[hz]at hh;simp only[bS]at hh;omega
      | some j=>
       rw[hz]at hh
       simp only[bS]at hh
       have:j=k:=by omega
       subst this
       exact hio (jo hz o1)
     generalize aX C.p (i:Int)=el at *
     repeat' ((conv=>whnf);first|apply Wx|apply W6|apply oi|(apply fi<;>intro h)|refine cl gEl ?_|refine⟨_,rfl,?_⟩|exact rfl)
     all_goals try exact⟨KP⟩
     all_goals try exact KX
     ·exact absurd (eq_of_beq h) hne
     ·conv=>whnf
      refine⟨⟨i+1,by omega,by omega⟩,?_,KD⟩
      repeat' ((conv=>whnf);first|apply Wx|apply W6|apply oi|(apply fi<;>intro h)|refine⟨_,rfl,?_⟩|exact rfl)
      all_goals try exact⟨KP⟩
      all_goals try exact⟨KW⟩
      all_goals(refine⟨?_⟩;dsimp only;congr 2)
      all_goals(by_cases hh:az C.p k < i)
      all_goals first|rw[if_pos hh,if_pos (by omega)]|rw[if_neg hh,if_neg (by omega)]
   ·have hie:i=k:=by omega
    subst hie
    rw[if_pos o3,hEn]
    repeat' ((conv=>whnf);first|apply Wx|apply W6|refine cg gEm ?_|refine cg gP2 ?_|apply oi|(apply fi<;>intro h)|refine⟨_,rfl,?_⟩|exact rfl)
    all_goals try exact⟨KP⟩
    all_goals try exact KX
    conv=>whnf
    refine⟨⟨(i+1,aK C x i ln A,A.g.items),hQ⟩,?_,KD⟩
    repeat' ((conv=>whnf);first|apply Wx|apply W6|apply oi|(apply fi<;>intro h)|refine⟨_,rfl,?_⟩|exact rfl)
    all_goals try exact⟨KP⟩
    all_goals try exact⟨KW⟩
    all_goals(refine⟨?_⟩;dsimp only;simp only[b1,b2,b3,b5,b6,a1,a2,a3,a4,a5,a6];try rfl)
  ·
   rw[if_neg (by omega),if_pos h7]at hA
   obtain⟨o1,o2⟩:=hx.own7 hC he (by omega) hke hl h7
   have hee:aT C.p L.pos (x.f+1) (k+1 - (x.f+1))=aT C.p L.pos (x.f+1) (k - (x.f+1)):=iP hkf (by unfold jumps;rw[aZ hl,h7];decide)
   rcases o2 with⟨o2,o3⟩|⟨o2,o3,o4,y,hy,o5⟩
   ·subst o2
    rw[if_pos o3]at hA
    have gN:=gZ C L.g d (scH (S++[(x,L.lv)])) 0 k x.chain hro hch (by omega)
    have gL:=mD C hC (an C L.g d 0 0 k x.chain) (d+1) S x L.lv k true (by unfold bc an;simp only[List.length_append,List.length_cons,List.length_nil];omega) hch (by omega) (by omega) (by omega) L.heads L.pos
    rw[show aH C x k true (d+1) ⟨an C L.g d 0 0 k x.chain,L.heads,L.pos,L.lv⟩=A from hA,Int.add_sub_cancel]at gL
    have a4:A.heads=L.heads:=by rw[←hA];unfold aH;(repeat' split) <;> rfl
    have a5:A.pos=L.pos:=by rw[←hA];unfold aH;(repeat' split) <;> rfl
    repeat' ((conv=>whnf);first|apply Wx|apply W6|refine cg gP ?_|refine cg gN ?_|refine cg gL ?_|apply oi|(apply fi<;>intro h)|refine⟨k,ln.tr,rfl,aa hl,?_⟩|refine⟨_,rfl,?_⟩|exact rfl)
    all_goals try exact⟨KP⟩
    all_goals try exact KX
    all_goals try exact KK
    all_goals try(exfalso;simp at h;done)
    conv=>whnf
    refine⟨⟨(k+1,aK C x k ln A,A.g.items),hQ⟩,?_,KD⟩
    repeat' ((conv=>whnf);first|apply Wx|apply W6|apply oi|(apply fi<;>intro h)|refine⟨_,rfl,?_⟩|exact rfl)
    all_goals try exact⟨KP⟩
    all_goals try exact⟨KW⟩
    all_goals(refine⟨?_⟩;dsimp only;simp only[b1,b2,b3,b5,b6,a4,a5,hee];try rfl)
   ·rw[if_neg (by omega)]at hA
    have hky:=aZ hy
    have gEm:=bt C L.g d (scH (S++[(x,L.lv)])) 10 (atL L.heads (az C.p k)) k x.chain hro hch
    have a4:A.heads=L.heads:=by rw[←hA];split <;> rfl
    have a5:A.pos=L.pos:=by rw[←hA];split <;> rfl
    have a6:A.lv=L.lv:=by rw[←hA];split <;> rfl
    have a1:A.g=if bH C.p (az C.p k)=5 then an C L.g d 10 (atL L.heads (az C.p k)) k x.chain else L.g:=by rw[←hA];split <;> rfl
    have hend:aY C.p (az C.p k:Int)=(k:Int):=by rw[aV];exact aU o1
    have hhd:(L.heads.map ab)[az C.p k]?=some (ab (atL L.heads (az C.p k))):=by
     rw[List.getElem?_map]
     have:az C.p k < L.heads.length:=by omega
     rw[List.getElem?_eq_getElem this,atL,List.getElem?_eq_getElem this]
     rfl
    have hol:az C.p k < (L.heads.map ab).length:=by rw[List.length_map];omega
    repeat' ((conv=>whnf);first|apply Wx|apply W6|refine cg gP ?_|apply oi|(apply fi<;>intro h)|refine⟨k,ln.tr,rfl,aa hl,?_⟩|refine⟨_,rfl,?_⟩|exact rfl)
    all_goals try exact⟨KP⟩
    all_goals try exact KX
    all_goals try exact KK
    conv=>whnf
    refine⟨{i:Nat // x.f+1≤i∧i≤k},fun q=>⟨[(0,cr),(2,tI .i64 (x.f:Int)),(3,sQ x.chain),(4,tI .i64 (e:Int)),(5,.r (.c (.own (5,0,0)))),(6,.r (.c (.own (6,0,0)))),(7,tI .i64 (k:Int)),(11,tI .i64 (q.1:Int))],
     [((0,0,0),some (md C (if az C.p k < q.1 then A.g else L.g) d (5,0,1) (5,0,2))),((5,0,1),some (.dar 7 (itR (if az C.p k < q.1 then A.g else L.g).items) none)),((5,0,2),some (.dar 6 (scH (S++[(x,L.lv)])) none)),((5,0,0),some (.arr false 1 (L.heads.map ab))),((6,0,0),some (.arr false 2 ((aT C.p L.pos (x.f+1) (k - (x.f+1))).map kF)))],[6,5,0]⟩,
     fun q=>k - q.1,⟨x.f+1,by omega,by omega⟩,?_,?_⟩
    ·skip
     repeat' ((conv=>whnf);first|apply Wx|apply W6|apply oi|(apply fi<;>intro h)|refine⟨_,rfl,?_⟩|exact rfl)
     all_goals try exact⟨KP⟩
     all_goals try(refine⟨?_⟩;dsimp only;rw[if_neg (by omega)];done)
     all_goals try exact⟨KW⟩
    intro⟨i,hi1,hi2⟩
    dsimp only at hi1 hi2 ⊢
    by_cases hik:i < k
    ·have gEn:=cm C.p (i:Int) (by omega)
     obtain⟨z,hz⟩:=af (l:=C.p) (k:=i) (by omega)
     by_cases hio:i=az C.p k
     ·subst hio
      rw[hend]at gEn
      rw[hy]at hz
      injection hz with hz
      subst hz
      rw[if_neg (by omega)]
      by_cases h5:y.faa=5
      ·rw[if_pos (by omega)]at a1
       repeat' ((conv=>whnf);first|apply Wx|apply W6|refine cg gEm ?_|apply oi|(apply fi<;>intro h)|refine cl gEn ?_|refine⟨(az C.p k),y.tr,rfl,aa hy,?_⟩|refine⟨az C.p k,rfl,hol,?_⟩|refine⟨_,hhd,?_⟩|refine⟨_,rfl,?_⟩|exact rfl)
       all_goals try exact⟨KP⟩
       all_goals try exact KX
       all_goals try exact KK
       all_goals try(exfalso;simp at h;done)
       conv=>whnf
       refine⟨⟨az C.p k+1,by omega,by omega⟩,?_,KD⟩
       repeat' ((conv=>whnf);first|apply Wx|apply W6|apply oi|(apply fi<;>intro h)|refine⟨_,rfl,?_⟩|exact rfl)
       all_goals try exact⟨KP⟩
       all_goals try exact⟨KW⟩
       all_goals(refine⟨?_⟩;dsimp only;rw[if_pos (by omega),a1])
      ·rw[if_neg (by omega)]at a1
       repeat' ((conv=>whnf);first|apply Wx|apply W6|refine cg gEm ?_|apply oi|(apply fi<;>intro h)|refine cl gEn ?_|refine⟨(az C.p k),y.tr,rfl,aa hy,?_⟩|refine⟨az C.p k,rfl,hol,?_⟩|refine⟨_,hhd,?_⟩|refine⟨_,rfl,?_⟩|exact rfl)
       all_goals try exact⟨KP⟩
       all_goals try exact KX
       all_goals try exact KK
       all_goals try(exfalso;simp at h;done)
       conv=>whnf
       refine⟨⟨az C.p k+1,by omega,by omega⟩,?_,KD⟩
       repeat' ((conv=>whnf);first|apply Wx|apply W6|apply oi|(apply fi<;>intro h)|refine⟨_,rfl,?_⟩|exact rfl)
       all_goals try exact⟨KP⟩
       all_goals try exact⟨KW⟩
       all_goals(refine⟨?_⟩;dsimp only;rw[if_pos (by omega),a1])
     ·have hne:aY C.p (i:Int)≠(k:Int):=fun hh=>by
       have h':=mb hh (by omega)
       rw[Int.toNat_natCast]at h'
       exact hio (tp h' o1)
      generalize aY C.p (i:Int)=en at *
      repeat' ((conv=>whnf);first|apply Wx|apply W6|apply oi|(apply fi<;>intro h)|refine cl gEn ?_|refine⟨i,z.tr,rfl,aa hz,?_⟩|refine⟨_,rfl,?_⟩|exact rfl)
      all_goals try exact⟨KP⟩
      all_goals try exact KX
      all_goals try(exfalso;exact hne (eq_of_beq (by assumption)))
      conv=>whnf
      refine⟨⟨i+1,by omega,by omega⟩,?_,KD⟩
      have hsm:(if az C.p k < i+1 then A.g else L.g)=if az C.p k < i then A.g else L.g:=by
       by_cases hh:az C.p k < i
       ·rw[if_pos hh,if_pos (by omega)]
       ·rw[if_neg hh,if_neg (by omega)]
      dsimp only
      rw[hsm]
      repeat' ((conv=>whnf);first|apply Wx|apply W6|apply oi|(apply fi<;>intro h)|refine⟨_,rfl,?_⟩|exact rfl)
      all_goals try exact⟨KP⟩
      all_goals try exact⟨KW⟩
    ·have hie:i=k:=by omega
     subst hie
     rw[if_pos o4]
     repeat' ((conv=>whnf);first|apply Wx|apply W6|apply oi|(apply fi<;>intro h)|refine⟨_,rfl,?_⟩|exact rfl)
     all_goals try exact⟨KP⟩
     all_goals try exact KX
     conv=>whnf
     refine⟨⟨(i+1,aK C x i ln A,A.g.items),hQ⟩,?_,KD⟩
     repeat' ((conv=>whnf);first|apply Wx|apply W6|apply oi|(apply fi<;>intro h)|refine⟨_,rfl,?_⟩|exact rfl)
     all_goals try exact⟨KP⟩
     all_goals try exact⟨KW⟩
     all_goals(refine⟨?_⟩;dsimp only;simp only[b1,b2,b3,b5,b6,a4,a5,a6,hee];try rfl)
  ·
   rw[if_neg (by omega),if_neg (by omega),if_pos h1]at hA
   have hx1:=hexp (.inl h1)
   have gX:=hX hx1 (by omega)
   have hG1:=hG hx1
   have hix:=iC x.locals ln.fab
   have gI:=dN x.locals ln.fab (by omega)
   have gS:=iZ C hC g1 (d+1) (scH (S++[(x,L.lv)])) x (ct x.locals ln.fab) k x.chain (by unfold bc;omega) hch (by omega) hxf (by omega)
   rw[Int.add_sub_cancel]at gS
   have a1:A.g=cQ C x g1 (d+1) (ct x.locals ln.fab) k x.chain:=by rw[←hA]
   have a4:A.heads=L.heads.set k L.g.items.length:=by rw[←hA]
   have a5:A.pos=L.pos:=by rw[←hA]
   have a6:A.lv=L.lv:=by rw[←hA]
   have hee:aT C.p L.pos (x.f+1) (k+1 - (x.f+1))=aT C.p L.pos (x.f+1) (k - (x.f+1)):=iP hkf (by unfold jumps;rw[aZ hl,h1];decide)
   generalize ct x.locals ln.fab=ix at *
   repeat' ((conv=>whnf);first|apply Wx|apply W6|refine cg gP ?_|refine cg gX ?_|refine cg gS ?_|apply oi|(apply fi<;>intro h)|refine⟨k,ln.tr,rfl,aa hl,?_⟩|refine⟨k,rfl,hIl,?_⟩|refine⟨_,hhr,?_⟩|refine⟨S.length,hw L.lv,hlt L.lv,?_⟩|refine⟨_,hrow L.lv,?_⟩|refine cl gI ?_|refine⟨_,rfl,?_⟩|exact rfl)
   all_goals try exact⟨KP⟩
   all_goals try exact KX
   all_goals try exact KK
   conv=>whnf
   refine⟨⟨(k+1,aK C x k ln A,A.g.items),hQ⟩,?_,KD⟩
   repeat' ((conv=>whnf);first|apply Wx|apply W6|apply oi|(apply fi<;>intro h)|refine⟨_,rfl,?_⟩|exact rfl)
   all_goals try exact⟨KP⟩
   all_goals try exact⟨KW⟩
   all_goals(refine⟨?_⟩;dsimp only;simp only[b1,b2,b3,b5,b6,a1,a4,a5,a6,hee,hitl,←hhs];try rfl)
  ·
   rw[if_neg (by omega),if_neg (by omega),if_neg (by omega),if_pos h2]at hA
   have hx1:=hexp (.inr (.inl h2))
   have gX:=hX hx1 (by omega)
   have hG1:=hG hx1
   have gS:=bt C g1 (d+1) (scH (S++[(x,L.lv)])) 17 0 k x.chain (by unfold bc;omega) hch
   have a1:A.g=an C g1 (d+1) 17 0 k x.chain:=by rw[←hA]
   have a4:A.heads=L.heads.set k L.g.items.length:=by rw[←hA]
   have a5:A.pos=L.pos:=by rw[←hA]
   have a6:A.lv=L.lv:=by rw[←hA]
   have hee:aT C.p L.pos (x.f+1) (k+1 - (x.f+1))=aT C.p L.pos (x.f+1) (k - (x.f+1)):=iP hkf (by unfold jumps;rw[aZ hl,h2];decide)
   repeat' ((conv=>whnf);first|apply Wx|apply W6|refine cg gP ?_|refine cg gX ?_|refine cg gS ?_|apply oi|(apply fi<;>intro h)|refine⟨k,ln.tr,rfl,aa hl,?_⟩|refine⟨k,rfl,hIl,?_⟩|refine⟨_,hhr,?_⟩|refine⟨_,rfl,?_⟩|exact rfl)
   all_goals try exact⟨KP⟩
   all_goals try exact KX
   all_goals try exact KK
   conv=>whnf
   refine⟨⟨(k+1,aK C x k ln A,A.g.items),hQ⟩,?_,KD⟩
   repeat' ((conv=>whnf);first|apply Wx|apply W6|apply oi|(apply fi<;>intro h)|refine⟨_,rfl,?_⟩|exact rfl)
   all_goals try exact⟨KP⟩
   all_goals try exact⟨KW⟩
   all_goals(refine⟨?_⟩;dsimp only;simp only[b1,b2,b3,b5,b6,a1,a4,a5,a6,hee,hitl,←hhs];try rfl)
  ·
   rw[if_neg (by omega),if_neg (by omega),if_neg (by omega),if_neg (by omega),if_pos h6]at hA
   have hx1:=hexp (.inr (.inr (.inr (.inr h6))))
   have gX:=hX hx1 (by omega)
   have hG1:=hG hx1
   have gS:=mD C hC g1 (d+1) S x L.lv k false (by unfold bc;omega) hch (by omega) (by omega) (by omega) (L.heads.set k L.g.items.length) L.pos
   rw[hA,Int.add_sub_cancel]at gS
   have a4:A.heads=L.heads.set k L.g.items.length:=by rw[←hA];unfold aH;(repeat' split) <;> rfl
   have a5:A.pos=L.pos:=by rw[←hA];unfold aH;(repeat' split) <;> rfl
   have hee:aT C.p L.pos (x.f+1) (k+1 - (x.f+1))=aT C.p L.pos (x.f+1) (k - (x.f+1)):=iP hkf (by unfold jumps;rw[aZ hl,h6];decide)
   repeat' ((conv=>whnf);first|apply Wx|apply W6|refine cg gP ?_|refine cg gX ?_|refine cg gS ?_|apply oi|(apply fi<;>intro h)|refine⟨k,ln.tr,rfl,aa hl,?_⟩|refine⟨k,rfl,hIl,?_⟩|refine⟨_,hhr,?_⟩|refine⟨_,rfl,?_⟩|exact rfl)
   all_goals try exact⟨KP⟩
   all_goals try exact KX
   all_goals try exact KK
   conv=>whnf
   refine⟨⟨(k+1,aK C x k ln A,A.g.items),hQ⟩,?_,KD⟩
   repeat' ((conv=>whnf);first|apply Wx|apply W6|apply oi|(apply fi<;>intro h)|refine⟨_,rfl,?_⟩|exact rfl)
   all_goals try exact⟨KP⟩
   all_goals try exact⟨KW⟩
   all_goals(refine⟨?_⟩;dsimp only;simp only[b1,b2,b3,b5,b6,a4,a5,hee,hitl,←hhs];try rfl)
  ·
   rw[if_neg (by omega),if_neg (by omega),if_neg (by omega),if_neg (by omega),if_neg (by omega)]at hA
   have hx1:=hexp (by omega)
   have gX:=hX hx1 (by omega)
   have hG1:=hG hx1
   have gS:=bt C g1 (d+1) (scH (S++[(x,L.lv)])) 11 0 k x.chain (by unfold bc;omega) hch
   have a1:A.g=an C g1 (d+1) 11 0 k x.chain:=by rw[←hA]
   have a4:A.heads=L.heads.set k L.g.items.length:=by rw[←hA]
   have a5:A.pos=L.pos.set k g1.items.length:=by rw[←hA]
   have a6:A.lv=L.lv:=by rw[←hA]
   have hkk:=aZ hl
   have hee:=rh (pos:=L.pos) (p:=C.p) (f:=x.f) (k:=k) hkf (by unfold jumps;omega) (by rw[hIp];omega) (g1.items.length:Int)
   have gEn:=cm C.p (k:Int) (by omega)
   have gEl:=im C.p (k:Int) (by omega)
   have hge:=km C.p k
   have hgl:-1≤aX C.p (k:Int)∧aX C.p (k:Int)≤C.p.length:=by
    rw[dW]
    cases hz:elseAt C.p k with
    | none=>simp only[bS];omega
    | some j=>
     obtain⟨_,_,_,_,_,_,_,w,hw,_⟩:=aP hz
     have:=aM hw
     simp only[bS];omega
   have hto:iM C.p k=if ln.faa=3∧0≤aX C.p (k:Int)then - aX C.p (k:Int)else aY C.p (k:Int)+1:=by unfold iM;rw[if_neg (by omega),hkk]
   have hml:((aT C.p L.pos (x.f+1) (k - (x.f+1))).map kF).length=(aT C.p L.pos (x.f+1) (k - (x.f+1))).length:=by simp
   have hitg:=fK g1.items
   generalize iM C.p k=to at *
   generalize aY C.p (k:Int)=en at *
   generalize aX C.p (k:Int)=el at *
   have hw1:IntKind.i64.wrap (en+1)=en+1:=by rw[IntWalk.i64_in _ (by omega)]
   have hw2:IntKind.i64.wrap (0 - el)= - el:=by rw[IntWalk.i64_in _ (by omega)];omega
   repeat' ((conv=>whnf);first|apply Wx|apply W6|refine cg gP ?_|refine cg gX ?_|refine cg gS ?_|apply oi|(apply fi<;>intro h)|refine⟨k,ln.tr,rfl,aa hl,?_⟩|refine⟨k,rfl,hIl,?_⟩|refine⟨_,hhr,?_⟩|refine cl gEn ?_|refine cl gEl ?_|refine⟨_,rfl,?_⟩|exact rfl)
   all_goals try exact⟨KP⟩
   all_goals try exact KX
   all_goals try exact KK
   all_goals try exact⟨⟨by rw[hml];simp <;> omega,by rw[hml];simp <;> omega⟩⟩
   all_goals(conv=>whnf)
   all_goals(refine⟨⟨(k+1,aK C x k ln A,A.g.items),hQ⟩,?_,KD⟩)
   repeat' ((conv=>whnf);first|apply Wx|apply W6|apply oi|(apply fi<;>intro h)|refine⟨_,rfl,?_⟩|exact rfl)
   all_goals try exact⟨KP⟩
   all_goals try exact⟨KW⟩
   all_goals(refine⟨?_⟩;dsimp only;simp only[b1,b2,b3,b5,b6,a1,a4,a5,a6,←hee,hitl,hitg,←hhs,hw1,hw2];try rfl)
   all_goals first
    |(rw[hto,if_pos ⟨eq_of_beq (by assumption),of_decide_eq_true (by assumption)⟩];simp)
    |(rw[hto,if_neg (fun hh=>absurd hh.2 (of_decide_eq_false (by assumption)))];simp)
    |(rw[hto,if_neg (fun hh=>by
                     have h9:(ln.faa==3)=false:=by assumption
                     rw[hh.1]at h9;cases h9)];simp)
 ·have hk1:k=e+1:=by have:=hI.hi;omega
  subst hk1
  have hf:=hI.fin
  rw[Nat.sub_self,gY]at hf
  subst hf
  rw[hlast rfl]
  repeat' ((conv=>whnf);first|apply Wx|apply W6|apply oi|(apply fi<;>intro h)|refine⟨_,rfl,?_⟩|exact rfl)
  all_goals try exact⟨KP⟩
  all_goals try exact KX
structure CF where
 b:List UInt8
 i:Nat
 h:Int
def CF.ok (c:CF):Prop:=c.i≤c.b.length∧c.b.length≤1048576
def bE (b:CE):Bool:=ah b.fan 0 63 && ah b.fag 0 3
theorem kp (b:CE):Sim.Spec Tryz.prog 60 [.agg b.tr] (rB (bE b)):=by
 refine aR hΓ aq Tryz.func60 rfl (by decide) rfl ?_
 have h1:=cn b.fan 0 63
 have h2:=cn b.fag 0 3
 unfold bE
 generalize ah b.fan 0 63=w1 at *
 generalize ah b.fag 0 3=w2 at *
 repeat' ((conv=>whnf);first|apply Wx|apply W6|apply oi|(apply fi<;>intro h)|refine cl h1 ?_|refine cl h2 ?_|refine⟨_,rfl,?_⟩|exact rfl)
 all_goals try exact⟨KP⟩
 all_goals(refine⟨congrArg Tr.bool ?_⟩;simp_all)
theorem zl {C:Cx}(hC:CxOk C):∀lev,Ab C lev∧uB C lev:=by
 have hL:∀lev,Ab C lev→uB C lev:=fun lev hR=>yZ hC fun e x S lv k p ln s d h1 h2 h3 h4 h5 h6=>vQ hC hR e.toks.length e (Nat.le_refl _) x S lv k p ln s d h1 h2 h3 h4 h5 h6
 intro lev
 induction lev with
 | zero=>
  have hR:Ab C 0:=by
   intro x S lv k g s d hx hk hg hrb hr
   obtain⟨r1,_⟩:=dq hrb
   have:=hr.depth
   rw[show(bz (S++[(x,lv)])).length=S.length+1 by simp]at r1
   omega
  exact⟨hR,hL 0 hR⟩
 | succ n ih=>
  have hR:=AW hC ih.2
  exact⟨hR,hL _ hR⟩
def uu (frames f:Int):Bool:=IntKind.i64.wrap (BitVec.ofInt IntKind.i64.bits (frames.fdiv (2 ^ min f.toNat IntKind.i64.bits)) &&& BitVec.ofInt IntKind.i64.bits 1).toNat==1
theorem gU (C:Cx)(hC:CxOk C)(f g:Nat)(hf:(ay C.p)[f]?=some g)(e3:C.framed=uu C.b.fan f)(e5:C.args=argsN C.p g):
  Sim.Spec Tryz.prog 133 [tvP C.p,tvI (f:Int),.agg C.b.tr,tvI C.words] (.tup [.c (.arr 7 ((cf C g).items.map CL.tr)),.c (.t (.int .i64 (cf C g).most))]):=by
 refine aR hΓ aq Tryz.func133 rfl (by decide) rfl ?_
 obtain⟨hgl,y,hy,hy0⟩:=kS (List.mem_of_getElem? hf)
 have h60:=hC.len
 have hw:=hC.words
 have hin:=hC.inl
 have gF:=cK C.p (by omega)
 have gL:=fw C.p (g:Int) (by omega) (fun z hz=>aC hC.small hz)
 have hA:argsN C.p g=y.fad.length:=by rw[argsN,hy]
 have h4:=(hC.line g y hy).2.2.1
 have hfl:f < (ay C.p).length:=aM hf
 have hfr:f < ((ay C.p).map fun n:Nat=>ab n).length:=by rw[List.length_map];exact hfl
 have hfg:((ay C.p).map fun n:Nat=>ab n)[f]?=some (ab (g:Int)):=by rw[List.getElem?_map,hf];rfl
 have hloc:=ck hC ⟨y,hy,hy0⟩
 have hyl:(y.fad.map ag).length=y.fad.length:=by simp
 have hll:((localsOf C.p (g:Int)).map ag).length=(localsOf C.p (g:Int)).length:=by simp
 have hS:ScOk C (bf C g) [g]:=⟨⟨y,hy,hy0⟩,rfl,⟨Int.le_refl _,by simp[bf]⟩,rfl,by simp[bf],fun _=>e5,rfl⟩
 obtain⟨e,he1,he2,he3,he4,_⟩:=hS.endE hC
 obtain⟨O,hO⟩:∃O,bf C g=O:=⟨_,rfl⟩
 have hOr:iv O []=[.d (.int .i64 (g:Int)),.t (.lst 1 []),.t (.lst 1 ((localsOf C.p (g:Int)).map ag)),.d (.int .i64 0),.d (.bool true),.d (.lst 0 [])]:=by rw[←hO,bf];rfl
 have hOl:(scH [(O,[])])[0]?=some [.d (.int .i64 (g:Int)),.t (.lst 1 []),.t (.lst 1 ((localsOf C.p (g:Int)).map ag)),.d (.int .i64 0),.d (.bool true),.d (.lst 0 [])]:=by rw[←hOr];rfl
 have g1:=fun code=>bt C ⟨[],(localsOf C.p (g:Int)).length - C.args,false⟩ 0 (scH [(O,[])]) code C.words g [] (by unfold bc;simp) (by simp)
 have hlev:((C.b.fag.toNat:Nat):Int)=C.b.fag:=Int.toNat_of_nonneg hin.1
 have h3:=oD (n:=C.b.fag.toNat) (by omega)
 have gLs:=(zl hC C.b.fag.toNat).2 O [] (dp C g) C.words (by rw[←hO];exact hS) (by
  rw[←hO,he4]
  have:=Nat.mul_le_mul (show e - (bf C g).f≤60 by omega) (show 20 * bG C.b.fag.toNat+3≤20 * 8679837+3 by omega)
  simp only[dp,an,List.length_append,List.length_nil,List.length_cons]
  omega) (by simpa using hlev) hw.1 (by omega)
 have hcg:aI C (aL C C.b.fag.toNat) O (bz ([]++[(O,[])])) C.words (dp C g)=aI C (aL C C.b.fag.toNat) (bf C g) [g] C.words (dp C g):=by rw[←hO];rfl
 rw[hcg,List.nil_append,List.nil_append]at gLs
 repeat' ((conv=>whnf);first|(with_reducible apply W1;fail_if_success (with_reducible show Wo _ _ _ _ (Code.region 4 _ _) _ _))|(with_reducible first|apply W2|apply W3|apply W4|apply W5|apply W6|apply W7|apply W8|apply W9)|apply bg|apply oi|(apply fi<;>intro h)|refine cl gF ?_|refine⟨f,rfl,hfr,?_⟩|refine⟨_,hfg,?_⟩|refine⟨g,y.tr,rfl,aa hy,?_⟩|refine cl gL ?_|refine⟨_,rfl,?_⟩|exact rfl)
 all_goals try exact⟨KP⟩
 all_goals try exact⟨by omega⟩
 all_goals try exact⟨dX _⟩
 conv=>whnf
 refine zp (40,0,0) (rows':=[iv O []]) rfl ?_ ?_
 ·rw[hOr]
  refine⟨⟨rfl,fun q c d hc hd=>?_⟩,trivial⟩
  match q with
  | 0=>simp at hc hd;subst hc;subst hd;exact .inl rfl
  | 1=>simp at hc hd;subst hc;subst hd;exact .inr (.inr ⟨0,1,rfl,rfl⟩)
  | 2=>simp at hc hd;subst hc;subst hd;exact .inr (.inl rfl)
  | 3=>simp at hc hd;subst hc;subst hd;exact .inl rfl
  | 4=>simp at hc hd;subst hc;subst hd;exact .inl rfl
  | 5=>simp at hc hd;subst hc;subst hd;exact .inl rfl
  | q+6=>simp at hc
 refine vu ⟨[(0,vP C.p),(3,tI .i64 C.words),(10,tI .i64 (g:Int)),(11,.r (.c (.ptr (33,0,0) 0)))],[((33,0,0),some (md C ⟨[],0,false⟩ 0 (33,0,1) (33,0,2))),((33,0,1),some (.dar 7 (itR []) none)),((33,0,2),some (.dar 6 (scH [(O,[])]) none))],[40,38,33,13,6]⟩ ?_ ?_
 ·skip
  repeat' ((conv=>whnf);first|apply Wx|apply W6|apply oi|(apply fi<;>intro h)|refine⟨_,rfl,?_⟩|exact rfl)
  all_goals try exact⟨KP⟩
  all_goals try exact⟨by rw[e3];rfl⟩
  all_goals try exact⟨by rw[e5,hA,hyl]⟩
 have hwm:IntKind.i64.wrap ((((localsOf C.p (g:Int)).map ag).length:Int) - C.args)=((localsOf C.p (g:Int)).length:Int) - C.args:=by rw[hll,IntWalk.i64_in _ (by omega)]
 cases hfm:C.framed with
 | true=>
  have hh:dp C g=an C ⟨[],(localsOf C.p (g:Int)).length - C.args,false⟩ 0 13 C.words g []:=by rw[dp,if_pos hfm]
  rw[hh]at gLs
  have g2:=g1 13
  have hcr:cf C g=(aI C (aL C C.b.fag.toNat) (bf C g) [g] C.words (an C ⟨[],(localsOf C.p (g:Int)).length - C.args,false⟩ 0 13 C.words g [])).1:=by rw[cf,hh]
  rw[hcr]
  repeat' ((conv=>whnf);first|apply Wx|apply W6|refine cg g2 ?_|refine cg gLs ?_|apply oi|(apply fi<;>intro h)|refine⟨0,rfl,(by simp),?_⟩|refine⟨_,hOl,?_⟩|refine⟨_,rfl,?_⟩|exact rfl)
  all_goals try exact⟨KP⟩
  all_goals try(exfalso;rw[hfm]at h;cases h;done)
  all_goals first|exact⟨⟨_,rfl⟩⟩|exact⟨congrArg (Tr.int .i64) hwm.symm⟩
 | false=>
  have hh:dp C g=an C ⟨[],(localsOf C.p (g:Int)).length - C.args,false⟩ 0 15 C.words g []:=by rw[dp,if_neg (by simp[hfm])]
  rw[hh]at gLs
  have g2:=g1 15
  have hcr:cf C g=(aI C (aL C C.b.fag.toNat) (bf C g) [g] C.words (an C ⟨[],(localsOf C.p (g:Int)).length - C.args,false⟩ 0 15 C.words g [])).1:=by rw[cf,hh]
  rw[hcr]
  repeat' ((conv=>whnf);first|apply Wx|apply W6|refine cg g2 ?_|refine cg gLs ?_|apply oi|(apply fi<;>intro h)|refine⟨0,rfl,(by simp),?_⟩|refine⟨_,hOl,?_⟩|refine⟨_,rfl,?_⟩|exact rfl)
  all_goals try exact⟨KP⟩
  all_goals try(exfalso;rw[hfm]at h;cases h;done)
  all_goals first|exact⟨⟨_,rfl⟩⟩|exact⟨congrArg (Tr.int .i64) hwm.symm⟩
theorem mc {C:Cx}(hC:CxOk C){g:Nat}(hg:bl C g)(e5:C.args=argsN C.p g):0≤(cf C g).most∧(cf C g).most≤1000:=by
 have hS:ScOk C (bf C g) [g]:=⟨hg,rfl,⟨Int.le_refl _,by simp[bf]⟩,rfl,by simp[bf],fun _=>e5,rfl⟩
 have hG:=eY (lev:=C.b.fag.toNat) (rep:=aL C C.b.fag.toNat) (fun line g d s hg hr=>cq hC _ line g d s hS hg hr) hC hS C.words (dp C g)
 obtain⟨l1,l2⟩:=ck hC hg
 have hm:(dp C g).most=(localsOf C.p (g:Int)).length - C.args:=rfl
 have h1:=hG.most
 have h2:=hG.cap (by rw[hm];omega)
 rw[hm]at h1
 exact⟨Int.le_trans (by omega) h1,h2⟩
def ctx (p:List CM)(f g:Nat)(b:CE)(words:Int):Cx:=⟨p,b,uu b.fan f,words,argsN p g⟩
noncomputable def foldIf (p:List CM) (b:CE):List CM:=if b.faq=true then p.map aG else p
noncomputable def fd (p:List CM) (f:Nat) (b:CE):List CL:=match(ay (foldIf p b))[f]? with
 | some g=>(cf (ctx (foldIf p b) f g b (cf (ctx (foldIf p b) f g b 0) g).most) g).items
 | none=>[]
noncomputable def aW (p:List CM) (f:Int) (b:CE):List CL:=
 if aF p=true∧bE b=true∧0≤f∧f < (ay p).length then fd p f.toNat b else []
theorem alike.funsF:∀{p q:List CM},alike p q→∀i:Nat,funsF p i=funsF q i
 | [],[],_,_=>rfl
 | x::p,y::q,h,i=>by
  simp only[alike,List.map_cons,List.cons.injEq,Prod.mk.injEq]at h
  have ih:=alike.funsF (p:=p) (q:=q) h.2
  rw[Go.Proofs.YtoglejgmjeojoaaGreat.funsF,Go.Proofs.YtoglejgmjeojoaaGreat.funsF,h.1.1,ih]
 | [],_::_,h,_=>by simp[alike]at h
 | _::_,[],h,_=>by simp[alike]at h
theorem gv (p:List CM)(b:CE):ay (foldIf p b)=ay p:=by
 unfold foldIf
 split
 ·exact(kC p).funsF 0
 ·rfl
theorem PgOk.foldIf {p:List CM}(h:PgOk p)(b:CE):PgOk (foldIf p b):=by
 unfold Go.Proofs.YtoglejgmjeojoaaGreat.foldIf
 split
 ·exact h.fold
 ·exact h
theorem jt (p:List CM)(f:Int)(b:CE)(hs:aA 1048576 (.lst 4 (p.map CM.tr))):Sim.Spec Tryz.prog 64 [tvP p,tvI f,.agg b.tr] (rL 7 ((aW p f b).map CL.tr)):=by
 refine aR hΓ aq Tryz.func64 rfl (by decide) rfl ?_
 have hP:=eP p hs
 have hB:=kp b
 have hl:=bo hs
 have gF:=cK p (by omega)
 have hfl:((ay p).map fun n:Nat=>ab n).length=(ay p).length:=by simp
 by_cases hc:aF p=true∧bE b=true∧0≤f∧f < (ay p).length
 ·have hcf:aW p f b=fd p f.toNat b:=by rw[aW,if_pos hc]
  rw[hcf]
  obtain⟨h1,h2,h3,h4⟩:=hc
  obtain⟨f,rfl⟩:=Int.eq_ofNat_of_zero_le h3
  rw[Int.toNat_natCast]
  rw[h1]at hP
  rw[h2]at hB
  have hb:0≤b.fag∧b.fag≤3:=by
   unfold bE at h2
   simp only[Bool.and_eq_true,within_iff]at h2
   exact h2.2
  obtain⟨g,hg⟩:=af (l:=ay p) (k:=f) (by omega)
  have hpg:=(pY hs h1).foldIf b
  have hg':(ay (foldIf p b))[f]?=some g:=by rw[gv];exact hg
  obtain⟨hgl,y,hy,hy0⟩:=kS (List.mem_of_getElem? hg')
  have h4':=(hpg.line g y hy).2.2.1
  have ha:(0:Int)≤(argsN (foldIf p b) g:Int)∧(argsN (foldIf p b) g:Int)≤4:=by rw[argsN,hy];dsimp only;omega
  have hC0:CxOk (ctx (foldIf p b) f g b 0):=hpg.cx ha (by omega) hb
  have hm:=mc hC0 ⟨y,hy,hy0⟩ rfl
  have hC1:CxOk (ctx (foldIf p b) f g b (cf (ctx (foldIf p b) f g b 0) g).most):=hpg.cx ha hm hb
  have g0:=gU _ hC0 f g hg' rfl rfl
  have g1:=gU _ hC1 f g hg' rfl rfl
  have hcd:fd p f b=(cf (ctx (foldIf p b) f g b (cf (ctx (foldIf p b) f g b 0) g).most) g).items:=by rw[fd,hg']
  rw[hcd]
  generalize cf (ctx (foldIf p b) f g b 0) g=R0 at *
  generalize cf (ctx (foldIf p b) f g b R0.most) g=R1 at *
  have hfo:=mf p hs
  rw[show cI p=p.map aG by rw[cI,if_pos h1]]at hfo
  obtain⟨fr,inl,fold,sp⟩:=b
  cases fold with
  | true=>
   have e:foldIf p ⟨fr,inl,true,sp⟩=p.map aG:=rfl
   simp only[ctx,e]at g0 g1
   repeat' ((conv=>whnf);first|apply Wx|apply W6|apply oi|(apply fi<;>intro h)|refine cl hP ?_|refine cl hB ?_|refine cl gF ?_|refine cl hfo ?_|refine cl g0 ?_|refine cl g1 ?_|refine⟨_,rfl,?_⟩|exact rfl)
   all_goals try exact⟨KP⟩
   all_goals try exact KX
  | false=>
   have e:foldIf p ⟨fr,inl,false,sp⟩=p:=rfl
   simp only[ctx,e]at g0 g1
   repeat' ((conv=>whnf);first|apply Wx|apply W6|apply oi|(apply fi<;>intro h)|refine cl hP ?_|refine cl hB ?_|refine cl gF ?_|refine cl hfo ?_|refine cl g0 ?_|refine cl g1 ?_|refine⟨_,rfl,?_⟩|exact rfl)
   all_goals try exact⟨KP⟩
   all_goals try exact KX
 ·have hcf:aW p f b=[]:=by rw[aW,if_neg hc]
  rw[hcf]
  cases h1:aF p with
  | false=>
   rw[h1]at hP
   repeat' ((conv=>whnf);first|apply Wx|apply W6|apply oi|(apply fi<;>intro h)|refine cl hP ?_|refine cl hB ?_|refine cl gF ?_|refine⟨_,rfl,?_⟩|exact rfl)
   all_goals try exact⟨KP⟩
   all_goals try exact KX
  | true=>
   rw[h1]at hP
   cases h2:bE b with
   | false=>
    rw[h2]at hB
    repeat' ((conv=>whnf);first|apply Wx|apply W6|apply oi|(apply fi<;>intro h)|refine cl hP ?_|refine cl hB ?_|refine cl gF ?_|refine⟨_,rfl,?_⟩|exact rfl)
    all_goals try exact⟨KP⟩
    all_goals try exact KX
   | true=>
    rw[h2]at hB
    have hc':¬(0≤f∧f < (ay p).length):=fun hh=>hc ⟨h1,h2,hh⟩
    repeat' ((conv=>whnf);first|apply Wx|apply W6|apply oi|(apply fi<;>intro h)|refine cl hP ?_|refine cl hB ?_|refine cl gF ?_|refine⟨_,rfl,?_⟩|exact rfl)
    all_goals try exact⟨KP⟩
    all_goals try exact KX
def sB (l:List CL):Prop:=∀it∈l,it.faj.length≤4
structure Cap (M t:Nat) (s s':Gs):Prop where
 le:s'.items.length≤max s.items.length M+t
 ch:sB s.items→sB s'.items
theorem Cap.refl {M:Nat}(s:Gs):Cap M 0 s s:=⟨by omega,id⟩
theorem Cap.trans {M n m:Nat}{a b c:Gs}(h:Cap M n a b)(h':Cap M m b c):Cap M (n+m) a c:=⟨by have:=h.le;have:=h'.le;omega,fun x=>h'.ch (h.ch x)⟩
theorem Cap.mono {M n m:Nat}{a b:Gs}(h:Cap M n a b)(hn:n≤m):Cap M m a b:=⟨by have:=h.le;omega,h.ch⟩
theorem bC {M:Nat}(C:Cx)(s:Gs)(d code arg line:Int){chain:List Int}(hc:chain.length≤4):Cap M 1 s (an C s d code arg line chain):=by
 refine⟨by simp only[an,List.length_append,List.length_cons,List.length_nil];omega,fun h it hit=>?_⟩
 simp only[an,List.mem_append,List.mem_cons,List.not_mem_nil,or_false]at hit
 rcases hit with hit|rfl
 ·exact h it hit
 ·exact hc
theorem nY {l:List CL}(h:sB l)(j v:Int):sB (bx l j v):=by
 unfold bx
 split
 ·split
  ·rename_i it hi
   intro z hz
   rcases List.mem_or_eq_of_mem_set hz with hz|rfl
   ·exact h z hz
   ·exact h it (List.mem_of_getElem? hi)
  ·exact h
 ·exact h
theorem tV (v:Int):∀(js:List Int) {l:List CL},sB l→sB (bT l v js)
 | [],_,h=>h
 | j::js,_,h=>by rw[bT];exact tV v js (nY h j v)
theorem Cap.set {M n:Nat}{a b:Gs}{l:List CL}(h:Cap M n a b)(hl:l.length=b.items.length)(hc:sB b.items→sB l):Cap M n a ⟨l,b.most,b.start⟩:=⟨by have:=h.le;simp only[hl];omega,fun x=>hc (h.ch x)⟩
section
variable {C:Cx} {x:Sc} {ins:List Nat} {rep:Sc→List Nat→Nat→Nat→Int→Gs→Gs} {line:Nat} {M:Nat}
theorem pk (y:Sc){chain:List Int}(hc:chain.length≤4)(line:Int):∀(n:Nat) (d:Int) (s:Gs),Cap M n s (cb C y chain line n d s)
 | 0,d,s=>Cap.refl s
 | n+1,d,s=>by
  rw[cb]
  exact((bC C s d _ _ _ hc).trans (pk y hc line n (d - 1) _)).mono (by omega)
theorem qP (y:Sc){chain:List Int}(hc:chain.length≤4)(line d:Int):∀(n i:Nat) (s:Gs),Cap M (2 * n) s (cB C y chain line d n i s)
 | 0,i,s=>Cap.refl s
 | n+1,i,s=>by
  rw[cB]
  exact(((bC C s d _ _ _ hc).trans (bC C _ (d+1) _ _ _ hc)).trans (qP y hc line d n (i+1) _)).mono (by omega)
theorem zY (hx:x.chain.length≤4)(hrep:∀g d s,bl C g→bI C ins g s.items.length=true→Cap M 0 s (rep x ins line g d s))(t:CU)(d:Int)(s:Gs):Cap M 1 s (gq C rep x ins line t d s):=by
 unfold gq
 split
 ·exact bC _ _ _ _ _ _ hx
 ·split
  ·exact bC _ _ _ _ _ _ hx
  ·split
   ·split
    ·rename_i g hg
     split
     ·rename_i hr
      obtain⟨_,ln,h1,h2,_⟩:=dZ hg
      exact(hrep g d s ⟨ln,h1,h2⟩ hr).mono (by omega)
     ·exact bC _ _ _ _ _ _ hx
    ·exact(Cap.refl s).mono (by omega)
   ·exact bC _ _ _ _ _ _ hx
mutual
theorem we (hx:x.chain.length≤4)(hrep:∀g d s,bl C g→bI C ins g s.items.length=true→Cap M 0 s (rep x ins line g d s)):∀(e:Ex) (d:Int) (s:Gs),Cap M e.toks.length s (dh C rep x ins line e d s)
 | .node t es,d,s=>by
  rw[dh,Ex.toks,List.length_cons]
  exact((tk hx hrep es d s).trans (zY hx hrep t _ _)).mono (by omega)
theorem tk (hx:x.chain.length≤4)(hrep:∀g d s,bl C g→bI C ins g s.items.length=true→Cap M 0 s (rep x ins line g d s)):∀(es:List Ex) (d:Int) (s:Gs),Cap M (ak es).length s (cD C rep x ins line es d s)
 | [],d,s=>by rw[cD,ak];exact(Cap.refl s).mono (by omega)
 | a::es,d,s=>by
  rw[cD,ak,List.length_append]
  exact(we hx hrep a d s).trans (tk hx hrep es (d+1) _)
end
theorem zw (hC:CxOk C)(hx:x.chain.length≤4)(line:Nat){g:Nat}(hg:bl C g)(d:Int)(s:Gs):Cap M 16 s (di C x line g d s):=by
 obtain⟨h1,h2⟩:=ck hC hg
 have h0:Cap M 0 s ⟨s.items,max s.most (be C x+(localsOf C.p (g:Int)).length),s.start⟩:=⟨by dsimp only;omega,id⟩
 unfold di
 exact((h0.trans (pk _ hx _ _ _ _)).trans (qP _ hx _ _ _ _ _)).mono (by omega)
theorem wL (hx:x.chain.length≤4)(line:Nat)(d:Int)(s:Gs):Cap M 1 s (bA C x line d s):=by
 unfold bA
 split
 ·exact bC _ _ _ _ _ _ hx
 ·exact(Cap.refl s).mono (by omega)
theorem so (hx:x.chain.length≤4)(k:Nat)(last:Bool)(d:Int)(L:Ls):Cap M 1 L.g (aH C x k last d L).g:=by
 unfold aH
 split
 ·split
  ·exact bC _ _ _ _ _ _ hx
  ·exact bC _ _ _ _ _ _ hx
 ·split
  ·exact(Cap.refl _).mono (by omega)
  ·exact bC _ _ _ _ _ _ hx
theorem yC (hx:x.chain.length≤4)(hrep:∀g d s,bl C g→bI C ins g s.items.length=true→Cap M 0 s (rep x ins line g d s))(hC:CxOk C){k:Nat}{ln:CM}(hk:C.p[k]?=some ln)(he:ba ln.fac=true)(d:Int)(s:Gs):Cap M 20 s (dh C rep x ins line (exL ln.fac) d s):=by
 have h1:=(ox he).2
 have h2:=(hC.line _ _ hk).2.2.2.1
 rw[h1]at h2
 exact(we hx hrep _ d s).mono h2
theorem yJ (hx:x.chain.length≤4)(hrep:∀line g d s,bl C g→bI C ins g s.items.length=true→Cap M 0 s (rep x ins line g d s))(hC:CxOk C){k:Nat}{ln:CM}(hk:C.p[k]?=some ln)(h0:ln.faa≠0)(base:Int)(L:Ls):Cap M 22 L.g (cO C rep x ins base k ln L).g:=by
 unfold cO
 split
 ·exact((bC C L.g base 10 0 k hx).set (cJ _ _ _) fun h=>nY h _ _).mono (by omega)
 ·split
  ·split
   ·refine Cap.mono (n:=1+1) ?_ (by omega)
    exact(bC C L.g base 0 0 k hx).trans (so hx k true (base+1) {L with g:=an C L.g base 0 0 k x.chain})
   ·split
    ·exact(bC _ _ _ _ _ _ hx).mono (by omega)
    ·exact(Cap.refl _).mono (by omega)
  ·rename_i h4 h7
   have hl:=hC.line _ _ hk
   have h20:Cap M 20 L.g (dh C rep x ins k (exL ln.fac) base ⟨L.g.items,L.g.most,true⟩):=by
    have:=yC hx (fun g d s=>hrep k g d s) hC hk (hl.2.2.2.2 (by omega)) base ⟨L.g.items,L.g.most,true⟩
    exact⟨this.le,this.ch⟩
   split
   ·exact(h20.trans (bC _ _ _ _ _ _ hx)).mono (by omega)
   ·split
    ·exact(h20.trans (bC _ _ _ _ _ _ hx)).mono (by omega)
    ·split
     ·refine Cap.mono (n:=20+1) ?_ (by omega)
      exact h20.trans (so hx k false (base+1) {L with g:=dh C rep x ins k (exL ln.fac) base ⟨L.g.items,L.g.most,true⟩,heads:=L.heads.set k L.g.items.length})
     ·exact(h20.trans (bC _ _ _ _ _ _ hx)).mono (by omega)
theorem yX (k:Nat)(ln:CM)(L:Ls):Cap M 0 L.g (aK C x k ln L).g:=by
 unfold aK
 split
 ·exact(Cap.refl _).set (cJ _ _ _) fun h=>nY h _ _
 ·exact Cap.refl _
theorem wC (hx:x.chain.length≤4)(hrep:∀line g d s,bl C g→bI C ins g s.items.length=true→Cap M 0 s (rep x ins line g d s))(hC:CxOk C)(base:Int):∀(n k:Nat) (L:Ls),(∀i y,k≤i→i < k+n→C.p[i]?=some y→y.faa≠0)→Cap M (n * 22) L.g (gY C rep x ins base n k L).g
 | 0,k,L,_=>(Cap.refl _).mono (by omega)
 | n+1,k,L,h=>by
  rw[gY]
  split
  ·rename_i ln hk
   exact(((yJ hx hrep hC hk (h k ln (Nat.le_refl _) (by omega) hk) base L).trans (yX k ln _)).trans (wC hx hrep hC base n (k+1) _ fun i y h1 h2 hy=>h i y (by omega) (by omega) hy)).mono (by omega)
  ·exact(Cap.refl _).mono (by omega)
theorem ri (hc:x.chain.length≤4)(hrep:∀line g d s,bl C g→bI C ins g s.items.length=true→Cap M 0 s (rep x ins line g d s))(hC:CxOk C)(hx:ScOk C x ins)(base:Int)(s:Gs):Cap M ((ir C.p x.f - x.f) * 22) s (aI C rep x ins base s).1:=by
 unfold aI
 obtain⟨ln,h1,h2⟩:=hx.fn
 obtain⟨e,h3,_,_,h4⟩:=hC.fn _ _ h1 h2
 obtain⟨e',g3,_,_,g5,_⟩:=hx.endE hC
 rw[h3]at g3
 injection g3 with g3
 subst g3
 rw[g5]
 refine wC hc hrep hC base (e - x.f) (x.f+1) (bN C s) fun i y k1 k2 hy=>?_
 by_cases hie:i=e
 ·subst hie
  obtain⟨z,hz,h7⟩:=bk h3
  rw[hy]at hz
  injection hz with hz
  subst hz
  omega
 ·exact(h4 i y (by omega) (by omega) hy).1
end
theorem vx {C:Cx}(hC:CxOk C):∀(lev:Nat) {x:Sc} {ins:List Nat} (line g:Nat) (d:Int) (s:Gs),ScOk C x ins→bl C g→bI C ins g s.items.length=true→Cap (217+198 * lev) 0 s (aL C lev x ins line g d s)
 | 0,x,ins,line,g,d,s,hx,hg,hr=>(Cap.refl s).mono (by omega)
 | lev+1,x,ins,line,g,d,s,hx,hg,hr=>by
  obtain⟨r1,r2,r3,_⟩:=dq hr
  have hin:=hC.inl
  have hch:=hx.chain
  have hy:=iR hC hx line hg
  have h1:=zw (M:=217) (x:=x) hC (by omega) line hg d s
  have h2:=wL (C:=C) (M:=217) (x:=x) (by omega) line (d - argsN C.p g) (di C x line g d s)
  have hcy:=hy.chain
  rw[List.length_append,List.length_cons,List.length_nil]at hcy
  have h3:=ri (M:=217+198 * lev) (rep:=aL C lev) (by omega) (fun line g d s hg hr=>vx hC lev line g d s hy hg hr) hC hy (d - argsN C.p g) (bA C x line (d - argsN C.p g) (di C x line g d s))
  obtain⟨e,e1,e2,e3,e4,_⟩:=hy.endE hC
  have e5:aY C.p (g:Int)=(e:Int):=by rw[aV];exact aU e1
  have e6:ir C.p (bq C x line g).f - (bq C x line g).f≤9:=by rw[e4];show e - g≤9;omega
  show Cap _ 0 s (fv C (aI C (aL C lev)) x ins line g d s)
  unfold fv
  have l1:=tn hC hx (by omega) line hg d s
  have l2:=pn (C:=C) x line (d - argsN C.p g) (di C x line g d s)
  refine⟨?_,fun h=>tV _ _ (h3.ch (h2.ch (h1.ch h)))⟩
  simp only[dT]
  have k3:=h3.le
  have k1:=l1.le
  have k2:=l2.le
  omega
theorem yN {C:Cx}(hC:CxOk C){g:Nat}(hg:bl C g)(e5:C.args=argsN C.p g):(cf C g).items.length≤2500∧sB (cf C g).items:=by
 have hS:ScOk C (bf C g) [g]:=⟨hg,rfl,⟨Int.le_refl _,by simp[bf]⟩,rfl,by simp[bf],fun _=>e5,rfl⟩
 have hG:=ri (M:=217+198 * C.b.fag.toNat) (rep:=aL C C.b.fag.toNat) (by simp[bf]) (fun line g d s hg hr=>vx hC _ line g d s hS hg hr) hC hS C.words (dp C g)
 obtain⟨e,e1,e2,e3,e4,_⟩:=hS.endE hC
 have hl:=hC.len
 have hin:=hC.inl
 have hh:(dp C g).items.length=1:=by simp[dp,an]
 have hk:=hG.le
 refine⟨?_,hG.ch fun it hit=>?_⟩
 ·show(aI C (aL C C.b.fag.toNat) (bf C g) [g] C.words (dp C g)).1.items.length≤2500
  omega
 ·simp only[dp,an,List.nil_append,List.mem_cons,List.not_mem_nil,or_false]at hit
  subst hit
  exact Nat.zero_le _
theorem oX {p:List CM}{f:Int}{b:CE}(hs:aA 1048576 (.lst 4 (p.map CM.tr)))(h1:aF p=true)(h2:bE b=true)(h3:0≤f)(h4:f < (ay p).length):∃(g:Nat) (C:Cx),(ay p)[f.toNat]?=some g∧CxOk C∧C.p=foldIf p b∧C.b=b∧C.args=argsN C.p g∧C.framed=uu b.fan f∧bl C g∧aW p f b=(cf C g).items∧C.words=(cf (ctx (foldIf p b) f.toNat g b 0) g).most:=by
 obtain⟨f,rfl⟩:=Int.eq_ofNat_of_zero_le h3
 have hb:0≤b.fag∧b.fag≤3:=by
  unfold bE at h2
  simp only[Bool.and_eq_true,within_iff]at h2
  exact h2.2
 obtain⟨g,hg⟩:=af (l:=ay p) (k:=f) (by omega)
 have hpg:=(pY hs h1).foldIf b
 have hg':(ay (foldIf p b))[f]?=some g:=by rw[gv];exact hg
 obtain⟨hgl,y,hy,hy0⟩:=kS (List.mem_of_getElem? hg')
 have h4':=(hpg.line g y hy).2.2.1
 have ha:(0:Int)≤(argsN (foldIf p b) g:Int)∧(argsN (foldIf p b) g:Int)≤4:=by rw[argsN,hy];dsimp only;omega
 have hC0:CxOk (ctx (foldIf p b) f g b 0):=hpg.cx ha (by omega) hb
 have hm:=mc hC0 ⟨y,hy,hy0⟩ rfl
 have hC1:CxOk (ctx (foldIf p b) f g b (cf (ctx (foldIf p b) f g b 0) g).most):=hpg.cx ha hm hb
 refine⟨g,_,by rw[Int.toNat_natCast];exact hg,hC1,rfl,rfl,rfl,rfl,⟨y,hy,hy0⟩,?_,by rw[Int.toNat_natCast];rfl⟩
 rw[aW,if_pos ⟨h1,h2,h3,h4⟩,Int.toNat_natCast,fd,hg']
theorem fO {p:List CM}{f:Int}{b:CE}(hs:aA 1048576 (.lst 4 (p.map CM.tr))):(aW p f b).length≤2500∧sB (aW p f b):=by
 by_cases hc:aF p=true∧bE b=true∧0≤f∧f < (ay p).length
 ·obtain⟨h1,h2,h3,h4⟩:=hc
  obtain⟨g,C,_,k2,_,_,k5,_,k7,k8,_⟩:=oX hs h1 h2 h3 h4
  rw[k8]
  exact yN k2 k7 k5
 ·rw[aW,if_neg hc]
  exact⟨by simp,fun it h=>by cases h⟩
theorem kn {L:Int}:∀{rs:List (List Tr)},(∀r∈rs,aE L r)→dy L rs
 | [],_=>by rw[dy];trivial
 | r::rs,h=>by rw[dy];exact⟨h r (by simp),kn fun x hx=>h x (by simp[hx])⟩
end Go.Proofs.YtoglejgmjeojoaaGreat
namespace Go.Proofs.YtoglejgmjeojoaaGreat
open Go.Sim
set_option maxRecDepth 100000
set_option maxHeartbeats 4000000
def eH (c a:Int):Prop:=0≤c∧c≤17∧(c=0→-2147483648≤a∧a≤2147483647)∧(c=1∨c=2∨c=3∨c=4∨c=10∨c=11→-32768≤a∧a≤32767)∧(c=16→0≤a∧a≤65535)∧(c=12∨c=13∨c=14∨c=15→0≤a∧a≤255)∧(5≤c∧c≤9∨c=17→a=0)
def gK (C:Cx)(line:Int):Prop:=∃y,0≤line∧C.p[line.toNat]?=some y∧y.faa≠0
structure GoodI (C:Cx) (n:Nat) (it:CL):Prop where
 line:gK C it.fam
 jump:it.fae.fah=10∨it.fae.fah=11→0≤it.fae.fal∧it.fae.fal≤n
 op:¬(it.fae.fah=10∨it.fae.fah=11)→eH it.fae.fah it.fae.fal
 enter:it.fae.fah≠13
theorem GoodI.mono {C:Cx}{n m:Nat}{it:CL}(h:GoodI C n it)(hn:n≤m):GoodI C m it:=⟨h.line,fun k=>by have:=h.jump k;omega,h.op,h.enter⟩
def CC (C:Cx)(g:Nat)(it:CL):Prop:=(it.fae.fah=13∨it.fae.fah=15)∧it.fam=g∧it.fae.fal=C.words
def InvI (C:Cx)(g:Nat)(l:List CL):Prop:=∃h t,l=h::t∧CC C g h∧∀it∈t,GoodI C l.length it
def dS (l:List CL)(i:Nat):Option Int:=(l[i]?).map (·.fae.fah)
def JP (l:List CL)(j:Int):Prop:=0≤j∧∃c,dS l j.toNat=some c∧(c=10∨c=11)
structure Tr2 (C:Cx) (g:Nat) (a b:Gs):Prop where
 ext:∀i c,dS a.items i=some c→dS b.items i=some c
 inv:InvI C g a.items→InvI C g b.items
 most:a.most≤60→b.most≤60
theorem Tr2.refl {C:Cx}{g:Nat}(s:Gs):Tr2 C g s s:=⟨fun _ _ h=>h,id,id⟩
theorem Tr2.trans {C:Cx}{g:Nat}{a b c:Gs}(h:Tr2 C g a b)(h':Tr2 C g b c):Tr2 C g a c:=⟨fun i v x=>h'.ext i v (h.ext i v x),fun x=>h'.inv (h.inv x),fun x=>h'.most (h.most x)⟩
theorem tl {l:List CL}{i:Nat}{c:Int}(h:dS l i=some c):i < l.length:=by
 unfold dS at h
 cases hi:l[i]? with
 | none=>rw[hi]at h;cases h
 | some x=>exact aM hi
theorem vt {l:List CL}{i:Nat}(h:i < l.length):∃c,dS l i=some c:=by
 obtain⟨x,hx⟩:=af h
 exact⟨x.fae.fah,by rw[dS,hx];rfl⟩
theorem JP.ext {a b:List CL}(h:∀i c,dS a i=some c→dS b i=some c){j:Int}(hj:JP a j):JP b j:=by
 obtain⟨h0,c,h1,h2⟩:=hj
 exact⟨h0,c,h _ _ h1,h2⟩
theorem Tr2.len {C:Cx}{g:Nat}{a b:Gs}(h:Tr2 C g a b):a.items.length≤b.items.length:=by
 rcases Nat.eq_zero_or_pos a.items.length with h0|h0
 ·omega
 ·obtain⟨c,hc⟩:=vt (l:=a.items) (i:=a.items.length - 1) (by omega)
  have:=tl (h.ext _ _ hc)
  omega
theorem cX {C:Cx}{g:Nat}{s:Gs}{d code arg line:Int}{chain:List Int}(hl:gK C line)(h1:code=10∨code=11→0≤arg∧arg≤s.items.length)(h2:¬(code=10∨code=11)→eH code arg)(h3:code≠13):Tr2 C g s (an C s d code arg line chain):=by
 refine⟨fun i c h=>?_,fun⟨h,t,e1,e2,e3⟩=>?_,id⟩
 ·have:=tl h
  unfold dS at h ⊢
  simp only[an]
  rw[List.getElem?_append_left this]
  exact h
 ·refine⟨h,t++[iW C s d code arg line chain],by simp[an,e1],e2,fun it hit=>?_⟩
  have hn:s.items.length≤(an C s d code arg line chain).items.length:=by simp[an]
  rw[List.mem_append,List.mem_singleton]at hit
  rcases hit with hit|rfl
  ·exact(e3 it hit).mono hn
  ·exact⟨hl,fun k=>by have:=h1 k;simp only[iW];omega,h2,h3⟩
theorem wD {l:List CL}{j v:Int}(i:Nat):dS (bx l j v) i=dS l i:=by
 unfold bx
 split
 ·split
  ·rename_i x hx
   unfold dS
   by_cases h:j.toNat=i
   ·subst h
    rw[List.getElem?_set_self (aM hx),hx]
    rfl
   ·rw[List.getElem?_set_ne h]
  ·rfl
 ·rfl
theorem xt {C:Cx}{g:Nat}{l:List CL}{j:Int}(h:InvI C g l)(hj:JP l j):InvI C g (bx l j l.length):=by
 obtain⟨a,t,e1,e2,e3⟩:=h
 obtain⟨h0,c,h1,h2⟩:=hj
 unfold bx
 rw[if_pos h0]
 cases hx:l[j.toNat]? with
 | none=>simp only;exact⟨a,t,e1,e2,e3⟩
 | some x=>
  have hc:x.fae.fah=c:=by rw[dS,hx]at h1;simpa using h1
  have hj0:j.toNat≠0:=by
   intro h
   rw[h,e1]at hx
   simp at hx
   subst hx
   have:=e2.1
   omega
  obtain⟨m,hm⟩:∃m,j.toNat=m+1:=⟨j.toNat - 1,by omega⟩
  rw[hm,e1,List.getElem?_cons_succ]at hx
  have hg:=e3 x (List.mem_of_getElem? hx)
  refine⟨a,t.set m ⟨⟨x.fae.fah,l.length⟩,x.fam,x.fai,x.faj,x.fao,x.fap⟩,?_,e2,fun it hit=>?_⟩
  ·rw[e1,hm];rfl
  ·rw[List.length_set]
   rcases List.mem_or_eq_of_mem_set hit with hit|rfl
   ·exact e3 it hit
   ·exact⟨hg.line,fun _=>by simp only;omega,fun k=>absurd (by rw[hc];exact h2) k,hg.enter⟩
theorem oG {C:Cx}{g:Nat}{s:Gs}{j:Int}(hj:JP s.items j):Tr2 C g s ⟨bx s.items j s.items.length,s.most,s.start⟩:=
 ⟨fun i c h=>by rw[wD];exact h,fun h=>xt h hj,id⟩
theorem tN {C:Cx}{g:Nat}:∀(js:List Int) {s:Gs},(∀j∈js,JP s.items j)→Tr2 C g s ⟨bT s.items s.items.length js,s.most,s.start⟩
 | [],s,_=>Tr2.refl s
 | j::js,s,h=>by
  have h1:=oG (C:=C) (g:=g) (s:=s) (h j (by simp))
  have h2:=tN (C:=C) (g:=g) js (s:=⟨bx s.items j s.items.length,s.most,s.start⟩) fun i hi=>(h i (by simp[hi])).ext h1.ext
  simp only[cJ]at h2
  exact h1.trans h2
theorem uQ {C:Cx}{s:Gs}{d code arg line:Int}{chain:List Int}(h:code=10∨code=11):JP (an C s d code arg line chain).items (s.items.length:Int):=by
 refine⟨by omega,code,?_,h⟩
 rw[dS,Int.toNat_natCast]
 simp[an,iW]
theorem xQ:∀(es:List Ex),es.length≤(ak es).length
 | []=>Nat.zero_le _
 | a::es=>by
  have:=xQ es
  have:=a.toks_pos
  rw[ak,List.length_append,List.length_cons];omega
section
variable {C:Cx} {x:Sc} {ins:List Nat} {rep:Sc→List Nat→Nat→Nat→Int→Gs→Gs} {line:Nat} {G:Nat}
theorem rQ (hC:CxOk C){y:Sc}(hf:0≤y.first∧y.first≤200){d i:Int}(hd:-100≤d∧d≤2000)(hi:-2≤i∧i≤100)(store:Bool):¬(bF C store=10∨bF C store=11)∧bF C store≠13∧eH (bF C store) (ca C y d i):=by
 have ha:=hC.args
 have hk:dD C y i≥-10∧dD C y i≤400:=by unfold dD;split <;> omega
 have hc:1≤bF C store∧bF C store≤4:=by unfold bF;split <;> split <;> omega
 have hA:-10000≤ca C y d i∧ca C y d i≤10000:=by unfold ca;repeat' split <;> omega
 unfold eH
 omega
theorem BB (hC:CxOk C){y:Sc}(hf:0≤y.first∧y.first≤200){d i line:Int}(hd:-100≤d∧d≤2000)(hi:-2≤i∧i≤100)(hl:gK C line)(s:Gs):Tr2 C G s (xT C y s d i line):=by
 obtain⟨h1,h2,h3⟩:=rQ hC hf hd hi false
 exact cX hl (fun k=>absurd k h1) (fun _=>h3) h2
theorem qY (hC:CxOk C){y:Sc}(hf:0≤y.first∧y.first≤200){d i line:Int}(hd:-100≤d∧d≤2000)(hi:-2≤i∧i≤100)(hl:gK C line)(s:Gs)(chain:List Int):Tr2 C G s (cQ C y s d i line chain):=by
 obtain⟨h1,h2,h3⟩:=rQ hC hf hd hi true
 exact cX hl (fun k=>absurd k h1) (fun _=>h3) h2
theorem sZ:eH 0 0:=by unfold eH;omega
theorem sX (hC:CxOk C){y:Sc}(hf:0≤y.first∧y.first≤200){chain:List Int}{line:Int}(hl:gK C line):∀(n:Nat) (d:Int) (s:Gs),n≤50→-100≤d - n→d≤2000→Tr2 C G s (cb C y chain line n d s)
 | 0,d,s,_,_,_=>Tr2.refl s
 | n+1,d,s,h0,h1,h2=>by
  rw[cb]
  exact(qY hC hf (by omega) (by omega) hl s chain).trans (sX hC hf hl n (d - 1) _ (by omega) (by omega) (by omega))
theorem wy (hC:CxOk C){y:Sc}(hf:0≤y.first∧y.first≤200){chain:List Int}{line d:Int}(hl:gK C line)(hd:-100≤d∧d≤1999):∀(n i:Nat) (s:Gs),i+n≤50→Tr2 C G s (cB C y chain line d n i s)
 | 0,i,s,_=>Tr2.refl s
 | n+1,i,s,h=>by
  rw[cB]
  exact((cX hl (fun k=>by omega) (fun _=>sZ) (by omega)).trans (qY hC hf (by omega) (by omega) hl _ chain)).trans (wy hC hf hl hd n (i+1) _ (by omega))
def wW (C:Cx)(rep:Sc→List Nat→Nat→Nat→Int→Gs→Gs)(G:Nat)(x:Sc)(ins:List Nat):Prop:=
 ∀(line g:Nat) (d:Int) (s:Gs),gK C line→bl C g→-10 * (ins.length:Int)≤d→d≤1000+30 * ins.length+21→bI C ins g s.items.length=true→Tr2 C G s (rep x ins line g d s)
theorem Cp (hC:CxOk C)(hx:ScOk C x ins)(hi:ins.length≤4)(hrep:wW C rep G x ins)(hl:gK C line){t:CU}(ht:dB t=true){d:Int}(h1:-10 * (ins.length:Int)≤d)(h2:d≤1000+30 * ins.length+21)(s:Gs):Tr2 C G s (gq C rep x ins line t d s):=by
 obtain⟨e,e1,e2,e3,e4,e5⟩:=hx.endE hC
 have hfi:=hx.first
 have hli:=iC x.locals t.fab
 unfold dB at ht
 unfold gq
 split
 ·rename_i h0
  rw[if_pos h0]at ht
  simp only[Bool.and_eq_true,within_iff]at ht
  exact cX hl (fun k=>by omega) (fun _=>by unfold eH;omega) (by omega)
 ·rename_i h0
  rw[if_neg h0]at ht
  split
  ·exact BB hC (by omega) (by omega) (by omega) hl s
  ·rename_i h1
   split
   ·split
    ·rename_i g hg
     obtain⟨_,ln,k1,k2,_⟩:=dZ hg
     split
     ·rename_i hr
      exact hrep line g d s hl ⟨ln,k1,k2⟩ (by omega) (by omega) hr
     ·have hn:=wh C.p g
      have:=aM k1
      have:=hC.len
      exact cX hl (fun k=>by omega) (fun _=>by unfold eH;omega) (by omega)
    ·exact Tr2.refl s
   ·rename_i h7
    rw[if_neg h7,if_neg h1]at ht
    simp only[Bool.and_eq_true,within_iff]at ht
    exact cX hl (fun k=>by omega) (fun _=>by unfold eH;omega) (by omega)
mutual
theorem xZ (hC:CxOk C)(hx:ScOk C x ins)(hi:ins.length≤4)(hrep:wW C rep G x ins)(hl:gK C line):∀(e:Ex) (d:Int) (s:Gs),e.ok→-10 * (ins.length:Int)≤d→d+e.toks.length≤1000+30 * ins.length+21→Tr2 C G s (dh C rep x ins line e d s)
 | .node t es,d,s,h,h1,h2=>by
  rw[Ex.toks,List.length_cons]at h2
  rw[dh]
  have hle:=xQ es
  exact(vW hC hx hi hrep hl es d s h.2.2 h1 (by omega)).trans (Cp hC hx hi hrep hl h.1 (by omega) (by omega) _)
theorem vW (hC:CxOk C)(hx:ScOk C x ins)(hi:ins.length≤4)(hrep:wW C rep G x ins)(hl:gK C line):∀(es:List Ex) (d:Int) (s:Gs),gh es→-10 * (ins.length:Int)≤d→d+(ak es).length≤1000+30 * ins.length+21→Tr2 C G s (cD C rep x ins line es d s)
 | [],d,s,_,_,_=>by rw[cD];exact Tr2.refl s
 | a::es,d,s,h,h1,h2=>by
  rw[ak,List.length_append]at h2
  rw[cD]
  have hp:=a.toks_pos
  exact(xZ hC hx hi hrep hl a d s h.1 h1 (by omega)).trans (vW hC hx hi hrep hl es (d+1) _ h.2 (by omega) (by omega))
end
theorem zA (hl:gK C line)(x:Sc)(d:Int)(s:Gs):Tr2 C G s (bA C x line d s):=by
 unfold bA
 split
 ·exact cX hl (fun k=>by omega) (fun _=>by unfold eH;omega) (by omega)
 ·exact Tr2.refl s
theorem Cb (hC:CxOk C)(hx:ScOk C x ins)(hi:ins.length≤3)(hl:gK C line){g:Nat}(hg:bl C g){d:Int}(h1:-10 * (ins.length:Int)≤d)(h2:d≤1000+30 * ins.length+21)(s:Gs):Tr2 C G s (di C x line g d s):=by
 obtain⟨k1,k2⟩:=ck hC hg
 have hy:=iR hC hx line hg
 have hf:=hy.first
 rw[List.length_append,List.length_cons,List.length_nil]at hf
 have ht:=mJ hC hx
 have ha:=hC.argsN g
 have h0:Tr2 C G s ⟨s.items,max s.most (be C x+(localsOf C.p (g:Int)).length),s.start⟩:=⟨fun _ _ h=>h,id,fun h=>by dsimp only;omega⟩
 unfold di
 exact(h0.trans (sX hC (by omega) hl _ d _ (by omega) (by omega) (by omega))).trans (wy hC (by omega) hl (by omega) _ _ _ (by omega))
structure LsI (C:Cx) (G f k:Nat) (g0:Gs) (L:Ls):Prop where
 tr:Tr2 C G g0 L.g
 heads:∀v∈L.heads,0≤v∧v≤L.g.items.length
 pos:∀i,f+1≤i→i < k→jumps C.p i→JP L.g.items (atL L.pos i)
 lv:∀j∈L.lv,JP L.g.items j
 len:L.pos.length=C.p.length
theorem LsI.step {f k k':Nat}{g0:Gs}{L L':Ls}(h:LsI C G f k g0 L)(ht:Tr2 C G L.g L'.g)(hh:∀v∈L'.heads,v∈L.heads∨(0≤v∧v≤L'.g.items.length))(hp:∀i,f+1≤i→i < k'→jumps C.p i→(i < k∧atL L'.pos i=atL L.pos i)∨JP L'.g.items (atL L'.pos i))(hv:∀j∈L'.lv,j∈L.lv∨JP L'.g.items j)(hl:L'.pos.length=L.pos.length):LsI C G f k' g0 L':=by
 have hle:=ht.len
 refine⟨h.tr.trans ht,fun v hv=>?_,fun i h1 h2 h3=>?_,fun j hj=>?_,by rw[hl,h.len]⟩
 ·rcases hh v hv with h1|h1
  ·have:=h.heads v h1;omega
  ·exact h1
 ·rcases hp i h1 h2 h3 with⟨k1,k2⟩|k1
  ·rw[k2];exact(h.pos i h1 k1 h3).ext ht.ext
  ·exact k1
 ·rcases hv j hj with h1|h1
  ·exact(h.lv j h1).ext ht.ext
  ·exact h1
theorem LsI.same {f k:Nat}{g0:Gs}{L L':Ls}(h:LsI C G f k g0 L)(ht:Tr2 C G L.g L'.g)(e1:L'.heads=L.heads)(e2:L'.pos=L.pos)(e3:L'.lv=L.lv):LsI C G f k g0 L':=
 h.step ht (fun v hv=> .inl (by rw[←e1];exact hv)) (fun i _ h2 _=> .inl ⟨h2,by rw[e2]⟩) (fun j hj=> .inl (by rw[←e3];exact hj)) (by rw[e2])
theorem LsI.next {f k:Nat}{g0:Gs}{L:Ls}(h:LsI C G f k g0 L)(hj:¬jumps C.p k):LsI C G f (k+1) g0 L:=
 h.step (Tr2.refl _) (fun v hv=> .inl hv) (fun i h1 h2 h3=> .inl ⟨by
  rcases Nat.lt_or_ge i k with h|h
  ·exact h
  ·rw[show i=k by omega]at h3;exact absurd h3 hj,rfl⟩) (fun j hj=> .inl hj) rfl
theorem vA (hC:CxOk C)(hw:C.words≤255){f k k':Nat}{g0:Gs}{L:Ls}(hl:gK C (k':Int))(last:Bool)(d:Int)(h:LsI C G f k g0 L):LsI C G f k g0 (aH C x k' last d L):=by
 have ha:=hC.args
 have hww:=hC.words
 unfold aH
 split
 ·split
  ·exact h.same (cX hl (fun k=>by omega) (fun _=>by unfold eH;omega) (by omega)) rfl rfl rfl
  ·exact h.same (cX hl (fun k=>by omega) (fun _=>by unfold eH;omega) (by omega)) rfl rfl rfl
 ·split
  ·exact h
  ·refine h.step (cX hl (fun k=>by omega) (fun k=>by omega) (by omega)) (fun v hv=> .inl hv) (fun i _ h2 _=> .inl ⟨h2,rfl⟩) (fun j hj=>?_) rfl
   simp only[List.mem_append,List.mem_singleton]at hj
   rcases hj with hj|rfl
   ·exact .inl hj
   ·exact .inr (uQ (.inl rfl))
theorem yS {l:List Int}{n:Int}(h:∀v∈l,0≤v∧v≤n)(hn:0≤n)(k:Nat):0≤atL l k∧atL l k≤n:=by
 unfold atL
 cases hk:l[k]? with
 | none=>simp only[Option.getD];omega
 | some v=>exact h v (List.mem_of_getElem? hk)
theorem zI (hC:CxOk C)(hw:C.words≤255)(hx:ScOk C x ins)(hi:ins.length≤4)(hrep:wW C rep G x ins){e:Nat}(he:endAt C.p x.f=some e){k:Nat}{ln:CM}(hk:C.p[k]?=some ln)(h0:ln.faa≠0)(hk1:x.f < k)(hk2:k≤e){base:Int}(hb1:-10 * (ins.length:Int)≤base)(hb2:base≤1000+30 * ins.length){g0:Gs}{L:Ls}(h:LsI C G x.f k g0 L):LsI C G x.f (k+1) g0 (cO C rep x ins base k ln L):=by
 have hl:gK C (k:Int):=⟨ln,by omega,by rw[Int.toNat_natCast];exact hk,h0⟩
 have hkl:k < C.p.length:=aM hk
 have hka:=aZ hk
 unfold cO
 split
 ·rename_i h4
  obtain⟨o1,o2,o3,o4⟩:=hx.own4 hC he hk1 hk2 hk h4
  obtain⟨y,_,hy,hy3,_⟩:=aP o1
  have hJ:=h.pos (az C.p k) o2 o3 (.inl (by rw[aZ hy];exact hy3))
  have t1:Tr2 C G L.g (an C L.g base 10 0 k x.chain):=cX hl (fun _=>by omega) (fun k=>by omega) (by omega)
  have t2:=oG (C:=C) (g:=G) (hJ.ext t1.ext)
  refine h.step (t1.trans t2) (fun v hv=> .inl hv) (fun i h1 h2 h3=>?_) (fun j hj=> .inl hj) (by simp)
  by_cases hik:i=k
  ·subst hik
   refine .inr ?_
   rw[fc (by rw[h.len];exact hkl)]
   exact JP.ext t2.ext (uQ (.inl rfl))
  ·exact .inl ⟨by omega,dA hik⟩
 ·rename_i h4
  split
  ·rename_i h7
   have hnj:¬jumps C.p k:=by unfold jumps;rw[hka];omega
   split
   ·exact(vA hC hw (x:=x) hl true (base+1) (h.same (L':={L with g:=an C L.g base 0 0 k x.chain}) (cX hl (fun k=>by omega) (fun _=>sZ) (by omega)) rfl rfl rfl)).next hnj
   ·split
    ·have hh:=yS h.heads (by omega) (az C.p k)
     exact(h.same (L':={L with g:=an C L.g base 10 (atL L.heads (az C.p k)) k x.chain}) (cX hl (fun _=>hh) (fun k=>by omega) (by omega)) rfl rfl rfl).next hnj
    ·exact h.next hnj
  ·rename_i h7
   have hlk:=hC.line _ _ hk
   have hex:=ox (hlk.2.2.2.2 (by omega))
   have h20:=hlk.2.2.2.1
   rw[hex.2]at h20
   have tg:Tr2 C G L.g (dh C rep x ins k (exL ln.fac) base ⟨L.g.items,L.g.most,true⟩):=by
    have:=xZ hC hx hi hrep hl (exL ln.fac) base ⟨L.g.items,L.g.most,true⟩ hex.1 hb1 (by omega)
    exact⟨this.ext,this.inv,this.most⟩
   have hL1:LsI C G x.f k g0 {L with g:=dh C rep x ins k (exL ln.fac) base ⟨L.g.items,L.g.most,true⟩,heads:=L.heads.set k L.g.items.length}:=by
    refine h.step tg (fun v hv=>?_) (fun i _ h2 _=> .inl ⟨h2,rfl⟩) (fun j hj=> .inl hj) rfl
    rcases List.mem_or_eq_of_mem_set hv with hv|rfl
    ·exact .inl hv
    ·exact .inr ⟨by omega,by have:=tg.len;simp only;omega⟩
   have hli:=iC x.locals ln.fab
   obtain⟨_,_,_,_,_,e5⟩:=hx.endE hC
   have hfi:=hx.first
   generalize dh C rep x ins k (exL ln.fac) base ⟨L.g.items,L.g.most,true⟩=GE at tg hL1 ⊢
   split
   ·rename_i k1
    have hnj:¬jumps C.p k:=by unfold jumps;rw[hka];omega
    have t2:Tr2 C G GE (cQ C x GE (base+1) (ct x.locals ln.fab) k x.chain):=qY hC (by omega) (by omega) (by omega) hl _ _
    exact(hL1.same (L':={L with g:=cQ C x GE (base+1) (ct x.locals ln.fab) k x.chain,heads:=L.heads.set k L.g.items.length}) t2 rfl rfl rfl).next hnj
   ·split
    ·rename_i k2
     have hnj:¬jumps C.p k:=by unfold jumps;rw[hka];omega
     have t2:Tr2 C G GE (an C GE (base+1) 17 0 k x.chain):=cX hl (fun k=>by omega) (fun _=>by unfold eH;omega) (by omega)
     exact(hL1.same (L':={L with g:=an C GE (base+1) 17 0 k x.chain,heads:=L.heads.set k L.g.items.length}) t2 rfl rfl rfl).next hnj
    ·split
     ·rename_i k6
      have hnj:¬jumps C.p k:=by unfold jumps;rw[hka];omega
      exact(vA hC hw (x:=x) hl false (base+1) hL1).next hnj
     ·refine hL1.step (cX hl (fun _=>by omega) (fun k=>by omega) (by omega)) (fun v hv=> .inl hv) (fun i h1 h2 h3=>?_) (fun j hj=> .inl hj) (by simp)
      by_cases hik:i=k
      ·subst hik
       refine .inr ?_
       rw[fc (by rw[h.len];exact hkl)]
       exact uQ (.inr rfl)
      ·exact .inl ⟨by omega,dA hik⟩
theorem AG (hC:CxOk C)(hx:ScOk C x ins){e:Nat}(he:endAt C.p x.f=some e){k:Nat}{ln:CM}(hk:C.p[k]?=some ln)(hk1:x.f < k)(hk2:k≤e){g0:Gs}{L:Ls}(h:LsI C G x.f (k+1) g0 L):LsI C G x.f (k+1) g0 (aK C x k ln L):=by
 unfold aK
 split
 ·rename_i h7
  have hke:k≠e:=fun hh=>by
   rcases(hx.own7 hC he hk1 hk2 hk h7.1).2 with⟨_,o⟩|⟨o,_⟩
   ·exact h7.2 o
   ·omega
  obtain⟨k1,k2,k3,_,_⟩:=ut hC hx he hk1 (by omega) hk h7.1
  exact h.same (oG (h.pos _ k1 (by omega) k3)) rfl rfl rfl
 ·exact h
theorem ym (hC:CxOk C)(hw:C.words≤255)(hx:ScOk C x ins)(hi:ins.length≤4)(hrep:wW C rep G x ins){e:Nat}(he:endAt C.p x.f=some e){base:Int}(hb1:-10 * (ins.length:Int)≤base)(hb2:base≤1000+30 * ins.length)(h0:∀i y,x.f < i→i≤e→C.p[i]?=some y→y.faa≠0){g0:Gs}:∀(n k:Nat) (L:Ls),x.f < k→k+n=e+1→LsI C G x.f k g0 L→LsI C G x.f (e+1) g0 (gY C rep x ins base n k L)
 | 0,k,L,_,h2,h=>by rw[gY,←h2];exact h
 | n+1,k,L,h1,h2,h=>by
  obtain⟨_,_,_,_,_,hel⟩:=au he
  obtain⟨ln,hk⟩:=af (l:=C.p) (k:=k) (by omega)
  rw[gY,hk]
  exact ym hC hw hx hi hrep he hb1 hb2 h0 n (k+1) _ (by omega) (by omega) (AG hC hx he hk h1 (by omega) (zI hC hw hx hi hrep he hk (h0 k ln h1 (by omega) hk) h1 (by omega) hb1 hb2 h))
theorem tR (hC:CxOk C)(hw:C.words≤255)(hx:ScOk C x ins)(hi:ins.length≤4)(hrep:wW C rep G x ins){base:Int}(hb1:-10 * (ins.length:Int)≤base)(hb2:base≤1000+30 * ins.length)(s:Gs):Tr2 C G s (aI C rep x ins base s).1∧∀j∈(aI C rep x ins base s).2,JP (aI C rep x ins base s).1.items j:=by
 obtain⟨ln,h1,h2⟩:=hx.fn
 obtain⟨e,h3,_,_,h4⟩:=hC.fn _ _ h1 h2
 obtain⟨e',g3,g4,g4',g5,_⟩:=hx.endE hC
 rw[h3]at g3
 injection g3 with g3
 subst g3
 have h:=ym hC hw hx hi hrep h3 hb1 hb2 (fun i y k1 k2 hy=>by
  by_cases hie:i=e
  ·subst hie
   obtain⟨z,hz,h7⟩:=bk h3
   rw[hy]at hz
   injection hz with hz
   subst hz
   omega
  ·exact(h4 i y (by omega) (by omega) hy).1) (g0:=s) (e - x.f) (x.f+1) (bN C s) (by omega) (by omega) ⟨Tr2.refl s,fun v hv=>by
   simp only[bN,List.mem_replicate]at hv
   omega,fun i k1 k2 _=>by omega,fun j hj=>(by cases hj),by simp[bN]⟩
 unfold aI
 rw[g5]
 exact⟨h.tr,h.lv⟩
end
theorem yn {C:Cx}{G:Nat}(hC:CxOk C)(hw:C.words≤255):∀(lev:Nat) {x:Sc} {ins:List Nat},ScOk C x ins→wW C (aL C lev) G x ins
 | 0,x,ins,hx,line,g,d,s,_,_,_,_,_=>Tr2.refl s
 | lev+1,x,ins,hx,line,g,d,s,hl,hg,h1,h2,hr=>by
  obtain⟨r1,r2,r3,_⟩:=dq hr
  have hin:=hC.inl
  have hy:=iR hC hx line hg
  have ha:=hC.argsN g
  have hil:(ins++[g]).length=ins.length+1:=by simp
  have t1:=Cb (G:=G) hC hx (by omega) hl hg h1 h2 s
  have t2:=zA (G:=G) hl x (d - argsN C.p g) (di C x line g d s)
  have t3:=tR (G:=G) hC hw hy (by omega) (yn hC hw lev hy) (base:=d - argsN C.p g) (by omega) (by omega) (bA C x line (d - argsN C.p g) (di C x line g d s))
  exact((t1.trans t2).trans t3.1).trans (tN _ t3.2)
theorem vU {C:Cx}(hC:CxOk C)(hw:C.words≤255){g:Nat}(hg:bl C g)(e5:C.args=argsN C.p g):InvI C g (cf C g).items∧(cf C g).most≤60:=by
 have hS:ScOk C (bf C g) [g]:=⟨hg,rfl,⟨Int.le_refl _,by simp[bf]⟩,rfl,by simp[bf],fun _=>e5,rfl⟩
 have hww:=hC.words
 have t:=(tR (G:=g) hC hw hS (by simp) (yn hC hw C.b.fag.toNat hS) (base:=C.words) (by simp only[List.length_cons,List.length_nil];omega) (by simp only[List.length_cons,List.length_nil];omega) (dp C g)).1
 obtain⟨l1,l2⟩:=ck hC hg
 refine⟨t.inv ⟨_,[],rfl,⟨?_,rfl,rfl⟩,fun it h=>by cases h⟩,t.most ?_⟩
 ·simp only[iW];split <;> omega
 ·show(localsOf C.p (g:Int)).length - C.args≤60;omega
theorem ua {p:List CM}{f:Int}{b:CE}(hs:aA 1048576 (.lst 4 (p.map CM.tr)))(h1:aF p=true)(h2:bE b=true)(h3:0≤f)(h4:f < (ay p).length):∃(g:Nat) (C:Cx),(ay p)[f.toNat]?=some g∧C.p=foldIf p b∧0≤C.words∧C.words≤255∧InvI C g (aW p f b):=by
 obtain⟨g,C,k1,k2,k3,k4,k5,k6,k7,k8,k9⟩:=oX hs h1 h2 h3 h4
 have hb:0≤b.fag∧b.fag≤3:=by
  unfold bE at h2
  simp only[Bool.and_eq_true,within_iff]at h2
  exact h2.2
 have hpg:=(pY hs h1).foldIf b
 have ha:(0:Int)≤(argsN (foldIf p b) g:Int)∧(argsN (foldIf p b) g:Int)≤4:=by have:=k2.argsN g;rw[k3]at this;omega
 have hC0:CxOk (ctx (foldIf p b) f.toNat g b 0):=hpg.cx ha (by omega) hb
 obtain⟨y,y1,y2⟩:=k7
 have hf0:bl (ctx (foldIf p b) f.toNat g b 0) g:=⟨y,by rw[k3]at y1;exact y1,y2⟩
 have h60:=(vU hC0 (by show(0:Int)≤255;omega) hf0 rfl).2
 have hw:=k2.words
 refine⟨g,C,k1,k3,hw.1,by omega,?_⟩
 rw[k8]
 exact(vU k2 (by omega) ⟨y,y1,y2⟩ k5).1
end Go.Proofs.YtoglejgmjeojoaaGreat
namespace Go.Proofs.YtoglejgmjeojoaaGreat
open Go.Sim
set_option maxRecDepth 100000
set_option maxHeartbeats 4000000
def oY (c:Int):Int×Bool:=
 if c=0 then(4,true)else if c=1∨c=2∨c=3∨c=4∨c=10∨c=11 then(2,true)
 else if c=16 then(2,false)else if c=12∨c=13∨c=14∨c=15 then(1,false)else(0,false)
def ic (c:Int):Int:=if ah c 0 17 then(oY c).1+1 else 0
theorem qr (c:Int):0≤(oY c).1∧(oY c).1≤4:=by
 unfold oY
 repeat' split
 all_goals simp
theorem lq (c:Int):0≤ic c∧ic c≤5:=by
 have:=qr c
 unfold ic
 split <;> omega
abbrev CB (c:Int):Res:= .tup [.c (.t (.int .i64 (oY c).1)),.c (.t (.bool (oY c).2))]
theorem pL (c:Int):Sim.Spec Tryz.prog 220 [tvI c] (CB c):=by
 refine aj hΓ aq Tryz.func220 rfl (by decide) rfl ?_
 repeat' ((conv=>whnf);first|refine Or.inl ?_|apply oi|(apply fi<;>intro h)|refine⟨_,rfl,?_⟩|exact rfl)
 all_goals try exact⟨KO⟩
 all_goals(refine⟨?_⟩;simp_all[oY])
theorem pK (c:Int):Sim.Spec Tryz.prog 131 [tvI c] (CB c):=by
 refine aj hΓ aq Tryz.func131 rfl (by decide) rfl ?_
 repeat' ((conv=>whnf);first|refine Or.inl ?_|apply oi|(apply fi<;>intro h)|refine⟨_,rfl,?_⟩|exact rfl)
 all_goals try exact⟨KO⟩
 all_goals(refine⟨?_⟩;simp_all[oY])
theorem lN (c:Int):Sim.Spec Tryz.prog 160 [tvI c] (rI (ic c)):=by
 refine aj hΓ aq Tryz.func160 rfl (by decide) rfl ?_
 have hb:=aJ c 0 17
 have ha:=pL c
 have hle:=qr c
 unfold ic
 cases hw:ah c 0 17 with
 | false=>
  rw[hw]at hb
  repeat' ((conv=>whnf);first|refine Or.inl ?_|apply oi|(apply fi<;>intro h)|refine ci hb (ai rfl (ai rfl (ai rfl trivial))) ?_|refine⟨_,rfl,?_⟩|exact rfl)
  all_goals try exact⟨KO⟩
 | true=>
  rw[hw]at hb
  repeat' ((conv=>whnf);first|refine Or.inl ?_|apply oi|(apply fi<;>intro h)|refine ci hb (ai rfl (ai rfl (ai rfl trivial))) ?_|refine ci ha (ai rfl trivial) ?_|refine⟨_,rfl,?_⟩|exact rfl)
  all_goals try exact⟨KO⟩
  exact⟨by rw[IntWalk.i64_in _ (by omega)];rfl⟩
theorem sP (c:Int):Sim.Spec Tryz.prog 59 [tvI c] (rI (ic c)):=by
 refine aj hΓ aq Tryz.func59 rfl (by decide) rfl ?_
 have hb:=cn c 0 17
 have ha:=pK c
 have hle:=qr c
 unfold ic
 cases hw:ah c 0 17 with
 | false=>
  rw[hw]at hb
  repeat' ((conv=>whnf);first|refine Or.inl ?_|apply oi|(apply fi<;>intro h)|refine ci hb (ai rfl (ai rfl (ai rfl trivial))) ?_|refine⟨_,rfl,?_⟩|exact rfl)
  all_goals try exact⟨KO⟩
 | true=>
  rw[hw]at hb
  repeat' ((conv=>whnf);first|refine Or.inl ?_|apply oi|(apply fi<;>intro h)|refine ci hb (ai rfl (ai rfl (ai rfl trivial))) ?_|refine ci ha (ai rfl trivial) ?_|refine⟨_,rfl,?_⟩|exact rfl)
  all_goals try exact⟨KO⟩
  exact⟨by rw[IntWalk.i64_in _ (by omega),Int.add_comm];rfl⟩
def bQ:Int→List CL→List Int
 | at0,[]=>[at0]
 | at0,x::l=>at0::bQ (at0+ic x.fae.fah) l
def sJ (at0:Int)(l:List CL):Int:=atL (bQ at0 l) l.length
def tZ (x:CL)(a:Int):CL:=⟨⟨x.fae.fah,a⟩,x.fam,x.fai,x.faj,x.fao,x.fap⟩
def ob (x:CL):Bool:=x.fae.fah==10 || x.fae.fah==11
def fo (st:List Int)(k:Nat)(x:CL):CL:=if ob x=true then tZ x (atL st x.fae.fal.toNat - atL st (k+1))else x
def kZ (st:List Int):Nat→List CL→List CP
 | _,[]=>[]
 | k,x::l=>⟨atL st k,fo st k x⟩::kZ st (k+1) l
def cT (l:List CL)(at0:Int):List CP:=kZ (bQ at0 l) 0 l
theorem kH:∀(at0:Int) (l:List CL),(bQ at0 l).length=l.length+1
 | _,[]=>rfl
 | at0,x::l=>by rw[bQ,List.length_cons,kH,List.length_cons]
theorem fN (at0:Int)(l:List CL):atL (bQ at0 l) 0=at0:=by cases l <;> rfl
theorem rF (a:Int)(l:List Int)(k:Nat):atL (a::l) (k+1)=atL l k:=by simp[atL]
theorem ep:∀{at0:Int} {l:List CL} {k:Nat} {x:CL},l[k]?=some x→atL (bQ at0 l) (k+1)=atL (bQ at0 l) k+ic x.fae.fah
 | _,[],_,_,h=>by simp at h
 | at0,y::l,0,x,h=>by
  rw[List.getElem?_cons_zero]at h
  injection h with h
  subst h
  rw[bQ,rF,fN]
  rfl
 | at0,y::l,k+1,x,h=>by
  rw[List.getElem?_cons_succ]at h
  rw[bQ,rF,rF,ep h]
theorem gd {at0:Int}{l:List CL}:∀{k:Nat},k≤l.length→at0≤atL (bQ at0 l) k∧atL (bQ at0 l) k≤at0+5 * k
 | 0,_=>by rw[fN];omega
 | k+1,h=>by
  obtain⟨x,hx⟩:=af (l:=l) (k:=k) (by omega)
  have:=gd (at0:=at0) (l:=l) (k:=k) (by omega)
  have:=lq x.fae.fah
  rw[ep hx]
  omega
theorem lu {l:List Int}{k:Nat}(h:k < l.length):l[k]?=some (atL l k):=by
 obtain⟨x,hx⟩:=af h
 rw[atL,hx];rfl
theorem fu {α:Type}{l:List α}{k:Nat}{x:α}(h:l[k]?=some x):l.take (k+1)=l.take k++[x]:=by
 rw[List.take_add_one,h];rfl
theorem pp (st:List Int):∀(k:Nat) (l:List CL),(kZ st k l).length=l.length
 | _,[]=>rfl
 | k,x::l=>by rw[kZ,List.length_cons,pp,List.length_cons]
theorem pa (st:List Int):∀{l:List CL} {j k:Nat} {x:CL},l[j]?=some x→(kZ st k l)[j]?=some ⟨atL st (k+j),fo st (k+j) x⟩
 | [],_,_,_,h=>by simp at h
 | y::l,0,k,x,h=>by
  rw[List.getElem?_cons_zero]at h
  injection h with h
  subst h
  rfl
 | y::l,j+1,k,x,h=>by
  rw[List.getElem?_cons_succ]at h
  rw[kZ,List.getElem?_cons_succ,pa st h,show k+1+j=k+(j+1) by omega]
theorem fh (l:List CL)(at0:Int):(cT l at0).length=l.length:=pp _ _ _
theorem gy {l:List CL}{at0:Int}{j:Nat}{x:CL}(h:l[j]?=some x):(cT l at0)[j]?=some ⟨atL (bQ at0 l) j,fo (bQ at0 l) j x⟩:=by
 have:=pa (bQ at0 l) (k:=0) h
 rwa [Nat.zero_add]at this
def ue (l:List CL):Prop:=∀x∈l,ob x=true→0≤x.fae.fal∧x.fae.fal≤l.length
theorem fY {x:CL}:ob x=true↔x.fae.fah=10∨x.fae.fah=11:=by simp[ob]
def pf (b:CE)(image:Int)(f:Nat):Bool:=if b.far=true then(f:Int) % 2==image else image==0
noncomputable def fA (p:List CM) (b:CE) (image:Int):Nat→Nat→Int→List (Nat×List CP)
 | 0,_,_=>[]
 | n+1,f,at0=>if pf b image f=true then(f,cT (aW p f b) at0)::fA p b image n (f+1) (sJ at0 (aW p f b))else fA p b image n (f+1) at0
noncomputable def cv (p:List CM) (b:CE) (image:Int):List CP:=
 if aF p=true∧bE b=true∧ah image 0 1=true then((fA p b image (ay p).length 0 0).map Prod.snd).flatten else []
structure FnOk (p:List CM) (b:CE) (f:Nat):Prop where
 pos:0 < (aW p f b).length
 len:(aW p f b).length≤2500
 jmp:ue (aW p f b)
theorem InvI.jumps {C:Cx}{g:Nat}{l:List CL}(h:InvI C g l):0 < l.length∧ue l:=by
 obtain⟨a,t,rfl,h2,h3⟩:=h
 refine⟨by simp,fun x hx hj=>?_⟩
 rw[fY]at hj
 rcases List.mem_cons.1 hx with rfl|hx
 ·have:=h2.1;omega
 ·exact(h3 x hx).jump hj
theorem BQ {p:List CM}{b:CE}(hs:aA 1048576 (.lst 4 (p.map CM.tr)))(h1:aF p=true)(h2:bE b=true){f:Nat}(h:f < (ay p).length):FnOk p b f:=by
 obtain⟨g,C,_,_,_,_,hi⟩:=ua (f:=(f:Int)) hs h1 h2 (by omega) (by omega)
 exact⟨hi.jumps.1,(fO hs).1,hi.jumps.2⟩
theorem nH {p:List CM}(h1:aF p=true):(ay p).length≤6∧p.length≤60:=by
 rw[ph]at h1
 simp only[Bool.and_eq_true,decide_eq_true_eq]at h1
 exact⟨h1.2.1,h1.1⟩
theorem uD {l:List CL}{at0:Int}(h:0 < l.length):∃x:CP,(cT l at0)[l.length - 1]?=some x∧x.fat+ic x.fak.fae.fah=sJ at0 l∧at0≤x.fat∧x.fat≤at0+5 * l.length:=by
 obtain⟨y,hy⟩:=af (l:=l) (k:=l.length - 1) (by omega)
 refine⟨_,gy hy,?_,?_⟩
 ·have h1:=ep (at0:=at0) hy
  have hc:(fo (bQ at0 l) (l.length - 1) y).fae.fah=y.fae.fah:=by unfold fo;split <;> rfl
  rw[hc,←h1,sJ]
  congr 1;omega
 ·have:=gd (at0:=at0) (l:=l) (k:=l.length - 1) (by omega)
  dsimp only;omega
theorem yc {l:List CL}{at0:Int}:at0≤sJ at0 l∧sJ at0 l≤at0+5 * l.length:=gd (Nat.le_refl _)
theorem tv {p:List CM}{b:CE}{image:Int}{n f:Nat}{at0:Int}:fA p b image (n+1) f at0=if pf b image f=true then(f,cT (aW p f b) at0)::fA p b image n (f+1) (sJ at0 (aW p f b))else fA p b image n (f+1) at0:=rfl
abbrev BM (p:List CM)(b:CE)(image:Int):={q:Nat×Int×List (Nat×List CP) // q.1≤(ay p).length∧(0≤q.2.1∧q.2.1≤12500 * q.1)∧q.2.2.length≤q.1∧q.2.2++fA p b image ((ay p).length - q.1) q.1 q.2.1=fA p b image (ay p).length 0 0}
def lb (L:List (Nat×List CP)):List (List Tr):=L.map fun x=>ab (x.1:Int)
def gu (L:List (Nat×List CP)):List (List Tr):=L.map fun x=>[.lst 8 (x.2.map CP.tr)]
theorem mF (p:List CM)(b:CE)(image:Int):∀(n f:Nat) (at0:Int),(fA p b image n f at0).length≤n
 | 0,_,_=>Nat.le_refl _
 | n+1,f,at0=>by
  rw[fA]
  split
  ·have:=mF p b image n (f+1) (sJ at0 (aW p f b));rw[List.length_cons];omega
  ·have:=mF p b image n (f+1) at0;omega
theorem kq {p:List CM}{b:CE}(hs:aA 1048576 (.lst 4 (p.map CM.tr))){image:Int}:∀{n f:Nat} {at0:Int} {x:Nat×List CP},x∈fA p b image n f at0→x.2.length≤2500∧∀y∈x.2,y.fak.faj.length≤4
 | 0,_,_,_,h=>by cases h
 | n+1,f,at0,x,h=>by
  rw[fA]at h
  split at h
  ·rcases List.mem_cons.1 h with rfl|h
   ·obtain⟨c1,c2⟩:=fO (p:=p) (f:=(f:Int)) (b:=b) hs
    refine⟨by rw[fh];exact c1,fun y hy=>?_⟩
    obtain⟨j,hj⟩:=List.getElem?_of_mem hy
    have hjl:=aM hj
    rw[fh]at hjl
    obtain⟨z,hz⟩:=af hjl
    rw[gy hz]at hj
    injection hj with hj
    subst hj
    have:(fo (bQ at0 (aW p f b)) j z).faj=z.faj:=by unfold fo;split <;> rfl
    rw[this]
    exact c2 z (List.mem_of_getElem? hz)
   ·exact kq hs h
  ·exact kq hs h
def dl (L:List (Nat×List CP)):List CP:=(L.map Prod.snd).flatten
theorem qx {L:List (Nat×List CP)}{k:Nat}{x:Nat×List CP}(h:L[k]?=some x):dl (L.take (k+1))=dl (L.take k)++x.2:=by
 rw[fu h];simp[dl]
theorem kN {L:List (Nat×List CP)}(h:∀x∈L,x.2.length≤2500):∀{k:Nat},k≤L.length→(dl (L.take k)).length≤2500 * k
 | 0,_=>by simp[dl]
 | k+1,hk=>by
  obtain⟨x,hx⟩:=af (l:=L) (k:=k) (by omega)
  have:=kN h (k:=k) (by omega)
  have:=h x (List.mem_of_getElem? hx)
  rw[qx hx,List.length_append]
  omega
abbrev vIt (l:List CL):AV:= .r (.c (.t (.lst 7 (l.map CL.tr))))
theorem jQ (l:List CL)(at0:Int)(hl:l.length≤2500)(h0:0≤at0∧at0≤200000)(hj:ue l)(hc:∀x∈l,x.faj.length≤1000):bp Tryz.prog 158 [vIt l,tI .i64 at0] [] (.r (.c (.own (1,0,0)))) [((1,0,0),.dar 8 (ae ((cT l at0).map CP.tr)) none)]:=by
 refine ax hΓ aq Tryz.func158 rfl (by decide) rfl rfl ?_
 have hlen:(l.map CL.tr).length=l.length:=by simp
 have hsl:=kH at0 l
 have hle:=fun k (h:k≤l.length)=>gd (at0:=at0) h
 generalize hS:bQ at0 l=S at *
 have hS0:atL S 0=at0:=by rw[←hS];exact fN at0 l
 have hsu:=fun k x (h:l[k]?=some x)=>ep (at0:=at0) h
 rw[hS]at hsu
 repeat' ((conv=>whnf);first|apply Wx|apply W6|apply oi|(apply fi<;>intro h)|refine⟨_,rfl,?_⟩|exact rfl)
 all_goals try exact⟨KP⟩
 conv=>whnf
 refine⟨{k:Nat // k≤l.length},fun k=>⟨[(0,vIt l),(15,vIt l),(16,tI .i64 ((l.map CL.tr).length:Int)),(17,tI .i64 (k.1:Int)),(7,tI .i64 (atL S k.1)),(6,.r (.c (.own (13,0,0)))),(5,.r (.c (.own (12,0,0))))],[((13,0,0),some (.arr true 1 ((S.take k.1).map ab))),((12,0,0),some (.arr true 8 []))],[13,12,0]⟩,fun k=>l.length - k.1,⟨0,by omega⟩,?_,?_⟩
 ·skip
  repeat' ((conv=>whnf);first|apply Wx|apply W6|apply oi|(apply fi<;>intro h)|refine⟨_,rfl,?_⟩|exact rfl)
  all_goals try exact⟨KP⟩
  all_goals try exact⟨by rw[hS0]⟩
 intro⟨k,hk⟩
 dsimp only
 have hlk:=hle k hk
 by_cases hlt:k < l.length
 ·obtain⟨x,hx⟩:=af hlt
  have hz:=lq x.fae.fah
  have ho:=lN x.fae.fah
  have hs1:=hsu k x hx
  have hg:S[k]?=some (atL S k):=lu (by omega)
  repeat' ((conv=>whnf);first|apply Wx|apply W6|apply oi|(apply fi<;>intro h)|refine⟨k,x.tr,rfl,aa hx,?_⟩|refine cl ho ?_|refine⟨_,rfl,?_⟩|exact rfl)
  all_goals try exact⟨KP⟩
  all_goals try exact KX
  all_goals try exact⟨⟨by simp <;> omega,by simp <;> omega⟩⟩
  conv=>whnf
  refine⟨⟨k+1,by omega⟩,?_,KD⟩
  repeat' ((conv=>whnf);first|apply Wx|apply W6|apply oi|(apply fi<;>intro h)|refine⟨_,rfl,?_⟩|exact rfl)
  all_goals try exact⟨KP⟩
  all_goals try exact⟨KW⟩
  all_goals try exact⟨by rw[fu hg,List.map_append];rfl⟩
  all_goals try exact⟨congrArg (Tr.int .i64) (by rw[hs1,IntWalk.i64_in _ (by omega)])⟩
 ·have hkl:k=l.length:=by omega
  subst hkl
  have hg:S[l.length]?=some (atL S l.length):=lu (by omega)
  repeat' ((conv=>whnf);first|apply Wx|apply W6|apply oi|(apply fi<;>intro h)|refine⟨_,rfl,?_⟩|exact rfl)
  all_goals try exact⟨KP⟩
  all_goals try exact KX
  all_goals try exact⟨⟨by simp <;> omega,by simp <;> omega⟩⟩
  conv=>whnf
  refine⟨{k:Nat // k≤l.length},fun k=>⟨[(0,vIt l),(36,vIt l),(37,tI .i64 ((l.map CL.tr).length:Int)),(38,tI .i64 (k.1:Int)),(6,.r (.c (.own (35,0,0)))),(5,.r (.c (.own (12,0,0))))],[((35,0,0),some (.arr true 1 (S.map ab))),((12,0,0),some (.dar 8 (ae (((cT l at0).take k.1).map CP.tr)) none))],[35,12,0]⟩,fun k=>l.length - k.1,⟨0,by omega⟩,?_,?_⟩
  ·skip
   repeat' ((conv=>whnf);first|apply Wx|apply W6|apply oi|(apply fi<;>intro h)|refine⟨_,rfl,?_⟩|exact rfl)
   all_goals try exact⟨KP⟩
   all_goals exact⟨by rw[show [[Tr.int .i64 (atL S l.length)]]=[atL S l.length].map ab from rfl,←List.map_append,←fu hg,List.take_of_length_le (by omega)]⟩
  intro⟨k,hk⟩
  dsimp only
  have hfl:=fh l at0
  have hdl:(ae (((cT l at0).take k).map CP.tr)).length=k:=by rw[aB,List.length_map,List.length_take];omega
  have hml:(S.map ab).length=l.length+1:=by rw[List.length_map];exact hsl
  have mg:∀j,j≤l.length→(S.map ab)[j]?=some (ab (atL S j)):=fun j hj=>by rw[List.getElem?_map,lu (by omega)];rfl
  by_cases hlt:k < l.length
  ·obtain⟨x,hx⟩:=af hlt
   have hxc:=hc x (List.mem_of_getElem? hx)
   have hcl:(x.faj.map ab).length=x.faj.length:=by simp
   have hpg:=gy (at0:=at0) hx
   rw[hS]at hpg
   have hw1:IntKind.i64.wrap ((k:Int)+1)=((k+1:Nat):Int):=by rw[IntWalk.i64_in _ (by omega)];rfl
   have hk0:k < (S.map ab).length:=by omega
   have hk1:k+1 < (S.map ab).length:=by omega
   have m0:=mg k (by omega)
   have m1:=mg (k+1) (by omega)
   have b1:=hle (k+1) (by omega)
   cases hjx:ob x with
   | true=>
    obtain⟨ja,jb⟩:=hj x (List.mem_of_getElem? hx) hjx
    have ha:x.fae.fal=((x.fae.fal.toNat:Nat):Int):=(Int.toNat_of_nonneg ja).symm
    have hal:x.fae.fal.toNat < (S.map ab).length:=by omega
    have m2:=mg x.fae.fal.toNat (by omega)
    have b2:=hle x.fae.fal.toNat (by omega)
    have hji:fo S k x=tZ x (IntKind.i64.wrap (atL S x.fae.fal.toNat - atL S (k+1))):=by rw[fo,if_pos hjx,IntWalk.i64_in _ (by omega)]
    rw[fY]at hjx
    repeat' ((conv=>whnf);first|apply Wx|apply W6|apply oi|(apply fi<;>intro h)|refine⟨k,x.tr,rfl,aa hx,?_⟩|refine⟨k,rfl,hk0,?_⟩|refine⟨k+1,hw1,hk1,?_⟩|refine⟨_,ha,hal,?_⟩|refine⟨_,m0,?_⟩|refine⟨_,m1,?_⟩|refine⟨_,m2,?_⟩|refine⟨_,rfl,?_⟩|exact rfl)
    all_goals try exact⟨KP⟩
    all_goals try exact KX
    all_goals try exact KK
    all_goals try exact⟨⟨by simp only[List.length_nil,List.length_cons,hcl,hdl] <;> omega,by simp only[List.length_nil,List.length_cons,hcl,hdl] <;> omega⟩⟩
    all_goals try exact⟨dY _⟩
    all_goals(
     conv=>whnf
     refine⟨⟨k+1,by omega⟩,?_,KD⟩
     repeat' ((conv=>whnf);first|apply Wx|apply W6|apply oi|(apply fi<;>intro h)|refine⟨_,rfl,?_⟩|exact rfl)
     all_goals try exact⟨KP⟩
     all_goals try exact⟨KW⟩
     all_goals try exact⟨by rw[fu hpg,hji,List.map_append,bM];rfl⟩)
   | false=>
    have hji:fo S k x=x:=by rw[fo,if_neg (by rw[hjx];simp)]
    have hjn:¬(x.fae.fah=10∨x.fae.fah=11):=by rw[←fY,hjx];simp
    repeat' ((conv=>whnf);first|apply Wx|apply W6|apply oi|(apply fi<;>intro h)|refine⟨k,x.tr,rfl,aa hx,?_⟩|refine⟨k,rfl,hk0,?_⟩|refine⟨_,m0,?_⟩|refine⟨_,rfl,?_⟩|exact rfl)
    all_goals try exact⟨KP⟩
    all_goals try exact KX
    all_goals try exact KK
    all_goals try exact⟨⟨by simp only[List.length_nil,List.length_cons,hcl,hdl] <;> omega,by simp only[List.length_nil,List.length_cons,hcl,hdl] <;> omega⟩⟩
    all_goals try exact⟨dY _⟩
    all_goals(
     conv=>whnf
     refine⟨⟨k+1,by omega⟩,?_,KD⟩
     repeat' ((conv=>whnf);first|apply Wx|apply W6|apply oi|(apply fi<;>intro h)|refine⟨_,rfl,?_⟩|exact rfl)
     all_goals try exact⟨KP⟩
     all_goals try exact⟨KW⟩
     all_goals try exact⟨by rw[fu hpg,hji,List.map_append,bM];rfl⟩)
  ·have hkl:k=l.length:=by omega
   subst hkl
   repeat' ((conv=>whnf);first|apply Wx|apply W6|apply oi|(apply fi<;>intro h)|refine⟨_,rfl,?_⟩|exact rfl)
   all_goals try exact⟨KP⟩
   all_goals try exact KX
   all_goals exact⟨by rw[List.take_of_length_le (by omega)]⟩
def mL (p:List CM)(k:Nat)(l:List Int):List Int:=
 let l1:=match endAt p k with|some e=>l.set e k|none=>l
 match elseAt p k with|some e=>l1.set e k|none=>l1
def ij (p:List CM):Nat→List Int
 | 0=>List.replicate p.length 0
 | n+1=>mL p n (ij p n)
theorem mW (p:List CM):∀n,(ij p n).length=p.length
 | 0=>by simp[ij]
 | n+1=>by
  rw[ij,mL]
  have:=mW p n
  cases endAt p n <;> cases elseAt p n <;> simp[this]
theorem vJ {p:List CM}{i k:Nat}(h:endAt p i=some k∨elseAt p i=some k)(hk:k < p.length):∀n,i < n→(ij p n)[k]?=some (i:Int)
 | 0,hn=>by omega
 | n+1,hn=>by
  have hl:=mW p n
  rw[ij,mL]
  by_cases hin:i=n
  ·subst hin
   rcases h with h|h
   ·rw[h]
    dsimp only
    cases he:elseAt p i with
    | none=>dsimp only;rw[List.getElem?_set_self (by omega)]
    | some m=>
     dsimp only
     by_cases hm:m=k
     ·subst hm;rw[List.getElem?_set_self (by simp;omega)]
     ·rw[List.getElem?_set_ne hm,List.getElem?_set_self (by omega)]
   ·rw[h]
    dsimp only
    rw[List.getElem?_set_self (by cases endAt p i <;> simp <;> omega)]
  ·have ih:=vJ h hk n (by omega)
   have own:∀m,(endAt p n=some m∨elseAt p n=some m)→m≠k:=by
    intro m hm e
    subst e
    have h1:az p m=i:=by rcases h with h|h;exact fJ h;exact mE h
    have h2:az p m=n:=by rcases hm with h|h;exact fJ h;exact mE h
    exact hin (h1.symm.trans h2)
   have key:((match endAt p n with|some e=>(ij p n).set e (n:Int)|none=>ij p n):List Int)[k]?=some (i:Int):=by
    cases he:endAt p n with
    | none=>exact ih
    | some m=>dsimp only;rw[List.getElem?_set_ne (own m (.inl he))];exact ih
   cases he:elseAt p n with
   | none=>exact key
   | some m=>dsimp only;rw[List.getElem?_set_ne (own m (.inr he))];exact key
theorem sF (p:List CM)(h60:p.length≤60):Sim.Spec Tryz.prog 267 [tvP p] (rL 1 ((ij p p.length).map ab)):=by
 refine aR hΓ aq Tryz.func267 rfl (by decide) rfl ?_
 have hpl:(p.map CM.tr).length=p.length:=by simp
 have hm1:(((p.map CM.tr).length:Nat):Int)=(p.length:Int):=by rw[hpl]
 have hm2:p.length≤9223372036854775807:=by omega
 have hm3:p.length * 8≤140737488355328:=by omega
 repeat' ((conv=>whnf);first|apply Wx|apply W6|apply oi|(apply fi<;>intro h)|refine⟨p.length,hm1,hm1,hm2,hm3,?_⟩|refine⟨_,rfl,?_⟩|exact rfl)
 all_goals try exact⟨KP⟩
 conv=>whnf
 refine⟨{k:Nat // k≤p.length},fun q=>⟨[(0,vP p),(3,.r (.c (.own (3,0,0)))),(11,tI .i64 ((p.map CM.tr).length:Int)),(12,tI .i64 (q.1:Int))],[((3,0,0),some (.arr true 1 ((ij p q.1).map ab)))],[3]⟩,fun q=>p.length - q.1,⟨0,by omega⟩,?_,?_⟩
 ·skip
  repeat' ((conv=>whnf);first|apply Wx|apply W6|apply oi|(apply fi<;>intro h)|refine⟨_,rfl,?_⟩|exact rfl)
  all_goals try exact⟨KP⟩
  all_goals exact⟨by simp[ij,ab]⟩
 intro⟨k,hk⟩
 dsimp only at hk ⊢
 by_cases hlt:k < p.length
 ·have gE:=co p (k:Int) (by omega)
  have gL:=lE p (k:Int) (by omega)
  have hol:=mW p k
  have hml:((ij p k).map ab).length=p.length:=by rw[List.length_map,hol]
  rw[aV]at gE
  rw[dW]at gL
  have hst:ij p (k+1)=mL p k (ij p k):=rfl
  have aQ:∀{l:List Int} {e:Nat},e < l.length→∃v,(l.map ab)[e]?=some (ab v):=fun{l e} he=>⟨l[e],by rw[List.getElem?_map,List.getElem?_eq_getElem he];rfl⟩
  have hset:∀(l:List Int) (e:Nat),(l.map ab).set e [.int .i64 (k:Int)]=(l.set e (k:Int)).map ab:=fun l e=>by simp[List.map_set,ab]
  rw[mL]at hst
  cases he:endAt p k with
  | none=>
   rw[he]at gE hst
   cases hl:elseAt p k with
   | none=>
    rw[hl]at gL hst
    dsimp only at hst
    repeat' ((conv=>whnf);first|apply Wx|apply W6|apply oi|(apply fi<;>intro h)|refine cl gE ?_|refine cl gL ?_|refine⟨_,rfl,?_⟩|exact rfl)
    all_goals try exact⟨KP⟩
    all_goals try exact KX
    all_goals try(exfalso;simp[bS]at h;done)
    conv=>whnf
    refine⟨⟨k+1,by omega⟩,?_,KD⟩
    repeat' ((conv=>whnf);first|apply Wx|apply W6|apply oi|(apply fi<;>intro h)|refine⟨_,rfl,?_⟩|exact rfl)
    all_goals try exact⟨KP⟩
    all_goals try exact⟨KW⟩
    all_goals exact⟨by dsimp only;rw[hst]⟩
   | some m=>obtain⟨_,_,_,_,h,_⟩:=aP hl;rw[he]at h;cases h
  | some e=>
   obtain⟨_,_,_,_,_,hel⟩:=au he
   have hel2:e < ((ij p k).map ab).length:=by omega
   obtain⟨v,hv⟩:=aQ (l:=ij p k) (e:=e) (by omega)
   rw[he]at gE hst
   cases hl:elseAt p k with
   | none=>
    rw[hl]at gL hst
    dsimp only at hst
    repeat' ((conv=>whnf);first|apply Wx|apply W6|apply oi|(apply fi<;>intro h)|refine cl gE ?_|refine cl gL ?_|refine⟨e,rfl,hel2,?_⟩|refine⟨_,hv,?_⟩|refine⟨_,rfl,?_⟩|exact rfl)
    all_goals try exact⟨KP⟩
    all_goals try exact KX
    all_goals try(exfalso;simp[bS]at h;done)
    all_goals try(exfalso;rename_i h0;simp[bS]at h0;done)
    conv=>whnf
    refine⟨⟨k+1,by omega⟩,?_,KD⟩
    repeat' ((conv=>whnf);first|apply Wx|apply W6|apply oi|(apply fi<;>intro h)|refine⟨_,rfl,?_⟩|exact rfl)
    all_goals try exact⟨KP⟩
    all_goals try exact⟨KW⟩
    all_goals exact⟨by dsimp only;rw[hst,hset]⟩
   | some m=>
    obtain⟨_,_,_,_,_,_,hmm,z,hz,_⟩:=aP hl
    have hml2:=aM hz
    have hml3:m < (((ij p k).set e (k:Int)).map ab).length:=by simp;omega
    obtain⟨v2,hv2⟩:=aQ (l:=(ij p k).set e (k:Int)) (e:=m) (by simp;omega)
    rw[←hset]at hml3 hv2
    rw[hl]at gL hst
    dsimp only at hst
    repeat' ((conv=>whnf);first|apply Wx|apply W6|apply oi|(apply fi<;>intro h)|refine cl gE ?_|refine cl gL ?_|refine⟨e,rfl,hel2,?_⟩|refine⟨_,hv,?_⟩|refine⟨m,rfl,hml3,?_⟩|refine⟨_,hv2,?_⟩|refine⟨_,rfl,?_⟩|exact rfl)
    all_goals try exact⟨KP⟩
    all_goals try exact KX
    all_goals try(exfalso;simp[bS]at h;done)
    all_goals try(exfalso;rename_i h0;simp[bS]at h0;done)
    conv=>whnf
    refine⟨⟨k+1,by omega⟩,?_,KD⟩
    repeat' ((conv=>whnf);first|apply Wx|apply W6|apply oi|(apply fi<;>intro h)|refine⟨_,rfl,?_⟩|exact rfl)
    all_goals try exact⟨KP⟩
    all_goals try exact⟨KW⟩
    all_goals exact⟨by dsimp only;rw[hst,hset,hset]⟩
 ·have hke:k=p.length:=by omega
  subst hke
  repeat' ((conv=>whnf);first|apply Wx|apply W6|apply oi|(apply fi<;>intro h)|refine⟨_,rfl,?_⟩|exact rfl)
  all_goals try exact⟨KP⟩
  all_goals try exact KX
theorem jS (b:CE):Sim.Spec Tryz.prog 78 [.agg b.tr] (rB (bE b)):=by
 refine aR hΓ aq Tryz.func78 rfl (by decide) rfl ?_
 have h1:=aJ b.fan 0 63
 have h2:=aJ b.fag 0 3
 unfold bE
 generalize ah b.fan 0 63=x at *
 generalize ah b.fag 0 3=y at *
 cases x
 ·skip
  repeat' ((conv=>whnf);first|apply Wx|apply W6|apply oi|(apply fi<;>intro h)|refine cl h1 ?_|refine cl h2 ?_|refine⟨_,rfl,?_⟩|exact rfl)
  all_goals try exact⟨KP⟩
  all_goals try exact KX
 ·cases y
  ·skip
   repeat' ((conv=>whnf);first|apply Wx|apply W6|apply oi|(apply fi<;>intro h)|refine cl h1 ?_|refine cl h2 ?_|refine⟨_,rfl,?_⟩|exact rfl)
   all_goals try exact⟨KP⟩
   all_goals try exact KX
  ·skip
   repeat' ((conv=>whnf);first|apply Wx|apply W6|apply oi|(apply fi<;>intro h)|refine cl h1 ?_|refine cl h2 ?_|refine⟨_,rfl,?_⟩|exact rfl)
   all_goals try exact⟨KP⟩
   all_goals try exact KX
abbrev qn (a:Ex):List Tr:=[.lst 3 (a.toks.map CU.tr)]
theorem lF:∀(n:Nat) (e:Ex),e.toks.length≤n→∀(l:List CU) (p:Nat),l.length≤1048576→cP l→e.ok→eB l p e→Sim.Spec Tryz.prog 266 [tvL 3 (l.map CU.tr),tvI p] (rL 3 (e.fold.toks.map CU.tr))
 | 0,e,hn,_,_,_,_,_,_=>by have:=e.toks_pos;omega
 | n+1,.node t es,hn,l,p,hl,hsh,ho,hs=>by
  refine aR hΓ aq Tryz.func266 rfl (by decide) rfl ?_
  have hlen:(l.map CU.tr).length=l.length:=by simp
  have hle:=eb hs
  obtain⟨ht,hsa⟩:=eO hs
  have hO:=jI l p t es hl hsh ho hs
  have hpl:((er (p+1) es).map nR).length=es.length:=by rw[List.length_map,mN]
  rw[Ex.toks,List.length_cons]at hn hle
  rw[Ex.fold]
  have hfe:=kQ es
  obtain⟨e1,e2⟩:=nJ ho.1
  have hel:es.length=ar t:=ho.2.1
  repeat' ((conv=>whnf);first|apply Wx|apply W6|apply oi|(apply fi<;>intro h)|refine cl hO ?_|refine⟨p,t.tr,rfl,aa ht,?_⟩|refine⟨_,rfl,?_⟩|exact rfl)
  all_goals try exact⟨KP⟩
  conv=>whnf
  refine⟨{j:Nat // j≤es.length},fun q=>⟨[(0,.r (.c (.t (.lst 3 (l.map CU.tr))))),(1,tI .i64 (p:Int)),(5,.r (.c (.ptr (5,0,0) 0))),(6,.r (.c (.own (21,0,1)))),(7,.r (.c (.own (21,0,2)))),(21,.r (.c (.own (21,0,0)))),(22,tI .i64 (((er (p+1) es).map nR).length:Int)),(23,tI .i64 (q.1:Int))],
   [((5,0,0),some (.box (t.tr.map .t))),((21,0,1),some (.arr false 3 ((t::ak (aO (es.take q.1))).map CU.tr))),((21,0,2),some (.arr false 1 ((aO (es.take q.1)).map qn))),((21,0,0),some (.arr true 1 ((er (p+1) es).map nR)))],[21,5]⟩,fun q=>es.length - q.1,⟨0,by omega⟩,?_,?_⟩
  ·skip
   repeat' ((conv=>whnf);first|apply Wx|apply W6|apply oi|(apply fi<;>intro h)|refine⟨_,rfl,?_⟩|exact rfl)
   all_goals try exact⟨KP⟩
   all_goals first|exact⟨by simp[aO,ak];rfl⟩|exact⟨by simp[aO]⟩
  intro⟨j,hj⟩
  dsimp only at hj ⊢
  by_cases hlt:j < es.length
  ·obtain⟨a,ha⟩:=af hlt
   obtain⟨q,hq,hqs⟩:=qg hsa ha
   have hal:=fV ha
   have hR:=lF n a (by omega) l q hl hsh (iw ho.2.2 ha) hqs
   have hjl:j < ((er (p+1) es).map nR).length:=by rw[hpl];exact hlt
   have hfa:=a.fold_le
   have hft:=cy (aO es) j
   rw[kh]at hft
   have hfl1:((t::ak (aO (es.take j))).map CU.tr).length=1+(ak (aO (es.take j))).length:=by simp;omega
   have hfl2:(a.fold.toks.map CU.tr).length=a.fold.toks.length:=by simp
   repeat' ((conv=>whnf);first|(with_reducible apply W1;fail_if_success (with_reducible show Wo _ _ _ _ (Code.region 8 _ _) _ _))|(with_reducible first|apply W2|apply W3|apply W4|apply W5|apply W6|apply W7|apply W8|apply W9)|apply bg|apply oi|(apply fi<;>intro h)|refine cl hR ?_|refine⟨j,rfl,hjl,?_⟩|refine⟨(nR q),(aa hq),?_⟩|refine⟨_,rfl,?_⟩|exact rfl)
   all_goals try exact⟨KP⟩
   all_goals try exact KX
   conv=>whnf
   refine gf ⟨[(0,.r (.c (.t (.lst 3 (l.map CU.tr))))),(1,tI .i64 (p:Int)),(5,.r (.c (.ptr (5,0,0) 0))),(6,.r (.c (.own (21,0,1)))),(7,.r (.c (.own (21,0,2)))),(10,.r (.c (.t (.lst 3 (a.fold.toks.map CU.tr))))),(21,.r (.c (.own (21,0,0)))),(22,tI .i64 (((er (p+1) es).map nR).length:Int)),(23,tI .i64 (j:Int))],
    [((5,0,0),some (.box (t.tr.map .t))),((21,0,1),some (.arr false 3 ((t::ak (aO (es.take j))).map CU.tr))),((21,0,2),some (.arr false 1 ((aO (es.take j)).map qn))),((21,0,0),some (.arr true 1 ((er (p+1) es).map nR)))],_⟩ ?_ ?_ rfl ?_
   ·refine⟨.inl rfl,.inl rfl,.inl rfl,.inl rfl,.inl rfl,.inr (.inl ⟨_,_,rfl,rfl,.inr (.inr ⟨_,rfl,rfl,?_⟩)⟩),.inl rfl,.inl rfl,.inl rfl,trivial⟩
    intro q hq;simp only[AC.ids,List.mem_cons,List.not_mem_nil,or_false]at hq;subst hq;rfl
   ·exact⟨.inr (.inl rfl),.inr (.inl rfl),.inr (.inl rfl),.inr (.inl rfl),trivial⟩
   have hfl4:((aO (es.take j)).map qn).length=j:=by rw[List.length_map,fZ,List.length_take];omega
   repeat' ((conv=>whnf);first|apply Wx|apply W6|apply oi|(apply fi<;>intro h)|refine⟨_,rfl,?_⟩|exact rfl)
   all_goals try exact⟨KP⟩
   all_goals try exact⟨⟨by rw[hfl4];simp <;> omega,by rw[hfl4];simp <;> omega⟩⟩
   all_goals try exact⟨⟨by rw[hfl1,hfl2];(try dsimp only);omega,by rw[hfl1,hfl2];(try dsimp only);omega⟩⟩
   conv=>whnf
   refine⟨⟨j+1,by omega⟩,?_,KD⟩
   repeat' ((conv=>whnf);first|apply Wx|apply W6|apply oi|(apply fi<;>intro h)|refine⟨_,rfl,?_⟩|exact rfl)
   all_goals try exact⟨KP⟩
   all_goals try exact⟨KW⟩
   all_goals first|exact⟨by rw[jc ha,dH,jm];simp⟩|exact⟨by rw[jc ha];simp⟩
  ·have hje:j=es.length:=by omega
   subst hje
   rw[List.take_length]
   have hB:=aJ t.faa 2 6
   have hFl:=fZ es
   have hout:((t::ak (aO es)).map CU.tr).length=1+(ak (aO es)).length:=by simp;omega
   generalize aO es=F at *
   cases hk:ah t.faa 2 6 with
   | false=>
    rw[hk]at hB
    rw[jF (.inr hk),Ex.toks]
    repeat' ((conv=>whnf);first|apply Wx|apply W6|apply oi|(apply fi<;>intro h)|refine cl hB ?_|refine⟨_,rfl,?_⟩|exact rfl)
    all_goals try exact⟨KP⟩
    all_goals try exact KX
    all_goals exact⟨⟨rfl,bD _⟩⟩
   | true=>
    rw[hk]at hB
    by_cases h2:(ak F).length=2
    ·obtain⟨f1,f2,rfl⟩:=zE (hFl.trans (hel.trans (zN ho.1 hk)))
     rw[ak,jm,List.length_append]at h2
     have p1:=f1.toks_pos
     have p2:=f2.toks_pos
     obtain⟨a,rfl⟩:=qp (f:=f1) (by omega)
     obtain⟨b,rfl⟩:=qp (f:=f2) (by omega)
     have e3:t::ak [Ex.node a [],Ex.node b []]=[t,a,b]:=by simp[ak,Ex.toks]
     have e4:(Ex.node t [Ex.node a [],Ex.node b []]).toks=[t,a,b]:=by rw[Ex.toks];exact e3
     have e6:([Ex.node a [],Ex.node b []].map qn)=[[.lst 3 [a.tr]],[.lst 3 [b.tr]]]:=by simp[Ex.toks,ak]
     rw[e3,e6]
     have h1l:1 < ([t,a,b].map CU.tr).length:=by simp
     have h2l:2 < ([t,a,b].map CU.tr).length:=by simp
     have h0l:0 < [[Tr.lst 3 [a.tr]],[Tr.lst 3 [b.tr]]].length:=by simp
     have hAp:=uH t.faa a.faf b.faf
     have hB2:=aJ (cw t.faa a.faf b.faf) 0 999
     rw[wx]
     by_cases hc:ze t a b
     ·rw[if_pos hc]
      obtain⟨_,c1,c2,c3⟩:=hc
      rw[c3]at hB2
      have e5:(ub (cw t.faa a.faf b.faf)).toks=[⟨0,cw t.faa a.faf b.faf,[]⟩]:=by simp[ub,Ex.toks,ak]
      rw[e5]
      generalize cw t.faa a.faf b.faf=ap at *
      repeat' ((conv=>whnf);first|apply Wx|apply W6|apply oi|(apply fi<;>intro h)|refine cl hB ?_|refine⟨0,rfl,h0l,?_⟩|refine⟨[Tr.lst 3 [a.tr]],rfl,?_⟩|refine⟨1,rfl,h1l,?_⟩|refine⟨2,rfl,h2l,?_⟩|refine⟨a.tr,rfl,?_⟩|refine⟨b.tr,rfl,?_⟩|refine cl hAp ?_|refine cl hB2 ?_|refine⟨_,rfl,?_⟩|exact rfl)
      all_goals try exact⟨KP⟩
      all_goals try exact KX
      all_goals try(exfalso;simp_all;done)
     ·rw[if_neg hc,e4]
      have hc2:∀w,ah (cw t.faa a.faf b.faf) 0 999=w→a.faa=0→b.faa=0→w=true→False:=fun w h1 h2 h3 h4=>hc ⟨hk,h2,h3,h1.trans h4⟩
      cases hw:ah (cw t.faa a.faf b.faf) 0 999 with
      | true=>
       rw[hw]at hB2
       have hc3:=hc2 true hw
       generalize cw t.faa a.faf b.faf=ap at *
       repeat' ((conv=>whnf);first|apply Wx|apply W6|apply oi|(apply fi<;>intro h)|refine cl hB ?_|refine⟨0,rfl,h0l,?_⟩|refine⟨[Tr.lst 3 [a.tr]],rfl,?_⟩|refine⟨1,rfl,h1l,?_⟩|refine⟨2,rfl,h2l,?_⟩|refine⟨a.tr,rfl,?_⟩|refine⟨b.tr,rfl,?_⟩|refine cl hAp ?_|refine cl hB2 ?_|refine⟨_,rfl,?_⟩|exact rfl)
       all_goals try exact⟨KP⟩
       all_goals try exact KX
       all_goals try exact⟨⟨rfl,bD _⟩⟩
       all_goals try(exfalso;simp_all;done)
      | false=>
       rw[hw]at hB2
       generalize cw t.faa a.faf b.faf=ap at *
       repeat' ((conv=>whnf);first|apply Wx|apply W6|apply oi|(apply fi<;>intro h)|refine cl hB ?_|refine⟨0,rfl,h0l,?_⟩|refine⟨[Tr.lst 3 [a.tr]],rfl,?_⟩|refine⟨1,rfl,h1l,?_⟩|refine⟨2,rfl,h2l,?_⟩|refine⟨a.tr,rfl,?_⟩|refine⟨b.tr,rfl,?_⟩|refine cl hAp ?_|refine cl hB2 ?_|refine⟨_,rfl,?_⟩|exact rfl)
       all_goals try exact⟨KP⟩
       all_goals try exact KX
       all_goals try exact⟨⟨rfl,bD _⟩⟩
       all_goals try(exfalso;simp_all;done)
    ·rw[jF (.inl h2),Ex.toks]
     repeat' ((conv=>whnf);first|apply Wx|apply W6|apply oi|(apply fi<;>intro h)|refine cl hB ?_|refine⟨_,rfl,?_⟩|exact rfl)
     all_goals try exact⟨KP⟩
     all_goals try exact KX
     all_goals try exact⟨⟨rfl,bD _⟩⟩
     all_goals try(exfalso;rw[hout]at *;simp at *;omega)
theorem pA (l:List CU)(hl:l.length≤1048576)(hn:cP l):Sim.Spec Tryz.prog 250 [tvL 3 (l.map CU.tr)] (rL 3 ((iL l).map CU.tr)):=by
 refine aR hΓ aq Tryz.func250 rfl (by decide) rfl ?_
 have hE:=lB l hl hn
 cases h:ba l with
 | false=>
  rw[h]at hE
  rw[mT h]
  repeat' ((conv=>whnf);first|apply Wx|apply W6|apply oi|(apply fi<;>intro h)|refine cl hE ?_|refine⟨_,rfl,?_⟩|exact rfl)
  all_goals try exact⟨KP⟩
  all_goals try exact KX
 | true=>
  rw[h]at hE
  obtain⟨e,h1,h2,h3⟩:=mR h
  have hF:=lF e.toks.length e (Nat.le_refl _) l 0 hl hn h1 ⟨[],by rw[List.drop_zero,List.append_nil];exact h2⟩
  rw[h3]
  generalize e.fold.toks=r at *
  repeat' ((conv=>whnf);first|apply Wx|apply W6|apply oi|(apply fi<;>intro h)|refine cl hE ?_|refine cl hF ?_|refine⟨_,rfl,?_⟩|exact rfl)
  all_goals try exact⟨KP⟩
  all_goals try exact KX
theorem pH (x:CM)(hs:aE 1048576 x.tr):Sim.Spec Tryz.prog 249 [.agg x.tr] (.r (.agg (x.tr.map zG))):=by
 refine aR hΓ aq Tryz.func249 rfl (by decide) rfl ?_
 obtain⟨h1,h2,h3,h4,h5⟩:=cd hs
 repeat' ((conv=>whnf);first|apply Wx|apply W6|apply oi|(apply fi<;>intro h)|refine⟨_,rfl,?_⟩|exact rfl)
 all_goals try exact⟨KP⟩
 all_goals try exact⟨⟨by simp <;> omega,by simp <;> omega⟩⟩
 all_goals try exact⟨⟨rfl,dX _⟩⟩
 all_goals try exact⟨⟨rfl,bD _⟩⟩
theorem lW (l:List CM)(hs:aA 1048576 (.lst 4 (l.map CM.tr))):Sim.Spec Tryz.prog 218 [tvP l] (rL 4 ((cI l).map CM.tr)):=by
 refine aR hΓ aq Tryz.func218 rfl (by decide) rfl ?_
 have hl:=bo hs
 have hP:=eK l hs
 have hlen:(l.map CM.tr).length=l.length:=by simp
 cases hpo:aF l with
 | false=>
  rw[hpo]at hP
  have:cI l=[]:=by rw[cI,if_neg (by simp[hpo])]
  rw[this]
  repeat' ((conv=>whnf);first|apply Wx|apply W6|apply oi|(apply fi<;>intro h)|refine cl hP ?_|refine⟨_,rfl,?_⟩|exact rfl)
  all_goals try exact⟨KP⟩
  all_goals try exact KX
 | true=>
  rw[hpo]at hP
  have:cI l=l.map aG:=by rw[cI,if_pos hpo]
  rw[this]
  repeat' ((conv=>whnf);first|apply Wx|apply W6|apply oi|(apply fi<;>intro h)|refine cl hP ?_|refine⟨_,rfl,?_⟩|exact rfl)
  all_goals try exact⟨KP⟩
  all_goals try exact KX
  conv=>whnf
  refine⟨{k:Nat // k≤l.length},fun q=>⟨[(0,vP l),(3,.r (.c (.own (10,0,0)))),(11,vP l),(12,tI .i64 ((l.map CM.tr).length:Int)),(13,tI .i64 (q.1:Int))],[((10,0,0),some (.dar 4 (ae (((l.take q.1).map aG).map CM.tr)) none))],[10]⟩,fun q=>l.length - q.1,⟨0,by omega⟩,?_,?_⟩
  ·skip
   repeat' ((conv=>whnf);first|apply Wx|apply W6|apply oi|(apply fi<;>intro h)|refine⟨_,rfl,?_⟩|exact rfl)
   all_goals try exact⟨KP⟩
  intro⟨k,hk⟩
  dsimp only at hk ⊢
  have hdl:(ae (((l.take k).map aG).map CM.tr)).length=k:=by rw[aB,List.length_map,List.length_map,List.length_take];omega
  by_cases hlt:k < l.length
  ·obtain⟨x,hx⟩:=af hlt
   have hsx:=aC hs (List.mem_of_getElem? hx)
   obtain⟨h1,h2,h3,h4,h5⟩:=cd hsx
   have hF:=pA x.fac h4 (fun y hy=>by have:=h5 y hy;omega)
   have hC:=pH x hsx
   have hel3:(x.fac.map CU.tr).length=x.fac.length:=by simp
   have htk:=qW aG l k x hx
   by_cases hpos:0 < x.fac.length
   ·have hfl:aG x=⟨x.faa,x.fab,x.fad,iL x.fac⟩:=by rw[aG,if_pos hpos]
    repeat' ((conv=>whnf);first|apply Wx|apply W6|apply oi|(apply fi<;>intro h)|refine⟨k,x.tr,rfl,aa hx,?_⟩|refine cl hC ?_|refine cl hF ?_|refine⟨_,rfl,?_⟩|exact rfl)
    all_goals try exact⟨KP⟩
    all_goals try exact KX
    all_goals try exact⟨bD _⟩
    all_goals try exact⟨dX _⟩
    all_goals try exact⟨⟨by rw[hdl];(try dsimp only);simp <;> omega,by rw[hdl];(try dsimp only);simp <;> omega⟩⟩
    all_goals try(exfalso;have h':=of_decide_eq_false h;rw[hel3]at h';omega)
    conv=>whnf
    refine⟨⟨k+1,by omega⟩,?_,KD⟩
    repeat' ((conv=>whnf);first|apply Wx|apply W6|apply oi|(apply fi<;>intro h)|refine⟨_,rfl,?_⟩|exact rfl)
    all_goals try exact⟨KP⟩
    all_goals try exact⟨KW⟩
    all_goals(refine⟨?_⟩;dsimp only;rw[htk,hfl];simp[ae,CM.tr])
   ·have hfl:aG x=x:=by rw[aG,if_neg hpos]
    repeat' ((conv=>whnf);first|apply Wx|apply W6|apply oi|(apply fi<;>intro h)|refine⟨k,x.tr,rfl,aa hx,?_⟩|refine cl hC ?_|refine⟨_,rfl,?_⟩|exact rfl)
    all_goals try exact⟨KP⟩
    all_goals try exact KX
    all_goals try exact⟨bD _⟩
    all_goals try exact⟨dX _⟩
    all_goals try exact⟨⟨by rw[hdl];(try dsimp only);simp <;> omega,by rw[hdl];(try dsimp only);simp <;> omega⟩⟩
    all_goals try(exfalso;have h':=of_decide_eq_true h;rw[hel3]at h';omega)
    conv=>whnf
    refine⟨⟨k+1,by omega⟩,?_,KD⟩
    repeat' ((conv=>whnf);first|apply Wx|apply W6|apply oi|(apply fi<;>intro h)|refine⟨_,rfl,?_⟩|exact rfl)
    all_goals try exact⟨KP⟩
    all_goals try exact⟨KW⟩
    all_goals(refine⟨?_⟩;dsimp only;rw[htk,hfl];simp[ae,CM.tr])
  ·have hke:k=l.length:=by omega
   subst hke
   rw[List.take_length]
   repeat' ((conv=>whnf);first|apply Wx|apply W6|apply oi|(apply fi<;>intro h)|refine⟨_,rfl,?_⟩|exact rfl)
   all_goals try exact⟨KP⟩
   all_goals try exact KX
def vh (x:CL):CL:=⟨x.fae,x.fam,false,x.faj,x.fao,x.fap⟩
def gG (pend:List Nat)(i:Nat)(x:CL):CL:=if pend.contains i=true then vh x else x
def nw (pend:List Nat):Nat→List CL→List CL
 | _,[]=>[]
 | i,x::l=>gG pend i x::nw pend (i+1) l
def clr (pend:List Nat)(l:List CL):List CL:=nw pend 0 l
theorem wg (pend:List Nat):∀(l:List CL) (i:Nat),(nw pend i l).length=l.length
 | [],_=>rfl
 | x::l,i=>by rw[nw,List.length_cons,List.length_cons,wg pend l]
theorem li (pend:List Nat)(l:List CL):(clr pend l).length=l.length:=wg pend l 0
theorem wl (pend:List Nat):∀(l:List CL) (i j:Nat),(nw pend i l)[j]?=(l[j]?).map (gG pend (i+j))
 | [],i,j=>by simp[nw]
 | x::l,i,0=>by simp[nw]
 | x::l,i,j+1=>by
  rw[nw,List.getElem?_cons_succ,wl pend l,List.getElem?_cons_succ,show i+1+j=i+(j+1) by omega]
theorem dL (pend:List Nat)(l:List CL)(j:Nat):(clr pend l)[j]?=(l[j]?).map (gG pend j):=by
 rw[clr,wl,Nat.zero_add]
theorem pg (pend:List Nat):∀(a b:List CL) (i:Nat),nw pend i (a++b)=nw pend i a++nw pend (i+a.length) b
 | [],b,i=>by simp[nw]
 | x::a,b,i=>by
  rw[List.cons_append,nw,nw,pg pend a b,List.cons_append,List.length_cons,show i+1+a.length=i+(a.length+1) by omega]
theorem zZ (pend:List Nat)(l:List CL)(x:CL):clr pend (l++[x])=clr pend l++[gG pend l.length x]:=by
 rw[clr,pg,Nat.zero_add]
 rfl
theorem Al {x:CL}(h:x.fai=false):vh x=x:=by
 obtain⟨a,b,c,d,e,f⟩:=x
 simp only at h
 subst h
 rfl
theorem Bk (pend:List Nat)(l:List CL)(j:Nat)(x:CL):clr pend (l.set j x)=(clr pend l).set j (gG pend j x):=by
 apply List.ext_getElem?
 intro i
 rw[dL,List.getElem?_set,List.getElem?_set,li,dL]
 by_cases h:j=i
 ·subst h
  rw[if_pos rfl,if_pos rfl]
  split <;> rfl
 ·rw[if_neg h,if_neg h]
theorem mi (pend:List Nat)(l:List CL)(j v:Int):clr pend (bx l j v)=bx (clr pend l) j v:=by
 unfold bx
 split
 ·rw[dL]
  cases hx:l[j.toNat]? with
  | none=>rfl
  | some x=>
   dsimp only[Option.map_some]
   rw[Bk]
   congr 1
   unfold gG
   split <;> rfl
 ·rfl
theorem uF (l:List CL):clr [] l=l:=by
 apply List.ext_getElem?
 intro i
 rw[dL]
 cases l[i]? <;> rfl
def Beg (b:Nat)(s:Gs):Prop:=b≤s.items.length∧(s.start=true↔s.items.length=b)
theorem Beg.emit {b:Nat}{s:Gs}(h:Beg b s)(C:Cx)(d code arg line:Int)(chain:List Int):Beg b (an C s d code arg line chain):=by
 obtain⟨h1,h2⟩:=h
 refine⟨by simp only[an,List.length_append,List.length_cons,List.length_nil];omega,?_⟩
 simp only[an,List.length_append,List.length_cons,List.length_nil]
 exact⟨fun h=>(by cases h),fun h=>by omega⟩
theorem Beg.off {b:Nat}{s s':Gs}(h:Beg b s)(h1:s.items.length < s'.items.length)(h2:s'.start=false):Beg b s':=by
 have:=h.1
 exact⟨by omega,by rw[h2];exact⟨fun h=>(by cases h),fun h=>by omega⟩⟩
theorem kl {b:Nat}{C:Cx}(y:Sc)(chain:List Int)(line:Int):∀(n:Nat) (d:Int) (s:Gs),Beg b s→Beg b (cb C y chain line n d s)
 | 0,d,s,h=>h
 | n+1,d,s,h=>by rw[cb];exact kl y chain line n (d - 1) _ (h.emit ..)
theorem mo {b:Nat}{C:Cx}(y:Sc)(chain:List Int)(line d:Int):∀(n i:Nat) (s:Gs),Beg b s→Beg b (cB C y chain line d n i s)
 | 0,i,s,h=>h
 | n+1,i,s,h=>by rw[cB];exact mo y chain line d n (i+1) _ ((h.emit ..).emit ..)
theorem qv {C:Cx}{x:Sc}{k:Nat}{last:Bool}{d:Int}{L:Ls}(h:L.g.start=false∨(x.outer=true∨last=false)):(aH C x k last d L).g.start=false:=by
 unfold aH
 split
 ·split <;> rfl
 ·split
  ·rename_i h1 h2
   rcases h with h|h|h
   ·exact h
   ·exact absurd h h1
   ·rw[h2]at h;cases h
  ·rfl
theorem tG {C:Cx}{rep:Sc→List Nat→Nat→Nat→Int→Gs→Gs}{x:Sc}{ins:List Nat}{base:Int}{k:Nat}{ln:CM}{L:Ls}(h:L.g.start=false):(cO C rep x ins base k ln L).g.start=false:=by
 unfold cO
 split
 ·rfl
 ·split
  ·split
   ·exact qv (.inl rfl)
   ·split
    ·rfl
    ·exact h
  ·dsimp only
   split
   ·rfl
   ·split
    ·rfl
    ·split
     ·exact qv (.inr (.inr rfl))
     ·rfl
theorem zj {C:Cx}{x:Sc}{k:Nat}{ln:CM}{L:Ls}(h:L.g.start=false):(aK C x k ln L).g.start=false:=by
 unfold aK
 split <;> exact h
theorem ww {C:Cx}{rep:Sc→List Nat→Nat→Nat→Int→Gs→Gs}{x:Sc}{ins:List Nat}{base:Int}:∀(n k:Nat) (L:Ls),L.g.start=false→(gY C rep x ins base n k L).g.start=false
 | 0,k,L,h=>h
 | n+1,k,L,h=>by
  rw[gY]
  split
  ·exact ww n (k+1) _ (zj (tG h))
  ·exact h
theorem rV {C:Cx}{rep:Sc→List Nat→Nat→Nat→Int→Gs→Gs}{x:Sc}{ins:List Nat}{base:Int}{s:Gs}(h:s.start=false):(aI C rep x ins base s).1.start=false:=ww _ _ _ h
theorem mw {b:Nat}{C:Cx}{x:Sc}{line:Nat}{d:Int}{s:Gs}(h:Beg b s):Beg b (bA C x line d s)∧(bA C x line d s).start=false:=by
 unfold bA
 split
 ·exact⟨h.emit ..,rfl⟩
 ·rename_i hn;exact⟨h,by simpa using hn⟩
theorem vb {C:Cx}(hC:CxOk C):∀(lev:Nat) {x:Sc} {ins:List Nat} {b:Nat} (line g:Nat) (d:Int) (s:Gs),ScOk C x ins→bl C g→bI C ins g s.items.length=true→Beg b s→Beg b (aL C lev x ins line g d s)
 | 0,x,ins,b,line,g,d,s,hx,hg,hr,h=>h
 | lev+1,x,ins,b,line,g,d,s,hx,hg,hr,h=>by
  have hy:=iR hC hx line hg
  have h1:Beg b (di C x line g d s):=by
   unfold di
   exact mo _ _ _ _ _ _ _ (kl _ _ _ _ _ _ ⟨h.1,h.2⟩)
  obtain⟨h2,h3⟩:=mw (C:=C) (x:=x) (line:=line) (d:=d - argsN C.p g) h1
  have hG:=eY (lev:=lev) (rep:=aL C lev) (fun line g d s hg hr=>cq hC lev line g d s hy hg hr) hC hy (d - argsN C.p g) (bA C x line (d - argsN C.p g) (di C x line g d s))
  have hoff:=rV (C:=C) (rep:=aL C lev) (x:=bq C x line g) (ins:=ins++[g]) (base:=d - argsN C.p g) h3
  show Beg b (fv C (aI C (aL C lev)) x ins line g d s)
  unfold fv
  have hb:=h2.2
  rw[h3]at hb
  have hne:(bA C x line (d - argsN C.p g) (di C x line g d s)).items.length≠b:=fun e=>by have:=hb.2 e;cases this
  have hle:=h2.1
  have hge:=hG.ge
  refine⟨by dsimp only;rw[dT];omega,?_⟩
  dsimp only
  rw[dT,hoff]
  exact⟨fun h=>(by cases h),fun h=>by omega⟩
section
variable {C:Cx} {x:Sc} {ins:List Nat} {rep:Sc→List Nat→Nat→Nat→Int→Gs→Gs} {line b:Nat}
theorem At (hrep:∀g d s,bl C g→bI C ins g s.items.length=true→Beg b s→Beg b (rep x ins line g d s))(t:CU)(d:Int){s:Gs}(h:Beg b s):Beg b (gq C rep x ins line t d s):=by
 unfold gq
 split
 ·exact h.emit ..
 ·split
  ·exact h.emit ..
  ·split
   ·split
    ·rename_i g hg
     split
     ·rename_i hr
      obtain⟨_,ln,h1,h2,_⟩:=dZ hg
      exact hrep g d s ⟨ln,h1,h2⟩ hr h
     ·exact h.emit ..
    ·exact h
   ·exact h.emit ..
mutual
theorem Ay (hrep:∀g d s,bl C g→bI C ins g s.items.length=true→Beg b s→Beg b (rep x ins line g d s)):∀(e:Ex) (d:Int) {s:Gs},Beg b s→Beg b (dh C rep x ins line e d s)
 | .node t es,d,s,h=>by
  rw[dh]
  exact At hrep t _ (lc hrep es d h)
theorem lc (hrep:∀g d s,bl C g→bI C ins g s.items.length=true→Beg b s→Beg b (rep x ins line g d s)):∀(es:List Ex) (d:Int) {s:Gs},Beg b s→Beg b (cD C rep x ins line es d s)
 | [],d,s,h=>h
 | a::es,d,s,h=>by
  rw[cD]
  exact lc hrep es (d+1) (Ay hrep a d h)
end
end
def Keep (s s':Gs):Prop:=∀(j:Nat) (it:CL),s.items[j]?=some it→∃it',s'.items[j]?=some it'∧it'.fai=it.fai
theorem Keep.refl (s:Gs):Keep s s:=fun _ it h=>⟨it,h,rfl⟩
theorem Keep.trans {a b c:Gs}(h:Keep a b)(h':Keep b c):Keep a c:=fun j it hj=>by
 obtain⟨it1,h1,e1⟩:=h j it hj
 obtain⟨it2,h2,e2⟩:=h' j it1 h1
 exact⟨it2,h2,e2.trans e1⟩
theorem Keep.emit (C:Cx)(s:Gs)(d code arg line:Int)(chain:List Int):Keep s (an C s d code arg line chain):=fun j it hj=>by
 refine⟨it,?_,rfl⟩
 show(s.items++_)[j]?=_
 rw[List.getElem?_append_left (aM hj)]
 exact hj
theorem kj {l:List CL}{j v:Int}{i:Nat}{it:CL}(h:l[i]?=some it):∃it',(bx l j v)[i]?=some it'∧it'.fai=it.fai:=by
 unfold bx
 split
 ·split
  ·rename_i x hx
   by_cases hij:j.toNat=i
   ·subst hij
    rw[hx]at h
    injection h with h
    subst h
    exact⟨_,List.getElem?_set_self (aM hx),rfl⟩
   ·exact⟨it,by rw[List.getElem?_set_ne hij];exact h,rfl⟩
  ·exact⟨it,h,rfl⟩
 ·exact⟨it,h,rfl⟩
theorem kr {v:Int}:∀{js:List Int} {l:List CL} {i:Nat} {it:CL},l[i]?=some it→∃it',(bT l v js)[i]?=some it'∧it'.fai=it.fai
 | [],l,i,it,h=>⟨it,h,rfl⟩
 | j::js,l,i,it,h=>by
  obtain⟨it1,h1,e1⟩:=kj (j:=j) (v:=v) h
  obtain⟨it2,h2,e2⟩:=kr (v:=v) (js:=js) h1
  exact⟨it2,by rw[bT];exact h2,e2.trans e1⟩
theorem nh {C:Cx}(y:Sc)(chain:List Int)(line:Int):∀(n:Nat) (d:Int) (s:Gs),Keep s (cb C y chain line n d s)
 | 0,d,s=>Keep.refl s
 | n+1,d,s=>by rw[cb];exact(Keep.emit C s d _ _ _ _).trans (nh y chain line n (d - 1) _)
theorem pc {C:Cx}(y:Sc)(chain:List Int)(line d:Int):∀(n i:Nat) (s:Gs),Keep s (cB C y chain line d n i s)
 | 0,i,s=>Keep.refl s
 | n+1,i,s=>by rw[cB];exact((Keep.emit C s d _ _ _ _).trans (Keep.emit C _ (d+1) _ _ _ _)).trans (pc y chain line d n (i+1) _)
theorem pw {C:Cx}{x:Sc}(k:Nat)(last:Bool)(d:Int)(L:Ls):Keep L.g (aH C x k last d L).g:=by
 unfold aH
 split
 ·split
  ·exact Keep.emit _ _ _ _ _ _ _
  ·exact Keep.emit _ _ _ _ _ _ _
 ·split
  ·exact Keep.refl _
  ·exact Keep.emit _ _ _ _ _ _ _
section
variable {C:Cx} {rep:Sc→List Nat→Nat→Nat→Int→Gs→Gs}
theorem yR (hrep:∀x ins line g d s,Keep s (rep x ins line g d s))(x:Sc)(ins:List Nat)(line:Nat)(t:CU)(d:Int)(s:Gs):Keep s (gq C rep x ins line t d s):=by
 unfold gq
 repeat' split
 all_goals first|exact Keep.emit _ _ _ _ _ _ _|exact hrep _ _ _ _ _ _|exact Keep.refl _
mutual
theorem tQ (hrep:∀x ins line g d s,Keep s (rep x ins line g d s))(x:Sc)(ins:List Nat)(line:Nat):∀(e:Ex) (d:Int) (s:Gs),Keep s (dh C rep x ins line e d s)
 | .node t es,d,s=>by rw[dh];exact(rc hrep x ins line es d s).trans (yR hrep x ins line t _ _)
theorem rc (hrep:∀x ins line g d s,Keep s (rep x ins line g d s))(x:Sc)(ins:List Nat)(line:Nat):∀(es:List Ex) (d:Int) (s:Gs),Keep s (cD C rep x ins line es d s)
 | [],d,s=>Keep.refl s
 | a::es,d,s=>by rw[cD];exact(tQ hrep x ins line a d s).trans (rc hrep x ins line es (d+1) _)
end
theorem wP (hrep:∀x ins line g d s,Keep s (rep x ins line g d s))(x:Sc)(ins:List Nat)(base:Int)(k:Nat)(ln:CM)(L:Ls):Keep L.g (cO C rep x ins base k ln L).g:=by
 unfold cO
 split
 ·intro j it hj
  obtain⟨it1,h1,e1⟩:=Keep.emit C L.g base 10 0 k x.chain j it hj
  obtain⟨it2,h2,e2⟩:=kj (j:=atL L.pos (az C.p k)) (v:=((an C L.g base 10 0 k x.chain).items.length:Int)) h1
  exact⟨it2,h2,e2.trans e1⟩
 ·split
  ·split
   ·exact(Keep.emit C L.g base 0 0 k x.chain).trans (pw k true (base+1) {L with g:=an C L.g base 0 0 k x.chain})
   ·split
    ·exact Keep.emit _ _ _ _ _ _ _
    ·exact Keep.refl _
  ·have h20:Keep L.g (dh C rep x ins k (exL ln.fac) base ⟨L.g.items,L.g.most,true⟩):=fun j it hj=>tQ hrep x ins k (exL ln.fac) base ⟨L.g.items,L.g.most,true⟩ j it hj
   dsimp only
   split
   ·exact h20.trans (Keep.emit _ _ _ _ _ _ _)
   ·split
    ·exact h20.trans (Keep.emit _ _ _ _ _ _ _)
    ·split
     ·exact h20.trans (pw k false (base+1) {L with g:=dh C rep x ins k (exL ln.fac) base ⟨L.g.items,L.g.most,true⟩,heads:=L.heads.set k L.g.items.length})
     ·exact h20.trans (Keep.emit _ _ _ _ _ _ _)
theorem xg (x:Sc)(k:Nat)(ln:CM)(L:Ls):Keep L.g (aK C x k ln L).g:=by
 unfold aK
 split
 ·exact fun j it hj=>kj hj
 ·exact Keep.refl _
theorem ow (hrep:∀x ins line g d s,Keep s (rep x ins line g d s))(x:Sc)(ins:List Nat)(base:Int):∀(n k:Nat) (L:Ls),Keep L.g (gY C rep x ins base n k L).g
 | 0,k,L=>Keep.refl _
 | n+1,k,L=>by
  rw[gY]
  split
  ·rename_i ln _
   exact((wP hrep x ins base k ln L).trans (xg x k ln _)).trans (ow hrep x ins base n (k+1) _)
  ·exact Keep.refl _
end
theorem tx {C:Cx}:∀(lev:Nat) (x:Sc) (ins:List Nat) (line g:Nat) (d:Int) (s:Gs),Keep s (aL C lev x ins line g d s)
 | 0,x,ins,line,g,d,s=>Keep.refl s
 | lev+1,x,ins,line,g,d,s=>by
  show Keep s (fv C (aI C (aL C lev)) x ins line g d s)
  unfold fv
  have h1:Keep s (di C x line g d s):=by
   unfold di
   exact fun j it hj=>((nh _ _ _ _ _ _).trans (pc _ _ _ _ _ _ _)) j it hj
  have h2:Keep (di C x line g d s) (bA C x line (d - argsN C.p g) (di C x line g d s)):=by
   unfold bA
   split
   ·exact Keep.emit _ _ _ _ _ _ _
   ·exact Keep.refl _
  have h3:Keep (bA C x line (d - argsN C.p g) (di C x line g d s)) (aI C (aL C lev) (bq C x line g) (ins++[g]) (d - argsN C.p g) (bA C x line (d - argsN C.p g) (di C x line g d s))).1:=ow (fun x ins line g d s=>tx lev x ins line g d s) _ _ _ _ _ (bN C _)
  intro j it hj
  obtain⟨it1,k1,e1⟩:=((h1.trans h2).trans h3) j it hj
  obtain⟨it2,k2,e2⟩:=kr (v:=((aI C (aL C lev) (bq C x line g) (ins++[g]) (d - argsN C.p g) (bA C x line (d - argsN C.p g) (di C x line g d s))).1.items.length:Int)) (js:=(aI C (aL C lev) (bq C x line g) (ins++[g]) (d - argsN C.p g) (bA C x line (d - argsN C.p g) (di C x line g d s))).2) k1
  exact⟨it2,k2,e2.trans e1⟩
def Mark (b:Nat)(s:Gs):Prop:=(s.start=true∧s.items.length=b)∨∃it,s.items[b]?=some it∧it.fai=true
theorem Mark.keep {b:Nat}{s s':Gs}(h:∃it,s.items[b]?=some it∧it.fai=true)(hk:Keep s s'):∃it,s'.items[b]?=some it∧it.fai=true:=by
 obtain⟨it,h1,h2⟩:=h
 obtain⟨it',h3,h4⟩:=hk b it h1
 exact⟨it',h3,h4.trans h2⟩
theorem Mark.emit {b:Nat}{s:Gs}(h:Mark b s)(C:Cx)(d code arg line:Int)(chain:List Int):Mark b (an C s d code arg line chain):=by
 rcases h with⟨h1,h2⟩|h
 ·refine .inr ⟨iW C s d code arg line chain,?_,h1⟩
  show(s.items++[_])[b]?=_
  rw[←h2]
  simp
 ·exact .inr (Mark.keep h (Keep.emit _ _ _ _ _ _ _))
theorem nQ {b:Nat}{C:Cx}(y:Sc)(chain:List Int)(line:Int):∀(n:Nat) (d:Int) (s:Gs),Mark b s→Mark b (cb C y chain line n d s)
 | 0,d,s,h=>h
 | n+1,d,s,h=>by rw[cb];exact nQ y chain line n (d - 1) _ (h.emit ..)
theorem oU {b:Nat}{C:Cx}(y:Sc)(chain:List Int)(line d:Int):∀(n i:Nat) (s:Gs),Mark b s→Mark b (cB C y chain line d n i s)
 | 0,i,s,h=>h
 | n+1,i,s,h=>by rw[cB];exact oU y chain line d n (i+1) _ ((h.emit ..).emit ..)
theorem yQ {C:Cx}:∀(lev:Nat) {b:Nat} (x:Sc) (ins:List Nat) (line g:Nat) (d:Int) (s:Gs),Mark b s→Mark b (aL C lev x ins line g d s)
 | 0,b,x,ins,line,g,d,s,h=>h
 | lev+1,b,x,ins,line,g,d,s,h=>by
  show Mark b (fv C (aI C (aL C lev)) x ins line g d s)
  unfold fv
  have h1:Mark b (di C x line g d s):=by
   unfold di
   exact oU _ _ _ _ _ _ _ (nQ _ _ _ _ _ _ h)
  have h2:∃it,(bA C x line (d - argsN C.p g) (di C x line g d s)).items[b]?=some it∧it.fai=true:=by
   unfold bA
   split
   ·rcases Mark.emit h1 C (d - argsN C.p g) 15 0 line x.chain with⟨k,_⟩|k
    ·cases k
    ·exact k
   ·rename_i hn
    rcases h1 with⟨k,_⟩|k
    ·exact absurd k hn
    ·exact k
  have h3:=Mark.keep h2 (ow (C:=C) (rep:=aL C lev) (fun x ins line g d s=>tx lev x ins line g d s) (bq C x line g) (ins++[g]) (d - argsN C.p g) (ir C.p g - g) (g+1) (bN C _))
  obtain⟨it,k1,k2⟩:=h3
  obtain⟨it2,k3,e2⟩:=kr (v:=((aI C (aL C lev) (bq C x line g) (ins++[g]) (d - argsN C.p g) (bA C x line (d - argsN C.p g) (di C x line g d s))).1.items.length:Int)) (js:=(aI C (aL C lev) (bq C x line g) (ins++[g]) (d - argsN C.p g) (bA C x line (d - argsN C.p g) (di C x line g d s))).2) k1
  exact .inr ⟨it2,k3,e2.trans k2⟩
section
variable {C:Cx} {rep:Sc→List Nat→Nat→Nat→Int→Gs→Gs} {b:Nat}
theorem yK (hrep:∀x ins line g d s,Mark b s→Mark b (rep x ins line g d s))(x:Sc)(ins:List Nat)(line:Nat)(t:CU)(d:Int)(s:Gs)(h:Mark b s):Mark b (gq C rep x ins line t d s):=by
 unfold gq
 repeat' split
 all_goals first|exact Mark.emit h ..|exact hrep _ _ _ _ _ _ h|exact h
mutual
theorem sV (hrep:∀x ins line g d s,Mark b s→Mark b (rep x ins line g d s))(x:Sc)(ins:List Nat)(line:Nat):∀(e:Ex) (d:Int) (s:Gs),Mark b s→Mark b (dh C rep x ins line e d s)
 | .node t es,d,s,h=>by rw[dh];exact yK hrep x ins line t _ _ (si hrep x ins line es d s h)
theorem si (hrep:∀x ins line g d s,Mark b s→Mark b (rep x ins line g d s))(x:Sc)(ins:List Nat)(line:Nat):∀(es:List Ex) (d:Int) (s:Gs),Mark b s→Mark b (cD C rep x ins line es d s)
 | [],d,s,h=>h
 | a::es,d,s,h=>by rw[cD];exact si hrep x ins line es (d+1) _ (sV hrep x ins line a d s h)
end
end
theorem zD {C:Cx}{lev:Nat}{x:Sc}{ins:List Nat}{line g:Nat}{d:Int}{s:Gs}{b:Nat}(h:Beg b s):(aL C (lev+1) x ins line g d s).start=false:=by
 show(fv C (aI C (aL C lev)) x ins line g d s).start=false
 unfold fv
 have h1:Beg b (di C x line g d s):=by
  unfold di
  exact mo _ _ _ _ _ _ _ (kl _ _ _ _ _ _ ⟨h.1,h.2⟩)
 exact rV (mw (C:=C) (x:=x) (line:=line) (d:=d - argsN C.p g) h1).2
end Go.Proofs.YtoglejgmjeojoaaGreat
namespace Go.Proofs.YtoglejgmjeojoaaGreat
open Go.Sim
set_option maxRecDepth 100000
set_option maxHeartbeats 4000000
structure Ib where
 f:Int
 e:Int
 locals:List (List UInt8)
 args:Int
 first:Int
 chain:List Int
 base:Int
abbrev ibB (q:Ib)(j:Sim.Id):AO:= .box [.t (.int .i64 q.f),.t (.int .i64 q.e),.t (.lst 1 (q.locals.map ag)),.t (.int .i64 q.args),.t (.int .i64 q.first),.t (.lst 1 (q.chain.map ab)),.t (.int .i64 q.base),.own j]
abbrev rn (C:Cx)(s:Gs)(d:Int)(i1 i2:Sim.Id):AO:= .box [.t (.lst 4 (C.p.map CM.tr)),.t (.int .i64 C.b.fan),.t (.int .i64 C.b.fag),.t (.bool C.b.faq),.t (.bool C.b.far),.t (.bool C.framed),.t (.int .i64 C.words),.t (.int .i64 s.most),.own i1,.t (.int .i64 d),.own i2]
abbrev iY (ins:List Nat):List (List Tr):=ins.map fun n:Nat=>ab (n:Int)
abbrev fG (i1 i2 j:Sim.Id)(C:Cx)(pd:List Nat)(s:Gs)(d:Int)(ins:List Nat)(q:Ib)(lv:List Int):List (Sim.Id×AO):=
 [((0,0,0),rn C s d i1 i2),(i1,.dar 7 (itR (clr pd s.items)) none),(i2,.arr false 1 (iY ins)),((0,1,0),ibB q j),(j,.arr false 1 (lv.map ab))]
abbrev ibP:AV:= .r (.c (.ptr (0,1,0) 0))
structure IbOk (C:Cx) (x:Sc) (q:Ib):Prop where
 chain:q.chain=x.chain
 first:q.first=x.first
 locals:q.locals=x.locals
 args:x.outer=true→q.args=C.args
 out:x.outer=true↔x.chain=[]
 zero:x.outer=true→x.first=0
theorem zX {C:Cx}{pd:List Nat}{s:Gs}{d code arg line:Int}{chain:List Int}(h:s.start=true→s.items.length∈pd):clr pd (an C s d code arg line chain).items=clr pd s.items++[vh (iW C s d code arg line chain)]:=by
 show clr pd (s.items++[_])=_
 rw[zZ]
 congr 2
 unfold gG
 cases hs:s.start with
 | true=>rw[if_pos (List.contains_iff_mem.2 (h hs))]
 | false=>
  split
  ·rfl
  ·exact(Al (by show s.start=false;exact hs)).symm
theorem bi (pd:List Nat)(l:List CL):(itR (clr pd l)).length=l.length:=by rw[fK,li]
theorem br (C:Cx)(pd:List Nat)(s:Gs)(d:Int)(ins:List Nat)(q:Ib)(lv:List Int)(line code arg change:Int)(h1:bc s)(h2:q.chain.length≤100)(h3:s.start=true→s.items.length∈pd)(h4:-2000≤d∧d≤2000)(h5:-100≤change∧change≤1000):
  bp Tryz.prog 251 [cr,ibP,tI .i64 line,tI .i64 code,tI .i64 arg,tI .i64 change] (fG (0,0,1) (0,0,2) (0,1,1) C pd s d ins q lv) (.tup []) (fG (1,0,1) (0,0,2) (0,1,1) C pd (an C s d code arg line q.chain) (d+change) ins q lv):=by
 refine ax hΓ aq Tryz.func251 rfl (by decide) rfl rfl ?_
 unfold bc at h1
 have hlen:=bi pd s.items
 have hcl:(q.chain.map ab).length=q.chain.length:=by simp
 have hfl:=dY q.chain
 have hem:=zX (C:=C) (pd:=pd) (s:=s) (d:=d) (code:=code) (arg:=arg) (line:=line) (chain:=q.chain) h3
 repeat' ((conv=>whnf);first|apply Wx|apply W6|apply oi|(apply fi<;>intro h)|refine⟨_,rfl,?_⟩|exact rfl)
 all_goals try exact⟨KP⟩
 all_goals try exact⟨⟨by rw[hlen];(try dsimp only);omega,by rw[hlen];(try dsimp only);omega⟩⟩
 all_goals try exact⟨⟨by simp <;> omega,by simp <;> omega⟩⟩
 all_goals try exact⟨by simpa using hfl⟩
 all_goals try exact⟨KW⟩
 all_goals(refine⟨?_⟩;rw[hem,wz];(try rw[hlen]at *);congr 1;simp_all[iW,CL.tr,vh])
theorem oT (C:Cx)(pd:List Nat)(s:Gs)(d:Int)(ins:List Nat)(q:Ib)(lv:List Int)(y:Sc)(line i:Int)(hy:y.outer=false)(hf:q.first=y.first)(h1:bc s)(h2:q.chain.length≤100)(h3:s.start=true→s.items.length∈pd)(h4:-1000≤d∧d≤2000)(h5:0≤y.first∧y.first≤1000)(h6:-2≤i∧i≤100):
  bp Tryz.prog 276 [cr,ibP,tI .i64 line,tI .i64 i] (fG (0,0,1) (0,0,2) (0,1,1) C pd s d ins q lv) (.tup []) (fG (1,0,1) (0,0,2) (0,1,1) C pd (cQ C y s d i line q.chain) (d - 1) ins q lv):=by
 refine ax hΓ aq Tryz.func276 rfl (by decide) rfl rfl ?_
 have g1:=br C pd s d ins q lv line (bF C true) (ca C y d i) (-1) h1 h2 h3 (by omega) (by omega)
 have hy2:iG C y i=false:=by unfold iG;rw[hy];rfl
 have hy3:dD C y i=y.first+i:=by unfold dD;rw[if_neg (by simp[hy])]
 have e1:IntKind.i64.wrap (q.first+i)=y.first+i:=by rw[hf,IntWalk.i64_in _ (by omega)]
 unfold cQ
 cases hfm:C.framed with
 | true=>
  have e2:bF C true=2:=by unfold bF;rw[if_pos hfm];rfl
  have e3:ca C y d i=IntKind.i64.wrap (-1 - IntKind.i64.wrap (q.first+i)):=by unfold ca;rw[if_pos hfm,if_neg (by simp[hy2]),hy3,e1,IntWalk.i64_in _ (by omega)]
  rw[e2,e3]at g1
  rw[e2,e3]
  repeat' ((conv=>whnf);first|apply Wx|apply W6|refine cg g1 ?_|apply oi|(apply fi<;>intro h)|refine⟨_,rfl,?_⟩|exact rfl)
  all_goals try exact⟨KP⟩
  all_goals try(exfalso;rw[hfm]at h;cases h;done)
  all_goals try exact⟨KW⟩
 | false=>
  have e2:bF C true=4:=by unfold bF;rw[if_neg (by simp[hfm])];rfl
  have e3:ca C y d i=IntKind.i64.wrap (IntKind.i64.wrap (d - 1) - IntKind.i64.wrap (q.first+i)):=by unfold ca;rw[if_neg (by simp[hfm]),if_neg (by simp[hy2]),hy3,e1];simp(disch:=omega)only[IntWalk.i64_in]
  rw[e2,e3]at g1
  rw[e2,e3]
  repeat' ((conv=>whnf);first|apply Wx|apply W6|refine cg g1 ?_|apply oi|(apply fi<;>intro h)|refine⟨_,rfl,?_⟩|exact rfl)
  all_goals try exact⟨KP⟩
  all_goals try(exfalso;rw[hfm]at h;cases h;done)
  all_goals try exact⟨KW⟩
theorem lA (C:Cx)(hC:CxOk C)(pd:List Nat)(s:Gs)(d:Int)(ins:List Nat)(q:Ib)(lv:List Int)(x:Sc)(hq:IbOk C x q)(line i chg:Int)(store:Bool)(hch:chg=if store=true then -1 else 1)(h1:bc s)(h2:x.chain.length≤100)(h3:s.start=true→s.items.length∈pd)(h4:-1000≤d∧d≤1999)(h5:0≤x.first∧x.first≤1000)(h6:-2≤i∧i≤100):
  bp Tryz.prog 269 [cr,ibP,tI .i64 line,tI .i64 i,tB store] (fG (0,0,1) (0,0,2) (0,1,1) C pd s d ins q lv) (.tup []) (fG (1,0,1) (0,0,2) (0,1,1) C pd (an C s d (bF C store) (ca C x d i) line x.chain) (d+chg) ins q lv):=by
 refine ax hΓ aq Tryz.func269 rfl (by decide) rfl rfl ?_
 obtain⟨a1,a2⟩:=hC.args
 obtain⟨qf,qe,ql,qa,qi,qc,qb⟩:=q
 obtain⟨xf,xc,xl,xi,xo⟩:=x
 obtain⟨q1,q2,q3,q4,q5,q6⟩:=hq
 dsimp only at q1 q2 q3 q4 q5 q6 h2 h5
 subst q1;subst q2;subst q3
 have g1:=br C pd s d ins ⟨qf,qe,ql,qa,qi,qc,qb⟩ lv line (bF C store) (ca C ⟨xf,qc,ql,qi,xo⟩ d i) chg h1 h2 h3 (by omega) (by subst hch;split <;> omega)
 cases xo with
 | true=>
  have e1:qc=[]:=q5.1 rfl
  have e2:=q4 rfl
  have e3:=q6 rfl
  subst e1;subst e2;subst e3
  cases store
  all_goals cases hfm:C.framed
  all_goals skip
  ·skip
   repeat' ((conv=>whnf);first|apply Wx|apply W6|refine cg g1 ?_|apply oi|(apply fi<;>intro h)|refine⟨_,rfl,?_⟩|exact rfl)
   all_goals try exact⟨KP⟩
   all_goals try(exfalso;rw[hfm]at h;cases h;done)
   all_goals try exact K3
   all_goals try exact⟨congrArg (Tr.int .i64) (by(try subst hch);(try unfold bF);(try unfold ca iG dD);(try simp(disch:=omega)only[IntWalk.i64_in]);simp_all <;> omega)⟩
  ·skip
   repeat' ((conv=>whnf);first|apply Wx|apply W6|refine cg g1 ?_|apply oi|(apply fi<;>intro h)|refine⟨_,rfl,?_⟩|exact rfl)
   all_goals try exact⟨KP⟩
   all_goals try(exfalso;rw[hfm]at h;cases h;done)
   all_goals try exact K3
   all_goals try exact⟨congrArg (Tr.int .i64) (by(try subst hch);(try unfold bF);(try unfold ca iG dD);(try simp(disch:=omega)only[IntWalk.i64_in]);simp_all <;> omega)⟩
  ·skip
   repeat' ((conv=>whnf);first|apply Wx|apply W6|refine cg g1 ?_|apply oi|(apply fi<;>intro h)|refine⟨_,rfl,?_⟩|exact rfl)
   all_goals try exact⟨KP⟩
   all_goals try(exfalso;rw[hfm]at h;cases h;done)
   all_goals try exact K3
   all_goals try exact⟨congrArg (Tr.int .i64) (by(try subst hch);(try unfold bF);(try unfold ca iG dD);(try simp(disch:=omega)only[IntWalk.i64_in]);simp_all <;> omega)⟩
  ·skip
   repeat' ((conv=>whnf);first|apply Wx|apply W6|refine cg g1 ?_|apply oi|(apply fi<;>intro h)|refine⟨_,rfl,?_⟩|exact rfl)
   all_goals try exact⟨KP⟩
   all_goals try(exfalso;rw[hfm]at h;cases h;done)
   all_goals try exact K3
   all_goals try exact⟨congrArg (Tr.int .i64) (by(try subst hch);(try unfold bF);(try unfold ca iG dD);(try simp(disch:=omega)only[IntWalk.i64_in]);simp_all <;> omega)⟩
 | false=>
  have hne:qc≠[]:=fun e=>by have:=q5.2 e;cases this
  obtain⟨c,cs,rfl⟩:∃c cs,qc=c::cs:=by
   cases qc with
   | nil=>exact absurd rfl hne
   | cons c cs=>exact⟨c,cs,rfl⟩
  have hcl:(((c::cs).map ab).length:Int)=(cs.length:Int)+1:=by simp
  cases store
  all_goals cases hfm:C.framed
  all_goals skip
  ·skip
   repeat' ((conv=>whnf);first|apply Wx|apply W6|refine cg g1 ?_|apply oi|(apply fi<;>intro h)|refine⟨_,rfl,?_⟩|exact rfl)
   all_goals try exact⟨KP⟩
   all_goals try(exfalso;rw[hfm]at h;cases h;done)
   all_goals try exact K3
   all_goals try exact⟨congrArg (Tr.int .i64) (by(try subst hch);(try unfold bF);(try unfold ca iG dD);(try simp(disch:=omega)only[IntWalk.i64_in]);simp_all <;> omega)⟩
  ·skip
   repeat' ((conv=>whnf);first|apply Wx|apply W6|refine cg g1 ?_|apply oi|(apply fi<;>intro h)|refine⟨_,rfl,?_⟩|exact rfl)
   all_goals try exact⟨KP⟩
   all_goals try(exfalso;rw[hfm]at h;cases h;done)
   all_goals try exact K3
   all_goals try exact⟨congrArg (Tr.int .i64) (by(try subst hch);(try unfold bF);(try unfold ca iG dD);(try simp(disch:=omega)only[IntWalk.i64_in]);simp_all <;> omega)⟩
  ·skip
   repeat' ((conv=>whnf);first|apply Wx|apply W6|refine cg g1 ?_|apply oi|(apply fi<;>intro h)|refine⟨_,rfl,?_⟩|exact rfl)
   all_goals try exact⟨KP⟩
   all_goals try(exfalso;rw[hfm]at h;cases h;done)
   all_goals try exact K3
   all_goals try exact⟨congrArg (Tr.int .i64) (by(try subst hch);(try unfold bF);(try unfold ca iG dD);(try simp(disch:=omega)only[IntWalk.i64_in]);simp_all <;> omega)⟩
  ·skip
   repeat' ((conv=>whnf);first|apply Wx|apply W6|refine cg g1 ?_|apply oi|(apply fi<;>intro h)|refine⟨_,rfl,?_⟩|exact rfl)
   all_goals try exact⟨KP⟩
   all_goals try(exfalso;rw[hfm]at h;cases h;done)
   all_goals try exact K3
   all_goals try exact⟨congrArg (Tr.int .i64) (by(try subst hch);(try unfold bF);(try unfold ca iG dD);(try simp(disch:=omega)only[IntWalk.i64_in]);simp_all <;> omega)⟩
theorem nD (C:Cx)(hC:CxOk C)(pd:List Nat)(s:Gs)(d:Int)(ins:List Nat)(q:Ib)(lv:List Int)(x:Sc)(hq:IbOk C x q)(k:Nat)(last:Bool)(h1:bc s)(h2:x.chain.length≤100)(h3:s.start=true→s.items.length∈pd)(h4:-1000≤d∧d≤1999)(hlv:lv.length≤68719476736)(hd p:List Int):
  bp Tryz.prog 270 [cr,ibP,tI .i64 (k:Int),tB last] (fG (0,0,1) (0,0,2) (0,1,1) C pd s d ins q lv) (.tup []) (fG (1,0,1) (0,0,2) (1,1,1) C pd (aH C x k last d ⟨s,hd,p,lv⟩).g (if x.outer=false∧last=true then d else d - 1) ins q (aH C x k last d ⟨s,hd,p,lv⟩).lv):=by
 refine ax hΓ aq Tryz.func270 rfl (by decide) rfl rfl ?_
 obtain⟨a1,a2⟩:=hC.args
 obtain⟨a3,a4⟩:=hC.words
 obtain⟨qf,qe,ql,qa,qi,qc,qb⟩:=q
 obtain⟨xf,xc,xl,xi,xo⟩:=x
 obtain⟨q1,q2,q3,q4,q5,q6⟩:=hq
 dsimp only at q1 q2 q3 q4 q5 q6 h2
 subst q1;subst q2;subst q3
 have hlen:=bi pd s.items
 have hll:(lv.map ab).length=lv.length:=by simp
 cases xo with
 | true=>
  have e1:qc=[]:=q5.1 rfl
  have e2:=q4 rfl
  subst e1;subst e2
  rw[if_neg (by simp)]
  have e4:IntKind.i64.wrap (C.args+IntKind.i64.wrap (16 * C.words))=C.args+16 * C.words:=by simp(disch:=omega)only[IntWalk.i64_in]
  cases hfm:C.framed with
  | true=>
   have g1:=br C pd s d ins ⟨qf,qe,ql,C.args,qi,[],qb⟩ lv k 14 C.args (-1) h1 h2 h3 (by omega) (by omega)
   have e:aH C ⟨xf,[],ql,qi,true⟩ k last d ⟨s,hd,p,lv⟩=⟨an C s d 14 C.args k [],hd,p,lv⟩:=by simp[aH,hfm]
   rw[e]
   cases last
   all_goals skip
   ·skip
    repeat' ((conv=>whnf);first|apply Wx|apply W6|refine cg g1 ?_|apply oi|(apply fi<;>intro h)|refine⟨_,rfl,?_⟩|exact rfl)
    all_goals try exact⟨KP⟩
    all_goals try exact⟨KW⟩
    all_goals try(exfalso;rw[hfm]at h;cases h;done)
   ·skip
    repeat' ((conv=>whnf);first|apply Wx|apply W6|refine cg g1 ?_|apply oi|(apply fi<;>intro h)|refine⟨_,rfl,?_⟩|exact rfl)
    all_goals try exact⟨KP⟩
    all_goals try exact⟨KW⟩
    all_goals try(exfalso;rw[hfm]at h;cases h;done)
  | false=>
   have g1:=br C pd s d ins ⟨qf,qe,ql,C.args,qi,[],qb⟩ lv k 16 (C.args+16 * C.words) (-1) h1 h2 h3 (by omega) (by omega)
   have e:aH C ⟨xf,[],ql,qi,true⟩ k last d ⟨s,hd,p,lv⟩=⟨an C s d 16 (IntKind.i64.wrap (C.args+IntKind.i64.wrap (16 * C.words))) k [],hd,p,lv⟩:=by simp[aH,hfm,e4]
   rw[←e4]at g1
   rw[e]
   cases last
   all_goals skip
   ·skip
    repeat' ((conv=>whnf);first|apply Wx|apply W6|refine cg g1 ?_|apply oi|(apply fi<;>intro h)|refine⟨_,rfl,?_⟩|exact rfl)
    all_goals try exact⟨KP⟩
    all_goals try exact⟨KW⟩
    all_goals try(exfalso;rw[hfm]at h;cases h;done)
   ·skip
    repeat' ((conv=>whnf);first|apply Wx|apply W6|refine cg g1 ?_|apply oi|(apply fi<;>intro h)|refine⟨_,rfl,?_⟩|exact rfl)
    all_goals try exact⟨KP⟩
    all_goals try exact⟨KW⟩
    all_goals try(exfalso;rw[hfm]at h;cases h;done)
 | false=>
  have hne:qc≠[]:=fun e=>by have:=q5.2 e;cases this
  obtain⟨c,cs,rfl⟩:∃c cs,qc=c::cs:=by
   cases qc with
   | nil=>exact absurd rfl hne
   | cons c cs=>exact⟨c,cs,rfl⟩
  have hcl:(((c::cs).map ab).length:Int)=(cs.length:Int)+1:=by simp
  cases last with
  | true=>
   have e:aH C ⟨xf,c::cs,ql,qi,false⟩ k true d ⟨s,hd,p,lv⟩=⟨s,hd,p,lv⟩:=by simp[aH]
   rw[e,if_pos ⟨rfl,rfl⟩]
   repeat' ((conv=>whnf);first|apply Wx|apply W6|apply oi|(apply fi<;>intro h)|refine⟨_,rfl,?_⟩|exact rfl)
   all_goals try exact⟨KP⟩
   all_goals try exact⟨KW⟩
   all_goals try exact KN
  | false=>
   have e:aH C ⟨xf,c::cs,ql,qi,false⟩ k false d ⟨s,hd,p,lv⟩=⟨an C s d 10 0 k (c::cs),hd,p,lv++[(s.items.length:Int)]⟩:=by simp[aH]
   rw[e,if_neg (by simp)]
   have g1:=br C pd s d ins ⟨qf,qe,ql,qa,qi,c::cs,qb⟩ (lv++[(s.items.length:Int)]) k 10 0 (-1) h1 h2 h3 (by omega) (by omega)
   have hap:lv.map ab++[[Tr.int .i64 ((itR (clr pd s.items)).length:Int)]]=(lv++[(s.items.length:Int)]).map ab:=by rw[hlen];simp[ab]
   repeat' ((conv=>whnf);first|apply Wx|apply W6|refine cg g1 ?_|apply oi|(apply fi<;>intro h)|refine⟨_,rfl,?_⟩|exact rfl)
   all_goals try exact⟨KP⟩
   all_goals try exact⟨KW⟩
   all_goals try exact⟨⟨by rw[hll];(try dsimp only);simp only[List.length_cons,List.length_nil];omega,by rw[hll];(try dsimp only);simp only[List.length_cons,List.length_nil];omega⟩⟩
   all_goals try exact⟨hap⟩
   all_goals try exact KN
abbrev BN (i1 i2:Sim.Id)(C:Cx)(pd:List Nat)(s:Gs)(d:Int)(ins:List Nat):List (Sim.Id×AO):=[((0,0,0),rn C s d i1 i2),(i1,.dar 7 (itR (clr pd s.items)) none),(i2,.arr false 1 (iY ins))]
theorem tT {g:Nat}:∀{l:List CM} {i j:Nat} {x:CM},i≤g→l[g - i]?=some x→x.faa=0→ia ((funsF l i).map fun n:Nat=>(n:Int)) j (g:Int)=some (j+((l.take (g - i)).filter fun x=>x.faa==0).length)
 | [],i,j,x,h,hx,_=>by simp at hx
 | y::l,i,j,x,h,hx,h0=>by
  rw[funsF]
  by_cases hgi:g=i
  ·subst hgi
   rw[Nat.sub_self,List.getElem?_cons_zero]at hx
   injection hx with hx
   subst hx
   rw[if_pos h0,List.map_append,List.map_cons,List.cons_append,ia,if_pos (by simp),Nat.sub_self]
   simp
  ·have hs:g - i=(g - (i+1))+1:=by omega
   rw[hs,List.getElem?_cons_succ]at hx
   have ih:=fun j=>tT (g:=g) (l:=l) (i:=i+1) (j:=j) (by omega) hx h0
   rw[hs,List.take_succ_cons]
   by_cases hy:y.faa=0
   ·rw[if_pos hy,List.map_append,List.map_cons,List.map_nil,List.cons_append,List.nil_append,ia,if_neg (by simp;omega),ih,List.filter_cons,if_pos (by simp[hy]),List.length_cons]
    congr 1;omega
   ·rw[if_neg hy,List.nil_append,ih,List.filter_cons,if_neg (by simp[hy])]
theorem Au {C:Cx}{g:Nat}(hg:bl C g):ct ((ay C.p).map fun n:Nat=>(n:Int)) (g:Int)=(jN C.p g:Int):=by
 obtain⟨x,hx,h0⟩:=hg
 have:=tT (l:=C.p) (i:=0) (j:=0) (x:=x) (Nat.zero_le g) (by simpa using hx) h0
 unfold ct ay
 rw[this]
 simp[bS,jN]
theorem pC (C:Cx)(hC:CxOk C)(pd:List Nat)(s:Gs)(d:Int)(ins:List Nat)(g:Nat)(hg:bl C g):
  bp Tryz.prog 275 [cr,tI .i64 (g:Int)] (BN (0,0,1) (0,0,2) C pd s d ins) (tI .i64 (jN C.p g:Int)) (BN (0,0,1) (0,0,2) C pd s d ins):=by
 refine ax hΓ aq Tryz.func275 rfl (by decide) rfl rfl ?_
 have h60:=hC.len
 have gF:=bX C.p (by omega)
 have hfl:=kX C.p 0
 have gI:=jO ((ay C.p).map fun n:Nat=>(n:Int)) (g:Int) (by unfold ay;rw[List.length_map];omega)
 rw[Au hg,List.map_map]at gI
 repeat' ((conv=>whnf);first|apply Wx|apply W6|apply oi|(apply fi<;>intro h)|refine cl gF ?_|refine cl gI ?_|refine⟨_,rfl,?_⟩|exact rfl)
 all_goals try exact⟨KP⟩
theorem zV (ins:List Nat)(g:Nat):(ins.map fun n:Nat=>(n:Int)).contains (g:Int)=ins.contains g:=by
 induction ins with
 | nil=>rfl
 | cons a l ih=>
  rw[List.map_cons,List.contains_cons,List.contains_cons,ih]
  congr 1
  rw[Bool.eq_iff_iff]
  simp
  omega
theorem pN (C:Cx)(hC:CxOk C)(pd:List Nat)(s:Gs)(d:Int)(ins:List Nat)(q:Ib)(lv:List Int)(g:Nat)(h1:bc s)(hS:q.chain.length+1=ins.length)(hi:ins.length≤100)(hg:g < C.p.length):
  bp Tryz.prog 273 [cr,ibP,tI .i64 (g:Int)] (fG (0,0,1) (0,0,2) (0,1,1) C pd s d ins q lv) (tB (bI C ins g s.items.length)) (fG (0,0,1) (0,0,2) (0,1,1) C pd s d ins q lv):=by
 refine ax hΓ aq Tryz.func273 rfl (by decide) rfl rfl ?_
 unfold bc at h1
 have hlen:=bi pd s.items
 have h60:=hC.len
 have hin:=hC.inl
 have hE:=co C.p (g:Int) (by omega)
 have gC:=gj (ins.map fun n:Nat=>(n:Int)) (g:Int) (by rw[List.length_map];omega)
 rw[zV,List.map_map]at gC
 have hee:=km C.p g
 have hql:((q.chain.map ab).length:Int)=(ins.length:Int) - 1:=by rw[List.length_map];omega
 have hw2:IntKind.i64.wrap (aY C.p (g:Int) - (g:Int))=aY C.p (g:Int) - g:=by rw[IntWalk.i64_in _ (by omega)]
 have hr:bI C ins g s.items.length=(decide ((ins.length:Int)≤C.b.fag) && (decide (aY C.p (g:Int) - g≤9) && (decide (s.items.length < 200) && !ins.contains g))):=rfl
 rw[hr]
 generalize aY C.p (g:Int)=eg at *
 cases hcn:ins.contains g with
 | true=>
  rw[hcn]at gC
  repeat' ((conv=>whnf);first|apply Wx|apply W6|apply oi|(apply fi<;>intro h)|refine cl gC ?_|refine cl hE ?_|refine⟨_,rfl,?_⟩|exact rfl)
  all_goals try exact⟨KP⟩
  all_goals exact⟨by simp⟩
 | false=>
  rw[hcn]at gC
  repeat' ((conv=>whnf);first|apply Wx|apply W6|apply oi|(apply fi<;>intro h)|refine cl gC ?_|refine cl hE ?_|refine⟨_,rfl,?_⟩|exact rfl)
  all_goals try exact⟨KP⟩
  all_goals(refine⟨congrArg Tr.bool ?_⟩;(try rw[hlen]);rw[Bool.eq_iff_iff];simp only[Bool.and_eq_true,decide_eq_true_eq,Bool.not_false,and_true,Bool.false_eq_true];clear hr hcn gC hE;simp only[hw2,hql,decide_eq_true_eq,decide_eq_false_iff_not]at *;first|omega|exact iff_of_false id (by omega))
structure IRm (C:Cx) (lev n:Nat) (x:Sc) (q:Ib) (ins pd:List Nat) (b:Nat) (s:Gs) (d:Int):Prop where
 sc:ScOk C x ins
 ib:IbOk C x q
 rm:Rm C lev n (ins.length - 1) s d
 beg:Beg b s
 mem:b∈pd
 le:∀i∈pd,i≤b
def Ci (C:Cx)(lev:Nat):Prop:=∀(e:Ex) (x:Sc) (q:Ib) (ins pd:List Nat) (lv:List Int) (k p b:Nat) (ln:CM) (s:Gs) (d:Int),e.ok→C.p[k]?=some ln→eB ln.fac p e→kT C ln.fac→IRm C lev e.toks.length x q ins pd b s d→
 bp Tryz.prog 268 [cr,ibP,tI .i64 (k:Int),.r (.c (.t (.lst 3 (ln.fac.map CU.tr)))),tI .i64 (p:Int),tI .i64 (b:Int)] (fG (0,0,1) (0,0,2) (0,1,1) C pd s d ins q lv) (.tup []) (fG (1,0,1) (1,0,2) (0,1,1) C pd (dh C (aL C lev) x ins k e d s) (d+1) ins q lv)
def ws (C:Cx)(lev:Nat):Prop:=∀(x:Sc) (q:Ib) (ins pd:List Nat) (lv:List Int) (k g b:Nat) (s:Gs) (d:Int),k < C.p.length→bl C g→bI C ins g s.items.length=true→IRm C lev 1 x q ins pd b s (d - argsN C.p g)→
 bp Tryz.prog 274 [cr,ibP,tI .i64 (k:Int),tI .i64 (g:Int),tI .i64 (b:Int)] (fG (0,0,1) (0,0,2) (0,1,1) C pd s d ins q lv) (.tup []) (fG (1,0,1) (1,0,2) (0,1,1) C pd (aL C lev x ins k g d s) (d - argsN C.p g+1) ins q lv)
theorem tC {C:Cx}(hC:CxOk C){lev:Nat}(hR:ws C lev):∀(n:Nat) (e:Ex),e.toks.length≤n→∀(x:Sc) (q:Ib) (ins pd:List Nat) (lv:List Int) (k p b:Nat) (ln:CM) (s:Gs) (d:Int),e.ok→C.p[k]?=some ln→eB ln.fac p e→kT C ln.fac→IRm C lev e.toks.length x q ins pd b s d→
  bp Tryz.prog 268 [cr,ibP,tI .i64 (k:Int),.r (.c (.t (.lst 3 (ln.fac.map CU.tr)))),tI .i64 (p:Int),tI .i64 (b:Int)] (fG (0,0,1) (0,0,2) (0,1,1) C pd s d ins q lv) (.tup []) (fG (1,0,1) (1,0,2) (0,1,1) C pd (dh C (aL C lev) x ins k e d s) (d+1) ins q lv)
 | 0,e,hn,_,_,_,_,_,_,_,_,_,_,_,_,_,_,_,_=>by have:=e.toks_pos;omega
 | n+1,.node t es,hn,x,q,ins,pd,lv,k,p,b,ln,s,d,ho,hk,hs,hca,hr=>by
  refine ax hΓ aq Tryz.func268 rfl (by decide) rfl rfl ?_
  obtain⟨hx,hq,hrm,hbg,hbm,hpl2⟩:=hr
  obtain⟨hsh,hnm⟩:=iU hC hk
  have hle:=eb hs
  obtain⟨ht,hsa⟩:=eO hs
  obtain⟨e1,e2⟩:=nJ ho.1
  have hel:es.length=ar t:=ho.2.1
  have h60:=hC.len
  have h20:=(hC.line _ _ hk).2.2.2.1
  have hr1:=hrm.room
  have hr2:=hrm.depth
  have hr3:=hrm.low
  have hr4:=hrm.high
  have hin:=hC.inl
  have hchn:=hx.chain
  have htp:=rd lev
  have hO:=jI ln.fac p t es (by omega) hsh ho hs
  have hpl:((er (p+1) es).map nR).length=es.length:=by rw[List.length_map,mN]
  rw[Ex.toks,List.length_cons]at hn hle hr1 hr4
  rw[dh]
  have hrepG:∀g d s,bl C g→bI C ins g s.items.length=true→Grow (bG lev) s (aL C lev x ins k g d s):=fun g d s hg hr=>cq hC lev k g d s hx hg hr
  have hrepB:∀g d s,bl C g→bI C ins g s.items.length=true→Beg b s→Beg b (aL C lev x ins k g d s):=fun g d s hg hr hb=>vb hC lev k g d s hx hg hr hb
  repeat' ((conv=>whnf);first|apply Wx|apply W6|apply oi|(apply fi<;>intro h)|refine⟨p,t.tr,rfl,aa ht,?_⟩|refine cl hO ?_|refine⟨_,rfl,?_⟩|exact rfl)
  all_goals try exact⟨KP⟩
  conv=>whnf
  refine⟨{j:Nat // j≤es.length},fun r=>⟨[(0,cr),(1,ibP),(2,tI .i64 (k:Int)),(3,.r (.c (.t (.lst 3 (ln.fac.map CU.tr))))),(4,tI .i64 (p:Int)),(5,tI .i64 (b:Int)),(12,.r (.c (.ptr (12,0,0) 0))),(23,.r (.c (.own (23,0,0)))),(24,tI .i64 (((er (p+1) es).map nR).length:Int)),(25,tI .i64 (r.1:Int))],
   [(
    (0,0,0),some (rn C (cD C (aL C lev) x ins k (es.take r.1) d s) (d+r.1) (12,0,1) (12,0,2))),((12,0,1),some (.dar 7 (itR (clr pd (cD C (aL C lev) x ins k (es.take r.1) d s).items)) none)),((12,0,2),some (.arr false 1 (iY ins))),
    ((0,1,0),some (ibB q (0,1,1))),((0,1,1),some (.arr false 1 (lv.map ab))),((12,0,0),some (.box (t.tr.map .t))),((23,0,0),some (.arr true 1 ((er (p+1) es).map nR)))],[23,12,0]⟩,fun r=>es.length - r.1,⟨0,by omega⟩,?_,?_⟩
  ·skip
   repeat' ((conv=>whnf);first|apply Wx|apply W6|apply oi|(apply fi<;>intro h)|refine⟨_,rfl,?_⟩|exact rfl)
   all_goals try exact⟨KP⟩
   all_goals try exact⟨KW⟩
  intro⟨j,hj⟩
  dsimp only at hj ⊢
  have hgr:=jy (C:=C) (x:=x) (ins:=ins) (line:=k) (lev:=lev) hrepG (es.take j) d s
  have hg2:=hgr.le
  have hb2:=lc (C:=C) (x:=x) (ins:=ins) (line:=k) (rep:=aL C lev) hrepB (es.take j) d hbg
  have htk:=cy es j
  obtain⟨s1,hs1⟩:∃s1,cD C (aL C lev) x ins k (es.take j) d s=s1:=⟨_,rfl⟩
  rw[hs1]at hgr hg2 hb2 ⊢
  have hpd1:s1.start=true→s1.items.length∈pd:=fun h=>by rw[hb2.2.1 h];exact hbm
  by_cases hlj:j < es.length
  ·obtain⟨a,ha⟩:=af hlj
   obtain⟨o,ho1,ho2⟩:=qg hsa ha
   have hta:=fD ha
   have htk2:=cy es (j+1)
   have hal:=fV ha
   have hjt:j≤(ak (es.take j)).length:=by
    have:∀(l:List Ex),l.length≤(ak l).length:=by
     intro l
     induction l with
     | nil=>simp
     | cons b l ih=>have:=b.toks_pos;rw[ak,List.length_append,List.length_cons];omega
    have h2:=this (es.take j)
    rw[List.length_take]at h2
    omega
   have hm:=Nat.mul_le_mul_right (bG lev) (show(ak (es.take j)).length+a.toks.length≤(ak es).length+1 by omega)
   rw[Nat.add_mul]at hm
   have hI:=tC hC hR n a (by omega) x q ins pd lv k o b ln s1 (d+j) (iw ho.2.2 ha) hk ho2 hca ⟨hx,hq,⟨by omega,hr2,by omega,by omega⟩,hb2,hbm,hpl2⟩
   have hnext:=mA C (aL C lev) x ins k d s ha
   rw[hs1]at hnext
   have hjl:j < ((er (p+1) es).map nR).length:=by rw[hpl];exact hlj
   repeat' ((conv=>whnf);first|apply Wx|apply W6|apply oi|(apply fi<;>intro h)|refine⟨j,rfl,hjl,?_⟩|refine⟨(nR o),(aa ho1),?_⟩|refine⟨_,rfl,?_⟩|exact rfl)
   all_goals try exact⟨KP⟩
   all_goals try exact KX
   refine cg (hI) ?_
   repeat' ((conv=>whnf);first|apply Wx|apply W6|apply oi|(apply fi<;>intro h)|refine⟨_,rfl,?_⟩|exact rfl)
   all_goals try exact⟨KP⟩
   conv=>whnf
   refine⟨⟨j+1,by omega⟩,?_,KD⟩
   repeat' ((conv=>whnf);first|apply Wx|apply W6|apply oi|(apply fi<;>intro h)|refine⟨_,rfl,?_⟩|exact rfl)
   all_goals try exact⟨KP⟩
   all_goals try exact⟨by dsimp only;rw[hnext]⟩
   all_goals try exact⟨KW⟩
  ·have hje:j=es.length:=by omega
   subst hje
   rw[List.take_length]at hs1 hg2 htk
   have hroom:s1.items.length+bG lev≤68719476736:=by
    have:((ak es).length+1) * bG lev=(ak es).length * bG lev+bG lev:=by rw[Nat.add_mul];omega
    omega
   rw[hs1]
   have hch:x.chain.length≤100:=by omega
   have hch':q.chain.length≤100:=by rw[hq.chain];exact hch
   have hro:bc s1:=by unfold bc;omega
   obtain⟨k1,k2,k3⟩:=yi ho.1
   have htl:=hsh t (List.mem_of_getElem? ht)
   have hxf:0≤x.first∧x.first≤1000:=by
    have:=hx.first
    omega
   obtain⟨ee,_,_,_,_,hll⟩:=hx.endE hC
   rcases tz ho.1 with hk0|hk1|hk7|hk26
   ·have g1:=br C pd s1 (d+es.length) ins q lv k 0 t.faf 1 hro hch' hpd1 (by omega) (by omega)
    rw[hq.chain]at g1
    have hz:=k1 (.inl hk0)
    unfold gq
    rw[if_pos hk0]
    repeat' ((conv=>whnf);first|apply Wx|apply W6|refine cg g1 ?_|apply oi|(apply fi<;>intro h)|refine⟨_,rfl,?_⟩|exact rfl)
    all_goals try exact⟨KP⟩
    all_goals try exact KX
    all_goals try exact⟨KW⟩
    all_goals try exact KK
   ·have g1:=lA C hC pd s1 (d+es.length) ins q lv x hq k (ct x.locals t.fab) 1 false rfl hro hch hpd1 (by omega) hxf (by have:=iC x.locals t.fab;omega)
    have gI:=fB x.locals t.fab (by omega)
    rw[←hq.locals]at gI g1
    have hz:=k1 (.inr hk1)
    unfold gq xT
    rw[if_neg (by omega),if_pos hk1,←hq.locals]
    generalize ct q.locals t.fab=ix at *
    repeat' ((conv=>whnf);first|apply Wx|apply W6|refine cg g1 ?_|apply oi|(apply fi<;>intro h)|refine cl gI ?_|refine⟨_,rfl,?_⟩|exact rfl)
    all_goals try exact⟨KP⟩
    all_goals try exact KX
    all_goals try exact⟨KW⟩
    all_goals try exact KK
   ·obtain⟨f,hf,hfa⟩:=hca t (List.mem_of_getElem? ht) hk7
    obtain⟨hfl,y,hy,hy0,_⟩:=dZ hf
    have hfun:bl C f:=⟨y,hy,hy0⟩
    have hkk:=k2 hk7
    have gF:=dC C.p t.fab (by omega)
    rw[show dF C.p t.fab=(f:Int) from aU hf]at gF
    have g1:=pN C hC pd s1 (d+es.length) ins q lv f hro (by rw[hq.chain];exact hchn) (by omega) hfl
    unfold gq
    rw[if_neg (by omega),if_neg (by omega),if_pos hk7,hf]
    dsimp only
    cases hrb:bI C ins f s1.items.length with
    | true=>
     have g2:=hR x q ins pd lv k f b s1 (d+es.length) (aM hk) hfun hrb ⟨hx,hq,⟨by omega,hr2,by omega,by omega⟩,hb2,hbm,hpl2⟩
     rw[hrb]at g1
     rw[if_pos rfl]
     repeat' ((conv=>whnf);first|apply Wx|apply W6|refine cg g1 ?_|refine cg g2 ?_|apply oi|(apply fi<;>intro h)|refine cl gF ?_|refine⟨_,rfl,?_⟩|exact rfl)
     all_goals try exact⟨KP⟩
     all_goals try exact KX
     all_goals try exact⟨KW⟩
     all_goals try exact KK
    | false=>
     rw[hrb]at g1
     rw[if_neg (by simp)]
     have g2:=pC C hC pd s1 (d+es.length) ins f hfun
     have g3:=br C pd s1 (d+es.length) ins q lv k 12 (jN C.p f) (1 - t.faf) hro hch' hpd1 (by omega) (by omega)
     have hw1:IntKind.i64.wrap (1 - t.faf)=1 - t.faf:=by rw[IntWalk.i64_in _ (by omega)]
     rw[←hw1,hq.chain]at g3
     repeat' ((conv=>whnf);first|apply Wx|apply W6|refine cg g1 ?_|refine cg g2 ?_|refine cg g3 ?_|apply oi|(apply fi<;>intro h)|refine cl gF ?_|refine⟨_,rfl,?_⟩|exact rfl)
     all_goals try exact⟨KP⟩
     all_goals try exact KX
     all_goals try exact⟨KW⟩
     all_goals try exact KK
   ·have g1:=br C pd s1 (d+es.length) ins q lv k (5+t.faa - 2) 0 (-1) hro hch' hpd1 (by omega) (by omega)
    rw[hq.chain]at g1
    have hw5:IntKind.i64.wrap (IntKind.i64.wrap (5+t.faa) - 2)=5+t.faa - 2:=by simp(disch:=omega)only[IntWalk.i64_in]
    rw[←hw5]at g1
    have hz:=k3 hk26.1 hk26.2
    unfold gq
    rw[if_neg (by omega),if_neg (by omega),if_neg (by omega),←hw5]
    repeat' ((conv=>whnf);first|apply Wx|apply W6|refine cg g1 ?_|apply oi|(apply fi<;>intro h)|refine⟨_,rfl,?_⟩|exact rfl)
    all_goals try exact⟨KP⟩
    all_goals try exact KX
    all_goals try exact⟨KW⟩
    all_goals try exact KK
end Go.Proofs.YtoglejgmjeojoaaGreat
