import Derived.Test.YtjmplnfiabmalaaGreatGf
namespace Go.Proofs.YtjmplnfiabmalaaGreat
open Go.Sim
set_option maxRecDepth 100000
set_option maxHeartbeats 4000000
theorem CM {C:Cx}(hC:CxOk C){lev:Nat}(hE:Hz C lev):xh C lev:=by
 intro x S s d hx hroom hlev hd0 hd1
 refine aw hΓ ay Tryz.func207 rfl (by decide) rfl rfl ?_
 rw[iv]at hx
 rw[iv]
 dsimp only at hx ⊢
 obtain⟨e,he,hfe,hel,hen,hll⟩:=hx.endE hC
 have h60:=hC.len
 have hin:=hC.inl
 have hsl:∀lv:List Int,(scH (S++[(x,lv)])).length=S.length+1:=fun lv=>by simp
 have hrow:∀lv:List Int,(scH (S++[(x,lv)]))[S.length]?=some (jW x lv):=fun lv=>by simp
 have hlt:∀lv:List Int,S.length < (scH (S++[(x,lv)])).length:=fun lv=>by rw[hsl];omega
 have hw:∀lv:List Int,IntKind.i64.wrap (((scH (S++[(x,lv)])).length:Int) - 1)=(S.length:Int):=fun lv=>by rw[hsl,IntWalk.i64_in _ (by omega)];omega
 have gE:=cq C.p (x.f:Int) (by omega)
 rw[show bR C.p (x.f:Int)=(e:Int) by rw[cp];exact cj he]at gE
 have hpl:(C.p.map HP.tr).length=C.p.length:=by simp
 have hm1:(((C.p.map HP.tr).length:Nat):Int)=(C.p.length:Int):=by rw[hpl]
 have hm2:C.p.length≤9223372036854775807:=by omega
 have hm3:C.p.length * 8≤140737488355328:=by omega
 have h3:=Ab (n:=lev) (by omega)
 have hch:x.chain.length≤100:=by
  have:=hx.chain
  rw[List.length_append,List.length_map]at this
  simp only[List.length_cons,List.length_nil]at this
  omega
 have hxf:0≤x.first∧x.first≤1000:=by
  have:=hx.first
  rw[List.length_append,List.length_map]at this
  simp only[List.length_cons,List.length_nil]at this
  omega
 obtain⟨R,hR⟩:∃R,nt C (cH C lev) x (bz S++[x.f]) d (e+1 - (x.f+1)) (x.f+1) (dK C s)=R:=⟨_,rfl⟩
 have hfin:bF C (cH C lev) x (bz S++[x.f]) d s=(R.g,R.lv):=by
  unfold bF
  rw[hen,show e - x.f=e+1 - (x.f+1) by omega,hR]
 rw[hfin]
 rw[hen]at hroom
 have hI0:LInv C lev x (bz S++[x.f]) d e R (x.f+1) (dK C s):=⟨Nat.le_refl _,by omega,by simp[dK],by simp[dK],fun i h1 h2=>by omega,⟨by simp[dK],fun j hj=>by simp[dK]at hj⟩,by rw[show e+1 - (x.f+1)=e - x.f by omega];exact hroom,hR⟩
 repeat' ((conv=>whnf);first|apply Wx|apply W6|apply oi|(apply fi<;>intro h)|refine⟨S.length,hw [],hlt [],?_⟩|refine⟨_,hrow [],?_⟩|refine cl gE ?_|refine⟨C.p.length,hm1,hm1,hm2,hm3,?_⟩|refine⟨_,rfl,?_⟩|exact rfl)
 all_goals try exact⟨KP⟩
 conv=>whnf
 refine⟨{q:Nat×Ls×List HO // LInv C lev x (bz S++[x.f]) d e R q.1 q.2.1∧q.2.2.length=q.2.1.g.items.length∧(q.1≤e→cw q.2.2 q.2.2.length (q.1:Int) (aZ C.p q.2.1.pos (x.f+1) (q.1 - (x.f+1)))=q.2.1.g.items)∧(q.1=e+1→q.2.2=q.2.1.g.items)},
  fun q=>⟨[(0,fS),(2,tI .i64 (x.f:Int)),(3,vn x.chain),(4,tI .i64 (e:Int)),(5,.r (.c (.own (5,0,0)))),(6,.r (.c (.own (6,0,0)))),(7,tI .i64 (q.1.1:Int))],
   [((0,0,0),some (nd C ⟨q.1.2.2,q.1.2.1.g.most,q.1.2.1.g.start⟩ d (5,0,1) (5,0,2))),((5,0,1),some (.dar 7 (itR q.1.2.2) none)),((5,0,2),some (.dar 6 (scH (S++[(x,q.1.2.1.lv)])) none)),((5,0,0),some (.arr false 1 (q.1.2.1.heads.map aa))),((6,0,0),some (.arr false 2 ((aZ C.p q.1.2.1.pos (x.f+1) (q.1.1 - (x.f+1))).map lU)))],[6,5,0]⟩,
  fun q=>e+1 - q.1.1,⟨(x.f+1,dK C s,s.items),hI0,rfl,fun _=>by rw[Nat.sub_self];rfl,fun _=>rfl⟩,?_,?_⟩
 ·skip
  repeat' ((conv=>whnf);first|apply Wx|apply W6|apply oi|(apply fi<;>intro h)|refine⟨_,rfl,?_⟩|exact rfl)
  all_goals try exact⟨KP⟩
  all_goals try exact⟨KW⟩
  ·exact⟨by simp[dK,aa]⟩
  ·exact⟨by dsimp only;rw[Nat.sub_self];rfl⟩
 intro⟨⟨k,L,u⟩,hI,hul,hpat,hlast⟩
 dsimp only at hI hul hpat hlast ⊢
 by_cases hke:k≤e
 ·obtain⟨ln,hl⟩:=ag (l:=C.p) (k:=k) (by omega)
  have h0:=lO hC hx he hI.lo hke hl
  obtain⟨hk0,hk7,_,h20,hexp⟩:=hC.line _ _ hl
  obtain⟨hsh,hnm⟩:=uk hC hl
  have hkf:=hI.lo
  have hIr:=hI.room
  have hIh:=hI.heads
  have hIp:=hI.pos
  have hlvl:=hI.lv.1
  have hIroom:L.g.items.length+20 * cA lev+3≤68719476736:=by
   obtain⟨n,hn⟩:∃n,e+1 - k=n+1:=⟨e - k,by omega⟩
   rw[hn,Nat.add_mul]at hIr
   omega
  have hEl:=nB C.p L.pos (x.f+1) (k - (x.f+1))
  have hEin:∀z∈aZ C.p L.pos (x.f+1) (k - (x.f+1)),0≤z.2∧z.2 < (L.g.items.length:Int):=fun z hz=>by
   obtain⟨i,i1,i2,i3,rfl⟩:=kF hz
   exact hI.at_ i (by omega) (by omega) i3
  have gP:=oJ C ⟨u,L.g.most,L.g.start⟩ d (scH (S++[(x,L.lv)])) (aZ C.p L.pos (x.f+1) (k - (x.f+1))) k (by unfold cT;dsimp only;omega) (by omega) (by dsimp only;rw[hul];exact hEin)
  rw[hpat hke]at gP
  obtain⟨A,hA⟩:∃A,eC C (cH C lev) x (bz S++[x.f]) d k ln L=A:=⟨_,rfl⟩
  have hN:=LInv.next hC hx he hI hke hl
  rw[hA]at hN
  obtain⟨hP1,hP2⟩:=Aq hC hx he hkf hke hl A
  obtain⟨b1,b2,b3,b4,b5,b6⟩:=sm (C:=C) (x:=x) k ln A
  have hQ:LInv C lev x (bz S++[x.f]) d e R (k+1) (co C x k ln A)∧A.g.items.length=(co C x k ln A).g.items.length∧(k+1≤e→cw A.g.items A.g.items.length ((k+1:Nat):Int) (aZ C.p (co C x k ln A).pos (x.f+1) (k+1 - (x.f+1)))=(co C x k ln A).g.items)∧(k+1=e+1→A.g.items=(co C x k ln A).g.items):=⟨hN,b4.symm,fun h=>by rw[b2];exact hP1 h,fun h=>hP2 (by omega)⟩
  have hIl:k < (L.heads.map aa).length:=by rw[List.length_map,hIh];omega
  have hro:cT L.g:=by unfold cT;omega
  have hitl:=jo L.g.items
  have hkne:ln.faa≠7→k < e:=fun h=>by
   rcases Nat.lt_or_eq_of_le hke with h'|h'
   ·exact h'
   ·subst h'
    obtain⟨z,hz,hz7⟩:=bP he
    rw[hl]at hz
    injection hz with hz
    subst hz
    exact absurd hz7 h
  have hcalls:ln.faa≠7→wG C ln.fag:=fun h=>by
   obtain⟨l0,q1,q2⟩:=hx.fn
   obtain⟨e',q3,_,_,q4⟩:=hC.fn _ _ q1 q2
   rw[he]at q3
   injection q3 with q3
   subst q3
   exact(q4 k ln (by omega) (hkne h) hl).2.1
  obtain⟨g1,hg1⟩:∃g1,iD C (cH C lev) x (bz S++[x.f]) k (exL ln.fag) d ⟨L.g.items,L.g.most,true⟩=g1:=⟨_,rfl⟩
  have hX:bq ln.fag=true→ln.faa≠7→aS Tryz.prog 246 [fS,tI .i64 (k:Int),tI .i64 (0:Int)] (fJ (0,0,1) (0,0,2) C ⟨L.g.items,L.g.most,true⟩ d (scH (S++[(x,L.lv)]))) (tI .i64 ((0+(exL ln.fag).toks.length:Nat):Int)) (fJ (1,0,1) (1,0,2) C g1 (d+1) (scH (S++[(x,L.lv)]))):=fun hx1 hx7=>by
   obtain⟨eo,et⟩:=wX hx1
   have h20':(exL ln.fag).toks.length≤20:=by rw[←et];exact h20
   have hmu:=Nat.mul_le_mul_right (cA lev) h20'
   have:=hE (exL ln.fag) x S L.lv k 0 ln ⟨L.g.items,L.g.most,true⟩ d eo (by rw[iv];exact hx) hl ⟨[],by rw[List.drop_zero,List.append_nil];exact et⟩ (hcalls hx7) ⟨by dsimp only;omega,hlev,hd0,by omega⟩
   rw[iv]at this
   dsimp only at this
   rw[hg1]at this
   exact this
  have hG:bq ln.fag=true→g1.items.length≤L.g.items.length+20 * cA lev:=fun hx1=>by
   have:=(ni (x:=x) (ins:=bz S++[x.f]) (rep:=cH C lev) (line:=k) (lev:=lev) (fun g d s hg hr=>fR hC lev k g d s hx hg hr) hC hl hx1 d ⟨L.g.items,L.g.most,true⟩).le
   rw[hg1]at this
   exact this
  have hhr:(L.heads.map aa)[k]?=some (aa (atL L.heads k)):=by
   rw[List.getElem?_map]
   have:k < L.heads.length:=by omega
   rw[List.getElem?_eq_getElem this,atL,List.getElem?_eq_getElem this]
   rfl
  have hhs:∀v:Int,(L.heads.map aa).set k [.int .i64 v]=(L.heads.set k v).map aa:=fun v=>by simp[List.map_set,aa]
  unfold eC at hA
  rw[hg1]at hA
  dsimp only at hA
  have hcase:ln.faa=4∨ln.faa=7∨ln.faa=1∨ln.faa=2∨ln.faa=6∨(ln.faa=3∨ln.faa=5):=by omega
  rcases hcase with h4|h7|h1|h2|h6|h35
  ·
   rw[if_pos h4]at hA
   have a1:A.g.items=cE (aI C L.g d 10 0 k x.chain).items (atL L.pos (aW C.p k)) (aI C L.g d 10 0 k x.chain).items.length:=by rw[←hA]
   have a2:A.g.most=L.g.most:=by rw[←hA];rfl
   have a3:A.g.start=false:=by rw[←hA];rfl
   have a4:A.heads=L.heads:=by rw[←hA]
   have a5:A.pos=L.pos.set k L.g.items.length:=by rw[←hA]
   have a6:A.lv=L.lv:=by rw[←hA]
   obtain⟨o1,o2,o3,o4⟩:=hx.own4 hC he (by omega) hke hl h4
   obtain⟨y,m,hy,y3,hm,_⟩:=bX o1
   have hkk:=bv hl
   have hto:jG C.p k=bR C.p (aW C.p k:Int)+1:=by unfold jG;rw[if_pos (by omega)]
   have hge:=oz C.p (aW C.p k)
   have hEn:aZ C.p L.pos (x.f+1) (k - (x.f+1))++[(jG C.p k,(L.g.items.length:Int))]=aZ C.p (L.pos.set k L.g.items.length) (x.f+1) (k+1 - (x.f+1)):=tR hkf (by unfold jumps;omega) (by rw[hIp];omega) _
   have gEm:=bt C L.g d (scH (S++[(x,L.lv)])) 10 0 k x.chain hro hch
   have gP2:=oJ C (aI C L.g d 10 0 k x.chain) d (scH (S++[(x,L.lv)])) (aZ C.p (L.pos.set k L.g.items.length) (x.f+1) (k+1 - (x.f+1))) (-(k:Int)) (by unfold cT aI;simp only[List.length_append,List.length_cons,List.length_nil];omega) (by have:=nB C.p (L.pos.set k L.g.items.length) (x.f+1) (k+1 - (x.f+1));omega) (fun z hz=>by
    rw[←hEn,List.mem_append]at hz
    simp only[aI,List.length_append,List.length_cons,List.length_nil]
    rcases hz with hz|hz
    ·have:=hEin z hz;omega
    ·simp only[List.mem_cons,List.not_mem_nil,or_false]at hz
     subst hz
     dsimp only
     omega)
   rw[AQ hC hx he hkf hke hl h4,mv (by omega)]at gP2
   have hng:IntKind.i64.wrap (0 - (k:Int))= -(k:Int):=by rw[IntWalk.i64_in _ (by omega)];omega
   rw[←hng]at gP2
   repeat' ((conv=>whnf);first|apply Wx|apply W6|refine cg gP ?_|apply oi|(apply fi<;>intro h)|refine⟨k,ln.tr,rfl,ab hl,?_⟩|refine⟨_,rfl,?_⟩|exact rfl)
   all_goals try exact⟨KP⟩
   all_goals try exact KX
   all_goals try exact KK
   conv=>whnf
   refine⟨{i:Nat // x.f≤i∧i≤k},fun q=>⟨[(0,fS),(2,tI .i64 (x.f:Int)),(3,vn x.chain),(4,tI .i64 (e:Int)),(5,.r (.c (.own (5,0,0)))),(6,.r (.c (.own (6,0,0)))),(7,tI .i64 (k:Int)),(9,tI .i64 (q.1:Int))],
    [((0,0,0),some (nd C L.g d (5,0,1) (5,0,2))),((5,0,1),some (.dar 7 (itR L.g.items) none)),((5,0,2),some (.dar 6 (scH (S++[(x,L.lv)])) none)),((5,0,0),some (.arr false 1 (L.heads.map aa))),((6,0,0),some (.arr false 2 ((aZ C.p L.pos (x.f+1) (k - (x.f+1))++(if aW C.p k < q.1 then [(jG C.p k,(L.g.items.length:Int))]else [])).map lU)))],[6,5,0]⟩,
    fun q=>k - q.1,⟨x.f,by omega,by omega⟩,?_,?_⟩
   ·skip
    repeat' ((conv=>whnf);first|apply Wx|apply W6|apply oi|(apply fi<;>intro h)|refine⟨_,rfl,?_⟩|exact rfl)
    all_goals try exact⟨KP⟩
    all_goals exact⟨by rw[if_neg (by dsimp only;omega)];simp⟩
   intro⟨i,hi1,hi2⟩
   dsimp only at hi1 hi2 ⊢
   by_cases hik:i < k
   ·have gEl:=jw C.p (i:Int) (by omega)
    by_cases hio:i=aW C.p k
    ·subst hio
     rw[show bY C.p (aW C.p k:Int)=(k:Int) by rw[fN];exact cj o1]at gEl
     have gEn:=cq C.p (aW C.p k:Int) (by omega)
     rw[if_neg (by omega),List.append_nil]
     have hml:((aZ C.p L.pos (x.f+1) (k - (x.f+1))).map lU).length=(aZ C.p L.pos (x.f+1) (k - (x.f+1))).length:=by simp
     have hitl:=jo L.g.items
     repeat' ((conv=>whnf);first|apply Wx|apply W6|apply oi|(apply fi<;>intro h)|refine cl gEl ?_|refine cl gEn ?_|refine⟨_,rfl,?_⟩|exact rfl)
     all_goals try exact⟨KP⟩
     all_goals try exact KX
     all_goals try(exfalso;simp at h;done)
     all_goals try exact⟨⟨by rw[hml];simp <;> omega,by rw[hml];simp <;> omega⟩⟩
     conv=>whnf
     refine⟨⟨aW C.p k+1,by omega,by omega⟩,?_,KD⟩
     repeat' ((conv=>whnf);first|apply Wx|apply W6|apply oi|(apply fi<;>intro h)|refine⟨_,rfl,?_⟩|exact rfl)
     all_goals try exact⟨KP⟩
     all_goals try exact⟨KW⟩
     all_goals(refine⟨?_⟩;dsimp only;rw[if_pos (by omega),hto,hitl,IntWalk.i64_in _ (by omega)];simp)
    ·have hne:bY C.p (i:Int)≠(k:Int):=fun hh=>by
      rw[fN]at hh
      cases hz:elseAt C.p i with
      | none=>rw[hz]at hh;simp only[cZ]at hh;omega
      | some j=>
       rw[hz]at hh
       simp only[cZ]at hh
       have:j=k:=by omega
       subst this
       exact hio (mX hz o1)
     generalize bY C.p (i:Int)=el at *
     repeat' ((conv=>whnf);first|apply Wx|apply W6|apply oi|(apply fi<;>intro h)|refine cl gEl ?_|refine⟨_,rfl,?_⟩|exact rfl)
     all_goals try exact⟨KP⟩
     all_goals try exact KX
     ·exact absurd (eq_of_beq h) hne
     ·conv=>whnf
      refine⟨⟨i+1,by omega,by omega⟩,?_,KD⟩
      repeat' ((conv=>whnf);first|apply Wx|apply W6|apply oi|(apply fi<;>intro h)|refine⟨_,rfl,?_⟩|exact rfl)
      all_goals try exact⟨KP⟩
      all_goals try exact⟨KW⟩
      all_goals(refine⟨?_⟩;dsimp only;congr 2)
      all_goals(by_cases hh:aW C.p k < i)
      all_goals first|rw[if_pos hh,if_pos (by omega)]|rw[if_neg hh,if_neg (by omega)]
   ·have hie:i=k:=by omega
    subst hie
    rw[if_pos o3,hEn]
    repeat' ((conv=>whnf);first|apply Wx|apply W6|refine cg gEm ?_|refine cg gP2 ?_|apply oi|(apply fi<;>intro h)|refine⟨_,rfl,?_⟩|exact rfl)
    all_goals try exact⟨KP⟩
    all_goals try exact KX
    conv=>whnf
    refine⟨⟨(i+1,co C x i ln A,A.g.items),hQ⟩,?_,KD⟩
    repeat' ((conv=>whnf);first|apply Wx|apply W6|apply oi|(apply fi<;>intro h)|refine⟨_,rfl,?_⟩|exact rfl)
    all_goals try exact⟨KP⟩
    all_goals try exact⟨KW⟩
    all_goals(refine⟨?_⟩;dsimp only;simp only[b1,b2,b3,b5,b6,a1,a2,a3,a4,a5,a6];try rfl)
  ·
   rw[if_neg (by omega),if_pos h7]at hA
   obtain⟨o1,o2⟩:=hx.own7 hC he (by omega) hke hl h7
   have hee:aZ C.p L.pos (x.f+1) (k+1 - (x.f+1))=aZ C.p L.pos (x.f+1) (k - (x.f+1)):=kq hkf (by unfold jumps;rw[bv hl,h7];decide)
   rcases o2 with⟨o2,o3⟩|⟨o2,o3,o4,y,hy,o5⟩
   ·subst o2
    rw[if_pos o3]at hA
    have gN:=jr C L.g d (scH (S++[(x,L.lv)])) 0 k x.chain hro hch (by omega)
    have gL:=oO C hC (aI C L.g d 0 0 k x.chain) (d+1) S x L.lv k true (by unfold cT aI;simp only[List.length_append,List.length_cons,List.length_nil];omega) hch (by omega) (by omega) (by omega) L.heads L.pos
    rw[show bM C x k true (d+1) ⟨aI C L.g d 0 0 k x.chain,L.heads,L.pos,L.lv⟩=A from hA,Int.add_sub_cancel]at gL
    have a4:A.heads=L.heads:=by rw[←hA];unfold bM;(repeat' split) <;> rfl
    have a5:A.pos=L.pos:=by rw[←hA];unfold bM;(repeat' split) <;> rfl
    repeat' ((conv=>whnf);first|apply Wx|apply W6|refine cg gP ?_|refine cg gN ?_|refine cg gL ?_|apply oi|(apply fi<;>intro h)|refine⟨k,ln.tr,rfl,ab hl,?_⟩|refine⟨_,rfl,?_⟩|exact rfl)
    all_goals try exact⟨KP⟩
    all_goals try exact KX
    all_goals try exact KK
    all_goals try(exfalso;simp at h;done)
    conv=>whnf
    refine⟨⟨(k+1,co C x k ln A,A.g.items),hQ⟩,?_,KD⟩
    repeat' ((conv=>whnf);first|apply Wx|apply W6|apply oi|(apply fi<;>intro h)|refine⟨_,rfl,?_⟩|exact rfl)
    all_goals try exact⟨KP⟩
    all_goals try exact⟨KW⟩
    all_goals(refine⟨?_⟩;dsimp only;simp only[b1,b2,b3,b5,b6,a4,a5,hee];try rfl)
   ·rw[if_neg (by omega)]at hA
    have hky:=bv hy
    have gEm:=bt C L.g d (scH (S++[(x,L.lv)])) 10 (atL L.heads (aW C.p k)) k x.chain hro hch
    have a4:A.heads=L.heads:=by rw[←hA];split <;> rfl
    have a5:A.pos=L.pos:=by rw[←hA];split <;> rfl
    have a6:A.lv=L.lv:=by rw[←hA];split <;> rfl
    have a1:A.g=if fj C.p (aW C.p k)=5 then aI C L.g d 10 (atL L.heads (aW C.p k)) k x.chain else L.g:=by rw[←hA];split <;> rfl
    have hend:bR C.p (aW C.p k:Int)=(k:Int):=by rw[cp];exact cj o1
    have hhd:(L.heads.map aa)[aW C.p k]?=some (aa (atL L.heads (aW C.p k))):=by
     rw[List.getElem?_map]
     have:aW C.p k < L.heads.length:=by omega
     rw[List.getElem?_eq_getElem this,atL,List.getElem?_eq_getElem this]
     rfl
    have hol:aW C.p k < (L.heads.map aa).length:=by rw[List.length_map];omega
    repeat' ((conv=>whnf);first|apply Wx|apply W6|refine cg gP ?_|apply oi|(apply fi<;>intro h)|refine⟨k,ln.tr,rfl,ab hl,?_⟩|refine⟨_,rfl,?_⟩|exact rfl)
    all_goals try exact⟨KP⟩
    all_goals try exact KX
    all_goals try exact KK
    conv=>whnf
    refine⟨{i:Nat // x.f+1≤i∧i≤k},fun q=>⟨[(0,fS),(2,tI .i64 (x.f:Int)),(3,vn x.chain),(4,tI .i64 (e:Int)),(5,.r (.c (.own (5,0,0)))),(6,.r (.c (.own (6,0,0)))),(7,tI .i64 (k:Int)),(11,tI .i64 (q.1:Int))],
     [((0,0,0),some (nd C (if aW C.p k < q.1 then A.g else L.g) d (5,0,1) (5,0,2))),((5,0,1),some (.dar 7 (itR (if aW C.p k < q.1 then A.g else L.g).items) none)),((5,0,2),some (.dar 6 (scH (S++[(x,L.lv)])) none)),((5,0,0),some (.arr false 1 (L.heads.map aa))),((6,0,0),some (.arr false 2 ((aZ C.p L.pos (x.f+1) (k - (x.f+1))).map lU)))],[6,5,0]⟩,
     fun q=>k - q.1,⟨x.f+1,by omega,by omega⟩,?_,?_⟩
    ·skip
     repeat' ((conv=>whnf);first|apply Wx|apply W6|apply oi|(apply fi<;>intro h)|refine⟨_,rfl,?_⟩|exact rfl)
     all_goals try exact⟨KP⟩
     all_goals try(refine⟨?_⟩;dsimp only;rw[if_neg (by omega)];done)
     all_goals try exact⟨KW⟩
    intro⟨i,hi1,hi2⟩
    dsimp only at hi1 hi2 ⊢
    by_cases hik:i < k
    ·have gEn:=cq C.p (i:Int) (by omega)
     obtain⟨z,hz⟩:=ag (l:=C.p) (k:=i) (by omega)
     by_cases hio:i=aW C.p k
     ·subst hio
      rw[hend]at gEn
      rw[hy]at hz
      injection hz with hz
      subst hz
      rw[if_neg (by omega)]
      by_cases h5:y.faa=5
      ·rw[if_pos (by omega)]at a1
       repeat' ((conv=>whnf);first|apply Wx|apply W6|refine cg gEm ?_|apply oi|(apply fi<;>intro h)|refine cl gEn ?_|refine⟨(aW C.p k),y.tr,rfl,ab hy,?_⟩|refine⟨aW C.p k,rfl,hol,?_⟩|refine⟨_,hhd,?_⟩|refine⟨_,rfl,?_⟩|exact rfl)
       all_goals try exact⟨KP⟩
       all_goals try exact KX
       all_goals try exact KK
       all_goals try(exfalso;simp at h;done)
       conv=>whnf
       refine⟨⟨aW C.p k+1,by omega,by omega⟩,?_,KD⟩
       repeat' ((conv=>whnf);first|apply Wx|apply W6|apply oi|(apply fi<;>intro h)|refine⟨_,rfl,?_⟩|exact rfl)
       all_goals try exact⟨KP⟩
       all_goals try exact⟨KW⟩
       all_goals(refine⟨?_⟩;dsimp only;rw[if_pos (by omega),a1])
      ·rw[if_neg (by omega)]at a1
       repeat' ((conv=>whnf);first|apply Wx|apply W6|refine cg gEm ?_|apply oi|(apply fi<;>intro h)|refine cl gEn ?_|refine⟨(aW C.p k),y.tr,rfl,ab hy,?_⟩|refine⟨aW C.p k,rfl,hol,?_⟩|refine⟨_,hhd,?_⟩|refine⟨_,rfl,?_⟩|exact rfl)
       all_goals try exact⟨KP⟩
       all_goals try exact KX
       all_goals try exact KK
       all_goals try(exfalso;simp at h;done)
       conv=>whnf
       refine⟨⟨aW C.p k+1,by omega,by omega⟩,?_,KD⟩
       repeat' ((conv=>whnf);first|apply Wx|apply W6|apply oi|(apply fi<;>intro h)|refine⟨_,rfl,?_⟩|exact rfl)
       all_goals try exact⟨KP⟩
       all_goals try exact⟨KW⟩
       all_goals(refine⟨?_⟩;dsimp only;rw[if_pos (by omega),a1])
     ·have hne:bR C.p (i:Int)≠(k:Int):=fun hh=>by
       have h':=nu hh (by omega)
       rw[Int.toNat_natCast]at h'
       exact hio (vm h' o1)
      generalize bR C.p (i:Int)=en at *
      repeat' ((conv=>whnf);first|apply Wx|apply W6|apply oi|(apply fi<;>intro h)|refine cl gEn ?_|refine⟨i,z.tr,rfl,ab hz,?_⟩|refine⟨_,rfl,?_⟩|exact rfl)
      all_goals try exact⟨KP⟩
      all_goals try exact KX
      all_goals try(exfalso;exact hne (eq_of_beq (by assumption)))
      conv=>whnf
      refine⟨⟨i+1,by omega,by omega⟩,?_,KD⟩
      have hsm:(if aW C.p k < i+1 then A.g else L.g)=if aW C.p k < i then A.g else L.g:=by
       by_cases hh:aW C.p k < i
       ·rw[if_pos hh,if_pos (by omega)]
       ·rw[if_neg hh,if_neg (by omega)]
      dsimp only
      rw[hsm]
      repeat' ((conv=>whnf);first|apply Wx|apply W6|apply oi|(apply fi<;>intro h)|refine⟨_,rfl,?_⟩|exact rfl)
      all_goals try exact⟨KP⟩
      all_goals try exact⟨KW⟩
    ·have hie:i=k:=by omega
     subst hie
     rw[if_pos o4]
     repeat' ((conv=>whnf);first|apply Wx|apply W6|apply oi|(apply fi<;>intro h)|refine⟨_,rfl,?_⟩|exact rfl)
     all_goals try exact⟨KP⟩
     all_goals try exact KX
     conv=>whnf
     refine⟨⟨(i+1,co C x i ln A,A.g.items),hQ⟩,?_,KD⟩
     repeat' ((conv=>whnf);first|apply Wx|apply W6|apply oi|(apply fi<;>intro h)|refine⟨_,rfl,?_⟩|exact rfl)
     all_goals try exact⟨KP⟩
     all_goals try exact⟨KW⟩
     all_goals(refine⟨?_⟩;dsimp only;simp only[b1,b2,b3,b5,b6,a4,a5,a6,hee];try rfl)
  ·
   rw[if_neg (by omega),if_neg (by omega),if_pos h1]at hA
   have hx1:=hexp (.inl h1)
   have gX:=hX hx1 (by omega)
   have hG1:=hG hx1
   have hix:=oN x.locals ln.fac
   have gI:=eK x.locals ln.fac (by omega)
   have gS:=kK C hC g1 (d+1) (scH (S++[(x,L.lv)])) x (fH x.locals ln.fac) k x.chain (by unfold cT;omega) hch (by omega) hxf (by omega)
   rw[Int.add_sub_cancel]at gS
   have a1:A.g=gK C x g1 (d+1) (fH x.locals ln.fac) k x.chain:=by rw[←hA]
   have a4:A.heads=L.heads.set k L.g.items.length:=by rw[←hA]
   have a5:A.pos=L.pos:=by rw[←hA]
   have a6:A.lv=L.lv:=by rw[←hA]
   have hee:aZ C.p L.pos (x.f+1) (k+1 - (x.f+1))=aZ C.p L.pos (x.f+1) (k - (x.f+1)):=kq hkf (by unfold jumps;rw[bv hl,h1];decide)
   generalize fH x.locals ln.fac=ix at *
   repeat' ((conv=>whnf);first|apply Wx|apply W6|refine cg gP ?_|refine cg gX ?_|refine cg gS ?_|apply oi|(apply fi<;>intro h)|refine⟨k,ln.tr,rfl,ab hl,?_⟩|refine⟨k,rfl,hIl,?_⟩|refine⟨_,hhr,?_⟩|refine⟨S.length,hw L.lv,hlt L.lv,?_⟩|refine⟨_,hrow L.lv,?_⟩|refine cl gI ?_|refine⟨_,rfl,?_⟩|exact rfl)
   all_goals try exact⟨KP⟩
   all_goals try exact KX
   all_goals try exact KK
   conv=>whnf
   refine⟨⟨(k+1,co C x k ln A,A.g.items),hQ⟩,?_,KD⟩
   repeat' ((conv=>whnf);first|apply Wx|apply W6|apply oi|(apply fi<;>intro h)|refine⟨_,rfl,?_⟩|exact rfl)
   all_goals try exact⟨KP⟩
   all_goals try exact⟨KW⟩
   all_goals(refine⟨?_⟩;dsimp only;simp only[b1,b2,b3,b5,b6,a1,a4,a5,a6,hee,hitl,←hhs];try rfl)
  ·
   rw[if_neg (by omega),if_neg (by omega),if_neg (by omega),if_pos h2]at hA
   have hx1:=hexp (.inr (.inl h2))
   have gX:=hX hx1 (by omega)
   have hG1:=hG hx1
   have gS:=bt C g1 (d+1) (scH (S++[(x,L.lv)])) 17 0 k x.chain (by unfold cT;omega) hch
   have a1:A.g=aI C g1 (d+1) 17 0 k x.chain:=by rw[←hA]
   have a4:A.heads=L.heads.set k L.g.items.length:=by rw[←hA]
   have a5:A.pos=L.pos:=by rw[←hA]
   have a6:A.lv=L.lv:=by rw[←hA]
   have hee:aZ C.p L.pos (x.f+1) (k+1 - (x.f+1))=aZ C.p L.pos (x.f+1) (k - (x.f+1)):=kq hkf (by unfold jumps;rw[bv hl,h2];decide)
   repeat' ((conv=>whnf);first|apply Wx|apply W6|refine cg gP ?_|refine cg gX ?_|refine cg gS ?_|apply oi|(apply fi<;>intro h)|refine⟨k,ln.tr,rfl,ab hl,?_⟩|refine⟨k,rfl,hIl,?_⟩|refine⟨_,hhr,?_⟩|refine⟨_,rfl,?_⟩|exact rfl)
   all_goals try exact⟨KP⟩
   all_goals try exact KX
   all_goals try exact KK
   conv=>whnf
   refine⟨⟨(k+1,co C x k ln A,A.g.items),hQ⟩,?_,KD⟩
   repeat' ((conv=>whnf);first|apply Wx|apply W6|apply oi|(apply fi<;>intro h)|refine⟨_,rfl,?_⟩|exact rfl)
   all_goals try exact⟨KP⟩
   all_goals try exact⟨KW⟩
   all_goals(refine⟨?_⟩;dsimp only;simp only[b1,b2,b3,b5,b6,a1,a4,a5,a6,hee,hitl,←hhs];try rfl)
  ·
   rw[if_neg (by omega),if_neg (by omega),if_neg (by omega),if_neg (by omega),if_pos h6]at hA
   have hx1:=hexp (.inr (.inr (.inr (.inr h6))))
   have gX:=hX hx1 (by omega)
   have hG1:=hG hx1
   have gS:=oO C hC g1 (d+1) S x L.lv k false (by unfold cT;omega) hch (by omega) (by omega) (by omega) (L.heads.set k L.g.items.length) L.pos
   rw[hA,Int.add_sub_cancel]at gS
   have a4:A.heads=L.heads.set k L.g.items.length:=by rw[←hA];unfold bM;(repeat' split) <;> rfl
   have a5:A.pos=L.pos:=by rw[←hA];unfold bM;(repeat' split) <;> rfl
   have hee:aZ C.p L.pos (x.f+1) (k+1 - (x.f+1))=aZ C.p L.pos (x.f+1) (k - (x.f+1)):=kq hkf (by unfold jumps;rw[bv hl,h6];decide)
   repeat' ((conv=>whnf);first|apply Wx|apply W6|refine cg gP ?_|refine cg gX ?_|refine cg gS ?_|apply oi|(apply fi<;>intro h)|refine⟨k,ln.tr,rfl,ab hl,?_⟩|refine⟨k,rfl,hIl,?_⟩|refine⟨_,hhr,?_⟩|refine⟨_,rfl,?_⟩|exact rfl)
   all_goals try exact⟨KP⟩
   all_goals try exact KX
   all_goals try exact KK
   conv=>whnf
   refine⟨⟨(k+1,co C x k ln A,A.g.items),hQ⟩,?_,KD⟩
   repeat' ((conv=>whnf);first|apply Wx|apply W6|apply oi|(apply fi<;>intro h)|refine⟨_,rfl,?_⟩|exact rfl)
   all_goals try exact⟨KP⟩
   all_goals try exact⟨KW⟩
   all_goals(refine⟨?_⟩;dsimp only;simp only[b1,b2,b3,b5,b6,a4,a5,hee,hitl,←hhs];try rfl)
  ·
   rw[if_neg (by omega),if_neg (by omega),if_neg (by omega),if_neg (by omega),if_neg (by omega)]at hA
   have hx1:=hexp (by omega)
   have gX:=hX hx1 (by omega)
   have hG1:=hG hx1
   have gS:=bt C g1 (d+1) (scH (S++[(x,L.lv)])) 11 0 k x.chain (by unfold cT;omega) hch
   have a1:A.g=aI C g1 (d+1) 11 0 k x.chain:=by rw[←hA]
   have a4:A.heads=L.heads.set k L.g.items.length:=by rw[←hA]
   have a5:A.pos=L.pos.set k g1.items.length:=by rw[←hA]
   have a6:A.lv=L.lv:=by rw[←hA]
   have hkk:=bv hl
   have hee:=tR (pos:=L.pos) (p:=C.p) (f:=x.f) (k:=k) hkf (by unfold jumps;omega) (by rw[hIp];omega) (g1.items.length:Int)
   have gEn:=cq C.p (k:Int) (by omega)
   have gEl:=jw C.p (k:Int) (by omega)
   have hge:=oz C.p k
   have hgl:-1≤bY C.p (k:Int)∧bY C.p (k:Int)≤C.p.length:=by
    rw[fN]
    cases hz:elseAt C.p k with
    | none=>simp only[cZ];omega
    | some j=>
     obtain⟨_,_,_,_,_,_,_,w,hw,_⟩:=bX hz
     have:=bg hw
     simp only[cZ];omega
   have hto:jG C.p k=if ln.faa=3∧0≤bY C.p (k:Int)then - bY C.p (k:Int)else bR C.p (k:Int)+1:=by unfold jG;rw[if_neg (by omega),hkk]
   have hml:((aZ C.p L.pos (x.f+1) (k - (x.f+1))).map lU).length=(aZ C.p L.pos (x.f+1) (k - (x.f+1))).length:=by simp
   have hitg:=jo g1.items
   generalize jG C.p k=to at *
   generalize bR C.p (k:Int)=en at *
   generalize bY C.p (k:Int)=el at *
   have hw1:IntKind.i64.wrap (en+1)=en+1:=by rw[IntWalk.i64_in _ (by omega)]
   have hw2:IntKind.i64.wrap (0 - el)= - el:=by rw[IntWalk.i64_in _ (by omega)];omega
   repeat' ((conv=>whnf);first|apply Wx|apply W6|refine cg gP ?_|refine cg gX ?_|refine cg gS ?_|apply oi|(apply fi<;>intro h)|refine⟨k,ln.tr,rfl,ab hl,?_⟩|refine⟨k,rfl,hIl,?_⟩|refine⟨_,hhr,?_⟩|refine cl gEn ?_|refine cl gEl ?_|refine⟨_,rfl,?_⟩|exact rfl)
   all_goals try exact⟨KP⟩
   all_goals try exact KX
   all_goals try exact KK
   all_goals try exact⟨⟨by rw[hml];simp <;> omega,by rw[hml];simp <;> omega⟩⟩
   all_goals(conv=>whnf)
   all_goals(refine⟨⟨(k+1,co C x k ln A,A.g.items),hQ⟩,?_,KD⟩)
   repeat' ((conv=>whnf);first|apply Wx|apply W6|apply oi|(apply fi<;>intro h)|refine⟨_,rfl,?_⟩|exact rfl)
   all_goals try exact⟨KP⟩
   all_goals try exact⟨KW⟩
   all_goals(refine⟨?_⟩;dsimp only;simp only[b1,b2,b3,b5,b6,a1,a4,a5,a6,←hee,hitl,hitg,←hhs,hw1,hw2];try rfl)
   all_goals first
    |(rw[hto,if_pos ⟨eq_of_beq (by assumption),of_decide_eq_true (by assumption)⟩];simp)
    |(rw[hto,if_neg (fun hh=>absurd hh.2 (of_decide_eq_false (by assumption)))];simp)
    |(rw[hto,if_neg (fun hh=>by
                     have h9:(ln.faa==3)=false:=by assumption
                     rw[hh.1]at h9;cases h9)];simp)
 ·have hk1:k=e+1:=by have:=hI.hi;omega
  subst hk1
  have hf:=hI.fin
  rw[Nat.sub_self,nt]at hf
  subst hf
  rw[hlast rfl]
  repeat' ((conv=>whnf);first|apply Wx|apply W6|apply oi|(apply fi<;>intro h)|refine⟨_,rfl,?_⟩|exact rfl)
  all_goals try exact⟨KP⟩
  all_goals try exact KX
structure HI where
 b:List UInt8
 i:Nat
 h:Int
def HI.ok (c:HI):Prop:=c.i≤c.b.length∧c.b.length≤1048576
abbrev er (c:HI):List (Sim.Id×AO):=[((0,0,0),.box [.t (.lst 1 (c.b.map aL)),.t (.int .i64 c.i),.t (.int .i64 c.h)])]
abbrev fF:AV:= .r (.c (.ptr (0,0,0) 0))
theorem Hk (z:Int):∃x:Nat,x < 256∧IntKind.i64.wrap ((BitVec.ofInt IntKind.i64.bits z &&& BitVec.ofInt IntKind.i64.bits 255).toNat:Int)=(x:Int):=by
 have e:(BitVec.ofInt 64 255).toNat=2 ^ 8 - 1:=by decide
 have h:(BitVec.ofInt IntKind.i64.bits z &&& BitVec.ofInt IntKind.i64.bits 255).toNat < 256:=by
  show(BitVec.ofInt 64 z &&& BitVec.ofInt 64 255).toNat < 256
  rw[BitVec.toNat_and,e,Nat.and_two_pow_sub_one_eq_mod]
  omega
 generalize(BitVec.ofInt IntKind.i64.bits z &&& BitVec.ofInt IntKind.i64.bits 255).toNat=n at *
 exact⟨n,h,IntWalk.i64_in _ (by omega)⟩
def go (h:Int):Int:=IntKind.i64.wrap (IntKind.i64.wrap (h * 6364136223846793005)+1442695040888963407)
theorem fh (c:HI)(hc:c.ok):∃(x:Nat) (c':HI),x < 256∧c'.b=c.b∧c'.ok∧aS Tryz.prog 203 [fF] (er c) (tI .i64 x) (er c'):=by
 obtain⟨hi,hl⟩:=hc
 have hbl:(c.b.map aL).length=c.b.length:=by simp
 obtain⟨x0,hx0,he0⟩:=Hk (IntKind.i64.wrap ((BitVec.ofInt IntKind.i64.bits ((go c.h).fdiv (2 ^ min (Int.toNat 33) IntKind.i64.bits)) ^^^ BitVec.ofInt IntKind.i64.bits ((go c.h).fdiv (2 ^ min (Int.toNat 45) IntKind.i64.bits))).toNat:Int))
 unfold go at he0
 by_cases hlt:c.i < c.b.length
 ·obtain⟨u,hu⟩:=ag hlt
  obtain⟨x,hx,he⟩:=Hk (IntKind.i64.wrap ((x0:Int)+IntKind.i64.wrap (u.toNat:Int)))
  rw[←he0]at he
  refine⟨x,⟨c.b,c.i+1,go c.h⟩,hx,rfl,⟨by dsimp only;omega,hl⟩,?_⟩
  refine aw hΓ ay Tryz.func203 rfl (by decide) rfl rfl ?_
  repeat' ((conv=>whnf);first|apply Wx|apply W6|apply oi|(apply fi<;>intro h)|refine⟨c.i,(aL u),rfl,ab hu,?_⟩|refine⟨_,rfl,?_⟩|exact rfl)
  all_goals try exact⟨KP⟩
  all_goals try exact KX
  all_goals try exact⟨congrArg (Tr.int _) he⟩
  all_goals try exact⟨K5⟩
  all_goals exact⟨rfl⟩
 ·refine⟨x0,⟨c.b,c.i,go c.h⟩,hx0,rfl,⟨hi,hl⟩,?_⟩
  refine aw hΓ ay Tryz.func203 rfl (by decide) rfl rfl ?_
  repeat' ((conv=>whnf);first|apply Wx|apply W6|apply oi|(apply fi<;>intro h)|refine⟨_,rfl,?_⟩|exact rfl)
  all_goals try exact⟨KP⟩
  all_goals try exact KX
  all_goals try exact⟨congrArg (Tr.int _) he0⟩
  all_goals exact⟨rfl⟩
theorem na {x:Nat}{n:Int}(h:0 < n):∃y:Nat,(y:Int) < n∧(x:Int).tmod n=(y:Int):=by
 have h1:=Int.tmod_nonneg n (Int.natCast_nonneg x)
 have h2:=Int.tmod_lt_of_pos (x:Int) h
 obtain⟨y,hy⟩:=Int.eq_ofNat_of_zero_le h1
 exact⟨y,by omega,hy⟩
theorem bo (c:HI)(n:Int)(hc:c.ok):∃(x:Nat) (c':HI),(0 < n→(x:Int) < n)∧(n≤0→x=0)∧c'.b=c.b∧c'.ok∧aS Tryz.prog 146 [fF,tI .i64 n] (er c) (tI .i64 x) (er c'):=by
 by_cases h0:n≤0
 ·refine⟨0,c,by omega,fun _=>rfl,rfl,hc,?_⟩
  refine aw hΓ ay Tryz.func146 rfl (by decide) rfl rfl ?_
  repeat' ((conv=>whnf);first|apply Wx|apply W6|apply oi|(apply fi<;>intro h)|refine⟨_,rfl,?_⟩|exact rfl)
  all_goals try exact⟨KP⟩
  all_goals try exact KX
 ·obtain⟨x1,c1,k1,b1,o1,g1⟩:=fh c hc
  by_cases h2:n≤256
  ·obtain⟨y,hy,hm⟩:=na (x:=x1) (n:=n) (by omega)
   refine⟨y,c1,fun _=>hy,by omega,b1,o1,?_⟩
   refine aw hΓ ay Tryz.func146 rfl (by decide) rfl rfl ?_
   repeat' ((conv=>whnf);first|apply Wx|apply W6|refine cg g1 ?_|apply oi|(apply fi<;>intro h)|refine⟨_,rfl,?_⟩|exact rfl)
   all_goals try exact⟨KP⟩
   all_goals try exact KX
   all_goals try exact⟨by omega⟩
   all_goals exact⟨congrArg (Tr.int _) hm⟩
  ·obtain⟨x2,c2,k2,b2,o2,g2⟩:=fh c1 o1
   obtain⟨x3,c3,k3,b3,o3,g3⟩:=fh c2 o2
   obtain⟨x4,c4,k4,b4,o4,g4⟩:=fh c3 o3
   obtain⟨y,hy,hm⟩:=na (x:=x1 * 16777216+x2 * 65536+x3 * 256+x4) (n:=n) (by omega)
   refine⟨y,c4,fun _=>hy,by omega,((b4.trans b3).trans b2).trans b1,o4,?_⟩
   refine aw hΓ ay Tryz.func146 rfl (by decide) rfl rfl ?_
   repeat' ((conv=>whnf);first|apply Wx|apply W6|apply oi|(apply fi<;>intro h)|refine⟨_,rfl,?_⟩|exact rfl)
   all_goals try exact⟨KP⟩
   all_goals try exact KX
   refine cg (g1) ?_
   repeat' ((conv=>whnf);first|apply Wx|apply W6|apply oi|(apply fi<;>intro h)|refine⟨_,rfl,?_⟩|exact rfl)
   all_goals try exact⟨KP⟩
   refine cg (g2) ?_
   repeat' ((conv=>whnf);first|apply Wx|apply W6|apply oi|(apply fi<;>intro h)|refine⟨_,rfl,?_⟩|exact rfl)
   all_goals try exact⟨KP⟩
   refine cg (g3) ?_
   repeat' ((conv=>whnf);first|apply Wx|apply W6|apply oi|(apply fi<;>intro h)|refine⟨_,rfl,?_⟩|exact rfl)
   all_goals try exact⟨KP⟩
   refine cg (g4) ?_
   repeat' ((conv=>whnf);first|apply Wx|apply W6|apply oi|(apply fi<;>intro h)|refine⟨_,rfl,?_⟩|exact rfl)
   all_goals try exact⟨KP⟩
   all_goals try exact⟨by omega⟩
   all_goals(
    have hw:IntKind.i64.wrap (IntKind.i64.wrap (IntKind.i64.wrap (IntKind.i64.wrap ((x1:Int) * 16777216)+IntKind.i64.wrap ((x2:Int) * 65536))+IntKind.i64.wrap ((x3:Int) * 256))+(x4:Int))=((x1 * 16777216+x2 * 65536+x3 * 256+x4:Nat):Int):=by
     rw[IntWalk.i64_in ((x1:Int) * 16777216) (by omega),IntWalk.i64_in ((x2:Int) * 65536) (by omega),IntWalk.i64_in ((x3:Int) * 256) (by omega),IntWalk.i64_in ((x1:Int) * 16777216+(x2:Int) * 65536) (by omega),IntWalk.i64_in ((x1:Int) * 16777216+(x2:Int) * 65536+(x3:Int) * 256) (by omega),IntWalk.i64_in _ (by omega)]
     omega
    exact⟨by rw[hw,hm]⟩)
theorem cR (c:HI)(n:Int)(hc:c.ok):∃(x:Bool) (c':HI),c'.b=c.b∧c'.ok∧aS Tryz.prog 148 [fF,tI .i64 n] (er c) (tB x) (er c'):=by
 obtain⟨x,c',_,_,b1,o1,g1⟩:=bo c n hc
 refine⟨(x:Int)==0,c',b1,o1,?_⟩
 refine aw hΓ ay Tryz.func148 rfl (by decide) rfl rfl ?_
 repeat' ((conv=>whnf);first|apply Wx|apply W6|refine cg g1 ?_|apply oi|(apply fi<;>intro h)|refine⟨_,rfl,?_⟩|exact rfl)
 all_goals try exact⟨KP⟩
theorem iS (c:HI)(ns:List Int)(hc:c.ok)(hp:0 < ns.length)(hl:ns.length≤1048576):∃(v:Int) (c':HI),v∈ns∧c'.b=c.b∧c'.ok∧aS Tryz.prog 147 [fF,.r (.c (.own (0,0,1)))] (er c++[((0,0,1),.arr false 1 (ns.map aa))]) (tI .i64 v) (er c'++[((0,0,1),.arr false 1 (ns.map aa))]):=by
 have hlen:(ns.map aa).length=ns.length:=by simp
 obtain⟨x,c',h1,_,b1,o1,g1⟩:=bo c ((ns.map aa).length:Int) hc
 rw[hlen]at h1
 obtain⟨v,hv⟩:=ag (l:=ns) (k:=x) (by omega)
 have hxl:x < (ns.map aa).length:=by rw[hlen];omega
 refine⟨v,c',List.mem_of_getElem? hv,b1,o1,?_⟩
 refine aw hΓ ay Tryz.func147 rfl (by decide) rfl rfl ?_
 repeat' ((conv=>whnf);first|apply Wx|apply W6|refine cg g1 ?_|apply oi|(apply fi<;>intro h)|refine⟨x,rfl,hxl,?_⟩|refine⟨(aa v),ab hv,?_⟩|refine⟨_,rfl,?_⟩|exact rfl)
 all_goals try exact⟨KP⟩
def aV (b:HH):Bool:=ah b.fay 0 63 && ah b.far 0 3
theorem iQ (b:HH):Sim.Spec Tryz.prog 73 [.agg b.tr] (rB (aV b)):=by
 refine bh hΓ ay Tryz.func73 rfl (by decide) rfl ?_
 have h1:=aH b.fay 0 63
 have h2:=aH b.far 0 3
 unfold aV
 generalize ah b.fay 0 63=w1 at *
 generalize ah b.far 0 3=w2 at *
 repeat' ((conv=>whnf);first|apply Wx|apply W6|apply oi|(apply fi<;>intro h)|refine cl h1 ?_|refine cl h2 ?_|refine⟨_,rfl,?_⟩|exact rfl)
 all_goals try exact⟨KP⟩
 all_goals(refine⟨congrArg Tr.bool ?_⟩;simp_all)
theorem rx (c:HI)(hc:c.ok):∃(b:HH) (c':HI),aV b=true∧c'.b=c.b∧c'.ok∧aS Tryz.prog 71 [fF] (er c) (.r (.agg (b.tr.map .t))) (er c'):=by
 obtain⟨f,c1,k1,_,b1,o1,g1⟩:=bo c 64 hc
 obtain⟨v,c2,hv,b2,o2,g2⟩:=iS c1 [0,1,2,3] o1 (by decide) (by decide)
 obtain⟨x,c3,b3,o3,g3⟩:=cR c2 2 o2
 obtain⟨y,c4,b4,o4,g4⟩:=cR c3 2 o3
 refine⟨⟨f,v,x,y⟩,c4,?_,((b4.trans b3).trans b2).trans b1,o4,?_⟩
 ·have:=k1 (by omega)
  simp only[List.mem_cons,List.not_mem_nil,or_false]at hv
  unfold aV
  rw[within_iff.2 ⟨by dsimp only;omega,by dsimp only;omega⟩,within_iff.2 ⟨by dsimp only;omega,by dsimp only;omega⟩]
  rfl
 ·refine aw hΓ ay Tryz.func71 rfl (by decide) rfl rfl ?_
  repeat' ((conv=>whnf);first|apply Wx|apply W6|apply oi|(apply fi<;>intro h)|refine⟨_,rfl,?_⟩|exact rfl)
  all_goals try exact⟨KP⟩
  refine cg (g1) ?_
  repeat' ((conv=>whnf);first|apply Wx|apply W6|apply oi|(apply fi<;>intro h)|refine⟨_,rfl,?_⟩|exact rfl)
  all_goals try exact⟨KP⟩
  refine cg (g2) ?_
  repeat' ((conv=>whnf);first|apply Wx|apply W6|apply oi|(apply fi<;>intro h)|refine⟨_,rfl,?_⟩|exact rfl)
  all_goals try exact⟨KP⟩
  refine cg (g3) ?_
  repeat' ((conv=>whnf);first|apply Wx|apply W6|apply oi|(apply fi<;>intro h)|refine⟨_,rfl,?_⟩|exact rfl)
  all_goals try exact⟨KP⟩
  refine cg (g4) ?_
  repeat' ((conv=>whnf);first|apply Wx|apply W6|apply oi|(apply fi<;>intro h)|refine⟨_,rfl,?_⟩|exact rfl)
  all_goals try exact⟨KP⟩
theorem CD {C:Cx}(hC:CxOk C):∀lev,EY C lev∧xh C lev:=by
 have hL:∀lev,EY C lev→xh C lev:=fun lev hR=>CM hC fun e x S lv k p ln s d h1 h2 h3 h4 h5 h6=>xK hC hR e.toks.length e (Nat.le_refl _) x S lv k p ln s d h1 h2 h3 h4 h5 h6
 intro lev
 induction lev with
 | zero=>
  have hR:EY C 0:=by
   intro x S lv k g s d hx hk hg hrb hr
   obtain⟨r1,_⟩:=iM hrb
   have:=hr.depth
   rw[show(bz (S++[(x,lv)])).length=S.length+1 by simp]at r1
   omega
  exact⟨hR,hL 0 hR⟩
 | succ n ih=>
  have hR:=Ge hC ih.2
  exact⟨hR,hL _ hR⟩
def wM (frames f:Int):Bool:=IntKind.i64.wrap (BitVec.ofInt IntKind.i64.bits (frames.fdiv (2 ^ min f.toNat IntKind.i64.bits)) &&& BitVec.ofInt IntKind.i64.bits 1).toNat==1
theorem iX (C:Cx)(hC:CxOk C)(f g:Nat)(hf:(aF C.p)[f]?=some g)(e3:C.framed=wM C.b.fay f)(e5:C.args=argsN C.p g):
  Sim.Spec Tryz.prog 150 [tvP C.p,tvI (f:Int),.agg C.b.tr,tvI C.words] (.tup [.c (.arr 7 ((eb C g).items.map HO.tr)),.c (.t (.int .i64 (eb C g).most))]):=by
 refine bh hΓ ay Tryz.func150 rfl (by decide) rfl ?_
 obtain⟨hgl,y,hy,hy0⟩:=mi (List.mem_of_getElem? hf)
 have h60:=hC.len
 have hw:=hC.words
 have hin:=hC.inl
 have gF:=bZ C.p (by omega)
 have gL:=gA C.p (g:Int) (by omega) (fun z hz=>bd hC.small hz)
 have hA:argsN C.p g=y.faj.length:=by rw[argsN,hy]
 have h4:=(hC.line g y hy).2.2.1
 have hfl:f < (aF C.p).length:=bg hf
 have hfr:f < ((aF C.p).map fun n:Nat=>aa n).length:=by rw[List.length_map];exact hfl
 have hfg:((aF C.p).map fun n:Nat=>aa n)[f]?=some (aa (g:Int)):=by rw[List.getElem?_map,hf];rfl
 have hloc:=di hC ⟨y,hy,hy0⟩
 have hyl:(y.faj.map ak).length=y.faj.length:=by simp
 have hll:((localsOf C.p (g:Int)).map ak).length=(localsOf C.p (g:Int)).length:=by simp
 have hS:ScOk C (bU C g) [g]:=⟨⟨y,hy,hy0⟩,rfl,⟨Int.le_refl _,by simp[bU]⟩,rfl,by simp[bU],fun _=>e5,rfl⟩
 obtain⟨e,he1,he2,he3,he4,_⟩:=hS.endE hC
 obtain⟨O,hO⟩:∃O,bU C g=O:=⟨_,rfl⟩
 have hOr:jW O []=[.d (.int .i64 (g:Int)),.t (.lst 1 []),.t (.lst 1 ((localsOf C.p (g:Int)).map ak)),.d (.int .i64 0),.d (.bool true),.d (.lst 0 [])]:=by rw[←hO,bU];rfl
 have hOl:(scH [(O,[])])[0]?=some [.d (.int .i64 (g:Int)),.t (.lst 1 []),.t (.lst 1 ((localsOf C.p (g:Int)).map ak)),.d (.int .i64 0),.d (.bool true),.d (.lst 0 [])]:=by rw[←hOr];rfl
 have g1:=fun code=>bt C ⟨[],(localsOf C.p (g:Int)).length - C.args,false⟩ 0 (scH [(O,[])]) code C.words g [] (by unfold cT;simp) (by simp)
 have hlev:((C.b.far.toNat:Nat):Int)=C.b.far:=Int.toNat_of_nonneg hin.1
 have h3:=Ab (n:=C.b.far.toNat) (by omega)
 have gLs:=(CD hC C.b.far.toNat).2 O [] (gu C g) C.words (by rw[←hO];exact hS) (by
  rw[←hO,he4]
  have:=Nat.mul_le_mul (show e - (bU C g).f≤60 by omega) (show 20 * cA C.b.far.toNat+3≤20 * 8679837+3 by omega)
  simp only[gu,aI,List.length_append,List.length_nil,List.length_cons]
  omega) (by simpa using hlev) hw.1 (by omega)
 have hcg:bF C (cH C C.b.far.toNat) O (bz ([]++[(O,[])])) C.words (gu C g)=bF C (cH C C.b.far.toNat) (bU C g) [g] C.words (gu C g):=by rw[←hO];rfl
 rw[hcg,List.nil_append,List.nil_append]at gLs
 repeat' ((conv=>whnf);first|(with_reducible apply W1;fail_if_success (with_reducible show Wo _ _ _ _ (Code.region 4 _ _) _ _))|(with_reducible first|apply W2|apply W3|apply W4|apply W5|apply W6|apply W7|apply W8|apply W9)|apply ae|apply oi|(apply fi<;>intro h)|refine cl gF ?_|refine⟨f,rfl,hfr,?_⟩|refine⟨_,hfg,?_⟩|refine⟨g,y.tr,rfl,ab hy,?_⟩|refine cl gL ?_|refine⟨_,rfl,?_⟩|exact rfl)
 all_goals try exact⟨KP⟩
 all_goals try exact⟨by omega⟩
 all_goals try exact⟨jT _⟩
 conv=>whnf
 refine CI (40,0,0) (rows':=[jW O []]) rfl ?_ ?_
 ·rw[hOr]
  refine⟨⟨rfl,fun q c d hc hd=>?_⟩,trivial⟩
  match q with
  | 0=>simp at hc hd;subst hc;subst hd;exact .inl rfl
  | 1=>simp at hc hd;subst hc;subst hd;exact .inr (.inr ⟨0,1,rfl,rfl⟩)
  | 2=>simp at hc hd;subst hc;subst hd;exact .inr (.inl rfl)
  | 3=>simp at hc hd;subst hc;subst hd;exact .inl rfl
  | 4=>simp at hc hd;subst hc;subst hd;exact .inl rfl
  | 5=>simp at hc hd;subst hc;subst hd;exact .inl rfl
  | q+6=>simp at hc
 refine zb ⟨[(0,vP C.p),(3,tI .i64 C.words),(10,tI .i64 (g:Int)),(11,.r (.c (.ptr (33,0,0) 0)))],[((33,0,0),some (nd C ⟨[],0,false⟩ 0 (33,0,1) (33,0,2))),((33,0,1),some (.dar 7 (itR []) none)),((33,0,2),some (.dar 6 (scH [(O,[])]) none))],[40,38,33,13,6]⟩ ?_ ?_
 ·skip
  repeat' ((conv=>whnf);first|apply Wx|apply W6|apply oi|(apply fi<;>intro h)|refine⟨_,rfl,?_⟩|exact rfl)
  all_goals try exact⟨KP⟩
  all_goals try exact⟨by rw[e3];rfl⟩
  all_goals try exact⟨by rw[e5,hA,hyl]⟩
 have hwm:IntKind.i64.wrap ((((localsOf C.p (g:Int)).map ak).length:Int) - C.args)=((localsOf C.p (g:Int)).length:Int) - C.args:=by rw[hll,IntWalk.i64_in _ (by omega)]
 cases hfm:C.framed with
 | true=>
  have hh:gu C g=aI C ⟨[],(localsOf C.p (g:Int)).length - C.args,false⟩ 0 13 C.words g []:=by rw[gu,if_pos hfm]
  rw[hh]at gLs
  have g2:=g1 13
  have hcr:eb C g=(bF C (cH C C.b.far.toNat) (bU C g) [g] C.words (aI C ⟨[],(localsOf C.p (g:Int)).length - C.args,false⟩ 0 13 C.words g [])).1:=by rw[eb,hh]
  rw[hcr]
  repeat' ((conv=>whnf);first|apply Wx|apply W6|refine cg g2 ?_|refine cg gLs ?_|apply oi|(apply fi<;>intro h)|refine⟨0,rfl,(by simp),?_⟩|refine⟨_,hOl,?_⟩|refine⟨_,rfl,?_⟩|exact rfl)
  all_goals try exact⟨KP⟩
  all_goals try(exfalso;rw[hfm]at h;cases h;done)
  all_goals first|exact⟨⟨_,rfl⟩⟩|exact⟨congrArg (Tr.int .i64) hwm.symm⟩
 | false=>
  have hh:gu C g=aI C ⟨[],(localsOf C.p (g:Int)).length - C.args,false⟩ 0 15 C.words g []:=by rw[gu,if_neg (by simp[hfm])]
  rw[hh]at gLs
  have g2:=g1 15
  have hcr:eb C g=(bF C (cH C C.b.far.toNat) (bU C g) [g] C.words (aI C ⟨[],(localsOf C.p (g:Int)).length - C.args,false⟩ 0 15 C.words g [])).1:=by rw[eb,hh]
  rw[hcr]
  repeat' ((conv=>whnf);first|apply Wx|apply W6|refine cg g2 ?_|refine cg gLs ?_|apply oi|(apply fi<;>intro h)|refine⟨0,rfl,(by simp),?_⟩|refine⟨_,hOl,?_⟩|refine⟨_,rfl,?_⟩|exact rfl)
  all_goals try exact⟨KP⟩
  all_goals try(exfalso;rw[hfm]at h;cases h;done)
  all_goals first|exact⟨⟨_,rfl⟩⟩|exact⟨congrArg (Tr.int .i64) hwm.symm⟩
theorem sY {C:Cx}(hC:CxOk C){g:Nat}(hg:cn C g)(e5:C.args=argsN C.p g):0≤(eb C g).most∧(eb C g).most≤1000:=by
 have hS:ScOk C (bU C g) [g]:=⟨hg,rfl,⟨Int.le_refl _,by simp[bU]⟩,rfl,by simp[bU],fun _=>e5,rfl⟩
 have hG:=lI (lev:=C.b.far.toNat) (rep:=cH C C.b.far.toNat) (fun line g d s hg hr=>fR hC _ line g d s hS hg hr) hC hS C.words (gu C g)
 obtain⟨l1,l2⟩:=di hC hg
 have hm:(gu C g).most=(localsOf C.p (g:Int)).length - C.args:=rfl
 have h1:=hG.most
 have h2:=hG.cap (by rw[hm];omega)
 rw[hm]at h1
 exact⟨Int.le_trans (by omega) h1,h2⟩
def ctx (p:List HP)(f g:Nat)(b:HH)(words:Int):Cx:=⟨p,b,wM b.fay f,words,argsN p g⟩
noncomputable def foldIf (p:List HP) (b:HH):List HP:=if b.faF=true then p.map bi else p
noncomputable def lr (p:List HP) (f:Nat) (b:HH):List HO:=match(aF (foldIf p b))[f]? with
 | some g=>(eb (ctx (foldIf p b) f g b (eb (ctx (foldIf p b) f g b 0) g).most) g).items
 | none=>[]
noncomputable def aR (p:List HP) (f:Int) (b:HH):List HO:=
 if ax p=true∧aV b=true∧0≤f∧f < (aF p).length then lr p f.toNat b else []
theorem alike.funsF:∀{p q:List HP},alike p q→∀i:Nat,funsF p i=funsF q i
 | [],[],_,_=>rfl
 | x::p,y::q,h,i=>by
  simp only[alike,List.map_cons,List.cons.injEq,Prod.mk.injEq]at h
  have ih:=alike.funsF (p:=p) (q:=q) h.2
  rw[Go.Proofs.YtjmplnfiabmalaaGreat.funsF,Go.Proofs.YtjmplnfiabmalaaGreat.funsF,h.1.1,ih]
 | [],_::_,h,_=>by simp[alike]at h
 | _::_,[],h,_=>by simp[alike]at h
theorem qL (p:List HP)(b:HH):aF (foldIf p b)=aF p:=by
 unfold foldIf
 split
 ·exact(iN p).funsF 0
 ·rfl
theorem PgOk.foldIf {p:List HP}(h:PgOk p)(b:HH):PgOk (foldIf p b):=by
 unfold Go.Proofs.YtjmplnfiabmalaaGreat.foldIf
 split
 ·exact h.fold
 ·exact h
theorem kL (p:List HP)(f:Int)(b:HH)(hs:aA 1048576 (.lst 4 (p.map HP.tr))):Sim.Spec Tryz.prog 76 [tvP p,tvI f,.agg b.tr] (rL 7 ((aR p f b).map HO.tr)):=by
 refine bh hΓ ay Tryz.func76 rfl (by decide) rfl ?_
 have hP:=cX p hs
 have hB:=iQ b
 have hl:=ce hs
 have gF:=bZ p (by omega)
 have hfl:((aF p).map fun n:Nat=>aa n).length=(aF p).length:=by simp
 by_cases hc:ax p=true∧aV b=true∧0≤f∧f < (aF p).length
 ·have hcf:aR p f b=lr p f.toNat b:=by rw[aR,if_pos hc]
  rw[hcf]
  obtain⟨h1,h2,h3,h4⟩:=hc
  obtain⟨f,rfl⟩:=Int.eq_ofNat_of_zero_le h3
  rw[Int.toNat_natCast]
  rw[h1]at hP
  rw[h2]at hB
  have hb:0≤b.far∧b.far≤3:=by
   unfold aV at h2
   simp only[Bool.and_eq_true,within_iff]at h2
   exact h2.2
  obtain⟨g,hg⟩:=ag (l:=aF p) (k:=f) (by omega)
  have hpg:=(xE hs h1).foldIf b
  have hg':(aF (foldIf p b))[f]?=some g:=by rw[qL];exact hg
  obtain⟨hgl,y,hy,hy0⟩:=mi (List.mem_of_getElem? hg')
  have h4':=(hpg.line g y hy).2.2.1
  have ha:(0:Int)≤(argsN (foldIf p b) g:Int)∧(argsN (foldIf p b) g:Int)≤4:=by rw[argsN,hy];dsimp only;omega
  have hC0:CxOk (ctx (foldIf p b) f g b 0):=hpg.cx ha (by omega) hb
  have hm:=sY hC0 ⟨y,hy,hy0⟩ rfl
  have hC1:CxOk (ctx (foldIf p b) f g b (eb (ctx (foldIf p b) f g b 0) g).most):=hpg.cx ha hm hb
  have g0:=iX _ hC0 f g hg' rfl rfl
  have g1:=iX _ hC1 f g hg' rfl rfl
  have hcd:lr p f b=(eb (ctx (foldIf p b) f g b (eb (ctx (foldIf p b) f g b 0) g).most) g).items:=by rw[lr,hg']
  rw[hcd]
  generalize eb (ctx (foldIf p b) f g b 0) g=R0 at *
  generalize eb (ctx (foldIf p b) f g b R0.most) g=R1 at *
  have hfo:=ng p hs
  rw[show iP p=p.map bi by rw[iP,if_pos h1]]at hfo
  obtain⟨fr,inl,fold,sp⟩:=b
  cases fold with
  | true=>
   have e:foldIf p ⟨fr,inl,true,sp⟩=p.map bi:=rfl
   simp only[ctx,e]at g0 g1
   repeat' ((conv=>whnf);first|apply Wx|apply W6|apply oi|(apply fi<;>intro h)|refine cl hP ?_|refine cl hB ?_|refine cl gF ?_|refine cl hfo ?_|refine cl g0 ?_|refine cl g1 ?_|refine⟨_,rfl,?_⟩|exact rfl)
   all_goals try exact⟨KP⟩
   all_goals try exact KX
  | false=>
   have e:foldIf p ⟨fr,inl,false,sp⟩=p:=rfl
   simp only[ctx,e]at g0 g1
   repeat' ((conv=>whnf);first|apply Wx|apply W6|apply oi|(apply fi<;>intro h)|refine cl hP ?_|refine cl hB ?_|refine cl gF ?_|refine cl hfo ?_|refine cl g0 ?_|refine cl g1 ?_|refine⟨_,rfl,?_⟩|exact rfl)
   all_goals try exact⟨KP⟩
   all_goals try exact KX
 ·have hcf:aR p f b=[]:=by rw[aR,if_neg hc]
  rw[hcf]
  cases h1:ax p with
  | false=>
   rw[h1]at hP
   repeat' ((conv=>whnf);first|apply Wx|apply W6|apply oi|(apply fi<;>intro h)|refine cl hP ?_|refine cl hB ?_|refine cl gF ?_|refine⟨_,rfl,?_⟩|exact rfl)
   all_goals try exact⟨KP⟩
   all_goals try exact KX
  | true=>
   rw[h1]at hP
   cases h2:aV b with
   | false=>
    rw[h2]at hB
    repeat' ((conv=>whnf);first|apply Wx|apply W6|apply oi|(apply fi<;>intro h)|refine cl hP ?_|refine cl hB ?_|refine cl gF ?_|refine⟨_,rfl,?_⟩|exact rfl)
    all_goals try exact⟨KP⟩
    all_goals try exact KX
   | true=>
    rw[h2]at hB
    have hc':¬(0≤f∧f < (aF p).length):=fun hh=>hc ⟨h1,h2,hh⟩
    repeat' ((conv=>whnf);first|apply Wx|apply W6|apply oi|(apply fi<;>intro h)|refine cl hP ?_|refine cl hB ?_|refine cl gF ?_|refine⟨_,rfl,?_⟩|exact rfl)
    all_goals try exact⟨KP⟩
    all_goals try exact KX
def uY (l:List HO):Prop:=∀it∈l,it.fax.length≤4
structure Cap (M t:Nat) (s s':Gs):Prop where
 le:s'.items.length≤max s.items.length M+t
 ch:uY s.items→uY s'.items
theorem Cap.refl {M:Nat}(s:Gs):Cap M 0 s s:=⟨by omega,id⟩
theorem Cap.trans {M n m:Nat}{a b c:Gs}(h:Cap M n a b)(h':Cap M m b c):Cap M (n+m) a c:=⟨by have:=h.le;have:=h'.le;omega,fun x=>h'.ch (h.ch x)⟩
theorem Cap.mono {M n m:Nat}{a b:Gs}(h:Cap M n a b)(hn:n≤m):Cap M m a b:=⟨by have:=h.le;omega,h.ch⟩
theorem bE {M:Nat}(C:Cx)(s:Gs)(d code arg line:Int){chain:List Int}(hc:chain.length≤4):Cap M 1 s (aI C s d code arg line chain):=by
 refine⟨by simp only[aI,List.length_append,List.length_cons,List.length_nil];omega,fun h it hit=>?_⟩
 simp only[aI,List.mem_append,List.mem_cons,List.not_mem_nil,or_false]at hit
 rcases hit with hit|rfl
 ·exact h it hit
 ·exact hc
theorem pv {l:List HO}(h:uY l)(j v:Int):uY (cE l j v):=by
 unfold cE
 split
 ·split
  ·rename_i it hi
   intro z hz
   rcases List.mem_or_eq_of_mem_set hz with hz|rfl
   ·exact h z hz
   ·exact h it (List.mem_of_getElem? hi)
  ·exact h
 ·exact h
theorem ws (v:Int):∀(js:List Int) {l:List HO},uY l→uY (dl l v js)
 | [],_,h=>h
 | j::js,_,h=>by rw[dl];exact ws v js (pv h j v)
theorem Cap.set {M n:Nat}{a b:Gs}{l:List HO}(h:Cap M n a b)(hl:l.length=b.items.length)(hc:uY b.items→uY l):Cap M n a ⟨l,b.most,b.start⟩:=⟨by have:=h.le;simp only[hl];omega,fun x=>hc (h.ch x)⟩
section
variable {C:Cx} {x:Sc} {ins:List Nat} {rep:Sc→List Nat→Nat→Nat→Int→Gs→Gs} {line:Nat} {M:Nat}
theorem qs (y:Sc){chain:List Int}(hc:chain.length≤4)(line:Int):∀(n:Nat) (d:Int) (s:Gs),Cap M n s (eW C y chain line n d s)
 | 0,d,s=>Cap.refl s
 | n+1,d,s=>by
  rw[eW]
  exact((bE C s d _ _ _ hc).trans (qs y hc line n (d - 1) _)).mono (by omega)
theorem tA (y:Sc){chain:List Int}(hc:chain.length≤4)(line d:Int):∀(n i:Nat) (s:Gs),Cap M (2 * n) s (gB C y chain line d n i s)
 | 0,i,s=>Cap.refl s
 | n+1,i,s=>by
  rw[gB]
  exact(((bE C s d _ _ _ hc).trans (bE C _ (d+1) _ _ _ hc)).trans (tA y hc line d n (i+1) _)).mono (by omega)
theorem Ei (hx:x.chain.length≤4)(hrep:∀g d s,cn C g→cM C ins g s.items.length=true→Cap M 0 s (rep x ins line g d s))(t:HX)(d:Int)(s:Gs):Cap M 1 s (tW C rep x ins line t d s):=by
 unfold tW
 split
 ·exact bE _ _ _ _ _ _ hx
 ·split
  ·exact bE _ _ _ _ _ _ hx
  ·split
   ·split
    ·rename_i g hg
     split
     ·rename_i hr
      obtain⟨_,ln,h1,h2,_⟩:=jJ hg
      exact(hrep g d s ⟨ln,h1,h2⟩ hr).mono (by omega)
     ·exact bE _ _ _ _ _ _ hx
    ·exact(Cap.refl s).mono (by omega)
   ·exact bE _ _ _ _ _ _ hx
mutual
theorem ze (hx:x.chain.length≤4)(hrep:∀g d s,cn C g→cM C ins g s.items.length=true→Cap M 0 s (rep x ins line g d s)):∀(e:Ex) (d:Int) (s:Gs),Cap M e.toks.length s (iD C rep x ins line e d s)
 | .node t es,d,s=>by
  rw[iD,Ex.toks,List.length_cons]
  exact((vx hx hrep es d s).trans (Ei hx hrep t _ _)).mono (by omega)
theorem vx (hx:x.chain.length≤4)(hrep:∀g d s,cn C g→cM C ins g s.items.length=true→Cap M 0 s (rep x ins line g d s)):∀(es:List Ex) (d:Int) (s:Gs),Cap M (au es).length s (eV C rep x ins line es d s)
 | [],d,s=>by rw[eV,au];exact(Cap.refl s).mono (by omega)
 | a::es,d,s=>by
  rw[eV,au,List.length_append]
  exact(ze hx hrep a d s).trans (vx hx hrep es (d+1) _)
end
theorem DO (hC:CxOk C)(hx:x.chain.length≤4)(line:Nat){g:Nat}(hg:cn C g)(d:Int)(s:Gs):Cap M 16 s (mA C x line g d s):=by
 obtain⟨h1,h2⟩:=di hC hg
 have h0:Cap M 0 s ⟨s.items,max s.most (dD C x+(localsOf C.p (g:Int)).length),s.start⟩:=⟨by dsimp only;omega,id⟩
 unfold mA
 exact((h0.trans (qs _ hx _ _ _ _)).trans (tA _ hx _ _ _ _ _)).mono (by omega)
theorem Ad (hx:x.chain.length≤4)(line:Nat)(d:Int)(s:Gs):Cap M 1 s (fT C x line d s):=by
 unfold fT
 split
 ·exact bE _ _ _ _ _ _ hx
 ·exact(Cap.refl s).mono (by omega)
theorem uS (hx:x.chain.length≤4)(k:Nat)(last:Bool)(d:Int)(L:Ls):Cap M 1 L.g (bM C x k last d L).g:=by
 unfold bM
 split
 ·split
  ·exact bE _ _ _ _ _ _ hx
  ·exact bE _ _ _ _ _ _ hx
 ·split
  ·exact(Cap.refl _).mono (by omega)
  ·exact bE _ _ _ _ _ _ hx
theorem Cb (hx:x.chain.length≤4)(hrep:∀g d s,cn C g→cM C ins g s.items.length=true→Cap M 0 s (rep x ins line g d s))(hC:CxOk C){k:Nat}{ln:HP}(hk:C.p[k]?=some ln)(he:bq ln.fag=true)(d:Int)(s:Gs):Cap M 20 s (iD C rep x ins line (exL ln.fag) d s):=by
 have h1:=(wX he).2
 have h2:=(hC.line _ _ hk).2.2.2.1
 rw[h1]at h2
 exact(ze hx hrep _ d s).mono h2
theorem Da (hx:x.chain.length≤4)(hrep:∀line g d s,cn C g→cM C ins g s.items.length=true→Cap M 0 s (rep x ins line g d s))(hC:CxOk C){k:Nat}{ln:HP}(hk:C.p[k]?=some ln)(h0:ln.faa≠0)(base:Int)(L:Ls):Cap M 22 L.g (eC C rep x ins base k ln L).g:=by
 unfold eC
 split
 ·exact((bE C L.g base 10 0 k hx).set (cI _ _ _) fun h=>pv h _ _).mono (by omega)
 ·split
  ·split
   ·refine Cap.mono (n:=1+1) ?_ (by omega)
    exact(bE C L.g base 0 0 k hx).trans (uS hx k true (base+1) {L with g:=aI C L.g base 0 0 k x.chain})
   ·split
    ·exact(bE _ _ _ _ _ _ hx).mono (by omega)
    ·exact(Cap.refl _).mono (by omega)
  ·rename_i h4 h7
   have hl:=hC.line _ _ hk
   have h20:Cap M 20 L.g (iD C rep x ins k (exL ln.fag) base ⟨L.g.items,L.g.most,true⟩):=by
    have:=Cb hx (fun g d s=>hrep k g d s) hC hk (hl.2.2.2.2 (by omega)) base ⟨L.g.items,L.g.most,true⟩
    exact⟨this.le,this.ch⟩
   split
   ·exact(h20.trans (bE _ _ _ _ _ _ hx)).mono (by omega)
   ·split
    ·exact(h20.trans (bE _ _ _ _ _ _ hx)).mono (by omega)
    ·split
     ·refine Cap.mono (n:=20+1) ?_ (by omega)
      exact h20.trans (uS hx k false (base+1) {L with g:=iD C rep x ins k (exL ln.fag) base ⟨L.g.items,L.g.most,true⟩,heads:=L.heads.set k L.g.items.length})
     ·exact(h20.trans (bE _ _ _ _ _ _ hx)).mono (by omega)
theorem Cy (k:Nat)(ln:HP)(L:Ls):Cap M 0 L.g (co C x k ln L).g:=by
 unfold co
 split
 ·exact(Cap.refl _).set (cI _ _ _) fun h=>pv h _ _
 ·exact Cap.refl _
theorem ya (hx:x.chain.length≤4)(hrep:∀line g d s,cn C g→cM C ins g s.items.length=true→Cap M 0 s (rep x ins line g d s))(hC:CxOk C)(base:Int):∀(n k:Nat) (L:Ls),(∀i y,k≤i→i < k+n→C.p[i]?=some y→y.faa≠0)→Cap M (n * 22) L.g (nt C rep x ins base n k L).g
 | 0,k,L,_=>(Cap.refl _).mono (by omega)
 | n+1,k,L,h=>by
  rw[nt]
  split
  ·rename_i ln hk
   exact(((Da hx hrep hC hk (h k ln (Nat.le_refl _) (by omega) hk) base L).trans (Cy k ln _)).trans (ya hx hrep hC base n (k+1) _ fun i y h1 h2 hy=>h i y (by omega) (by omega) hy)).mono (by omega)
  ·exact(Cap.refl _).mono (by omega)
theorem sF (hc:x.chain.length≤4)(hrep:∀line g d s,cn C g→cM C ins g s.items.length=true→Cap M 0 s (rep x ins line g d s))(hC:CxOk C)(hx:ScOk C x ins)(base:Int)(s:Gs):Cap M ((oq C.p x.f - x.f) * 22) s (bF C rep x ins base s).1:=by
 unfold bF
 obtain⟨ln,h1,h2⟩:=hx.fn
 obtain⟨e,h3,_,_,h4⟩:=hC.fn _ _ h1 h2
 obtain⟨e',g3,_,_,g5,_⟩:=hx.endE hC
 rw[h3]at g3
 injection g3 with g3
 subst g3
 rw[g5]
 refine ya hc hrep hC base (e - x.f) (x.f+1) (dK C s) fun i y k1 k2 hy=>?_
 by_cases hie:i=e
 ·subst hie
  obtain⟨z,hz,h7⟩:=bP h3
  rw[hy]at hz
  injection hz with hz
  subst hz
  omega
 ·exact(h4 i y (by omega) (by omega) hy).1
end
theorem zp {C:Cx}(hC:CxOk C):∀(lev:Nat) {x:Sc} {ins:List Nat} (line g:Nat) (d:Int) (s:Gs),ScOk C x ins→cn C g→cM C ins g s.items.length=true→Cap (217+198 * lev) 0 s (cH C lev x ins line g d s)
 | 0,x,ins,line,g,d,s,hx,hg,hr=>(Cap.refl s).mono (by omega)
 | lev+1,x,ins,line,g,d,s,hx,hg,hr=>by
  obtain⟨r1,r2,r3,_⟩:=iM hr
  have hin:=hC.inl
  have hch:=hx.chain
  have hy:=oc hC hx line hg
  have h1:=DO (M:=217) (x:=x) hC (by omega) line hg d s
  have h2:=Ad (C:=C) (M:=217) (x:=x) (by omega) line (d - argsN C.p g) (mA C x line g d s)
  have hcy:=hy.chain
  rw[List.length_append,List.length_cons,List.length_nil]at hcy
  have h3:=sF (M:=217+198 * lev) (rep:=cH C lev) (by omega) (fun line g d s hg hr=>zp hC lev line g d s hy hg hr) hC hy (d - argsN C.p g) (fT C x line (d - argsN C.p g) (mA C x line g d s))
  obtain⟨e,e1,e2,e3,e4,_⟩:=hy.endE hC
  have e5:bR C.p (g:Int)=(e:Int):=by rw[cp];exact cj e1
  have e6:oq C.p (cu C x line g).f - (cu C x line g).f≤9:=by rw[e4];show e - g≤9;omega
  show Cap _ 0 s (uv C (bF C (cH C lev)) x ins line g d s)
  unfold uv
  have l1:=wh hC hx (by omega) line hg d s
  have l2:=rj (C:=C) x line (d - argsN C.p g) (mA C x line g d s)
  refine⟨?_,fun h=>ws _ _ (h3.ch (h2.ch (h1.ch h)))⟩
  simp only[kH]
  have k3:=h3.le
  have k1:=l1.le
  have k2:=l2.le
  omega
theorem Dh {C:Cx}(hC:CxOk C){g:Nat}(hg:cn C g)(e5:C.args=argsN C.p g):(eb C g).items.length≤2500∧uY (eb C g).items:=by
 have hS:ScOk C (bU C g) [g]:=⟨hg,rfl,⟨Int.le_refl _,by simp[bU]⟩,rfl,by simp[bU],fun _=>e5,rfl⟩
 have hG:=sF (M:=217+198 * C.b.far.toNat) (rep:=cH C C.b.far.toNat) (by simp[bU]) (fun line g d s hg hr=>zp hC _ line g d s hS hg hr) hC hS C.words (gu C g)
 obtain⟨e,e1,e2,e3,e4,_⟩:=hS.endE hC
 have hl:=hC.len
 have hin:=hC.inl
 have hh:(gu C g).items.length=1:=by simp[gu,aI]
 have hk:=hG.le
 refine⟨?_,hG.ch fun it hit=>?_⟩
 ·show(bF C (cH C C.b.far.toNat) (bU C g) [g] C.words (gu C g)).1.items.length≤2500
  omega
 ·simp only[gu,aI,List.nil_append,List.mem_cons,List.not_mem_nil,or_false]at hit
  subst hit
  exact Nat.zero_le _
theorem qA {p:List HP}{f:Int}{b:HH}(hs:aA 1048576 (.lst 4 (p.map HP.tr)))(h1:ax p=true)(h2:aV b=true)(h3:0≤f)(h4:f < (aF p).length):∃(g:Nat) (C:Cx),(aF p)[f.toNat]?=some g∧CxOk C∧C.p=foldIf p b∧C.b=b∧C.args=argsN C.p g∧C.framed=wM b.fay f∧cn C g∧aR p f b=(eb C g).items∧C.words=(eb (ctx (foldIf p b) f.toNat g b 0) g).most:=by
 obtain⟨f,rfl⟩:=Int.eq_ofNat_of_zero_le h3
 have hb:0≤b.far∧b.far≤3:=by
  unfold aV at h2
  simp only[Bool.and_eq_true,within_iff]at h2
  exact h2.2
 obtain⟨g,hg⟩:=ag (l:=aF p) (k:=f) (by omega)
 have hpg:=(xE hs h1).foldIf b
 have hg':(aF (foldIf p b))[f]?=some g:=by rw[qL];exact hg
 obtain⟨hgl,y,hy,hy0⟩:=mi (List.mem_of_getElem? hg')
 have h4':=(hpg.line g y hy).2.2.1
 have ha:(0:Int)≤(argsN (foldIf p b) g:Int)∧(argsN (foldIf p b) g:Int)≤4:=by rw[argsN,hy];dsimp only;omega
 have hC0:CxOk (ctx (foldIf p b) f g b 0):=hpg.cx ha (by omega) hb
 have hm:=sY hC0 ⟨y,hy,hy0⟩ rfl
 have hC1:CxOk (ctx (foldIf p b) f g b (eb (ctx (foldIf p b) f g b 0) g).most):=hpg.cx ha hm hb
 refine⟨g,_,by rw[Int.toNat_natCast];exact hg,hC1,rfl,rfl,rfl,rfl,⟨y,hy,hy0⟩,?_,by rw[Int.toNat_natCast];rfl⟩
 rw[aR,if_pos ⟨h1,h2,h3,h4⟩,Int.toNat_natCast,lr,hg']
theorem gW {p:List HP}{f:Int}{b:HH}(hs:aA 1048576 (.lst 4 (p.map HP.tr))):(aR p f b).length≤2500∧uY (aR p f b):=by
 by_cases hc:ax p=true∧aV b=true∧0≤f∧f < (aF p).length
 ·obtain⟨h1,h2,h3,h4⟩:=hc
  obtain⟨g,C,_,k2,_,_,k5,_,k7,k8,_⟩:=qA hs h1 h2 h3 h4
  rw[k8]
  exact Dh k2 k7 k5
 ·rw[aR,if_neg hc]
  exact⟨by simp,fun it h=>by cases h⟩
end Go.Proofs.YtjmplnfiabmalaaGreat
namespace Go.Proofs.YtjmplnfiabmalaaGreat
open Go.Sim
set_option maxRecDepth 100000
set_option maxHeartbeats 4000000
def dI (c a:Int):Prop:=0≤c∧c≤17∧(c=0→-2147483648≤a∧a≤2147483647)∧(c=1∨c=2∨c=3∨c=4∨c=10∨c=11→-32768≤a∧a≤32767)∧(c=16→0≤a∧a≤65535)∧(c=12∨c=13∨c=14∨c=15→0≤a∧a≤255)∧(5≤c∧c≤9∨c=17→a=0)
def jc (C:Cx)(line:Int):Prop:=∃y,0≤line∧C.p[line.toNat]?=some y∧y.faa≠0
structure GoodI (C:Cx) (n:Nat) (it:HO):Prop where
 line:jc C it.fat
 jump:it.fad.fab=10∨it.fad.fab=11→0≤it.fad.faf∧it.fad.faf≤n
 op:¬(it.fad.fab=10∨it.fad.fab=11)→dI it.fad.fab it.fad.faf
 enter:it.fad.fab≠13
theorem GoodI.mono {C:Cx}{n m:Nat}{it:HO}(h:GoodI C n it)(hn:n≤m):GoodI C m it:=⟨h.line,fun k=>by have:=h.jump k;omega,h.op,h.enter⟩
def Hh (C:Cx)(g:Nat)(it:HO):Prop:=(it.fad.fab=13∨it.fad.fab=15)∧it.fat=g∧it.fad.faf=C.words
def InvI (C:Cx)(g:Nat)(l:List HO):Prop:=∃h t,l=h::t∧Hh C g h∧∀it∈t,GoodI C l.length it
def eO (l:List HO)(i:Nat):Option Int:=(l[i]?).map (·.fad.fab)
def JP (l:List HO)(j:Int):Prop:=0≤j∧∃c,eO l j.toNat=some c∧(c=10∨c=11)
structure Tr2 (C:Cx) (g:Nat) (a b:Gs):Prop where
 ext:∀i c,eO a.items i=some c→eO b.items i=some c
 inv:InvI C g a.items→InvI C g b.items
 most:a.most≤60→b.most≤60
theorem Tr2.refl {C:Cx}{g:Nat}(s:Gs):Tr2 C g s s:=⟨fun _ _ h=>h,id,id⟩
theorem Tr2.trans {C:Cx}{g:Nat}{a b c:Gs}(h:Tr2 C g a b)(h':Tr2 C g b c):Tr2 C g a c:=⟨fun i v x=>h'.ext i v (h.ext i v x),fun x=>h'.inv (h.inv x),fun x=>h'.most (h.most x)⟩
theorem vY {l:List HO}{i:Nat}{c:Int}(h:eO l i=some c):i < l.length:=by
 unfold eO at h
 cases hi:l[i]? with
 | none=>rw[hi]at h;cases h
 | some x=>exact bg hi
theorem yR {l:List HO}{i:Nat}(h:i < l.length):∃c,eO l i=some c:=by
 obtain⟨x,hx⟩:=ag h
 exact⟨x.fad.fab,by rw[eO,hx];rfl⟩
theorem JP.ext {a b:List HO}(h:∀i c,eO a i=some c→eO b i=some c){j:Int}(hj:JP a j):JP b j:=by
 obtain⟨h0,c,h1,h2⟩:=hj
 exact⟨h0,c,h _ _ h1,h2⟩
theorem Tr2.len {C:Cx}{g:Nat}{a b:Gs}(h:Tr2 C g a b):a.items.length≤b.items.length:=by
 rcases Nat.eq_zero_or_pos a.items.length with h0|h0
 ·omega
 ·obtain⟨c,hc⟩:=yR (l:=a.items) (i:=a.items.length - 1) (by omega)
  have:=vY (h.ext _ _ hc)
  omega
theorem dk {C:Cx}{g:Nat}{s:Gs}{d code arg line:Int}{chain:List Int}(hl:jc C line)(h1:code=10∨code=11→0≤arg∧arg≤s.items.length)(h2:¬(code=10∨code=11)→dI code arg)(h3:code≠13):Tr2 C g s (aI C s d code arg line chain):=by
 refine⟨fun i c h=>?_,fun⟨h,t,e1,e2,e3⟩=>?_,id⟩
 ·have:=vY h
  unfold eO at h ⊢
  simp only[aI]
  rw[List.getElem?_append_left this]
  exact h
 ·refine⟨h,t++[pE C s d code arg line chain],by simp[aI,e1],e2,fun it hit=>?_⟩
  have hn:s.items.length≤(aI C s d code arg line chain).items.length:=by simp[aI]
  rw[List.mem_append,List.mem_singleton]at hit
  rcases hit with hit|rfl
  ·exact(e3 it hit).mono hn
  ·exact⟨hl,fun k=>by have:=h1 k;simp only[pE];omega,h2,h3⟩
theorem zE {l:List HO}{j v:Int}(i:Nat):eO (cE l j v) i=eO l i:=by
 unfold cE
 split
 ·split
  ·rename_i x hx
   unfold eO
   by_cases h:j.toNat=i
   ·subst h
    rw[List.getElem?_set_self (bg hx),hx]
    rfl
   ·rw[List.getElem?_set_ne h]
  ·rfl
 ·rfl
theorem zU {C:Cx}{g:Nat}{l:List HO}{j:Int}(h:InvI C g l)(hj:JP l j):InvI C g (cE l j l.length):=by
 obtain⟨a,t,e1,e2,e3⟩:=h
 obtain⟨h0,c,h1,h2⟩:=hj
 unfold cE
 rw[if_pos h0]
 cases hx:l[j.toNat]? with
 | none=>simp only;exact⟨a,t,e1,e2,e3⟩
 | some x=>
  have hc:x.fad.fab=c:=by rw[eO,hx]at h1;simpa using h1
  have hj0:j.toNat≠0:=by
   intro h
   rw[h,e1]at hx
   simp at hx
   subst hx
   have:=e2.1
   omega
  obtain⟨m,hm⟩:∃m,j.toNat=m+1:=⟨j.toNat - 1,by omega⟩
  rw[hm,e1,List.getElem?_cons_succ]at hx
  have hg:=e3 x (List.mem_of_getElem? hx)
  refine⟨a,t.set m ⟨⟨x.fad.fab,l.length⟩,x.fat,x.fam,x.fax,x.faw,x.faE⟩,?_,e2,fun it hit=>?_⟩
  ·rw[e1,hm];rfl
  ·rw[List.length_set]
   rcases List.mem_or_eq_of_mem_set hit with hit|rfl
   ·exact e3 it hit
   ·exact⟨hg.line,fun _=>by simp only;omega,fun k=>absurd (by rw[hc];exact h2) k,hg.enter⟩
theorem qn {C:Cx}{g:Nat}{s:Gs}{j:Int}(hj:JP s.items j):Tr2 C g s ⟨cE s.items j s.items.length,s.most,s.start⟩:=
 ⟨fun i c h=>by rw[zE];exact h,fun h=>zU h hj,id⟩
theorem vL {C:Cx}{g:Nat}:∀(js:List Int) {s:Gs},(∀j∈js,JP s.items j)→Tr2 C g s ⟨dl s.items s.items.length js,s.most,s.start⟩
 | [],s,_=>Tr2.refl s
 | j::js,s,h=>by
  have h1:=qn (C:=C) (g:=g) (s:=s) (h j (by simp))
  have h2:=vL (C:=C) (g:=g) js (s:=⟨cE s.items j s.items.length,s.most,s.start⟩) fun i hi=>(h i (by simp[hi])).ext h1.ext
  simp only[cI]at h2
  exact h1.trans h2
theorem xd {C:Cx}{s:Gs}{d code arg line:Int}{chain:List Int}(h:code=10∨code=11):JP (aI C s d code arg line chain).items (s.items.length:Int):=by
 refine⟨by omega,code,?_,h⟩
 rw[eO,Int.toNat_natCast]
 simp[aI,pE]
theorem BJ:∀(es:List Ex),es.length≤(au es).length
 | []=>Nat.zero_le _
 | a::es=>by
  have:=BJ es
  have:=a.toks_pos
  rw[au,List.length_append,List.length_cons];omega
section
variable {C:Cx} {x:Sc} {ins:List Nat} {rep:Sc→List Nat→Nat→Nat→Int→Gs→Gs} {line:Nat} {G:Nat}
theorem uK (hC:CxOk C){y:Sc}(hf:0≤y.first∧y.first≤200){d i:Int}(hd:-100≤d∧d≤2000)(hi:-2≤i∧i≤100)(store:Bool):¬(fQ C store=10∨fQ C store=11)∧fQ C store≠13∧dI (fQ C store) (jq C y d i):=by
 have ha:=hC.args
 have hk:pC C y i≥-10∧pC C y i≤400:=by unfold pC;split <;> omega
 have hc:1≤fQ C store∧fQ C store≤4:=by unfold fQ;split <;> split <;> omega
 have hA:-10000≤jq C y d i∧jq C y d i≤10000:=by unfold jq;repeat' split <;> omega
 unfold dI
 omega
theorem FC (hC:CxOk C){y:Sc}(hf:0≤y.first∧y.first≤200){d i line:Int}(hd:-100≤d∧d≤2000)(hi:-2≤i∧i≤100)(hl:jc C line)(s:Gs):Tr2 C G s (Ef C y s d i line):=by
 obtain⟨h1,h2,h3⟩:=uK hC hf hd hi false
 exact dk hl (fun k=>absurd k h1) (fun _=>h3) h2
theorem ur (hC:CxOk C){y:Sc}(hf:0≤y.first∧y.first≤200){d i line:Int}(hd:-100≤d∧d≤2000)(hi:-2≤i∧i≤100)(hl:jc C line)(s:Gs)(chain:List Int):Tr2 C G s (gK C y s d i line chain):=by
 obtain⟨h1,h2,h3⟩:=uK hC hf hd hi true
 exact dk hl (fun k=>absurd k h1) (fun _=>h3) h2
theorem wc:dI 0 0:=by unfold dI;omega
theorem wd (hC:CxOk C){y:Sc}(hf:0≤y.first∧y.first≤200){chain:List Int}{line:Int}(hl:jc C line):∀(n:Nat) (d:Int) (s:Gs),n≤50→-100≤d - n→d≤2000→Tr2 C G s (eW C y chain line n d s)
 | 0,d,s,_,_,_=>Tr2.refl s
 | n+1,d,s,h0,h1,h2=>by
  rw[eW]
  exact(ur hC hf (by omega) (by omega) hl s chain).trans (wd hC hf hl n (d - 1) _ (by omega) (by omega) (by omega))
theorem xX (hC:CxOk C){y:Sc}(hf:0≤y.first∧y.first≤200){chain:List Int}{line d:Int}(hl:jc C line)(hd:-100≤d∧d≤1999):∀(n i:Nat) (s:Gs),i+n≤50→Tr2 C G s (gB C y chain line d n i s)
 | 0,i,s,_=>Tr2.refl s
 | n+1,i,s,h=>by
  rw[gB]
  exact((dk hl (fun k=>by omega) (fun _=>wc) (by omega)).trans (ur hC hf (by omega) (by omega) hl _ chain)).trans (xX hC hf hl hd n (i+1) _ (by omega))
def zR (C:Cx)(rep:Sc→List Nat→Nat→Nat→Int→Gs→Gs)(G:Nat)(x:Sc)(ins:List Nat):Prop:=
 ∀(line g:Nat) (d:Int) (s:Gs),jc C line→cn C g→-10 * (ins.length:Int)≤d→d≤1000+30 * ins.length+21→cM C ins g s.items.length=true→Tr2 C G s (rep x ins line g d s)
theorem Gy (hC:CxOk C)(hx:ScOk C x ins)(hi:ins.length≤4)(hrep:zR C rep G x ins)(hl:jc C line){t:HX}(ht:fG t=true){d:Int}(h1:-10 * (ins.length:Int)≤d)(h2:d≤1000+30 * ins.length+21)(s:Gs):Tr2 C G s (tW C rep x ins line t d s):=by
 obtain⟨e,e1,e2,e3,e4,e5⟩:=hx.endE hC
 have hfi:=hx.first
 have hli:=oN x.locals t.fac
 unfold fG at ht
 unfold tW
 split
 ·rename_i h0
  rw[if_pos h0]at ht
  simp only[Bool.and_eq_true,within_iff]at ht
  exact dk hl (fun k=>by omega) (fun _=>by unfold dI;omega) (by omega)
 ·rename_i h0
  rw[if_neg h0]at ht
  split
  ·exact FC hC (by omega) (by omega) (by omega) hl s
  ·rename_i h1
   split
   ·split
    ·rename_i g hg
     obtain⟨_,ln,k1,k2,_⟩:=jJ hg
     split
     ·rename_i hr
      exact hrep line g d s hl ⟨ln,k1,k2⟩ (by omega) (by omega) hr
     ·have hn:=yi C.p g
      have:=bg k1
      have:=hC.len
      exact dk hl (fun k=>by omega) (fun _=>by unfold dI;omega) (by omega)
    ·exact Tr2.refl s
   ·rename_i h7
    rw[if_neg h7,if_neg h1]at ht
    simp only[Bool.and_eq_true,within_iff]at ht
    exact dk hl (fun k=>by omega) (fun _=>by unfold dI;omega) (by omega)
mutual
theorem Bn (hC:CxOk C)(hx:ScOk C x ins)(hi:ins.length≤4)(hrep:zR C rep G x ins)(hl:jc C line):∀(e:Ex) (d:Int) (s:Gs),e.ok→-10 * (ins.length:Int)≤d→d+e.toks.length≤1000+30 * ins.length+21→Tr2 C G s (iD C rep x ins line e d s)
 | .node t es,d,s,h,h1,h2=>by
  rw[Ex.toks,List.length_cons]at h2
  rw[iD]
  have hle:=BJ es
  exact(zo hC hx hi hrep hl es d s h.2.2 h1 (by omega)).trans (Gy hC hx hi hrep hl h.1 (by omega) (by omega) _)
theorem zo (hC:CxOk C)(hx:ScOk C x ins)(hi:ins.length≤4)(hrep:zR C rep G x ins)(hl:jc C line):∀(es:List Ex) (d:Int) (s:Gs),jd es→-10 * (ins.length:Int)≤d→d+(au es).length≤1000+30 * ins.length+21→Tr2 C G s (eV C rep x ins line es d s)
 | [],d,s,_,_,_=>by rw[eV];exact Tr2.refl s
 | a::es,d,s,h,h1,h2=>by
  rw[au,List.length_append]at h2
  rw[eV]
  have hp:=a.toks_pos
  exact(Bn hC hx hi hrep hl a d s h.1 h1 (by omega)).trans (zo hC hx hi hrep hl es (d+1) _ h.2 (by omega) (by omega))
end
theorem Ev (hl:jc C line)(x:Sc)(d:Int)(s:Gs):Tr2 C G s (fT C x line d s):=by
 unfold fT
 split
 ·exact dk hl (fun k=>by omega) (fun _=>by unfold dI;omega) (by omega)
 ·exact Tr2.refl s
theorem GV (hC:CxOk C)(hx:ScOk C x ins)(hi:ins.length≤3)(hl:jc C line){g:Nat}(hg:cn C g){d:Int}(h1:-10 * (ins.length:Int)≤d)(h2:d≤1000+30 * ins.length+21)(s:Gs):Tr2 C G s (mA C x line g d s):=by
 obtain⟨k1,k2⟩:=di hC hg
 have hy:=oc hC hx line hg
 have hf:=hy.first
 rw[List.length_append,List.length_cons,List.length_nil]at hf
 have ht:=tU hC hx
 have ha:=hC.argsN g
 have h0:Tr2 C G s ⟨s.items,max s.most (dD C x+(localsOf C.p (g:Int)).length),s.start⟩:=⟨fun _ _ h=>h,id,fun h=>by dsimp only;omega⟩
 unfold mA
 exact(h0.trans (wd hC (by omega) hl _ d _ (by omega) (by omega) (by omega))).trans (xX hC (by omega) hl (by omega) _ _ _ (by omega))
structure LsI (C:Cx) (G f k:Nat) (g0:Gs) (L:Ls):Prop where
 tr:Tr2 C G g0 L.g
 heads:∀v∈L.heads,0≤v∧v≤L.g.items.length
 pos:∀i,f+1≤i→i < k→jumps C.p i→JP L.g.items (atL L.pos i)
 lv:∀j∈L.lv,JP L.g.items j
 len:L.pos.length=C.p.length
theorem LsI.step {f k k':Nat}{g0:Gs}{L L':Ls}(h:LsI C G f k g0 L)(ht:Tr2 C G L.g L'.g)(hh:∀v∈L'.heads,v∈L.heads∨(0≤v∧v≤L'.g.items.length))(hp:∀i,f+1≤i→i < k'→jumps C.p i→(i < k∧atL L'.pos i=atL L.pos i)∨JP L'.g.items (atL L'.pos i))(hv:∀j∈L'.lv,j∈L.lv∨JP L'.g.items j)(hl:L'.pos.length=L.pos.length):LsI C G f k' g0 L':=by
 have hle:=ht.len
 refine⟨h.tr.trans ht,fun v hv=>?_,fun i h1 h2 h3=>?_,fun j hj=>?_,by rw[hl,h.len]⟩
 ·rcases hh v hv with h1|h1
  ·have:=h.heads v h1;omega
  ·exact h1
 ·rcases hp i h1 h2 h3 with⟨k1,k2⟩|k1
  ·rw[k2];exact(h.pos i h1 k1 h3).ext ht.ext
  ·exact k1
 ·rcases hv j hj with h1|h1
  ·exact(h.lv j h1).ext ht.ext
  ·exact h1
theorem LsI.same {f k:Nat}{g0:Gs}{L L':Ls}(h:LsI C G f k g0 L)(ht:Tr2 C G L.g L'.g)(e1:L'.heads=L.heads)(e2:L'.pos=L.pos)(e3:L'.lv=L.lv):LsI C G f k g0 L':=
 h.step ht (fun v hv=> .inl (by rw[←e1];exact hv)) (fun i _ h2 _=> .inl ⟨h2,by rw[e2]⟩) (fun j hj=> .inl (by rw[←e3];exact hj)) (by rw[e2])
theorem LsI.next {f k:Nat}{g0:Gs}{L:Ls}(h:LsI C G f k g0 L)(hj:¬jumps C.p k):LsI C G f (k+1) g0 L:=
 h.step (Tr2.refl _) (fun v hv=> .inl hv) (fun i h1 h2 h3=> .inl ⟨by
  rcases Nat.lt_or_ge i k with h|h
  ·exact h
  ·rw[show i=k by omega]at h3;exact absurd h3 hj,rfl⟩) (fun j hj=> .inl hj) rfl
theorem yu (hC:CxOk C)(hw:C.words≤255){f k k':Nat}{g0:Gs}{L:Ls}(hl:jc C (k':Int))(last:Bool)(d:Int)(h:LsI C G f k g0 L):LsI C G f k g0 (bM C x k' last d L):=by
 have ha:=hC.args
 have hww:=hC.words
 unfold bM
 split
 ·split
  ·exact h.same (dk hl (fun k=>by omega) (fun _=>by unfold dI;omega) (by omega)) rfl rfl rfl
  ·exact h.same (dk hl (fun k=>by omega) (fun _=>by unfold dI;omega) (by omega)) rfl rfl rfl
 ·split
  ·exact h
  ·refine h.step (dk hl (fun k=>by omega) (fun k=>by omega) (by omega)) (fun v hv=> .inl hv) (fun i _ h2 _=> .inl ⟨h2,rfl⟩) (fun j hj=>?_) rfl
   simp only[List.mem_append,List.mem_singleton]at hj
   rcases hj with hj|rfl
   ·exact .inl hj
   ·exact .inr (xd (.inl rfl))
theorem CY {l:List Int}{n:Int}(h:∀v∈l,0≤v∧v≤n)(hn:0≤n)(k:Nat):0≤atL l k∧atL l k≤n:=by
 unfold atL
 cases hk:l[k]? with
 | none=>simp only[Option.getD];omega
 | some v=>exact h v (List.mem_of_getElem? hk)
theorem EN (hC:CxOk C)(hw:C.words≤255)(hx:ScOk C x ins)(hi:ins.length≤4)(hrep:zR C rep G x ins){e:Nat}(he:endAt C.p x.f=some e){k:Nat}{ln:HP}(hk:C.p[k]?=some ln)(h0:ln.faa≠0)(hk1:x.f < k)(hk2:k≤e){base:Int}(hb1:-10 * (ins.length:Int)≤base)(hb2:base≤1000+30 * ins.length){g0:Gs}{L:Ls}(h:LsI C G x.f k g0 L):LsI C G x.f (k+1) g0 (eC C rep x ins base k ln L):=by
 have hl:jc C (k:Int):=⟨ln,by omega,by rw[Int.toNat_natCast];exact hk,h0⟩
 have hkl:k < C.p.length:=bg hk
 have hka:=bv hk
 unfold eC
 split
 ·rename_i h4
  obtain⟨o1,o2,o3,o4⟩:=hx.own4 hC he hk1 hk2 hk h4
  obtain⟨y,_,hy,hy3,_⟩:=bX o1
  have hJ:=h.pos (aW C.p k) o2 o3 (.inl (by rw[bv hy];exact hy3))
  have t1:Tr2 C G L.g (aI C L.g base 10 0 k x.chain):=dk hl (fun _=>by omega) (fun k=>by omega) (by omega)
  have t2:=qn (C:=C) (g:=G) (hJ.ext t1.ext)
  refine h.step (t1.trans t2) (fun v hv=> .inl hv) (fun i h1 h2 h3=>?_) (fun j hj=> .inl hj) (by simp)
  by_cases hik:i=k
  ·subst hik
   refine .inr ?_
   rw[lP (by rw[h.len];exact hkl)]
   exact JP.ext t2.ext (xd (.inl rfl))
  ·exact .inl ⟨by omega,mv hik⟩
 ·rename_i h4
  split
  ·rename_i h7
   have hnj:¬jumps C.p k:=by unfold jumps;rw[hka];omega
   split
   ·exact(yu hC hw (x:=x) hl true (base+1) (h.same (L':={L with g:=aI C L.g base 0 0 k x.chain}) (dk hl (fun k=>by omega) (fun _=>wc) (by omega)) rfl rfl rfl)).next hnj
   ·split
    ·have hh:=CY h.heads (by omega) (aW C.p k)
     exact(h.same (L':={L with g:=aI C L.g base 10 (atL L.heads (aW C.p k)) k x.chain}) (dk hl (fun _=>hh) (fun k=>by omega) (by omega)) rfl rfl rfl).next hnj
    ·exact h.next hnj
  ·rename_i h7
   have hlk:=hC.line _ _ hk
   have hex:=wX (hlk.2.2.2.2 (by omega))
   have h20:=hlk.2.2.2.1
   rw[hex.2]at h20
   have tg:Tr2 C G L.g (iD C rep x ins k (exL ln.fag) base ⟨L.g.items,L.g.most,true⟩):=by
    have:=Bn hC hx hi hrep hl (exL ln.fag) base ⟨L.g.items,L.g.most,true⟩ hex.1 hb1 (by omega)
    exact⟨this.ext,this.inv,this.most⟩
   have hL1:LsI C G x.f k g0 {L with g:=iD C rep x ins k (exL ln.fag) base ⟨L.g.items,L.g.most,true⟩,heads:=L.heads.set k L.g.items.length}:=by
    refine h.step tg (fun v hv=>?_) (fun i _ h2 _=> .inl ⟨h2,rfl⟩) (fun j hj=> .inl hj) rfl
    rcases List.mem_or_eq_of_mem_set hv with hv|rfl
    ·exact .inl hv
    ·exact .inr ⟨by omega,by have:=tg.len;simp only;omega⟩
   have hli:=oN x.locals ln.fac
   obtain⟨_,_,_,_,_,e5⟩:=hx.endE hC
   have hfi:=hx.first
   generalize iD C rep x ins k (exL ln.fag) base ⟨L.g.items,L.g.most,true⟩=GE at tg hL1 ⊢
   split
   ·rename_i k1
    have hnj:¬jumps C.p k:=by unfold jumps;rw[hka];omega
    have t2:Tr2 C G GE (gK C x GE (base+1) (fH x.locals ln.fac) k x.chain):=ur hC (by omega) (by omega) (by omega) hl _ _
    exact(hL1.same (L':={L with g:=gK C x GE (base+1) (fH x.locals ln.fac) k x.chain,heads:=L.heads.set k L.g.items.length}) t2 rfl rfl rfl).next hnj
   ·split
    ·rename_i k2
     have hnj:¬jumps C.p k:=by unfold jumps;rw[hka];omega
     have t2:Tr2 C G GE (aI C GE (base+1) 17 0 k x.chain):=dk hl (fun k=>by omega) (fun _=>by unfold dI;omega) (by omega)
     exact(hL1.same (L':={L with g:=aI C GE (base+1) 17 0 k x.chain,heads:=L.heads.set k L.g.items.length}) t2 rfl rfl rfl).next hnj
    ·split
     ·rename_i k6
      have hnj:¬jumps C.p k:=by unfold jumps;rw[hka];omega
      exact(yu hC hw (x:=x) hl false (base+1) hL1).next hnj
     ·refine hL1.step (dk hl (fun _=>by omega) (fun k=>by omega) (by omega)) (fun v hv=> .inl hv) (fun i h1 h2 h3=>?_) (fun j hj=> .inl hj) (by simp)
      by_cases hik:i=k
      ·subst hik
       refine .inr ?_
       rw[lP (by rw[h.len];exact hkl)]
       exact xd (.inr rfl)
      ·exact .inl ⟨by omega,mv hik⟩
theorem EZ (hC:CxOk C)(hx:ScOk C x ins){e:Nat}(he:endAt C.p x.f=some e){k:Nat}{ln:HP}(hk:C.p[k]?=some ln)(hk1:x.f < k)(hk2:k≤e){g0:Gs}{L:Ls}(h:LsI C G x.f (k+1) g0 L):LsI C G x.f (k+1) g0 (co C x k ln L):=by
 unfold co
 split
 ·rename_i h7
  have hke:k≠e:=fun hh=>by
   rcases(hx.own7 hC he hk1 hk2 hk h7.1).2 with⟨_,o⟩|⟨o,_⟩
   ·exact h7.2 o
   ·omega
  obtain⟨k1,k2,k3,_,_⟩:=Bq hC hx he hk1 (by omega) hk h7.1
  exact h.same (qn (h.pos _ k1 (by omega) k3)) rfl rfl rfl
 ·exact h
theorem BA (hC:CxOk C)(hw:C.words≤255)(hx:ScOk C x ins)(hi:ins.length≤4)(hrep:zR C rep G x ins){e:Nat}(he:endAt C.p x.f=some e){base:Int}(hb1:-10 * (ins.length:Int)≤base)(hb2:base≤1000+30 * ins.length)(h0:∀i y,x.f < i→i≤e→C.p[i]?=some y→y.faa≠0){g0:Gs}:∀(n k:Nat) (L:Ls),x.f < k→k+n=e+1→LsI C G x.f k g0 L→LsI C G x.f (e+1) g0 (nt C rep x ins base n k L)
 | 0,k,L,_,h2,h=>by rw[nt,←h2];exact h
 | n+1,k,L,h1,h2,h=>by
  obtain⟨_,_,_,_,_,hel⟩:=aP he
  obtain⟨ln,hk⟩:=ag (l:=C.p) (k:=k) (by omega)
  rw[nt,hk]
  exact BA hC hw hx hi hrep he hb1 hb2 h0 n (k+1) _ (by omega) (by omega) (EZ hC hx he hk h1 (by omega) (EN hC hw hx hi hrep he hk (h0 k ln h1 (by omega) hk) h1 (by omega) hb1 hb2 h))
theorem vC (hC:CxOk C)(hw:C.words≤255)(hx:ScOk C x ins)(hi:ins.length≤4)(hrep:zR C rep G x ins){base:Int}(hb1:-10 * (ins.length:Int)≤base)(hb2:base≤1000+30 * ins.length)(s:Gs):Tr2 C G s (bF C rep x ins base s).1∧∀j∈(bF C rep x ins base s).2,JP (bF C rep x ins base s).1.items j:=by
 obtain⟨ln,h1,h2⟩:=hx.fn
 obtain⟨e,h3,_,_,h4⟩:=hC.fn _ _ h1 h2
 obtain⟨e',g3,g4,g4',g5,_⟩:=hx.endE hC
 rw[h3]at g3
 injection g3 with g3
 subst g3
 have h:=BA hC hw hx hi hrep h3 hb1 hb2 (fun i y k1 k2 hy=>by
  by_cases hie:i=e
  ·subst hie
   obtain⟨z,hz,h7⟩:=bP h3
   rw[hy]at hz
   injection hz with hz
   subst hz
   omega
  ·exact(h4 i y (by omega) (by omega) hy).1) (g0:=s) (e - x.f) (x.f+1) (dK C s) (by omega) (by omega) ⟨Tr2.refl s,fun v hv=>by
   simp only[dK,List.mem_replicate]at hv
   omega,fun i k1 k2 _=>by omega,fun j hj=>(by cases hj),by simp[dK]⟩
 unfold bF
 rw[g5]
 exact⟨h.tr,h.lv⟩
end
theorem BD {C:Cx}{G:Nat}(hC:CxOk C)(hw:C.words≤255):∀(lev:Nat) {x:Sc} {ins:List Nat},ScOk C x ins→zR C (cH C lev) G x ins
 | 0,x,ins,hx,line,g,d,s,_,_,_,_,_=>Tr2.refl s
 | lev+1,x,ins,hx,line,g,d,s,hl,hg,h1,h2,hr=>by
  obtain⟨r1,r2,r3,_⟩:=iM hr
  have hin:=hC.inl
  have hy:=oc hC hx line hg
  have ha:=hC.argsN g
  have hil:(ins++[g]).length=ins.length+1:=by simp
  have t1:=GV (G:=G) hC hx (by omega) hl hg h1 h2 s
  have t2:=Ev (G:=G) hl x (d - argsN C.p g) (mA C x line g d s)
  have t3:=vC (G:=G) hC hw hy (by omega) (BD hC hw lev hy) (base:=d - argsN C.p g) (by omega) (by omega) (fT C x line (d - argsN C.p g) (mA C x line g d s))
  exact((t1.trans t2).trans t3.1).trans (vL _ t3.2)
theorem xV {C:Cx}(hC:CxOk C)(hw:C.words≤255){g:Nat}(hg:cn C g)(e5:C.args=argsN C.p g):InvI C g (eb C g).items∧(eb C g).most≤60:=by
 have hS:ScOk C (bU C g) [g]:=⟨hg,rfl,⟨Int.le_refl _,by simp[bU]⟩,rfl,by simp[bU],fun _=>e5,rfl⟩
 have hww:=hC.words
 have t:=(vC (G:=g) hC hw hS (by simp) (BD hC hw C.b.far.toNat hS) (base:=C.words) (by simp only[List.length_cons,List.length_nil];omega) (by simp only[List.length_cons,List.length_nil];omega) (gu C g)).1
 obtain⟨l1,l2⟩:=di hC hg
 refine⟨t.inv ⟨_,[],rfl,⟨?_,rfl,rfl⟩,fun it h=>by cases h⟩,t.most ?_⟩
 ·simp only[pE];split <;> omega
 ·show(localsOf C.p (g:Int)).length - C.args≤60;omega
theorem nO {p:List HP}{f:Int}{b:HH}(hs:aA 1048576 (.lst 4 (p.map HP.tr)))(h1:ax p=true)(h2:aV b=true)(h3:0≤f)(h4:f < (aF p).length):∃(g:Nat) (C:Cx),(aF p)[f.toNat]?=some g∧C.p=foldIf p b∧0≤C.words∧C.words≤255∧InvI C g (aR p f b):=by
 obtain⟨g,C,k1,k2,k3,k4,k5,k6,k7,k8,k9⟩:=qA hs h1 h2 h3 h4
 have hb:0≤b.far∧b.far≤3:=by
  unfold aV at h2
  simp only[Bool.and_eq_true,within_iff]at h2
  exact h2.2
 have hpg:=(xE hs h1).foldIf b
 have ha:(0:Int)≤(argsN (foldIf p b) g:Int)∧(argsN (foldIf p b) g:Int)≤4:=by have:=k2.argsN g;rw[k3]at this;omega
 have hC0:CxOk (ctx (foldIf p b) f.toNat g b 0):=hpg.cx ha (by omega) hb
 obtain⟨y,y1,y2⟩:=k7
 have hf0:cn (ctx (foldIf p b) f.toNat g b 0) g:=⟨y,by rw[k3]at y1;exact y1,y2⟩
 have h60:=(xV hC0 (by show(0:Int)≤255;omega) hf0 rfl).2
 have hw:=k2.words
 refine⟨g,C,k1,k3,hw.1,by omega,?_⟩
 rw[k8]
 exact(xV k2 (by omega) ⟨y,y1,y2⟩ k5).1
end Go.Proofs.YtjmplnfiabmalaaGreat
namespace Go.Proofs.YtjmplnfiabmalaaGreat
open Go.Sim
set_option maxRecDepth 100000
set_option maxHeartbeats 4000000
theorem uM {α:Type}{g:α→List Tr}{L:Int}:∀{l:List α},(∀x∈l,aC L (g x))→eX L (l.map g)
 | [],_=>by rw[List.map_nil,eX];trivial
 | x::l,h=>by
  rw[List.map_cons,eX]
  exact⟨h x (by simp),uM fun y hy=>h y (by simp[hy])⟩
theorem il {α:Type}{g:α→List Tr}{l:List α}{sz:Nat}(hl:l.length≤1048576)(h:∀x∈l,aC 1048576 (g x)):aA 1048576 (.lst sz (l.map g)):=by
 rw[aA]
 exact⟨by simp;omega,uM h⟩
theorem tE {l:List Int}(hl:l.length≤1048576):aA 1048576 (.lst 1 (l.map aa)):=il hl fun x _=>by simp[aa,aC,aA]
def aT (c:Int):Int×Bool:=
 if c=0 then(4,true)else if c=1∨c=2∨c=3∨c=4∨c=10∨c=11 then(2,true)
 else if c=16 then(2,false)else if c=12∨c=13∨c=14∨c=15 then(1,false)else(0,false)
def aK (c:Int):Int:=if ah c 0 17 then(aT c).1+1 else 0
theorem cY (c:Int):0≤(aT c).1∧(aT c).1≤4:=by
 unfold aT
 repeat' split
 all_goals simp
theorem ic (c:Int):0≤aK c∧aK c≤5:=by
 have:=cY c
 unfold aK
 split <;> omega
abbrev Ga (c:Int):Res:= .tup [.c (.t (.int .i64 (aT c).1)),.c (.t (.bool (aT c).2))]
theorem kT (c:Int):Sim.Spec Tryz.prog 171 [tvI c] (Ga c):=by
 refine ao hΓ ay Tryz.func171 rfl (by decide) rfl ?_
 repeat' ((conv=>whnf);first|refine Or.inl ?_|apply oi|(apply fi<;>intro h)|refine⟨_,rfl,?_⟩|exact rfl)
 all_goals try exact⟨KO⟩
 all_goals(refine⟨?_⟩;simp_all[aT])
theorem eI (c:Int):Sim.Spec Tryz.prog 151 [tvI c] (Ga c):=by
 refine ao hΓ ay Tryz.func151 rfl (by decide) rfl ?_
 repeat' ((conv=>whnf);first|refine Or.inl ?_|apply oi|(apply fi<;>intro h)|refine⟨_,rfl,?_⟩|exact rfl)
 all_goals try exact⟨KO⟩
 all_goals(refine⟨?_⟩;simp_all[aT])
theorem uW (c:Int):Sim.Spec Tryz.prog 158 [tvI c] (rI (aK c)):=by
 refine ao hΓ ay Tryz.func158 rfl (by decide) rfl ?_
 have hb:=bm c 0 17
 have ha:=kT c
 have hle:=cY c
 unfold aK
 cases hw:ah c 0 17 with
 | false=>
  rw[hw]at hb
  repeat' ((conv=>whnf);first|refine Or.inl ?_|apply oi|(apply fi<;>intro h)|refine ci hb (ai rfl (ai rfl (ai rfl trivial))) ?_|refine⟨_,rfl,?_⟩|exact rfl)
  all_goals try exact⟨KO⟩
 | true=>
  rw[hw]at hb
  repeat' ((conv=>whnf);first|refine Or.inl ?_|apply oi|(apply fi<;>intro h)|refine ci hb (ai rfl (ai rfl (ai rfl trivial))) ?_|refine ci ha (ai rfl trivial) ?_|refine⟨_,rfl,?_⟩|exact rfl)
  all_goals try exact⟨KO⟩
  exact⟨by rw[IntWalk.i64_in _ (by omega)];rfl⟩
theorem mJ (c:Int):Sim.Spec Tryz.prog 77 [tvI c] (rI (aK c)):=by
 refine ao hΓ ay Tryz.func77 rfl (by decide) rfl ?_
 have hb:=aH c 0 17
 have ha:=eI c
 have hle:=cY c
 unfold aK
 cases hw:ah c 0 17 with
 | false=>
  rw[hw]at hb
  repeat' ((conv=>whnf);first|refine Or.inl ?_|apply oi|(apply fi<;>intro h)|refine ci hb (ai rfl (ai rfl (ai rfl trivial))) ?_|refine⟨_,rfl,?_⟩|exact rfl)
  all_goals try exact⟨KO⟩
 | true=>
  rw[hw]at hb
  repeat' ((conv=>whnf);first|refine Or.inl ?_|apply oi|(apply fi<;>intro h)|refine ci hb (ai rfl (ai rfl (ai rfl trivial))) ?_|refine ci ha (ai rfl trivial) ?_|refine⟨_,rfl,?_⟩|exact rfl)
  all_goals try exact⟨KO⟩
  exact⟨by rw[IntWalk.i64_in _ (by omega),Int.add_comm];rfl⟩
def bN:Int→List HO→List Int
 | at0,[]=>[at0]
 | at0,x::l=>at0::bN (at0+aK x.fad.fab) l
def wP (at0:Int)(l:List HO):Int:=atL (bN at0 l) l.length
def xF (x:HO)(a:Int):HO:=⟨⟨x.fad.fab,a⟩,x.fat,x.fam,x.fax,x.faw,x.faE⟩
def nN (x:HO):Bool:=x.fad.fab==10 || x.fad.fab==11
def gn (st:List Int)(k:Nat)(x:HO):HO:=if nN x=true then xF x (atL st x.fad.faf.toNat - atL st (k+1))else x
def mn (st:List Int):Nat→List HO→List HS
 | _,[]=>[]
 | k,x::l=>⟨atL st k,gn st k x⟩::mn st (k+1) l
def ga (l:List HO)(at0:Int):List HS:=mn (bN at0 l) 0 l
theorem qu:∀(at0:Int) (l:List HO),(bN at0 l).length=l.length+1
 | _,[]=>rfl
 | at0,x::l=>by rw[bN,List.length_cons,qu,List.length_cons]
theorem gT (at0:Int)(l:List HO):atL (bN at0 l) 0=at0:=by cases l <;> rfl
theorem un (a:Int)(l:List Int)(k:Nat):atL (a::l) (k+1)=atL l k:=by simp[atL]
theorem gR:∀{at0:Int} {l:List HO} {k:Nat} {x:HO},l[k]?=some x→atL (bN at0 l) (k+1)=atL (bN at0 l) k+aK x.fad.fab
 | _,[],_,_,h=>by simp at h
 | at0,y::l,0,x,h=>by
  rw[List.getElem?_cons_zero]at h
  injection h with h
  subst h
  rw[bN,un,gT]
  rfl
 | at0,y::l,k+1,x,h=>by
  rw[List.getElem?_cons_succ]at h
  rw[bN,un,un,gR h]
theorem iH {at0:Int}{l:List HO}:∀{k:Nat},k≤l.length→at0≤atL (bN at0 l) k∧atL (bN at0 l) k≤at0+5 * k
 | 0,_=>by rw[gT];omega
 | k+1,h=>by
  obtain⟨x,hx⟩:=ag (l:=l) (k:=k) (by omega)
  have:=iH (at0:=at0) (l:=l) (k:=k) (by omega)
  have:=ic x.fad.fab
  rw[gR hx]
  omega
theorem wZ {l:List Int}{k:Nat}(h:k < l.length):l[k]?=some (atL l k):=by
 obtain⟨x,hx⟩:=ag h
 rw[atL,hx];rfl
theorem dH {α:Type}{l:List α}{k:Nat}{x:α}(h:l[k]?=some x):l.take (k+1)=l.take k++[x]:=by
 rw[List.take_add_one,h];rfl
theorem qV (st:List Int):∀(k:Nat) (l:List HO),(mn st k l).length=l.length
 | _,[]=>rfl
 | k,x::l=>by rw[mn,List.length_cons,qV,List.length_cons]
theorem qD (st:List Int):∀{l:List HO} {j k:Nat} {x:HO},l[j]?=some x→(mn st k l)[j]?=some ⟨atL st (k+j),gn st (k+j) x⟩
 | [],_,_,_,h=>by simp at h
 | y::l,0,k,x,h=>by
  rw[List.getElem?_cons_zero]at h
  injection h with h
  subst h
  rfl
 | y::l,j+1,k,x,h=>by
  rw[List.getElem?_cons_succ]at h
  rw[mn,List.getElem?_cons_succ,qD st h,show k+1+j=k+(j+1) by omega]
theorem dL (l:List HO)(at0:Int):(ga l at0).length=l.length:=qV _ _ _
theorem gk {l:List HO}{at0:Int}{j:Nat}{x:HO}(h:l[j]?=some x):(ga l at0)[j]?=some ⟨atL (bN at0 l) j,gn (bN at0 l) j x⟩:=by
 have:=qD (bN at0 l) (k:=0) h
 rwa [Nat.zero_add]at this
def Bm (l:List HO):Prop:=∀x∈l,nN x=true→0≤x.fad.faf∧x.fad.faf≤l.length
theorem iL {x:HO}:nN x=true↔x.fad.fab=10∨x.fad.fab=11:=by simp[nN]
def qO (b:HH)(image:Int)(f:Nat):Bool:=if b.faD=true then(f:Int) % 2==image else image==0
noncomputable def cv (p:List HP) (b:HH) (image:Int):Nat→Nat→Int→List (Nat×List HS)
 | 0,_,_=>[]
 | n+1,f,at0=>if qO b image f=true then(f,ga (aR p f b) at0)::cv p b image n (f+1) (wP at0 (aR p f b))else cv p b image n (f+1) at0
noncomputable def fE (p:List HP) (b:HH) (image:Int):List HS:=
 if ax p=true∧aV b=true∧ah image 0 1=true then((cv p b image (aF p).length 0 0).map Prod.snd).flatten else []
structure FnOk (p:List HP) (b:HH) (f:Nat):Prop where
 pos:0 < (aR p f b).length
 len:(aR p f b).length≤2500
 jmp:Bm (aR p f b)
theorem InvI.jumps {C:Cx}{g:Nat}{l:List HO}(h:InvI C g l):0 < l.length∧Bm l:=by
 obtain⟨a,t,rfl,h2,h3⟩:=h
 refine⟨by simp,fun x hx hj=>?_⟩
 rw[iL]at hj
 rcases List.mem_cons.1 hx with rfl|hx
 ·have:=h2.1;omega
 ·exact(h3 x hx).jump hj
theorem Gv {p:List HP}{b:HH}(hs:aA 1048576 (.lst 4 (p.map HP.tr)))(h1:ax p=true)(h2:aV b=true){f:Nat}(h:f < (aF p).length):FnOk p b f:=by
 obtain⟨g,C,_,_,_,_,hi⟩:=nO (f:=(f:Int)) hs h1 h2 (by omega) (by omega)
 exact⟨hi.jumps.1,(gW hs).1,hi.jumps.2⟩
theorem jO {p:List HP}(h1:ax p=true):(aF p).length≤6∧p.length≤60:=by
 rw[qx]at h1
 simp only[Bool.and_eq_true,decide_eq_true_eq]at h1
 exact⟨h1.2.1,h1.1⟩
theorem Fh {l:List HO}{at0:Int}:at0≤wP at0 l∧wP at0 l≤at0+5 * l.length:=iH (Nat.le_refl _)
theorem lX {p:List HP}{b:HH}{image:Int}{n f:Nat}{at0:Int}:cv p b image (n+1) f at0=if qO b image f=true then(f,ga (aR p f b) at0)::cv p b image n (f+1) (wP at0 (aR p f b))else cv p b image n (f+1) at0:=rfl
abbrev Hp (p:List HP)(b:HH)(image:Int):={q:Nat×Int×List (Nat×List HS) // q.1≤(aF p).length∧(0≤q.2.1∧q.2.1≤12500 * q.1)∧q.2.2.length≤q.1∧q.2.2++cv p b image ((aF p).length - q.1) q.1 q.2.1=cv p b image (aF p).length 0 0}
theorem jY (p:List HP)(b:HH)(image:Int):∀(n f:Nat) (at0:Int),(cv p b image n f at0).length≤n
 | 0,_,_=>Nat.le_refl _
 | n+1,f,at0=>by
  rw[cv]
  split
  ·have:=jY p b image n (f+1) (wP at0 (aR p f b));rw[List.length_cons];omega
  ·have:=jY p b image n (f+1) at0;omega
theorem jS {p:List HP}{b:HH}(hs:aA 1048576 (.lst 4 (p.map HP.tr))){image:Int}:∀{n f:Nat} {at0:Int} {x:Nat×List HS},x∈cv p b image n f at0→x.2.length≤2500∧∀y∈x.2,y.fal.fax.length≤4
 | 0,_,_,_,h=>by cases h
 | n+1,f,at0,x,h=>by
  rw[cv]at h
  split at h
  ·rcases List.mem_cons.1 h with rfl|h
   ·obtain⟨c1,c2⟩:=gW (p:=p) (f:=(f:Int)) (b:=b) hs
    refine⟨by rw[dL];exact c1,fun y hy=>?_⟩
    obtain⟨j,hj⟩:=List.getElem?_of_mem hy
    have hjl:=bg hj
    rw[dL]at hjl
    obtain⟨z,hz⟩:=ag hjl
    rw[gk hz]at hj
    injection hj with hj
    subst hj
    have:(gn (bN at0 (aR p f b)) j z).fax=z.fax:=by unfold gn;split <;> rfl
    rw[this]
    exact c2 z (List.mem_of_getElem? hz)
   ·exact jS hs h
  ·exact jS hs h
def aD (L:List (Nat×List HS)):List HS:=(L.map Prod.snd).flatten
theorem Ao {L:List (Nat×List HS)}{k:Nat}{x:Nat×List HS}(h:L[k]?=some x):aD (L.take (k+1))=aD (L.take k)++x.2:=by
 rw[dH h];simp[aD]
theorem pK {L:List (Nat×List HS)}(h:∀x∈L,x.2.length≤2500):∀{k:Nat},k≤L.length→(aD (L.take k)).length≤2500 * k
 | 0,_=>by simp[aD]
 | k+1,hk=>by
  obtain⟨x,hx⟩:=ag (l:=L) (k:=k) (by omega)
  have:=pK h (k:=k) (by omega)
  have:=h x (List.mem_of_getElem? hx)
  rw[Ao hx,List.length_append]
  omega
def jV (c:Int):Int×Int:=
 if c=0 then(-2147483648,2147483647)else if c=1∨c=2∨c=3∨c=4∨c=10∨c=11 then(-32768,32767)
 else if c=16 then(0,65535)else if c=12∨c=13∨c=14∨c=15 then(0,255)else(0,0)
def cU (c a:Int):Bool:=ah c 0 17 && ah a (jV c).1 (jV c).2
theorem yw (c:Int):(aT c=(4,true)∧jV c=(-2147483648,2147483647))∨(aT c=(2,true)∧jV c=(-32768,32767))∨(aT c=(2,false)∧jV c=(0,65535))∨(aT c=(1,false)∧jV c=(0,255))∨(aT c=(0,false)∧jV c=(0,0)):=by
 unfold aT jV
 repeat' split
 all_goals simp
theorem yv (x:HR):Sim.Spec Tryz.prog 180 [.agg x.tr] (rB (cU x.fab x.faf)):=by
 refine bh hΓ ay Tryz.func180 rfl (by decide) rfl ?_
 have hi:=aH x.fab 0 17
 have ha:=eI x.fab
 have h0:cU x.fab x.faf=(ah x.fab 0 17 && ah x.faf (jV x.fab).1 (jV x.fab).2):=rfl
 rw[h0]
 cases hw:ah x.fab 0 17 with
 | false=>
  rw[hw]at hi
  repeat' ((conv=>whnf);first|apply Wx|apply W6|apply oi|(apply fi<;>intro h)|refine cl ha ?_|refine cl hi ?_|refine⟨_,rfl,?_⟩|exact rfl)
  all_goals try exact⟨KP⟩
 | true=>
  rw[hw]at hi
  rw[Bool.true_and]
  rcases yw x.fab with⟨e1,e2⟩|⟨e1,e2⟩|⟨e1,e2⟩|⟨e1,e2⟩|⟨e1,e2⟩
  all_goals(
   rw[Ga,e1]at ha
   rw[e2]
   have gb:=aH x.faf (jV x.fab).1 (jV x.fab).2
   rw[e2]at gb
   repeat' ((conv=>whnf);first|apply Wx|apply W6|apply oi|(apply fi<;>intro h)|refine cl ha ?_|refine cl hi ?_|refine .inl (ci gb (ai rfl (ai KW (ai KW trivial))) ?_)|refine⟨_,rfl,?_⟩|exact rfl)
   all_goals try exact⟨KP⟩
   skip)
def jy (a:Int)(k:Nat):UInt8:=UInt8.ofNat ((a.fdiv (2 ^ (8 * k))) % 256).toNat
def gx (a:Int)(n:Nat):List UInt8:=(List.range n).map (jy a)
def aX (x:HR):List UInt8:=if cU x.fab x.faf=true then UInt8.ofNat x.fab.toNat::gx x.faf (aT x.fab).1.toNat else []
theorem yY (a:Int)(n:Nat):gx a (n+1)=gx a n++[jy a n]:=by simp[gx,List.range_succ]
theorem fg {x:HR}(h:cU x.fab x.faf=true):((aX x).length:Int)=aK x.fab:=by
 have hle:=cY x.fab
 rw[aX,if_pos h]
 unfold cU at h
 rw[Bool.and_eq_true]at h
 rw[aK,if_pos h.1]
 simp[gx];omega
theorem qY (x:HR):(aX x).length≤5:=by
 have hle:=cY x.fab
 unfold aX
 split
 ·simp[gx];omega
 ·simp
theorem Dg (a:Int){k:Nat}(h:k≤4):IntKind.u8.wrap (a.fdiv (2 ^ min (IntKind.i64.wrap (8 * (k:Int))).toNat IntKind.i64.bits))=((jy a k).toNat:Int):=by
 have h8:IntKind.i64.wrap (8 * (k:Int))=((8 * k:Nat):Int):=by rw[IntWalk.i64_in _ (by omega)];rfl
 rw[h8,Int.toNat_natCast,Nat.min_eq_left (by show 8 * k≤64;omega)]
 unfold jy
 generalize a.fdiv (2 ^ (8 * k))=z
 simp[IntKind.wrap,IntKind.bits,IntKind.signed]
 omega
theorem rD (x:HR):Sim.Spec Tryz.prog 122 [.agg x.tr] (rS (aX x)):=by
 refine bh hΓ ay Tryz.func122 rfl (by decide) rfl ?_
 have ho:=yv x
 have ha:=eI x.fab
 unfold aX
 cases hw:cU x.fab x.faf with
 | false=>
  rw[hw]at ho
  repeat' ((conv=>whnf);first|apply Wx|apply W6|apply oi|(apply fi<;>intro h)|refine cl ho ?_|refine⟨_,rfl,?_⟩|exact rfl)
  all_goals try exact⟨KP⟩
 | true=>
  rw[hw]at ho
  rw[if_pos rfl]
  have hc:0≤x.fab∧x.fab≤17:=by
   unfold cU at hw
   rw[Bool.and_eq_true]at hw
   exact within_iff.1 hw.1
  obtain⟨n,hn⟩:∃n:Nat,(aT x.fab).1=(n:Int):=⟨(aT x.fab).1.toNat,by have:=cY x.fab;omega⟩
  have hnl:n≤4:=by have:=cY x.fab;omega
  rw[Ga,hn]at ha
  rw[hn,Int.toNat_natCast]
  generalize hb0:UInt8.ofNat x.fab.toNat=b0
  have hbc:IntKind.u8.wrap x.fab=(b0.toNat:Int):=by
   subst hb0
   simp[IntKind.wrap,IntKind.bits,IntKind.signed]
   omega
  repeat' ((conv=>whnf);first|apply Wx|apply W6|apply oi|(apply fi<;>intro h)|refine cl ho ?_|refine cl ha ?_|refine⟨_,rfl,?_⟩|exact rfl)
  all_goals try exact⟨KP⟩
  conv=>whnf
  refine⟨{k:Nat // k≤n},fun k=>⟨[(1,.r (.c (.ptr (1,0,0) 0))),(3,tI .i64 (n:Int)),(5,.r (.c (.own (19,0,0)))),(6,tI .i64 (k.1:Int))],[((19,0,0),some (.arr true 1 ((b0::gx x.faf k.1).map aL))),((1,0,0),some (.box [.t (.int .i64 x.fab),.t (.int .i64 x.faf)]))],[19,1]⟩,fun k=>n - k.1,⟨0,by omega⟩,?_,?_⟩
  ·skip
   repeat' ((conv=>whnf);first|apply Wx|apply W6|apply oi|(apply fi<;>intro h)|refine⟨_,rfl,?_⟩|exact rfl)
   all_goals try exact⟨KP⟩
   all_goals try exact⟨by rw[hbc];rfl⟩
  intro⟨k,hk⟩
  dsimp only
  have hbl:((b0::gx x.faf k).map aL).length=k+1:=by simp[gx]
  by_cases hlt:k < n
  ·have h8:IntKind.i64.wrap (8 * (k:Int))=((8 * k:Nat):Int):=by rw[IntWalk.i64_in _ (by omega)];rfl
   have hbe:=Dg x.faf (k:=k) (by omega)
   repeat' ((conv=>whnf);first|apply Wx|apply W6|apply oi|(apply fi<;>intro h)|refine⟨_,rfl,?_⟩|exact rfl)
   all_goals try exact⟨KP⟩
   all_goals try exact KX
   all_goals try exact⟨by rw[h8];omega⟩
   all_goals try exact⟨⟨by simp only[List.length_nil,List.length_cons,hbl] <;> omega,by simp only[List.length_nil,List.length_cons,hbl] <;> omega⟩⟩
   conv=>whnf
   refine⟨⟨k+1,by omega⟩,?_,KD⟩
   repeat' ((conv=>whnf);first|apply Wx|apply W6|apply oi|(apply fi<;>intro h)|refine⟨_,rfl,?_⟩|exact rfl)
   all_goals try exact⟨KP⟩
   all_goals try exact⟨KW⟩
   all_goals try exact⟨by dsimp only;rw[yY,hbe,←List.cons_append,List.map_append];rfl⟩
  ·have hkn:k=n:=by omega
   subst hkn
   repeat' ((conv=>whnf);first|apply Wx|apply W6|apply oi|(apply fi<;>intro h)|refine⟨_,rfl,?_⟩|exact rfl)
   all_goals try exact⟨KP⟩
   all_goals try exact KX
theorem wq {c a:Int}(h:dI c a):cU c a=true:=by
 obtain⟨h0,h1,h2,h3,h4,h5,h6⟩:=h
 unfold cU
 rw[Bool.and_eq_true,within_iff,within_iff]
 refine⟨⟨h0,h1⟩,?_⟩
 unfold jV
 split
 ·have:=h2 (by assumption);dsimp only;omega
 split
 ·have:=h3 (by omega);dsimp only;omega
 split
 ·have:=h4 (by assumption);dsimp only;omega
 split
 ·have:=h5 (by omega);dsimp only;omega
 ·have:=h6 (by omega);dsimp only;omega
structure PlI (p:List HP) (f j:Nat) (y:HS):Prop where
 head:j=0→(y.fal.fad.fab=13∨y.fal.fad.fab=15)∧∃g ln,(aF p)[f]?=some g∧y.fal.fat=(g:Int)∧p[g]?=some ln∧ln.faa=0
 body:0 < j→y.fal.fad.fab≠13∧∃(n:Nat) (ln:HP),y.fal.fat=(n:Int)∧p[n]?=some ln∧ln.faa≠0
 op:cU y.fal.fad.fab y.fal.fad.faf=true
theorem xf (p:List HP)(b:HH):alike (foldIf p b) p:=by
 unfold foldIf
 split
 ·exact iN p
 ·rfl
theorem ny (st:List Int)(k:Nat)(x:HO):(gn st k x).fad.fab=x.fad.fab:=by unfold gn;split <;> rfl
theorem tQ (st:List Int)(k:Nat)(x:HO):(gn st k x).fat=x.fat:=by unfold gn;split <;> rfl
theorem lL {p:List HP}{b:HH}{at0:Int}(hs:aA 1048576 (.lst 4 (p.map HP.tr)))(h1:ax p=true)(h2:aV b=true){f:Nat}(h:f < (aF p).length){j:Nat}{y:HS}(hy:(ga (aR p f b) at0)[j]?=some y):PlI p f j y:=by
 obtain⟨g,C,k1,k2,k3,k4,hi⟩:=nO (f:=(f:Int)) hs h1 h2 (by omega) (by omega)
 have hlen:=(gW (p:=p) (f:=(f:Int)) (b:=b) hs).1
 have hjl:=hi.jumps.2
 have hj:j < (aR p (f:Int) b).length:=by have:=bg hy;rwa [dL]at this
 obtain⟨x,hx⟩:=ag hj
 rw[gk hx]at hy
 injection hy with hy
 subst hy
 rw[Int.toNat_natCast]at k1
 obtain⟨hgl,ln,hg1,hg2⟩:=mi (List.mem_of_getElem? k1)
 generalize aR p (f:Int) b=I at *
 obtain⟨a,t,rfl,ha,ht⟩:=hi
 have hop:¬nN x=true→dI x.fad.fab x.fad.faf:=fun hn=>by
  rw[iL]at hn
  cases j with
  | zero=>
   simp only[List.getElem?_cons_zero,Option.some.injEq]at hx
   subst hx
   have e3:=ha.2.2
   rcases ha.1 with e|e <;> (rw[e,e3];unfold dI;omega)
  | succ j=>exact(ht x (List.mem_of_getElem? (by simpa using hx))).op hn
 refine⟨fun e=>?_,fun e=>?_,?_⟩
 ·subst e
  simp only[List.getElem?_cons_zero,Option.some.injEq]at hx
  subst hx
  dsimp only
  rw[ny,tQ]
  exact⟨ha.1,g,ln,k1,ha.2.1,hg1,hg2⟩
 ·obtain⟨j,rfl⟩:∃i,j=i+1:=⟨j - 1,by omega⟩
  have hg:=ht x (List.mem_of_getElem? (by simpa using hx))
  dsimp only
  rw[ny,tQ]
  refine⟨hg.enter,?_⟩
  obtain⟨z,z0,z1,z2⟩:=hg.line
  rw[k2]at z1
  obtain⟨w,w1,w2,_⟩:=(xf p b).get z1
  exact⟨x.fat.toNat,w,by omega,w1,by omega⟩
 ·dsimp only
  by_cases hn:nN x=true
  ·rw[gn,if_pos hn]
   have h3:=hjl x (List.mem_of_getElem? hx) hn
   rw[iL]at hn
   have s1:=iH (at0:=at0) (l:=a::t) (k:=x.fad.faf.toNat) (by omega)
   have s2:=iH (at0:=at0) (l:=a::t) (k:=j+1) (by omega)
   refine wq ?_
   dsimp only[xF]
   unfold dI
   omega
  ·rw[gn,if_neg hn]
   exact wq (hop hn)
def aq (l:List HS):List UInt8:=l.flatMap fun x=>aX x.fal.fad
theorem aO (a b:List HS):aq (a++b)=aq a++aq b:=by simp[aq]
theorem eQ (x:HS):aq [x]=aX x.fal.fad:=by simp[aq]
theorem iB:∀(l:List HS),(aq l).length≤5 * l.length
 | []=>by simp[aq]
 | x::l=>by
  have h1:=iB l
  have h2:=qY x.fal.fad
  rw[show x::l=[x]++l from rfl,aO,List.length_append,List.length_append,eQ]
  simp only[List.length_cons,List.length_nil]
  omega
theorem jp {l:List HO}{at0:Int}(h:∀y∈ga l at0,cU y.fal.fad.fab y.fal.fad.faf=true):∀{k:Nat},k≤l.length→((aq ((ga l at0).take k)).length:Int)=atL (bN at0 l) k - at0
 | 0,_=>by rw[gT];simp[aq]
 | k+1,hk=>by
  obtain⟨x,hx⟩:=ag (l:=l) (k:=k) (by omega)
  have hg:=gk (at0:=at0) hx
  have ih:=jp h (k:=k) (by omega)
  have he:=fg (h _ (List.mem_of_getElem? hg))
  dsimp only at he
  rw[ny]at he
  rw[dH hg,aO,List.length_append,eQ,gR hx]
  dsimp only
  omega
def bk (p:List HP)(f:Nat):List UInt8:=match(aF p)[f]? with
 | some g=>(match p[g]? with|some y=>y.fac|none=>[])
 | none=>[]
def bG (p:List HP):Int→List (Nat×List HS)→List HW
 | _,[]=>[]
 | at0,(f,l)::L=>⟨bk p f,at0,(aq l).length⟩::bG p (at0+(aq l).length) L
theorem qS (p:List HP):∀(L:List (Nat×List HS)) (at0:Int) (x:Nat×List HS),bG p at0 (L++[x])=bG p at0 L++[⟨bk p x.1,at0+(aq (aD L)).length,(aq x.2).length⟩]
 | [],at0,(f,l)=>by simp[bG,aD,aq]
 |(g,m)::L,at0,x=>by
  rw[List.cons_append,bG,qS p L,bG,List.cons_append]
  congr 3
  have:aD ((g,m)::L)=m++aD L:=by simp[aD]
  rw[this,aO,List.length_append]
  simp only[HW.mk.injEq,true_and,and_true]
  omega
theorem kB (p:List HP):∀(L:List (Nat×List HS)) (at0:Int),(bG p at0 L).length=L.length
 | [],_=>rfl
 |(f,l)::L,at0=>by rw[bG,List.length_cons,kB p L,List.length_cons]
noncomputable def aj (p:List HP) (b:HH) (image:Int):HM:=
 if ax p=true∧aV b=true∧ah image 0 1=true then⟨aq (aD (cv p b image (aF p).length 0 0)),bG p 0 (cv p b image (aF p).length 0 0)⟩else⟨[],[]⟩
theorem lq {p:List HP}{b:HH}{image:Int}:∀{n f:Nat} {at0:Int} {x:Nat×List HS},x∈cv p b image n f at0→f≤x.1∧x.1 < f+n
 | 0,_,_,_,h=>by cases h
 | n+1,f,at0,x,h=>by
  rw[cv]at h
  split at h
  ·rcases List.mem_cons.1 h with rfl|h
   ·exact⟨Nat.le_refl _,by dsimp only;omega⟩
   ·have:=lq h;omega
  ·have:=lq h;omega
theorem mz {p:List HP}{b:HH}{image:Int}(hs:aA 1048576 (.lst 4 (p.map HP.tr)))(h1:ax p=true)(h2:aV b=true):∀{n f:Nat} {at0:Int} {i:Nat} {x:Nat×List HS},f+n≤(aF p).length→(cv p b image n f at0)[i]?=some x→
  x.2=ga (aR p (x.1:Int) b) (at0+((aq (aD ((cv p b image n f at0).take i))).length:Int))∧x.1 < (aF p).length∧0 < x.2.length
 | 0,_,_,_,_,_,h=>by simp[cv]at h
 | n+1,f,at0,i,x,hf,h=>by
  rw[lX]at h ⊢
  split at h
  ·rename_i hin
   rw[if_pos hin]
   cases i with
   | zero=>
    simp only[List.getElem?_cons_zero,Option.some.injEq]at h
    subst h
    have:=(Gv (f:=f) hs h1 h2 (by omega)).pos
    refine⟨by simp[aD,aq],by dsimp only;omega,by dsimp only;rw[dL];exact this⟩
   | succ i=>
    rw[List.getElem?_cons_succ]at h
    obtain⟨k1,k2,k3⟩:=mz hs h1 h2 (by omega) h
    refine⟨?_,k2,k3⟩
    have hl:=jp (l:=aR p (f:Int) b) (at0:=at0) (fun y hy=>by
     obtain⟨j,hj⟩:=List.mem_iff_getElem?.1 hy
     exact(lL hs h1 h2 (by omega) hj).op) (k:=(aR p (f:Int) b).length) (Nat.le_refl _)
    rw[List.take_of_length_le (by rw[dL];exact Nat.le_refl _)]at hl
    rw[k1,List.take_succ_cons,show ∀(a:Nat×List HS) (l:List (Nat×List HS)),aD (a::l)=a.2++aD l from fun a l=>by simp[aD],aO,List.length_append]
    congr 1
    have he:wP at0 (aR p (f:Int) b)=atL (bN at0 (aR p (f:Int) b)) (aR p (f:Int) b).length:=rfl
    dsimp only
    rw[he]at *
    omega
  ·rename_i hin
   rw[if_neg hin]
   exact mz hs h1 h2 (by omega) h
theorem kJ {p:List HP}{b:HH}{image:Int}(hs:aA 1048576 (.lst 4 (p.map HP.tr)))(h1:ax p=true)(h2:aV b=true){i:Nat}{x:Nat×List HS}(h:(cv p b image (aF p).length 0 0)[i]?=some x){j:Nat}{y:HS}(hy:x.2[j]?=some y):
  PlI p x.1 j y∧y.fav=((aq (aD ((cv p b image (aF p).length 0 0).take i))).length:Int)+(aq (x.2.take j)).length:=by
 obtain⟨k1,k2,_⟩:=mz hs h1 h2 (by omega) h
 generalize hS:((aq (aD ((cv p b image (aF p).length 0 0).take i))).length:Int)=S at *
 rw[Int.zero_add]at k1
 rw[k1]at hy ⊢
 refine⟨lL hs h1 h2 k2 hy,?_⟩
 have hj:j < (aR p (x.1:Int) b).length:=by have:=bg hy;rwa [dL]at this
 rw[jp (fun z hz=>by
  obtain⟨j,hj⟩:=List.mem_iff_getElem?.1 hz
  exact(lL hs h1 h2 k2 hj).op) (by omega)]
 obtain⟨z,hz⟩:=ag hj
 rw[gk hz]at hy
 injection hy with hy
 subst hy
 dsimp only
 omega
def oS (L:List (Nat×List HS))(i j:Nat):List HS:=match L[i]? with|some x=>x.2.take j|none=>[]
def fv (L:List (Nat×List HS))(i j:Nat):List UInt8:=aq (aD (L.take i))++aq (oS L i j)
def iR (p:List HP)(L:List (Nat×List HS))(i j:Nat):List HW:=bG p 0 (L.take i)++(match L[i]? with
 | some x=>if j=0 then []else [⟨bk p x.1,((aq (aD (L.take i))).length:Int),((aq (x.2.take j)).length:Int)⟩]
 | none=>[])
theorem mS (L:List (Nat×List HS))(x:Nat×List HS):aD (L++[x])=aD L++x.2:=by simp[aD]
theorem zP {L:List (Nat×List HS)}{i:Nat}{x:Nat×List HS}(h:L[i]?=some x):fv L i x.2.length=fv L (i+1) 0:=by
 have:oS L (i+1) 0=[]:=by unfold oS;split <;> simp
 rw[fv,fv,this,dH h,mS,aO,oS,h]
 simp[aq]
theorem Aj {p:List HP}{L:List (Nat×List HS)}{i:Nat}{x:Nat×List HS}(h:L[i]?=some x)(h0:0 < x.2.length):iR p L i x.2.length=iR p L (i+1) 0:=by
 rw[iR,iR,dH h,qS,h]
 dsimp only
 rw[if_neg (by omega),List.take_of_length_le (Nat.le_refl _),Int.zero_add]
 cases L[i+1]? <;> simp
theorem CC {p:List HP}{L:List (Nat×List HS)}:iR p L L.length 0=bG p 0 L:=by
 rw[iR,List.take_of_length_le (Nat.le_refl _),List.getElem?_eq_none (Nat.le_refl _)]
 simp
theorem Dc {L:List (Nat×List HS)}:fv L L.length 0=aq (aD L):=by
 rw[fv,List.take_of_length_le (Nat.le_refl _),oS,List.getElem?_eq_none (Nat.le_refl _)]
 simp[aq]
theorem DZ {L:List (Nat×List HS)}{i j:Nat}{x:Nat×List HS}{y:HS}(h:L[i]?=some x)(hy:x.2[j]?=some y):(aD L)[(aD (L.take i)).length+j]?=some y:=by
 have e:L=L.take i++x::L.drop (i+1):=by
  rw[←cO h,List.take_append_drop]
 have e2:aD L=aD (L.take i)++(x.2++aD (L.drop (i+1))):=by
  conv=>lhs;rw[e]
  simp[aD]
 rw[e2,List.getElem?_append_right (by omega),Nat.add_sub_cancel_left,List.getElem?_append_left (bg hy),hy]
theorem En {p:List HP}{L:List (Nat×List HS)}(hla:∀{i:Nat} {x:Nat×List HS},L[i]?=some x→0 < x.2.length){i j:Nat}{x:Nat×List HS}(hx:L[i]?=some x)(hj:j < x.2.length):∃q:Nat×Nat,q.1≤L.length∧(∀x,L[q.1]?=some x→q.2 < x.2.length)∧(q.1=L.length→q.2=0)∧
  (aD (L.take q.1)).length+q.2=(aD (L.take i)).length+(j+1)∧fv L q.1 q.2=fv L i (j+1)∧iR p L q.1 q.2=iR p L i (j+1):=by
 have hi:=bg hx
 by_cases hn:j+1 < x.2.length
 ·exact⟨(i,j+1),by dsimp only;omega,fun z hz=>by dsimp only at hz ⊢;rw[hx]at hz;injection hz with hz;subst hz;exact hn,fun h=>by dsimp only at h;omega,rfl,rfl,rfl⟩
 ·have e:j+1=x.2.length:=by omega
  refine⟨(i+1,0),by dsimp only;omega,fun z hz=>hla hz,fun _=>rfl,?_,?_,?_⟩
  ·dsimp only;rw[dH hx,mS,List.length_append];omega
  ·dsimp only;rw[e,zP hx]
  ·dsimp only;rw[e,Aj hx (hla hx)]
theorem sO {p:List HP}{L:List (Nat×List HS)}{i:Nat}:iR p L i 0=bG p 0 (L.take i):=by
 rw[iR];cases L[i]? <;> simp
theorem Ac {L:List (Nat×List HS)}{i:Nat}:fv L i 0=aq (aD (L.take i)):=by
 rw[fv,oS];cases L[i]? <;> simp[aq]
theorem vy {p:List HP}{L:List (Nat×List HS)}{i j:Nat}{x:Nat×List HS}(hx:L[i]?=some x):iR p L i (j+1)=bG p 0 (L.take i)++[⟨bk p x.1,((aq (aD (L.take i))).length:Int),((aq (x.2.take (j+1))).length:Int)⟩]:=by
 rw[iR,hx];rfl
theorem Ce {L:List (Nat×List HS)}{i j:Nat}{x:Nat×List HS}{y:HS}(hx:L[i]?=some x)(hy:x.2[j]?=some y):fv L i (j+1)=fv L i j++aX y.fal.fad:=by
 rw[fv,fv,oS,oS,hx]
 dsimp only
 rw[dH hy,aO,eQ,List.append_assoc]
theorem Cv {L:List (Nat×List HS)}{i j:Nat}{x:Nat×List HS}(hx:L[i]?=some x):(fv L i j).length=(aq (aD (L.take i))).length+(aq (x.2.take j)).length:=by
 rw[fv,oS,hx,List.length_append]
def oL {α:Type}(o:Option (List α)):List α:=match o with|some l=>l|none=>[]
def fo (off:Int)(x:HW):Bool:=ah x.fam 0 1000000 && (ah x.fau 0 1000000 && (decide (x.fam≤off) && decide (off < x.fam+x.fau)))
def dN (off:Int):List HW→Nat→Int
 | [],_=> -1
 | x::l,k=>if fo off x then(k:Int)else dN off l (k+1)
def dQ (l:List HW)(off:Int):Int:=dN off l 0
theorem CZ {off:Int}{l:List HW}{k:Nat}{x:HW}(hx:l[k]?=some x):dN off (l.drop k) k=if fo off x then(k:Int)else dN off (l.drop (k+1)) (k+1):=by
 rw[cO hx,dN]
theorem nT {off:Int}:∀(l:List HW) (k:Nat),dN off l k= -1∨((k:Int)≤dN off l k∧dN off l k < k+l.length)
 | [],k=> .inl (by rw[dN])
 | x::l,k=>by
  rw[dN]
  split
  ·exact .inr ⟨by omega,by simp only[List.length_cons];omega⟩
  ·rcases nT l (k+1)with h|h
   ·exact .inl h
   ·exact .inr ⟨by omega,by simp only[List.length_cons];omega⟩
theorem lM (l:List HW)(off:Int):dQ l off= -1∨(0≤dQ l off∧dQ l off < l.length):=by
 have:=nT (off:=off) l 0
 unfold dQ
 omega
theorem kS (i:HM)(off:Int)(hl:i.fak.length≤1048576):Sim.Spec Tryz.prog 166 [.agg i.tr,tvI off] (rI (dQ i.fak off)):=by
 refine ao hΓ ay Tryz.func166 rfl (by decide) rfl ?_
 obtain⟨code,l⟩:=i
 dsimp only at hl ⊢
 have hlen:(l.map HW.tr).length=l.length:=by simp
 unfold dQ
 repeat' ((conv=>whnf);first|refine Or.inl ?_|apply oi|(apply fi<;>intro h)|refine⟨_,rfl,?_⟩|exact rfl)
 all_goals try exact⟨KO⟩
 conv=>whnf
 refine⟨{k:Nat // k≤l.length∧dN off (l.drop k) k=dN off l 0},fun k=>⟨[(1,tI .i64 off),(2,.r (.c (.ptr (2,0,0) 0))),(5,tI .i64 (k.1:Int))],[((2,0,0),some (.box [.t (.str code),.t (.lst 3 (l.map HW.tr))]))],[2]⟩,fun k=>l.length - k.1,⟨0,by omega,by rw[List.drop_zero]⟩,?_,?_⟩
 ·skip
  repeat' ((conv=>whnf);first|refine Or.inl ?_|apply oi|(apply fi<;>intro h)|refine⟨_,rfl,?_⟩|exact rfl)
  all_goals try exact⟨KO⟩
 intro⟨k,hk,hr⟩
 dsimp only
 by_cases hlt:k < l.length
 ·obtain⟨x,hx⟩:=ag hlt
  rw[CZ hx]at hr
  have hb1:=aH x.fam 0 1000000
  have hb2:=aH x.fau 0 1000000
  have hback:fo off x=false→dN off (l.drop (k+1)) (k+1)=dN off l 0:=fun h=>by rw[h,if_neg (by simp)]at hr;exact hr
  cases hw1:ah x.fam 0 1000000 with
  | false=>
   have hh:fo off x=false:=by rw[fo,hw1];rfl
   rw[hw1]at hb1
   repeat' ((conv=>whnf);first|refine Or.inl ?_|apply oi|(apply fi<;>intro h)|refine⟨k,x.tr,rfl,ab hx,?_⟩|refine ci hb1 (ai rfl (ai rfl (ai rfl trivial))) ?_|refine⟨_,rfl,?_⟩|exact rfl)
   all_goals try exact⟨KO⟩
   all_goals try exact KX
   all_goals conv=>whnf
   all_goals refine⟨⟨k+1,by omega,hback hh⟩,?_,KD⟩
   repeat' ((conv=>whnf);first|refine Or.inl ?_|apply oi|(apply fi<;>intro h)|refine⟨_,rfl,?_⟩|exact rfl)
   all_goals try exact⟨KO⟩
   all_goals exact⟨by dsimp only;rw[IntWalk.i64_in _ (by omega)];rfl⟩
  | true=>
   rw[hw1]at hb1
   cases hw2:ah x.fau 0 1000000 with
   | false=>
    have hh:fo off x=false:=by rw[fo,hw1,hw2];rfl
    rw[hw2]at hb2
    repeat' ((conv=>whnf);first|refine Or.inl ?_|apply oi|(apply fi<;>intro h)|refine⟨k,x.tr,rfl,ab hx,?_⟩|refine ci hb1 (ai rfl (ai rfl (ai rfl trivial))) ?_|refine ci hb2 (ai rfl (ai rfl (ai rfl trivial))) ?_|refine⟨_,rfl,?_⟩|exact rfl)
    all_goals try exact⟨KO⟩
    all_goals try exact KX
    all_goals conv=>whnf
    all_goals refine⟨⟨k+1,by omega,hback hh⟩,?_,KD⟩
    repeat' ((conv=>whnf);first|refine Or.inl ?_|apply oi|(apply fi<;>intro h)|refine⟨_,rfl,?_⟩|exact rfl)
    all_goals try exact⟨KO⟩
    all_goals exact⟨by dsimp only;rw[IntWalk.i64_in _ (by omega)];rfl⟩
   | true=>
    rw[hw2]at hb2
    have hi1:=within_iff.1 hw1
    have hi2:=within_iff.1 hw2
    have hw3:IntKind.i64.wrap (x.fam+x.fau)=x.fam+x.fau:=IntWalk.i64_in _ (by omega)
    cases hh:fo off x with
    | true=>
     rw[hh,if_pos rfl]at hr
     rw[fo,hw1,hw2]at hh
     simp only[Bool.true_and,Bool.and_eq_true,decide_eq_true_eq]at hh
     repeat' ((conv=>whnf);first|refine Or.inl ?_|apply oi|(apply fi<;>intro h)|refine⟨k,x.tr,rfl,ab hx,?_⟩|refine ci hb1 (ai rfl (ai rfl (ai rfl trivial))) ?_|refine ci hb2 (ai rfl (ai rfl (ai rfl trivial))) ?_|refine⟨_,rfl,?_⟩|exact rfl)
     all_goals try exact⟨KO⟩
     all_goals try exact KX
     all_goals try exact⟨by rw[hr]⟩
     all_goals(exfalso;(try rw[hw3]at h);simp only[decide_eq_false_iff_not]at h;omega)
    | false=>
     have hbk:=hback hh
     rw[fo,hw1,hw2]at hh
     simp only[Bool.true_and,Bool.and_eq_false_iff,decide_eq_false_iff_not]at hh
     repeat' ((conv=>whnf);first|refine Or.inl ?_|apply oi|(apply fi<;>intro h)|refine⟨k,x.tr,rfl,ab hx,?_⟩|refine ci hb1 (ai rfl (ai rfl (ai rfl trivial))) ?_|refine ci hb2 (ai rfl (ai rfl (ai rfl trivial))) ?_|refine⟨_,rfl,?_⟩|exact rfl)
     all_goals try exact⟨KO⟩
     all_goals try exact KX
     all_goals try(exfalso;rw[hw3]at *;simp only[decide_eq_true_eq]at *;omega)
     all_goals conv=>whnf
     all_goals refine⟨⟨k+1,by omega,hbk⟩,?_,KD⟩
     repeat' ((conv=>whnf);first|refine Or.inl ?_|apply oi|(apply fi<;>intro h)|refine⟨_,rfl,?_⟩|exact rfl)
     all_goals try exact⟨KO⟩
     all_goals exact⟨by dsimp only;rw[IntWalk.i64_in _ (by omega)];rfl⟩
 ·have hge:l.length≤k:=by omega
  rw[List.drop_eq_nil_of_le hge,dN]at hr
  repeat' ((conv=>whnf);first|refine Or.inl ?_|apply oi|(apply fi<;>intro h)|refine⟨_,rfl,?_⟩|exact rfl)
  all_goals try exact⟨KO⟩
  all_goals try exact KX
  exact⟨by rw[←hr]⟩
def bQ (s:List UInt8)(p:Nat):Nat:=match s[p]? with|some b=>b.toNat|none=>0
theorem Ca (s:List UInt8)(p:Nat):bQ s p < 256:=by
 unfold bQ
 split
 ·exact UInt8.toNat_lt _
 ·omega
def aQ (s:List UInt8)(p:Nat):Nat→Nat
 | 0=>0
 | k+1=>aQ s p k+bQ s (p+k) * 256 ^ k
theorem dZ (s:List UInt8)(p:Nat):∀k,aQ s p k < 256 ^ k
 | 0=>by simp[aQ]
 | k+1=>by
  have h1:=dZ s p k
  have h2:=Ca s (p+k)
  rw[aQ,Nat.pow_succ]
  have h3:=Nat.mul_le_mul_right (256 ^ k) (show bQ s (p+k)≤255 by omega)
  omega
def iV (c:Int)(m:Nat):Int:=if(aT c).2=true∧2 ^ (8 * (aT c).1.toNat - 1)≤m then(m:Int) - 2 ^ (8 * (aT c).1.toNat)else m
def aU (s:List UInt8)(p:Int):Option (HR×Nat):=
 if 0≤p∧p < s.length then
  (
   if aK (bQ s p.toNat)=0∨(s.length:Int) < p+aK (bQ s p.toNat)then none
   else some (⟨bQ s p.toNat,iV (bQ s p.toNat) (aQ s (p.toNat+1) (aT (bQ s p.toNat)).1.toNat)⟩,(aK (bQ s p.toNat)).toNat))
 else none
def opX (o:Option (HR×Nat)):HR:=match o with|some x=>x.1|none=>⟨0,0⟩
def opZ (o:Option (HR×Nat)):Int:=match o with|some x=>x.2|none=>0
abbrev rOp (o:Option (HR×Nat)):Res:= .tup [.agg [.t (.int .i64 (opX o).fab),.t (.int .i64 (opX o).faf)],.c (.t (.int .i64 (opZ o))),.c (.t (.bool o.isSome))]
theorem yD (c:Int):aT c=(4,true)∨aT c=(2,true)∨aT c=(2,false)∨aT c=(1,false)∨aT c=(0,false):=by
 unfold aT
 repeat' split
 all_goals simp
theorem Ha {n x k:Nat}(hn:n < 256 ^ k):n ||| x * 256 ^ k=n+x * 256 ^ k:=by
 have e:(256:Nat) ^ k=2 ^ (8 * k):=by rw[show(256:Nat)=2 ^ 8 from rfl,←Nat.pow_mul]
 have:=Nat.two_pow_add_eq_or_of_lt (i:=8 * k) (b:=n) (by rw[←e];exact hn) x
 rw[e,Nat.mul_comm x,Nat.or_comm,←this]
 omega
theorem vw {x k:Nat}(hk:k < 4)(hx:x < 256):IntKind.i64.wrap ((x:Int) * 2 ^ (min (Int.toNat (IntKind.i64.wrap (8 * (k:Int)))) IntKind.i64.bits))=((x * 256 ^ k:Nat):Int):=by
 rw[IntWalk.i64_in (8 * (k:Int)) (by omega)]
 have:k=0∨k=1∨k=2∨k=3:=by omega
 rcases this with rfl|rfl|rfl|rfl
 ·show IntKind.i64.wrap ((x:Int) * 1)=_
  rw[IntWalk.i64_in _ (by omega)];simp
 ·show IntKind.i64.wrap ((x:Int) * 256)=_
  rw[IntWalk.i64_in _ (by omega)];simp
 ·show IntKind.i64.wrap ((x:Int) * 65536)=_
  rw[IntWalk.i64_in _ (by omega)];simp
 ·show IntKind.i64.wrap ((x:Int) * 16777216)=_
  rw[IntWalk.i64_in _ (by omega)];simp
theorem wj {k:Nat}(hk:k < 4):256 ^ k≤16777216:=by
 have:=Nat.pow_le_pow_right (n:=256) (by omega) (show k≤3 by omega)
 exact this
theorem ER {n x k:Nat}(hk:k < 4)(hn:n < 256 ^ k)(hx:x < 256):IntKind.i64.wrap ((BitVec.ofInt IntKind.i64.bits (n:Int) ||| BitVec.ofInt IntKind.i64.bits (IntKind.i64.wrap ((x:Int) * 2 ^ (min (Int.toNat (IntKind.i64.wrap (8 * (k:Int)))) IntKind.i64.bits)))).toNat:Int)=((n+x * 256 ^ k:Nat):Int):=by
 rw[vw hk hx]
 have h4:=wj hk
 have h5:x * 256 ^ k≤255 * 16777216:=Nat.mul_le_mul (by omega) h4
 have e:(BitVec.ofInt IntKind.i64.bits (n:Int) ||| BitVec.ofInt IntKind.i64.bits ((x * 256 ^ k:Nat):Int)).toNat=n+x * 256 ^ k:=by
  show(BitVec.ofInt 64 (n:Int) ||| BitVec.ofInt 64 ((x * 256 ^ k:Nat):Int)).toNat=_
  rw[BitVec.toNat_or,BitVec.toNat_ofInt,BitVec.toNat_ofInt]
  have e1:((n:Int) % ((2 ^ 64:Nat):Int)).toNat=n:=by omega
  have e2:(((x * 256 ^ k:Nat):Int) % ((2 ^ 64:Nat):Int)).toNat=x * 256 ^ k:=by omega
  rw[e1,e2,Ha hn]
 rw[e,IntWalk.i64_in _ (by omega)]
theorem wn (c:Int):∃n:Nat,(aT c).1=(n:Int)∧(n=0∨n=1∨n=2∨n=4)∧((aT c).2=true→n=2∨n=4):=by
 rcases yD c with h|h|h|h|h <;> rw[h]
 ·exact⟨4,rfl,by omega,by omega⟩
 ·exact⟨2,rfl,by omega,by omega⟩
 ·exact⟨2,rfl,by omega,by simp⟩
 ·exact⟨1,rfl,by omega,by simp⟩
 ·exact⟨0,rfl,by omega,by simp⟩
theorem nQ {c:Int}{n m:Nat}(hn:(aT c).1=(n:Int))(hg:(aT c).2=true)(h:2 ^ (8 * n - 1)≤m):iV c m=(m:Int) - 2 ^ (8 * n):=by
 rw[iV,hn,Int.toNat_natCast,if_pos ⟨hg,h⟩]
theorem mm {c:Int}{n m:Nat}(hn:(aT c).1=(n:Int))(h:¬((aT c).2=true∧2 ^ (8 * n - 1)≤m)):iV c m=(m:Int):=by
 rw[iV,hn,Int.toNat_natCast,if_neg h]
theorem gM (s:List UInt8)(p:Int)(hs:s.length≤1048576)(hp:p≤9223372036854775807):Sim.Spec Tryz.prog 104 [tvS s,tvI p] (rOp (aU s p)):=by
 refine ao hΓ ay Tryz.func104 rfl (by decide) rfl ?_
 have hb:=bm p 0 (IntKind.i64.wrap (s.length - 1))
 have hw:IntKind.i64.wrap ((s.length:Int) - 1)=(s.length:Int) - 1:=IntWalk.i64_in _ (by omega)
 by_cases hin:0≤p∧p < s.length
 ·obtain⟨p,rfl⟩:=Int.eq_ofNat_of_zero_le hin.1
  have hbt:ah (p:Int) 0 (IntKind.i64.wrap (s.length - 1))=true:=by rw[hw];exact within_iff.2 ⟨by omega,by omega⟩
  rw[hbt]at hb
  obtain⟨b,hbb⟩:=ag (l:=s) (k:=p) (by omega)
  have hba:bQ s p=b.toNat:=by rw[bQ,hbb]
  have hz:=uW (b.toNat:Int)
  have ha:=kT (b.toNat:Int)
  have hzl:=ic (b.toNat:Int)
  have hlt:=UInt8.toNat_lt b
  have hwb:IntKind.i64.wrap (b.toNat:Int)=b.toNat:=IntWalk.i64_in _ (by omega)
  rw[aU,if_pos hin,Int.toNat_natCast,hba]
  by_cases hno:aK (b.toNat:Int)=0∨(s.length:Int) < (p:Int)+aK (b.toNat:Int)
  ·rw[if_pos hno]
   repeat' ((conv=>whnf);first|refine Or.inl ?_|apply oi|(apply fi<;>intro h)|refine ci hb (ai rfl (ai rfl (ai rfl trivial))) ?_|refine⟨p,b,rfl,hbb,?_⟩|refine ci hz (ai KW trivial) ?_|refine⟨_,rfl,?_⟩|exact rfl)
   all_goals try exact⟨KO⟩
   all_goals(exfalso;rename_i h0;have h1:¬aK (b.toNat:Int)=0:=(by simpa using h0);rw[IntWalk.i64_in _ (by omega)]at h;have h':=of_decide_eq_false h;omega)
  ·rw[if_neg hno]
   repeat' ((conv=>whnf);first|refine Or.inl ?_|apply oi|(apply fi<;>intro h)|refine ci hb (ai rfl (ai rfl (ai rfl trivial))) ?_|refine⟨p,b,rfl,hbb,?_⟩|refine ci hz (ai KW trivial) ?_|refine ci ha (ai KW trivial) ?_|refine⟨_,rfl,?_⟩|exact rfl)
   all_goals try exact⟨KO⟩
   all_goals try(exfalso;first|(have h1:aK (b.toNat:Int)=0:=(by simpa using h);omega)|(rw[IntWalk.i64_in _ (by omega)]at h;have h':=of_decide_eq_true h;omega))
   obtain⟨n,hn,hn4,hng⟩:=wn (b.toNat:Int)
   have hos:aK (b.toNat:Int)=n+1:=by
    have h1:¬aK (b.toNat:Int)=0:=fun h=>hno (Or.inl h)
    unfold aK at h1 ⊢
    split at h1
    ·rename_i hwi
     rw[if_pos hwi,hn]
    ·omega
   have hav1:=fun m=>nQ (m:=m) hn
   have hav2:=fun m=>mm (m:=m) hn
   rw[hn,Int.toNat_natCast]
   generalize(aT (b.toNat:Int)).2=sg at *
   generalize hV:iV (b.toNat:Int)=V at *
   conv=>whnf
   refine⟨{k:Nat // k≤n},fun k=>⟨[(0,tS s),(1,tI .i64 (p:Int)),(4,.r (.c (.ptr (4,0,0) 0))),(7,.r (.c (.ptr (7,0,0) 0))),(8,tI .i64 (aK (b.toNat:Int))),(9,tI .i64 (n:Int)),(10,tB sg),(11,tI .i64 (k.1:Int))],[((7,0,0),some (.box [.t (.int .i64 b.toNat),.t (.int .i64 (aQ s (p+1) k.1:Nat))])),((4,0,0),some (.box [.t (.int .i64 0),.t (.int .i64 0)]))],[7,4]⟩,fun k=>n - k.1,⟨0,by omega⟩,?_,?_⟩
   ·skip
    repeat' ((conv=>whnf);first|refine Or.inl ?_|apply oi|(apply fi<;>intro h)|refine⟨_,rfl,?_⟩|exact rfl)
    all_goals try exact⟨KO⟩
    all_goals exact⟨by first|rfl|(rw[hwb];done)|(rw[hn];done)⟩
   intro⟨k,hk⟩
   dsimp only
   by_cases hlt2:k < n
   ·obtain⟨b2,hb2⟩:=ag (l:=s) (k:=p+1+k) (by omega)
    have hbb2:bQ s (p+1+k)=b2.toNat:=by rw[bQ,hb2]
    have hl2:=UInt8.toNat_lt b2
    have ha1:=dZ s (p+1) k
    have hix:IntKind.i64.wrap (IntKind.i64.wrap ((p:Int)+1)+k)=((p+1+k:Nat):Int):=by rw[IntWalk.i64_in ((p:Int)+1) (by omega),IntWalk.i64_in _ (by omega)];omega
    have hst:aQ s (p+1) (k+1)=aQ s (p+1) k+b2.toNat * 256 ^ k:=by rw[aQ,hbb2]
    have hw2:IntKind.i64.wrap (b2.toNat:Int)=b2.toNat:=IntWalk.i64_in _ (by omega)
    repeat' ((conv=>whnf);first|refine Or.inl ?_|apply oi|(apply fi<;>intro h)|refine⟨(p+1+k),b2,hix,hb2,?_⟩|refine⟨_,rfl,?_⟩|exact rfl)
    all_goals try exact⟨KO⟩
    all_goals try exact KX
    all_goals try exact⟨K6⟩
    conv=>whnf
    refine⟨⟨k+1,by omega⟩,?_,KD⟩
    repeat' ((conv=>whnf);first|refine Or.inl ?_|apply oi|(apply fi<;>intro h)|refine⟨_,rfl,?_⟩|exact rfl)
    all_goals try exact⟨KO⟩
    ·exact⟨by dsimp only;rw[IntWalk.i64_in _ (by omega)];rfl⟩
    ·refine⟨congrArg (Tr.int _) ?_⟩
     dsimp only
     rw[hst,hw2]
     exact ER (by omega) ha1 hl2
   ·have hkn:k=n:=by omega
    subst hkn
    have ha1:=dZ s (p+1) k
    cases sg with
    | false=>
     have hv:=hav2 (aQ s (p+1) k) (by simp)
     repeat' ((conv=>whnf);first|refine Or.inl ?_|apply oi|(apply fi<;>intro h)|refine⟨_,rfl,?_⟩|exact rfl)
     all_goals try exact⟨KO⟩
     all_goals try exact KX
     all_goals(refine⟨congrArg (Tr.int _) ?_⟩;simp only[opX,opZ];first|(rw[hv];done)|omega)
    | true=>
     have hAB:∃A B:Nat,2 ^ (8 * k - 1)=A∧2 ^ (8 * k)=B∧B≤4294967296∧IntKind.i64.wrap (1 * 2 ^ (min (Int.toNat (IntKind.i64.wrap (IntKind.i64.wrap (8 * (k:Int)) - 1))) IntKind.i64.bits))=(A:Int)∧
       IntKind.i64.wrap (1 * 2 ^ (min (Int.toNat (IntKind.i64.wrap (8 * (k:Int)))) IntKind.i64.bits))=(B:Int)∧256 ^ k=B:=by
      rcases hng rfl with h|h <;> rw[h]
      ·exact⟨32768,65536,by decide,by decide,by decide,by decide,by decide,by decide⟩
      ·exact⟨2147483648,4294967296,by decide,by decide,by decide,by decide,by decide,by decide⟩
     obtain⟨A,B,hA,hB,hBl,hc1,hc2,h256⟩:=hAB
     rw[h256]at ha1
     have hB':(2:Int) ^ (8 * k)=(B:Int):=by rw[←hB];simp
     rw[hA,hB']at hav1
     rw[hA]at hav2
     have hsh1:0≤IntKind.i64.wrap (IntKind.i64.wrap (8 * (k:Int)) - 1):=by
      rcases hng rfl with h|h <;> rw[h] <;> decide
     have hsh2:0≤IntKind.i64.wrap (8 * (k:Int)):=by
      rcases hng rfl with h|h <;> rw[h] <;> decide
     by_cases hge:A≤aQ s (p+1) k
     ·have hv:=hav1 _ rfl hge
      have hws:IntKind.i64.wrap ((aQ s (p+1) k:Int) - (B:Int))=(aQ s (p+1) k:Int) - B:=IntWalk.i64_in _ (by omega)
      repeat' ((conv=>whnf);first|refine Or.inl ?_|apply oi|(apply fi<;>intro h)|refine⟨_,rfl,?_⟩|exact rfl)
      all_goals try exact⟨KO⟩
      all_goals try exact KX
      all_goals try(exfalso;rw[hc1]at h;have h':=of_decide_eq_false h;omega)
      all_goals first
       | exact⟨hsh1⟩
       | exact⟨hsh2⟩
       |(refine⟨congrArg (Tr.int _) ?_⟩;simp only[opX,opZ];first|(rw[hc2,hws,hv];done)|omega)
     ·have hv:=hav2 _ (fun h=>hge h.2)
      repeat' ((conv=>whnf);first|refine Or.inl ?_|apply oi|(apply fi<;>intro h)|refine⟨_,rfl,?_⟩|exact rfl)
      all_goals try exact⟨KO⟩
      all_goals try exact KX
      all_goals try(exfalso;rw[hc1]at h;have h':=of_decide_eq_true h;omega)
      all_goals first
       | exact⟨hsh1⟩
       | exact⟨hsh2⟩
       |(refine⟨congrArg (Tr.int _) ?_⟩;simp only[opX,opZ];first|(rw[hv];done)|omega)
 ·rw[aU,if_neg hin]
  have hbt:ah p 0 (IntKind.i64.wrap (s.length - 1))=false:=by
   rw[hw]
   cases h:ah p 0 ((s.length:Int) - 1)with
   | false=>rfl
   | true=>exact absurd (within_iff.1 h) (by omega)
  rw[hbt]at hb
  repeat' ((conv=>whnf);first|refine Or.inl ?_|apply oi|(apply fi<;>intro h)|refine ci hb (ai rfl (ai rfl (ai rfl trivial))) ?_|refine⟨_,rfl,?_⟩|exact rfl)
  all_goals try exact⟨KO⟩
theorem kR (s:List UInt8)(p:Int)(hs:s.length≤1048576)(hp:p≤9223372036854775807):Sim.Spec Tryz.prog 183 [tvS s,tvI p] (rOp (aU s p)):=by
 refine ao hΓ ay Tryz.func183 rfl (by decide) rfl ?_
 have hw:IntKind.i64.wrap ((s.length:Int) - 1)=(s.length:Int) - 1:=IntWalk.i64_in _ (by omega)
 by_cases hin:0≤p∧p < s.length
 ·obtain⟨p,rfl⟩:=Int.eq_ofNat_of_zero_le hin.1
  obtain⟨b,hbb⟩:=ag (l:=s) (k:=p) (by omega)
  have hba:bQ s p=b.toNat:=by rw[bQ,hbb]
  have hz:=mJ (b.toNat:Int)
  have ha:=eI (b.toNat:Int)
  have hzl:=ic (b.toNat:Int)
  have hlt:=UInt8.toNat_lt b
  have hwb:IntKind.i64.wrap (b.toNat:Int)=b.toNat:=IntWalk.i64_in _ (by omega)
  rw[aU,if_pos hin,Int.toNat_natCast,hba]
  by_cases hno:aK (b.toNat:Int)=0∨(s.length:Int) < (p:Int)+aK (b.toNat:Int)
  ·rw[if_pos hno]
   have hw6:IntKind.i64.wrap (IntKind.i64.wrap ((p:Int)+1)+(aT (b.toNat:Int)).1)=(p:Int)+1+(aT (b.toNat:Int)).1:=by
    have:=cY (b.toNat:Int)
    rw[IntWalk.i64_in ((p:Int)+1) (by omega),IntWalk.i64_in _ (by omega)]
   have hos0:¬aK (b.toNat:Int)=0→aK (b.toNat:Int)=(aT (b.toNat:Int)).1+1:=fun h=>by
    unfold aK at h ⊢
    split at h
    ·rename_i hwi;rw[if_pos hwi]
    ·omega
   repeat' ((conv=>whnf);first|refine Or.inl ?_|apply oi|(apply fi<;>intro h)|refine⟨p,b,rfl,hbb,?_⟩|refine ci hz (ai KW trivial) ?_|refine ci ha (ai KW trivial) ?_|refine⟨_,rfl,?_⟩|exact rfl)
   all_goals try exact⟨KO⟩
   all_goals try(exfalso;first|(have h':=of_decide_eq_true h;omega))
   all_goals(exfalso;rename_i h0;have h1:¬aK (b.toNat:Int)=0:=(by simpa using h0);rw[hw6]at h;have h':=of_decide_eq_false h;have:=hos0 h1;omega)
  ·rw[if_neg hno]
   have hw6:IntKind.i64.wrap (IntKind.i64.wrap ((p:Int)+1)+(aT (b.toNat:Int)).1)=(p:Int)+1+(aT (b.toNat:Int)).1:=by
    have:=cY (b.toNat:Int)
    rw[IntWalk.i64_in ((p:Int)+1) (by omega),IntWalk.i64_in _ (by omega)]
   have hos0:aK (b.toNat:Int)=(aT (b.toNat:Int)).1+1:=by
    have h:¬aK (b.toNat:Int)=0:=fun h=>hno (Or.inl h)
    unfold aK at h ⊢
    split at h
    ·rename_i hwi;rw[if_pos hwi]
    ·omega
   repeat' ((conv=>whnf);first|refine Or.inl ?_|apply oi|(apply fi<;>intro h)|refine⟨p,b,rfl,hbb,?_⟩|refine ci hz (ai KW trivial) ?_|refine ci ha (ai KW trivial) ?_|refine⟨_,rfl,?_⟩|exact rfl)
   all_goals try exact⟨KO⟩
   all_goals try(exfalso;first|(have h1:aK (b.toNat:Int)=0:=(by simpa using h);omega)|(rw[hw6]at h;have h':=of_decide_eq_true h;omega)|(have h':=of_decide_eq_true h;omega))
   clear hw6
   obtain⟨n,hn,hn4,hng⟩:=wn (b.toNat:Int)
   have hos:aK (b.toNat:Int)=n+1:=by
    have h1:¬aK (b.toNat:Int)=0:=fun h=>hno (Or.inl h)
    unfold aK at h1 ⊢
    split at h1
    ·rename_i hwi
     rw[if_pos hwi,hn]
    ·omega
   have hav1:=fun m=>nQ (m:=m) hn
   have hav2:=fun m=>mm (m:=m) hn
   rw[hn,Int.toNat_natCast]
   generalize(aT (b.toNat:Int)).2=sg at *
   generalize hV:iV (b.toNat:Int)=V at *
   conv=>whnf
   refine⟨{k:Nat // k≤n},fun k=>⟨[(0,tS s),(1,tI .i64 (p:Int)),(4,.r (.c (.ptr (4,0,0) 0))),(7,.r (.c (.ptr (7,0,0) 0))),(8,tI .i64 (n:Int)),(9,tB sg),(10,tI .i64 (k.1:Int))],[((7,0,0),some (.box [.t (.int .i64 b.toNat),.t (.int .i64 (aQ s (p+1) k.1:Nat))])),((4,0,0),some (.box [.t (.int .i64 0),.t (.int .i64 0)]))],[7,4]⟩,fun k=>n - k.1,⟨0,by omega⟩,?_,?_⟩
   ·skip
    repeat' ((conv=>whnf);first|refine Or.inl ?_|apply oi|(apply fi<;>intro h)|refine⟨_,rfl,?_⟩|exact rfl)
    all_goals try exact⟨KO⟩
    all_goals exact⟨by first|rfl|(rw[hwb];done)|(rw[hn];done)⟩
   intro⟨k,hk⟩
   dsimp only
   by_cases hlt2:k < n
   ·obtain⟨b2,hb2⟩:=ag (l:=s) (k:=p+1+k) (by omega)
    have hbb2:bQ s (p+1+k)=b2.toNat:=by rw[bQ,hb2]
    have hl2:=UInt8.toNat_lt b2
    have ha1:=dZ s (p+1) k
    have hix:IntKind.i64.wrap (IntKind.i64.wrap ((p:Int)+1)+k)=((p+1+k:Nat):Int):=by rw[IntWalk.i64_in ((p:Int)+1) (by omega),IntWalk.i64_in _ (by omega)];omega
    have hst:aQ s (p+1) (k+1)=aQ s (p+1) k+b2.toNat * 256 ^ k:=by rw[aQ,hbb2]
    have hw2:IntKind.i64.wrap (b2.toNat:Int)=b2.toNat:=IntWalk.i64_in _ (by omega)
    repeat' ((conv=>whnf);first|refine Or.inl ?_|apply oi|(apply fi<;>intro h)|refine⟨(p+1+k),b2,hix,hb2,?_⟩|refine⟨_,rfl,?_⟩|exact rfl)
    all_goals try exact⟨KO⟩
    all_goals try exact KX
    all_goals try exact⟨K6⟩
    conv=>whnf
    refine⟨⟨k+1,by omega⟩,?_,KD⟩
    repeat' ((conv=>whnf);first|refine Or.inl ?_|apply oi|(apply fi<;>intro h)|refine⟨_,rfl,?_⟩|exact rfl)
    all_goals try exact⟨KO⟩
    ·exact⟨by dsimp only;rw[IntWalk.i64_in _ (by omega)];rfl⟩
    ·refine⟨congrArg (Tr.int _) ?_⟩
     dsimp only
     rw[hst,hw2]
     rw[vw (by omega) hl2]
     have h4:=wj (show k < 4 by omega)
     have h5:b2.toNat * 256 ^ k≤255 * 16777216:=Nat.mul_le_mul (by omega) h4
     rw[IntWalk.i64_in _ (by omega)]
     simp
   ·have hkn:k=n:=by omega
    subst hkn
    have ha1:=dZ s (p+1) k
    have hwz:IntKind.i64.wrap (1+(k:Int))=1+k:=IntWalk.i64_in _ (by omega)
    cases sg with
    | false=>
     have hv:=hav2 (aQ s (p+1) k) (by simp)
     repeat' ((conv=>whnf);first|refine Or.inl ?_|apply oi|(apply fi<;>intro h)|refine⟨_,rfl,?_⟩|exact rfl)
     all_goals try exact⟨KO⟩
     all_goals try exact KX
     all_goals(refine⟨congrArg (Tr.int _) ?_⟩;simp only[opX,opZ];first|(rw[hv];done)|(rw[hwz];omega))
    | true=>
     have hAB:∃A B:Nat,2 ^ (8 * k - 1)=A∧2 ^ (8 * k)=B∧B≤4294967296∧IntKind.i64.wrap (1 * 2 ^ (min (Int.toNat (IntKind.i64.wrap (IntKind.i64.wrap (8 * (k:Int)) - 1))) IntKind.i64.bits))=(A:Int)∧
       IntKind.i64.wrap (1 * 2 ^ (min (Int.toNat (IntKind.i64.wrap (8 * (k:Int)))) IntKind.i64.bits))=(B:Int)∧256 ^ k=B:=by
      rcases hng rfl with h|h <;> rw[h]
      ·exact⟨32768,65536,by decide,by decide,by decide,by decide,by decide,by decide⟩
      ·exact⟨2147483648,4294967296,by decide,by decide,by decide,by decide,by decide,by decide⟩
     obtain⟨A,B,hA,hB,hBl,hc1,hc2,h256⟩:=hAB
     rw[h256]at ha1
     have hB':(2:Int) ^ (8 * k)=(B:Int):=by rw[←hB];simp
     rw[hA,hB']at hav1
     rw[hA]at hav2
     have hsh1:0≤IntKind.i64.wrap (IntKind.i64.wrap (8 * (k:Int)) - 1):=by
      rcases hng rfl with h|h <;> rw[h] <;> decide
     have hsh2:0≤IntKind.i64.wrap (8 * (k:Int)):=by
      rcases hng rfl with h|h <;> rw[h] <;> decide
     by_cases hge:A≤aQ s (p+1) k
     ·have hv:=hav1 _ rfl hge
      have hws:IntKind.i64.wrap ((aQ s (p+1) k:Int) - (B:Int))=(aQ s (p+1) k:Int) - B:=IntWalk.i64_in _ (by omega)
      repeat' ((conv=>whnf);first|refine Or.inl ?_|apply oi|(apply fi<;>intro h)|refine⟨_,rfl,?_⟩|exact rfl)
      all_goals try exact⟨KO⟩
      all_goals try exact KX
      all_goals try(exfalso;rw[hc1]at h;have h':=of_decide_eq_false h;omega)
      all_goals first
       | exact⟨hsh1⟩
       | exact⟨hsh2⟩
       |(refine⟨congrArg (Tr.int _) ?_⟩;simp only[opX,opZ];first|(rw[hc2,hws,hv];done)|(rw[hwz];omega))
     ·have hv:=hav2 _ (fun h=>hge h.2)
      repeat' ((conv=>whnf);first|refine Or.inl ?_|apply oi|(apply fi<;>intro h)|refine⟨_,rfl,?_⟩|exact rfl)
      all_goals try exact⟨KO⟩
      all_goals try exact KX
      all_goals try(exfalso;rw[hc1]at h;have h':=of_decide_eq_true h;omega)
      all_goals first
       | exact⟨hsh1⟩
       | exact⟨hsh2⟩
       |(refine⟨congrArg (Tr.int _) ?_⟩;simp only[opX,opZ];first|(rw[hv];done)|(rw[hwz];omega))
 ·rw[aU,if_neg hin]
  repeat' ((conv=>whnf);first|refine Or.inl ?_|apply oi|(apply fi<;>intro h)|refine⟨_,rfl,?_⟩|exact rfl)
  all_goals try exact⟨KO⟩
  all_goals(exfalso;rename_i h0;have h1:=of_decide_eq_false h0;have h2:=of_decide_eq_false h;omega)
def lu (s:List UInt8):Nat→Nat→Option (List HR)
 | 0,p=>if p < s.length then none else some []
 | f+1,p=>if p < s.length then(match aU s (p:Int)with
   | some x=>(lu s f (p+x.2)).map (x.1::·)
   | none=>none)else some []
def ec (s:List UInt8):Option (List HR):=lu s s.length 0
theorem fY {s:List UInt8}{p:Nat}{x:HR}{z:Nat}(h:aU s (p:Int)=some (x,z)):1≤z∧z≤5∧p+z≤s.length:=by
 unfold aU at h
 split at h
 ·rename_i hin
  split at h
  ·cases h
  ·rename_i hno
   injection h with h
   injection h with h1 h2
   rw[not_or]at hno
   have:=ic (bQ s (p:Int).toNat)
   omega
 ·cases h
theorem pM {s:List UInt8}:∀{f p:Nat},s.length - p≤f→lu s f p=lu s (s.length - p) p
 | 0,p,h=>by rw[show s.length - p=0 by omega]
 | f+1,p,h=>by
  rcases Nat.lt_or_ge p s.length with hlt|hge
  ·obtain⟨m,hm⟩:∃m,s.length - p=m+1:=⟨s.length - p - 1,by omega⟩
   rw[hm,lu,lu,if_pos hlt,if_pos hlt]
   match hd:aU s (p:Int)with
   | none=>rfl
   | some (x,z)=>
    have:=fY hd
    dsimp only
    rw[pM (f:=f) (p:=p+z) (by omega),pM (f:=m) (p:=p+z) (by omega)]
  ·rw[lu,if_neg (by omega),show s.length - p=0 by omega,lu,if_neg (by omega)]
theorem qo {s:List UInt8}{p:Nat}(hlt:p < s.length):lu s (s.length - p) p=(match aU s (p:Int)with
  | some x=>(lu s (s.length - (p+x.2)) (p+x.2)).map (x.1::·)
  | none=>none):=by
 obtain⟨m,hm⟩:∃m,s.length - p=m+1:=⟨s.length - p - 1,by omega⟩
 rw[hm,lu,if_pos hlt]
 match hd:aU s (p:Int)with
 | none=>rfl
 | some (x,z)=>
  have:=fY hd
  dsimp only
  rw[pM (f:=m) (p:=p+z) (by omega)]
theorem ul {s:List UInt8}{p:Nat}(hge:s.length≤p):lu s (s.length - p) p=some []:=by
 rw[show s.length - p=0 by omega,lu,if_neg (by omega)]
abbrev Gp (s:List UInt8)(R:Option (List HR)):={q:Nat×List HR // q.1≤s.length∧q.2.length≤q.1∧(lu s (s.length - q.1) q.1).map (q.2++·)=R}
theorem nh (s:List UInt8)(hs:s.length≤1048576):Sim.Spec Tryz.prog 170 [tvS s] (.tup [.c (.arr 2 ((oL (ec s)).map HR.tr)),.c (.t (.bool (ec s).isSome))]):=by
 refine ao hΓ ay Tryz.func170 rfl (by decide) rfl ?_
 have hR0:(lu s (s.length - 0) 0).map (([]:List HR)++·)=ec s:=by simp[ec]
 generalize ec s=R at hR0 ⊢
 repeat' ((conv=>whnf);first|refine Or.inl ?_|apply oi|(apply fi<;>intro h)|refine⟨_,rfl,?_⟩|exact rfl)
 all_goals try exact⟨KO⟩
 conv=>whnf
 refine⟨Gp s R,fun q=>⟨[(0,tS s),(4,.r (.c (.own (9,0,0)))),(5,tI .i64 (q.1.1:Int))],[((9,0,0),some (.arr true 2 (q.1.2.map HR.tr)))],[9]⟩,fun q=>s.length - q.1.1,⟨(0,[]),by simp,by simp,hR0⟩,?_,?_⟩
 ·skip
  repeat' ((conv=>whnf);first|refine Or.inl ?_|apply oi|(apply fi<;>intro h)|refine⟨_,rfl,?_⟩|exact rfl)
  all_goals try exact⟨KO⟩
 intro⟨⟨p,acc⟩,hp,hal,hr⟩
 dsimp only at hp hal hr ⊢
 by_cases hlt:p < s.length
 ·have hD:=gM s (p:Int) hs (by omega)
  rw[qo hlt]at hr
  match hd:aU s (p:Int)with
  | none=>
   rw[hd]at hr hD
   dsimp only[rOp,opX,opZ,Option.isSome]at hr hD
   subst hr
   repeat' ((conv=>whnf);first|refine Or.inl ?_|apply oi|(apply fi<;>intro h)|refine ci hD (ai rfl (ai rfl trivial)) ?_|refine⟨_,rfl,?_⟩|exact rfl)
   all_goals try exact⟨KO⟩
   all_goals try exact KX
  | some (x,z)=>
   rw[hd]at hr hD
   have hz:=fY hd
   dsimp only[rOp,opX,opZ,Option.isSome]at hr hD
   repeat' ((conv=>whnf);first|refine Or.inl ?_|apply oi|(apply fi<;>intro h)|refine ci hD (ai rfl (ai rfl trivial)) ?_|refine⟨_,rfl,?_⟩|exact rfl)
   all_goals try exact⟨KO⟩
   all_goals try exact KX
   all_goals try exact⟨⟨by simp only[List.length_map,List.length_cons,List.length_nil];omega,by simp only[List.length_map,List.length_cons,List.length_nil];omega⟩⟩
   conv=>whnf
   refine⟨⟨(p+z,acc++[x]),by dsimp only;omega,by simp;omega,?_⟩,?_,KD⟩
   ·dsimp only
    rw[←hr,Option.map_map]
    congr 1
    funext l
    simp
   repeat' ((conv=>whnf);first|refine Or.inl ?_|apply oi|(apply fi<;>intro h)|refine⟨_,rfl,?_⟩|exact rfl)
   all_goals try exact⟨KO⟩
   all_goals first
    |(refine⟨congrArg (Tr.int _) ?_⟩;dsimp only;rw[IntWalk.i64_in _ (by omega)];omega)
    |(refine⟨?_⟩;dsimp only;rw[List.map_append];rfl)
 ·have hge:s.length≤p:=by omega
  rw[ul hge]at hr
  simp only[Option.map_some,List.append_nil]at hr
  subst hr
  repeat' ((conv=>whnf);first|refine Or.inl ?_|apply oi|(apply fi<;>intro h)|refine⟨_,rfl,?_⟩|exact rfl)
  all_goals try exact⟨KO⟩
  all_goals try exact KX
theorem nG (s:List UInt8)(hs:s.length≤1048576):Sim.Spec Tryz.prog 222 [tvS s] (.tup [.c (.arr 2 ((oL (ec s)).map HR.tr)),.c (.t (.bool (ec s).isSome))]):=by
 refine ao hΓ ay Tryz.func222 rfl (by decide) rfl ?_
 have hR0:(lu s (s.length - 0) 0).map (([]:List HR)++·)=ec s:=by simp[ec]
 generalize ec s=R at hR0 ⊢
 repeat' ((conv=>whnf);first|refine Or.inl ?_|apply oi|(apply fi<;>intro h)|refine⟨_,rfl,?_⟩|exact rfl)
 all_goals try exact⟨KO⟩
 conv=>whnf
 refine⟨Gp s R,fun q=>⟨[(0,tS s),(4,.r (.c (.own (9,0,0)))),(5,tI .i64 (q.1.1:Int))],[((9,0,0),some (.arr true 2 (q.1.2.map HR.tr)))],[9]⟩,fun q=>s.length - q.1.1,⟨(0,[]),by simp,by simp,hR0⟩,?_,?_⟩
 ·skip
  repeat' ((conv=>whnf);first|refine Or.inl ?_|apply oi|(apply fi<;>intro h)|refine⟨_,rfl,?_⟩|exact rfl)
  all_goals try exact⟨KO⟩
 intro⟨⟨p,acc⟩,hp,hal,hr⟩
 dsimp only at hp hal hr ⊢
 by_cases hlt:p < s.length
 ·have hD:=kR s (p:Int) hs (by omega)
  rw[qo hlt]at hr
  match hd:aU s (p:Int)with
  | none=>
   rw[hd]at hr hD
   dsimp only[rOp,opX,opZ,Option.isSome]at hr hD
   subst hr
   repeat' ((conv=>whnf);first|refine Or.inl ?_|apply oi|(apply fi<;>intro h)|refine ci hD (ai rfl (ai rfl trivial)) ?_|refine⟨_,rfl,?_⟩|exact rfl)
   all_goals try exact⟨KO⟩
   all_goals try exact KX
  | some (x,z)=>
   rw[hd]at hr hD
   have hz:=fY hd
   dsimp only[rOp,opX,opZ,Option.isSome]at hr hD
   repeat' ((conv=>whnf);first|refine Or.inl ?_|apply oi|(apply fi<;>intro h)|refine ci hD (ai rfl (ai rfl trivial)) ?_|refine⟨_,rfl,?_⟩|exact rfl)
   all_goals try exact⟨KO⟩
   all_goals try exact KX
   all_goals try exact⟨⟨by simp only[List.length_map,List.length_cons,List.length_nil];omega,by simp only[List.length_map,List.length_cons,List.length_nil];omega⟩⟩
   conv=>whnf
   refine⟨⟨(p+z,acc++[x]),by dsimp only;omega,by simp;omega,?_⟩,?_,KD⟩
   ·dsimp only
    rw[←hr,Option.map_map]
    congr 1
    funext l
    simp
   repeat' ((conv=>whnf);first|refine Or.inl ?_|apply oi|(apply fi<;>intro h)|refine⟨_,rfl,?_⟩|exact rfl)
   all_goals try exact⟨KO⟩
   all_goals first
    |(refine⟨congrArg (Tr.int _) ?_⟩;dsimp only;rw[IntWalk.i64_in _ (by omega)];omega)
    |(refine⟨?_⟩;dsimp only;rw[List.map_append];rfl)
 ·have hge:s.length≤p:=by omega
  rw[ul hge]at hr
  simp only[Option.map_some,List.append_nil]at hr
  subst hr
  repeat' ((conv=>whnf);first|refine Or.inl ?_|apply oi|(apply fi<;>intro h)|refine⟨_,rfl,?_⟩|exact rfl)
  all_goals try exact⟨KO⟩
  all_goals try exact KX
def ew (seen:List HW)(nm:List UInt8):Bool:=seen.any fun y=>y.fac==nm
def sw (len a:Nat)(x:HW):Bool:=x.fam==(a:Int) && (decide (1≤x.fau) && (decide (x.fau≤(len:Int) - a) && cy x.fac))
def sI (code:List UInt8)(seen:List HW)(a:Nat)(x:HW):Bool:=sw code.length a x && (!(ew seen x.fac) && (ec ((code.take (a+x.fau.toNat)).drop a)).isSome)
def dP (code:List UInt8):List HW→Nat→List HW→Bool
 | _,a,[]=>a==code.length
 | seen,a,x::l=>sI code seen a x && dP code (seen++[x]) (a+x.fau.toNat) l
def ba (i:HM):Bool:=decide (i.fab.length≤1000000) && dP i.fab [] 0 i.fak
theorem EA {code:List UInt8}{l:List HW}{k a:Nat}{x:HW}(hx:l[k]?=some x):dP code (l.take k) a (l.drop k)=(sI code (l.take k) a x && dP code (l.take (k+1)) (a+x.fau.toNat) (l.drop (k+1))):=by
 rw[cO hx,dP]
 obtain⟨hk,rfl⟩:=List.getElem?_eq_some_iff.1 hx
 rw[List.take_succ_eq_append_getElem hk]
theorem vV {l:List HW}{j:Nat}{y:HW}{nm:List UInt8}(hy:l[j]?=some y):ew (l.take (j+1)) nm=(ew (l.take j) nm || y.fac==nm):=by
 obtain⟨hk,rfl⟩:=List.getElem?_eq_some_iff.1 hy
 rw[List.take_succ_eq_append_getElem hk,ew,List.any_append]
 simp[ew]
theorem yf {l:List HW}{j k:Nat}{y:HW}(hy:l[j]?=some y)(h:j < k):ew (l.take k) y.fac=true:=by
 rw[ew,List.any_eq_true]
 refine⟨y,?_,by simp⟩
 rw[List.mem_iff_getElem?]
 exact⟨j,by rw[List.getElem?_take,if_pos h];exact hy⟩
theorem imgPre_iff {len a:Nat}{x:HW}:sw len a x=true↔x.fam=(a:Int)∧1≤x.fau∧x.fau≤(len:Int) - a∧cy x.fac=true:=by
 unfold sw
 rw[Bool.and_eq_true,Bool.and_eq_true,Bool.and_eq_true,beq_iff_eq,decide_eq_true_eq,decide_eq_true_eq]
abbrev Gu (code:List UInt8)(l:List HW):={q:Nat×Nat // q.1≤l.length∧q.2≤code.length∧dP code (l.take q.1) q.2 (l.drop q.1)=dP code [] 0 l}
theorem uH (i:HM)(hs:aC 1048576 i.tr):Sim.Spec Tryz.prog 101 [.agg i.tr] (rB (ba i)):=by
 refine ao hΓ ay Tryz.func101 rfl (by decide) rfl ?_
 obtain⟨code,l⟩:=i
 simp only[HM.tr,aC]at hs
 have hcl:code.length≤1048576:=by have:=hs.1;rw[aA]at this;omega
 have hl:=ce hs.2.1
 have hlen:(l.map HW.tr).length=l.length:=by simp
 unfold ba
 dsimp only
 by_cases hbig:code.length≤1000000
 ·rw[show decide (code.length≤1000000)=true from decide_eq_true hbig,Bool.true_and]
  repeat' ((conv=>whnf);first|refine Or.inl ?_|apply oi|(apply fi<;>intro h)|refine⟨_,rfl,?_⟩|exact rfl)
  all_goals try exact⟨KO⟩
  all_goals try(exfalso;have h':=of_decide_eq_true h;dsimp only at h';omega;done)
  conv=>whnf
  refine⟨Gu code l,fun q=>⟨[(1,.r (.c (.ptr (1,0,0) 0))),(3,tI .i64 (q.1.2:Int)),(15,.r (.c (.t (.lst 3 (l.map HW.tr))))),(16,tI .i64 ((l.map HW.tr).length:Int)),(17,tI .i64 (q.1.1:Int))],[((1,0,0),some (.box [.t (.str code),.t (.lst 3 (l.map HW.tr))]))],[1]⟩,fun q=>l.length - q.1.1,⟨(0,0),by simp,by simp,by simp⟩,?_,?_⟩
  ·skip
   repeat' ((conv=>whnf);first|refine Or.inl ?_|apply oi|(apply fi<;>intro h)|refine⟨_,rfl,?_⟩|exact rfl)
   all_goals try exact⟨KO⟩
  intro⟨⟨k,a⟩,hk,ha,hr⟩
  dsimp only at hk ha hr ⊢
  by_cases hlt:k < l.length
  ·obtain⟨x,hx⟩:=ag hlt
   have hxl:x.fac.length≤1099511627775:=by
    have:=bd hs.2.1 (List.mem_of_getElem? hx)
    simp only[HW.tr,aC,aA]at this
    omega
   have hN:=vi x.fac hxl
   rw[EA hx,sI]at hr
   have hw1:IntKind.i64.wrap ((code.length:Int) - a)=(code.length:Int) - a:=IntWalk.i64_in _ (by omega)
   cases hpre:sw code.length a x with
   | false=>
    rw[hpre,Bool.false_and,Bool.false_and]at hr
    repeat' ((conv=>whnf);first|refine Or.inl ?_|apply oi|(apply fi<;>intro h)|refine⟨k,x.tr,rfl,ab hx,?_⟩|refine ci hN (ai rfl trivial) ?_|refine⟨_,rfl,?_⟩|exact rfl)
    all_goals try exact⟨KO⟩
    all_goals try(exfalso;have h':=of_decide_eq_false h;rw[hlen]at h';omega;done)
    all_goals try exact⟨by rw[←hr]⟩
    all_goals(exfalso;rw[←Bool.not_eq_true,imgPre_iff]at hpre;apply hpre;rw[hw1]at *;(simp_all) <;> omega)
   | true=>
    obtain⟨p1,p2,p3,p4⟩:=imgPre_iff.1 hpre
    rw[p4]at hN
    rw[hpre,Bool.true_and]at hr
    repeat' ((conv=>whnf);first|refine Or.inl ?_|apply oi|(apply fi<;>intro h)|refine⟨k,x.tr,rfl,ab hx,?_⟩|refine ci hN (ai rfl trivial) ?_|refine⟨_,rfl,?_⟩|exact rfl)
    all_goals try exact⟨KO⟩
    all_goals try(exfalso;first|(have h':=of_decide_eq_false h;rw[hlen]at h';omega)|(simp at h;done)|(rw[p1]at h;simp at h;done)|(have h':=of_decide_eq_true h;(try rw[hw1]at h');omega))
    conv=>whnf
    refine⟨0,k,rfl,rfl,by omega,by rw[hlen];omega,?_⟩
    repeat' ((conv=>whnf);first|refine Or.inl ?_|apply oi|(apply fi<;>intro h)|refine⟨_,rfl,?_⟩|exact rfl)
    all_goals try exact⟨KO⟩
    conv=>whnf
    have hrl:(((l.map HW.tr).take k).drop 0).length=k:=by simp;omega
    refine⟨{j:Nat // j≤k∧ew (l.take j) x.fac=false},fun j=>⟨[(1,.r (.c (.ptr (1,0,0) 0))),(3,tI .i64 (a:Int)),(5,.r (.c (.ptr (5,0,0) 0))),(15,.r (.c (.t (.lst 3 (l.map HW.tr))))),(16,tI .i64 ((l.map HW.tr).length:Int)),(17,tI .i64 (k:Int)),(50,.r (.c (.t (.lst 3 (((l.map HW.tr).take k).drop 0))))),(51,tI .i64 ((((l.map HW.tr).take k).drop 0).length:Int)),(52,tI .i64 (j.1:Int))],[((1,0,0),some (.box [.t (.str code),.t (.lst 3 (l.map HW.tr))])),((5,0,0),some (.box [.t (.str x.fac),.t (.int .i64 x.fam),.t (.int .i64 x.fau)]))],[5,1]⟩,fun j=>k - j.1,⟨0,by omega,rfl⟩,?_,?_⟩
    ·skip
     repeat' ((conv=>whnf);first|refine Or.inl ?_|apply oi|(apply fi<;>intro h)|refine⟨_,rfl,?_⟩|exact rfl)
     all_goals try exact⟨KO⟩
    intro⟨j,hj,hsn⟩
    dsimp only
    by_cases hjk:j < k
    ·obtain⟨y,hy⟩:=ag (l:=l) (k:=j) (by omega)
     have hyr:(((l.map HW.tr).take k).drop 0)[j]?=some y.tr:=by rw[List.drop_zero,List.getElem?_take,if_pos hjk];exact ab hy
     have hst:=vV (nm:=x.fac) hy
     rw[hsn,Bool.false_or]at hst
     cases hyx:(y.fac==x.fac)with
     | true=>
      have hs2:=yf hy hjk
      rw[beq_iff_eq.1 hyx]at hs2
      rw[hs2]at hr
      repeat' ((conv=>whnf);first|refine Or.inl ?_|apply oi|(apply fi<;>intro h)|refine⟨j,y.tr,rfl,hyr,?_⟩|refine⟨_,rfl,?_⟩|exact rfl)
      all_goals try exact⟨KO⟩
      all_goals first
       |(exfalso;have h':=of_decide_eq_false h;rw[hrl]at h';omega)
       | exact⟨by rw[←hr];rfl⟩
       |(exfalso;rw[hyx]at h;simp at h;done)
     | false=>
      rw[hyx]at hst
      repeat' ((conv=>whnf);first|refine Or.inl ?_|apply oi|(apply fi<;>intro h)|refine⟨j,y.tr,rfl,hyr,?_⟩|refine⟨_,rfl,?_⟩|exact rfl)
      all_goals try exact⟨KO⟩
      all_goals try(exfalso;first|(have h':=of_decide_eq_false h;rw[hrl]at h';omega)|(rw[hyx]at h;simp at h;done))
      conv=>whnf
      refine⟨⟨j+1,by omega,hst⟩,?_,KD⟩
      repeat' ((conv=>whnf);first|refine Or.inl ?_|apply oi|(apply fi<;>intro h)|refine⟨_,rfl,?_⟩|exact rfl)
      all_goals try exact⟨KO⟩
      all_goals exact⟨by dsimp only;rw[IntWalk.i64_in _ (by omega)];rfl⟩
    ·have hjk2:j=k:=by omega
     subst hjk2
     obtain⟨z,hz⟩:=Int.eq_ofNat_of_zero_le (show 0≤x.fau by omega)
     have hw2:IntKind.i64.wrap ((a:Int)+x.fau)=((a+z:Nat):Int):=by rw[IntWalk.i64_in _ (by omega),hz];rfl
     rw[hsn,hz,Int.toNat_natCast]at hr
     have hD:=nh ((code.take (a+z)).drop a) (by simp;omega)
     repeat' ((conv=>whnf);first|refine Or.inl ?_|apply oi|(apply fi<;>intro h)|refine⟨_,rfl,?_⟩|exact rfl)
     all_goals try exact⟨KO⟩
     all_goals try(exfalso;have h':=of_decide_eq_true h;rw[hrl]at h';omega)
     conv=>whnf
     refine⟨a,a+z,p1,hw2,by omega,by omega,?_⟩
     cases hds:(ec ((code.take (a+z)).drop a)).isSome with
     | false=>
      rw[hds]at hr hD
      repeat' ((conv=>whnf);first|refine Or.inl ?_|apply oi|(apply fi<;>intro h)|refine ci hD (ai rfl trivial) ?_|refine⟨_,rfl,?_⟩|exact rfl)
      all_goals try exact⟨KO⟩
      all_goals first
       | exact⟨by rw[←hr];rfl⟩
       |(exfalso;simp at h;done)
     | true=>
      rw[hds]at hr hD
      repeat' ((conv=>whnf);first|refine Or.inl ?_|apply oi|(apply fi<;>intro h)|refine ci hD (ai rfl trivial) ?_|refine⟨_,rfl,?_⟩|exact rfl)
      all_goals try exact⟨KO⟩
      all_goals try(exfalso;simp at h;done)
      conv=>whnf
      refine⟨⟨(j+1,a+z),by dsimp only;omega,by dsimp only;omega,by simpa using hr⟩,?_,KD⟩
      repeat' ((conv=>whnf);first|refine Or.inl ?_|apply oi|(apply fi<;>intro h)|refine⟨_,rfl,?_⟩|exact rfl)
      all_goals try exact⟨KO⟩
      all_goals first
       | exact⟨by dsimp only;rw[hw2]⟩
       | exact⟨by dsimp only;rw[IntWalk.i64_in _ (by omega)];rfl⟩
  ·have hge:l.length≤k:=by omega
   rw[List.drop_eq_nil_of_le hge,dP]at hr
   repeat' ((conv=>whnf);first|refine Or.inl ?_|apply oi|(apply fi<;>intro h)|refine⟨_,rfl,?_⟩|exact rfl)
   all_goals try exact⟨KO⟩
   all_goals try exact KX
   exact⟨by rw[←hr];congr 1;rw[Bool.eq_iff_iff,beq_iff_eq,beq_iff_eq];omega⟩
 ·rw[show decide (code.length≤1000000)=false from decide_eq_false hbig,Bool.false_and]
  repeat' ((conv=>whnf);first|refine Or.inl ?_|apply oi|(apply fi<;>intro h)|refine⟨_,rfl,?_⟩|exact rfl)
  all_goals try exact⟨KO⟩
  all_goals(exfalso;have h':=of_decide_eq_false h;dsimp only at h';omega)
theorem sl (i:HM)(hs:aC 1048576 i.tr):Sim.Spec Tryz.prog 164 [.agg i.tr] (rB (ba i)):=by
 refine ao hΓ ay Tryz.func164 rfl (by decide) rfl ?_
 obtain⟨code,l⟩:=i
 simp only[HM.tr,aC]at hs
 have hcl:code.length≤1048576:=by have:=hs.1;rw[aA]at this;omega
 have hl:=ce hs.2.1
 have hlen:(l.map HW.tr).length=l.length:=by simp
 unfold ba
 dsimp only
 repeat' ((conv=>whnf);first|refine Or.inl ?_|apply oi|(apply fi<;>intro h)|refine⟨_,rfl,?_⟩|exact rfl)
 all_goals try exact⟨KO⟩
 conv=>whnf
 refine⟨Gu code l,fun q=>⟨[(1,.r (.c (.ptr (1,0,0) 0))),(3,tI .i64 (q.1.2:Int)),(4,tI .i64 (q.1.1:Int))],[((1,0,0),some (.box [.t (.str code),.t (.lst 3 (l.map HW.tr))]))],[1]⟩,fun q=>l.length - q.1.1,⟨(0,0),by simp,by simp,by simp⟩,?_,?_⟩
 ·skip
  repeat' ((conv=>whnf);first|refine Or.inl ?_|apply oi|(apply fi<;>intro h)|refine⟨_,rfl,?_⟩|exact rfl)
  all_goals try exact⟨KO⟩
 intro⟨⟨k,a⟩,hk,ha,hr⟩
 dsimp only at hk ha hr ⊢
 by_cases hlt:k < l.length
 ·obtain⟨x,hx⟩:=ag hlt
  have hxl:x.fac.length≤1099511627775:=by
   have:=bd hs.2.1 (List.mem_of_getElem? hx)
   simp only[HW.tr,aC,aA]at this
   omega
  have hN:=eA x.fac hxl
  rw[EA hx,sI]at hr
  have hw1:IntKind.i64.wrap ((code.length:Int) - a)=(code.length:Int) - a:=IntWalk.i64_in _ (by omega)
  cases hpre:sw code.length a x with
  | false=>
   rw[hpre,Bool.false_and,Bool.false_and]at hr
   repeat' ((conv=>whnf);first|refine Or.inl ?_|apply oi|(apply fi<;>intro h)|refine⟨k,x.tr,rfl,ab hx,?_⟩|refine ci hN (ai rfl trivial) ?_|refine⟨_,rfl,?_⟩|exact rfl)
   all_goals try exact⟨KO⟩
   all_goals try(exfalso;have h':=of_decide_eq_false h;rw[hlen]at h';omega;done)
   all_goals try exact KX
   all_goals try exact⟨by rw[←hr,Bool.and_false]⟩
   all_goals(exfalso;rw[←Bool.not_eq_true,imgPre_iff]at hpre;apply hpre;rw[hw1]at *;(simp_all) <;> omega)
  | true=>
   obtain⟨p1,p2,p3,p4⟩:=imgPre_iff.1 hpre
   rw[p4]at hN
   rw[hpre,Bool.true_and]at hr
   repeat' ((conv=>whnf);first|refine Or.inl ?_|apply oi|(apply fi<;>intro h)|refine⟨k,x.tr,rfl,ab hx,?_⟩|refine ci hN (ai rfl trivial) ?_|refine⟨_,rfl,?_⟩|exact rfl)
   all_goals try exact⟨KO⟩
   all_goals try exact KX
   all_goals try(exfalso;first|(have h':=of_decide_eq_false h;rw[hlen]at h';omega)|(simp at h;done)|(rw[p1]at h;simp at h;done)|(have h':=of_decide_eq_true h;(try rw[hw1]at h');omega))
   conv=>whnf
   have hrl:(((l.map HW.tr).take k).drop 0).length=k:=by simp;omega
   refine⟨{j:Nat // j≤k∧ew (l.take j) x.fac=false},fun j=>⟨[(1,.r (.c (.ptr (1,0,0) 0))),(3,tI .i64 (a:Int)),(5,.r (.c (.ptr (5,0,0) 0))),(4,tI .i64 (k:Int)),(6,tI .i64 (j.1:Int))],[((1,0,0),some (.box [.t (.str code),.t (.lst 3 (l.map HW.tr))])),((5,0,0),some (.box [.t (.str x.fac),.t (.int .i64 x.fam),.t (.int .i64 x.fau)]))],[5,1]⟩,fun j=>k - j.1,⟨0,by omega,rfl⟩,?_,?_⟩
   ·skip
    repeat' ((conv=>whnf);first|refine Or.inl ?_|apply oi|(apply fi<;>intro h)|refine⟨_,rfl,?_⟩|exact rfl)
    all_goals try exact⟨KO⟩
   intro⟨j,hj,hsn⟩
   dsimp only
   by_cases hjk:j < k
   ·obtain⟨y,hy⟩:=ag (l:=l) (k:=j) (by omega)
    have hyr:(((l.map HW.tr).take k).drop 0)[j]?=some y.tr:=by rw[List.drop_zero,List.getElem?_take,if_pos hjk];exact ab hy
    have hst:=vV (nm:=x.fac) hy
    rw[hsn,Bool.false_or]at hst
    cases hyx:(y.fac==x.fac)with
    | true=>
     have hs2:=yf hy hjk
     rw[beq_iff_eq.1 hyx]at hs2
     rw[hs2]at hr
     repeat' ((conv=>whnf);first|refine Or.inl ?_|apply oi|(apply fi<;>intro h)|refine⟨j,y.tr,rfl,ab hy,?_⟩|refine⟨_,rfl,?_⟩|exact rfl)
     all_goals try exact⟨KO⟩
     all_goals first
      |(exfalso;have h':=of_decide_eq_false h;omega)
      | exact⟨by rw[←hr];simp⟩
      |(exfalso;rw[hyx]at h;simp at h;done)
    | false=>
     rw[hyx]at hst
     repeat' ((conv=>whnf);first|refine Or.inl ?_|apply oi|(apply fi<;>intro h)|refine⟨j,y.tr,rfl,ab hy,?_⟩|refine⟨_,rfl,?_⟩|exact rfl)
     all_goals try exact⟨KO⟩
     all_goals try(exfalso;first|(have h':=of_decide_eq_false h;omega)|(rw[hyx]at h;simp at h;done))
     conv=>whnf
     refine⟨⟨j+1,by omega,hst⟩,?_,KD⟩
     repeat' ((conv=>whnf);first|refine Or.inl ?_|apply oi|(apply fi<;>intro h)|refine⟨_,rfl,?_⟩|exact rfl)
     all_goals try exact⟨KO⟩
     all_goals exact⟨by dsimp only;rw[IntWalk.i64_in _ (by omega)];rfl⟩
   ·have hjk2:j=k:=by omega
    subst hjk2
    obtain⟨z,hz⟩:=Int.eq_ofNat_of_zero_le (show 0≤x.fau by omega)
    have hw2:IntKind.i64.wrap ((a:Int)+x.fau)=((a+z:Nat):Int):=by rw[IntWalk.i64_in _ (by omega),hz];rfl
    rw[hsn,hz,Int.toNat_natCast]at hr
    have hD:=nG ((code.take (a+z)).drop a) (by simp;omega)
    repeat' ((conv=>whnf);first|refine Or.inl ?_|apply oi|(apply fi<;>intro h)|refine⟨_,rfl,?_⟩|exact rfl)
    all_goals try exact⟨KO⟩
    all_goals try(exfalso;have h':=of_decide_eq_true h;omega)
    conv=>whnf
    refine⟨a,a+z,rfl,hw2,by omega,by omega,?_⟩
    cases hds:(ec ((code.take (a+z)).drop a)).isSome with
    | false=>
     rw[hds]at hr hD
     repeat' ((conv=>whnf);first|refine Or.inl ?_|apply oi|(apply fi<;>intro h)|refine ci hD (ai rfl trivial) ?_|refine⟨_,rfl,?_⟩|exact rfl)
     all_goals try exact⟨KO⟩
     all_goals first
      | exact⟨by rw[←hr];simp⟩
      |(exfalso;simp at h;done)
    | true=>
     rw[hds]at hr hD
     repeat' ((conv=>whnf);first|refine Or.inl ?_|apply oi|(apply fi<;>intro h)|refine ci hD (ai rfl trivial) ?_|refine⟨_,rfl,?_⟩|exact rfl)
     all_goals try exact⟨KO⟩
     all_goals try(exfalso;simp at h;done)
     conv=>whnf
     refine⟨⟨(j+1,a+z),by dsimp only;omega,by dsimp only;omega,by simpa using hr⟩,?_,KD⟩
     repeat' ((conv=>whnf);first|refine Or.inl ?_|apply oi|(apply fi<;>intro h)|refine⟨_,rfl,?_⟩|exact rfl)
     all_goals try exact⟨KO⟩
     all_goals first
      | exact⟨by dsimp only;rw[hw2]⟩
      | exact⟨by dsimp only;rw[IntWalk.i64_in _ (by omega)];rfl⟩
 ·have hge:l.length≤k:=by omega
  rw[List.drop_eq_nil_of_le hge,dP]at hr
  repeat' ((conv=>whnf);first|refine Or.inl ?_|apply oi|(apply fi<;>intro h)|refine⟨_,rfl,?_⟩|exact rfl)
  all_goals try exact⟨KO⟩
  all_goals try exact KX
  ·have h9:a=code.length:=by have:=eq_of_beq h;omega
   refine⟨congrArg Tr.bool ?_⟩
   rw[←hr,h9,beq_self_eq_true,Bool.and_true]
   exact decide_eq_decide.2 (by omega)
  ·have h9:(a==code.length)=false:=by rw[beq_eq_false_iff_ne]at h ⊢;omega
   refine⟨congrArg Tr.bool ?_⟩
   rw[←hr,h9,Bool.and_false]
end Go.Proofs.YtjmplnfiabmalaaGreat
