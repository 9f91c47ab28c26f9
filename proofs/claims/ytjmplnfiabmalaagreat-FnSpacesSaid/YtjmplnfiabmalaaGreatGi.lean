import Derived.Test.YtjmplnfiabmalaaGreatGh
namespace Go.Proofs.YtjmplnfiabmalaaGreat
open Go.Sim
set_option maxRecDepth 100000
set_option maxHeartbeats 4000000
theorem BP:∀f:Fin 101,IntKind.i64.wrap (BitVec.ofInt IntKind.i64.bits (f.val:Int) &&& BitVec.ofInt IntKind.i64.bits 1).toNat=(f.val:Int) % 2:=by decide
theorem pb (f:Nat)(b:Hz)(image:Int)(hf:f≤100):Sim.Spec Tryz.prog 75 [.agg b.tr,tvI (f:Int),tvI image] (rB (mi b image f)):=by
 refine aE hΓ ay Tryz.func75 rfl (by decide) rfl ?_
 unfold mi
 have hm:=BP ⟨f,by omega⟩
 dsimp only at hm
 repeat' ((conv=>whnf);first|apply Wx|apply W6|apply oi|(apply fi<;>intro h)|refine⟨_,rfl,?_⟩|exact rfl)
 all_goals try exact⟨KP⟩
 all_goals first|exact⟨by rw[h,hm];rfl⟩|exact⟨by rw[h];rfl⟩
theorem uz:∀{L:List (Nat×List HK)},(∀x∈L,x.2.length≤2500)→(aC L).length≤2500 * L.length
 | L,h=>by
  have:=na h (Nat.le_refl L.length)
  rwa [List.take_of_length_le (Nat.le_refl _)]at this
theorem sn (p:List HH)(b:Hz)(image:Int)(hs:aB 1048576 (.lst 4 (p.map HH.tr))):Sim.Spec Tryz.prog 13 [tvP p,.agg b.tr,tvI image] (rL 8 ((fP p b image).map HK.tr)):=by
 refine aE hΓ ay Tryz.func13 rfl (by decide) rfl ?_
 have hP:=dF p hs
 have hB:=jt b
 have gb:=bi image 0 1
 by_cases hc:aw p=true∧aJ b=true∧af image 0 1=true
 ·have hcf:fP p b image=aC (bZ p b image (ak p).length 0 0):=by rw[fP,if_pos hc];rfl
  rw[hcf]
  obtain⟨h1,h2,h3⟩:=hc
  rw[h1]at hP
  rw[h2]at hB
  rw[h3]at gb
  obtain⟨h6,h60⟩:=dU h1
  have gF:=bS p (by omega)
  have hfl:((ak p).map fun n:Nat=>aa n).length=(ak p).length:=by simp
  have hlc:=fun x (hx:x∈bZ p b image (ak p).length 0 0)=>(jf hs hx).1
  repeat' ((conv=>whnf);first|apply Wx|apply W6|apply oi|(apply fi<;>intro h)|refine cl hP ?_|refine cl hB ?_|refine cl gb ?_|refine⟨_,rfl,?_⟩|exact rfl)
  all_goals try exact⟨KP⟩
  conv=>whnf
  refine⟨GB p b image,fun q=>⟨[(0,vP p),(2,tI .i64 image),(4,.r (.c (.ptr (4,0,0) 0))),(7,.r (.c (.own (15,0,0)))),(8,tI .i64 q.1.2.1),(9,tI .i64 (q.1.1:Int))],[((15,0,0),some (.arr true 8 ((aC q.1.2.2).map HK.tr))),((4,0,0),some (.box [.t (.int .i64 b.far),.t (.int .i64 b.fal),.t (.bool b.faw),.t (.bool b.fas)]))],[15,4]⟩,fun q=>(ak p).length - q.1.1,⟨(0,0,[]),by simp,by simp,by simp,by simp⟩,?_,?_⟩
  ·skip
   repeat' ((conv=>whnf);first|apply Wx|apply W6|apply oi|(apply fi<;>intro h)|refine⟨_,rfl,?_⟩|exact rfl)
   all_goals try exact⟨KP⟩
  intro⟨⟨f,at0,acc⟩,hk,ha,hal,hr⟩
  dsimp only at hk ha hal hr ⊢
  have hac:(aC acc).length≤2500 * acc.length:=uz fun x hx=>hlc x (by rw[←hr];exact List.mem_append.2 (.inl hx))
  by_cases hlt:f < (ak p).length
  ·obtain⟨n,hn⟩:∃n,(ak p).length - f=n+1:=⟨(ak p).length - f - 1,by omega⟩
   have hi:=pb f b image (by omega)
   rw[hn,kH]at hr
   cases hin:mi b image f with
   | false=>
    rw[hin]at hi hr
    rw[if_neg (by simp)]at hr
    repeat' ((conv=>whnf);first|apply Wx|apply W6|apply oi|(apply fi<;>intro h)|refine cl gF ?_|refine cl hi ?_|refine⟨_,rfl,?_⟩|exact rfl)
    all_goals try exact⟨KP⟩
    all_goals try exact KX
    conv=>whnf
    refine⟨⟨(f+1,at0,acc),by dsimp only;omega,by dsimp only;omega,by dsimp only;omega,by dsimp only;rw[show(ak p).length - (f+1)=n by omega];exact hr⟩,?_,KD⟩
    repeat' ((conv=>whnf);first|apply Wx|apply W6|apply oi|(apply fi<;>intro h)|refine⟨_,rfl,?_⟩|exact rfl)
    all_goals try exact⟨KP⟩
    all_goals try exact⟨KW⟩
   | true=>
    rw[hin]at hi hr
    rw[if_pos rfl]at hr
    have hcs:=lq p (f:Int) b hs
    obtain⟨f1,f2,f3⟩:=Er (f:=f) hs h1 h2 hlt
    have hch:=(fV (p:=p) (f:=(f:Int)) (b:=b) hs).2
    generalize aL p (f:Int) b=I at *
    repeat' ((conv=>whnf);first|apply Wx|apply W6|apply oi|(apply fi<;>intro h)|refine cl gF ?_|refine cl hi ?_|refine cl hcs ?_|refine⟨_,rfl,?_⟩|exact rfl)
    all_goals try exact⟨KP⟩
    all_goals try exact KX
    have hlen:(I.map HG.tr).length=I.length:=by simp
    have hsl:=mN at0 I
    have hle:=fun k (h:k≤I.length)=>fq (at0:=at0) h
    have hS0:=fY at0 I
    have hsu:=fun k x (h:I[k]?=some x)=>eH (at0:=at0) h
    have hpf:∀(k:Nat) (x:HG),I[k]?=some x→(cP I at0)[k]?=some (HK.mk (atL (bY at0 I) k) (ez (bY at0 I) k x)):=fun k x h=>eB h
    have hfl2:=dv I at0
    have hend:sG at0 I=atL (bY at0 I) I.length:=rfl
    have ye:=Cb (l:=I) (at0:=at0)
    generalize bY at0 I=S at *
    generalize cP I at0=F at *
    generalize sG at0 I=E at *
    conv=>whnf
    refine⟨{k:Nat // k≤I.length},fun k=>⟨[(0,vP p),(2,tI .i64 image),(4,.r (.c (.ptr (4,0,0) 0))),(7,.r (.c (.own (15,0,0)))),(8,tI .i64 (atL S k.1)),(9,tI .i64 (f:Int)),(10,.r (.c (.own (45,0,0)))),(11,.r (.c (.own (46,0,0)))),(12,tI .i64 (k.1:Int))],[((46,0,0),some (.arr true 1 ((S.take k.1).map aa))),((45,0,0),some (.arr true 7 (I.map HG.tr))),((15,0,0),some (.arr true 8 ((aC acc).map HK.tr))),((4,0,0),some (.box [.t (.int .i64 b.far),.t (.int .i64 b.fal),.t (.bool b.faw),.t (.bool b.fas)]))],[46,45,15,4]⟩,fun k=>I.length - k.1,⟨0,by omega⟩,?_,?_⟩
    ·skip
     repeat' ((conv=>whnf);first|apply Wx|apply W6|apply oi|(apply fi<;>intro h)|refine⟨_,rfl,?_⟩|exact rfl)
     all_goals try exact⟨KP⟩
     all_goals try exact⟨by rw[hS0]⟩
    intro⟨k,hk⟩
    dsimp only
    have hlk:=hle k hk
    by_cases hlt2:k < I.length
    ·obtain⟨x,hx⟩:=ae hlt2
     have hz:=gl x.fae.fab
     have ho:=nQ x.fae.fab
     have hs1:=hsu k x hx
     have hg:S[k]?=some (atL S k):=mW (by omega)
     have hkr:k < (I.map HG.tr).length:=by omega
     have hxr:(I.map HG.tr)[k]?=some x.tr:=ab hx
     repeat' ((conv=>whnf);first|apply Wx|apply W6|apply oi|(apply fi<;>intro h)|refine⟨k,rfl,hkr,?_⟩|refine⟨_,hxr,?_⟩|refine cl ho ?_|refine⟨_,rfl,?_⟩|exact rfl)
     all_goals try exact⟨KP⟩
     all_goals try exact KX
     all_goals try exact⟨⟨by simp <;> omega,by simp <;> omega⟩⟩
     conv=>whnf
     refine⟨⟨k+1,by omega⟩,?_,KD⟩
     repeat' ((conv=>whnf);first|apply Wx|apply W6|apply oi|(apply fi<;>intro h)|refine⟨_,rfl,?_⟩|exact rfl)
     all_goals try exact⟨KP⟩
     all_goals try exact⟨KW⟩
     all_goals try exact⟨by rw[cr hg,List.map_append];rfl⟩
     all_goals try exact⟨congrArg (Tr.int .i64) (by rw[hs1,IntWalk.i64_in _ (by omega)])⟩
    ·have hkl:k=I.length:=by omega
     subst hkl
     have hg:S[I.length]?=some (atL S I.length):=mW (by omega)
     repeat' ((conv=>whnf);first|apply Wx|apply W6|apply oi|(apply fi<;>intro h)|refine⟨_,rfl,?_⟩|exact rfl)
     all_goals try exact⟨KP⟩
     all_goals try exact KX
     all_goals try exact⟨⟨by simp <;> omega,by simp <;> omega⟩⟩
     conv=>whnf
     refine⟨{k:Nat // k≤I.length},fun k=>⟨[(0,vP p),(2,tI .i64 image),(4,.r (.c (.ptr (4,0,0) 0))),(7,.r (.c (.own (15,0,0)))),(8,tI .i64 (atL S I.length)),(9,tI .i64 (f:Int)),(10,.r (.c (.own (45,0,0)))),(11,.r (.c (.own (69,0,0)))),(13,tI .i64 (k.1:Int))],[((69,0,0),some (.arr true 1 (S.map aa))),((45,0,0),some (.arr true 7 (I.map HG.tr))),((15,0,0),some (.arr true 8 ((aC acc++F.take k.1).map HK.tr))),((4,0,0),some (.box [.t (.int .i64 b.far),.t (.int .i64 b.fal),.t (.bool b.faw),.t (.bool b.fas)]))],[69,45,15,4]⟩,fun k=>I.length - k.1,⟨0,by omega⟩,?_,?_⟩
     ·skip
      repeat' ((conv=>whnf);first|apply Wx|apply W6|apply oi|(apply fi<;>intro h)|refine⟨_,rfl,?_⟩|exact rfl)
      all_goals try exact⟨KP⟩
      all_goals try exact⟨by rw[show [[Tr.int .i64 (atL S I.length)]]=[atL S I.length].map aa from rfl,←List.map_append,←cr hg,List.take_of_length_le (by omega)]⟩
      all_goals try exact⟨by simp⟩
     intro⟨k,hk⟩
     dsimp only
     have hol:((aC acc++F.take k).map HK.tr).length=(aC acc).length+k:=by rw[List.length_map,List.length_append,List.length_take];omega
     have hml:(S.map aa).length=I.length+1:=by rw[List.length_map];exact hsl
     have mg:∀j,j≤I.length→(S.map aa)[j]?=some (aa (atL S j)):=fun j hj=>by rw[List.getElem?_map,mW (by omega)];rfl
     by_cases hlt2:k < I.length
     ·obtain⟨x,hx⟩:=ae hlt2
      have hpg:=hpf k x hx
      have hsn:(aC acc++F.take (k+1)).map HK.tr=(aC acc++F.take k).map HK.tr++[(HK.mk (atL S k) (ez S k x)).tr]:=by rw[cr hpg,←List.append_assoc,List.map_append];rfl
      have hkr:k < (I.map HG.tr).length:=by omega
      have hxr:(I.map HG.tr)[k]?=some x.tr:=ab hx
      have hw1:IntKind.i64.wrap ((k:Int)+1)=((k+1:Nat):Int):=by rw[IntWalk.i64_in _ (by omega)];rfl
      have hk0:k < (S.map aa).length:=by omega
      have hk1:k+1 < (S.map aa).length:=by omega
      have m0:=mg k (by omega)
      have m1:=mg (k+1) (by omega)
      have b1:=hle (k+1) (by omega)
      cases hjx:mv x with
      | true=>
       obtain⟨ja,jb⟩:=f3 x (List.mem_of_getElem? hx) hjx
       have hwa:x.fae.fak=((x.fae.fak.toNat:Nat):Int):=(Int.toNat_of_nonneg ja).symm
       have hal2:x.fae.fak.toNat < (S.map aa).length:=by omega
       have m2:=mg x.fae.fak.toNat (by omega)
       have b2:=hle x.fae.fak.toNat (by omega)
       have hji:ez S k x=tA x (IntKind.i64.wrap (atL S x.fae.fak.toNat - atL S (k+1))):=by rw[ez,if_pos hjx,IntWalk.i64_in _ (by omega)]
       rw[fv]at hjx
       repeat' ((conv=>whnf);first|apply Wx|apply W6|apply oi|(apply fi<;>intro h)|refine⟨k,rfl,hkr,?_⟩|refine⟨_,hxr,?_⟩|refine⟨k,rfl,hk0,?_⟩|refine⟨k+1,hw1,hk1,?_⟩|refine⟨_,hwa,hal2,?_⟩|refine⟨_,m0,?_⟩|refine⟨_,m1,?_⟩|refine⟨_,m2,?_⟩|refine⟨_,rfl,?_⟩|exact rfl)
       all_goals try exact⟨KP⟩
       all_goals try exact KX
       all_goals try exact KK
       all_goals try exact⟨⟨by simp only[List.length_nil,List.length_cons,hol] <;> omega,by simp only[List.length_nil,List.length_cons,hol] <;> omega⟩⟩
       all_goals(
        conv=>whnf
        refine⟨⟨k+1,by omega⟩,?_,KD⟩
        repeat' ((conv=>whnf);first|apply Wx|apply W6|apply oi|(apply fi<;>intro h)|refine⟨_,rfl,?_⟩|exact rfl)
        all_goals try exact⟨KP⟩
        all_goals try exact⟨KW⟩
        all_goals try exact⟨by dsimp only;rw[hsn,hji];rfl⟩)
      | false=>
       have hji:ez S k x=x:=by rw[ez,if_neg (by rw[hjx];simp)]
       have hjn:¬(x.fae.fab=10∨x.fae.fab=11):=by rw[←fv,hjx];simp
       repeat' ((conv=>whnf);first|apply Wx|apply W6|apply oi|(apply fi<;>intro h)|refine⟨k,rfl,hkr,?_⟩|refine⟨_,hxr,?_⟩|refine⟨k,rfl,hk0,?_⟩|refine⟨_,m0,?_⟩|refine⟨_,rfl,?_⟩|exact rfl)
       all_goals try exact⟨KP⟩
       all_goals try exact KX
       all_goals try exact KK
       all_goals try exact⟨⟨by simp only[List.length_nil,List.length_cons,hol] <;> omega,by simp only[List.length_nil,List.length_cons,hol] <;> omega⟩⟩
       all_goals(
        conv=>whnf
        refine⟨⟨k+1,by omega⟩,?_,KD⟩
        repeat' ((conv=>whnf);first|apply Wx|apply W6|apply oi|(apply fi<;>intro h)|refine⟨_,rfl,?_⟩|exact rfl)
        all_goals try exact⟨KP⟩
        all_goals try exact⟨KW⟩
        all_goals try exact⟨by dsimp only;rw[hsn,hji];rfl⟩)
     ·have hkl:k=I.length:=by omega
      subst hkl
      repeat' ((conv=>whnf);first|apply Wx|apply W6|apply oi|(apply fi<;>intro h)|refine⟨_,rfl,?_⟩|exact rfl)
      all_goals try exact⟨KP⟩
      all_goals try exact KX
      conv=>whnf
      refine⟨⟨(f+1,E,acc++[(f,F)]),by dsimp only;omega,by dsimp only;omega,by simp;omega,by dsimp only;rw[List.append_assoc,show(ak p).length - (f+1)=n by omega];exact hr⟩,?_,KD⟩
      repeat' ((conv=>whnf);first|apply Wx|apply W6|apply oi|(apply fi<;>intro h)|refine⟨_,rfl,?_⟩|exact rfl)
      all_goals try exact⟨KP⟩
      all_goals try exact⟨KW⟩
      all_goals try exact⟨by rw[hend]⟩
      all_goals try exact⟨by rw[kU,List.take_of_length_le (by omega)]⟩
  ·rw[show(ak p).length - f=0 by omega]at hr
   have hr2:acc=bZ p b image (ak p).length 0 0:=by rw[←hr];simp[bZ]
   repeat' ((conv=>whnf);first|apply Wx|apply W6|apply oi|(apply fi<;>intro h)|refine cl gF ?_|refine⟨_,rfl,?_⟩|exact rfl)
   all_goals try exact⟨KP⟩
   all_goals try exact KX
   all_goals exact⟨by rw[hr2]⟩
 ·have hcf:fP p b image=[]:=by rw[fP,if_neg hc]
  rw[hcf]
  cases h1:aw p with
  | false=>
   rw[h1]at hP
   repeat' ((conv=>whnf);first|apply Wx|apply W6|apply oi|(apply fi<;>intro h)|refine cl hP ?_|refine cl hB ?_|refine cl gb ?_|refine⟨_,rfl,?_⟩|exact rfl)
   all_goals try exact⟨KP⟩
   all_goals try exact KX
  | true=>
   rw[h1]at hP
   cases h2:aJ b with
   | false=>
    rw[h2]at hB
    repeat' ((conv=>whnf);first|apply Wx|apply W6|apply oi|(apply fi<;>intro h)|refine cl hP ?_|refine cl hB ?_|refine cl gb ?_|refine⟨_,rfl,?_⟩|exact rfl)
    all_goals try exact⟨KP⟩
    all_goals try exact KX
   | true=>
    rw[h2]at hB
    cases h3:af image 0 1 with
    | true=>exact absurd ⟨h1,h2,h3⟩ hc
    | false=>
     rw[h3]at gb
     repeat' ((conv=>whnf);first|apply Wx|apply W6|apply oi|(apply fi<;>intro h)|refine cl hP ?_|refine cl hB ?_|refine cl gb ?_|refine⟨_,rfl,?_⟩|exact rfl)
     all_goals try exact⟨KP⟩
     all_goals try exact KX
theorem ic (p:List HH)(b:Hz)(image:Int)(hs:aB 1048576 (.lst 4 (p.map HH.tr))):Sim.Spec Tryz.prog 38 [tvP p,.agg b.tr,tvI image] (.r (.agg ((ag p b image).tr.map CZ))):=by
 refine aE hΓ ay Tryz.func38 rfl (by decide) rfl ?_
 have hP:=sn p b image hs
 by_cases hc:aw p=true∧aJ b=true∧af image 0 1=true
 ·have hcf:ag p b image=⟨ao (aC (bZ p b image (ak p).length 0 0)),bx p 0 (bZ p b image (ak p).length 0 0)⟩:=by rw[ag,if_pos hc]
  have hpf:fP p b image=aC (bZ p b image (ak p).length 0 0):=by rw[fP,if_pos hc];rfl
  rw[hcf]
  rw[hpf]at hP
  obtain⟨h1,h2,h3⟩:=hc
  obtain⟨h6,h60⟩:=dU h1
  have hll:=jc p b image (ak p).length 0 0
  have hlc:=fun x (hx:x∈bZ p b image (ak p).length 0 0)=>(jf hs hx).1
  have hfa:=fun{i:Nat} {x:Nat×List HK} {j:Nat} {y:HK} (h:(bZ p b image (ak p).length 0 0)[i]?=some x) (hy:x.2[j]?=some y)=>kO hs h1 h2 h hy
  have hla:=fun{i:Nat} {x:Nat×List HK} (h:(bZ p b image (ak p).length 0 0)[i]?=some x)=>(mT hs h1 h2 (by omega) h).2
  generalize bZ p b image (ak p).length 0 0=L at *
  repeat' ((conv=>whnf);first|apply Wx|apply W6|apply oi|(apply fi<;>intro h)|refine cl hP ?_|refine⟨_,rfl,?_⟩|exact rfl)
  all_goals try exact⟨KP⟩
  conv=>whnf
  refine⟨{q:Nat×Nat // q.1≤L.length∧(∀x,L[q.1]?=some x→q.2 < x.2.length)∧(q.1=L.length→q.2=0)},fun q=>⟨[(0,vP p),(6,.r (.c (.ptr (6,0,0) 0))),(7,.r (.c (.ptr (7,0,0) 0))),(8,.r (.c (.own (15,0,0)))),(9,tI .i64 (((aC (L.take q.1.1)).length+q.1.2:Nat):Int))],[((6,0,0),some (.box [.t (.str []),.nils 0])),((7,0,0),some (.box [.t (.str (fO L q.1.1 q.1.2)),.own (7,0,1)])),((7,0,1),some (.arr true 3 ((iP p L q.1.1 q.1.2).map HO.tr))),((15,0,0),some (.arr true 8 ((aC L).map HK.tr)))],[15,7,6]⟩,fun q=>(aC L).length+1 - ((aC (L.take q.1.1)).length+q.1.2),⟨(0,0),by dsimp only;omega,by intro x hx;exact(hla hx).2,fun _=>rfl⟩,?_,?_⟩
  ·skip
   repeat' ((conv=>whnf);first|apply Wx|apply W6|apply oi|(apply fi<;>intro h)|refine⟨_,rfl,?_⟩|exact rfl)
   all_goals try exact⟨KP⟩
   all_goals try exact⟨by rw[Bz];rfl⟩
   all_goals try exact⟨by rw[tQ];rfl⟩
  intro⟨⟨i,j⟩,hi,hj,he⟩
  dsimp only at hi hj he ⊢
  by_cases hlt:i < L.length
  ·obtain⟨x,hx⟩:=ae hlt
   have hjx:=hj x hx
   obtain⟨y,hy⟩:=ae hjx
   obtain⟨hPI,hoff⟩:=hfa hx hy
   have hat:=Fk hx hy
   have hkl:=aM hat
   have hal:=uz hlc
   have hal2:=Nat.mul_le_mul_left 2500 (show L.length≤6 by omega)
   have hkm:(aC (L.take i)).length+j < ((aC L).map HK.tr).length:=by rw[List.length_map];exact hkl
   have hgm:((aC L).map HK.tr)[(aC (L.take i)).length+j]?=some y.tr:=ab hat
   have hE:=sD y.fai.fae
   have hE5:=mI y.fai.fae
   obtain⟨⟨i',j'⟩,q1,q2,q3,q4,q5,q6⟩:=EZ (p:=p) (fun{i x} h=>(hla (i:=i) h).2) hx hjx
   dsimp only at q1 q2 q3 q4 q5 q6
   rw[Df hx hy]at q5
   rw[xq hx]at q6
   have hcl:=Dj (j:=j) hx
   have hcl2:=eu (aC (L.take i))
   have hcl3:=eu (x.2.take j)
   have hcl4:(aC (L.take i)).length≤(aC L).length:=by omega
   have hcl5:(x.2.take j).length≤2500:=by have:=hlc x (List.mem_of_getElem? hx);rw[List.length_take];omega
   have hcl6:ao (x.2.take (j+1))=ao (x.2.take j)++aS y.fai.fae:=by rw[cr hy,aH,ew]
   rw[hcl6,List.length_append]at q6
   have hS0:(bx p 0 (L.take i)).length=i:=by rw[iO,List.length_take];omega
   rcases Nat.eq_zero_or_pos j with rfl|hj0
   ·obtain⟨hcode,g,ln,hf1,hf2,hf3,hf4⟩:=hPI.head rfl
    have hnm:bb p x.1=ln.fac:=by rw[bb,hf1];dsimp only;rw[hf3]
    rw[tQ]
    have hz0:ao (x.2.take 0)=[]:=by simp[ao]
    rw[hz0]at q6 hcl hoff
    rw[List.length_nil]at hcl hoff
    generalize fO L i 0=C at *
    generalize bx p 0 (L.take i)=S0 at *
    generalize aS y.fai.fae=EB at *
    generalize ao (aC (L.take i))=C0 at *
    have hix:IntKind.i64.wrap (((S0.map HO.tr++[[Tr.str ln.fac,Tr.int .i64 y.fao,Tr.int .i64 0]]).length:Int) - 1)=(i:Int):=by
     rw[List.length_append,List.length_map,hS0];simp only[List.length_cons,List.length_nil];rw[IntWalk.i64_in _ (by omega)];omega
    have hil:i < (S0.map HO.tr++[[Tr.str ln.fac,Tr.int .i64 y.fao,Tr.int .i64 0]]).length:=by
     rw[List.length_append,List.length_map,hS0];simp
    have hig:(S0.map HO.tr++[[Tr.str ln.fac,Tr.int .i64 y.fao,Tr.int .i64 0]])[i]?=some [Tr.str ln.fac,Tr.int .i64 y.fao,Tr.int .i64 0]:=by
     rw[List.getElem?_append_right (by rw[List.length_map,hS0];exact Nat.le_refl _),List.length_map,hS0];simp
    have fin:∀(KK:List (List Tr)),KK=(S0.map HO.tr++[[Tr.str ln.fac,Tr.int .i64 y.fao,Tr.int .i64 0]]).set i [Tr.str ln.fac,Tr.int .i64 y.fao,Tr.int .i64 (IntKind.i64.wrap (((C++EB).length:Int) - y.fao))]→KK=(iP p L i' j').map HO.tr:=fun KK h=>by
     rw[h,q6,hnm,List.set_append_right _ _ (by rw[List.length_map,hS0];exact Nat.le_refl _),List.length_map,hS0,Nat.sub_self,List.map_append,List.length_append,IntWalk.i64_in _ (by omega)]
     simp only[List.set_cons_zero,List.map_cons,List.map_nil,HO.tr]
     congr 6 <;> (simp only[List.length_nil];omega)
    rcases hcode with hcode|hcode
    all_goals(
     repeat' ((conv=>whnf);first|apply Wx|apply W6|apply oi|(apply fi<;>intro h)|refine⟨_,rfl,hkm,?_⟩|refine⟨_,hgm,?_⟩|refine cl hE ?_|refine⟨g,ln.tr,hf2,ab hf3,?_⟩|refine⟨_,hix,hil,?_⟩|refine⟨_,hig,?_⟩|refine⟨_,rfl,?_⟩|exact rfl)
     all_goals try exact⟨KP⟩
     all_goals try exact KK
     all_goals try exact⟨by omega⟩
     all_goals try exact⟨⟨by simp only[List.length_nil,List.length_cons,List.length_map,hS0] <;> omega,by simp only[List.length_nil,List.length_cons,List.length_map,hS0] <;> omega⟩⟩
     all_goals(
      conv=>whnf
      refine⟨⟨(i',j'),q1,q2,q3⟩,?_,KD⟩
      repeat' ((conv=>whnf);first|apply Wx|apply W6|apply oi|(apply fi<;>intro h)|refine⟨_,rfl,?_⟩|exact rfl)
      all_goals try exact⟨KP⟩
      all_goals try exact⟨KW⟩
      all_goals try exact⟨by rw[q5]⟩
      all_goals try exact⟨fin _ rfl⟩
      all_goals exact⟨congrArg (Tr.int _) (by dsimp only;rw[IntWalk.i64_in _ (by omega)];omega)⟩))
   ·obtain⟨j,rfl⟩:∃j0,j=j0+1:=⟨j - 1,by omega⟩
    obtain⟨hcode,m,ln,hf2,hf3,hf4⟩:=hPI.body hj0
    rw[xq hx]
    generalize fO L i (j+1)=C at *
    generalize bx p 0 (L.take i)=S0 at *
    generalize aS y.fai.fae=EB at *
    generalize ao (aC (L.take i))=C0 at *
    generalize ao (x.2.take (j+1))=C1 at *
    have hix:IntKind.i64.wrap ((((S0++[(⟨bb p x.1,(C0.length:Int),(C1.length:Int)⟩:HO)]).map HO.tr).length:Int) - 1)=(i:Int):=by
     rw[List.length_map,List.length_append,hS0];simp only[List.length_cons,List.length_nil];rw[IntWalk.i64_in _ (by omega)];omega
    have hil:i < ((S0++[(⟨bb p x.1,(C0.length:Int),(C1.length:Int)⟩:HO)]).map HO.tr).length:=by
     rw[List.length_map,List.length_append,hS0];simp
    have hig:((S0++[(⟨bb p x.1,(C0.length:Int),(C1.length:Int)⟩:HO)]).map HO.tr)[i]?=some [Tr.str (bb p x.1),Tr.int .i64 (C0.length:Int),Tr.int .i64 (C1.length:Int)]:=by
     rw[List.getElem?_map,List.getElem?_append_right (by rw[hS0];exact Nat.le_refl _),hS0];simp[HO.tr]
    have fin:∀(KK:List (List Tr)),KK=((S0++[(⟨bb p x.1,(C0.length:Int),(C1.length:Int)⟩:HO)]).map HO.tr).set i [Tr.str (bb p x.1),Tr.int .i64 (C0.length:Int),Tr.int .i64 (IntKind.i64.wrap (((C++EB).length:Int) - (C0.length:Int)))]→KK=(iP p L i' j').map HO.tr:=fun KK h=>by
     rw[h,q6,List.map_append,List.set_append_right _ _ (by rw[List.length_map,hS0];exact Nat.le_refl _),List.length_map,hS0,Nat.sub_self,List.map_append,List.length_append,IntWalk.i64_in _ (by omega)]
     simp only[List.set_cons_zero,List.map_cons,List.map_nil,HO.tr]
     congr 6;omega
    repeat' ((conv=>whnf);first|apply Wx|apply W6|apply oi|(apply fi<;>intro h)|refine⟨_,rfl,hkm,?_⟩|refine⟨_,hgm,?_⟩|refine cl hE ?_|refine⟨m,ln.tr,hf2,ab hf3,?_⟩|refine⟨_,hix,hil,?_⟩|refine⟨_,hig,?_⟩|refine⟨_,rfl,?_⟩|exact rfl)
    all_goals try exact⟨KP⟩
    all_goals try exact KK
    all_goals try exact⟨by omega⟩
    all_goals(
     conv=>whnf
     refine⟨⟨(i',j'),q1,q2,q3⟩,?_,KD⟩
     repeat' ((conv=>whnf);first|apply Wx|apply W6|apply oi|(apply fi<;>intro h)|refine⟨_,rfl,?_⟩|exact rfl)
     all_goals try exact⟨KP⟩
     all_goals try exact⟨KW⟩
     all_goals try exact⟨by rw[q5]⟩
     all_goals try exact⟨fin _ rfl⟩
     all_goals exact⟨congrArg (Tr.int _) (by dsimp only;rw[IntWalk.i64_in _ (by omega)];omega)⟩)
  ·have hil:i=L.length:=by omega
   subst hil
   have hj0:=he rfl
   subst hj0
   rw[CI,CS,List.take_of_length_le (Nat.le_refl _)]
   repeat' ((conv=>whnf);first|apply Wx|apply W6|apply oi|(apply fi<;>intro h)|refine⟨_,rfl,?_⟩|exact rfl)
   all_goals try exact⟨KP⟩
   all_goals try(exfalso;simp only[List.length_map,decide_eq_true_eq]at h;omega)
 ·have hcf:ag p b image=⟨[],[]⟩:=by rw[ag,if_neg hc]
  have hpf:fP p b image=[]:=by rw[fP,if_neg hc]
  rw[hcf]
  rw[hpf]at hP
  repeat' ((conv=>whnf);first|apply Wx|apply W6|apply oi|(apply fi<;>intro h)|refine cl hP ?_|refine⟨_,rfl,?_⟩|exact rfl)
  all_goals try exact⟨KP⟩
  conv=>whnf
  refine⟨Unit,fun _=>⟨[(0,vP p),(6,.r (.c (.ptr (6,0,0) 0))),(7,.r (.c (.ptr (7,0,0) 0))),(8,.r (.c (.own (15,0,0)))),(9,tI .i64 0)],[((6,0,0),some (.box [.t (.str []),.nils 0])),((7,0,0),some (.box [.t (.str []),.own (7,0,1)])),((7,0,1),some (.arr true 3 [])),((15,0,0),some (.arr true 8 []))],[15,7,6]⟩,fun _=>0,(),?_,?_⟩
  ·skip
   repeat' ((conv=>whnf);first|apply Wx|apply W6|apply oi|(apply fi<;>intro h)|refine⟨_,rfl,?_⟩|exact rfl)
   all_goals try exact⟨KP⟩
  intro _
  repeat' ((conv=>whnf);first|apply Wx|apply W6|apply oi|(apply fi<;>intro h)|refine⟨_,rfl,?_⟩|exact rfl)
  all_goals try exact⟨KP⟩
  all_goals try(exfalso;simp at h;done)
theorem xN {p:List HH}(hs:aB 1048576 (.lst 4 (p.map HH.tr)))(f:Nat):(bb p f).length≤1048576:=by
 unfold bb
 split
 ·split
  ·rename_i g _ y hy
   have:=aT hs (List.mem_of_getElem? hy)
   simp only[HH.tr,aK,aB]at this
   omega
  ·simp
 ·simp
theorem qh {p:List HH}(hs:aB 1048576 (.lst 4 (p.map HH.tr))):∀(L:List (Nat×List HK)) (at0:Int) (x:HO),x∈bx p at0 L→x.fac.length≤1048576
 | [],_,_,h=>by cases h
 |(f,l)::L,at0,x,h=>by
  rw[bx]at h
  rcases List.mem_cons.1 h with rfl|h
  ·exact xN hs f
  ·exact qh hs L _ x h
theorem mH {p:List HH}{b:Hz}{image:Int}(hs:aB 1048576 (.lst 4 (p.map HH.tr))):aK 1048576 (ag p b image).tr:=by
 rw[ag]
 split
 ·rename_i hc
  obtain⟨h1,h2,h3⟩:=hc
  obtain⟨h6,_⟩:=dU h1
  have hll:=jc p b image (ak p).length 0 0
  have hal:=uz fun x (hx:x∈bZ p b image (ak p).length 0 0)=>(jf hs hx).1
  have hcl:=eu (aC (bZ p b image (ak p).length 0 0))
  have hal2:=Nat.mul_le_mul_left 2500 (show(bZ p b image (ak p).length 0 0).length≤6 by omega)
  refine⟨by simp only[aB];omega,?_,trivial⟩
  exact kC (by rw[iO];omega) fun x hx=>by
   have:=qh hs _ _ x hx
   simp only[HO.tr,aK,aB]
   exact⟨by omega,trivial,trivial,trivial⟩
 ·simp[HE.tr,aK,aB,fG]
theorem fc {p:List HH}{b:Hz}{image:Int}(h6:(ak p).length≤6):(ag p b image).faf.length≤6:=by
 unfold ag
 split
 ·dsimp only
  rw[iO]
  have:=jc p b image (ak p).length 0 0
  omega
 ·simp
theorem oa {F:Nat→List Int}(h:∀f,(F f).length≤12):∀n,(dP F n).length≤12 * n
 | 0=>by simp[dP]
 | n+1=>by have:=oa h n;have:=h n;rw[dP,List.length_append];omega
theorem oc {p:List HH}{b:Hz}(hs:aB 1048576 (.lst 4 (p.map HH.tr)))(h6:(ak p).length≤6){first second:Int}:aK 1048576 (cQ p b first second).tr:=by
 have a0:=mH (b:=b) (image:=0) hs
 have a1:=mH (b:=b) (image:=1) hs
 have hi:∀ns:List Int,ns.length≤1048576→aB 1048576 (.lst 1 (ns.map aa)):=fun ns hn=>kC (by omega) fun x hx=>by simp[aa,aK,aB]
 refine⟨?_,hi _ (by simp[cQ]),hi _ (by simp[cQ,entries];omega),trivial⟩
 simp only[cQ]
 rw[aB]
 exact⟨by simp,a0,a1,trivial⟩
theorem qL (p:List HH)(b:Hz)(first second:Int)(hs:aB 1048576 (.lst 4 (p.map HH.tr))):Sim.Spec Tryz.prog 65 [tvP p,.agg b.tr,tvI first,tvI second] (.tup [.agg ((oSp (dy p b first second)).tr.map CZ),.c (.t (.bool (dy p b first second).isSome))]):=by
 refine aE hΓ ay Tryz.func65 rfl (by decide) rfl ?_
 have hP:=dF p hs
 have hB:=jt b
 cases h1:aw p with
 | false=>
  rw[h1]at hP
  rw[show dy p b first second=none by rw[dy,if_neg (by rw[h1];simp)]]
  repeat' ((conv=>whnf);first|apply Wx|apply W6|apply oi|(apply fi<;>intro h)|refine cl hP ?_|refine cl hB ?_|refine⟨_,rfl,?_⟩|exact rfl)
  all_goals try exact⟨KP⟩
  all_goals try exact KX
 | true=>
  rw[h1]at hP
  cases h2:aJ b with
  | false=>
   rw[h2]at hB
   rw[show dy p b first second=none by rw[dy,if_neg (by rw[h2];simp)]]
   repeat' ((conv=>whnf);first|apply Wx|apply W6|apply oi|(apply fi<;>intro h)|refine cl hP ?_|refine cl hB ?_|refine⟨_,rfl,?_⟩|exact rfl)
   all_goals try exact⟨KP⟩
   all_goals try exact KX
  | true=>
   rw[h2]at hB
   obtain⟨h6,h60⟩:=dU h1
   have hA0:=ic p b 0 hs
   have hA1:=ic p b 1 hs
   have gF:=bS p (by omega)
   have hfl:((ak p).map fun n:Nat=>aa n).length=(ak p).length:=by simp
   have hsp:=uE (cQ p b first second) (oc hs h6)
   repeat' ((conv=>whnf);first|(with_reducible apply W1;fail_if_success (with_reducible show Wo _ _ _ _ (Code.region 4 _ _) _ _))|(with_reducible first|apply W2|apply W3|apply W4|apply W5|apply W6|apply W7|apply W8|apply W9)|apply bh|apply oi|(apply fi<;>intro h)|refine cl hP ?_|refine cl hB ?_|refine cl hA0 ?_|refine cl hA1 ?_|refine⟨_,rfl,?_⟩|exact rfl)
   all_goals try exact⟨KP⟩
   all_goals try exact KX
   all_goals try exact⟨mr _ (by intro x c hc sz rs e;subst e;simp[HO.tr]at hc)⟩
   have hS0:(ag p b 0).faf.length≤6:=fc h6
   have hS1:(ag p b 1).faf.length≤6:=fc h6
   have hE:∀f,f < (ak p).length→sN p b (ag p b 0) (ag p b 1) first second f=[bd p b first second f]:=fun f hf=>FF h1 h2 hf first second
   have hall:dP (sN p b (ag p b 0) (ag p b 1) first second) (ak p).length=entries p b first second:=qN hE
   have hld:dy p b first second=if eL (cQ p b first second)=true then some (cQ p b first second)else none:=by
    rw[dy]
    by_cases hso:eL (cQ p b first second)=true
    ·rw[if_pos hso,if_pos ⟨h1,h2,hso⟩]
    ·rw[if_neg hso,if_neg fun h=>hso h.2.2]
   have hcand:(cQ p b first second).tr=[.lst 2 [(ag p b 0).tr,(ag p b 1).tr],.lst 1 [aa first,aa second],.lst 1 ((entries p b first second).map aa)]:=rfl
   rw[hld]
   generalize cQ p b first second=cd at *
   generalize ag p b 0=i0 at *
   generalize ag p b 1=i1 at *
   have hEl:∀f,(sN p b i0 i1 first second f).length≤12:=fun f=>by
    unfold sN
    split
    ·have:=iT (bb p f) second i1.faf;omega
    ·have:=iT (bb p f) first i0.faf;omega
   have hEt:=oa hEl
   conv=>whnf
   refine oZ ⟨[(0,vP p),(5,.r (.c (.ptr (5,0,0) 0))),(8,.r (.c (.ptr (8,0,0) 0))),(10,.r (.c (.ptr (10,0,0) 0)))],[((5,0,0),some (.box (b.tr.map .t))),((8,0,0),some (.box [.nils 0,.nils 0,.nils 0])),((10,0,0),some (.box [.own (10,0,1),.own (10,0,2),.own (10,0,3)])),((10,0,1),some (.arr true 2 [i0.tr,i1.tr])),((10,0,2),some (.arr true 1 [aa first,aa second])),((10,0,3),some (.arr true 1 []))],[10,8,5]⟩ ?_ ?_
   ·skip
    repeat' ((conv=>whnf);first|apply Wx|apply W6|apply oi|(apply fi<;>intro h)|refine⟨_,rfl,?_⟩|exact rfl)
    all_goals try exact⟨KP⟩
   repeat' ((conv=>whnf);first|apply Wx|apply W6|apply oi|(apply fi<;>intro h)|refine⟨_,rfl,?_⟩|exact rfl)
   all_goals try exact⟨KP⟩
   conv=>whnf
   refine⟨{f:Nat // f≤(ak p).length},fun q=>⟨[(0,vP p),(5,.r (.c (.ptr (5,0,0) 0))),(8,.r (.c (.ptr (8,0,0) 0))),(10,.r (.c (.ptr (10,0,0) 0))),(11,tI .i64 (q.1:Int))],[((5,0,0),some (.box (b.tr.map .t))),((8,0,0),some (.box [.nils 0,.nils 0,.nils 0])),((10,0,0),some (.box [.own (10,0,1),.own (10,0,2),.own (10,0,3)])),((10,0,1),some (.arr true 2 [i0.tr,i1.tr])),((10,0,2),some (.arr true 1 [aa first,aa second])),((10,0,3),some (.arr true 1 ((dP (sN p b i0 i1 first second) q.1).map aa)))],[10,8,5]⟩,fun q=>(ak p).length - q.1,⟨0,by omega⟩,?_,?_⟩
   ·skip
    repeat' ((conv=>whnf);first|apply Wx|apply W6|apply oi|(apply fi<;>intro h)|refine⟨_,rfl,?_⟩|exact rfl)
    all_goals try exact⟨KP⟩
   intro⟨f,hf⟩
   dsimp only
   have hef:=hEt f
   by_cases hlt:f < (ak p).length
   ·obtain⟨g,hg⟩:=ae hlt
    obtain⟨ln,hln,_,hnm,_⟩:=mj h1 hg
    obtain⟨j,hj,hj1⟩:∃j:Nat,cA b f=(j:Int)∧j≤1:=by
     rcases gW b f with e|e
     ·exact⟨0,by rw[e];rfl,by omega⟩
     ·exact⟨1,by rw[e];rfl,by omega⟩
    obtain⟨im,base,him,hbase,hes,hsy⟩:∃(im:HE) (base:Int),[i0.tr,i1.tr][j]?=some im.tr∧[aa first,aa second][j]?=some (aa base)∧sN p b i0 i1 first second f=eG ln.fac base im.faf∧im.faf.length≤6:=by
     rcases(show j=0∨j=1 by omega)with rfl|rfl
     ·exact⟨i0,first,rfl,rfl,by rw[sN,hj,if_neg (show ¬((0:Nat):Int)=1 by decide),hnm],hS0⟩
     ·exact⟨i1,second,rfl,rfl,by rw[sN,hj,if_pos (show((1:Nat):Int)=1 from rfl),hnm],hS1⟩
    have hand:=BP ⟨f,by omega⟩
    dsimp only at hand
    have hjl:j < [i0.tr,i1.tr].length:=by simp;omega
    have hjb:j < [aa first,aa second].length:=by simp;omega
    have hfr:f < ((ak p).map fun n:Nat=>aa n).length:=by omega
    have hfg:((ak p).map fun n:Nat=>aa n)[f]?=some (aa (g:Int)):=by rw[List.getElem?_map,hg];rfl
    have hsl:(im.faf.map HO.tr).length=im.faf.length:=by simp
    repeat' ((conv=>whnf);first|(with_reducible apply W1;fail_if_success (with_reducible show Wo _ _ _ _ (Code.seq (Code.region 8 _ _) _) _ _))|(with_reducible first|apply W2|apply W3|apply W4|apply W5|apply W6|apply W7|apply W8|apply W9)|apply bh|apply oi|(apply fi<;>intro h)|refine cl gF ?_|refine⟨_,rfl,?_⟩|exact rfl)
    all_goals try exact⟨KP⟩
    all_goals try exact KX
    conv=>whnf
    refine iN Unit (fun _=>⟨[(0,vP p),(5,.r (.c (.ptr (5,0,0) 0))),(8,.r (.c (.ptr (8,0,0) 0))),(10,.r (.c (.ptr (10,0,0) 0))),(11,tI .i64 (f:Int)),(12,tI .i64 (j:Int))],[((5,0,0),some (.box (b.tr.map .t))),((8,0,0),some (.box [.nils 0,.nils 0,.nils 0])),((10,0,0),some (.box [.own (10,0,1),.own (10,0,2),.own (10,0,3)])),((10,0,1),some (.arr true 2 [i0.tr,i1.tr])),((10,0,2),some (.arr true 1 [aa first,aa second])),((10,0,3),some (.arr true 1 ((dP (sN p b i0 i1 first second) f).map aa)))],[10,8,5]⟩) ?_ ?_
    ·have hj2:=hj
     unfold cA at hj2
     cases hsp2:b.fas with
     | true=>
      rw[hsp2,if_pos rfl]at hj2
      rw[hj2]at hand
      repeat' ((conv=>whnf);first|apply Wx|apply W6|apply oi|(apply fi<;>intro h)|refine⟨_,rfl,?_⟩|exact rfl)
      all_goals try exact⟨KP⟩
      all_goals(conv=>whnf)
      all_goals try(exfalso;rw[hsp2]at h;cases h;done)
      refine⟨(),?_⟩
      repeat' ((conv=>whnf);first|apply Wx|apply W6|apply oi|(apply fi<;>intro h)|refine⟨_,rfl,?_⟩|exact rfl)
      all_goals try exact⟨KP⟩
      all_goals exact⟨congrArg (Tr.int _) hand⟩
     | false=>
      rw[hsp2,if_neg (by simp)]at hj2
      repeat' ((conv=>whnf);first|apply Wx|apply W6|apply oi|(apply fi<;>intro h)|refine⟨_,rfl,?_⟩|exact rfl)
      all_goals try exact⟨KP⟩
      all_goals(conv=>whnf)
      all_goals try(exfalso;rw[hsp2]at h;cases h;done)
      refine⟨(),?_⟩
      repeat' ((conv=>whnf);first|apply Wx|apply W6|apply oi|(apply fi<;>intro h)|refine⟨_,rfl,?_⟩|exact rfl)
      all_goals try exact⟨KP⟩
      all_goals exact⟨congrArg (Tr.int _) hj2⟩
    intro _
    dsimp only
    repeat' ((conv=>whnf);first|apply Wx|apply W6|apply oi|(apply fi<;>intro h)|refine⟨_,rfl,?_⟩|exact rfl)
    all_goals try exact⟨KP⟩
    conv=>whnf
    refine⟨{k:Nat // k≤im.faf.length},fun q=>⟨[(0,vP p),(5,.r (.c (.ptr (5,0,0) 0))),(8,.r (.c (.ptr (8,0,0) 0))),(10,.r (.c (.ptr (10,0,0) 0))),(11,tI .i64 (f:Int)),(12,tI .i64 (j:Int)),(13,tI .i64 (q.1:Int))],[((5,0,0),some (.box (b.tr.map .t))),((8,0,0),some (.box [.nils 0,.nils 0,.nils 0])),((10,0,0),some (.box [.own (10,0,1),.own (10,0,2),.own (10,0,3)])),((10,0,1),some (.arr true 2 [i0.tr,i1.tr])),((10,0,2),some (.arr true 1 [aa first,aa second])),((10,0,3),some (.arr true 1 ((dP (sN p b i0 i1 first second) f++eG ln.fac base (im.faf.take q.1)).map aa)))],[10,8,5]⟩,fun q=>im.faf.length - q.1,⟨0,by omega⟩,?_,?_⟩
    ·skip
     repeat' ((conv=>whnf);first|apply Wx|apply W6|apply oi|(apply fi<;>intro h)|refine⟨_,rfl,?_⟩|exact rfl)
     all_goals try exact⟨KP⟩
     all_goals try exact⟨by simp[zf]⟩
    intro⟨k,hk⟩
    dsimp only
    by_cases hkl:k < im.faf.length
    ·obtain⟨y,hy⟩:=ae hkl
     have hks:k < (im.faf.map HO.tr).length:=by omega
     have hyt:(im.faf.map HO.tr)[k]?=some y.tr:=ab hy
     have hht:=wP (nm:=ln.fac) (b:=base) hy
     have hhl:=iT ln.fac base (im.faf.take k)
     rw[List.length_take]at hhl
     cases hq:(y.fac==ln.fac)with
     | true=>
      rw[hq,if_pos rfl]at hht
      repeat' ((conv=>whnf);first|apply Wx|apply W6|apply oi|(apply fi<;>intro h)|refine cl gF ?_|refine⟨j,rfl,hjl,?_⟩|refine⟨_,him,?_⟩|refine⟨k,y.tr,rfl,hyt,?_⟩|refine⟨f,rfl,hfr,?_⟩|refine⟨_,hfg,?_⟩|refine⟨g,ln.tr,rfl,ab hln,?_⟩|refine⟨j,rfl,hjb,?_⟩|refine⟨_,hbase,?_⟩|refine⟨_,rfl,?_⟩|exact rfl)
      all_goals try exact⟨KP⟩
      all_goals try exact KX
      all_goals try(exfalso;rw[hq]at h;cases h;done)
      all_goals try exact⟨⟨by simp <;> omega,by simp <;> omega⟩⟩
      conv=>whnf
      refine⟨⟨k+1,by omega⟩,?_,KD⟩
      repeat' ((conv=>whnf);first|apply Wx|apply W6|apply oi|(apply fi<;>intro h)|refine⟨_,rfl,?_⟩|exact rfl)
      all_goals try exact⟨KP⟩
      all_goals try exact⟨KW⟩
      all_goals exact⟨by dsimp only;rw[hht];simp[List.append_assoc,aa]⟩
     | false=>
      rw[hq,if_neg (by simp)]at hht
      repeat' ((conv=>whnf);first|apply Wx|apply W6|apply oi|(apply fi<;>intro h)|refine cl gF ?_|refine⟨j,rfl,hjl,?_⟩|refine⟨_,him,?_⟩|refine⟨k,y.tr,rfl,hyt,?_⟩|refine⟨f,rfl,hfr,?_⟩|refine⟨_,hfg,?_⟩|refine⟨g,ln.tr,rfl,ab hln,?_⟩|refine⟨j,rfl,hjb,?_⟩|refine⟨_,hbase,?_⟩|refine⟨_,rfl,?_⟩|exact rfl)
      all_goals try exact⟨KP⟩
      all_goals try exact KX
      all_goals try(exfalso;rw[hq]at h;cases h;done)
      conv=>whnf
      refine⟨⟨k+1,by omega⟩,?_,KD⟩
      repeat' ((conv=>whnf);first|apply Wx|apply W6|apply oi|(apply fi<;>intro h)|refine⟨_,rfl,?_⟩|exact rfl)
      all_goals try exact⟨KP⟩
      all_goals try exact⟨KW⟩
      all_goals exact⟨by dsimp only;rw[hht,List.append_nil]⟩
    ·obtain rfl:k=im.faf.length:=by omega
     rw[List.take_of_length_le (Nat.le_refl _),←hes]
     repeat' ((conv=>whnf);first|apply Wx|apply W6|apply oi|(apply fi<;>intro h)|refine⟨j,rfl,hjl,?_⟩|refine⟨_,him,?_⟩|refine⟨_,rfl,?_⟩|exact rfl)
     all_goals try exact⟨KP⟩
     all_goals try exact KX
     conv=>whnf
     refine⟨⟨f+1,by omega⟩,?_,KD⟩
     repeat' ((conv=>whnf);first|apply Wx|apply W6|apply oi|(apply fi<;>intro h)|refine⟨_,rfl,?_⟩|exact rfl)
     all_goals try exact⟨KP⟩
     all_goals try exact⟨KW⟩
   ·obtain rfl:f=(ak p).length:=by omega
    rw[hall]
    cases hso:eL cd with
    | true=>
     rw[hso]at hsp
     rw[if_pos rfl]
     rw[hcand]at hsp
     simp only[oSp,hcand]
     repeat' ((conv=>whnf);first|apply Wx|apply W6|apply oi|(apply fi<;>intro h)|refine cl gF ?_|refine cl hsp ?_|refine⟨_,rfl,?_⟩|exact rfl)
     all_goals try exact⟨KP⟩
     all_goals try exact KX
    | false=>
     rw[hso]at hsp
     rw[if_neg (by simp)]
     rw[hcand]at hsp
     repeat' ((conv=>whnf);first|apply Wx|apply W6|apply oi|(apply fi<;>intro h)|refine cl gF ?_|refine cl hsp ?_|refine⟨_,rfl,?_⟩|exact rfl)
     all_goals try exact⟨KP⟩
     all_goals try exact KX
def rl (R:List HP)(d:Nat):Prop:=0 < R.length∧R.length≤5 ^ d∧∀t∈R,t.fac.length≤8
abbrev Fu (vars:List (List UInt8))(c:HA):List (Sim.Id×AO):=eQ c++[((0,0,1),.arr false 1 (vars.map ah))]
abbrev BF (m:Int)(names:List (List UInt8))(ars:List Int):List AV:=[gg,tI .i64 m,.r (.c (.own (0,0,1))),vN names,.r (.c (.t (.lst 1 (ars.map aa))))]
abbrev Ep (vars:List (List UInt8))(c:HA)(R:List HP):List (Sim.Id×AO):=Fu vars c++[((1,0,0),.arr false 3 (R.map HP.tr))]
theorem vc (d:Nat):1≤5 ^ d:=Nat.one_le_pow _ _ (by omega)
theorem FO {d:Nat}(h:d≤8):5 ^ d≤390625:=Nat.pow_le_pow_right (n:=5) (by omega) h
theorem Fe {m:Int}{d:Nat}(h0:0≤m)(h1:m < 2 ^ (d+1))(hb:m≤1000):0≤IntKind.i64.wrap (m.tdiv 4)∧IntKind.i64.wrap (m.tdiv 4) < 2 ^ d∧IntKind.i64.wrap (m.tdiv 4)≤1000:=by
 rw[Int.tdiv_eq_ediv_of_nonneg h0,IntWalk.i64_in _ (by omega)]
 have:(2:Int) ^ (d+1)=2 * 2 ^ d:=by rw[Int.pow_succ];omega
 omega
def tl (P:HA→List HP→HA→Prop)(d:Nat):Nat→HA→List HP→HA→List HP→Prop
 | 0,c,acc,c',acc'=>c'=c∧acc'=acc
 | k+1,c,acc,c',acc'=>∃R c1,rl R d∧c1.b=c.b∧c1.ok∧P c R c1∧tl P d k c1 (acc++R) c' acc'
theorem Ap {P:HA→List HP→HA→Prop}{d:Nat}(ih:∀c:HA,c.ok→∃R c1,rl R d∧c1.b=c.b∧c1.ok∧P c R c1):∀(k:Nat) (c:HA) (acc:List HP),c.ok→∃c' acc',tl P d k c acc c' acc'
 | 0,c,acc,_=>⟨c,acc,rfl,rfl⟩
 | k+1,c,acc,hc=>by
  obtain⟨R,c1,h1,h2,h3,h4⟩:=ih c hc
  obtain⟨c',acc',h5⟩:=Ap ih k c1 (acc++R) h3
  exact⟨c',acc',R,c1,h1,h2,h3,h4,h5⟩
theorem rt {P:HA→List HP→HA→Prop}{d:Nat}:∀{k:Nat} {c c':HA} {acc acc':List HP},tl P d k c acc c' acc'→c.ok→c'.b=c.b∧c'.ok∧acc.length≤acc'.length∧acc'.length≤acc.length+k * 5 ^ d∧((∀t∈acc,t.fac.length≤8)→∀t∈acc',t.fac.length≤8)
 | 0,c,c',acc,acc',h,hc=>by
  obtain⟨rfl,rfl⟩:=h
  exact⟨rfl,hc,Nat.le_refl _,by omega,fun h=>h⟩
 | k+1,c,c',acc,acc',h,hc=>by
  obtain⟨R,c1,h1,h2,h3,_,h5⟩:=h
  obtain⟨g1,g2,g3,g4,g5⟩:=rt h5 h3
  rw[List.length_append]at g3 g4
  have hR:=h1.2.1
  refine⟨g1.trans h2,g2,by omega,by rw[Nat.add_mul];omega,fun H=>g5 fun t ht=>?_⟩
  rcases List.mem_append.1 ht with ht|ht
  ·exact H t ht
  ·exact h1.2.2 t ht
theorem FK {m:Int}{d:Nat}(h0:0≤m)(h1:m < 2 ^ (d+1))(hb:m≤1000):0≤IntKind.i64.wrap (m.tdiv 2)∧IntKind.i64.wrap (m.tdiv 2) < 2 ^ d∧IntKind.i64.wrap (m.tdiv 2)≤1000:=by
 rw[Int.tdiv_eq_ediv_of_nonneg h0,IntWalk.i64_in _ (by omega)]
 have:(2:Int) ^ (d+1)=2 * 2 ^ d:=by rw[Int.pow_succ];omega
 omega
theorem fW (vars names:List (List UInt8))(ars:List Int)(hv:vars.length≤100)(hn:names.length≤100)(ha:ars.length=names.length)(ha4:∀a∈ars,0≤a∧a≤4)(hv8:∀s∈vars,s.length≤8)(hn8:∀s∈names,s.length≤8):
  ∀(d:Nat) (m:Int) (c:HA),d≤8→0≤m→m < 2 ^ d→m≤1000→c.ok→∃(R:List HP) (c':HA),rl R d∧c'.b=c.b∧c'.ok∧aV Tryz.prog 240 (BF m names ars) (Fu vars c) (.r (.c (.own (1,0,0)))) (Ep vars c' R)
 | d,m,c,hd,h0,h1,hm,hc=>by
  have p5d:=FO hd
  have hvl:(vars.map ah).length=vars.length:=by simp
  have hnl:(names.map ah).length=names.length:=by simp
  obtain⟨k,c1,k1,_,b1,o1,g1⟩:=bF c 10 hc
  by_cases hbin:2 < m∧k < 5
  ·cases d with
   | zero=>omega
   | succ d=>
    obtain⟨kd,c2,k2,_,b2,o2,g2⟩:=bF c1 5 o1
    obtain⟨q1,q2,q3⟩:=FK h0 h1 hm
    obtain⟨R3,c3,t3,b3,o3,g3⟩:=fW vars names ars hv hn ha ha4 hv8 hn8 d _ c2 (by omega) q1 q2 q3 o2
    obtain⟨R4,c4,t4,b4,o4,g4⟩:=fW vars names ars hv hn ha ha4 hv8 hn8 d _ c3 (by omega) q1 q2 q3 o3
    have p5:=vc d
    have p5':5 ^ (d+1)=5 * 5 ^ d:=by rw[Nat.pow_succ];omega
    have t3l:=t3.2.1
    have t4l:=t4.2.1
    refine⟨⟨2+kd,0,[]⟩::(R3++R4),c4,⟨by simp,?_,?_⟩,((b4.trans b3).trans b2).trans b1,o4,?_⟩
    ·have:=t3.2.1
     have:=t4.2.1
     rw[List.length_cons,List.length_append]
     omega
    ·intro t ht
     rcases List.mem_cons.1 ht with rfl|ht
     ·simp
     ·rcases List.mem_append.1 ht with ht|ht
      ·exact t3.2.2 t ht
      ·exact t4.2.2 t ht
    ·refine aj hΓ ay Tryz.func240 rfl (by decide) rfl rfl ?_
     repeat' ((conv=>whnf);first|apply Wx|apply W6|apply oi|(apply fi<;>intro h)|refine⟨_,rfl,?_⟩|exact rfl)
     all_goals try exact⟨KP⟩
     refine cg (g1) ?_
     repeat' ((conv=>whnf);first|apply Wx|apply W6|apply oi|(apply fi<;>intro h)|refine⟨_,rfl,?_⟩|exact rfl)
     all_goals try exact⟨KP⟩
     all_goals try exact KX
     all_goals try(exfalso;simp at h;omega)
     refine cg (g2) ?_
     repeat' ((conv=>whnf);first|apply Wx|apply W6|apply oi|(apply fi<;>intro h)|refine⟨_,rfl,?_⟩|exact rfl)
     all_goals try exact⟨KP⟩
     refine cg (g3) ?_
     repeat' ((conv=>whnf);first|apply Wx|apply W6|apply oi|(apply fi<;>intro h)|refine⟨_,rfl,?_⟩|exact rfl)
     all_goals try exact⟨KP⟩
     all_goals try exact⟨⟨by simp <;> omega,by simp <;> omega⟩⟩
     refine cg (g4) ?_
     repeat' ((conv=>whnf);first|apply Wx|apply W6|apply oi|(apply fi<;>intro h)|refine⟨_,rfl,?_⟩|exact rfl)
     all_goals try exact⟨KP⟩
     all_goals try exact⟨⟨by simp <;> omega,by simp <;> omega⟩⟩
     all_goals exact⟨by rw[IntWalk.i64_in _ (by omega)];simp[HP.tr]⟩
  ·by_cases hcall:0 < names.length∧1 < m∧k < 8
   ·cases d with
    | zero=>omega
    | succ d=>
     obtain⟨hc1,hc2,hc3⟩:=hcall
     obtain⟨f,c2,kf,_,b2,o2,g2⟩:=bF c1 ((names.map ah).length:Int) o1
     rw[hnl]at kf
     have hfn:f < names.length:=by have:=kf (by omega);omega
     obtain⟨nm,hnm⟩:=ae hfn
     obtain⟨a,haf⟩:=ae (l:=ars) (k:=f) (by omega)
     have hab:=ha4 a (List.mem_of_getElem? haf)
     obtain⟨an,rfl⟩:=Int.eq_ofNat_of_zero_le hab.1
     obtain⟨q1,q2,q3⟩:=Fe h0 h1 hm
     have ih:=fun c hc=>fW vars names ars hv hn ha ha4 hv8 hn8 d (IntKind.i64.wrap (m.tdiv 4)) c (by omega) q1 q2 q3 hc
     have p5:=vc d
     have p5':5 ^ (d+1)=5 * 5 ^ d:=by rw[Nat.pow_succ];omega
     obtain⟨c',R,hch⟩:=Ap (P:=fun c R c'=>aV Tryz.prog 240 (BF (IntKind.i64.wrap (m.tdiv 4)) names ars) (Fu vars c) (.r (.c (.own (1,0,0)))) (Ep vars c' R)) (d:=d) ih an c2 [⟨7,an,nm⟩] o2
     have hcp:=rt hch o2
     refine⟨R,c',⟨by have:=hcp.2.2.1;simp at this;omega,by have:=hcp.2.2.2.1;have h4:an * 5 ^ d≤4 * 5 ^ d:=Nat.mul_le_mul_right _ (by omega);simp at this;omega,hcp.2.2.2.2 (by intro t ht;simp at ht;subst ht;exact hn8 nm (List.mem_of_getElem? hnm))⟩,(hcp.1.trans b2).trans b1,hcp.2.1,?_⟩
     refine aj hΓ ay Tryz.func240 rfl (by decide) rfl rfl ?_
     repeat' ((conv=>whnf);first|apply Wx|apply W6|apply oi|(apply fi<;>intro h)|refine⟨_,rfl,?_⟩|exact rfl)
     all_goals try exact⟨KP⟩
     refine cg (g1) ?_
     repeat' ((conv=>whnf);first|apply Wx|apply W6|apply oi|(apply fi<;>intro h)|refine⟨_,rfl,?_⟩|exact rfl)
     all_goals try exact⟨KP⟩
     all_goals try exact KX
     all_goals(
      refine cg (g2) ?_
      have hci:(ars.map aa).length=ars.length:=by simp
      repeat' ((conv=>whnf);first|apply Wx|apply W6|apply oi|(apply fi<;>intro h)|refine⟨f,(aa an),rfl,ab haf,?_⟩|refine⟨f,(ah nm),rfl,ab hnm,?_⟩|refine⟨_,rfl,?_⟩|exact rfl)
      all_goals try exact⟨KP⟩
      conv=>whnf
      refine⟨{q:Nat×HA×List HP // q.1≤an∧q.2.1.ok∧q.2.2.length≤1+q.1 * 5 ^ d∧tl (fun c R c'=>aV Tryz.prog 240 (BF (IntKind.i64.wrap (m.tdiv 4)) names ars) (Fu vars c) (.r (.c (.own (1,0,0)))) (Ep vars c' R)) d (an - q.1) q.2.1 q.2.2 c' R},fun q=>⟨[(0,gg),(1,tI .i64 m),(2,.r (.c (.own (0,0,1)))),(3,vN names),(4,.r (.c (.t (.lst 1 (ars.map aa))))),(13,tI .i64 (f:Int)),(14,.r (.c (.own (14,0,0)))),(15,tI .i64 (q.1.1:Int))],[((0,0,0),some (.box [.t (.lst 1 (q.1.2.1.b.map aQ)),.t (.int .i64 q.1.2.1.i),.t (.int .i64 q.1.2.1.h)])),((0,0,1),some (.arr false 1 (vars.map ah))),((14,0,0),some (.arr false 3 (q.1.2.2.map HP.tr)))],[14,0]⟩,fun q=>an - q.1.1,⟨(0,c2,[⟨7,an,nm⟩]),by dsimp only;omega,o2,by simp,hch⟩,?_,?_⟩
      ·skip
       repeat' ((conv=>whnf);first|apply Wx|apply W6|apply oi|(apply fi<;>intro h)|refine⟨_,rfl,?_⟩|exact rfl)
       all_goals try exact⟨KP⟩
      intro⟨⟨i,ci,acc⟩,r1,r2,r3,r4⟩
      dsimp only at r1 r2 r3 r4 ⊢
      by_cases hlt:i < an
      ·obtain⟨w,hw⟩:∃w,an - i=w+1:=⟨an - i - 1,by omega⟩
       rw[hw]at r4
       obtain⟨R5,c5,t5,b5,o5,g5,r5⟩:=r4
       have t5l:=t5.2.1
       have i5:i * 5 ^ d≤4 * 5 ^ d:=Nat.mul_le_mul_right _ (by omega)
       have i6:(i+1) * 5 ^ d=i * 5 ^ d+5 ^ d:=by rw[Nat.add_mul];omega
       repeat' ((conv=>whnf);first|apply Wx|apply W6|apply oi|(apply fi<;>intro h)|refine⟨f,(aa an),rfl,ab haf,?_⟩|refine⟨_,rfl,?_⟩|exact rfl)
       all_goals try exact⟨KP⟩
       all_goals try exact KX
       refine cg (g5) ?_
       repeat' ((conv=>whnf);first|apply Wx|apply W6|apply oi|(apply fi<;>intro h)|refine⟨_,rfl,?_⟩|exact rfl)
       all_goals try exact⟨KP⟩
       all_goals try exact⟨⟨by simp <;> omega,by simp <;> omega⟩⟩
       conv=>whnf
       refine⟨⟨(i+1,c5,acc++R5),by dsimp only;omega,o5,by simp;omega,by rw[show an - (i+1)=w by omega];exact r5⟩,?_,KD⟩
       repeat' ((conv=>whnf);first|apply Wx|apply W6|apply oi|(apply fi<;>intro h)|refine⟨_,rfl,?_⟩|exact rfl)
       all_goals try exact⟨KP⟩
       all_goals try exact⟨K2⟩
       all_goals exact⟨by simp⟩
      ·rw[show an - i=0 by omega]at r4
       obtain⟨rfl,rfl⟩:=r4
       repeat' ((conv=>whnf);first|apply Wx|apply W6|apply oi|(apply fi<;>intro h)|refine⟨f,(aa an),rfl,ab haf,?_⟩|refine⟨_,rfl,?_⟩|exact rfl)
       all_goals try exact⟨KP⟩
       all_goals try exact KX
     )
   ·have pick:∀c:HA,c.ok→∃(v:Int) (c':HA),c'.b=c.b∧c'.ok∧aV Tryz.prog 147 [gg,.r (.c (.own (0,0,1)))] (eQ c++[((0,0,1),.arr false 1 (([0,1,2,3,10,999]:List Int).map aa))]) (tI .i64 v) (eQ c'++[((0,0,1),.arr false 1 (([0,1,2,3,10,999]:List Int).map aa))]):=fun c hc=>by
     obtain⟨v,c',_,b,o,g⟩:=jg c [0,1,2,3,10,999] hc (by decide) (by decide)
     exact⟨v,c',b,o,g⟩
    have p5:=vc d
    have hsk:∀(t:HP),t.fac.length≤8→rl [t] d:=fun t ht=>⟨by simp,by simpa using p5,by intro u hu;simp at hu;subst hu;exact ht⟩
    by_cases hvar:0 < vars.length
    ·obtain⟨o,c2,b2,o2,g2⟩:=dG c1 2 o1
     cases o with
     | true=>
      obtain⟨f,c3,kf,_,b3,o3,g3⟩:=bF c2 ((vars.map ah).length:Int) o2
      rw[hvl]at kf
      have hfn:f < vars.length:=by have:=kf (by omega);omega
      obtain⟨nm,hnm⟩:=ae hfn
      have hfl:f < (vars.map ah).length:=by rw[hvl];exact hfn
      refine⟨[⟨1,0,nm⟩],c3,hsk _ (hv8 nm (List.mem_of_getElem? hnm)),(b3.trans b2).trans b1,o3,?_⟩
      refine aj hΓ ay Tryz.func240 rfl (by decide) rfl rfl ?_
      repeat' ((conv=>whnf);first|apply Wx|apply W6|apply oi|(apply fi<;>intro h)|refine⟨_,rfl,?_⟩|exact rfl)
      all_goals try exact⟨KP⟩
      refine cg (g1) ?_
      repeat' ((conv=>whnf);first|apply Wx|apply W6|apply oi|(apply fi<;>intro h)|refine⟨_,rfl,?_⟩|exact rfl)
      all_goals try exact⟨KP⟩
      all_goals try exact KX
      all_goals try(exfalso;simp at h;omega)
      all_goals(
       refine cg (g2) ?_
       repeat' ((conv=>whnf);first|apply Wx|apply W6|apply oi|(apply fi<;>intro h)|refine⟨_,rfl,?_⟩|exact rfl)
       all_goals try exact⟨KP⟩
       refine cg (g3) ?_
       repeat' ((conv=>whnf);first|apply Wx|apply W6|apply oi|(apply fi<;>intro h)|refine⟨f,rfl,hfl,?_⟩|refine⟨(ah nm),ab hnm,?_⟩|refine⟨_,rfl,?_⟩|exact rfl)
       all_goals try exact⟨KP⟩
      )
     | false=>
      obtain⟨v,c3,b3,o3,g3⟩:=pick c2 o2
      refine⟨[⟨0,v,[]⟩],c3,hsk _ (by simp),(b3.trans b2).trans b1,o3,?_⟩
      refine aj hΓ ay Tryz.func240 rfl (by decide) rfl rfl ?_
      repeat' ((conv=>whnf);first|apply Wx|apply W6|apply oi|(apply fi<;>intro h)|refine⟨_,rfl,?_⟩|exact rfl)
      all_goals try exact⟨KP⟩
      refine cg (g1) ?_
      repeat' ((conv=>whnf);first|apply Wx|apply W6|apply oi|(apply fi<;>intro h)|refine⟨_,rfl,?_⟩|exact rfl)
      all_goals try exact⟨KP⟩
      all_goals try exact KX
      all_goals try(exfalso;simp at h;omega)
      all_goals(
       refine cg (g2) ?_
       repeat' ((conv=>whnf);first|apply Wx|apply W6|apply oi|(apply fi<;>intro h)|refine⟨_,rfl,?_⟩|exact rfl)
       all_goals try exact⟨KP⟩
       refine cg (g3) ?_
       repeat' ((conv=>whnf);first|apply Wx|apply W6|apply oi|(apply fi<;>intro h)|refine⟨_,rfl,?_⟩|exact rfl)
       all_goals try exact⟨KP⟩
      )
    ·obtain⟨v,c3,b3,o3,g3⟩:=pick c1 o1
     refine⟨[⟨0,v,[]⟩],c3,hsk _ (by simp),b3.trans b1,o3,?_⟩
     refine aj hΓ ay Tryz.func240 rfl (by decide) rfl rfl ?_
     repeat' ((conv=>whnf);first|apply Wx|apply W6|apply oi|(apply fi<;>intro h)|refine⟨_,rfl,?_⟩|exact rfl)
     all_goals try exact⟨KP⟩
     refine cg (g1) ?_
     repeat' ((conv=>whnf);first|apply Wx|apply W6|apply oi|(apply fi<;>intro h)|refine⟨_,rfl,?_⟩|exact rfl)
     all_goals try exact⟨KP⟩
     all_goals try exact KX
     all_goals try(exfalso;simp at h;omega)
     all_goals(
      refine cg (g3) ?_
      repeat' ((conv=>whnf);first|apply Wx|apply W6|apply oi|(apply fi<;>intro h)|refine⟨_,rfl,?_⟩|exact rfl)
      all_goals try exact⟨KP⟩
     )
termination_by d=>d
def Eb (h:Int)(u:UInt8):Int:=IntKind.i64.wrap ((BitVec.ofInt IntKind.i64.bits (IntKind.i64.wrap (IntKind.i64.wrap (IntKind.i64.wrap (h * 131)+IntKind.i64.wrap (u.toNat:Int))+7)) &&& BitVec.ofInt IntKind.i64.bits 1073741823).toNat:Int)
def DU (code:List UInt8):Int:=(code.take 4000).foldl Eb (IntKind.i64.wrap (33147+((code.map aQ).length:Int)))
theorem vZ (code:List UInt8)(hl:code.length≤1048576):aV Tryz.prog 69 [.r (.c (.t (.lst 1 (code.map aQ))))] [] (.r (.c (.ptr (1,0,0) 0))) [((1,0,0),.box [.t (.lst 1 (code.map aQ)),.t (.int .i64 0),.t (.int .i64 (DU code))])]:=by
 refine aj hΓ ay Tryz.func69 rfl (by decide) rfl rfl ?_
 have hlen:(code.map aQ).length=code.length:=by simp
 obtain⟨H,hH⟩:∃H,DU code=H:=⟨_,rfl⟩
 rw[hH]
 have ht:(code.take 4000).length≤4000:=by simp;omega
 repeat' ((conv=>whnf);first|apply Wx|apply W6|apply oi|(apply fi<;>intro h)|refine⟨_,rfl,?_⟩|exact rfl)
 all_goals try exact⟨KP⟩
 conv=>whnf
 refine⟨{q:Nat×Int // q.1≤code.length∧((code.take 4000).drop q.1).foldl Eb q.2=H},fun q=>⟨[(0,.r (.c (.t (.lst 1 (code.map aQ))))),(3,tI .i64 q.1.2),(4,tI .i64 (q.1.1:Int))],[],[0]⟩,fun q=>code.length - q.1.1,⟨(0,IntKind.i64.wrap (33147+((code.map aQ).length:Int))),by dsimp only;omega,hH⟩,?_,?_⟩
 ·skip
  repeat' ((conv=>whnf);first|apply Wx|apply W6|apply oi|(apply fi<;>intro h)|refine⟨_,rfl,?_⟩|exact rfl)
  all_goals try exact⟨KP⟩
 intro⟨⟨i,hv⟩,hi,hr⟩
 dsimp only at hi hr ⊢
 by_cases hlt:i < code.length∧i < 4000
 ·obtain⟨u,hu⟩:=ae hlt.1
  rw[dq (x:=u) (by rw[List.getElem?_take,if_pos hlt.2];exact hu),List.foldl_cons]at hr
  repeat' ((conv=>whnf);first|apply Wx|apply W6|apply oi|(apply fi<;>intro h)|refine⟨i,(aQ u),rfl,ab hu,?_⟩|refine⟨_,rfl,?_⟩|exact rfl)
  all_goals try exact⟨KP⟩
  all_goals try exact KX
  conv=>whnf
  refine⟨⟨(i+1,Eb hv u),by dsimp only;omega,hr⟩,?_,KD⟩
  repeat' ((conv=>whnf);first|apply Wx|apply W6|apply oi|(apply fi<;>intro h)|refine⟨_,rfl,?_⟩|exact rfl)
  all_goals try exact⟨KP⟩
  all_goals try exact⟨K2⟩
  all_goals exact⟨rfl⟩
 ·rw[List.drop_eq_nil_of_le (by simp;omega)]at hr
  have hr:hv=H:=hr
  subst hr
  repeat' ((conv=>whnf);first|apply Wx|apply W6|apply oi|(apply fi<;>intro h)|refine⟨_,rfl,?_⟩|exact rfl)
  all_goals try exact⟨KP⟩
  all_goals try exact KX
abbrev Hb (vars names:List (List UInt8))(ars:List Int)(c:HA):List (Sim.Id×AO):=[((0,0,0),.box [.ptr (0,0,1) 0,.own (0,0,2),.t (.lst 1 (names.map ah)),.t (.lst 1 (ars.map aa))]),((0,0,1),.box [.t (.lst 1 (c.b.map aQ)),.t (.int .i64 c.i),.t (.int .i64 c.h)]),((0,0,2),.arr false 1 (vars.map ah))]
theorem pL (vars names:List (List UInt8))(ars:List Int)(hv:vars.length≤100)(hn:names.length≤100)(ha:ars.length=names.length)(ha4:∀a∈ars,0≤a∧a≤4)(hv8:∀s∈vars,s.length≤8)(hn8:∀s∈names,s.length≤8)
  (d:Nat) (m:Int) (c:HA) (hd:d≤8) (h0:0≤m) (h1:m < 2 ^ d) (hm:m≤1000) (hc:c.ok):∃(R:List HP) (c':HA),rl R d∧c'.b=c.b∧c'.ok∧aV Tryz.prog 202 [gg,tI .i64 m] (Hb vars names ars c) (.r (.c (.own (1,0,0)))) (Hb vars names ars c'++[((1,0,0),.arr false 3 (R.map HP.tr))]):=by
 obtain⟨R,c',t1,b1,o1,g1⟩:=fW vars names ars hv hn ha ha4 hv8 hn8 d m c hd h0 h1 hm hc
 refine⟨R,c',t1,b1,o1,?_⟩
 refine aj hΓ ay Tryz.func202 rfl (by decide) rfl rfl ?_
 repeat' ((conv=>whnf);first|apply Wx|apply W6|apply oi|(apply fi<;>intro h)|refine⟨_,rfl,?_⟩|exact rfl)
 all_goals try exact⟨KP⟩
 refine cg (g1) ?_
 repeat' ((conv=>whnf);first|apply Wx|apply W6|apply oi|(apply fi<;>intro h)|refine⟨_,rfl,?_⟩|exact rfl)
 all_goals try exact⟨KP⟩
noncomputable section
open Classical (propDecidable)
attribute [local instance] propDecidable
def bR (n:Int)(c:HA):Nat×HA:=if h:c.ok then(Classical.choose (bF c n h),Classical.choose (Classical.choose_spec (bF c n h)))else(0,c)
theorem bM {c:HA}(h:c.ok)(n:Int):(0 < n→((bR n c).1:Int) < n)∧(bR n c).2.b=c.b∧(bR n c).2.ok∧aV Tryz.prog 146 [gg,tI .i64 n] (eQ c) (tI .i64 (bR n c).1) (eQ (bR n c).2):=by
 rw[bR,dif_pos h]
 have:=Classical.choose_spec (Classical.choose_spec (bF c n h))
 exact⟨this.1,this.2.2.1,this.2.2.2.1,this.2.2.2.2⟩
def iV (n:Int)(c:HA):Bool×HA:=if h:c.ok then(Classical.choose (dG c n h),Classical.choose (Classical.choose_spec (dG c n h)))else(false,c)
theorem gk {c:HA}(h:c.ok)(n:Int):(iV n c).2.b=c.b∧(iV n c).2.ok∧aV Tryz.prog 148 [gg,tI .i64 n] (eQ c) (tB (iV n c).1) (eQ (iV n c).2):=by
 rw[iV,dif_pos h]
 exact Classical.choose_spec (Classical.choose_spec (dG c n h))
structure GP where
 vars:List (List UInt8)
 names:List (List UInt8)
 ars:List Int
structure GP.ok (G:GP):Prop where
 v1:0 < G.vars.length
 v:G.vars.length≤100
 n:G.names.length≤100
 a:G.ars.length=G.names.length
 a4:∀a∈G.ars,0≤a∧a≤4
 v8:∀s∈G.vars,s.length≤8
 n8:∀s∈G.names,s.length≤8
abbrev gH (G:GP)(c:HA):List (Sim.Id×AO):=Hb G.vars G.names G.ars c
theorem gex {G:GP}(hG:G.ok){c:HA}(hc:c.ok)(m:Nat)(hm:m < 8):∃(R:List HP) (c':HA),rl R 3∧c'.b=c.b∧c'.ok∧aV Tryz.prog 202 [gg,tI .i64 (m:Int)] (gH G c) (.r (.c (.own (1,0,0)))) (gH G c'++[((1,0,0),.arr false 3 (R.map HP.tr))]):=
 pL G.vars G.names G.ars hG.v hG.n hG.a hG.a4 hG.v8 hG.n8 3 (m:Int) c (by omega) (by omega) (by show(m:Int) < 8;omega) (by omega) hc
def exV (G:GP)(m:Nat)(c:HA):List HP×HA:=if h:G.ok∧c.ok∧m < 8 then(Classical.choose (gex h.1 h.2.1 m h.2.2),Classical.choose (Classical.choose_spec (gex h.1 h.2.1 m h.2.2)))else([],c)
theorem dT {G:GP}(hG:G.ok){c:HA}(hc:c.ok)(m:Nat)(hm:m < 8):rl (exV G m c).1 3∧(exV G m c).2.b=c.b∧(exV G m c).2.ok∧aV Tryz.prog 202 [gg,tI .i64 (m:Int)] (gH G c) (.r (.c (.own (1,0,0)))) (gH G (exV G m c).2++[((1,0,0),.arr false 3 ((exV G m c).1.map HP.tr))]):=by
 rw[exV,dif_pos ⟨hG,hc,hm⟩]
 exact Classical.choose_spec (Classical.choose_spec (gex hG hc m hm))
def jr (G:GP)(rc:Nat→HA→List HH×HA)(dp:Bool)(c:HA):List HH×HA:=
 let k:=(bR 9 c).1
 let c1:=(bR 9 c).2
 if k < 4 then
  let v:=bR G.vars.length c1
  let e:=exV G 6 v.2
  ([⟨1,G.vars[v.1]?.getD [],[],e.1⟩],e.2)
 else if k < 6 then
  let e:=exV G 5 c1
  ([⟨2,[],[],e.1⟩],e.2)
 else if k=6∧dp=true then
  let e:=exV G 4 c1
  let t:=bR 2 e.2
  let B:=rc (1+t.1) t.2
  let o:=iV 2 B.2
  if o.1=true then
   let E:=rc 1 o.2
   (⟨3,[],[],e.1⟩::(B.1++(⟨4,[],[],[]⟩::(E.1++[⟨7,[],[],[]⟩]))),E.2)
  else(⟨3,[],[],e.1⟩::(B.1++[⟨7,[],[],[]⟩]),o.2)
 else if k=7∧dp=true then
  let t:=bR 3 c1
  let B:=rc 1 t.2
  (⟨5,[],[],[⟨5,0,[]⟩,⟨1,0,[105]⟩,⟨0,(1+t.1:Nat),[]⟩]⟩::(B.1++[⟨1,[105],[],[⟨2,0,[]⟩,⟨1,0,[105]⟩,⟨0,1,[]⟩]⟩,⟨7,[],[],[]⟩]),B.2)
 else
  let o:=iV 3 c1
  if o.1=true then
   let e:=exV G 4 o.2
   ([⟨6,[],[],e.1⟩],e.2)
  else([],o.2)
def lM (G:GP)(rc:Nat→HA→List HH×HA)(dp:Bool):Nat→HA→List HH×HA
 | 0,c=>([],c)
 | n+1,c=>((jr G rc dp c).1++(lM G rc dp n (jr G rc dp c).2).1,(lM G rc dp n (jr G rc dp c).2).2)
def rH (G:GP):Nat→Nat→HA→List HH×HA
 | 0=>lM G (fun _ c=>([],c)) false
 | d+1=>lM G (rH G d) true
end
def sB:Nat→Nat
 | 0=>1
 | d+1=>3+3 * sB d
structure BL (x:HH):Prop where
 name:x.fac.length≤8
 args:x.fag=[]
 len:x.fad.length≤125
 tok:∀t∈x.fad,t.fac.length≤8
 kind:1≤x.faa∧x.faa≤7
structure RcOk (s:Nat) (rc:Nat→HA→List HH×HA):Prop where
 len:∀n c,c.ok→(rc n c).1.length≤n * s
 b:∀n c,c.ok→(rc n c).2.b=c.b
 ok:∀n c,c.ok→(rc n c).2.ok
 bl:∀n c,c.ok→∀x∈(rc n c).1,BL x
theorem wK {k:Int}{n:List UInt8}{e:List HP}(hn:n.length≤8)(h:rl e 3)(hk:1≤k∧k≤7:=by omega):BL ⟨k,n,[],e⟩:=⟨hn,rfl,h.2.1,h.2.2,hk⟩
theorem tK {k:Int}(hk:1≤k∧k≤7:=by omega):BL ⟨k,[],[],[]⟩:=⟨by simp,rfl,by simp,by simp,hk⟩
theorem yw {G:GP}(hG:G.ok){s:Nat}{rc:Nat→HA→List HH×HA}{dp:Bool}(h:dp=true→RcOk s rc){c:HA}(hc:c.ok):
  (jr G rc dp c).1.length≤3+3 * s∧(dp=false→(jr G rc dp c).1.length≤1)∧(jr G rc dp c).2.b=c.b∧(jr G rc dp c).2.ok∧∀x∈(jr G rc dp c).1,BL x:=by
 obtain⟨k1,b1,o1,_⟩:=bM hc 9
 unfold jr
 dsimp only
 generalize(bR 9 c).1=k at *
 generalize(bR 9 c).2=c1 at *
 split
 ·obtain⟨k2,b2,o2,_⟩:=bM o1 (G.vars.length:Int)
  obtain⟨t3,b3,o3,_⟩:=dT hG o2 6 (by omega)
  refine⟨by simp;omega,fun _=>by simp,(b3.trans b2).trans b1,o3,fun x hx=>?_⟩
  simp only[List.mem_singleton]at hx
  subst hx
  refine wK ?_ t3
  cases hv:G.vars[(bR (G.vars.length:Int) c1).1]? with
  | none=>simp
  | some v=>exact hG.v8 v (List.mem_of_getElem? hv)
 split
 ·obtain⟨t3,b3,o3,_⟩:=dT hG o1 5 (by omega)
  refine⟨by simp;omega,fun _=>by simp,b3.trans b1,o3,fun x hx=>?_⟩
  simp only[List.mem_singleton]at hx
  subst hx
  exact wK (by simp) t3
 split
 ·rename_i hk
  have hr:=h hk.2
  obtain⟨t3,b3,o3,_⟩:=dT hG o1 4 (by omega)
  obtain⟨k4,b4,o4,_⟩:=bM o3 2
  have hl:=hr.len (1+(bR 2 (exV G 4 c1).2).1) _ o4
  have hbb:=hr.b (1+(bR 2 (exV G 4 c1).2).1) _ o4
  have hob:=hr.ok (1+(bR 2 (exV G 4 c1).2).1) _ o4
  have hbl:=hr.bl (1+(bR 2 (exV G 4 c1).2).1) _ o4
  have k4':=k4 (by omega)
  have hl2:(rc (1+(bR 2 (exV G 4 c1).2).1) (bR 2 (exV G 4 c1).2).2).1.length≤2 * s:=Nat.le_trans hl (Nat.mul_le_mul_right _ (by omega))
  generalize rc (1+(bR 2 (exV G 4 c1).2).1) (bR 2 (exV G 4 c1).2).2=B at *
  obtain⟨b5,o5,_⟩:=gk hob 2
  split
  ·have hl3:=hr.len 1 _ o5
   have hb3:=hr.b 1 _ o5
   have ho3:=hr.ok 1 _ o5
   have hx3:=hr.bl 1 _ o5
   generalize rc 1 (iV 2 B.2).2=E at *
   refine⟨by simp;omega,(fun e=>by rw[e]at hk;cases hk.2),((((hb3.trans b5).trans hbb).trans b4).trans b3).trans b1,ho3,fun x hx=>?_⟩
   simp only[List.mem_cons,List.mem_append,List.not_mem_nil,or_false]at hx
   rcases hx with rfl|hx|rfl|hx|rfl
   ·exact wK (by simp) t3
   ·exact hbl x hx
   ·exact tK
   ·exact hx3 x hx
   ·exact tK
  ·refine⟨by simp;omega,(fun e=>by rw[e]at hk;cases hk.2),(((b5.trans hbb).trans b4).trans b3).trans b1,o5,fun x hx=>?_⟩
   simp only[List.mem_cons,List.mem_append,List.not_mem_nil,or_false]at hx
   rcases hx with rfl|hx|rfl
   ·exact wK (by simp) t3
   ·exact hbl x hx
   ·exact tK
 split
 ·rename_i hk
  have hr:=h hk.2
  obtain⟨k4,b4,o4,_⟩:=bM o1 3
  have hl3:=hr.len 1 _ o4
  have hb3:=hr.b 1 _ o4
  have ho3:=hr.ok 1 _ o4
  have hx3:=hr.bl 1 _ o4
  generalize rc 1 (bR 3 c1).2=B at *
  refine⟨by simp;omega,(fun e=>by rw[e]at hk;cases hk.2),(hb3.trans b4).trans b1,ho3,fun x hx=>?_⟩
  simp only[List.mem_cons,List.mem_append,List.not_mem_nil,or_false]at hx
  rcases hx with rfl|hx|rfl|rfl
  ·exact⟨by simp,rfl,by simp,by simp,by simp⟩
  ·exact hx3 x hx
  ·exact⟨by simp,rfl,by simp,by simp,by simp⟩
  ·exact tK
 ·obtain⟨b5,o5,_⟩:=gk o1 3
  split
  ·obtain⟨t3,b3,o3,_⟩:=dT hG o5 4 (by omega)
   refine⟨by simp;omega,fun _=>by simp,(b3.trans b5).trans b1,o3,fun x hx=>?_⟩
   simp only[List.mem_singleton]at hx
   subst hx
   exact wK (by simp) t3
  ·exact⟨by simp,fun _=>by simp,b5.trans b1,o5,fun x hx=>by cases hx⟩
theorem Ef {G:GP}{rc:Nat→HA→List HH×HA}{dp:Bool}{s:Nat}(hs:∀c:HA,c.ok→(jr G rc dp c).1.length≤s∧(jr G rc dp c).2.b=c.b∧(jr G rc dp c).2.ok∧∀x∈(jr G rc dp c).1,BL x):RcOk s (lM G rc dp):=by
 have key:∀n c,c.ok→(lM G rc dp n c).1.length≤n * s∧(lM G rc dp n c).2.b=c.b∧(lM G rc dp n c).2.ok∧∀x∈(lM G rc dp n c).1,BL x:=by
  intro n
  induction n with
  | zero=>exact fun c hc=>⟨by simp[lM],rfl,hc,fun x hx=>by simp[lM]at hx⟩
  | succ n ih=>
   intro c hc
   obtain⟨h1,h2,h3,h4⟩:=hs c hc
   obtain⟨i1,i2,i3,i4⟩:=ih _ h3
   rw[lM]
   refine⟨by simp only[List.length_append];rw[Nat.succ_mul];omega,i2.trans h2,i3,fun x hx=>?_⟩
   rcases List.mem_append.1 hx with hx|hx
   ·exact h4 x hx
   ·exact i4 x hx
 exact⟨fun n c hc=>(key n c hc).1,fun n c hc=>(key n c hc).2.1,fun n c hc=>(key n c hc).2.2.1,fun n c hc=>(key n c hc).2.2.2⟩
theorem ng {G:GP}(hG:G.ok):∀d,RcOk (sB d) (rH G d)
 | 0=>Ef fun c hc=>by
  have:=yw hG (s:=0) (rc:=fun _ c=>([],c)) (dp:=false) (fun e=>by cases e) hc
  exact⟨this.2.1 rfl,this.2.2⟩
 | d+1=>Ef fun c hc=>by
  have:=yw hG (dp:=true) (fun _=>ng hG d) hc
  exact⟨this.1,this.2.2⟩
end Go.Proofs.YtjmplnfiabmalaaGreat
namespace Go.Proofs.YtjmplnfiabmalaaGreat
open Go.Sim
set_option maxRecDepth 100000
set_option maxHeartbeats 4000000
def dr (x:HH):List DC:=match x.fad with
 | []=>[.t (.int .i64 x.faa),.t (.str x.fac),.t (.lst 0 []),.t (.lst 0 [])]
 | t::l=>[.d (.int .i64 x.faa),.d (.str x.fac),.d (.lst 0 []),.d (.lst 3 ((t::l).map HP.tr))]
theorem qC (k:Int)(n:List UInt8)(a:List (List UInt8)):dr ⟨k,n,a,[]⟩=[.t (.int .i64 k),.t (.str n),.t (.lst 0 []),.t (.lst 0 [])]:=rfl
theorem FU (k:Int)(n:List UInt8)(a:List (List UInt8))(t:HP)(l:List HP):dr ⟨k,n,a,t::l⟩=[.d (.int .i64 k),.d (.str n),.d (.lst 0 []),.d (.lst 3 ((t::l).map HP.tr))]:=rfl
theorem mR {e:List HP}(h:0 < e.length)(k:Int)(n:List UInt8)(a:List (List UInt8)):dr ⟨k,n,a,e⟩=[.d (.int .i64 k),.d (.str n),.d (.lst 0 []),.d (.lst 3 (e.map HP.tr))]:=by
 cases e with
 | nil=>cases h
 | cons t l=>rfl
abbrev Ff (G:GP)(n:Nat)(d:Int)(c:HA)(R:List HH×HA):Prop:=aV Tryz.prog 201 [gg,tI .i64 (n:Int),tI .i64 d] (gH G c) (.r (.c (.own (1,0,0)))) (gH G R.2++[((1,0,0),.dar 4 (R.1.map dr) none)])
theorem Gn {G:GP}(hG:G.ok){rc:Nat→HA→List HH×HA}{dp:Bool}{s d:Nat}(hd:d≤5)(hdp:dp=decide (0 < d))(hs:3+3 * s≤1000)(hR:dp=true→RcOk s rc)(hrc:dp=true→∀n c,n≤2→c.ok→Ff G n ((d:Int) - 1) c (rc n c))(n:Nat)(c:HA)(hn:n≤4)(hc:c.ok):
  Ff G n d c (lM G rc dp n c):=by
 refine aj hΓ ay Tryz.func201 rfl (by decide) rfl rfl ?_
 obtain⟨R,c',hRR⟩:∃R c',lM G rc dp n c=(R,c'):=⟨_,_,rfl⟩
 rw[hRR]
 have hvl:(G.vars.map ah).length=G.vars.length:=by simp
 repeat' ((conv=>whnf);first|apply Wx|apply W6|apply oi|(apply fi<;>intro h)|refine⟨_,rfl,?_⟩|exact rfl)
 all_goals try exact⟨KP⟩
 conv=>whnf
 refine⟨{q:Nat×HA×List HH // q.1≤n∧q.2.1.ok∧q.2.2.length+q.1 * 1000≤4000∧q.2.2++(lM G rc dp q.1 q.2.1).1=R∧(lM G rc dp q.1 q.2.1).2=c'},fun q=>⟨[(0,gg),(1,tI .i64 (q.1.1:Int)),(2,tI .i64 (d:Int)),(7,.r (.c (.own (10,0,0))))],[((0,0,0),some (.box [.ptr (0,0,1) 0,.own (0,0,2),.t (.lst 1 (G.names.map ah)),.t (.lst 1 (G.ars.map aa))])),((0,0,1),some (.box [.t (.lst 1 (q.1.2.1.b.map aQ)),.t (.int .i64 q.1.2.1.i),.t (.int .i64 q.1.2.1.h)])),((0,0,2),some (.arr false 1 (G.vars.map ah))),((10,0,0),some (.dar 4 (q.1.2.2.map dr) none))],[10,0]⟩,fun q=>q.1.1,⟨(n,c,[]),by dsimp only;omega,hc,by simp;omega,by rw[hRR];rfl,by rw[hRR]⟩,?_,?_⟩
 ·skip
  repeat' ((conv=>whnf);first|apply Wx|apply W6|apply oi|(apply fi<;>intro h)|refine⟨_,rfl,?_⟩|exact rfl)
  all_goals try exact⟨KP⟩
  all_goals try exact⟨rfl⟩
 intro⟨⟨rem,ci,acc⟩,hi,hci,hal,hr1,hr2⟩
 dsimp only at hi hci hal hr1 hr2 ⊢
 cases rem with
 | zero=>
  simp only[lM,List.append_nil]at hr1 hr2
  subst hr1;subst hr2
  repeat' ((conv=>whnf);first|apply Wx|apply W6|apply oi|(apply fi<;>intro h)|refine⟨_,rfl,?_⟩|exact rfl)
  all_goals try exact⟨KP⟩
  all_goals try exact KX
 | succ m=>
  rw[lM]at hr1 hr2
  dsimp only at hr1 hr2
  obtain⟨s1,_,s3,s4,_⟩:=yw hG hR hci
  generalize hS:jr G rc dp ci=S at *
  obtain⟨k1,b1,o1,g1⟩:=bM hci 9
  unfold jr at hS
  dsimp only at hS
  generalize bR 9 ci=q at *
  rw[←List.append_assoc]at hr1
  have hlen:(acc++S.1).length+m * 1000≤4000:=by rw[List.length_append];omega
  by_cases hk4:q.1 < 4
  ·rw[if_pos hk4]at hS
   obtain⟨k2,b2,o2,g2⟩:=bM o1 (G.vars.length:Int)
   obtain⟨t3,b3,o3,g3⟩:=dT hG o2 6 (by omega)
   generalize bR (G.vars.length:Int) q.2=v at *
   generalize exV G 6 v.2=e at *
   subst hS
   have kv:=hG.v1
   have hvv:v.1 < (G.vars.map ah).length:=by have:=k2 (by omega);omega
   obtain⟨nm,hnm⟩:=ae (l:=G.vars) (k:=v.1) (by omega)
   have hvg:(G.vars.map ah)[v.1]?=some (ah nm):=ab hnm
   rw[hvl.symm]at g2
   repeat' ((conv=>whnf);first|apply Wx|apply W6|apply oi|(apply fi<;>intro h)|refine⟨_,rfl,?_⟩|exact rfl)
   all_goals try exact⟨KP⟩
   refine cg (g1) ?_
   repeat' ((conv=>whnf);first|apply Wx|apply W6|apply oi|(apply fi<;>intro h)|refine⟨_,rfl,?_⟩|exact rfl)
   all_goals try exact⟨KP⟩
   all_goals try exact KX
   refine cg (g2) ?_
   repeat' ((conv=>whnf);first|apply Wx|apply W6|apply oi|(apply fi<;>intro h)|refine⟨_,rfl,hvv,?_⟩|refine⟨_,hvg,?_⟩|refine⟨_,rfl,?_⟩|exact rfl)
   all_goals try exact⟨KP⟩
   refine cg (g3) ?_
   repeat' ((conv=>whnf);first|apply Wx|apply W6|apply oi|(apply fi<;>intro h)|refine⟨_,rfl,?_⟩|exact rfl)
   all_goals try exact⟨KP⟩
   all_goals try exact⟨aG _⟩
   all_goals try exact⟨⟨by simp <;> omega,by simp <;> omega⟩⟩
   all_goals try exact⟨KW⟩
   conv=>whnf
   refine⟨⟨(m,_,_),by dsimp only;omega,s4,hlen,hr1,hr2⟩,?_,KD⟩
   repeat' ((conv=>whnf);first|apply Wx|apply W6|apply oi|(apply fi<;>intro h)|refine⟨_,rfl,?_⟩|exact rfl)
   all_goals try exact⟨KP⟩
   all_goals try exact⟨K8⟩
   all_goals exact⟨by simp[mR t3.1,hnm]⟩
  rw[if_neg hk4]at hS
  by_cases hk6:q.1 < 6
  ·rw[if_pos hk6]at hS
   obtain⟨t3,b3,o3,g3⟩:=dT hG o1 5 (by omega)
   generalize exV G 5 q.2=e at *
   subst hS
   repeat' ((conv=>whnf);first|apply Wx|apply W6|apply oi|(apply fi<;>intro h)|refine⟨_,rfl,?_⟩|exact rfl)
   all_goals try exact⟨KP⟩
   refine cg (g1) ?_
   repeat' ((conv=>whnf);first|apply Wx|apply W6|apply oi|(apply fi<;>intro h)|refine⟨_,rfl,?_⟩|exact rfl)
   all_goals try exact⟨KP⟩
   all_goals try exact KX
   refine cg (g3) ?_
   repeat' ((conv=>whnf);first|apply Wx|apply W6|apply oi|(apply fi<;>intro h)|refine⟨_,rfl,?_⟩|exact rfl)
   all_goals try exact⟨KP⟩
   all_goals try exact⟨aG _⟩
   all_goals try exact⟨⟨by simp <;> omega,by simp <;> omega⟩⟩
   all_goals try exact⟨KW⟩
   conv=>whnf
   refine⟨⟨(m,_,_),by dsimp only;omega,s4,hlen,hr1,hr2⟩,?_,KD⟩
   repeat' ((conv=>whnf);first|apply Wx|apply W6|apply oi|(apply fi<;>intro h)|refine⟨_,rfl,?_⟩|exact rfl)
   all_goals try exact⟨KP⟩
   all_goals try exact⟨K8⟩
   all_goals exact⟨by simp[mR t3.1]⟩
  rw[if_neg hk6]at hS
  by_cases hk7:q.1=6∧dp=true
  ·rw[if_pos hk7]at hS
   obtain⟨hk7,hdt⟩:=hk7
   have hd0:0 < d:=by rw[hdp]at hdt;exact of_decide_eq_true hdt
   have hRo:=hR hdt
   obtain⟨t3,b3,o3,g3⟩:=dT hG o1 4 (by omega)
   generalize exV G 4 q.2=e at *
   obtain⟨k4,b4,o4,g4⟩:=bM o3 2
   generalize bR 2 e.2=t at *
   have g5:=hrc hdt (1+t.1) t.2 (by have:=k4 (by omega);omega) o4
   have l5:=hRo.len (1+t.1) t.2 o4
   have ob5:=hRo.ok (1+t.1) t.2 o4
   have l5':(rc (1+t.1) t.2).1.length≤2 * s:=Nat.le_trans l5 (Nat.mul_le_mul_right _ (by have:=k4 (by omega);omega))
   generalize rc (1+t.1) t.2=B at *
   obtain⟨b6,o6,g6⟩:=gk ob5 2
   generalize iV 2 B.2=o at *
   cases ho:o.1 with
   | true=>
    rw[if_pos ho]at hS
    rw[ho]at g6
    have g7:=hrc hdt 1 o.2 (by omega) o6
    have l7:=hRo.len 1 o.2 o6
    generalize rc 1 o.2=E at *
    subst hS
    repeat' ((conv=>whnf);first|apply Wx|apply W6|apply oi|(apply fi<;>intro h)|refine⟨_,rfl,?_⟩|exact rfl)
    all_goals try exact⟨KP⟩
    refine cg (g1) ?_
    repeat' ((conv=>whnf);first|apply Wx|apply W6|apply oi|(apply fi<;>intro h)|refine⟨_,rfl,?_⟩|exact rfl)
    all_goals try exact⟨KP⟩
    all_goals try exact KK
    refine cg (g3) ?_
    repeat' ((conv=>whnf);first|apply Wx|apply W6|apply oi|(apply fi<;>intro h)|refine⟨_,rfl,?_⟩|exact rfl)
    all_goals try exact⟨KP⟩
    all_goals try exact⟨aG _⟩
    all_goals try exact⟨⟨by simp <;> omega,by simp <;> omega⟩⟩
    all_goals try exact⟨KW⟩
    refine cg (g4) ?_
    repeat' ((conv=>whnf);first|apply Wx|apply W6|apply oi|(apply fi<;>intro h)|refine⟨_,rfl,?_⟩|exact rfl)
    all_goals try exact⟨KP⟩
    all_goals try exact⟨aG _⟩
    all_goals try exact⟨⟨by simp <;> omega,by simp <;> omega⟩⟩
    all_goals try exact⟨KW⟩
    refine cg (g5) ?_
    repeat' ((conv=>whnf);first|apply Wx|apply W6|apply oi|(apply fi<;>intro h)|refine⟨_,rfl,?_⟩|exact rfl)
    all_goals try exact⟨KP⟩
    all_goals try exact⟨aG _⟩
    all_goals try exact⟨⟨by simp <;> omega,by simp <;> omega⟩⟩
    all_goals try exact⟨KW⟩
    refine cg (g6) ?_
    repeat' ((conv=>whnf);first|apply Wx|apply W6|apply oi|(apply fi<;>intro h)|refine⟨_,rfl,?_⟩|exact rfl)
    all_goals try exact⟨KP⟩
    all_goals try exact⟨aG _⟩
    all_goals try exact⟨⟨by simp <;> omega,by simp <;> omega⟩⟩
    all_goals try exact⟨KW⟩
    refine cg (g7) ?_
    repeat' ((conv=>whnf);first|apply Wx|apply W6|apply oi|(apply fi<;>intro h)|refine⟨_,rfl,?_⟩|exact rfl)
    all_goals try exact⟨KP⟩
    all_goals try exact⟨aG _⟩
    all_goals try exact⟨⟨by simp <;> omega,by simp <;> omega⟩⟩
    all_goals try exact⟨KW⟩
    conv=>whnf
    refine⟨⟨(m,_,_),by dsimp only;omega,s4,hlen,hr1,hr2⟩,?_,KD⟩
    repeat' ((conv=>whnf);first|apply Wx|apply W6|apply oi|(apply fi<;>intro h)|refine⟨_,rfl,?_⟩|exact rfl)
    all_goals try exact⟨KP⟩
    all_goals try exact⟨K8⟩
    all_goals exact⟨by simp[mR t3.1,qC]⟩
   | false=>
    rw[if_neg (by simp[ho])]at hS
    rw[ho]at g6
    subst hS
    repeat' ((conv=>whnf);first|apply Wx|apply W6|apply oi|(apply fi<;>intro h)|refine⟨_,rfl,?_⟩|exact rfl)
    all_goals try exact⟨KP⟩
    refine cg (g1) ?_
    repeat' ((conv=>whnf);first|apply Wx|apply W6|apply oi|(apply fi<;>intro h)|refine⟨_,rfl,?_⟩|exact rfl)
    all_goals try exact⟨KP⟩
    all_goals try exact KK
    refine cg (g3) ?_
    repeat' ((conv=>whnf);first|apply Wx|apply W6|apply oi|(apply fi<;>intro h)|refine⟨_,rfl,?_⟩|exact rfl)
    all_goals try exact⟨KP⟩
    all_goals try exact⟨aG _⟩
    all_goals try exact⟨⟨by simp <;> omega,by simp <;> omega⟩⟩
    all_goals try exact⟨KW⟩
    refine cg (g4) ?_
    repeat' ((conv=>whnf);first|apply Wx|apply W6|apply oi|(apply fi<;>intro h)|refine⟨_,rfl,?_⟩|exact rfl)
    all_goals try exact⟨KP⟩
    all_goals try exact⟨aG _⟩
    all_goals try exact⟨⟨by simp <;> omega,by simp <;> omega⟩⟩
    all_goals try exact⟨KW⟩
    refine cg (g5) ?_
    repeat' ((conv=>whnf);first|apply Wx|apply W6|apply oi|(apply fi<;>intro h)|refine⟨_,rfl,?_⟩|exact rfl)
    all_goals try exact⟨KP⟩
    all_goals try exact⟨aG _⟩
    all_goals try exact⟨⟨by simp <;> omega,by simp <;> omega⟩⟩
    all_goals try exact⟨KW⟩
    refine cg (g6) ?_
    repeat' ((conv=>whnf);first|apply Wx|apply W6|apply oi|(apply fi<;>intro h)|refine⟨_,rfl,?_⟩|exact rfl)
    all_goals try exact⟨KP⟩
    all_goals try exact⟨aG _⟩
    all_goals try exact⟨⟨by simp <;> omega,by simp <;> omega⟩⟩
    all_goals try exact⟨KW⟩
    conv=>whnf
    refine⟨⟨(m,_,_),by dsimp only;omega,s4,hlen,hr1,hr2⟩,?_,KD⟩
    repeat' ((conv=>whnf);first|apply Wx|apply W6|apply oi|(apply fi<;>intro h)|refine⟨_,rfl,?_⟩|exact rfl)
    all_goals try exact⟨KP⟩
    all_goals try exact⟨K8⟩
    all_goals exact⟨by simp[mR t3.1,qC]⟩
  rw[if_neg hk7]at hS
  by_cases hk8:q.1=7∧dp=true
  ·rw[if_pos hk8]at hS
   obtain⟨hk8,hdt⟩:=hk8
   have hd0:0 < d:=by rw[hdp]at hdt;exact of_decide_eq_true hdt
   have hRo:=hR hdt
   obtain⟨k4,b4,o4,g4⟩:=bM o1 3
   generalize bR 3 q.2=t at *
   have k4':=k4 (by omega)
   have hwi:IntKind.i64.wrap (1+(t.1:Int))=1+(t.1:Int):=IntWalk.i64_in _ (by omega)
   have g5:=hrc hdt 1 t.2 (by omega) o4
   have l5:=hRo.len 1 t.2 o4
   generalize rc 1 t.2=B at *
   subst hS
   repeat' ((conv=>whnf);first|apply Wx|apply W6|apply oi|(apply fi<;>intro h)|refine⟨_,rfl,?_⟩|exact rfl)
   all_goals try exact⟨KP⟩
   refine cg (g1) ?_
   repeat' ((conv=>whnf);first|apply Wx|apply W6|apply oi|(apply fi<;>intro h)|refine⟨_,rfl,?_⟩|exact rfl)
   all_goals try exact⟨KP⟩
   all_goals try exact KK
   refine cg (g4) ?_
   repeat' ((conv=>whnf);first|apply Wx|apply W6|apply oi|(apply fi<;>intro h)|refine⟨_,rfl,?_⟩|exact rfl)
   all_goals try exact⟨KP⟩
   all_goals try exact⟨aG [⟨5,0,[]⟩,⟨1,0,[105]⟩,⟨0,IntKind.i64.wrap (1+(t.1:Int)),[]⟩]⟩
   all_goals try exact⟨aG _⟩
   all_goals try exact⟨⟨by simp <;> omega,by simp <;> omega⟩⟩
   all_goals try exact⟨KW⟩
   refine cg (g5) ?_
   repeat' ((conv=>whnf);first|apply Wx|apply W6|apply oi|(apply fi<;>intro h)|refine⟨_,rfl,?_⟩|exact rfl)
   all_goals try exact⟨KP⟩
   all_goals try exact⟨aG [⟨2,0,[]⟩,⟨1,0,[105]⟩,⟨0,1,[]⟩]⟩
   all_goals try exact⟨aG _⟩
   all_goals try exact⟨⟨by simp <;> omega,by simp <;> omega⟩⟩
   all_goals try exact⟨KW⟩
   conv=>whnf
   refine⟨⟨(m,_,_),by dsimp only;omega,s4,hlen,hr1,hr2⟩,?_,KD⟩
   repeat' ((conv=>whnf);first|apply Wx|apply W6|apply oi|(apply fi<;>intro h)|refine⟨_,rfl,?_⟩|exact rfl)
   all_goals try exact⟨KP⟩
   all_goals try exact⟨K8⟩
   all_goals exact⟨by simp[qC,FU,HP.tr,hwi]⟩
  rw[if_neg hk8]at hS
  have hnd:¬(q.1=6∧0 < d)∧¬(q.1=7∧0 < d):=⟨fun h=>hk7 ⟨h.1,by rw[hdp];exact decide_eq_true h.2⟩,fun h=>hk8 ⟨h.1,by rw[hdp];exact decide_eq_true h.2⟩⟩
  obtain⟨b6,o6,g6⟩:=gk o1 3
  generalize iV 3 q.2=o at *
  cases ho:o.1 with
  | true=>
   rw[if_pos ho]at hS
   rw[ho]at g6
   obtain⟨t3,b3,o3,g3⟩:=dT hG o6 4 (by omega)
   generalize exV G 4 o.2=e at *
   subst hS
   repeat' ((conv=>whnf);first|apply Wx|apply W6|apply oi|(apply fi<;>intro h)|refine⟨_,rfl,?_⟩|exact rfl)
   all_goals try exact⟨KP⟩
   refine cg (g1) ?_
   repeat' ((conv=>whnf);first|apply Wx|apply W6|apply oi|(apply fi<;>intro h)|refine⟨_,rfl,?_⟩|exact rfl)
   all_goals try exact⟨KP⟩
   all_goals try exact KK
   all_goals(
    refine cg (g6) ?_
    repeat' ((conv=>whnf);first|apply Wx|apply W6|apply oi|(apply fi<;>intro h)|refine⟨_,rfl,?_⟩|exact rfl)
    all_goals try exact⟨KP⟩
    refine cg (g3) ?_
    repeat' ((conv=>whnf);first|apply Wx|apply W6|apply oi|(apply fi<;>intro h)|refine⟨_,rfl,?_⟩|exact rfl)
    all_goals try exact⟨KP⟩
    all_goals try exact⟨aG _⟩
    all_goals try exact⟨⟨by simp <;> omega,by simp <;> omega⟩⟩
    all_goals try exact⟨KW⟩
    conv=>whnf
    refine⟨⟨(m,_,_),by dsimp only;omega,s4,hlen,hr1,hr2⟩,?_,KD⟩
    repeat' ((conv=>whnf);first|apply Wx|apply W6|apply oi|(apply fi<;>intro h)|refine⟨_,rfl,?_⟩|exact rfl)
    all_goals try exact⟨KP⟩
    all_goals try exact⟨K8⟩
    all_goals exact⟨by simp[mR t3.1]⟩)
  | false=>
   rw[if_neg (by simp[ho])]at hS
   rw[ho]at g6
   subst hS
   repeat' ((conv=>whnf);first|apply Wx|apply W6|apply oi|(apply fi<;>intro h)|refine⟨_,rfl,?_⟩|exact rfl)
   all_goals try exact⟨KP⟩
   refine cg (g1) ?_
   repeat' ((conv=>whnf);first|apply Wx|apply W6|apply oi|(apply fi<;>intro h)|refine⟨_,rfl,?_⟩|exact rfl)
   all_goals try exact⟨KP⟩
   all_goals try exact KK
   all_goals(
    refine cg (g6) ?_
    repeat' ((conv=>whnf);first|apply Wx|apply W6|apply oi|(apply fi<;>intro h)|refine⟨_,rfl,?_⟩|exact rfl)
    all_goals try exact⟨KP⟩
    conv=>whnf
    refine⟨⟨(m,_,_),by dsimp only;omega,s4,hlen,hr1,hr2⟩,?_,KD⟩
    repeat' ((conv=>whnf);first|apply Wx|apply W6|apply oi|(apply fi<;>intro h)|refine⟨_,rfl,?_⟩|exact rfl)
    all_goals try exact⟨KP⟩
    all_goals try exact⟨K8⟩
    all_goals exact⟨by simp⟩)
theorem yj {G:GP}(hG:G.ok):∀(d n:Nat) (c:HA),d≤2→n≤4→c.ok→Ff G n d c (rH G d n c)
 | 0,n,c,_,hn,hc=>Gn hG (s:=0) (by omega) rfl (by omega) (fun h=>by cases h) (fun h=>by cases h) n c hn hc
 | d+1,n,c,hd,hn,hc=>Gn hG (s:=sB d) (by omega) (by simp) (by
   have:d=0∨d=1:=by omega
   rcases this with rfl|rfl <;> simp[sB]) (fun _=>ng hG d) (fun _ m c' hm hc'=>by
   have e:(((d+1:Nat):Int) - 1)=(d:Int):=by omega
   rw[e]
   exact yj hG d m c' (by omega) (by omega) hc') n c hn hc
def nm0:List (List UInt8):=[[109,97,105,110],[102],[103,103],[104]]
def ar0:List Int:=[0,1,2,1]
def arg0:List (List UInt8):=[[120],[121]]
def arN (k:Nat):Nat:=(ar0[k]?.getD 0).toNat
def nmN (k:Nat):List UInt8:=nm0[k]?.getD []
def gpV (n k:Nat)(b:Bool):GP:=⟨arg0.take (arN k)++[[105],[122]],(nm0.take n).drop (if b=true then k else k+1),(ar0.take n).drop (if b=true then k else k+1)⟩
theorem yD {n k:Nat}(b:Bool):(gpV n k b).ok:=by
 refine⟨by simp[gpV],by simp[gpV,arg0];omega,by simp[gpV,nm0];omega,by simp[gpV,nm0,ar0],fun a ha=>?_,fun s hs=>?_,fun s hs=>?_⟩
 ·have:=List.mem_of_mem_take (List.mem_of_mem_drop ha)
  simp[ar0]at this
  omega
 ·simp only[gpV,List.mem_append]at hs
  rcases hs with hs|hs
  ·have:=List.mem_of_mem_take hs
   simp[arg0]at this
   rcases this with rfl|rfl <;> simp
  ·simp at hs
   rcases hs with rfl|rfl <;> simp
 ·have:=List.mem_of_mem_take (List.mem_of_mem_drop hs)
  simp[nm0]at this
  rcases this with rfl|rfl|rfl|rfl <;> simp
noncomputable def wd (n k:Nat) (c:HA):List HH×HA:=
 let o:=if 0 < k then iV 5 c else(false,c)
 let G:=gpV n k o.1
 let t:=bR 4 o.2
 let u:=bR 2 t.2
 let B:=rH G (1+u.1) (1+t.1) u.2
 let e:=exV G 3 B.2
 (⟨0,nmN k,arg0.take (arN k),[]⟩::(B.1++[⟨6,[],[],e.1⟩,⟨7,[],[],[]⟩]),e.2)
noncomputable def iS (n:Nat):Nat→Nat→HA→List HH×HA
 | 0,_,c=>([],c)
 | r+1,k,c=>((wd n k c).1++(iS n r (k+1) (wd n k c).2).1,(iS n r (k+1) (wd n k c).2).2)
noncomputable def ki (c:HA):List HH×HA:=iS (1+(bR 4 c).1) (1+(bR 4 c).1) 0 (bR 4 c).2
def drP (x:HH):List DC:=if x.faa=0 then [.d (.int .i64 0),.d (.str x.fac),.d (.lst 1 (x.fag.map ah)),.d (.lst 0 [])]else dr x
structure PL (x:HH):Prop where
 name:x.fac.length≤8
 args:x.fag.length≤2∧∀s∈x.fag,s.length≤8
 len:x.fad.length≤125
 tok:∀t∈x.fad,t.fac.length≤8
 fe:x.faa=0→x.fad=[]
 fa:x.faa≠0→x.fag=[]
theorem Fj {n k:Nat}{c:HA}(hc:c.ok):(wd n k c).1.length≤200∧(wd n k c).2.b=c.b∧(wd n k c).2.ok∧∀x∈(wd n k c).1,PL x:=by
 unfold wd
 dsimp only
 have ho:(if 0 < k then iV 5 c else(false,c)).2.b=c.b∧(if 0 < k then iV 5 c else(false,c)).2.ok:=by
  split
  ·have:=gk hc 5;exact⟨this.1,this.2.1⟩
  ·exact⟨rfl,hc⟩
 generalize(if 0 < k then iV 5 c else(false,c))=o at *
 have hG:=yD (n:=n) (k:=k) o.1
 generalize gpV n k o.1=G at *
 obtain⟨k4,b4,o4,_⟩:=bM ho.2 4
 obtain⟨k2,b2,o2,_⟩:=bM o4 2
 have k4':=k4 (by omega)
 have k2':=k2 (by omega)
 have hB:=ng hG (1+(bR 2 (bR 4 o.2).2).1)
 have hl:=hB.len (1+(bR 4 o.2).1) _ o2
 have hb:=hB.b (1+(bR 4 o.2).1) _ o2
 have hk:=hB.ok (1+(bR 4 o.2).1) _ o2
 have hx:=hB.bl (1+(bR 4 o.2).1) _ o2
 have hs:sB (1+(bR 2 (bR 4 o.2).2).1)≤21:=by
  have:(bR 2 (bR 4 o.2).2).1=0∨(bR 2 (bR 4 o.2).2).1=1:=by omega
  rcases this with e|e <;> rw[e] <;> simp[sB]
 have hl2:=Nat.mul_le_mul (show 1+(bR 4 o.2).1≤4 by omega) hs
 generalize rH G (1+(bR 2 (bR 4 o.2).2).1) (1+(bR 4 o.2).1) (bR 2 (bR 4 o.2).2).2=B at *
 obtain⟨t3,b3,o3,_⟩:=dT hG hk 3 (by omega)
 refine⟨by simp;omega,((b3.trans hb).trans b2).trans (b4.trans ho.1),o3,fun x h=>?_⟩
 have hbl:∀{x:HH},BL x→PL x:=fun h=>⟨h.name,by rw[h.args];simp,h.len,h.tok,fun e=>by have:=h.kind;omega,fun _=>h.args⟩
 simp only[List.mem_cons,List.mem_append,List.not_mem_nil,or_false]at h
 rcases h with rfl|h|rfl|rfl
 ·refine⟨?_,⟨?_,fun s hs=>?_⟩,by simp,by simp,fun _=>rfl,fun e=>absurd rfl e⟩
  ·show(nmN k).length≤8
   unfold nmN
   cases hn:nm0[k]? with
   | none=>simp
   | some v=>
    have:=List.mem_of_getElem? hn
    simp[nm0]at this
    rcases this with rfl|rfl|rfl|rfl <;> simp
  ·simp[arg0];omega
  ·have:=List.mem_of_mem_take hs
   simp[arg0]at this
   rcases this with rfl|rfl <;> simp
 ·exact hbl (hx x h)
 ·exact hbl (wK (by simp) t3)
 ·exact hbl tK
theorem xM (n:Nat):∀(r k:Nat) (c:HA),c.ok→(iS n r k c).1.length≤r * 200∧(iS n r k c).2.b=c.b∧(iS n r k c).2.ok∧∀x∈(iS n r k c).1,PL x
 | 0,_,c,hc=>⟨by simp[iS],rfl,hc,fun x hx=>by simp[iS]at hx⟩
 | r+1,k,c,hc=>by
  obtain⟨h1,h2,h3,h4⟩:=Fj (n:=n) (k:=k) hc
  obtain⟨i1,i2,i3,i4⟩:=xM n r (k+1) _ h3
  rw[iS]
  refine⟨by simp only[List.length_append];omega,i2.trans h2,i3,fun x hx=>?_⟩
  rcases List.mem_append.1 hx with hx|hx
  ·exact h4 x hx
  ·exact i4 x hx
theorem Ca {c:HA}(hc:c.ok):(ki c).1.length≤800∧(ki c).2.b=c.b∧(ki c).2.ok∧∀x∈(ki c).1,PL x:=by
 obtain⟨k1,b1,o1,_⟩:=bM hc 4
 have k1':=k1 (by omega)
 obtain⟨h1,h2,h3,h4⟩:=xM (1+(bR 4 c).1) (1+(bR 4 c).1) 0 _ o1
 have:=Nat.mul_le_mul_right 200 (show 1+(bR 4 c).1≤4 by omega)
 exact⟨by unfold ki;omega,h2.trans b1,h3,h4⟩
theorem BA {l:List HH}(h:∀x∈l,BL x):l.map dr=l.map drP:=by
 refine List.map_congr_left fun x hx=>?_
 have:=(h x hx).kind
 rw[drP,if_neg (by omega)]
theorem Gd {x:HH}(h:PL x):((drP x).map DC.tr).length=x.tr.length∧∀(p:Nat) (c d:Tr),((drP x).map DC.tr)[p]?=some c→x.tr[p]?=some d→emE c d:=by
 obtain⟨k,n,a,e⟩:=x
 have key:∃u v,(drP ⟨k,n,a,e⟩).map DC.tr=[.int .i64 k,.str n,u,v]∧emE u (.lst 1 (a.map ah))∧emE v (.lst 3 (e.map HP.tr)):=by
  by_cases h0:k=0
  ·subst h0
   have he:=h.fe rfl
   dsimp only at he
   subst he
   exact⟨_,_,rfl,.inl rfl,.inr ⟨_,_,rfl,rfl⟩⟩
  ·have ha:=h.fa h0
   dsimp only at ha
   subst ha
   rw[drP,if_neg h0]
   cases e with
   | nil=>exact⟨_,_,rfl,.inr ⟨_,_,rfl,rfl⟩,.inr ⟨_,_,rfl,rfl⟩⟩
   | cons t l=>exact⟨_,_,rfl,.inr ⟨_,_,rfl,rfl⟩,.inl rfl⟩
 obtain⟨u,v,e1,e2,e3⟩:=key
 rw[e1]
 refine⟨rfl,fun p c d hc hd=>?_⟩
 match p with
 | 0=>simp[HH.tr]at hc hd;subst hc;subst hd;exact .inl rfl
 | 1=>simp[HH.tr]at hc hd;subst hc;subst hd;exact .inl rfl
 | 2=>simp[HH.tr]at hc hd;subst hc;subst hd;exact e2
 | 3=>simp[HH.tr]at hc hd;subst hc;subst hd;exact e3
 | p+4=>simp at hc
theorem Cy:∀{l:List HH},(∀x∈l,PL x)→emR ((l.map drP).map fun x=>x.map DC.tr) (l.map HH.tr)
 | [],_=>trivial
 | x::l,h=>⟨Gd (h x (by simp)),Cy fun y hy=>h y (by simp[hy])⟩
theorem oW (c:HA)(hc:c.ok):aV Tryz.prog 145 [gg] (eQ c) (.r (.c (.t (.lst 4 ((ki c).1.map HH.tr))))) (eQ (ki c).2):=by
 obtain⟨k1,b1,o1,g1⟩:=bM hc 4
 have k1':=k1 (by omega)
 refine aj hΓ ay Tryz.func145 rfl (by decide) rfl rfl ?_
 unfold ki
 generalize(bR 4 c).2=c1 at *
 obtain⟨n,hn⟩:∃n,1+(bR 4 c).1=n:=⟨_,rfl⟩
 have hw:IntKind.i64.wrap (1+((bR 4 c).1:Int))=(n:Int):=by rw[IntWalk.i64_in _ (by omega)];omega
 rw[hn]
 obtain⟨R,c',hRR⟩:∃R c',iS n n 0 c1=(R,c'):=⟨_,_,rfl⟩
 have hPL:=(xM n n 0 _ o1).2.2.2
 rw[hRR]at hPL ⊢
 repeat' ((conv=>whnf);first|(with_reducible apply W1;fail_if_success (with_reducible show Wo _ _ _ _ (Code.seq (Code.region 5 _ _) _) _ _))|(with_reducible first|apply W2|apply W3|apply W4|apply W5|apply W6|apply W7|apply W8|apply W9)|apply bh|apply oi|(apply fi<;>intro h)|refine⟨_,rfl,?_⟩|exact rfl)
 all_goals try exact⟨KP⟩
 refine cg (g1) ?_
 repeat' ((conv=>whnf);first|(with_reducible apply W1;fail_if_success (with_reducible show Wo _ _ _ _ (Code.seq (Code.region 5 _ _) _) _ _))|(with_reducible first|apply W2|apply W3|apply W4|apply W5|apply W6|apply W7|apply W8|apply W9)|apply bh|apply oi|(apply fi<;>intro h)|refine⟨_,rfl,?_⟩|exact rfl)
 all_goals try exact⟨KP⟩
 conv=>whnf
 refine nx ⟨[(0,gg),(3,vN nm0),(4,.r (.c (.t (.lst 1 (ar0.map aa))))),(5,tI .i64 (IntKind.i64.wrap (1+((bR 4 c).1:Int)))),(6,.r (.c (.own (15,0,0))))],[((0,0,0),some (.box [.t (.lst 1 (c1.b.map aQ)),.t (.int .i64 c1.i),.t (.int .i64 c1.h)])),((15,0,0),some (.arr true 4 []))],[15,13,11,10,0]⟩ ?_ ?_ rfl ?_
 ·refine⟨.inl rfl,.inr ⟨_,_,rfl,rfl,rfl,?_⟩,.inr ⟨_,_,rfl,rfl,rfl,?_⟩,.inl rfl,.inl rfl,trivial⟩
  all_goals(intro q hq;simp only[AC.ids,List.mem_cons,List.not_mem_nil,or_false]at hq;subst hq;rfl)
 ·exact⟨.inr rfl,.inr rfl,trivial⟩
 rw[hw]
 repeat' ((conv=>whnf);first|apply Wx|apply W6|apply oi|(apply fi<;>intro h)|refine⟨_,rfl,?_⟩|exact rfl)
 all_goals try exact⟨KP⟩
 conv=>whnf
 refine⟨{q:Nat×HA×List HH // q.1≤n∧q.2.1.ok∧q.2.2.length+(n - q.1) * 200≤800∧q.2.2++(iS n (n - q.1) q.1 q.2.1).1=R∧(iS n (n - q.1) q.1 q.2.1).2=c'},fun q=>⟨[(0,gg),(3,vN nm0),(4,.r (.c (.t (.lst 1 (ar0.map aa))))),(5,tI .i64 (n:Int)),(6,.r (.c (.own (15,0,0)))),(7,tI .i64 (q.1.1:Int))],[((0,0,0),some (.box [.t (.lst 1 (q.1.2.1.b.map aQ)),.t (.int .i64 q.1.2.1.i),.t (.int .i64 q.1.2.1.h)])),((15,0,0),some (.dar 4 (q.1.2.2.map drP) none))],[15,0]⟩,fun q=>n - q.1.1,⟨(0,c1,[]),by dsimp only;omega,o1,by simp;omega,by dsimp only;rw[Nat.sub_zero,hRR];rfl,by dsimp only;rw[Nat.sub_zero,hRR]⟩,?_,?_⟩
 ·skip
  repeat' ((conv=>whnf);first|apply Wx|apply W6|apply oi|(apply fi<;>intro h)|refine⟨_,rfl,?_⟩|exact rfl)
  all_goals try exact⟨KP⟩
  all_goals try exact⟨rfl⟩
 intro⟨⟨k,ci,acc⟩,hi,hci,hal,hr1,hr2⟩
 dsimp only at hi hci hal hr1 hr2 ⊢
 by_cases hlt:k < n
 ·obtain⟨m,hm⟩:∃m,n - k=m+1:=⟨n - k - 1,by omega⟩
  rw[hm]at hr1 hr2 hal
  rw[iS]at hr1 hr2
  dsimp only at hr1 hr2
  obtain⟨s1,_,s3,s4⟩:=Fj (n:=n) (k:=k) hci
  generalize hF:wd n k ci=F at *
  rw[←List.append_assoc]at hr1
  have hlen:(acc++F.1).length+(n - (k+1)) * 200≤800:=by rw[List.length_append];omega
  rw[show m=n - (k+1) by omega]at hr1 hr2
  unfold wd at hF
  dsimp only at hF
  have hk4:k < 4:=by omega
  have hnm:nm0[k]?=some (nmN k):=by
   have:k=0∨k=1∨k=2∨k=3:=by omega
   rcases this with rfl|rfl|rfl|rfl <;> rfl
  have har:ar0[k]?=some (arN k:Int):=by
   have:k=0∨k=1∨k=2∨k=3:=by omega
   rcases this with rfl|rfl|rfl|rfl <;> rfl
  have har2:arN k≤2:=by
   have:k=0∨k=1∨k=2∨k=3:=by omega
   rcases this with rfl|rfl|rfl|rfl <;> decide
  have hw1:IntKind.i64.wrap ((k:Int)+1)=((k+1:Nat):Int):=by rw[IntWalk.i64_in _ (by omega)];omega
  have hnl:(nm0.map ah).length=4:=rfl
  have hal4:(ar0.map aa).length=4:=rfl
  have hfl:flat ([]++List.take (arN k) (arg0.map ah)):=by rw[List.nil_append,←List.map_take];exact eN _
  rcases Nat.eq_zero_or_pos k with hk0|hk0
  ·rw[if_neg (by omega)]at hF
   (try dsimp only at hF)
   have hG:=yD (n:=n) (k:=k) false
   obtain⟨k4,b4,o4,g4⟩:=bM hci 4
   generalize bR 4 ci=t at *
   obtain⟨k5,b5,o5,g5⟩:=bM o4 2
   generalize bR 2 t.2=u at *
   have k4':=k4 (by omega)
   have k5':=k5 (by omega)
   have g6:=yj hG (1+u.1) (1+t.1) u.2 (by omega) (by omega) o5
   have hB:=ng hG (1+u.1)
   have hl:=hB.len (1+t.1) _ o5
   have hk:=hB.ok (1+t.1) _ o5
   have hx:=BA (hB.bl (1+t.1) _ o5)
   have hs:sB (1+u.1)≤21:=by
    have:u.1=0∨u.1=1:=by omega
    rcases this with e|e <;> rw[e] <;> simp[sB]
   have hl2:=Nat.mul_le_mul (show 1+t.1≤4 by omega) hs
   generalize rH (gpV n k false) (1+u.1) (1+t.1) u.2=B at *
   obtain⟨t3,b3,o3,g3⟩:=dT hG hk 3 (by omega)
   generalize exV (gpV n k false) 3 B.2=e at *
   subst hF
   have hnames:Tr.lst 1 ((gpV n k false).names.map ah)=Tr.lst 1 (((nm0.map ah).take n).drop (k+1)):=by simp[gpV,List.map_drop,List.map_take]
   have hars:Tr.lst 1 ((gpV n k false).ars.map aa)=Tr.lst 1 (((ar0.map aa).take n).drop (k+1)):=by simp[gpV,List.map_drop,List.map_take]
   have hvars:[]++List.take (arN k) (arg0.map ah)++([[105],[122]]:List (List UInt8)).map ah=(gpV n k false).vars.map ah:=by simp[gpV,List.map_take]
   have hn1:Tr.int .i64 ((1+t.1:Nat):Int)=Tr.int .i64 (IntKind.i64.wrap (1+(t.1:Int))):=by rw[IntWalk.i64_in _ (by omega)];simp
   have hn2:Tr.int .i64 ((1+u.1:Nat):Int)=Tr.int .i64 (IntKind.i64.wrap (1+(u.1:Int))):=by rw[IntWalk.i64_in _ (by omega)];simp
   repeat' ((conv=>whnf);first|apply Wx|apply W6|apply oi|(apply fi<;>intro h)|refine⟨k,(aa (arN k)),rfl,ab har,?_⟩|refine⟨0,arN k,rfl,rfl,Nat.zero_le _,har2,?_⟩|refine⟨k+1,n,hw1,rfl,by omega,by(rw[hnl];omega),?_⟩|refine⟨k+1,n,hw1,rfl,by omega,by(rw[hal4];omega),?_⟩|refine⟨k,(ah (nmN k)),rfl,ab hnm,?_⟩|refine⟨_,rfl,?_⟩|exact rfl)
   all_goals try exact⟨KP⟩
   all_goals try exact KX
   all_goals try exact⟨har2⟩
   all_goals try exact⟨⟨by simp <;> omega,by simp <;> omega⟩⟩
   all_goals try exact⟨hfl⟩
   refine cg (g4) ?_
   repeat' ((conv=>whnf);first|apply Wx|apply W6|apply oi|(apply fi<;>intro h)|refine⟨_,rfl,?_⟩|exact rfl)
   all_goals try exact⟨KP⟩
   refine cg (g5) ?_
   repeat' ((conv=>whnf);first|apply Wx|apply W6|apply oi|(apply fi<;>intro h)|refine⟨_,rfl,?_⟩|exact rfl)
   all_goals try exact⟨KP⟩
   refine cg (g6) ?_
   repeat' ((conv=>whnf);first|apply Wx|apply W6|apply oi|(apply fi<;>intro h)|refine⟨_,rfl,?_⟩|exact rfl)
   all_goals try exact⟨KP⟩
   all_goals try exact⟨hnames⟩
   all_goals try exact⟨hars⟩
   all_goals try exact⟨hn1⟩
   all_goals try exact⟨hn2⟩
   all_goals try exact⟨hvars⟩
   all_goals try exact⟨⟨by simp <;> omega,by simp <;> omega⟩⟩
   refine cg (g3) ?_
   repeat' ((conv=>whnf);first|apply Wx|apply W6|apply oi|(apply fi<;>intro h)|refine⟨_,rfl,?_⟩|exact rfl)
   all_goals try exact⟨KP⟩
   all_goals try exact⟨aG _⟩
   all_goals try exact⟨⟨by simp <;> omega,by simp <;> omega⟩⟩
   conv=>whnf
   refine⟨⟨(k+1,_,_),by dsimp only;omega,s3,hlen,hr1,hr2⟩,?_,KD⟩
   repeat' ((conv=>whnf);first|apply Wx|apply W6|apply oi|(apply fi<;>intro h)|refine⟨_,rfl,?_⟩|exact rfl)
   all_goals try exact⟨KP⟩
   all_goals try exact⟨KW⟩
   all_goals try exact⟨by simp[drP,mR t3.1,qC,hx,List.map_take,arg0,ah]⟩
  ·rw[if_pos hk0]at hF
   obtain⟨b7,o7,g7⟩:=gk hci 5
   generalize iV 5 ci=o at *
   (try dsimp only at hF)
   cases ho:o.1 with
   | true=>
    rw[ho]at hF g7
    have hG:=yD (n:=n) (k:=k) true
    obtain⟨k4,b4,o4,g4⟩:=bM o7 4
    generalize bR 4 o.2=t at *
    obtain⟨k5,b5,o5,g5⟩:=bM o4 2
    generalize bR 2 t.2=u at *
    have k4':=k4 (by omega)
    have k5':=k5 (by omega)
    have g6:=yj hG (1+u.1) (1+t.1) u.2 (by omega) (by omega) o5
    have hB:=ng hG (1+u.1)
    have hl:=hB.len (1+t.1) _ o5
    have hk:=hB.ok (1+t.1) _ o5
    have hx:=BA (hB.bl (1+t.1) _ o5)
    have hs:sB (1+u.1)≤21:=by
     have:u.1=0∨u.1=1:=by omega
     rcases this with e|e <;> rw[e] <;> simp[sB]
    have hl2:=Nat.mul_le_mul (show 1+t.1≤4 by omega) hs
    generalize rH (gpV n k true) (1+u.1) (1+t.1) u.2=B at *
    obtain⟨t3,b3,o3,g3⟩:=dT hG hk 3 (by omega)
    generalize exV (gpV n k true) 3 B.2=e at *
    subst hF
    have hnames:Tr.lst 1 ((gpV n k true).names.map ah)=Tr.lst 1 (((nm0.map ah).take n).drop (k)):=by simp[gpV,List.map_drop,List.map_take]
    have hars:Tr.lst 1 ((gpV n k true).ars.map aa)=Tr.lst 1 (((ar0.map aa).take n).drop (k)):=by simp[gpV,List.map_drop,List.map_take]
    have hvars:[]++List.take (arN k) (arg0.map ah)++([[105],[122]]:List (List UInt8)).map ah=(gpV n k true).vars.map ah:=by simp[gpV,List.map_take]
    have hn1:Tr.int .i64 ((1+t.1:Nat):Int)=Tr.int .i64 (IntKind.i64.wrap (1+(t.1:Int))):=by rw[IntWalk.i64_in _ (by omega)];simp
    have hn2:Tr.int .i64 ((1+u.1:Nat):Int)=Tr.int .i64 (IntKind.i64.wrap (1+(u.1:Int))):=by rw[IntWalk.i64_in _ (by omega)];simp
    repeat' ((conv=>whnf);first|apply Wx|apply W6|apply oi|(apply fi<;>intro h)|refine⟨k,(aa (arN k)),rfl,ab har,?_⟩|refine⟨0,arN k,rfl,rfl,Nat.zero_le _,har2,?_⟩|refine⟨k+1,n,hw1,rfl,by omega,by(rw[hnl];omega),?_⟩|refine⟨k+1,n,hw1,rfl,by omega,by(rw[hal4];omega),?_⟩|refine⟨k,(ah (nmN k)),rfl,ab hnm,?_⟩|refine⟨_,rfl,?_⟩|exact rfl)
    all_goals try exact⟨KP⟩
    all_goals try exact KX
    all_goals try exact⟨har2⟩
    all_goals try exact⟨⟨by simp <;> omega,by simp <;> omega⟩⟩
    all_goals try exact⟨hfl⟩
    refine cg (g7) ?_
    repeat' ((conv=>whnf);first|apply Wx|apply W6|apply oi|(apply fi<;>intro h)|refine⟨k,(ah (nmN k)),rfl,ab hnm,?_⟩|refine⟨k,n,rfl,rfl,by omega,by(rw[hnl];omega),?_⟩|refine⟨k,n,rfl,rfl,by omega,by(rw[hal4];omega),?_⟩|refine⟨_,rfl,?_⟩|exact rfl)
    all_goals try exact⟨KP⟩
    all_goals try exact KX
    all_goals try exact⟨har2⟩
    all_goals try exact⟨⟨by simp <;> omega,by simp <;> omega⟩⟩
    all_goals try exact⟨hfl⟩
    refine cg (g4) ?_
    repeat' ((conv=>whnf);first|apply Wx|apply W6|apply oi|(apply fi<;>intro h)|refine⟨_,rfl,?_⟩|exact rfl)
    all_goals try exact⟨KP⟩
    refine cg (g5) ?_
    repeat' ((conv=>whnf);first|apply Wx|apply W6|apply oi|(apply fi<;>intro h)|refine⟨_,rfl,?_⟩|exact rfl)
    all_goals try exact⟨KP⟩
    refine cg (g6) ?_
    repeat' ((conv=>whnf);first|apply Wx|apply W6|apply oi|(apply fi<;>intro h)|refine⟨_,rfl,?_⟩|exact rfl)
    all_goals try exact⟨KP⟩
    all_goals try exact⟨hnames⟩
    all_goals try exact⟨hars⟩
    all_goals try exact⟨hn1⟩
    all_goals try exact⟨hn2⟩
    all_goals try exact⟨hvars⟩
    all_goals try exact⟨⟨by simp <;> omega,by simp <;> omega⟩⟩
    refine cg (g3) ?_
    repeat' ((conv=>whnf);first|apply Wx|apply W6|apply oi|(apply fi<;>intro h)|refine⟨_,rfl,?_⟩|exact rfl)
    all_goals try exact⟨KP⟩
    all_goals try exact⟨aG _⟩
    all_goals try exact⟨⟨by simp <;> omega,by simp <;> omega⟩⟩
    conv=>whnf
    refine⟨⟨(k+1,_,_),by dsimp only;omega,s3,hlen,hr1,hr2⟩,?_,KD⟩
    repeat' ((conv=>whnf);first|apply Wx|apply W6|apply oi|(apply fi<;>intro h)|refine⟨_,rfl,?_⟩|exact rfl)
    all_goals try exact⟨KP⟩
    all_goals try exact⟨KW⟩
    all_goals try exact⟨by simp[drP,mR t3.1,qC,hx,List.map_take,arg0,ah]⟩
   | false=>
    rw[ho]at hF g7
    have hG:=yD (n:=n) (k:=k) false
    obtain⟨k4,b4,o4,g4⟩:=bM o7 4
    generalize bR 4 o.2=t at *
    obtain⟨k5,b5,o5,g5⟩:=bM o4 2
    generalize bR 2 t.2=u at *
    have k4':=k4 (by omega)
    have k5':=k5 (by omega)
    have g6:=yj hG (1+u.1) (1+t.1) u.2 (by omega) (by omega) o5
    have hB:=ng hG (1+u.1)
    have hl:=hB.len (1+t.1) _ o5
    have hk:=hB.ok (1+t.1) _ o5
    have hx:=BA (hB.bl (1+t.1) _ o5)
    have hs:sB (1+u.1)≤21:=by
     have:u.1=0∨u.1=1:=by omega
     rcases this with e|e <;> rw[e] <;> simp[sB]
    have hl2:=Nat.mul_le_mul (show 1+t.1≤4 by omega) hs
    generalize rH (gpV n k false) (1+u.1) (1+t.1) u.2=B at *
    obtain⟨t3,b3,o3,g3⟩:=dT hG hk 3 (by omega)
    generalize exV (gpV n k false) 3 B.2=e at *
    subst hF
    have hnames:Tr.lst 1 ((gpV n k false).names.map ah)=Tr.lst 1 (((nm0.map ah).take n).drop (k+1)):=by simp[gpV,List.map_drop,List.map_take]
    have hars:Tr.lst 1 ((gpV n k false).ars.map aa)=Tr.lst 1 (((ar0.map aa).take n).drop (k+1)):=by simp[gpV,List.map_drop,List.map_take]
    have hvars:[]++List.take (arN k) (arg0.map ah)++([[105],[122]]:List (List UInt8)).map ah=(gpV n k false).vars.map ah:=by simp[gpV,List.map_take]
    have hn1:Tr.int .i64 ((1+t.1:Nat):Int)=Tr.int .i64 (IntKind.i64.wrap (1+(t.1:Int))):=by rw[IntWalk.i64_in _ (by omega)];simp
    have hn2:Tr.int .i64 ((1+u.1:Nat):Int)=Tr.int .i64 (IntKind.i64.wrap (1+(u.1:Int))):=by rw[IntWalk.i64_in _ (by omega)];simp
    repeat' ((conv=>whnf);first|apply Wx|apply W6|apply oi|(apply fi<;>intro h)|refine⟨k,(aa (arN k)),rfl,ab har,?_⟩|refine⟨0,arN k,rfl,rfl,Nat.zero_le _,har2,?_⟩|refine⟨k+1,n,hw1,rfl,by omega,by(rw[hnl];omega),?_⟩|refine⟨k+1,n,hw1,rfl,by omega,by(rw[hal4];omega),?_⟩|refine⟨k,(ah (nmN k)),rfl,ab hnm,?_⟩|refine⟨_,rfl,?_⟩|exact rfl)
    all_goals try exact⟨KP⟩
    all_goals try exact KX
    all_goals try exact⟨har2⟩
    all_goals try exact⟨⟨by simp <;> omega,by simp <;> omega⟩⟩
    all_goals try exact⟨hfl⟩
    refine cg (g7) ?_
    repeat' ((conv=>whnf);first|apply Wx|apply W6|apply oi|(apply fi<;>intro h)|refine⟨k,(ah (nmN k)),rfl,ab hnm,?_⟩|refine⟨_,rfl,?_⟩|exact rfl)
    all_goals try exact⟨KP⟩
    all_goals try exact KX
    all_goals try exact⟨har2⟩
    all_goals try exact⟨⟨by simp <;> omega,by simp <;> omega⟩⟩
    all_goals try exact⟨hfl⟩
    refine cg (g4) ?_
    repeat' ((conv=>whnf);first|apply Wx|apply W6|apply oi|(apply fi<;>intro h)|refine⟨_,rfl,?_⟩|exact rfl)
    all_goals try exact⟨KP⟩
    refine cg (g5) ?_
    repeat' ((conv=>whnf);first|apply Wx|apply W6|apply oi|(apply fi<;>intro h)|refine⟨_,rfl,?_⟩|exact rfl)
    all_goals try exact⟨KP⟩
    refine cg (g6) ?_
    repeat' ((conv=>whnf);first|apply Wx|apply W6|apply oi|(apply fi<;>intro h)|refine⟨_,rfl,?_⟩|exact rfl)
    all_goals try exact⟨KP⟩
    all_goals try exact⟨hnames⟩
    all_goals try exact⟨hars⟩
    all_goals try exact⟨hn1⟩
    all_goals try exact⟨hn2⟩
    all_goals try exact⟨hvars⟩
    all_goals try exact⟨⟨by simp <;> omega,by simp <;> omega⟩⟩
    refine cg (g3) ?_
    repeat' ((conv=>whnf);first|apply Wx|apply W6|apply oi|(apply fi<;>intro h)|refine⟨_,rfl,?_⟩|exact rfl)
    all_goals try exact⟨KP⟩
    all_goals try exact⟨aG _⟩
    all_goals try exact⟨⟨by simp <;> omega,by simp <;> omega⟩⟩
    conv=>whnf
    refine⟨⟨(k+1,_,_),by dsimp only;omega,s3,hlen,hr1,hr2⟩,?_,KD⟩
    repeat' ((conv=>whnf);first|apply Wx|apply W6|apply oi|(apply fi<;>intro h)|refine⟨_,rfl,?_⟩|exact rfl)
    all_goals try exact⟨KP⟩
    all_goals try exact⟨KW⟩
    all_goals try exact⟨by simp[drP,mR t3.1,qC,hx,List.map_take,arg0,ah]⟩
 ·have hkn:k=n:=by omega
  subst hkn
  rw[Nat.sub_self]at hr1 hr2
  simp only[iS,List.append_nil]at hr1 hr2
  subst hr1;subst hr2
  dsimp only at hPL
  refine nx ⟨[(0,gg),(5,tI .i64 (k:Int)),(6,.r (.c (.t (.lst 4 ((acc.map drP).map fun x=>x.map DC.tr))))),(7,tI .i64 (k:Int))],[((0,0,0),some (.box [.t (.lst 1 (ci.b.map aQ)),.t (.int .i64 ci.i),.t (.int .i64 ci.h)]))],[15,0]⟩ ?_ ?_ rfl ?_
  ·refine⟨.inl rfl,.inl rfl,.inr ⟨_,_,rfl,rfl,rfl,?_⟩,.inl rfl,trivial⟩
   intro q hq;simp only[AC.ids,List.mem_cons,List.not_mem_nil,or_false]at hq;subst hq;rfl
  ·exact⟨.inr rfl,trivial⟩
  refine rZ 6 rfl (Cy hPL) ?_
  repeat' ((conv=>whnf);first|apply Wx|apply W6|apply oi|(apply fi<;>intro h)|refine⟨_,rfl,?_⟩|exact rfl)
  all_goals try exact⟨KP⟩
  all_goals try exact KX
theorem uJ {l:List HH}(h:∀x∈l,PL x)(hl:l.length≤800):aB 1048576 (.lst 4 (l.map HH.tr)):=by
 refine kC (by omega) fun x hx=>?_
 have hp:=h x hx
 have h1:aB 1048576 (.lst 1 (x.fag.map ah)):=kC (by have:=hp.args.1;omega) fun s hs=>by
  have:=hp.args.2 s hs
  simp only[ah,aK,aB]
  exact⟨by omega,trivial⟩
 have h2:aB 1048576 (.lst 3 (x.fad.map HP.tr)):=kC (by have:=hp.len;omega) fun t ht=>by
  have:=hp.tok t ht
  simp only[HP.tr,aK,aB]
  exact⟨trivial,trivial,by omega,trivial⟩
 have h3:=hp.name
 exact⟨trivial,by simp only[aB];omega,h1,h2,trivial⟩
def fbP:List HH:=[⟨0,[109,97,105,110],[],[]⟩,⟨2,[],[],[⟨0,1,[]⟩]⟩,⟨6,[],[],[⟨0,1,[]⟩]⟩,⟨7,[],[],[]⟩]
theorem GZ:aw fbP=true:=by decide
theorem GS:∀x∈fbP,PL x:=by
 intro x hx
 simp only[fbP,List.mem_cons,List.not_mem_nil,or_false]at hx
 rcases hx with rfl|rfl|rfl|rfl
 all_goals exact⟨by simp,by simp,by simp,by simp,by simp,by simp⟩
noncomputable def je:Nat→HA→List HH×HA
 | 0,c=>(fbP,c)
 | r+1,c=>if aw (ki c).1=true then ki c else je r (ki c).2
theorem zd:∀(r:Nat) (c:HA),c.ok→aw (je r c).1=true∧(je r c).1.length≤800∧(je r c).2.b=c.b∧(je r c).2.ok∧∀x∈(je r c).1,PL x
 | 0,c,hc=>⟨GZ,by simp[je,fbP],rfl,hc,GS⟩
 | r+1,c,hc=>by
  obtain⟨h1,h2,h3,h4⟩:=Ca hc
  rw[je]
  split
  ·rename_i h;exact⟨h,h1,h2,h3,h4⟩
  ·obtain⟨i1,i2,i3,i4,i5⟩:=zd r _ h3
   exact⟨i1,i2,i3.trans h2,i4,i5⟩
theorem Ht:emR [[.int .i64 0,.str [109,97,105,110],.lst 0 [],.lst 0 []],[.int .i64 2,.str [],.lst 0 [],.lst 3 [[.int .i64 0,.int .i64 1,.str []]]],[.int .i64 6,.str [],.lst 0 [],.lst 3 [[.int .i64 0,.int .i64 1,.str []]]],[.int .i64 7,.str [],.lst 0 [],.lst 0 []]] (fbP.map HH.tr):=by
 refine⟨⟨rfl,fun p c d hc hd=>?_⟩,⟨rfl,fun p c d hc hd=>?_⟩,⟨rfl,fun p c d hc hd=>?_⟩,⟨rfl,fun p c d hc hd=>?_⟩,trivial⟩
 all_goals(
  match p with
  | 0=>simp[HH.tr]at hc hd;subst hc;subst hd;exact .inl rfl
  | 1=>simp[HH.tr]at hc hd;subst hc;subst hd;exact .inl rfl
  | 2=>simp[HH.tr]at hc hd;subst hc;subst hd;exact .inr ⟨_,_,rfl,rfl⟩
  | 3=>simp[HH.tr,HP.tr]at hc hd;subst hc;subst hd;first|exact .inl rfl|exact .inr ⟨_,_,rfl,rfl⟩
  | p+4=>simp at hc)
theorem qo (c:HA)(hc:c.ok):aV Tryz.prog 70 [gg] (eQ c) (.r (.c (.t (.lst 4 ((je 5 c).1.map HH.tr))))) (eQ (je 5 c).2):=by
 refine aj hΓ ay Tryz.func70 rfl (by decide) rfl rfl ?_
 generalize hR:je 5 c=R at *
 repeat' ((conv=>whnf);first|apply Wx|apply W6|apply oi|(apply fi<;>intro h)|refine⟨_,rfl,?_⟩|exact rfl)
 all_goals try exact⟨KP⟩
 conv=>whnf
 refine⟨{q:Nat×HA // q.1≤5∧q.2.ok∧je (5 - q.1) q.2=R},fun q=>⟨[(0,gg),(3,tI .i64 (q.1.1:Int))],[((0,0,0),some (.box [.t (.lst 1 (q.1.2.b.map aQ)),.t (.int .i64 q.1.2.i),.t (.int .i64 q.1.2.h)]))],[0]⟩,fun q=>5 - q.1.1,⟨(0,c),by dsimp only;omega,hc,hR⟩,?_,?_⟩
 ·skip
  repeat' ((conv=>whnf);first|apply Wx|apply W6|apply oi|(apply fi<;>intro h)|refine⟨_,rfl,?_⟩|exact rfl)
  all_goals try exact⟨KP⟩
 intro⟨⟨k,ci⟩,hi,hci,hr⟩
 dsimp only at hi hci hr ⊢
 by_cases hlt:k < 5
 ·obtain⟨m,hm⟩:∃m,5 - k=m+1:=⟨5 - k - 1,by omega⟩
  rw[hm,je]at hr
  have gP:=oW ci hci
  obtain⟨h1,h2,h3,h4⟩:=Ca hci
  have hO:=dF (ki ci).1 (uJ h4 h1)
  generalize ki ci=Q at *
  cases hq:aw Q.1 with
  | true=>
   rw[if_pos hq]at hr
   subst hr
   rw[hq]at hO
   repeat' ((conv=>whnf);first|apply Wx|apply W6|apply oi|(apply fi<;>intro h)|refine⟨_,rfl,?_⟩|exact rfl)
   all_goals try exact⟨KP⟩
   refine cg (gP) ?_
   repeat' ((conv=>whnf);first|apply Wx|apply W6|apply oi|(apply fi<;>intro h)|refine cl hO ?_|refine⟨_,rfl,?_⟩|exact rfl)
   all_goals try exact⟨KP⟩
   all_goals try exact KX
  | false=>
   rw[if_neg (by simp[hq])]at hr
   rw[hq]at hO
   repeat' ((conv=>whnf);first|apply Wx|apply W6|apply oi|(apply fi<;>intro h)|refine⟨_,rfl,?_⟩|exact rfl)
   all_goals try exact⟨KP⟩
   refine cg (gP) ?_
   repeat' ((conv=>whnf);first|apply Wx|apply W6|apply oi|(apply fi<;>intro h)|refine cl hO ?_|refine⟨_,rfl,?_⟩|exact rfl)
   all_goals try exact⟨KP⟩
   all_goals try exact KX
   conv=>whnf
   refine⟨⟨(k+1,Q.2),by dsimp only;omega,h3,by dsimp only;rw[show 5 - (k+1)=m by omega];exact hr⟩,?_,KD⟩
   repeat' ((conv=>whnf);first|apply Wx|apply W6|apply oi|(apply fi<;>intro h)|refine⟨_,rfl,?_⟩|exact rfl)
   all_goals try exact⟨KP⟩
   all_goals try exact⟨KW⟩
 ·have hk:k=5:=by omega
  subst hk
  rw[show(5:Nat) - 5=0 from rfl,je]at hr
  subst hr
  repeat' ((conv=>whnf);first|(with_reducible apply W1;fail_if_success (with_reducible show Wo _ _ _ _ (Code.region 8 _ _) _ _))|(with_reducible first|apply W2|apply W3|apply W4|apply W5|apply W6|apply W7|apply W8|apply W9)|apply bh|apply oi|(apply fi<;>intro h)|refine⟨_,rfl,?_⟩|exact rfl)
  all_goals try exact⟨KP⟩
  all_goals try exact KX
  conv=>whnf
  refine nx ⟨[(5,.r (.c (.t (.lst 3 [[.int .i64 0,.int .i64 1,.str []]]))))],[((0,0,0),some (.box [.t (.lst 1 (ci.b.map aQ)),.t (.int .i64 ci.i),.t (.int .i64 ci.h)]))],[16,0]⟩ ?_ ?_ rfl ?_
  ·refine⟨.inr ⟨_,_,rfl,rfl,rfl,?_⟩,trivial⟩
   intro q hq;simp only[AC.ids,List.mem_cons,List.not_mem_nil,or_false]at hq;subst hq;rfl
  ·exact⟨.inr rfl,trivial⟩
  repeat' ((conv=>whnf);first|(with_reducible first|apply W1|apply W2)|apply bh|refine oi ?_ ?_|refine⟨_,rfl,?_⟩|exact rfl)
  all_goals try exact⟨KP⟩
  conv=>whnf
  refine nx ⟨[(2,.r (.c (.t (.lst 4 [[.int .i64 0,.str [109,97,105,110],.lst 0 [],.lst 0 []],[.int .i64 2,.str [],.lst 0 [],.lst 3 [[.int .i64 0,.int .i64 1,.str []]]],[.int .i64 6,.str [],.lst 0 [],.lst 3 [[.int .i64 0,.int .i64 1,.str []]]],[.int .i64 7,.str [],.lst 0 [],.lst 0 []]]))))],[((0,0,0),some (.box [.t (.lst 1 (ci.b.map aQ)),.t (.int .i64 ci.i),.t (.int .i64 ci.h)]))],[23,16,0]⟩ ?_ ?_ rfl ?_
  ·refine⟨.inr ⟨_,_,rfl,rfl,rfl,?_⟩,trivial⟩
   intro q hq;simp only[AC.ids,List.mem_cons,List.not_mem_nil,or_false]at hq;subst hq;rfl
  ·exact⟨.inr rfl,trivial⟩
  refine rZ 2 rfl Ht ?_
  repeat' ((conv=>whnf);first|apply Wx|apply W6|apply oi|(apply fi<;>intro h)|refine⟨_,rfl,?_⟩|exact rfl)
  all_goals try exact⟨KP⟩
abbrev Hm (code:List UInt8):AV:= .r (.c (.t (.lst 1 (code.map aQ))))
theorem FM {code:List UInt8}(hl:code.length≤1048576):(⟨code,0,DU code⟩:HA).ok:=⟨by simp,hl⟩
theorem CL {rows:List (List Tr)}(h:∀r∈rows,∃n,r=[.int .u8 n]∧(Lit.int .u8 n).wf=true):∃bs:List UInt8,rows=bs.map aQ:=by
 obtain⟨bs,hb,_⟩:=Aj (g:=aQ) (Q:=fun _=>True) (rows:=rows) fun r hr=>by
  obtain⟨n,rfl,hw⟩:=h r hr
  have h1:IntKind.u8.min≤n∧n≤IntKind.u8.max:=by simpa [Lit.wf]using hw
  have h2:0≤n∧n≤255:=h1
  refine⟨UInt8.ofNat n.toNat,?_,trivial⟩
  rw[aQ,show(UInt8.ofNat n.toNat).toNat=n.toNat by simp;omega,Int.toNat_of_nonneg h2.1]
 exact⟨bs,hb⟩
def dm (c:HA):HA:=⟨c.b,if c.i < c.b.length then c.i+1 else c.i,gR c.h⟩
def iq (c:HA):Nat:=match c.b[c.i]? with
 | some u=>(byN (gR c.h)+u.toNat) % 256
 | none=>byN (gR c.h)
theorem jk {c:HA}(h:c.ok):(dm c).ok:=⟨by have:=h.1;unfold dm;dsimp only;split <;> omega,h.2⟩
theorem tx (c:HA):iq c < 256:=by
 unfold iq
 split
 ·omega
 ·exact Ec _
theorem EM (n:Nat):IntKind.i64.wrap ((BitVec.ofInt IntKind.i64.bits (IntKind.i64.wrap (n:Int)) &&& BitVec.ofInt IntKind.i64.bits 255).toNat:Int)=((n % 256:Nat):Int):=by
 show IntKind.i64.wrap (((BitVec.ofInt 64 (IntKind.i64.wrap (n:Int)) &&& BitVec.ofInt 64 255).toNat:Nat):Int)=_
 rw[DZ]
 have hw:IntKind.i64.wrap (n:Int) % 256=(n:Int) % 256:=by
  unfold IntKind.wrap
  simp[IntKind.bits,IntKind.signed]
  split <;> omega
 rw[hw,IntWalk.i64_in _ (by omega)]
 omega
theorem ga (c:HA)(hc:c.ok):aV Tryz.prog 203 [gg] (eQ c) (tI .i64 (iq c)) (eQ (dm c)):=by
 obtain⟨hi,hl⟩:=hc
 have hbl:(c.b.map aQ).length=c.b.length:=by simp
 have he0:=GV (gR c.h)
 have hlt8:=Ec (gR c.h)
 unfold iq dm
 generalize hx:byN (gR c.h)=x0 at *
 unfold byW gR at he0
 unfold gR
 by_cases hlt:c.i < c.b.length
 ·obtain⟨u,hu⟩:=ae hlt
  have hu8:=u.toNat_lt
  have he:=EM (x0+u.toNat)
  rw[hu,if_pos hlt]
  dsimp only
  refine aj hΓ ay Tryz.func203 rfl (by decide) rfl rfl ?_
  repeat' ((conv=>whnf);first|apply Wx|apply W6|apply oi|(apply fi<;>intro h)|refine⟨c.i,(aQ u),rfl,ab hu,?_⟩|refine⟨_,rfl,?_⟩|exact rfl)
  all_goals try exact⟨KP⟩
  all_goals try exact KX
  all_goals try exact⟨congrArg (Tr.int _) (by rw[he0,IntWalk.i64_in (u.toNat:Int) (by omega)];exact he)⟩
  all_goals exact⟨by rw[IntWalk.i64_in _ (by omega)];rfl⟩
 ·rw[List.getElem?_eq_none (by omega),if_neg hlt]
  dsimp only
  refine aj hΓ ay Tryz.func203 rfl (by decide) rfl rfl ?_
  repeat' ((conv=>whnf);first|apply Wx|apply W6|apply oi|(apply fi<;>intro h)|refine⟨_,rfl,?_⟩|exact rfl)
  all_goals try exact⟨KP⟩
  all_goals try exact KX
  all_goals try exact⟨congrArg (Tr.int _) he0⟩
  all_goals exact⟨rfl⟩
theorem vX (c:HA)(n:Nat)(hc:c.ok)(h0:0 < n)(h1:n≤256):aV Tryz.prog 146 [gg,tI .i64 (n:Int)] (eQ c) (tI .i64 ((iq c % n:Nat):Int)) (eQ (dm c)):=by
 have g1:=ga c hc
 have hm:((iq c:Nat):Int).tmod (n:Int)=((iq c % n:Nat):Int):=by rw[Int.tmod_eq_emod_of_nonneg (by omega)];rfl
 refine aj hΓ ay Tryz.func146 rfl (by decide) rfl rfl ?_
 repeat' ((conv=>whnf);first|apply Wx|apply W6|refine cg g1 ?_|apply oi|(apply fi<;>intro h)|refine⟨_,rfl,?_⟩|exact rfl)
 all_goals try exact⟨KP⟩
 all_goals try exact KX
 all_goals try exact⟨by omega⟩
 all_goals exact⟨congrArg (Tr.int _) hm⟩
theorem nH (c:HA)(n:Int)(hc:c.ok)(h:256 < n):∃y:Nat,(y:Int) < n∧aV Tryz.prog 146 [gg,tI .i64 n] (eQ c) (tI .i64 (y:Int)) (eQ (dm (dm (dm (dm c))))):=by
 have g1:=ga c hc
 have g2:=ga _ (jk hc)
 have g3:=ga _ (jk (jk hc))
 have g4:=ga _ (jk (jk (jk hc)))
 have k1:=tx c
 have k2:=tx (dm c)
 have k3:=tx (dm (dm c))
 have k4:=tx (dm (dm (dm c)))
 generalize iq c=x1 at *
 generalize iq (dm c)=x2 at *
 generalize iq (dm (dm c))=x3 at *
 generalize iq (dm (dm (dm c)))=x4 at *
 obtain⟨y,hy,hm⟩:=oD (x:=x1 * 16777216+x2 * 65536+x3 * 256+x4) (n:=n) (by omega)
 refine⟨y,hy,?_⟩
 refine aj hΓ ay Tryz.func146 rfl (by decide) rfl rfl ?_
 repeat' ((conv=>whnf);first|apply Wx|apply W6|apply oi|(apply fi<;>intro h)|refine⟨_,rfl,?_⟩|exact rfl)
 all_goals try exact⟨KP⟩
 all_goals try exact KX
 refine cg (g1) ?_
 repeat' ((conv=>whnf);first|apply Wx|apply W6|apply oi|(apply fi<;>intro h)|refine⟨_,rfl,?_⟩|exact rfl)
 all_goals try exact⟨KP⟩
 refine cg (g2) ?_
 repeat' ((conv=>whnf);first|apply Wx|apply W6|apply oi|(apply fi<;>intro h)|refine⟨_,rfl,?_⟩|exact rfl)
 all_goals try exact⟨KP⟩
 refine cg (g3) ?_
 repeat' ((conv=>whnf);first|apply Wx|apply W6|apply oi|(apply fi<;>intro h)|refine⟨_,rfl,?_⟩|exact rfl)
 all_goals try exact⟨KP⟩
 refine cg (g4) ?_
 repeat' ((conv=>whnf);first|apply Wx|apply W6|apply oi|(apply fi<;>intro h)|refine⟨_,rfl,?_⟩|exact rfl)
 all_goals try exact⟨KP⟩
 all_goals try exact⟨by omega⟩
 all_goals(
  have hw:IntKind.i64.wrap (IntKind.i64.wrap (IntKind.i64.wrap (IntKind.i64.wrap ((x1:Int) * 16777216)+IntKind.i64.wrap ((x2:Int) * 65536))+IntKind.i64.wrap ((x3:Int) * 256))+(x4:Int))=((x1 * 16777216+x2 * 65536+x3 * 256+x4:Nat):Int):=by
   rw[IntWalk.i64_in ((x1:Int) * 16777216) (by omega),IntWalk.i64_in ((x2:Int) * 65536) (by omega),IntWalk.i64_in ((x3:Int) * 256) (by omega),IntWalk.i64_in ((x1:Int) * 16777216+(x2:Int) * 65536) (by omega),IntWalk.i64_in ((x1:Int) * 16777216+(x2:Int) * 65536+(x3:Int) * 256) (by omega),IntWalk.i64_in _ (by omega)]
   omega
  exact⟨by rw[hw,hm]⟩)
theorem pa (c:HA)(ns:List Int)(hc:c.ok)(hp:0 < ns.length)(hl:ns.length≤256):aV Tryz.prog 147 [gg,.r (.c (.own (0,0,1)))] (eQ c++[((0,0,1),.arr false 1 (ns.map aa))]) (tI .i64 (ns[iq c % ns.length]?.getD 0)) (eQ (dm c)++[((0,0,1),.arr false 1 (ns.map aa))]):=by
 have hlen:(ns.map aa).length=ns.length:=by simp
 have g1:=vX c (ns.map aa).length hc (by omega) (by omega)
 rw[hlen]at g1
 have hx:iq c % ns.length < ns.length:=Nat.mod_lt _ hp
 obtain⟨v,hv⟩:=ae hx
 have hxl:iq c % ns.length < (ns.map aa).length:=by rw[hlen];exact hx
 rw[hv]
 refine aj hΓ ay Tryz.func147 rfl (by decide) rfl rfl ?_
 rw[←hlen]at g1
 repeat' ((conv=>whnf);first|apply Wx|apply W6|refine cg g1 ?_|apply oi|(apply fi<;>intro h)|refine⟨(iq c % ns.length),(by rw[hlen]),hxl,?_⟩|refine⟨(aa v),ab hv,?_⟩|refine⟨_,rfl,?_⟩|exact rfl)
 all_goals try exact⟨KP⟩
def itC:Nat→HA→HA
 | 0,c=>c
 | n+1,c=>itC n (dm c)
theorem tp:∀(n m:Nat) (c:HA),itC (n+m) c=itC m (itC n c)
 | 0,m,c=>by rw[Nat.zero_add,itC]
 | n+1,m,c=>by rw[show n+1+m=(n+m)+1 by omega,itC,itC,tp n m]
theorem vd:∀(n:Nat) {c:HA},c.ok→(itC n c).ok
 | 0,_,h=>h
 | n+1,c,h=>by rw[itC];exact vd n (jk h)
theorem Gv:∀(n:Nat) (c:HA),(itC n c).b=c.b
 | 0,_=>rfl
 | n+1,c=>by rw[itC,Gv n];rfl
theorem Gl:∀(n:Nat) (c:HA),(itC n c).h=itH n c.h
 | 0,_=>rfl
 | n+1,c=>by rw[itC,Gl n,itH];rfl
theorem Gr:∀(n:Nat) (c:HA),c.i≤c.b.length→(itC n c).i=min (c.i+n) c.b.length
 | 0,c,h=>by rw[itC];omega
 | n+1,c,h=>by
  have h2:(dm c).i≤(dm c).b.length:=by unfold dm;dsimp only;split <;> omega
  rw[itC,Gr n _ h2]
  unfold dm
  dsimp only
  split <;> omega
def sk (c:HA):Prop:=iq (itC 5 c) % 3=2
theorem Bm (c:HA)(h:c.ok):∃k,sk (itC (6 * k) c):=by
 obtain⟨k,hk,h2⟩:=Dy c.h (c.b.length+1)
 obtain⟨j,rfl⟩:∃j,k=j+1:=⟨k - 1,by omega⟩
 refine⟨j,?_⟩
 unfold sk
 rw[←tp]
 have hi:=Gr (6 * j+5) c h.1
 have hb:=Gv (6 * j+5) c
 unfold iq
 rw[hb,List.getElem?_eq_none (by rw[hi];omega),Gl]
 dsimp only
 have e:gR (itH (6 * j+5) c.h)=itH (6 * (j+1)) c.h:=(lf (6 * j+5) 1 c.h).symm
 rw[e]
 exact h2
structure SpOk (p:List HH) (b:Hz) (first second:Int):Prop where
 small:aB 1048576 (.lst 4 (p.map HH.tr))
 prog:aw p=true
 build:aJ b=true
 fb:1≤first∧first≤9000
 sb:20000≤second∧second≤1000000
 space:eL (cQ p b first second)=true
noncomputable abbrev spH (p:List HH) (b:Hz) (first second:Int):List (Sim.Id×AO):=[((1,0,0),.arr true 2 [(ag p b 0).tr,(ag p b 1).tr]),((1,0,1),.arr true 1 [aa first,aa second]),((1,0,2),.arr true 1 ((entries p b first second).map aa))]
noncomputable def yC (c:HA):Nat:=open Classical in if h:c.ok then Classical.choose (nH c 9000 h (by omega))else 0
theorem BW {c:HA}(h:c.ok):(yC c:Int) < 9000∧aV Tryz.prog 146 [gg,tI .i64 9000] (eQ c) (tI .i64 (yC c:Int)) (eQ (itC 4 c)):=by
 rw[yC,dif_pos h]
 exact Classical.choose_spec (nH c 9000 h (by omega))
noncomputable abbrev fL (c:HA):List Int:=[1,100,5000,1+(yC c:Int)]
abbrev sL:List Int:=[20000,60000,1000000]
noncomputable def ip (c:HA):Int:=(fL c)[iq (itC 4 c) % (fL c).length]?.getD 0
def er (c:HA):Int:=sL[iq (itC 5 c) % sL.length]?.getD 0
theorem nu {c:HA}(h:c.ok):1≤ip c∧ip c≤9000:=by
 have hy:=(BW h).1
 unfold ip
 have:iq (itC 4 c) % (fL c).length < 4:=Nat.mod_lt _ (by simp)
 generalize iq (itC 4 c) % (fL c).length=k at *
 rcases(show k=0∨k=1∨k=2∨k=3 by omega)with rfl|rfl|rfl|rfl
 all_goals(simp;try omega)
theorem uB (c:HA):20000≤er c∧er c≤1000000:=by
 unfold er
 have:iq (itC 5 c) % sL.length < 3:=Nat.mod_lt _ (by decide)
 generalize iq (itC 5 c) % sL.length=k at *
 rcases(show k=0∨k=1∨k=2 by omega)with rfl|rfl|rfl
 all_goals simp
theorem qp {c:HA}(h:sk c):er c=1000000:=by
 unfold er sk at *
 rw[show sL.length=3 from rfl,h]
 rfl
noncomputable def kG (p:List HH) (b:Hz):Nat→HA→Int×Int×HA
 | 0,c=>(ip c,er c,itC 6 c)
 | n+1,c=>if(dy p b (ip c) (er c)).isSome=true then(ip c,er c,itC 6 c)else kG p b n (itC 6 c)
theorem zu {p:List HH}{b:Hz}(hs:aB 1048576 (.lst 4 (p.map HH.tr)))(h1:aw p=true)(h2:aJ b=true):∀(n:Nat) (c:HA),c.ok→sk (itC (6 * n) c)→(1≤(kG p b n c).1∧(kG p b n c).1≤9000)∧(20000≤(kG p b n c).2.1∧(kG p b n c).2.1≤1000000)∧(dy p b (kG p b n c).1 (kG p b n c).2.1).isSome=true
 | 0,c,hc,hg=>by
  refine⟨nu hc,uB c,?_⟩
  rw[kG]
  dsimp only
  rw[qp (show sk c from hg),vt hs h1 h2 (nu hc) (by omega)]
  rfl
 | n+1,c,hc,hg=>by
  rw[kG]
  split
  ·exact⟨nu hc,uB c,by assumption⟩
  ·refine zu hs h1 h2 n _ (vd 6 hc) ?_
   rw[←tp,show 6+6 * n=6 * (n+1) by omega]
   exact hg
theorem Ay {p:List HH}{b:Hz}{first second:Int}(h:(dy p b first second).isSome=true):aw p=true∧aJ b=true∧eL (cQ p b first second)=true∧dy p b first second=some (cQ p b first second):=by
 unfold dy at *
 split at h
 ·rename_i hc;exact⟨hc.1,hc.2.1,hc.2.2,by rw[if_pos hc]⟩
 ·cases h
theorem sU (c:HA)(hc:c.ok):∃(p:List HH) (b:Hz) (first second:Int) (c':HA),SpOk p b first second∧aV Tryz.prog 90 [gg] (eQ c) (.tup [.c (.t (.lst 4 (p.map HH.tr))),.agg (b.tr.map .t),.agg [.own (1,0,0),.own (1,0,1),.own (1,0,2)]]) (eQ c'++spH p b first second):=by
 have g1:=qo c hc
 obtain⟨q1,q2,q3,q4,q5⟩:=zd 5 c hc
 generalize je 5 c=R0 at *
 obtain⟨p,c1⟩:=R0
 dsimp only at *
 obtain⟨b,c2,hb,_,o2,g2⟩:=sP c1 q4
 have hs:=uJ q5 q2
 obtain⟨K,hK⟩:=Bm c2 o2
 obtain⟨r1,r2,r3⟩:=zu hs q1 hb K c2 o2 hK
 obtain⟨_,_,s3,s4⟩:=Ay r3
 obtain⟨R,hR⟩:∃R,kG p b K c2=R:=⟨_,rfl⟩
 rw[hR]at r1 r2 r3 s3 s4
 refine⟨p,b,R.1,R.2.1,R.2.2,⟨hs,q1,hb,r1,r2,s3⟩,?_⟩
 refine aj hΓ ay Tryz.func90 rfl (by decide) rfl rfl ?_
 repeat' ((conv=>whnf);first|apply Wx|apply W6|apply oi|(apply fi<;>intro h)|refine⟨_,rfl,?_⟩|exact rfl)
 all_goals try exact⟨KP⟩
 refine cg (g1) ?_
 repeat' ((conv=>whnf);first|apply Wx|apply W6|apply oi|(apply fi<;>intro h)|refine⟨_,rfl,?_⟩|exact rfl)
 all_goals try exact⟨KP⟩
 refine cg (g2) ?_
 repeat' ((conv=>whnf);first|apply Wx|apply W6|apply oi|(apply fi<;>intro h)|refine⟨_,rfl,?_⟩|exact rfl)
 all_goals try exact⟨KP⟩
 conv=>whnf
 refine⟨{q:Nat×HA // q.2.ok∧sk (itC (6 * q.1) q.2)∧kG p b q.1 q.2=R},fun q=>⟨[(0,gg),(3,.r (.c (.ptr (3,0,0) 0))),(4,.r (.c (.ptr (4,0,0) 0))),(5,vP p),(6,.r (.c (.ptr (6,0,0) 0)))],[((0,0,0),some (.box [.t (.lst 1 (q.1.2.b.map aQ)),.t (.int .i64 q.1.2.i),.t (.int .i64 q.1.2.h)])),((3,0,0),some (.box [.t (.int .i64 0),.t (.int .i64 0),.t (.bool false),.t (.bool false)])),((4,0,0),some (.box [.nils 0,.nils 0,.nils 0])),((6,0,0),some (.box (b.tr.map .t)))],[6,4,3,0]⟩,fun q=>q.1.1,⟨(K,c2),o2,hK,hR⟩,?_,?_⟩
 ·skip
  repeat' ((conv=>whnf);first|apply Wx|apply W6|apply oi|(apply fi<;>intro h)|refine⟨_,rfl,?_⟩|exact rfl)
  all_goals try exact⟨KP⟩
 intro⟨⟨n,ci⟩,hci,hg,hr⟩
 dsimp only at hci hg hr ⊢
 obtain⟨hy,gy⟩:=BW hci
 have gf:=pa (itC 4 ci) (fL ci) (vd 4 hci) (by simp) (by simp)
 have gs:=pa (itC 5 ci) sL (vd 5 hci) (by decide) (by decide)
 have hL:=qL p b (ip ci) (er ci) hs
 rw[show(fL ci)[iq (itC 4 ci) % (fL ci).length]?.getD 0=ip ci from rfl]at gf
 rw[show sL[iq (itC 5 ci) % sL.length]?.getD 0=er ci from rfl]at gs
 have n4:dm (itC 4 ci)=itC 5 ci:=rfl
 have n5:dm (itC 5 ci)=itC 6 ci:=rfl
 rw[n4]at gf
 rw[n5]at gs
 have hw1:IntKind.i64.wrap (1+(yC ci:Int))=1+(yC ci:Int):=IntWalk.i64_in _ (by omega)
 cases hl:dy p b (ip ci) (er ci)with
 | some sp=>
  have hl2:(dy p b (ip ci) (er ci)).isSome=true:=by rw[hl];rfl
  have hRe:R=(ip ci,er ci,itC 6 ci):=by
   rw[←hr]
   cases n with
   | zero=>rfl
   | succ n=>rw[kG,if_pos hl2]
  subst hRe
  dsimp only at s4 ⊢
  rw[hl]at hL s4
  injection s4 with s4
  subst s4
  simp only[oSp,cQ]at hL
  repeat' ((conv=>whnf);first|apply Wx|apply W6|apply oi|(apply fi<;>intro h)|refine⟨_,rfl,?_⟩|exact rfl)
  all_goals try exact⟨KP⟩
  refine cg (gy) ?_
  repeat' ((conv=>whnf);first|apply Wx|apply W6|apply oi|(apply fi<;>intro h)|refine⟨_,rfl,?_⟩|exact rfl)
  all_goals try exact⟨KP⟩
  refine cg (gf) ?_
  repeat' ((conv=>whnf);first|apply Wx|apply W6|apply oi|(apply fi<;>intro h)|refine⟨_,rfl,?_⟩|exact rfl)
  all_goals try exact⟨KP⟩
  all_goals try exact⟨by rw[hw1];rfl⟩
  refine cg (gs) ?_
  repeat' ((conv=>whnf);first|apply Wx|apply W6|apply oi|(apply fi<;>intro h)|refine cl hL ?_|refine⟨_,rfl,?_⟩|exact rfl)
  all_goals try exact⟨KP⟩
 | none=>
  have hl2:¬(dy p b (ip ci) (er ci)).isSome=true:=by rw[hl];simp
  cases n with
  | zero=>
   rw[qp (show sk ci from hg),vt hs q1 hb (nu hci) (by omega)]at hl
   cases hl
  | succ n=>
   rw[kG,if_neg hl2]at hr
   rw[hl]at hL
   repeat' ((conv=>whnf);first|apply Wx|apply W6|apply oi|(apply fi<;>intro h)|refine⟨_,rfl,?_⟩|exact rfl)
   all_goals try exact⟨KP⟩
   refine cg (gy) ?_
   repeat' ((conv=>whnf);first|apply Wx|apply W6|apply oi|(apply fi<;>intro h)|refine⟨_,rfl,?_⟩|exact rfl)
   all_goals try exact⟨KP⟩
   refine cg (gf) ?_
   repeat' ((conv=>whnf);first|apply Wx|apply W6|apply oi|(apply fi<;>intro h)|refine⟨_,rfl,?_⟩|exact rfl)
   all_goals try exact⟨KP⟩
   all_goals try exact⟨by rw[hw1];rfl⟩
   refine cg (gs) ?_
   repeat' ((conv=>whnf);first|apply Wx|apply W6|apply oi|(apply fi<;>intro h)|refine cl hL ?_|refine⟨_,rfl,?_⟩|exact rfl)
   all_goals try exact⟨KP⟩
   all_goals try exact KX
   conv=>whnf
   refine⟨⟨(n,itC 6 ci),vd 6 hci,by dsimp only;rw[←tp,show 6+6 * n=6 * (n+1) by omega];exact hg,hr⟩,?_,KD⟩
   repeat' ((conv=>whnf);first|apply Wx|apply W6|apply oi|(apply fi<;>intro h)|refine⟨_,rfl,?_⟩|exact rfl)
   all_goals try exact⟨KP⟩
theorem qP (code:List UInt8)(hl:code.length≤1048576):∃(p:List HH) (b:Hz) (first second:Int),SpOk p b first second∧
  aV Tryz.prog 21 [Hm code] [] (.tup [.c (.t (.lst 4 (p.map HH.tr))),.agg (b.tr.map .t),.agg [.own (1,0,0),.own (1,0,1),.own (1,0,2)]]) (spH p b first second):=by
 have g0:=vZ code hl
 obtain⟨p,b,first,second,c',hok,g1⟩:=sU _ (FM hl)
 refine⟨p,b,first,second,hok,?_⟩
 refine aj hΓ ay Tryz.func21 rfl (by decide) rfl rfl ?_
 repeat' ((conv=>whnf);first|apply Wx|apply W6|apply oi|(apply fi<;>intro h)|refine⟨_,rfl,?_⟩|exact rfl)
 all_goals try exact⟨KP⟩
 refine cg (g0) ?_
 repeat' ((conv=>whnf);first|apply Wx|apply W6|apply oi|(apply fi<;>intro h)|refine⟨_,rfl,?_⟩|exact rfl)
 all_goals try exact⟨KP⟩
 refine cg (g1) ?_
 repeat' ((conv=>whnf);first|apply Wx|apply W6|apply oi|(apply fi<;>intro h)|refine⟨_,rfl,?_⟩|exact rfl)
 all_goals try exact⟨KP⟩
structure StartAt (p:List HH) (b:Hz) (f i:Nat) (x:Nat×List HK):Prop where
 at_:(imL p b (cA b f))[i]?=some x
 fn:x.1=f
 start:bt p b f=((ao (aC ((imL p b (cA b f)).take i))).length:Int)
theorem lk {p:List HH}{b:Hz}{f:Nat}(hf:f < (ak p).length):∃i x,StartAt p b f i x:=by
 have hi:=gW b f
 obtain⟨s,hs⟩:=ll (f:=f) (a:=0) ((imgL_mem (p:=p) (b:=b) (image:=cA b f) (n:=(ak p).length) (f:=0) (at0:=0) (g:=f)).2 ⟨by omega,by omega,(qQ hi).2 rfl⟩)
 obtain⟨i,x,h1,h2,h3⟩:=vm hs
 refine⟨i,x,h1,h2,?_⟩
 rw[bt,show imL p b (cA b f)=bZ p b (cA b f) (ak p).length 0 0 from rfl,hs]
 show s=_
 omega
theorem rg {L:List (Nat×List HK)}{i:Nat}{x:Nat×List HK}(h:L[i]?=some x):aC L=aC (L.take i)++(x.2++aC (L.drop (i+1))):=by
 have e:L=L.take i++x::L.drop (i+1):=by rw[←dq h,List.take_append_drop]
 conv=>lhs;rw[e]
 simp[aC]
theorem rM {L:List (Nat×List HK)}{i j:Nat}{x:Nat×List HK}(h:L[i]?=some x)(hij:i < j)(hx:0 < (ao x.2).length):(ao (aC (L.take i))).length < (ao (aC (L.take j))).length:=by
 have h2:(L.take j)[i]?=some x:=by rw[List.getElem?_take,if_pos hij];exact h
 have e:=rg h2
 rw[List.take_take,Nat.min_eq_left (by omega)]at e
 rw[e,aH,aH,List.length_append,List.length_append]
 omega
section
variable {p:List HH} {b:Hz}
theorem sZ (hs:aB 1048576 (.lst 4 (p.map HH.tr)))(h1:aw p=true)(h2:aJ b=true){f i:Nat}{x:Nat×List HK}(h:StartAt p b f i x):
  0 < (ao x.2).length∧∃(o:HJ) (z:Nat),ck (ag p b (cA b f)).fab (bt p b f)=some (o,z)∧(o.fab=13∨o.fab=15):=by
 have h3:af (cA b f) 0 1=true:=by have:=gW b f;rw[within_iff];omega
 obtain⟨g1,g2,g3⟩:=h
 obtain⟨y,hy⟩:=ae (mT hs h1 h2 (by omega) g1).2.2
 have hp:=(kO hs h1 h2 g1 hy).1
 have hsz:=AJ hp.op
 have hel:=fH hp.op
 have hpos:0 < (ao x.2).length:=by
  obtain⟨c,l⟩:=x
  cases l with
  | nil=>simp at hy
  | cons a l=>
   simp only[List.getElem?_cons_zero,Option.some.injEq]at hy
   subst hy
   rw[show ao (a::l)=aS a.fai.fae++ao l by simp[ao],List.length_append]
   omega
 refine⟨hpos,y.fai.fae,(aN y.fai.fae.fab).toNat,?_,(hp.head rfl).1⟩
 have hopAll:∀z∈x.2,cW z.fai.fae.fab z.fai.fae.fak=true:=fun z hz=>by
  obtain⟨j,hj⟩:=List.mem_iff_getElem?.1 hz
  exact(kO hs h1 h2 g1 hj).1.op
 have hd:=Al hopAll hy (ao (aC ((imL p b (cA b f)).take i))) (ao (aC ((imL p b (cA b f)).drop (i+1))))
 rw[ag,if_pos ⟨h1,h2,h3⟩,g3]
 dsimp only
 have e:=rg g1
 rw[show imL p b (cA b f)=bZ p b (cA b f) (ak p).length 0 0 from rfl]at *
 rw[e,aH,aH,←List.append_assoc]
 simpa [ao]using hd
theorem Az (hs:aB 1048576 (.lst 4 (p.map HH.tr)))(h1:aw p=true)(h2:aJ b=true){f:Nat}(hf:f < (ak p).length):0≤bt p b f∧bt p b f < (ag p b (cA b f)).fab.length:=by
 obtain⟨i,x,h⟩:=lk (b:=b) hf
 have hp:=(sZ hs h1 h2 h).1
 obtain⟨g1,g2,g3⟩:=h
 have h3:af (cA b f) 0 1=true:=by have:=gW b f;rw[within_iff];omega
 have e:=rg g1
 have e2:=congrArg List.length (congrArg ao e)
 rw[aH,aH,List.length_append,List.length_append]at e2
 rw[ag,if_pos ⟨h1,h2,h3⟩,g3]
 refine⟨by omega,?_⟩
 show _ < (((ao (aC (imL p b (cA b f)))).length:Nat):Int)
 omega
theorem yR (hs:aB 1048576 (.lst 4 (p.map HH.tr)))(h1:aw p=true)(h2:aJ b=true){f g:Nat}(hf:f < (ak p).length)(hg:g < (ak p).length)(hi:cA b f=cA b g)(he:bt p b f=bt p b g):f=g:=by
 obtain⟨i,x,hx⟩:=lk (b:=b) hf
 obtain⟨j,y,hy⟩:=lk (b:=b) hg
 have px:=(sZ hs h1 h2 hx).1
 have py:=(sZ hs h1 h2 hy).1
 obtain⟨x1,x2,x3⟩:=hx
 obtain⟨y1,y2,y3⟩:=hy
 rw[←hi]at y1 y3
 rw[x3,y3]at he
 rcases Nat.lt_trichotomy i j with h|h|h
 ·have:=rM x1 h px;omega
 ·subst h
  rw[x1]at y1
  injection y1 with y1
  rw[←x2,←y2,y1]
 ·have:=rM y1 h py;omega
end
structure EntP (p:List HH) (b:Hz) (first second:Int) (f i:Nat) (im:HE) (base:Int):Prop where
 no:(i:Int)=cA b f
 lt:i < 2
 img:[ag p b 0,ag p b 1][i]?=some im
 bas:[first,second][i]?=some base
 imE:im=ag p b (cA b f)
 range:1≤base∧base≤1000000
 len:im.fab.length≤75000
 ok:bq im=true
 start:0≤bt p b f∧bt p b f < im.fab.length
 entry:bd p b first second f=base+bt p b f
 loc:CQ (cQ p b first second) (bd p b first second f)=((i:Int),bt p b f)
 op:∃(o:HJ) (z:Nat),ck im.fab (bt p b f)=some (o,z)∧(o.fab=13∨o.fab=15)
theorem yl {p:List HH}{b:Hz}{first second:Int}(h:SpOk p b first second){f:Nat}(hf:f < (ak p).length):∃i im base,EntP p b first second f i im base:=by
 have a0:=dJ h.small h.prog h.build (image:=0) (by decide)
 have a1:=dJ h.small h.prog h.build (image:=1) (by decide)
 have hst:=Az h.small h.prog h.build hf
 obtain⟨k,x,hx⟩:=lk (b:=b) hf
 have hop:=(sZ h.small h.prog h.build hx).2
 have hfb:=h.fb
 have hsb:=h.sb
 have hsp:=h.space
 have hno:dB (ag p b 0) (ag p b 1) first second=false:=by
  have:fX (ag p b 0) (ag p b 1) first second (entries p b first second)=true:=hsp
  unfold fX at this
  simp only[Bool.and_eq_true,Bool.not_eq_true']at this
  exact this.2.2.2.2.2.1
 have hloc:∀e,CQ (cQ p b first second) e=gv (ag p b 0) (ag p b 1) first second e:=fun e=>rfl
 rcases gW b f with e|e
 ·rw[e]at hst hop
  have hent:bd p b first second f=first+bt p b f:=by
   rw[bd,e,if_neg (by decide),IntWalk.i64_in _ (by omega)]
  refine⟨0,ag p b 0,first,by rw[e];rfl,by omega,rfl,rfl,by rw[e],by omega,a0.2,a0.1,hst,hent,?_,hop⟩
  rw[hloc,hent,gv,if_pos ⟨by omega,by omega⟩,show first+bt p b f - first=bt p b f by omega]
  rfl
 ·rw[e]at hst hop
  have hent:bd p b first second f=second+bt p b f:=by
   rw[bd,e,if_pos rfl,IntWalk.i64_in _ (by omega)]
  refine⟨1,ag p b 1,second,by rw[e];rfl,by omega,rfl,rfl,by rw[e],by omega,a1.2,a1.1,hst,hent,?_,hop⟩
  rw[hloc,hent,gv,if_neg,if_pos ⟨by omega,by omega⟩,show second+bt p b f - second=bt p b f by omega]
  ·rfl
  ·intro hc
   unfold dB at hno
   simp only[Bool.and_eq_false_iff,decide_eq_false_iff_not]at hno
   omega
theorem Dl {p:List HH}{b:Hz}{first second:Int}(h:SpOk p b first second){f g:Nat}(hf:f < (ak p).length)(hg:g < (ak p).length)(he:bd p b first second f=bd p b first second g):f=g:=by
 obtain⟨i,im,bs,hi⟩:=yl h hf
 obtain⟨j,jm,cs,hj⟩:=yl h hg
 have h1:=hi.loc
 rw[he,hj.loc]at h1
 injection h1 with h1 h2
 refine yR h.small h.prog h.build hf hg ?_ h2.symm
 rw[←hi.no,←hj.no,h1]
theorem sf {p:List HH}{b:Hz}{first second:Int}{f:Nat}(hf:f < (ak p).length):(entries p b first second)[f]?=some (bd p b first second f):=by
 rw[entries,List.getElem?_map,List.getElem?_range hf];rfl
theorem rp {p:List HH}{b:Hz}{first second:Int}:(entries p b first second).length=(ak p).length:=by
 rw[entries,List.length_map,List.length_range]
theorem Ee {p:List HH}{b:Hz}{first second:Int}{f i:Nat}{im:HE}{base:Int}(h:SpOk p b first second)(hf:f < (ak p).length)(he:EntP p b first second f i im base):
  ∃(k:Nat) (y:HO),cU im.faf (bt p b f)=(k:Int)∧im.faf[k]?=some y∧y.fah=bt p b f:=by
 have hst:jJ im (bt p b f)=true:=by
  rw[mO he.ok]
  rcases vl (b:=b) h.small h.prog h.build (first:=first) (second:=second) (by have:=h.fb;omega) (by have:=h.sb;omega) hf with⟨e1,y,hy,e2⟩|⟨e1,y,hy,e2⟩
  ·refine⟨y,by rw[he.imE,e1];exact hy,?_⟩
   have hb:=he.bas
   have hn:=he.no
   rw[e1]at hn
   have hi0:i=0:=by omega
   subst hi0
   simp only[List.getElem?_cons_zero,Option.some.injEq]at hb
   have:=he.entry
   omega
  ·refine⟨y,by rw[he.imE,e1];exact hy,?_⟩
   have hb:=he.bas
   have hn:=he.no
   rw[e1]at hn
   have hi0:i=1:=by omega
   subst hi0
   simp only[List.getElem?_cons_succ,List.getElem?_cons_zero,Option.some.injEq]at hb
   have:=he.entry
   omega
 unfold jJ at hst
 rw[Bool.and_eq_true,decide_eq_true_eq]at hst
 obtain⟨h0,h1⟩:=hst
 split at h1
 ·rename_i y hy
  exact⟨(cU im.faf (bt p b f)).toNat,y,(Int.toNat_of_nonneg h0).symm,hy,by simpa using h1⟩
 ·cases h1
noncomputable abbrev vSp (p:List HH) (b:Hz) (first second:Int):TV:= .agg [.lst 2 [(ag p b 0).tr,(ag p b 1).tr],.lst 1 [aa first,aa second],.lst 1 ((entries p b first second).map aa)]
theorem Gq {p:List HH}{b:Hz}{first second:Int}(h:SpOk p b first second):Sim.Spec Tryz.prog 29 [vSp p b first second] (rB true):=by
 have h6:=(dU h.prog).1
 have h1:=lU (cQ p b first second) (oc h.small (by omega))
 rw[h.space]at h1
 exact h1
theorem fT {p:List HH}{b:Hz}{first second:Int}(h:SpOk p b first second)(a:Int):Sim.Spec Tryz.prog 30 [vSp p b first second,tvI a] (Fr (CQ (cQ p b first second) a)):=by
 refine aE hΓ ay Tryz.func30 rfl (by decide) rfl ?_
 have hS:=Gq h
 have a0:=(dJ h.small h.prog h.build (image:=0) (by decide)).2
 have a1:=(dJ h.small h.prog h.build (image:=1) (by decide)).2
 have hfb:=h.fb
 have hsb:=h.sb
 have hL:Sim.Spec Tryz.prog 103 [vSp p b first second,tvI a] (Fr (CQ (cQ p b first second) a)):=vV (ag p b 0) (ag p b 1) first second a (entries p b first second) (by omega) (by omega) (by omega) (by omega)
 generalize CQ (cQ p b first second) a=r at *
 repeat' ((conv=>whnf);first|apply Wx|apply W6|apply oi|(apply fi<;>intro h)|refine cl hS ?_|refine cl hL ?_|refine⟨_,rfl,?_⟩|exact rfl)
 all_goals try exact⟨KP⟩
theorem sr {p:List HH}{b:Hz}{first second:Int}(h:SpOk p b first second){f i:Nat}{im:HE}{base:Int}(he:EntP p b first second f i im base):∃(o:HJ) (z:Nat),(o.fab=13∨o.fab=15)∧Sim.Spec Tryz.prog 31 [vSp p b first second,tvI (bd p b first second f)] (.tup [.agg [.t (.int .i64 o.fab),.t (.int .i64 o.fak)],.c (.t (.int .i64 (z:Int))),.c (.t (.bool true))]):=by
 obtain⟨o,z,ho,hc⟩:=he.op
 refine⟨o,z,hc,?_⟩
 refine aE hΓ ay Tryz.func31 rfl (by decide) rfl ?_
 have hL:=fT h (bd p b first second f)
 rw[he.loc]at hL
 have hlen:=he.len
 have hst:=he.start
 have hD:=lI im.fab (bt p b f) (by omega) (by omega)
 rw[ho]at hD
 have hi:[(ag p b 0).tr,(ag p b 1).tr][i]?=some im.tr:=by
  have:=he.img
  have h2:=congrArg (Option.map HE.tr) this
  rw[←List.getElem?_map]at h2
  exact h2
 have hlt:=he.lt
 have hil:i < [(ag p b 0).tr,(ag p b 1).tr].length:=hlt
 repeat' ((conv=>whnf);first|apply Wx|apply W6|apply oi|(apply fi<;>intro h)|refine cl hL ?_|refine⟨i,im.tr,rfl,hi,?_⟩|refine cl hD ?_|refine⟨_,rfl,?_⟩|exact rfl)
 all_goals try exact⟨KP⟩
 all_goals try exact KX
theorem oG {p:List HH}{b:Hz}{first second:Int}(h:SpOk p b first second){f i:Nat}{im:HE}{base:Int}(hf:f < (ak p).length)(he:EntP p b first second f i im base):Sim.Spec Tryz.prog 32 [vSp p b first second,tvI (bd p b first second f)] (rI (f:Int)):=by
 refine aE hΓ ay Tryz.func32 rfl (by decide) rfl ?_
 have hL:=fT h (bd p b first second f)
 rw[he.loc]at hL
 have hlen:=he.len
 have hst:=he.start
 have h6:=(dU h.prog).1
 obtain⟨k,y,hk,hy,hys⟩:=Ee h hf he
 have hsl:im.faf.length≤6:=by rw[he.imE];exact fc (by omega)
 have hSA:=sw im (bt p b f) (by omega)
 rw[hk]at hSA
 have hi:[(ag p b 0).tr,(ag p b 1).tr][i]?=some im.tr:=by
  have:=he.img
  have h2:=congrArg (Option.map HE.tr) this
  rw[←List.getElem?_map]at h2
  exact h2
 have hb:[aa first,aa second][i]?=some (aa base):=by
  have:=he.bas
  have h2:=congrArg (Option.map aa) this
  rw[←List.getElem?_map]at h2
  exact h2
 have hlt:=he.lt
 have hil:i < [(ag p b 0).tr,(ag p b 1).tr].length:=hlt
 have hyt:(im.faf.map HO.tr)[k]?=some y.tr:=ab hy
 have hrg:=he.range
 have hent:=he.entry
 have hel:=rp (p:=p) (b:=b) (first:=first) (second:=second)
 have hml:((entries p b first second).map aa).length=(ak p).length:=by rw[List.length_map,hel]
 have hw:IntKind.i64.wrap (base+y.fah)=bd p b first second f:=by rw[hys,hent,IntWalk.i64_in _ (by omega)]
 repeat' ((conv=>whnf);first|apply Wx|apply W6|apply oi|(apply fi<;>intro h)|refine cl hL ?_|refine⟨i,im.tr,rfl,hi,?_⟩|refine cl hSA ?_|refine⟨_,rfl,?_⟩|exact rfl)
 all_goals try exact⟨KP⟩
 all_goals try exact KX
 conv=>whnf
 refine⟨{g:Nat // g≤f},fun g=>⟨[(1,tI .i64 (bd p b first second f)),(2,.r (.c (.ptr (2,0,0) 0))),(5,tI .i64 (i:Int)),(7,tI .i64 (k:Int)),(28,.r (.c (.t (.lst 1 ((entries p b first second).map aa))))),(29,tI .i64 (((entries p b first second).map aa).length:Int)),(30,tI .i64 (g.1:Int))],[((2,0,0),some (.box [.t (.lst 2 [(ag p b 0).tr,(ag p b 1).tr]),.t (.lst 1 [aa first,aa second]),.t (.lst 1 ((entries p b first second).map aa))]))],[2]⟩,fun g=>f - g.1,⟨0,by omega⟩,?_,?_⟩
 ·skip
  repeat' ((conv=>whnf);first|apply Wx|apply W6|apply oi|(apply fi<;>intro h)|refine⟨_,rfl,?_⟩|exact rfl)
  all_goals try exact⟨KP⟩
 intro⟨g,hg⟩
 dsimp only
 have hgl:g < (ak p).length:=by omega
 have hge:((entries p b first second).map aa)[g]?=some (aa (bd p b first second g)):=ab (sf hgl)
 have hgn:g < ((entries p b first second).map aa).length:=by omega
 by_cases hgf:g=f
 ·subst hgf
  repeat' ((conv=>whnf);first|apply Wx|apply W6|apply oi|(apply fi<;>intro h)|refine⟨g,(aa (bd p b first second g)),rfl,hge,?_⟩|refine⟨i,(aa base),rfl,hb,?_⟩|refine⟨i,im.tr,rfl,hi,?_⟩|refine⟨k,y.tr,rfl,hyt,?_⟩|refine⟨_,rfl,?_⟩|exact rfl)
  all_goals try exact⟨KP⟩
  all_goals try exact KX
  all_goals try(exfalso;rw[hw]at h;simp at h;done)
 ·have hne:bd p b first second g≠bd p b first second f:=fun e=>hgf (Dl h hgl hf e)
  generalize bd p b first second g=eg at *
  repeat' ((conv=>whnf);first|apply Wx|apply W6|apply oi|(apply fi<;>intro h)|refine⟨g,(aa eg),rfl,hge,?_⟩|refine⟨i,(aa base),rfl,hb,?_⟩|refine⟨i,im.tr,rfl,hi,?_⟩|refine⟨k,y.tr,rfl,hyt,?_⟩|refine⟨_,rfl,?_⟩|exact rfl)
  all_goals try exact⟨KP⟩
  all_goals try exact KX
  all_goals try(exfalso;rw[hw]at h;simp at h;exact hne h)
  conv=>whnf
  refine⟨⟨g+1,by omega⟩,?_,KD⟩
  repeat' ((conv=>whnf);first|apply Wx|apply W6|apply oi|(apply fi<;>intro h)|refine⟨_,rfl,?_⟩|exact rfl)
  all_goals try exact⟨KP⟩
  all_goals try exact⟨KW⟩
abbrev vIt (l:List HG):AV:= .r (.c (.t (.lst 7 (l.map HG.tr))))
theorem lN (l:List HG)(at0:Int)(hl:l.length≤2500)(h0:0≤at0∧at0≤200000)(hj:xD l)(hc:∀x∈l,x.fap.length≤1000):aV Tryz.prog 193 [vIt l,tI .i64 at0] [] (.r (.c (.own (1,0,0)))) [((1,0,0),.dar 8 (ax ((cP l at0).map HK.tr)) none)]:=by
 refine aj hΓ ay Tryz.func193 rfl (by decide) rfl rfl ?_
 have hlen:(l.map HG.tr).length=l.length:=by simp
 have hsl:=mN at0 l
 have hle:=fun k (h:k≤l.length)=>fq (at0:=at0) h
 generalize hS:bY at0 l=S at *
 have hS0:atL S 0=at0:=by rw[←hS];exact fY at0 l
 have hsu:=fun k x (h:l[k]?=some x)=>eH (at0:=at0) h
 rw[hS]at hsu
 repeat' ((conv=>whnf);first|apply Wx|apply W6|apply oi|(apply fi<;>intro h)|refine⟨_,rfl,?_⟩|exact rfl)
 all_goals try exact⟨KP⟩
 conv=>whnf
 refine⟨{k:Nat // k≤l.length},fun k=>⟨[(0,vIt l),(15,vIt l),(16,tI .i64 ((l.map HG.tr).length:Int)),(17,tI .i64 (k.1:Int)),(7,tI .i64 (atL S k.1)),(6,.r (.c (.own (13,0,0)))),(5,.r (.c (.own (12,0,0))))],[((13,0,0),some (.arr true 1 ((S.take k.1).map aa))),((12,0,0),some (.arr true 8 []))],[13,12,0]⟩,fun k=>l.length - k.1,⟨0,by omega⟩,?_,?_⟩
 ·skip
  repeat' ((conv=>whnf);first|apply Wx|apply W6|apply oi|(apply fi<;>intro h)|refine⟨_,rfl,?_⟩|exact rfl)
  all_goals try exact⟨KP⟩
  all_goals try exact⟨by rw[hS0]⟩
 intro⟨k,hk⟩
 dsimp only
 have hlk:=hle k hk
 by_cases hlt:k < l.length
 ·obtain⟨x,hx⟩:=ae hlt
  have hz:=gl x.fae.fab
  have ho:=gG x.fae.fab
  have hs1:=hsu k x hx
  have hg:S[k]?=some (atL S k):=mW (by omega)
  repeat' ((conv=>whnf);first|apply Wx|apply W6|apply oi|(apply fi<;>intro h)|refine⟨k,x.tr,rfl,ab hx,?_⟩|refine cl ho ?_|refine⟨_,rfl,?_⟩|exact rfl)
  all_goals try exact⟨KP⟩
  all_goals try exact KX
  all_goals try exact⟨⟨by simp <;> omega,by simp <;> omega⟩⟩
  conv=>whnf
  refine⟨⟨k+1,by omega⟩,?_,KD⟩
  repeat' ((conv=>whnf);first|apply Wx|apply W6|apply oi|(apply fi<;>intro h)|refine⟨_,rfl,?_⟩|exact rfl)
  all_goals try exact⟨KP⟩
  all_goals try exact⟨KW⟩
  all_goals try exact⟨by rw[cr hg,List.map_append];rfl⟩
  all_goals try exact⟨congrArg (Tr.int .i64) (by rw[hs1,IntWalk.i64_in _ (by omega)])⟩
 ·have hkl:k=l.length:=by omega
  subst hkl
  have hg:S[l.length]?=some (atL S l.length):=mW (by omega)
  repeat' ((conv=>whnf);first|apply Wx|apply W6|apply oi|(apply fi<;>intro h)|refine⟨_,rfl,?_⟩|exact rfl)
  all_goals try exact⟨KP⟩
  all_goals try exact KX
  all_goals try exact⟨⟨by simp <;> omega,by simp <;> omega⟩⟩
  conv=>whnf
  refine⟨{k:Nat // k≤l.length},fun k=>⟨[(0,vIt l),(36,vIt l),(37,tI .i64 ((l.map HG.tr).length:Int)),(38,tI .i64 (k.1:Int)),(6,.r (.c (.own (35,0,0)))),(5,.r (.c (.own (12,0,0))))],[((35,0,0),some (.arr true 1 (S.map aa))),((12,0,0),some (.dar 8 (ax (((cP l at0).take k.1).map HK.tr)) none))],[35,12,0]⟩,fun k=>l.length - k.1,⟨0,by omega⟩,?_,?_⟩
  ·skip
   repeat' ((conv=>whnf);first|apply Wx|apply W6|apply oi|(apply fi<;>intro h)|refine⟨_,rfl,?_⟩|exact rfl)
   all_goals try exact⟨KP⟩
   all_goals exact⟨by rw[show [[Tr.int .i64 (atL S l.length)]]=[atL S l.length].map aa from rfl,←List.map_append,←cr hg,List.take_of_length_le (by omega)]⟩
  intro⟨k,hk⟩
  dsimp only
  have hfl:=dv l at0
  have hdl:(ax (((cP l at0).take k).map HK.tr)).length=k:=by rw[cJ,List.length_map,List.length_take];omega
  have hml:(S.map aa).length=l.length+1:=by rw[List.length_map];exact hsl
  have mg:∀j,j≤l.length→(S.map aa)[j]?=some (aa (atL S j)):=fun j hj=>by rw[List.getElem?_map,mW (by omega)];rfl
  by_cases hlt:k < l.length
  ·obtain⟨x,hx⟩:=ae hlt
   have hxc:=hc x (List.mem_of_getElem? hx)
   have hcl:(x.fap.map aa).length=x.fap.length:=by simp
   have hpg:=eB (at0:=at0) hx
   rw[hS]at hpg
   have hw1:IntKind.i64.wrap ((k:Int)+1)=((k+1:Nat):Int):=by rw[IntWalk.i64_in _ (by omega)];rfl
   have hk0:k < (S.map aa).length:=by omega
   have hk1:k+1 < (S.map aa).length:=by omega
   have m0:=mg k (by omega)
   have m1:=mg (k+1) (by omega)
   have b1:=hle (k+1) (by omega)
   cases hjx:mv x with
   | true=>
    obtain⟨ja,jb⟩:=hj x (List.mem_of_getElem? hx) hjx
    have ha:x.fae.fak=((x.fae.fak.toNat:Nat):Int):=(Int.toNat_of_nonneg ja).symm
    have hal:x.fae.fak.toNat < (S.map aa).length:=by omega
    have m2:=mg x.fae.fak.toNat (by omega)
    have b2:=hle x.fae.fak.toNat (by omega)
    have hji:ez S k x=tA x (IntKind.i64.wrap (atL S x.fae.fak.toNat - atL S (k+1))):=by rw[ez,if_pos hjx,IntWalk.i64_in _ (by omega)]
    rw[fv]at hjx
    repeat' ((conv=>whnf);first|apply Wx|apply W6|apply oi|(apply fi<;>intro h)|refine⟨k,x.tr,rfl,ab hx,?_⟩|refine⟨k,rfl,hk0,?_⟩|refine⟨k+1,hw1,hk1,?_⟩|refine⟨_,ha,hal,?_⟩|refine⟨_,m0,?_⟩|refine⟨_,m1,?_⟩|refine⟨_,m2,?_⟩|refine⟨_,rfl,?_⟩|exact rfl)
    all_goals try exact⟨KP⟩
    all_goals try exact KX
    all_goals try exact KK
    all_goals try exact⟨⟨by simp only[List.length_nil,List.length_cons,hcl,hdl] <;> omega,by simp only[List.length_nil,List.length_cons,hcl,hdl] <;> omega⟩⟩
    all_goals try exact⟨fE _⟩
    all_goals(
     conv=>whnf
     refine⟨⟨k+1,by omega⟩,?_,KD⟩
     repeat' ((conv=>whnf);first|apply Wx|apply W6|apply oi|(apply fi<;>intro h)|refine⟨_,rfl,?_⟩|exact rfl)
     all_goals try exact⟨KP⟩
     all_goals try exact⟨KW⟩
     all_goals try exact⟨by rw[cr hpg,hji,List.map_append,iy];rfl⟩)
   | false=>
    have hji:ez S k x=x:=by rw[ez,if_neg (by rw[hjx];simp)]
    have hjn:¬(x.fae.fab=10∨x.fae.fab=11):=by rw[←fv,hjx];simp
    repeat' ((conv=>whnf);first|apply Wx|apply W6|apply oi|(apply fi<;>intro h)|refine⟨k,x.tr,rfl,ab hx,?_⟩|refine⟨k,rfl,hk0,?_⟩|refine⟨_,m0,?_⟩|refine⟨_,rfl,?_⟩|exact rfl)
    all_goals try exact⟨KP⟩
    all_goals try exact KX
    all_goals try exact KK
    all_goals try exact⟨⟨by simp only[List.length_nil,List.length_cons,hcl,hdl] <;> omega,by simp only[List.length_nil,List.length_cons,hcl,hdl] <;> omega⟩⟩
    all_goals try exact⟨fE _⟩
    all_goals(
     conv=>whnf
     refine⟨⟨k+1,by omega⟩,?_,KD⟩
     repeat' ((conv=>whnf);first|apply Wx|apply W6|apply oi|(apply fi<;>intro h)|refine⟨_,rfl,?_⟩|exact rfl)
     all_goals try exact⟨KP⟩
     all_goals try exact⟨KW⟩
     all_goals try exact⟨by rw[cr hpg,hji,List.map_append,iy];rfl⟩)
  ·have hkl:k=l.length:=by omega
   subst hkl
   repeat' ((conv=>whnf);first|apply Wx|apply W6|apply oi|(apply fi<;>intro h)|refine⟨_,rfl,?_⟩|exact rfl)
   all_goals try exact⟨KP⟩
   all_goals try exact KX
   all_goals exact⟨by rw[List.take_of_length_le (by omega)]⟩
def pn (p:List HH)(k:Nat)(l:List Int):List Int:=
 let l1:=match endAt p k with|some e=>l.set e k|none=>l
 match elseAt p k with|some e=>l1.set e k|none=>l1
def kc (p:List HH):Nat→List Int
 | 0=>List.replicate p.length 0
 | n+1=>pn p n (kc p n)
theorem oQ (p:List HH):∀n,(kc p n).length=p.length
 | 0=>by simp[kc]
 | n+1=>by
  rw[kc,pn]
  have:=oQ p n
  cases endAt p n <;> cases elseAt p n <;> simp[this]
theorem zp {p:List HH}{i k:Nat}(h:endAt p i=some k∨elseAt p i=some k)(hk:k < p.length):∀n,i < n→(kc p n)[k]?=some (i:Int)
 | 0,hn=>by omega
 | n+1,hn=>by
  have hl:=oQ p n
  rw[kc,pn]
  by_cases hin:i=n
  ·subst hin
   rcases h with h|h
   ·rw[h]
    dsimp only
    cases he:elseAt p i with
    | none=>dsimp only;rw[List.getElem?_set_self (by omega)]
    | some m=>
     dsimp only
     by_cases hm:m=k
     ·subst hm;rw[List.getElem?_set_self (by simp;omega)]
     ·rw[List.getElem?_set_ne hm,List.getElem?_set_self (by omega)]
   ·rw[h]
    dsimp only
    rw[List.getElem?_set_self (by cases endAt p i <;> simp <;> omega)]
  ·have ih:=zp h hk n (by omega)
   have own:∀m,(endAt p n=some m∨elseAt p n=some m)→m≠k:=by
    intro m hm e
    subst e
    have h1:aI p m=i:=by rcases h with h|h;exact iF h;exact pK h
    have h2:aI p m=n:=by rcases hm with h|h;exact iF h;exact pK h
    exact hin (h1.symm.trans h2)
   have key:((match endAt p n with|some e=>(kc p n).set e (n:Int)|none=>kc p n):List Int)[k]?=some (i:Int):=by
    cases he:endAt p n with
    | none=>exact ih
    | some m=>dsimp only;rw[List.getElem?_set_ne (own m (.inl he))];exact ih
   cases he:elseAt p n with
   | none=>exact key
   | some m=>dsimp only;rw[List.getElem?_set_ne (own m (.inr he))];exact key
theorem vY (p:List HH)(h60:p.length≤60):Sim.Spec Tryz.prog 269 [tvP p] (rL 1 ((kc p p.length).map aa)):=by
 refine aE hΓ ay Tryz.func269 rfl (by decide) rfl ?_
 have hpl:(p.map HH.tr).length=p.length:=by simp
 have hm1:(((p.map HH.tr).length:Nat):Int)=(p.length:Int):=by rw[hpl]
 have hm2:p.length≤9223372036854775807:=by omega
 have hm3:p.length * 8≤140737488355328:=by omega
 repeat' ((conv=>whnf);first|apply Wx|apply W6|apply oi|(apply fi<;>intro h)|refine⟨p.length,hm1,hm1,hm2,hm3,?_⟩|refine⟨_,rfl,?_⟩|exact rfl)
 all_goals try exact⟨KP⟩
 conv=>whnf
 refine⟨{k:Nat // k≤p.length},fun q=>⟨[(0,vP p),(3,.r (.c (.own (3,0,0)))),(11,tI .i64 ((p.map HH.tr).length:Int)),(12,tI .i64 (q.1:Int))],[((3,0,0),some (.arr true 1 ((kc p q.1).map aa)))],[3]⟩,fun q=>p.length - q.1,⟨0,by omega⟩,?_,?_⟩
 ·skip
  repeat' ((conv=>whnf);first|apply Wx|apply W6|apply oi|(apply fi<;>intro h)|refine⟨_,rfl,?_⟩|exact rfl)
  all_goals try exact⟨KP⟩
  all_goals exact⟨by simp[kc,aa]⟩
 intro⟨k,hk⟩
 dsimp only at hk ⊢
 by_cases hlt:k < p.length
 ·have gE:=cM p (k:Int) (by omega)
  have gL:=nC p (k:Int) (by omega)
  have hol:=oQ p k
  have hml:((kc p k).map aa).length=p.length:=by rw[List.length_map,hol]
  rw[bf]at gE
  rw[fB]at gL
  have hst:kc p (k+1)=pn p k (kc p k):=rfl
  have bU:∀{l:List Int} {e:Nat},e < l.length→∃v,(l.map aa)[e]?=some (aa v):=fun{l e} he=>⟨l[e],by rw[List.getElem?_map,List.getElem?_eq_getElem he];rfl⟩
  have hset:∀(l:List Int) (e:Nat),(l.map aa).set e [.int .i64 (k:Int)]=(l.set e (k:Int)).map aa:=fun l e=>by simp[List.map_set,aa]
  rw[pn]at hst
  cases he:endAt p k with
  | none=>
   rw[he]at gE hst
   cases hl:elseAt p k with
   | none=>
    rw[hl]at gL hst
    dsimp only at hst
    repeat' ((conv=>whnf);first|apply Wx|apply W6|apply oi|(apply fi<;>intro h)|refine cl gE ?_|refine cl gL ?_|refine⟨_,rfl,?_⟩|exact rfl)
    all_goals try exact⟨KP⟩
    all_goals try exact KX
    all_goals try(exfalso;simp[cu]at h;done)
    conv=>whnf
    refine⟨⟨k+1,by omega⟩,?_,KD⟩
    repeat' ((conv=>whnf);first|apply Wx|apply W6|apply oi|(apply fi<;>intro h)|refine⟨_,rfl,?_⟩|exact rfl)
    all_goals try exact⟨KP⟩
    all_goals try exact⟨KW⟩
    all_goals exact⟨by dsimp only;rw[hst]⟩
   | some m=>obtain⟨_,_,_,_,h,_⟩:=aY hl;rw[he]at h;cases h
  | some e=>
   obtain⟨_,_,_,_,_,hel⟩:=aF he
   have hel2:e < ((kc p k).map aa).length:=by omega
   obtain⟨v,hv⟩:=bU (l:=kc p k) (e:=e) (by omega)
   rw[he]at gE hst
   cases hl:elseAt p k with
   | none=>
    rw[hl]at gL hst
    dsimp only at hst
    repeat' ((conv=>whnf);first|apply Wx|apply W6|apply oi|(apply fi<;>intro h)|refine cl gE ?_|refine cl gL ?_|refine⟨e,rfl,hel2,?_⟩|refine⟨_,hv,?_⟩|refine⟨_,rfl,?_⟩|exact rfl)
    all_goals try exact⟨KP⟩
    all_goals try exact KX
    all_goals try(exfalso;simp[cu]at h;done)
    all_goals try(exfalso;rename_i h0;simp[cu]at h0;done)
    conv=>whnf
    refine⟨⟨k+1,by omega⟩,?_,KD⟩
    repeat' ((conv=>whnf);first|apply Wx|apply W6|apply oi|(apply fi<;>intro h)|refine⟨_,rfl,?_⟩|exact rfl)
    all_goals try exact⟨KP⟩
    all_goals try exact⟨KW⟩
    all_goals exact⟨by dsimp only;rw[hst,hset]⟩
   | some m=>
    obtain⟨_,_,_,_,_,_,hmm,z,hz,_⟩:=aY hl
    have hml2:=aM hz
    have hml3:m < (((kc p k).set e (k:Int)).map aa).length:=by simp;omega
    obtain⟨v2,hv2⟩:=bU (l:=(kc p k).set e (k:Int)) (e:=m) (by simp;omega)
    rw[←hset]at hml3 hv2
    rw[hl]at gL hst
    dsimp only at hst
    repeat' ((conv=>whnf);first|apply Wx|apply W6|apply oi|(apply fi<;>intro h)|refine cl gE ?_|refine cl gL ?_|refine⟨e,rfl,hel2,?_⟩|refine⟨_,hv,?_⟩|refine⟨m,rfl,hml3,?_⟩|refine⟨_,hv2,?_⟩|refine⟨_,rfl,?_⟩|exact rfl)
    all_goals try exact⟨KP⟩
    all_goals try exact KX
    all_goals try(exfalso;simp[cu]at h;done)
    all_goals try(exfalso;rename_i h0;simp[cu]at h0;done)
    conv=>whnf
    refine⟨⟨k+1,by omega⟩,?_,KD⟩
    repeat' ((conv=>whnf);first|apply Wx|apply W6|apply oi|(apply fi<;>intro h)|refine⟨_,rfl,?_⟩|exact rfl)
    all_goals try exact⟨KP⟩
    all_goals try exact⟨KW⟩
    all_goals exact⟨by dsimp only;rw[hst,hset,hset]⟩
 ·have hke:k=p.length:=by omega
  subst hke
  repeat' ((conv=>whnf);first|apply Wx|apply W6|apply oi|(apply fi<;>intro h)|refine⟨_,rfl,?_⟩|exact rfl)
  all_goals try exact⟨KP⟩
  all_goals try exact KX
end Go.Proofs.YtjmplnfiabmalaaGreat
