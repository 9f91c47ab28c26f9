import Derived.Test.YtoglejgmjeojoaaGreatGl
set_option maxRecDepth 100000
set_option maxHeartbeats 0
namespace Go.Proofs.P
open Go.Sim Tryz
theorem jS (p:List Qt)(b:Ql)(image:Int)(hs:aK 1048576 (.lst 4 (p.map Qt.tr))):Sim.Spec prog 87 [tvP p,.agg b.tr,tvI image] (.r (.agg ((ay p b image).tr.map xn))):=by
 refine aW hΓ aF func87 rfl d_ rfl ?_;have hP:=gg p hs;have hB:=li b;have gb:=aN image 0 1;by_cases hc:ak p=true/\aY b=true/\af image 0 1=true
 ·have TE:ay p b image=⟨aA (aH (co p b image (aq p).length 0 0)),cA p 0 (co p b image (aq p).length 0 0)⟩:=by rw[ay,b9 hc]
  rw[TE];obtain⟨h1,h2,h3⟩:=hc;rw[h1]at hP;rw[h2]at hB;rw[h3]at gb;obtain⟨h6,SA⟩:=gD h1;have gF:=ct p o_;have P7:((aq p).map fun n:Nat=>aa n).length=(aq p).length:=s_;have gi:=si p b image hs h1 h2;have Sk:=jX p b image (aq p).length 0 0;have Vy:=fun x (hx:x∈co p b image (aq p).length 0 0)=>(ki hs hx).1;have ZV:=fun x (hx:x∈co p b image (aq p).length 0 0)=>(mX hx).2
  generalize co p b image (aq p).length 0 0=L at *
  have RM:(eN L).length=L.length:=by simp[eN]
  have RQ:(fJ L).length=L.length:=by simp[fJ]
  repeat' ((conv=>whnf);first|apply Wx|apply W6|apply oi|apply fi|intro h|refine cl hP ?_|refine cl hB ?_|refine cl gb ?_|refine cl gi ?_|exact Y8|refine e_ rfl ?_)
  conv=>whnf
  refine⟨{k:Nat//k<=L.length},fun k=>⟨[(0,vP p),(6,.r (.c (.ptr (6,0,0) 0))),(7,.r (.c (.ptr (7,0,0) 0))),(8,.r (.c (.own (34,0,0)))),(37,.r (.c (.own (34,1,0)))),(38,tI .i64 ((eN L).length:Int)),(39,tI .i64 (k.1:Int))],[((6,0,0),some (.box [.t (.str []),.nils 0])),((7,0,0),some (.box [.t (.str (aA (aH (L.take k.1)))),.own (7,0,1)])),((7,0,1),some (.arr true 3 ((cA p 0 (L.take k.1)).map QB.tr))),((34,0,0),some (.arr true 1 (fJ L))),((34,1,0),some (.arr true 1 (eN L)))],[34,7,6]⟩,fun k=>L.length-k.1,⟨0,o_⟩,?_,?_⟩
  ·exact Z2
  intro⟨k,hk⟩;dsimp only;have Se:=mY Vy hk;have QK:=fm (aH (L.take k));have hsy:(cA p 0 (L.take k)).length=k:=by rw[lf,k0];omega
  by_cases O4:k<L.length
  ·obtain⟨x,hx⟩:=ae O4;have U7:=Vy x (c9 hx);have VN:=ZV x (c9 hx);obtain⟨g,hg⟩:=ae (l:=aq p) (k:=x.1) o_;obtain⟨X9,ln,XG,_⟩:=kN (c9 hg);have Sp:bM p x.1=ln.J7:=(by rw[bM,hg];dsimp only;rw[XG]);have Zm:(eN L)[k]?=some [.lst 8 (x.2.map Qw.tr)]:=(by rw[eN,j9,hx];rfl);have hxn:(fJ L)[k]?=some (aa (x.1:Int)):=(by rw[fJ,j9,hx];rfl);have VP:((aq p).map fun n:Nat=>aa (n:Int))[x.1]?=some (aa (g:Int)):=(by rw[j9,hg];rfl);have TP:k<(eN L).length:=o_;have Rn:k<(fJ L).length:=o_;have hxm:(x.2.map Qw.tr).length=x.2.length:=s_;have adb:x.1<((aq p).map fun n:Nat=>aa (n:Int)).length:=(by rw[P7];omega);have Uu:cA p 0 (L.take (k+1))=cA p 0 (L.take k)++[⟨bM p x.1,0+(aA (aH (L.take k))).length,(aA x.2).length⟩]:=(by rw[cH hx,pz]);have Zo:aA (aH (L.take (k+1)))=aA (aH (L.take k))++aA x.2:=(by rw[cH hx,nt,aR]);have hcx:=fm x.2
   generalize hSS:cA p 0 (L.take (k+1))=S1 at *
   generalize SU:cA p 0 (L.take k)=S0 at *
   generalize hCC:aA (aH (L.take (k+1)))=C1 at *
   generalize Va:aA (aH (L.take k))=C0 at *
   repeat' ((conv=>whnf);first|apply Wx|apply W6|apply oi|apply fi|intro h|refine⟨k,rfl,TP,?_⟩|refine⟨_,Zm,?_⟩|exact Y6|refine e_ rfl ?_)
   conv=>whnf
   refine⟨{j:Nat//j<=x.2.length},fun j=>⟨[(0,vP p),(6,.r (.c (.ptr (6,0,0) 0))),(7,.r (.c (.ptr (7,0,0) 0))),(8,.r (.c (.own (34,0,0)))),(37,.r (.c (.own (34,1,0)))),(38,tI .i64 ((eN L).length:Int)),(39,tI .i64 (k:Int)),(10,tI .i64 (k:Int)),(12,tI .i64 (C0.length:Int)),(47,.r (.c (.t (.lst 8 (x.2.map Qw.tr))))),(48,tI .i64 ((x.2.map Qw.tr).length:Int)),(49,tI .i64 (j.1:Int))],[((6,0,0),some (.box [.t (.str []),.nils 0])),((7,0,0),some (.box [.t (.str (C0++aA (x.2.take j.1))),.own (7,0,1)])),((7,0,1),some (.arr true 3 ((S0).map QB.tr))),((34,0,0),some (.arr true 1 (fJ L))),((34,1,0),some (.arr true 1 (eN L)))],[34,7,6]⟩,fun j=>x.2.length-j.1,⟨0,o_⟩,?_,?_⟩
   ·repeat' ((conv=>whnf);first|apply Wx|apply W6|apply oi|apply fi|intro h|exact Y8|refine e_ rfl ?_)
    all_goals try exact⟨by simp[aA]⟩
   intro⟨j,hj⟩;dsimp only;have hct:=fm (x.2.take j);have hjt:(x.2.take j).length<=2500:=(by rw[k0];omega);by_cases Q0:j<x.2.length
   ·obtain⟨y,hy⟩:=ae Q0;have hE:=wR y.L5.K0;have hE5:=oZ y.L5.K0;have hym:=ab (f:=Qw.tr) hy;have TK:aA (x.2.take (j+1))=aA (x.2.take j)++bt y.L5.K0:=(by rw[cH hy,aR,eK]);repeat' ((conv=>whnf);first|apply Wx|apply W6|apply oi|apply fi|intro h|refine⟨j,y.tr,rfl,hym,?_⟩|refine cl hE ?_|exact Y19|refine e_ rfl ?_)
    conv=>whnf
    refine⟨⟨j+1,o_⟩,?_,KD⟩;repeat' ((conv=>whnf);first|apply Wx|apply W6|apply oi|apply fi|intro h|exact Y9|refine e_ rfl ?_)
    all_goals try exact⟨by dsimp only;rw[TK,l9]⟩
   ·have SQ:j=x.2.length:=o_;subst SQ;rw[gt (d7 _),<-Zo];repeat' ((conv=>whnf);first|apply Wx|apply W6|apply oi|apply fi|intro h|refine cl gF ?_|refine⟨k,rfl,Rn,?_⟩|refine⟨_,hxn,?_⟩|refine⟨x.1,rfl,adb,?_⟩|refine⟨_,VP,?_⟩|refine⟨g,ln.tr,rfl,ab XG,?_⟩|exact Y6|refine e_ rfl ?_)
    all_goals try exact⟨⟨by simp only[e8,d6,d9,hsy]<;>omega,by simp only[e8,d6,d9,hsy]<;>omega⟩⟩
    conv=>whnf
    refine⟨⟨k+1,o_⟩,?_,KD⟩;repeat' ((conv=>whnf);first|apply Wx|apply W6|apply oi|apply fi|intro h|exact Y9|refine e_ rfl ?_)
    all_goals try exact⟨by rw[hCC]⟩
    all_goals exact⟨by
     have e:C1.length=C0.length+(aA x.2).length:=(by rw[Zo,c7]);dsimp only;rw[hSS,Uu,q8,Sp,c8 _ o_,show(C1.length:Int)-C0.length=((aA x.2).length:Int) by omega,G6]
     rfl⟩
  ·have QV:k=L.length:=o_;subst QV;rw[gt (d7 _)];exact Z6
 ·have TE:ay p b image=⟨[],[]⟩:=by rw[ay,b8 hc]
  exact V16
theorem V133{p:Prop}(h:p:=by
 repeat' ((conv=>whnf);first|apply Wx|apply W6|apply oi|apply fi|intro h|refine cl QM ?_|exact Y6|refine e_ rfl ?_)):p:=h
theorem mJ (p:List Qt)(b:Ql)(first second:Int)(hs:aK 1048576 (.lst 4 (p.map Qt.tr))):Sim.Spec prog 35 [tvP p,.agg b.tr,tvI first,tvI second] (.tup [.agg ((oSp (fV p b first second)).tr.map xn),.c (.t (.bool (fV p b first second).isSome))]):=by
 refine aW hΓ aF func35 rfl d_ rfl ?_;have hP:=gg p hs;have hB:=li b
 cases h1:ak p with
 | false=>exact V73
 | true=>
  rw[h1]at hP
  cases h2:aY b with
  | false=>exact V74
  | true=>
   rw[h2]at hB;obtain⟨h6,SA⟩:=gD h1;have We:=jS p b 0 hs;have Wk:=jS p b 1 hs;have gF:=ct p o_;have P7:((aq p).map fun n:Nat=>aa n).length=(aq p).length:=s_;have QM:=ly (aJ p b first second) (sw hs h6);repeat' ((conv=>whnf);first|(with_reducible apply W1;fail_if_success (with_reducible show Wo _ _ _ _ (Code.region 4 _ _) _ _))|(with_reducible first|apply W2|apply W3|apply W4|apply W5|apply W6|apply W7|apply W8|apply W9)|apply au|apply oi|apply fi|intro h|refine cl hP ?_|refine cl hB ?_|refine cl We ?_|refine cl Wk ?_|exact Y6|refine e_ rfl ?_)
   all_goals try exact Q34
   have SU:(ay p b 0).L4.length<=6:=jM h6;have WN:(ay p b 1).L4.length<=6:=jM h6;have hE:∀f,f<(aq p).length->qI p b (ay p b 0) (ay p b 1) first second f=[dF p b first second f]:=fun f hf=>NK h1 h2 hf first second;have Ss:eZ (qI p b (ay p b 0) (ay p b 1) first second) (aq p).length=entries p b first second:=vK hE
   have hld:fV p b first second=if dt (aJ p b first second)=true then some (aJ p b first second)else none:=by exact V125
   have SW:(aJ p b first second).tr=[.lst 2 [(ay p b 0).tr,(ay p b 1).tr],.lst 1 [aa first,aa second],.lst 1 ((entries p b first second).map aa)]:=rfl;rw[hld]
   generalize aJ p b first second=cd at *
   generalize ay p b 0=i0 at *
   generalize ay p b 1=i1 at *
   have UU:∀f,(qI p b i0 i1 first second f).length<=12:=fun f=>by
    unfold qI;have:=lB (bM p f) second i1.L4;have:=lB (bM p f) first i0.L4;rw[c7];omega
   have hEt:=ri UU;conv=>whnf
   refine oK ⟨[(0,vP p),(5,.r (.c (.ptr (5,0,0) 0))),(8,.r (.c (.ptr (8,0,0) 0))),(10,.r (.c (.ptr (10,0,0) 0)))],[((5,0,0),some (.box (b.tr.map .t))),((8,0,0),some (.box [.nils 0,.nils 0,.nils 0])),((10,0,0),some (.box [.own (10,0,1),.own (10,0,2),.own (10,0,3)])),((10,0,1),some (.arr true 2 [i0.tr,i1.tr])),((10,0,2),some (.arr true 1 [aa first,aa second])),((10,0,3),some (.arr true 1 []))],[10,8,5]⟩ ?_ ?_
   ·exact Z2
   repeat' ((conv=>whnf);first|apply Wx|apply W6|apply oi|apply fi|intro h|refine cl gF ?_|exact Y8|refine e_ rfl ?_)
   conv=>whnf
   refine⟨{f:Nat//f<=(aq p).length},fun q=>⟨[(0,vP p),(5,.r (.c (.ptr (5,0,0) 0))),(8,.r (.c (.ptr (8,0,0) 0))),(10,.r (.c (.ptr (10,0,0) 0))),(38,.r (.c (.own (10,0,4)))),(39,tI .i64 (((aq p).map fun n:Nat=>aa (n:Int)).length:Int)),(40,tI .i64 (q.1:Int))],[((5,0,0),some (.box (b.tr.map .t))),((8,0,0),some (.box [.nils 0,.nils 0,.nils 0])),((10,0,0),some (.box [.own (10,0,1),.own (10,0,2),.own (10,0,3)])),((10,0,1),some (.arr true 2 [i0.tr,i1.tr])),((10,0,2),some (.arr true 1 [aa first,aa second])),((10,0,4),some (.arr true 1 ((aq p).map fun n:Nat=>aa (n:Int)))),((10,0,3),some (.arr true 1 ((eZ (qI p b i0 i1 first second) q.1).map aa)))],[10,8,5]⟩,fun q=>(aq p).length-q.1,⟨0,o_⟩,?_,?_⟩
   ·exact Z2
   intro⟨f,hf⟩;dsimp only;have hef:=hEt f;by_cases O4:f<(aq p).length
   ·obtain⟨g,hg⟩:=ae O4;obtain⟨ln,XG,_,Sp,_⟩:=pi h1 hg;have Sw:qI p b i0 i1 first second f=gA ln.J7 first i0.L4++gA ln.J7 second i1.L4:=(by rw[qI,Sp]);have SH:f<((aq p).map fun n:Nat=>aa n).length:=o_;have VP:((aq p).map fun n:Nat=>aa n)[f]?=some (aa (g:Int)):=(by rw[j9,hg];rfl);have hh0:=lB ln.J7 first i0.L4;repeat' ((conv=>whnf);first|apply Wx|apply W6|apply oi|apply fi|intro h|refine⟨f,rfl,SH,?_⟩|refine⟨_,VP,?_⟩|exact Y6|refine e_ rfl ?_)
    conv=>whnf
    refine⟨{j:Nat//j<=2},fun q=>⟨[(0,vP p),(5,.r (.c (.ptr (5,0,0) 0))),(8,.r (.c (.ptr (8,0,0) 0))),(10,.r (.c (.ptr (10,0,0) 0))),(38,.r (.c (.own (10,0,4)))),(39,tI .i64 (((aq p).map fun n:Nat=>aa (n:Int)).length:Int)),(40,tI .i64 (f:Int)),(12,tI .i64 (g:Int)),(45,.r (.c (.own (10,0,1)))),(46,tI .i64 2),(47,tI .i64 (q.1:Int))],[((5,0,0),some (.box (b.tr.map .t))),((8,0,0),some (.box [.nils 0,.nils 0,.nils 0])),((10,0,0),some (.box [.own (10,0,1),.own (10,0,2),.own (10,0,3)])),((10,0,1),some (.arr true 2 [i0.tr,i1.tr])),((10,0,2),some (.arr true 1 [aa first,aa second])),((10,0,4),some (.arr true 1 ((aq p).map fun n:Nat=>aa (n:Int)))),((10,0,3),some (.arr true 1 ((eZ (qI p b i0 i1 first second) f++(if 0<q.1 then gA ln.J7 first i0.L4 else [])++(if 1<q.1 then gA ln.J7 second i1.L4 else [])).map aa)))],[10,8,5]⟩,fun q=>2-q.1,⟨0,o_⟩,?_,?_⟩
    ·repeat' ((conv=>whnf);first|apply Wx|apply W6|apply oi|apply fi|intro h|exact Y9|refine e_ rfl ?_)
     all_goals try exact⟨s_⟩
    intro⟨j,T3⟩;dsimp only;by_cases hj:j<2
    ·obtain⟨im,base,acc,WA,SI,hsy,Yg,Sb,QZ⟩:∃(im:Qq) (base:Int) (acc:List Int),[i0.tr,i1.tr][j]?=some im.tr/\[aa first,aa second][j]?=some (aa base)/\im.L4.length<=6/\eZ (qI p b i0 i1 first second) f++(if 0<j then gA ln.J7 first i0.L4 else [])++(if 1<j then gA ln.J7 second i1.L4 else [])=acc/\eZ (qI p b i0 i1 first second) f++(if 0<j+1 then gA ln.J7 first i0.L4 else [])++(if 1<j+1 then gA ln.J7 second i1.L4 else [])=acc++gA ln.J7 base im.L4/\acc.length<=100:=by
      rcases(show j=0\/j=1 by omega)with rfl|rfl
      ·exact⟨i0,first,eZ (qI p b i0 i1 first second) f,rfl,rfl,SU,s_,s_,o_⟩
      ·exact⟨i1,second,eZ (qI p b i0 i1 first second) f++gA ln.J7 first i0.L4,rfl,rfl,WN,s_,s_,by rw[c7];omega⟩
     rw[Yg];have Q0:j<[i0.tr,i1.tr].length:=(by simp;omega);have ZF:j<[aa first,aa second].length:=(by simp;omega);have Su:(im.L4.map QB.tr).length=im.L4.length:=s_;repeat' ((conv=>whnf);first|apply Wx|apply W6|apply oi|apply fi|intro h|refine⟨j,rfl,Q0,?_⟩|refine⟨_,WA,?_⟩|exact Y6|refine e_ rfl ?_)
     conv=>whnf
     refine⟨{k:Nat//k<=im.L4.length},fun q=>⟨[(0,vP p),(5,.r (.c (.ptr (5,0,0) 0))),(8,.r (.c (.ptr (8,0,0) 0))),(10,.r (.c (.ptr (10,0,0) 0))),(38,.r (.c (.own (10,0,4)))),(39,tI .i64 (((aq p).map fun n:Nat=>aa (n:Int)).length:Int)),(40,tI .i64 (f:Int)),(12,tI .i64 (g:Int)),(45,.r (.c (.own (10,0,1)))),(46,tI .i64 2),(47,tI .i64 (j:Int)),(13,tI .i64 (j:Int)),(14,.r (.c (.ptr (14,0,0) 0))),(53,.r (.c (.f (.lst 3 (im.L4.map QB.tr))))),(54,tI .i64 ((im.L4.map QB.tr).length:Int)),(55,tI .i64 (q.1:Int))],[((5,0,0),some (.box (b.tr.map .t))),((8,0,0),some (.box [.nils 0,.nils 0,.nils 0])),((10,0,0),some (.box [.own (10,0,1),.own (10,0,2),.own (10,0,3)])),((10,0,1),some (.arr true 2 [i0.tr,i1.tr])),((10,0,2),some (.arr true 1 [aa first,aa second])),((10,0,4),some (.arr true 1 ((aq p).map fun n:Nat=>aa (n:Int)))),((10,0,3),some (.arr true 1 ((acc++gA ln.J7 base (im.L4.take q.1)).map aa)))],[14,10,8,5]⟩,fun q=>im.L4.length-q.1,⟨0,o_⟩,?_,?_⟩
     ·repeat' ((conv=>whnf);first|apply Wx|apply W6|apply oi|apply fi|intro h|exact Y8|refine e_ rfl ?_)
      all_goals try exact⟨by simp[EU]⟩
     intro⟨k,hk⟩;dsimp only;by_cases QV:k<im.L4.length
     ·obtain⟨y,hy⟩:=ae QV;have hyt:(im.L4.map QB.tr)[k]?=some y.tr:=ab hy;have WH:=Cn (nm:=ln.J7) (b:=base) hy;have hhl:=lB ln.J7 base (im.L4.take k);rw[k0]at hhl
      cases hq:(y.J7==ln.J7)with
      | true=>
       rw[hq,b9 rfl]at WH;repeat' ((conv=>whnf);first|apply Wx|apply W6|apply oi|apply fi|intro h|refine⟨k,y.tr,rfl,hyt,?_⟩|refine⟨g,ln.tr,rfl,ab XG,?_⟩|refine⟨j,rfl,ZF,?_⟩|refine⟨_,SI,?_⟩|exact Y6|refine e_ rfl ?_)
       all_goals try exact Q24
       all_goals try exact Q2
       conv=>whnf
       refine⟨⟨k+1,o_⟩,?_,KD⟩;repeat' ((conv=>whnf);first|apply Wx|apply W6|apply oi|apply fi|intro h|exact Y9|refine e_ rfl ?_)
       all_goals exact⟨by dsimp only;rw[WH];simp[l9,aa]⟩
      | false=>
       rw[hq,b8 s_]at WH;repeat' ((conv=>whnf);first|apply Wx|apply W6|apply oi|apply fi|intro h|refine⟨k,y.tr,rfl,hyt,?_⟩|refine⟨g,ln.tr,rfl,ab XG,?_⟩|refine⟨j,rfl,ZF,?_⟩|refine⟨_,SI,?_⟩|exact Y6|refine e_ rfl ?_)
       all_goals try exact Q24
       conv=>whnf
       refine⟨⟨k+1,o_⟩,?_,KD⟩;repeat' ((conv=>whnf);first|apply Wx|apply W6|apply oi|apply fi|intro h|exact Y9|refine e_ rfl ?_)
       all_goals exact⟨by dsimp only;rw[WH,m7]⟩
     ·obtain rfl:k=im.L4.length:=o_;rw[gt (d7 _),<-Sb];repeat' ((conv=>whnf);first|apply Wx|apply W6|apply oi|apply fi|intro h|exact Y6|refine e_ rfl ?_)
      conv=>whnf
      refine⟨⟨j+1,o_⟩,?_,KD⟩;exact Z5
    ·obtain rfl:j=2:=o_
     have QO:eZ (qI p b i0 i1 first second) f++(if 0<2 then gA ln.J7 first i0.L4 else [])++(if 1<2 then gA ln.J7 second i1.L4 else [])=eZ (qI p b i0 i1 first second) (f+1):=by rw[b9 d_,b9 d_,l9,<-Sw];rfl
     rw[QO];repeat' ((conv=>whnf);first|apply Wx|apply W6|apply oi|apply fi|intro h|exact Y6|refine e_ rfl ?_)
     conv=>whnf
     refine⟨⟨f+1,o_⟩,?_,KD⟩;exact Z5
   ·obtain rfl:f=(aq p).length:=o_;rw[Ss]
    cases U5:dt cd with
    | true=>
     rw[U5]at QM;rw[b9 rfl];rw[SW]at QM;simp only[oSp,SW]
     exact V133
    | false=>rw[U5]at QM;rw[b8 s_];rw[SW]at QM;exact V133
end Go.Proofs.P
namespace Go.Proofs.P
open Go.Sim Tryz Go.RowKit
set_option maxRecDepth 100000
structure Qz where
 L6:List Int
 faI:List (List Int)
 N8:Int
 J5:Int
def Qz.tr (x:Qz):List Tr:=[.lst 1 (x.L6.map aa),.lst 1 (x.faI.map (Lt 1 aa)),.int .i64 x.N8,.int .i64 x.J5]
def Qz.wf (x:Qz):Prop:=(x.L6.length<=maxLen/\∀y∈x.L6,inI y)/\(x.faI.length<=maxLen/\∀y∈x.faI,(y.length<=maxLen/\∀z∈y,inI z))/\inI x.N8/\inI x.J5
end Go.Proofs.P
namespace Go.Proofs.P
open Go.Sim Tryz
noncomputable def ivR (p:List Qt) (lim:Int):Qz:=if(ak p&&af lim 0 1000)=true then⟨(iG p lim).st.out,(iG p lim).st.J2,(iG p lim).val,(iG p lim).code⟩else⟨[],[],0,3⟩
abbrev ivE (x:Qz):List (Sim.Id×AO):=[((1,0,1),.arr false 1 (x.L6.map aa)),((1,0,2),.dar 1 (aw (x.faI.map (Lt 1 aa))) none)]
abbrev ivV (x:Qz):AV:= .r (.agg [.own (1,0,1),.own (1,0,2),.t (.int .i64 x.N8),.t (.int .i64 x.J5)])
theorem Ov {p:List Qt}{lim:Int}(h:¬(ak p&&af lim 0 1000)=true):ivR p lim=⟨[],[],0,3⟩:=by rw[ivR,b8 h]
theorem LE {p:List Qt}{lim:Int}(h:(ak p&&af lim 0 1000)=true):ivR p lim=⟨(iG p lim).st.out,(iG p lim).st.J2,(iG p lim).val,(iG p lim).code⟩:=by rw[ivR,b9 h]
theorem uv (p:List Qt)(hs:aK 1048576 (.lst 4 (p.map Qt.tr)))(lim:Int):
  bh prog 40 [.r (.c (.t (.lst 4 (p.map Qt.tr)))),tI .i64 lim] [] (ivV (ivR p lim)) (ivE (ivR p lim)):=by
 by_cases h:(ak p&&af lim 0 1000)=true
 ·rw[LE h];rw[d5,within_iff]at h;exact vw p hs h.1 lim h.2.1 h.2.2
 rw[Ov h];have hP:=dz p hs;have gl:=bz lim 0 1000
 generalize ak p=b1 at *
 generalize af lim 0 1000=b2 at *
 refine ax hΓ aF func40 rfl d_ rfl rfl ?_;repeat' ((conv=>whnf);first|(with_reducible apply W1;fail_if_success (with_reducible show Wo _ _ _ _ (Code.region 4 _ _) _ _))|(with_reducible first|apply W2|apply W3|apply W4|apply W5|apply W6|apply W7|apply W8|apply W9)|apply au|apply oi|apply fi|intro h|refine cl hP ?_|refine cl gl ?_|exact Y8|refine e_ rfl ?_)
 all_goals try(exfalso;revert h;cases b1<;>cases b2<;>simp_all;done)
theorem tE (p:List Qt)(hs:aK 1048576 (.lst 4 (p.map Qt.tr)))(lim:Int):Sim.Spec prog 40 [tvP p,tvI lim] (.r (.agg ((ivR p lim).tr.map xn))):=by
 refine uY (ts:=[tvP p,tvI lim]) (uv p hs lim) rfl ⟨trivial,trivial,trivial,trivial,trivial⟩ ⟨rfl,rfl,?_⟩;repeat' ((conv=>whnf);first|exact rfl|exact trivial|(refine And.intro ?_ ?_))
 all_goals first|rfl|exact dh _
end Go.Proofs.P
