import Derived.Test.YtoglejgmjeojoaaGreatGi
set_option maxRecDepth 100000
set_option maxHeartbeats 0
namespace Go.Proofs.P
open Go.Sim Tryz
theorem jM {p:List Qt}{b:Ql}{image:Int}(h6:(aq p).length<=6):(ay p b image).L4.length<=6:=by
 unfold ay;split
 ·dsimp only;rw[lf];have:=jX p b image (aq p).length 0 0;omega
 ·simp
theorem ri {F:Nat->List Int}(h:∀f,(F f).length<=12):∀n,(eZ F n).length<=12*n
 | 0=>by simp[eZ]
 | n+1=>by have:=ri h n;have:=h n;rw[eZ,c7];omega
theorem sw {p:List Qt}{b:Ql}(hs:aK 1048576 (.lst 4 (p.map Qt.tr)))(h6:(aq p).length<=6){first second:Int}:aS 1048576 (aJ p b first second).tr:=by
 have a0:=pE (b:=b) (image:=0) hs;have a1:=pE (b:=b) (image:=1) hs;have hi:∀ns:List Int,ns.length<=1048576->aK 1048576 (.lst 1 (ns.map aa)):=fun ns hn=>lc o_ fun x hx=>by simp[aa,aS,aK]
 refine⟨?_,hi _ (by simp[aJ]),hi _ (by simp[aJ,entries];omega),trivial⟩;simp only[aJ];rw[aK];exact⟨s_,a0,a1,trivial⟩
theorem V73{p:Prop}(h:p:=by
 rw[h1]at hP;rw[show fV p b first second=none by rw[fV,b8 (by rw[h1];simp)]]
 repeat' ((conv=>whnf);first|apply Wx|apply W6|apply oi|apply fi|intro h|refine cl hP ?_|refine cl hB ?_|exact Y6|refine e_ rfl ?_)):p:=h
theorem V74{p:Prop}(h:p:=by
 rw[h2]at hB;rw[show fV p b first second=none by rw[fV,b8 (by rw[h2];simp)]]
 repeat' ((conv=>whnf);first|apply Wx|apply W6|apply oi|apply fi|intro h|refine cl hP ?_|refine cl hB ?_|exact Y6|refine e_ rfl ?_)):p:=h
theorem V125{p:Prop}(h:p:=by
 rw[fV];by_cases U5:dt (aJ p b first second)=true
 ·rw[b9 U5,b9 ⟨h1,h2,U5⟩]
 ·rw[b8 U5,b8 fun h=>U5 h.2.2]):p:=h
theorem V115{p:Prop}(h:p:=by
 repeat' ((conv=>whnf);first|apply Wx|apply W6|apply oi|apply fi|intro h|refine cl gF ?_|refine cl QM ?_|exact Y6|refine e_ rfl ?_)):p:=h
theorem Q24{p:Prop}(h:p:=by exfalso;rw[hq]at h;cases h;first|done|fail):p:=h
theorem Q34{p:Prop}(h:p:=by exact⟨oy _ (by intro x c hc sz rs e;subst e;simp[QB.tr]at hc)⟩):p:=h
theorem mF (p:List Qt)(b:Ql)(first second:Int)(hs:aK 1048576 (.lst 4 (p.map Qt.tr))):Sim.Spec prog 34 [tvP p,.agg b.tr,tvI first,tvI second] (.tup [.agg ((oSp (fV p b first second)).tr.map xn),.c (.t (.bool (fV p b first second).isSome))]):=by
 refine aW hΓ aF func34 rfl d_ rfl ?_;have hP:=dz p hs;have hB:=lz b
 cases h1:ak p with
 | false=>exact V73
 | true=>
  rw[h1]at hP
  cases h2:aY b with
  | false=>exact V74
  | true=>
   rw[h2]at hB;obtain⟨h6,SA⟩:=gD h1;have We:=jT p b 0 hs;have Wk:=jT p b 1 hs;have gF:=dC p o_;have P7:((aq p).map fun n:Nat=>aa n).length=(aq p).length:=s_;have QM:=ym (aJ p b first second) (sw hs h6);repeat' ((conv=>whnf);first|(with_reducible apply W1;fail_if_success (with_reducible show Wo _ _ _ _ (Code.region 4 _ _) _ _))|(with_reducible first|apply W2|apply W3|apply W4|apply W5|apply W6|apply W7|apply W8|apply W9)|apply au|apply oi|apply fi|intro h|refine cl hP ?_|refine cl hB ?_|refine cl We ?_|refine cl Wk ?_|exact Y6|refine e_ rfl ?_)
   all_goals try exact Q34
   have SU:(ay p b 0).L4.length<=6:=jM h6;have WN:(ay p b 1).L4.length<=6:=jM h6;have hE:∀f,f<(aq p).length->xk p b (ay p b 0) (ay p b 1) first second f=[dF p b first second f]:=fun f hf=>NZ h1 h2 hf first second;have Ss:eZ (xk p b (ay p b 0) (ay p b 1) first second) (aq p).length=entries p b first second:=vK hE
   have hld:fV p b first second=if dt (aJ p b first second)=true then some (aJ p b first second)else none:=by exact V125
   have SW:(aJ p b first second).tr=[.lst 2 [(ay p b 0).tr,(ay p b 1).tr],.lst 1 [aa first,aa second],.lst 1 ((entries p b first second).map aa)]:=rfl;rw[hld]
   generalize aJ p b first second=cd at *
   generalize ay p b 0=i0 at *
   generalize ay p b 1=i1 at *
   have UU:∀f,(xk p b i0 i1 first second f).length<=12:=fun f=>by
    unfold xk;split
    ·have:=lB (bM p f) second i1.L4;omega
    ·have:=lB (bM p f) first i0.L4;omega
   have hEt:=ri UU;conv=>whnf
   refine oK ⟨[(0,vP p),(5,.r (.c (.ptr (5,0,0) 0))),(8,.r (.c (.ptr (8,0,0) 0))),(10,.r (.c (.ptr (10,0,0) 0)))],[((5,0,0),some (.box (b.tr.map .t))),((8,0,0),some (.box [.nils 0,.nils 0,.nils 0])),((10,0,0),some (.box [.own (10,0,1),.own (10,0,2),.own (10,0,3)])),((10,0,1),some (.arr true 2 [i0.tr,i1.tr])),((10,0,2),some (.arr true 1 [aa first,aa second])),((10,0,3),some (.arr true 1 []))],[10,8,5]⟩ ?_ ?_
   ·exact Z2
   repeat' ((conv=>whnf);first|apply Wx|apply W6|apply oi|apply fi|intro h|exact Y8|refine e_ rfl ?_)
   conv=>whnf
   refine⟨{f:Nat//f<=(aq p).length},fun q=>⟨[(0,vP p),(5,.r (.c (.ptr (5,0,0) 0))),(8,.r (.c (.ptr (8,0,0) 0))),(10,.r (.c (.ptr (10,0,0) 0))),(11,tI .i64 (q.1:Int))],[((5,0,0),some (.box (b.tr.map .t))),((8,0,0),some (.box [.nils 0,.nils 0,.nils 0])),((10,0,0),some (.box [.own (10,0,1),.own (10,0,2),.own (10,0,3)])),((10,0,1),some (.arr true 2 [i0.tr,i1.tr])),((10,0,2),some (.arr true 1 [aa first,aa second])),((10,0,3),some (.arr true 1 ((eZ (xk p b i0 i1 first second) q.1).map aa)))],[10,8,5]⟩,fun q=>(aq p).length-q.1,⟨0,o_⟩,?_,?_⟩
   ·exact Z2
   intro⟨f,hf⟩;dsimp only;have hef:=hEt f;by_cases O4:f<(aq p).length
   ·obtain⟨g,hg⟩:=ae O4;obtain⟨ln,XG,_,Sp,_⟩:=pi h1 hg
    obtain⟨j,hj,hj1⟩:∃j:Nat,bS b f=(j:Int)/\j<=1:=by
     rcases iO b f with e|e
     ·exact⟨0,by rw[e];rfl,o_⟩
     ·exact⟨1,by rw[e];rfl,o_⟩
    obtain⟨im,base,WA,SI,Sw,hsy⟩:∃(im:Qq) (base:Int),[i0.tr,i1.tr][j]?=some im.tr/\[aa first,aa second][j]?=some (aa base)/\xk p b i0 i1 first second f=gA ln.J7 base im.L4/\im.L4.length<=6:=by
     rcases(show j=0\/j=1 by omega)with rfl|rfl
     ·exact⟨i0,first,rfl,rfl,by rw[xk,hj,b8 (show ¬((0:Nat):Int)=1 by decide),Sp],SU⟩
     ·exact⟨i1,second,rfl,rfl,by rw[xk,hj,b9 (show((1:Nat):Int)=1 from rfl),Sp],WN⟩
    have Vs:=Iy ⟨f,o_⟩;dsimp only at Vs;have Q0:j<[i0.tr,i1.tr].length:=(by simp;omega);have ZF:j<[aa first,aa second].length:=(by simp;omega);have SH:f<((aq p).map fun n:Nat=>aa n).length:=o_;have VP:((aq p).map fun n:Nat=>aa n)[f]?=some (aa (g:Int)):=(by rw[j9,hg];rfl);have Su:(im.L4.map QB.tr).length=im.L4.length:=s_;repeat' ((conv=>whnf);first|(with_reducible apply W1;fail_if_success (with_reducible show Wo _ _ _ _ (Code.seq (Code.region 8 _ _) _) _ _))|(with_reducible first|apply W2|apply W3|apply W4|apply W5|apply W6|apply W7|apply W8|apply W9)|apply au|apply oi|apply fi|intro h|refine cl gF ?_|exact Y6|refine e_ rfl ?_)
    conv=>whnf
    refine lb Unit (fun _=>⟨[(0,vP p),(5,.r (.c (.ptr (5,0,0) 0))),(8,.r (.c (.ptr (8,0,0) 0))),(10,.r (.c (.ptr (10,0,0) 0))),(11,tI .i64 (f:Int)),(12,tI .i64 (j:Int))],[((5,0,0),some (.box (b.tr.map .t))),((8,0,0),some (.box [.nils 0,.nils 0,.nils 0])),((10,0,0),some (.box [.own (10,0,1),.own (10,0,2),.own (10,0,3)])),((10,0,1),some (.arr true 2 [i0.tr,i1.tr])),((10,0,2),some (.arr true 1 [aa first,aa second])),((10,0,3),some (.arr true 1 ((eZ (xk p b i0 i1 first second) f).map aa)))],[10,8,5]⟩) ?_ ?_
    ·have T3:=hj;unfold bS at T3
     cases Xg:b.N4 with
     | true=>
      rw[Xg,b9 rfl]at T3;rw[T3]at Vs;repeat' ((conv=>whnf);first|apply Wx|apply W6|apply oi|apply fi|intro h|exact Y8|refine e_ rfl ?_)
      all_goals(conv=>whnf)
      all_goals try(exfalso;rw[Xg]at h;cases h;done)
      refine⟨(),?_⟩;repeat' ((conv=>whnf);first|apply Wx|apply W6|apply oi|apply fi|intro h|exact Y8|refine e_ rfl ?_)
      all_goals exact⟨congrArg (Tr.int _) Vs⟩
     | false=>
      rw[Xg,b8 s_]at T3;repeat' ((conv=>whnf);first|apply Wx|apply W6|apply oi|apply fi|intro h|exact Y8|refine e_ rfl ?_)
      all_goals(conv=>whnf)
      all_goals try(exfalso;rw[Xg]at h;cases h;done)
      refine⟨(),?_⟩;repeat' ((conv=>whnf);first|apply Wx|apply W6|apply oi|apply fi|intro h|exact Y8|refine e_ rfl ?_)
      all_goals exact⟨congrArg (Tr.int _) T3⟩
    intro _;dsimp only;repeat' ((conv=>whnf);first|apply Wx|apply W6|apply oi|apply fi|intro h|exact Y8|refine e_ rfl ?_)
    conv=>whnf
    refine⟨{k:Nat//k<=im.L4.length},fun q=>⟨[(0,vP p),(5,.r (.c (.ptr (5,0,0) 0))),(8,.r (.c (.ptr (8,0,0) 0))),(10,.r (.c (.ptr (10,0,0) 0))),(11,tI .i64 (f:Int)),(12,tI .i64 (j:Int)),(13,tI .i64 (q.1:Int))],[((5,0,0),some (.box (b.tr.map .t))),((8,0,0),some (.box [.nils 0,.nils 0,.nils 0])),((10,0,0),some (.box [.own (10,0,1),.own (10,0,2),.own (10,0,3)])),((10,0,1),some (.arr true 2 [i0.tr,i1.tr])),((10,0,2),some (.arr true 1 [aa first,aa second])),((10,0,3),some (.arr true 1 ((eZ (xk p b i0 i1 first second) f++gA ln.J7 base (im.L4.take q.1)).map aa)))],[10,8,5]⟩,fun q=>im.L4.length-q.1,⟨0,o_⟩,?_,?_⟩
    ·repeat' ((conv=>whnf);first|apply Wx|apply W6|apply oi|apply fi|intro h|exact Y8|refine e_ rfl ?_)
     all_goals try exact⟨by simp[EU]⟩
    intro⟨k,hk⟩;dsimp only;by_cases QV:k<im.L4.length
    ·obtain⟨y,hy⟩:=ae QV;have hks:k<(im.L4.map QB.tr).length:=o_;have hyt:(im.L4.map QB.tr)[k]?=some y.tr:=ab hy;have WH:=Cn (nm:=ln.J7) (b:=base) hy;have hhl:=lB ln.J7 base (im.L4.take k);rw[k0]at hhl
     cases hq:(y.J7==ln.J7)with
     | true=>
      rw[hq,b9 rfl]at WH;repeat' ((conv=>whnf);first|apply Wx|apply W6|apply oi|apply fi|intro h|refine cl gF ?_|refine⟨j,rfl,Q0,?_⟩|refine⟨_,WA,?_⟩|refine⟨k,y.tr,rfl,hyt,?_⟩|refine⟨f,rfl,SH,?_⟩|refine⟨_,VP,?_⟩|refine⟨g,ln.tr,rfl,ab XG,?_⟩|refine⟨j,rfl,ZF,?_⟩|refine⟨_,SI,?_⟩|exact Y6|refine e_ rfl ?_)
      all_goals try exact Q24
      all_goals try exact Q2
      conv=>whnf
      refine⟨⟨k+1,o_⟩,?_,KD⟩;repeat' ((conv=>whnf);first|apply Wx|apply W6|apply oi|apply fi|intro h|exact Y9|refine e_ rfl ?_)
      all_goals exact⟨by dsimp only;rw[WH];simp[l9,aa]⟩
     | false=>
      rw[hq,b8 s_]at WH;repeat' ((conv=>whnf);first|apply Wx|apply W6|apply oi|apply fi|intro h|refine cl gF ?_|refine⟨j,rfl,Q0,?_⟩|refine⟨_,WA,?_⟩|refine⟨k,y.tr,rfl,hyt,?_⟩|refine⟨f,rfl,SH,?_⟩|refine⟨_,VP,?_⟩|refine⟨g,ln.tr,rfl,ab XG,?_⟩|refine⟨j,rfl,ZF,?_⟩|refine⟨_,SI,?_⟩|exact Y6|refine e_ rfl ?_)
      all_goals try exact Q24
      conv=>whnf
      refine⟨⟨k+1,o_⟩,?_,KD⟩;repeat' ((conv=>whnf);first|apply Wx|apply W6|apply oi|apply fi|intro h|exact Y9|refine e_ rfl ?_)
      all_goals exact⟨by dsimp only;rw[WH,m7]⟩
    ·obtain rfl:k=im.L4.length:=o_;rw[gt (d7 _),<-Sw];repeat' ((conv=>whnf);first|apply Wx|apply W6|apply oi|apply fi|intro h|refine⟨j,rfl,Q0,?_⟩|refine⟨_,WA,?_⟩|exact Y6|refine e_ rfl ?_)
     conv=>whnf
     refine⟨⟨f+1,o_⟩,?_,KD⟩;exact Z5
   ·obtain rfl:f=(aq p).length:=o_;rw[Ss]
    cases U5:dt cd with
    | true=>
     rw[U5]at QM;rw[b9 rfl];rw[SW]at QM;simp only[oSp,SW]
     exact V115
    | false=>rw[U5]at QM;rw[b8 s_];rw[SW]at QM;exact V115
def wI (R:List QC)(d:Nat):Prop:=0<R.length/\R.length<=5^d/\∀t∈R,t.J7.length<=8
abbrev NA (vars:List (List UInt8))(c:Qm):List (Sim.Id×AO):=mD c++[((0,0,1),.arr false 1 (vars.map ah))]
abbrev GV (m:Int)(names:List (List UInt8))(ars:List Int):List AV:=[mz,tI .i64 m,.r (.c (.own (0,0,1))),vN names,.r (.c (.t (.lst 1 (ars.map aa))))]
abbrev Mh (vars:List (List UInt8))(c:Qm)(R:List QC):List (Sim.Id×AO):=NA vars c++[((1,0,0),.arr false 3 (R.map QC.tr))]
theorem yL (d:Nat):1<=5^d:=Nat.one_le_pow _ _ o_
theorem On {d:Nat}(h:d<=8):5^d<=390625:=Nat.pow_le_pow_right (n:=5) o_ h
theorem V132{p:Prop}(h:p:=by
 rw[Int.tdiv_eq_ediv_of_nonneg h0,c8 _ o_];have:(2:Int)^(d+1)=2*2^d:=by rw[Int.pow_succ];omega
 omega):p:=h
theorem Mr {m:Int}{d:Nat}(h0:0<=m)(h1:m<2^(d+1))(hb:m<=1000):0<=IntKind.i64.wrap (m.tdiv 4)/\IntKind.i64.wrap (m.tdiv 4)<2^d/\IntKind.i64.wrap (m.tdiv 4)<=1000:=by exact V132
def xC (P:Qm->List QC->Qm->Prop)(d:Nat):Nat->Qm->List QC->Qm->List QC->Prop
 | 0,c,acc,c',SC=>c'=c/\SC=acc
 | k+1,c,acc,c',SC=>∃R c1,wI R d/\c1.b=c.b/\c1.ok/\P c R c1/\xC P d k c1 (acc++R) c' SC
theorem Gc {P:Qm->List QC->Qm->Prop}{d:Nat}(ih:∀c:Qm,c.ok->∃R c1,wI R d/\c1.b=c.b/\c1.ok/\P c R c1):∀(k:Nat) (c:Qm) (acc:List QC),c.ok->∃c' SC,xC P d k c acc c' SC
 | 0,c,acc,_=>⟨c,acc,rfl,rfl⟩
 | k+1,c,acc,hc=>by
  obtain⟨R,c1,h1,h2,h3,h4⟩:=ih c hc;obtain⟨c',SC,h5⟩:=Gc ih k c1 (acc++R) h3;exact⟨c',SC,R,c1,h1,h2,h3,h4,h5⟩
theorem wN {P:Qm->List QC->Qm->Prop}{d:Nat}:∀{k:Nat} {c c':Qm} {acc SC:List QC},xC P d k c acc c' SC->c.ok->c'.b=c.b/\c'.ok/\acc.length<=SC.length/\SC.length<=acc.length+k*5^d/\((∀t∈acc,t.J7.length<=8)->∀t∈SC,t.J7.length<=8)
 | 0,c,c',acc,SC,h,hc=>by
  obtain⟨rfl,rfl⟩:=h
  exact⟨rfl,hc,d7 _,o_,fun h=>h⟩
 | k+1,c,c',acc,SC,h,hc=>by
  obtain⟨R,c1,h1,h2,h3,_,h5⟩:=h;obtain⟨g1,g2,g3,g4,g5⟩:=wN h5 h3;rw[c7]at g3 g4;have hR:=h1.2.1;refine⟨g1.trans h2,g2,o_,by rw[p8];omega,fun H=>g5 fun t ht=>?_⟩;rcases f0.1 ht with ht|ht
  ·exact H t ht
  ·exact h1.2.2 t ht
theorem Oq {m:Int}{d:Nat}(h0:0<=m)(h1:m<2^(d+1))(hb:m<=1000):0<=IntKind.i64.wrap (m.tdiv 2)/\IntKind.i64.wrap (m.tdiv 2)<2^d/\IntKind.i64.wrap (m.tdiv 2)<=1000:=by exact V132
theorem iY (vars names:List (List UInt8))(ars:List Int)(hv:vars.length<=100)(hn:names.length<=100)(ha:ars.length=names.length)(X6:∀a∈ars,0<=a/\a<=4)(Zi:∀s∈vars,s.length<=8)(Zu:∀s∈names,s.length<=8):
  ∀(d:Nat) (m:Int) (c:Qm),d<=8->0<=m->m<2^d->m<=1000->c.ok->∃(R:List QC) (c':Qm),wI R d/\c'.b=c.b/\c'.ok/\bh prog 254 (GV m names ars) (NA vars c) (.r (.c (.own (1,0,0)))) (Mh vars c' R)
 | d,m,c,hd,h0,h1,hm,hc=>by
  have p5d:=On hd;have RP:(vars.map ah).length=vars.length:=s_;have RQ:(names.map ah).length=names.length:=s_;obtain⟨k,c1,k1,_,b1,o1,g1⟩:=cu c 10 hc;by_cases af6:2<m/\k<5
  ·cases d with
   | zero=>omega
   | succ d=>
    obtain⟨kd,c2,k2,_,b2,o2,g2⟩:=cu c1 5 o1;obtain⟨q1,q2,q3⟩:=Oq h0 h1 hm;obtain⟨R3,c3,t3,b3,o3,g3⟩:=iY vars names ars hv hn ha X6 Zi Zu d _ c2 o_ q1 q2 q3 o2;obtain⟨R4,c4,t4,b4,o4,g4⟩:=iY vars names ars hv hn ha X6 Zi Zu d _ c3 o_ q1 q2 q3 o3;have p5:=yL d;have p5':5^(d+1)=5*5^d:=(by rw[Nat.pow_succ];omega);have t3l:=t3.2.1;have t4l:=t4.2.1;refine⟨⟨2+kd,0,[]⟩::(R3++R4),c4,⟨s_,?_,?_⟩,((b4.trans b3).trans b2).trans b1,o4,?_⟩
    ·have:=t3.2.1;have:=t4.2.1;rw[d6,c7];omega
    ·intro t ht;rcases d8.1 ht with rfl|ht
     ·simp
     ·rcases f0.1 ht with ht|ht
      ·exact t3.2.2 t ht
      ·exact t4.2.2 t ht
    ·refine ax hΓ aF func254 rfl d_ rfl rfl ?_;repeat' ((conv=>whnf);first|apply Wx|apply W6|apply oi|apply fi|intro h|exact Y8|refine e_ rfl ?_)
     refine cg (g1) ?_;repeat' ((conv=>whnf);first|apply Wx|apply W6|apply oi|apply fi|intro h|exact Y6|refine e_ rfl ?_)
     all_goals try exact Q9
     refine cg (g2) ?_;repeat' ((conv=>whnf);first|apply Wx|apply W6|apply oi|apply fi|intro h|exact Y8|refine e_ rfl ?_)
     refine cg (g3) ?_;repeat' ((conv=>whnf);first|apply Wx|apply W6|apply oi|apply fi|intro h|exact Y8|refine e_ rfl ?_)
     all_goals try exact Q2
     refine cg (g4) ?_;repeat' ((conv=>whnf);first|apply Wx|apply W6|apply oi|apply fi|intro h|exact Y8|refine e_ rfl ?_)
     all_goals try exact Q2
     all_goals exact⟨by rw[c8 _ o_];simp[QC.tr]⟩
  ·by_cases QS:0<names.length/\1<m/\k<8
   ·cases d with
    | zero=>omega
    | succ d=>
     obtain⟨ST,VJ,hc3⟩:=QS;obtain⟨f,c2,kf,_,b2,o2,g2⟩:=cu c1 ((names.map ah).length:Int) o1;rw[RQ]at kf;have SJ:f<names.length:=(by have:=kf o_;omega);obtain⟨nm,Sp⟩:=ae SJ;obtain⟨a,haf⟩:=ae (l:=ars) (k:=f) o_;have Wv:=X6 a (c9 haf);obtain⟨an,rfl⟩:=i7 Wv.1;obtain⟨q1,q2,q3⟩:=Mr h0 h1 hm;have ih:=fun c hc=>iY vars names ars hv hn ha X6 Zi Zu d (IntKind.i64.wrap (m.tdiv 4)) c o_ q1 q2 q3 hc;have p5:=yL d;have p5':5^(d+1)=5*5^d:=(by rw[Nat.pow_succ];omega);obtain⟨c',R,Rx⟩:=Gc (P:=fun c R c'=>bh prog 254 (GV (IntKind.i64.wrap (m.tdiv 4)) names ars) (NA vars c) (.r (.c (.own (1,0,0)))) (Mh vars c' R)) (d:=d) ih an c2 [⟨7,an,nm⟩] o2;have hcp:=wN Rx o2;refine⟨R,c',⟨by have:=hcp.2.2.1;simp at this;omega,by have:=hcp.2.2.2.1;have h4:an*5^d<=4*5^d:=m5 _ o_;simp at this;omega,hcp.2.2.2.2 (by intro t ht;simp at ht;subst ht;exact Zu nm (c9 Sp))⟩,(hcp.1.trans b2).trans b1,hcp.2.1,?_⟩;refine ax hΓ aF func254 rfl d_ rfl rfl ?_;repeat' ((conv=>whnf);first|apply Wx|apply W6|apply oi|apply fi|intro h|exact Y8|refine e_ rfl ?_)
     refine cg (g1) ?_;repeat' ((conv=>whnf);first|apply Wx|apply W6|apply oi|apply fi|intro h|exact Y6|refine e_ rfl ?_)
     all_goals(
      refine cg (g2) ?_;have UK:(ars.map aa).length=ars.length:=s_;repeat' ((conv=>whnf);first|apply Wx|apply W6|apply oi|apply fi|intro h|refine⟨f,(aa an),rfl,ab haf,?_⟩|refine⟨f,(ah nm),rfl,ab Sp,?_⟩|exact Y8|refine e_ rfl ?_)
      conv=>whnf
      refine⟨{q:Nat×Qm×List QC//q.1<=an/\q.2.1.ok/\q.2.2.length<=1+q.1*5^d/\xC (fun c R c'=>bh prog 254 (GV (IntKind.i64.wrap (m.tdiv 4)) names ars) (NA vars c) (.r (.c (.own (1,0,0)))) (Mh vars c' R)) d (an-q.1) q.2.1 q.2.2 c' R},fun q=>⟨[(0,mz),(1,tI .i64 m),(2,.r (.c (.own (0,0,1)))),(3,vN names),(4,.r (.c (.t (.lst 1 (ars.map aa))))),(13,tI .i64 (f:Int)),(14,.r (.c (.own (14,0,0)))),(15,tI .i64 (q.1.1:Int))],[((0,0,0),some (.box [.t (.lst 1 (q.1.2.1.b.map bo)),.t (.int .i64 q.1.2.1.i),.t (.int .i64 q.1.2.1.h)])),((0,0,1),some (.arr false 1 (vars.map ah))),((14,0,0),some (.arr false 3 (q.1.2.2.map QC.tr)))],[14,0]⟩,fun q=>an-q.1.1,⟨(0,c2,[⟨7,an,nm⟩]),g_,o2,s_,Rx⟩,?_,?_⟩
      ·exact Z2
      intro⟨⟨i,ci,acc⟩,r1,r2,r3,r4⟩;dsimp only at r1 r2 r3 r4⊢;by_cases O4:i<an
      ·obtain⟨w,hw⟩:∃w,an-i=w+1:=⟨an-i-1,o_⟩;rw[hw]at r4;obtain⟨R5,c5,t5,b5,o5,g5,r5⟩:=r4;have t5l:=t5.2.1;have i5:i*5^d<=4*5^d:=m5 _ o_;have i6:(i+1)*5^d=i*5^d+5^d:=(by rw[p8];omega);repeat' ((conv=>whnf);first|apply Wx|apply W6|apply oi|apply fi|intro h|refine⟨f,(aa an),rfl,ab haf,?_⟩|exact Y6|refine e_ rfl ?_)
       refine cg (g5) ?_;repeat' ((conv=>whnf);first|apply Wx|apply W6|apply oi|apply fi|intro h|exact Y8|refine e_ rfl ?_)
       all_goals try exact Q2
       conv=>whnf
       refine⟨⟨(i+1,c5,acc++R5),g_,o5,by simp;omega,by rw[show an-(i+1)=w by omega];exact r5⟩,?_,KD⟩;repeat' ((conv=>whnf);first|apply Wx|apply W6|apply oi|apply fi|intro h|exact Y7|refine e_ rfl ?_)
       all_goals exact⟨s_⟩
      ·rw[show an-i=0 by omega]at r4;obtain⟨rfl,rfl⟩:=r4;repeat' ((conv=>whnf);first|apply Wx|apply W6|apply oi|apply fi|intro h|refine⟨f,(aa an),rfl,ab haf,?_⟩|exact Y6|refine e_ rfl ?_)
     )
   ·have pick:∀c:Qm,c.ok->∃(v:Int) (c':Qm),c'.b=c.b/\c'.ok/\bh prog 129 [mz,.r (.c (.own (0,0,1)))] (mD c++[((0,0,1),.arr false 1 (([0,1,2,3,10,999]:List Int).map aa))]) (tI .i64 v) (mD c'++[((0,0,1),.arr false 1 (([0,1,2,3,10,999]:List Int).map aa))]):=fun c hc=>by
     obtain⟨v,c',_,b,o,g⟩:=lJ c [0,1,2,3,10,999] hc d_ d_;exact⟨v,c',b,o,g⟩
    have p5:=yL d;have SZ:∀(t:QC),t.J7.length<=8->wI [t] d:=fun t ht=>⟨s_,by simpa using p5,by intro u hu;simp at hu;subst hu;exact ht⟩;by_cases agy:0<vars.length
    ·obtain⟨o,c2,b2,o2,g2⟩:=eS c1 2 o1
     cases o with
     | true=>
      obtain⟨f,c3,kf,_,b3,o3,g3⟩:=cu c2 ((vars.map ah).length:Int) o2;rw[RP]at kf;have SJ:f<vars.length:=(by have:=kf o_;omega);obtain⟨nm,Sp⟩:=ae SJ;have P7:f<(vars.map ah).length:=(by rw[RP];exact SJ);refine⟨[⟨1,0,nm⟩],c3,SZ _ (Zi nm (c9 Sp)),(b3.trans b2).trans b1,o3,?_⟩;refine ax hΓ aF func254 rfl d_ rfl rfl ?_;repeat' ((conv=>whnf);first|apply Wx|apply W6|apply oi|apply fi|intro h|exact Y8|refine e_ rfl ?_)
      refine cg (g1) ?_;repeat' ((conv=>whnf);first|apply Wx|apply W6|apply oi|apply fi|intro h|exact Y6|refine e_ rfl ?_)
      all_goals try exact Q9
      all_goals(
       refine cg (g2) ?_;repeat' ((conv=>whnf);first|apply Wx|apply W6|apply oi|apply fi|intro h|exact Y8|refine e_ rfl ?_)
       refine cg (g3) ?_;repeat' ((conv=>whnf);first|apply Wx|apply W6|apply oi|apply fi|intro h|refine⟨f,rfl,P7,?_⟩|refine⟨(ah nm),ab Sp,?_⟩|exact Y8|refine e_ rfl ?_)
      )
     | false=>
      obtain⟨v,c3,b3,o3,g3⟩:=pick c2 o2;refine⟨[⟨0,v,[]⟩],c3,SZ _ s_,(b3.trans b2).trans b1,o3,?_⟩;refine ax hΓ aF func254 rfl d_ rfl rfl ?_;repeat' ((conv=>whnf);first|apply Wx|apply W6|apply oi|apply fi|intro h|exact Y8|refine e_ rfl ?_)
      refine cg (g1) ?_;repeat' ((conv=>whnf);first|apply Wx|apply W6|apply oi|apply fi|intro h|exact Y6|refine e_ rfl ?_)
      all_goals try exact Q9
      all_goals(
       refine cg (g2) ?_;repeat' ((conv=>whnf);first|apply Wx|apply W6|apply oi|apply fi|intro h|exact Y8|refine e_ rfl ?_)
       refine cg (g3) ?_;exact Z2
      )
    ·obtain⟨v,c3,b3,o3,g3⟩:=pick c1 o1;refine⟨[⟨0,v,[]⟩],c3,SZ _ s_,b3.trans b1,o3,?_⟩;refine ax hΓ aF func254 rfl d_ rfl rfl ?_;repeat' ((conv=>whnf);first|apply Wx|apply W6|apply oi|apply fi|intro h|exact Y8|refine e_ rfl ?_)
     refine cg (g1) ?_;repeat' ((conv=>whnf);first|apply Wx|apply W6|apply oi|apply fi|intro h|exact Y6|refine e_ rfl ?_)
     all_goals try exact Q9
     all_goals(
      refine cg (g3) ?_;exact Z2
     )
termination_by d=>d
def LZ (h:Int)(u:UInt8):Int:=IntKind.i64.wrap ((BitVec.ofInt IntKind.i64.bits (IntKind.i64.wrap (IntKind.i64.wrap (IntKind.i64.wrap (h*131)+IntKind.i64.wrap (u.toNat:Int))+7)) &&& BitVec.ofInt IntKind.i64.bits 1073741823).toNat:Int)
def IE (code:List UInt8):Int:=(code.take 4000).foldl LZ (IntKind.i64.wrap (33147+((code.map bo).length:Int)))
theorem Ax (code:List UInt8)(hl:code.length<=1048576):bh prog 57 [.r (.c (.t (.lst 1 (code.map bo))))] [] (.r (.c (.ptr (1,0,0) 0))) [((1,0,0),.box [.t (.lst 1 (code.map bo)),.t (.int .i64 0),.t (.int .i64 (IE code))])]:=by
 refine ax hΓ aF func57 rfl d_ rfl rfl ?_;have O2:(code.map bo).length=code.length:=s_;obtain⟨H,hH⟩:∃H,IE code=H:=⟨_,rfl⟩;rw[hH];have ht:(code.take 4000).length<=4000:=by simp;omega
 repeat' ((conv=>whnf);first|apply Wx|apply W6|apply oi|apply fi|intro h|exact Y8|refine e_ rfl ?_)
 conv=>whnf
 refine⟨{q:Nat×Int//q.1<=code.length/\((code.take 4000).drop q.1).foldl LZ q.2=H},fun q=>⟨[(0,.r (.c (.t (.lst 1 (code.map bo))))),(3,tI .i64 q.1.2),(4,tI .i64 (q.1.1:Int))],[],[0]⟩,fun q=>code.length-q.1.1,⟨(0,IntKind.i64.wrap (33147+((code.map bo).length:Int))),g_,hH⟩,?_,?_⟩
 ·exact Z2
 intro⟨⟨i,hv⟩,hi,hr⟩;dsimp only at hi hr⊢;by_cases O4:i<code.length/\i<4000
 ·obtain⟨u,hu⟩:=ae O4.1;rw[dX (x:=u) (by rw[n7,b9 O4.2];exact hu),List.foldl_cons]at hr;repeat' ((conv=>whnf);first|apply Wx|apply W6|apply oi|apply fi|intro h|refine⟨i,(bo u),rfl,ab hu,?_⟩|exact Y6|refine e_ rfl ?_)
  conv=>whnf
  refine⟨⟨(i+1,LZ hv u),g_,hr⟩,?_,KD⟩;repeat' ((conv=>whnf);first|apply Wx|apply W6|apply oi|apply fi|intro h|exact Y7|refine e_ rfl ?_)
  all_goals exact⟨rfl⟩
 ·rw[m6 aad]at hr;have hr:hv=H:=hr;subst hr;exact Z6
abbrev Pw (vars names:List (List UInt8))(ars:List Int)(c:Qm):List (Sim.Id×AO):=[((0,0,0),.box [.ptr (0,0,1) 0,.own (0,0,2),.t (.lst 1 (names.map ah)),.t (.lst 1 (ars.map aa))]),((0,0,1),.box [.t (.lst 1 (c.b.map bo)),.t (.int .i64 c.i),.t (.int .i64 c.h)]),((0,0,2),.arr false 1 (vars.map ah))]
theorem sK (vars names:List (List UInt8))(ars:List Int)(hv:vars.length<=100)(hn:names.length<=100)(ha:ars.length=names.length)(X6:∀a∈ars,0<=a/\a<=4)(Zi:∀s∈vars,s.length<=8)(Zu:∀s∈names,s.length<=8)
  (d:Nat) (m:Int) (c:Qm) (hd:d<=8) (h0:0<=m) (h1:m<2^d) (hm:m<=1000) (hc:c.ok):∃(R:List QC) (c':Qm),wI R d/\c'.b=c.b/\c'.ok/\bh prog 227 [mz,tI .i64 m] (Pw vars names ars c) (.r (.c (.own (1,0,0)))) (Pw vars names ars c'++[((1,0,0),.arr false 3 (R.map QC.tr))]):=by
 obtain⟨R,c',t1,b1,o1,g1⟩:=iY vars names ars hv hn ha X6 Zi Zu d m c hd h0 h1 hm hc;refine⟨R,c',t1,b1,o1,?_⟩;refine ax hΓ aF func227 rfl d_ rfl rfl ?_;repeat' ((conv=>whnf);first|apply Wx|apply W6|apply oi|apply fi|intro h|exact Y8|refine e_ rfl ?_)
 refine cg (g1) ?_;exact Z2
noncomputable section
open Classical (propDecidable)
attribute [local instance] propDecidable
def cL (n:Int)(c:Qm):Nat×Qm:=if h:c.ok then(Classical.choose (cu c n h),Classical.choose (t9 (cu c n h)))else(0,c)
theorem cE {c:Qm}(h:c.ok)(n:Int):(0<n->((cL n c).1:Int)<n)/\(cL n c).2.b=c.b/\(cL n c).2.ok/\bh prog 130 [mz,tI .i64 n] (mD c) (tI .i64 (cL n c).1) (mD (cL n c).2):=by rw[cL,dif_pos h];have:=t9 (t9 (cu c n h));exact⟨this.1,this.2.2.1,this.2.2.2.1,this.2.2.2.2⟩
def lL (n:Int)(c:Qm):Bool×Qm:=if h:c.ok then(Classical.choose (eS c n h),Classical.choose (t9 (eS c n h)))else(false,c)
theorem ju {c:Qm}(h:c.ok)(n:Int):(lL n c).2.b=c.b/\(lL n c).2.ok/\bh prog 171 [mz,tI .i64 n] (mD c) (tB (lL n c).1) (mD (lL n c).2):=by rw[lL,dif_pos h];exact t9 (t9 (eS c n h))
structure GP where
 vars:List (List UInt8)
 names:List (List UInt8)
 ars:List Int
structure GP.ok (G:GP):Prop where
 v1:0<G.vars.length
 v:G.vars.length<=100
 n:G.names.length<=100
 a:G.ars.length=G.names.length
 a4:∀a∈G.ars,0<=a/\a<=4
 v8:∀s∈G.vars,s.length<=8
 n8:∀s∈G.names,s.length<=8
abbrev gH (G:GP)(c:Qm):List (Sim.Id×AO):=Pw G.vars G.names G.ars c
theorem gex {G:GP}(hG:G.ok){c:Qm}(hc:c.ok)(m:Nat)(hm:m<8):∃(R:List QC) (c':Qm),wI R 3/\c'.b=c.b/\c'.ok/\bh prog 227 [mz,tI .i64 (m:Int)] (gH G c) (.r (.c (.own (1,0,0)))) (gH G c'++[((1,0,0),.arr false 3 (R.map QC.tr))]):=
 sK G.vars G.names G.ars hG.v hG.n hG.a hG.a4 hG.v8 hG.n8 3 (m:Int) c o_ o_ (by show(m:Int)<8;omega) o_ hc
def exV (G:GP)(m:Nat)(c:Qm):List QC×Qm:=if h:G.ok/\c.ok/\m<8 then(Classical.choose (gex h.1 h.2.1 m h.2.2),Classical.choose (t9 (gex h.1 h.2.1 m h.2.2)))else([],c)
theorem fv {G:GP}(hG:G.ok){c:Qm}(hc:c.ok)(m:Nat)(hm:m<8):wI (exV G m c).1 3/\(exV G m c).2.b=c.b/\(exV G m c).2.ok/\bh prog 227 [mz,tI .i64 (m:Int)] (gH G c) (.r (.c (.own (1,0,0)))) (gH G (exV G m c).2++[((1,0,0),.arr false 3 ((exV G m c).1.map QC.tr))]):=by rw[exV,dif_pos ⟨hG,hc,hm⟩];exact t9 (t9 (gex hG hc m hm))
def lg (G:GP)(rc:Nat->Qm->List Qt×Qm)(dp:Bool)(c:Qm):List Qt×Qm:=
 let k:=(cL 9 c).1
 let c1:=(cL 9 c).2
 if k<4 then
  let v:=cL G.vars.length c1
  let e:=exV G 6 v.2
  ([⟨1,G.vars[v.1]?.getD [],[],e.1⟩],e.2)
 else if k<6 then
  let e:=exV G 5 c1
  ([⟨2,[],[],e.1⟩],e.2)
 else if k=6/\dp=true then
  let e:=exV G 4 c1
  let t:=cL 2 e.2
  let B:=rc (1+t.1) t.2
  let o:=lL 2 B.2
  if o.1=true then
   let E:=rc 1 o.2
   (⟨3,[],[],e.1⟩::(B.1++(⟨4,[],[],[]⟩::(E.1++[⟨7,[],[],[]⟩]))),E.2)
  else(⟨3,[],[],e.1⟩::(B.1++[⟨7,[],[],[]⟩]),o.2)
 else if k=7/\dp=true then
  let t:=cL 3 c1
  let B:=rc 1 t.2
  (⟨5,[],[],[⟨5,0,[]⟩,⟨1,0,[105]⟩,⟨0,(1+t.1:Nat),[]⟩]⟩::(B.1++[⟨1,[105],[],[⟨2,0,[]⟩,⟨1,0,[105]⟩,⟨0,1,[]⟩]⟩,⟨7,[],[],[]⟩]),B.2)
 else
  let o:=lL 3 c1
  if o.1=true then
   let e:=exV G 4 o.2
   ([⟨6,[],[],e.1⟩],e.2)
  else([],o.2)
def oq (G:GP)(rc:Nat->Qm->List Qt×Qm)(dp:Bool):Nat->Qm->List Qt×Qm
 | 0,c=>([],c)
 | n+1,c=>((lg G rc dp c).1++(oq G rc dp n (lg G rc dp c).2).1,(oq G rc dp n (lg G rc dp c).2).2)
def wa (G:GP):Nat->Nat->Qm->List Qt×Qm
 | 0=>oq G (fun _ c=>([],c)) false
 | d+1=>oq G (wa G d) true
end
def sB:Nat->Nat
 | 0=>1
 | d+1=>3+3*sB d
structure BL (x:Qt):Prop where
 name:x.J7.length<=8
 args:x.L3=[]
 len:x.L0.length<=125
 tok:∀t∈x.L0,t.J7.length<=8
 kind:1<=x.J0/\x.J0<=7
structure RcOk (s:Nat) (rc:Nat->Qm->List Qt×Qm):Prop where
 len:∀n c,c.ok->(rc n c).1.length<=n*s
 b:∀n c,c.ok->(rc n c).2.b=c.b
 ok:∀n c,c.ok->(rc n c).2.ok
 bl:∀n c,c.ok->∀x∈(rc n c).1,BL x
theorem BB {k:Int}{n:List UInt8}{e:List QC}(hn:n.length<=8)(h:wI e 3)(hk:1<=k/\k<=7:=by omega):BL ⟨k,n,[],e⟩:=⟨hn,rfl,h.2.1,h.2.2,hk⟩
theorem yT {k:Int}(hk:1<=k/\k<=7:=by omega):BL ⟨k,[],[],[]⟩:=⟨s_,rfl,s_,s_,hk⟩
theorem Dc {G:GP}(hG:G.ok){s:Nat}{rc:Nat->Qm->List Qt×Qm}{dp:Bool}(h:dp=true->RcOk s rc){c:Qm}(hc:c.ok):
  (lg G rc dp c).1.length<=3+3*s/\(dp=false->(lg G rc dp c).1.length<=1)/\(lg G rc dp c).2.b=c.b/\(lg G rc dp c).2.ok/\∀x∈(lg G rc dp c).1,BL x:=by
 obtain⟨k1,b1,o1,_⟩:=cE hc 9;unfold lg;dsimp only
 generalize(cL 9 c).1=k at *
 generalize(cL 9 c).2=c1 at *
 split
 ·obtain⟨k2,b2,o2,_⟩:=cE o1 (G.vars.length:Int);obtain⟨t3,b3,o3,_⟩:=fv hG o2 6 o_;refine⟨by simp;omega,fun _=>s_,(b3.trans b2).trans b1,o3,fun x hx=>?_⟩;simp only[t6]at hx;subst hx;refine BB ?_ t3
  cases hv:G.vars[(cL (G.vars.length:Int) c1).1]? with|none=>simp|some v=>exact hG.v8 v (c9 hv)
 split
 ·obtain⟨t3,b3,o3,_⟩:=fv hG o1 5 o_;refine⟨by simp;omega,fun _=>s_,b3.trans b1,o3,fun x hx=>?_⟩;simp only[t6]at hx;subst hx;exact BB s_ t3
 split
 ·rename_i hk;have hr:=h hk.2;obtain⟨t3,b3,o3,_⟩:=fv hG o1 4 o_;obtain⟨k4,b4,o4,_⟩:=cE o3 2;have hl:=hr.len (1+(cL 2 (exV G 4 c1).2).1) _ o4;have SS:=hr.b (1+(cL 2 (exV G 4 c1).2).1) _ o4;have WB:=hr.ok (1+(cL 2 (exV G 4 c1).2).1) _ o4;have U0:=hr.bl (1+(cL 2 (exV G 4 c1).2).1) _ o4;have ZE:=k4 o_;have SR:(rc (1+(cL 2 (exV G 4 c1).2).1) (cL 2 (exV G 4 c1).2).2).1.length<=2*s:=s8 hl (m5 _ o_)
  generalize rc (1+(cL 2 (exV G 4 c1).2).1) (cL 2 (exV G 4 c1).2).2=B at *
  obtain⟨b5,o5,_⟩:=ju WB 2;split
  ·have hl3:=hr.len 1 _ o5;have hb3:=hr.b 1 _ o5;have ho3:=hr.ok 1 _ o5;have hx3:=hr.bl 1 _ o5
   generalize rc 1 (lL 2 B.2).2=E at *
   refine⟨by simp;omega,(fun e=>by rw[e]at hk;cases hk.2),((((hb3.trans b5).trans SS).trans b4).trans b3).trans b1,ho3,fun x hx=>?_⟩;simp only[d8,f0,m8,or_false]at hx;rcases hx with rfl|hx|rfl|hx|rfl
   ·exact BB s_ t3
   ·exact U0 x hx
   ·exact yT
   ·exact hx3 x hx
   ·exact yT
  ·refine⟨by simp;omega,(fun e=>by rw[e]at hk;cases hk.2),(((b5.trans SS).trans b4).trans b3).trans b1,o5,fun x hx=>?_⟩;simp only[d8,f0,m8,or_false]at hx;rcases hx with rfl|hx|rfl
   ·exact BB s_ t3
   ·exact U0 x hx
   ·exact yT
 split
 ·rename_i hk;have hr:=h hk.2;obtain⟨k4,b4,o4,_⟩:=cE o1 3;have hl3:=hr.len 1 _ o4;have hb3:=hr.b 1 _ o4;have ho3:=hr.ok 1 _ o4;have hx3:=hr.bl 1 _ o4
  generalize rc 1 (cL 3 c1).2=B at *
  refine⟨by simp;omega,(fun e=>by rw[e]at hk;cases hk.2),(hb3.trans b4).trans b1,ho3,fun x hx=>?_⟩;simp only[d8,f0,m8,or_false]at hx;rcases hx with rfl|hx|rfl|rfl
  ·exact⟨s_,rfl,s_,s_,s_⟩
  ·exact hx3 x hx
  ·exact⟨s_,rfl,s_,s_,s_⟩
  ·exact yT
 ·obtain⟨b5,o5,_⟩:=ju o1 3;split
  ·obtain⟨t3,b3,o3,_⟩:=fv hG o5 4 o_;refine⟨by simp;omega,fun _=>s_,(b3.trans b5).trans b1,o3,fun x hx=>?_⟩;simp only[t6]at hx;subst hx;exact BB s_ t3
  ·exact⟨s_,fun _=>s_,b5.trans b1,o5,fun x hx=>by cases hx⟩
theorem Nt {G:GP}{rc:Nat->Qm->List Qt×Qm}{dp:Bool}{s:Nat}(hs:∀c:Qm,c.ok->(lg G rc dp c).1.length<=s/\(lg G rc dp c).2.b=c.b/\(lg G rc dp c).2.ok/\∀x∈(lg G rc dp c).1,BL x):RcOk s (oq G rc dp):=by
 have key:∀n c,c.ok->(oq G rc dp n c).1.length<=n*s/\(oq G rc dp n c).2.b=c.b/\(oq G rc dp n c).2.ok/\∀x∈(oq G rc dp n c).1,BL x:=by
  intro n
  induction n with
  | zero=>exact fun c hc=>⟨by simp[oq],rfl,hc,fun x hx=>by simp[oq]at hx⟩
  | succ n ih=>
   intro c hc;obtain⟨h1,h2,h3,h4⟩:=hs c hc;obtain⟨i1,i2,i3,i4⟩:=ih _ h3;rw[oq];refine⟨by simp only[c7];rw[Nat.succ_mul];omega,i2.trans h2,i3,fun x hx=>?_⟩;rcases f0.1 hx with hx|hx
   ·exact h4 x hx
   ·exact i4 x hx
 exact⟨fun n c hc=>(key n c hc).1,fun n c hc=>(key n c hc).2.1,fun n c hc=>(key n c hc).2.2.1,fun n c hc=>(key n c hc).2.2.2⟩
theorem qF {G:GP}(hG:G.ok):∀d,RcOk (sB d) (wa G d)
 | 0=>Nt fun c hc=>by
  have:=Dc hG (s:=0) (rc:=fun _ c=>([],c)) (dp:=false) (fun e=>by cases e) hc
  exact⟨this.2.1 rfl,this.2.2⟩
 | d+1=>Nt fun c hc=>by
  have:=Dc hG (dp:=true) (fun _=>qF hG d) hc;exact⟨this.1,this.2.2⟩
end Go.Proofs.P
namespace Go.Proofs.P
open Go.Sim Tryz
def dr (x:Qt):List DC:=match x.L0 with
 | []=>[.t (.int .i64 x.J0),.t (.str x.J7),.t (.lst 0 []),.t (.lst 0 [])]
 | t::l=>[.d (.int .i64 x.J0),.d (.str x.J7),.d (.lst 0 []),.d (.lst 3 ((t::l).map QC.tr))]
theorem ve (k:Int)(n:List UInt8)(a:List (List UInt8)):dr ⟨k,n,a,[]⟩=[.t (.int .i64 k),.t (.str n),.t (.lst 0 []),.t (.lst 0 [])]:=rfl
theorem NC (k:Int)(n:List UInt8)(a:List (List UInt8))(t:QC)(l:List QC):dr ⟨k,n,a,t::l⟩=[.d (.int .i64 k),.d (.str n),.d (.lst 0 []),.d (.lst 3 ((t::l).map QC.tr))]:=rfl
theorem pt {e:List QC}(h:0<e.length)(k:Int)(n:List UInt8)(a:List (List UInt8)):dr ⟨k,n,a,e⟩=[.d (.int .i64 k),.d (.str n),.d (.lst 0 []),.d (.lst 3 (e.map QC.tr))]:=by
 cases e with
 | nil=>cases h
 | cons t l=>rfl
abbrev MZ (G:GP)(n:Nat)(d:Int)(c:Qm)(R:List Qt×Qm):Prop:=bh prog 226 [mz,tI .i64 (n:Int),tI .i64 d] (gH G c) (.r (.c (.own (1,0,0)))) (gH G R.2++[((1,0,0),.dar 4 (R.1.map dr) none)])
theorem OT {G:GP}(hG:G.ok){rc:Nat->Qm->List Qt×Qm}{dp:Bool}{s d:Nat}(hd:d<=5)(hdp:dp=decide (0<d))(hs:3+3*s<=1000)(hR:dp=true->RcOk s rc)(Xv:dp=true->∀n c,n<=2->c.ok->MZ G n ((d:Int)-1) c (rc n c))(n:Nat)(c:Qm)(hn:n<=4)(hc:c.ok):
  MZ G n d c (oq G rc dp n c):=by
 refine ax hΓ aF func226 rfl d_ rfl rfl ?_;obtain⟨R,c',UM⟩:∃R c',oq G rc dp n c=(R,c'):=⟨_,_,rfl⟩;rw[UM];have RP:(G.vars.map ah).length=G.vars.length:=s_;repeat' ((conv=>whnf);first|apply Wx|apply W6|apply oi|apply fi|intro h|exact Y8|refine e_ rfl ?_)
 conv=>whnf
 refine⟨{q:Nat×Qm×List Qt//q.1<=n/\q.2.1.ok/\q.2.2.length+q.1*1000<=4000/\q.2.2++(oq G rc dp q.1 q.2.1).1=R/\(oq G rc dp q.1 q.2.1).2=c'},fun q=>⟨[(0,mz),(1,tI .i64 (q.1.1:Int)),(2,tI .i64 (d:Int)),(7,.r (.c (.own (10,0,0))))],[((0,0,0),some (.box [.ptr (0,0,1) 0,.own (0,0,2),.t (.lst 1 (G.names.map ah)),.t (.lst 1 (G.ars.map aa))])),((0,0,1),some (.box [.t (.lst 1 (q.1.2.1.b.map bo)),.t (.int .i64 q.1.2.1.i),.t (.int .i64 q.1.2.1.h)])),((0,0,2),some (.arr false 1 (G.vars.map ah))),((10,0,0),some (.dar 4 (q.1.2.2.map dr) none))],[10,0]⟩,fun q=>q.1.1,⟨(n,c,[]),g_,hc,by simp;omega,by rw[UM];rfl,by rw[UM]⟩,?_,?_⟩
 ·repeat' ((conv=>whnf);first|apply Wx|apply W6|apply oi|apply fi|intro h|exact Y8|refine e_ rfl ?_)
  all_goals try exact⟨rfl⟩
 intro⟨⟨rem,ci,acc⟩,hi,UK,QZ,Sy,Rk⟩;dsimp only at hi UK QZ Sy Rk⊢
 cases rem with
 | zero=>
  simp only[oq,m7]at Sy Rk;subst Sy;subst Rk
  exact Z6
 | succ m=>
  rw[oq]at Sy Rk;dsimp only at Sy Rk;obtain⟨s1,_,s3,s4,_⟩:=Dc hG hR UK
  generalize hS:lg G rc dp ci=S at *
  obtain⟨k1,b1,o1,g1⟩:=cE UK 9;unfold lg at hS;dsimp only at hS
  generalize cL 9 ci=q at *
  rw[<-l9]at Sy;have O2:(acc++S.1).length+m*1000<=4000:=by rw[c7];omega
  by_cases hk4:q.1<4
  ·rw[b9 hk4]at hS;obtain⟨k2,b2,o2,g2⟩:=cE o1 (G.vars.length:Int);obtain⟨t3,b3,o3,g3⟩:=fv hG o2 6 o_
   generalize cL (G.vars.length:Int) q.2=v at *
   generalize exV G 6 v.2=e at *
   subst hS;have kv:=hG.v1;have hvv:v.1<(G.vars.map ah).length:=(by have:=k2 o_;omega);obtain⟨nm,Sp⟩:=ae (l:=G.vars) (k:=v.1) o_;have hvg:(G.vars.map ah)[v.1]?=some (ah nm):=ab Sp;rw[RP.symm]at g2;repeat' ((conv=>whnf);first|apply Wx|apply W6|apply oi|apply fi|intro h|exact Y8|refine e_ rfl ?_)
   refine cg (g1) ?_;repeat' ((conv=>whnf);first|apply Wx|apply W6|apply oi|apply fi|intro h|exact Y6|refine e_ rfl ?_)
   refine cg (g2) ?_;repeat' ((conv=>whnf);first|apply Wx|apply W6|apply oi|apply fi|intro h|refine⟨_,rfl,hvv,?_⟩|refine⟨_,hvg,?_⟩|exact Y8|refine e_ rfl ?_)
   refine cg (g3) ?_;repeat' ((conv=>whnf);first|apply Wx|apply W6|apply oi|apply fi|intro h|exact Y8|refine e_ rfl ?_)
   all_goals try exact Q17
   all_goals try exact Q2
   all_goals try exact Q15
   conv=>whnf
   refine⟨⟨(m,_,_),g_,s4,O2,Sy,Rk⟩,?_,KD⟩;repeat' ((conv=>whnf);first|apply Wx|apply W6|apply oi|apply fi|intro h|exact Y16|refine e_ rfl ?_)
   all_goals exact⟨by simp[pt t3.1,Sp]⟩
  rw[b8 hk4]at hS;by_cases Zn:q.1<6
  ·rw[b9 Zn]at hS;obtain⟨t3,b3,o3,g3⟩:=fv hG o1 5 o_
   generalize exV G 5 q.2=e at *
   subst hS;repeat' ((conv=>whnf);first|apply Wx|apply W6|apply oi|apply fi|intro h|exact Y8|refine e_ rfl ?_)
   refine cg (g1) ?_;repeat' ((conv=>whnf);first|apply Wx|apply W6|apply oi|apply fi|intro h|exact Y6|refine e_ rfl ?_)
   refine cg (g3) ?_;repeat' ((conv=>whnf);first|apply Wx|apply W6|apply oi|apply fi|intro h|exact Y8|refine e_ rfl ?_)
   all_goals try exact Q17
   all_goals try exact Q2
   all_goals try exact Q15
   conv=>whnf
   refine⟨⟨(m,_,_),g_,s4,O2,Sy,Rk⟩,?_,KD⟩;repeat' ((conv=>whnf);first|apply Wx|apply W6|apply oi|apply fi|intro h|exact Y16|refine e_ rfl ?_)
   all_goals exact⟨by simp[pt t3.1]⟩
  rw[b8 Zn]at hS;by_cases TX:q.1=6/\dp=true
  ·rw[b9 TX]at hS;obtain⟨TX,U4⟩:=TX;have Vk:0<d:=(by rw[hdp]at U4;exact j5 U4);have hRo:=hR U4;obtain⟨t3,b3,o3,g3⟩:=fv hG o1 4 o_
   generalize exV G 4 q.2=e at *
   obtain⟨k4,b4,o4,g4⟩:=cE o3 2
   generalize cL 2 e.2=t at *
   have g5:=Xv U4 (1+t.1) t.2 (by have:=k4 o_;omega) o4;have l5:=hRo.len (1+t.1) t.2 o4;have ob5:=hRo.ok (1+t.1) t.2 o4;have l5':(rc (1+t.1) t.2).1.length<=2*s:=s8 l5 (m5 _ (by have:=k4 o_;omega))
   generalize rc (1+t.1) t.2=B at *
   obtain⟨b6,o6,g6⟩:=ju ob5 2
   generalize lL 2 B.2=o at *
   cases ho:o.1 with
   | true=>
    rw[b9 ho]at hS;rw[ho]at g6;have g7:=Xv U4 1 o.2 o_ o6;have l7:=hRo.len 1 o.2 o6
    generalize rc 1 o.2=E at *
    subst hS;repeat' ((conv=>whnf);first|apply Wx|apply W6|apply oi|apply fi|intro h|exact Y8|refine e_ rfl ?_)
    refine cg (g1) ?_;repeat' ((conv=>whnf);first|apply Wx|apply W6|apply oi|apply fi|intro h|exact Y15|refine e_ rfl ?_)
    refine cg (g3) ?_;repeat' ((conv=>whnf);first|apply Wx|apply W6|apply oi|apply fi|intro h|exact Y8|refine e_ rfl ?_)
    all_goals try exact Q17
    all_goals try exact Q2
    all_goals try exact Q15
    refine cg (g4) ?_;repeat' ((conv=>whnf);first|apply Wx|apply W6|apply oi|apply fi|intro h|exact Y8|refine e_ rfl ?_)
    all_goals try exact Q17
    all_goals try exact Q2
    all_goals try exact Q15
    refine cg (g5) ?_;repeat' ((conv=>whnf);first|apply Wx|apply W6|apply oi|apply fi|intro h|exact Y8|refine e_ rfl ?_)
    all_goals try exact Q17
    all_goals try exact Q2
    all_goals try exact Q15
    refine cg (g6) ?_;repeat' ((conv=>whnf);first|apply Wx|apply W6|apply oi|apply fi|intro h|exact Y8|refine e_ rfl ?_)
    all_goals try exact Q17
    all_goals try exact Q2
    all_goals try exact Q15
    refine cg (g7) ?_;repeat' ((conv=>whnf);first|apply Wx|apply W6|apply oi|apply fi|intro h|exact Y8|refine e_ rfl ?_)
    all_goals try exact Q17
    all_goals try exact Q2
    all_goals try exact Q15
    conv=>whnf
    refine⟨⟨(m,_,_),g_,s4,O2,Sy,Rk⟩,?_,KD⟩;repeat' ((conv=>whnf);first|apply Wx|apply W6|apply oi|apply fi|intro h|exact Y16|refine e_ rfl ?_)
    all_goals exact⟨by simp[pt t3.1,ve]⟩
   | false=>
    rw[b8 aao]at hS;rw[ho]at g6;subst hS;repeat' ((conv=>whnf);first|apply Wx|apply W6|apply oi|apply fi|intro h|exact Y8|refine e_ rfl ?_)
    refine cg (g1) ?_;repeat' ((conv=>whnf);first|apply Wx|apply W6|apply oi|apply fi|intro h|exact Y15|refine e_ rfl ?_)
    refine cg (g3) ?_;repeat' ((conv=>whnf);first|apply Wx|apply W6|apply oi|apply fi|intro h|exact Y8|refine e_ rfl ?_)
    all_goals try exact Q17
    all_goals try exact Q2
    all_goals try exact Q15
    refine cg (g4) ?_;repeat' ((conv=>whnf);first|apply Wx|apply W6|apply oi|apply fi|intro h|exact Y8|refine e_ rfl ?_)
    all_goals try exact Q17
    all_goals try exact Q2
    all_goals try exact Q15
    refine cg (g5) ?_;repeat' ((conv=>whnf);first|apply Wx|apply W6|apply oi|apply fi|intro h|exact Y8|refine e_ rfl ?_)
    all_goals try exact Q17
    all_goals try exact Q2
    all_goals try exact Q15
    refine cg (g6) ?_;repeat' ((conv=>whnf);first|apply Wx|apply W6|apply oi|apply fi|intro h|exact Y8|refine e_ rfl ?_)
    all_goals try exact Q17
    all_goals try exact Q2
    all_goals try exact Q15
    conv=>whnf
    refine⟨⟨(m,_,_),g_,s4,O2,Sy,Rk⟩,?_,KD⟩;repeat' ((conv=>whnf);first|apply Wx|apply W6|apply oi|apply fi|intro h|exact Y16|refine e_ rfl ?_)
    all_goals exact⟨by simp[pt t3.1,ve]⟩
  rw[b8 TX]at hS;by_cases ZQ:q.1=7/\dp=true
  ·rw[b9 ZQ]at hS;obtain⟨ZQ,U4⟩:=ZQ;have Vk:0<d:=(by rw[hdp]at U4;exact j5 U4);have hRo:=hR U4;obtain⟨k4,b4,o4,g4⟩:=cE o1 3
   generalize cL 3 q.2=t at *
   have ZE:=k4 o_;have YH:IntKind.i64.wrap (1+(t.1:Int))=1+(t.1:Int):=c8 _ o_;have g5:=Xv U4 1 t.2 o_ o4;have l5:=hRo.len 1 t.2 o4
   generalize rc 1 t.2=B at *
   subst hS;repeat' ((conv=>whnf);first|apply Wx|apply W6|apply oi|apply fi|intro h|exact Y8|refine e_ rfl ?_)
   refine cg (g1) ?_;repeat' ((conv=>whnf);first|apply Wx|apply W6|apply oi|apply fi|intro h|exact Y15|refine e_ rfl ?_)
   refine cg (g4) ?_;repeat' ((conv=>whnf);first|apply Wx|apply W6|apply oi|apply fi|intro h|exact Y8|refine e_ rfl ?_)
   all_goals try exact⟨aV [⟨5,0,[]⟩,⟨1,0,[105]⟩,⟨0,IntKind.i64.wrap (1+(t.1:Int)),[]⟩]⟩
   all_goals try exact Q17
   all_goals try exact Q2
   all_goals try exact Q15
   refine cg (g5) ?_;repeat' ((conv=>whnf);first|apply Wx|apply W6|apply oi|apply fi|intro h|exact Y8|refine e_ rfl ?_)
   all_goals try exact⟨aV [⟨2,0,[]⟩,⟨1,0,[105]⟩,⟨0,1,[]⟩]⟩
   all_goals try exact Q17
   all_goals try exact Q2
   all_goals try exact Q15
   conv=>whnf
   refine⟨⟨(m,_,_),g_,s4,O2,Sy,Rk⟩,?_,KD⟩;repeat' ((conv=>whnf);first|apply Wx|apply W6|apply oi|apply fi|intro h|exact Y16|refine e_ rfl ?_)
   all_goals exact⟨by simp[ve,NC,QC.tr,YH]⟩
  rw[b8 ZQ]at hS;have T0:¬(q.1=6/\0<d)/\¬(q.1=7/\0<d):=⟨fun h=>TX ⟨h.1,by rw[hdp];exact q9 h.2⟩,fun h=>ZQ ⟨h.1,by rw[hdp];exact q9 h.2⟩⟩;obtain⟨b6,o6,g6⟩:=ju o1 3
  generalize lL 3 q.2=o at *
  cases ho:o.1 with
  | true=>
   rw[b9 ho]at hS;rw[ho]at g6;obtain⟨t3,b3,o3,g3⟩:=fv hG o6 4 o_
   generalize exV G 4 o.2=e at *
   subst hS;repeat' ((conv=>whnf);first|apply Wx|apply W6|apply oi|apply fi|intro h|exact Y8|refine e_ rfl ?_)
   refine cg (g1) ?_;repeat' ((conv=>whnf);first|apply Wx|apply W6|apply oi|apply fi|intro h|exact Y15|refine e_ rfl ?_)
   all_goals(
    refine cg (g6) ?_;repeat' ((conv=>whnf);first|apply Wx|apply W6|apply oi|apply fi|intro h|exact Y8|refine e_ rfl ?_)
    refine cg (g3) ?_;repeat' ((conv=>whnf);first|apply Wx|apply W6|apply oi|apply fi|intro h|exact Y8|refine e_ rfl ?_)
    all_goals try exact Q17
    all_goals try exact Q2
    all_goals try exact Q15
    conv=>whnf
    refine⟨⟨(m,_,_),g_,s4,O2,Sy,Rk⟩,?_,KD⟩;repeat' ((conv=>whnf);first|apply Wx|apply W6|apply oi|apply fi|intro h|exact Y16|refine e_ rfl ?_)
    all_goals exact⟨by simp[pt t3.1]⟩)
  | false=>
   rw[b8 aao]at hS;rw[ho]at g6;subst hS;repeat' ((conv=>whnf);first|apply Wx|apply W6|apply oi|apply fi|intro h|exact Y8|refine e_ rfl ?_)
   refine cg (g1) ?_;repeat' ((conv=>whnf);first|apply Wx|apply W6|apply oi|apply fi|intro h|exact Y15|refine e_ rfl ?_)
   all_goals(
    refine cg (g6) ?_;repeat' ((conv=>whnf);first|apply Wx|apply W6|apply oi|apply fi|intro h|exact Y8|refine e_ rfl ?_)
    conv=>whnf
    refine⟨⟨(m,_,_),g_,s4,O2,Sy,Rk⟩,?_,KD⟩;repeat' ((conv=>whnf);first|apply Wx|apply W6|apply oi|apply fi|intro h|exact Y16|refine e_ rfl ?_)
    all_goals exact⟨s_⟩)
theorem DM {G:GP}(hG:G.ok):∀(d n:Nat) (c:Qm),d<=2->n<=4->c.ok->MZ G n d c (wa G d n c)
 | 0,n,c,_,hn,hc=>OT hG (s:=0) o_ rfl o_ (fun h=>by cases h) (fun h=>by cases h) n c hn hc
 | d+1,n,c,hd,hn,hc=>OT hG (s:=sB d) o_ s_ (by
   have:d=0\/d=1:=o_
   rcases this with rfl|rfl<;>simp[sB]) (fun _=>qF hG d) (fun _ m c' hm O8=>by
   have e:(((d+1:Nat):Int)-1)=(d:Int):=o_;rw[e]
   exact DM hG d m c' o_ o_ O8) n c hn hc
def nm0:List (List UInt8):=[[109,97,105,110],[102],[103,103],[104]]
def ar0:List Int:=[0,1,2,1]
def arg0:List (List UInt8):=[[120],[121]]
def arN (k:Nat):Nat:=(ar0[k]?.getD 0).toNat
def nmN (k:Nat):List UInt8:=nm0[k]?.getD []
def gpV (n k:Nat)(b:Bool):GP:=⟨arg0.take (arN k)++[[105],[122]],(nm0.take n).drop (if b=true then k else k+1),(ar0.take n).drop (if b=true then k else k+1)⟩
theorem CW {n k:Nat}(b:Bool):(gpV n k b).ok:=by
 refine⟨by simp[gpV],by simp[gpV,arg0];omega,by simp[gpV,nm0];omega,by simp[gpV,nm0,ar0],fun a ha=>?_,fun s hs=>?_,fun s hs=>?_⟩
 ·have:=u5 (B2 ha);simp[ar0]at this;omega
 ·simp only[gpV,f0]at hs;rcases hs with hs|hs
  ·have:=u5 hs;simp[arg0]at this;rcases this with rfl|rfl<;>simp
  ·simp at hs;rcases hs with rfl|rfl<;>simp
 ·have:=u5 (B2 hs);simp[nm0]at this;rcases this with rfl|rfl|rfl|rfl<;>simp
noncomputable def AA (n k:Nat) (c:Qm):List Qt×Qm:=
 let o:=if 0<k then lL 5 c else(false,c)
 let G:=gpV n k o.1
 let t:=cL 4 o.2
 let u:=cL 2 t.2
 let B:=wa G (1+u.1) (1+t.1) u.2
 let e:=exV G 3 B.2
 (⟨0,nmN k,arg0.take (arN k),[]⟩::(B.1++[⟨6,[],[],e.1⟩,⟨7,[],[],[]⟩]),e.2)
noncomputable def lA (n:Nat):Nat->Nat->Qm->List Qt×Qm
 | 0,_,c=>([],c)
 | r+1,k,c=>((AA n k c).1++(lA n r (k+1) (AA n k c).2).1,(lA n r (k+1) (AA n k c).2).2)
noncomputable def mW (c:Qm):List Qt×Qm:=lA (1+(cL 4 c).1) (1+(cL 4 c).1) 0 (cL 4 c).2
def drP (x:Qt):List DC:=if x.J0=0 then [.d (.int .i64 0),.d (.str x.J7),.d (.lst 1 (x.L3.map ah)),.d (.lst 0 [])]else dr x
structure PL (x:Qt):Prop where
 name:x.J7.length<=8
 args:x.L3.length<=2/\∀s∈x.L3,s.length<=8
 len:x.L0.length<=125
 tok:∀t∈x.L0,t.J7.length<=8
 fe:x.J0=0->x.L0=[]
 fa:x.J0≠0->x.L3=[]
theorem Ln {n k:Nat}{c:Qm}(hc:c.ok):(AA n k c).1.length<=200/\(AA n k c).2.b=c.b/\(AA n k c).2.ok/\∀x∈(AA n k c).1,PL x:=by
 unfold AA;dsimp only
 have ho:(if 0<k then lL 5 c else(false,c)).2.b=c.b/\(if 0<k then lL 5 c else(false,c)).2.ok:=by
  split
  ·have:=ju hc 5;exact⟨this.1,this.2.1⟩
  ·exact⟨rfl,hc⟩
 generalize(if 0<k then lL 5 c else(false,c))=o at *
 have hG:=CW (n:=n) (k:=k) o.1
 generalize gpV n k o.1=G at *
 obtain⟨k4,b4,o4,_⟩:=cE ho.2 4;obtain⟨k2,b2,o2,_⟩:=cE o4 2;have ZE:=k4 o_;have k2':=k2 o_;have hB:=qF hG (1+(cL 2 (cL 4 o.2).2).1);have hl:=hB.len (1+(cL 4 o.2).1) _ o2;have hb:=hB.b (1+(cL 4 o.2).1) _ o2;have hk:=hB.ok (1+(cL 4 o.2).1) _ o2;have hx:=hB.bl (1+(cL 4 o.2).1) _ o2
 have hs:sB (1+(cL 2 (cL 4 o.2).2).1)<=21:=by have:(cL 2 (cL 4 o.2).2).1=0\/(cL 2 (cL 4 o.2).2).1=1:=o_;rcases this with e|e<;>rw[e]<;>simp[sB]
 have SR:=A2 (show 1+(cL 4 o.2).1<=4 by omega) hs
 generalize wa G (1+(cL 2 (cL 4 o.2).2).1) (1+(cL 4 o.2).1) (cL 2 (cL 4 o.2).2).2=B at *
 obtain⟨t3,b3,o3,_⟩:=fv hG hk 3 o_;refine⟨by simp;omega,((b3.trans hb).trans b2).trans (b4.trans ho.1),o3,fun x h=>?_⟩;have U0:∀{x:Qt},BL x->PL x:=fun h=>⟨h.name,by rw[h.args];simp,h.len,h.tok,fun e=>by have:=h.kind;omega,fun _=>h.args⟩;simp only[d8,f0,m8,or_false]at h;rcases h with rfl|h|rfl|rfl
 ·refine⟨?_,⟨?_,fun s hs=>?_⟩,s_,s_,fun _=>rfl,fun e=>absurd rfl e⟩
  ·show(nmN k).length<=8;unfold nmN
   cases hn:nm0[k]? with
   | none=>simp
   | some v=>have:=c9 hn;simp[nm0]at this;rcases this with rfl|rfl|rfl|rfl<;>simp
  ·simp[arg0];omega
  ·have:=u5 hs;simp[arg0]at this;rcases this with rfl|rfl<;>simp
 ·exact U0 (hx x h)
 ·exact U0 (BB s_ t3)
 ·exact U0 yT
theorem DR (n:Nat):∀(r k:Nat) (c:Qm),c.ok->(lA n r k c).1.length<=r*200/\(lA n r k c).2.b=c.b/\(lA n r k c).2.ok/\∀x∈(lA n r k c).1,PL x
 | 0,_,c,hc=>⟨by simp[lA],rfl,hc,fun x hx=>by simp[lA]at hx⟩
 | r+1,k,c,hc=>by
  obtain⟨h1,h2,h3,h4⟩:=Ln (n:=n) (k:=k) hc;obtain⟨i1,i2,i3,i4⟩:=DR n r (k+1) _ h3;rw[lA];refine⟨by simp only[c7];omega,i2.trans h2,i3,fun x hx=>?_⟩;rcases f0.1 hx with hx|hx
  ·exact h4 x hx
  ·exact i4 x hx
theorem IM {c:Qm}(hc:c.ok):(mW c).1.length<=800/\(mW c).2.b=c.b/\(mW c).2.ok/\∀x∈(mW c).1,PL x:=by obtain⟨k1,b1,o1,_⟩:=cE hc 4;have k1':=k1 o_;obtain⟨h1,h2,h3,h4⟩:=DR (1+(cL 4 c).1) (1+(cL 4 c).1) 0 _ o1;have:=m5 200 (show 1+(cL 4 c).1<=4 by omega);exact⟨by unfold mW;omega,h2.trans b1,h3,h4⟩
theorem GW {l:List Qt}(h:∀x∈l,BL x):l.map dr=l.map drP:=by refine List.map_congr_left fun x hx=>?_;have:=(h x hx).kind;rw[drP,b8 o_]
theorem Ox {x:Qt}(h:PL x):((drP x).map DC.tr).length=x.tr.length/\∀(p:Nat) (c d:Tr),((drP x).map DC.tr)[p]?=some c->x.tr[p]?=some d->emE c d:=by
 obtain⟨k,n,a,e⟩:=x
 have key:∃u v,(drP ⟨k,n,a,e⟩).map DC.tr=[.int .i64 k,.str n,u,v]/\emE u (.lst 1 (a.map ah))/\emE v (.lst 3 (e.map QC.tr)):=by
  by_cases h0:k=0
  ·subst h0;have he:=h.fe rfl;dsimp only at he;subst he;exact⟨_,_,rfl,.inl rfl,.inr ⟨_,_,rfl,rfl⟩⟩
  ·have ha:=h.fa h0;dsimp only at ha;subst ha;rw[drP,b8 h0]
   cases e with|nil=>exact⟨_,_,rfl,.inr ⟨_,_,rfl,rfl⟩,.inr ⟨_,_,rfl,rfl⟩⟩|cons t l=>exact⟨_,_,rfl,.inr ⟨_,_,rfl,rfl⟩,.inl rfl⟩
 obtain⟨u,v,e1,e2,e3⟩:=key;rw[e1];refine⟨rfl,fun p c d hc hd=>?_⟩
 match p with|0=>simp[Qt.tr]at hc hd;subst hc;subst hd;exact .inl rfl|1=>simp[Qt.tr]at hc hd;subst hc;subst hd;exact .inl rfl|2=>simp[Qt.tr]at hc hd;subst hc;subst hd;exact e2|3=>simp[Qt.tr]at hc hd;subst hc;subst hd;exact e3|p+4=>simp at hc
theorem Ir:∀{l:List Qt},(∀x∈l,PL x)->emR ((l.map drP).map fun x=>x.map DC.tr) (l.map Qt.tr)
 | [],_=>trivial
 | x::l,h=>⟨Ox (h x s_),Ir fun y hy=>h y aba⟩
theorem V152{p:Prop}(h:p:=by
 have:u.1=0\/u.1=1:=o_
 rcases this with e|e<;>rw[e]<;>simp[sB]):p:=h
theorem Q25{p:Prop}(h:p:=by exact⟨by simp[drP,pt t3.1,ve,hx,y8,arg0,ah]⟩):p:=h
theorem tz (c:Qm)(hc:c.ok):bh prog 170 [mz] (mD c) (.r (.c (.t (.lst 4 ((mW c).1.map Qt.tr))))) (mD (mW c).2):=by
 obtain⟨k1,b1,o1,g1⟩:=cE hc 4;have k1':=k1 o_;refine ax hΓ aF func170 rfl d_ rfl rfl ?_;unfold mW
 generalize(cL 4 c).2=c1 at *
 obtain⟨n,hn⟩:∃n,1+(cL 4 c).1=n:=⟨_,rfl⟩;have hw:IntKind.i64.wrap (1+((cL 4 c).1:Int))=(n:Int):=by rw[c8 _ o_];omega
 rw[hn];obtain⟨R,c',UM⟩:∃R c',lA n n 0 c1=(R,c'):=⟨_,_,rfl⟩;have hPL:=(DR n n 0 _ o1).2.2.2;rw[UM]at hPL⊢;repeat' ((conv=>whnf);first|(with_reducible apply W1;fail_if_success (with_reducible show Wo _ _ _ _ (Code.seq (Code.region 5 _ _) _) _ _))|(with_reducible first|apply W2|apply W3|apply W4|apply W5|apply W6|apply W7|apply W8|apply W9)|apply au|apply oi|apply fi|intro h|exact Y8|refine e_ rfl ?_)
 refine cg (g1) ?_;repeat' ((conv=>whnf);first|(with_reducible apply W1;fail_if_success (with_reducible show Wo _ _ _ _ (Code.seq (Code.region 5 _ _) _) _ _))|(with_reducible first|apply W2|apply W3|apply W4|apply W5|apply W6|apply W7|apply W8|apply W9)|apply au|apply oi|apply fi|intro h|exact Y8|refine e_ rfl ?_)
 conv=>whnf
 refine kX ⟨[(0,mz),(3,vN nm0),(4,.r (.c (.t (.lst 1 (ar0.map aa))))),(5,tI .i64 (IntKind.i64.wrap (1+((cL 4 c).1:Int)))),(6,.r (.c (.own (15,0,0))))],[((0,0,0),some (.box [.t (.lst 1 (c1.b.map bo)),.t (.int .i64 c1.i),.t (.int .i64 c1.h)])),((15,0,0),some (.arr true 4 []))],[15,13,11,10,0]⟩ ?_ ?_ rfl ?_
 ·refine⟨.inl rfl,.inr ⟨_,_,rfl,rfl,rfl,?_⟩,.inr ⟨_,_,rfl,rfl,rfl,?_⟩,.inl rfl,.inl rfl,trivial⟩;all_goals(intro q hq;simp only[AC.ids,d8,m8,or_false]at hq;subst hq;rfl)
 ·exact⟨.inr rfl,.inr rfl,trivial⟩
 rw[hw];repeat' ((conv=>whnf);first|apply Wx|apply W6|apply oi|apply fi|intro h|exact Y8|refine e_ rfl ?_)
 conv=>whnf
 refine⟨{q:Nat×Qm×List Qt//q.1<=n/\q.2.1.ok/\q.2.2.length+(n-q.1)*200<=800/\q.2.2++(lA n (n-q.1) q.1 q.2.1).1=R/\(lA n (n-q.1) q.1 q.2.1).2=c'},fun q=>⟨[(0,mz),(3,vN nm0),(4,.r (.c (.t (.lst 1 (ar0.map aa))))),(5,tI .i64 (n:Int)),(6,.r (.c (.own (15,0,0)))),(7,tI .i64 (q.1.1:Int))],[((0,0,0),some (.box [.t (.lst 1 (q.1.2.1.b.map bo)),.t (.int .i64 q.1.2.1.i),.t (.int .i64 q.1.2.1.h)])),((15,0,0),some (.dar 4 (q.1.2.2.map drP) none))],[15,0]⟩,fun q=>n-q.1.1,⟨(0,c1,[]),g_,o1,by simp;omega,by dsimp only;rw[u7,UM];rfl,by dsimp only;rw[u7,UM]⟩,?_,?_⟩
 ·repeat' ((conv=>whnf);first|apply Wx|apply W6|apply oi|apply fi|intro h|exact Y8|refine e_ rfl ?_)
  all_goals try exact⟨rfl⟩
 intro⟨⟨k,ci,acc⟩,hi,UK,QZ,Sy,Rk⟩;dsimp only at hi UK QZ Sy Rk⊢;by_cases O4:k<n
 ·obtain⟨m,hm⟩:∃m,n-k=m+1:=⟨n-k-1,o_⟩;rw[hm]at Sy Rk QZ;rw[lA]at Sy Rk;dsimp only at Sy Rk;obtain⟨s1,_,s3,s4⟩:=Ln (n:=n) (k:=k) UK
  generalize hF:AA n k ci=F at *
  rw[<-l9]at Sy;have O2:(acc++F.1).length+(n-(k+1))*200<=800:=by rw[c7];omega
  rw[show m=n-(k+1) by omega]at Sy Rk;unfold AA at hF;dsimp only at hF;have hk4:k<4:=o_
  have Sp:nm0[k]?=some (nmN k):=by have:k=0\/k=1\/k=2\/k=3:=o_;rcases this with rfl|rfl|rfl|rfl<;>rfl
  have X0:ar0[k]?=some (arN k:Int):=by have:k=0\/k=1\/k=2\/k=3:=o_;rcases this with rfl|rfl|rfl|rfl<;>rfl
  have TW:arN k<=2:=by have:k=0\/k=1\/k=2\/k=3:=o_;rcases this with rfl|rfl|rfl|rfl<;>decide
  have RI:IntKind.i64.wrap ((k:Int)+1)=((k+1:Nat):Int):=by rw[c8 _ o_];omega
  have RQ:(nm0.map ah).length=4:=rfl;have Xk:(ar0.map aa).length=4:=rfl;have P7:flat ([]++List.take (arN k) (arg0.map ah)):=by rw[r9,<-y8];exact gf _
  rcases B8 k with S9|S9
  ·rw[b8 o_]at hF
   (try dsimp only at hF)
   have hG:=CW (n:=n) (k:=k) false;obtain⟨k4,b4,o4,g4⟩:=cE UK 4
   generalize cL 4 ci=t at *
   obtain⟨k5,b5,o5,g5⟩:=cE o4 2
   generalize cL 2 t.2=u at *
   have ZE:=k4 o_;have k5':=k5 o_;have g6:=DM hG (1+u.1) (1+t.1) u.2 o_ o_ o5;have hB:=qF hG (1+u.1);have hl:=hB.len (1+t.1) _ o5;have hk:=hB.ok (1+t.1) _ o5;have hx:=GW (hB.bl (1+t.1) _ o5)
   have hs:sB (1+u.1)<=21:=by exact V152
   have SR:=A2 (show 1+t.1<=4 by omega) hs
   generalize wa (gpV n k false) (1+u.1) (1+t.1) u.2=B at *
   obtain⟨t3,b3,o3,g3⟩:=fv hG hk 3 o_
   generalize exV (gpV n k false) 3 B.2=e at *
   subst hF;have Rv:Tr.lst 1 ((gpV n k false).names.map ah)=Tr.lst 1 (((nm0.map ah).take n).drop (k+1)):=(by simp[gpV,C8,y8]);have VU:Tr.lst 1 ((gpV n k false).ars.map aa)=Tr.lst 1 (((ar0.map aa).take n).drop (k+1)):=(by simp[gpV,C8,y8]);have QN:[]++List.take (arN k) (arg0.map ah)++([[105],[122]]:List (List UInt8)).map ah=(gpV n k false).vars.map ah:=(by simp[gpV,y8]);have Wi:Tr.int .i64 ((1+t.1:Nat):Int)=Tr.int .i64 (IntKind.i64.wrap (1+(t.1:Int))):=(by rw[c8 _ o_];simp);have TI:Tr.int .i64 ((1+u.1:Nat):Int)=Tr.int .i64 (IntKind.i64.wrap (1+(u.1:Int))):=(by rw[c8 _ o_];simp);repeat' ((conv=>whnf);first|apply Wx|apply W6|apply oi|apply fi|intro h|refine⟨k,(aa (arN k)),rfl,ab X0,?_⟩|refine⟨0,arN k,rfl,rfl,v9 _,TW,?_⟩|refine⟨k+1,n,RI,rfl,o_,by(rw[RQ];omega),?_⟩|refine⟨k+1,n,RI,rfl,o_,by(rw[Xk];omega),?_⟩|refine⟨k,(ah (nmN k)),rfl,ab Sp,?_⟩|exact Y6|refine e_ rfl ?_)
   all_goals try exact⟨TW⟩
   all_goals try exact Q2
   all_goals try exact⟨P7⟩
   refine cg (g4) ?_;repeat' ((conv=>whnf);first|apply Wx|apply W6|apply oi|apply fi|intro h|exact Y8|refine e_ rfl ?_)
   refine cg (g5) ?_;repeat' ((conv=>whnf);first|apply Wx|apply W6|apply oi|apply fi|intro h|exact Y8|refine e_ rfl ?_)
   refine cg (g6) ?_;repeat' ((conv=>whnf);first|apply Wx|apply W6|apply oi|apply fi|intro h|exact Y8|refine e_ rfl ?_)
   all_goals try exact⟨Rv⟩
   all_goals try exact⟨VU⟩
   all_goals try exact⟨Wi⟩
   all_goals try exact⟨TI⟩
   all_goals try exact⟨QN⟩
   all_goals try exact Q2
   refine cg (g3) ?_;repeat' ((conv=>whnf);first|apply Wx|apply W6|apply oi|apply fi|intro h|exact Y8|refine e_ rfl ?_)
   all_goals try exact Q17
   all_goals try exact Q2
   conv=>whnf
   refine⟨⟨(k+1,_,_),g_,s3,O2,Sy,Rk⟩,?_,KD⟩;repeat' ((conv=>whnf);first|apply Wx|apply W6|apply oi|apply fi|intro h|exact Y9|refine e_ rfl ?_)
   all_goals try exact Q25
  ·rw[b9 S9]at hF;obtain⟨b7,o7,g7⟩:=ju UK 5
   generalize lL 5 ci=o at *
   (try dsimp only at hF)
   cases ho:o.1 with
   | true=>
    rw[ho]at hF g7;have hG:=CW (n:=n) (k:=k) true;obtain⟨k4,b4,o4,g4⟩:=cE o7 4
    generalize cL 4 o.2=t at *
    obtain⟨k5,b5,o5,g5⟩:=cE o4 2
    generalize cL 2 t.2=u at *
    have ZE:=k4 o_;have k5':=k5 o_;have g6:=DM hG (1+u.1) (1+t.1) u.2 o_ o_ o5;have hB:=qF hG (1+u.1);have hl:=hB.len (1+t.1) _ o5;have hk:=hB.ok (1+t.1) _ o5;have hx:=GW (hB.bl (1+t.1) _ o5)
    have hs:sB (1+u.1)<=21:=by exact V152
    have SR:=A2 (show 1+t.1<=4 by omega) hs
    generalize wa (gpV n k true) (1+u.1) (1+t.1) u.2=B at *
    obtain⟨t3,b3,o3,g3⟩:=fv hG hk 3 o_
    generalize exV (gpV n k true) 3 B.2=e at *
    subst hF;have Rv:Tr.lst 1 ((gpV n k true).names.map ah)=Tr.lst 1 (((nm0.map ah).take n).drop (k)):=(by simp[gpV,C8,y8]);have VU:Tr.lst 1 ((gpV n k true).ars.map aa)=Tr.lst 1 (((ar0.map aa).take n).drop (k)):=(by simp[gpV,C8,y8]);have QN:[]++List.take (arN k) (arg0.map ah)++([[105],[122]]:List (List UInt8)).map ah=(gpV n k true).vars.map ah:=(by simp[gpV,y8]);have Wi:Tr.int .i64 ((1+t.1:Nat):Int)=Tr.int .i64 (IntKind.i64.wrap (1+(t.1:Int))):=(by rw[c8 _ o_];simp);have TI:Tr.int .i64 ((1+u.1:Nat):Int)=Tr.int .i64 (IntKind.i64.wrap (1+(u.1:Int))):=(by rw[c8 _ o_];simp);repeat' ((conv=>whnf);first|apply Wx|apply W6|apply oi|apply fi|intro h|refine⟨k,(aa (arN k)),rfl,ab X0,?_⟩|refine⟨0,arN k,rfl,rfl,v9 _,TW,?_⟩|refine⟨k+1,n,RI,rfl,o_,by(rw[RQ];omega),?_⟩|refine⟨k+1,n,RI,rfl,o_,by(rw[Xk];omega),?_⟩|refine⟨k,(ah (nmN k)),rfl,ab Sp,?_⟩|exact Y6|refine e_ rfl ?_)
    all_goals try exact⟨TW⟩
    all_goals try exact Q2
    all_goals try exact⟨P7⟩
    refine cg (g7) ?_;repeat' ((conv=>whnf);first|apply Wx|apply W6|apply oi|apply fi|intro h|refine⟨k,(ah (nmN k)),rfl,ab Sp,?_⟩|refine⟨k,n,rfl,rfl,o_,by(rw[RQ];omega),?_⟩|refine⟨k,n,rfl,rfl,o_,by(rw[Xk];omega),?_⟩|exact Y6|refine e_ rfl ?_)
    all_goals try exact⟨TW⟩
    all_goals try exact Q2
    all_goals try exact⟨P7⟩
    refine cg (g4) ?_;repeat' ((conv=>whnf);first|apply Wx|apply W6|apply oi|apply fi|intro h|exact Y8|refine e_ rfl ?_)
    refine cg (g5) ?_;repeat' ((conv=>whnf);first|apply Wx|apply W6|apply oi|apply fi|intro h|exact Y8|refine e_ rfl ?_)
    refine cg (g6) ?_;repeat' ((conv=>whnf);first|apply Wx|apply W6|apply oi|apply fi|intro h|exact Y8|refine e_ rfl ?_)
    all_goals try exact⟨Rv⟩
    all_goals try exact⟨VU⟩
    all_goals try exact⟨Wi⟩
    all_goals try exact⟨TI⟩
    all_goals try exact⟨QN⟩
    all_goals try exact Q2
    refine cg (g3) ?_;repeat' ((conv=>whnf);first|apply Wx|apply W6|apply oi|apply fi|intro h|exact Y8|refine e_ rfl ?_)
    all_goals try exact Q17
    all_goals try exact Q2
    conv=>whnf
    refine⟨⟨(k+1,_,_),g_,s3,O2,Sy,Rk⟩,?_,KD⟩;repeat' ((conv=>whnf);first|apply Wx|apply W6|apply oi|apply fi|intro h|exact Y9|refine e_ rfl ?_)
    all_goals try exact Q25
   | false=>
    rw[ho]at hF g7;have hG:=CW (n:=n) (k:=k) false;obtain⟨k4,b4,o4,g4⟩:=cE o7 4
    generalize cL 4 o.2=t at *
    obtain⟨k5,b5,o5,g5⟩:=cE o4 2
    generalize cL 2 t.2=u at *
    have ZE:=k4 o_;have k5':=k5 o_;have g6:=DM hG (1+u.1) (1+t.1) u.2 o_ o_ o5;have hB:=qF hG (1+u.1);have hl:=hB.len (1+t.1) _ o5;have hk:=hB.ok (1+t.1) _ o5;have hx:=GW (hB.bl (1+t.1) _ o5)
    have hs:sB (1+u.1)<=21:=by exact V152
    have SR:=A2 (show 1+t.1<=4 by omega) hs
    generalize wa (gpV n k false) (1+u.1) (1+t.1) u.2=B at *
    obtain⟨t3,b3,o3,g3⟩:=fv hG hk 3 o_
    generalize exV (gpV n k false) 3 B.2=e at *
    subst hF;have Rv:Tr.lst 1 ((gpV n k false).names.map ah)=Tr.lst 1 (((nm0.map ah).take n).drop (k+1)):=(by simp[gpV,C8,y8]);have VU:Tr.lst 1 ((gpV n k false).ars.map aa)=Tr.lst 1 (((ar0.map aa).take n).drop (k+1)):=(by simp[gpV,C8,y8]);have QN:[]++List.take (arN k) (arg0.map ah)++([[105],[122]]:List (List UInt8)).map ah=(gpV n k false).vars.map ah:=(by simp[gpV,y8]);have Wi:Tr.int .i64 ((1+t.1:Nat):Int)=Tr.int .i64 (IntKind.i64.wrap (1+(t.1:Int))):=(by rw[c8 _ o_];simp);have TI:Tr.int .i64 ((1+u.1:Nat):Int)=Tr.int .i64 (IntKind.i64.wrap (1+(u.1:Int))):=(by rw[c8 _ o_];simp);repeat' ((conv=>whnf);first|apply Wx|apply W6|apply oi|apply fi|intro h|refine⟨k,(aa (arN k)),rfl,ab X0,?_⟩|refine⟨0,arN k,rfl,rfl,v9 _,TW,?_⟩|refine⟨k+1,n,RI,rfl,o_,by(rw[RQ];omega),?_⟩|refine⟨k+1,n,RI,rfl,o_,by(rw[Xk];omega),?_⟩|refine⟨k,(ah (nmN k)),rfl,ab Sp,?_⟩|exact Y6|refine e_ rfl ?_)
    all_goals try exact⟨TW⟩
    all_goals try exact Q2
    all_goals try exact⟨P7⟩
    refine cg (g7) ?_;repeat' ((conv=>whnf);first|apply Wx|apply W6|apply oi|apply fi|intro h|refine⟨k,(ah (nmN k)),rfl,ab Sp,?_⟩|exact Y6|refine e_ rfl ?_)
    all_goals try exact⟨TW⟩
    all_goals try exact Q2
    all_goals try exact⟨P7⟩
    refine cg (g4) ?_;repeat' ((conv=>whnf);first|apply Wx|apply W6|apply oi|apply fi|intro h|exact Y8|refine e_ rfl ?_)
    refine cg (g5) ?_;repeat' ((conv=>whnf);first|apply Wx|apply W6|apply oi|apply fi|intro h|exact Y8|refine e_ rfl ?_)
    refine cg (g6) ?_;repeat' ((conv=>whnf);first|apply Wx|apply W6|apply oi|apply fi|intro h|exact Y8|refine e_ rfl ?_)
    all_goals try exact⟨Rv⟩
    all_goals try exact⟨VU⟩
    all_goals try exact⟨Wi⟩
    all_goals try exact⟨TI⟩
    all_goals try exact⟨QN⟩
    all_goals try exact Q2
    refine cg (g3) ?_;repeat' ((conv=>whnf);first|apply Wx|apply W6|apply oi|apply fi|intro h|exact Y8|refine e_ rfl ?_)
    all_goals try exact Q17
    all_goals try exact Q2
    conv=>whnf
    refine⟨⟨(k+1,_,_),g_,s3,O2,Sy,Rk⟩,?_,KD⟩;repeat' ((conv=>whnf);first|apply Wx|apply W6|apply oi|apply fi|intro h|exact Y9|refine e_ rfl ?_)
    all_goals try exact Q25
 ·have Rn:k=n:=o_;subst Rn;rw[v6]at Sy Rk;simp only[lA,m7]at Sy Rk;subst Sy;subst Rk;dsimp only at hPL;refine kX ⟨[(0,mz),(5,tI .i64 (k:Int)),(6,.r (.c (.t (.lst 4 ((acc.map drP).map fun x=>x.map DC.tr))))),(7,tI .i64 (k:Int))],[((0,0,0),some (.box [.t (.lst 1 (ci.b.map bo)),.t (.int .i64 ci.i),.t (.int .i64 ci.h)]))],[15,0]⟩ ?_ ?_ rfl ?_
  ·refine⟨.inl rfl,.inl rfl,.inr ⟨_,_,rfl,rfl,rfl,?_⟩,.inl rfl,trivial⟩;exact V147
  ·exact⟨.inr rfl,trivial⟩
  refine vT 6 rfl (Ir hPL) ?_;exact Z6
theorem zy {l:List Qt}(h:∀x∈l,PL x)(hl:l.length<=800):aK 1048576 (.lst 4 (l.map Qt.tr)):=by
 refine lc o_ fun x hx=>?_;have hp:=h x hx
 have h1:aK 1048576 (.lst 1 (x.L3.map ah)):=lc (by have:=hp.args.1;omega) fun s hs=>by
  have:=hp.args.2 s hs;simp only[ah,aS,aK];exact⟨o_,trivial⟩
 have h2:aK 1048576 (.lst 3 (x.L0.map QC.tr)):=lc (by have:=hp.len;omega) fun t ht=>by
  have:=hp.tok t ht;simp only[QC.tr,aS,aK];exact⟨trivial,trivial,o_,trivial⟩
 have h3:=hp.name;exact⟨trivial,by simp only[aK];omega,h1,h2,trivial⟩
def fbP:List Qt:=[⟨0,[109,97,105,110],[],[]⟩,⟨2,[],[],[⟨0,1,[]⟩]⟩,⟨6,[],[],[⟨0,1,[]⟩]⟩,⟨7,[],[],[]⟩]
theorem Pa:ak fbP=true:=d_
theorem Po:∀x∈fbP,PL x:=by intro x hx;simp only[fbP,d8,m8,or_false]at hx;rcases hx with rfl|rfl|rfl|rfl;all_goals exact⟨s_,s_,s_,s_,s_,s_⟩
noncomputable def lI:Nat->Qm->List Qt×Qm
 | 0,c=>(fbP,c)
 | r+1,c=>if ak (mW c).1=true then mW c else lI r (mW c).2
theorem FR:∀(r:Nat) (c:Qm),c.ok->ak (lI r c).1=true/\(lI r c).1.length<=800/\(lI r c).2.b=c.b/\(lI r c).2.ok/\∀x∈(lI r c).1,PL x
 | 0,c,hc=>⟨Pa,by simp[lI,fbP],rfl,hc,Po⟩
 | r+1,c,hc=>by
  obtain⟨h1,h2,h3,h4⟩:=IM hc;rw[lI];split
  ·rename_i h;exact⟨h,h1,h2,h3,h4⟩
  ·obtain⟨i1,i2,i3,i4,i5⟩:=FR r _ h3;exact⟨i1,i2,i3.trans h2,i4,i5⟩
theorem Qc:emR [[.int .i64 0,.str [109,97,105,110],.lst 0 [],.lst 0 []],[.int .i64 2,.str [],.lst 0 [],.lst 3 [[.int .i64 0,.int .i64 1,.str []]]],[.int .i64 6,.str [],.lst 0 [],.lst 3 [[.int .i64 0,.int .i64 1,.str []]]],[.int .i64 7,.str [],.lst 0 [],.lst 0 []]] (fbP.map Qt.tr):=by
 refine⟨⟨rfl,fun p c d hc hd=>?_⟩,⟨rfl,fun p c d hc hd=>?_⟩,⟨rfl,fun p c d hc hd=>?_⟩,⟨rfl,fun p c d hc hd=>?_⟩,trivial⟩
 all_goals(
  match p with
  | 0=>simp[Qt.tr]at hc hd;subst hc;subst hd;exact .inl rfl
  | 1=>simp[Qt.tr]at hc hd;subst hc;subst hd;exact .inl rfl
  | 2=>simp[Qt.tr]at hc hd;subst hc;subst hd;exact .inr ⟨_,_,rfl,rfl⟩
  | 3=>simp[Qt.tr,QC.tr]at hc hd;subst hc;subst hd;first|exact .inl rfl|exact .inr ⟨_,_,rfl,rfl⟩
  | p+4=>simp at hc)
theorem V120{p:Prop}(h:p:=by
 refine⟨.inr ⟨_,_,rfl,rfl,rfl,?_⟩,trivial⟩
 intro q hq;simp only[AC.ids,d8,m8,or_false]at hq;subst hq;rfl):p:=h
theorem uk (c:Qm)(hc:c.ok):bh prog 94 [mz] (mD c) (.r (.c (.t (.lst 4 ((lI 5 c).1.map Qt.tr))))) (mD (lI 5 c).2):=by
 refine ax hΓ aF func94 rfl d_ rfl rfl ?_
 generalize hR:lI 5 c=R at *
 repeat' ((conv=>whnf);first|apply Wx|apply W6|apply oi|apply fi|intro h|exact Y8|refine e_ rfl ?_)
 conv=>whnf
 refine⟨{q:Nat×Qm//q.1<=5/\q.2.ok/\lI (5-q.1) q.2=R},fun q=>⟨[(0,mz),(3,tI .i64 (q.1.1:Int))],[((0,0,0),some (.box [.t (.lst 1 (q.1.2.b.map bo)),.t (.int .i64 q.1.2.i),.t (.int .i64 q.1.2.h)]))],[0]⟩,fun q=>5-q.1.1,⟨(0,c),g_,hc,hR⟩,?_,?_⟩
 ·exact Z2
 intro⟨⟨k,ci⟩,hi,UK,hr⟩;dsimp only at hi UK hr⊢;by_cases O4:k<5
 ·obtain⟨m,hm⟩:∃m,5-k=m+1:=⟨5-k-1,o_⟩;rw[hm,lI]at hr;have gP:=tz ci UK;obtain⟨h1,h2,h3,h4⟩:=IM UK;have hO:=dz (mW ci).1 (zy h4 h1)
  generalize mW ci=Q at *
  cases hq:ak Q.1 with
  | true=>
   rw[b9 hq]at hr;subst hr;rw[hq]at hO;repeat' ((conv=>whnf);first|apply Wx|apply W6|apply oi|apply fi|intro h|exact Y8|refine e_ rfl ?_)
   refine cg (gP) ?_
   repeat' ((conv=>whnf);first|apply Wx|apply W6|apply oi|apply fi|intro h|refine cl hO ?_|exact Y6|refine e_ rfl ?_)
  | false=>
   rw[b8 (by simp[hq])]at hr;rw[hq]at hO;repeat' ((conv=>whnf);first|apply Wx|apply W6|apply oi|apply fi|intro h|exact Y8|refine e_ rfl ?_)
   refine cg (gP) ?_;repeat' ((conv=>whnf);first|apply Wx|apply W6|apply oi|apply fi|intro h|refine cl hO ?_|exact Y6|refine e_ rfl ?_)
   conv=>whnf
   refine⟨⟨(k+1,Q.2),g_,h3,by dsimp only;rw[show 5-(k+1)=m by omega];exact hr⟩,?_,KD⟩;exact Z5
 ·have hk:k=5:=o_;subst hk;rw[show(5:Nat)-5=0 from rfl,lI]at hr;subst hr;repeat' ((conv=>whnf);first|(with_reducible apply W1;fail_if_success (with_reducible show Wo _ _ _ _ (Code.region 8 _ _) _ _))|(with_reducible first|apply W2|apply W3|apply W4|apply W5|apply W6|apply W7|apply W8|apply W9)|apply au|apply oi|apply fi|intro h|exact Y6|refine e_ rfl ?_)
  conv=>whnf
  refine kX ⟨[(5,.r (.c (.t (.lst 3 [[.int .i64 0,.int .i64 1,.str []]]))))],[((0,0,0),some (.box [.t (.lst 1 (ci.b.map bo)),.t (.int .i64 ci.i),.t (.int .i64 ci.h)]))],[16,0]⟩ ?_ ?_ rfl ?_
  ·exact V120
  ·exact⟨.inr rfl,trivial⟩
  repeat' ((conv=>whnf);first|(with_reducible first|apply W1|apply W2)|apply au|refine oi ?_ ?_|exact Y8|refine e_ rfl ?_)
  conv=>whnf
  refine kX ⟨[(2,.r (.c (.t (.lst 4 [[.int .i64 0,.str [109,97,105,110],.lst 0 [],.lst 0 []],[.int .i64 2,.str [],.lst 0 [],.lst 3 [[.int .i64 0,.int .i64 1,.str []]]],[.int .i64 6,.str [],.lst 0 [],.lst 3 [[.int .i64 0,.int .i64 1,.str []]]],[.int .i64 7,.str [],.lst 0 [],.lst 0 []]]))))],[((0,0,0),some (.box [.t (.lst 1 (ci.b.map bo)),.t (.int .i64 ci.i),.t (.int .i64 ci.h)]))],[23,16,0]⟩ ?_ ?_ rfl ?_
  ·exact V120
  ·exact⟨.inr rfl,trivial⟩
  refine vT 2 rfl Qc ?_;exact Z2
abbrev PX (code:List UInt8):AV:= .r (.c (.t (.lst 1 (code.map bo))))
theorem Jl {code:List UInt8}(hl:code.length<=1048576):(⟨code,0,IE code⟩:Qm).ok:=⟨s_,hl⟩
theorem JL {rows:List (List Tr)}(h:∀r∈rows,∃n,r=[.int .u8 n]/\(Lit.int .u8 n).wf=true):∃bs:List UInt8,rows=bs.map bo:=by
 obtain⟨bs,hb,_⟩:=Gt (g:=bo) (Q:=fun _=>True) (rows:=rows) fun r hr=>by
  obtain⟨n,rfl,hw⟩:=h r hr;have h1:IntKind.u8.min<=n/\n<=IntKind.u8.max:=by simpa [Lit.wf]using hw
  have h2:0<=n/\n<=255:=h1;refine⟨UInt8.ofNat n.toNat,?_,trivial⟩;rw[bo,show(UInt8.ofNat n.toNat).toNat=n.toNat by simp;omega,C9 h2.1]
 exact⟨bs,hb⟩
structure SpOk (p:List Qt) (b:Ql) (first second:Int):Prop where
 small:aK 1048576 (.lst 4 (p.map Qt.tr))
 prog:ak p=true
 build:aY b=true
 fb:1<=first/\first<=1000000
 sb:1<=second/\second<=1000000
 space:dt (aJ p b first second)=true
theorem GU {p:List Qt}{b:Ql}{first second:Int}(h:(fV p b first second).isSome=true):ak p=true/\aY b=true/\dt (aJ p b first second)=true/\fV p b first second=some (aJ p b first second):=by
 unfold fV at *
 split at h
 ·rename_i hc;exact⟨hc.1,hc.2.1,hc.2.2,by rw[b9 hc]⟩
 ·cases h
structure StartAt (p:List Qt) (b:Ql) (f i:Nat) (x:Nat×List Qw):Prop where
 at_:(imL p b (bS b f))[i]?=some x
 fn:x.1=f
 start:cy p b f=((aA (aH ((imL p b (bS b f)).take i))).length:Int)
theorem rj {p:List Qt}{b:Ql}{f:Nat}(hf:f<(aq p).length):∃i x,StartAt p b f i x:=by have hi:=iO b f;obtain⟨s,hs⟩:=nJ (f:=f) (a:=0) ((imgL_mem (p:=p) (b:=b) (image:=bS b f) (n:=(aq p).length) (f:=0) (at0:=0) (g:=f)).2 ⟨o_,o_,(uW hi).2 rfl⟩);obtain⟨i,x,h1,h2,h3⟩:=Al hs;refine⟨i,x,h1,h2,?_⟩;rw[cy,show imL p b (bS b f)=co p b (bS b f) (aq p).length 0 0 from rfl,hs];show s=_;omega
theorem uL {L:List (Nat×List Qw)}{i:Nat}{x:Nat×List Qw}(h:L[i]?=some x):aH L=aH (L.take i)++(x.2++aH (L.drop (i+1))):=by
 have e:L=L.take i++x::L.drop (i+1):=by rw[<-dX h,x5]
 conv=>lhs;rw[e]
 simp[aH]
section
variable {p:List Qt} {b:Ql}
theorem IW (hs:aK 1048576 (.lst 4 (p.map Qt.tr)))(h1:ak p=true)(h2:aY b=true){f i:Nat}{x:Nat×List Qw}(h:StartAt p b f i x):
  0<(aA x.2).length/\∃(o:Qv) (z:Nat),bP (ay p b (bS b f)).J5 (cy p b f)=some (o,z)/\(o.J5=13\/o.J5=15):=by
 have h3:af (bS b f) 0 1=true:=by have:=iO b f;rw[within_iff];omega
 obtain⟨g1,g2,g3⟩:=h;obtain⟨y,hy⟩:=ae (mb hs h1 h2 o_ g1).2.2;have hp:=(iy hs h1 h2 g1 hy).1;have RK:=rK hp.op;have QP:=eY hp.op
 have Rq:0<(aA x.2).length:=by
  obtain⟨c,l⟩:=x
  cases l with
  | nil=>simp at hy
  | cons a l=>simp only[f9,Option.some.injEq]at hy;subst hy;rw[show aA (a::l)=bt a.L5.K0++aA l by simp[aA],c7];omega
 refine⟨Rq,y.L5.K0,(aQ y.L5.K0.J5).toNat,?_,(hp.head rfl).1⟩
 have Uj:∀z∈x.2,dH z.L5.K0.J5 z.L5.K0.L2=true:=fun z hz=>by
  obtain⟨j,hj⟩:=u3.1 hz;exact(iy hs h1 h2 g1 hj).1.op
 have hd:=wz Uj hy (aA (aH ((imL p b (bS b f)).take i))) (aA (aH ((imL p b (bS b f)).drop (i+1))));rw[ay,b9 ⟨h1,h2,h3⟩,g3];dsimp only;have e:=uL g1
 rw[show imL p b (bS b f)=co p b (bS b f) (aq p).length 0 0 from rfl]at *
 rw[e,aR,aR,<-l9];simpa [aA]using hd
theorem HJ (hs:aK 1048576 (.lst 4 (p.map Qt.tr)))(h1:ak p=true)(h2:aY b=true){f:Nat}(hf:f<(aq p).length):0<=cy p b f/\cy p b f<(ay p b (bS b f)).J5.length:=by
 obtain⟨i,x,h⟩:=rj (b:=b) hf;have hp:=(IW hs h1 h2 h).1;obtain⟨g1,g2,g3⟩:=h;have h3:af (bS b f) 0 1=true:=by have:=iO b f;rw[within_iff];omega
 have e:=uL g1;have e2:=congrArg List.length (congrArg aA e);rw[aR,aR,c7,c7]at e2;rw[ay,b9 ⟨h1,h2,h3⟩,g3];refine⟨o_,?_⟩;show _<(((aA (aH (imL p b (bS b f)))).length:Nat):Int);omega
end
structure EntP (p:List Qt) (b:Ql) (first second:Int) (f i:Nat) (im:Qq) (base:Int):Prop where
 no:(i:Int)=bS b f
 lt:i<2
 img:[ay p b 0,ay p b 1][i]?=some im
 bas:[first,second][i]?=some base
 imE:im=ay p b (bS b f)
 range:1<=base/\base<=1000000
 len:im.J5.length<=75000
 ok:bO im=true
 start:0<=cy p b f/\cy p b f<im.J5.length
 entry:dF p b first second f=base+cy p b f
 loc:CU (aJ p b first second) (dF p b first second f)=((i:Int),cy p b f)
 op:∃(o:Qv) (z:Nat),bP im.J5 (cy p b f)=some (o,z)/\(o.J5=13\/o.J5=15)
theorem V89{p:Prop}(h:p:=by
 have:gQ (ay p b 0) (ay p b 1) first second (entries p b first second)=true:=QM;unfold gQ at this;simp only[d5,v4]at this
 exact this.2.2.2.2.2.1):p:=h
theorem Cv {p:List Qt}{b:Ql}{first second:Int}(h:SpOk p b first second){f:Nat}(hf:f<(aq p).length):∃i im base,EntP p b first second f i im base:=by
 have a0:=lV h.small h.prog h.build (image:=0) d_;have a1:=lV h.small h.prog h.build (image:=1) d_;have QJ:=HJ h.small h.prog h.build hf;obtain⟨k,x,hx⟩:=rj (b:=b) hf;have O3:=(IW h.small h.prog h.build hx).2;have hfb:=h.fb;have hsb:=h.sb;have QM:=h.space
 have QR:eP (ay p b 0) (ay p b 1) first second=false:=by exact V89
 have Rs:∀e,CU (aJ p b first second) e=go (ay p b 0) (ay p b 1) first second e:=fun e=>rfl;rcases iO b f with e|e
 ·rw[e]at QJ O3
  have VY:dF p b first second f=first+cy p b f:=by rw[dF,e,b8 d_,c8 _ o_]
  refine⟨0,ay p b 0,first,by rw[e];rfl,o_,rfl,rfl,by rw[e],o_,a0.2,a0.1,QJ,VY,?_,O3⟩;rw[Rs,VY,go,b9 ⟨o_,o_⟩,show first+cy p b f-first=cy p b f by omega];rfl
 ·rw[e]at QJ O3
  have VY:dF p b first second f=second+cy p b f:=by rw[dF,e,b9 rfl,c8 _ o_]
  refine⟨1,ay p b 1,second,by rw[e];rfl,o_,rfl,rfl,by rw[e],o_,a1.2,a1.1,QJ,VY,?_,O3⟩;rw[Rs,VY,go,b8,b9 ⟨o_,o_⟩,show second+cy p b f-second=cy p b f by omega]
  ·rfl
  ·intro hc;unfold eP at QR;simp only[A9,p6]at QR;omega
theorem ov {p:List Qt}{b:Ql}{first second:Int}{f:Nat}(hf:f<(aq p).length):(entries p b first second)[f]?=some (dF p b first second f):=by rw[entries,j9,List.getElem?_range hf];rfl
theorem ES {p:List Qt}{b:Ql}{first second:Int}:(entries p b first second).length=(aq p).length:=by rw[entries,d9,List.length_range]
theorem GL {p:List Qt}{f:Int}{b:Ql}(hs:aK 1048576 (.lst 4 (p.map Qt.tr)))(h1:ak p=true)(h2:aY b=true)(h3:0<=f)(h4:f<(aq p).length):∀it∈aG p f b,DI it:=by obtain⟨g,C,k1,k2,k3,k4,k5,k6,k7,k8,k9⟩:=lW hs h1 h2 h3 h4;have hS:ScOk C (aO C g) [g]:=⟨k7,rfl,⟨u6 _,by simp[aO]⟩,rfl,by simp[aO],fun _=>k5,rfl⟩;have hw:=k2.J1;rw[k8];refine Cf k2 hS s_ (Jd k2 C.b.M0.toNat hS) (base:=C.J1) hw.1 (by simp only[d6,e8];omega) (db C g) ?_;exact dZ (C:=C) (s:=⟨[],(a_ C.p (g:Int)).length-C.args,false⟩) (d:=0) o_ (fun it h=>by cases h)
def DPs (P:List Qw):Prop:=∀x∈P,DI x.L5
theorem Gf {p:List Qt}{b:Ql}{image:Int}(hs:aK 1048576 (.lst 4 (p.map Qt.tr))):DPs (cR p b image):=by
 by_cases hc:ak p=true/\aY b=true/\af image 0 1=true
 ·rw[cR,b9 hc];obtain⟨h1,h2,_⟩:=hc;show DPs (aH (co p b image (aq p).length 0 0));intro x hx;obtain⟨k,hk⟩:=u3.1 hx;obtain⟨i,z,j,g1,g2,rfl⟩:=pM hk;obtain⟨e1,e2,_⟩:=mb hs h1 h2 o_ g1;rw[e1]at g2;have hj:j<(aG p (z.1:Int) b).length:=by have:=aE g2;rwa [dM]at this
  obtain⟨it,Ry⟩:=ae hj;rw[eF Ry]at g2;injection g2 with g2;subst g2;have:=GL (f:=(z.1:Int)) hs h1 h2 o_ o_ it (c9 Ry);dsimp only;unfold dN;split
  ·exact this
  ·exact this
 ·rw[cR,b8 hc];intro x hx;cases hx
def lU (p:Int)(l:List Qy):Int:=match l.getLast? with|some r=>r.N1|none=>p
theorem rulesOkF_snoc:∀{l:List Qy} {p:Int} {r:Qy},dT p (l++[r])=true↔dT p l=true/\je (lU p l) r
 | [],p,r=>by
  rw[r9,dT,dT,dT]
  simp[lU]
 | y::l,p,r=>by
  rw[p9,dT,dT]
  have e:lU p (y::l)=lU y.N1 l:=by
   unfold lU
   cases l with|nil=>rfl|cons z l=>simp[List.getLast?_cons]
  rw[e];split
  ·exact rulesOkF_snoc
  ·simp
theorem vY:∀{l:List Qy} {p:Int} {i:Nat} {r:Qy},dT p l=true->l[i]?=some r->p<=r.L7
 | [],_,_,_,_,h=>by simp at h
 | y::l,p,i,r,h,hi=>by
  rw[dT]at h;split at h
  ·rename_i hy;unfold je at hy
   cases i with
   | zero=>simp at hi;subst hi;exact hy.1
   | succ i=>rw[j8]at hi;have:=vY h hi;omega
  ·cases h
theorem Bp {off:Int}:∀{l:List Qy} {p:Int} {i k:Nat} {r:Qy},dT p l=true->l[i]?=some r->r.L7<=off->off<r.N1->mO off l k=((k+i:Nat):Int)
 | [],_,_,_,_,_,h,_,_=>by simp at h
 | y::l,p,i,k,r,h,hi,h1,h2=>by
  rw[dT]at h;split at h
  ·cases i with
   | zero=>simp at hi;subst hi;rw[mO,b9 ⟨h1,h2⟩];simp
   | succ i=>rw[j8]at hi;have:=vY h hi;rw[mO,b8 o_,Bp h hi h1 h2];congr 1;omega
  ·cases h
def kE (P:List Qw)(k:Nat):List Qy:=(P.take k).foldl (fun a x=>pV a (ku x)) []
theorem CF {P:List Qw}{k:Nat}{x:Qw}(hx:P[k]?=some x):kE P (k+1)=pV (kE P k) (ku x):=by rw[kE,cH hx,List.foldl_append];rfl
structure RInv (P:List Qw) (k:Nat) (R:List Qy):Prop where
 ok:Dm R=true
 len:R.length<=k
 nil:R=[]↔k=0
 fin:∀x,P[k]?=some x->lU 0 R=x.M7
 all:∀(j:Nat) (x:Qw),j<k->P[j]?=some x->∃(i:Nat) (r:Qy),R[i]?=some r/\r.L7<=x.M7/\x.M7+aQ x.L5.K0.J5<=r.N1/\r.N7=x.L5.N2/\r.M6=x.L5.M6
theorem kM (p:Int)(l:List Qy)(r:Qy):lU p (l++[r])=r.N1:=by simp[lU]
theorem AZ {P:List Qw}(h:PsOk P)(hd:DPs P):∀{k:Nat},k<=P.length->RInv P k (kE P k)
 | 0,_=>⟨rfl,by simp[kE],by simp[kE],fun x hx=>by rw[h.at0 x hx];rfl,fun j x hj=>o_⟩
 | k+1,hk=>by
  obtain⟨x,hx⟩:=ae (l:=P) (k:=k) o_;have I:=AZ h hd (k:=k) o_;have hr:=h.rng k x hx;have Yc:=hd x (c9 hx);unfold DI at Yc;have hfx:=I.fin x hx;rw[CF hx];have QO:∀y,P[k+1]?=some y->x.M7+aQ x.L5.K0.J5=y.M7:=fun y hy=>(h.next k x y hx hy).symm;have O7:=I.ok;have O2:=I.len;have Ss:=I.all
  generalize kE P k=R at *
  rcases EQ R with rfl|⟨ini,r,rfl⟩
  ·have S9:k=0:=I.nil.1 rfl;subst S9;have e:pV [] (ku x)=[ku x]:=rfl;rw[e];have h0:=h.at0 x hx;refine⟨?_,s_,s_,fun y hy=>by rw[<-QO y hy];rfl,fun j y hj hy=>?_⟩
   ·rw[Dm,dT,dT,b9];unfold je ku;dsimp only;exact⟨o_,o_,o_,Yc.1,Yc.2.1,Yc.2.2⟩
   ·have:j=0:=o_;subst this;rw[hx]at hy;injection hy with hy;subst hy;exact⟨0,ku x,rfl,u6 _,u6 _,rfl,rfl⟩
  ·rw[kM]at hfx;have ho:=rulesOkF_snoc.1 O7;rw[Dx];split
   ·rename_i hj;unfold Ny at hj;simp only[d5,w5]at hj;have XR:=ho.2;unfold je at XR;refine⟨rulesOkF_snoc.2 ⟨ho.1,?_⟩,by simp only[c7,d6,e8]at O2⊢;omega,s_,fun y hy=>by rw[kM,<-QO y hy];rfl,fun j y SN hy=>?_⟩
    ·unfold je ku;dsimp only;exact⟨XR.1,o_,o_,XR.2.2.2.1,XR.2.2.2.2.1,XR.2.2.2.2.2⟩
    ·by_cases SQ:j=k
     ·subst SQ;rw[hx]at hy;injection hy with hy;subst hy;refine⟨ini.length,⟨r.L7,(ku x).N1,r.N7,r.M6⟩,s_,?_,u6 _,hj.2.1,hj.2.2⟩;dsimp only;omega
     ·obtain⟨i,q,q1,q2,q3,q4,q5⟩:=Ss j y o_ hy;rw[H3]at q1;split at q1
      ·rename_i hi;exact⟨i,q,by rw[l8 hi];exact q1,q2,q3,q4,q5⟩
      ·rename_i hi
       have Xx:i-ini.length=0:=by
        rcases B8 (i-ini.length)with e|e
        ·exact e
        ·rw[e9 aad]at q1;cases q1
       rw[Xx]at q1;simp only[f9,Option.some.injEq]at q1;subst q1;refine⟨ini.length,⟨r.L7,(ku x).N1,r.N7,r.M6⟩,s_,q2,?_,q4,q5⟩;show _<=x.M7+aQ x.L5.K0.J5;omega
   ·refine⟨rulesOkF_snoc.2 ⟨O7,?_⟩,by simp only[c7,d6,e8]at O2⊢;omega,s_,fun y hy=>by rw[kM,<-QO y hy];rfl,fun j y SN hy=>?_⟩
    ·rw[kM];unfold je ku;dsimp only;exact⟨o_,o_,o_,Yc.1,Yc.2.1,Yc.2.2⟩
    ·by_cases SQ:j=k
     ·subst SQ;rw[hx]at hy;injection hy with hy;subst hy;exact⟨(ini++[r]).length,ku x,s_,u6 _,u6 _,rfl,rfl⟩
     ·obtain⟨i,q,q1,q2⟩:=Ss j y o_ hy;exact⟨i,q,by rw[l8 (aE q1)];exact q1,q2⟩
theorem DY {P:List Qw}(h:PsOk P):kE P P.length=mn P:=by
 have hn:PE P=true:=by unfold PE;rw[n9];intro x hx;obtain⟨k,hk⟩:=u3.1 hx;have:=h.rng k x hk;exact within_iff.2 ⟨this.1,o_⟩
 rw[kE,gt (d7 _),mn,b9 hn]
theorem Ff {P:List Qw}(h:PsOk P)(hd:DPs P):RInv P P.length (mn P):=by rw[<-DY h];exact AZ h hd (d7 _)
theorem Oe {P:List Qw}(h:PsOk P)(hd:DPs P){k:Nat}{x:Qw}(hx:P[k]?=some x){off:Int}(h1:x.M7<=off)(h2:off<x.M7+aQ x.L5.K0.J5):
  ∃(i:Nat) (r:Qy),tK (mn P) off=(i:Int)/\(mn P)[i]?=some r/\r.N7=x.L5.N2/\r.M6=x.L5.M6/\r.L7<=x.M7/\x.M7+aQ x.L5.K0.J5<=r.N1:=by
 have I:=Ff h hd;obtain⟨i,r,q1,q2,q3,q4,q5⟩:=I.all k x (aE hx) hx;have O7:=I.ok;refine⟨i,r,?_,q1,q4,q5,q2,q3⟩;rw[tK,b9 O7,Bp O7 q1 o_ o_,s7]
def cq (a:Int):Bool:=af a 0 1199
abbrev wr (n:Int):Int:=IntKind.i64.wrap n
structure CS where
 m:Qu
 bad:Bool
def CS.ok (c:CS):Prop:=c.m.M5.length=1200
def fc (m:Qu)(a:Int):Int:=match m.M5[a.toNat]? with|some x=>x|none=>0
def oI (m:Qu)(a v:Int):Qu:={m with M5:=m.M5.set a.toNat v}
def cAt (c:CS)(a:Int):CS:=⟨c.m,c.bad||!cq a⟩
def cS (c:CS)(v:Int):CS:=if(c.bad||!cq (wr (c.m.L8-1)))=true then⟨c.m,true⟩else⟨{oI c.m (wr (c.m.L8-1)) v with L8:=wr (c.m.L8-1)},false⟩
def aX (c:CS):CS:=if(c.bad||!cq c.m.L8)=true then⟨c.m,true⟩else⟨{c.m with L8:=c.m.L8+1},false⟩
def kn (c:CS):Int:=if(c.bad||!cq c.m.L8)=true then 0 else fc c.m c.m.L8
def dl:Nat->CS->CS
 | 0,c=>c
 | n+1,c=>dl n (aX c)
def fq:Nat->CS->CS
 | 0,c=>c
 | n+1,c=>fq n (cS c 0)
def ji (c:CS)(a:Int):CS:=if(c.bad||!cq a)=true then⟨c.m,true⟩else cS ⟨c.m,false⟩ (fc c.m a)
def fF (c:CS)(a:Int):CS:=if((aX c).bad||!cq a)=true then⟨(aX c).m,true⟩else⟨oI (aX c).m a (kn c),false⟩
theorem inStk_iff {a:Int}:cq a=true↔0<=a/\a<=1199:=within_iff
theorem fN {c:CS}{v:Int}(h:c.ok):(cS c v).ok:=by
 unfold cS CS.ok at *
 split
 ·exact h
 ·simpa [oI]using h
theorem da {c:CS}(h:c.ok):(aX c).ok:=by
 unfold aX CS.ok at *
 split
 ·exact h
 ·exact h
theorem ls:∀{n:Nat} {c:CS},c.ok->(dl n c).ok
 | 0,_,h=>h
 | n+1,c,h=>ls (n:=n) (da h)
theorem vH:∀{n:Nat} {c:CS},c.ok->(fq n c).ok
 | 0,_,h=>h
 | n+1,c,h=>vH (n:=n) (fN h)
theorem Gl {c:CS}{a:Int}(h:c.ok):(ji c a).ok:=by
 unfold ji;split
 ·exact h
 ·exact fN (c:=⟨c.m,false⟩) h
theorem Ce {c:CS}{a:Int}(h:c.ok):(fF c a).ok:=by
 have:=da h;unfold fF;split
 ·exact this
 ·unfold CS.ok at *;simpa [oI]using this
abbrev PI (m:Qu)(st out:Sim.Id):AO:= .box [.t (.int .i64 m.M4),.t (.int .i64 m.L8),.t (.int .i64 m.M3),.own st,.own out,.t (.int .i64 m.L9),.t (.int .i64 m.N8)]
abbrev jh (c:CS):List (Sim.Id×AO):=[((0,0,0),.box [.ptr (0,0,1) 0,.t (.bool c.bad)]),((0,0,1),PI c.m (0,0,2) (0,0,3)),((0,0,2),.arr false 1 (c.m.M5.map aa)),((0,0,3),.arr false 1 (c.m.L6.map aa))]
abbrev pF:AV:= .r (.c (.ptr (0,0,0) 0))
theorem kV (c:CS)(a:Int):bh prog 179 [pF,tI .i64 a] (jh c) (tB (!(c.bad||!cq a))) (jh (cAt c a)):=by
 obtain⟨m,bad⟩:=c;refine eJ hΓ aF func179 rfl d_ rfl rfl ?_;have hb:=aN a 0 1199;unfold cAt cq
 cases hin:af a 0 1199
 all_goals
  rw[hin]at hb
  cases bad
  all_goals
   repeat' ((conv=>whnf);first|refine Or.inl ?_|apply oi|apply fi|intro h|refine ci hb (ai rfl (ai rfl (ai rfl trivial))) ?_|exact Y1|refine e_ rfl ?_)
   all_goals try exact Q6
theorem uZ {l:List Int}{a:Int}(hl:l.length=1200)(h:cq a=true):∃(j:Nat) (x:Int),a=(j:Int)/\l[j]?=some x/\j<l.length/\j<=1199:=by have h':=inStk_iff.1 h;obtain⟨j,rfl⟩:=i7 h'.1;obtain⟨x,hx⟩:=ae (l:=l) (k:=j) o_;exact⟨j,x,rfl,hx,o_,o_⟩
theorem Ea {l:List Int}{j:Nat}{v:Int}:(l.map aa).set j (aa v)=(l.set j v).map aa:=by rw[C7]
theorem qu {a b:Bool}(h:(a||!b)=false):a=false/\b=true:=by cases a<;>cases b<;>simp at h⊢
theorem V93{p:Prop}(h:p:=by
 rw[hB]at hA;repeat' ((conv=>whnf);first|refine cg hA ?_|refine aD ?_|apply au|apply oi|apply fi|intro h|exact Y1|refine e_ rfl ?_)
 all_goals try(exfalso;simp at h;done)):p:=h
theorem eW (c:CS)(v:Int)(hc:c.ok):bh prog 229 [pF,tI .i64 v] (jh c) (.tup []) (jh (cS c v)):=by
 refine eJ hΓ aF func229 rfl d_ rfl rfl ?_;have hA:=kV c (wr (c.m.L8-1));obtain⟨m,bad⟩:=c;unfold CS.ok at hc
 unfold cS cAt at *
 dsimp only at hA hc⊢
 cases hB:(bad||!cq (wr (m.L8-1)))with
 | true=>exact V93
 | false=>
  rw[hB]at hA;obtain⟨_,hin⟩:=qu hB;obtain⟨j,x,hj,hx,O4,_⟩:=uZ hc hin;have O2:(m.M5.map aa).length=m.M5.length:=s_;repeat' ((conv=>whnf);first|refine cg hA ?_|refine aD ?_|apply au|apply oi|apply fi|intro h|exact Y1|refine e_ rfl ?_)
  conv=>whnf
  refine⟨j,hj,by rw[O2];exact O4,?_⟩;repeat' ((conv=>whnf);first|refine aD ?_|apply au|apply oi|apply fi|intro h|refine⟨(aa x),ab hx,?_⟩|exact Y1|refine e_ rfl ?_)
  all_goals try exact Q6
  all_goals try(refine⟨?_⟩;rw[<-show(wr (m.L8-1)).toNat=j by rw[hj];rfl];exact Ea)
theorem dU (c:CS)(hc:c.ok):bh prog 232 [pF] (jh c) (tI .i64 (kn c)) (jh (aX c)):=by
 refine eJ hΓ aF func232 rfl d_ rfl rfl ?_;have hA:=kV c c.m.L8;obtain⟨m,bad⟩:=c;unfold CS.ok at hc
 unfold aX kn cAt at *
 dsimp only at hA hc⊢
 cases hB:(bad||!cq m.L8)with
 | true=>exact V93
 | false=>
  rw[hB]at hA;obtain⟨_,hin⟩:=qu hB;obtain⟨j,x,hj,hx,O4,T3⟩:=uZ hc hin;have O2:(m.M5.map aa).length=m.M5.length:=s_;have hw:IntKind.i64.wrap (m.L8+1)=m.L8+1:=c8 _ o_;repeat' ((conv=>whnf);first|refine cg hA ?_|refine aD ?_|apply au|apply oi|apply fi|intro h|exact Y1|refine e_ rfl ?_)
  conv=>whnf
  refine⟨j,?_,by rw[O2];exact O4,?_⟩
  ·show IntKind.i64.wrap (IntKind.i64.wrap (m.L8+1)-1)=(j:Int);rw[hw,c8 _ o_];omega
  repeat' ((conv=>whnf);first|refine aD ?_|apply au|apply oi|apply fi|intro h|refine⟨(aa x),ab hx,?_⟩|exact Y1|refine e_ rfl ?_)
  all_goals try exact Q6
  all_goals first
   | exact⟨congrArg (Tr.int _) hw⟩
   |(refine⟨congrArg (Tr.int _) ?_⟩;simp[fc,hj,hx];done)
theorem V91{p:Prop}(h:p:=by
 subst hr;repeat' ((conv=>whnf);first|refine aD ?_|apply au|apply oi|apply fi|intro h|exact Y1|refine e_ rfl ?_)
 all_goals try(exfalso;have h':=j5 h;omega)):p:=h
theorem pD (c:CS)(n:Nat)(hc:c.ok)(hn:n<=65536):bh prog 235 [pF,tI .i64 (n:Int)] (jh c) (.tup []) (jh (dl n c)):=by
 refine eJ hΓ aF func235 rfl d_ rfl rfl ?_;obtain⟨R,hR⟩:∃R,dl n c=R:=⟨_,rfl⟩;rw[hR];repeat' ((conv=>whnf);first|refine aD ?_|apply au|apply oi|apply fi|intro h|exact Y1|refine e_ rfl ?_)
 conv=>whnf
 refine⟨{q:Nat×CS//q.1<=65536/\q.2.ok/\dl q.1 q.2=R},fun q=>⟨[(0,pF),(1,tI .i64 (q.1.1:Int))],(jh q.1.2).map fun p=>(p.1,some p.2),[0]⟩,fun q=>q.1.1,⟨(n,c),hn,hc,hR⟩,?_,?_⟩
 ·repeat' ((conv=>whnf);first|refine aD ?_|apply au|apply oi|apply fi|intro h|exact Y1|refine e_ rfl ?_)
 intro⟨⟨k,d⟩,hk,hd,hr⟩;dsimp only at hk hd hr⊢
 cases k with
 | zero=>
  rw[dl]at hr
  exact V91
 | succ k=>
  rw[dl]at hr;have hP:=dU d hd;repeat' ((conv=>whnf);first|refine cg hP ?_|refine aD ?_|apply au|apply oi|apply fi|intro h|exact Y1|refine e_ rfl ?_)
  all_goals try exact Q19
  conv=>whnf
  refine⟨⟨(k,aX d),g_,da hd,hr⟩,?_,KD⟩;repeat' ((conv=>whnf);first|refine aD ?_|apply au|apply oi|apply fi|intro h|exact Y1|refine e_ rfl ?_)
  all_goals try(refine⟨congrArg (Tr.int _) ?_⟩;dsimp only;rw[c8 _ o_];omega)
theorem tR (c:CS)(n:Nat)(hc:c.ok)(hn:n<=65536):bh prog 234 [pF,tI .i64 (n:Int)] (jh c) (.tup []) (jh (fq n c)):=by
 refine eJ hΓ aF func234 rfl d_ rfl rfl ?_;obtain⟨R,hR⟩:∃R,fq n c=R:=⟨_,rfl⟩;rw[hR];repeat' ((conv=>whnf);first|refine aD ?_|apply au|apply oi|apply fi|intro h|exact Y1|refine e_ rfl ?_)
 conv=>whnf
 refine⟨{q:Nat×CS//q.1<=65536/\q.2.ok/\fq q.1 q.2=R},fun q=>⟨[(0,pF),(1,tI .i64 (q.1.1:Int))],(jh q.1.2).map fun p=>(p.1,some p.2),[0]⟩,fun q=>q.1.1,⟨(n,c),hn,hc,hR⟩,?_,?_⟩
 ·repeat' ((conv=>whnf);first|refine aD ?_|apply au|apply oi|apply fi|intro h|exact Y1|refine e_ rfl ?_)
 intro⟨⟨k,d⟩,hk,hd,hr⟩;dsimp only at hk hd hr⊢
 cases k with
 | zero=>
  rw[fq]at hr
  exact V91
 | succ k=>
  rw[fq]at hr;have hP:=eW d 0 hd;repeat' ((conv=>whnf);first|refine cg hP ?_|refine aD ?_|apply au|apply oi|apply fi|intro h|exact Y1|refine e_ rfl ?_)
  all_goals try exact Q19
  conv=>whnf
  refine⟨⟨(k,cS d 0),g_,fN hd,hr⟩,?_,KD⟩;repeat' ((conv=>whnf);first|refine aD ?_|apply au|apply oi|apply fi|intro h|exact Y1|refine e_ rfl ?_)
  all_goals try(refine⟨congrArg (Tr.int _) ?_⟩;dsimp only;rw[c8 _ o_];omega)
theorem wq (c:CS)(a:Int)(hc:c.ok):bh prog 230 [pF,tI .i64 a] (jh c) (.tup []) (jh (ji c a)):=by
 refine eJ hΓ aF func230 rfl d_ rfl rfl ?_;have hA:=kV c a;obtain⟨m,bad⟩:=c;unfold CS.ok at hc
 unfold ji cAt at *
 dsimp only at hA hc⊢
 cases hB:(bad||!cq a)with
 | true=>exact V93
 | false=>
  rw[hB]at hA;obtain⟨_,hin⟩:=qu hB;obtain⟨j,x,hj,hx,O4,T3⟩:=uZ hc hin;have O2:(m.M5.map aa).length=m.M5.length:=s_;have hP:=eW ⟨m,false⟩ x hc;have Za:fc m a=x:=by simp[fc,hj,hx]
  rw[Za];repeat' ((conv=>whnf);first|refine cg hA ?_|refine aD ?_|apply au|apply oi|apply fi|intro h|exact Y1|refine e_ rfl ?_)
  conv=>whnf
  refine⟨j,hj,by rw[O2];exact O4,?_⟩;repeat' ((conv=>whnf);first|refine cg hP ?_|refine aD ?_|apply au|apply oi|apply fi|intro h|refine⟨(aa x),ab hx,?_⟩|exact Y1|refine e_ rfl ?_)
  all_goals try exact Q6
theorem tQ (c:CS)(a:Int)(hc:c.ok):bh prog 231 [pF,tI .i64 a] (jh c) (.tup []) (jh (fF c a)):=by
 refine eJ hΓ aF func231 rfl d_ rfl rfl ?_;have hP:=dU c hc;have hA:=kV (aX c) a;have O7:=da hc
 generalize hD:aX c=d at *
 unfold fF cAt at *
 rw[hD];obtain⟨m,bad⟩:=d;unfold CS.ok at O7;dsimp only at hA O7⊢
 cases hB:(bad||!cq a)with
 | true=>
  rw[hB]at hA;repeat' ((conv=>whnf);first|refine cg hP ?_|refine cg hA ?_|refine aD ?_|apply au|apply oi|apply fi|intro h|exact Y1|refine e_ rfl ?_)
  all_goals try exact Q6
 | false=>
  rw[hB]at hA;obtain⟨_,hin⟩:=qu hB;obtain⟨j,x,hj,hx,O4,T3⟩:=uZ O7 hin;have O2:(m.M5.map aa).length=m.M5.length:=s_;repeat' ((conv=>whnf);first|refine cg hP ?_|refine cg hA ?_|refine aD ?_|apply au|apply oi|apply fi|intro h|exact Y1|refine e_ rfl ?_)
  conv=>whnf
  refine⟨j,hj,by rw[O2];exact O4,?_⟩;repeat' ((conv=>whnf);first|refine aD ?_|apply au|apply oi|apply fi|intro h|refine⟨(aa x),ab hx,?_⟩|exact Y1|refine e_ rfl ?_)
  all_goals try exact Q6
  all_goals try(refine⟨?_⟩;rw[<-show a.toNat=j by rw[hj];rfl];exact Ea)
def rh (c:CS)(a:Int):CS:=⟨{c.m with M4:=wr (c.m.M4+a)},c.bad⟩
def vA (c:CS)(k:Int):CS:=cS (aX (aX c)) (cG k (kn (aX c)) (kn c))
def qW (c:CS)(a:Int):CS:=if kn c=0 then rh (aX c) a else aX c
def qJ (c:CS)(es:List Int)(a:Int):CS:=match es[a.toNat]? with
 | some e=>⟨{c.m with M4:=e},c.bad⟩
 | none=>⟨c.m,true⟩
def vB (c:CS)(n:Nat):CS:=fq n ⟨{(cS c c.m.M3).m with M3:=(cS c c.m.M3).m.L8},(cS c c.m.M3).bad⟩
def cFp (c:CS):CS:=⟨{(aX c).m with M3:=kn c},(aX c).bad⟩
def cPc (c:CS):CS:=⟨{(aX c).m with M4:=kn c},(aX c).bad⟩
def jC (c:CS):CS:=⟨{c.m with L8:=c.m.M3},c.bad⟩
def uM (c:CS)(n:Nat):CS:=cS (dl n (cPc (cFp (jC (aX c))))) (kn c)
def qA (c:CS)(n:Nat):CS:=cS (dl (n%16) (cPc (dl (n/16) (aX c)))) (kn c)
def Er (c:CS):CS:=⟨{(aX c).m with L6:=(aX c).m.L6++[kn c]},(aX c).bad⟩
def bC (es:List Int)(c:CS)(x:Qv):CS:=
 if x.J5=0 then cS c x.L2
 else if x.J5=1 then ji c (wr (c.m.M3+x.L2))
 else if x.J5=3 then ji c (wr (c.m.L8+x.L2))
 else if x.J5=2 then fF c (wr (c.m.M3+x.L2))
 else if x.J5=4 then fF c (wr (c.m.L8+x.L2))
 else if 5<=x.J5/\x.J5<=9 then vA c (x.J5-3)
 else if x.J5=10 then rh c x.L2
 else if x.J5=11 then qW c x.L2
 else if x.J5=12 then qJ (cS c c.m.M4) es x.L2
 else if x.J5=13 then vB c x.L2.toNat
 else if x.J5=15 then fq x.L2.toNat c
 else if x.J5=14 then uM c x.L2.toNat
 else if x.J5=16 then qA c x.L2.toNat
 else if x.J5=17 then Er c
 else c
abbrev opV (x:Qv):AV:= .r (.agg [.t (.int .i64 x.J5),.t (.int .i64 x.L2)])
abbrev Qi (c:CS):List (Sim.Id×AO):=[((0,0,0),.box [.ptr (0,0,1) 0,.t (.bool c.bad)]),((0,0,1),PI c.m (0,0,2) (1,0,0)),((0,0,2),.arr false 1 (c.m.M5.map aa)),((1,0,0),.arr false 1 (c.m.L6.map aa))]
theorem V131{p:Prop}(h:p:=by
 repeat' ((conv=>whnf);first|refine cg hP ?_|refine aD ?_|apply au|apply oi|apply fi|intro h|exact Y1|refine e_ rfl ?_)):p:=h
theorem zM (s:QA)(c:CS)(x:Qv)(hc:c.ok)(hx:x.J5≠17)(ha:12<=x.J5->x.J5<=16->0<=x.L2/\x.L2<=65536)(he:s.M2.length<=1048576):bh prog 178 [pF,.r (.agg (s.tr.map .t)),opV x] (jh c) (.tup []) (jh (bC s.M2 c x)):=by
 obtain⟨k,a⟩:=x;dsimp only at hx ha;refine eJ hΓ aF func178 rfl d_ rfl rfl ?_;by_cases h0:k=0
 ·subst h0;have hP:=eW c a hc;exact V131
 by_cases h1:k=1
 ·subst h1;have hP:=wq c (wr (c.m.M3+a)) hc;exact V131
 by_cases h3:k=3
 ·subst h3;have hP:=wq c (wr (c.m.L8+a)) hc;exact V131
 by_cases h2:k=2
 ·subst h2;have hP:=tQ c (wr (c.m.M3+a)) hc;exact V131
 by_cases h4:k=4
 ·subst h4;have hP:=tQ c (wr (c.m.L8+a)) hc;exact V131
 by_cases Ym:k=10
 ·subst Ym;repeat' ((conv=>whnf);first|refine aD ?_|apply au|apply oi|apply fi|intro h|exact Y1|refine e_ rfl ?_)
 by_cases h59:5<=k/\k<=9
 ·have Yh:=dU c hc;have YU:=dU (aX c) (da hc);have hP3:=eW (aX (aX c)) (cG (k-3) (kn (aX c)) (kn c)) (da (da hc));have hA:=sQ (k-3) (kn (aX c)) (kn c);have e:k=5\/k=6\/k=7\/k=8\/k=9:=o_;rcases e with rfl|rfl|rfl|rfl|rfl
  all_goals
   repeat' ((conv=>whnf);first|refine aD ?_|apply au|apply oi|apply fi|intro h|exact Y1|refine e_ rfl ?_)
   refine cg (Yh) ?_;repeat' ((conv=>whnf);first|refine aD ?_|apply au|apply oi|apply fi|intro h|exact Y1|refine e_ rfl ?_)
   refine cg (YU) ?_;repeat' ((conv=>whnf);first|refine aD ?_|apply au|apply oi|apply fi|intro h|refine cl hA ?_|exact Y1|refine e_ rfl ?_)
   refine cg (hP3) ?_;repeat' ((conv=>whnf);first|refine aD ?_|apply au|apply oi|apply fi|intro h|exact Y1|refine e_ rfl ?_)
 by_cases WJ:k=11
 ·subst WJ;have hP:=dU c hc;by_cases hz:kn c=0
  ·rw[show bC s.M2 c ⟨11,a⟩=rh (aX c) a by simp[bC,qW,hz]];repeat' ((conv=>whnf);first|refine cg hP ?_|refine aD ?_|apply au|apply oi|apply fi|intro h|exact Y1|refine e_ rfl ?_)
   all_goals try(exfalso;rw[hz]at h;simp at h;done)
  ·rw[show bC s.M2 c ⟨11,a⟩=aX c by simp[bC,qW,hz]];repeat' ((conv=>whnf);first|refine cg hP ?_|refine aD ?_|apply au|apply oi|apply fi|intro h|exact Y1|refine e_ rfl ?_)
   all_goals try(exfalso;exact hz aap)
 by_cases h12:k=12
 ·subst h12;obtain⟨a0,a1⟩:=ha o_ o_;obtain⟨n,rfl⟩:=i7 a0;have hP:=eW c c.m.M4 hc;have QP:(s.M2.map aa).length=s.M2.length:=s_;by_cases hn:n<s.M2.length
  ·obtain⟨e,RX⟩:=ae hn;rw[show bC s.M2 c ⟨12,(n:Int)⟩=⟨{(cS c c.m.M4).m with M4:=e},(cS c c.m.M4).bad⟩ by simp[bC,qJ,RX]];repeat' ((conv=>whnf);first|refine cg hP ?_|refine aD ?_|apply au|apply oi|apply fi|intro h|refine⟨n,(aa e),rfl,ab RX,?_⟩|exact Y1|refine e_ rfl ?_)
   all_goals try(exfalso;have h':=j6 h;rw[QP]at h';dsimp only at h';omega)
  ·have aar:s.M2[n]?=none:=e9 o_;rw[show bC s.M2 c ⟨12,(n:Int)⟩=⟨(cS c c.m.M4).m,true⟩ by simp[bC,qJ,aar]];repeat' ((conv=>whnf);first|refine cg hP ?_|refine aD ?_|apply au|apply oi|apply fi|intro h|exact Y1|refine e_ rfl ?_)
   all_goals try(exfalso;have h':=j5 h;rw[QP]at h';dsimp only at h';omega)
 by_cases h13:k=13
 ·subst h13;obtain⟨a0,a1⟩:=ha o_ o_;obtain⟨n,rfl⟩:=i7 a0;have hP:=eW c c.m.M3 hc;have hZ:=tR ⟨{(cS c c.m.M3).m with M3:=(cS c c.m.M3).m.L8},(cS c c.m.M3).bad⟩ n (fN hc) o_;repeat' ((conv=>whnf);first|refine cg hP ?_|refine cg hZ ?_|refine aD ?_|apply au|apply oi|apply fi|intro h|exact Y1|refine e_ rfl ?_)
 by_cases h15:k=15
 ·subst h15;obtain⟨a0,a1⟩:=ha o_ o_;obtain⟨n,rfl⟩:=i7 a0;have hZ:=tR c n hc o_;repeat' ((conv=>whnf);first|refine cg hZ ?_|refine aD ?_|apply au|apply oi|apply fi|intro h|exact Y1|refine e_ rfl ?_)
 by_cases h14:k=14
 ·subst h14;obtain⟨a0,a1⟩:=ha o_ o_;obtain⟨n,rfl⟩:=i7 a0;have o1:(jC (aX c)).ok:=da hc;have o2:(cFp (jC (aX c))).ok:=da o1;have o3:(cPc (cFp (jC (aX c)))).ok:=da o2;have Yh:=dU c hc;have YU:=dU (jC (aX c)) o1;have hP3:=dU (cFp (jC (aX c))) o2;have hD:=pD (cPc (cFp (jC (aX c)))) n o3 o_;have hP4:=eW (dl n (cPc (cFp (jC (aX c))))) (kn c) (ls o3);repeat' ((conv=>whnf);first|refine aD ?_|apply au|apply oi|apply fi|intro h|exact Y1|refine e_ rfl ?_)
  refine cg (Yh) ?_;repeat' ((conv=>whnf);first|refine aD ?_|apply au|apply oi|apply fi|intro h|exact Y1|refine e_ rfl ?_)
  refine cg (YU) ?_;repeat' ((conv=>whnf);first|refine aD ?_|apply au|apply oi|apply fi|intro h|exact Y1|refine e_ rfl ?_)
  refine cg (hP3) ?_;repeat' ((conv=>whnf);first|refine cg hD ?_|refine cg hP4 ?_|refine aD ?_|apply au|apply oi|apply fi|intro h|exact Y1|refine e_ rfl ?_)
 by_cases h16:k=16
 ·subst h16;obtain⟨a0,a1⟩:=ha o_ o_;obtain⟨n,rfl⟩:=i7 a0;have o1:(aX c).ok:=da hc;have o2:(dl (n/16) (aX c)).ok:=ls o1;have o3:(cPc (dl (n/16) (aX c))).ok:=da o2
  have w1:IntKind.i64.wrap ((n:Int).tdiv 16)=((n/16:Nat):Int):=by rw[Int.tdiv_eq_ediv_of_nonneg o_,c8 _ o_];rfl
  have w2:(n:Int).tmod 16=((n%16:Nat):Int):=by rw[E8 o_];rfl
  have Yh:=dU c hc;have hD1:=pD (aX c) (n/16) o1 o_;have YU:=dU (dl (n/16) (aX c)) o2;have hD2:=pD (cPc (dl (n/16) (aX c))) (n%16) o3 o_;have hP4:=eW (dl (n%16) (cPc (dl (n/16) (aX c)))) (kn c) (ls o3);rw[<-w1]at hD1;rw[<-w2]at hD2;repeat' ((conv=>whnf);first|refine aD ?_|apply au|apply oi|apply fi|intro h|exact Y1|refine e_ rfl ?_)
  refine cg (Yh) ?_;repeat' ((conv=>whnf);first|refine aD ?_|apply au|apply oi|apply fi|intro h|exact Y1|refine e_ rfl ?_)
  refine cg (hD1) ?_;repeat' ((conv=>whnf);first|refine aD ?_|apply au|apply oi|apply fi|intro h|exact Y1|refine e_ rfl ?_)
  refine cg (YU) ?_;repeat' ((conv=>whnf);first|refine aD ?_|apply au|apply oi|apply fi|intro h|exact Y1|refine e_ rfl ?_)
  refine cg (hD2) ?_;repeat' ((conv=>whnf);first|refine aD ?_|apply au|apply oi|apply fi|intro h|exact Y1|refine e_ rfl ?_)
  refine cg (hP4) ?_;repeat' ((conv=>whnf);first|refine aD ?_|apply au|apply oi|apply fi|intro h|exact Y1|refine e_ rfl ?_)
 ·rw[show bC s.M2 c ⟨k,a⟩=c by
   unfold bC;dsimp only
   rw[b8 h0,b8 h1,b8 h3,b8 h2,b8 h4,b8 h59,b8 Ym,b8 WJ,b8 h12,b8 h13,b8 h15,b8 h14,b8 h16,b8 hx]]
  repeat' ((conv=>whnf);first|refine aD ?_|apply au|apply oi|apply fi|intro h|exact Y17|refine e_ rfl ?_)
theorem Hg (s:QA)(c:CS)(a:Int)(hc:c.ok)(ho:c.m.L6.length<=2000000):bh prog 178 [pF,.r (.agg (s.tr.map .t)),opV ⟨17,a⟩] (jh c) (.tup []) (Qi (Er c)):=by
 refine eJ hΓ aF func178 rfl d_ rfl rfl ?_;have hP:=dU c hc;have WO:(aX c).m.L6.length<=2000000:=by unfold aX;split<;>exact ho
 repeat' ((conv=>whnf);first|refine cg hP ?_|refine aD ?_|refine Ow 4 6 ?_|apply oi|apply fi|intro h|exact Y18|refine e_ rfl ?_)
 all_goals try exact⟨⟨by(try simp only[d9,c7,d6,e8]);omega,by(try simp only[d9,c7,d6,e8]);omega⟩⟩
 all_goals(refine⟨?_⟩;simp[Er,aa])
theorem Lg {c:Int}(h:12<=c/\c<=16):(br c).2=false/\((br c).1=1\/(br c).1=2):=by
 unfold br;repeat' split
 all_goals first
  |(exfalso;omega)
  | simp
theorem NR {c:Int}(h:1<=c/\c<=11):br c=(2,true)\/br c=(0,false):=by
 unfold br;repeat' split
 all_goals first
  |(exfalso;omega)
  | simp
theorem Mt {c:Int}{m:Nat}(h:br c=(2,true))(hm:m<65536):-65536<=lO c m/\lO c m<=65536:=by
 by_cases hb:2^(8*2-1)<=m
 ·have e:lO c m=(m:Int)-2^(8*2):=th (n:=2) (by rw[h];rfl) (by rw[h]) hb;rw[e];show -65536<=(m:Int)-65536/\(m:Int)-65536<=65536;omega
 ·have e:lO c m=(m:Int):=pW (n:=2) (by rw[h];rfl) (fun hh=>hb hh.2);rw[e];omega
theorem nL {s:List UInt8}{p:Int}{x:Qv}{z:Nat}(h:bP s p=some (x,z)):(0<=x.J5/\x.J5<=17)/\(12<=x.J5->x.J5<=16->0<=x.L2/\x.L2<=65536)/\(1<=x.J5->x.J5<=11->-65536<=x.L2/\x.L2<=65536)/\z<=5:=by
 unfold bP at h;split at h
 ·split at h
  ·cases h
  ·rename_i QR;injection h with h;injection h with h1 h2;rw[not_or]at QR;have hz:=iF (dy s p.toNat);subst h1;dsimp only
   generalize hc:((dy s p.toNat:Nat):Int)=c at *
   have hin:0<=c/\c<=17:=by
    have:=QR.1;unfold aQ at this;split at this
    ·rename_i hw;exact within_iff.1 hw
    ·exact absurd rfl this
   refine⟨hin,fun g1 g2=>?_,fun g1 g2=>?_,o_⟩
   ·obtain⟨e1,e2⟩:=Lg ⟨g1,g2⟩;have hl:=gr s (p.toNat+1) (br c).1.toNat;have:256^(br c).1.toNat<=65536:=(by rcases e2 with e2|e2<;>rw[e2]<;>decide);rw[lO,b8 (by rw[e1];simp)];omega
   ·have hl:=gr s (p.toNat+1) (br c).1.toNat;rcases NR ⟨g1,g2⟩with e|e
    ·rw[e]at hl⊢;exact Mt e hl
    ·rw[e]at hl⊢;have hl:bp s (p.toNat+1) 0<1:=hl;have e2:lO c (bp s (p.toNat+1) 0)=((bp s (p.toNat+1) 0:Nat):Int):=pW (n:=0) (by rw[e];rfl) (fun hh=>by rw[e]at hh;exact absurd hh.1 s_);show -65536<=lO c (bp s (p.toNat+1) 0)/\lO c (bp s (p.toNat+1) 0)<=65536;rw[e2];omega
 ·cases h
theorem iz (m:Qu)(hs:m.M5.length<=2000000)(ho:m.L6.length<=2000000):Sim.Spec prog 97 [.agg m.tr] (.r (.agg (m.tr.map xn))):=by
 refine az hΓ aF func97 rfl d_ rfl ?_;repeat' ((conv=>whnf);first|refine Or.inl ?_|apply oi|apply fi|intro h|exact Y1|refine e_ rfl ?_)
 all_goals exact⟨⟨rfl,dh _⟩⟩
def lh (c:CS)(v:Int):CS:=if c.m.L8<1\/1200<c.m.L8 then⟨c.m,true⟩else⟨{oI c.m (c.m.L8-1) v with L8:=c.m.L8-1},c.bad⟩
def Of (c:CS)(a:Int):Int:=if cq a=true then fc c.m a else 0
def Am (c:CS):Int:=Of c c.m.L8
def PU (c:CS)(a v:Int):CS:=if cq a=true then⟨oI c.m a v,c.bad⟩else⟨c.m,true⟩
def CG:Nat->CS->CS
 | 0,c=>c
 | n+1,c=>CG n (lh c 0)
def DZ (a n:Int):Int:=if af a (-100000) 100000=true then wr (a+n)else -1
def IJ (c:CS)(a:Int):CS:=lh (cAt c a) (Of c a)
def Dw (c:CS)(a:Int):CS:=PU (aX c) a (Am c)
def KC (c:CS)(k:Int):CS:=lh (aX (aX c)) (cG k (Am (aX c)) (Am c))
def OB (c:CS)(a:Int):CS:=if Am c=0 then rh (aX c) a else aX c
def OJ (c:CS)(es:List Int)(a:Int):CS:=match es[a.toNat]? with
 | some e=>⟨{(lh c c.m.M4).m with M4:=e},(lh c c.m.M4).bad⟩
 | none=>⟨c.m,true⟩
def KJ (c:CS)(n:Nat):CS:=CG n ⟨{(lh c c.m.M3).m with M3:=(lh c c.m.M3).m.L8},(lh c c.m.M3).bad⟩
def qFp (c:CS):CS:=⟨{(aX c).m with M3:=Am c},(aX c).bad⟩
def qPc (c:CS):CS:=⟨{(aX c).m with M4:=Am c},(aX c).bad⟩
def Le (c:CS)(n:Nat):CS:=if af (aX c).m.M3 0 1200=true then lh (dl n (qPc (qFp (jC (aX c))))) (Am c)else⟨(aX c).m,true⟩
def Jk (c:CS)(n:Nat):CS:=lh (dl (n%16) (qPc (dl (n/16) (aX c)))) (Am c)
def Qe (c:CS):CS:=⟨{(aX c).m with L6:=(aX c).m.L6++[Am c]},(aX c).bad⟩
def OR (es:List Int)(c:CS)(x:Qv):CS:=
 if x.J5=0 then lh c x.L2
 else if x.J5=1 then IJ c (DZ c.m.M3 x.L2)
 else if x.J5=3 then IJ c (wr (c.m.L8+x.L2))
 else if x.J5=2 then Dw c (DZ c.m.M3 x.L2)
 else if x.J5=4 then Dw c (wr (c.m.L8+x.L2))
 else if x.J5=10 then rh c x.L2
 else if x.J5=11 then OB c x.L2
 else if x.J5=12 then OJ c es x.L2
 else if x.J5=13 then KJ c x.L2.toNat
 else if x.J5=15 then CG x.L2.toNat c
 else if x.J5=14 then Le c x.L2.toNat
 else if x.J5=16 then Jk c x.L2.toNat
 else if x.J5=17 then Qe c
 else KC c (x.J5-3)
def Rel (c d:CS):Prop:=c.bad=d.bad/\(c.bad=false->c.m=d.m/\0<=c.m.L8/\c.m.L8<=1200)
theorem Rel.bad {m m':Qu}:Rel ⟨m,true⟩ ⟨m',true⟩:=⟨rfl,fun h=>by cases h⟩
theorem BV {c:CS}{v:Int}(h:c.bad=true):(cS c v).bad=true:=by simp[cS,h]
theorem vC {c:CS}{v:Int}(h:c.bad=true):(lh c v).bad=true:=by unfold lh;split<;>simp[h]
theorem pI {c:CS}(h:c.bad=true):(aX c).bad=true:=by simp[aX,h]
theorem MI {c:CS}(h:cq c.m.L8=false):(aX c).bad=true:=by simp[aX,h]
theorem uN:∀{n:Nat} {c:CS},c.bad=true->(dl n c).bad=true
 | 0,_,h=>h
 | n+1,_,h=>uN (n:=n) (pI h)
theorem Rel.of_bad {c d:CS}(h1:c.bad=true)(h2:d.bad=true):Rel c d:=⟨h1.trans h2.symm,fun h=>by rw[h1]at h;cases h⟩
theorem km {c d:CS}{v v':Int}(h:Rel c d)(hv:c.bad=false->v=v'):Rel (cS c v) (lh d v'):=by
 obtain⟨h1,h2⟩:=h
 cases hb:c.bad with
 | true=>exact .of_bad (BV hb) (vC (h1▸hb))
 | false=>
  obtain⟨h3,h4,h5⟩:=h2 hb;obtain⟨m,b⟩:=c;obtain⟨m',b'⟩:=d
  dsimp only at *
  subst h3;subst h1;subst hb;rw[hv rfl];unfold cS lh;dsimp only;have hw:wr (m.L8-1)=m.L8-1:=c8 _ o_;rw[hw];by_cases hs:m.L8<1\/1200<m.L8
  ·have hn:cq (m.L8-1)=false:=by cases hi:cq (m.L8-1)with|false=>rfl|true=>have:=inStk_iff.1 hi;omega
   rw[b9 hs,b9 (by simp[hn])];exact .bad
  ·have hn:cq (m.L8-1)=true:=inStk_iff.2 o_;rw[b8 hs,b8 (by simp[hn])];exact⟨rfl,fun _=>⟨rfl,g_,g_⟩⟩
theorem ia {c d:CS}(h:Rel c d):Rel (aX c) (aX d):=by
 obtain⟨h1,h2⟩:=h
 cases hb:c.bad with
 | true=>exact .of_bad (pI hb) (pI (h1▸hb))
 | false=>
  obtain⟨h3,h4,h5⟩:=h2 hb;obtain⟨m,b⟩:=c;obtain⟨m',b'⟩:=d
  dsimp only at *
  subst h3;subst h1;subst hb;refine⟨rfl,fun hn=>⟨rfl,?_⟩⟩;unfold aX at hn⊢;dsimp only at hn⊢;split at hn
  ·cases hn
  ·rename_i hi;rw[b8 hi];have:cq m.L8=true:=(by simpa using hi);have:=inStk_iff.1 this;dsimp only;omega
theorem jP {c d:CS}(h:Rel c d)(hb:(aX c).bad=false):kn c=Am d:=by
 obtain⟨h1,h2⟩:=h;unfold aX at hb;split at hb
 ·cases hb
 ·rename_i hi;have Zj:c.bad=false/\cq c.m.L8=true:=by simpa using hi
  obtain⟨h3,_⟩:=h2 Zj.1;unfold kn Am Of;rw[b8 hi,<-h3,b9 Zj.2]
theorem ub:∀{n:Nat} {c d:CS},Rel c d->Rel (dl n c) (dl n d)
 | 0,_,_,h=>h
 | n+1,_,_,h=>ub (n:=n) (ia h)
theorem uV:∀{n:Nat} {c:CS},(dl n c).bad=false->c.bad=false
 | n,c,h=>by cases hb:c.bad with
  | false=>rfl
  | true=>rw[uN hb]at h;cases h
theorem sW {c:CS}(h:(aX c).bad=false):c.bad=false:=by cases hb:c.bad with
  | false=>rfl
  | true=>rw[pI hb]at h;cases h
theorem vd:∀{n:Nat} {c d:CS},Rel c d->Rel (fq n c) (CG n d)
 | 0,_,_,h=>h
 | n+1,_,_,h=>vd (n:=n) (km h fun _=>rfl)
theorem Eh {c d:CS}{a a':Int}(h:Rel c d)(hi:cq a=cq a')(ha:cq a=true->a=a'):Rel (ji c a) (IJ d a'):=by
 obtain⟨h1,h2⟩:=h;unfold ji IJ cAt;rw[<-hi]
 cases hb:c.bad with
 | true=>exact .of_bad s_ (vC (by simp[<-h1,hb]))
 | false=>
  obtain⟨h3,h4,h5⟩:=h2 hb
  cases hn:cq a with
  | false=>exact .of_bad s_ (vC s_)
  | true=>
   have e:=ha hn;subst e;rw[b8 s_];refine km ⟨?_,fun _=>⟨h3,h4,h5⟩⟩ fun _=>?_
   ·simp[<-h1,hb]
   ·rw[Of,b9 hn,h3]
theorem Bg {c d:CS}{a a':Int}(h:Rel c d)(hi:cq a=cq a')(ha:cq a=true->a=a'):Rel (fF c a) (Dw d a'):=by
 have hp:=ia h;have ht:=jP h;unfold fF Dw PU;rw[<-hi]
 cases hb:(aX c).bad with
 | true=>
  rw[b9 s_];refine .of_bad rfl ?_;split
  ·rw[<-hp.1];exact hb
  ·rfl
 | false=>
  obtain⟨h3,h4,h5⟩:=hp.2 hb
  cases hn:cq a with
  | false=>rw[b9 s_,b8 s_];exact .bad
  | true=>have e:=ha hn;subst e;rw[b8 s_,b9 rfl,ht hb,<-h3];exact⟨by rw[<-hp.1,hb],fun _=>⟨rfl,h4,h5⟩⟩
theorem Is {f n:Int}(hf:inI f)(hn:-65536<=n/\n<=65536):cq (wr (f+n))=cq (DZ f n)/\(cq (wr (f+n))=true->wr (f+n)=DZ f n):=by
 unfold DZ;by_cases hw:af f (-100000) 100000=true
 ·rw[b9 hw];exact⟨rfl,fun _=>rfl⟩
 ·rw[b8 hw];have h0:¬(-100000<=f/\f<=100000):=fun h=>hw (within_iff.2 h)
  have:cq (wr (f+n))=false:=by
   cases hi:cq (wr (f+n))with
   | false=>rfl
   | true=>
    exfalso;have h1:=inStk_iff.1 hi;unfold inI at hf;have e:wr (f+n)=if(f+n)%18446744073709551616≥9223372036854775808 then(f+n)%18446744073709551616-18446744073709551616 else(f+n)%18446744073709551616:=by simp[wr,IntKind.wrap,IntKind.bits,IntKind.signed]
    rw[e]at h1;split at h1<;>omega
  rw[this];exact⟨d_,fun h=>by cases h⟩
theorem LB (es:List Int)(m:Qu)(x:Qv)(QM:0<=m.L8/\m.L8<=1200)(Ta:inI m.M3)(hc:0<=x.J5/\x.J5<=17)(h1:12<=x.J5->x.J5<=16->0<=x.L2/\x.L2<=65536)(h2:1<=x.J5->x.J5<=11->-65536<=x.L2/\x.L2<=65536):
  Rel (bC es ⟨m,false⟩ x) (OR es ⟨m,false⟩ x):=by
 have h0:Rel ⟨m,false⟩ ⟨m,false⟩:=⟨rfl,fun _=>⟨rfl,QM⟩⟩;obtain⟨k,a⟩:=x;dsimp only at hc h1 h2
 generalize hd:(⟨m,false⟩:CS)=d at *
 have hdf:d.m.M3=m.M3:=by rw[<-hd]
 unfold bC OR;dsimp only;by_cases e0:k=0
 ·rw[b9 e0,b9 e0];exact km h0 fun _=>rfl
 rw[b8 e0,b8 e0];by_cases e1:k=1
 ·rw[b9 e1,b9 e1];have:=Is (n:=a) Ta (h2 o_ o_);rw[hdf];exact Eh h0 this.1 this.2
 rw[b8 e1,b8 e1];by_cases e3:k=3
 ·rw[b9 e3,b9 e3];exact Eh h0 rfl fun _=>rfl
 rw[b8 e3,b8 e3];by_cases e2:k=2
 ·rw[b9 e2,b9 e2];have:=Is (n:=a) Ta (h2 o_ o_);rw[hdf];exact Bg h0 this.1 this.2
 rw[b8 e2,b8 e2];by_cases e4:k=4
 ·rw[b9 e4,b9 e4];exact Bg h0 rfl fun _=>rfl
 rw[b8 e4,b8 e4];by_cases e59:5<=k/\k<=9
 ·rw[b9 e59,b8 o_,b8 o_,b8 o_,b8 o_,b8 o_,b8 o_,b8 o_,b8 o_];unfold vA KC;refine km (ia (ia h0)) fun hb=>?_;rw[jP h0 (sW hb),jP (ia h0) hb]
 rw[b8 e59];by_cases e10:k=10
 ·rw[b9 e10,b9 e10];unfold rh;exact⟨rfl,fun hb=>⟨rfl,(h0.2 hb).2⟩⟩
 rw[b8 e10,b8 e10];by_cases e11:k=11
 ·rw[b9 e11,b9 e11];unfold qW OB;have hp:=ia h0
  cases hb:(aX d).bad with
  | true=>refine .of_bad ?_ ?_<;>split<;>simp[rh,hb]
  | false=>
   rw[jP h0 hb];split
   ·unfold rh;exact⟨rfl,fun hb=>⟨rfl,(hp.2 hb).2⟩⟩
   ·exact hp
 rw[b8 e11,b8 e11];by_cases e12:k=12
 ·rw[b9 e12,b9 e12];have hp:=km (v:=d.m.M4) (v':=d.m.M4) h0 fun _=>rfl;unfold qJ OJ
  cases he:es[a.toNat]? with|some e=>exact⟨hp.1,fun hb=>by obtain⟨g1,g2,g3⟩:=hp.2 hb;exact⟨by dsimp only;rw[g1],g2,g3⟩⟩|none=>exact .bad
 rw[b8 e12,b8 e12];by_cases e13:k=13
 ·rw[b9 e13,b9 e13];have hp:=km (v:=d.m.M3) (v':=d.m.M3) h0 fun _=>rfl;unfold vB KJ;refine vd ⟨hp.1,fun hb=>?_⟩;obtain⟨g1,g2,g3⟩:=hp.2 hb;exact⟨by dsimp only;rw[g1],g2,g3⟩
 rw[b8 e13,b8 e13];by_cases e15:k=15
 ·rw[b9 e15,b9 e15];exact vd h0
 rw[b8 e15,b8 e15];by_cases e14:k=14
 ·rw[b9 e14,b9 e14];unfold uM Le;have hp:=ia h0;by_cases hw:af (aX d).m.M3 0 1200=true
  ·rw[b9 hw];have hw':=within_iff.1 hw;have QF:Rel (jC (aX d)) (jC (aX d)):=⟨rfl,fun _=>⟨rfl,hw'.1,hw'.2⟩⟩;have p2:=ia QF
   have r3:Rel (cFp (jC (aX d))) (qFp (jC (aX d))):=⟨p2.1,fun hb=>by
    unfold cFp qFp;rw[jP QF hb]
    exact⟨rfl,(p2.2 hb).2⟩⟩
   have p3:=ia r3
   have r4:Rel (cPc (cFp (jC (aX d)))) (qPc (qFp (jC (aX d)))):=⟨p3.1,fun hb=>by
    obtain⟨g1,g2,g3⟩:=p3.2 hb;unfold cPc qPc;rw[jP r3 hb]
    exact⟨by dsimp only;rw[g1],g2,g3⟩⟩
   refine km (ub r4) fun hb=>jP h0 ?_;have b0:(cPc (cFp (jC (aX d)))).bad=false:=uV hb;have b1:(aX (cFp (jC (aX d)))).bad=false:=b0;have b1':(cFp (jC (aX d))).bad=false:=sW b1;have b2:(aX (jC (aX d))).bad=false:=b1';have b2':(jC (aX d)).bad=false:=sW b2;exact b2'
  ·rw[b8 hw];refine .of_bad ?_ rfl;refine BV (uN ?_);show(aX (cFp (jC (aX d)))).bad=true;refine pI ?_;show(aX (jC (aX d))).bad=true
   have hn:cq (aX d).m.M3=false:=by cases hi:cq (aX d).m.M3 with|false=>rfl|true=>exact absurd (within_iff.2 (by have:=inStk_iff.1 hi;omega)) hw
   exact MI (c:=jC (aX d)) hn
 rw[b8 e14,b8 e14];by_cases e16:k=16
 ·rw[b9 e16,b9 e16];unfold qA Jk;have hp:=ia h0;have r2:=ub (n:=a.toNat/16) hp;have p3:=ia r2
  have r4:Rel (cPc (dl (a.toNat/16) (aX d))) (qPc (dl (a.toNat/16) (aX d))):=⟨p3.1,fun hb=>by
   obtain⟨g1,g2,g3⟩:=p3.2 hb;unfold cPc qPc;rw[jP r2 hb]
   exact⟨rfl,g2,g3⟩⟩
  refine km (ub r4) fun hb=>jP h0 ?_;have b0:(cPc (dl (a.toNat/16) (aX d))).bad=false:=uV hb;have b1:(aX (dl (a.toNat/16) (aX d))).bad=false:=b0;have b2:(dl (a.toNat/16) (aX d)).bad=false:=sW b1;exact uV b2
 rw[b8 e16,b8 e16];have e17:k=17:=o_;rw[b9 e17,b9 e17];have hp:=ia h0;unfold Er Qe;refine⟨rfl,fun hb=>?_⟩;rw[jP h0 hb];exact⟨rfl,(hp.2 hb).2⟩
def adv (c:CS)(z:Int):CS:=⟨{c.m with M4:=wr (c.m.M4+z)},c.bad⟩
end Go.Proofs.P
namespace Go.Proofs.P
open Go.Sim Tryz
set_option maxRecDepth 100000
set_option maxHeartbeats 8000000
theorem bN {p:Prop}[Decidable p](Q:CS->Prop){a b:CS}(ha:Q a)(hb:Q b):Q (if p then a else b):=by split<;>assumption
theorem FJ {es:List Int}{c:CS}{x:Qv}(h:c.ok):(bC es c x).ok:=by
 unfold bC
 refine bN (CS.ok) (by
  exact fN h) ?_
 refine bN (CS.ok) (by
  exact Gl h) ?_
 refine bN (CS.ok) (by
  exact Gl h) ?_
 refine bN (CS.ok) (by
  exact Ce h) ?_
 refine bN (CS.ok) (by
  exact Ce h) ?_
 refine bN (CS.ok) (by
  exact fN (da (da h))) ?_
 refine bN (CS.ok) (by
  exact h) ?_
 refine bN (CS.ok) (by
  unfold qW;split
  ·exact da h
  ·exact da h) ?_
 refine bN (CS.ok) (by
  unfold qJ;split
  ·exact fN h
  ·exact fN h) ?_
 refine bN (CS.ok) (by
  exact vH (fN h)) ?_
 refine bN (CS.ok) (by
  exact vH h) ?_
 refine bN (CS.ok) (by
  exact fN (ls (da (da (da h))))) ?_
 refine bN (CS.ok) (by
  exact fN (ls (da (ls (da h))))) ?_
 refine bN (CS.ok) (by
  exact da h) ?_
 exact h
def MW (m:Qu):Prop:=(∀w∈m.M5,inI w)/\inI m.M4/\inI m.M3
theorem KY (n:Int):inI (wr n):=by
 have e:wr n=if n%18446744073709551616≥9223372036854775808 then n%18446744073709551616-18446744073709551616 else n%18446744073709551616:=by simp[wr,IntKind.wrap,IntKind.bits,IntKind.signed]
 unfold inI;rw[e];split<;>omega
theorem xy:inI 0:=by unfold inI;omega
theorem Bf {m:Qu}(h:MW m)(a:Int):inI (fc m a):=by
 unfold fc;split
 ·rename_i x hx;exact h.1 _ (c9 hx)
 ·exact xy
theorem Ge {m:Qu}(h:MW m){a v:Int}(hv:inI v):MW (oI m a v):=by
 refine⟨fun w hw=>?_,h.2⟩;rcases u9 hw with h1|h1
 ·exact h.1 w h1
 ·rw[h1];exact hv
theorem jY {c:CS}(h:MW c.m){v:Int}(hv:inI v):MW (cS c v).m:=by
 unfold cS;split
 ·exact h
 ·exact⟨(Ge h hv).1,h.2⟩
theorem gk {c:CS}(h:MW c.m):MW (aX c).m:=by
 unfold aX;split
 ·exact h
 ·exact h
theorem tA {c:CS}(h:MW c.m):inI (kn c):=by
 unfold kn;split
 ·exact xy
 ·exact Bf h _
theorem ud:∀{n:Nat} {c:CS},MW c.m->MW (dl n c).m
 | 0,_,h=>h
 | n+1,_,h=>ud (n:=n) (gk h)
theorem vG:∀{n:Nat} {c:CS},MW c.m->MW (fq n c).m
 | 0,_,h=>h
 | n+1,_,h=>vG (n:=n) (jY h xy)
theorem ED {c:CS}{a:Int}(h:MW c.m):MW (ji c a).m:=by
 unfold ji;split
 ·exact h
 ·exact jY (c:=⟨c.m,false⟩) h (Bf h a)
theorem Bj {c:CS}{a:Int}(h:MW c.m):MW (fF c a).m:=by
 have:=gk h;unfold fF;split
 ·exact this
 ·exact Ge this (tA h)
theorem Ho (n:Int):inI (w32 n):=by have:=kT n;unfold inI;omega
theorem JW (k a b:Int):inI (cG k a b):=by
 unfold cG;repeat' split
 ·exact Ho _
 ·exact Ho _
 ·exact Ho _
 ·unfold inI;omega
 ·exact xy
theorem Ph {c:CS}(h:MW c.m):MW (cFp c).m:=⟨(gk h).1,(gk h).2.1,tA h⟩
theorem Nq {c:CS}(h:MW c.m):MW (cPc c).m:=⟨(gk h).1,tA h,(gk h).2.2⟩
theorem NM {c:CS}(h:MW c.m):MW (jC c).m:=h
theorem Fg {c:CS}(h:MW c.m)(a:Int):MW (rh c a).m:=⟨h.1,KY _,h.2.2⟩
theorem EM {c:CS}(h:MW c.m)(hs:inI c.m.L8)(v:Int):inI (cS c v).m.L8:=by
 unfold cS;split
 ·exact hs
 ·exact KY _
theorem Mo {es:List Int}{c:CS}{x:Qv}(h:MW c.m)(hs:inI c.m.L8)(ha:inI x.L2)(he:∀e∈es,inI e):MW (bC es c x).m:=by
 unfold bC
 refine bN (fun c=>MW c.m) (by
  exact jY h ha) ?_
 refine bN (fun c=>MW c.m) (by
  exact ED h) ?_
 refine bN (fun c=>MW c.m) (by
  exact ED h) ?_
 refine bN (fun c=>MW c.m) (by
  exact Bj h) ?_
 refine bN (fun c=>MW c.m) (by
  exact Bj h) ?_
 refine bN (fun c=>MW c.m) (by
  exact jY (gk (gk h)) (JW _ _ _)) ?_
 refine bN (fun c=>MW c.m) (by
  exact Fg h _) ?_
 refine bN (fun c=>MW c.m) (by
  unfold qW;split
  ·exact Fg (gk h) _
  ·exact gk h) ?_
 refine bN (fun c=>MW c.m) (by
  have hp:=jY h h.2.1;unfold qJ;split
  ·rename_i e RX;exact⟨hp.1,he _ (c9 RX),hp.2.2⟩
  ·exact hp) ?_
 refine bN (fun c=>MW c.m) (by
  have hp:=jY h h.2.2
  exact vG (c:=⟨{(cS c c.m.M3).m with M3:=(cS c c.m.M3).m.L8},(cS c c.m.M3).bad⟩) ⟨hp.1,hp.2.1,EM h hs _⟩) ?_
 refine bN (fun c=>MW c.m) (by
  exact vG h) ?_
 refine bN (fun c=>MW c.m) (by
  exact jY (ud (Nq (Ph (NM (gk h))))) (tA h)) ?_
 refine bN (fun c=>MW c.m) (by
  exact jY (ud (Nq (ud (gk h)))) (tA h)) ?_
 refine bN (fun c=>MW c.m) (by
  exact gk h) ?_
 exact h
theorem gn {c:CS}{v:Int}:(cS c v).m.L6=c.m.L6:=by unfold cS;split<;>rfl
theorem cPop_out' {c:CS}:(aX c).m.L6=c.m.L6:=by unfold aX;split<;>rfl
theorem cDrop_out:∀{n:Nat} {c:CS},(dl n c).m.L6=c.m.L6
 | 0,_=>rfl
 | n+1,c=>by rw[dl,cDrop_out (n:=n),cPop_out']
theorem rU:∀{n:Nat} {c:CS},(fq n c).m.L6=c.m.L6
 | 0,_=>rfl
 | n+1,c=>by rw[fq,rU (n:=n),gn]
theorem Co {c:CS}{a:Int}:(ji c a).m.L6=c.m.L6:=by
 unfold ji;split
 ·rfl
 ·exact gn
theorem za {c:CS}{a:Int}:(fF c a).m.L6=c.m.L6:=by
 unfold fF;split
 ·exact cPop_out'
 ·exact cPop_out'
theorem JC {es:List Int}{c:CS}{x:Qv}:(bC es c x).m.L6.length<=c.m.L6.length+1:=by
 have key:∀l:List Int,l=c.m.L6->l.length<=c.m.L6.length+1:=fun l h=>by rw[h];omega
 unfold bC
 refine bN (fun d=>d.m.L6.length<=c.m.L6.length+1) (by
  exact key _ gn) ?_
 refine bN (fun d=>d.m.L6.length<=c.m.L6.length+1) (by
  exact key _ Co) ?_
 refine bN (fun d=>d.m.L6.length<=c.m.L6.length+1) (by
  exact key _ Co) ?_
 refine bN (fun d=>d.m.L6.length<=c.m.L6.length+1) (by
  exact key _ za) ?_
 refine bN (fun d=>d.m.L6.length<=c.m.L6.length+1) (by
  exact key _ za) ?_
 refine bN (fun d=>d.m.L6.length<=c.m.L6.length+1) (by
  exact key _ (by rw[vA,gn,cPop_out',cPop_out'])) ?_
 refine bN (fun d=>d.m.L6.length<=c.m.L6.length+1) (by
  exact key _ rfl) ?_
 refine bN (fun d=>d.m.L6.length<=c.m.L6.length+1) (by
  refine key _ ?_;unfold qW;split
  ·exact cPop_out'
  ·exact cPop_out') ?_
 refine bN (fun d=>d.m.L6.length<=c.m.L6.length+1) (by
  refine key _ ?_;unfold qJ;split
  ·exact gn
  ·exact gn) ?_
 refine bN (fun d=>d.m.L6.length<=c.m.L6.length+1) (by
  refine key _ ?_;rw[vB,rU];exact gn) ?_
 refine bN (fun d=>d.m.L6.length<=c.m.L6.length+1) (by
  exact key _ rU) ?_
 refine bN (fun d=>d.m.L6.length<=c.m.L6.length+1) (by
  refine key _ ?_;rw[uM,gn,cDrop_out]
  exact cPop_out'.trans (cPop_out'.trans cPop_out')) ?_
 refine bN (fun d=>d.m.L6.length<=c.m.L6.length+1) (by
  refine key _ ?_;rw[qA,gn,cDrop_out]
  exact cPop_out'.trans (cDrop_out.trans cPop_out')) ?_
 refine bN (fun d=>d.m.L6.length<=c.m.L6.length+1) (by
  show((aX c).m.L6++[kn c]).length<=_;rw[c7,cPop_out']
  simp) ?_
 omega
def nk (s:QA)(a:Int):Option (Qv×Nat):=if(CU s a).1<0 then none else match s.N6[(CU s a).1.toNat]? with
 | some im=>bP im.J5 (CU s a).2
 | none=>none
def uf (c:CS):Option Qu:=if c.bad=true then none else if c.m.M4=0 then(if cq c.m.L8=true then some {c.m with L9:=1,N8:=fc c.m c.m.L8} else none)else some c.m
def fK (s:QA)(m:Qu):Option Qu:=match nk s m.M4 with
 | none=>none
 | some x=>uf (bC s.M2 (adv ⟨m,false⟩ x.2) x.1)
theorem Ie {s:QA}{a:Int}{x:Qv×Nat}(h:nk s a=some x):∃(t:List UInt8) (p:Int),bP t p=some x:=by
 unfold nk at h;split at h
 ·cases h
 ·split at h
  ·exact⟨_,_,h⟩
  ·cases h
def Pc (m:Qu):Qu:={m with L9:=2}
def mV (m:Qu)(st out:Sim.Id):AV:= .r (.agg [.t (.int .i64 m.M4),.t (.int .i64 m.L8),.t (.int .i64 m.M3),.own st,.own out,.t (.int .i64 m.L9),.t (.int .i64 m.N8)])
theorem Kp {i0 i1:Qq}{i:Nat}(hi:i<2)(h0:i0.J5.length<=1000000)(h1:i1.J5.length<=1000000):∃im:Qq,[i0,i1][i]?=some im/\([i0.tr,i1.tr]:List (List Tr))[i]?=some im.tr/\im.J5.length<=1000000:=by match i,hi with|0,_=>exact⟨i0,rfl,rfl,h0⟩|1,_=>exact⟨i1,rfl,rfl,h1⟩
theorem LU {i0 i1:Qq}{b0 b1 a:Int}(h0:i0.J5.length<=1000000)(h1:i1.J5.length<=1000000):(go i0 i1 b0 b1 a).2<=1000000:=by
 unfold go;split
 ·dsimp only;omega
 ·split<;>dsimp only<;>omega
def nW (m:Qu):Option Qu->Qu
 | none=>Pc m
 | some m'=>m'
theorem vF {c:CS}{m':Qu}(h:uf c=some m'):m'.M5=c.m.M5/\m'.L6=c.m.L6/\m'.L8=c.m.L8/\m'.M3=c.m.M3/\m'.M4=c.m.M4/\c.bad=false:=by
 unfold uf at h;split at h
 ·cases h
 ·rename_i hb;have Rc:c.bad=false:=by simpa using hb
  split at h
  ·split at h
   ·injection h with h;subst h;exact⟨rfl,rfl,rfl,rfl,rfl,Rc⟩
   ·cases h
  ·injection h with h;subst h;exact⟨rfl,rfl,rfl,rfl,rfl,Rc⟩
theorem nU {s:QA}{m m':Qu}(h:fK s m=some m'):∃x,nk s m.M4=some x/\uf (bC s.M2 (adv ⟨m,false⟩ x.2) x.1)=some m':=by
 unfold fK at h;split at h
 ·cases h
 ·rename_i x hx;exact⟨x,hx,h⟩
theorem Ko {s:QA}{m:Qu}(hm:m.M5.length=1200):∀m',fK s m=some m'->m'.M5.length=1200:=by intro m' h;obtain⟨x,_,h2⟩:=nU h;rw[(vF h2).1];exact FJ (c:=adv ⟨m,false⟩ x.2) hm
theorem AN {s:QA}{m:Qu}:∀m',fK s m=some m'->m'.L6.length<=m.L6.length+1:=by intro m' h;obtain⟨x,_,h2⟩:=nU h;rw[(vF h2).2.1];exact JC (c:=adv ⟨m,false⟩ x.2)
theorem machineOk_iffL {m:Qu}:iE m=true↔m.M5.length=1200/\(0<=m.L8/\m.L8<=1200)/\0<=m.L9/\m.L9<=2:=by rw[iE,d5,d5,within_iff,within_iff,w5];exact⟨fun h=>⟨h.1.1,h.1.2,h.2⟩,fun h=>⟨⟨h.1,h.2.1⟩,h.2.2⟩⟩
theorem HO {m:Qu}(h:aS 1048576 m.tr):m.M5.length<=2000000/\m.L6.length<=1048576:=by simp only[Qu.tr,aS]at h;have h1:=cP h.2.2.2.1;have h2:=cP h.2.2.2.2.1;omega
def il (s:QA):Nat->Qu->Qu×Nat
 | 0,m=>(m,0)
 | k+1,m=>if m.L9=0 then((il s k (nW m (fK s m))).1,(il s k (nW m (fK s m))).2+1)else(m,0)
def sO (s:QA)(m:Qu)(l:Int):Qu×Nat:=if dt s=true/\iE m=true/\af l 0 20000=true then il s l.toNat m else(m,0)
structure MInv (m:Qu) (n:Nat):Prop where
 len:m.M5.length=1200
 sp:0<=m.L8/\m.L8<=1200
 w:MW m
 out:m.L6.length<=1048576+n
theorem Ka {c:Int}{m:Nat}(h:br c=(4,true))(hm:m<4294967296):inI (lO c m):=by
 unfold inI;by_cases hb:2^(8*4-1)<=m
 ·have e:lO c m=(m:Int)-2^(8*4):=th (n:=4) (by rw[h];rfl) (by rw[h]) hb;rw[e];omega
 ·have e:lO c m=(m:Int):=pW (n:=4) (by rw[h];rfl) (fun hh=>hb hh.2);rw[e];omega
theorem Au {s:List UInt8}{p:Int}{x:Qv}{z:Nat}(h:bP s p=some (x,z)):inI x.L2:=by
 obtain⟨h0,h1,h2,_⟩:=nL h;by_cases c1:12<=x.J5/\x.J5<=16
 ·have:=h1 c1.1 c1.2;unfold inI;omega
 by_cases c2:1<=x.J5/\x.J5<=11
 ·have:=h2 c2.1 c2.2;unfold inI;omega
 have c3:x.J5=0\/x.J5=17:=o_;unfold bP at h;split at h
 ·split at h
  ·cases h
  ·injection h with h;injection h with h3 h4;subst h3;dsimp only at c3⊢;rcases c3 with c3|c3
   ·rw[c3];have hl:=gr s (p.toNat+1) 4
    exact Ka d_ (by
                    have:(256:Nat)^4=4294967296:=d_;show bp s (p.toNat+1) 4<4294967296
                    omega)
   ·rw[c3];have hl:=gr s (p.toNat+1) 0;have hl:bp s (p.toNat+1) 0<1:=hl;have e2:lO 17 (bp s (p.toNat+1) 0)=((bp s (p.toNat+1) 0:Nat):Int):=pW (n:=0) d_ (fun hh=>absurd hh.1 d_);show inI (lO 17 (bp s (p.toNat+1) 0));rw[e2];unfold inI;omega
 ·cases h
theorem MInv.step {s:QA}{m:Qu}{n:Nat}(h:MInv m n)(he:∀e∈s.M2,inI e):MInv (nW m (fK s m)) (n+1):=by
 obtain⟨h1,h2,h3,h4⟩:=h
 cases hr:fK s m with
 | none=>exact⟨h1,h2,h3,by show m.L6.length<=_;omega⟩
 | some m'=>
  obtain⟨x,hf,hx⟩:=nU hr;obtain⟨t,p,hd⟩:=Ie hf;obtain⟨x,z⟩:=x;obtain⟨c0,c1,c2,_⟩:=nL hd;have ha:=Au hd;obtain⟨e1,e2,e3,e4,e5,e6⟩:=vF hx;have acr:=LB s.M2 {m with M4:=wr (m.M4+z)} x h2 h3.2.2 c0 c1 c2;have QM:=(acr.2 e6).2;have hin:MW (bC s.M2 (adv ⟨m,false⟩ z) x).m:=Mo (c:=adv ⟨m,false⟩ z) ⟨h3.1,KY _,h3.2.2⟩ (by show inI m.L8;unfold inI;omega) ha he;refine⟨Ko h1 m' hr,?_,?_,?_⟩
  ·show 0<=m'.L8/\m'.L8<=1200;rw[e3];exact QM
  ·show MW m';refine⟨?_,?_,?_⟩
   ·rw[e1];exact hin.1
   ·rw[e5];exact hin.2.1
   ·rw[e4];exact hin.2.2
  ·have:=AN m' hr;show m'.L6.length<=_;omega
def Qf (m:Qu):Option Qu->AV
 | none=>mV (Pc m) (0,0,0) (0,0,1)
 | some m'=>mV m' (1,0,0) (1,0,1)
def Qh (m:Qu):Option Qu->List (Sim.Id×AO)
 | none=>[((0,0,0),.arr false 1 (m.M5.map aa)),((0,0,1),.arr false 1 (m.L6.map aa))]
 | some m'=>([((0,0,0),.arr false 1 (m.M5.map aa)),((0,0,1),.arr false 1 (m.L6.map aa))]++[((1,0,0),.arr false 1 (m'.M5.map aa)),((1,0,1),.arr false 1 (m'.L6.map aa))])
theorem Q37{p:Prop}(h:p:=by exfalso;simp[Sn]at h;first|done|fail):p:=h
theorem Q20{p:Prop}(h:p:=by exfalso;simp[h0]at h;first|done|fail):p:=h
theorem V2{p:Prop}(h:p:=by
 have hA:=kV ⟨{c.m with L9:=1},c.bad⟩ c.m.L8;obtain⟨cm,cb⟩:=c;unfold cAt at hA;dsimp only at hA
 cases cb with
 | true=>
  have:r=none:=by rw[<-Rk];rfl
  subst this;repeat' ((conv=>whnf);first|refine cg hP ?_|refine aD ?_|apply au|apply oi|apply fi|intro h|refine cl hL ?_|refine⟨i,im.tr,rfl,UX,?_⟩|refine cl hD ?_|refine cl hC ?_|exact Y1|refine e_ rfl ?_)
  all_goals try exact Q20
  all_goals try exact Q21
 | false=>
  by_cases Sn:cm.M4=0
  ·cases hin:cq cm.L8 with
   | false=>
    rw[hin]at hA;have:r=none:=(by rw[<-Rk];simp[uf,Sn,hin]);subst this;repeat' ((conv=>whnf);first|refine cg hP ?_|refine cg hA ?_|refine aD ?_|apply au|apply oi|apply fi|intro h|refine cl hL ?_|refine⟨i,im.tr,rfl,UX,?_⟩|refine cl hD ?_|refine cl hC ?_|exact Y1|refine e_ rfl ?_)
    all_goals try exact Q20
    all_goals try exact Q37
    all_goals try exact Q21
   | true=>
    rw[hin]at hA;obtain⟨j,v,hj,hv,O4,_⟩:=uZ hco hin;have O2:(cm.M5.map aa).length=cm.M5.length:=s_;have adx:cq (j:Int)=true:=hj▸hin;have:r=some {cm with L9:=1,N8:=v}:=(by rw[<-Rk];simp[uf,Sn,adx,fc,hj,hv]);subst this;repeat' ((conv=>whnf);first|refine cg hP ?_|refine cg hA ?_|refine aD ?_|apply au|apply oi|apply fi|intro h|refine cl hL ?_|refine⟨i,im.tr,rfl,UX,?_⟩|refine cl hD ?_|refine cl hC ?_|exact Y1|refine e_ rfl ?_)
    all_goals try exact Q20
    all_goals try exact Q37
    all_goals try exact Q21
    conv=>whnf
    refine⟨j,hj,by rw[O2];exact O4,?_⟩;repeat' ((conv=>whnf);first|refine aD ?_|apply au|apply oi|apply fi|intro h|refine⟨(aa v),ab hv,?_⟩|exact Y1|refine e_ rfl ?_)
  ·have:r=some cm:=(by rw[<-Rk];simp[uf,Sn]);subst this;repeat' ((conv=>whnf);first|refine cg hP ?_|refine aD ?_|apply au|apply oi|apply fi|intro h|refine cl hL ?_|refine⟨i,im.tr,rfl,UX,?_⟩|refine cl hD ?_|refine cl hC ?_|exact Y1|refine e_ rfl ?_)
   all_goals try exact Q20
   all_goals try exact Q37
   all_goals try(exfalso;have h':=j5 h;omega)):p:=h
theorem Dl (s:QA)(m:Qu)(O7:dt s=true)(hm:m.M5.length=1200)(ho:m.L6.length<=2000000)(h0:m.L9=0)(r:Option Qu)(hr:fK s m=r):bh prog 98 [.r (.agg (s.tr.map .t)),mV m (0,0,0) (0,0,1)] [((0,0,0),.arr false 1 (m.M5.map aa)),((0,0,1),.arr false 1 (m.L6.map aa))] (Qf m r) (Qh m r):=by
 obtain⟨i0,i1,b0,b1,Tz,⟨e1,e2⟩,⟨g0,p0,p1⟩,⟨g1,q0,q1⟩,_,_⟩:=vR O7;have l0:=(imageOk_iff.1 g0).1;have l1:=(imageOk_iff.1 g1).1;have hL:=AH i0 i1 b0 b1 m.M4 s.M2 o_ o_ o_ o_;obtain⟨im,bs,es⟩:=s;dsimp only at Tz hL e2;injection Tz with h1 h2;subst h1;subst h2;refine eJ hΓ aF func98 rfl d_ rfl rfl ?_;have Rs:CU ⟨[i0,i1],[b0,b1],es⟩ m.M4=go i0 i1 b0 b1 m.M4:=rfl;rcases HP i0 i1 b0 b1 m.M4 with hx|⟨i,off,hi,hx⟩
 ·rw[hx]at hL;have:r=none:=by rw[<-hr,fK,nk,Rs,hx];rfl
  subst this;repeat' ((conv=>whnf);first|refine aD ?_|apply au|apply oi|apply fi|intro h|refine cl hL ?_|exact Y1|refine e_ rfl ?_)
  all_goals try exact Q20
 ·have SM:=LU (b0:=b0) (b1:=b1) (a:=m.M4) l0 l1;rw[hx]at hL SM;dsimp only at SM;obtain⟨im,UJ,UX,Rw⟩:=Kp hi l0 l1;have hD:=od im.J5 off o_ o_
  have hf:nk ⟨[i0,i1],[b0,b1],es⟩ m.M4=bP im.J5 off:=by rw[nk,Rs,hx];dsimp only;rw[b8 o_,e7,UJ]
  cases hd:bP im.J5 off with
  | none=>
   rw[hd]at hD hf;have:r=none:=(by rw[<-hr,fK,hf]);subst this;repeat' ((conv=>whnf);first|refine aD ?_|apply au|apply oi|apply fi|intro h|refine cl hL ?_|refine⟨i,im.tr,rfl,UX,?_⟩|refine cl hD ?_|exact Y1|refine e_ rfl ?_)
   all_goals try exact Q20
   all_goals try exact Q21
  | some xz=>
   obtain⟨x,z⟩:=xz;rw[hd]at hD hf;obtain⟨c0,c1,_,z5⟩:=nL hd;have hC:=iz m o_ ho;have Rk:uf (bC es (adv ⟨m,false⟩ z) x)=r:=(by rw[<-hr,fK,hf]);by_cases h17:x.J5=17
   ·have hxx:x=⟨17,x.L2⟩:=(by rw[<-h17]);have hP:=Hg ⟨[i0,i1],[b0,b1],es⟩ (adv ⟨m,false⟩ z) x.L2 hm ho;rw[<-hxx]at hP;have Tx:bC es (adv ⟨m,false⟩ z) x=Er (adv ⟨m,false⟩ z):=(by rw[hxx];simp[bC]);rw[Tx]at Rk;have hco:(Er (adv ⟨m,false⟩ z)).ok:=da (c:=adv ⟨m,false⟩ z) hm
    generalize Er (adv ⟨m,false⟩ z)=c at *
    exact V2
   ·have hP:=zM ⟨[i0,i1],[b0,b1],es⟩ (adv ⟨m,false⟩ z) x hm h17 c1 g_;have hco:(bC es (adv ⟨m,false⟩ z) x).ok:=FJ hm;dsimp only at hP
    generalize bC es (adv ⟨m,false⟩ z) x=c at *
    exact V2
theorem fD {s:QA}{k:Nat}{m:Qu}(h:m.L9≠0\/k=0):il s k m=(m,0):=by
 cases k with
 | zero=>rfl
 | succ k=>rw[il,b8 (by
                  rcases h with h|h;· exact h
                  ·cases h)]
theorem qn {s:QA}{k:Nat}{m:Qu}(h:m.L9=0):il s (k+1) m=((il s k (nW m (fK s m))).1,(il s k (nW m (fK s m))).2+1):=by rw[il,b9 h]
abbrev Qj:AO:= .box [.t (.int .i64 0),.t (.int .i64 0),.t (.int .i64 0),.nils 0,.nils 0,.t (.int .i64 0),.t (.int .i64 0)]
abbrev Qk (s:QA):AO:= .box (s.tr.map .t)
theorem V59{p:Prop}(h:p:=by
 rw[b8 s_];repeat' ((conv=>whnf);first|refine aD ?_|apply au|apply oi|apply fi|intro h|refine cl hC ?_|refine cl hS ?_|refine cl hM ?_|refine cl hB ?_|exact Y1|refine e_ rfl ?_)
 all_goals try exact Q6
 all_goals exact⟨⟨rfl,dh _⟩⟩):p:=h
theorem tM (s:QA)(m:Qu)(l:Int)(hs:aS 1048576 s.tr)(hms:aS 1048576 m.tr)(hw:MW m)(hsw:∀e∈s.M2,inI e):Sim.Spec prog 42 [.agg s.tr,.agg m.tr,tvI l] (.tup [.agg ((sO s m l).1.tr.map xn),.c (.t (.int .i64 ((sO s m l).2:Int)))]):=by
 have hS:=ly s hs;have hM:=vM m;have hB:=aN l 0 20000;obtain⟨k1,k2⟩:=HO hms;have hC:=iz m k1 o_;refine az hΓ aF func42 rfl d_ rfl ?_;unfold sO
 cases a1:dt s with
 | false=>
  rw[a1]at hS
  exact V59
 | true=>
  rw[a1]at hS
  cases a2:iE m with
  | false=>
   rw[a2]at hM
   exact V59
  | true=>
   rw[a2]at hM
   cases a3:af l 0 20000 with
   | false=>
    rw[a3]at hB
    exact V59
   | true=>
    rw[a3]at hB;rw[b9 ⟨rfl,rfl,rfl⟩];have hl:=within_iff.1 a3;obtain⟨L,rfl⟩:=i7 hl.1;obtain⟨m1,m2,m3⟩:=machineOk_iffL.1 a2;have adq:MInv m 0:=⟨m1,m2,hw,o_⟩;have Tm:∀e∈s.M2,inI e:=hsw;rw[e7];obtain⟨R,hR⟩:∃R,il s L m=R:=⟨_,rfl⟩;rw[hR];repeat' ((conv=>whnf);first|refine aD ?_|apply au|apply oi|apply fi|intro h|refine cl hC ?_|refine cl hS ?_|refine cl hM ?_|refine cl hB ?_|exact Y1|refine e_ rfl ?_)
    all_goals try exact Q6
    conv=>whnf
    refine⟨{q:Nat×Qu//q.1<=L/\MInv q.2 q.1/\(il s (L-q.1) q.2).1=R.1/\(il s (L-q.1) q.2).2+q.1=R.2},fun q=>⟨[(2,tI .i64 (L:Int)),(3,.r (.c (.ptr (3,0,0) 0))),(6,.r (.c (.ptr (6,0,0) 0))),(7,tI .i64 0),(8,.r (.c (.ptr (8,0,0) 0))),(9,tI .i64 (q.1.1:Int))],
     [((3,0,0),some (Qk s)),((6,0,0),some Qj),((8,0,0),some (PI q.1.2 (11,0,3) (11,0,4))),((11,0,3),some (.arr false 1 (q.1.2.M5.map aa))),((11,0,4),some (.arr false 1 (q.1.2.L6.map aa)))],[3,6,8,11]⟩,fun q=>L-q.1.1,⟨(0,m),o_,adq,by simp[hR],by simp[hR]⟩,?_,?_⟩
    ·repeat' ((conv=>whnf);first|refine aD ?_|apply au|apply oi|apply fi|intro h|exact Y1|refine e_ rfl ?_)
    intro⟨⟨n,d⟩,q1,q2,q3,q4⟩;dsimp only at q1 q2 q3 q4⊢;by_cases hgo:d.L9=0/\n<L
    ·obtain⟨g1,g2⟩:=hgo;obtain⟨j,hj⟩:∃j,L-n=j+1:=⟨L-n-1,o_⟩;rw[hj,qn g1]at q3 q4;dsimp only at q3 q4;have Sb:=q2.step Tm;have hT:=Dl s d a1 q2.len (by have:=q2.out;omega) g1 _ rfl
     cases hr:fK s d with
     | none=>
      rw[hr]at hT Sb q3 q4;repeat' ((conv=>whnf);first|refine cg hT ?_|refine aD ?_|apply au|apply oi|apply fi|intro h|exact Y1|refine e_ rfl ?_)
      all_goals try(exfalso;simp[g1]at h;done)
      all_goals try exact Q19
      conv=>whnf
      refine⟨⟨(n+1,Pc d),g_,Sb,by rw[show L-(n+1)=j by omega];exact q3,by rw[show L-(n+1)=j by omega];dsimp only[nW]at q4⊢;omega⟩,?_,KD⟩;repeat' ((conv=>whnf);first|refine aD ?_|apply au|apply oi|apply fi|intro h|exact Y1|refine e_ rfl ?_)
      all_goals try(refine⟨congrArg (Tr.int _) ?_⟩;dsimp only;rw[c8 _ o_];omega)
     | some d'=>
      rw[hr]at hT Sb q3 q4;repeat' ((conv=>whnf);first|refine cg hT ?_|refine aD ?_|apply au|apply oi|apply fi|intro h|exact Y1|refine e_ rfl ?_)
      all_goals try(exfalso;simp[g1]at h;done)
      all_goals try exact Q19
      conv=>whnf
      refine⟨⟨(n+1,d'),g_,Sb,by rw[show L-(n+1)=j by omega];exact q3,by rw[show L-(n+1)=j by omega];dsimp only[nW]at q4⊢;omega⟩,?_,KD⟩;repeat' ((conv=>whnf);first|refine aD ?_|apply au|apply oi|apply fi|intro h|exact Y1|refine e_ rfl ?_)
      all_goals try(refine⟨congrArg (Tr.int _) ?_⟩;dsimp only;rw[c8 _ o_];omega)
    ·have QJ:il s (L-n) d=(d,0):=fD (by
                                by_cases h0:d.L9=0;· exact .inr (by have:=fun h=>hgo ⟨h0,h⟩;omega)
                                ·exact .inl h0)
     rw[QJ]at q3 q4;dsimp only at q3 q4;have hD:=iz d (by have:=q2.len;omega) (by have:=q2.out;omega);obtain⟨R1,R2⟩:=R;dsimp only at q3 q4;subst q3;subst q4;repeat' ((conv=>whnf);first|refine aD ?_|apply au|apply oi|apply fi|intro h|refine cl hD ?_|exact Y1|refine e_ rfl ?_)
     all_goals try(exfalso;apply hgo;refine⟨by simpa using ‹(d.L9==0)=true›,?_⟩;have h':=j5 ‹decide ((n:Int)<(L:Int))=true›;omega)
     all_goals exact⟨congrArg (Tr.int _) g_⟩
end Go.Proofs.P
