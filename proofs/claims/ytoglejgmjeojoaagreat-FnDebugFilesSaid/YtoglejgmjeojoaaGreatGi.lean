import Derived.Test.YtoglejgmjeojoaaGreatGh
set_option maxRecDepth 100000
set_option maxHeartbeats 4000000
namespace Go.Proofs.P
open Go.Sim Tryz
def jA (off:Int)(x:Ot):Bool:=af x.J8 0 1000000&&(af x.M0 0 1000000&&(decide (x.J8<=off)&&decide (off<x.J8+x.M0)))
def eZ (off:Int):List Ot->Nat->Int
 | [],_=> -1
 | x::l,k=>if jA off x then(k:Int)else eZ off l (k+1)
def fu (l:List Ot)(off:Int):Int:=eZ off l 0
theorem Jj {off:Int}{l:List Ot}{k:Nat}{x:Ot}(hx:l[k]?=some x):eZ off (l.drop k) k=if jA off x then(k:Int)else eZ off (l.drop (k+1)) (k+1):=by rw[aP hx,eZ]
theorem tw {off:Int}:∀(l:List Ot) (k:Nat),eZ off l k= -1\/((k:Int)<=eZ off l k/\eZ off l k<k+l.length)
 | [],k=> .inl (by rw[eZ])
 | x::l,k=>by
  rw[eZ];split
  ·exact .inr ⟨o_,by simp only[c7];omega⟩
  ·rcases tw l (k+1)with h|h
   ·exact .inl h
   ·exact .inr ⟨o_,by simp only[c7];omega⟩
theorem xy (l:List Ot)(off:Int):fu l off= -1\/(0<=fu l off/\fu l off<l.length):=by have:=tw (off:=off) l 0;unfold fu;omega
theorem vU (i:Og)(off:Int)(hl:i.L7.length<=1048576):Sim.Spec prog 125 [.agg i.tr,tvI off] (rI (fu i.L7 off)):=by
 refine ag hΓ ay func125 rfl d_ rfl ?_;obtain⟨code,l⟩:=i;dsimp only at hl⊢;have N1:(l.map Ot.tr).length=l.length:=s_;unfold fu;repeat' ((conv=>whnf);first|refine Or.inl ?_|apply oi|apply fi|intro h|exact Y1|refine e_ rfl ?_)
 conv=>whnf
 refine⟨{k:Nat//k<=l.length/\eZ off (l.drop k) k=eZ off l 0},fun k=>⟨[(1,tI .i64 off),(8,.r (.c (.t (.lst 3 (l.map Ot.tr))))),(9,tI .i64 ((l.map Ot.tr).length:Int)),(10,tI .i64 (k.1:Int))],[],[]⟩,fun k=>l.length-k.1,⟨0,o_,by rw[v6]⟩,?_,?_⟩
 ·exact Z1
 intro⟨k,hk,hr⟩;dsimp only;by_cases N2:k<l.length
 ·obtain⟨x,hx⟩:=ab N2;rw[Jj hx]at hr;have PK:=ak x.J8 0 1000000;have OX:=ak x.M0 0 1000000;have Qi:jA off x=false->eZ off (l.drop (k+1)) (k+1)=eZ off l 0:=fun h=>by rw[h,c8 s_]at hr;exact hr
  cases PJ:af x.J8 0 1000000 with
  | false=>
   have hh:jA off x=false:=(by rw[jA,PJ];rfl);rw[PJ]at PK;repeat' ((conv=>whnf);first|refine Or.inl ?_|apply oi|apply fi|intro h|refine⟨k,x.tr,rfl,aa hx,?_⟩|refine ci PK (ai rfl (ai rfl (ai rfl trivial))) ?_|exact Y3|refine e_ rfl ?_)
   all_goals conv=>whnf
   all_goals refine⟨⟨k+1,o_,Qi hh⟩,?_,KD⟩
   repeat' ((conv=>whnf);first|refine Or.inl ?_|apply oi|apply fi|intro h|exact Y1|refine e_ rfl ?_)
   all_goals exact Q9
  | true=>
   rw[PJ]at PK
   cases QQ:af x.M0 0 1000000 with
   | false=>
    have hh:jA off x=false:=(by rw[jA,PJ,QQ];rfl);rw[QQ]at OX;repeat' ((conv=>whnf);first|refine Or.inl ?_|apply oi|apply fi|intro h|refine⟨k,x.tr,rfl,aa hx,?_⟩|refine ci PK (ai rfl (ai rfl (ai rfl trivial))) ?_|refine ci OX (ai rfl (ai rfl (ai rfl trivial))) ?_|exact Y3|refine e_ rfl ?_)
    all_goals conv=>whnf
    all_goals refine⟨⟨k+1,o_,Qi hh⟩,?_,KD⟩
    repeat' ((conv=>whnf);first|refine Or.inl ?_|apply oi|apply fi|intro h|exact Y1|refine e_ rfl ?_)
    all_goals exact Q9
   | true=>
    rw[QQ]at OX;have VL:=within_iff.1 PJ;have Vl:=within_iff.1 QQ;have ZI:IntKind.i64.wrap (x.J8+x.M0)=x.J8+x.M0:=c6 _ o_
    cases hh:jA off x with
    | true=>
     rw[hh,d5 rfl]at hr;rw[jA,PJ,QQ]at hh;simp only[m7,c9,j7]at hh;repeat' ((conv=>whnf);first|refine Or.inl ?_|apply oi|apply fi|intro h|refine⟨k,x.tr,rfl,aa hx,?_⟩|refine ci PK (ai rfl (ai rfl (ai rfl trivial))) ?_|refine ci OX (ai rfl (ai rfl (ai rfl trivial))) ?_|exact Y3|refine e_ rfl ?_)
     all_goals try exact⟨by rw[hr]⟩
     all_goals(exfalso;(try rw[ZI]at h);simp only[n7]at h;omega)
    | false=>
     have XU:=Qi hh;rw[jA,PJ,QQ]at hh;simp only[m7,z8,n7]at hh;repeat' ((conv=>whnf);first|refine Or.inl ?_|apply oi|apply fi|intro h|refine⟨k,x.tr,rfl,aa hx,?_⟩|refine ci PK (ai rfl (ai rfl (ai rfl trivial))) ?_|refine ci OX (ai rfl (ai rfl (ai rfl trivial))) ?_|exact Y3|refine e_ rfl ?_)
     all_goals try(exfalso;rw[ZI]at *;simp only[j7]at *;omega)
     all_goals conv=>whnf
     all_goals refine⟨⟨k+1,o_,XU⟩,?_,KD⟩
     repeat' ((conv=>whnf);first|refine Or.inl ?_|apply oi|apply fi|intro h|exact Y1|refine e_ rfl ?_)
     all_goals exact Q9
 ·have OK:l.length<=k:=o_;rw[d8 OK,eZ]at hr;repeat' ((conv=>whnf);first|refine Or.inl ?_|apply oi|apply fi|intro h|exact Y3|refine e_ rfl ?_)
  exact⟨by rw[<-hr]⟩
def frL:List UInt8->List Oh->Int->List Oe
 | nm,[],line=>[⟨nm,line⟩]
 | nm,x::l,line=>⟨nm,x.J9⟩::frL x.J0 l line
def oI (d:Od)(off:Int)(start:Bool):Option (List Oe):=
 if fu d.L7 off<0\/fq d.M1 off<0\/(start=true/\wi d.M1 off=false)then none
 else match d.L7[(fu d.L7 off).toNat]?,d.M1[(fq d.M1 off).toNat]? with
  | some y,some r=>some (frL y.J0 (eY d.M2 off) r.J9)
  | _,_=>none
abbrev NT (nm0:List UInt8)(L:List Oh)(line:Int):={q:Nat×List UInt8×List Oe//q.1<=L.length/\q.2.2.length=q.1/\q.2.2++frL q.2.1 (L.drop q.1) line=frL nm0 L line}
theorem V15{p:Prop}(h:p:=by
 obtain⟨x,hx⟩:=ab N2;rw[aP hx,frL]at O2;repeat' ((conv=>whnf);first|refine Or.inl ?_|apply oi|apply fi|intro h|refine⟨_,aa hx,?_⟩|exact Y14|refine e_ rfl ?_)
 all_goals try exact Q6
 conv=>whnf
 refine⟨⟨(k+1,x.J0,acc++[⟨nm,x.J9⟩]),g_,by simp;omega,by rw[<-O2];simp⟩,?_,KD⟩;repeat' ((conv=>whnf);first|refine Or.inl ?_|apply oi|apply fi|intro h|exact Y1|refine e_ rfl ?_)
 all_goals first
  |(refine⟨?_⟩;dsimp only;rw[c6 _ o_];rfl)
  |(refine⟨?_⟩;dsimp only;rw[ne];rfl)):p:=h
theorem V27{p:Prop}(h:p:=by
 have OK:L.length<=k:=o_;rw[d8 OK,frL]at O2;repeat' ((conv=>whnf);first|refine Or.inl ?_|apply oi|apply fi|intro h|refine⟨i,r.tr,rfl,aa hr,?_⟩|exact Y3|refine e_ rfl ?_)
 all_goals try exact Q6
 all_goals exact⟨by dsimp only[oL];rw[<-O2,ne];rfl⟩):p:=h
theorem Q25{p:Prop}(h:p:=by exfalso;first|(have h':=m6 h;omega)|(simp at h;first|done|fail)):p:=h
theorem vF (d:Od)(off:Int)(start:Bool)(hs:aX 1048576 d.tr):Sim.Spec prog 54 [.agg d.tr,tvI off,tvB start] (.tup [.c (.arr 2 ((oL (oI d off start)).map Oe.tr)),.c (.t (.bool (oI d off start).isSome))]):=by
 refine ag hΓ ay func54 rfl d_ rfl ?_;obtain⟨id,syms,rules,rows,inls⟩:=d;simp only[Od.tr,aX]at hs;have Tf:=vU ⟨[],syms⟩ off (cu hs.2.1);have P2:=oH rows off (cu hs.2.2.2.1);have O4:=xZ rows off (cu hs.2.2.2.1);have hin:=uj inls off (cu hs.2.2.2.2.1) (IY hs.2.2.2.2.1);have Ps:=xy syms off;have Pf:=qx rows off;unfold oI;dsimp only at Tf⊢
 generalize fu syms off=K at *
 generalize fq rows off=R at *
 generalize wi rows off=S at *
 have hLl:(eY inls off).length<=1048576:=t7 (zq _ _) (cu hs.2.2.2.2.1)
 generalize eY inls off=L at *
 have hLm:(L.map Oh.tr).length=L.length:=s_;rcases Ps with rfl|⟨h0,h1⟩
 ·rw[d5 s_];repeat' ((conv=>whnf);first|refine Or.inl ?_|apply oi|apply fi|intro h|refine ci Tf (ai (ai rfl (ai rfl trivial)) (ai rfl trivial)) ?_|refine ci P2 (ai rfl (ai rfl trivial)) ?_|exact Y1|refine e_ rfl ?_)
 ·obtain⟨j,rfl⟩:=j8 h0;obtain⟨y,hy⟩:=ab (l:=syms) (k:=j) o_;rcases Pf with rfl|⟨h2,h3⟩
  ·rw[d5 s_];repeat' ((conv=>whnf);first|refine Or.inl ?_|apply oi|apply fi|intro h|refine ci Tf (ai (ai rfl (ai rfl trivial)) (ai rfl trivial)) ?_|refine ci P2 (ai rfl (ai rfl trivial)) ?_|exact Y1|refine e_ rfl ?_)
   all_goals(exfalso;first|(have h':=m6 h;omega)|(simp at h;omega))
  ·obtain⟨i,rfl⟩:=j8 h2;obtain⟨r,hr⟩:=ab (l:=rows) (k:=i) o_;by_cases hc:start=true/\S=false
   ·rw[d5 (Or.inr (Or.inr hc))];obtain⟨rfl,rfl⟩:=hc;repeat' ((conv=>whnf);first|refine Or.inl ?_|apply oi|apply fi|intro h|refine ci Tf (ai (ai rfl (ai rfl trivial)) (ai rfl trivial)) ?_|refine ci P2 (ai rfl (ai rfl trivial)) ?_|refine ci O4 (ai rfl (ai rfl trivial)) ?_|exact Y1|refine e_ rfl ?_)
    all_goals(exfalso;first|(have h':=m6 h;omega)|(simp at h;done))
   ·have SY:y.J0.length<=1048576:=by have:=bx hs.2.1 (b9 hy);simp only[Ot.tr,aX,aE]at this;omega
    rw[c8 (by rw[not_or,not_or];exact⟨o_,o_,hc⟩),e8,e8,hy,hr]
    cases start with
    | false=>
     repeat' ((conv=>whnf);first|refine Or.inl ?_|apply oi|apply fi|intro h|refine ci Tf (ai (ai rfl (ai rfl trivial)) (ai rfl trivial)) ?_|refine ci P2 (ai rfl (ai rfl trivial)) ?_|refine ci hin (ai rfl (ai rfl trivial)) ?_|refine⟨j,y.tr,rfl,aa hy,?_⟩|exact Y1|refine e_ rfl ?_)
     all_goals try exact Q25
     conv=>whnf
     refine⟨NT y.J0 L r.J9,fun q=>⟨[(3,.r (.c (.ptr (3,0,0) 0))),(9,tI .i64 (i:Int)),(10,.r (.c (.own (39,0,0)))),(11,tS q.1.2.1),(49,.r (.c (.own (49,0,0)))),(50,tI .i64 ((L.map Oh.tr).length:Int)),(51,tI .i64 (q.1.1:Int))],[((3,0,0),some (.box [.t (.int .i64 id),.t (.lst 3 (syms.map Ot.tr)),.t (.lst 4 (rules.map Oo.tr)),.t (.lst 3 (rows.map On.tr)),.t (.lst 5 (inls.map Oh.tr))])),((39,0,0),some (.arr true 2 (q.1.2.2.map Oe.tr))),((49,0,0),some (.arr true 5 (L.map Oh.tr)))],[3,39,49]⟩,fun q=>L.length-q.1.1,⟨(0,y.J0,[]),s_,s_,s_⟩,?_,?_⟩
     ·exact Z1
     intro⟨⟨k,nm,acc⟩,hk,OC,O2⟩;dsimp only at hk OC O2⊢;by_cases N2:k<L.length
     ·exact V15
     ·exact V27
    | true=>
     have hS:S=true:=(by cases S with|true=>rfl|false=>exact absurd ⟨rfl,rfl⟩ hc);rw[hS]at O4;repeat' ((conv=>whnf);first|refine Or.inl ?_|apply oi|apply fi|intro h|refine ci Tf (ai (ai rfl (ai rfl trivial)) (ai rfl trivial)) ?_|refine ci P2 (ai rfl (ai rfl trivial)) ?_|refine ci O4 (ai rfl (ai rfl trivial)) ?_|refine ci hin (ai rfl (ai rfl trivial)) ?_|refine⟨j,y.tr,rfl,aa hy,?_⟩|exact Y1|refine e_ rfl ?_)
     all_goals try exact Q25
     conv=>whnf
     refine⟨NT y.J0 L r.J9,fun q=>⟨[(3,.r (.c (.ptr (3,0,0) 0))),(9,tI .i64 (i:Int)),(10,.r (.c (.own (39,0,0)))),(11,tS q.1.2.1),(49,.r (.c (.own (49,0,0)))),(50,tI .i64 ((L.map Oh.tr).length:Int)),(51,tI .i64 (q.1.1:Int))],[((3,0,0),some (.box [.t (.int .i64 id),.t (.lst 3 (syms.map Ot.tr)),.t (.lst 4 (rules.map Oo.tr)),.t (.lst 3 (rows.map On.tr)),.t (.lst 5 (inls.map Oh.tr))])),((39,0,0),some (.arr true 2 (q.1.2.2.map Oe.tr))),((49,0,0),some (.arr true 5 (L.map Oh.tr)))],[3,39,49]⟩,fun q=>L.length-q.1.1,⟨(0,y.J0,[]),s_,s_,s_⟩,?_,?_⟩
     ·exact Z1
     intro⟨⟨k,nm,acc⟩,hk,OC,O2⟩;dsimp only at hk OC O2⊢;by_cases N2:k<L.length
     ·exact V15
     ·exact V27
def hZ (s:List UInt8)(p:Nat):Nat:=match s[p]? with|some b=>b.toNat|none=>0
def eu (s:List UInt8)(p:Nat):Nat->Nat
 | 0=>0
 | k+1=>eu s p k+hZ s (p+k)*256^k
def MM (c:Int)(m:Nat):Int:=if(dc c).2=true/\2^(8*(dc c).1.toNat-1)<=m then(m:Int)-2^(8*(dc c).1.toNat)else m
def jy (s:List UInt8)(p:Int):Option (Ol×Nat):=
 if 0<=p/\p<s.length then
  (
   if bp (hZ s p.toNat)=0\/(s.length:Int)<p+bp (hZ s p.toNat)then none
   else some (⟨hZ s p.toNat,MM (hZ s p.toNat) (eu s (p.toNat+1) (dc (hZ s p.toNat)).1.toNat)⟩,(bp (hZ s p.toNat)).toNat))
 else none
def tv (s:List UInt8):Nat->Nat->Option (List Ol)
 | 0,p=>if p<s.length then none else some []
 | f+1,p=>if p<s.length then(match jy s (p:Int)with
   | some x=>(tv s f (p+x.2)).map (x.1::·)
   | none=>none)else some []
def Cq (s:List UInt8):Option (List Ol):=tv s s.length 0
theorem qB {s:List UInt8}{p:Nat}{x:Ol}{z:Nat}(h:jy s (p:Int)=some (x,z)):1<=z/\z<=5/\p+z<=s.length:=by
 unfold jy at h;split at h
 ·rename_i hin;split at h
  ·cases h
  ·rename_i Px;injection h with h;injection h with h1 h2;rw[not_or]at Px;have:=iP (hZ s (p:Int).toNat);omega
 ·cases h
theorem uy {s:List UInt8}:∀{f p:Nat},s.length-p<=f->tv s f p=tv s (s.length-p) p
 | 0,p,h=>by rw[show s.length-p=0 by omega]
 | f+1,p,h=>by
  rcases l9 p s.length with N2|OK
  ·obtain⟨m,hm⟩:∃m,s.length-p=m+1:=⟨s.length-p-1,o_⟩;rw[hm,tv,tv,d5 N2,d5 N2]
   match hd:jy s (p:Int)with
   | none=>rfl
   | some (x,z)=>have:=qB hd;dsimp only;rw[uy (f:=f) (p:=p+z) o_,uy (f:=m) (p:=p+z) o_]
  ·rw[tv,c8 o_,show s.length-p=0 by omega,tv,c8 o_]
theorem IR {s:List UInt8}{p:Nat}(N2:p<s.length):tv s (s.length-p) p=(match jy s (p:Int)with
  | some x=>(tv s (s.length-(p+x.2)) (p+x.2)).map (x.1::·)
  | none=>none):=by
 obtain⟨m,hm⟩:∃m,s.length-p=m+1:=⟨s.length-p-1,o_⟩;rw[hm,tv,d5 N2]
 match hd:jy s (p:Int)with
 | none=>rfl
 | some (x,z)=>have:=qB hd;dsimp only;rw[uy (f:=m) (p:=p+z) o_]
theorem Lf {s:List UInt8}{p:Nat}(OK:s.length<=p):tv s (s.length-p) p=some []:=by rw[show s.length-p=0 by omega,tv,c8 o_]
def Dz (seen:List Ot)(nm:List UInt8):Bool:=seen.any fun y=>y.J0==nm
def FW (len a:Nat)(x:Ot):Bool:=x.J8==(a:Int)&&(decide (1<=x.M0)&&(decide (x.M0<=(len:Int)-a)&&bW x.J0))
def Hz (code:List UInt8)(seen:List Ot)(a:Nat)(x:Ot):Bool:=FW code.length a x&&(!(Dz seen x.J0)&&(Cq ((code.take (a+x.M0.toNat)).drop a)).isSome)
def lU (code:List UInt8):List Ot->Nat->List Ot->Bool
 | _,a,[]=>a==code.length
 | seen,a,x::l=>Hz code seen a x&&lU code (seen++[x]) (a+x.M0.toNat) l
def Cg (i:Og):Bool:=decide (i.J4.length<=1000000)&&lU i.J4 [] 0 i.L7
theorem imgPre_iff {len a:Nat}{x:Ot}:FW len a x=true↔x.J8=(a:Int)/\1<=x.M0/\x.M0<=(len:Int)-a/\bW x.J0=true:=by unfold FW;rw[c9,c9,c9,x7,j7,j7]
theorem wJ {code:List UInt8}:∀{l:List Ot} {seen:List Ot} {a:Nat},lU code seen a l=true->a<=code.length->∀x∈l,(a:Int)<=x.J8/\1<=x.M0/\x.J8+x.M0<=code.length
 | [],_,_,_,_,x,hx=>by cases hx
 | y::l,seen,a,h,ha,x,hx=>by
  rw[lU,c9,Hz,c9,imgPre_iff]at h;obtain⟨⟨⟨p1,p2,p3,_⟩,_⟩,h2⟩:=h;rcases d6.1 hx with rfl|hx
  ·omega
  ·have:=wJ h2 o_ x hx;omega
theorem imageOk_iff {i:Og}:Cg i=true↔i.J4.length<=1000000/\lU i.J4 [] 0 i.L7=true:=by rw[Cg,c9,j7]
theorem CE (a:Int)(k:Nat):((lR a k).toNat:Int)=(a/(2^(8*k)))%256:=by unfold lR;rw[Int.fdiv_eq_ediv_of_nonneg _ (Int.pow_nonneg d_)];generalize a/2^(8*k)=z;have h1:=Int.emod_nonneg z (show(256:Int)≠0 by decide);have h2:=Int.emod_lt_of_pos z (show(0:Int)<256 by decide);simp;omega
theorem xX (pre rest:List UInt8)(c:UInt8)(k:Nat)(m:List UInt8)(h:m[k]?=some c):hZ (pre++m++rest) (pre.length+k)=c.toNat:=by have hk:=aw h;unfold hZ;rw[j9,u3 o_,F0,p9 hk,h]
theorem Ge {a:Int}{n k:Nat}(h:k<n):(gu a n)[k]?=some (lR a k):=by unfold gu;rw[l6,List.getElem?_range h];rfl
theorem KZ {c a:Int}(h:dT c a=true){s:List UInt8}{p:Nat}(hb:∀k,k<(dc c).1.toNat->hZ s (p+k)=(lR a k).toNat):MM c (eu s p (dc c).1.toNat)=a:=by
 unfold dT at h;rw[c9,within_iff,within_iff]at h;obtain⟨_,ha⟩:=h;have hd:∀k,k<(dc c).1.toNat->(hZ s (p+k):Int)=(a/(2^(8*k)))%256:=fun k hk=>by rw[hb k hk,CE]
 have b0:0<(dc c).1.toNat->((eu s p 1:Nat):Int)=a%256:=fun h=>by
  have d0:=hd 0 h;rw[show(2:Int)^(8*0)=1 from rfl]at d0;simp only[eu,Nat.pow_zero,Nat.mul_one,q8];omega
 have b1:1<(dc c).1.toNat->((eu s p 2:Nat):Int)=a%65536:=fun h=>by
  have d0:=b0 o_;have d1:=hd 1 h;rw[show(2:Int)^(8*1)=256 from rfl]at d1;rw[eu,show(256:Nat)^1=256 from rfl];omega
 have b2:2<(dc c).1.toNat->((eu s p 3:Nat):Int)=a%16777216:=fun h=>by
  have d0:=b1 o_;have d1:=hd 2 h;rw[show(2:Int)^(8*2)=65536 from rfl]at d1;rw[eu,show(256:Nat)^2=65536 from rfl];omega
 have b3:3<(dc c).1.toNat->((eu s p 4:Nat):Int)=a%4294967296:=fun h=>by
  have d0:=b2 o_;have d1:=hd 3 h;rw[show(2:Int)^(8*3)=16777216 from rfl]at d1;rw[eu,show(256:Nat)^3=16777216 from rfl];omega
 unfold MM;rcases yM c with⟨e1,e2⟩|⟨e1,e2⟩|⟨e1,e2⟩|⟨e1,e2⟩|⟨e1,e2⟩
 ·rw[e1]at b3⊢;rw[e2]at ha;have b3:=b3 d_;have ha:-2147483648<=a/\a<=2147483647:=ha;show(if(true:Bool)=true/\(2147483648:Nat)<=eu s p 4 then((eu s p 4:Nat):Int)-((4294967296:Nat):Int)else((eu s p 4:Nat):Int))=a;split
  ·rename_i hc;have:=hc.2;omega
  ·rename_i hc;have:¬(2147483648<=eu s p 4):=fun h=>hc ⟨rfl,h⟩;omega
 ·rw[e1]at b1⊢;rw[e2]at ha;have b1:=b1 d_;have ha:-32768<=a/\a<=32767:=ha;show(if(true:Bool)=true/\(32768:Nat)<=eu s p 2 then((eu s p 2:Nat):Int)-((65536:Nat):Int)else((eu s p 2:Nat):Int))=a;split
  ·rename_i hc;have:=hc.2;omega
  ·rename_i hc;have:¬(32768<=eu s p 2):=fun h=>hc ⟨rfl,h⟩;omega
 ·rw[e1]at b1⊢;rw[e2]at ha;have b1:=b1 d_;have ha:0<=a/\a<=65535:=ha;rw[c8 s_];show((eu s p 2:Nat):Int)=a;omega
 ·rw[e1]at b0⊢;rw[e2]at ha;have b0:=b0 d_;have ha:0<=a/\a<=255:=ha;rw[c8 s_];show((eu s p 1:Nat):Int)=a;omega
 ·rw[e1];rw[e2]at ha;have ha:0<=a/\a<=0:=ha;rw[c8 s_];show((0:Nat):Int)=a;omega
theorem uY {x:Ol}(h:dT x.J4 x.L6=true):bk x=UInt8.ofNat x.J4.toNat::gu x.L6 (dc x.J4).1.toNat:=by rw[bk,d5 h]
theorem Jg {x:Ol}(h:dT x.J4 x.L6=true)(pre rest:List UInt8):jy (pre++bk x++rest) (pre.length:Int)=some (x,(bp x.J4).toNat):=by
 have hc:0<=x.J4/\x.J4<=17:=by unfold dT at h;rw[c9,within_iff,within_iff]at h;exact h.1
 have N1:=fH h;have OH:=dX x.J4;have hz:bp x.J4=(dc x.J4).1+1:=by rw[bp,d5 (within_iff.2 hc)]
 have Xt:((hZ (pre++bk x++rest) pre.length:Nat):Int)=x.J4:=by have:=xX pre rest (UInt8.ofNat x.J4.toNat) 0 (bk x) (by rw[uY h];rfl);rw[w9]at this;rw[this];simp;omega
 have XU:∀k,k<(dc x.J4).1.toNat->hZ (pre++bk x++rest) (pre.length+1+k)=(lR x.L6 k).toNat:=fun k hk=>by
  have:=xX pre rest (lR x.L6 k) (k+1) (bk x) (by rw[uY h,m5];exact Ge hk);rw[show pre.length+1+k=pre.length+(k+1) by omega];exact this
 have ZA:=KZ h XU;have PN:(pre++bk x++rest).length=pre.length+(bk x).length+rest.length:=by simp;omega
 generalize pre++bk x++rest=s at *
 rw[jy,d5 ⟨o_,o_⟩,e8,Xt,c8 o_,ZA]
theorem vu:∀{l:List Om} (pre:List UInt8),(∀y∈l,dT y.I8.J6.J4 y.I8.J6.L6=true)->tv (pre++ax l) ((pre++ax l).length-pre.length) pre.length=some (l.map fun y=>y.I8.J6)
 | [],pre,_=>by
  rw[show ax []=[] from rfl,i9]
  exact Lf (d7 _)
 | y::l,pre,h=>by
  have hy:=h y s_;have N1:=fH hy;have OH:=dX y.I8.J6.J4
  have hc:af y.I8.J6.J4 0 17=true:=by unfold dT at hy;rw[c9]at hy;exact hy.1
  have hz:bp y.I8.J6.J4=(dc y.I8.J6.J4).1+1:=by rw[bp,d5 hc]
  have e:ax (y::l)=bk y.I8.J6++ax l:=by rw[show y::l=[y]++l from rfl,aW,eM]
  have ih:=vu (l:=l) (pre++bk y.I8.J6) (fun z hz=>h z (by simp[hz]));have hd:=Jg hy pre (ax l);rw[j9]at hd ih;have Tt:(pre++(bk y.I8.J6++ax l)).length=pre.length+(bk y.I8.J6).length+(ax l).length:=by simp;omega
  have WG:(pre++bk y.I8.J6).length=pre.length+(bp y.I8.J6.J4).toNat:=by rw[b8];omega
  rw[e,IR o_,hd];dsimp only;rw[WG]at ih;rw[ih];rfl
theorem CF {l:List Om}(h:∀y∈l,dT y.I8.J6.J4 y.I8.J6.L6=true):(Cq (ax l)).isSome=true:=by
 have:=vu [] h;rw[p8]at this
 have e:Cq (ax l)=some (l.map fun y=>y.I8.J6):=by unfold Cq;simpa using this
 rw[e];rfl
theorem rR:∀(l:List Oj) (i:Nat),(funsF l i).Pairwise (·<·)
 | [],_=>by rw[funsF];exact List.Pairwise.nil
 | x::l,i=>by
  have ih:=rR l (i+1);rw[funsF];split
  ·refine List.pairwise_append.2 ⟨List.pairwise_singleton _ _,ih,fun a ha b hb=>?_⟩;rw[o9]at ha;have:=(rK hb).1;omega
  ·rw[p8];exact ih
theorem Kl {p:List Oj}{f g k:Nat}(hf:(az p)[f]?=some k)(hg:(az p)[g]?=some k):f=g:=by
 have hs:=List.pairwise_iff_getElem.1 (rR p 0);obtain⟨h1,e1⟩:=y0.1 hf;obtain⟨h2,e2⟩:=y0.1 hg;rcases D8 f g with h|h|h
 ·have:=hs f g h1 h2 h;change(az p)[f]<(az p)[g]at this;rw[e1,e2]at this;omega
 ·exact h
 ·have:=hs g f h2 h1 h;change(az p)[g]<(az p)[f]at this;rw[e1,e2]at this;omega
theorem sF {p:List Oj}(h:aj p=true){f k:Nat}(hf:(az p)[f]?=some k):∃y,p[k]?=some y/\y.I6=0/\cp p f=y.J0/\bW y.J0=true/\findN p 0 y.J0=some k:=by
 unfold aj at h;simp only[c9,j7]at h;obtain⟨_,_,h3,_,h5,_⟩:=h;obtain⟨_,y,hy,h0⟩:=jW (b9 hf);have hl:=q7.1 h3 y (b9 hy);have hn:=q7.1 h5 k (b9 hf);refine⟨y,hy,h0,by rw[cp,hf];dsimp only;rw[hy],?_,?_⟩
 ·unfold cF at hl;simp only[c9]at hl;have:=hl.2.1;rwa [d5 (.inl h0)]at this
 ·unfold bC at hn;rw[hy]at hn;exact B6 hn
theorem Ld {p:List Oj}(h:aj p=true){f g:Nat}(hf:f<(az p).length)(hg:g<(az p).length)(he:cp p f=cp p g):f=g:=by obtain⟨k,hk⟩:=ab hf;obtain⟨j,hj⟩:=ab hg;obtain⟨_,_,_,e1,_,f1⟩:=sF h hk;obtain⟨_,_,_,e2,_,f2⟩:=sF h hj;rw[e1,e2]at he;rw[he,f2]at f1;injection f1 with f1;subst f1;exact Kl hk hj
theorem zd {p:List Oj}:∀(L:List (Nat×List Om)) (pre post:List UInt8) (seen:List Ot),
  (∀x∈L,0<(ax x.2).length/\(∀y∈x.2,dT y.I8.J6.J4 y.I8.J6.L6=true)/\bW (cp p x.1)=true)->L.Pairwise (fun x y=>cp p x.1≠cp p y.1)->(∀x∈L,∀y∈seen,y.J0≠cp p x.1)->post=[]->
  lU (pre++ax (aC L)++post) seen pre.length (bZ p pre.length L)=true
 | [],pre,post,seen,_,_,_,hp=>by subst hp;simp[bZ,lU,aC,ax]
 |(f,l)::L,pre,post,seen,h1,h2,h3,hp=>by
  subst hp;obtain⟨q1,q2,q3⟩:=h1 (f,l) s_;dsimp only at q1 q2 q3;have e:ax (aC ((f,l)::L))=ax l++ax (aC L):=by rw[show aC ((f,l)::L)=l++aC L by simp[aC],aW]
  rw[List.pairwise_cons]at h2;rw[e,i9,bZ,lU,c9];constructor
  ·unfold Hz;rw[c9,c9];refine⟨imgPre_iff.2 ⟨rfl,g_,by dsimp only;simp;omega,q3⟩,?_,?_⟩
   ·rw[u9,Dz,F6];intro y hy;have:=h3 (f,l) s_ y hy;simpa using this
   ·dsimp only;rw[e8]
    have e2:((pre++(ax l++ax (aC L))).take (pre.length+(ax l).length)).drop pre.length=ax l:=by rw[<-j9,List.take_left' s_,A6]
    rw[e2];exact CF q2
  ·dsimp only;rw[e8]
   have ih:=zd L (pre++ax l) [] (seen++[⟨cp p f,(pre.length:Int),((ax l).length:Int)⟩]) (fun x hx=>h1 x aat) h2.2 (fun x hx y hy=>by
    rcases f0.1 hy with hy|hy
    ·exact h3 x aat y hy
    ·rw[o9]at hy;subst hy
     exact h2.1 x hx) rfl
   rw[i9,b8,j9]at ih;simpa using ih
theorem oa {p:List Oj}{b:Oa}{image:Int}:∀(n f:Nat) (at0:Int),(bT p b image n f at0).Pairwise (fun x y=>x.1<y.1)
 | 0,_,_=>by rw[bT];exact List.Pairwise.nil
 | n+1,f,at0=>by
  rw[pS];split
  ·refine List.pairwise_cons.2 ⟨fun y hy=>?_,oa n _ _⟩;have:=(pg hy).1;dsimp only;omega
  ·exact oa n _ _
theorem lm {p:List Oj}{b:Oa}(hs:aE 1048576 (.lst 4 (p.map Oj.tr)))(h1:aj p=true)(h2:aS b=true){image:Int}(h3:af image 0 1=true):Cg (be p b image)=true/\(be p b image).J4.length<=75000:=by
 rw[be,d5 ⟨h1,h2,h3⟩];obtain⟨h6,_⟩:=eH h1;have PO:=fX p b image (az p).length 0 0;have QJ:=fun x (hx:x∈bT p b image (az p).length 0 0)=>(fV hs hx).1;have WT:=fun x (hx:x∈bT p b image (az p).length 0 0)=>(pg hx).2;have hso:=oa (p:=p) (b:=b) (image:=image) (az p).length 0 0
 have QU:∀x∈bT p b image (az p).length 0 0,0<x.2.length/\∀y∈x.2,dT y.I8.J6.J4 y.I8.J6.L6=true:=fun x hx=>by
  obtain⟨i,hi⟩:=y6.1 hx;have hl:=(lF hs h1 h2 o_ hi).2.2
  have ho:∀y∈x.2,dT y.I8.J6.J4 y.I8.J6.L6=true:=fun y hy=>by
   obtain⟨j,hj⟩:=y6.1 hy;exact(kK hs h1 h2 hi hj).1.op
  exact⟨hl,ho⟩
 generalize bT p b image (az p).length 0 0=L at *
 have OC:=iW QJ (d7 L.length);rw[gt (d7 _)]at OC;have PT:=A2 2500 (show L.length<=6 by omega);have OJ:=eL (aC L);refine⟨imageOk_iff.2 ⟨g_,?_⟩,g_⟩;have:=zd (p:=p) L [] [] [] (fun x hx=>?_) ?_ (fun x hx y hy=>by cases hy) rfl
 ·simpa using this
 ·obtain⟨q1,q2⟩:=QU x hx;obtain⟨k,hk⟩:=ab (l:=az p) (k:=x.1) (by have:=WT x hx;omega);obtain⟨y,_,_,e,hn,_⟩:=sF h1 hk;refine⟨?_,q2,by rw[e];exact hn⟩;obtain⟨z,l',hz⟩:=List.exists_cons_of_length_pos q1;rw[hz,show z::l'=[z]++l' from rfl,aW,eM,b8];have N4:=q2 z (by rw[hz];simp);have:=fH N4;have h4:=dX z.I8.J6.J4
  have hc:af z.I8.J6.J4 0 17=true:=by unfold dT at N4;rw[c9]at N4;exact N4.1
  rw[bp,d5 hc]at this;omega
 ·refine hso.imp_of_mem fun{x y} hx hy N2 he=>?_;have:=Ld h1 (by have:=WT x hx;omega) (by have:=WT y hy;omega) he;omega
theorem Mi:∀f:Fin 101,IntKind.i64.wrap (BitVec.ofInt IntKind.i64.bits (f.val:Int) &&& BitVec.ofInt IntKind.i64.bits 1).toNat=(f.val:Int)%2:=d_
theorem sH (f:Nat)(b:Oa)(image:Int)(hf:f<=100):Sim.Spec prog 63 [.agg b.tr,tvI (f:Int),tvI image] (rB (uF b image f)):=by
 refine aI hΓ ay func63 rfl d_ rfl ?_;unfold uF;have hm:=Mi ⟨f,o_⟩;dsimp only at hm;repeat' ((conv=>whnf);first|apply Wx|apply W6|apply oi|apply fi|intro h|exact Y8|refine e_ rfl ?_)
 all_goals first|exact⟨by rw[h,hm];rfl⟩|exact⟨by rw[h];rfl⟩
theorem zb:∀{L:List (Nat×List Om)},(∀x∈L,x.2.length<=2500)->(aC L).length<=2500*L.length
 | L,h=>by
  have:=iW h (d7 L.length);rwa [gt (d7 _)]at this
theorem V10{p:Prop}(h:p:=by
 have Qc:aH p b image=[]:=by rw[aH,c8 hc]
 rw[Qc]
 cases h1:aj p with
 | false=>
  rw[h1]at hP
  repeat' ((conv=>whnf);first|apply Wx|apply W6|apply oi|apply fi|intro h|refine cl hP ?_|refine cl hB ?_|refine cl gb ?_|exact Y6|refine e_ rfl ?_)
 | true=>
  rw[h1]at hP
  cases h2:aS b with
  | false=>
   rw[h2]at hB
   repeat' ((conv=>whnf);first|apply Wx|apply W6|apply oi|apply fi|intro h|refine cl hP ?_|refine cl hB ?_|refine cl gb ?_|exact Y6|refine e_ rfl ?_)
  | true=>
   rw[h2]at hB
   cases h3:af image 0 1 with
   | true=>exact absurd ⟨h1,h2,h3⟩ hc
   | false=>
    rw[h3]at gb
    repeat' ((conv=>whnf);first|apply Wx|apply W6|apply oi|apply fi|intro h|refine cl hP ?_|refine cl hB ?_|refine cl gb ?_|exact Y6|refine e_ rfl ?_)):p:=h
theorem Q17{p:Prop}(h:p:=by exact⟨⟨by simp only[e7,c7,QG]<;>omega,by simp only[e7,c7,QG]<;>omega⟩⟩):p:=h
theorem Q30{p:Prop}(h:p:=by exact⟨congrArg (Tr.int .i64) (by rw[P6,c6 _ o_])⟩):p:=h
theorem nI (p:List Oj)(b:Oa)(image:Int)(hs:aE 1048576 (.lst 4 (p.map Oj.tr))):Sim.Spec prog 12 [tvP p,.agg b.tr,tvI image] (rL 8 ((aH p b image).map Om.tr)):=by
 refine aI hΓ ay func12 rfl d_ rfl ?_;have hP:=eF p hs;have hB:=pf b;have gb:=cC image 0 1;by_cases hc:aj p=true/\aS b=true/\af image 0 1=true
 ·have Qc:aH p b image=aC (bT p b image (az p).length 0 0):=by rw[aH,d5 hc];rfl
  rw[Qc];obtain⟨h1,h2,h3⟩:=hc;rw[h1]at hP;rw[h2]at hB;rw[h3]at gb;obtain⟨h6,PW⟩:=eH h1;have gF:=er p o_;have OA:((az p).map fun n:Nat=>ae n).length=(az p).length:=s_;have QJ:=fun x (hx:x∈bT p b image (az p).length 0 0)=>(fV hs hx).1;repeat' ((conv=>whnf);first|apply Wx|apply W6|apply oi|apply fi|intro h|refine cl hP ?_|refine cl hB ?_|refine cl gb ?_|exact Y8|refine e_ rfl ?_)
  conv=>whnf
  refine⟨Mx p b image,fun q=>⟨[(0,vP p),(2,tI .i64 image),(4,.r (.c (.ptr (4,0,0) 0))),(7,.r (.c (.own (15,0,0)))),(8,tI .i64 q.1.2.1),(9,tI .i64 (q.1.1:Int))],[((15,0,0),some (.arr true 8 ((aC q.1.2.2).map Om.tr))),((4,0,0),some (.box [.t (.int .i64 b.M5),.t (.int .i64 b.L4),.t (.bool b.N0),.t (.bool b.M9)]))],[15,4]⟩,fun q=>(az p).length-q.1.1,⟨(0,0,[]),s_,s_,s_,s_⟩,?_,?_⟩
  ·exact Z2
  intro⟨⟨f,at0,acc⟩,hk,ha,OC,hr⟩;dsimp only at hk ha OC hr⊢;have QP:(aC acc).length<=2500*acc.length:=zb fun x hx=>QJ x (by rw[<-hr];exact f0.2 (.inl hx));by_cases N2:f<(az p).length
  ·obtain⟨n,hn⟩:∃n,(az p).length-f=n+1:=⟨(az p).length-f-1,o_⟩;have hi:=sH f b image o_;rw[hn,pS]at hr
   cases hin:uF b image f with
   | false=>
    rw[hin]at hi hr;rw[c8 s_]at hr;repeat' ((conv=>whnf);first|apply Wx|apply W6|apply oi|apply fi|intro h|refine cl gF ?_|refine cl hi ?_|exact Y6|refine e_ rfl ?_)
    conv=>whnf
    refine⟨⟨(f+1,at0,acc),g_,g_,g_,by dsimp only;rw[show(az p).length-(f+1)=n by omega];exact hr⟩,?_,KD⟩
    exact Z5
   | true=>
    rw[hin]at hi hr;rw[d5 rfl]at hr;have Qh:=mZ p (f:Int) b hs;obtain⟨f1,f2,f3⟩:=KA (f:=f) hs h1 h2 N2;have ON:=(ij (p:=p) (f:=(f:Int)) (b:=b) hs).2
    generalize aN p (f:Int) b=I at *
    repeat' ((conv=>whnf);first|apply Wx|apply W6|apply oi|apply fi|intro h|refine cl gF ?_|refine cl hi ?_|refine cl Qh ?_|exact Y6|refine e_ rfl ?_)
    have N1:(I.map Oi.tr).length=I.length:=s_;have PN:=pa at0 I;have OH:=fun k (h:k<=I.length)=>gx (at0:=at0) h;have Qm:=iy at0 I;have XC:=fun k x (h:I[k]?=some x)=>fE (at0:=at0) h;have XA:∀(k:Nat) (x:Oi),I[k]?=some x->(dv I at0)[k]?=some (Om.mk (atL (cA at0 I) k) (eJ (cA at0 I) k x)):=fun k x h=>dD h;have Qy:=cP I at0;have Qb:xE at0 I=atL (cA at0 I) I.length:=rfl;have ye:=GB (l:=I) (at0:=at0)
    generalize cA at0 I=S at *
    generalize dv I at0=F at *
    generalize xE at0 I=E at *
    conv=>whnf
    refine⟨{k:Nat//k<=I.length},fun k=>⟨[(0,vP p),(2,tI .i64 image),(4,.r (.c (.ptr (4,0,0) 0))),(7,.r (.c (.own (15,0,0)))),(8,tI .i64 (atL S k.1)),(9,tI .i64 (f:Int)),(10,.r (.c (.own (45,0,0)))),(11,.r (.c (.own (46,0,0)))),(12,tI .i64 (k.1:Int))],[((46,0,0),some (.arr true 1 ((S.take k.1).map ae))),((45,0,0),some (.arr true 7 (I.map Oi.tr))),((15,0,0),some (.arr true 8 ((aC acc).map Om.tr))),((4,0,0),some (.box [.t (.int .i64 b.M5),.t (.int .i64 b.L4),.t (.bool b.N0),.t (.bool b.M9)]))],[46,45,15,4]⟩,fun k=>I.length-k.1,⟨0,o_⟩,?_,?_⟩
    ·repeat' ((conv=>whnf);first|apply Wx|apply W6|apply oi|apply fi|intro h|exact Y8|refine e_ rfl ?_)
     all_goals try exact⟨by rw[Qm]⟩
    intro⟨k,hk⟩;dsimp only;have Sz:=OH k hk;by_cases Ss:k<I.length
    ·obtain⟨x,hx⟩:=ab Ss;have hz:=iP x.J6.J4;have ho:=zE x.J6.J4;have P6:=XC k x hx;have hg:S[k]?=some (atL S k):=pu o_;have QA:k<(I.map Oi.tr).length:=o_;have T9:(I.map Oi.tr)[k]?=some x.tr:=aa hx;repeat' ((conv=>whnf);first|apply Wx|apply W6|apply oi|apply fi|intro h|refine⟨k,rfl,QA,?_⟩|refine⟨_,T9,?_⟩|refine cl ho ?_|exact Y6|refine e_ rfl ?_)
     all_goals try exact Q2
     conv=>whnf
     refine⟨⟨k+1,o_⟩,?_,KD⟩;repeat' ((conv=>whnf);first|apply Wx|apply W6|apply oi|apply fi|intro h|exact Y9|refine e_ rfl ?_)
     all_goals try exact⟨by rw[cn hg,ne];rfl⟩
     all_goals try exact Q30
    ·have OZ:k=I.length:=o_;subst OZ;have hg:S[I.length]?=some (atL S I.length):=pu o_;repeat' ((conv=>whnf);first|apply Wx|apply W6|apply oi|apply fi|intro h|exact Y6|refine e_ rfl ?_)
     all_goals try exact Q2
     conv=>whnf
     refine⟨{k:Nat//k<=I.length},fun k=>⟨[(0,vP p),(2,tI .i64 image),(4,.r (.c (.ptr (4,0,0) 0))),(7,.r (.c (.own (15,0,0)))),(8,tI .i64 (atL S I.length)),(9,tI .i64 (f:Int)),(10,.r (.c (.own (45,0,0)))),(11,.r (.c (.own (69,0,0)))),(13,tI .i64 (k.1:Int))],[((69,0,0),some (.arr true 1 (S.map ae))),((45,0,0),some (.arr true 7 (I.map Oi.tr))),((15,0,0),some (.arr true 8 ((aC acc++F.take k.1).map Om.tr))),((4,0,0),some (.box [.t (.int .i64 b.M5),.t (.int .i64 b.L4),.t (.bool b.N0),.t (.bool b.M9)]))],[69,45,15,4]⟩,fun k=>I.length-k.1,⟨0,o_⟩,?_,?_⟩
     ·repeat' ((conv=>whnf);first|apply Wx|apply W6|apply oi|apply fi|intro h|exact Y8|refine e_ rfl ?_)
      all_goals try exact⟨by rw[show [[Tr.int .i64 (atL S I.length)]]=[atL S I.length].map ae from rfl,<-ne,<-cn hg,gt o_]⟩
      all_goals try exact⟨s_⟩
     intro⟨k,hk⟩;dsimp only;have QG:((aC acc++F.take k).map Om.tr).length=(aC acc).length+k:=(by rw[d9,b8,j5];omega);have Vz:(S.map ae).length=I.length+1:=(by rw[d9];exact PN);have mg:∀j,j<=I.length->(S.map ae)[j]?=some (ae (atL S j)):=fun j hj=>by rw[l6,pu o_];rfl
     by_cases Ss:k<I.length
     ·obtain⟨x,hx⟩:=ab Ss;have Qf:=XA k x hx;have XV:(aC acc++F.take (k+1)).map Om.tr=(aC acc++F.take k).map Om.tr++[(Om.mk (atL S k) (eJ S k x)).tr]:=(by rw[cn Qf,<-j9,ne];rfl);have QA:k<(I.map Oi.tr).length:=o_;have T9:(I.map Oi.tr)[k]?=some x.tr:=aa hx;have PJ:IntKind.i64.wrap ((k:Int)+1)=((k+1:Nat):Int):=(by rw[c6 _ o_];rfl);have O6:k<(S.map ae).length:=o_;have Pk:k+1<(S.map ae).length:=o_;have m0:=mg k o_;have m1:=mg (k+1) o_;have b1:=OH (k+1) o_
      cases P3:pl x with
      | true=>
       obtain⟨ja,jb⟩:=f3 x (b9 hx) P3;have hwa:x.J6.L6=((x.J6.L6.toNat:Nat):Int):=(z6 ja).symm;have PT:x.J6.L6.toNat<(S.map ae).length:=o_;have m2:=mg x.J6.L6.toNat o_;have b2:=OH x.J6.L6.toNat o_;have PU:eJ S k x=wr x (IntKind.i64.wrap (atL S x.J6.L6.toNat-atL S (k+1))):=(by rw[eJ,d5 P3,c6 _ o_]);rw[gv]at P3;repeat' ((conv=>whnf);first|apply Wx|apply W6|apply oi|apply fi|intro h|refine⟨k,rfl,QA,?_⟩|refine⟨_,T9,?_⟩|refine⟨k,rfl,O6,?_⟩|refine⟨k+1,PJ,Pk,?_⟩|refine⟨_,hwa,PT,?_⟩|refine⟨_,m0,?_⟩|refine⟨_,m1,?_⟩|refine⟨_,m2,?_⟩|exact Y11|refine e_ rfl ?_)
       all_goals try exact Q17
       all_goals(
        conv=>whnf
        refine⟨⟨k+1,o_⟩,?_,KD⟩;repeat' ((conv=>whnf);first|apply Wx|apply W6|apply oi|apply fi|intro h|exact Y9|refine e_ rfl ?_)
        all_goals try exact⟨by dsimp only;rw[XV,PU];rfl⟩)
      | false=>
       have PU:eJ S k x=x:=(by rw[eJ,c8 (by rw[P3];simp)]);have Tv:¬(x.J6.J4=10\/x.J6.J4=11):=(by rw[<-gv,P3];simp);repeat' ((conv=>whnf);first|apply Wx|apply W6|apply oi|apply fi|intro h|refine⟨k,rfl,QA,?_⟩|refine⟨_,T9,?_⟩|refine⟨k,rfl,O6,?_⟩|refine⟨_,m0,?_⟩|exact Y11|refine e_ rfl ?_)
       all_goals try exact Q17
       all_goals(
        conv=>whnf
        refine⟨⟨k+1,o_⟩,?_,KD⟩;repeat' ((conv=>whnf);first|apply Wx|apply W6|apply oi|apply fi|intro h|exact Y9|refine e_ rfl ?_)
        all_goals try exact⟨by dsimp only;rw[XV,PU];rfl⟩)
     ·have OZ:k=I.length:=o_;subst OZ;repeat' ((conv=>whnf);first|apply Wx|apply W6|apply oi|apply fi|intro h|exact Y6|refine e_ rfl ?_)
      conv=>whnf
      refine⟨⟨(f+1,E,acc++[(f,F)]),g_,g_,by simp;omega,by dsimp only;rw[j9,show(az p).length-(f+1)=n by omega];exact hr⟩,?_,KD⟩;repeat' ((conv=>whnf);first|apply Wx|apply W6|apply oi|apply fi|intro h|exact Y9|refine e_ rfl ?_)
      all_goals try exact⟨by rw[Qb]⟩
      all_goals try exact⟨by rw[mQ,gt o_]⟩
  ·rw[show(az p).length-f=0 by omega]at hr;have Pf:acc=bT p b image (az p).length 0 0:=(by rw[<-hr];simp[bT]);repeat' ((conv=>whnf);first|apply Wx|apply W6|apply oi|apply fi|intro h|refine cl gF ?_|exact Y6|refine e_ rfl ?_)
   all_goals exact⟨by rw[Pf]⟩
 ·exact V10
theorem oz (p:List Oj)(b:Oa)(image:Int)(hs:aE 1048576 (.lst 4 (p.map Oj.tr))):Sim.Spec prog 48 [tvP p,.agg b.tr,tvI image] (.r (.agg ((be p b image).tr.map IU))):=by
 refine aI hΓ ay func48 rfl d_ rfl ?_;have hP:=nI p b image hs;by_cases hc:aj p=true/\aS b=true/\af image 0 1=true
 ·have Qc:be p b image=⟨ax (aC (bT p b image (az p).length 0 0)),bZ p 0 (bT p b image (az p).length 0 0)⟩:=by rw[be,d5 hc]
  have XA:aH p b image=aC (bT p b image (az p).length 0 0):=by rw[aH,d5 hc];rfl
  rw[Qc];rw[XA]at hP;obtain⟨h1,h2,h3⟩:=hc;obtain⟨h6,PW⟩:=eH h1;have PO:=fX p b image (az p).length 0 0;have QJ:=fun x (hx:x∈bT p b image (az p).length 0 0)=>(fV hs hx).1;have WL:=fun{i:Nat} {x:Nat×List Om} {j:Nat} {y:Om} (h:(bT p b image (az p).length 0 0)[i]?=some x) (hy:x.2[j]?=some y)=>kK hs h1 h2 h hy;have Sb:=fun{i:Nat} {x:Nat×List Om} (h:(bT p b image (az p).length 0 0)[i]?=some x)=>(lF hs h1 h2 o_ h).2
  generalize bT p b image (az p).length 0 0=L at *
  repeat' ((conv=>whnf);first|apply Wx|apply W6|apply oi|apply fi|intro h|refine cl hP ?_|exact Y8|refine e_ rfl ?_)
  conv=>whnf
  refine⟨{q:Nat×Nat//q.1<=L.length/\(∀x,L[q.1]?=some x->q.2<x.2.length)/\(q.1=L.length->q.2=0)},fun q=>⟨[(0,vP p),(6,.r (.c (.ptr (6,0,0) 0))),(7,.r (.c (.ptr (7,0,0) 0))),(8,.r (.c (.own (15,0,0)))),(9,tI .i64 (((aC (L.take q.1.1)).length+q.1.2:Nat):Int))],[((6,0,0),some (.box [.t (.str []),.nils 0])),((7,0,0),some (.box [.t (.str (iq L q.1.1 q.1.2)),.own (7,0,1)])),((7,0,1),some (.arr true 3 ((kR p L q.1.1 q.1.2).map Ot.tr))),((15,0,0),some (.arr true 8 ((aC L).map Om.tr)))],[15,7,6]⟩,fun q=>(aC L).length+1-((aC (L.take q.1.1)).length+q.1.2),⟨(0,0),g_,by intro x hx;exact(Sb hx).2,fun _=>rfl⟩,?_,?_⟩
  ·repeat' ((conv=>whnf);first|apply Wx|apply W6|apply oi|apply fi|intro h|exact Y8|refine e_ rfl ?_)
   all_goals try exact⟨by rw[FZ];rfl⟩
   all_goals try exact⟨by rw[wE];rfl⟩
  intro⟨⟨i,j⟩,hi,hj,he⟩;dsimp only at hi hj he⊢;by_cases N2:i<L.length
  ·obtain⟨x,hx⟩:=ab N2;have P3:=hj x hx;obtain⟨y,hy⟩:=ab P3;obtain⟨hPI,QK⟩:=WL hx hy;have QU:=Kk hx hy;have OZ:=aw QU;have OC:=zb QJ;have PT:=A2 2500 (show L.length<=6 by omega);have hkm:(aC (L.take i)).length+j<((aC L).map Om.tr).length:=(by rw[d9];exact OZ);have hgm:((aC L).map Om.tr)[(aC (L.take i)).length+j]?=some y.tr:=aa QU;have hE:=vL y.I8.J6;have hE5:=pj y.I8.J6;obtain⟨⟨i',j'⟩,q1,q2,q3,q4,q5,q6⟩:=Jx (p:=p) (fun{i x} h=>(Sb (i:=i) h).2) hx P3;dsimp only at q1 q2 q3 q4 q5 q6;rw[HW hx hy]at q5;rw[Am hx]at q6;have OJ:=IB (j:=j) hx;have abm:=eL (aC (L.take i));have abO:=eL (x.2.take j);have abR:(aC (L.take i)).length<=(aC L).length:=o_;have aa3:(x.2.take j).length<=2500:=(by have:=QJ x (b9 hx);rw[j5];omega);have YF:ax (x.2.take (j+1))=ax (x.2.take j)++bk y.I8.J6:=(by rw[cn hy,aW,eM]);rw[YF,b8]at q6;have Qm:(bZ p 0 (L.take i)).length=i:=(by rw[kP,j5];omega);rcases z4 j with rfl|Yc
   ·obtain⟨Ru,g,ln,UI,UH,X4,hf4⟩:=hPI.head rfl;have Pm:cp p x.1=ln.J0:=(by rw[cp,UI];dsimp only;rw[X4]);rw[wE];have hz0:ax (x.2.take 0)=[]:=(by simp[ax]);rw[hz0]at q6 OJ QK;rw[e7]at OJ QK
    generalize iq L i 0=C at *
    generalize bZ p 0 (L.take i)=S0 at *
    generalize bk y.I8.J6=EB at *
    generalize ax (aC (L.take i))=C0 at *
    have Rp:IntKind.i64.wrap (((S0.map Ot.tr++[[Tr.str ln.J0,Tr.int .i64 y.J7,Tr.int .i64 0]]).length:Int)-1)=(i:Int):=by rw[b8,d9,Qm];simp only[c7,e7];rw[c6 _ o_];omega
    have O3:i<(S0.map Ot.tr++[[Tr.str ln.J0,Tr.int .i64 y.J7,Tr.int .i64 0]]).length:=by rw[b8,d9,Qm];simp
    have Yx:(S0.map Ot.tr++[[Tr.str ln.J0,Tr.int .i64 y.J7,Tr.int .i64 0]])[i]?=some [Tr.str ln.J0,Tr.int .i64 y.J7,Tr.int .i64 0]:=by rw[u3 (by rw[d9,Qm];exact d7 _),d9,Qm];simp
    have fin:∀(KK:List (List Tr)),KK=(S0.map Ot.tr++[[Tr.str ln.J0,Tr.int .i64 y.J7,Tr.int .i64 0]]).set i [Tr.str ln.J0,Tr.int .i64 y.J7,Tr.int .i64 (IntKind.i64.wrap (((C++EB).length:Int)-y.J7))]->KK=(kR p L i' j').map Ot.tr:=fun KK h=>by
     rw[h,q6,Pm,D2 _ _ (by rw[d9,Qm];exact d7 _),d9,Qm,y7,ne,b8,c6 _ o_];simp only[C9,n9,A4,Ot.tr];congr 6<;>(simp only[e7];omega)
    rcases Ru with Ru|Ru
    all_goals(
     repeat' ((conv=>whnf);first|apply Wx|apply W6|apply oi|apply fi|intro h|refine⟨_,rfl,hkm,?_⟩|refine⟨_,hgm,?_⟩|refine cl hE ?_|refine⟨g,ln.tr,UH,aa X4,?_⟩|refine⟨_,Rp,O3,?_⟩|refine⟨_,Yx,?_⟩|exact Y15|refine e_ rfl ?_)
     all_goals try exact⟨o_⟩
     all_goals try exact⟨⟨by simp only[e7,c7,d9,Qm]<;>omega,by simp only[e7,c7,d9,Qm]<;>omega⟩⟩
     all_goals(
      conv=>whnf
      refine⟨⟨(i',j'),q1,q2,q3⟩,?_,KD⟩;repeat' ((conv=>whnf);first|apply Wx|apply W6|apply oi|apply fi|intro h|exact Y9|refine e_ rfl ?_)
      all_goals try exact⟨by rw[q5]⟩
      all_goals try exact⟨fin _ rfl⟩
      all_goals exact⟨congrArg (Tr.int _) aav⟩))
   ·obtain⟨j,rfl⟩:∃j0,j=j0+1:=⟨j-1,o_⟩;obtain⟨Ru,m,ln,UH,X4,hf4⟩:=hPI.body Yc;rw[Am hx]
    generalize iq L i (j+1)=C at *
    generalize bZ p 0 (L.take i)=S0 at *
    generalize bk y.I8.J6=EB at *
    generalize ax (aC (L.take i))=C0 at *
    generalize ax (x.2.take (j+1))=C1 at *
    have Rp:IntKind.i64.wrap ((((S0++[(⟨cp p x.1,(C0.length:Int),(C1.length:Int)⟩:Ot)]).map Ot.tr).length:Int)-1)=(i:Int):=by rw[d9,b8,Qm];simp only[c7,e7];rw[c6 _ o_];omega
    have O3:i<((S0++[(⟨cp p x.1,(C0.length:Int),(C1.length:Int)⟩:Ot)]).map Ot.tr).length:=by rw[d9,b8,Qm];simp
    have Yx:((S0++[(⟨cp p x.1,(C0.length:Int),(C1.length:Int)⟩:Ot)]).map Ot.tr)[i]?=some [Tr.str (cp p x.1),Tr.int .i64 (C0.length:Int),Tr.int .i64 (C1.length:Int)]:=by rw[l6,u3 (by rw[Qm];exact d7 _),Qm];simp[Ot.tr]
    have fin:∀(KK:List (List Tr)),KK=((S0++[(⟨cp p x.1,(C0.length:Int),(C1.length:Int)⟩:Ot)]).map Ot.tr).set i [Tr.str (cp p x.1),Tr.int .i64 (C0.length:Int),Tr.int .i64 (IntKind.i64.wrap (((C++EB).length:Int)-(C0.length:Int)))]->KK=(kR p L i' j').map Ot.tr:=fun KK h=>by
     rw[h,q6,ne,D2 _ _ (by rw[d9,Qm];exact d7 _),d9,Qm,y7,ne,b8,c6 _ o_];simp only[C9,n9,A4,Ot.tr];congr 6;omega
    repeat' ((conv=>whnf);first|apply Wx|apply W6|apply oi|apply fi|intro h|refine⟨_,rfl,hkm,?_⟩|refine⟨_,hgm,?_⟩|refine cl hE ?_|refine⟨m,ln.tr,UH,aa X4,?_⟩|refine⟨_,Rp,O3,?_⟩|refine⟨_,Yx,?_⟩|exact Y15|refine e_ rfl ?_)
    all_goals try exact⟨o_⟩
    all_goals(
     conv=>whnf
     refine⟨⟨(i',j'),q1,q2,q3⟩,?_,KD⟩;repeat' ((conv=>whnf);first|apply Wx|apply W6|apply oi|apply fi|intro h|exact Y9|refine e_ rfl ?_)
     all_goals try exact⟨by rw[q5]⟩
     all_goals try exact⟨fin _ rfl⟩
     all_goals exact⟨congrArg (Tr.int _) aav⟩)
  ·have O3:i=L.length:=o_;subst O3;have Yc:=he rfl;subst Yc;rw[IM,Jh,gt (d7 _)];repeat' ((conv=>whnf);first|apply Wx|apply W6|apply oi|apply fi|intro h|exact Y8|refine e_ rfl ?_)
   all_goals try(exfalso;simp only[d9,j7]at h;omega)
 ·have Qc:be p b image=⟨[],[]⟩:=by rw[be,c8 hc]
  have XA:aH p b image=[]:=by rw[aH,c8 hc]
  rw[Qc];rw[XA]at hP;repeat' ((conv=>whnf);first|apply Wx|apply W6|apply oi|apply fi|intro h|refine cl hP ?_|exact Y8|refine e_ rfl ?_)
  conv=>whnf
  refine⟨Unit,fun _=>⟨[(0,vP p),(6,.r (.c (.ptr (6,0,0) 0))),(7,.r (.c (.ptr (7,0,0) 0))),(8,.r (.c (.own (15,0,0)))),(9,tI .i64 0)],[((6,0,0),some (.box [.t (.str []),.nils 0])),((7,0,0),some (.box [.t (.str []),.own (7,0,1)])),((7,0,1),some (.arr true 3 [])),((15,0,0),some (.arr true 8 []))],[15,7,6]⟩,fun _=>0,(),?_,?_⟩
  ·exact Z2
  intro _;repeat' ((conv=>whnf);first|apply Wx|apply W6|apply oi|apply fi|intro h|exact Y8|refine e_ rfl ?_)
  all_goals try exact Q8
theorem Cf {p:List Oj}(hs:aE 1048576 (.lst 4 (p.map Oj.tr)))(f:Nat):(cp p f).length<=1048576:=by
 unfold cp;split
 ·split
  ·rename_i g _ y hy;have:=bx hs (b9 hy);simp only[Oj.tr,aX,aE]at this;omega
  ·simp
 ·simp
theorem rE {p:List Oj}(hs:aE 1048576 (.lst 4 (p.map Oj.tr))):∀(L:List (Nat×List Om)) (at0:Int) (x:Ot),x∈bZ p at0 L->x.J0.length<=1048576
 | [],_,_,h=>by cases h
 |(f,l)::L,at0,x,h=>by
  rw[bZ]at h;rcases d6.1 h with rfl|h
  ·exact Cf hs f
  ·exact rE hs L _ x h
theorem yA {p:List Oj}{b:Oa}{image:Int}(hs:aE 1048576 (.lst 4 (p.map Oj.tr))):aX 1048576 (be p b image).tr:=by
 rw[be];split
 ·rename_i hc;obtain⟨h1,h2,h3⟩:=hc;obtain⟨h6,_⟩:=eH h1;have PO:=fX p b image (az p).length 0 0;have OC:=zb fun x (hx:x∈bT p b image (az p).length 0 0)=>(fV hs hx).1;have OJ:=eL (aC (bT p b image (az p).length 0 0));have PT:=A2 2500 (show(bT p b image (az p).length 0 0).length<=6 by omega);refine⟨by simp only[aE];omega,?_,trivial⟩
  exact gB (by rw[kP];omega) fun x hx=>by
   have:=rE hs _ _ x hx;simp only[Ot.tr,aX,aE];exact⟨o_,trivial,trivial,trivial⟩
 ·simp[Og.tr,aX,aE,eB]
theorem qk {p:List Oj}{b:Oa}{image:Int}(h6:(az p).length<=6):(be p b image).L7.length<=6:=by
 unfold be;split
 ·dsimp only;rw[kP];have:=fX p b image (az p).length 0 0;omega
 ·simp
def uH (R:List Ou)(d:Nat):Prop:=0<R.length/\R.length<=5^d/\∀t∈R,t.J0.length<=8
abbrev LV (vars:List (List UInt8))(c:Ob):List (Sim.Id×AO):=kO c++[((0,0,1),.arr false 1 (vars.map ah))]
abbrev Fm (m:Int)(names:List (List UInt8))(ars:List Int):List AV:=[lb,tI .i64 m,.r (.c (.own (0,0,1))),vN names,.r (.c (.t (.lst 1 (ars.map ae))))]
abbrev JU (vars:List (List UInt8))(c:Ob)(R:List Ou):List (Sim.Id×AO):=LV vars c++[((1,0,0),.arr false 3 (R.map Ou.tr))]
theorem xF (d:Nat):1<=5^d:=Nat.one_le_pow _ _ o_
theorem Lt {d:Nat}(h:d<=8):5^d<=390625:=G5 (n:=5) o_ h
theorem V129{p:Prop}(h:p:=by
 rw[E1 h0,c6 _ o_];have:(2:Int)^(d+1)=2*2^d:=by rw[Int.pow_succ];omega
 omega):p:=h
theorem JF {m:Int}{d:Nat}(h0:0<=m)(h1:m<2^(d+1))(hb:m<=1000):0<=IntKind.i64.wrap (m.tdiv 4)/\IntKind.i64.wrap (m.tdiv 4)<2^d/\IntKind.i64.wrap (m.tdiv 4)<=1000:=by exact V129
def wm (P:Ob->List Ou->Ob->Prop)(d:Nat):Nat->Ob->List Ou->Ob->List Ou->Prop
 | 0,c,acc,c',PH=>c'=c/\PH=acc
 | k+1,c,acc,c',PH=>∃R c1,uH R d/\c1.b=c.b/\c1.ok/\P c R c1/\wm P d k c1 (acc++R) c' PH
theorem Dg {P:Ob->List Ou->Ob->Prop}{d:Nat}(ih:∀c:Ob,c.ok->∃R c1,uH R d/\c1.b=c.b/\c1.ok/\P c R c1):∀(k:Nat) (c:Ob) (acc:List Ou),c.ok->∃c' PH,wm P d k c acc c' PH
 | 0,c,acc,_=>⟨c,acc,rfl,rfl⟩
 | k+1,c,acc,hc=>by
  obtain⟨R,c1,h1,h2,h3,h4⟩:=ih c hc;obtain⟨c',PH,h5⟩:=Dg ih k c1 (acc++R) h3;exact⟨c',PH,R,c1,h1,h2,h3,h4,h5⟩
theorem uQ {P:Ob->List Ou->Ob->Prop}{d:Nat}:∀{k:Nat} {c c':Ob} {acc PH:List Ou},wm P d k c acc c' PH->c.ok->c'.b=c.b/\c'.ok/\acc.length<=PH.length/\PH.length<=acc.length+k*5^d/\((∀t∈acc,t.J0.length<=8)->∀t∈PH,t.J0.length<=8)
 | 0,c,c',acc,PH,h,hc=>by
  obtain⟨rfl,rfl⟩:=h
  exact⟨rfl,hc,d7 _,o_,fun h=>h⟩
 | k+1,c,c',acc,PH,h,hc=>by
  obtain⟨R,c1,h1,h2,h3,_,h5⟩:=h;obtain⟨g1,g2,g3,g4,g5⟩:=uQ h5 h3;rw[b8]at g3 g4;have hR:=h1.2.1;refine⟨g1.trans h2,g2,o_,by rw[o8];omega,fun H=>g5 fun t ht=>?_⟩;rcases f0.1 ht with ht|ht
  ·exact H t ht
  ·exact h1.2.2 t ht
theorem Lx {m:Int}{d:Nat}(h0:0<=m)(h1:m<2^(d+1))(hb:m<=1000):0<=IntKind.i64.wrap (m.tdiv 2)/\IntKind.i64.wrap (m.tdiv 2)<2^d/\IntKind.i64.wrap (m.tdiv 2)<=1000:=by exact V129
theorem gR (vars names:List (List UInt8))(ars:List Int)(hv:vars.length<=100)(hn:names.length<=100)(ha:ars.length=names.length)(Vm:∀a∈ars,0<=a/\a<=4)(VA:∀s∈vars,s.length<=8)(VG:∀s∈names,s.length<=8):
  ∀(d:Nat) (m:Int) (c:Ob),d<=8->0<=m->m<2^d->m<=1000->c.ok->∃(R:List Ou) (c':Ob),uH R d/\c'.b=c.b/\c'.ok/\bd prog 254 (Fm m names ars) (LV vars c) (.r (.c (.own (1,0,0)))) (JU vars c' R)
 | d,m,c,hd,h0,h1,hm,hc=>by
  have p5d:=Lt hd;have TR:(vars.map ah).length=vars.length:=s_;have Pn:(names.map ah).length=names.length:=s_;obtain⟨k,c1,k1,_,b1,o1,g1⟩:=bU c 10 hc;by_cases aaJ:2<m/\k<5
  ·cases d with
   | zero=>omega
   | succ d=>
    obtain⟨kd,c2,k2,_,b2,o2,g2⟩:=bU c1 5 o1;obtain⟨q1,q2,q3⟩:=Lx h0 h1 hm;obtain⟨R3,c3,t3,b3,o3,g3⟩:=gR vars names ars hv hn ha Vm VA VG d _ c2 o_ q1 q2 q3 o2;obtain⟨R4,c4,t4,b4,o4,g4⟩:=gR vars names ars hv hn ha Vm VA VG d _ c3 o_ q1 q2 q3 o3;have p5:=xF d;have p5':5^(d+1)=5*5^d:=(by rw[F7];omega);have t3l:=t3.2.1;have t4l:=t4.2.1;refine⟨⟨2+kd,0,[]⟩::(R3++R4),c4,⟨s_,?_,?_⟩,((b4.trans b3).trans b2).trans b1,o4,?_⟩
    ·have:=t3.2.1;have:=t4.2.1;rw[c7,b8];omega
    ·intro t ht;rcases d6.1 ht with rfl|ht
     ·simp
     ·rcases f0.1 ht with ht|ht
      ·exact t3.2.2 t ht
      ·exact t4.2.2 t ht
    ·refine au hΓ ay func254 rfl d_ rfl rfl ?_;repeat' ((conv=>whnf);first|apply Wx|apply W6|apply oi|apply fi|intro h|exact Y8|refine e_ rfl ?_)
     refine cg (g1) ?_;repeat' ((conv=>whnf);first|apply Wx|apply W6|apply oi|apply fi|intro h|exact Y6|refine e_ rfl ?_)
     all_goals try exact Q13
     refine cg (g2) ?_;repeat' ((conv=>whnf);first|apply Wx|apply W6|apply oi|apply fi|intro h|exact Y8|refine e_ rfl ?_)
     refine cg (g3) ?_;repeat' ((conv=>whnf);first|apply Wx|apply W6|apply oi|apply fi|intro h|exact Y8|refine e_ rfl ?_)
     all_goals try exact Q2
     refine cg (g4) ?_;repeat' ((conv=>whnf);first|apply Wx|apply W6|apply oi|apply fi|intro h|exact Y8|refine e_ rfl ?_)
     all_goals try exact Q2
     all_goals exact⟨by rw[c6 _ o_];simp[Ou.tr]⟩
  ·by_cases Rx:0<names.length/\1<m/\k<8
   ·cases d with
    | zero=>omega
    | succ d=>
     obtain⟨QW,Ur,XJ⟩:=Rx;obtain⟨f,c2,kf,_,b2,o2,g2⟩:=bU c1 ((names.map ah).length:Int) o1;rw[Pn]at kf;have QS:f<names.length:=(by have:=kf o_;omega);obtain⟨nm,Pm⟩:=ab QS;obtain⟨a,XT⟩:=ab (l:=ars) (k:=f) o_;have Tc:=Vm a (b9 XT);obtain⟨an,rfl⟩:=j8 Tc.1;obtain⟨q1,q2,q3⟩:=JF h0 h1 hm;have ih:=fun c hc=>gR vars names ars hv hn ha Vm VA VG d (IntKind.i64.wrap (m.tdiv 4)) c o_ q1 q2 q3 hc;have p5:=xF d;have p5':5^(d+1)=5*5^d:=(by rw[F7];omega);obtain⟨c',R,ON⟩:=Dg (P:=fun c R c'=>bd prog 254 (Fm (IntKind.i64.wrap (m.tdiv 4)) names ars) (LV vars c) (.r (.c (.own (1,0,0)))) (JU vars c' R)) (d:=d) ih an c2 [⟨7,an,nm⟩] o2;have Xs:=uQ ON o2;refine⟨R,c',⟨by have:=Xs.2.2.1;simp at this;omega,by have:=Xs.2.2.2.1;have h4:an*5^d<=4*5^d:=l8 _ o_;simp at this;omega,Xs.2.2.2.2 (by intro t ht;simp at ht;subst ht;exact VG nm (b9 Pm))⟩,(Xs.1.trans b2).trans b1,Xs.2.1,?_⟩;refine au hΓ ay func254 rfl d_ rfl rfl ?_;repeat' ((conv=>whnf);first|apply Wx|apply W6|apply oi|apply fi|intro h|exact Y8|refine e_ rfl ?_)
     refine cg (g1) ?_;repeat' ((conv=>whnf);first|apply Wx|apply W6|apply oi|apply fi|intro h|exact Y6|refine e_ rfl ?_)
     all_goals(
      refine cg (g2) ?_;have RS:(ars.map ae).length=ars.length:=s_;repeat' ((conv=>whnf);first|apply Wx|apply W6|apply oi|apply fi|intro h|refine⟨f,(ae an),rfl,aa XT,?_⟩|refine⟨f,(ah nm),rfl,aa Pm,?_⟩|exact Y8|refine e_ rfl ?_)
      conv=>whnf
      refine⟨{q:Nat×Ob×List Ou//q.1<=an/\q.2.1.ok/\q.2.2.length<=1+q.1*5^d/\wm (fun c R c'=>bd prog 254 (Fm (IntKind.i64.wrap (m.tdiv 4)) names ars) (LV vars c) (.r (.c (.own (1,0,0)))) (JU vars c' R)) d (an-q.1) q.2.1 q.2.2 c' R},fun q=>⟨[(0,lb),(1,tI .i64 m),(2,.r (.c (.own (0,0,1)))),(3,vN names),(4,.r (.c (.t (.lst 1 (ars.map ae))))),(13,tI .i64 (f:Int)),(14,.r (.c (.own (14,0,0)))),(15,tI .i64 (q.1.1:Int))],[((0,0,0),some (.box [.t (.lst 1 (q.1.2.1.b.map aZ)),.t (.int .i64 q.1.2.1.i),.t (.int .i64 q.1.2.1.h)])),((0,0,1),some (.arr false 1 (vars.map ah))),((14,0,0),some (.arr false 3 (q.1.2.2.map Ou.tr)))],[14,0]⟩,fun q=>an-q.1.1,⟨(0,c2,[⟨7,an,nm⟩]),g_,o2,s_,ON⟩,?_,?_⟩
      ·exact Z2
      intro⟨⟨i,ci,acc⟩,r1,r2,r3,r4⟩;dsimp only at r1 r2 r3 r4⊢;by_cases N2:i<an
      ·obtain⟨w,hw⟩:∃w,an-i=w+1:=⟨an-i-1,o_⟩;rw[hw]at r4;obtain⟨R5,c5,t5,b5,o5,g5,r5⟩:=r4;have t5l:=t5.2.1;have i5:i*5^d<=4*5^d:=l8 _ o_;have i6:(i+1)*5^d=i*5^d+5^d:=(by rw[o8];omega);repeat' ((conv=>whnf);first|apply Wx|apply W6|apply oi|apply fi|intro h|refine⟨f,(ae an),rfl,aa XT,?_⟩|exact Y6|refine e_ rfl ?_)
       refine cg (g5) ?_;repeat' ((conv=>whnf);first|apply Wx|apply W6|apply oi|apply fi|intro h|exact Y8|refine e_ rfl ?_)
       all_goals try exact Q2
       conv=>whnf
       refine⟨⟨(i+1,c5,acc++R5),g_,o5,by simp;omega,by rw[show an-(i+1)=w by omega];exact r5⟩,?_,KD⟩;repeat' ((conv=>whnf);first|apply Wx|apply W6|apply oi|apply fi|intro h|exact Y7|refine e_ rfl ?_)
       all_goals exact⟨s_⟩
      ·rw[show an-i=0 by omega]at r4;obtain⟨rfl,rfl⟩:=r4;repeat' ((conv=>whnf);first|apply Wx|apply W6|apply oi|apply fi|intro h|refine⟨f,(ae an),rfl,aa XT,?_⟩|exact Y6|refine e_ rfl ?_)
     )
   ·have pick:∀c:Ob,c.ok->∃(v:Int) (c':Ob),c'.b=c.b/\c'.ok/\bd prog 129 [lb,.r (.c (.own (0,0,1)))] (kO c++[((0,0,1),.arr false 1 (([0,1,2,3,10,999]:List Int).map ae))]) (tI .i64 v) (kO c'++[((0,0,1),.arr false 1 (([0,1,2,3,10,999]:List Int).map ae))]):=fun c hc=>by
     obtain⟨v,c',_,b,o,g⟩:=kq c [0,1,2,3,10,999] hc d_ d_;exact⟨v,c',b,o,g⟩
    have p5:=xF d;have Qp:∀(t:Ou),t.J0.length<=8->uH [t] d:=fun t ht=>⟨s_,by simpa using p5,by intro u hu;simp at hu;subst hu;exact ht⟩;by_cases aba:0<vars.length
    ·obtain⟨o,c2,b2,o2,g2⟩:=dI c1 2 o1
     cases o with
     | true=>
      obtain⟨f,c3,kf,_,b3,o3,g3⟩:=bU c2 ((vars.map ah).length:Int) o2;rw[TR]at kf;have QS:f<vars.length:=(by have:=kf o_;omega);obtain⟨nm,Pm⟩:=ab QS;have OA:f<(vars.map ah).length:=(by rw[TR];exact QS);refine⟨[⟨1,0,nm⟩],c3,Qp _ (VA nm (b9 Pm)),(b3.trans b2).trans b1,o3,?_⟩;refine au hΓ ay func254 rfl d_ rfl rfl ?_;repeat' ((conv=>whnf);first|apply Wx|apply W6|apply oi|apply fi|intro h|exact Y8|refine e_ rfl ?_)
      refine cg (g1) ?_;repeat' ((conv=>whnf);first|apply Wx|apply W6|apply oi|apply fi|intro h|exact Y6|refine e_ rfl ?_)
      all_goals try exact Q13
      all_goals(
       refine cg (g2) ?_;repeat' ((conv=>whnf);first|apply Wx|apply W6|apply oi|apply fi|intro h|exact Y8|refine e_ rfl ?_)
       refine cg (g3) ?_;repeat' ((conv=>whnf);first|apply Wx|apply W6|apply oi|apply fi|intro h|refine⟨f,rfl,OA,?_⟩|refine⟨(ah nm),aa Pm,?_⟩|exact Y8|refine e_ rfl ?_)
      )
     | false=>
      obtain⟨v,c3,b3,o3,g3⟩:=pick c2 o2;refine⟨[⟨0,v,[]⟩],c3,Qp _ s_,(b3.trans b2).trans b1,o3,?_⟩;refine au hΓ ay func254 rfl d_ rfl rfl ?_;repeat' ((conv=>whnf);first|apply Wx|apply W6|apply oi|apply fi|intro h|exact Y8|refine e_ rfl ?_)
      refine cg (g1) ?_;repeat' ((conv=>whnf);first|apply Wx|apply W6|apply oi|apply fi|intro h|exact Y6|refine e_ rfl ?_)
      all_goals try exact Q13
      all_goals(
       refine cg (g2) ?_;repeat' ((conv=>whnf);first|apply Wx|apply W6|apply oi|apply fi|intro h|exact Y8|refine e_ rfl ?_)
       refine cg (g3) ?_;exact Z2
      )
    ·obtain⟨v,c3,b3,o3,g3⟩:=pick c1 o1;refine⟨[⟨0,v,[]⟩],c3,Qp _ s_,b3.trans b1,o3,?_⟩;refine au hΓ ay func254 rfl d_ rfl rfl ?_;repeat' ((conv=>whnf);first|apply Wx|apply W6|apply oi|apply fi|intro h|exact Y8|refine e_ rfl ?_)
     refine cg (g1) ?_;repeat' ((conv=>whnf);first|apply Wx|apply W6|apply oi|apply fi|intro h|exact Y6|refine e_ rfl ?_)
     all_goals try exact Q13
     all_goals(
      refine cg (g3) ?_;exact Z2
     )
termination_by d=>d
def Lb (h:Int)(u:UInt8):Int:=IntKind.i64.wrap ((BitVec.ofInt IntKind.i64.bits (IntKind.i64.wrap (IntKind.i64.wrap (IntKind.i64.wrap (h*131)+IntKind.i64.wrap (u.toNat:Int))+7)) &&& BitVec.ofInt IntKind.i64.bits 1073741823).toNat:Int)
def Hp (code:List UInt8):Int:=(code.take 4000).foldl Lb (IntKind.i64.wrap (33147+((code.map aZ).length:Int)))
theorem zo (code:List UInt8)(hl:code.length<=1048576):bd prog 57 [.r (.c (.t (.lst 1 (code.map aZ))))] [] (.r (.c (.ptr (1,0,0) 0))) [((1,0,0),.box [.t (.lst 1 (code.map aZ)),.t (.int .i64 0),.t (.int .i64 (Hp code))])]:=by
 refine au hΓ ay func57 rfl d_ rfl rfl ?_;have N1:(code.map aZ).length=code.length:=s_;obtain⟨H,hH⟩:∃H,Hp code=H:=⟨_,rfl⟩;rw[hH];have ht:(code.take 4000).length<=4000:=by simp;omega
 repeat' ((conv=>whnf);first|apply Wx|apply W6|apply oi|apply fi|intro h|exact Y8|refine e_ rfl ?_)
 conv=>whnf
 refine⟨{q:Nat×Int//q.1<=code.length/\((code.take 4000).drop q.1).foldl Lb q.2=H},fun q=>⟨[(0,.r (.c (.t (.lst 1 (code.map aZ))))),(3,tI .i64 q.1.2),(4,tI .i64 (q.1.1:Int))],[],[0]⟩,fun q=>code.length-q.1.1,⟨(0,IntKind.i64.wrap (33147+((code.map aZ).length:Int))),g_,hH⟩,?_,?_⟩
 ·exact Z2
 intro⟨⟨i,hv⟩,hi,hr⟩;dsimp only at hi hr⊢;by_cases N2:i<code.length/\i<4000
 ·obtain⟨u,hu⟩:=ab N2.1;rw[aP (x:=u) (by rw[l4,d5 N2.2];exact hu),B5]at hr;repeat' ((conv=>whnf);first|apply Wx|apply W6|apply oi|apply fi|intro h|refine⟨i,(aZ u),rfl,aa hu,?_⟩|exact Y6|refine e_ rfl ?_)
  conv=>whnf
  refine⟨⟨(i+1,Lb hv u),g_,hr⟩,?_,KD⟩;repeat' ((conv=>whnf);first|apply Wx|apply W6|apply oi|apply fi|intro h|exact Y7|refine e_ rfl ?_)
  all_goals exact⟨rfl⟩
 ·rw[d8 aab]at hr;have hr:hv=H:=hr;subst hr;exact Z6
abbrev Ne (vars names:List (List UInt8))(ars:List Int)(c:Ob):List (Sim.Id×AO):=[((0,0,0),.box [.ptr (0,0,1) 0,.own (0,0,2),.t (.lst 1 (names.map ah)),.t (.lst 1 (ars.map ae))]),((0,0,1),.box [.t (.lst 1 (c.b.map aZ)),.t (.int .i64 c.i),.t (.int .i64 c.h)]),((0,0,2),.arr false 1 (vars.map ah))]
theorem sK (vars names:List (List UInt8))(ars:List Int)(hv:vars.length<=100)(hn:names.length<=100)(ha:ars.length=names.length)(Vm:∀a∈ars,0<=a/\a<=4)(VA:∀s∈vars,s.length<=8)(VG:∀s∈names,s.length<=8)
  (d:Nat) (m:Int) (c:Ob) (hd:d<=8) (h0:0<=m) (h1:m<2^d) (hm:m<=1000) (hc:c.ok):∃(R:List Ou) (c':Ob),uH R d/\c'.b=c.b/\c'.ok/\bd prog 227 [lb,tI .i64 m] (Ne vars names ars c) (.r (.c (.own (1,0,0)))) (Ne vars names ars c'++[((1,0,0),.arr false 3 (R.map Ou.tr))]):=by
 obtain⟨R,c',t1,b1,o1,g1⟩:=gR vars names ars hv hn ha Vm VA VG d m c hd h0 h1 hm hc;refine⟨R,c',t1,b1,o1,?_⟩;refine au hΓ ay func227 rfl d_ rfl rfl ?_;repeat' ((conv=>whnf);first|apply Wx|apply W6|apply oi|apply fi|intro h|exact Y8|refine e_ rfl ?_)
 refine cg (g1) ?_;exact Z2
noncomputable section
open Classical (propDecidable)
attribute [local instance] propDecidable
def cr (n:Int)(c:Ob):Nat×Ob:=if h:c.ok then(Classical.choose (bU c n h),Classical.choose (t9 (bU c n h)))else(0,c)
theorem cj {c:Ob}(h:c.ok)(n:Int):(0<n->((cr n c).1:Int)<n)/\(cr n c).2.b=c.b/\(cr n c).2.ok/\bd prog 130 [lb,tI .i64 n] (kO c) (tI .i64 (cr n c).1) (kO (cr n c).2):=by rw[cr,dif_pos h];have:=t9 (t9 (bU c n h));exact⟨this.1,this.2.2.1,this.2.2.2.1,this.2.2.2.2⟩
def kQ (n:Int)(c:Ob):Bool×Ob:=if h:c.ok then(Classical.choose (dI c n h),Classical.choose (t9 (dI c n h)))else(false,c)
theorem iG {c:Ob}(h:c.ok)(n:Int):(kQ n c).2.b=c.b/\(kQ n c).2.ok/\bd prog 171 [lb,tI .i64 n] (kO c) (tB (kQ n c).1) (kO (kQ n c).2):=by rw[kQ,dif_pos h];exact t9 (t9 (dI c n h))
structure GP where
 vars:List (List UInt8)
 names:List (List UInt8)
 ars:List Int
structure GP.ok (G:GP):Prop where
 v1:0<G.vars.length
 v:G.vars.length<=100
 n:G.names.length<=100
 a:G.ars.length=G.names.length
 a4:∀a∈G.ars,0<=a/\a<=4
 v8:∀s∈G.vars,s.length<=8
 n8:∀s∈G.names,s.length<=8
abbrev gH (G:GP)(c:Ob):List (Sim.Id×AO):=Ne G.vars G.names G.ars c
theorem gex {G:GP}(hG:G.ok){c:Ob}(hc:c.ok)(m:Nat)(hm:m<8):∃(R:List Ou) (c':Ob),uH R 3/\c'.b=c.b/\c'.ok/\bd prog 227 [lb,tI .i64 (m:Int)] (gH G c) (.r (.c (.own (1,0,0)))) (gH G c'++[((1,0,0),.arr false 3 (R.map Ou.tr))]):=
 sK G.vars G.names G.ars hG.v hG.n hG.a hG.a4 hG.v8 hG.n8 3 (m:Int) c o_ o_ (by show(m:Int)<8;omega) o_ hc
def exV (G:GP)(m:Nat)(c:Ob):List Ou×Ob:=if h:G.ok/\c.ok/\m<8 then(Classical.choose (gex h.1 h.2.1 m h.2.2),Classical.choose (t9 (gex h.1 h.2.1 m h.2.2)))else([],c)
theorem eR {G:GP}(hG:G.ok){c:Ob}(hc:c.ok)(m:Nat)(hm:m<8):uH (exV G m c).1 3/\(exV G m c).2.b=c.b/\(exV G m c).2.ok/\bd prog 227 [lb,tI .i64 (m:Int)] (gH G c) (.r (.c (.own (1,0,0)))) (gH G (exV G m c).2++[((1,0,0),.arr false 3 ((exV G m c).1.map Ou.tr))]):=by rw[exV,dif_pos ⟨hG,hc,hm⟩];exact t9 (t9 (gex hG hc m hm))
def kr (G:GP)(rc:Nat->Ob->List Oj×Ob)(dp:Bool)(c:Ob):List Oj×Ob:=
 let k:=(cr 9 c).1
 let c1:=(cr 9 c).2
 if k<4 then
  let v:=cr G.vars.length c1
  let e:=exV G 6 v.2
  ([⟨1,G.vars[v.1]?.getD [],[],e.1⟩],e.2)
 else if k<6 then
  let e:=exV G 5 c1
  ([⟨2,[],[],e.1⟩],e.2)
 else if k=6/\dp=true then
  let e:=exV G 4 c1
  let t:=cr 2 e.2
  let B:=rc (1+t.1) t.2
  let o:=kQ 2 B.2
  if o.1=true then
   let E:=rc 1 o.2
   (⟨3,[],[],e.1⟩::(B.1++(⟨4,[],[],[]⟩::(E.1++[⟨7,[],[],[]⟩]))),E.2)
  else(⟨3,[],[],e.1⟩::(B.1++[⟨7,[],[],[]⟩]),o.2)
 else if k=7/\dp=true then
  let t:=cr 3 c1
  let B:=rc 1 t.2
  (⟨5,[],[],[⟨5,0,[]⟩,⟨1,0,[105]⟩,⟨0,(1+t.1:Nat),[]⟩]⟩::(B.1++[⟨1,[105],[],[⟨2,0,[]⟩,⟨1,0,[105]⟩,⟨0,1,[]⟩]⟩,⟨7,[],[],[]⟩]),B.2)
 else
  let o:=kQ 3 c1
  if o.1=true then
   let e:=exV G 4 o.2
   ([⟨6,[],[],e.1⟩],e.2)
  else([],o.2)
def nT (G:GP)(rc:Nat->Ob->List Oj×Ob)(dp:Bool):Nat->Ob->List Oj×Ob
 | 0,c=>([],c)
 | n+1,c=>((kr G rc dp c).1++(nT G rc dp n (kr G rc dp c).2).1,(nT G rc dp n (kr G rc dp c).2).2)
def vm (G:GP):Nat->Nat->Ob->List Oj×Ob
 | 0=>nT G (fun _ c=>([],c)) false
 | d+1=>nT G (vm G d) true
end
def sB:Nat->Nat
 | 0=>1
 | d+1=>3+3*sB d
structure BL (x:Oj):Prop where
 name:x.J0.length<=8
 args:x.K0=[]
 len:x.J5.length<=125
 tok:∀t∈x.J5,t.J0.length<=8
 kind:1<=x.I6/\x.I6<=7
structure RcOk (s:Nat) (rc:Nat->Ob->List Oj×Ob):Prop where
 len:∀n c,c.ok->(rc n c).1.length<=n*s
 b:∀n c,c.ok->(rc n c).2.b=c.b
 ok:∀n c,c.ok->(rc n c).2.ok
 bl:∀n c,c.ok->∀x∈(rc n c).1,BL x
theorem AZ {k:Int}{n:List UInt8}{e:List Ou}(hn:n.length<=8)(h:uH e 3)(hk:1<=k/\k<=7:=by omega):BL ⟨k,n,[],e⟩:=⟨hn,rfl,h.2.1,h.2.2,hk⟩
theorem yU {k:Int}(hk:1<=k/\k<=7:=by omega):BL ⟨k,[],[],[]⟩:=⟨s_,rfl,s_,s_,hk⟩
theorem Cl {G:GP}(hG:G.ok){s:Nat}{rc:Nat->Ob->List Oj×Ob}{dp:Bool}(h:dp=true->RcOk s rc){c:Ob}(hc:c.ok):
  (kr G rc dp c).1.length<=3+3*s/\(dp=false->(kr G rc dp c).1.length<=1)/\(kr G rc dp c).2.b=c.b/\(kr G rc dp c).2.ok/\∀x∈(kr G rc dp c).1,BL x:=by
 obtain⟨k1,b1,o1,_⟩:=cj hc 9;unfold kr;dsimp only
 generalize(cr 9 c).1=k at *
 generalize(cr 9 c).2=c1 at *
 split
 ·obtain⟨k2,b2,o2,_⟩:=cj o1 (G.vars.length:Int);obtain⟨t3,b3,o3,_⟩:=eR hG o2 6 o_;refine⟨by simp;omega,fun _=>s_,(b3.trans b2).trans b1,o3,fun x hx=>?_⟩;simp only[o9]at hx;subst hx;refine AZ ?_ t3
  cases hv:G.vars[(cr (G.vars.length:Int) c1).1]? with|none=>simp|some v=>exact hG.v8 v (b9 hv)
 split
 ·obtain⟨t3,b3,o3,_⟩:=eR hG o1 5 o_;refine⟨by simp;omega,fun _=>s_,b3.trans b1,o3,fun x hx=>?_⟩;simp only[o9]at hx;subst hx;exact AZ s_ t3
 split
 ·rename_i hk;have hr:=h hk.2;obtain⟨t3,b3,o3,_⟩:=eR hG o1 4 o_;obtain⟨k4,b4,o4,_⟩:=cj o3 2;have hl:=hr.len (1+(cr 2 (exV G 4 c1).2).1) _ o4;have Ti:=hr.b (1+(cr 2 (exV G 4 c1).2).1) _ o4;have Tm:=hr.ok (1+(cr 2 (exV G 4 c1).2).1) _ o4;have RH:=hr.bl (1+(cr 2 (exV G 4 c1).2).1) _ o4;have Wc:=k4 o_;have Tt:(rc (1+(cr 2 (exV G 4 c1).2).1) (cr 2 (exV G 4 c1).2).2).1.length<=2*s:=t7 hl (l8 _ o_)
  generalize rc (1+(cr 2 (exV G 4 c1).2).1) (cr 2 (exV G 4 c1).2).2=B at *
  obtain⟨b5,o5,_⟩:=iG Tm 2;split
  ·have WG:=hr.len 1 _ o5;have YW:=hr.b 1 _ o5;have Yn:=hr.ok 1 _ o5;have Yf:=hr.bl 1 _ o5
   generalize rc 1 (kQ 2 B.2).2=E at *
   refine⟨by simp;omega,(fun e=>by rw[e]at hk;cases hk.2),((((YW.trans b5).trans Ti).trans b4).trans b3).trans b1,Yn,fun x hx=>?_⟩;simp only[d6,f0,j6,or_false]at hx;rcases hx with rfl|hx|rfl|hx|rfl
   ·exact AZ s_ t3
   ·exact RH x hx
   ·exact yU
   ·exact Yf x hx
   ·exact yU
  ·refine⟨by simp;omega,(fun e=>by rw[e]at hk;cases hk.2),(((b5.trans Ti).trans b4).trans b3).trans b1,o5,fun x hx=>?_⟩;simp only[d6,f0,j6,or_false]at hx;rcases hx with rfl|hx|rfl
   ·exact AZ s_ t3
   ·exact RH x hx
   ·exact yU
 split
 ·rename_i hk;have hr:=h hk.2;obtain⟨k4,b4,o4,_⟩:=cj o1 3;have WG:=hr.len 1 _ o4;have YW:=hr.b 1 _ o4;have Yn:=hr.ok 1 _ o4;have Yf:=hr.bl 1 _ o4
  generalize rc 1 (cr 3 c1).2=B at *
  refine⟨by simp;omega,(fun e=>by rw[e]at hk;cases hk.2),(YW.trans b4).trans b1,Yn,fun x hx=>?_⟩;simp only[d6,f0,j6,or_false]at hx;rcases hx with rfl|hx|rfl|rfl
  ·exact⟨s_,rfl,s_,s_,s_⟩
  ·exact Yf x hx
  ·exact⟨s_,rfl,s_,s_,s_⟩
  ·exact yU
 ·obtain⟨b5,o5,_⟩:=iG o1 3;split
  ·obtain⟨t3,b3,o3,_⟩:=eR hG o5 4 o_;refine⟨by simp;omega,fun _=>s_,(b3.trans b5).trans b1,o3,fun x hx=>?_⟩;simp only[o9]at hx;subst hx;exact AZ s_ t3
  ·exact⟨s_,fun _=>s_,b5.trans b1,o5,fun x hx=>by cases hx⟩
theorem Jz {G:GP}{rc:Nat->Ob->List Oj×Ob}{dp:Bool}{s:Nat}(hs:∀c:Ob,c.ok->(kr G rc dp c).1.length<=s/\(kr G rc dp c).2.b=c.b/\(kr G rc dp c).2.ok/\∀x∈(kr G rc dp c).1,BL x):RcOk s (nT G rc dp):=by
 have key:∀n c,c.ok->(nT G rc dp n c).1.length<=n*s/\(nT G rc dp n c).2.b=c.b/\(nT G rc dp n c).2.ok/\∀x∈(nT G rc dp n c).1,BL x:=by
  intro n
  induction n with
  | zero=>exact fun c hc=>⟨by simp[nT],rfl,hc,fun x hx=>by simp[nT]at hx⟩
  | succ n ih=>
   intro c hc;obtain⟨h1,h2,h3,h4⟩:=hs c hc;obtain⟨i1,i2,i3,i4⟩:=ih _ h3;rw[nT];refine⟨by simp only[b8];rw[Nat.succ_mul];omega,i2.trans h2,i3,fun x hx=>?_⟩;rcases f0.1 hx with hx|hx
   ·exact h4 x hx
   ·exact i4 x hx
 exact⟨fun n c hc=>(key n c hc).1,fun n c hc=>(key n c hc).2.1,fun n c hc=>(key n c hc).2.2.1,fun n c hc=>(key n c hc).2.2.2⟩
theorem pE {G:GP}(hG:G.ok):∀d,RcOk (sB d) (vm G d)
 | 0=>Jz fun c hc=>by
  have:=Cl hG (s:=0) (rc:=fun _ c=>([],c)) (dp:=false) (fun e=>by cases e) hc
  exact⟨this.2.1 rfl,this.2.2⟩
 | d+1=>Jz fun c hc=>by
  have:=Cl hG (dp:=true) (fun _=>pE hG d) hc;exact⟨this.1,this.2.2⟩
end Go.Proofs.P
namespace Go.Proofs.P
open Go.Sim Tryz
def dr (x:Oj):List DC:=match x.J5 with
 | []=>[.t (.int .i64 x.I6),.t (.str x.J0),.t (.lst 0 []),.t (.lst 0 [])]
 | t::l=>[.d (.int .i64 x.I6),.d (.str x.J0),.d (.lst 0 []),.d (.lst 3 ((t::l).map Ou.tr))]
theorem ue (k:Int)(n:List UInt8)(a:List (List UInt8)):dr ⟨k,n,a,[]⟩=[.t (.int .i64 k),.t (.str n),.t (.lst 0 []),.t (.lst 0 [])]:=rfl
theorem Mg (k:Int)(n:List UInt8)(a:List (List UInt8))(t:Ou)(l:List Ou):dr ⟨k,n,a,t::l⟩=[.d (.int .i64 k),.d (.str n),.d (.lst 0 []),.d (.lst 3 ((t::l).map Ou.tr))]:=rfl
theorem ob {e:List Ou}(h:0<e.length)(k:Int)(n:List UInt8)(a:List (List UInt8)):dr ⟨k,n,a,e⟩=[.d (.int .i64 k),.d (.str n),.d (.lst 0 []),.d (.lst 3 (e.map Ou.tr))]:=by
 cases e with
 | nil=>cases h
 | cons t l=>rfl
abbrev KH (G:GP)(n:Nat)(d:Int)(c:Ob)(R:List Oj×Ob):Prop:=bd prog 226 [lb,tI .i64 (n:Int),tI .i64 d] (gH G c) (.r (.c (.own (1,0,0)))) (gH G R.2++[((1,0,0),.dar 4 (R.1.map dr) none)])
theorem My {G:GP}(hG:G.ok){rc:Nat->Ob->List Oj×Ob}{dp:Bool}{s d:Nat}(hd:d<=5)(X1:dp=decide (0<d))(hs:3+3*s<=1000)(hR:dp=true->RcOk s rc)(VJ:dp=true->∀n c,n<=2->c.ok->KH G n ((d:Int)-1) c (rc n c))(n:Nat)(c:Ob)(hn:n<=4)(hc:c.ok):
  KH G n d c (nT G rc dp n c):=by
 refine au hΓ ay func226 rfl d_ rfl rfl ?_;obtain⟨R,c',Vd⟩:∃R c',nT G rc dp n c=(R,c'):=⟨_,_,rfl⟩;rw[Vd];have TR:(G.vars.map ah).length=G.vars.length:=s_;repeat' ((conv=>whnf);first|apply Wx|apply W6|apply oi|apply fi|intro h|exact Y8|refine e_ rfl ?_)
 conv=>whnf
 refine⟨{q:Nat×Ob×List Oj//q.1<=n/\q.2.1.ok/\q.2.2.length+q.1*1000<=4000/\q.2.2++(nT G rc dp q.1 q.2.1).1=R/\(nT G rc dp q.1 q.2.1).2=c'},fun q=>⟨[(0,lb),(1,tI .i64 (q.1.1:Int)),(2,tI .i64 (d:Int)),(7,.r (.c (.own (10,0,0))))],[((0,0,0),some (.box [.ptr (0,0,1) 0,.own (0,0,2),.t (.lst 1 (G.names.map ah)),.t (.lst 1 (G.ars.map ae))])),((0,0,1),some (.box [.t (.lst 1 (q.1.2.1.b.map aZ)),.t (.int .i64 q.1.2.1.i),.t (.int .i64 q.1.2.1.h)])),((0,0,2),some (.arr false 1 (G.vars.map ah))),((10,0,0),some (.dar 4 (q.1.2.2.map dr) none))],[10,0]⟩,fun q=>q.1.1,⟨(n,c,[]),g_,hc,by simp;omega,by rw[Vd];rfl,by rw[Vd]⟩,?_,?_⟩
 ·repeat' ((conv=>whnf);first|apply Wx|apply W6|apply oi|apply fi|intro h|exact Y8|refine e_ rfl ?_)
  all_goals try exact⟨rfl⟩
 intro⟨⟨rem,ci,acc⟩,hi,RS,OC,Ps,Pf⟩;dsimp only at hi RS OC Ps Pf⊢
 cases rem with
 | zero=>
  simp only[nT,i9]at Ps Pf;subst Ps;subst Pf
  exact Z6
 | succ m=>
  rw[nT]at Ps Pf;dsimp only at Ps Pf;obtain⟨s1,_,s3,s4,_⟩:=Cl hG hR RS
  generalize hS:kr G rc dp ci=S at *
  obtain⟨k1,b1,o1,g1⟩:=cj RS 9;unfold kr at hS;dsimp only at hS
  generalize cr 9 ci=q at *
  rw[<-j9]at Ps;have N1:(acc++S.1).length+m*1000<=4000:=by rw[b8];omega
  by_cases Zr:q.1<4
  ·rw[d5 Zr]at hS;obtain⟨k2,b2,o2,g2⟩:=cj o1 (G.vars.length:Int);obtain⟨t3,b3,o3,g3⟩:=eR hG o2 6 o_
   generalize cr (G.vars.length:Int) q.2=v at *
   generalize exV G 6 v.2=e at *
   subst hS;have kv:=hG.v1;have hvv:v.1<(G.vars.map ah).length:=(by have:=k2 o_;omega);obtain⟨nm,Pm⟩:=ab (l:=G.vars) (k:=v.1) o_;have hvg:(G.vars.map ah)[v.1]?=some (ah nm):=aa Pm;rw[TR.symm]at g2;repeat' ((conv=>whnf);first|apply Wx|apply W6|apply oi|apply fi|intro h|exact Y8|refine e_ rfl ?_)
   refine cg (g1) ?_;repeat' ((conv=>whnf);first|apply Wx|apply W6|apply oi|apply fi|intro h|exact Y6|refine e_ rfl ?_)
   refine cg (g2) ?_;repeat' ((conv=>whnf);first|apply Wx|apply W6|apply oi|apply fi|intro h|refine⟨_,rfl,hvv,?_⟩|refine⟨_,hvg,?_⟩|exact Y8|refine e_ rfl ?_)
   refine cg (g3) ?_;repeat' ((conv=>whnf);first|apply Wx|apply W6|apply oi|apply fi|intro h|exact Y8|refine e_ rfl ?_)
   all_goals try exact Q16
   all_goals try exact Q2
   all_goals try exact Q18
   conv=>whnf
   refine⟨⟨(m,_,_),g_,s4,N1,Ps,Pf⟩,?_,KD⟩;repeat' ((conv=>whnf);first|apply Wx|apply W6|apply oi|apply fi|intro h|exact Y16|refine e_ rfl ?_)
   all_goals exact⟨by simp[ob t3.1,Pm]⟩
  rw[c8 Zr]at hS;by_cases UC:q.1<6
  ·rw[d5 UC]at hS;obtain⟨t3,b3,o3,g3⟩:=eR hG o1 5 o_
   generalize exV G 5 q.2=e at *
   subst hS;repeat' ((conv=>whnf);first|apply Wx|apply W6|apply oi|apply fi|intro h|exact Y8|refine e_ rfl ?_)
   refine cg (g1) ?_;repeat' ((conv=>whnf);first|apply Wx|apply W6|apply oi|apply fi|intro h|exact Y6|refine e_ rfl ?_)
   refine cg (g3) ?_;repeat' ((conv=>whnf);first|apply Wx|apply W6|apply oi|apply fi|intro h|exact Y8|refine e_ rfl ?_)
   all_goals try exact Q16
   all_goals try exact Q2
   all_goals try exact Q18
   conv=>whnf
   refine⟨⟨(m,_,_),g_,s4,N1,Ps,Pf⟩,?_,KD⟩;repeat' ((conv=>whnf);first|apply Wx|apply W6|apply oi|apply fi|intro h|exact Y16|refine e_ rfl ?_)
   all_goals exact⟨by simp[ob t3.1]⟩
  rw[c8 UC]at hS;by_cases Rl:q.1=6/\dp=true
  ·rw[d5 Rl]at hS;obtain⟨Rl,Se⟩:=Rl;have RK:0<d:=(by rw[X1]at Se;exact m6 Se);have Xa:=hR Se;obtain⟨t3,b3,o3,g3⟩:=eR hG o1 4 o_
   generalize exV G 4 q.2=e at *
   obtain⟨k4,b4,o4,g4⟩:=cj o3 2
   generalize cr 2 e.2=t at *
   have g5:=VJ Se (1+t.1) t.2 (by have:=k4 o_;omega) o4;have l5:=Xa.len (1+t.1) t.2 o4;have ob5:=Xa.ok (1+t.1) t.2 o4;have l5':(rc (1+t.1) t.2).1.length<=2*s:=t7 l5 (l8 _ (by have:=k4 o_;omega))
   generalize rc (1+t.1) t.2=B at *
   obtain⟨b6,o6,g6⟩:=iG ob5 2
   generalize kQ 2 B.2=o at *
   cases ho:o.1 with
   | true=>
    rw[d5 ho]at hS;rw[ho]at g6;have g7:=VJ Se 1 o.2 o_ o6;have l7:=Xa.len 1 o.2 o6
    generalize rc 1 o.2=E at *
    subst hS;repeat' ((conv=>whnf);first|apply Wx|apply W6|apply oi|apply fi|intro h|exact Y8|refine e_ rfl ?_)
    refine cg (g1) ?_;repeat' ((conv=>whnf);first|apply Wx|apply W6|apply oi|apply fi|intro h|exact Y15|refine e_ rfl ?_)
    refine cg (g3) ?_;repeat' ((conv=>whnf);first|apply Wx|apply W6|apply oi|apply fi|intro h|exact Y8|refine e_ rfl ?_)
    all_goals try exact Q16
    all_goals try exact Q2
    all_goals try exact Q18
    refine cg (g4) ?_;repeat' ((conv=>whnf);first|apply Wx|apply W6|apply oi|apply fi|intro h|exact Y8|refine e_ rfl ?_)
    all_goals try exact Q16
    all_goals try exact Q2
    all_goals try exact Q18
    refine cg (g5) ?_;repeat' ((conv=>whnf);first|apply Wx|apply W6|apply oi|apply fi|intro h|exact Y8|refine e_ rfl ?_)
    all_goals try exact Q16
    all_goals try exact Q2
    all_goals try exact Q18
    refine cg (g6) ?_;repeat' ((conv=>whnf);first|apply Wx|apply W6|apply oi|apply fi|intro h|exact Y8|refine e_ rfl ?_)
    all_goals try exact Q16
    all_goals try exact Q2
    all_goals try exact Q18
    refine cg (g7) ?_;repeat' ((conv=>whnf);first|apply Wx|apply W6|apply oi|apply fi|intro h|exact Y8|refine e_ rfl ?_)
    all_goals try exact Q16
    all_goals try exact Q2
    all_goals try exact Q18
    conv=>whnf
    refine⟨⟨(m,_,_),g_,s4,N1,Ps,Pf⟩,?_,KD⟩;repeat' ((conv=>whnf);first|apply Wx|apply W6|apply oi|apply fi|intro h|exact Y16|refine e_ rfl ?_)
    all_goals exact⟨by simp[ob t3.1,ue]⟩
   | false=>
    rw[c8 aae]at hS;rw[ho]at g6;subst hS;repeat' ((conv=>whnf);first|apply Wx|apply W6|apply oi|apply fi|intro h|exact Y8|refine e_ rfl ?_)
    refine cg (g1) ?_;repeat' ((conv=>whnf);first|apply Wx|apply W6|apply oi|apply fi|intro h|exact Y15|refine e_ rfl ?_)
    refine cg (g3) ?_;repeat' ((conv=>whnf);first|apply Wx|apply W6|apply oi|apply fi|intro h|exact Y8|refine e_ rfl ?_)
    all_goals try exact Q16
    all_goals try exact Q2
    all_goals try exact Q18
    refine cg (g4) ?_;repeat' ((conv=>whnf);first|apply Wx|apply W6|apply oi|apply fi|intro h|exact Y8|refine e_ rfl ?_)
    all_goals try exact Q16
    all_goals try exact Q2
    all_goals try exact Q18
    refine cg (g5) ?_;repeat' ((conv=>whnf);first|apply Wx|apply W6|apply oi|apply fi|intro h|exact Y8|refine e_ rfl ?_)
    all_goals try exact Q16
    all_goals try exact Q2
    all_goals try exact Q18
    refine cg (g6) ?_;repeat' ((conv=>whnf);first|apply Wx|apply W6|apply oi|apply fi|intro h|exact Y8|refine e_ rfl ?_)
    all_goals try exact Q16
    all_goals try exact Q2
    all_goals try exact Q18
    conv=>whnf
    refine⟨⟨(m,_,_),g_,s4,N1,Ps,Pf⟩,?_,KD⟩;repeat' ((conv=>whnf);first|apply Wx|apply W6|apply oi|apply fi|intro h|exact Y16|refine e_ rfl ?_)
    all_goals exact⟨by simp[ob t3.1,ue]⟩
  rw[c8 Rl]at hS;by_cases Xk:q.1=7/\dp=true
  ·rw[d5 Xk]at hS;obtain⟨Xk,Se⟩:=Xk;have RK:0<d:=(by rw[X1]at Se;exact m6 Se);have Xa:=hR Se;obtain⟨k4,b4,o4,g4⟩:=cj o1 3
   generalize cr 3 q.2=t at *
   have Wc:=k4 o_;have UL:IntKind.i64.wrap (1+(t.1:Int))=1+(t.1:Int):=c6 _ o_;have g5:=VJ Se 1 t.2 o_ o4;have l5:=Xa.len 1 t.2 o4
   generalize rc 1 t.2=B at *
   subst hS;repeat' ((conv=>whnf);first|apply Wx|apply W6|apply oi|apply fi|intro h|exact Y8|refine e_ rfl ?_)
   refine cg (g1) ?_;repeat' ((conv=>whnf);first|apply Wx|apply W6|apply oi|apply fi|intro h|exact Y15|refine e_ rfl ?_)
   refine cg (g4) ?_;repeat' ((conv=>whnf);first|apply Wx|apply W6|apply oi|apply fi|intro h|exact Y8|refine e_ rfl ?_)
   all_goals try exact⟨aO [⟨5,0,[]⟩,⟨1,0,[105]⟩,⟨0,IntKind.i64.wrap (1+(t.1:Int)),[]⟩]⟩
   all_goals try exact Q16
   all_goals try exact Q2
   all_goals try exact Q18
   refine cg (g5) ?_;repeat' ((conv=>whnf);first|apply Wx|apply W6|apply oi|apply fi|intro h|exact Y8|refine e_ rfl ?_)
   all_goals try exact⟨aO [⟨2,0,[]⟩,⟨1,0,[105]⟩,⟨0,1,[]⟩]⟩
   all_goals try exact Q16
   all_goals try exact Q2
   all_goals try exact Q18
   conv=>whnf
   refine⟨⟨(m,_,_),g_,s4,N1,Ps,Pf⟩,?_,KD⟩;repeat' ((conv=>whnf);first|apply Wx|apply W6|apply oi|apply fi|intro h|exact Y16|refine e_ rfl ?_)
   all_goals exact⟨by simp[ue,Mg,Ou.tr,UL]⟩
  rw[c8 Xk]at hS;have Q0:¬(q.1=6/\0<d)/\¬(q.1=7/\0<d):=⟨fun h=>Rl ⟨h.1,by rw[X1];exact r7 h.2⟩,fun h=>Xk ⟨h.1,by rw[X1];exact r7 h.2⟩⟩;obtain⟨b6,o6,g6⟩:=iG o1 3
  generalize kQ 3 q.2=o at *
  cases ho:o.1 with
  | true=>
   rw[d5 ho]at hS;rw[ho]at g6;obtain⟨t3,b3,o3,g3⟩:=eR hG o6 4 o_
   generalize exV G 4 o.2=e at *
   subst hS;repeat' ((conv=>whnf);first|apply Wx|apply W6|apply oi|apply fi|intro h|exact Y8|refine e_ rfl ?_)
   refine cg (g1) ?_;repeat' ((conv=>whnf);first|apply Wx|apply W6|apply oi|apply fi|intro h|exact Y15|refine e_ rfl ?_)
   all_goals(
    refine cg (g6) ?_;repeat' ((conv=>whnf);first|apply Wx|apply W6|apply oi|apply fi|intro h|exact Y8|refine e_ rfl ?_)
    refine cg (g3) ?_;repeat' ((conv=>whnf);first|apply Wx|apply W6|apply oi|apply fi|intro h|exact Y8|refine e_ rfl ?_)
    all_goals try exact Q16
    all_goals try exact Q2
    all_goals try exact Q18
    conv=>whnf
    refine⟨⟨(m,_,_),g_,s4,N1,Ps,Pf⟩,?_,KD⟩;repeat' ((conv=>whnf);first|apply Wx|apply W6|apply oi|apply fi|intro h|exact Y16|refine e_ rfl ?_)
    all_goals exact⟨by simp[ob t3.1]⟩)
  | false=>
   rw[c8 aae]at hS;rw[ho]at g6;subst hS;repeat' ((conv=>whnf);first|apply Wx|apply W6|apply oi|apply fi|intro h|exact Y8|refine e_ rfl ?_)
   refine cg (g1) ?_;repeat' ((conv=>whnf);first|apply Wx|apply W6|apply oi|apply fi|intro h|exact Y15|refine e_ rfl ?_)
   all_goals(
    refine cg (g6) ?_;repeat' ((conv=>whnf);first|apply Wx|apply W6|apply oi|apply fi|intro h|exact Y8|refine e_ rfl ?_)
    conv=>whnf
    refine⟨⟨(m,_,_),g_,s4,N1,Ps,Pf⟩,?_,KD⟩;repeat' ((conv=>whnf);first|apply Wx|apply W6|apply oi|apply fi|intro h|exact Y16|refine e_ rfl ?_)
    all_goals exact⟨s_⟩)
theorem Co {G:GP}(hG:G.ok):∀(d n:Nat) (c:Ob),d<=2->n<=4->c.ok->KH G n d c (vm G d n c)
 | 0,n,c,_,hn,hc=>My hG (s:=0) o_ rfl o_ (fun h=>by cases h) (fun h=>by cases h) n c hn hc
 | d+1,n,c,hd,hn,hc=>My hG (s:=sB d) o_ s_ (by
   have:d=0\/d=1:=o_
   rcases this with rfl|rfl<;>simp[sB]) (fun _=>pE hG d) (fun _ m c' hm N6=>by
   have e:(((d+1:Nat):Int)-1)=(d:Int):=o_;rw[e]
   exact Co hG d m c' o_ o_ N6) n c hn hc
def nm0:List (List UInt8):=[[109,97,105,110],[102],[103,103],[104]]
def ar0:List Int:=[0,1,2,1]
def arg0:List (List UInt8):=[[120],[121]]
def arN (k:Nat):Nat:=(ar0[k]?.getD 0).toNat
def nmN (k:Nat):List UInt8:=nm0[k]?.getD []
def gpV (n k:Nat)(b:Bool):GP:=⟨arg0.take (arN k)++[[105],[122]],(nm0.take n).drop (if b=true then k else k+1),(ar0.take n).drop (if b=true then k else k+1)⟩
theorem Cj {n k:Nat}(b:Bool):(gpV n k b).ok:=by
 refine⟨by simp[gpV],by simp[gpV,arg0];omega,by simp[gpV,nm0];omega,by simp[gpV,nm0,ar0],fun a ha=>?_,fun s hs=>?_,fun s hs=>?_⟩
 ·have:=u6 (A5 ha);simp[ar0]at this;omega
 ·simp only[gpV,f0]at hs;rcases hs with hs|hs
  ·have:=u6 hs;simp[arg0]at this;rcases this with rfl|rfl<;>simp
  ·simp at hs;rcases hs with rfl|rfl<;>simp
 ·have:=u6 (A5 hs);simp[nm0]at this;rcases this with rfl|rfl|rfl|rfl<;>simp
noncomputable def zx (n k:Nat) (c:Ob):List Oj×Ob:=
 let o:=if 0<k then kQ 5 c else(false,c)
 let G:=gpV n k o.1
 let t:=cr 4 o.2
 let u:=cr 2 t.2
 let B:=vm G (1+u.1) (1+t.1) u.2
 let e:=exV G 3 B.2
 (⟨0,nmN k,arg0.take (arN k),[]⟩::(B.1++[⟨6,[],[],e.1⟩,⟨7,[],[],[]⟩]),e.2)
noncomputable def kN (n:Nat):Nat->Nat->Ob->List Oj×Ob
 | 0,_,c=>([],c)
 | r+1,k,c=>((zx n k c).1++(kN n r (k+1) (zx n k c).2).1,(kN n r (k+1) (zx n k c).2).2)
noncomputable def mx (c:Ob):List Oj×Ob:=kN (1+(cr 4 c).1) (1+(cr 4 c).1) 0 (cr 4 c).2
def drP (x:Oj):List DC:=if x.I6=0 then [.d (.int .i64 0),.d (.str x.J0),.d (.lst 1 (x.K0.map ah)),.d (.lst 0 [])]else dr x
structure PL (x:Oj):Prop where
 name:x.J0.length<=8
 args:x.K0.length<=2/\∀s∈x.K0,s.length<=8
 len:x.J5.length<=125
 tok:∀t∈x.J5,t.J0.length<=8
 fe:x.I6=0->x.J5=[]
 fa:x.I6≠0->x.K0=[]
theorem Jv {n k:Nat}{c:Ob}(hc:c.ok):(zx n k c).1.length<=200/\(zx n k c).2.b=c.b/\(zx n k c).2.ok/\∀x∈(zx n k c).1,PL x:=by
 unfold zx;dsimp only
 have ho:(if 0<k then kQ 5 c else(false,c)).2.b=c.b/\(if 0<k then kQ 5 c else(false,c)).2.ok:=by
  split
  ·have:=iG hc 5;exact⟨this.1,this.2.1⟩
  ·exact⟨rfl,hc⟩
 generalize(if 0<k then kQ 5 c else(false,c))=o at *
 have hG:=Cj (n:=n) (k:=k) o.1
 generalize gpV n k o.1=G at *
 obtain⟨k4,b4,o4,_⟩:=cj ho.2 4;obtain⟨k2,b2,o2,_⟩:=cj o4 2;have Wc:=k4 o_;have k2':=k2 o_;have hB:=pE hG (1+(cr 2 (cr 4 o.2).2).1);have hl:=hB.len (1+(cr 4 o.2).1) _ o2;have hb:=hB.b (1+(cr 4 o.2).1) _ o2;have hk:=hB.ok (1+(cr 4 o.2).1) _ o2;have hx:=hB.bl (1+(cr 4 o.2).1) _ o2
 have hs:sB (1+(cr 2 (cr 4 o.2).2).1)<=21:=by have:(cr 2 (cr 4 o.2).2).1=0\/(cr 2 (cr 4 o.2).2).1=1:=o_;rcases this with e|e<;>rw[e]<;>simp[sB]
 have Tt:=A1 (show 1+(cr 4 o.2).1<=4 by omega) hs
 generalize vm G (1+(cr 2 (cr 4 o.2).2).1) (1+(cr 4 o.2).1) (cr 2 (cr 4 o.2).2).2=B at *
 obtain⟨t3,b3,o3,_⟩:=eR hG hk 3 o_;refine⟨by simp;omega,((b3.trans hb).trans b2).trans (b4.trans ho.1),o3,fun x h=>?_⟩;have RH:∀{x:Oj},BL x->PL x:=fun h=>⟨h.name,by rw[h.args];simp,h.len,h.tok,fun e=>by have:=h.kind;omega,fun _=>h.args⟩;simp only[d6,f0,j6,or_false]at h;rcases h with rfl|h|rfl|rfl
 ·refine⟨?_,⟨?_,fun s hs=>?_⟩,s_,s_,fun _=>rfl,fun e=>absurd rfl e⟩
  ·show(nmN k).length<=8;unfold nmN
   cases hn:nm0[k]? with
   | none=>simp
   | some v=>have:=b9 hn;simp[nm0]at this;rcases this with rfl|rfl|rfl|rfl<;>simp
  ·simp[arg0];omega
  ·have:=u6 hs;simp[arg0]at this;rcases this with rfl|rfl<;>simp
 ·exact RH (hx x h)
 ·exact RH (AZ s_ t3)
 ·exact RH yU
theorem Ck (n:Nat):∀(r k:Nat) (c:Ob),c.ok->(kN n r k c).1.length<=r*200/\(kN n r k c).2.b=c.b/\(kN n r k c).2.ok/\∀x∈(kN n r k c).1,PL x
 | 0,_,c,hc=>⟨by simp[kN],rfl,hc,fun x hx=>by simp[kN]at hx⟩
 | r+1,k,c,hc=>by
  obtain⟨h1,h2,h3,h4⟩:=Jv (n:=n) (k:=k) hc;obtain⟨i1,i2,i3,i4⟩:=Ck n r (k+1) _ h3;rw[kN];refine⟨by simp only[b8];omega,i2.trans h2,i3,fun x hx=>?_⟩;rcases f0.1 hx with hx|hx
  ·exact h4 x hx
  ·exact i4 x hx
theorem Ho {c:Ob}(hc:c.ok):(mx c).1.length<=800/\(mx c).2.b=c.b/\(mx c).2.ok/\∀x∈(mx c).1,PL x:=by obtain⟨k1,b1,o1,_⟩:=cj hc 4;have XF:=k1 o_;obtain⟨h1,h2,h3,h4⟩:=Ck (1+(cr 4 c).1) (1+(cr 4 c).1) 0 _ o1;have:=l8 200 (show 1+(cr 4 c).1<=4 by omega);exact⟨by unfold mx;omega,h2.trans b1,h3,h4⟩
theorem Fj {l:List Oj}(h:∀x∈l,BL x):l.map dr=l.map drP:=by refine List.map_congr_left fun x hx=>?_;have:=(h x hx).kind;rw[drP,c8 o_]
theorem Mn {x:Oj}(h:PL x):((drP x).map DC.tr).length=x.tr.length/\∀(p:Nat) (c d:Tr),((drP x).map DC.tr)[p]?=some c->x.tr[p]?=some d->emE c d:=by
 obtain⟨k,n,a,e⟩:=x
 have key:∃u v,(drP ⟨k,n,a,e⟩).map DC.tr=[.int .i64 k,.str n,u,v]/\emE u (.lst 1 (a.map ah))/\emE v (.lst 3 (e.map Ou.tr)):=by
  by_cases h0:k=0
  ·subst h0;have he:=h.fe rfl;dsimp only at he;subst he;exact⟨_,_,rfl,.inl rfl,.inr ⟨_,_,rfl,rfl⟩⟩
  ·have ha:=h.fa h0;dsimp only at ha;subst ha;rw[drP,c8 h0]
   cases e with|nil=>exact⟨_,_,rfl,.inr ⟨_,_,rfl,rfl⟩,.inr ⟨_,_,rfl,rfl⟩⟩|cons t l=>exact⟨_,_,rfl,.inr ⟨_,_,rfl,rfl⟩,.inl rfl⟩
 obtain⟨u,v,e1,e2,e3⟩:=key;rw[e1];refine⟨rfl,fun p c d hc hd=>?_⟩
 match p with|0=>simp[Oj.tr]at hc hd;subst hc;subst hd;exact .inl rfl|1=>simp[Oj.tr]at hc hd;subst hc;subst hd;exact .inl rfl|2=>simp[Oj.tr]at hc hd;subst hc;subst hd;exact e2|3=>simp[Oj.tr]at hc hd;subst hc;subst hd;exact e3|p+4=>simp at hc
theorem GZ:∀{l:List Oj},(∀x∈l,PL x)->emR ((l.map drP).map fun x=>x.map DC.tr) (l.map Oj.tr)
 | [],_=>trivial
 | x::l,h=>⟨Mn (h x s_),GZ fun y hy=>h y aao⟩
theorem V150{p:Prop}(h:p:=by
 have:u.1=0\/u.1=1:=o_
 rcases this with e|e<;>rw[e]<;>simp[sB]):p:=h
theorem Q23{p:Prop}(h:p:=by exact⟨by simp[drP,ob t3.1,ue,hx,v9,arg0,ah]⟩):p:=h
theorem rV (c:Ob)(hc:c.ok):bd prog 170 [lb] (kO c) (.r (.c (.t (.lst 4 ((mx c).1.map Oj.tr))))) (kO (mx c).2):=by
 obtain⟨k1,b1,o1,g1⟩:=cj hc 4;have XF:=k1 o_;refine au hΓ ay func170 rfl d_ rfl rfl ?_;unfold mx
 generalize(cr 4 c).2=c1 at *
 obtain⟨n,hn⟩:∃n,1+(cr 4 c).1=n:=⟨_,rfl⟩;have hw:IntKind.i64.wrap (1+((cr 4 c).1:Int))=(n:Int):=by rw[c6 _ o_];omega
 rw[hn];obtain⟨R,c',Vd⟩:∃R c',kN n n 0 c1=(R,c'):=⟨_,_,rfl⟩;have YV:=(Ck n n 0 _ o1).2.2.2;rw[Vd]at YV⊢;repeat' ((conv=>whnf);first|(with_reducible apply W1;fail_if_success (with_reducible show Wo _ _ _ _ (Code.seq (Code.region 5 _ _) _) _ _))|(with_reducible first|apply W2|apply W3|apply W4|apply W5|apply W6|apply W7|apply W8|apply W9)|apply aB|apply oi|apply fi|intro h|exact Y8|refine e_ rfl ?_)
 refine cg (g1) ?_;repeat' ((conv=>whnf);first|(with_reducible apply W1;fail_if_success (with_reducible show Wo _ _ _ _ (Code.seq (Code.region 5 _ _) _) _ _))|(with_reducible first|apply W2|apply W3|apply W4|apply W5|apply W6|apply W7|apply W8|apply W9)|apply aB|apply oi|apply fi|intro h|exact Y8|refine e_ rfl ?_)
 conv=>whnf
 refine pR ⟨[(0,lb),(3,vN nm0),(4,.r (.c (.t (.lst 1 (ar0.map ae))))),(5,tI .i64 (IntKind.i64.wrap (1+((cr 4 c).1:Int)))),(6,.r (.c (.own (15,0,0))))],[((0,0,0),some (.box [.t (.lst 1 (c1.b.map aZ)),.t (.int .i64 c1.i),.t (.int .i64 c1.h)])),((15,0,0),some (.arr true 4 []))],[15,13,11,10,0]⟩ ?_ ?_ rfl ?_
 ·refine⟨.inl rfl,.inr ⟨_,_,rfl,rfl,rfl,?_⟩,.inr ⟨_,_,rfl,rfl,rfl,?_⟩,.inl rfl,.inl rfl,trivial⟩;all_goals(intro q hq;simp only[AC.ids,d6,j6,or_false]at hq;subst hq;rfl)
 ·exact⟨.inr rfl,.inr rfl,trivial⟩
 rw[hw];repeat' ((conv=>whnf);first|apply Wx|apply W6|apply oi|apply fi|intro h|exact Y8|refine e_ rfl ?_)
 conv=>whnf
 refine⟨{q:Nat×Ob×List Oj//q.1<=n/\q.2.1.ok/\q.2.2.length+(n-q.1)*200<=800/\q.2.2++(kN n (n-q.1) q.1 q.2.1).1=R/\(kN n (n-q.1) q.1 q.2.1).2=c'},fun q=>⟨[(0,lb),(3,vN nm0),(4,.r (.c (.t (.lst 1 (ar0.map ae))))),(5,tI .i64 (n:Int)),(6,.r (.c (.own (15,0,0)))),(7,tI .i64 (q.1.1:Int))],[((0,0,0),some (.box [.t (.lst 1 (q.1.2.1.b.map aZ)),.t (.int .i64 q.1.2.1.i),.t (.int .i64 q.1.2.1.h)])),((15,0,0),some (.dar 4 (q.1.2.2.map drP) none))],[15,0]⟩,fun q=>n-q.1.1,⟨(0,c1,[]),g_,o1,by simp;omega,by dsimp only;rw[v3,Vd];rfl,by dsimp only;rw[v3,Vd]⟩,?_,?_⟩
 ·repeat' ((conv=>whnf);first|apply Wx|apply W6|apply oi|apply fi|intro h|exact Y8|refine e_ rfl ?_)
  all_goals try exact⟨rfl⟩
 intro⟨⟨k,ci,acc⟩,hi,RS,OC,Ps,Pf⟩;dsimp only at hi RS OC Ps Pf⊢;by_cases N2:k<n
 ·obtain⟨m,hm⟩:∃m,n-k=m+1:=⟨n-k-1,o_⟩;rw[hm]at Ps Pf OC;rw[kN]at Ps Pf;dsimp only at Ps Pf;obtain⟨s1,_,s3,s4⟩:=Jv (n:=n) (k:=k) RS
  generalize hF:zx n k ci=F at *
  rw[<-j9]at Ps;have N1:(acc++F.1).length+(n-(k+1))*200<=800:=by rw[b8];omega
  rw[show m=n-(k+1) by omega]at Ps Pf;unfold zx at hF;dsimp only at hF;have Zr:k<4:=o_
  have Pm:nm0[k]?=some (nmN k):=by have:k=0\/k=1\/k=2\/k=3:=o_;rcases this with rfl|rfl|rfl|rfl<;>rfl
  have Vn:ar0[k]?=some (arN k:Int):=by have:k=0\/k=1\/k=2\/k=3:=o_;rcases this with rfl|rfl|rfl|rfl<;>rfl
  have QN:arN k<=2:=by have:k=0\/k=1\/k=2\/k=3:=o_;rcases this with rfl|rfl|rfl|rfl<;>decide
  have PJ:IntKind.i64.wrap ((k:Int)+1)=((k+1:Nat):Int):=by rw[c6 _ o_];omega
  have Pn:(nm0.map ah).length=4:=rfl;have TH:(ar0.map ae).length=4:=rfl;have OA:flat ([]++List.take (arN k) (arg0.map ah)):=by rw[p8,<-v9];exact fD _
  rcases z4 k with O6|O6
  ·rw[c8 o_]at hF
   (try dsimp only at hF)
   have hG:=Cj (n:=n) (k:=k) false;obtain⟨k4,b4,o4,g4⟩:=cj RS 4
   generalize cr 4 ci=t at *
   obtain⟨k5,b5,o5,g5⟩:=cj o4 2
   generalize cr 2 t.2=u at *
   have Wc:=k4 o_;have ZO:=k5 o_;have g6:=Co hG (1+u.1) (1+t.1) u.2 o_ o_ o5;have hB:=pE hG (1+u.1);have hl:=hB.len (1+t.1) _ o5;have hk:=hB.ok (1+t.1) _ o5;have hx:=Fj (hB.bl (1+t.1) _ o5)
   have hs:sB (1+u.1)<=21:=by exact V150
   have Tt:=A1 (show 1+t.1<=4 by omega) hs
   generalize vm (gpV n k false) (1+u.1) (1+t.1) u.2=B at *
   obtain⟨t3,b3,o3,g3⟩:=eR hG hk 3 o_
   generalize exV (gpV n k false) 3 B.2=e at *
   subst hF;have O7:Tr.lst 1 ((gpV n k false).names.map ah)=Tr.lst 1 (((nm0.map ah).take n).drop (k+1)):=(by simp[gpV,C6,v9]);have Sk:Tr.lst 1 ((gpV n k false).ars.map ae)=Tr.lst 1 (((ar0.map ae).take n).drop (k+1)):=(by simp[gpV,C6,v9]);have PV:[]++List.take (arN k) (arg0.map ah)++([[105],[122]]:List (List UInt8)).map ah=(gpV n k false).vars.map ah:=(by simp[gpV,v9]);have VE:Tr.int .i64 ((1+t.1:Nat):Int)=Tr.int .i64 (IntKind.i64.wrap (1+(t.1:Int))):=(by rw[c6 _ o_];simp);have SM:Tr.int .i64 ((1+u.1:Nat):Int)=Tr.int .i64 (IntKind.i64.wrap (1+(u.1:Int))):=(by rw[c6 _ o_];simp);repeat' ((conv=>whnf);first|apply Wx|apply W6|apply oi|apply fi|intro h|refine⟨k,(ae (arN k)),rfl,aa Vn,?_⟩|refine⟨0,arN k,rfl,rfl,v4 _,QN,?_⟩|refine⟨k+1,n,PJ,rfl,o_,by(rw[Pn];omega),?_⟩|refine⟨k+1,n,PJ,rfl,o_,by(rw[TH];omega),?_⟩|refine⟨k,(ah (nmN k)),rfl,aa Pm,?_⟩|exact Y6|refine e_ rfl ?_)
   all_goals try exact⟨QN⟩
   all_goals try exact Q2
   all_goals try exact⟨OA⟩
   refine cg (g4) ?_;repeat' ((conv=>whnf);first|apply Wx|apply W6|apply oi|apply fi|intro h|exact Y8|refine e_ rfl ?_)
   refine cg (g5) ?_;repeat' ((conv=>whnf);first|apply Wx|apply W6|apply oi|apply fi|intro h|exact Y8|refine e_ rfl ?_)
   refine cg (g6) ?_;repeat' ((conv=>whnf);first|apply Wx|apply W6|apply oi|apply fi|intro h|exact Y8|refine e_ rfl ?_)
   all_goals try exact⟨O7⟩
   all_goals try exact⟨Sk⟩
   all_goals try exact⟨VE⟩
   all_goals try exact⟨SM⟩
   all_goals try exact⟨PV⟩
   all_goals try exact Q2
   refine cg (g3) ?_;repeat' ((conv=>whnf);first|apply Wx|apply W6|apply oi|apply fi|intro h|exact Y8|refine e_ rfl ?_)
   all_goals try exact Q16
   all_goals try exact Q2
   conv=>whnf
   refine⟨⟨(k+1,_,_),g_,s3,N1,Ps,Pf⟩,?_,KD⟩;repeat' ((conv=>whnf);first|apply Wx|apply W6|apply oi|apply fi|intro h|exact Y9|refine e_ rfl ?_)
   all_goals try exact Q23
  ·rw[d5 O6]at hF;obtain⟨b7,o7,g7⟩:=iG RS 5
   generalize kQ 5 ci=o at *
   (try dsimp only at hF)
   cases ho:o.1 with
   | true=>
    rw[ho]at hF g7;have hG:=Cj (n:=n) (k:=k) true;obtain⟨k4,b4,o4,g4⟩:=cj o7 4
    generalize cr 4 o.2=t at *
    obtain⟨k5,b5,o5,g5⟩:=cj o4 2
    generalize cr 2 t.2=u at *
    have Wc:=k4 o_;have ZO:=k5 o_;have g6:=Co hG (1+u.1) (1+t.1) u.2 o_ o_ o5;have hB:=pE hG (1+u.1);have hl:=hB.len (1+t.1) _ o5;have hk:=hB.ok (1+t.1) _ o5;have hx:=Fj (hB.bl (1+t.1) _ o5)
    have hs:sB (1+u.1)<=21:=by exact V150
    have Tt:=A1 (show 1+t.1<=4 by omega) hs
    generalize vm (gpV n k true) (1+u.1) (1+t.1) u.2=B at *
    obtain⟨t3,b3,o3,g3⟩:=eR hG hk 3 o_
    generalize exV (gpV n k true) 3 B.2=e at *
    subst hF;have O7:Tr.lst 1 ((gpV n k true).names.map ah)=Tr.lst 1 (((nm0.map ah).take n).drop (k)):=(by simp[gpV,C6,v9]);have Sk:Tr.lst 1 ((gpV n k true).ars.map ae)=Tr.lst 1 (((ar0.map ae).take n).drop (k)):=(by simp[gpV,C6,v9]);have PV:[]++List.take (arN k) (arg0.map ah)++([[105],[122]]:List (List UInt8)).map ah=(gpV n k true).vars.map ah:=(by simp[gpV,v9]);have VE:Tr.int .i64 ((1+t.1:Nat):Int)=Tr.int .i64 (IntKind.i64.wrap (1+(t.1:Int))):=(by rw[c6 _ o_];simp);have SM:Tr.int .i64 ((1+u.1:Nat):Int)=Tr.int .i64 (IntKind.i64.wrap (1+(u.1:Int))):=(by rw[c6 _ o_];simp);repeat' ((conv=>whnf);first|apply Wx|apply W6|apply oi|apply fi|intro h|refine⟨k,(ae (arN k)),rfl,aa Vn,?_⟩|refine⟨0,arN k,rfl,rfl,v4 _,QN,?_⟩|refine⟨k+1,n,PJ,rfl,o_,by(rw[Pn];omega),?_⟩|refine⟨k+1,n,PJ,rfl,o_,by(rw[TH];omega),?_⟩|refine⟨k,(ah (nmN k)),rfl,aa Pm,?_⟩|exact Y6|refine e_ rfl ?_)
    all_goals try exact⟨QN⟩
    all_goals try exact Q2
    all_goals try exact⟨OA⟩
    refine cg (g7) ?_;repeat' ((conv=>whnf);first|apply Wx|apply W6|apply oi|apply fi|intro h|refine⟨k,(ah (nmN k)),rfl,aa Pm,?_⟩|refine⟨k,n,rfl,rfl,o_,by(rw[Pn];omega),?_⟩|refine⟨k,n,rfl,rfl,o_,by(rw[TH];omega),?_⟩|exact Y6|refine e_ rfl ?_)
    all_goals try exact⟨QN⟩
    all_goals try exact Q2
    all_goals try exact⟨OA⟩
    refine cg (g4) ?_;repeat' ((conv=>whnf);first|apply Wx|apply W6|apply oi|apply fi|intro h|exact Y8|refine e_ rfl ?_)
    refine cg (g5) ?_;repeat' ((conv=>whnf);first|apply Wx|apply W6|apply oi|apply fi|intro h|exact Y8|refine e_ rfl ?_)
    refine cg (g6) ?_;repeat' ((conv=>whnf);first|apply Wx|apply W6|apply oi|apply fi|intro h|exact Y8|refine e_ rfl ?_)
    all_goals try exact⟨O7⟩
    all_goals try exact⟨Sk⟩
    all_goals try exact⟨VE⟩
    all_goals try exact⟨SM⟩
    all_goals try exact⟨PV⟩
    all_goals try exact Q2
    refine cg (g3) ?_;repeat' ((conv=>whnf);first|apply Wx|apply W6|apply oi|apply fi|intro h|exact Y8|refine e_ rfl ?_)
    all_goals try exact Q16
    all_goals try exact Q2
    conv=>whnf
    refine⟨⟨(k+1,_,_),g_,s3,N1,Ps,Pf⟩,?_,KD⟩;repeat' ((conv=>whnf);first|apply Wx|apply W6|apply oi|apply fi|intro h|exact Y9|refine e_ rfl ?_)
    all_goals try exact Q23
   | false=>
    rw[ho]at hF g7;have hG:=Cj (n:=n) (k:=k) false;obtain⟨k4,b4,o4,g4⟩:=cj o7 4
    generalize cr 4 o.2=t at *
    obtain⟨k5,b5,o5,g5⟩:=cj o4 2
    generalize cr 2 t.2=u at *
    have Wc:=k4 o_;have ZO:=k5 o_;have g6:=Co hG (1+u.1) (1+t.1) u.2 o_ o_ o5;have hB:=pE hG (1+u.1);have hl:=hB.len (1+t.1) _ o5;have hk:=hB.ok (1+t.1) _ o5;have hx:=Fj (hB.bl (1+t.1) _ o5)
    have hs:sB (1+u.1)<=21:=by exact V150
    have Tt:=A1 (show 1+t.1<=4 by omega) hs
    generalize vm (gpV n k false) (1+u.1) (1+t.1) u.2=B at *
    obtain⟨t3,b3,o3,g3⟩:=eR hG hk 3 o_
    generalize exV (gpV n k false) 3 B.2=e at *
    subst hF;have O7:Tr.lst 1 ((gpV n k false).names.map ah)=Tr.lst 1 (((nm0.map ah).take n).drop (k+1)):=(by simp[gpV,C6,v9]);have Sk:Tr.lst 1 ((gpV n k false).ars.map ae)=Tr.lst 1 (((ar0.map ae).take n).drop (k+1)):=(by simp[gpV,C6,v9]);have PV:[]++List.take (arN k) (arg0.map ah)++([[105],[122]]:List (List UInt8)).map ah=(gpV n k false).vars.map ah:=(by simp[gpV,v9]);have VE:Tr.int .i64 ((1+t.1:Nat):Int)=Tr.int .i64 (IntKind.i64.wrap (1+(t.1:Int))):=(by rw[c6 _ o_];simp);have SM:Tr.int .i64 ((1+u.1:Nat):Int)=Tr.int .i64 (IntKind.i64.wrap (1+(u.1:Int))):=(by rw[c6 _ o_];simp);repeat' ((conv=>whnf);first|apply Wx|apply W6|apply oi|apply fi|intro h|refine⟨k,(ae (arN k)),rfl,aa Vn,?_⟩|refine⟨0,arN k,rfl,rfl,v4 _,QN,?_⟩|refine⟨k+1,n,PJ,rfl,o_,by(rw[Pn];omega),?_⟩|refine⟨k+1,n,PJ,rfl,o_,by(rw[TH];omega),?_⟩|refine⟨k,(ah (nmN k)),rfl,aa Pm,?_⟩|exact Y6|refine e_ rfl ?_)
    all_goals try exact⟨QN⟩
    all_goals try exact Q2
    all_goals try exact⟨OA⟩
    refine cg (g7) ?_;repeat' ((conv=>whnf);first|apply Wx|apply W6|apply oi|apply fi|intro h|refine⟨k,(ah (nmN k)),rfl,aa Pm,?_⟩|exact Y6|refine e_ rfl ?_)
    all_goals try exact⟨QN⟩
    all_goals try exact Q2
    all_goals try exact⟨OA⟩
    refine cg (g4) ?_;repeat' ((conv=>whnf);first|apply Wx|apply W6|apply oi|apply fi|intro h|exact Y8|refine e_ rfl ?_)
    refine cg (g5) ?_;repeat' ((conv=>whnf);first|apply Wx|apply W6|apply oi|apply fi|intro h|exact Y8|refine e_ rfl ?_)
    refine cg (g6) ?_;repeat' ((conv=>whnf);first|apply Wx|apply W6|apply oi|apply fi|intro h|exact Y8|refine e_ rfl ?_)
    all_goals try exact⟨O7⟩
    all_goals try exact⟨Sk⟩
    all_goals try exact⟨VE⟩
    all_goals try exact⟨SM⟩
    all_goals try exact⟨PV⟩
    all_goals try exact Q2
    refine cg (g3) ?_;repeat' ((conv=>whnf);first|apply Wx|apply W6|apply oi|apply fi|intro h|exact Y8|refine e_ rfl ?_)
    all_goals try exact Q16
    all_goals try exact Q2
    conv=>whnf
    refine⟨⟨(k+1,_,_),g_,s3,N1,Ps,Pf⟩,?_,KD⟩;repeat' ((conv=>whnf);first|apply Wx|apply W6|apply oi|apply fi|intro h|exact Y9|refine e_ rfl ?_)
    all_goals try exact Q23
 ·have PQ:k=n:=o_;subst PQ;rw[y7]at Ps Pf;simp only[kN,i9]at Ps Pf;subst Ps;subst Pf;dsimp only at YV;refine pR ⟨[(0,lb),(5,tI .i64 (k:Int)),(6,.r (.c (.t (.lst 4 ((acc.map drP).map fun x=>x.map DC.tr))))),(7,tI .i64 (k:Int))],[((0,0,0),some (.box [.t (.lst 1 (ci.b.map aZ)),.t (.int .i64 ci.i),.t (.int .i64 ci.h)]))],[15,0]⟩ ?_ ?_ rfl ?_
  ·refine⟨.inl rfl,.inl rfl,.inr ⟨_,_,rfl,rfl,rfl,?_⟩,.inl rfl,trivial⟩;exact V143
  ·exact⟨.inr rfl,trivial⟩
  refine vj 6 rfl (GZ YV) ?_;exact Z6
theorem zc {l:List Oj}(h:∀x∈l,PL x)(hl:l.length<=800):aE 1048576 (.lst 4 (l.map Oj.tr)):=by
 refine gB o_ fun x hx=>?_;have hp:=h x hx
 have h1:aE 1048576 (.lst 1 (x.K0.map ah)):=gB (by have:=hp.args.1;omega) fun s hs=>by
  have:=hp.args.2 s hs;simp only[ah,aX,aE];exact⟨o_,trivial⟩
 have h2:aE 1048576 (.lst 3 (x.J5.map Ou.tr)):=gB (by have:=hp.len;omega) fun t ht=>by
  have:=hp.tok t ht;simp only[Ou.tr,aX,aE];exact⟨trivial,trivial,o_,trivial⟩
 have h3:=hp.name;exact⟨trivial,by simp only[aE];omega,h1,h2,trivial⟩
def fbP:List Oj:=[⟨0,[109,97,105,110],[],[]⟩,⟨2,[],[],[⟨0,1,[]⟩]⟩,⟨6,[],[],[⟨0,1,[]⟩]⟩,⟨7,[],[],[]⟩]
theorem ML:aj fbP=true:=d_
theorem Nh:∀x∈fbP,PL x:=by intro x hx;simp only[fbP,d6,j6,or_false]at hx;rcases hx with rfl|rfl|rfl|rfl;all_goals exact⟨s_,s_,s_,s_,s_,s_⟩
noncomputable def ko:Nat->Ob->List Oj×Ob
 | 0,c=>(fbP,c)
 | r+1,c=>if aj (mx c).1=true then mx c else ko r (mx c).2
theorem Ey:∀(r:Nat) (c:Ob),c.ok->aj (ko r c).1=true/\(ko r c).1.length<=800/\(ko r c).2.b=c.b/\(ko r c).2.ok/\∀x∈(ko r c).1,PL x
 | 0,c,hc=>⟨ML,by simp[ko,fbP],rfl,hc,Nh⟩
 | r+1,c,hc=>by
  obtain⟨h1,h2,h3,h4⟩:=Ho hc;rw[ko];split
  ·rename_i h;exact⟨h,h1,h2,h3,h4⟩
  ·obtain⟨i1,i2,i3,i4,i5⟩:=Ey r _ h3;exact⟨i1,i2,i3.trans h2,i4,i5⟩
theorem NO:emR [[.int .i64 0,.str [109,97,105,110],.lst 0 [],.lst 0 []],[.int .i64 2,.str [],.lst 0 [],.lst 3 [[.int .i64 0,.int .i64 1,.str []]]],[.int .i64 6,.str [],.lst 0 [],.lst 3 [[.int .i64 0,.int .i64 1,.str []]]],[.int .i64 7,.str [],.lst 0 [],.lst 0 []]] (fbP.map Oj.tr):=by
 refine⟨⟨rfl,fun p c d hc hd=>?_⟩,⟨rfl,fun p c d hc hd=>?_⟩,⟨rfl,fun p c d hc hd=>?_⟩,⟨rfl,fun p c d hc hd=>?_⟩,trivial⟩
 all_goals(
  match p with
  | 0=>simp[Oj.tr]at hc hd;subst hc;subst hd;exact .inl rfl
  | 1=>simp[Oj.tr]at hc hd;subst hc;subst hd;exact .inl rfl
  | 2=>simp[Oj.tr]at hc hd;subst hc;subst hd;exact .inr ⟨_,_,rfl,rfl⟩
  | 3=>simp[Oj.tr,Ou.tr]at hc hd;subst hc;subst hd;first|exact .inl rfl|exact .inr ⟨_,_,rfl,rfl⟩
  | p+4=>simp at hc)
theorem V119{p:Prop}(h:p:=by
 refine⟨.inr ⟨_,_,rfl,rfl,rfl,?_⟩,trivial⟩
 intro q hq;simp only[AC.ids,d6,j6,or_false]at hq;subst hq;rfl):p:=h
theorem sq (c:Ob)(hc:c.ok):bd prog 94 [lb] (kO c) (.r (.c (.t (.lst 4 ((ko 5 c).1.map Oj.tr))))) (kO (ko 5 c).2):=by
 refine au hΓ ay func94 rfl d_ rfl rfl ?_
 generalize hR:ko 5 c=R at *
 repeat' ((conv=>whnf);first|apply Wx|apply W6|apply oi|apply fi|intro h|exact Y8|refine e_ rfl ?_)
 conv=>whnf
 refine⟨{q:Nat×Ob//q.1<=5/\q.2.ok/\ko (5-q.1) q.2=R},fun q=>⟨[(0,lb),(3,tI .i64 (q.1.1:Int))],[((0,0,0),some (.box [.t (.lst 1 (q.1.2.b.map aZ)),.t (.int .i64 q.1.2.i),.t (.int .i64 q.1.2.h)]))],[0]⟩,fun q=>5-q.1.1,⟨(0,c),g_,hc,hR⟩,?_,?_⟩
 ·exact Z2
 intro⟨⟨k,ci⟩,hi,RS,hr⟩;dsimp only at hi RS hr⊢;by_cases N2:k<5
 ·obtain⟨m,hm⟩:∃m,5-k=m+1:=⟨5-k-1,o_⟩;rw[hm,ko]at hr;have gP:=rV ci RS;obtain⟨h1,h2,h3,h4⟩:=Ho RS;have hO:=eF (mx ci).1 (zc h4 h1)
  generalize mx ci=Q at *
  cases hq:aj Q.1 with
  | true=>
   rw[d5 hq]at hr;subst hr;rw[hq]at hO;repeat' ((conv=>whnf);first|apply Wx|apply W6|apply oi|apply fi|intro h|exact Y8|refine e_ rfl ?_)
   refine cg (gP) ?_
   repeat' ((conv=>whnf);first|apply Wx|apply W6|apply oi|apply fi|intro h|refine cl hO ?_|exact Y6|refine e_ rfl ?_)
  | false=>
   rw[c8 (by simp[hq])]at hr;rw[hq]at hO;repeat' ((conv=>whnf);first|apply Wx|apply W6|apply oi|apply fi|intro h|exact Y8|refine e_ rfl ?_)
   refine cg (gP) ?_;repeat' ((conv=>whnf);first|apply Wx|apply W6|apply oi|apply fi|intro h|refine cl hO ?_|exact Y6|refine e_ rfl ?_)
   conv=>whnf
   refine⟨⟨(k+1,Q.2),g_,h3,by dsimp only;rw[show 5-(k+1)=m by omega];exact hr⟩,?_,KD⟩;exact Z5
 ·have hk:k=5:=o_;subst hk;rw[show(5:Nat)-5=0 from rfl,ko]at hr;subst hr;repeat' ((conv=>whnf);first|(with_reducible apply W1;fail_if_success (with_reducible show Wo _ _ _ _ (Code.region 8 _ _) _ _))|(with_reducible first|apply W2|apply W3|apply W4|apply W5|apply W6|apply W7|apply W8|apply W9)|apply aB|apply oi|apply fi|intro h|exact Y6|refine e_ rfl ?_)
  conv=>whnf
  refine pR ⟨[(5,.r (.c (.t (.lst 3 [[.int .i64 0,.int .i64 1,.str []]]))))],[((0,0,0),some (.box [.t (.lst 1 (ci.b.map aZ)),.t (.int .i64 ci.i),.t (.int .i64 ci.h)]))],[16,0]⟩ ?_ ?_ rfl ?_
  ·exact V119
  ·exact⟨.inr rfl,trivial⟩
  repeat' ((conv=>whnf);first|(with_reducible first|apply W1|apply W2)|apply aB|refine oi ?_ ?_|exact Y8|refine e_ rfl ?_)
  conv=>whnf
  refine pR ⟨[(2,.r (.c (.t (.lst 4 [[.int .i64 0,.str [109,97,105,110],.lst 0 [],.lst 0 []],[.int .i64 2,.str [],.lst 0 [],.lst 3 [[.int .i64 0,.int .i64 1,.str []]]],[.int .i64 6,.str [],.lst 0 [],.lst 3 [[.int .i64 0,.int .i64 1,.str []]]],[.int .i64 7,.str [],.lst 0 [],.lst 0 []]]))))],[((0,0,0),some (.box [.t (.lst 1 (ci.b.map aZ)),.t (.int .i64 ci.i),.t (.int .i64 ci.h)]))],[23,16,0]⟩ ?_ ?_ rfl ?_
  ·exact V119
  ·exact⟨.inr rfl,trivial⟩
  refine vj 2 rfl NO ?_;exact Z2
abbrev NU (code:List UInt8):AV:= .r (.c (.t (.lst 1 (code.map aZ))))
theorem Hc {code:List UInt8}(hl:code.length<=1048576):(⟨code,0,Hp code⟩:Ob).ok:=⟨s_,hl⟩
theorem tQ (code:List UInt8)(hl:code.length<=1048576):∃(p:List Oj) (b:Oa) (img:Nat),aj p=true/\aS b=true/\img<=1/\aE 1048576 (.lst 4 (p.map Oj.tr))/\
  bd prog 43 [NU code] [] (.tup [.c (.t (.lst 4 (p.map Oj.tr))),.agg (b.tr.map .t),.c (.t (.int .i64 (img:Int)))]) []:=by
 have g0:=zo code hl;have g1:=sq _ (Hc hl);obtain⟨h1,h2,h3,h4,h5⟩:=Ey 5 _ (Hc hl)
 generalize ko 5 ⟨code,0,Hp code⟩=R at *
 obtain⟨b,c2,hb,_,o2,g2⟩:=wd R.2 h4;obtain⟨x,c3,hx,_,o3,g3⟩:=vK c2 o2;refine⟨R.1,b,x,h1,hb,hx,zc h5 h2,?_⟩;refine au hΓ ay func43 rfl d_ rfl rfl ?_;repeat' ((conv=>whnf);first|apply Wx|apply W6|apply oi|apply fi|intro h|exact Y8|refine e_ rfl ?_)
 refine cg (g0) ?_;repeat' ((conv=>whnf);first|apply Wx|apply W6|apply oi|apply fi|intro h|exact Y8|refine e_ rfl ?_)
 refine cg (g1) ?_;repeat' ((conv=>whnf);first|apply Wx|apply W6|apply oi|apply fi|intro h|exact Y8|refine e_ rfl ?_)
 refine cg (g2) ?_;repeat' ((conv=>whnf);first|apply Wx|apply W6|apply oi|apply fi|intro h|exact Y8|refine e_ rfl ?_)
 refine cg (g3) ?_;exact Z2
theorem IE {rows:List (List Tr)}(h:∀r∈rows,∃n,r=[.int .u8 n]/\(Lit.int .u8 n).wf=true):∃bs:List UInt8,rows=bs.map aZ:=by
 obtain⟨bs,hb,_⟩:=DM (g:=aZ) (Q:=fun _=>True) (rows:=rows) fun r hr=>by
  obtain⟨n,rfl,hw⟩:=h r hr;have h1:IntKind.u8.min<=n/\n<=IntKind.u8.max:=by simpa [Lit.wf]using hw
  have h2:0<=n/\n<=255:=h1;refine⟨UInt8.ofNat n.toNat,?_,trivial⟩;rw[aZ,show(UInt8.ofNat n.toNat).toNat=n.toNat by simp;omega,z6 h2.1]
 exact⟨bs,hb⟩
def Nf (it:Oi):Int:=it.J3.headD it.J9
def Gq (R:Int->Prop)(l:List Oi):Prop:=∀it∈l,R (Nf it)
def Oc (R:Int->Prop)(a b:Gs):Prop:=Gq R a.I4->Gq R b.I4
theorem Oc.refl {R:Int->Prop}(s:Gs):Oc R s s:=id
theorem Oc.trans {R:Int->Prop}{a b c:Gs}(h:Oc R a b)(h':Oc R b c):Oc R a c:=fun x=>h' (h x)
theorem dN {R:Int->Prop}{C:Cx}{s:Gs}{d code arg line:Int}{chain:List Int}(h:R (chain.headD line)):Oc R s (aA C s d code arg line chain):=by exact V127
theorem tZ {R:Int->Prop}{l:List Oi}(j v:Int)(h:Gq R l):Gq R (bI l j v):=by exact V82
theorem zI {R:Int->Prop}(v:Int):∀(js:List Int) {l:List Oi},Gq R l->Gq R (cB l v js)
 | [],_,h=>h
 | j::js,_,h=>zI v js (tZ j v h)
section
variable {R:Int->Prop} {C:Cx} {x:Sc} {ins:List Nat} {rep:Sc->List Nat->Nat->Nat->Int->Gs->Gs} {line:Nat}
theorem Bh {y:Sc}{chain:List Int}{line:Int}(hc:R (chain.headD line)):∀(n:Nat) (d:Int) (s:Gs),Oc R s (cf C y chain line n d s)
 | 0,d,s=>Oc.refl s
 | n+1,d,s=>by
  rw[cf];exact(dN hc).trans (Bh hc n (d-1) _)
theorem CU {y:Sc}{chain:List Int}{line d:Int}(hc:R (chain.headD line)):∀(n i:Nat) (s:Gs),Oc R s (cR C y chain line d n i s)
 | 0,i,s=>Oc.refl s
 | n+1,i,s=>by
  rw[cR];exact((dN hc).trans (dN hc)).trans (CU hc n (i+1) _)
def xQ (R:Int->Prop)(rep:Sc->List Nat->Nat->Nat->Int->Gs->Gs)(x:Sc)(ins:List Nat):Prop:=
 ∀(line g:Nat) (d:Int) (s:Gs),R (x.I5.headD (line:Int))->Oc R s (rep x ins line g d s)
theorem Nu (hx:R (x.I5.headD (line:Int)))(N3:xQ R rep x ins)(t:Ou)(d:Int)(s:Gs):Oc R s (iB C rep x ins line t d s):=by
 unfold iB;split
 ·exact dN hx
 split
 ·exact dN hx
 split
 ·split
  ·split
   ·exact N3 line _ d s hx
   ·exact dN hx
  ·exact Oc.refl s
 ·exact dN hx
mutual
theorem Hd (hx:R (x.I5.headD (line:Int)))(N3:xQ R rep x ins):∀(e:Ex) (d:Int) (s:Gs),Oc R s (dx C rep x ins line e d s)
 | .node t es,d,s=>by
  rw[dx];exact(CS hx N3 es d s).trans (Nu hx N3 t _ _)
theorem CS (hx:R (x.I5.headD (line:Int)))(N3:xQ R rep x ins):∀(es:List Ex) (d:Int) (s:Gs),Oc R s (cO C rep x ins line es d s)
 | [],d,s=>by rw[cO];exact Oc.refl s
 | a::es,d,s=>by
  rw[cO];exact(Hd hx N3 a d s).trans (CS hx N3 es (d+1) _)
end
theorem Ju (hx:R (x.I5.headD (line:Int))){d:Int}(s:Gs):Oc R s (bA C x line d s):=by
 unfold bA;split
 ·exact dN hx
 ·exact Oc.refl s
theorem MP (hx:R (x.I5.headD (line:Int))){g:Nat}{d:Int}(s:Gs):Oc R s (dB C x line g d s):=by unfold dB;exact((show Oc R s ⟨s.I4,max s.J1 (bK C x+(localsOf C.p (g:Int)).length),s.start⟩ from id).trans (Bh hx _ d _)).trans (CU hx _ _ _)
theorem Dh (k:Nat)(hx:R (x.I5.headD (k:Int)))(last:Bool){d:Int}(L:Ls):Oc R L.g (aU C x k last d L).g:=by
 unfold aU;split
 ·split
  ·exact dN hx
  ·exact dN hx
 split
 ·exact Oc.refl _
 ·exact dN hx
theorem Ka {k:Nat}(hx:R (x.I5.headD (k:Int)))(N3:xQ R rep x ins)(ln:Oj){base:Int}(L:Ls):Oc R L.g (dq C rep x ins base k ln L).g:=by
 unfold dq;split
 ·intro h;exact tZ _ _ (dN (C:=C) hx h)
 split
 ·split
  ·exact Oc.trans (b:=aA C L.g base 0 0 k x.I5) (dN hx) (Dh k hx true (d:=base+1) {L with g:=aA C L.g base 0 0 k x.I5})
  split
  ·exact dN hx
  ·exact Oc.refl _
 ·have tg:Oc R L.g (dx C rep x ins k (exL ln.J5) base ⟨L.g.I4,L.g.J1,true⟩):=Hd hx N3 (exL ln.J5) base ⟨L.g.I4,L.g.J1,true⟩;dsimp only;split
  ·exact tg.trans (dN hx)
  split
  ·exact tg.trans (dN hx)
  split
  ·exact tg.trans (Dh k hx false (d:=base+1) {L with g:=dx C rep x ins k (exL ln.J5) base ⟨L.g.I4,L.g.J1,true⟩,I9:=L.I9.set k L.g.I4.length})
  ·exact tg.trans (dN hx)
theorem Kd (k:Nat)(ln:Oj)(L:Ls):Oc R L.g (bc C x k ln L).g:=by
 unfold bc;split
 ·exact fun h=>tZ _ _ h
 ·exact Oc.refl _
theorem Hw (N3:xQ R rep x ins){base:Int}:∀(n k:Nat) (L:Ls),(∀j,k<=j->j<k+n->j<C.p.length->R (x.I5.headD (j:Int)))->Oc R L.g (gD C rep x ins base n k L).g
 | 0,k,L,_=>by rw[gD];exact Oc.refl _
 | n+1,k,L,hx=>by
  rw[gD];split
  ·rename_i ln hk;exact((Ka (hx k (d7 _) o_ (aw hk)) N3 ln L).trans (Kd k ln _)).trans (Hw N3 n (k+1) _ fun j h1 h2 h3=>hx j o_ o_ h3)
  ·exact Oc.refl _
theorem Aa (N3:xQ R rep x ins){base:Int}(s:Gs)(hx:∀j,x.f<j->j<=jK C.p x.f->j<C.p.length->R (x.I5.headD (j:Int))):Oc R s (aV C rep x ins base s).1:=by unfold aV;exact Hw N3 _ _ (cq C s) fun j h1 h2 h3=>hx j o_ o_ h3
end
theorem IL (l:List Int)(a b:Int):(l++[a]).headD b=l.headD a:=by cases l<;>rfl
theorem Hb {R:Int->Prop}{C:Cx}:∀(lev:Nat) {x:Sc} {ins:List Nat},xQ R (bf C lev) x ins
 | 0,x,ins,line,g,d,s,_=>Oc.refl s
 | lev+1,x,ins,line,g,d,s,hx=>by
  have hy:∀j:Nat,R ((bN C x line g).I5.headD (j:Int)):=fun j=>by
   show R ((x.I5++[(line:Int)]).headD (j:Int));rw[IL];exact hx
  have t1:=MP (C:=C) (x:=x) (line:=line) hx (g:=g) (d:=d) s;have t2:=Ju (C:=C) (line:=line) hx (d:=d-argsN C.p g) (dB C x line g d s);have t3:=Aa (C:=C) (x:=bN C x line g) (ins:=ins++[g]) (rep:=bf C lev) (Hb (C:=C) lev) (base:=d-argsN C.p g) (bA C x line (d-argsN C.p g) (dB C x line g d s)) fun j _ _ _=>hy j;intro h;exact zI _ _ (((t1.trans t2).trans t3) h)
theorem FK {p:List Oj}{g e:Nat}{ln:Oj}(hg:p[g]?=some ln)(h0:ln.I6=0)(hin:∀(k:Nat) (y:Oj),g<k->k<=e->p[k]?=some y->y.I6≠0):∀{n:Nat},g<=n->n<=e->n<p.length->iJ p (n+1)=ln.J0:=by
 intro n hn he hl
 induction n with
 | zero=>
  obtain rfl:g=0:=o_
  rw[iK hg,d5 h0]
 | succ n ih=>
  by_cases hgn:g=n+1
  ·subst hgn;rw[iK hg,d5 h0]
  ·obtain⟨y,hy⟩:=ab (l:=p) (k:=n+1) hl;rw[iK hy,c8 (hin (n+1) y o_ he hy)];exact ih o_ o_ o_
theorem CQ {p:List Oj}{f:Int}{b:Oa}(hs:aE 1048576 (.lst 4 (p.map Oj.tr)))(h1:aj p=true)(h2:aS b=true)(h3:0<=f)(h4:f<(az p).length):Gq (fun n=>aJ p n=cp p f.toNat) (aN p f b):=by
 obtain⟨g,C,k1,k2,k3,k4,k5,k6,k7,k8,k9⟩:=jq hs h1 h2 h3 h4;have OC:=nr p b;have N1:C.p.length=p.length:=by rw[k3];exact OC.len
 obtain⟨y,hy,PR,Pm,_⟩:=sF h1 k1;obtain⟨e,he,_,_,hin⟩:=(sC hs h1).fn g y hy PR
 have PP:jK C.p g=e:=by unfold jK;rw[k3,OC.endAt g,he];rfl
 obtain⟨ye,Vv,abN⟩:=bG he
 have Qn:∀(k:Nat) (z:Oj),g<k->k<=e->p[k]?=some z->z.I6≠0:=fun k z q1 q2 q3=>by
  by_cases hk:k=e
  ·subst hk;rw[Vv]at q3;injection q3 with q3;subst q3;omega
  ·exact(hin k z q1 o_ q3).1
 have hR:∀j:Nat,g<=j->j<=e->j<p.length->aJ p (j:Int)=cp p f.toNat:=fun j q1 q2 q3=>by
  rw[aJ,d5 ⟨o_,o_⟩,show((j:Int)+1).toNat=j+1 by omega,FK hy PR Qn q1 q2 q3,Pm]
 rw[k8];have OK:=(aL he).choose_spec.2.2.2.1;refine Aa (Hb C.b.L4.toNat) (base:=C.J2) (eK C g) (fun j q1 q2 q3=>?_) ?_
 ·exact hR j (Nat.le_of_lt q1) (by rw[<-PP];exact q2) o_
 ·refine dN (C:=C) (s:=⟨[],(localsOf C.p (g:Int)).length-C.args,false⟩) (d:=0) (chain:=[]) (line:=(g:Int)) ?_ (fun it h=>by cases h);exact hR g (d7 _) o_ (aw hy)
theorem wW {p:List Oj}{off:Int}:∀{L:List (Nat×List Om)} {a:Int} {i k:Nat} {x:Nat×List Om},L[i]?=some x->0<=a->a+((ax (aC L)).length:Int)<=1000000->a+((ax (aC (L.take i))).length:Int)<=off->off<a+((ax (aC (L.take i))).length:Int)+(ax x.2).length->
  eZ off (bZ p a L) k=((k+i:Nat):Int)/\∃st sz,(bZ p a L)[i]?=some ⟨cp p x.1,st,sz⟩
 | [],_,_,_,_,h,_,_,_,_=>by simp at h
 |(g,l)::L,a,0,k,x,h,h0,hm,h1,h2=>by
  simp only[i8,Option.some.injEq]at h;subst h;have e:(ax (aC ((g,l)::L))).length=(ax l).length+(ax (aC L)).length:=by rw[show aC ((g,l)::L)=l++aC L by simp[aC],aW,b8]
  simp only[F9,show(ax (aC [])).length=0 from rfl]at h1 h2
  rw[bZ,eZ,d5 (by
   unfold jA;dsimp only;rw[within_iff.2 ⟨h0,o_⟩,within_iff.2 ⟨o_,o_⟩,r7 (show a<=off by omega),r7 (show off<a+((ax l).length:Int) by omega)]
   rfl)]
  exact⟨rfl,_,_,rfl⟩
 |(g,l)::L,a,i+1,k,x,h,h0,hm,h1,h2=>by
  have e:(ax (aC ((g,l)::L))).length=(ax l).length+(ax (aC L)).length:=by rw[show aC ((g,l)::L)=l++aC L by simp[aC],aW,b8]
  have e2:(ax (aC (((g,l)::L).take (i+1)))).length=(ax l).length+(ax (aC (L.take i))).length:=by rw[r8,show aC ((g,l)::L.take i)=l++aC (L.take i) by simp[aC],aW,b8]
  rw[e2]at h1 h2
  rw[bZ,eZ,c8 (by
   unfold jA;dsimp only;rw[y5 (show ¬off<a+((ax l).length:Int) by omega)]
   simp)]
  obtain⟨q1,q2⟩:=wW (p:=p) (off:=off) (L:=L) (a:=a+((ax l).length:Int)) (i:=i) (k:=k+1) (x:=x) aac o_ o_ o_ o_;exact⟨by rw[q1];congr 1;omega,q2⟩
theorem HU {p:List Oj}{b:Oa}{image:Int}(hs:aE 1048576 (.lst 4 (p.map Oj.tr)))(h1:aj p=true)(h2:aS b=true)(h3:af image 0 1=true){k:Nat}{x:Om}(hx:(aH p b image)[k]?=some x):
  ∃(i:Nat) (y:Ot),fu (be p b image).L7 x.J7=(i:Int)/\(be p b image).L7[i]?=some y/\y.J0=aJ p (Nf x.I8):=by
 have ha:=(lm hs h1 h2 h3).2;rw[aH,d5 ⟨h1,h2,h3⟩]at hx;rw[be,d5 ⟨h1,h2,h3⟩]at ha⊢;dsimp only at ha⊢
 replace hx:(aC (bT p b image (az p).length 0 0))[k]?=some x:=hx
 obtain⟨i,z,j,g1,g2,rfl⟩:=jo hx;obtain⟨hp,ho⟩:=kK hs h1 h2 g1 g2;obtain⟨e1,e2,_⟩:=lF hs h1 h2 o_ g1
 have OI:(ax z.2).length=(ax (z.2.take j)).length+((ax [x]).length+(ax (z.2.drop (j+1))).length):=by
  have e:z.2=z.2.take j++([x]++z.2.drop (j+1)):=by rw[D6,<-aP g2,z9]
  conv=>lhs;rw[e]
  rw[aW,aW,b8,b8]
 have UZ:1<=(ax [x]).length:=by rw[eM];have:=fH hp.op;have:=xK hp.op;omega
 obtain⟨q1,st,sz,q2⟩:=wW (p:=p) (off:=x.J7) (a:=0) (k:=0) g1 o_ o_ o_ o_;refine⟨i,_,?_,q2,?_⟩
 ·rw[fu,q1,q8]
 ·dsimp only;rw[e1]at g2;have hj:j<(aN p (z.1:Int) b).length:=by have:=aw g2;rwa [cP]at this
  obtain⟨it,OU⟩:=ab hj;rw[dD OU]at g2;injection g2 with g2;subst g2;have:=CQ (f:=(z.1:Int)) hs h1 h2 o_ o_ it (b9 OU);dsimp only at this⊢;rw[e8]at this;rw[<-this];unfold eJ Nf;split<;>rfl
end Go.Proofs.P
namespace Go.Proofs.P
open Go.Sim Tryz
theorem iw (ns:List Int):(bt ns).length<=6*(ns.length+1):=by
 unfold bt;split
 ·rename_i bs h;have:=An h;have:=cD ns.length;rw[b8];omega
 ·simp
def fd (x:Oh):List UInt8:=bt [x.J8,x.L5,x.L8,x.J9]++(enc x.J0.length++x.J0)
def aG (l:List Oh):List UInt8:=if dV l=true then enc l.length++l.flatMap fd else []
theorem yW {x:Oh}(h:x.J0.length<=1048576):(fd x).length<=1048620:=by
 unfold fd;have h1:=iw [x.J8,x.L5,x.L8,x.J9];have h2:=cD x.J0.length
 simp only[b8,c7,e7]at *
 omega
theorem Jf {l:List Oh}{k:Nat}{x:Oh}{acc:List UInt8}(hx:l[k]?=some x):acc++(l.drop k).flatMap fd=(acc++fd x)++(l.drop (k+1)).flatMap fd:=by rw[aP hx,s8,j9]
abbrev Ns (l:List Oh)(E:List UInt8):={q:Nat×List UInt8//q.1<=l.length/\q.2.length<=1048620*(q.1+1)/\q.2++(l.drop q.1).flatMap fd=E}
theorem jr (l:List Oh)(hl:l.length<=1048576)(hn:∀x∈l,x.J0.length<=1048576):Sim.Spec prog 111 [tvL 5 (l.map Oh.tr)] (rS (aG l)):=by
 refine ag hΓ ay func111 rfl d_ rfl ?_;have N1:(l.map Oh.tr).length=l.length:=s_;have N7:=fL l hl fun x hx=>by have:=hn x hx;omega
 have Pq:=cD l.length;unfold aG
 cases hb:dV l with
 | false=>
  rw[hb]at N7
  repeat' ((conv=>whnf);first|refine Or.inl ?_|apply oi|apply fi|intro h|refine ci N7 (ai rfl trivial) ?_|exact Y1|refine e_ rfl ?_)
 | true=>
  rw[hb]at N7;rw[d5 rfl];obtain⟨E,hE⟩:∃E,enc l.length++l.flatMap fd=E:=⟨_,rfl⟩;rw[hE];repeat' ((conv=>whnf);first|refine Or.inl ?_|apply oi|apply fi|intro h|refine ci N7 (ai rfl trivial) ?_|refine ci (bb _) (ai rfl trivial) ?_|exact Y1|refine e_ rfl ?_)
  conv=>whnf
  refine⟨Ns l E,fun q=>⟨[(3,tS q.1.2),(12,.r (.c (.t (.lst 5 (l.map Oh.tr))))),(13,tI .i64 ((l.map Oh.tr).length:Int)),(14,tI .i64 (q.1.1:Int))],[],[]⟩,fun q=>l.length-q.1.1,⟨(0,enc l.length),s_,g_,hE⟩,?_,?_⟩
  ·repeat' ((conv=>whnf);first|refine Or.inl ?_|apply oi|apply fi|intro h|exact Y1|refine e_ rfl ?_)
   all_goals exact⟨by rw[N1]⟩
  intro⟨⟨k,acc⟩,hk,OC,hr⟩;dsimp only at hk OC hr⊢;by_cases N2:k<l.length
  ·obtain⟨x,hx⟩:=ab N2;have Us:=hn x (b9 hx);rw[Jf hx]at hr;have Rv:=yW Us;have hP:=gh [x.J8,x.L5,x.L8,x.J9] s_;have hT:=nH x.J0 Us;have S2:=Rv;unfold fd at S2;simp only[b8]at S2;repeat' ((conv=>whnf);first|refine Or.inl ?_|apply oi|apply fi|intro h|refine⟨k,x.tr,rfl,aa hx,?_⟩|refine ci hP (ai rfl trivial) ?_|refine ci hT (ai rfl trivial) ?_|exact Y3|refine e_ rfl ?_)
   ·exact⟨by(try simp only[b8]);omega⟩
   ·exact⟨by(try simp only[b8]);omega⟩
   conv=>whnf
   refine⟨⟨(k+1,acc++fd x),g_,by rw[b8];dsimp only;omega,hr⟩,?_,KD⟩;exact Z3
  ·have OK:l.length<=k:=o_;rw[d8 OK,List.flatMap_nil,i9]at hr;clear hE;subst hr;exact Z4
theorem vt:∀{l:List Oo} {p:Int},0<=p->p<=1000000->(∀r∈l,mA r)->∀n∈bh p l,-1000000<=n/\n<=1000000
 | [],_,_,_,_,n,h=>by cases h
 | r::l,p,h0,h1,hl,n,h=>by
  have hr:=hl r s_;unfold mA at hr;rw[bh]at h;simp only[d6]at h;rcases h with rfl|rfl|rfl|rfl|h
  ·omega
  ·omega
  ·unfold b01;split<;>omega
  ·omega
  ·exact vt o_ o_ (fun y hy=>hl y aao) n h
theorem si:∀(l:List Oo) (p:Int),bz p (bh p l)=l
 | [],_=>by rw[bh,qh]
 | r::l,p=>by
  have e:(⟨p+(r.J8-p),p+(r.J8-p)+(r.L5-r.J8),b01 r.M4==1,r.L9⟩:Oo)=r:=by obtain⟨a,b,c,d⟩:=r;simp only[Oo.mk.injEq];exact⟨o_,o_,by cases c<;>rfl,trivial⟩
  rw[bh,bz,e,show p+(r.J8-p)+(r.L5-r.J8)=r.L5 by omega,si l r.L5]
theorem BR {l:List Oo}(h:fI l=true)(hl:l.length<=1048576)(rest:List UInt8):aD (bt (bh 0 l)++rest) 0=some (bh 0 l,(bt (bh 0 l)).length):=
 mw (s:=bt (bh 0 l)++rest) (rest:=rest) (p:=0) (fun n hn=>uz (vt (p:=0) (l:=l) o_ o_ (kg o_ h) n hn)) (by rw[jQ];omega) s_
theorem Fk {l:List Oo}(h:fI l=true)(hl:l.length<=1048576):ce (aK l)=some l:=by have hu:=BR h hl [];rw[i9]at hu;rw[aK,d5 h,ce,hu];dsimp only;rw[si,jQ,d5 ⟨o_,by rw[aK,d5 h]⟩]
def aT (p:List Oj)(x:Oi)(lv:Nat):List UInt8:=match x.J3[lv+1]? with|some c=>aJ p c|none=>aJ p x.J9
def qV (p:List Oj)(ch:List Int)(lv:Nat)(nm:List UInt8)(y:Om):Bool:=decide (lv<y.I8.J3.length)&&((y.I8.J3.take (lv+1)==ch.take (lv+1))&&(aT p y.I8 lv==nm))
def gT (p:List Oj)(ch:List Int)(lv:Nat)(nm:List UInt8):List Om->Nat->Nat
 | [],k=>k
 | y::r,k=>if qV p ch lv nm y=true then gT p ch lv nm r (k+1)else k
theorem Ch {p:List Oj}{ch:List Int}{lv:Nat}{nm:List UInt8}{l:List Om}{k:Nat}{y:Om}(hy:l[k]?=some y):gT p ch lv nm (l.drop k) k=if qV p ch lv nm y=true then gT p ch lv nm (l.drop (k+1)) (k+1)else k:=by rw[aP hy,gT]
theorem EV {p:List Oj}{ch:List Int}{lv:Nat}{nm:List UInt8}{l:List Om}{k:Nat}(h:l.length<=k):gT p ch lv nm (l.drop k) k=k:=by rw[d8 h,gT]
theorem kb {p:List Oj}{ch:List Int}{lv:Nat}{nm:List UInt8}:∀{l:List Om} {k:Nat},k<=gT p ch lv nm l k/\gT p ch lv nm l k<=k+l.length
 | [],k=>by rw[gT];exact⟨d7 _,o_⟩
 | y::r,k=>by
  rw[gT];split
  ·have:=kb (p:=p) (ch:=ch) (lv:=lv) (nm:=nm) (l:=r) (k:=k+1);simp only[c7];omega
  ·simp only[c7];omega
def mD (x:Om):Int:=x.J7+bp x.I8.J6.J4
def dh (p:List Oj)(lv:Nat)(x:Om)(c:Int)(last:Om):Oh:=⟨x.J7,mD last,lv,c,aT p x.I8 lv⟩
def lvN (p:List Oj)(l:List Om)(lv:Nat):Nat->Nat->List Oh
 | 0,_=>[]
 | n+1,i=>match l[i]? with
  | none=>[]
  | some x=>match x.I8.J3[lv]? with
   | none=>lvN p l lv n (i+1)
   | some c=>match l[gT p x.I8.J3 lv (aT p x.I8 lv) (l.drop (i+1)) (i+1)-1]? with
    | none=>[]
    | some y=>dh p lv x c y::lvN p l lv n (gT p x.I8.J3 lv (aT p x.I8 lv) (l.drop (i+1)) (i+1))
theorem yF {p:List Oj}{l:List Om}{lv:Nat}:∀{n m i:Nat},l.length-i<=n->l.length-i<=m->lvN p l lv n i=lvN p l lv m i
 | 0,0,_,_,_=>rfl
 | 0,m+1,i,h,_=>by rw[lvN,lvN,e9 o_]
 | n+1,0,i,_,h=>by rw[lvN,lvN,e9 o_]
 | n+1,m+1,i,h1,h2=>by
  rw[lvN,lvN]
  cases l[i]? with
  | none=>rfl
  | some x=>
   dsimp only
   cases x.I8.J3[lv]? with
   | none=>exact yF o_ o_
   | some c=>
    dsimp only;have hr:=kb (p:=p) (ch:=x.I8.J3) (lv:=lv) (nm:=aT p x.I8 lv) (l:=l.drop (i+1)) (k:=i+1)
    generalize gT p x.I8.J3 lv (aT p x.I8 lv) (l.drop (i+1)) (i+1)=k at *
    cases l[k-1]? with
    | none=>rfl
    | some y=>dsimp only;rw[yF (n:=n) (m:=m) o_ o_]
theorem Jr {p:List Oj}{l:List Om}{lv i:Nat}{x:Om}(hx:l[i]?=some x):lvN p l lv (l.length-i) i=match x.I8.J3[lv]? with
   | none=>lvN p l lv (l.length-(i+1)) (i+1)
   | some c=>match l[gT p x.I8.J3 lv (aT p x.I8 lv) (l.drop (i+1)) (i+1)-1]? with
    | none=>[]
    | some y=>dh p lv x c y::lvN p l lv (l.length-gT p x.I8.J3 lv (aT p x.I8 lv) (l.drop (i+1)) (i+1)) (gT p x.I8.J3 lv (aT p x.I8 lv) (l.drop (i+1)) (i+1)):=by
 have hk:i<l.length:=by
  rcases l9 i l.length with h|h
  ·exact h
  ·rw[e9 h]at hx;cases hx
 rw[show l.length-i=(l.length-(i+1))+1 by omega,lvN,hx];dsimp only
 cases x.I8.J3[lv]? with
 | none=>rfl
 | some c=>
  dsimp only;have hr:=kb (p:=p) (ch:=x.I8.J3) (lv:=lv) (nm:=aT p x.I8 lv) (l:=l.drop (i+1)) (k:=i+1)
  generalize gT p x.I8.J3 lv (aT p x.I8 lv) (l.drop (i+1)) (i+1)=k at *
  cases l[k-1]? with
  | none=>rfl
  | some y=>dsimp only;rw[yF (n:=l.length-(i+1)) (m:=l.length-k) o_ o_]
theorem wD {p:List Oj}{l:List Om}{lv i n:Nat}(h:l.length<=i):lvN p l lv n i=[]:=by cases n with|zero=>rfl|succ n=>rw[lvN,e9 h]
def vY (lv:Nat)(l:List Om):Nat:=(l.filter fun x=>decide (lv<x.I8.J3.length)).length
theorem tV {lv:Nat}{l:List Om}{i:Nat}{x:Om}(hx:l[i]?=some x):vY lv (l.drop i)=(if lv<x.I8.J3.length then 1 else 0)+vY lv (l.drop (i+1)):=by
 rw[aP hx,vY,B2];by_cases h:lv<x.I8.J3.length
 ·rw[d5 aac,d5 h,c7,Nat.add_comm];rfl
 ·rw[c8 aac,c8 h,q8];rfl
theorem tc {lv:Nat}{l:List Om}:∀{i k:Nat},i<=k->vY lv (l.drop k)<=vY lv (l.drop i):=by
 intro i k h;have:l.drop k=(l.drop i).drop (k-i):=by rw[y9];congr 1;omega
 rw[this,vY,vY];exact((List.drop_sublist _ _).filter _).length_le
theorem Cr {p:List Oj}{l:List Om}{lv:Nat}:∀{n i:Nat},(lvN p l lv n i).length<=vY lv (l.drop i)
 | 0,_=>by simp[lvN]
 | n+1,i=>by
  rw[lvN]
  cases hx:l[i]? with
  | none=>simp
  | some x=>
   dsimp only;rw[tV hx]
   cases hc:x.I8.J3[lv]? with
   | none=>have:=Cr (p:=p) (l:=l) (lv:=lv) (n:=n) (i:=i+1);dsimp only;omega
   | some c=>
    dsimp only
    have N2:lv<x.I8.J3.length:=by
     rcases l9 lv x.I8.J3.length with h|h
     ·exact h
     ·rw[e9 h]at hc;cases hc
    rw[d5 N2];have hr:=kb (p:=p) (ch:=x.I8.J3) (lv:=lv) (nm:=aT p x.I8 lv) (l:=l.drop (i+1)) (k:=i+1)
    generalize gT p x.I8.J3 lv (aT p x.I8 lv) (l.drop (i+1)) (i+1)=k at *
    cases l[k-1]? with
    | none=>simp
    | some y=>have h1:=Cr (p:=p) (l:=l) (lv:=lv) (n:=n) (i:=k);have h2:=tc (lv:=lv) (l:=l) hr.1;rw[c7];omega
def jN:List Om->Nat->Nat
 | [],d=>d
 | x::r,d=>jN r (max d x.I8.J3.length)
theorem JX {l:List Om}{k d:Nat}{x:Om}(hx:l[k]?=some x):jN (l.drop k) d=jN (l.drop (k+1)) (max d x.I8.J3.length):=by rw[aP hx,jN]
def oO (p:List Oj)(l:List Om):Nat->Nat->List Oh
 | 0,_=>[]
 | n+1,lv=>lvN p l lv l.length 0++oO p l n (lv+1)
def bD (p:List Oj)(l:List Om):List Oh:=if aj p=true/\near l=true then oO p l (jN l 0) 0 else []
def pp:List Om->Nat
 | []=>0
 | x::r=>x.I8.J3.length+pp r
def dk (lv:Nat):List Om->Nat
 | []=>0
 | x::r=>(x.I8.J3.length-lv)+dk lv r
theorem jB:∀l:List Om,dk 0 l=pp l
 | []=>rfl
 | x::r=>by rw[dk,pp,jB,v3]
theorem lW (lv:Nat):∀l:List Om,dk lv l=vY lv l+dk (lv+1) l
 | []=>rfl
 | x::r=>by
  have h0:=tV (lv:=lv) (l:=x::r) (i:=0) (x:=x) rfl;rw[v6]at h0;have h1:List.drop (0+1) (x::r)=r:=rfl;rw[h1]at h0;rw[dk,dk,lW lv r,h0];split<;>omega
theorem EZ {p:List Oj}{l:List Om}:∀{n lv:Nat},(oO p l n lv).length<=dk lv l
 | 0,_=>by simp[oO]
 | n+1,lv=>by
  have h1:=EZ (p:=p) (l:=l) (n:=n) (lv:=lv+1);have h2:=Cr (p:=p) (l:=l) (lv:=lv) (n:=l.length) (i:=0);rw[v6]at h2;rw[oO,b8,lW];omega
def dy (s:List UInt8):Nat->Nat->Option (List Oh)
 | 0,_=>some []
 | c+1,Yg=>match aD s (Yg:Int)with
  | some ([x0,x1,x2,x3],n)=>(match bH s ((Yg+n:Nat):Int)with
   | some (name,m)=>(dy s c (Yg+n+m)).map (⟨x0,x1,x2,x3,name⟩::·)
   | none=>none)
  | _=>none
def sI (s:List UInt8):Option (List Oh):=match dec s 0 with
 | none=>none
 | some x=>dy s x.1 x.2
def cZ (s:List UInt8):Option (List Oh):=match sI s with
 | none=>none
 | some l=>if aG l=s then some l else none
theorem JJ {s:List UInt8}{p:Nat}{ns:List Int}{z:Nat}(h:aD s (p:Int)=some (ns,z)):1<=z/\p+z<=s.length:=by
 unfold aD at h
 match hd:dec s (p:Int)with
 | none=>rw[hd]at h;cases h
 | some (a,b)=>rw[hd]at h;have h1:=dW hd;have h2:=lB h;rw[e8]at h1 h2;dsimp only at h2;have:=h2.2.2 h1.2.2.2.1;omega
theorem vb {s:List UInt8}{p:Nat}{t:List UInt8}{z:Nat}(h:bH s (p:Int)=some (t,z)):p+z<=s.length/\t.length<=s.length:=by
 unfold bH at h
 match hd:dec s (p:Int)with
 | none=>rw[hd]at h;cases h
 | some (a,b)=>
  rw[hd]at h;dsimp only at h;split at h
  ·injection h with h;injection h with h1 h2
   rw[e8]at *
   subst h1;constructor
   ·omega
   ·simp;omega
  ·cases h
theorem og {s:List UInt8}:∀{c p:Nat} {l:List Oh},dy s c p=some l->p<=s.length->l.length=c/\p+c<=s.length/\∀x∈l,x.J0.length<=s.length
 | 0,p,l,h,hp=>by
  rw[dy]at h;injection h with h;subst h
  exact⟨rfl,hp,fun x hx=>by cases hx⟩
 | c+1,p,l,h,hp=>by
  rw[dy]at h;split at h
  ·rename_i x0 x1 x2 x3 n hu;split at h
   ·rename_i name m ht;rw[m9]at h;obtain⟨l',h',rfl⟩:=h;have h1:=JJ hu;have h2:=vb ht;have h3:=og h' o_;refine⟨by simp[h3.1],o_,fun x hx=>?_⟩;rcases d6.1 hx with rfl|hx
    ·exact h2.2
    ·exact h3.2.2 x hx
   ·cases h
  ·cases h
theorem IW {s:List UInt8}{m p:Nat}(hu:aD s (p:Int)=none):dy s (m+1) p=none:=by rw[dy,hu]
theorem AJ {s:List UInt8}{m p z:Nat}{ns:List Int}(hu:aD s (p:Int)=some (ns,z))(h:ns.length≠4):dy s (m+1) p=none:=by
 rw[dy,hu]
 match ns,h with|[],_=>rfl|[_],_=>rfl|[_,_],_=>rfl|[_,_,_],_=>rfl|[_,_,_,_],h=>exact absurd rfl h|_::_::_::_::_::_,_=>rfl
theorem Ij {s:List UInt8}{m p z:Nat}{ns:List Int}(hu:aD s (p:Int)=some (ns,z))(ht:bH s ((p+z:Nat):Int)=none):dy s (m+1) p=none:=by
 by_cases h:ns.length=4
 ·match ns,h with
  | [_,_,_,_],_=>rw[dy,hu];dsimp only;rw[ht]
 ·exact AJ hu h
theorem Eu {s:List UInt8}{m p z y:Nat}{a b c d:Int}{t:List UInt8}(hu:aD s (p:Int)=some ([a,b,c,d],z))(ht:bH s ((p+z:Nat):Int)=some (t,y)):dy s (m+1) p=(dy s m (p+z+y)).map (⟨a,b,c,d,t⟩::·):=by rw[dy,hu];dsimp only;rw[ht]
abbrev Nb (s:List UInt8)(c:Nat)(R:Option (List Oh)):={q:Nat×Nat×List Oh//q.1<=c/\q.2.2.length=q.1/\q.1<=q.2.1/\q.2.1<=s.length/\(∀x∈q.2.2,x.J0.length<=s.length)/\(dy s (c-q.1) q.2.1).map (q.2.2++·)=R}
theorem V75{p:Prop}(h:p:=by
 rw[<-hr]
 repeat' ((conv=>whnf);first|refine Or.inl ?_|apply oi|apply fi|intro h|refine ci hU (ai rfl (ai rfl trivial)) ?_|refine ci hT (ai rfl (ai KW trivial)) ?_|exact Y3|refine e_ rfl ?_)):p:=h
theorem ju (s:List UInt8)(hs:s.length<=1048576):Sim.Spec prog 118 [tvS s] (.tup [.c (.arr 5 ((oL (cZ s)).map Oh.tr)),.c (.t (.bool (cZ s).isSome))]):=by
 refine ag hΓ ay func118 rfl d_ rfl ?_;have hD:=dn s 0 hs;unfold cZ sI
 match hd:dec s 0 with
 | none=>
  have hD:=qA hD hd
  exact V108
 | some (c,k0)=>
  have hD:=qD hD hd;obtain⟨h0,h1,h2,h3,h4⟩:=dW hd;rw[show(0:Int).toNat=0 from rfl,q8]at h3;dsimp only;generalize hR:dy s c k0=R;by_cases Qh:c<=s.length
  ·repeat' ((conv=>whnf);first|refine Or.inl ?_|apply oi|apply fi|intro h|refine ci hD (ai rfl (ai rfl trivial)) ?_|exact Y1|refine e_ rfl ?_)
   all_goals try(exfalso;have h':=m6 h;omega;done)
   conv=>whnf
   refine⟨Nb s c R,fun q=>⟨[(0,tS s),(4,tI .i64 (c:Int)),(5,tI .i64 (q.1.2.1:Int)),(7,.r (.c (.own (29,0,0)))),(8,tI .i64 (q.1.1:Int))],[((29,0,0),some (.arr true 5 (q.1.2.2.map Oh.tr)))],[29]⟩,fun q=>c-q.1.1,⟨(0,k0,[]),s_,s_,s_,by simpa using h3,s_,by simpa using hR⟩,?_,?_⟩
   ·exact Z1
   intro⟨⟨k,p,acc⟩,hk,OC,hkp,hp,hn,hr⟩;dsimp only at hk OC hkp hp hn hr⊢;by_cases N2:k<c
   ·obtain⟨m,hm⟩:∃m,c-k=m+1:=⟨c-k-1,o_⟩;rw[hm]at hr;have hU:=fj s (p:Int) hs o_
    match hu:aD s (p:Int)with
    | none=>
     rw[IW hu]at hr;rw[hu]at hU;dsimp only[BQ,upL,upZ,Option.isSome]at hU;have hT:=iz s (p:Int) hs o_
     exact V75
    | some (ns,z)=>
     rw[hu]at hU;dsimp only[BQ,upL,upZ,Option.isSome]at hU;have hz:=JJ hu;have hT:=iz s ((p+z:Nat):Int) hs o_;have N1:(ns.map ae).length=ns.length:=s_
     match ht:bH s ((p+z:Nat):Int)with
     | none=>
      rw[Ij hu ht]at hr;rw[ht]at hT;dsimp only[rUn,unS,unK,Option.isSome]at hT
      exact V75
     | some (t,y)=>
      rw[ht]at hT;dsimp only[rUn,unS,unK,Option.isSome]at hT;have hy:=vb ht;by_cases h44:ns.length=4
      ·match ns,h44 with
       | [x0,x1,x2,x3],_=>
        rw[Eu hu ht]at hr;repeat' ((conv=>whnf);first|refine Or.inl ?_|apply oi|apply fi|intro h|refine ci hU (ai rfl (ai rfl trivial)) ?_|refine ci hT (ai rfl (ai KW trivial)) ?_|refine⟨0,rfl,?_⟩|refine⟨1,rfl,?_⟩|refine⟨2,rfl,?_⟩|refine⟨3,rfl,?_⟩|exact Y3|refine e_ rfl ?_)
        all_goals try exact⟨s_⟩
        all_goals try exact Q6
        conv=>whnf
        refine⟨⟨(k+1,p+z+y,acc++[⟨x0,x1,x2,x3,t⟩]),g_,by simp;omega,g_,g_,fun x hx=>?_,?_⟩,?_,KD⟩
        ·rcases f0.1 hx with hx|hx
         ·exact hn x hx
         ·rw[o9.1 hx];exact hy.2
        ·dsimp only;rw[show c-(k+1)=m by omega,<-hr,Option.map_map];congr 1;funext l;simp
        repeat' ((conv=>whnf);first|refine Or.inl ?_|apply oi|apply fi|intro h|exact Y1|refine e_ rfl ?_)
        all_goals first
         |(refine⟨?_⟩;dsimp only;rw[c6 _ o_];rfl)
         |(refine⟨congrArg (Tr.int _) ?_⟩;dsimp only;simp(disch:=omega)only[c6];omega)
         |(refine⟨?_⟩;dsimp only;rw[ne];rfl)
      ·rw[AJ hu h44]at hr;rw[<-hr];have Ow:(((ns.map ae).length:Int) !=4)=true:=(by rw[N1,bne_iff_ne];omega);repeat' ((conv=>whnf);first|refine Or.inl ?_|apply oi|apply fi|intro h|refine ci hU (ai rfl (ai rfl trivial)) ?_|refine ci hT (ai rfl (ai KW trivial)) ?_|exact Y3|refine e_ rfl ?_)
       all_goals try(exfalso;rw[Ow]at h;simp at h;done)
   ·have OK:c<=k:=o_;rw[show c-k=0 by omega,dy]at hr;simp only[s6,i9]at hr;have Sy:=jr acc o_ fun x hx=>by have:=hn x hx;omega
    rw[<-hr];by_cases he:aG acc=s
    ·dsimp only;exact V70
    ·dsimp only;exact V76
  ·have hRn:R=none:=by cases hq:R with|none=>rfl|some l=>rw[hq]at hR;have:=og hR h3;omega
   rw[hRn];repeat' ((conv=>whnf);first|refine Or.inl ?_|apply oi|apply fi|intro h|refine ci hD (ai rfl (ai rfl trivial)) ?_|exact Y1|refine e_ rfl ?_)
   all_goals(exfalso;have h':=n6 h;omega)
theorem jZ {l:List Oh}(hl:l.length<=1048576)(hn:∀x∈l,x.J0.length<=1048576):aE 1048576 (.lst 5 (l.map Oh.tr)):=gB hl fun x hx=>by
 have:=hn x hx;simp[Oh.tr,aX,aE];omega
theorem jP {s:List UInt8}(hs:s.length<=1048576):aE 1048576 (.lst 5 ((oL (cZ s)).map Oh.tr)):=by
 unfold cZ sI
 match hd:dec s 0 with
 | none=>exact jZ (by simp[oL]) (by simp[oL])
 | some (c,k0)=>
  obtain⟨h0,h1,h2,h3,h4⟩:=dW hd;rw[show(0:Int).toNat=0 from rfl,q8]at h3;dsimp only
  match hl:dy s c k0 with
  | none=>exact jZ (by simp[oL]) (by simp[oL])
  | some l=>
   have:=og hl h3;dsimp only;split
   ·exact jZ (by dsimp only[oL];omega) (fun x hx=>t7 (this.2.2 x hx) hs)
   ·exact jZ (by simp[oL]) (by simp[oL])
end Go.Proofs.P
