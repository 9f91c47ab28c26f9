/- The law FnDebugFiles answers true for every input and leaves its argument as it was. Conditions: none. -/
import Derived.Test.YtoglejgmjeojoaaGreatGk
namespace Go.Proofs.P
open Go.Proofs.YtoglejgmjeojoaaGreat
open Go.Sim Go.ChangeShapes Go.WideShapes Go.ChangeAt Go.RowKit
set_option maxRecDepth 100000
set_option maxHeartbeats 4000000
theorem pY (code:List UInt8):Sim.Spec Tryz.prog 8 [tvL 1 (code.map aZ)] (rB true):=by
 refine aI hΓ ay Tryz.func8 rfl d_ rfl ?_;repeat' ((conv=>whnf);first|apply Wx|apply W6|apply oi|apply fi|intro h|refine cl ((Gg code)) ?_|exact Y8|refine e_ rfl ?_)
 have hl:code.length<=1048576:=by have:=n6 h;omega
 clear h;obtain⟨p,b,img,h1,h2,h3,hs,g0⟩:=tQ code hl;have hw:af (img:Int) 0 1=true:=by rw[within_iff];omega
 have hM:=un p b img hs h1 h2 hw;obtain⟨dok,dcap,dil,din⟩:=Gp (b:=b) hs h1 h2 hw;have hE:=kX (fF p b img) dok.fits;have hD:=qU (bi (fF p b img)) dcap;have Qi:=Fi dok;have ST:=se dcap;rw[Qi]at hD ST;dsimp only[oD,Option.isSome]at hD ST;have hP:=eF p hs;rw[h1]at hP;have hA:=oz p b img hs;have U9:=yA (b:=b) (image:=(img:Int)) hs;have QP:=(lm hs h1 h2 hw).2;have ZH:=qk (p:=p) (b:=b) (image:=(img:Int)) (eH h1).1;have Yu:=uG hs h1 h2 hw;have Yd:=nI p b img hs;have hk:=lg (b:=b) (image:=(img:Int)) hs;have ZX:=hk.len;have P1:=lD (b:=b) (image:=(img:Int)) hs;have P2:=fun{k:Nat} {x:Om} (hx:(aH p b img)[k]?=some x)=>EW hs h1 h2 hw hx;have Ty:=dok.fits.rules;have PY:=dok.fits.rows;have PW:=(eH h1).2;have hde:fF p b img=⟨gJ (be p b img).J4,(be p b img).L7,im (aH p b img),fR (aH p b img),bD p (aH p b img)⟩:=rfl
 generalize hDD:fF p b img=D at *
 generalize be p b img=A at *
 generalize bi D=eb at *
 have hI:=kD A.J4 (A.L7.map Ot.tr) o_;have hF:=mB A D U9 ST;have hS1:=rd A.L7 o_;rw[show ki A D=true by rw[hde,ki,vg];simp]at hF
 generalize hPP:aH p b img=P at *
 generalize im P=R at *
 generalize fR P=W at *
 generalize bD p P=I at *
 obtain⟨ac,asy⟩:=A;subst hde
 dsimp only at *
 have hS2:=sw R o_;have ZN:=tK W o_;have Pw:(P.map Om.tr).length=P.length:=s_;refine cg (g0) ?_;repeat' ((conv=>whnf);first|apply Wx|apply W6|apply oi|apply fi|intro h|refine cl hM ?_|refine cl hE ?_|refine cl hD ?_|refine cl hP ?_|refine cl hA ?_|refine cl hF ?_|refine cl hS1 ?_|refine cl hS2 ?_|refine cl ZN ?_|refine cl hI ?_|refine cl Yd ?_|exact Y6|refine e_ rfl ?_)
 all_goals try exact Q8
 conv=>whnf
 refine⟨{k:Nat//k<=P.length},fun k=>⟨[(3,vP p),(8,.r (.c (.ptr (8,0,0) 0))),(10,.r (.c (.ptr (10,0,0) 0))),(11,.r (.c (.own (89,0,0)))),(12,tI .i64 (k.1:Int))],
  [((8,0,0),some (.box [.t (.int .i64 (gJ ac)),.own (33,0,1),.own (33,0,2),.own (33,0,3),.own (33,0,4)])),((33,0,1),some (.arr true 3 (asy.map Ot.tr))),((33,0,2),some (.arr true 4 (R.map Oo.tr))),((33,0,3),some (.arr true 3 (W.map On.tr))),((33,0,4),some (.arr true 5 (I.map Oh.tr))),((10,0,0),some (.box [.t (.str ac),.own (46,0,1)])),((46,0,1),some (.arr true 3 (asy.map Ot.tr))),((89,0,0),some (.arr true 8 (P.map Om.tr)))],[89,46,33,10,8]⟩,fun k=>P.length-k.1,⟨0,o_⟩,?_,?_⟩
 ·exact Z2
 intro⟨k,hkP⟩;dsimp only;by_cases N2:k<P.length
 ·obtain⟨x,hx⟩:=ab N2;have OZ:k<(P.map Om.tr).length:=o_;have hxt:(P.map Om.tr)[k]?=some x.tr:=aa hx;have Zw:=vF ⟨gJ ac,asy,R,W,I⟩ x.J7 false ST;rw[P2 hx]at Zw;dsimp only[oL,Option.isSome]at Zw;have VI:=P1 x (b9 hx);have XJ:=VI.I5.1;have hFL:=iF p x.I8.J9 o_;have Zn:=LM p x.I8;have UI:=JA p x.I8;have hfj:=fun{j:Nat} {c:Int} (h:x.I8.J3[j]?=some c)=>LW (p:=p) h
  generalize frs p x.I8=F at *
  have Vw:(F.map Oe.tr).length=x.I8.J3.length+1:=by rw[d9,Zn]
  have OJ:(x.I8.J3.map ae).length=x.I8.J3.length:=s_;have Rp:IntKind.i64.wrap (((F.map Oe.tr).length:Int)-1)=((x.I8.J3.length:Nat):Int):=by rw[Vw,c6 _ o_];omega
  have O3:x.I8.J3.length<(F.map Oe.tr).length:=o_;have OU:(F.map Oe.tr)[x.I8.J3.length]?=some (Oe.tr ⟨aJ p x.I8.J9,x.I8.J9⟩):=aa UI;repeat' ((conv=>whnf);first|apply Wx|apply W6|apply oi|apply fi|intro h|refine⟨k,rfl,OZ,?_⟩|refine⟨_,hxt,?_⟩|refine cl Zw ?_|refine⟨_,Rp,O3,?_⟩|refine⟨_,OU,?_⟩|refine cl hFL ?_|exact Y6|refine e_ rfl ?_)
  all_goals try(exfalso;rw[Vw,OJ,c6 _ o_]at h;simp at h;done)
  all_goals try exact Q8
  conv=>whnf
  refine⟨{j:Nat//j<=x.I8.J3.length},fun j=>⟨[(3,vP p),(8,.r (.c (.ptr (8,0,0) 0))),(10,.r (.c (.ptr (10,0,0) 0))),(11,.r (.c (.own (89,0,0)))),(12,tI .i64 (k:Int)),(13,.r (.c (.ptr (13,0,0) 0))),(14,.r (.c (.own (14,0,0)))),(16,tI .i64 (j.1:Int))],
   [((8,0,0),some (.box [.t (.int .i64 (gJ ac)),.own (33,0,1),.own (33,0,2),.own (33,0,3),.own (33,0,4)])),((33,0,1),some (.arr true 3 (asy.map Ot.tr))),((33,0,2),some (.arr true 4 (R.map Oo.tr))),((33,0,3),some (.arr true 3 (W.map On.tr))),((33,0,4),some (.arr true 5 (I.map Oh.tr))),((10,0,0),some (.box [.t (.str ac),.own (46,0,1)])),((46,0,1),some (.arr true 3 (asy.map Ot.tr))),((89,0,0),some (.arr true 8 (P.map Om.tr))),((13,0,0),some (.box (x.I8.tr.map .t))),((14,0,0),some (.arr true 2 (F.map Oe.tr)))],[14,13,89,46,33,10,8]⟩,fun j=>x.I8.J3.length-j.1,⟨0,o_⟩,?_,?_⟩
  ·exact Z2
  intro⟨j,hj⟩;dsimp only;by_cases Pg:j<x.I8.J3.length
  ·obtain⟨c,hc⟩:=ab Pg;have ZY:(x.I8.J3.map ae)[j]?=some (ae c):=aa hc;have hjF:j<(F.map Oe.tr).length:=o_;have XD:(F.map Oe.tr)[j]?=some (Oe.tr ⟨aJ p c,c⟩):=aa (hfj hc);have hFc:=iF p c o_;repeat' ((conv=>whnf);first|apply Wx|apply W6|apply oi|apply fi|intro h|refine⟨j,rfl,hjF,?_⟩|refine⟨_,XD,?_⟩|refine⟨j,(ae c),rfl,ZY,?_⟩|refine cl hFc ?_|exact Y6|refine e_ rfl ?_)
   all_goals try exact Q8
   conv=>whnf
   refine⟨⟨j+1,o_⟩,?_,KD⟩;exact Z5
  ·repeat' ((conv=>whnf);first|apply Wx|apply W6|apply oi|apply fi|intro h|exact Y6|refine e_ rfl ?_)
   conv=>whnf
   refine⟨⟨k+1,o_⟩,?_,KD⟩;exact Z5
 ·clear hM hE hD hA hS1 hS2 ZN hI Yd hF g0 P2 Qi dok
  cases asy with
  | nil=>exact Z6
  | cons y ys=>
   have ZT:=(Yu y s_).near;unfold gk at ZT;rw[c9,within_iff,within_iff]at ZT;have hz:IntKind.i64.wrap (y.M0+1)≠y.M0:=by rw[c6 _ o_];omega
   have hF2:=mB ⟨ac,⟨y.J0,y.J8,IntKind.i64.wrap (y.M0+1)⟩::ys⟩ ⟨gJ ac,y::ys,R,W,I⟩ (by
    simp only[Og.tr,n9,Ot.tr,aX,aE,eB,c7]at U9⊢
    exact U9) ST
   rw[show ki ⟨ac,⟨y.J0,y.J8,IntKind.i64.wrap (y.M0+1)⟩::ys⟩ ⟨gJ ac,y::ys,R,W,I⟩=false by rw[ki,Dw y hz];simp]at hF2;repeat' ((conv=>whnf);first|apply Wx|apply W6|apply oi|apply fi|intro h|refine⟨0,rfl,s_,?_⟩|refine e_ rfl ?_|refine cl hF2 ?_|exact Y6|refine e_ rfl ?_)
theorem fnDebugFiles_lifted (os:Os)(started:os.Started)(H:Type)(enc:TypeId×Value->H):
  ReturnsInHanded {} Tryz.checked os 8 .any (Rows.fnDebugFilesSpec.pre6 enc Tryz.prog Tryz.f8 Rows.fnDebugFilesRow.domain false) (Rows.fnDebugFilesSpec.post enc Tryz.prog Tryz.f8 false true false false):=by
 refine returnsInHanded_of_change (C:=Tryz.checked) own started aaq Tryz.func8
  (ChangeSpec.witness6 (enc:=enc) (C:=Tryz.checked) false ⟨#[],#[.slice none 0 0],[]⟩ 8 aaq aaq aaq aaq) ?_
 intro W base args ds gs before Pt hW _ _;have Zk:=hW;obtain⟨p,q,hA,_,_,_,_⟩:=Zk;have N1:=uJ hA;obtain⟨xs,hx,Vr⟩:=xT (n:=8) hΓ aaq (fun j t v h1 h2=>Pt j t v aal aaf) hA;rw[Tryz.params8]at Vr N1;obtain⟨_,xs0,rfl,QR,Ze⟩:=Ci Vr;obtain⟨_,rfl,rows,⟨⟩,hl,hr⟩:=QR;obtain rfl:=Ed Ze;obtain⟨d0,rfl⟩:=NY N1;obtain⟨bs,rfl⟩:=IE (rows:=rows) (fun r TX=>hr r TX);exact HV Mc rfl Tryz.underlying4 rfl aaq rfl hx (pY bs) hW
end Go.Proofs.P
namespace Go.Proofs.YtoglejgmjeojoaaGreat
open Go.Proofs.P
theorem fnDebugFiles_holds:Rows.FnDebugFilesSaid:=
 OpenClaim.holds_of_wide 8 Tryz.f8 rfl rfl rfl rfl rfl rfl rfl ⟨rfl,rfl,rfl,rfl,rfl⟩ rfl rfl rfl rfl rfl aaq Tryz.func8 aaq
  (m6 aaq) (by unfold Func.isWrapper;first|(rw[d5 (by decide+kernel)];kernel_rfl)|(rw[c8 (by decide+kernel)];exact⟨rfl,rfl⟩))
  (fun os started H enc _=>fnDebugFiles_lifted os started H enc)
end Go.Proofs.YtoglejgmjeojoaaGreat
