import Derived.Test.YtoglejgmjeojoaaGf
namespace Go.Proofs.Ytoglejgmjeojoaa
open Go.Sim
set_option maxRecDepth 100000
set_option maxHeartbeats 4000000
theorem GV {C:Cx}(hC:CxOk C):∀lev,Ju C lev/\Bi C lev:=by
 have hL:∀lev,Ju C lev->Bi C lev:=fun lev hR=>HH hC fun e x S lv k p ln s d h1 h2 h3 h4 h5 h6=>Dh hC hR e.toks.length e (d6 _) x S lv k p ln s d h1 h2 h3 h4 h5 h6;intro lev
 induction lev with
 | zero=>
  have hR:Ju C 0:=by intro x S lv k g s d hx hk hg Uu hr;obtain⟨r1,_⟩:=fW Uu;have:=hr.depth;rw[show(bZ (S++[(x,lv)])).length=S.length+1 by simp]at r1;omega
  exact⟨hR,hL 0 hR⟩
 | succ n ih=>have hR:=KF hC ih.2;exact⟨hR,hL _ hR⟩
def AH (frames f:Int):Bool:=IntKind.i64.wrap (BitVec.ofInt IntKind.i64.bits (frames.fdiv (2^min f.toNat IntKind.i64.bits)) &&& BitVec.ofInt IntKind.i64.bits 1).toNat==1
theorem V24{p:Prop}(h:p:=by
 rw[Xb];repeat' ((conv=>whnf);first|apply Wx|apply W6|refine cg g2 ?_|refine cg gLs ?_|apply oi|apply fi|intro h|refine⟨0,rfl,s_,?_⟩|refine⟨_,hOl,?_⟩|refine⟨_,rfl,?_⟩|exact Y7|fail)
 all_goals try(exfalso;rw[UX]at h;cases h;done)
 all_goals first|exact⟨⟨_,rfl⟩⟩|exact⟨congrArg (Tr.int .i64) Xe.symm⟩):p:=h
theorem kX (C:Cx)(hC:CxOk C)(f g:Nat)(hf:(ay C.p)[f]?=some g)(e3:C.framed=AH C.b.faC f)(e5:C.args=argsN C.p g):
  Sim.Spec Try.prog 83 [tvP C.p,tvI (f:Int),.agg C.b.tr,tvI C.words] (.tup [.c (.arr 7 ((dg C g).items.map NW.tr)),.c (.t (.int .i64 (dg C g).most))]):=by
 refine bF hΓ aK Try.func83 rfl d_ rfl ?_;obtain⟨U0,y,hy,Pa⟩:=oq (d4 hf);have Rb:=hC.len;have hw:=hC.words;have hin:=hC.inl;have gF:=cJ C.p o_;have gL:=fP C.p (g:Int) o_ (fun z hz=>bi hC.small hz);have hA:argsN C.p g=y.faj.length:=by rw[argsN,hy]
 have h4:=(hC.line g y hy).2.2.1;have L8:f<(ay C.p).length:=aJ hf;have PJ:f<((ay C.p).map fun n:Nat=>aa n).length:=by rw[e8];exact L8
 have WB:((ay C.p).map fun n:Nat=>aa n)[f]?=some (aa (g:Int)):=by rw[l9,hf];rfl
 have OC:=cX hC ⟨y,hy,Pa⟩;have UG:(y.faj.map ax).length=y.faj.length:=s_;have PF:((localsOf C.p (g:Int)).map ax).length=(localsOf C.p (g:Int)).length:=s_;have hS:ScOk C (aQ C g) [g]:=⟨⟨y,hy,Pa⟩,rfl,⟨u9 _,by simp[aQ]⟩,rfl,by simp[aQ],fun _=>e5,rfl⟩;obtain⟨e,Zw,PX,WH,he4,_⟩:=hS.endE hC;obtain⟨O,hO⟩:∃O,aQ C g=O:=⟨_,rfl⟩;have Zb:lJ O []=[.d (.int .i64 (g:Int)),.t (.lst 1 []),.t (.lst 1 ((localsOf C.p (g:Int)).map ax)),.d (.int .i64 0),.d (.bool true),.d (.lst 0 [])]:=by rw[<-hO,aQ];rfl
 have hOl:(scH [(O,[])])[0]?=some [.d (.int .i64 (g:Int)),.t (.lst 1 []),.t (.lst 1 ((localsOf C.p (g:Int)).map ax)),.d (.int .i64 0),.d (.bool true),.d (.lst 0 [])]:=by rw[<-Zb];rfl
 have g1:=fun code=>bV C ⟨[],(localsOf C.p (g:Int)).length-C.args,false⟩ 0 (scH [(O,[])]) code C.words g [] (by unfold dS;simp) s_;have PB:((C.b.faq.toNat:Nat):Int)=C.b.faq:=H3 hin.1;have h3:=Fl (n:=C.b.faq.toNat) o_
 have gLs:=(GV hC C.b.faq.toNat).2 O [] (cV C g) C.words (by rw[<-hO];exact hS) (by
  rw[<-hO,he4];have:=A1 (show e-(aQ C g).f<=60 by omega) (show 20*dx C.b.faq.toNat+3<=20*8679837+3 by omega);simp only[cV,aI,c7,gt,d5]
  omega) (by simpa using PB) hw.1 o_
 have hcg:bv C (bY C C.b.faq.toNat) O (bZ ([]++[(O,[])])) C.words (cV C g)=bv C (bY C C.b.faq.toNat) (aQ C g) [g] C.words (cV C g):=by rw[<-hO];rfl
 rw[hcg,s8,s8]at gLs;repeat' ((conv=>whnf);first|(with_reducible apply W1;fail_if_success (with_reducible show Wo _ _ _ _ (Code.region 4 _ _) _ _))|(with_reducible first|apply W2|apply W3|apply W4|apply W5|apply W6|apply W7|apply W8|apply W9)|apply aq|apply oi|apply fi|intro h|refine cl gF ?_|refine⟨f,rfl,PJ,?_⟩|refine⟨_,WB,?_⟩|refine⟨g,y.tr,rfl,ab hy,?_⟩|refine cl gL ?_|refine⟨_,rfl,?_⟩|exact Y7|fail)
 all_goals try exact⟨o_⟩
 all_goals try exact⟨ls _⟩
 conv=>whnf
 refine HK (40,0,0) (rows':=[lJ O []]) rfl ?_ ?_
 ·rw[Zb];refine⟨⟨rfl,fun q c d hc hd=>?_⟩,trivial⟩
  match q with
  | 0=>simp at hc hd;subst hc;subst hd;exact .inl rfl
  | 1=>simp at hc hd;subst hc;subst hd;exact .inr (.inr ⟨0,1,rfl,rfl⟩)
  | 2=>simp at hc hd;subst hc;subst hd;exact .inr (.inl rfl)
  | 3=>simp at hc hd;subst hc;subst hd;exact .inl rfl
  | 4=>simp at hc hd;subst hc;subst hd;exact .inl rfl
  | 5=>simp at hc hd;subst hc;subst hd;exact .inl rfl
  | q+6=>simp at hc
 refine wy ⟨[(0,vP C.p),(3,tI .i64 C.words),(10,tI .i64 (g:Int)),(11,.r (.c (.ptr (33,0,0) 0)))],[((33,0,0),some (pL C ⟨[],0,false⟩ 0 (33,0,1) (33,0,2))),((33,0,1),some (.dar 7 (itR []) none)),((33,0,2),some (.dar 6 (scH [(O,[])]) none))],[40,38,33,13,6]⟩ ?_ ?_
 ·repeat' ((conv=>whnf);first|apply Wx|apply W6|apply oi|apply fi|intro h|refine⟨_,rfl,?_⟩|exact Y7|fail)
  all_goals try exact⟨by rw[e3];rfl⟩
  all_goals try exact⟨by rw[e5,hA,UG]⟩
 have Xe:IntKind.i64.wrap ((((localsOf C.p (g:Int)).map ax).length:Int)-C.args)=((localsOf C.p (g:Int)).length:Int)-C.args:=by rw[PF,c9 _ o_]
 cases UX:C.framed with
 | true=>
  have hh:cV C g=aI C ⟨[],(localsOf C.p (g:Int)).length-C.args,false⟩ 0 13 C.words g []:=by rw[cV,b9 UX]
  rw[hh]at gLs;have g2:=g1 13;have Xb:dg C g=(bv C (bY C C.b.faq.toNat) (aQ C g) [g] C.words (aI C ⟨[],(localsOf C.p (g:Int)).length-C.args,false⟩ 0 13 C.words g [])).1:=by rw[dg,hh]
  exact V24
 | false=>
  have hh:cV C g=aI C ⟨[],(localsOf C.p (g:Int)).length-C.args,false⟩ 0 15 C.words g []:=by rw[cV,b8 (by simp[UX])]
  rw[hh]at gLs;have g2:=g1 15;have Xb:dg C g=(bv C (bY C C.b.faq.toNat) (aQ C g) [g] C.words (aI C ⟨[],(localsOf C.p (g:Int)).length-C.args,false⟩ 0 15 C.words g [])).1:=by rw[dg,hh]
  exact V24
theorem xe {C:Cx}(hC:CxOk C){g:Nat}(hg:bP C g)(e5:C.args=argsN C.p g):0<=(dg C g).most/\(dg C g).most<=1000:=by have hS:ScOk C (aQ C g) [g]:=⟨hg,rfl,⟨u9 _,by simp[aQ]⟩,rfl,by simp[aQ],fun _=>e5,rfl⟩;have hG:=nC (lev:=C.b.faq.toNat) (rep:=bY C C.b.faq.toNat) (fun line g d s hg hr=>ir hC _ line g d s hS hg hr) hC hS C.words (cV C g);obtain⟨l1,l2⟩:=cX hC hg;have hm:(cV C g).most=(localsOf C.p (g:Int)).length-C.args:=rfl;have h1:=hG.most;have h2:=hG.cap (by rw[hm];omega);rw[hm]at h1;exact⟨A5 o_ h1,h2⟩
def ctx (p:List NX)(f g:Nat)(b:NP)(words:Int):Cx:=⟨p,b,AH b.faC f,words,argsN p g⟩
noncomputable def foldIf (p:List NX) (b:NP):List NX:=if b.faG=true then p.map aA else p
noncomputable def nc (p:List NX) (f:Nat) (b:NP):List NW:=match(ay (foldIf p b))[f]? with
 | some g=>(dg (ctx (foldIf p b) f g b (dg (ctx (foldIf p b) f g b 0) g).most) g).items
 | none=>[]
noncomputable def aD (p:List NX) (f:Int) (b:NP):List NW:=
 if ah p=true/\aY b=true/\0<=f/\f<(ay p).length then nc p f.toNat b else []
theorem alike.funsF:∀{p q:List NX},alike p q->∀i:Nat,funsF p i=funsF q i
 | [],[],_,_=>rfl
 | x::p,y::q,h,i=>by
  simp only[alike,p7,List.cons.injEq,Prod.mk.injEq]at h;have ih:=alike.funsF (p:=p) (q:=q) h.2
  rw[Go.Proofs.Ytoglejgmjeojoaa.funsF,Go.Proofs.Ytoglejgmjeojoaa.funsF,h.1.1,ih]
 | [],_::_,h,_=>by simp[alike]at h
 | _::_,[],h,_=>by simp[alike]at h
theorem kH (p:List NX)(b:NP):ay (foldIf p b)=ay p:=by
 unfold foldIf;split
 ·exact(dh p).funsF 0
 ·rfl
theorem PgOk.foldIf {p:List NX}(h:PgOk p)(b:NP):PgOk (foldIf p b):=by
 unfold Go.Proofs.Ytoglejgmjeojoaa.foldIf;split
 ·exact h.fold
 ·exact h
theorem V107{p:Prop}(h:p:=by
 unfold aY at h2;simp only[c8,within_iff]at h2
 exact h2.2):p:=h
theorem V41{p:Prop}(h:p:=by
 simp only[ctx,e]at g0 g1
 repeat' ((conv=>whnf);first|apply Wx|apply W6|apply oi|apply fi|intro h|refine cl hP ?_|refine cl hB ?_|refine cl gF ?_|refine cl Qj ?_|refine cl g0 ?_|refine cl g1 ?_|refine⟨_,rfl,?_⟩|exact Y5|fail)):p:=h
theorem V67{p:Prop}(h:p:=by
 repeat' ((conv=>whnf);first|apply Wx|apply W6|apply oi|apply fi|intro h|refine cl hP ?_|refine cl hB ?_|refine cl gF ?_|refine⟨_,rfl,?_⟩|exact Y5|fail)):p:=h
theorem mu (p:List NX)(f:Int)(b:NP)(hs:aH 1048576 (.lst 4 (p.map NX.tr))):Sim.Spec Try.prog 77 [tvP p,tvI f,.agg b.tr] (rL 7 ((aD p f b).map NW.tr)):=by
 refine bF hΓ aK Try.func77 rfl d_ rfl ?_;have hP:=cF p hs;have hB:=jZ b;have hl:=cQ hs;have gF:=cJ p o_;have L8:((ay p).map fun n:Nat=>aa n).length=(ay p).length:=s_;by_cases hc:ah p=true/\aY b=true/\0<=f/\f<(ay p).length
 ·have Ro:aD p f b=nc p f.toNat b:=by rw[aD,b9 hc]
  rw[Ro];obtain⟨h1,h2,h3,h4⟩:=hc;obtain⟨f,rfl⟩:=j8 h3;rw[d9];rw[h1]at hP;rw[h2]at hB
  have hb:0<=b.faq/\b.faq<=3:=by exact V107
  obtain⟨g,hg⟩:=ae (l:=ay p) (k:=f) o_;have RL:=(nW hs h1).foldIf b;have Sz:(ay (foldIf p b))[f]?=some g:=by rw[kH];exact hg
  obtain⟨U0,y,hy,Pa⟩:=oq (d4 Sz);have Q0:=(RL.line g y hy).2.2.1;have ha:(0:Int)<=(argsN (foldIf p b) g:Int)/\(argsN (foldIf p b) g:Int)<=4:=by rw[argsN,hy];dsimp only;omega
  have Tq:CxOk (ctx (foldIf p b) f g b 0):=RL.cx ha o_ hb;have hm:=xe Tq ⟨y,hy,Pa⟩ rfl;have X7:CxOk (ctx (foldIf p b) f g b (dg (ctx (foldIf p b) f g b 0) g).most):=RL.cx ha hm hb;have g0:=kX _ Tq f g Sz rfl rfl;have g1:=kX _ X7 f g Sz rfl rfl;have XU:nc p f b=(dg (ctx (foldIf p b) f g b (dg (ctx (foldIf p b) f g b 0) g).most) g).items:=by rw[nc,Sz]
  rw[XU]
  generalize dg (ctx (foldIf p b) f g b 0) g=R0 at *
  generalize dg (ctx (foldIf p b) f g b R0.most) g=R1 at *
  have Qj:=qd p hs;rw[show jP p=p.map aA by rw[jP,b9 h1]]at Qj;obtain⟨fr,inl,fold,sp⟩:=b
  cases fold with
  | true=>
   have e:foldIf p ⟨fr,inl,true,sp⟩=p.map aA:=rfl
   exact V41
  | false=>have e:foldIf p ⟨fr,inl,false,sp⟩=p:=rfl;exact V41
 ·have Ro:aD p f b=[]:=by rw[aD,b8 hc]
  rw[Ro]
  cases h1:ah p with
  | false=>
   rw[h1]at hP
   exact V67
  | true=>
   rw[h1]at hP
   cases h2:aY b with
   | false=>
    rw[h2]at hB
    exact V67
   | true=>rw[h2]at hB;have J6:¬(0<=f/\f<(ay p).length):=fun hh=>hc ⟨h1,h2,hh⟩;exact V67
def xY (l:List NW):Prop:=∀it∈l,it.fay.length<=4
structure Cap (M t:Nat) (s s':Gs):Prop where
 le:s'.items.length<=max s.items.length M+t
 ch:xY s.items->xY s'.items
theorem Cap.refl {M:Nat}(s:Gs):Cap M 0 s s:=⟨o_,id⟩
theorem Cap.trans {M n m:Nat}{a b c:Gs}(h:Cap M n a b)(h':Cap M m b c):Cap M (n+m) a c:=⟨by have:=h.le;have:=h'.le;omega,fun x=>h'.ch (h.ch x)⟩
theorem Cap.mono {M n m:Nat}{a b:Gs}(h:Cap M n a b)(hn:n<=m):Cap M m a b:=⟨by have:=h.le;omega,h.ch⟩
theorem ce {M:Nat}(C:Cx)(s:Gs)(d code arg line:Int){chain:List Int}(hc:chain.length<=4):Cap M 1 s (aI C s d code arg line chain):=by
 refine⟨by simp only[aI,c7,d5,gt];omega,fun h it OS=>?_⟩;simp only[aI,e7,d7,l8,or_false]at OS;rcases OS with OS|rfl
 ·exact h it OS
 ·exact hc
theorem sQ {l:List NW}(h:xY l)(j v:Int):xY (bD l j v):=by
 unfold bD;split
 ·split
  ·rename_i it hi;intro z hz;rcases u5 hz with hz|rfl
   ·exact h z hz
   ·exact h it (d4 hi)
  ·exact h
 ·exact h
theorem zz (v:Int):∀(js:List Int) {l:List NW},xY l->xY (patchL l v js)
 | [],_,h=>h
 | j::js,_,h=>by rw[patchL];exact zz v js (sQ h j v)
theorem Cap.set {M n:Nat}{a b:Gs}{l:List NW}(h:Cap M n a b)(hl:l.length=b.items.length)(hc:xY b.items->xY l):Cap M n a ⟨l,b.most,b.start⟩:=⟨by have:=h.le;simp only[hl];omega,fun x=>hc (h.ch x)⟩
section
variable {C:Cx} {x:Sc} {ins:List Nat} {rep:Sc->List Nat->Nat->Nat->Int->Gs->Gs} {line:Nat} {M:Nat}
theorem tL (y:Sc){chain:List Int}(hc:chain.length<=4)(line:Int):∀(n:Nat) (d:Int) (s:Gs),Cap M n s (bR C y chain line n d s)
 | 0,d,s=>Cap.refl s
 | n+1,d,s=>by
  rw[bR];exact((ce C s d _ _ _ hc).trans (tL y hc line n (d-1) _)).mono o_
theorem vG (y:Sc){chain:List Int}(hc:chain.length<=4)(line d:Int):∀(n i:Nat) (s:Gs),Cap M (2*n) s (cL C y chain line d n i s)
 | 0,i,s=>Cap.refl s
 | n+1,i,s=>by
  rw[cL];exact(((ce C s d _ _ _ hc).trans (ce C _ (d+1) _ _ _ hc)).trans (vG y hc line d n (i+1) _)).mono o_
theorem Iz (hx:x.chain.length<=4)(J4:∀g d s,bP C g->cK C ins g s.items.length=true->Cap M 0 s (rep x ins line g d s))(t:Og)(d:Int)(s:Gs):Cap M 1 s (jv C rep x ins line t d s):=by
 unfold jv;split
 ·exact ce _ _ _ _ _ _ hx
 ·split
  ·exact ce _ _ _ _ _ _ hx
  ·split
   ·split
    ·rename_i g hg;split
     ·rename_i hr;obtain⟨_,ln,h1,h2,_⟩:=eL hg;exact(J4 g d s ⟨ln,h1,h2⟩ hr).mono o_
     ·exact ce _ _ _ _ _ _ hx
    ·exact(Cap.refl s).mono o_
   ·exact ce _ _ _ _ _ _ hx
mutual
theorem BG (hx:x.chain.length<=4)(J4:∀g d s,bP C g->cK C ins g s.items.length=true->Cap M 0 s (rep x ins line g d s)):∀(e:Ex) (d:Int) (s:Gs),Cap M e.toks.length s (dJ C rep x ins line e d s)
 | .node t es,d,s=>by
  rw[dJ,Ex.toks,d5];exact((yJ hx J4 es d s).trans (Iz hx J4 t _ _)).mono o_
theorem yJ (hx:x.chain.length<=4)(J4:∀g d s,bP C g->cK C ins g s.items.length=true->Cap M 0 s (rep x ins line g d s)):∀(es:List Ex) (d:Int) (s:Gs),Cap M (ak es).length s (cp C rep x ins line es d s)
 | [],d,s=>by rw[cp,ak];exact(Cap.refl s).mono o_
 | a::es,d,s=>by
  rw[cp,ak,c7];exact(BG hx J4 a d s).trans (yJ hx J4 es (d+1) _)
end
theorem Jf (hC:CxOk C)(hx:x.chain.length<=4)(line:Nat){g:Nat}(hg:bP C g)(d:Int)(s:Gs):Cap M 16 s (eS C x line g d s):=by obtain⟨h1,h2⟩:=cX hC hg;have h0:Cap M 0 s ⟨s.items,max s.most (bz C x+(localsOf C.p (g:Int)).length),s.start⟩:=⟨g_,id⟩;unfold eS;exact((h0.trans (tL _ hx _ _ _ _)).trans (vG _ hx _ _ _ _ _)).mono o_
theorem EG (hx:x.chain.length<=4)(line:Nat)(d:Int)(s:Gs):Cap M 1 s (ck C x line d s):=by
 unfold ck;split
 ·exact ce _ _ _ _ _ _ hx
 ·exact(Cap.refl s).mono o_
theorem vT (hx:x.chain.length<=4)(k:Nat)(last:Bool)(d:Int)(L:Ls):Cap M 1 L.g (bM C x k last d L).g:=by
 unfold bM;split
 ·split
  ·exact ce _ _ _ _ _ _ hx
  ·exact ce _ _ _ _ _ _ hx
 ·split
  ·exact(Cap.refl _).mono o_
  ·exact ce _ _ _ _ _ _ hx
theorem Hj (hx:x.chain.length<=4)(J4:∀g d s,bP C g->cK C ins g s.items.length=true->Cap M 0 s (rep x ins line g d s))(hC:CxOk C){k:Nat}{ln:NX}(hk:C.p[k]?=some ln)(he:bh ln.fae=true)(d:Int)(s:Gs):Cap M 20 s (dJ C rep x ins line (exL ln.fae) d s):=by have h1:=(nF he).2;have h2:=(hC.line _ _ hk).2.2.2.1;rw[h1]at h2;exact(BG hx J4 _ d s).mono h2
theorem HC (hx:x.chain.length<=4)(J4:∀line g d s,bP C g->cK C ins g s.items.length=true->Cap M 0 s (rep x ins line g d s))(hC:CxOk C){k:Nat}{ln:NX}(hk:C.p[k]?=some ln)(h0:ln.faa≠0)(base:Int)(L:Ls):Cap M 22 L.g (cZ C rep x ins base k ln L).g:=by
 unfold cZ;split
 ·exact((ce C L.g base 10 0 k hx).set (be _ _ _) fun h=>sQ h _ _).mono o_
 ·split
  ·split
   ·refine Cap.mono (n:=1+1) ?_ o_;exact(ce C L.g base 0 0 k hx).trans (vT hx k true (base+1) {L with g:=aI C L.g base 0 0 k x.chain})
   ·split
    ·exact(ce _ _ _ _ _ _ hx).mono o_
    ·exact(Cap.refl _).mono o_
  ·rename_i h4 h7;have hl:=hC.line _ _ hk
   have Pk:Cap M 20 L.g (dJ C rep x ins k (exL ln.fae) base ⟨L.g.items,L.g.most,true⟩):=by have:=Hj hx (fun g d s=>J4 k g d s) hC hk (hl.2.2.2.2 o_) base ⟨L.g.items,L.g.most,true⟩;exact⟨this.le,this.ch⟩
   split
   ·exact(Pk.trans (ce _ _ _ _ _ _ hx)).mono o_
   ·split
    ·exact(Pk.trans (ce _ _ _ _ _ _ hx)).mono o_
    ·split
     ·refine Cap.mono (n:=20+1) ?_ o_;exact Pk.trans (vT hx k false (base+1) {L with g:=dJ C rep x ins k (exL ln.fae) base ⟨L.g.items,L.g.most,true⟩,heads:=L.heads.set k L.g.items.length})
     ·exact(Pk.trans (ce _ _ _ _ _ _ hx)).mono o_
theorem Hv (k:Nat)(ln:NX)(L:Ls):Cap M 0 L.g (bJ C x k ln L).g:=by
 unfold bJ;split
 ·exact(Cap.refl _).set (be _ _ _) fun h=>sQ h _ _
 ·exact Cap.refl _
theorem DK (hx:x.chain.length<=4)(J4:∀line g d s,bP C g->cK C ins g s.items.length=true->Cap M 0 s (rep x ins line g d s))(hC:CxOk C)(base:Int):∀(n k:Nat) (L:Ls),(∀i y,k<=i->i<k+n->C.p[i]?=some y->y.faa≠0)->Cap M (n*22) L.g (fF C rep x ins base n k L).g
 | 0,k,L,_=>(Cap.refl _).mono o_
 | n+1,k,L,h=>by
  rw[fF];split
  ·rename_i ln hk;exact(((HC hx J4 hC hk (h k ln (d6 _) o_ hk) base L).trans (Hv k ln _)).trans (DK hx J4 hC base n (k+1) _ fun i y h1 h2 hy=>h i y o_ o_ hy)).mono o_
  ·exact(Cap.refl _).mono o_
theorem wu (hc:x.chain.length<=4)(J4:∀line g d s,bP C g->cK C ins g s.items.length=true->Cap M 0 s (rep x ins line g d s))(hC:CxOk C)(hx:ScOk C x ins)(base:Int)(s:Gs):Cap M ((cO C.p x.f-x.f)*22) s (bv C rep x ins base s).1:=by unfold bv;obtain⟨ln,h1,h2⟩:=hx.fn;obtain⟨e,h3,_,_,h4⟩:=hC.fn _ _ h1 h2;obtain⟨e',g3,_,_,g5,_⟩:=hx.endE hC;rw[h3]at g3;injection g3 with g3;subst g3;rw[g5];refine DK hc J4 hC base (e-x.f) (x.f+1) (dc C s) fun i y k1 k2 hy=>?_;exact V77
end
theorem Dg {C:Cx}(hC:CxOk C):∀(lev:Nat) {x:Sc} {ins:List Nat} (line g:Nat) (d:Int) (s:Gs),ScOk C x ins->bP C g->cK C ins g s.items.length=true->Cap (217+198*lev) 0 s (bY C lev x ins line g d s)
 | 0,x,ins,line,g,d,s,hx,hg,hr=>(Cap.refl s).mono o_
 | lev+1,x,ins,line,g,d,s,hx,hg,hr=>by
  obtain⟨r1,r2,r3,_⟩:=fW hr;have hin:=hC.inl;have O0:=hx.chain;have hy:=jz hC hx line hg;have h1:=Jf (M:=217) (x:=x) hC o_ line hg d s;have h2:=EG (C:=C) (M:=217) (x:=x) o_ line (d-argsN C.p g) (eS C x line g d s);have QL:=hy.chain;rw[c7,d5,gt]at QL;have h3:=wu (M:=217+198*lev) (rep:=bY C lev) o_ (fun line g d s hg hr=>Dg hC lev line g d s hy hg hr) hC hy (d-argsN C.p g) (ck C x line (d-argsN C.p g) (eS C x line g d s));obtain⟨e,e1,e2,e3,e4,_⟩:=hy.endE hC;have e5:bT C.p (g:Int)=(e:Int):=by rw[bA];exact aZ e1
  have e6:cO C.p (bS C x line g).f-(bS C x line g).f<=9:=by rw[e4];show e-g<=9;omega
  show Cap _ 0 s (kO C (bv C (bY C lev)) x ins line g d s);unfold kO;have l1:=zo hC hx o_ line hg d s;have l2:=tF (C:=C) x line (d-argsN C.p g) (eS C x line g d s);refine⟨?_,fun h=>zz _ _ (h3.ch (h2.ch (h1.ch h)))⟩;simp only[fY];have k3:=h3.le;have k1:=l1.le;have k2:=l2.le;omega
theorem GI {C:Cx}(hC:CxOk C){g:Nat}(hg:bP C g)(e5:C.args=argsN C.p g):(dg C g).items.length<=2500/\xY (dg C g).items:=by
 have hS:ScOk C (aQ C g) [g]:=⟨hg,rfl,⟨u9 _,by simp[aQ]⟩,rfl,by simp[aQ],fun _=>e5,rfl⟩;have hG:=wu (M:=217+198*C.b.faq.toNat) (rep:=bY C C.b.faq.toNat) (by simp[aQ]) (fun line g d s hg hr=>Dg hC _ line g d s hS hg hr) hC hS C.words (cV C g);obtain⟨e,e1,e2,e3,e4,_⟩:=hS.endE hC;have hl:=hC.len;have hin:=hC.inl;have hh:(cV C g).items.length=1:=by simp[cV,aI]
 have hk:=hG.le;refine⟨?_,hG.ch fun it OS=>?_⟩
 ·show(bv C (bY C C.b.faq.toNat) (aQ C g) [g] C.words (cV C g)).1.items.length<=2500;omega
 ·simp only[cV,aI,s8,d7,l8,or_false]at OS;subst OS;exact v4 _
theorem kV {p:List NX}{f:Int}{b:NP}(hs:aH 1048576 (.lst 4 (p.map NX.tr)))(h1:ah p=true)(h2:aY b=true)(h3:0<=f)(h4:f<(ay p).length):∃(g:Nat) (C:Cx),(ay p)[f.toNat]?=some g/\CxOk C/\C.p=foldIf p b/\C.b=b/\C.args=argsN C.p g/\C.framed=AH b.faC f/\bP C g/\aD p f b=(dg C g).items/\C.words=(dg (ctx (foldIf p b) f.toNat g b 0) g).most:=by
 obtain⟨f,rfl⟩:=j8 h3
 have hb:0<=b.faq/\b.faq<=3:=by exact V107
 obtain⟨g,hg⟩:=ae (l:=ay p) (k:=f) o_;have RL:=(nW hs h1).foldIf b;have Sz:(ay (foldIf p b))[f]?=some g:=by rw[kH];exact hg
 obtain⟨U0,y,hy,Pa⟩:=oq (d4 Sz);have Q0:=(RL.line g y hy).2.2.1;have ha:(0:Int)<=(argsN (foldIf p b) g:Int)/\(argsN (foldIf p b) g:Int)<=4:=by rw[argsN,hy];dsimp only;omega
 have Tq:CxOk (ctx (foldIf p b) f g b 0):=RL.cx ha o_ hb;have hm:=xe Tq ⟨y,hy,Pa⟩ rfl;have X7:CxOk (ctx (foldIf p b) f g b (dg (ctx (foldIf p b) f g b 0) g).most):=RL.cx ha hm hb;refine⟨g,_,by rw[d9];exact hg,X7,rfl,rfl,rfl,rfl,⟨y,hy,Pa⟩,?_,by rw[d9];rfl⟩;rw[aD,b9 ⟨h1,h2,h3,h4⟩,d9,nc,Sz]
theorem jy {p:List NX}{f:Int}{b:NP}(hs:aH 1048576 (.lst 4 (p.map NX.tr))):(aD p f b).length<=2500/\xY (aD p f b):=by
 by_cases hc:ah p=true/\aY b=true/\0<=f/\f<(ay p).length
 ·obtain⟨h1,h2,h3,h4⟩:=hc;obtain⟨g,C,_,k2,_,_,k5,_,k7,k8,_⟩:=kV hs h1 h2 h3 h4;rw[k8];exact GI k2 k7 k5
 ·rw[aD,b8 hc];exact⟨s_,fun it h=>by cases h⟩
end Go.Proofs.Ytoglejgmjeojoaa
namespace Go.Proofs.Ytoglejgmjeojoaa
open Go.Sim
set_option maxRecDepth 100000
set_option maxHeartbeats 4000000
def eX (c a:Int):Prop:=0<=c/\c<=17/\(c=0->-2147483648<=a/\a<=2147483647)/\(c=1\/c=2\/c=3\/c=4\/c=10\/c=11->-32768<=a/\a<=32767)/\(c=16->0<=a/\a<=65535)/\(c=12\/c=13\/c=14\/c=15->0<=a/\a<=255)/\(5<=c/\c<=9\/c=17->a=0)
def kF (C:Cx)(line:Int):Prop:=∃y,0<=line/\C.p[line.toNat]?=some y/\y.faa≠0
structure GoodI (C:Cx) (n:Nat) (it:NW):Prop where
 line:kF C it.fav
 jump:it.fad.fab=10\/it.fad.fab=11->0<=it.fad.faf/\it.fad.faf<=n
 op:¬(it.fad.fab=10\/it.fad.fab=11)->eX it.fad.fab it.fad.faf
 enter:it.fad.fab≠13
theorem GoodI.mono {C:Cx}{n m:Nat}{it:NW}(h:GoodI C n it)(hn:n<=m):GoodI C m it:=⟨h.line,fun k=>by have:=h.jump k;omega,h.op,h.enter⟩
def Nr (C:Cx)(g:Nat)(it:NW):Prop:=(it.fad.fab=13\/it.fad.fab=15)/\it.fav=g/\it.fad.faf=C.words
def InvI (C:Cx)(g:Nat)(l:List NW):Prop:=∃h t,l=h::t/\Nr C g h/\∀it∈t,GoodI C l.length it
def di (l:List NW)(i:Nat):Option Int:=(l[i]?).map (·.fad.fab)
def JP (l:List NW)(j:Int):Prop:=0<=j/\∃c,di l j.toNat=some c/\(c=10\/c=11)
structure Tr2 (C:Cx) (g:Nat) (a b:Gs):Prop where
 ext:∀i c,di a.items i=some c->di b.items i=some c
 inv:InvI C g a.items->InvI C g b.items
 most:a.most<=60->b.most<=60
theorem Tr2.refl {C:Cx}{g:Nat}(s:Gs):Tr2 C g s s:=⟨fun _ _ h=>h,id,id⟩
theorem Tr2.trans {C:Cx}{g:Nat}{a b c:Gs}(h:Tr2 C g a b)(h':Tr2 C g b c):Tr2 C g a c:=⟨fun i v x=>h'.ext i v (h.ext i v x),fun x=>h'.inv (h.inv x),fun x=>h'.most (h.most x)⟩
theorem yK {l:List NW}{i:Nat}{c:Int}(h:di l i=some c):i<l.length:=by
 unfold di at h
 cases hi:l[i]? with
 | none=>rw[hi]at h;cases h
 | some x=>exact aJ hi
theorem CY {l:List NW}{i:Nat}(h:i<l.length):∃c,di l i=some c:=by obtain⟨x,hx⟩:=ae h;exact⟨x.fad.fab,by rw[di,hx];rfl⟩
theorem JP.ext {a b:List NW}(h:∀i c,di a i=some c->di b i=some c){j:Int}(hj:JP a j):JP b j:=by obtain⟨h0,c,h1,h2⟩:=hj;exact⟨h0,c,h _ _ h1,h2⟩
theorem Tr2.len {C:Cx}{g:Nat}{a b:Gs}(h:Tr2 C g a b):a.items.length<=b.items.length:=by
 rcases B5 a.items.length with h0|h0
 ·omega
 ·obtain⟨c,hc⟩:=CY (l:=a.items) (i:=a.items.length-1) o_;have:=yK (h.ext _ _ hc);omega
theorem eE {C:Cx}{g:Nat}{s:Gs}{d code arg line:Int}{chain:List Int}(hl:kF C line)(h1:code=10\/code=11->0<=arg/\arg<=s.items.length)(h2:¬(code=10\/code=11)->eX code arg)(h3:code≠13):Tr2 C g s (aI C s d code arg line chain):=by
 refine⟨fun i c h=>?_,fun⟨h,t,e1,e2,e3⟩=>?_,id⟩
 ·have:=yK h;unfold di at h⊢;simp only[aI];rw[j7 this];exact h
 ·refine⟨h,t++[la C s d code arg line chain],by simp[aI,e1],e2,fun it OS=>?_⟩;have hn:s.items.length<=(aI C s d code arg line chain).items.length:=by simp[aI]
  rw[e7,s9]at OS;rcases OS with OS|rfl
  ·exact(e3 it OS).mono hn
  ·exact⟨hl,fun k=>by have:=h1 k;simp only[la];omega,h2,h3⟩
theorem tW {l:List NW}{j v:Int}(i:Nat):di (bD l j v) i=di l i:=by
 unfold bD;split
 ·split
  ·rename_i x hx;unfold di;by_cases h:j.toNat=i
   ·subst h;rw[v6 (aJ hx),hx];rfl
   ·rw[A7 h]
  ·rfl
 ·rfl
theorem Eg {C:Cx}{g:Nat}{l:List NW}{j:Int}(h:InvI C g l)(hj:JP l j):InvI C g (bD l j l.length):=by
 obtain⟨a,t,e1,e2,e3⟩:=h;obtain⟨h0,c,h1,h2⟩:=hj;unfold bD;rw[b9 h0]
 cases hx:l[j.toNat]? with
 | none=>simp only;exact⟨a,t,e1,e2,e3⟩
 | some x=>
  have hc:x.fad.fab=c:=by rw[di,hx]at h1;simpa using h1
  have Wa:j.toNat≠0:=by intro h;rw[h,e1]at hx;simp at hx;subst hx;have:=e2.1;omega
  obtain⟨m,hm⟩:∃m,j.toNat=m+1:=⟨j.toNat-1,o_⟩;rw[hm,e1,j6]at hx;have hg:=e3 x (d4 hx);refine⟨a,t.set m ⟨⟨x.fad.fab,l.length⟩,x.fav,x.fak,x.fay,x.fau,x.faz⟩,?_,e2,fun it OS=>?_⟩
  ·rw[e1,hm];rfl
  ·rw[o8];rcases u5 OS with OS|rfl
   ·exact e3 it OS
   ·exact⟨hg.line,fun _=>by simp only;omega,fun k=>absurd (by rw[hc];exact h2) k,hg.enter⟩
theorem sF {C:Cx}{g:Nat}{s:Gs}{j:Int}(hj:JP s.items j):Tr2 C g s ⟨bD s.items j s.items.length,s.most,s.start⟩:=
 ⟨fun i c h=>by rw[tW];exact h,fun h=>Eg h hj,id⟩
theorem yN {C:Cx}{g:Nat}:∀(js:List Int) {s:Gs},(∀j∈js,JP s.items j)->Tr2 C g s ⟨patchL s.items s.items.length js,s.most,s.start⟩
 | [],s,_=>Tr2.refl s
 | j::js,s,h=>by
  have h1:=sF (C:=C) (g:=g) (s:=s) (h j s_);have h2:=yN (C:=C) (g:=g) js (s:=⟨bD s.items j s.items.length,s.most,s.start⟩) fun i hi=>(h i (by simp[hi])).ext h1.ext;simp only[be]at h2;exact h1.trans h2
theorem Ag {C:Cx}{s:Gs}{d code arg line:Int}{chain:List Int}(h:code=10\/code=11):JP (aI C s d code arg line chain).items (s.items.length:Int):=by refine⟨o_,code,?_,h⟩;rw[di,d9];simp[aI,la]
theorem ve:∀(es:List Ex),es.length<=(ak es).length
 | []=>v4 _
 | a::es=>by
  have:=ve es;have:=a.toks_pos;rw[ak,c7,d5];omega
section
variable {C:Cx} {x:Sc} {ins:List Nat} {rep:Sc->List Nat->Nat->Nat->Int->Gs->Gs} {line:Nat} {G:Nat}
theorem xG (hC:CxOk C){y:Sc}(hf:0<=y.first/\y.first<=200){d i:Int}(hd:-100<=d/\d<=2000)(hi:-2<=i/\i<=100)(store:Bool):¬(cM C store=10\/cM C store=11)/\cM C store≠13/\eX (cM C store) (db C y d i):=by
 have ha:=hC.args;have hk:kq C y i≥-10/\kq C y i<=400:=by unfold kq;split<;>omega
 have hc:1<=cM C store/\cM C store<=4:=by unfold cM;split<;>split<;>omega
 have hA:-10000<=db C y d i/\db C y d i<=10000:=by unfold db;repeat' split<;>omega
 unfold eX;omega
theorem KH (hC:CxOk C){y:Sc}(hf:0<=y.first/\y.first<=200){d i line:Int}(hd:-100<=d/\d<=2000)(hi:-2<=i/\i<=100)(hl:kF C line)(s:Gs):Tr2 C G s (FP C y s d i line):=by obtain⟨h1,h2,h3⟩:=xG hC hf hd hi false;exact eE hl (fun k=>absurd k h1) (fun _=>h3) h2
theorem wd (hC:CxOk C){y:Sc}(hf:0<=y.first/\y.first<=200){d i line:Int}(hd:-100<=d/\d<=2000)(hi:-2<=i/\i<=100)(hl:kF C line)(s:Gs)(chain:List Int):Tr2 C G s (dL C y s d i line chain):=by obtain⟨h1,h2,h3⟩:=xG hC hf hd hi true;exact eE hl (fun k=>absurd k h1) (fun _=>h3) h2
theorem zs:eX 0 0:=by unfold eX;omega
theorem yY (hC:CxOk C){y:Sc}(hf:0<=y.first/\y.first<=200){chain:List Int}{line:Int}(hl:kF C line):∀(n:Nat) (d:Int) (s:Gs),n<=50->-100<=d-n->d<=2000->Tr2 C G s (bR C y chain line n d s)
 | 0,d,s,_,_,_=>Tr2.refl s
 | n+1,d,s,h0,h1,h2=>by
  rw[bR];exact(wd hC hf o_ o_ hl s chain).trans (yY hC hf hl n (d-1) _ o_ o_ o_)
theorem DQ (hC:CxOk C){y:Sc}(hf:0<=y.first/\y.first<=200){chain:List Int}{line d:Int}(hl:kF C line)(hd:-100<=d/\d<=1999):∀(n i:Nat) (s:Gs),i+n<=50->Tr2 C G s (cL C y chain line d n i s)
 | 0,i,s,_=>Tr2.refl s
 | n+1,i,s,h=>by
  rw[cL];exact((eE hl (fun k=>by omega) (fun _=>zs) o_).trans (wd hC hf o_ o_ hl _ chain)).trans (DQ hC hf hl hd n (i+1) _ o_)
def EN (C:Cx)(rep:Sc->List Nat->Nat->Nat->Int->Gs->Gs)(G:Nat)(x:Sc)(ins:List Nat):Prop:=
 ∀(line g:Nat) (d:Int) (s:Gs),kF C line->bP C g->-10*(ins.length:Int)<=d->d<=1000+30*ins.length+21->cK C ins g s.items.length=true->Tr2 C G s (rep x ins line g d s)
theorem V110{p:Prop}(h:p:=by
 exact eE hl (fun k=>by omega) (fun _=>by unfold eX;omega) o_):p:=h
theorem MO (hC:CxOk C)(hx:ScOk C x ins)(hi:ins.length<=4)(J4:EN C rep G x ins)(hl:kF C line){t:Og}(ht:fZ t=true){d:Int}(h1:-10*(ins.length:Int)<=d)(h2:d<=1000+30*ins.length+21)(s:Gs):Tr2 C G s (jv C rep x ins line t d s):=by
 obtain⟨e,e1,e2,e3,e4,e5⟩:=hx.endE hC;have PZ:=hx.first;have UJ:=rC x.locals t.fac;unfold fZ at ht;unfold jv;split
 ·rename_i h0;rw[b9 h0]at ht;simp only[c8,within_iff]at ht;exact V110
 ·rename_i h0;rw[b8 h0]at ht;split
  ·exact KH hC o_ o_ o_ hl s
  ·rename_i h1;split
   ·split
    ·rename_i g hg;obtain⟨_,ln,k1,k2,_⟩:=eL hg;split
     ·rename_i hr;exact J4 line g d s hl ⟨ln,k1,k2⟩ o_ o_ hr
     ·have hn:=CP C.p g;have:=aJ k1;have:=hC.len;exact V110
    ·exact Tr2.refl s
   ·rename_i h7;rw[b8 h7,b8 h1]at ht;simp only[c8,within_iff]at ht;exact V110
mutual
theorem FM (hC:CxOk C)(hx:ScOk C x ins)(hi:ins.length<=4)(J4:EN C rep G x ins)(hl:kF C line):∀(e:Ex) (d:Int) (s:Gs),e.ok->-10*(ins.length:Int)<=d->d+e.toks.length<=1000+30*ins.length+21->Tr2 C G s (dJ C rep x ins line e d s)
 | .node t es,d,s,h,h1,h2=>by
  rw[Ex.toks,d5]at h2;rw[dJ];have L3:=ve es;exact(CB hC hx hi J4 hl es d s h.2.2 h1 o_).trans (MO hC hx hi J4 hl h.1 o_ o_ _)
theorem CB (hC:CxOk C)(hx:ScOk C x ins)(hi:ins.length<=4)(J4:EN C rep G x ins)(hl:kF C line):∀(es:List Ex) (d:Int) (s:Gs),ig es->-10*(ins.length:Int)<=d->d+(ak es).length<=1000+30*ins.length+21->Tr2 C G s (cp C rep x ins line es d s)
 | [],d,s,_,_,_=>by rw[cp];exact Tr2.refl s
 | a::es,d,s,h,h1,h2=>by
  rw[ak,c7]at h2;rw[cp];have hp:=a.toks_pos;exact(FM hC hx hi J4 hl a d s h.1 h1 o_).trans (CB hC hx hi J4 hl es (d+1) _ h.2 o_ o_)
end
theorem Jx (hl:kF C line)(x:Sc)(d:Int)(s:Gs):Tr2 C G s (ck C x line d s):=by
 unfold ck;split
 ·exact V110
 ·exact Tr2.refl s
theorem Nk (hC:CxOk C)(hx:ScOk C x ins)(hi:ins.length<=3)(hl:kF C line){g:Nat}(hg:bP C g){d:Int}(h1:-10*(ins.length:Int)<=d)(h2:d<=1000+30*ins.length+21)(s:Gs):Tr2 C G s (eS C x line g d s):=by obtain⟨k1,k2⟩:=cX hC hg;have hy:=jz hC hx line hg;have hf:=hy.first;rw[c7,d5,gt]at hf;have ht:=nN hC hx;have ha:=hC.argsN g;have h0:Tr2 C G s ⟨s.items,max s.most (bz C x+(localsOf C.p (g:Int)).length),s.start⟩:=⟨fun _ _ h=>h,id,fun h=>by dsimp only;omega⟩;unfold eS;exact(h0.trans (yY hC o_ hl _ d _ o_ o_ o_)).trans (DQ hC o_ hl o_ _ _ _ o_)
structure LsI (C:Cx) (G f k:Nat) (g0:Gs) (L:Ls):Prop where
 tr:Tr2 C G g0 L.g
 heads:∀v∈L.heads,0<=v/\v<=L.g.items.length
 pos:∀i,f+1<=i->i<k->jumps C.p i->JP L.g.items (atL L.pos i)
 lv:∀j∈L.lv,JP L.g.items j
 len:L.pos.length=C.p.length
theorem LsI.step {f k k':Nat}{g0:Gs}{L L':Ls}(h:LsI C G f k g0 L)(ht:Tr2 C G L.g L'.g)(hh:∀v∈L'.heads,v∈L.heads\/(0<=v/\v<=L'.g.items.length))(hp:∀i,f+1<=i->i<k'->jumps C.p i->(i<k/\atL L'.pos i=atL L.pos i)\/JP L'.g.items (atL L'.pos i))(hv:∀j∈L'.lv,j∈L.lv\/JP L'.g.items j)(hl:L'.pos.length=L.pos.length):LsI C G f k' g0 L':=by
 have L3:=ht.len;refine⟨h.tr.trans ht,fun v hv=>?_,fun i h1 h2 h3=>?_,fun j hj=>?_,by rw[hl,h.len]⟩
 ·rcases hh v hv with h1|h1
  ·have:=h.heads v h1;omega
  ·exact h1
 ·rcases hp i h1 h2 h3 with⟨k1,k2⟩|k1
  ·rw[k2];exact(h.pos i h1 k1 h3).ext ht.ext
  ·exact k1
 ·rcases hv j hj with h1|h1
  ·exact(h.lv j h1).ext ht.ext
  ·exact h1
theorem LsI.same {f k:Nat}{g0:Gs}{L L':Ls}(h:LsI C G f k g0 L)(ht:Tr2 C G L.g L'.g)(e1:L'.heads=L.heads)(e2:L'.pos=L.pos)(e3:L'.lv=L.lv):LsI C G f k g0 L':=
 h.step ht (fun v hv=> .inl (by rw[<-e1];exact hv)) (fun i _ h2 _=> .inl ⟨h2,by rw[e2]⟩) (fun j hj=> .inl (by rw[<-e3];exact hj)) (by rw[e2])
theorem LsI.next {f k:Nat}{g0:Gs}{L:Ls}(h:LsI C G f k g0 L)(hj:¬jumps C.p k):LsI C G f (k+1) g0 L:=
 h.step (Tr2.refl _) (fun v hv=> .inl hv) (fun i h1 h2 h3=> .inl ⟨by
  rcases m6 i k with h|h
  ·exact h
  ·rw[show i=k by omega]at h3;exact absurd h3 hj,rfl⟩) (fun j hj=> .inl hj) rfl
theorem DB (hC:CxOk C)(hw:C.words<=255){f k k':Nat}{g0:Gs}{L:Ls}(hl:kF C (k':Int))(last:Bool)(d:Int)(h:LsI C G f k g0 L):LsI C G f k g0 (bM C x k' last d L):=by
 have ha:=hC.args;have TZ:=hC.words;unfold bM;split
 ·split
  ·exact h.same (eE hl (fun k=>by omega) (fun _=>by unfold eX;omega) o_) rfl rfl rfl
  ·exact h.same (eE hl (fun k=>by omega) (fun _=>by unfold eX;omega) o_) rfl rfl rfl
 ·split
  ·exact h
  ·refine h.step (eE hl (fun k=>by omega) (fun k=>by omega) o_) (fun v hv=> .inl hv) (fun i _ h2 _=> .inl ⟨h2,rfl⟩) (fun j hj=>?_) rfl;simp only[e7,s9]at hj;rcases hj with hj|rfl
   ·exact .inl hj
   ·exact .inr (Ag (.inl rfl))
theorem GG {l:List Int}{n:Int}(h:∀v∈l,0<=v/\v<=n)(hn:0<=n)(k:Nat):0<=atL l k/\atL l k<=n:=by
 unfold atL
 cases hk:l[k]? with
 | none=>simp only[Option.getD];omega
 | some v=>exact h v (d4 hk)
theorem Kp (hC:CxOk C)(hw:C.words<=255)(hx:ScOk C x ins)(hi:ins.length<=4)(J4:EN C rep G x ins){e:Nat}(he:endAt C.p x.f=some e){k:Nat}{ln:NX}(hk:C.p[k]?=some ln)(h0:ln.faa≠0)(Oy:x.f<k)(N7:k<=e){base:Int}(OU:-10*(ins.length:Int)<=base)(Oo:base<=1000+30*ins.length){g0:Gs}{L:Ls}(h:LsI C G x.f k g0 L):LsI C G x.f (k+1) g0 (cZ C rep x ins base k ln L):=by
 have hl:kF C (k:Int):=⟨ln,o_,by rw[d9];exact hk,h0⟩;have Om:k<C.p.length:=aJ hk;have Qr:=aL hk;unfold cZ;split
 ·rename_i h4;obtain⟨o1,o2,o3,o4⟩:=hx.own4 hC he Oy N7 hk h4;obtain⟨y,_,hy,hy3,_⟩:=aV o1;have hJ:=h.pos (ownOf C.p k) o2 o3 (.inl (by rw[aL hy];exact hy3));have t1:Tr2 C G L.g (aI C L.g base 10 0 k x.chain):=eE hl (fun _=>by omega) (fun k=>by omega) o_;have t2:=sF (C:=C) (g:=G) (hJ.ext t1.ext);refine h.step (t1.trans t2) (fun v hv=> .inl hv) (fun i h1 h2 h3=>?_) (fun j hj=> .inl hj) s_;by_cases Po:i=k
  ·subst Po;refine .inr ?_;rw[iW (by rw[h.len];exact Om)];exact JP.ext t2.ext (Ag (.inl rfl))
  ·exact .inl ⟨o_,jt Po⟩
 ·rename_i h4;split
  ·rename_i h7;have SS:¬jumps C.p k:=by unfold jumps;rw[Qr];omega
   split
   ·exact(DB hC hw (x:=x) hl true (base+1) (h.same (L':={L with g:=aI C L.g base 0 0 k x.chain}) (eE hl (fun k=>by omega) (fun _=>zs) o_) rfl rfl rfl)).next SS
   ·split
    ·have hh:=GG h.heads o_ (ownOf C.p k);exact(h.same (L':={L with g:=aI C L.g base 10 (atL L.heads (ownOf C.p k)) k x.chain}) (eE hl (fun _=>hh) (fun k=>by omega) o_) rfl rfl rfl).next SS
    ·exact h.next SS
  ·rename_i h7;have SD:=hC.line _ _ hk;have VY:=nF (SD.2.2.2.2 o_);have Pk:=SD.2.2.2.1;rw[VY.2]at Pk
   have tg:Tr2 C G L.g (dJ C rep x ins k (exL ln.fae) base ⟨L.g.items,L.g.most,true⟩):=by have:=FM hC hx hi J4 hl (exL ln.fae) base ⟨L.g.items,L.g.most,true⟩ VY.1 OU o_;exact⟨this.ext,this.inv,this.most⟩
   have Sw:LsI C G x.f k g0 {L with g:=dJ C rep x ins k (exL ln.fae) base ⟨L.g.items,L.g.most,true⟩,heads:=L.heads.set k L.g.items.length}:=by
    refine h.step tg (fun v hv=>?_) (fun i _ h2 _=> .inl ⟨h2,rfl⟩) (fun j hj=> .inl hj) rfl;rcases u5 hv with hv|rfl
    ·exact .inl hv
    ·exact .inr ⟨o_,by have:=tg.len;simp only;omega⟩
   have UJ:=rC x.locals ln.fac;obtain⟨_,_,_,_,_,e5⟩:=hx.endE hC;have PZ:=hx.first;generalize dJ C rep x ins k (exL ln.fae) base ⟨L.g.items,L.g.most,true⟩=GE at tg Sw⊢;split
   ·rename_i k1;have SS:¬jumps C.p k:=by unfold jumps;rw[Qr];omega
    have t2:Tr2 C G GE (dL C x GE (base+1) (dy x.locals ln.fac) k x.chain):=wd hC o_ o_ o_ hl _ _;exact(Sw.same (L':={L with g:=dL C x GE (base+1) (dy x.locals ln.fac) k x.chain,heads:=L.heads.set k L.g.items.length}) t2 rfl rfl rfl).next SS
   ·split
    ·rename_i k2;have SS:¬jumps C.p k:=by unfold jumps;rw[Qr];omega
     have t2:Tr2 C G GE (aI C GE (base+1) 17 0 k x.chain):=eE hl (fun k=>by omega) (fun _=>by unfold eX;omega) o_;exact(Sw.same (L':={L with g:=aI C GE (base+1) 17 0 k x.chain,heads:=L.heads.set k L.g.items.length}) t2 rfl rfl rfl).next SS
    ·split
     ·rename_i k6;have SS:¬jumps C.p k:=by unfold jumps;rw[Qr];omega
      exact(DB hC hw (x:=x) hl false (base+1) Sw).next SS
     ·refine Sw.step (eE hl (fun _=>by omega) (fun k=>by omega) o_) (fun v hv=> .inl hv) (fun i h1 h2 h3=>?_) (fun j hj=> .inl hj) s_;by_cases Po:i=k
      ·subst Po;refine .inr ?_;rw[iW (by rw[h.len];exact Om)];exact Ag (.inr rfl)
      ·exact .inl ⟨o_,jt Po⟩
theorem Kl (hC:CxOk C)(hx:ScOk C x ins){e:Nat}(he:endAt C.p x.f=some e){k:Nat}{ln:NX}(hk:C.p[k]?=some ln)(Oy:x.f<k)(N7:k<=e){g0:Gs}{L:Ls}(h:LsI C G x.f (k+1) g0 L):LsI C G x.f (k+1) g0 (bJ C x k ln L):=by
 unfold bJ;split
 ·rename_i h7
  have M9:k≠e:=fun hh=>by
   rcases(hx.own7 hC he Oy N7 hk h7.1).2 with⟨_,o⟩|⟨o,_⟩
   ·exact h7.2 o
   ·omega
  obtain⟨k1,k2,k3,_,_⟩:=Ai hC hx he Oy o_ hk h7.1;exact h.same (sF (h.pos _ k1 o_ k3)) rfl rfl rfl
 ·exact h
theorem Fu (hC:CxOk C)(hw:C.words<=255)(hx:ScOk C x ins)(hi:ins.length<=4)(J4:EN C rep G x ins){e:Nat}(he:endAt C.p x.f=some e){base:Int}(OU:-10*(ins.length:Int)<=base)(Oo:base<=1000+30*ins.length)(h0:∀i y,x.f<i->i<=e->C.p[i]?=some y->y.faa≠0){g0:Gs}:∀(n k:Nat) (L:Ls),x.f<k->k+n=e+1->LsI C G x.f k g0 L->LsI C G x.f (e+1) g0 (fF C rep x ins base n k L)
 | 0,k,L,_,h2,h=>by rw[fF,<-h2];exact h
 | n+1,k,L,h1,h2,h=>by
  obtain⟨_,_,_,_,_,N1⟩:=aM he;obtain⟨ln,hk⟩:=ae (l:=C.p) (k:=k) o_;rw[fF,hk];exact Fu hC hw hx hi J4 he OU Oo h0 n (k+1) _ o_ o_ (Kl hC hx he hk h1 o_ (Kp hC hw hx hi J4 he hk (h0 k ln h1 o_ hk) h1 o_ OU Oo h))
theorem zv (hC:CxOk C)(hw:C.words<=255)(hx:ScOk C x ins)(hi:ins.length<=4)(J4:EN C rep G x ins){base:Int}(OU:-10*(ins.length:Int)<=base)(Oo:base<=1000+30*ins.length)(s:Gs):Tr2 C G s (bv C rep x ins base s).1/\∀j∈(bv C rep x ins base s).2,JP (bv C rep x ins base s).1.items j:=by
 obtain⟨ln,h1,h2⟩:=hx.fn;obtain⟨e,h3,_,_,h4⟩:=hC.fn _ _ h1 h2;obtain⟨e',g3,g4,Us,g5,_⟩:=hx.endE hC;rw[h3]at g3;injection g3 with g3;subst g3
 have h:=Fu hC hw hx hi J4 h3 OU Oo (fun i y k1 k2 hy=>by
  by_cases Pi:i=e
  ·subst Pi;obtain⟨z,hz,h7⟩:=bp h3;rw[hy]at hz;injection hz with hz;subst hz;omega
  ·exact(h4 i y o_ o_ hy).1) (g0:=s) (e-x.f) (x.f+1) (dc C s) o_ o_ ⟨Tr2.refl s,fun v hv=>by
   simp only[dc,D4]at hv
   omega,fun i k1 k2 _=>by omega,fun j hj=>(by cases hj),by simp[dc]⟩
 unfold bv;rw[g5];exact⟨h.tr,h.lv⟩
end
theorem FJ {C:Cx}{G:Nat}(hC:CxOk C)(hw:C.words<=255):∀(lev:Nat) {x:Sc} {ins:List Nat},ScOk C x ins->EN C (bY C lev) G x ins
 | 0,x,ins,hx,line,g,d,s,_,_,_,_,_=>Tr2.refl s
 | lev+1,x,ins,hx,line,g,d,s,hl,hg,h1,h2,hr=>by
  obtain⟨r1,r2,r3,_⟩:=fW hr;have hin:=hC.inl;have hy:=jz hC hx line hg;have ha:=hC.argsN g;have OH:(ins++[g]).length=ins.length+1:=s_;have t1:=Nk (G:=G) hC hx o_ hl hg h1 h2 s;have t2:=Jx (G:=G) hl x (d-argsN C.p g) (eS C x line g d s);have t3:=zv (G:=G) hC hw hy o_ (FJ hC hw lev hy) (base:=d-argsN C.p g) o_ o_ (ck C x line (d-argsN C.p g) (eS C x line g d s));exact((t1.trans t2).trans t3.1).trans (yN _ t3.2)
theorem vD {C:Cx}(hC:CxOk C)(hw:C.words<=255){g:Nat}(hg:bP C g)(e5:C.args=argsN C.p g):InvI C g (dg C g).items/\(dg C g).most<=60:=by
 have hS:ScOk C (aQ C g) [g]:=⟨hg,rfl,⟨u9 _,by simp[aQ]⟩,rfl,by simp[aQ],fun _=>e5,rfl⟩;have TZ:=hC.words;have t:=(zv (G:=g) hC hw hS s_ (FJ hC hw C.b.faq.toNat hS) (base:=C.words) (by simp only[d5,gt];omega) (by simp only[d5,gt];omega) (cV C g)).1;obtain⟨l1,l2⟩:=cX hC hg;refine⟨t.inv ⟨_,[],rfl,⟨?_,rfl,rfl⟩,fun it h=>by cases h⟩,t.most ?_⟩
 ·simp only[la];split<;>omega
 ·show(localsOf C.p (g:Int)).length-C.args<=60;omega
theorem rh {p:List NX}{f:Int}{b:NP}(hs:aH 1048576 (.lst 4 (p.map NX.tr)))(h1:ah p=true)(h2:aY b=true)(h3:0<=f)(h4:f<(ay p).length):∃(g:Nat) (C:Cx),(ay p)[f.toNat]?=some g/\C.p=foldIf p b/\0<=C.words/\C.words<=255/\InvI C g (aD p f b):=by
 obtain⟨g,C,k1,k2,k3,k4,k5,k6,k7,k8,k9⟩:=kV hs h1 h2 h3 h4
 have hb:0<=b.faq/\b.faq<=3:=by exact V107
 have RL:=(nW hs h1).foldIf b;have ha:(0:Int)<=(argsN (foldIf p b) g:Int)/\(argsN (foldIf p b) g:Int)<=4:=by have:=k2.argsN g;rw[k3]at this;omega
 have Tq:CxOk (ctx (foldIf p b) f.toNat g b 0):=RL.cx ha o_ hb;obtain⟨y,y1,y2⟩:=k7;have ST:bP (ctx (foldIf p b) f.toNat g b 0) g:=⟨y,by rw[k3]at y1;exact y1,y2⟩;have Rb:=(vD Tq (by show(0:Int)<=255;omega) ST rfl).2;have hw:=k2.words;refine⟨g,C,k1,k3,hw.1,o_,?_⟩;rw[k8];exact(vD k2 o_ ⟨y,y1,y2⟩ k5).1
end Go.Proofs.Ytoglejgmjeojoaa
namespace Go.Proofs.Ytoglejgmjeojoaa
open Go.Sim
set_option maxRecDepth 100000
set_option maxHeartbeats 4000000
theorem vJ {α:Type}{g:α->List Tr}{L:Int}:∀{l:List α},(∀x∈l,aR L (g x))->gR L (l.map g)
 | [],_=>by rw[D5,gR];trivial
 | x::l,h=>by
  rw[p7,gR];exact⟨h x s_,vJ fun y hy=>h y (by simp[hy])⟩
theorem jH {α:Type}{g:α->List Tr}{l:List α}{sz:Nat}(hl:l.length<=1048576)(h:∀x∈l,aR 1048576 (g x)):aH 1048576 (.lst sz (l.map g)):=by rw[aH];exact⟨by simp;omega,vJ h⟩
theorem xU {l:List Int}(hl:l.length<=1048576):aH 1048576 (.lst 1 (l.map aa)):=jH hl fun x _=>by simp[aa,aR,aH]
def bc (c:Int):Int×Bool:=
 if c=0 then(4,true)else if c=1\/c=2\/c=3\/c=4\/c=10\/c=11 then(2,true)
 else if c=16 then(2,false)else if c=12\/c=13\/c=14\/c=15 then(1,false)else(0,false)
def aN (c:Int):Int:=if af c 0 17 then(bc c).1+1 else 0
theorem dV (c:Int):0<=(bc c).1/\(bc c).1<=4:=by
 unfold bc;repeat' split
 all_goals simp
theorem jG (c:Int):0<=aN c/\aN c<=5:=by have:=dV c;unfold aN;split<;>omega
abbrev LI (c:Int):Res:= .tup [.c (.t (.int .i64 (bc c).1)),.c (.t (.bool (bc c).2))]
theorem V72{p:Prop}(h:p:=by
 repeat' ((conv=>whnf);first|refine Or.inl ?_|apply oi|apply fi|intro h|refine⟨_,rfl,?_⟩|exact Y1|fail)
 all_goals(refine⟨?_⟩;simp_all[bc])):p:=h
theorem mA (c:Int):Sim.Spec Try.prog 56 [tvI c] (LI c):=by refine aG hΓ aK Try.func56 rfl d_ rfl ?_;exact V72
theorem fS (c:Int):Sim.Spec Try.prog 80 [tvI c] (LI c):=by refine aG hΓ aK Try.func80 rfl d_ rfl ?_;exact V72
theorem V59{p:Prop}(h:p:=by
 rw[hw]at hb
 repeat' ((conv=>whnf);first|refine Or.inl ?_|apply oi|apply fi|intro h|refine ci hb (ai rfl (ai rfl (ai rfl trivial))) ?_|refine⟨_,rfl,?_⟩|exact Y1|fail)):p:=h
theorem xX (c:Int):Sim.Spec Try.prog 55 [tvI c] (rI (aN c)):=by
 refine aG hΓ aK Try.func55 rfl d_ rfl ?_;have hb:=bL c 0 17;have ha:=mA c;have L3:=dV c;unfold aN
 cases hw:af c 0 17 with
 | false=>exact V59
 | true=>
  rw[hw]at hb;repeat' ((conv=>whnf);first|refine Or.inl ?_|apply oi|apply fi|intro h|refine ci hb (ai rfl (ai rfl (ai rfl trivial))) ?_|refine ci ha (ai rfl trivial) ?_|refine⟨_,rfl,?_⟩|exact Y1|fail)
  exact⟨by rw[c9 _ o_];rfl⟩
theorem oW (c:Int):Sim.Spec Try.prog 78 [tvI c] (rI (aN c)):=by
 refine aG hΓ aK Try.func78 rfl d_ rfl ?_;have hb:=bd c 0 17;have ha:=fS c;have L3:=dV c;unfold aN
 cases hw:af c 0 17 with
 | false=>exact V59
 | true=>
  rw[hw]at hb;repeat' ((conv=>whnf);first|refine Or.inl ?_|apply oi|apply fi|intro h|refine ci hb (ai rfl (ai rfl (ai rfl trivial))) ?_|refine ci ha (ai rfl trivial) ?_|refine⟨_,rfl,?_⟩|exact Y1|fail)
  exact⟨by rw[c9 _ o_,Int.add_comm];rfl⟩
def My (l:List Oa):Bool:=l.all fun x=>af x.fat 0 1000000
def jk (x:Oa):Oc:=⟨x.fat,x.fat+aN x.fai.fad.fab,x.fai.faz,x.fai.fau⟩
def Jm (r s:Oc):Bool:=r.fax==s.fak&&(r.faD==s.faD&&r.fau==s.fau)
def nY (acc:List Oc)(s:Oc):List Oc:=match acc.getLast? with
 | some r=>if Jm r s then acc.dropLast++[⟨r.fak,s.fax,r.faD,r.fau⟩]else acc++[s]
 | none=>[s]
def kP (l:List Oa):List Oc:=if My l then l.foldl (fun a x=>nY a (jk x)) []else []
theorem Ds {α:Type}(l:List α):l=[]\/∃ini r,l=ini++[r]:=by
 rcases List.eq_nil_or_concat l with h|⟨a,b,h⟩
 ·exact .inl h
 ·exact .inr ⟨a,b,by rw[h,List.concat_eq_append]⟩
theorem Ac (ini:List Oc)(r s:Oc):nY (ini++[r]) s=if Jm r s then ini++[⟨r.fak,s.fax,r.faD,r.fau⟩]else ini++[r]++[s]:=by simp[nY]
def bK:Int->List NW->List Int
 | at0,[]=>[at0]
 | at0,x::l=>at0::bK (at0+aN x.fad.fab) l
def zO (at0:Int)(l:List NW):Int:=atL (bK at0 l) l.length
def qj (x:NW)(a:Int):NW:=⟨⟨x.fad.fab,a⟩,x.fav,x.fak,x.fay,x.fau,x.faz⟩
def pz (x:NW):Bool:=x.fad.fab==10||x.fad.fab==11
def ep (st:List Int)(k:Nat)(x:NW):NW:=if pz x=true then qj x (atL st x.fad.faf.toNat-atL st (k+1))else x
def nZ (st:List Int):Nat->List NW->List Oa
 | _,[]=>[]
 | k,x::l=>⟨atL st k,ep st k x⟩::nZ st (k+1) l
def iN (l:List NW)(at0:Int):List Oa:=nZ (bK at0 l) 0 l
theorem uu:∀(at0:Int) (l:List NW),(bK at0 l).length=l.length+1
 | _,[]=>rfl
 | at0,x::l=>by rw[bK,d5,uu,d5]
theorem gk (at0:Int)(l:List NW):atL (bK at0 l) 0=at0:=by cases l<;>rfl
theorem wz (a:Int)(l:List Int)(k:Nat):atL (a::l) (k+1)=atL l k:=by simp[atL]
theorem gK:∀{at0:Int} {l:List NW} {k:Nat} {x:NW},l[k]?=some x->atL (bK at0 l) (k+1)=atL (bK at0 l) k+aN x.fad.fab
 | _,[],_,_,h=>by simp at h
 | at0,y::l,0,x,h=>by
  rw[e9]at h;injection h with h;subst h;rw[bK,wz,gk]
  rfl
 | at0,y::l,k+1,x,h=>by
  rw[j6]at h;rw[bK,wz,wz,gK h]
theorem ke {at0:Int}{l:List NW}:∀{k:Nat},k<=l.length->at0<=atL (bK at0 l) k/\atL (bK at0 l) k<=at0+5*k
 | 0,_=>by rw[gk];omega
 | k+1,h=>by
  obtain⟨x,hx⟩:=ae (l:=l) (k:=k) o_;have:=ke (at0:=at0) (l:=l) (k:=k) o_;have:=jG x.fad.fab;rw[gK hx];omega
theorem Bg {l:List Int}{k:Nat}(h:k<l.length):l[k]?=some (atL l k):=by obtain⟨x,hx⟩:=ae h;rw[atL,hx];rfl
theorem dF {α:Type}{l:List α}{k:Nat}{x:α}(h:l[k]?=some x):l.take (k+1)=l.take k++[x]:=by rw[z9,h];rfl
theorem tK (st:List Int):∀(k:Nat) (l:List NW),(nZ st k l).length=l.length
 | _,[]=>rfl
 | k,x::l=>by rw[nZ,d5,tK,d5]
theorem tU (st:List Int):∀{l:List NW} {j k:Nat} {x:NW},l[j]?=some x->(nZ st k l)[j]?=some ⟨atL st (k+j),ep st (k+j) x⟩
 | [],_,_,_,h=>by simp at h
 | y::l,0,k,x,h=>by
  rw[e9]at h;injection h with h;subst h
  rfl
 | y::l,j+1,k,x,h=>by
  rw[j6]at h;rw[nZ,j6,tU st h,show k+1+j=k+(j+1) by omega]
theorem eb (l:List NW)(at0:Int):(iN l at0).length=l.length:=tK _ _ _
theorem fo {l:List NW}{at0:Int}{j:Nat}{x:NW}(h:l[j]?=some x):(iN l at0)[j]?=some ⟨atL (bK at0 l) j,ep (bK at0 l) j x⟩:=by have:=tU (bK at0 l) (k:=0) h;rwa [s5]at this
def Gr (l:List NW):Prop:=∀x∈l,pz x=true->0<=x.fad.faf/\x.fad.faf<=l.length
theorem isJump_iff {x:NW}:pz x=true↔x.fad.fab=10\/x.fad.fab=11:=by simp[pz]
def ut (b:NP)(image:Int)(f:Nat):Bool:=if b.faF=true then(f:Int)%2==image else image==0
noncomputable def cn (p:List NX) (b:NP) (image:Int):Nat->Nat->Int->List (Nat×List Oa)
 | 0,_,_=>[]
 | n+1,f,at0=>if ut b image f=true then(f,iN (aD p f b) at0)::cn p b image n (f+1) (zO at0 (aD p f b))else cn p b image n (f+1) at0
noncomputable def cf (p:List NX) (b:NP) (image:Int):List Oa:=
 if ah p=true/\aY b=true/\af image 0 1=true then((cn p b image (ay p).length 0 0).map Prod.snd).flatten else []
structure FnOk (p:List NX) (b:NP) (f:Nat):Prop where
 pos:0<(aD p f b).length
 len:(aD p f b).length<=2500
 jmp:Gr (aD p f b)
theorem InvI.jumps {C:Cx}{g:Nat}{l:List NW}(h:InvI C g l):0<l.length/\Gr l:=by
 obtain⟨a,t,rfl,h2,h3⟩:=h;refine⟨s_,fun x hx hj=>?_⟩;rw[isJump_iff]at hj;rcases d7.1 hx with rfl|hx
 ·have:=h2.1;omega
 ·exact(h3 x hx).jump hj
theorem Mj {p:List NX}{b:NP}(hs:aH 1048576 (.lst 4 (p.map NX.tr)))(h1:ah p=true)(h2:aY b=true){f:Nat}(h:f<(ay p).length):FnOk p b f:=by obtain⟨g,C,_,_,_,_,hi⟩:=rh (f:=(f:Int)) hs h1 h2 o_ o_;exact⟨hi.jumps.1,(jy hs).1,hi.jumps.2⟩
theorem jX {p:List NX}(h1:ah p=true):(ay p).length<=6/\p.length<=60:=by rw[tA]at h1;simp only[c8,i7]at h1;exact⟨h1.2.1,h1.1⟩
theorem Lg {l:List NW}{at0:Int}:at0<=zO at0 l/\zO at0 l<=at0+5*l.length:=ke (d6 _)
theorem ob {p:List NX}{b:NP}{image:Int}{n f:Nat}{at0:Int}:cn p b image (n+1) f at0=if ut b image f=true then(f,iN (aD p f b) at0)::cn p b image n (f+1) (zO at0 (aD p f b))else cn p b image n (f+1) at0:=rfl
abbrev Nw (p:List NX)(b:NP)(image:Int):={q:Nat×Int×List (Nat×List Oa)//q.1<=(ay p).length/\(0<=q.2.1/\q.2.1<=12500*q.1)/\q.2.2.length<=q.1/\q.2.2++cn p b image ((ay p).length-q.1) q.1 q.2.1=cn p b image (ay p).length 0 0}
theorem kc (p:List NX)(b:NP)(image:Int):∀(n f:Nat) (at0:Int),(cn p b image n f at0).length<=n
 | 0,_,_=>d6 _
 | n+1,f,at0=>by
  rw[cn];split
  ·have:=kc p b image n (f+1) (zO at0 (aD p f b));rw[d5];omega
  ·have:=kc p b image n (f+1) at0;omega
theorem jS {p:List NX}{b:NP}(hs:aH 1048576 (.lst 4 (p.map NX.tr))){image:Int}:∀{n f:Nat} {at0:Int} {x:Nat×List Oa},x∈cn p b image n f at0->x.2.length<=2500/\∀y∈x.2,y.fai.fay.length<=4
 | 0,_,_,_,h=>by cases h
 | n+1,f,at0,x,h=>by
  rw[cn]at h;split at h
  ·rcases d7.1 h with rfl|h
   ·obtain⟨c1,c2⟩:=jy (p:=p) (f:=(f:Int)) (b:=b) hs;refine⟨by rw[eb];exact c1,fun y hy=>?_⟩;obtain⟨j,hj⟩:=C3 hy;have OM:=aJ hj;rw[eb]at OM;obtain⟨z,hz⟩:=ae OM;rw[fo hz]at hj;injection hj with hj;subst hj;have:(ep (bK at0 (aD p f b)) j z).fay=z.fay:=by unfold ep;split<;>rfl
    rw[this];exact c2 z (d4 hz)
   ·exact jS hs h
  ·exact jS hs h
def aB (L:List (Nat×List Oa)):List Oa:=(L.map Prod.snd).flatten
theorem Ez {L:List (Nat×List Oa)}{k:Nat}{x:Nat×List Oa}(h:L[k]?=some x):aB (L.take (k+1))=aB (L.take k)++x.2:=by rw[dF h];simp[aB]
theorem ot {L:List (Nat×List Oa)}(h:∀x∈L,x.2.length<=2500):∀{k:Nat},k<=L.length->(aB (L.take k)).length<=2500*k
 | 0,_=>by simp[aB]
 | k+1,hk=>by
  obtain⟨x,hx⟩:=ae (l:=L) (k:=k) o_;have:=ot h (k:=k) o_;have:=h x (d4 hx);rw[Ez hx,c7];omega
def DI (it:NW):Prop:=0<=it.fau/\it.fau<=1200/\(it.faz=true->it.fau=0)
def Dp (a b:Gs):Prop:=(∀it∈a.items,DI it)->∀it∈b.items,DI it
theorem Dp.refl (s:Gs):Dp s s:=id
theorem Dp.trans {a b c:Gs}(h:Dp a b)(h':Dp b c):Dp a c:=fun x=>h' (h x)
theorem Dp.same {a b b':Gs}(h:Dp a b)(e:b'.items=b.items):Dp a b':=fun x=>by rw[e];exact h x
theorem dv {C:Cx}{s:Gs}{d code arg line:Int}{chain:List Int}(h:0<=d/\d<=1200):Dp s (aI C s d code arg line chain):=by
 intro hs it OS;simp only[aI,e7,s9]at OS;rcases OS with OS|rfl
 ·exact hs it OS
 ·unfold la DI;dsimp only;by_cases hf:C.framed=true/\0<s.items.length
  ·rw[b9 hf];exact⟨o_,o_,fun _=>rfl⟩
  ·rw[b8 hf];refine⟨h.1,h.2,fun e=>?_⟩;rw[c8,i7]at e;exact absurd e hf
theorem sV {l:List NW}(j v:Int)(h:∀it∈l,DI it):∀it∈bD l j v,DI it:=by
 unfold bD;split
 ·split
  ·rename_i x hx;intro it OS;rcases u5 OS with OS|rfl
   ·exact h it OS
   ·exact h x (d4 hx)
  ·exact h
 ·exact h
theorem yM (v:Int):∀(js:List Int) {l:List NW},(∀it∈l,DI it)->∀it∈patchL l v js,DI it
 | [],_,h=>h
 | j::js,_,h=>yM v js (sV j v h)
section
variable {C:Cx} {x:Sc} {ins:List Nat} {rep:Sc->List Nat->Nat->Nat->Int->Gs->Gs} {line:Nat}
theorem yy {y:Sc}{chain:List Int}{line:Int}:∀(n:Nat) (d:Int) (s:Gs),0<=d-n->d<=1200->Dp s (bR C y chain line n d s)
 | 0,d,s,_,_=>Dp.refl s
 | n+1,d,s,h1,h2=>by
  rw[bR];exact(dv o_).trans (yy n (d-1) _ o_ o_)
theorem CG {y:Sc}{chain:List Int}{line d:Int}(hd:0<=d/\d<=1199):∀(n i:Nat) (s:Gs),Dp s (cL C y chain line d n i s)
 | 0,i,s=>Dp.refl s
 | n+1,i,s=>by
  rw[cL];exact((dv o_).trans (dv o_)).trans (CG hd n (i+1) _)
def EX (C:Cx)(rep:Sc->List Nat->Nat->Nat->Int->Gs->Gs)(x:Sc)(ins:List Nat):Prop:=
 ∀(line g:Nat) (d:Int) (s:Gs),bP C g->(argsN C.p g:Int)<=d->d<=1000+30*ins.length+21->cK C ins g s.items.length=true->Dp s (rep x ins line g d s)
def Aj (C:Cx)(l:List Og):Prop:=∀t∈l,t.faa=7->∃f,findN C.p 0 t.fac=some f/\(argsN C.p f:Int)=t.far
theorem Mq (hi:ins.length<=4)(J4:EX C rep x ins){t:Og}{d:Int}(h1:0<=d)(h2:d<=1000+30*ins.length+21)(hc:t.faa=7->t.far<=d/\∃f,findN C.p 0 t.fac=some f/\(argsN C.p f:Int)=t.far)(s:Gs):Dp s (jv C rep x ins line t d s):=by
 unfold jv;split
 ·exact dv o_
 split
 ·exact dv o_
 split
 ·rename_i h7;obtain⟨hn,f,hf,ha⟩:=hc h7;split
  ·rename_i g hg;rw[hf]at hg;injection hg with hg;subst hg;obtain⟨_,ln,k1,k2,_⟩:=eL hf;split
   ·rename_i hr;exact J4 line f d s ⟨ln,k1,k2⟩ o_ h2 hr
   ·exact dv o_
  ·exact Dp.refl s
 ·exact dv o_
mutual
theorem Gv (hi:ins.length<=4)(J4:EX C rep x ins):∀(e:Ex) (d:Int) (s:Gs),e.ok->Aj C e.toks->0<=d->d+e.toks.length<=1000+30*ins.length+21->Dp s (dJ C rep x ins line e d s)
 | .node t es,d,s,h,hc,h1,h2=>by
  rw[Ex.toks,d5]at h2;rw[dJ];have L3:=ve es;refine(CJ hi J4 es d s h.2.2 (fun u hu=>hc u (by rw[Ex.toks];simp[hu])) h1 o_).trans (Mq hi J4 o_ o_ (fun h7=>⟨?_,hc t (by rw[Ex.toks];simp) h7⟩) _);have TF:=h.2.1;have ht:=h.1;have ha:oY t=t.far:=by simp[oY,ht,h7]
  unfold fZ at ht;rw[b8 (by omega:¬t.faa=0),b9 h7]at ht;simp only[c8,within_iff]at ht;unfold ar at TF;rw[ha]at TF;omega
theorem CJ (hi:ins.length<=4)(J4:EX C rep x ins):∀(es:List Ex) (d:Int) (s:Gs),ig es->Aj C (ak es)->0<=d->d+(ak es).length<=1000+30*ins.length+21->Dp s (cp C rep x ins line es d s)
 | [],d,s,_,_,_,_=>by rw[cp];exact Dp.refl s
 | a::es,d,s,h,hc,h1,h2=>by
  rw[ak,c7]at h2;rw[cp];have hp:=a.toks_pos;exact(Gv hi J4 a d s h.1 (fun u hu=>hc u (by rw[ak];simp[hu])) h1 o_).trans (CJ hi J4 es (d+1) _ h.2 (fun u hu=>hc u (by rw[ak];simp[hu])) o_ o_)
end
theorem Jw (x:Sc){d:Int}(h:0<=d/\d<=1200)(s:Gs):Dp s (ck C x line d s):=by
 unfold ck;split
 ·exact dv h
 ·exact Dp.refl s
theorem Mv {g:Nat}{d:Int}(h1:(argsN C.p g:Int)<=d)(h2:d<=1199)(s:Gs):Dp s (eS C x line g d s):=by unfold eS;exact((show Dp s ⟨s.items,max s.most (bz C x+(localsOf C.p (g:Int)).length),s.start⟩ from id).trans (yy _ d _ o_ o_)).trans (CG o_ _ _ _)
theorem Cs (k:Nat)(last:Bool){d:Int}(h:0<=d/\d<=1200)(L:Ls):Dp L.g (bM C x k last d L).g:=by
 unfold bM;split
 ·split
  ·exact dv h
  ·exact dv h
 split
 ·exact Dp.refl _
 ·exact dv h
theorem Ii (hC:CxOk C)(hi:ins.length<=4)(J4:EX C rep x ins){k:Nat}{ln:NX}(hk:C.p[k]?=some ln)(h0:ln.faa≠0)(M6:ln.faa≠7->Aj C ln.fae){base:Int}(OU:0<=base)(Oo:base<=1000+30*ins.length)(L:Ls):Dp L.g (cZ C rep x ins base k ln L).g:=by
 unfold cZ;split
 ·intro h;exact sV _ _ (dv (C:=C) o_ h)
 rename_i h4;split
 ·split
  ·exact Dp.trans (b:=aI C L.g base 0 0 k x.chain) (dv o_) (Cs k true (d:=base+1) o_ {L with g:=aI C L.g base 0 0 k x.chain})
  split
  ·exact dv o_
  ·exact Dp.refl _
 ·rename_i h7;have SD:=hC.line _ _ hk;have VY:=nF (SD.2.2.2.2 o_);have Pk:=SD.2.2.2.1;have M6:=M6 h7;rw[VY.2]at Pk M6;have tg:Dp L.g (dJ C rep x ins k (exL ln.fae) base ⟨L.g.items,L.g.most,true⟩):=Gv hi J4 (exL ln.fae) base ⟨L.g.items,L.g.most,true⟩ VY.1 M6 OU o_;dsimp only;split
  ·exact tg.trans (dv o_)
  split
  ·exact tg.trans (dv o_)
  split
  ·exact tg.trans (Cs k false (d:=base+1) o_ {L with g:=dJ C rep x ins k (exL ln.fae) base ⟨L.g.items,L.g.most,true⟩,heads:=L.heads.set k L.g.items.length})
  ·exact tg.trans (dv o_)
theorem JU (k:Nat)(ln:NX)(L:Ls):Dp L.g (bJ C x k ln L).g:=by
 unfold bJ;split
 ·exact fun h=>sV _ _ h
 ·exact Dp.refl _
theorem Fx (hC:CxOk C)(hi:ins.length<=4)(J4:EX C rep x ins){base:Int}(OU:0<=base)(Oo:base<=1000+30*ins.length):∀(n k:Nat) (L:Ls),(∀(i:Nat) (y:NX),k<=i->i<k+n->C.p[i]?=some y->y.faa≠0/\(y.faa≠7->Aj C y.fae))->Dp L.g (fF C rep x ins base n k L).g
 | 0,k,L,_=>by rw[fF];exact Dp.refl _
 | n+1,k,L,h=>by
  rw[fF];split
  ·rename_i ln hk;obtain⟨a1,a2⟩:=h k ln (d6 _) o_ hk;exact((Ii hC hi J4 hk a1 a2 OU Oo L).trans (JU k ln _)).trans (Fx hC hi J4 OU Oo n (k+1) _ fun i y h1 h2=>h i y o_ o_)
  ·exact Dp.refl _
theorem yA (hC:CxOk C)(hx:ScOk C x ins)(hi:ins.length<=4)(J4:EX C rep x ins){base:Int}(OU:0<=base)(Oo:base<=1000+30*ins.length)(s:Gs):Dp s (bv C rep x ins base s).1:=by
 obtain⟨ln,h1,h2⟩:=hx.fn;obtain⟨e,h3,_,_,h4⟩:=hC.fn _ _ h1 h2;obtain⟨e',g3,g4,Us,g5,_⟩:=hx.endE hC;rw[h3]at g3;injection g3 with g3;subst g3;unfold bv;rw[g5];refine Fx hC hi J4 OU Oo (e-x.f) (x.f+1) (dc C s) fun i y k1 k2 hy=>?_;by_cases Pi:i=e
 ·subst Pi;obtain⟨z,hz,h7⟩:=bp h3;rw[hy]at hz;injection hz with hz;subst hz;exact⟨o_,fun hn=>absurd h7 hn⟩
 ·obtain⟨b1,b2,_⟩:=h4 i y o_ o_ hy;exact⟨b1,fun _=>b2⟩
end
theorem Gy {C:Cx}(hC:CxOk C):∀(lev:Nat) {x:Sc} {ins:List Nat},ScOk C x ins->EX C (bY C lev) x ins
 | 0,x,ins,hx,line,g,d,s,_,_,_,_=>Dp.refl s
 | lev+1,x,ins,hx,line,g,d,s,hg,h1,h2,hr=>by
  obtain⟨r1,r2,r3,_⟩:=fW hr;have hin:=hC.inl;have hy:=jz hC hx line hg;have OH:(ins++[g]).length=ins.length+1:=s_;have t1:=Mv (x:=x) (line:=line) h1 o_ s;have t2:=Jw (C:=C) (line:=line) x (d:=d-argsN C.p g) o_ (eS C x line g d s);have t3:=yA hC hy o_ (Gy hC lev hy) (base:=d-argsN C.p g) o_ o_ (ck C x line (d-argsN C.p g) (eS C x line g d s));intro h;exact yM _ _ (((t1.trans t2).trans t3) h)
end Go.Proofs.Ytoglejgmjeojoaa
namespace Go.Proofs.Ytoglejgmjeojoaa
open Go.Sim
set_option maxRecDepth 100000
set_option maxHeartbeats 4000000
structure IS where
 out:List Int
 visits:List (List Int)
inductive Rr (α:Type) where
 | ok (a:α) (s:IS)
 | stop (c:Int) (s:IS)
 | fuel
def Rr.bnd {α β:Type}(r:Rr α)(f:α->IS->Rr β):Rr β:=match r with
 | .ok a s=>f a s
 | .stop c s=> .stop c s
 | .fuel=> .fuel
theorem Rr.bnd_ok {α β:Type}(a:α)(s:IS)(f:α->IS->Rr β):(Rr.ok a s).bnd f=f a s:=rfl
theorem Rr.bnd_stop {α β:Type}(c:Int)(s:IS)(f:α->IS->Rr β):(Rr.stop c s:Rr α).bnd f= .stop c s:=rfl
abbrev ic:=Nat->List Int->IS->Rr Int
def JQ (locals:List (List UInt8))(vals:List Int)(nm:List UInt8):Int:=match eQ locals 0 nm with
 | some i=>atL vals i
 | none=>0
section
variable (p:List NX) (locals:List (List UInt8)) (vals:List Int) (call:ic)
def gG (t:Og)(av:List Int)(s:IS):Rr Int:=
 if t.faa=0 then .ok t.far s
 else if t.faa=1 then .ok (JQ locals vals t.fac) s
 else if t.faa=7 then call ((findN p 0 t.fac).getD 0) av s
 else .ok (cW t.faa (atL av 0) (atL av 1)) s
mutual
def evE:Ex->IS->Rr Int
 | .node t es,s=>(bn es s).bnd fun av s'=>gG p locals vals call t av s'
def bn:List Ex->IS->Rr (List Int)
 | [],s=> .ok [] s
 | a::es,s=>(evE a s).bnd fun v s'=>(bn es s').bnd fun vs s''=> .ok (v::vs) s''
end
end
def dG (n:Nat)(l:List Int):List Int:=l++List.replicate (n-l.length) 0
def skipAt (p:List NX)(k:Nat):Nat:=match elseAt p k with
 | some j=>j
 | none=>cO p k
def mH (locals:List (List UInt8))(ln:NX)(vals:List Int)(v:Int):List Int:=if ln.faa=1 then(match eQ locals 0 ln.fac with
 | some i=>vals.set i v
 | none=>vals)else vals
def je (ln:NX)(s:IS)(v:Int):IS:=if ln.faa=2 then⟨s.out++[v],s.visits⟩else s
def dI (p:List NX)(ln:NX)(k:Nat)(v:Int):Nat:=if(ln.faa=3\/ln.faa=5)/\v=0 then skipAt p k+1 else k+1
noncomputable def aT (p:List NX) (lim:Int):Nat->List Int->Nat->Nat->List Int->IS->Rr Int
 | 0,_,_,_,_,_=> .fuel
 | n+1,calls,f,k,vals,s=>match p[k]? with
  | none=> .ok 0 s
  | some ln=>
   if ln.faa=7 then
    if ownOf p k=f then .ok 0 s
    else aT p lim n calls f (if kindAt p (ownOf p k)=5 then ownOf p k else k+1) vals s
   else if ln.faa=4 then aT p lim n calls f (cO p (ownOf p k)+1) vals s
   else if(s.visits.length:Int)=lim then .stop 1 s
   else(evE p (localsOf p (f:Int)) vals (fun g av s'=>if calls.length=6 then .stop 2 s' else aT p lim n (calls++[(k:Int)]) g (g+1) (dG (localsOf p (g:Int)).length av) s')
     (exL ln.fae) ⟨s.out,s.visits++[calls++[(k:Int)]]⟩).bnd fun v s'=>
    if ln.faa=6 then .ok v s'
    else aT p lim n calls f (dI p ln k v) (mH (localsOf p (f:Int)) ln vals v) (je ln s' v)
noncomputable def bk (p:List NX) (lim:Int) (n:Nat) (calls:List Int) (k:Nat):ic:=fun g av s'=>if calls.length=6 then .stop 2 s' else aT p lim n (calls++[(k:Int)]) g (g+1) (dG (localsOf p (g:Int)).length av) s'
theorem gg {p:List NX}{lim:Int}{n:Nat}{calls:List Int}{f k:Nat}{vals:List Int}{s:IS}(hk:p[k]?=none):aT p lim (n+1) calls f k vals s= .ok 0 s:=by rw[aT,hk]
theorem cD {p:List NX}{lim:Int}{n:Nat}{calls:List Int}{f k:Nat}{vals:List Int}{s:IS}{ln:NX}(hk:p[k]?=some ln)(h:ln.faa=7):
  aT p lim (n+1) calls f k vals s=if ownOf p k=f then .ok 0 s else aT p lim n calls f (if kindAt p (ownOf p k)=5 then ownOf p k else k+1) vals s:=by
 rw[aT,hk];dsimp only;rw[b9 h]
theorem dC {p:List NX}{lim:Int}{n:Nat}{calls:List Int}{f k:Nat}{vals:List Int}{s:IS}{ln:NX}(hk:p[k]?=some ln)(h:ln.faa=4):
  aT p lim (n+1) calls f k vals s=aT p lim n calls f (cO p (ownOf p k)+1) vals s:=by
 rw[aT,hk];dsimp only;rw[b8 o_,b9 h]
theorem dE {p:List NX}{lim:Int}{n:Nat}{calls:List Int}{f k:Nat}{vals:List Int}{s:IS}{ln:NX}(hk:p[k]?=some ln)(h7:ln.faa≠7)(h4:ln.faa≠4)(hv:(s.visits.length:Int)=lim):
  aT p lim (n+1) calls f k vals s= .stop 1 s:=by
 rw[aT,hk];dsimp only;rw[b8 h7,b8 h4,b9 hv]
theorem dW {p:List NX}{lim:Int}{n:Nat}{calls:List Int}{f k:Nat}{vals:List Int}{s:IS}{ln:NX}(hk:p[k]?=some ln)(h7:ln.faa≠7)(h4:ln.faa≠4)(hv:(s.visits.length:Int)≠lim):
  aT p lim (n+1) calls f k vals s=(evE p (localsOf p (f:Int)) vals (bk p lim n calls k) (exL ln.fae) ⟨s.out,s.visits++[calls++[(k:Int)]]⟩).bnd fun v s'=>
    if ln.faa=6 then .ok v s'
    else aT p lim n calls f (dI p ln k v) (mH (localsOf p (f:Int)) ln vals v) (je ln s' v):=by
 rw[aT,hk];dsimp only;rw[b8 h7,b8 h4,b8 hv];rfl
theorem ov {p:List NX}{locals:List (List UInt8)}{vals:List Int}{call:ic}:∀(es:List Ex) (a:Ex) (s:IS),
  bn p locals vals call (es++[a]) s=(bn p locals vals call es s).bnd fun vs s'=>(evE p locals vals call a s').bnd fun v s''=> .ok (vs++[v]) s''
 | [],a,s=>by
  rw[s8,bn,bn];simp only[Rr.bnd_ok]
  cases evE p locals vals call a s with
  | ok v s1=>simp[Rr.bnd,bn]
  | stop c s1=>rfl
  | fuel=>rfl
 | b::es,a,s=>by
  rw[p9,bn,bn]
  cases evE p locals vals call b s with
  | ok v s1=>
   simp only[Rr.bnd_ok];rw[ov es a s1]
   cases bn p locals vals call es s1 with
   | ok vs s2=>
    simp only[Rr.bnd_ok]
    cases evE p locals vals call a s2 with
    | ok w s3=>simp[Rr.bnd]
    | stop c s3=>rfl
    | fuel=>rfl
   | stop c s2=>rfl
   | fuel=>rfl
  | stop c s1=>rfl
  | fuel=>rfl
theorem HQ {p:List NX}{locals:List (List UInt8)}{vals:List Int}{call:ic}{es:List Ex}{j:Nat}{a:Ex}(s:IS)(h:es[j]?=some a):
  bn p locals vals call (es.take (j+1)) s=(bn p locals vals call (es.take j) s).bnd fun vs s'=>(evE p locals vals call a s').bnd fun v s''=> .ok (vs++[v]) s'':=by
 rw[z9,h];exact ov _ _ _
theorem nh {p:List NX}{locals:List (List UInt8)}{vals:List Int}{call:ic}:∀{es:List Ex} {s:IS} {vs:List Int} {s':IS},bn p locals vals call es s= .ok vs s'->vs.length=es.length
 | [],s,vs,s',h=>by rw[bn]at h;injection h with h1 h2;subst h1;rfl
 | a::es,s,vs,s',h=>by
  rw[bn]at h
  cases h1:evE p locals vals call a s with
  | ok v s1=>
   rw[h1,Rr.bnd_ok]at h
   cases h2:bn p locals vals call es s1 with
   | ok ws s2=>
    rw[h2,Rr.bnd_ok]at h;injection h with h3 h4;subst h3
    rw[d5,d5,nh h2]
   | stop c s2=>rw[h2]at h;cases h
   | fuel=>rw[h2]at h;cases h
  | stop c s1=>rw[h1]at h;cases h
  | fuel=>rw[h1]at h;cases h
theorem V60{p:Prop}(h:p:=by
 intro b
 induction b with
 | nil=>intro a h;rw[m9];exact h
 | cons x b ih=>
  intro a h;rw[show a++x::b=(a++[x])++b by simp];refine ih _ ?_;rw[ov,h]
  rfl):p:=h
theorem Hw {p:List NX}{locals:List (List UInt8)}{vals:List Int}{call:ic}{es:List Ex}{j:Nat}{s:IS}{c:Int}{s':IS}(h:bn p locals vals call (es.take j) s= .stop c s'):bn p locals vals call es s= .stop c s':=by
 have key:∀(b a:List Ex),bn p locals vals call a s= .stop c s'->bn p locals vals call (a++b) s= .stop c s':=by exact V60
 have:=key (es.drop j) (es.take j) h;rwa [w5]at this
theorem HI {p:List NX}{locals:List (List UInt8)}{vals:List Int}{call:ic}{es:List Ex}{j:Nat}{s:IS}(h:bn p locals vals call (es.take j) s= .fuel):bn p locals vals call es s= .fuel:=by
 have key:∀(b a:List Ex),bn p locals vals call a s= .fuel->bn p locals vals call (a++b) s= .fuel:=by exact V60
 have:=key (es.drop j) (es.take j) h;rwa [w5]at this
end Go.Proofs.Ytoglejgmjeojoaa
namespace Go.Proofs.Ytoglejgmjeojoaa
open Go.Sim
set_option maxRecDepth 100000
set_option maxHeartbeats 4000000
section
variable {p:List NX} {locals:List (List UInt8)} {vals:List Int} {call PG:ic}
theorem HA (h:∀g av s,call g av s≠.fuel->PG g av s=call g av s){t:Og}{av:List Int}{s:IS}(hf:gG p locals vals call t av s≠.fuel):gG p locals vals PG t av s=gG p locals vals call t av s:=by
 unfold gG at *
 split
 ·rfl
 ·split
  ·rfl
  ·split
   ·rename_i h0 h1 h7;rw[b8 h0,b8 h1,b9 h7]at hf;exact h _ _ _ hf
   ·rfl
mutual
theorem rP (h:∀g av s,call g av s≠.fuel->PG g av s=call g av s):∀(e:Ex) (s:IS),evE p locals vals call e s≠.fuel->evE p locals vals PG e s=evE p locals vals call e s
 | .node t es,s,hf=>by
  rw[evE]at hf⊢;rw[evE,oa h es s (fun e=>hf (by rw[e];rfl))]
  cases hr:bn p locals vals call es s with
  | ok av s1=>
   rw[hr,Rr.bnd_ok]at hf;rw[Rr.bnd_ok,Rr.bnd_ok]
   exact HA h hf
  | stop c s1=>rfl
  | fuel=>rfl
theorem oa (h:∀g av s,call g av s≠.fuel->PG g av s=call g av s):∀(es:List Ex) (s:IS),bn p locals vals call es s≠.fuel->bn p locals vals PG es s=bn p locals vals call es s
 | [],s,_=>by rw[bn,bn]
 | a::es,s,hf=>by
  rw[bn]at hf⊢;rw[bn,rP h a s (fun e=>hf (by rw[e];rfl))]
  cases hr:evE p locals vals call a s with
  | ok v s1=>
   rw[hr,Rr.bnd_ok]at hf
   rw[Rr.bnd_ok,Rr.bnd_ok,oa h es s1 (fun e=>hf (by rw[e];rfl))]
  | stop c s1=>rfl
  | fuel=>rfl
end
end
section
variable {p:List NX} {lim:Int}
theorem gY:∀(n:Nat) (calls:List Int) (f k:Nat) (vals:List Int) (s:IS),aT p lim n calls f k vals s≠.fuel->aT p lim (n+1) calls f k vals s=aT p lim n calls f k vals s
 | 0,_,_,_,_,_,h=>absurd rfl h
 | n+1,calls,f,k,vals,s,h=>by
  cases hk:p[k]? with
  | none=>rw[gg hk,gg hk]
  | some ln=>
   by_cases h7:ln.faa=7
   ·rw[cD hk h7]at h⊢;rw[cD hk h7];by_cases ho:ownOf p k=f
    ·rw[b9 ho,b9 ho]
    ·rw[b8 ho]at h;rw[b8 ho,b8 ho];exact gY n _ _ _ _ _ h
   by_cases h4:ln.faa=4
   ·rw[dC hk h4]at h⊢;rw[dC hk h4];exact gY n _ _ _ _ _ h
   by_cases hv:(s.visits.length:Int)=lim
   ·rw[dE hk h7 h4 hv,dE hk h7 h4 hv]
   ·rw[dW hk h7 h4 hv]at h⊢;rw[dW hk h7 h4 hv]
    have hc:∀g av s,bk p lim n calls k g av s≠.fuel->bk p lim (n+1) calls k g av s=bk p lim n calls k g av s:=by
     intro g av s' hf
     unfold bk at *
     split
     ·rfl
     ·rename_i h6;rw[b8 h6]at hf;exact gY n _ _ _ _ _ hf
    rw[rP hc _ _ (fun e=>h (by rw[e];rfl))]
    cases hr:evE p (localsOf p (f:Int)) vals (bk p lim n calls k) (exL ln.fae) ⟨s.out,s.visits++[calls++[(k:Int)]]⟩with
    | ok v s1=>
     rw[hr,Rr.bnd_ok]at h;rw[Rr.bnd_ok,Rr.bnd_ok];by_cases h6:ln.faa=6
     ·rw[b9 h6,b9 h6]
     ·rw[b8 h6]at h;rw[b8 h6,b8 h6]
      exact gY n _ _ _ _ _ h
    | stop c s1=>rfl
    | fuel=>rfl
theorem kZ {n m:Nat}{calls:List Int}{f k:Nat}{vals:List Int}{s:IS}(h:aT p lim n calls f k vals s≠.fuel)(hm:n<=m):aT p lim m calls f k vals s=aT p lim n calls f k vals s:=by
 obtain⟨d,rfl⟩:=Nat.exists_eq_add_of_le hm;clear hm
 induction d with
 | zero=>rfl
 | succ d ih=>rw[show n+(d+1)=(n+d)+1 by omega,gY (n+d) _ _ _ _ _ (by rw[ih];exact h),ih]
theorem kw {n m:Nat}{calls:List Int}{k:Nat}(hm:n<=m):∀g av s,bk p lim n calls k g av s≠.fuel->bk p lim m calls k g av s=bk p lim n calls k g av s:=by
 intro g av s h
 unfold bk at *
 split
 ·rfl
 ·rename_i h6;rw[b8 h6]at h;exact kZ h hm
end
structure Ext (lim:Int) (s s':IS):Prop where
 out:s.out <+:s'.out
 vis:s.visits <+:s'.visits
 le:(s.visits.length:Int)<=lim->(s'.visits.length:Int)<=lim
 ol:s'.out.length+s.visits.length<=s'.visits.length+s.out.length
theorem Ext.refl (lim:Int)(s:IS):Ext lim s s:=⟨I6 _,I6 _,id,o_⟩
theorem Ext.trans {lim:Int}{a b c:IS}(h:Ext lim a b)(h':Ext lim b c):Ext lim a c:=⟨h.out.trans h'.out,h.vis.trans h'.vis,fun x=>h'.le (h.le x),by have:=h.ol;have:=h'.ol;omega⟩
def ExtR (lim:Int)(s:IS){α:Type}(r:Rr α):Prop:=match r with
 | .ok _ s'=>Ext lim s s'
 | .stop c s'=>Ext lim s s'/\(c=1\/c=2)
 | .fuel=>True
theorem ExtR.trans {lim:Int}{a b:IS}{α:Type}{r:Rr α}(h:Ext lim a b)(h':ExtR lim b r):ExtR lim a r:=by
 cases r with
 | ok v s=>exact Ext.trans h h'
 | stop c s=>exact⟨Ext.trans h h'.1,h'.2⟩
 | fuel=>trivial
section
variable {p:List NX} {locals:List (List UInt8)} {vals:List Int} {call:ic} {lim:Int}
theorem Jn (h:∀g av s,ExtR lim s (call g av s))(t:Og)(av:List Int)(s:IS):ExtR lim s (gG p locals vals call t av s):=by
 unfold gG;split
 ·exact Ext.refl _ _
 ·split
  ·exact Ext.refl _ _
  ·split
   ·exact h _ _ _
   ·exact Ext.refl _ _
mutual
theorem rf (h:∀g av s,ExtR lim s (call g av s)):∀(e:Ex) (s:IS),ExtR lim s (evE p locals vals call e s)
 | .node t es,s=>by
  have hs:=nQ h es s;rw[evE]
  cases hr:bn p locals vals call es s with
  | ok av s1=>
   rw[hr]at hs;rw[Rr.bnd_ok]
   exact ExtR.trans hs (Jn h t av s1)
  | stop c s1=>rw[hr]at hs;exact hs
  | fuel=>trivial
theorem nQ (h:∀g av s,ExtR lim s (call g av s)):∀(es:List Ex) (s:IS),ExtR lim s (bn p locals vals call es s)
 | [],s=>by rw[bn];exact Ext.refl _ _
 | a::es,s=>by
  have h1:=rf h a s;rw[bn]
  cases hr:evE p locals vals call a s with
  | ok v s1=>
   rw[hr]at h1;rw[Rr.bnd_ok];have h2:=nQ h es s1
   cases Ou:bn p locals vals call es s1 with
   | ok vs s2=>rw[Ou]at h2;exact Ext.trans h1 h2
   | stop c s2=>rw[Ou]at h2;exact⟨Ext.trans h1 h2.1,h2.2⟩
   | fuel=>trivial
  | stop c s1=>rw[hr]at h1;exact h1
  | fuel=>trivial
end
theorem nX {s:IS}(hv:(s.visits.length:Int)≠lim)(row:List Int):Ext lim s ⟨s.out,s.visits++[row]⟩:=⟨I6 _,List.prefix_append _ _,fun h=>by rw[c7];simp only[d5,gt];omega,by simp;omega⟩
theorem zW {ln:NX}{s s':IS}{row:List Int}{v:Int}(hv:(s.visits.length:Int)≠lim)(h:Ext lim ⟨s.out,s.visits++[row]⟩ s'):Ext lim s (je ln s' v):=by
 have h0:=(nX hv row).trans h;have P5:=h.ol;simp only[c7,d5,gt]at P5;unfold je;split
 ·exact⟨h0.out.trans (List.prefix_append _ _),h0.vis,h0.le,by simp only[c7,d5,gt];omega⟩
 ·exact h0
theorem eZ:∀(n:Nat) (calls:List Int) (f k:Nat) (vals:List Int) (s:IS),ExtR lim s (aT p lim n calls f k vals s)
 | 0,_,_,_,_,_=>trivial
 | n+1,calls,f,k,vals,s=>by
  cases hk:p[k]? with
  | none=>rw[gg hk];exact Ext.refl _ _
  | some ln=>
   by_cases h7:ln.faa=7
   ·rw[cD hk h7];split
    ·exact Ext.refl _ _
    ·exact eZ n _ _ _ _ _
   by_cases h4:ln.faa=4
   ·rw[dC hk h4];exact eZ n _ _ _ _ _
   by_cases hv:(s.visits.length:Int)=lim
   ·rw[dE hk h7 h4 hv];exact⟨Ext.refl _ _,.inl rfl⟩
   ·rw[dW hk h7 h4 hv]
    have hc:∀g av s,ExtR lim s (bk p lim n calls k g av s):=by
     intro g av s';unfold bk;split
     ·exact⟨Ext.refl _ _,.inr rfl⟩
     ·exact eZ n _ _ _ _ _
    have he:=rf (p:=p) (locals:=localsOf p (f:Int)) (vals:=vals) hc (exL ln.fae) ⟨s.out,s.visits++[calls++[(k:Int)]]⟩
    cases hr:evE p (localsOf p (f:Int)) vals (bk p lim n calls k) (exL ln.fae) ⟨s.out,s.visits++[calls++[(k:Int)]]⟩with
    | ok v s1=>
     rw[hr]at he;rw[Rr.bnd_ok];split
     ·exact(nX hv _).trans he
     ·exact ExtR.trans (zW hv he) (eZ n _ _ _ _ _)
    | stop c s1=>rw[hr]at he;exact⟨(nX hv _).trans he.1,he.2⟩
    | fuel=>trivial
theorem jF (n:Nat)(calls:List Int)(k:Nat):∀g av s,ExtR lim s (bk p lim n calls k g av s):=by
 intro g av s';unfold bk;split
 ·exact⟨Ext.refl _ _,.inr rfl⟩
 ·exact eZ n _ _ _ _ _
end
section
variable {p:List NX} {locals:List (List UInt8)} {vals:List Int} {lim:Int} {calls:List Int} {k:Nat}
def mn (p:List NX)(l:List Og):Prop:=∀t∈l,t.faa=7->∃f,findN p 0 t.fac=some f
mutual
theorem zr (hc:∀g av (s:IS),(s.visits.length:Int)<=lim->(∃y,p[g]?=some y/\y.faa=0)->∃n,bk p lim n calls k g av s≠.fuel):∀(e:Ex) (s:IS),(s.visits.length:Int)<=lim->mn p e.toks->∃n,evE p locals vals (bk p lim n calls k) e s≠.fuel
 | .node t es,s,hs,hk=>by
  have Pb:mn p (ak es):=fun t' ht=>hk t' (by rw[Ex.toks];exact y5 _ ht);obtain⟨n,hn⟩:=xy hc es s hs Pb;have hx:=nQ (p:=p) (locals:=locals) (vals:=vals) (jF (p:=p) (lim:=lim) n calls k) es s
  cases hr:bn p locals vals (bk p lim n calls k) es s with
  | ok av s1=>
   rw[hr]at hx;by_cases h7:t.faa=7
   ·obtain⟨f,hf⟩:=hk t (by rw[Ex.toks];exact List.mem_cons_self ..) h7;obtain⟨_,y,hy,h0,_⟩:=eL hf;obtain⟨m,hm⟩:=hc f av s1 (hx.le hs) ⟨y,hy,h0⟩;refine⟨max n m,?_⟩;rw[evE,oa (kw (Nat.le_max_left n m)) es s hn,hr,Rr.bnd_ok,gG,b8 o_,b8 o_,b9 h7,hf,A0,kw (I7 n m) _ _ _ hm];exact hm
   ·refine⟨n,?_⟩;rw[evE,hr,Rr.bnd_ok,gG,b8 h7];split
    ·exact fun e=>by cases e
    ·split
     ·exact fun e=>by cases e
     ·exact fun e=>by cases e
  | stop c s1=>exact⟨n,by rw[evE,hr];exact fun e=>by cases e⟩
  | fuel=>exact absurd hr hn
theorem xy (hc:∀g av (s:IS),(s.visits.length:Int)<=lim->(∃y,p[g]?=some y/\y.faa=0)->∃n,bk p lim n calls k g av s≠.fuel):∀(es:List Ex) (s:IS),(s.visits.length:Int)<=lim->mn p (ak es)->∃n,bn p locals vals (bk p lim n calls k) es s≠.fuel
 | [],s,_,_=>⟨0,by rw[bn];exact fun e=>by cases e⟩
 | a::es,s,hs,hk=>by
  obtain⟨n,hn⟩:=zr hc a s hs (fun t ht=>hk t (by rw[ak];exact e7.2 (.inl ht)));have hx:=rf (p:=p) (locals:=locals) (vals:=vals) (jF (p:=p) (lim:=lim) n calls k) a s
  cases hr:evE p locals vals (bk p lim n calls k) a s with
  | ok v s1=>
   rw[hr]at hx;obtain⟨m,hm⟩:=xy hc es s1 (hx.le hs) (fun t ht=>hk t (by rw[ak];exact e7.2 (.inr ht)));refine⟨max n m,?_⟩;rw[bn,rP (kw (Nat.le_max_left n m)) a s hn,hr,Rr.bnd_ok,oa (kw (I7 n m)) es s1 hm]
   cases Ou:bn p locals vals (bk p lim m calls k) es s1 with
   | ok vs s2=>exact fun e=>by cases e
   | stop c s2=>exact fun e=>by cases e
   | fuel=>exact absurd Ou hm
  | stop c s1=>exact⟨n,by rw[bn,hr];exact fun e=>by cases e⟩
  | fuel=>exact absurd hr hn
end
end
structure InF (p:List NX) (f e k:Nat):Prop where
 fn:∃y,p[f]?=some y/\y.faa=0
 en:endAt p f=some e
 lo:f<k
 hi:k<=e
section
variable {p:List NX} {f e k:Nat} {ln:NX}
abbrev cx0 (p:List NX)(f:Nat):Cx:=⟨p,⟨0,0,false,false⟩,false,0,argsN p f⟩
theorem PgOk.cx0 (hp:PgOk p)(h:∃y,p[f]?=some y/\y.faa=0):CxOk (cx0 p f):=by obtain⟨y,hy,_⟩:=h;refine hp.cx ?_ o_ s_;have:=(hp.line f y hy).2.2.1;show(0:Int)<=(argsN p f:Int)/\(argsN p f:Int)<=4;rw[argsN,hy];dsimp only;omega
theorem Ew (h:∃y,p[f]?=some y/\y.faa=0):ScOk (cx0 p f) (aQ (cx0 p f) f) [f]:=⟨h,rfl,⟨u9 _,by simp[aQ]⟩,rfl,by simp[aQ],fun _=>rfl,rfl⟩
theorem InF.own7 (hp:PgOk p)(h:InF p f e k)(hk:p[k]?=some ln)(h7:ln.faa=7):endAt p (ownOf p k)=some k/\((k=e/\ownOf p k=f)\/(k<e/\f<ownOf p k/\ownOf p k<k/\∃y,p[ownOf p k]?=some y/\(y.faa=3\/y.faa=5))):=
 ScOk.own7 (hp.cx0 h.fn) (Ew h.fn) h.en h.lo h.hi hk h7
theorem InF.own4 (hp:PgOk p)(h:InF p f e k)(hk:p[k]?=some ln)(h4:ln.faa=4):elseAt p (ownOf p k)=some k/\f<ownOf p k/\ownOf p k<k/\k<e:=
 ScOk.own4 (hp.cx0 h.fn) (Ew h.fn) h.en h.lo h.hi hk h4
theorem InF.kind (hp:PgOk p)(h:InF p f e k)(hk:p[k]?=some ln):ln.faa≠0:=ga (hp.cx0 h.fn) (Ew h.fn) h.en h.lo h.hi hk
theorem InF.line (hp:PgOk p)(h:InF p f e k):∃ln,p[k]?=some ln/\1<=ln.faa/\ln.faa<=7/\(ln.faa=7\/k<e):=by
 have he:=aM h.en;obtain⟨_,_,_,_,_,hl⟩:=he;obtain⟨ln,hk⟩:=ae (l:=p) (k:=k) (by have:=h.hi;omega);have h1:=h.kind hp hk;have h2:=hp.line k ln hk;refine⟨ln,hk,o_,h2.2.1,?_⟩;by_cases M9:k=e
 ·subst M9;obtain⟨y,hy,h7⟩:=bp h.en;rw[hk]at hy;injection hy with hy;subst hy;exact .inl h7
 ·have:=h.hi;exact .inr o_
theorem InF.at (h:InF p f e k){j:Nat}(h1:f<j)(h2:j<=e):InF p f e j:=⟨h.fn,h.en,h1,h2⟩
theorem InF.skip (hp:PgOk p)(h:InF p f e k)(hk:p[k]?=some ln)(Ue:ln.faa=3\/ln.faa=5)(M9:k<e):k<skipAt p k/\skipAt p k<e:=by
 obtain⟨m,hm,m1,m2⟩:=cT h.en h.lo M9 hk (by rw[opensK_iff];omega);unfold skipAt;split
 ·rename_i j hj;obtain⟨_,e',_,_,N5,q1,q2,_⟩:=aV hj;rw[hm]at N5;injection N5 with N5;subst N5;omega
 ·rw[cO,hm];exact⟨m1,m2⟩
theorem InF.elseNext (hp:PgOk p)(h:InF p f e k)(hk:p[k]?=some ln)(h4:ln.faa=4):k<cO p (ownOf p k)/\cO p (ownOf p k)<e:=by obtain⟨q1,q2,q3,q4⟩:=h.own4 hp hk h4;obtain⟨x,e',hx,h3,N5,r1,r2,_⟩:=aV q1;obtain⟨m,hm,m1,m2⟩:=cT h.en q2 o_ hx (by rw[opensK_iff];omega);rw[N5]at hm;injection hm with hm;subst hm;rw[cO,N5];exact⟨r2,m2⟩
theorem InF.next (hp:PgOk p)(h:InF p f e k)(hk:p[k]?=some ln)(h7:ln.faa≠7)(v:Int):InF p f e (dI p ln k v)/\k<dI p ln k v:=by
 have M9:k<e:=by obtain⟨l,hl,_,_,h5⟩:=h.line hp;rw[hk]at hl;injection hl with hl;subst hl;omega
 have P8:=h.lo;unfold dI;split
 ·rename_i hc;have:=h.skip hp hk hc.1 M9;exact⟨h.at o_ o_,o_⟩
 ·exact⟨h.at o_ o_,o_⟩
theorem InF.start (hp:PgOk p){g:Nat}(h:∃y,p[g]?=some y/\y.faa=0):∃e,InF p g e (g+1):=by obtain⟨y,hy,h0⟩:=h;obtain⟨e,he,_⟩:=hp.fn g y hy h0;obtain⟨_,_,_,_,h1,_⟩:=aM he;exact⟨e,⟨⟨y,hy,h0⟩,he,o_,o_⟩⟩
theorem InF.known (hp:PgOk p)(h:InF p f e k)(hk:p[k]?=some ln)(h7:ln.faa≠7)(h4:ln.faa≠4):bh ln.fae=true/\(exL ln.fae).ok/\ln.fae=(exL ln.fae).toks/\mn p (exL ln.fae).toks:=by obtain⟨l,hl,h1,h2,h5⟩:=h.line hp;rw[hk]at hl;injection hl with hl;subst hl;have he:=(hp.line k ln hk).2.2.2.2 o_;obtain⟨e1,e2⟩:=nF he;refine⟨he,e1,e2,?_⟩;rw[<-e2];obtain⟨y,hy,h0⟩:=h.fn;obtain⟨e',g1,_,_,g2⟩:=hp.fn f y hy h0;rw[h.en]at g1;injection g1 with g1;subst g1;intro t ht ht7;obtain⟨q,hq,_⟩:=(g2 k ln h.lo o_ hk).2.1 t ht ht7;exact⟨q,hq⟩
end
section
variable {p:List NX} {lim:Int}
theorem vI (hp:PgOk p)(calls:List Int)(M5:∀(k g:Nat) (av:List Int) (s:IS),(s.visits.length:Int)<=lim->(∃y,p[g]?=some y/\y.faa=0)->∃n,bk p lim n calls k g av s≠.fuel):
  ∀(m:Nat) (s:IS),(s.visits.length:Int)<=lim->lim-s.visits.length<m->∀(c f e k:Nat) (vals:List Int),InF p f e k->e-k<=c->∃n,aT p lim n calls f k vals s≠.fuel
 | 0,s,h1,h2,_,_,_,_,_,_,_=>o_
 | m+1,s,h1,h2,c,f,e,k,vals,hI,hc=>by
  have vis:∀(k:Nat) (ln:NX),InF p f e k->p[k]?=some ln->ln.faa≠7->ln.faa≠4->∃n,aT p lim n calls f k vals s≠.fuel:=by
   intro k ln hI hk h7 h4;by_cases hv:(s.visits.length:Int)=lim
   ·exact⟨1,by rw[dE hk h7 h4 hv];exact fun e=>by cases e⟩
   obtain⟨_,e1,e2,e3⟩:=hI.known hp hk h7 h4;have RM:(((⟨s.out,s.visits++[calls++[(k:Int)]]⟩:IS).visits.length:Nat):Int)<=lim:=by simp only[c7,d5,gt];omega
   obtain⟨n,hn⟩:=zr (locals:=localsOf p (f:Int)) (vals:=vals) (M5 k) (exL ln.fae) ⟨s.out,s.visits++[calls++[(k:Int)]]⟩ RM e3;have hx:=rf (p:=p) (locals:=localsOf p (f:Int)) (vals:=vals) (jF (p:=p) (lim:=lim) n calls k) (exL ln.fae) ⟨s.out,s.visits++[calls++[(k:Int)]]⟩
   cases hr:evE p (localsOf p (f:Int)) vals (bk p lim n calls k) (exL ln.fae) ⟨s.out,s.visits++[calls++[(k:Int)]]⟩with
   | fuel=>exact absurd hr hn
   | stop c s1=>exact⟨n+1,by rw[dW hk h7 h4 hv,hr];exact fun e=>by cases e⟩
   | ok v s1=>
    rw[hr]at hx;by_cases h6:ln.faa=6
    ·exact⟨n+1,by rw[dW hk h7 h4 hv,hr,Rr.bnd_ok,b9 h6];exact fun e=>by cases e⟩
    have YH:=zW (ln:=ln) (v:=v) hv hx
    have J0:s.visits.length+1<=(je ln s1 v).visits.length:=by
     have:=hx.vis.length_le;simp only[c7,d5,gt]at this;have e:(je ln s1 v).visits=s1.visits:=by unfold je;split<;>rfl
     rw[e];exact this
    obtain⟨n2,Qn⟩:=vI hp calls M5 m (je ln s1 v) (YH.le h1) o_ _ f e (dI p ln k v) (mH (localsOf p (f:Int)) ln vals v) (hI.next hp hk h7 v).1 (d6 _);refine⟨max n n2+1,?_⟩;rw[dW hk h7 h4 hv,rP (kw (Nat.le_max_left n n2)) _ _ hn,hr,Rr.bnd_ok,b8 h6,kZ Qn (I7 n n2)];exact Qn
  have pos:∀(c k:Nat),InF p f e k->e-k<=c->∃n,aT p lim n calls f k vals s≠.fuel:=by
   intro c
   induction c with
   | zero=>
    intro k hI hc;obtain⟨ln,hk,_,_,h7⟩:=hI.line hp;have h7:ln.faa=7:=o_;have M9:k=e:=by have:=hI.hi;omega
    obtain⟨_,h|h⟩:=hI.own7 hp hk h7
    ·exact⟨1,by rw[cD hk h7,b9 h.2];exact fun e=>by cases e⟩
    ·omega
   | succ c ih=>
    intro k hI hc;obtain⟨ln,hk,_,_,M9⟩:=hI.line hp;by_cases h7:ln.faa=7
    ·obtain⟨_,h|⟨q1,q2,q3,y,hy,q4⟩⟩:=hI.own7 hp hk h7
     ·exact⟨1,by rw[cD hk h7,b9 h.2];exact fun e=>by cases e⟩
     ·have K0:ownOf p k≠f:=o_;by_cases h5:y.faa=5
      ·have hI2:InF p f e (ownOf p k):=hI.at q2 o_;obtain⟨n,hn⟩:=vis (ownOf p k) y hI2 hy o_ o_;exact⟨n+1,by rw[cD hk h7,b8 K0,aL hy,b9 h5];exact hn⟩
      ·obtain⟨n,hn⟩:=ih (k+1) (hI.at (by have:=hI.lo;omega) o_) o_;exact⟨n+1,by rw[cD hk h7,b8 K0,aL hy,b8 h5];exact hn⟩
    ·by_cases h4:ln.faa=4
     ·have UH:=hI.elseNext hp hk h4;obtain⟨n,hn⟩:=ih (cO p (ownOf p k)+1) (hI.at (by have:=hI.lo;omega) o_) o_;exact⟨n+1,by rw[dC hk h4];exact hn⟩
     ·exact vis k ln hI hk h7 h4
  exact pos c k hI hc
theorem rt (hp:PgOk p):∀(d:Nat) (calls:List Int),calls.length+d=6->∀(f e k:Nat) (vals:List Int) (s:IS),(s.visits.length:Int)<=lim->InF p f e k->∃n,aT p lim n calls f k vals s≠.fuel
 | 0,calls,M6,f,e,k,vals,s,hs,hI=>vI hp calls (fun k g av s _ _=>⟨0,by unfold bk;rw[b9 o_];exact fun e=>by cases e⟩) ((lim-s.visits.length).toNat+1) s hs o_ _ f e k vals hI (d6 _)
 | d+1,calls,M6,f,e,k,vals,s,hs,hI=>
  vI hp calls (fun k g av s hs hg=>by
   obtain⟨e,he⟩:=InF.start hp hg;obtain⟨n,hn⟩:=rt hp d (calls++[(k:Int)]) (by rw[c7];simp;omega) g e (g+1) (dG (localsOf p (g:Int)).length av) s hs he
   exact⟨n,by unfold bk;split;exact(fun e=>by cases e);exact hn⟩) ((lim-s.visits.length).toNat+1) s hs o_ _ f e k vals hI (d6 _)
end
end Go.Proofs.Ytoglejgmjeojoaa
namespace Go.Proofs.Ytoglejgmjeojoaa
open Go.Sim
set_option maxRecDepth 100000
set_option maxHeartbeats 4000000
def ij (p:List NX)(f k i:Nat):Bool:=decide (f<i/\i<k/\kindAt p i=5/\∃e,endAt p i=some e/\k<=e)
def aP (p:List NX)(f k:Nat):List Nat:=(List.range p.length).filter (ij p f k)
theorem pO {P P':Nat->Bool}{k:Nat}(h1:∀i,i<k->P' i=P i)(h2:P' k=true)(h3:∀i,k<=i->P i=false)(h4:∀i,k<i->P' i=false):∀n,k<n->(List.range n).filter P'=(List.range n).filter P++[k]
 | 0,h=>o_
 | n+1,h=>by
  rw[F3,F6,F6];by_cases hk:k=n
  ·subst hk;have e:(List.range k).filter P'=(List.range k).filter P:=G1 fun i hi=>h1 i (E5.1 hi);rw[e];simp[h2,h3 k (d6 _)]
  ·rw[pO h1 h2 h3 h4 n o_];simp[h4 n o_,h3 n o_]
theorem openW_iff {p:List NX}{f k i:Nat}:ij p f k i=true↔f<i/\i<k/\kindAt p i=5/\∃e,endAt p i=some e/\k<=e:=by unfold ij;rw[i7]
theorem qV {p:List NX}{f k i:Nat}(h:¬(f<i/\i<k/\kindAt p i=5/\∃e,endAt p i=some e/\k<=e)):ij p f k i=false:=by unfold ij;rw[C2 h]
theorem oA {p:List NX}{f k k':Nat}(h:∀i,ij p f k i=true↔ij p f k' i=true):aP p f k=aP p f k':=by
 unfold aP;refine G1 fun i _=>?_;have:=h i
 cases h1:ij p f k i<;>cases h2:ij p f k' i<;>simp_all
theorem pu (p:List NX)(f k:Nat):(aP p f k).length<=p.length:=by unfold aP;have:=E1 (ij p f k) (List.range p.length);rwa [List.length_range]at this
theorem wV {p:List NX}{f k i:Nat}(h:i∈aP p f k):f<i/\i<k/\kindAt p i=5/\∃e,endAt p i=some e/\k<=e:=by unfold aP at h;exact openW_iff.1 (D6.1 h).2
section
variable {p:List NX} {f e k:Nat} {ln:NX}
theorem nU {i:Nat}{c:Int}(h:kindAt p i=c)(hc:0<=c):∃x,p[i]?=some x/\x.faa=c:=by
 unfold kindAt at h;split at h
 ·exact⟨_,by assumption,h⟩
 ·omega
theorem vu {i m:Nat}(h:endAt p i=some m)(hk:p[k]?=some ln)(h7:ln.faa≠7):m≠k:=fun he=>by
 subst he;obtain⟨y,hy,US⟩:=bp h;rw[hk]at hy;injection hy with hy;subst hy;exact h7 US
theorem zY (hI:InF p f e (f+1)):aP p f (f+1)=[]:=by unfold aP;rw[List.filter_eq_nil_iff];intro i _ h;have:=openW_iff.1 h;omega
theorem nu (hk:p[k]?=some ln)(h5:ln.faa≠5)(h7:ln.faa≠7):aP p f (k+1)=aP p f k:=by
 refine oA fun i=>?_;rw[openW_iff,openW_iff];constructor
 ·rintro⟨a,b,c,m,hm,L3⟩;have:i≠k:=fun he=>by subst he;rw[aL hk]at c;exact h5 c
  exact⟨a,o_,c,m,hm,o_⟩
 ·rintro⟨a,b,c,m,hm,L3⟩;have:=vu hm hk h7;exact⟨a,o_,c,m,hm,o_⟩
theorem Cj (hp:PgOk p)(hI:InF p f e k)(M9:k<e)(hk:p[k]?=some ln)(h5:ln.faa=5):aP p f (k+1)=aP p f k++[k]:=by
 obtain⟨m,hm,m1,m2⟩:=cT hI.en hI.lo M9 hk (by rw[opensK_iff];omega);unfold aP;refine pO (fun i hi=>?_) (openW_iff.2 ⟨hI.lo,o_,by rw[aL hk];exact h5,m,hm,m1⟩) (fun i hi=>qV fun h=>by omega) (fun i hi=>qV fun h=>by omega) _ (aJ hk)
 have:ij p f (k+1) i=true↔ij p f k i=true:=by
  rw[openW_iff,openW_iff];constructor
  ·rintro⟨a,b,c,m,hm,L3⟩;exact⟨a,hi,c,m,hm,o_⟩
  ·rintro⟨a,b,c,m,hm,L3⟩;have:=vu hm hk o_;exact⟨a,o_,c,m,hm,o_⟩
 cases h1:ij p f (k+1) i<;>cases h2:ij p f k i<;>simp_all
theorem ta {i o m mo:Nat}{y:NX}(hm:endAt p i=some m)(h1:i<o)(h2:o<=m)(hy:p[o]?=some y)(ho:dP y.faa=true)(hmo:endAt p o=some mo):mo<m:=by have K0:=vu hm hy (by rw[opensK_iff]at ho;omega);obtain⟨m',O8,_,h3⟩:=cT hm h1 o_ hy ho;rw[hmo]at O8;injection O8 with O8;omega
theorem Ek (hf:f<k){o:Nat}{y:NX}(J5:endAt p o=some k)(Qj:f<o)(hy:p[o]?=some y)(h5:y.faa=5):aP p f k=aP p f o++[o]:=by
 obtain⟨_,_,_,_,J3,_⟩:=aM J5;unfold aP;refine pO (fun i hi=>?_) (openW_iff.2 ⟨Qj,J3,by rw[aL hy];exact h5,k,J5,d6 _⟩) (fun i hi=>qV fun h=>by omega) (fun i hi=>qV ?_) _ (aJ hy)
 ·have:ij p f k i=true↔ij p f o i=true:=by
   rw[openW_iff,openW_iff];constructor
   ·rintro⟨a,b,c,m,hm,L3⟩;exact⟨a,hi,c,m,hm,o_⟩
   ·rintro⟨a,b,c,m,hm,L3⟩;have:=ta hm hi L3 hy (by rw[opensK_iff];omega) J5;exact⟨a,o_,c,m,hm,o_⟩
  cases h1:ij p f k i<;>cases h2:ij p f o i<;>simp_all
 ·rintro⟨a,b,c,m,hm,L3⟩;obtain⟨x,hx,X9⟩:=nU c o_;obtain⟨m',O8,_,h3⟩:=cT J5 hi b hx (by rw[opensK_iff];omega);rw[hm]at O8;injection O8 with O8;omega
theorem Hk {o:Nat}{y:NX}(hk:p[k]?=some ln)(h7:ln.faa=7)(J5:endAt p o=some k)(hy:p[o]?=some y)(h3:y.faa=3):aP p f (k+1)=aP p f k/\∀i∈aP p f k,endAt p i≠some k:=by
 have K0:∀i,kindAt p i=5->endAt p i≠some k:=fun i c h=>by
  have:=sT h J5;subst this;rw[aL hy]at c;omega
 refine⟨oA fun i=>?_,fun i hi=>K0 i (wV hi).2.2.1⟩;rw[openW_iff,openW_iff];constructor
 ·rintro⟨a,b,c,m,hm,L3⟩;have:i≠k:=fun he=>by subst he;rw[aL hk]at c;omega
  exact⟨a,o_,c,m,hm,o_⟩
 ·rintro⟨a,b,c,m,hm,L3⟩;have:m≠k:=fun he=>by subst he;exact K0 i c hm
  exact⟨a,o_,c,m,hm,o_⟩
theorem um (hp:PgOk p)(hI:InF p f e k)(M9:k<e)(hk:p[k]?=some ln)(Ue:ln.faa=3\/ln.faa=5):aP p f (skipAt p k+1)=aP p f k:=by
 obtain⟨m,hm,m1,m2⟩:=cT hI.en hI.lo M9 hk (by rw[opensK_iff];omega)
 have hj:k<skipAt p k/\skipAt p k<=m/\∀i x mi,k<i->i<=skipAt p k->p[i]?=some x->x.faa=5->endAt p i=some mi->mi<skipAt p k:=by
  unfold skipAt;split
  ·rename_i j hj;obtain⟨x,e',hx,h3,N5,q1,q2,y,hy,hy4⟩:=aV hj;rw[hm]at N5;injection N5 with N5;subst N5;refine⟨q1,o_,fun i z mi h1 h2 hz h5 PV=>?_⟩;have PC:i≠j:=fun he=>by subst he;rw[hz]at hy;injection hy with hy;subst hy;omega
   unfold elseAt at hj;rw[hx,hm]at hj;dsimp only at hj;rw[b9 h3]at hj;exact jI hj i z mi o_ o_ hz (.inr h5) PV
  ·rw[cO,hm];refine⟨m1,d6 _,fun i z mi h1 h2 hz h5 PV=>?_⟩;have:=vu hm hz o_;have h2:i<=m:=h2;obtain⟨m',O8,_,h3⟩:=cT hm h1 o_ hz (by rw[opensK_iff];omega);rw[PV]at O8;injection O8 with O8;subst O8;exact h3
 obtain⟨j1,j2,j3⟩:=hj
 have h5s:ln.faa=5->skipAt p k=m:=fun h5=>by
  unfold skipAt;rw[pU (by rw[aL hk];omega),cO,hm];rfl
 generalize skipAt p k=j at *
 refine oA fun i=>?_;rw[openW_iff,openW_iff];constructor
 ·rintro⟨a,b,c,mi,PV,L3⟩;obtain⟨x,hx,X9⟩:=nU c o_;rcases x6 i k with h|h|h
  ·exact⟨a,h,c,mi,PV,o_⟩
  ·subst h;rw[hk]at hx;injection hx with hx;subst hx;rw[hm]at PV;injection PV with PV;have:=h5s X9;omega
  ·have:=j3 i x mi h o_ hx X9 PV;omega
 ·rintro⟨a,b,c,mi,PV,L3⟩;have:=ta PV b L3 hk (by rw[opensK_iff];omega) hm;exact⟨a,o_,c,mi,PV,o_⟩
theorem CV (hp:PgOk p)(hI:InF p f e k)(hk:p[k]?=some ln)(h4:ln.faa=4):aP p f (cO p (ownOf p k)+1)=aP p f k:=by
 obtain⟨q1,q2,q3,q4⟩:=hI.own4 hp hk h4;obtain⟨x,E,hx,h3,hE,r1,r2,y,hy,hy4⟩:=aV q1;have hq:=q1;unfold elseAt at hq;rw[hx,hE]at hq;dsimp only at hq;rw[b9 h3]at hq;rw[cO,hE]
 generalize ownOf p k=o at *
 show aP p f (E+1)=_;refine oA fun i=>?_;rw[openW_iff,openW_iff];constructor
 ·rintro⟨a,b,c,mi,PV,L3⟩;obtain⟨z,hz,hz5⟩:=nU c o_;rcases x6 i o with h|h|h
  ·exact⟨a,o_,c,mi,PV,o_⟩
  ·subst h;rw[hx]at hz;injection hz with hz;subst hz;omega
  ·have:=vu hE hz o_;obtain⟨m',O8,_,h5⟩:=cT hE h o_ hz (by rw[opensK_iff];omega);rw[PV]at O8;injection O8 with O8;omega
 ·rintro⟨a,b,c,mi,PV,L3⟩;obtain⟨z,hz,hz5⟩:=nU c o_;rcases x6 i o with h|h|h
  ·have:=ta PV h o_ hx (by rw[opensK_iff];omega) hE;exact⟨a,o_,c,mi,PV,o_⟩
  ·subst h;rw[hx]at hz;injection hz with hz;subst hz;omega
  ·have:=jI hq i z mi o_ b hz (.inr hz5) PV;omega
end
structure Known (p:List NX) (locals:List (List UInt8)) (l:List Og):Prop where
 var:∀t∈l,t.faa=1->∃i,eQ locals 0 t.fac=some i
 call:∀t∈l,t.faa=7->∃g,findN p 0 t.fac=some g/\(argsN p g:Int)=t.far
theorem CU (acc:List (List UInt8))(s:List UInt8):s∈gw acc s:=by
 unfold gw;split
 ·rename_i h;exact B7.1 h
 ·simp
theorem Cq {acc:List (List UInt8)}{s z:List UInt8}(h:z∈acc):z∈gw acc s:=by
 unfold gw;split
 ·exact h
 ·simp[h]
theorem Dr {l:List NX}{e:Nat}{z:List UInt8}:∀(n i:Nat) (acc:List (List UInt8)),z∈acc->z∈locN l e n i acc
 | 0,_,_,h=>by rw[locN];exact h
 | n+1,i,acc,h=>by
  rw[locN];split
  ·split
   ·refine Dr n _ _ ?_;split
    ·exact Cq h
    ·exact h
   ·exact h
  ·exact h
theorem Dx {l:List NX}{e k:Nat}{x:NX}(hx:l[k]?=some x)(h1:x.faa=1)(M9:k<e):∀(n i:Nat) (acc:List (List UInt8)),i<=k->e-i<=n->(∀j,j<e->j<l.length)->x.fac∈locN l e n i acc
 | 0,i,acc,h,hn,_=>o_
 | n+1,i,acc,h,hn,hl=>by
  rw[locN,b9 o_];obtain⟨y,hy⟩:=ae (hl i o_);rw[hy];dsimp only;by_cases Po:i=k
  ·subst Po;rw[hx]at hy;injection hy with hy;subst hy;rw[b9 h1];exact Dr n _ _ (CU _ _)
  ·exact Dx hx h1 M9 n (i+1) _ o_ o_ hl
theorem tz {l:List (List UInt8)}{s:List UInt8}(h:s∈l):∃i,eQ l 0 s=some i:=by
 have:(eQ l 0 s).isSome=true:=by rw[xE];exact B7.2 h
 exact F0.1 this
theorem Dd {p:List NX}(h:ah p=true){f e k:Nat}{ln:NX}(hI:InF p f e k)(hk:p[k]?=some ln)(M9:k<e):Known p (localsOf p (f:Int)) ln.fae/\(ln.faa=1->∃i,eQ (localsOf p (f:Int)) 0 ln.fac=some i):=by
 have h0:=h;unfold ah at h;simp only[c8,i7]at h;obtain⟨_,_,h2,_,_,h3,h4⟩:=h;have hS:=pC p;rw[h3,h4]at hS;have J3:∀k e,endAt p k=some e->e<=p.length:=fun k e he=>by obtain⟨_,_,_,_,_,h⟩:=aM he;omega
 have hF:∀k e,endAt p k=some e->mC p k e=true->∀i x,k<i->i<e->p[i]?=some x->x.faa≠0:=fun k e he hf=>by
  rw[nk,c8]at hf;exact xJ hf.1 (J3 k e he)
 obtain⟨y,hy,Pa⟩:=hI.fn;obtain⟨e',N5,hf⟩:=pD hF p.length 0 hS f y (v4 _) hy Pa;rw[hI.en]at N5;injection N5 with N5;subst N5;rw[nk,c8]at hf;have Sl:=hf.1;rw[uP,c8,i7]at Sl;have O5:=pg (e-(f+1)) (f+1) 0 (d6 _) (J3 f e hI.en) Sl.2 k ln (by have:=hI.lo;omega) M9 hk;unfold eN at O5;have O5:=n7.1 O5;refine⟨⟨fun t ht h1=>?_,fun t ht h7=>?_⟩,fun h1=>?_⟩
 ·have:=O5 t ht;unfold cI at this;rw[b9 h1]at this;exact tz (B7.1 this)
 ·have:=O5 t ht;unfold cI at this;rw[b8 o_,b9 h7]at this;split at this
  ·rename_i g hg;refine⟨g,hg,?_⟩;unfold argsN;split at this
   ·rename_i x hx
    (try rw[hx])
    exact A3 this
   ·cases this
  ·cases this
 ·refine tz ?_;unfold localsOf;rw[b9 o_,d9,hy,hI.en];dsimp only;rw[b9 Pa];exact Dx hk h1 M9 _ _ _ (by have:=hI.lo;omega) (d6 _) (fun j hj=>by have:=J3 f e hI.en;omega)
def Kg (c:Int):Prop:=c≠10/\c≠14/\c≠16
def isJ (c:Int):Prop:=c=10\/c=11
def ME (p:List NX)(a:Int):Int:=match(ay p)[a.toNat]? with|some g=>(argsN p g:Int)|none=>0
def MQ (C:Cx)(o:NZ)(d:Int):Int:=
 if o.fab=0\/o.fab=1\/o.fab=3 then d+1
 else if o.fab=2\/o.fab=4\/(5<=o.fab/\o.fab<=9)\/o.fab=11\/o.fab=17 then d-1
 else if o.fab=12 then d-ME C.p o.faf+1
 else if o.fab=13\/o.fab=15 then d+o.faf else d
def Na (c d:Int):Int:=if c=11 then d-1 else d
def StA (C:Cx)(c a d:Int):Prop:=(c=2/\C.framed=true/\((-C.words<=a/\a<=-1)\/(2<=a/\a<=1+C.args)))\/(c=4/\C.framed=false/\((d-C.words<=a/\a<=d-1)\/(d+1<=a/\a<=d+C.args)))
structure OpTy (C:Cx) (i:Nat) (it:NW) (d:Int):Prop where
 dep:it.fau=(if C.framed=true/\0<i then 0 else d)
 ent:it.faz=(C.framed&&decide (0<i))
 lo:(i=0->d=0)/\(0<i->C.words<=d)
 head:i=0->it.fad.fab=(if C.framed=true then 13 else 15)/\it.fad.faf=C.words
 st:it.fad.fab=2\/it.fad.fab=4->C.words+1<=d/\StA C it.fad.fab it.fad.faf d
 ld:(it.fad.fab=1->C.framed=true)
 ar:5<=it.fad.fab/\it.fad.fab<=9->C.words+2<=d
 one:it.fad.fab=11\/it.fad.fab=17->C.words+1<=d
 call:it.fad.fab=12->0<=it.fad.faf/\∃g,(ay C.p)[it.fad.faf.toNat]?=some g/\C.words+argsN C.p g<=d
 leave:it.fad.fab=14->C.framed=true/\it.fad.faf=C.args/\C.words+1<=d
 ret:it.fad.fab=16->C.framed=false/\it.fad.faf=C.args+16*C.words/\d=C.words+1
 sp:it.fad.fab=15->0<i->it.fad.faf=0
 ent13:it.fad.fab=13->i=0
structure Ty (C:Cx) (l:List NW) (ds:List Int) (pn:List Int) (D:Int):Prop where
 len:ds.length=l.length
 pos:0<l.length
 item:∀(i:Nat) (it:NW) (d:Int),l[i]?=some it->ds[i]?=some d->OpTy C i it d
 fall:∀(i:Nat) (it:NW) (d:Int),l[i]?=some it->ds[i]?=some d->Kg it.fad.fab->(ds++[D])[i+1]?=some (MQ C it.fad d)
 jump:∀(i:Nat) (it:NW) (d:Int),l[i]?=some it->ds[i]?=some d->isJ it.fad.fab->(i:Int)∉pn->1<=it.fad.faf/\(ds++[D])[it.fad.faf.toNat]?=some (Na it.fad.fab d)
def Cd (l:List NW)(ds:List Int)(j e:Int):Prop:=0<=j/\∃c d,di l j.toNat=some c/\ds[j.toNat]?=some d/\isJ c/\e=Na c d
section
variable {C:Cx} {l l':List NW} {ds YP pn pn':List Int} {d D D' e:Int}
theorem vM {ds:List Int}{d D':Int}{j:Nat}{e:Int}(h:(ds++[d])[j]?=some e):((ds++[d])++[D'])[j]?=some e:=by rw[j7 (aJ h)];exact h
theorem Cd.ext {j:Int}(h:Cd l ds j e)(h1:∀i c,di l i=some c->di l' i=some c)(es:List Int):Cd l' (ds++es) j e:=by obtain⟨h0,c,d,k1,k2,k3,k4⟩:=h;exact⟨h0,c,d,h1 _ _ k1,by rw[j7 (aJ k2)];exact k2,k3,k4⟩
theorem Ty.emit (h:Ty C l ds pn d){it:NW}(ho:OpTy C l.length it d)(D':Int)(hf:Kg it.fad.fab->D'=MQ C it.fad d)(YF:∀i∈pn,i∈pn')
  (hj:isJ it.fad.fab->(l.length:Int)∈pn'\/(1<=it.fad.faf/\(ds++[d])[it.fad.faf.toNat]?=some (Na it.fad.fab d))):Ty C (l++[it]) (ds++[d]) pn' D':=by
 have hl:=h.len
 have key:∀(i:Nat) (Pr:NW) (d':Int),(l++[it])[i]?=some Pr->(ds++[d])[i]?=some d'->(l[i]?=some Pr/\ds[i]?=some d')\/(i=l.length/\Pr=it/\d'=d):=fun i Pr d' h1 h2=>by
  rcases x6 i l.length with hi|hi|hi
  ·rw[j7 hi]at h1;rw[j7 o_]at h2;exact .inl ⟨h1,h2⟩
  ·subst hi;rw[m5 (d6 _),v5,e9]at h1;rw[m5 o_,hl,v5,e9]at h2;injection h1 with h1;injection h2 with h2;exact .inr ⟨rfl,h1.symm,h2.symm⟩
  ·rw[d8 (by simp;omega)]at h1
   cases h1
 refine⟨by simp[hl],s_,fun i Pr d' h1 h2=>?_,fun i Pr d' h1 h2 h3=>?_,fun i Pr d' h1 h2 h3 h4=>?_⟩
 ·rcases key i Pr d' h1 h2 with⟨k1,k2⟩|⟨rfl,rfl,rfl⟩
  ·exact h.item i Pr d' k1 k2
  ·exact ho
 ·rcases key i Pr d' h1 h2 with⟨k1,k2⟩|⟨rfl,rfl,rfl⟩
  ·exact vM (h.fall i Pr d' k1 k2 h3)
  ·rw[m5 (by simp[hl])];simp[hl,hf h3]
 ·rcases key i Pr d' h1 h2 with⟨k1,k2⟩|⟨rfl,rfl,rfl⟩
  ·obtain⟨g1,g2⟩:=h.jump i Pr d' k1 k2 h3 (fun hm=>h4 (YF _ hm));exact⟨g1,vM g2⟩
  ·rcases hj h3 with g|⟨g1,g2⟩
   ·exact absurd g h4
   ·exact⟨g1,vM g2⟩
theorem pY {l:List NW}{j v:Int}{i:Nat}{it:NW}(h:(bD l j v)[i]?=some it):∃it0,l[i]?=some it0/\((it=it0/\¬(j=(i:Int)))\/(j=(i:Int)/\it=⟨⟨it0.fad.fab,v⟩,it0.fav,it0.fak,it0.fay,it0.fau,it0.faz⟩)):=by
 unfold bD at h;by_cases h0:0<=j
 ·rw[b9 h0]at h
  cases hx:l[j.toNat]? with
  | none=>
   rw[hx]at h;refine⟨it,h,.inl ⟨rfl,fun e=>?_⟩⟩;rw[show j.toNat=i by omega]at hx
   rw[hx]at h;cases h
  | some x=>
   rw[hx]at h;dsimp only at h;by_cases O2:j.toNat=i
   ·subst O2;rw[v6 (aJ hx)]at h;injection h with h;exact⟨x,hx,.inr ⟨o_,h.symm⟩⟩
   ·rw[A7 O2]at h;exact⟨it,h,.inl ⟨rfl,fun e=>O2 o_⟩⟩
 ·rw[b8 h0]at h;exact⟨it,h,.inl ⟨rfl,fun e=>h0 o_⟩⟩
theorem KB {i:Nat}{it:NW}{v:Int}(h:OpTy C i it d)(hj:isJ it.fad.fab):OpTy C i ⟨⟨it.fad.fab,v⟩,it.fav,it.fak,it.fay,it.fau,it.faz⟩ d:=by
 unfold isJ at hj;refine⟨h.dep,h.ent,h.lo,fun k=>?_,fun k=>?_,h.ld,h.ar,h.one,fun k=>?_,fun k=>?_,fun k=>?_,fun k=>?_,h.ent13⟩
 ·have:=(h.head k).1;split at this<;>omega
 all_goals(dsimp only at k;omega)
theorem Ty.patch (h:Ty C l ds pn D){j:Int}(hj:Cd l ds j D)(YF:∀i∈pn,i=j\/i∈pn'):Ty C (bD l j l.length) ds pn' D:=by
 obtain⟨h0,c,d,k1,k2,k3,k4⟩:=hj;have hl:=h.len
 have Ol:∀(i:Nat) (it:NW) (d':Int),l[i]?=some it->ds[i]?=some d'->j=(i:Int)->it.fad.fab=c/\d'=d:=fun i it d' g1 g2 e=>by
  rw[show j.toNat=i by omega]at k1 k2;rw[di,g1]at k1;rw[g2]at k2;injection k1 with k1;injection k2 with k2;exact⟨k1,k2⟩
 refine⟨by rw[be];exact hl,by rw[be];exact h.pos,fun i Pr d' h1 h2=>?_,fun i Pr d' h1 h2 h3=>?_,fun i Pr d' h1 h2 h3 h4=>?_⟩
 ·obtain⟨it0,g1,⟨rfl,_⟩|⟨e,rfl⟩⟩:=pY h1
  ·exact h.item i _ d' g1 h2
  ·exact KB (h.item i it0 d' g1 h2) (by rw[(Ol i it0 d' g1 h2 e).1];exact k3)
 ·obtain⟨it0,g1,⟨rfl,_⟩|⟨e,rfl⟩⟩:=pY h1
  ·exact h.fall i _ d' g1 h2 h3
  ·have hc:=(Ol i it0 d' g1 h2 e).1;dsimp only at h3⊢;have:=h.fall i it0 d' g1 h2 h3;rw[this];unfold Kg at h3;unfold isJ at k3;unfold MQ;dsimp only;rw[hc];rw[show c=11 by omega];simp
 ·obtain⟨it0,g1,⟨rfl,K0⟩|⟨e,rfl⟩⟩:=pY h1
  ·exact h.jump i _ d' g1 h2 h3 (fun hm=>by
    rcases YF _ hm with hm|hm
    ·exact K0 hm.symm
    ·exact h4 hm)
  ·obtain⟨hc,hd⟩:=Ol i it0 d' g1 h2 e;dsimp only at h3⊢;have hp1:=h.pos;refine⟨o_,?_⟩;rw[d9,<-hl,m5 (d6 _),v5,e9,hc,hd,k4]
theorem Ty.patchL (pn':List Int):∀(js:List Int) {l:List NW} {pn:List Int},Ty C l ds pn D->(∀j∈js,Cd l ds j D)->(∀i∈pn,i∈js\/i∈pn')->Ty C (patchL l l.length js) ds pn' D
 | [],l,pn,h,_,hp=>⟨h.len,h.pos,h.item,h.fall,fun i it d h1 h2 h3 h4=>h.jump i it d h1 h2 h3 fun hm=>by
   rcases hp _ hm with h'|h'
   ·cases h'
   ·exact h4 h'⟩
 | j::js,l,pn,h,hj,hp=>by
  have h1:=h.patch (pn':=js++pn') (hj j s_) (fun i hi=>by
   rcases hp i hi with h'|h'
   ·rcases d7.1 h' with h'|h'
    ·exact .inl h'
    ·exact .inr (e7.2 (.inl h'))
   ·exact .inr (e7.2 (.inr h')))
  have h2:=Ty.patchL pn' js h1 (fun i hi=>by
   have:=(hj i (by simp[hi])).ext (l':=bD l j l.length) (fun i c h=>by rw[tW];exact h) []
   simpa using this) (fun i hi=>by simpa using hi)
  rw[be]at h2;exact h2
end
structure T (C:Cx) (d D:Int) (ne:Prop) (s s':Gs):Prop where
 mono:s.most<=s'.most
 ext:∀i c,di s.items i=some c->di s'.items i=some c
 ty:s'.most<=C.words->∀ds pn,Ty C s.items ds pn d->∃es,(ne->es≠[])/\(es=[]->D=d)/\(∀x,es.head?=some x->x=d)/\Ty C s'.items (ds++es) pn D
section
variable {C:Cx} {d D E:Int} {a b c:Gs} {ne Zd:Prop}
theorem T.refl (s:Gs):T C d d False s s:=⟨u9 _,fun _ _ h=>h,fun _ ds pn h=>⟨[],fun h=>h.elim,fun _=>rfl,fun x hx=>absurd hx s_,by rw[m9];exact h⟩⟩
theorem T.trans (h:T C d D ne a b)(h':T C D E Zd b c):T C d E (ne\/Zd) a c:=by
 refine⟨A5 h.mono h'.mono,fun i v x=>h'.ext i v (h.ext i v x),fun hm ds pn ht=>?_⟩;obtain⟨es,e1,e2,e3,e4⟩:=h.ty (A5 h'.mono hm) ds pn ht;obtain⟨fs,f1,f2,f3,f4⟩:=h'.ty hm _ pn e4;refine⟨es++fs,fun hn=>?_,fun hn=>?_,fun x hx=>?_,by rw[<-k0];exact f4⟩
 ·rcases hn with hn|hn
  ·have:=e1 hn;intro h0;simp at h0;exact this h0.1
  ·have:=f1 hn;intro h0;simp at h0;exact this h0.2
 ·simp only[List.append_eq_nil_iff]at hn;rw[f2 hn.2,e2 hn.1]
 ·cases es with
  | nil=>rw[s8]at hx;rw[f3 x hx,e2 rfl]
  | cons y ys=>exact e3 x hx
end
def Beg (b:Nat)(s:Gs):Prop:=b<=s.items.length/\(s.start=true↔s.items.length=b)
theorem Beg.emit {b:Nat}{s:Gs}(h:Beg b s)(C:Cx)(d code arg line:Int)(chain:List Int):Beg b (aI C s d code arg line chain):=by obtain⟨h1,h2⟩:=h;refine⟨by simp only[aI,c7,d5,gt];omega,?_⟩;simp only[aI,c7,d5,gt];exact⟨fun h=>(by cases h),fun h=>by omega⟩
theorem Beg.off {b:Nat}{s s':Gs}(h:Beg b s)(h1:s.items.length<s'.items.length)(h2:s'.start=false):Beg b s':=by have:=h.1;exact⟨o_,by rw[h2];exact⟨fun h=>(by cases h),fun h=>by omega⟩⟩
section
variable {C:Cx} {x:Sc} {ins:List Nat} {rep:Sc->List Nat->Nat->Nat->Int->Gs->Gs} {line b:Nat}
end
def Keep (s s':Gs):Prop:=∀(j:Nat) (it:NW),s.items[j]?=some it->∃Pr,s'.items[j]?=some Pr/\Pr.fak=it.fak
theorem Keep.refl (s:Gs):Keep s s:=fun _ it h=>⟨it,h,rfl⟩
theorem Keep.trans {a b c:Gs}(h:Keep a b)(h':Keep b c):Keep a c:=fun j it hj=>by
 obtain⟨it1,h1,e1⟩:=h j it hj;obtain⟨it2,h2,e2⟩:=h' j it1 h1;exact⟨it2,h2,e2.trans e1⟩
theorem Keep.emit (C:Cx)(s:Gs)(d code arg line:Int)(chain:List Int):Keep s (aI C s d code arg line chain):=fun j it hj=>by
 refine⟨it,?_,rfl⟩;show(s.items++_)[j]?=_;rw[j7 (aJ hj)];exact hj
section
variable {C:Cx} {rep:Sc->List Nat->Nat->Nat->Int->Gs->Gs}
end
def Mark (b:Nat)(s:Gs):Prop:=(s.start=true/\s.items.length=b)\/∃it,s.items[b]?=some it/\it.fak=true
theorem Mark.keep {b:Nat}{s s':Gs}(h:∃it,s.items[b]?=some it/\it.fak=true)(hk:Keep s s'):∃it,s'.items[b]?=some it/\it.fak=true:=by obtain⟨it,h1,h2⟩:=h;obtain⟨Pr,h3,h4⟩:=hk b it h1;exact⟨Pr,h3,h4.trans h2⟩
theorem Mark.emit {b:Nat}{s:Gs}(h:Mark b s)(C:Cx)(d code arg line:Int)(chain:List Int):Mark b (aI C s d code arg line chain):=by
 rcases h with⟨h1,h2⟩|h
 ·refine .inr ⟨la C s d code arg line chain,?_,h1⟩;show(s.items++[_])[b]?=_;rw[<-h2];simp
 ·exact .inr (Mark.keep h (Keep.emit _ _ _ _ _ _ _))
section
variable {C:Cx} {rep:Sc->List Nat->Nat->Nat->Int->Gs->Gs} {b:Nat}
end
theorem zu {g:Nat}:∀{l:List NX} {i j:Nat} {x:NX},i<=g->l[g-i]?=some x->x.faa=0->eQ ((funsF l i).map fun n:Nat=>(n:Int)) j (g:Int)=some (j+((l.take (g-i)).filter fun x=>x.faa==0).length)
 | [],i,j,x,h,hx,_=>by simp at hx
 | y::l,i,j,x,h,hx,h0=>by
  rw[funsF];by_cases Sr:g=i
  ·subst Sr;rw[v5,e9]at hx;injection hx with hx;subst hx;rw[b9 h0,u4,p7,p9,eQ,b9 s_,v5];simp
  ·have hs:g-i=(g-(i+1))+1:=o_;rw[hs,j6]at hx;have ih:=fun j=>zu (g:=g) (l:=l) (i:=i+1) (j:=j) o_ hx h0;rw[hs,q7];by_cases hy:y.faa=0
   ·rw[b9 hy,u4,p7,D5,p9,s8,eQ,b8 (by simp;omega),ih,B4,b9 (by simp[hy]),d5];congr 1;omega
   ·rw[b8 hy,s8,ih,B4,b8 (by simp[hy])]
theorem IL {C:Cx}{g:Nat}(hg:bP C g):dy ((ay C.p).map fun n:Nat=>(n:Int)) (g:Int)=(iV C.p g:Int):=by obtain⟨x,hx,h0⟩:=hg;have:=zu (l:=C.p) (i:=0) (j:=0) (x:=x) (v4 g) (by simpa using hx) h0;unfold dy ay;rw[this];simp[cA,iV]
section
variable {C:Cx} {x y:Sc} {ins:List Nat} {rep:Sc->List Nat->Nat->Nat->Int->Gs->Gs} {line:Nat}
theorem BW {α:Type}[BEq α][LawfulBEq α]:∀{l:List α} {i k:Nat} {s:α},eQ l i s=some k->l[k-i]?=some s
 | [],i,k,s,h=>by rw[eQ]at h;cases h
 | a::l,i,k,s,h=>by
  rw[eQ]at h;split at h
  ·rename_i he;injection h with h;subst h;simp[A3 he]
  ·have h2:=BW h;have h3:=(il h).1;rw[show k-i=(k-(i+1))+1 by omega,j6];exact h2
theorem BS {g:Nat}(hg:bP C g):(ay C.p)[iV C.p g]?=some g:=by
 have h:=IL hg;unfold dy at h
 cases hi:eQ ((ay C.p).map fun n:Nat=>(n:Int)) 0 (g:Int)with
 | none=>rw[hi]at h;simp only[cA]at h;omega
 | some k=>
  rw[hi]at h;simp only[cA]at h;have h2:=BW hi;rw[x5,show k=iV C.p g by omega,l9]at h2
  cases hx:(ay C.p)[iV C.p g]? with
  | none=>rw[hx]at h2;cases h2
  | some v=>rw[hx]at h2;simp only[x7,Option.some.injEq]at h2;congr 1;omega
end
def plN (p:List NX)(i:Nat):Int:=if 0<dZ p i then dZ p i-1 else-dZ p i
section
variable {C:Cx} {x:Sc} {ins:List Nat} {rep:Sc->List Nat->Nat->Nat->Int->Gs->Gs} {base:Int}
theorem JN (hC:CxOk C)(hx:ScOk C x ins){e:Nat}(he:endAt C.p x.f=some e){i:Nat}(h1:x.f<i)(h2:i<e)(hj:jumps C.p i):(i:Int)<plN C.p i/\plN C.p i<e:=by
 have OH:i<C.p.length:=by obtain⟨_,_,_,_,_,h⟩:=aM he;omega
 obtain⟨y,hy⟩:=ae OH;have Tu:=aL hy;unfold plN dZ;by_cases h4:kindAt C.p i=4
 ·rw[b9 h4];obtain⟨o1,o2,o3,o4⟩:=hx.own4 hC he o_ o_ hy (by rw[<-Tu];exact h4);obtain⟨z,e',hz,hz3,N5,r1,r2,_⟩:=aV o1;obtain⟨m,hm,m1,m2⟩:=cT he o2 o_ hz (by rw[opensK_iff];omega);rw[N5]at hm;injection hm with hm;subst hm;have hE:bT C.p (ownOf C.p i:Int)=(e':Int):=by rw[bA];exact aZ N5
  rw[hE,b9 o_];omega
 ·rw[b8 h4];have aaT:kindAt C.p i=3\/kindAt C.p i=5:=by unfold jumps at hj;omega
  obtain⟨m,hm,m1,m2⟩:=cT he h1 h2 hy (by rw[opensK_iff];omega);split
  ·rename_i hc
   cases N1:elseAt C.p i with
   | none=>rw[bI,N1]at hc;simp[cA]at hc
   | some j=>
    obtain⟨_,e',_,_,N5,r1,r2,_⟩:=aV N1;rw[hm]at N5;injection N5 with N5;subst N5;have hE:bE C.p (i:Int)=(j:Int):=by rw[bI];exact aZ N1
    rw[hE,b8 o_];omega
  ·have hE:bT C.p (i:Int)=(m:Int):=by rw[bA];exact aZ hm
   rw[hE,b9 o_];omega
theorem Kh (hC:CxOk C)(hx:ScOk C x ins){e:Nat}(he:endAt C.p x.f=some e){k i:Nat}(h1:x.f<i)(h2:i<k)(h3:k<e)(hj:jumps C.p i)(hk:kindAt C.p k=4)(hp:plN C.p i=(k:Int)):i=ownOf C.p k:=by
 unfold plN at hp;by_cases h0:0<dZ C.p i
 ·rw[b9 h0]at hp;have:=(qo hC hx he (k:=k+1) o_ o_ o_ hj o_).1;rw[show k+1-1=k by omega]at this;omega
 ·rw[b8 h0]at hp;have ht:dZ C.p i= -(k:Int):=o_;unfold dZ at ht;have N2:=gJ C.p;split at ht
  ·have:=(N2 (ownOf C.p i)).1;omega
  ·split at ht
   ·rw[bI]at ht
    cases N1:elseAt C.p i with
    | none=>rw[N1]at ht;simp only[cA]at ht;omega
    | some j=>rw[N1]at ht;simp only[cA]at ht;have Pm:j=k:=o_;rw[Pm]at N1;exact(wl N1).symm
   ·have:=(N2 i).1;omega
theorem Ll (hC:CxOk C)(hx:ScOk C x ins){e:Nat}(he:endAt C.p x.f=some e){k i:Nat}(h1:x.f<i)(h2:i<k)(h3:k<e)(hj:jumps C.p i)(hk:kindAt C.p k=7)(hp:plN C.p i=(k:Int)):i=fj C.p k:=by
 unfold plN at hp;by_cases h0:0<dZ C.p i
 ·rw[b9 h0]at hp;have:=(qo hC hx he (k:=k+1) o_ o_ o_ hj o_).2.2;rw[show k+1-1=k by omega]at this;exact this.symm
 ·rw[b8 h0]at hp;have ht:dZ C.p i= -(k:Int):=o_;unfold dZ at ht;have N2:=gJ C.p;split at ht
  ·have:=(N2 (ownOf C.p i)).1;omega
  ·split at ht
   ·rw[bI]at ht
    cases N1:elseAt C.p i with
    | none=>rw[N1]at ht;simp only[cA]at ht;omega
    | some j=>rw[N1]at ht;simp only[cA]at ht;have Pm:j=k:=o_;rw[Pm]at N1;obtain⟨_,_,_,_,_,_,_,w,hw,w4⟩:=aV N1;rw[aL hw]at hk;omega
   ·have:=(N2 i).1;omega
theorem Je (hC:CxOk C)(hx:ScOk C x ins){e:Nat}(he:endAt C.p x.f=some e){k i:Nat}(h1:x.f<i)(h2:i<k)(h3:k<e)(hj:jumps C.p i)(hp:plN C.p i=(k:Int)):kindAt C.p k=4\/kindAt C.p k=7:=by
 unfold plN at hp;by_cases h0:0<dZ C.p i
 ·rw[b9 h0]at hp;have:=(qo hC hx he (k:=k+1) o_ o_ o_ hj o_).1;rw[show k+1-1=k by omega]at this;exact .inr this
 ·rw[b8 h0]at hp;have ht:dZ C.p i= -(k:Int):=o_;unfold dZ at ht;have N2:=gJ C.p;split at ht
  ·have:=(N2 (ownOf C.p i)).1;omega
  ·split at ht
   ·rw[bI]at ht
    cases N1:elseAt C.p i with
    | none=>rw[N1]at ht;simp only[cA]at ht;omega
    | some j=>rw[N1]at ht;simp only[cA]at ht;have Pm:j=k:=o_;rw[Pm]at N1;obtain⟨_,_,_,_,_,_,_,w,hw,w4⟩:=aV N1;exact .inl (by rw[aL hw];exact w4)
   ·have:=(N2 i).1;omega
structure LsT (C:Cx) (x:Sc) (base:Int) (ds0 pn0:List Int) (k:Nat) (L:Ls) (ds pn:List Int):Prop where
 pre:∃es,ds=ds0++es/\∀v,es.head?=some v->v=base
 ty:Ty C L.g.items ds pn base
 heads:∀i,x.f<i->i<k->kindAt C.p i≠4->kindAt C.p i≠7->1<=atL L.heads i/\ds[(atL L.heads i).toNat]?=some base
 pos:∀i,x.f<i->i<k->jumps C.p i->Cd L.g.items ds (atL L.pos i) base
 lv:∀j∈L.lv,Cd L.g.items ds j (base+1)
 lvo:x.outer=true->L.lv=[]
 pn:∀j∈pn,j∈pn0\/j∈L.lv\/∃i,x.f<i/\i<k/\jumps C.p i/\(k:Int)<=plN C.p i/\j=atL L.pos i
 hl:L.heads.length=C.p.length
 pl:L.pos.length=C.p.length
structure LT (C:Cx) (x:Sc) (base:Int) (k k':Nat) (L L':Ls):Prop where
 mono:L.g.most<=L'.g.most
 ext:∀i c,di L.g.items i=some c->di L'.g.items i=some c
 ty:L'.g.most<=C.words->bz C x<=C.words->∀ds0 pn0 ds pn,LsT C x base ds0 pn0 k L ds pn->∃es pn',LsT C x base ds0 pn0 k' L' (ds++es) pn'
theorem LT.trans {k k' k'':Nat}{L L' L'':Ls}(h:LT C x base k k' L L')(h':LT C x base k' k'' L' L''):LT C x base k k'' L L'':=
 ⟨A5 h.mono h'.mono,fun i c g=>h'.ext i c (h.ext i c g),fun hm ht ds0 pn0 ds pn hL=>by
  obtain⟨es,pn1,h1⟩:=h.ty (A5 h'.mono hm) ht ds0 pn0 ds pn hL;obtain⟨fs,pn2,h2⟩:=h'.ty hm ht ds0 pn0 _ pn1 h1
  exact⟨es++fs,pn2,by rw[<-k0];exact h2⟩⟩
end
section
variable {C:Cx} {x:Sc} {ins:List Nat} {rep:Sc->List Nat->Nat->Nat->Int->Gs->Gs} {base:Int}
theorem yr:∀(n k:Nat) (L:Ls),(∀i,k<=i->i<k+n->∃ln,C.p[i]?=some ln)->fF C rep x ins base (n+1) k L=fF C rep x ins base 1 (k+n) (fF C rep x ins base n k L)
 | 0,k,L,_=>rfl
 | n+1,k,L,h=>by
  obtain⟨ln,hk⟩:=h k (d6 _) o_;rw[fF,hk];dsimp only;rw[yr n (k+1) _ (fun i h1 h2=>h i o_ o_),show k+1+n=k+(n+1) by omega];rw[show fF C rep x ins base (n+1) k L=fF C rep x ins base n (k+1) (bJ C x k ln (cZ C rep x ins base k ln L)) by rw[fF,hk]]
end
mutual
theorem Ex.toks_inj:∀(a b:Ex) (r r':List Og),a.ok->b.ok->a.toks++r=b.toks++r'->a=b/\r=r'
 | .node t es,.node u fs,r,r',ha,hb,h=>by
  rw[Ex.toks,Ex.toks,p9,p9]at h;injection h with h1 h2;subst h1;obtain⟨e1,e2⟩:=xS es fs r r' (by rw[ha.2.1,hb.2.1]) ha.2.2 hb.2.2 h2;exact⟨by rw[e1],e2⟩
theorem xS:∀(a b:List Ex) (r r':List Og),a.length=b.length->ig a->ig b->ak a++r=ak b++r'->a=b/\r=r'
 | [],[],r,r',_,_,_,h=>⟨rfl,by simpa [ak]using h⟩
 | x::a,y::b,r,r',hl,ha,hb,h=>by
  rw[ak,ak,k0,k0]at h;obtain⟨e1,h2⟩:=Ex.toks_inj x y _ _ ha.1 hb.1 h;obtain⟨e2,h3⟩:=xS a b r r' (by simpa using hl) ha.2 hb.2 h2
  exact⟨by rw[e1,e2],h3⟩
 | [],_::_,_,_,hl,_,_,_=>by simp at hl
 | _::_,[],_,_,hl,_,_,_=>by simp at hl
end
theorem Ia {e:Ex}(h:e.ok)(hl:bh e.toks=true):exL e.toks=e:=by obtain⟨h1,h2⟩:=nF hl;exact(Ex.toks_inj (exL e.toks) e [] [] h1 h (by rw[m9,m9];exact h2.symm)).1
theorem Ja {l:List Og}(h:bh l=true):exL (lE l)=(exL l).fold:=by
 obtain⟨e,h1,h2,h3⟩:=rG h;have h4:=(iT h).1;rw[h3]at h4⊢
 have he:exL l=e:=by have h5:=h;rw[h2]at h5⊢;exact Ia h1 h5
 rw[Ia (e.fold_ok h1) h4,he]
section
variable {p q:List NX} {locals:List (List UInt8)} {vals:List Int} {call:ic}
theorem LB (t:Og)(fs:List Ex)(s:IS):evE p locals vals call (uH t fs) s=evE p locals vals call (.node t fs) s:=by
 unfold uH;split
 ·rename_i a b;split
  ·rename_i hc;obtain⟨c1,c2,c3,c4⟩:=hc;have c1:=within_iff.1 c1
   have e0:∀(x:Og) (s:IS),x.faa=0->evE p locals vals call (.node x []) s= .ok x.far s:=fun x s hx=>by
    rw[evE,bn,Rr.bnd_ok,gG,b9 hx]
   rw[Bm,e0 _ s rfl,evE,bn,e0 a s c2,Rr.bnd_ok,bn,e0 b s c3,Rr.bnd_ok,bn,Rr.bnd_ok,Rr.bnd_ok,Rr.bnd_ok,gG,b8 o_,b8 o_,b8 o_];rfl
  ·rfl
 ·rfl
mutual
theorem BF:∀(e:Ex) (s:IS),evE p locals vals call e.fold s=evE p locals vals call e s
 | .node t es,s=>by
  rw[Ex.fold,LB,evE,evE,zd es s]
theorem zd:∀(es:List Ex) (s:IS),bn p locals vals call (bQ es) s=bn p locals vals call es s
 | [],s=>by rw[bQ]
 | a::es,s=>by
  rw[bQ,bn,bn,BF a s]
  cases evE p locals vals call a s with
  | ok v s1=>rw[Rr.bnd_ok,Rr.bnd_ok,zd es s1]
  | stop c s1=>rfl
  | fuel=>rfl
end
mutual
theorem za (hf:∀nm,findN p 0 nm=findN q 0 nm):∀(e:Ex) (s:IS),evE p locals vals call e s=evE q locals vals call e s
 | .node t es,s=>by
  rw[evE,evE,vX hf es s];congr 1;funext av s';unfold gG;rw[hf]
theorem vX (hf:∀nm,findN p 0 nm=findN q 0 nm):∀(es:List Ex) (s:IS),bn p locals vals call es s=bn q locals vals call es s
 | [],s=>by rw[bn,bn]
 | a::es,s=>by
  rw[bn,bn,za hf a s]
  cases evE q locals vals call a s with
  | ok v s1=>rw[Rr.bnd_ok,Rr.bnd_ok,vX hf es s1]
  | stop c s1=>rfl
  | fuel=>rfl
end
end
theorem alike.kindAt {p q:List NX}(h:alike p q)(k:Nat):kindAt p k=kindAt q k:=by
 unfold Go.Proofs.Ytoglejgmjeojoaa.kindAt
 cases hx:p[k]? with
 | none=>rw[h.none hx]
 | some x=>obtain⟨y,hy,e1,_⟩:=h.get hx;rw[hy];exact e1
theorem alike.ownN {p q:List NX}(h:alike p q)(k:Nat):∀n,ownN p k n=ownN q k n
 | 0=>rfl
 | n+1=>by rw[Go.Proofs.Ytoglejgmjeojoaa.ownN,Go.Proofs.Ytoglejgmjeojoaa.ownN,h.endAt,h.elseAt,alike.ownN h k n]
theorem alike.ownOf {p q:List NX}(h:alike p q)(k:Nat):ownOf p k=ownOf q k:=by unfold Go.Proofs.Ytoglejgmjeojoaa.ownOf;rw[h.ownN,h.len]
theorem alike.skipAt {p q:List NX}(h:alike p q)(k:Nat):skipAt p k=skipAt q k:=by unfold Go.Proofs.Ytoglejgmjeojoaa.skipAt;rw[h.elseAt,cO,cO,h.endAt]
theorem alike.anyE {p q:List NX}(h:alike p q)(i:Nat):∀n j,anyE p i n j=anyE q i n j
 | 0,_=>rfl
 | n+1,j=>by rw[Go.Proofs.Ytoglejgmjeojoaa.anyE,Go.Proofs.Ytoglejgmjeojoaa.anyE,h.elseAt,alike.anyE h i n]
theorem alike.elsesIn {p q:List NX}(h:alike p q)(k e:Nat):∀n i,elsesIn p k e n i=elsesIn q k e n i
 | 0,_=>rfl
 | n+1,i=>by
  rw[Go.Proofs.Ytoglejgmjeojoaa.elsesIn,Go.Proofs.Ytoglejgmjeojoaa.elsesIn]
  cases hx:p[i]? with
  | none=>rw[h.none hx]
  | some x=>obtain⟨y,hy,e1,_⟩:=h.get hx;rw[hy];dsimp only;rw[e1,h.anyE,alike.elsesIn h k e n]
theorem alike.find {p q:List NX}(h:alike p q)(s:List UInt8):Go.Proofs.Ytoglejgmjeojoaa.findN p 0 s=Go.Proofs.Ytoglejgmjeojoaa.findN q 0 s:=h.findN 0 s
theorem alike.nameFirst {p q:List NX}(h:alike p q)(k:Nat):nameFirst p k=nameFirst q k:=by
 unfold Go.Proofs.Ytoglejgmjeojoaa.nameFirst
 cases hx:p[k]? with
 | none=>rw[h.none hx]
 | some x=>obtain⟨y,hy,_,e2,_⟩:=h.get hx;rw[hy];dsimp only;rw[e2,h.find]
theorem alike.headOk {p q:List NX}(h:alike p q):headOk p=headOk q:=by
 cases p with
 | nil=>have:=h.len;cases q with
  | nil=>rfl
  | cons=>simp at this
 | cons x p=>cases q with
  | nil=>have:=h.len;simp at this
  | cons y q=>obtain⟨z,hz,e1,e2,e3⟩:=h.get (k:=0) (x:=x) rfl;simp at hz;subst hz;unfold Go.Proofs.Ytoglejgmjeojoaa.headOk;dsimp only;rw[e1,e2,e3]
theorem ud {F F':Nat->Nat->Bool}{p q:List NX}(h:alike p q)(hF:∀k e,F k e=true->F' k e=true):∀n k,bU F p n k=true->bU F' q n k=true
 | 0,k,hc=>by rw[bU]at hc⊢;rw[<-h.len];exact hc
 | n+1,k,hc=>by
  rw[bU]at hc⊢;rw[<-h.len];split
  ·rename_i hk;rw[b9 hk]at hc;split at hc
   ·rename_i x e hx he;obtain⟨y,hy,e1,_⟩:=h.get hx;rw[hy,<-h.endAt,he];dsimp only;split at hc
    ·rename_i PY;rw[b9 ⟨by rw[<-e1];exact PY.1,hF _ _ PY.2⟩];exact ud h hF n _ hc
    ·cases hc
   ·cases hc
  ·rfl
theorem tV {x:NX}(h:dl x=true):bh x.fae=true\/x.fae=[]:=by
 unfold dl at h;simp only[c8]at h;obtain⟨_,_,_,h⟩:=h;split at h
 ·exact .inl h
 ·exact .inr (z6.1 (A3 h))
theorem iL (x:NX):(aA x).faa=x.faa/\(aA x).fac=x.fac/\(aA x).faj=x.faj:=by unfold aA;split<;>exact⟨rfl,rfl,rfl⟩
theorem lh {x:NX}(h:bh x.fae=true\/x.fae=[]):(bh x.fae=true/\(aA x).fae=lE x.fae)\/(x.fae=[]/\aA x=x):=by
 rcases h with h|h
 ·have hp:0<x.fae.length:=by unfold bh at h;simp only[c8,i7]at h;exact h.2.1
  exact .inl ⟨h,by rw[aA,b9 hp]⟩
 ·exact .inr ⟨h,by rw[aA,b8 (by rw[h];simp)]⟩
theorem BP {x:NX}(h:dl x=true):dl (aA x)=true:=by
 obtain⟨k1,k2,k3⟩:=iL x;unfold dl at h⊢;rw[k1,k2,k3];simp only[c8]at h⊢;obtain⟨h1,h2,h3,h4⟩:=h;refine⟨h1,h2,h3,?_⟩;split
 ·rename_i hx;rw[b9 hx]at h4;rcases lh (.inl h4)with⟨_,e⟩|⟨e,_⟩
  ·rw[e];exact(iT h4).1
  ·rw[e]at h4;simp[bh]at h4
 ·rename_i hx;rw[b8 hx]at h4;have:x.fae=[]:=z6.1 (A3 h4);rw[aA,b8 (by rw[this];simp)];exact h4
theorem xo {p q:List NX}(h:alike p q)(locals:List (List UInt8))(t:Og):cI p locals t=cI q locals t:=by
 unfold cI;rw[h.find];split
 ·rfl
 ·split
  ·split
   ·rename_i f _
    cases hx:p[f]? with
    | none=>rw[h.none hx]
    | some x=>obtain⟨y,hy,_,_,e3⟩:=h.get hx;rw[hy];dsimp only;rw[e3]
   ·rfl
  ·rfl
theorem Ep {p:List NX}{locals:List (List UInt8)}{x:NX}(he:bh x.fae=true\/x.fae=[])(h:eN p locals x.fae=true):eN (p.map aA) locals (aA x).fae=true:=by
 unfold eN at *
 rw[n7]at *
 intro z hz;rw[xo (dh p)];rcases lh he with⟨h1,e⟩|⟨_,e⟩
 ·rw[e]at hz;rcases(iT h1).2 z hz with hz|⟨n,rfl⟩
  ·exact h z hz
  ·simp[cI]
 ·rw[e]at hz;exact h z hz
theorem yS {p:List NX}(hl:∀x∈p,bh x.fae=true\/x.fae=[]){locals:List (List UInt8)}{e:Nat}:∀n i d,np p locals e n i d=true->np (p.map aA) locals e n i d=true
 | 0,_,_,_=>rfl
 | n+1,i,d,h=>by
  rw[np]at h⊢;split
  ·rename_i hi;rw[b9 hi]at h
   cases hx:p[i]? with
   | none=>rw[hx]at h;cases h
   | some x=>
    rw[hx]at h;rw[l9,hx];dsimp only[Option.map_some]at h⊢;have hd:dep (aA x) d=dep x d:=by unfold dep;rw[(iL x).1]
    rw[(iL x).1,hd];split at h
    ·cases h
    ·rename_i h0;rw[b8 h0];split at h
     ·rename_i hc;rw[b9 ⟨hc.1,Ep (hl x (d4 hx)) hc.2⟩];exact yS hl n _ _ h
     ·cases h
  ·rfl
theorem xt {p:List NX}(h:ah p=true):ah (p.map aA)=true:=by
 have ha:=dh p;unfold ah at h⊢;simp only[c8,i7]at h⊢;obtain⟨h1,h2,h3,h4,h5,h6,h7⟩:=h;have hfu:ay (p.map aA)=ay p:=ha.funsF 0;have Q3:=n7.1 h3;refine⟨by rw[e8];exact h1,by rw[hfu];exact h2,?_,by rw[ha.headOk];exact h4,?_,?_,?_⟩
 ·rw[n7];intro x hx;obtain⟨y,hy,rfl⟩:=p6.1 hx;exact BP (Q3 y hy)
 ·rw[hfu,n7];intro k hk;rw[ha.nameFirst];exact n7.1 h5 k hk
 ·rw[e8];refine ud (Eq.symm ha) (fun k e hf=>?_) _ _ h6;unfold uP at hf⊢;rw[c8]at hf⊢;rw[ha.localsOf];exact⟨hf.1,yS (fun x hx=>tV (Q3 x hx)) _ _ _ hf.2⟩
 ·unfold vp at h7⊢;rw[ha.elsesIn,e8];exact h7
theorem iU {p:List NX}(hl:∀x∈p,bh x.fae=true\/x.fae=[]){lim:Int}:∀(n:Nat) (calls:List Int) (f k:Nat) (vals:List Int) (s:IS),aT (p.map aA) lim n calls f k vals s=aT p lim n calls f k vals s
 | 0,_,_,_,_,_=>rfl
 | n+1,calls,f,k,vals,s=>by
  have ha:=dh p
  cases hk:p[k]? with
  | none=>rw[gg hk,gg (by rw[l9,hk];rfl)]
  | some ln=>
   have Pb:(p.map aA)[k]?=some (aA ln):=by rw[l9,hk];rfl
   obtain⟨k1,k2,k3⟩:=iL ln;by_cases h7:ln.faa=7
   ·rw[cD hk h7,cD Pb (by rw[k1];exact h7),ha.ownOf,ha.kindAt,iU hl n]
   by_cases h4:ln.faa=4
   ·rw[dC hk h4,dC Pb (by rw[k1];exact h4),ha.ownOf,cO,cO,ha.endAt,iU hl n]
   by_cases hv:(s.visits.length:Int)=lim
   ·rw[dE hk h7 h4 hv,dE Pb (by rw[k1];exact h7) (by rw[k1];exact h4) hv]
   ·rw[dW hk h7 h4 hv,dW Pb (by rw[k1];exact h7) (by rw[k1];exact h4) hv]
    have hc:bk (p.map aA) lim n calls k=bk p lim n calls k:=by funext g av s';unfold bk;rw[iU hl n,ha.localsOf]
    have he:∀s1,evE (p.map aA) (localsOf (p.map aA) (f:Int)) vals (bk (p.map aA) lim n calls k) (exL (aA ln).fae) s1=evE p (localsOf p (f:Int)) vals (bk p lim n calls k) (exL ln.fae) s1:=by
     intro s1;rw[hc,ha.localsOf,za (q:=p) ha.find];rcases lh (hl ln (d4 hk))with⟨h1,e⟩|⟨_,e⟩
     ·rw[e,Ja h1,BF]
     ·rw[e]
    rw[he];congr 1;funext v s';have e1:dI (p.map aA) (aA ln) k v=dI p ln k v:=by unfold dI;rw[k1,ha.skipAt]
    have e2:mH (localsOf (p.map aA) (f:Int)) (aA ln) vals v=mH (localsOf p (f:Int)) ln vals v:=by unfold mH;rw[k1,k2,ha.localsOf]
    have e3:je (aA ln) s' v=je ln s' v:=by unfold je;rw[k1]
    rw[k1,e1,e2,e3,iU hl n]
end Go.Proofs.Ytoglejgmjeojoaa
namespace Go.Proofs.Ytoglejgmjeojoaa
open Go.Sim
set_option maxRecDepth 100000
set_option maxHeartbeats 4000000
structure Rl (s s':Gs):Prop where
 len:s.items.length=s'.items.length
 most:s.most=s'.most
 start:s.start=s'.start
structure Wd (C C':Cx):Prop where
 p:C'.p=C.p
 b:C'.b=C.b
 fr:C'.framed=C.framed
 args:C'.args=C.args
section
variable {C C':Cx} {x:Sc} {ins:List Nat} {rep OZ:Sc->List Nat->Nat->Nat->Int->Gs->Gs} {line:Nat}
theorem dK {s s':Gs}(h:Rl s s')(d d' c c' a a' l l':Int)(ch ch':List Int):Rl (aI C s d c a l ch) (aI C' s' d' c' a' l' ch'):=⟨by simp[aI,h.len],h.most,rfl⟩
theorem yx (y:Sc)(ch:List Int)(l:Int):∀(n:Nat) (d d':Int) {s s':Gs},Rl s s'->Rl (bR C y ch l n d s) (bR C' y ch l n d' s')
 | 0,_,_,_,_,h=>h
 | n+1,d,d',s,s',h=>by rw[bR,bR];exact yx y ch l n _ _ (dK h ..)
theorem Cm (y:Sc)(ch:List Int)(l d d':Int):∀(n i:Nat) {s s':Gs},Rl s s'->Rl (cL C y ch l d n i s) (cL C' y ch l d' n i s')
 | 0,_,_,_,h=>h
 | n+1,i,s,s',h=>by rw[cL,cL];exact Cm y ch l d d' n (i+1) (dK (dK h ..) ..)
def DW (rep OZ:Sc->List Nat->Nat->Nat->Int->Gs->Gs):Prop:=∀(x:Sc) (ins:List Nat) (line g:Nat) (d d':Int) (s s':Gs),Rl s s'->Rl (rep x ins line g d s) (OZ x ins line g d' s')
theorem MP (hw:Wd C C')(hr:DW rep OZ)(t:Og)(d d':Int){s s':Gs}(h:Rl s s'):Rl (jv C rep x ins line t d s) (jv C' OZ x ins line t d' s'):=by
 unfold jv;rw[hw.p];split
 ·exact dK h ..
 split
 ·exact dK h ..
 split
 ·split
  ·rename_i g hg;have hB:cK C' ins g s'.items.length=cK C ins g s.items.length:=by unfold cK;rw[hw.p,hw.b,h.len]
   rw[hB];split
   ·exact hr _ _ _ _ _ _ _ _ h
   ·exact dK h ..
  ·exact h
 ·exact dK h ..
mutual
theorem FG (hw:Wd C C')(hr:DW rep OZ):∀(e:Ex) (d d':Int) {s s':Gs},Rl s s'->Rl (dJ C rep x ins line e d s) (dJ C' OZ x ins line e d' s')
 | .node t es,d,d',s,s',h=>by rw[dJ,dJ];exact MP hw hr t _ _ (BO hw hr es d d' h)
theorem BO (hw:Wd C C')(hr:DW rep OZ):∀(es:List Ex) (d d':Int) {s s':Gs},Rl s s'->Rl (cp C rep x ins line es d s) (cp C' OZ x ins line es d' s')
 | [],_,_,s,s',h=>by rw[cp,cp];exact h
 | a::es,d,d',s,s',h=>by rw[cp,cp];exact BO hw hr es _ _ (FG hw hr a d d' h)
end
theorem Em (hw:Wd C C')(x:Sc):bz C' x=bz C x:=by unfold bz;rw[hw.args]
theorem MI (hw:Wd C C')(x:Sc)(line g:Nat)(d d':Int){s s':Gs}(h:Rl s s'):Rl (eS C x line g d s) (eS C' x line g d' s'):=by unfold eS;rw[show bS C' x line g=bS C x line g by unfold bS;rw[hw.p,Em hw],hw.p,Em hw];exact Cm _ _ _ _ _ _ _ (yx _ _ _ _ _ _ ⟨h.len,by dsimp only;rw[h.most],h.start⟩)
theorem In (x:Sc)(line:Nat)(d d':Int){s s':Gs}(h:Rl s s'):Rl (ck C x line d s) (ck C' x line d' s'):=by
 unfold ck;rw[h.start];split
 ·exact dK h ..
 ·exact h
theorem Dl (hw:Wd C C')(x:Sc)(k:Nat)(last:Bool)(d d':Int){L L':Ls}(h:Rl L.g L'.g):Rl (bM C x k last d L).g (bM C' x k last d' L').g:=by
 unfold bM;rw[hw.fr];split
 ·split
  ·exact dK h ..
  ·exact dK h ..
 ·split
  ·exact h
  ·exact dK h ..
theorem HU {s s':Gs}(h:Rl s s')(j j' v v':Int):Rl ⟨bD s.items j v,s.most,s.start⟩ ⟨bD s'.items j' v',s'.most,s'.start⟩:=⟨by dsimp only;rw[be,be,h.len],h.most,h.start⟩
theorem Kn (hw:Wd C C')(hr:DW rep OZ)(b b':Int)(k:Nat)(ln:NX){L L':Ls}(h:Rl L.g L'.g):Rl (cZ C rep x ins b k ln L).g (cZ C' OZ x ins b' k ln L').g:=by
 unfold cZ;rw[hw.p];split
 ·exact HU (dK h ..) _ _ _ _
 split
 ·split
  ·exact Dl hw x k true _ _ (L:={L with g:=aI C L.g b 0 0 k x.chain}) (L':={L' with g:=aI C' L'.g b' 0 0 k x.chain}) (dK h ..)
  split
  ·exact dK h ..
  ·exact h
 ·have hg:=FG (x:=x) (ins:=ins) (line:=k) hw hr (exL ln.fae) b b' (s:=⟨L.g.items,L.g.most,true⟩) (s':=⟨L'.g.items,L'.g.most,true⟩) ⟨h.len,h.most,rfl⟩;dsimp only;split
  ·exact dK hg ..
  split
  ·exact dK hg ..
  split
  ·exact Dl hw x k false _ _ (L:={L with g:=dJ C rep x ins k (exL ln.fae) b ⟨L.g.items,L.g.most,true⟩,heads:=L.heads.set k L.g.items.length}) (L':={L' with g:=dJ C' OZ x ins k (exL ln.fae) b' ⟨L'.g.items,L'.g.most,true⟩,heads:=L'.heads.set k L'.g.items.length}) hg
  ·exact dK hg ..
theorem Ka (hw:Wd C C')(k:Nat)(ln:NX){L L':Ls}(h:Rl L.g L'.g):Rl (bJ C x k ln L).g (bJ C' x k ln L').g:=by
 unfold bJ;rw[hw.p];split
 ·exact HU h _ _ _ _
 ·exact h
theorem FW (hw:Wd C C')(hr:DW rep OZ)(b b':Int):∀(n k:Nat) {L L':Ls},Rl L.g L'.g->Rl (fF C rep x ins b n k L).g (fF C' OZ x ins b' n k L').g
 | 0,k,L,L',h=>by rw[fF,fF];exact h
 | n+1,k,L,L',h=>by
  rw[fF,fF,hw.p];split
  ·exact FW hw hr b b' n (k+1) (Ka hw k _ (Kn hw hr b b' k _ h))
  ·exact h
theorem Cu (hw:Wd C C')(hr:DW rep OZ)(b b':Int){s s':Gs}(h:Rl s s'):Rl (bv C rep x ins b s).1 (bv C' OZ x ins b' s').1:=by unfold bv;dsimp only;rw[hw.p];exact FW hw hr b b' _ _ h
end
theorem Gi {C C':Cx}(hw:Wd C C'):∀n,DW (bY C n) (bY C' n)
 | 0=>fun _ _ _ _ _ _ _ _ h=>h
 | n+1=>fun x ins line g d d' s s' h=>by
  show Rl (kO C (bv C (bY C n)) x ins line g d s) (kO C' (bv C' (bY C' n)) x ins line g d' s');unfold kO;dsimp only;rw[hw.p,show bS C' x line g=bS C x line g by unfold bS;rw[hw.p,Em hw]];have:=Cu (x:=bS C x line g) (ins:=ins++[g]) hw (Gi hw n) (d-argsN C.p g) (d'-argsN C.p g) (In (C:=C) (C':=C') x line (d-argsN C.p g) (d'-argsN C.p g) (MI hw x line g d d' h));exact⟨by dsimp only;rw[fY,fY,this.len],this.most,this.start⟩
theorem IH {C C':Cx}(hw:Wd C C')(g:Nat):(dg C' g).most=(dg C g).most:=by
 have h0:Rl (cV C g) (cV C' g):=⟨rfl,by simp[cV,aI,hw.p,hw.args],rfl⟩;have hsc:aQ C' g=aQ C g:=by unfold aQ;rw[hw.p]
 have:=Cu (x:=aQ C g) (ins:=[g]) hw (Gi hw C.b.faq.toNat) C.words C'.words h0;unfold dg;rw[hsc,hw.b];exact this.most.symm
end Go.Proofs.Ytoglejgmjeojoaa
namespace Go.Proofs.Ytoglejgmjeojoaa
open Go.Sim
set_option maxRecDepth 100000
set_option maxHeartbeats 4000000
def lz (c:Int):Int×Int:=
 if c=0 then(-2147483648,2147483647)else if c=1\/c=2\/c=3\/c=4\/c=10\/c=11 then(-32768,32767)
 else if c=16 then(0,65535)else if c=12\/c=13\/c=14\/c=15 then(0,255)else(0,0)
def dB (c a:Int):Bool:=af c 0 17&&af a (lz c).1 (lz c).2
theorem Bx (c:Int):(bc c=(4,true)/\lz c=(-2147483648,2147483647))\/(bc c=(2,true)/\lz c=(-32768,32767))\/(bc c=(2,false)/\lz c=(0,65535))\/(bc c=(1,false)/\lz c=(0,255))\/(bc c=(0,false)/\lz c=(0,0)):=by
 unfold bc lz;repeat' split
 all_goals simp
theorem BH (x:NZ):Sim.Spec Try.prog 79 [.agg x.tr] (rB (dB x.fab x.faf)):=by
 refine bF hΓ aK Try.func79 rfl d_ rfl ?_;have hi:=bd x.fab 0 17;have ha:=fS x.fab;have h0:dB x.fab x.faf=(af x.fab 0 17&&af x.faf (lz x.fab).1 (lz x.fab).2):=rfl;rw[h0]
 cases hw:af x.fab 0 17 with
 | false=>
  rw[hw]at hi
  repeat' ((conv=>whnf);first|apply Wx|apply W6|apply oi|apply fi|intro h|refine cl ha ?_|refine cl hi ?_|refine⟨_,rfl,?_⟩|exact Y7|fail)
 | true=>
  rw[hw]at hi;rw[m8];rcases Bx x.fab with⟨e1,e2⟩|⟨e1,e2⟩|⟨e1,e2⟩|⟨e1,e2⟩|⟨e1,e2⟩
  all_goals(
   rw[LI,e1]at ha;rw[e2];have gb:=bd x.faf (lz x.fab).1 (lz x.fab).2;rw[e2]at gb;repeat' ((conv=>whnf);first|apply Wx|apply W6|apply oi|apply fi|intro h|refine cl ha ?_|refine cl hi ?_|refine .inl (ci gb (ai rfl (ai KW (ai KW trivial))) ?_)|refine⟨_,rfl,?_⟩|exact Y7|fail)
   skip)
def lj (a:Int)(k:Nat):UInt8:=UInt8.ofNat ((a.fdiv (2^(8*k)))%256).toNat
def jm (a:Int)(n:Nat):List UInt8:=(List.range n).map (lj a)
def bm (x:NZ):List UInt8:=if dB x.fab x.faf=true then UInt8.ofNat x.fab.toNat::jm x.faf (bc x.fab).1.toNat else []
theorem Bz (a:Int)(n:Nat):jm a (n+1)=jm a n++[lj a n]:=by simp[jm,F3]
theorem eC {x:NZ}(h:dB x.fab x.faf=true):((bm x).length:Int)=aN x.fab:=by have L3:=dV x.fab;rw[bm,b9 h];unfold dB at h;rw[c8]at h;rw[aN,b9 h.1];simp[jm];omega
theorem uf (x:NZ):(bm x).length<=5:=by
 have L3:=dV x.fab;unfold bm;split
 ·simp[jm];omega
 ·simp
theorem GK (a:Int){k:Nat}(h:k<=4):IntKind.u8.wrap (a.fdiv (2^min (IntKind.i64.wrap (8*(k:Int))).toNat IntKind.i64.bits))=((lj a k).toNat:Int):=by
 have h8:IntKind.i64.wrap (8*(k:Int))=((8*k:Nat):Int):=by rw[c9 _ o_];rfl
 rw[h8,d9,y8 (by show 8*k<=64;omega)];unfold lj;generalize a.fdiv (2^(8*k))=z;simp[IntKind.wrap,IntKind.bits,IntKind.signed];omega
theorem uC (x:NZ):Sim.Spec Try.prog 67 [.agg x.tr] (rS (bm x)):=by
 refine bF hΓ aK Try.func67 rfl d_ rfl ?_;have ho:=BH x;have ha:=fS x.fab;unfold bm
 cases hw:dB x.fab x.faf with
 | false=>
  rw[hw]at ho
  repeat' ((conv=>whnf);first|apply Wx|apply W6|apply oi|apply fi|intro h|refine cl ho ?_|refine⟨_,rfl,?_⟩|exact Y7|fail)
 | true=>
  rw[hw]at ho;rw[b9 rfl]
  have hc:0<=x.fab/\x.fab<=17:=by unfold dB at hw;rw[c8]at hw;exact within_iff.1 hw.1
  obtain⟨n,hn⟩:∃n:Nat,(bc x.fab).1=(n:Int):=⟨(bc x.fab).1.toNat,by have:=dV x.fab;omega⟩;have Pp:n<=4:=by have:=dV x.fab;omega
  rw[LI,hn]at ha;rw[hn,d9];generalize Sp:UInt8.ofNat x.fab.toNat=b0
  have hbc:IntKind.u8.wrap x.fab=(b0.toNat:Int):=by subst Sp;simp[IntKind.wrap,IntKind.bits,IntKind.signed];omega
  repeat' ((conv=>whnf);first|apply Wx|apply W6|apply oi|apply fi|intro h|refine cl ho ?_|refine cl ha ?_|refine⟨_,rfl,?_⟩|exact Y7|fail)
  conv=>whnf
  refine⟨{k:Nat//k<=n},fun k=>⟨[(1,.r (.c (.ptr (1,0,0) 0))),(3,tI .i64 (n:Int)),(5,.r (.c (.own (19,0,0)))),(6,tI .i64 (k.1:Int))],[((19,0,0),some (.arr true 1 ((b0::jm x.faf k.1).map ba))),((1,0,0),some (.box [.t (.int .i64 x.fab),.t (.int .i64 x.faf)]))],[19,1]⟩,fun k=>n-k.1,⟨0,o_⟩,?_,?_⟩
  ·repeat' ((conv=>whnf);first|apply Wx|apply W6|apply oi|apply fi|intro h|refine⟨_,rfl,?_⟩|exact Y7|fail)
   all_goals try exact⟨by rw[hbc];rfl⟩
  intro⟨k,hk⟩;dsimp only;have Rg:((b0::jm x.faf k).map ba).length=k+1:=by simp[jm]
  by_cases J3:k<n
  ·have h8:IntKind.i64.wrap (8*(k:Int))=((8*k:Nat):Int):=by rw[c9 _ o_];rfl
   have hbe:=GK x.faf (k:=k) o_;repeat' ((conv=>whnf);first|apply Wx|apply W6|apply oi|apply fi|intro h|refine⟨_,rfl,?_⟩|exact Y5|fail)
   all_goals try exact⟨by rw[h8];omega⟩
   all_goals try exact⟨⟨by simp only[gt,d5,Rg]<;>omega,by simp only[gt,d5,Rg]<;>omega⟩⟩
   conv=>whnf
   refine⟨⟨k+1,o_⟩,?_,KD⟩;repeat' ((conv=>whnf);first|apply Wx|apply W6|apply oi|apply fi|intro h|refine⟨_,rfl,?_⟩|exact Y8|fail)
   all_goals try exact⟨by dsimp only;rw[Bz,hbe,<-p9,u4];rfl⟩
  ·have O5:k=n:=o_;subst O5;exact Z5
theorem yZ {c a:Int}(h:eX c a):dB c a=true:=by
 obtain⟨h0,h1,h2,h3,h4,h5,h6⟩:=h;unfold dB;rw[c8,within_iff,within_iff];refine⟨⟨h0,h1⟩,?_⟩;unfold lz;split
 ·have:=h2 (by assumption);dsimp only;omega
 split
 ·have:=h3 o_;dsimp only;omega
 split
 ·have:=h4 (by assumption);dsimp only;omega
 split
 ·have:=h5 o_;dsimp only;omega
 ·have:=h6 o_;dsimp only;omega
structure PlI (p:List NX) (f j:Nat) (y:Oa):Prop where
 head:j=0->(y.fai.fad.fab=13\/y.fai.fad.fab=15)/\∃g ln,(ay p)[f]?=some g/\y.fai.fav=(g:Int)/\p[g]?=some ln/\ln.faa=0
 body:0<j->y.fai.fad.fab≠13/\∃(n:Nat) (ln:NX),y.fai.fav=(n:Int)/\p[n]?=some ln/\ln.faa≠0
 op:dB y.fai.fad.fab y.fai.fad.faf=true
theorem AW (p:List NX)(b:NP):alike (foldIf p b) p:=by
 unfold foldIf;split
 ·exact dh p
 ·rfl
theorem lO (st:List Int)(k:Nat)(x:NW):(ep st k x).fad.fab=x.fad.fab:=by unfold ep;split<;>rfl
theorem wS (st:List Int)(k:Nat)(x:NW):(ep st k x).fav=x.fav:=by unfold ep;split<;>rfl
theorem nw {p:List NX}{b:NP}{at0:Int}(hs:aH 1048576 (.lst 4 (p.map NX.tr)))(h1:ah p=true)(h2:aY b=true){f:Nat}(h:f<(ay p).length){j:Nat}{y:Oa}(hy:(iN (aD p f b) at0)[j]?=some y):PlI p f j y:=by
 obtain⟨g,C,k1,k2,k3,k4,hi⟩:=rh (f:=(f:Int)) hs h1 h2 o_ o_;have J0:=(jy (p:=p) (f:=(f:Int)) (b:=b) hs).1;have OM:=hi.jumps.2;have hj:j<(aD p (f:Int) b).length:=by have:=aJ hy;rwa [eb]at this
 obtain⟨x,hx⟩:=ae hj;rw[fo hx]at hy;injection hy with hy;subst hy;rw[d9]at k1;obtain⟨U0,ln,SV,U5⟩:=oq (d4 k1)
 generalize aD p (f:Int) b=I at *
 obtain⟨a,t,rfl,ha,ht⟩:=hi
 have J1:¬pz x=true->eX x.fad.fab x.fad.faf:=fun hn=>by
  rw[isJump_iff]at hn
  cases j with
  | zero=>
   simp only[e9,Option.some.injEq]at hx;subst hx;have e3:=ha.2.2
   rcases ha.1 with e|e<;>(rw[e,e3];unfold eX;omega)
  | succ j=>exact(ht x (d4 (by simpa using hx))).op hn
 refine⟨fun e=>?_,fun e=>?_,?_⟩
 ·subst e;simp only[e9,Option.some.injEq]at hx;subst hx;dsimp only;rw[lO,wS];exact⟨ha.1,g,ln,k1,ha.2.1,SV,U5⟩
 ·obtain⟨j,rfl⟩:∃i,j=i+1:=⟨j-1,o_⟩;have hg:=ht x (d4 (by simpa using hx));dsimp only;rw[lO,wS];refine⟨hg.enter,?_⟩;obtain⟨z,z0,z1,z2⟩:=hg.line;rw[k2]at z1;obtain⟨w,w1,w2,_⟩:=(AW p b).get z1;exact⟨x.fav.toNat,w,o_,w1,o_⟩
 ·dsimp only;by_cases hn:pz x=true
  ·rw[ep,b9 hn];have h3:=OM x (d4 hx) hn;rw[isJump_iff]at hn;have s1:=ke (at0:=at0) (l:=a::t) (k:=x.fad.faf.toNat) o_;have s2:=ke (at0:=at0) (l:=a::t) (k:=j+1) o_;refine yZ ?_;dsimp only[qj];unfold eX;omega
  ·rw[ep,b8 hn];exact yZ (J1 hn)
def au (l:List Oa):List UInt8:=l.flatMap fun x=>bm x.fai.fad
theorem aO (a b:List Oa):au (a++b)=au a++au b:=by simp[au]
theorem eB (x:Oa):au [x]=bm x.fai.fad:=by simp[au]
theorem iB:∀(l:List Oa),(au l).length<=5*l.length
 | []=>by simp[au]
 | x::l=>by
  have h1:=iB l;have h2:=uf x.fai.fad;rw[show x::l=[x]++l from rfl,aO,c7,c7,eB];simp only[d5,gt];omega
theorem lk {l:List NW}{at0:Int}(h:∀y∈iN l at0,dB y.fai.fad.fab y.fai.fad.faf=true):∀{k:Nat},k<=l.length->((au ((iN l at0).take k)).length:Int)=atL (bK at0 l) k-at0
 | 0,_=>by rw[gk];simp[au]
 | k+1,hk=>by
  obtain⟨x,hx⟩:=ae (l:=l) (k:=k) o_;have hg:=fo (at0:=at0) hx;have ih:=lk h (k:=k) o_;have he:=eC (h _ (d4 hg));dsimp only at he;rw[lO]at he;rw[dF hg,aO,c7,eB,gK hx];dsimp only;omega
def bH (p:List NX)(f:Nat):List UInt8:=match(ay p)[f]? with
 | some g=>(match p[g]? with|some y=>y.fac|none=>[])
 | none=>[]
def cy (p:List NX):Int->List (Nat×List Oa)->List Of
 | _,[]=>[]
 | at0,(f,l)::L=>⟨bH p f,at0,(au l).length⟩::cy p (at0+(au l).length) L
theorem uw (p:List NX):∀(L:List (Nat×List Oa)) (at0:Int) (x:Nat×List Oa),cy p at0 (L++[x])=cy p at0 L++[⟨bH p x.1,at0+(au (aB L)).length,(au x.2).length⟩]
 | [],at0,(f,l)=>by simp[cy,aB,au]
 |(g,m)::L,at0,x=>by
  rw[p9,cy,uw p L,cy,p9];congr 3;have:aB ((g,m)::L)=m++aB L:=by simp[aB]
  rw[this,aO,c7];simp only[Of.mk.injEq,true_and,and_true];omega
theorem lY (p:List NX):∀(L:List (Nat×List Oa)) (at0:Int),(cy p at0 L).length=L.length
 | [],_=>rfl
 |(f,l)::L,at0=>by rw[cy,d5,lY p L,d5]
noncomputable def ao (p:List NX) (b:NP) (image:Int):NU:=
 if ah p=true/\aY b=true/\af image 0 1=true then⟨au (aB (cn p b image (ay p).length 0 0)),cy p 0 (cn p b image (ay p).length 0 0)⟩else⟨[],[]⟩
theorem nB {p:List NX}{b:NP}{image:Int}:∀{n f:Nat} {at0:Int} {x:Nat×List Oa},x∈cn p b image n f at0->f<=x.1/\x.1<f+n
 | 0,_,_,_,h=>by cases h
 | n+1,f,at0,x,h=>by
  rw[cn]at h;split at h
  ·rcases d7.1 h with rfl|h
   ·exact⟨d6 _,g_⟩
   ·have:=nB h;omega
  ·have:=nB h;omega
theorem kG {p:List NX}{b:NP}{image:Int}(hs:aH 1048576 (.lst 4 (p.map NX.tr)))(h1:ah p=true)(h2:aY b=true):∀{n f:Nat} {at0:Int} {i:Nat} {x:Nat×List Oa},f+n<=(ay p).length->(cn p b image n f at0)[i]?=some x->
  x.2=iN (aD p (x.1:Int) b) (at0+((au (aB ((cn p b image n f at0).take i))).length:Int))/\x.1<(ay p).length/\0<x.2.length
 | 0,_,_,_,_,_,h=>by simp[cn]at h
 | n+1,f,at0,i,x,hf,h=>by
  rw[ob]at h⊢;split at h
  ·rename_i hin;rw[b9 hin]
   cases i with
   | zero=>
    simp only[e9,Option.some.injEq]at h;subst h;have:=(Mj (f:=f) hs h1 h2 o_).pos
    refine⟨by simp[aB,au],g_,by dsimp only;rw[eb];exact this⟩
   | succ i=>
    rw[j6]at h;obtain⟨k1,k2,k3⟩:=kG hs h1 h2 o_ h;refine⟨?_,k2,k3⟩
    have hl:=lk (l:=aD p (f:Int) b) (at0:=at0) (fun y hy=>by
     obtain⟨j,hj⟩:=t9.1 hy
     exact(nw hs h1 h2 o_ hj).op) (k:=(aD p (f:Int) b).length) (d6 _)
    rw[j5 (by rw[eb];exact d6 _)]at hl;rw[k1,q7,show ∀(a:Nat×List Oa) (l:List (Nat×List Oa)),aB (a::l)=a.2++aB l from fun a l=>by simp[aB],aO,c7];congr 1;have he:zO at0 (aD p (f:Int) b)=atL (bK at0 (aD p (f:Int) b)) (aD p (f:Int) b).length:=rfl;dsimp only
    rw[he]at *
    omega
  ·rename_i hin;rw[b8 hin];exact kG hs h1 h2 o_ h
theorem fX {p:List NX}{b:NP}{image:Int}(hs:aH 1048576 (.lst 4 (p.map NX.tr)))(h1:ah p=true)(h2:aY b=true){i:Nat}{x:Nat×List Oa}(h:(cn p b image (ay p).length 0 0)[i]?=some x){j:Nat}{y:Oa}(hy:x.2[j]?=some y):
  PlI p x.1 j y/\y.fat=((au (aB ((cn p b image (ay p).length 0 0).take i))).length:Int)+(au (x.2.take j)).length:=by
 obtain⟨k1,k2,_⟩:=kG hs h1 h2 o_ h
 generalize hS:((au (aB ((cn p b image (ay p).length 0 0).take i))).length:Int)=S at *
 rw[Int.zero_add]at k1;rw[k1]at hy⊢;refine⟨nw hs h1 h2 k2 hy,?_⟩;have hj:j<(aD p (x.1:Int) b).length:=by have:=aJ hy;rwa [eb]at this
 rw[lk (fun z hz=>by
  obtain⟨j,hj⟩:=t9.1 hz
  exact(nw hs h1 h2 k2 hj).op) o_]
 obtain⟨z,hz⟩:=ae hj;rw[fo hz]at hy;injection hy with hy;subst hy;dsimp only;omega
def qH (L:List (Nat×List Oa))(i j:Nat):List Oa:=match L[i]? with|some x=>x.2.take j|none=>[]
def gV (L:List (Nat×List Oa))(i j:Nat):List UInt8:=au (aB (L.take i))++au (qH L i j)
def jR (p:List NX)(L:List (Nat×List Oa))(i j:Nat):List Of:=cy p 0 (L.take i)++(match L[i]? with
 | some x=>if j=0 then []else [⟨bH p x.1,((au (aB (L.take i))).length:Int),((au (x.2.take j)).length:Int)⟩]
 | none=>[])
theorem pV (L:List (Nat×List Oa))(x:Nat×List Oa):aB (L++[x])=aB L++x.2:=by simp[aB]
theorem DY {L:List (Nat×List Oa)}{i:Nat}{x:Nat×List Oa}(h:L[i]?=some x):gV L i x.2.length=gV L (i+1) 0:=by
 have:qH L (i+1) 0=[]:=by unfold qH;split<;>simp
 rw[gV,gV,this,dF h,pV,aO,qH,h];simp[au]
theorem Fi {p:List NX}{L:List (Nat×List Oa)}{i:Nat}{x:Nat×List Oa}(h:L[i]?=some x)(h0:0<x.2.length):jR p L i x.2.length=jR p L (i+1) 0:=by
 rw[jR,jR,dF h,uw,h];dsimp only;rw[b8 o_,j5 (d6 _),Int.zero_add]
 cases L[i+1]?<;>simp
theorem Hb {p:List NX}{L:List (Nat×List Oa)}:jR p L L.length 0=cy p 0 L:=by rw[jR,j5 (d6 _),d8 (d6 _)];simp
theorem GD {L:List (Nat×List Oa)}:gV L L.length 0=au (aB L):=by rw[gV,j5 (d6 _),qH,d8 (d6 _)];simp[au]
theorem Bn {L:List (Nat×List Oa)}{i j:Nat}{x:Nat×List Oa}{y:Oa}(h:L[i]?=some x)(hy:x.2[j]?=some y):(aB L)[(aB (L.take i)).length+j]?=some y:=by
 have e:L=L.take i++x::L.drop (i+1):=by rw[<-dD h,w5]
 have e2:aB L=aB (L.take i)++(x.2++aB (L.drop (i+1))):=by
  conv=>lhs;rw[e]
  simp[aB]
 rw[e2,m5 o_,D2,j7 (aJ hy),hy]
theorem JF {p:List NX}{L:List (Nat×List Oa)}(VR:∀{i:Nat} {x:Nat×List Oa},L[i]?=some x->0<x.2.length){i j:Nat}{x:Nat×List Oa}(hx:L[i]?=some x)(hj:j<x.2.length):∃q:Nat×Nat,q.1<=L.length/\(∀x,L[q.1]?=some x->q.2<x.2.length)/\(q.1=L.length->q.2=0)/\
  (aB (L.take q.1)).length+q.2=(aB (L.take i)).length+(j+1)/\gV L q.1 q.2=gV L i (j+1)/\jR p L q.1 q.2=jR p L i (j+1):=by
 have hi:=aJ hx;by_cases hn:j+1<x.2.length
 ·exact⟨(i,j+1),g_,fun z hz=>by dsimp only at hz⊢;rw[hx]at hz;injection hz with hz;subst hz;exact hn,fun h=>by dsimp only at h;omega,rfl,rfl,rfl⟩
 ·have e:j+1=x.2.length:=o_;refine⟨(i+1,0),g_,fun z hz=>VR hz,fun _=>rfl,?_,?_,?_⟩
  ·dsimp only;rw[dF hx,pV,c7];omega
  ·dsimp only;rw[e,DY hx]
  ·dsimp only;rw[e,Fi hx (VR hx)]
theorem xR {p:List NX}{L:List (Nat×List Oa)}{i:Nat}:jR p L i 0=cy p 0 (L.take i):=by rw[jR];cases L[i]?<;>simp
theorem EH {L:List (Nat×List Oa)}{i:Nat}:gV L i 0=au (aB (L.take i)):=by rw[gV,qH];cases L[i]?<;>simp[au]
theorem zF {p:List NX}{L:List (Nat×List Oa)}{i j:Nat}{x:Nat×List Oa}(hx:L[i]?=some x):jR p L i (j+1)=cy p 0 (L.take i)++[⟨bH p x.1,((au (aB (L.take i))).length:Int),((au (x.2.take (j+1))).length:Int)⟩]:=by rw[jR,hx];rfl
theorem GH {L:List (Nat×List Oa)}{i j:Nat}{x:Nat×List Oa}{y:Oa}(hx:L[i]?=some x)(hy:x.2[j]?=some y):gV L i (j+1)=gV L i j++bm y.fai.fad:=by rw[gV,gV,qH,qH,hx];dsimp only;rw[dF hy,aO,eB,k0]
theorem Hm {L:List (Nat×List Oa)}{i j:Nat}{x:Nat×List Oa}(hx:L[i]?=some x):(gV L i j).length=(au (aB (L.take i))).length+(au (x.2.take j)).length:=by rw[gV,qH,hx,c7]
def oL {α:Type}(o:Option (List α)):List α:=match o with|some l=>l|none=>[]
def gn (off:Int)(x:Of):Bool:=af x.fak 0 1000000&&(af x.faw 0 1000000&&(decide (x.fak<=off)&&decide (off<x.fak+x.faw)))
def fd (off:Int):List Of->Nat->Int
 | [],_=> -1
 | x::l,k=>if gn off x then(k:Int)else fd off l (k+1)
def fk (l:List Of)(off:Int):Int:=fd off l 0
theorem GU {off:Int}{l:List Of}{k:Nat}{x:Of}(hx:l[k]?=some x):fd off (l.drop k) k=if gn off x then(k:Int)else fd off (l.drop (k+1)) (k+1):=by rw[dD hx,fd]
theorem qB {off:Int}:∀(l:List Of) (k:Nat),fd off l k= -1\/((k:Int)<=fd off l k/\fd off l k<k+l.length)
 | [],k=> .inl (by rw[fd])
 | x::l,k=>by
  rw[fd];split
  ·exact .inr ⟨o_,by simp only[d5];omega⟩
  ·rcases qB l (k+1)with h|h
   ·exact .inl h
   ·exact .inr ⟨o_,by simp only[d5];omega⟩
theorem nd (l:List Of)(off:Int):fk l off= -1\/(0<=fk l off/\fk l off<l.length):=by have:=qB (off:=off) l 0;unfold fk;omega
theorem mD (i:NU)(off:Int)(hl:i.fam.length<=1048576):Sim.Spec Try.prog 70 [.agg i.tr,tvI off] (rI (fk i.fam off)):=by
 refine aG hΓ aK Try.func70 rfl d_ rfl ?_;obtain⟨code,l⟩:=i;dsimp only at hl⊢;have J0:(l.map Of.tr).length=l.length:=s_;unfold fk;repeat' ((conv=>whnf);first|refine Or.inl ?_|apply oi|apply fi|intro h|refine⟨_,rfl,?_⟩|exact Y1|fail)
 conv=>whnf
 refine⟨{k:Nat//k<=l.length/\fd off (l.drop k) k=fd off l 0},fun k=>⟨[(1,tI .i64 off),(2,.r (.c (.ptr (2,0,0) 0))),(5,tI .i64 (k.1:Int))],[((2,0,0),some (.box [.t (.str code),.t (.lst 3 (l.map Of.tr))]))],[2]⟩,fun k=>l.length-k.1,⟨0,o_,by rw[A8]⟩,?_,?_⟩
 ·exact Z2
 intro⟨k,hk,hr⟩;dsimp only;by_cases J3:k<l.length
 ·obtain⟨x,hx⟩:=ae J3;rw[GU hx]at hr;have OU:=bd x.fak 0 1000000;have Oo:=bd x.faw 0 1000000;have RS:gn off x=false->fd off (l.drop (k+1)) (k+1)=fd off l 0:=fun h=>by rw[h,b8 s_]at hr;exact hr
  cases OB:af x.fak 0 1000000 with
  | false=>
   have hh:gn off x=false:=by rw[gn,OB];rfl
   rw[OB]at OU;repeat' ((conv=>whnf);first|refine Or.inl ?_|apply oi|apply fi|intro h|refine⟨k,x.tr,rfl,ab hx,?_⟩|refine ci OU (ai rfl (ai rfl (ai rfl trivial))) ?_|refine⟨_,rfl,?_⟩|exact Y2|fail)
   all_goals conv=>whnf
   all_goals refine⟨⟨k+1,o_,RS hh⟩,?_,KD⟩
   repeat' ((conv=>whnf);first|refine Or.inl ?_|apply oi|apply fi|intro h|refine⟨_,rfl,?_⟩|exact Y1|fail)
   all_goals exact⟨by dsimp only;rw[c9 _ o_];rfl⟩
  | true=>
   rw[OB]at OU
   cases Pe:af x.faw 0 1000000 with
   | false=>
    have hh:gn off x=false:=by rw[gn,OB,Pe];rfl
    rw[Pe]at Oo;repeat' ((conv=>whnf);first|refine Or.inl ?_|apply oi|apply fi|intro h|refine⟨k,x.tr,rfl,ab hx,?_⟩|refine ci OU (ai rfl (ai rfl (ai rfl trivial))) ?_|refine ci Oo (ai rfl (ai rfl (ai rfl trivial))) ?_|refine⟨_,rfl,?_⟩|exact Y2|fail)
    all_goals conv=>whnf
    all_goals refine⟨⟨k+1,o_,RS hh⟩,?_,KD⟩
    repeat' ((conv=>whnf);first|refine Or.inl ?_|apply oi|apply fi|intro h|refine⟨_,rfl,?_⟩|exact Y1|fail)
    all_goals exact⟨by dsimp only;rw[c9 _ o_];rfl⟩
   | true=>
    rw[Pe]at Oo;have QU:=within_iff.1 OB;have Rp:=within_iff.1 Pe;have UN:IntKind.i64.wrap (x.fak+x.faw)=x.fak+x.faw:=c9 _ o_
    cases hh:gn off x with
    | true=>
     rw[hh,b9 rfl]at hr;rw[gn,OB,Pe]at hh;simp only[m8,c8,i7]at hh;repeat' ((conv=>whnf);first|refine Or.inl ?_|apply oi|apply fi|intro h|refine⟨k,x.tr,rfl,ab hx,?_⟩|refine ci OU (ai rfl (ai rfl (ai rfl trivial))) ?_|refine ci Oo (ai rfl (ai rfl (ai rfl trivial))) ?_|refine⟨_,rfl,?_⟩|exact Y2|fail)
     all_goals try exact⟨by rw[hr]⟩
     all_goals(exfalso;(try rw[UN]at h);simp only[p8]at h;omega)
    | false=>
     have XS:=RS hh;rw[gn,OB,Pe]at hh;simp only[m8,A4,p8]at hh;repeat' ((conv=>whnf);first|refine Or.inl ?_|apply oi|apply fi|intro h|refine⟨k,x.tr,rfl,ab hx,?_⟩|refine ci OU (ai rfl (ai rfl (ai rfl trivial))) ?_|refine ci Oo (ai rfl (ai rfl (ai rfl trivial))) ?_|refine⟨_,rfl,?_⟩|exact Y2|fail)
     all_goals try(exfalso;rw[UN]at *;simp only[i7]at *;omega)
     all_goals conv=>whnf
     all_goals refine⟨⟨k+1,o_,XS⟩,?_,KD⟩
     repeat' ((conv=>whnf);first|refine Or.inl ?_|apply oi|apply fi|intro h|refine⟨_,rfl,?_⟩|exact Y1|fail)
     all_goals exact⟨by dsimp only;rw[c9 _ o_];rfl⟩
 ·have N2:l.length<=k:=o_;rw[q8 N2,fd]at hr;repeat' ((conv=>whnf);first|refine Or.inl ?_|apply oi|apply fi|intro h|refine⟨_,rfl,?_⟩|exact Y2|fail)
  exact⟨by rw[<-hr]⟩
end Go.Proofs.Ytoglejgmjeojoaa
