import Derived.Test.YtoglejgmjeojoaaGreatGg
set_option maxRecDepth 100000
set_option maxHeartbeats 4000000
namespace Go.Proofs.P
open Go.Sim Tryz
theorem Io {C:Cx}(hC:CxOk C):∀lev,Ky C lev/\Cz C lev:=by
 have hL:∀lev,Ky C lev->Cz C lev:=fun lev hR=>Is hC fun e x S lv k p ln s d h1 h2 h3 h4 h5 h6=>DW hC hR e.toks.length e (d7 _) x S lv k p ln s d h1 h2 h3 h4 h5 h6;intro lev
 induction lev with
 | zero=>
  have hR:Ky C 0:=by intro x S lv k g s d hx hk hg RB hr;obtain⟨r1,_⟩:=eA RB;have:=hr.depth;rw[show(co (S++[(x,lv)])).length=S.length+1 by simp]at r1;omega
  exact⟨hR,hL 0 hR⟩
 | succ n ih=>have hR:=Md hC ih.2;exact⟨hR,hL _ hR⟩
def BD (frames f:Int):Bool:=IntKind.i64.wrap (BitVec.ofInt IntKind.i64.bits (frames.fdiv (2^min f.toNat IntKind.i64.bits)) &&& BitVec.ofInt IntKind.i64.bits 1).toNat==1
theorem Q7{p:Prop}(h:p:=by exfalso;rw[QX]at h;cases h;first|done|fail):p:=h
theorem V43{p:Prop}(h:p:=by
 rw[Uc];repeat' ((conv=>whnf);first|apply Wx|apply W6|refine cg g2 ?_|refine cg gLs ?_|apply oi|apply fi|intro h|refine⟨0,rfl,s_,?_⟩|refine⟨_,hOl,?_⟩|exact Y8|refine e_ rfl ?_)
 all_goals try exact Q7
 all_goals first|exact⟨⟨_,rfl⟩⟩|exact⟨congrArg (Tr.int .i64) Yr.symm⟩):p:=h
theorem lG (C:Cx)(hC:CxOk C)(f g:Nat)(hf:(az C.p)[f]?=some g)(e3:C.L0=BD C.b.M5 f)(e5:C.args=argsN C.p g):
  Sim.Spec prog 133 [tvP C.p,tvI (f:Int),.agg C.b.tr,tvI C.J2] (.tup [.c (.arr 7 ((dt C g).I4.map Oi.tr)),.c (.t (.int .i64 (dt C g).J1))]):=by
 refine aI hΓ ay func133 rfl d_ rfl ?_;obtain⟨VN,y,hy,PR⟩:=jW (b9 hf);have PW:=hC.len;have hw:=hC.J2;have hin:=hC.inl;have gF:=er C.p o_;have gL:=jz C.p (g:Int) o_ (fun z hz=>bx hC.small hz);have hA:argsN C.p g=y.K0.length:=by rw[argsN,hy]
 have h4:=(hC.line g y hy).2.2.1;have OA:f<(az C.p).length:=aw hf;have P2:f<((az C.p).map fun n:Nat=>ae n).length:=by rw[d9];exact OA
 have VF:((az C.p).map fun n:Nat=>ae n)[f]?=some (ae (g:Int)):=by rw[l6,hf];rfl
 have SF:=dz hC ⟨y,hy,PR⟩;have SY:(y.K0.map ah).length=y.K0.length:=s_;have PO:((localsOf C.p (g:Int)).map ah).length=(localsOf C.p (g:Int)).length:=s_;have hS:ScOk C (bg C g) [g]:=⟨⟨y,hy,PR⟩,rfl,⟨v7 _,by simp[bg]⟩,rfl,by simp[bg],fun _=>e5,rfl⟩;obtain⟨e,X9,PX,he3,Ye,_⟩:=hS.endE hC;obtain⟨O,hO⟩:∃O,bg C g=O:=⟨_,rfl⟩;have hOr:mm O []=[.d (.int .i64 (g:Int)),.t (.lst 1 []),.t (.lst 1 ((localsOf C.p (g:Int)).map ah)),.d (.int .i64 0),.d (.bool true),.d (.lst 0 [])]:=by rw[<-hO,bg];rfl
 have hOl:(scH [(O,[])])[0]?=some [.d (.int .i64 (g:Int)),.t (.lst 1 []),.t (.lst 1 ((localsOf C.p (g:Int)).map ah)),.d (.int .i64 0),.d (.bool true),.d (.lst 0 [])]:=by rw[<-hOr];rfl
 have g1:=fun code=>cd C ⟨[],(localsOf C.p (g:Int)).length-C.args,false⟩ 0 (scH [(O,[])]) code C.J2 g [] (by unfold bM;simp) s_;have PC:((C.b.L4.toNat:Nat):Int)=C.b.L4:=z6 hin.1;have h3:=ur (n:=C.b.L4.toNat) o_
 have gLs:=(Io hC C.b.L4.toNat).2 O [] (eK C g) C.J2 (by rw[<-hO];exact hS) (by
  rw[<-hO,Ye];have:=A1 (show e-(bg C g).f<=60 by omega) (show 20*cE C.b.L4.toNat+3<=20*8679837+3 by omega);simp only[eK,aA,b8,e7,c7]
  omega) (by simpa using PC) hw.1 o_
 have hcg:aV C (bf C C.b.L4.toNat) O (co ([]++[(O,[])])) C.J2 (eK C g)=aV C (bf C C.b.L4.toNat) (bg C g) [g] C.J2 (eK C g):=by rw[<-hO];rfl
 rw[hcg,p8,p8]at gLs;repeat' ((conv=>whnf);first|(with_reducible apply W1;fail_if_success (with_reducible show Wo _ _ _ _ (Code.region 4 _ _) _ _))|(with_reducible first|apply W2|apply W3|apply W4|apply W5|apply W6|apply W7|apply W8|apply W9)|apply aB|apply oi|apply fi|intro h|refine cl gF ?_|refine⟨f,rfl,P2,?_⟩|refine⟨_,VF,?_⟩|refine⟨g,y.tr,rfl,aa hy,?_⟩|refine cl gL ?_|exact Y8|refine e_ rfl ?_)
 all_goals try exact⟨o_⟩
 all_goals try exact⟨fD _⟩
 conv=>whnf
 refine Jb (40,0,0) (rows':=[mm O []]) rfl ?_ ?_
 ·rw[hOr];refine⟨⟨rfl,fun q c d hc hd=>?_⟩,trivial⟩
  match q with|0=>simp at hc hd;subst hc;subst hd;exact .inl rfl|1=>simp at hc hd;subst hc;subst hd;exact .inr (.inr ⟨0,1,rfl,rfl⟩)|2=>simp at hc hd;subst hc;subst hd;exact .inr (.inl rfl)|3=>simp at hc hd;subst hc;subst hd;exact .inl rfl|4=>simp at hc hd;subst hc;subst hd;exact .inl rfl|5=>simp at hc hd;subst hc;subst hd;exact .inl rfl|q+6=>simp at hc
 refine Dm ⟨[(0,vP C.p),(3,tI .i64 C.J2),(10,tI .i64 (g:Int)),(11,.r (.c (.ptr (33,0,0) 0)))],[((33,0,0),some (qK C ⟨[],0,false⟩ 0 (33,0,1) (33,0,2))),((33,0,1),some (.dar 7 (itR []) none)),((33,0,2),some (.dar 6 (scH [(O,[])]) none))],[40,38,33,13,6]⟩ ?_ ?_
 ·repeat' ((conv=>whnf);first|apply Wx|apply W6|apply oi|apply fi|intro h|exact Y8|refine e_ rfl ?_)
  all_goals try exact⟨by rw[e3];rfl⟩
  all_goals try exact⟨by rw[e5,hA,SY]⟩
 have Yr:IntKind.i64.wrap ((((localsOf C.p (g:Int)).map ah).length:Int)-C.args)=((localsOf C.p (g:Int)).length:Int)-C.args:=by rw[PO,c6 _ o_]
 cases QX:C.L0 with
 | true=>
  have hh:eK C g=aA C ⟨[],(localsOf C.p (g:Int)).length-C.args,false⟩ 0 13 C.J2 g []:=by rw[eK,d5 QX]
  rw[hh]at gLs;have g2:=g1 13;have Uc:dt C g=(aV C (bf C C.b.L4.toNat) (bg C g) [g] C.J2 (aA C ⟨[],(localsOf C.p (g:Int)).length-C.args,false⟩ 0 13 C.J2 g [])).1:=by rw[dt,hh]
  exact V43
 | false=>
  have hh:eK C g=aA C ⟨[],(localsOf C.p (g:Int)).length-C.args,false⟩ 0 15 C.J2 g []:=by rw[eK,c8 (by simp[QX])]
  rw[hh]at gLs;have g2:=g1 15;have Uc:dt C g=(aV C (bf C C.b.L4.toNat) (bg C g) [g] C.J2 (aA C ⟨[],(localsOf C.p (g:Int)).length-C.args,false⟩ 0 15 C.J2 g [])).1:=by rw[dt,hh]
  exact V43
theorem qR {C:Cx}(hC:CxOk C){g:Nat}(hg:bO C g)(e5:C.args=argsN C.p g):0<=(dt C g).J1/\(dt C g).J1<=1000:=by have hS:ScOk C (bg C g) [g]:=⟨hg,rfl,⟨v7 _,by simp[bg]⟩,rfl,by simp[bg],fun _=>e5,rfl⟩;have hG:=je (lev:=C.b.L4.toNat) (rep:=bf C C.b.L4.toNat) (fun line g d s hg hr=>dF hC _ line g d s hS hg hr) hC hS C.J2 (eK C g);obtain⟨l1,l2⟩:=dz hC hg;have hm:(eK C g).J1=(localsOf C.p (g:Int)).length-C.args:=rfl;have h1:=hG.J1;have h2:=hG.cap (by rw[hm];omega);rw[hm]at h1;exact⟨Int.le_trans o_ h1,h2⟩
def ctx (p:List Oj)(f g:Nat)(b:Oa)(words:Int):Cx:=⟨p,b,BD b.M5 f,words,argsN p g⟩
noncomputable def foldIf (p:List Oj) (b:Oa):List Oj:=if b.N0=true then p.map ba else p
noncomputable def jw (p:List Oj) (f:Nat) (b:Oa):List Oi:=match(az (foldIf p b))[f]? with
 | some g=>(dt (ctx (foldIf p b) f g b (dt (ctx (foldIf p b) f g b 0) g).J1) g).I4
 | none=>[]
noncomputable def aN (p:List Oj) (f:Int) (b:Oa):List Oi:=
 if aj p=true/\aS b=true/\0<=f/\f<(az p).length then jw p f.toNat b else []
theorem alike.funsF:∀{p q:List Oj},alike p q->∀i:Nat,funsF p i=funsF q i
 | [],[],_,_=>rfl
 | x::p,y::q,h,i=>by
  simp only[alike,n9,List.cons.injEq,Prod.mk.injEq]at h;have ih:=alike.funsF (p:=p) (q:=q) h.2
  rw[Go.Proofs.P.funsF,Go.Proofs.P.funsF,h.1.1,ih]
 | [],_::_,h,_=>by simp[alike]at h
 | _::_,[],h,_=>by simp[alike]at h
theorem ly (p:List Oj)(b:Oa):az (foldIf p b)=az p:=by
 unfold foldIf;split
 ·exact(kn p).funsF 0
 ·rfl
theorem PgOk.foldIf {p:List Oj}(h:PgOk p)(b:Oa):PgOk (foldIf p b):=by
 unfold Go.Proofs.P.foldIf;split
 ·exact h.fold
 ·exact h
theorem V147{p:Prop}(h:p:=by
 unfold aS at h2;simp only[c9,within_iff]at h2
 exact h2.2):p:=h
theorem V65{p:Prop}(h:p:=by
 simp only[ctx,e]at g0 g1
 repeat' ((conv=>whnf);first|apply Wx|apply W6|apply oi|apply fi|intro h|refine cl hP ?_|refine cl hB ?_|refine cl gF ?_|refine cl QD ?_|refine cl g0 ?_|refine cl g1 ?_|exact Y6|refine e_ rfl ?_)):p:=h
theorem V105{p:Prop}(h:p:=by
 repeat' ((conv=>whnf);first|apply Wx|apply W6|apply oi|apply fi|intro h|refine cl hP ?_|refine cl hB ?_|refine cl gF ?_|exact Y6|refine e_ rfl ?_)):p:=h
theorem mZ (p:List Oj)(f:Int)(b:Oa)(hs:aE 1048576 (.lst 4 (p.map Oj.tr))):Sim.Spec prog 64 [tvP p,tvI f,.agg b.tr] (rL 7 ((aN p f b).map Oi.tr)):=by
 refine aI hΓ ay func64 rfl d_ rfl ?_;have hP:=eF p hs;have hB:=pf b;have hl:=cu hs;have gF:=er p o_;have OA:((az p).map fun n:Nat=>ae n).length=(az p).length:=s_;by_cases hc:aj p=true/\aS b=true/\0<=f/\f<(az p).length
 ·have Qc:aN p f b=jw p f.toNat b:=by rw[aN,d5 hc]
  rw[Qc];obtain⟨h1,h2,h3,h4⟩:=hc;obtain⟨f,rfl⟩:=j8 h3;rw[e8];rw[h1]at hP;rw[h2]at hB
  have hb:0<=b.L4/\b.L4<=3:=by exact V147
  obtain⟨g,hg⟩:=ab (l:=az p) (k:=f) o_;have Qf:=(sC hs h1).foldIf b;have Th:(az (foldIf p b))[f]?=some g:=by rw[ly];exact hg
  obtain⟨VN,y,hy,PR⟩:=jW (b9 Th);have Tk:=(Qf.line g y hy).2.2.1;have ha:(0:Int)<=(argsN (foldIf p b) g:Int)/\(argsN (foldIf p b) g:Int)<=4:=by rw[argsN,hy];dsimp only;omega
  have S6:CxOk (ctx (foldIf p b) f g b 0):=Qf.cx ha o_ hb;have hm:=qR S6 ⟨y,hy,PR⟩ rfl;have Xc:CxOk (ctx (foldIf p b) f g b (dt (ctx (foldIf p b) f g b 0) g).J1):=Qf.cx ha hm hb;have g0:=lG _ S6 f g Th rfl rfl;have g1:=lG _ Xc f g Th rfl rfl;have Wy:jw p f b=(dt (ctx (foldIf p b) f g b (dt (ctx (foldIf p b) f g b 0) g).J1) g).I4:=by rw[jw,Th]
  rw[Wy]
  generalize dt (ctx (foldIf p b) f g b 0) g=R0 at *
  generalize dt (ctx (foldIf p b) f g b R0.J1) g=R1 at *
  have QD:=qT p hs;rw[show dY p=p.map ba by rw[dY,d5 h1]]at QD;obtain⟨fr,inl,fold,sp⟩:=b
  cases fold with
  | true=>
   have e:foldIf p ⟨fr,inl,true,sp⟩=p.map ba:=rfl
   exact V65
  | false=>have e:foldIf p ⟨fr,inl,false,sp⟩=p:=rfl;exact V65
 ·have Qc:aN p f b=[]:=by rw[aN,c8 hc]
  rw[Qc]
  cases h1:aj p with
  | false=>
   rw[h1]at hP
   exact V105
  | true=>
   rw[h1]at hP
   cases h2:aS b with
   | false=>
    rw[h2]at hB
    exact V105
   | true=>rw[h2]at hB;have N6:¬(0<=f/\f<(az p).length):=fun hh=>hc ⟨h1,h2,hh⟩;exact V105
def zv (l:List Oi):Prop:=∀it∈l,it.J3.length<=4
structure Cap (M t:Nat) (s s':Gs):Prop where
 le:s'.I4.length<=max s.I4.length M+t
 ch:zv s.I4->zv s'.I4
theorem Cap.refl {M:Nat}(s:Gs):Cap M 0 s s:=⟨o_,id⟩
theorem Cap.trans {M n m:Nat}{a b c:Gs}(h:Cap M n a b)(h':Cap M m b c):Cap M (n+m) a c:=⟨by have:=h.le;have:=h'.le;omega,fun x=>h'.ch (h.ch x)⟩
theorem Cap.mono {M n m:Nat}{a b:Gs}(h:Cap M n a b)(hn:n<=m):Cap M m a b:=⟨by have:=h.le;omega,h.ch⟩
theorem cz {M:Nat}(C:Cx)(s:Gs)(d code arg line:Int){chain:List Int}(hc:chain.length<=4):Cap M 1 s (aA C s d code arg line chain):=by
 refine⟨by simp only[aA,b8,c7,e7];omega,fun h it OU=>?_⟩;simp only[aA,f0,d6,j6,or_false]at OU;rcases OU with OU|rfl
 ·exact h it OU
 ·exact hc
theorem uw {l:List Oi}(h:zv l)(j v:Int):zv (bI l j v):=by
 unfold bI;split
 ·split
  ·rename_i it hi;intro z hz;rcases v5 hz with hz|rfl
   ·exact h z hz
   ·exact h it (b9 hi)
  ·exact h
 ·exact h
theorem Ao (v:Int):∀(js:List Int) {l:List Oi},zv l->zv (cB l v js)
 | [],_,h=>h
 | j::js,_,h=>by rw[cB];exact Ao v js (uw h j v)
theorem Cap.set {M n:Nat}{a b:Gs}{l:List Oi}(h:Cap M n a b)(hl:l.length=b.I4.length)(hc:zv b.I4->zv l):Cap M n a ⟨l,b.J1,b.start⟩:=⟨by have:=h.le;simp only[hl];omega,fun x=>hc (h.ch x)⟩
section
variable {C:Cx} {x:Sc} {ins:List Nat} {rep:Sc->List Nat->Nat->Nat->Int->Gs->Gs} {line:Nat} {M:Nat}
theorem vz (y:Sc){chain:List Int}(hc:chain.length<=4)(line:Int):∀(n:Nat) (d:Int) (s:Gs),Cap M n s (cf C y chain line n d s)
 | 0,d,s=>Cap.refl s
 | n+1,d,s=>by
  rw[cf];exact((cz C s d _ _ _ hc).trans (vz y hc line n (d-1) _)).mono o_
theorem wY (y:Sc){chain:List Int}(hc:chain.length<=4)(line d:Int):∀(n i:Nat) (s:Gs),Cap M (2*n) s (cR C y chain line d n i s)
 | 0,i,s=>Cap.refl s
 | n+1,i,s=>by
  rw[cR];exact(((cz C s d _ _ _ hc).trans (cz C _ (d+1) _ _ _ hc)).trans (wY y hc line d n (i+1) _)).mono o_
theorem Kg (hx:x.I5.length<=4)(N3:∀g d s,bO C g->cw C ins g s.I4.length=true->Cap M 0 s (rep x ins line g d s))(t:Ou)(d:Int)(s:Gs):Cap M 1 s (iB C rep x ins line t d s):=by
 unfold iB;split
 ·exact cz _ _ _ _ _ _ hx
 ·split
  ·exact cz _ _ _ _ _ _ hx
  ·split
   ·split
    ·rename_i g hg;split
     ·rename_i hr;obtain⟨_,ln,h1,h2,_⟩:=eV hg;exact(N3 g d s ⟨ln,h1,h2⟩ hr).mono o_
     ·exact cz _ _ _ _ _ _ hx
    ·exact(Cap.refl s).mono o_
   ·exact cz _ _ _ _ _ _ hx
mutual
theorem DX (hx:x.I5.length<=4)(N3:∀g d s,bO C g->cw C ins g s.I4.length=true->Cap M 0 s (rep x ins line g d s)):∀(e:Ex) (d:Int) (s:Gs),Cap M e.toks.length s (dx C rep x ins line e d s)
 | .node t es,d,s=>by
  rw[dx,Ex.toks,c7];exact((AF hx N3 es d s).trans (Kg hx N3 t _ _)).mono o_
theorem AF (hx:x.I5.length<=4)(N3:∀g d s,bO C g->cw C ins g s.I4.length=true->Cap M 0 s (rep x ins line g d s)):∀(es:List Ex) (d:Int) (s:Gs),Cap M (ao es).length s (cO C rep x ins line es d s)
 | [],d,s=>by rw[cO,ao];exact(Cap.refl s).mono o_
 | a::es,d,s=>by
  rw[cO,ao,b8];exact(DX hx N3 a d s).trans (AF hx N3 es (d+1) _)
end
theorem Ku (hC:CxOk C)(hx:x.I5.length<=4)(line:Nat){g:Nat}(hg:bO C g)(d:Int)(s:Gs):Cap M 16 s (dB C x line g d s):=by obtain⟨h1,h2⟩:=dz hC hg;have h0:Cap M 0 s ⟨s.I4,max s.J1 (bK C x+(localsOf C.p (g:Int)).length),s.start⟩:=⟨g_,id⟩;unfold dB;exact((h0.trans (vz _ hx _ _ _ _)).trans (wY _ hx _ _ _ _ _)).mono o_
theorem FT (hx:x.I5.length<=4)(line:Nat)(d:Int)(s:Gs):Cap M 1 s (bA C x line d s):=by
 unfold bA;split
 ·exact cz _ _ _ _ _ _ hx
 ·exact(Cap.refl s).mono o_
theorem wV (hx:x.I5.length<=4)(k:Nat)(last:Bool)(d:Int)(L:Ls):Cap M 1 L.g (aU C x k last d L).g:=by
 unfold aU;split
 ·split
  ·exact cz _ _ _ _ _ _ hx
  ·exact cz _ _ _ _ _ _ hx
 ·split
  ·exact(Cap.refl _).mono o_
  ·exact cz _ _ _ _ _ _ hx
theorem IX (hx:x.I5.length<=4)(N3:∀g d s,bO C g->cw C ins g s.I4.length=true->Cap M 0 s (rep x ins line g d s))(hC:CxOk C){k:Nat}{ln:Oj}(hk:C.p[k]?=some ln)(he:bF ln.J5=true)(d:Int)(s:Gs):Cap M 20 s (dx C rep x ins line (exL ln.J5) d s):=by have h1:=(rl he).2;have h2:=(hC.line _ _ hk).2.2.2.1;rw[h1]at h2;exact(DX hx N3 _ d s).mono h2
theorem Jd (hx:x.I5.length<=4)(N3:∀line g d s,bO C g->cw C ins g s.I4.length=true->Cap M 0 s (rep x ins line g d s))(hC:CxOk C){k:Nat}{ln:Oj}(hk:C.p[k]?=some ln)(h0:ln.I6≠0)(base:Int)(L:Ls):Cap M 22 L.g (dq C rep x ins base k ln L).g:=by
 unfold dq;split
 ·exact((cz C L.g base 10 0 k hx).set (eh _ _ _) fun h=>uw h _ _).mono o_
 ·split
  ·split
   ·refine Cap.mono (n:=1+1) ?_ o_;exact(cz C L.g base 0 0 k hx).trans (wV hx k true (base+1) {L with g:=aA C L.g base 0 0 k x.I5})
   ·split
    ·exact(cz _ _ _ _ _ _ hx).mono o_
    ·exact(Cap.refl _).mono o_
  ·rename_i h4 h7;have hl:=hC.line _ _ hk
   have Py:Cap M 20 L.g (dx C rep x ins k (exL ln.J5) base ⟨L.g.I4,L.g.J1,true⟩):=by have:=IX hx (fun g d s=>N3 k g d s) hC hk (hl.2.2.2.2 o_) base ⟨L.g.I4,L.g.J1,true⟩;exact⟨this.le,this.ch⟩
   split
   ·exact(Py.trans (cz _ _ _ _ _ _ hx)).mono o_
   ·split
    ·exact(Py.trans (cz _ _ _ _ _ _ hx)).mono o_
    ·split
     ·refine Cap.mono (n:=20+1) ?_ o_;exact Py.trans (wV hx k false (base+1) {L with g:=dx C rep x ins k (exL ln.J5) base ⟨L.g.I4,L.g.J1,true⟩,I9:=L.I9.set k L.g.I4.length})
     ·exact(Py.trans (cz _ _ _ _ _ _ hx)).mono o_
theorem IV (k:Nat)(ln:Oj)(L:Ls):Cap M 0 L.g (bc C x k ln L).g:=by
 unfold bc;split
 ·exact(Cap.refl _).set (eh _ _ _) fun h=>uw h _ _
 ·exact Cap.refl _
theorem EI (hx:x.I5.length<=4)(N3:∀line g d s,bO C g->cw C ins g s.I4.length=true->Cap M 0 s (rep x ins line g d s))(hC:CxOk C)(base:Int):∀(n k:Nat) (L:Ls),(∀i y,k<=i->i<k+n->C.p[i]?=some y->y.I6≠0)->Cap M (n*22) L.g (gD C rep x ins base n k L).g
 | 0,k,L,_=>(Cap.refl _).mono o_
 | n+1,k,L,h=>by
  rw[gD];split
  ·rename_i ln hk;exact(((Jd hx N3 hC hk (h k ln (d7 _) o_ hk) base L).trans (IV k ln _)).trans (EI hx N3 hC base n (k+1) _ fun i y h1 h2 hy=>h i y o_ o_ hy)).mono o_
  ·exact(Cap.refl _).mono o_
theorem wH (hc:x.I5.length<=4)(N3:∀line g d s,bO C g->cw C ins g s.I4.length=true->Cap M 0 s (rep x ins line g d s))(hC:CxOk C)(hx:ScOk C x ins)(base:Int)(s:Gs):Cap M ((jK C.p x.f-x.f)*22) s (aV C rep x ins base s).1:=by unfold aV;obtain⟨ln,h1,h2⟩:=hx.fn;obtain⟨e,h3,_,_,h4⟩:=hC.fn _ _ h1 h2;obtain⟨e',g3,_,_,g5,_⟩:=hx.endE hC;rw[h3]at g3;injection g3 with g3;subst g3;rw[g5];refine EI hc N3 hC base (e-x.f) (x.f+1) (cq C s) fun i y k1 k2 hy=>?_;exact V117
end
theorem ER {C:Cx}(hC:CxOk C):∀(lev:Nat) {x:Sc} {ins:List Nat} (line g:Nat) (d:Int) (s:Gs),ScOk C x ins->bO C g->cw C ins g s.I4.length=true->Cap (217+198*lev) 0 s (bf C lev x ins line g d s)
 | 0,x,ins,line,g,d,s,hx,hg,hr=>(Cap.refl s).mono o_
 | lev+1,x,ins,line,g,d,s,hx,hg,hr=>by
  obtain⟨r1,r2,r3,_⟩:=eA hr;have hin:=hC.inl;have ON:=hx.I5;have hy:=jR hC hx line hg;have h1:=Ku (M:=217) (x:=x) hC o_ line hg d s;have h2:=FT (C:=C) (M:=217) (x:=x) o_ line (d-argsN C.p g) (dB C x line g d s);have P9:=hy.I5;rw[b8,c7,e7]at P9;have h3:=wH (M:=217+198*lev) (rep:=bf C lev) o_ (fun line g d s hg hr=>ER hC lev line g d s hy hg hr) hC hy (d-argsN C.p g) (bA C x line (d-argsN C.p g) (dB C x line g d s));obtain⟨e,e1,e2,e3,e4,_⟩:=hy.endE hC;have e5:bB C.p (g:Int)=(e:Int):=by rw[bu];exact br e1
  have e6:jK C.p (bN C x line g).f-(bN C x line g).f<=9:=by rw[e4];show e-g<=9;omega
  show Cap _ 0 s (jp C (aV C (bf C lev)) x ins line g d s);unfold jp;have l1:=Ab hC hx o_ line hg d s;have l2:=uK (C:=C) x line (d-argsN C.p g) (dB C x line g d s);refine⟨?_,fun h=>Ao _ _ (h3.ch (h2.ch (h1.ch h)))⟩;simp only[gw];have k3:=h3.le;have k1:=l1.le;have k2:=l2.le;omega
theorem IK {C:Cx}(hC:CxOk C){g:Nat}(hg:bO C g)(e5:C.args=argsN C.p g):(dt C g).I4.length<=2500/\zv (dt C g).I4:=by
 have hS:ScOk C (bg C g) [g]:=⟨hg,rfl,⟨v7 _,by simp[bg]⟩,rfl,by simp[bg],fun _=>e5,rfl⟩;have hG:=wH (M:=217+198*C.b.L4.toNat) (rep:=bf C C.b.L4.toNat) (by simp[bg]) (fun line g d s hg hr=>ER hC _ line g d s hS hg hr) hC hS C.J2 (eK C g);obtain⟨e,e1,e2,e3,e4,_⟩:=hS.endE hC;have hl:=hC.len;have hin:=hC.inl;have hh:(eK C g).I4.length=1:=by simp[eK,aA]
 have hk:=hG.le;refine⟨?_,hG.ch fun it OU=>?_⟩
 ·show(aV C (bf C C.b.L4.toNat) (bg C g) [g] C.J2 (eK C g)).1.I4.length<=2500;omega
 ·simp only[eK,aA,p8,d6,j6,or_false]at OU;subst OU;exact v4 _
theorem jq {p:List Oj}{f:Int}{b:Oa}(hs:aE 1048576 (.lst 4 (p.map Oj.tr)))(h1:aj p=true)(h2:aS b=true)(h3:0<=f)(h4:f<(az p).length):∃(g:Nat) (C:Cx),(az p)[f.toNat]?=some g/\CxOk C/\C.p=foldIf p b/\C.b=b/\C.args=argsN C.p g/\C.L0=BD b.M5 f/\bO C g/\aN p f b=(dt C g).I4/\C.J2=(dt (ctx (foldIf p b) f.toNat g b 0) g).J1:=by
 obtain⟨f,rfl⟩:=j8 h3
 have hb:0<=b.L4/\b.L4<=3:=by exact V147
 obtain⟨g,hg⟩:=ab (l:=az p) (k:=f) o_;have Qf:=(sC hs h1).foldIf b;have Th:(az (foldIf p b))[f]?=some g:=by rw[ly];exact hg
 obtain⟨VN,y,hy,PR⟩:=jW (b9 Th);have Tk:=(Qf.line g y hy).2.2.1;have ha:(0:Int)<=(argsN (foldIf p b) g:Int)/\(argsN (foldIf p b) g:Int)<=4:=by rw[argsN,hy];dsimp only;omega
 have S6:CxOk (ctx (foldIf p b) f g b 0):=Qf.cx ha o_ hb;have hm:=qR S6 ⟨y,hy,PR⟩ rfl;have Xc:CxOk (ctx (foldIf p b) f g b (dt (ctx (foldIf p b) f g b 0) g).J1):=Qf.cx ha hm hb;refine⟨g,_,by rw[e8];exact hg,Xc,rfl,rfl,rfl,rfl,⟨y,hy,PR⟩,?_,by rw[e8];rfl⟩;rw[aN,d5 ⟨h1,h2,h3,h4⟩,e8,jw,Th]
theorem ij {p:List Oj}{f:Int}{b:Oa}(hs:aE 1048576 (.lst 4 (p.map Oj.tr))):(aN p f b).length<=2500/\zv (aN p f b):=by
 by_cases hc:aj p=true/\aS b=true/\0<=f/\f<(az p).length
 ·obtain⟨h1,h2,h3,h4⟩:=hc;obtain⟨g,C,_,k2,_,_,k5,_,k7,k8,_⟩:=jq hs h1 h2 h3 h4;rw[k8];exact IK k2 k7 k5
 ·rw[aN,c8 hc];exact⟨s_,fun it h=>by cases h⟩
theorem nY {L:Int}:∀{rs:List (List Tr)},(∀r∈rs,aX L r)->eB L rs
 | [],_=>by rw[eB];trivial
 | r::rs,h=>by rw[eB];exact⟨h r s_,nY fun x hx=>h x aat⟩
end Go.Proofs.P
namespace Go.Proofs.P
open Go.Sim Tryz
def fC (c a:Int):Prop:=0<=c/\c<=17/\(c=0->-2147483648<=a/\a<=2147483647)/\(c=1\/c=2\/c=3\/c=4\/c=10\/c=11->-32768<=a/\a<=32767)/\(c=16->0<=a/\a<=65535)/\(c=12\/c=13\/c=14\/c=15->0<=a/\a<=255)/\(5<=c/\c<=9\/c=17->a=0)
def ll (C:Cx)(line:Int):Prop:=∃y,0<=line/\C.p[line.toNat]?=some y/\y.I6≠0
structure GoodI (C:Cx) (n:Nat) (it:Oi):Prop where
 line:ll C it.J9
 jump:it.J6.J4=10\/it.J6.J4=11->0<=it.J6.L6/\it.J6.L6<=n
 op:¬(it.J6.J4=10\/it.J6.J4=11)->fC it.J6.J4 it.J6.L6
 enter:it.J6.J4≠13
theorem GoodI.mono {C:Cx}{n m:Nat}{it:Oi}(h:GoodI C n it)(hn:n<=m):GoodI C m it:=⟨h.line,fun k=>by have:=h.jump k;omega,h.op,h.enter⟩
def NQ (C:Cx)(g:Nat)(it:Oi):Prop:=(it.J6.J4=13\/it.J6.J4=15)/\it.J9=g/\it.J6.L6=C.J2
def InvI (C:Cx)(g:Nat)(l:List Oi):Prop:=∃h t,l=h::t/\NQ C g h/\∀it∈t,GoodI C l.length it
def gp (l:List Oi)(i:Nat):Option Int:=(l[i]?).map (·.J6.J4)
def JP (l:List Oi)(j:Int):Prop:=0<=j/\∃c,gp l j.toNat=some c/\(c=10\/c=11)
structure Tr2 (C:Cx) (g:Nat) (a b:Gs):Prop where
 ext:∀i c,gp a.I4 i=some c->gp b.I4 i=some c
 inv:InvI C g a.I4->InvI C g b.I4
 J1:a.J1<=60->b.J1<=60
theorem Tr2.refl {C:Cx}{g:Nat}(s:Gs):Tr2 C g s s:=⟨fun _ _ h=>h,id,id⟩
theorem Tr2.trans {C:Cx}{g:Nat}{a b c:Gs}(h:Tr2 C g a b)(h':Tr2 C g b c):Tr2 C g a c:=⟨fun i v x=>h'.ext i v (h.ext i v x),fun x=>h'.inv (h.inv x),fun x=>h'.J1 (h.J1 x)⟩
theorem Ac {l:List Oi}{i:Nat}{c:Int}(h:gp l i=some c):i<l.length:=by
 unfold gp at h
 cases hi:l[i]? with
 | none=>rw[hi]at h;cases h
 | some x=>exact aw hi
theorem CP {l:List Oi}{i:Nat}(h:i<l.length):∃c,gp l i=some c:=by obtain⟨x,hx⟩:=ab h;exact⟨x.J6.J4,by rw[gp,hx];rfl⟩
theorem JP.ext {a b:List Oi}(h:∀i c,gp a i=some c->gp b i=some c){j:Int}(hj:JP a j):JP b j:=by obtain⟨h0,c,h1,h2⟩:=hj;exact⟨h0,c,h _ _ h1,h2⟩
theorem Tr2.len {C:Cx}{g:Nat}{a b:Gs}(h:Tr2 C g a b):a.I4.length<=b.I4.length:=by
 rcases z4 a.I4.length with h0|h0
 ·omega
 ·obtain⟨c,hc⟩:=CP (l:=a.I4) (i:=a.I4.length-1) o_;have:=Ac (h.ext _ _ hc);omega
theorem eO {C:Cx}{g:Nat}{s:Gs}{d code arg line:Int}{chain:List Int}(hl:ll C line)(h1:code=10\/code=11->0<=arg/\arg<=s.I4.length)(h2:¬(code=10\/code=11)->fC code arg)(h3:code≠13):Tr2 C g s (aA C s d code arg line chain):=by
 refine⟨fun i c h=>?_,fun⟨h,t,e1,e2,e3⟩=>?_,id⟩
 ·have:=Ac h;unfold gp at h⊢;simp only[aA];rw[p9 this];exact h
 ·refine⟨h,t++[lS C s d code arg line chain],by simp[aA,e1],e2,fun it OU=>?_⟩;have hn:s.I4.length<=(aA C s d code arg line chain).I4.length:=by simp[aA]
  rw[f0,o9]at OU;rcases OU with OU|rfl
  ·exact(e3 it OU).mono hn
  ·exact⟨hl,fun k=>by have:=h1 k;simp only[lS];omega,h2,h3⟩
theorem Di {l:List Oi}{j v:Int}(i:Nat):gp (bI l j v) i=gp l i:=by
 unfold bI;split
 ·split
  ·rename_i x hx;unfold gp;by_cases h:j.toNat=i
   ·subst h;rw[u4 (aw hx),hx];rfl
   ·rw[A0 h]
  ·rfl
 ·rfl
theorem Fe {C:Cx}{g:Nat}{l:List Oi}{j:Int}(h:InvI C g l)(hj:JP l j):InvI C g (bI l j l.length):=by
 obtain⟨a,t,e1,e2,e3⟩:=h;obtain⟨h0,c,h1,h2⟩:=hj;unfold bI;rw[d5 h0]
 cases hx:l[j.toNat]? with
 | none=>simp only;exact⟨a,t,e1,e2,e3⟩
 | some x=>
  have hc:x.J6.J4=c:=by rw[gp,hx]at h1;simpa using h1
  have Yc:j.toNat≠0:=by intro h;rw[h,e1]at hx;simp at hx;subst hx;have:=e2.1;omega
  obtain⟨m,hm⟩:∃m,j.toNat=m+1:=⟨j.toNat-1,o_⟩;rw[hm,e1,m5]at hx;have hg:=e3 x (b9 hx);refine⟨a,t.set m ⟨⟨x.J6.J4,l.length⟩,x.J9,x.J8,x.J3,x.L9,x.M7⟩,?_,e2,fun it OU=>?_⟩
  ·rw[e1,hm];rfl
  ·rw[s7];rcases v5 OU with OU|rfl
   ·exact e3 it OU
   ·exact⟨hg.line,fun _=>by simp only;omega,fun k=>absurd (by rw[hc];exact h2) k,hg.enter⟩
theorem ut {C:Cx}{g:Nat}{s:Gs}{j:Int}(hj:JP s.I4 j):Tr2 C g s ⟨bI s.I4 j s.I4.length,s.J1,s.start⟩:=
 ⟨fun i c h=>by rw[Di];exact h,fun h=>Fe h hj,id⟩
theorem AU {C:Cx}{g:Nat}:∀(js:List Int) {s:Gs},(∀j∈js,JP s.I4 j)->Tr2 C g s ⟨cB s.I4 s.I4.length js,s.J1,s.start⟩
 | [],s,_=>Tr2.refl s
 | j::js,s,h=>by
  have h1:=ut (C:=C) (g:=g) (s:=s) (h j s_);have h2:=AU (C:=C) (g:=g) js (s:=⟨bI s.I4 j s.I4.length,s.J1,s.start⟩) fun i hi=>(h i (by simp[hi])).ext h1.ext;simp only[eh]at h2;exact h1.trans h2
theorem Cy {C:Cx}{s:Gs}{d code arg line:Int}{chain:List Int}(h:code=10\/code=11):JP (aA C s d code arg line chain).I4 (s.I4.length:Int):=by refine⟨o_,code,?_,h⟩;rw[gp,e8];simp[aA,lS]
theorem CC:∀(es:List Ex),es.length<=(ao es).length
 | []=>v4 _
 | a::es=>by
  have:=CC es;have:=a.toks_pos;rw[ao,b8,c7];omega
section
variable {C:Cx} {x:Sc} {ins:List Nat} {rep:Sc->List Nat->Nat->Nat->Int->Gs->Gs} {line:Nat} {G:Nat}
theorem zi (hC:CxOk C){y:Sc}(hf:0<=y.first/\y.first<=200){d i:Int}(hd:-100<=d/\d<=2000)(hi:-2<=i/\i<=100)(store:Bool):¬(cH C store=10\/cH C store=11)/\cH C store≠13/\fC (cH C store) (db C y d i):=by
 have ha:=hC.args;have hk:fP C y i≥-10/\fP C y i<=400:=by unfold fP;split<;>omega
 have hc:1<=cH C store/\cH C store<=4:=by unfold cH;split<;>split<;>omega
 have hA:-10000<=db C y d i/\db C y d i<=10000:=by unfold db;repeat' split<;>omega
 unfold fC;omega
theorem LJ (hC:CxOk C){y:Sc}(hf:0<=y.first/\y.first<=200){d i line:Int}(hd:-100<=d/\d<=2000)(hi:-2<=i/\i<=100)(hl:ll C line)(s:Gs):Tr2 C G s (Hs C y s d i line):=by obtain⟨h1,h2,h3⟩:=zi hC hf hd hi false;exact eO hl (fun k=>absurd k h1) (fun _=>h3) h2
theorem wF (hC:CxOk C){y:Sc}(hf:0<=y.first/\y.first<=200){d i line:Int}(hd:-100<=d/\d<=2000)(hi:-2<=i/\i<=100)(hl:ll C line)(s:Gs)(chain:List Int):Tr2 C G s (eE C y s d i line chain):=by obtain⟨h1,h2,h3⟩:=zi hC hf hd hi true;exact eO hl (fun k=>absurd k h1) (fun _=>h3) h2
theorem zW:fC 0 0:=by unfold fC;omega
theorem Aj (hC:CxOk C){y:Sc}(hf:0<=y.first/\y.first<=200){chain:List Int}{line:Int}(hl:ll C line):∀(n:Nat) (d:Int) (s:Gs),n<=50->-100<=d-n->d<=2000->Tr2 C G s (cf C y chain line n d s)
 | 0,d,s,_,_,_=>Tr2.refl s
 | n+1,d,s,h0,h1,h2=>by
  rw[cf];exact(wF hC hf o_ o_ hl s chain).trans (Aj hC hf hl n (d-1) _ o_ o_ o_)
theorem CV (hC:CxOk C){y:Sc}(hf:0<=y.first/\y.first<=200){chain:List Int}{line d:Int}(hl:ll C line)(hd:-100<=d/\d<=1999):∀(n i:Nat) (s:Gs),i+n<=50->Tr2 C G s (cR C y chain line d n i s)
 | 0,i,s,_=>Tr2.refl s
 | n+1,i,s,h=>by
  rw[cR];exact((eO hl (fun k=>o_) (fun _=>zW) o_).trans (wF hC hf o_ o_ hl _ chain)).trans (CV hC hf hl hd n (i+1) _ o_)
def Gd (C:Cx)(rep:Sc->List Nat->Nat->Nat->Int->Gs->Gs)(G:Nat)(x:Sc)(ins:List Nat):Prop:=
 ∀(line g:Nat) (d:Int) (s:Gs),ll C line->bO C g->-10*(ins.length:Int)<=d->d<=1000+30*ins.length+21->cw C ins g s.I4.length=true->Tr2 C G s (rep x ins line g d s)
theorem MO (hC:CxOk C)(hx:ScOk C x ins)(hi:ins.length<=4)(N3:Gd C rep G x ins)(hl:ll C line){t:Ou}(ht:fv t=true){d:Int}(h1:-10*(ins.length:Int)<=d)(h2:d<=1000+30*ins.length+21)(s:Gs):Tr2 C G s (iB C rep x ins line t d s):=by
 obtain⟨e,e1,e2,e3,e4,e5⟩:=hx.endE hC;have ZD:=hx.first;have VB:=mr x.I7 t.J0;unfold fv at ht;unfold iB;split
 ·rename_i h0;rw[d5 h0]at ht;simp only[c9,within_iff]at ht;exact eO hl (fun k=>o_) (fun _=>by unfold fC;omega) o_
 ·rename_i h0;rw[c8 h0]at ht;split
  ·exact LJ hC o_ o_ o_ hl s
  ·rename_i h1;split
   ·split
    ·rename_i g hg;obtain⟨_,ln,k1,k2,_⟩:=eV hg;split
     ·rename_i hr;exact N3 line g d s hl ⟨ln,k1,k2⟩ o_ o_ hr
     ·have hn:=DR C.p g;have:=aw k1;have:=hC.len;exact eO hl (fun k=>o_) (fun _=>by unfold fC;omega) o_
    ·exact Tr2.refl s
   ·rename_i h7;rw[c8 h7,c8 h1]at ht;simp only[c9,within_iff]at ht;exact eO hl (fun k=>o_) (fun _=>by unfold fC;omega) o_
mutual
theorem Ht (hC:CxOk C)(hx:ScOk C x ins)(hi:ins.length<=4)(N3:Gd C rep G x ins)(hl:ll C line):∀(e:Ex) (d:Int) (s:Gs),e.ok->-10*(ins.length:Int)<=d->d+e.toks.length<=1000+30*ins.length+21->Tr2 C G s (dx C rep x ins line e d s)
 | .node t es,d,s,h,h1,h2=>by
  rw[Ex.toks,c7]at h2;rw[dx];have OH:=CC es;exact(EL hC hx hi N3 hl es d s h.2.2 h1 o_).trans (MO hC hx hi N3 hl h.1 o_ o_ _)
theorem EL (hC:CxOk C)(hx:ScOk C x ins)(hi:ins.length<=4)(N3:Gd C rep G x ins)(hl:ll C line):∀(es:List Ex) (d:Int) (s:Gs),jL es->-10*(ins.length:Int)<=d->d+(ao es).length<=1000+30*ins.length+21->Tr2 C G s (cO C rep x ins line es d s)
 | [],d,s,_,_,_=>by rw[cO];exact Tr2.refl s
 | a::es,d,s,h,h1,h2=>by
  rw[ao,b8]at h2;rw[cO];have hp:=a.toks_pos;exact(Ht hC hx hi N3 hl a d s h.1 h1 o_).trans (EL hC hx hi N3 hl es (d+1) _ h.2 o_ o_)
end
theorem Kx (hl:ll C line)(x:Sc)(d:Int)(s:Gs):Tr2 C G s (bA C x line d s):=by
 unfold bA;split
 ·exact eO hl (fun k=>o_) (fun _=>by unfold fC;omega) o_
 ·exact Tr2.refl s
theorem Np (hC:CxOk C)(hx:ScOk C x ins)(hi:ins.length<=3)(hl:ll C line){g:Nat}(hg:bO C g){d:Int}(h1:-10*(ins.length:Int)<=d)(h2:d<=1000+30*ins.length+21)(s:Gs):Tr2 C G s (dB C x line g d s):=by obtain⟨k1,k2⟩:=dz hC hg;have hy:=jR hC hx line hg;have hf:=hy.first;rw[b8,c7,e7]at hf;have ht:=tm hC hx;have ha:=hC.argsN g;have h0:Tr2 C G s ⟨s.I4,max s.J1 (bK C x+(localsOf C.p (g:Int)).length),s.start⟩:=⟨fun _ _ h=>h,id,fun h=>g_⟩;unfold dB;exact(h0.trans (Aj hC o_ hl _ d _ o_ o_ o_)).trans (CV hC o_ hl o_ _ _ _ o_)
structure LsI (C:Cx) (G f k:Nat) (g0:Gs) (L:Ls):Prop where
 tr:Tr2 C G g0 L.g
 I9:∀v∈L.I9,0<=v/\v<=L.g.I4.length
 pos:∀i,f+1<=i->i<k->jumps C.p i->JP L.g.I4 (atL L.pos i)
 lv:∀j∈L.lv,JP L.g.I4 j
 len:L.pos.length=C.p.length
theorem LsI.step {f k k':Nat}{g0:Gs}{L L':Ls}(h:LsI C G f k g0 L)(ht:Tr2 C G L.g L'.g)(hh:∀v∈L'.I9,v∈L.I9\/(0<=v/\v<=L'.g.I4.length))(hp:∀i,f+1<=i->i<k'->jumps C.p i->(i<k/\atL L'.pos i=atL L.pos i)\/JP L'.g.I4 (atL L'.pos i))(hv:∀j∈L'.lv,j∈L.lv\/JP L'.g.I4 j)(hl:L'.pos.length=L.pos.length):LsI C G f k' g0 L':=by
 have OH:=ht.len;refine⟨h.tr.trans ht,fun v hv=>?_,fun i h1 h2 h3=>?_,fun j hj=>?_,by rw[hl,h.len]⟩
 ·rcases hh v hv with h1|h1
  ·have:=h.I9 v h1;omega
  ·exact h1
 ·rcases hp i h1 h2 h3 with⟨k1,k2⟩|k1
  ·rw[k2];exact(h.pos i h1 k1 h3).ext ht.ext
  ·exact k1
 ·rcases hv j hj with h1|h1
  ·exact(h.lv j h1).ext ht.ext
  ·exact h1
theorem LsI.same {f k:Nat}{g0:Gs}{L L':Ls}(h:LsI C G f k g0 L)(ht:Tr2 C G L.g L'.g)(e1:L'.I9=L.I9)(e2:L'.pos=L.pos)(e3:L'.lv=L.lv):LsI C G f k g0 L':=
 h.step ht (fun v hv=> .inl (by rw[<-e1];exact hv)) (fun i _ h2 _=> .inl ⟨h2,by rw[e2]⟩) (fun j hj=> .inl (by rw[<-e3];exact hj)) (by rw[e2])
theorem LsI.next {f k:Nat}{g0:Gs}{L:Ls}(h:LsI C G f k g0 L)(hj:¬jumps C.p k):LsI C G f (k+1) g0 L:=
 h.step (Tr2.refl _) (fun v hv=> .inl hv) (fun i h1 h2 h3=> .inl ⟨by
  rcases l9 i k with h|h
  ·exact h
  ·rw[show i=k by omega]at h3;exact absurd h3 hj,rfl⟩) (fun j hj=> .inl hj) rfl
theorem Ec (hC:CxOk C)(hw:C.J2<=255){f k k':Nat}{g0:Gs}{L:Ls}(hl:ll C (k':Int))(last:Bool)(d:Int)(h:LsI C G f k g0 L):LsI C G f k g0 (aU C x k' last d L):=by
 have ha:=hC.args;have Zp:=hC.J2;unfold aU;split
 ·split
  ·exact h.same (eO hl (fun k=>o_) (fun _=>by unfold fC;omega) o_) rfl rfl rfl
  ·exact h.same (eO hl (fun k=>o_) (fun _=>by unfold fC;omega) o_) rfl rfl rfl
 ·split
  ·exact h
  ·refine h.step (eO hl (fun k=>o_) (fun k=>o_) o_) (fun v hv=> .inl hv) (fun i _ h2 _=> .inl ⟨h2,rfl⟩) (fun j hj=>?_) rfl;simp only[f0,o9]at hj;rcases hj with hj|rfl
   ·exact .inl hj
   ·exact .inr (Cy (.inl rfl))
theorem Ii {l:List Int}{n:Int}(h:∀v∈l,0<=v/\v<=n)(hn:0<=n)(k:Nat):0<=atL l k/\atL l k<=n:=by
 unfold atL
 cases hk:l[k]? with|none=>simp only[Option.getD];omega|some v=>exact h v (b9 hk)
theorem JE (hC:CxOk C)(hw:C.J2<=255)(hx:ScOk C x ins)(hi:ins.length<=4)(N3:Gd C rep G x ins){e:Nat}(he:endAt C.p x.f=some e){k:Nat}{ln:Oj}(hk:C.p[k]?=some ln)(h0:ln.I6≠0)(Pk:x.f<k)(Pb:k<=e){base:Int}(PK:-10*(ins.length:Int)<=base)(OX:base<=1000+30*ins.length){g0:Gs}{L:Ls}(h:LsI C G x.f k g0 L):LsI C G x.f (k+1) g0 (dq C rep x ins base k ln L):=by
 have hl:ll C (k:Int):=⟨ln,o_,by rw[e8];exact hk,h0⟩;have OZ:k<C.p.length:=aw hk;have XW:=bE hk;unfold dq;split
 ·rename_i h4;obtain⟨o1,o2,o3,o4⟩:=hx.own4 hC he Pk Pb hk h4;obtain⟨y,_,hy,VD,_⟩:=bn o1;have hJ:=h.pos (aQ C.p k) o2 o3 (.inl (by rw[bE hy];exact VD));have t1:Tr2 C G L.g (aA C L.g base 10 0 k x.I5):=eO hl (fun _=>o_) (fun k=>o_) o_;have t2:=ut (C:=C) (g:=G) (hJ.ext t1.ext);refine h.step (t1.trans t2) (fun v hv=> .inl hv) (fun i h1 h2 h3=>?_) (fun j hj=> .inl hj) s_;by_cases Ph:i=k
  ·subst Ph;refine .inr ?_;rw[jx (by rw[h.len];exact OZ)];exact JP.ext t2.ext (Cy (.inl rfl))
  ·exact .inl ⟨o_,fN Ph⟩
 ·rename_i h4;split
  ·rename_i h7;have Tu:¬jumps C.p k:=(by unfold jumps;rw[XW];omega);split
   ·exact(Ec hC hw (x:=x) hl true (base+1) (h.same (L':={L with g:=aA C L.g base 0 0 k x.I5}) (eO hl (fun k=>o_) (fun _=>zW) o_) rfl rfl rfl)).next Tu
   ·split
    ·have hh:=Ii h.I9 o_ (aQ C.p k);exact(h.same (L':={L with g:=aA C L.g base 10 (atL L.I9 (aQ C.p k)) k x.I5}) (eO hl (fun _=>hh) (fun k=>o_) o_) rfl rfl rfl).next Tu
    ·exact h.next Tu
  ·rename_i h7;have Sz:=hC.line _ _ hk;have TZ:=rl (Sz.2.2.2.2 o_);have Py:=Sz.2.2.2.1;rw[TZ.2]at Py
   have tg:Tr2 C G L.g (dx C rep x ins k (exL ln.J5) base ⟨L.g.I4,L.g.J1,true⟩):=by have:=Ht hC hx hi N3 hl (exL ln.J5) base ⟨L.g.I4,L.g.J1,true⟩ TZ.1 PK o_;exact⟨this.ext,this.inv,this.J1⟩
   have Tn:LsI C G x.f k g0 {L with g:=dx C rep x ins k (exL ln.J5) base ⟨L.g.I4,L.g.J1,true⟩,I9:=L.I9.set k L.g.I4.length}:=by
    refine h.step tg (fun v hv=>?_) (fun i _ h2 _=> .inl ⟨h2,rfl⟩) (fun j hj=> .inl hj) rfl;rcases v5 hv with hv|rfl
    ·exact .inl hv
    ·exact .inr ⟨o_,by have:=tg.len;simp only;omega⟩
   have VB:=mr x.I7 ln.J0;obtain⟨_,_,_,_,_,e5⟩:=hx.endE hC;have ZD:=hx.first;generalize dx C rep x ins k (exL ln.J5) base ⟨L.g.I4,L.g.J1,true⟩=GE at tg Tn⊢;split
   ·rename_i k1;have Tu:¬jumps C.p k:=(by unfold jumps;rw[XW];omega);have t2:Tr2 C G GE (eE C x GE (base+1) (dJ x.I7 ln.J0) k x.I5):=wF hC o_ o_ o_ hl _ _;exact(Tn.same (L':={L with g:=eE C x GE (base+1) (dJ x.I7 ln.J0) k x.I5,I9:=L.I9.set k L.g.I4.length}) t2 rfl rfl rfl).next Tu
   ·split
    ·rename_i k2;have Tu:¬jumps C.p k:=(by unfold jumps;rw[XW];omega);have t2:Tr2 C G GE (aA C GE (base+1) 17 0 k x.I5):=eO hl (fun k=>o_) (fun _=>by unfold fC;omega) o_;exact(Tn.same (L':={L with g:=aA C GE (base+1) 17 0 k x.I5,I9:=L.I9.set k L.g.I4.length}) t2 rfl rfl rfl).next Tu
    ·split
     ·rename_i k6;have Tu:¬jumps C.p k:=(by unfold jumps;rw[XW];omega);exact(Ec hC hw (x:=x) hl false (base+1) Tn).next Tu
     ·refine Tn.step (eO hl (fun _=>o_) (fun k=>o_) o_) (fun v hv=> .inl hv) (fun i h1 h2 h3=>?_) (fun j hj=> .inl hj) s_;by_cases Ph:i=k
      ·subst Ph;refine .inr ?_;rw[jx (by rw[h.len];exact OZ)];exact Cy (.inr rfl)
      ·exact .inl ⟨o_,fN Ph⟩
theorem Kr (hC:CxOk C)(hx:ScOk C x ins){e:Nat}(he:endAt C.p x.f=some e){k:Nat}{ln:Oj}(hk:C.p[k]?=some ln)(Pk:x.f<k)(Pb:k<=e){g0:Gs}{L:Ls}(h:LsI C G x.f (k+1) g0 L):LsI C G x.f (k+1) g0 (bc C x k ln L):=by
 unfold bc;split
 ·rename_i h7
  have Pr:k≠e:=fun hh=>by
   rcases(hx.own7 hC he Pk Pb hk h7.1).2 with⟨_,o⟩|⟨o,_⟩
   ·exact h7.2 o
   ·omega
  obtain⟨k1,k2,k3,_,_⟩:=Cn hC hx he Pk o_ hk h7.1;exact h.same (ut (h.pos _ k1 o_ k3)) rfl rfl rfl
 ·exact h
theorem HB (hC:CxOk C)(hw:C.J2<=255)(hx:ScOk C x ins)(hi:ins.length<=4)(N3:Gd C rep G x ins){e:Nat}(he:endAt C.p x.f=some e){base:Int}(PK:-10*(ins.length:Int)<=base)(OX:base<=1000+30*ins.length)(h0:∀i y,x.f<i->i<=e->C.p[i]?=some y->y.I6≠0){g0:Gs}:∀(n k:Nat) (L:Ls),x.f<k->k+n=e+1->LsI C G x.f k g0 L->LsI C G x.f (e+1) g0 (gD C rep x ins base n k L)
 | 0,k,L,_,h2,h=>by rw[gD,<-h2];exact h
 | n+1,k,L,h1,h2,h=>by
  obtain⟨_,_,_,_,_,Pq⟩:=aL he;obtain⟨ln,hk⟩:=ab (l:=C.p) (k:=k) o_;rw[gD,hk];exact HB hC hw hx hi N3 he PK OX h0 n (k+1) _ o_ o_ (Kr hC hx he hk h1 o_ (JE hC hw hx hi N3 he hk (h0 k ln h1 o_ hk) h1 o_ PK OX h))
theorem zK (hC:CxOk C)(hw:C.J2<=255)(hx:ScOk C x ins)(hi:ins.length<=4)(N3:Gd C rep G x ins){base:Int}(PK:-10*(ins.length:Int)<=base)(OX:base<=1000+30*ins.length)(s:Gs):Tr2 C G s (aV C rep x ins base s).1/\∀j∈(aV C rep x ins base s).2,JP (aV C rep x ins base s).1.I4 j:=by
 obtain⟨ln,h1,h2⟩:=hx.fn;obtain⟨e,h3,_,_,h4⟩:=hC.fn _ _ h1 h2;obtain⟨e',g3,g4,U8,g5,_⟩:=hx.endE hC;rw[h3]at g3;injection g3 with g3;subst g3
 have h:=HB hC hw hx hi N3 h3 PK OX (fun i y k1 k2 hy=>by
  by_cases PZ:i=e
  ·subst PZ;obtain⟨z,hz,h7⟩:=bG h3;rw[hy]at hz;injection hz with hz;subst hz;omega
  ·exact(h4 i y o_ o_ hy).1) (g0:=s) (e-x.f) (x.f+1) (cq C s) o_ o_ ⟨Tr2.refl s,fun v hv=>by
   simp only[cq,D0]at hv
   omega,fun i k1 k2 _=>o_,fun j hj=>(by cases hj),by simp[cq]⟩
 unfold aV;rw[g5];exact⟨h.tr,h.lv⟩
end
theorem GT {C:Cx}{G:Nat}(hC:CxOk C)(hw:C.J2<=255):∀(lev:Nat) {x:Sc} {ins:List Nat},ScOk C x ins->Gd C (bf C lev) G x ins
 | 0,x,ins,hx,line,g,d,s,_,_,_,_,_=>Tr2.refl s
 | lev+1,x,ins,hx,line,g,d,s,hl,hg,h1,h2,hr=>by
  obtain⟨r1,r2,r3,_⟩:=eA hr;have hin:=hC.inl;have hy:=jR hC hx line hg;have ha:=hC.argsN g;have O3:(ins++[g]).length=ins.length+1:=s_;have t1:=Np (G:=G) hC hx o_ hl hg h1 h2 s;have t2:=Kx (G:=G) hl x (d-argsN C.p g) (dB C x line g d s);have t3:=zK (G:=G) hC hw hy o_ (GT hC hw lev hy) (base:=d-argsN C.p g) o_ o_ (bA C x line (d-argsN C.p g) (dB C x line g d s));exact((t1.trans t2).trans t3.1).trans (AU _ t3.2)
theorem CX {C:Cx}(hC:CxOk C)(hw:C.J2<=255){g:Nat}(hg:bO C g)(e5:C.args=argsN C.p g):InvI C g (dt C g).I4/\(dt C g).J1<=60:=by
 have hS:ScOk C (bg C g) [g]:=⟨hg,rfl,⟨v7 _,by simp[bg]⟩,rfl,by simp[bg],fun _=>e5,rfl⟩;have Zp:=hC.J2;have t:=(zK (G:=g) hC hw hS s_ (GT hC hw C.b.L4.toNat hS) (base:=C.J2) (by simp only[c7,e7];omega) (by simp only[c7,e7];omega) (eK C g)).1;obtain⟨l1,l2⟩:=dz hC hg;refine⟨t.inv ⟨_,[],rfl,⟨?_,rfl,rfl⟩,fun it h=>by cases h⟩,t.J1 ?_⟩
 ·simp only[lS];split<;>omega
 ·show(localsOf C.p (g:Int)).length-C.args<=60;omega
theorem sL {p:List Oj}{f:Int}{b:Oa}(hs:aE 1048576 (.lst 4 (p.map Oj.tr)))(h1:aj p=true)(h2:aS b=true)(h3:0<=f)(h4:f<(az p).length):∃(g:Nat) (C:Cx),(az p)[f.toNat]?=some g/\C.p=foldIf p b/\0<=C.J2/\C.J2<=255/\InvI C g (aN p f b):=by
 obtain⟨g,C,k1,k2,k3,k4,k5,k6,k7,k8,k9⟩:=jq hs h1 h2 h3 h4
 have hb:0<=b.L4/\b.L4<=3:=by exact V147
 have Qf:=(sC hs h1).foldIf b;have ha:(0:Int)<=(argsN (foldIf p b) g:Int)/\(argsN (foldIf p b) g:Int)<=4:=by have:=k2.argsN g;rw[k3]at this;omega
 have S6:CxOk (ctx (foldIf p b) f.toNat g b 0):=Qf.cx ha o_ hb;obtain⟨y,y1,y2⟩:=k7;have Zn:bO (ctx (foldIf p b) f.toNat g b 0) g:=⟨y,by rw[k3]at y1;exact y1,y2⟩;have PW:=(CX S6 (by show(0:Int)<=255;omega) Zn rfl).2;have hw:=k2.J2;refine⟨g,C,k1,k3,hw.1,o_,?_⟩;rw[k8];exact(CX k2 o_ ⟨y,y1,y2⟩ k5).1
end Go.Proofs.P
namespace Go.Proofs.P
open Go.Sim Tryz
def gZ (p:Option Om)(x:Om):Bool:=match p with
 | none=>false
 | some y=>!x.I8.J8&&(!y.I8.J8&&(y.I8.J9==x.I8.J9))
def oA (x:Om):On:=⟨x.J7,x.I8.J9,x.I8.J8⟩
def cJ:Option Om->List Om->List On
 | _,[]=>[]
 | p,x::l=>(if gZ p x then []else [oA x])++cJ (some x) l
def fR (l:List Om):List On:=cJ none l
def ic (l:List Om)(k:Nat):Option Om:=if k=0 then none else l[k-1]?
theorem IG {l:List Om}{k:Nat}{x:Om}(hx:l[k]?=some x):cJ (ic l k) (l.drop k)=(if gZ (ic l k) x then []else [oA x])++cJ (ic l (k+1)) (l.drop (k+1)):=by rw[aP hx,cJ];rw[show ic l (k+1)=some x by rw[ic,c8 o_];exact hx]
theorem uS:∀(l:List Om) (p:Option Om),(cJ p l).length<=l.length
 | [],_=>by simp[cJ]
 | x::l,p=>by
  have:=uS l (some x);rw[cJ,b8,c7];split<;>simp<;>omega
abbrev Nk (l:List Om):={q:Nat×List On//q.1<=l.length/\q.2.length<=q.1/\q.2++cJ (ic l q.1) (l.drop q.1)=fR l}
theorem V122{p:Prop}(h:p:=by
 repeat' ((conv=>whnf);first|refine Or.inl ?_|apply oi|apply fi|intro h|exact Y3|refine e_ rfl ?_)
 all_goals exact⟨by rw[hr]⟩):p:=h
theorem zm (l:List Om)(hl:l.length<=1048576):Sim.Spec prog 101 [tvL 8 (l.map Om.tr)] (rL 3 ((fR l).map On.tr)):=by
 refine ag hΓ ay func101 rfl d_ rfl ?_;have N1:(l.map Om.tr).length=l.length:=s_;repeat' ((conv=>whnf);first|refine Or.inl ?_|apply oi|apply fi|intro h|exact Y1|refine e_ rfl ?_)
 conv=>whnf
 refine⟨Nk l,fun q=>⟨[(0,.r (.c (.t (.lst 8 (l.map Om.tr))))),(3,.r (.c (.own (6,0,0)))),(7,.r (.c (.t (.lst 8 (l.map Om.tr))))),(8,tI .i64 ((l.map Om.tr).length:Int)),(9,tI .i64 (q.1.1:Int))],[((6,0,0),some (.arr true 3 (q.1.2.map On.tr)))],[6]⟩,fun q=>l.length-q.1.1,⟨(0,[]),s_,s_,by simp[ic,fR]⟩,?_,?_⟩
 ·exact Z1
 intro⟨⟨k,acc⟩,hk,OC,hr⟩;dsimp only at hk OC hr⊢;by_cases N2:k<l.length
 ·obtain⟨x,hx⟩:=ab N2;have RM:(acc.map On.tr).length=acc.length:=s_;rw[IG hx]at hr;by_cases O6:k=0
  ·have hp:ic l k=none:=(by rw[ic,d5 O6]);rw[hp,gZ,c8 s_]at hr;repeat' ((conv=>whnf);first|refine Or.inl ?_|apply oi|apply fi|intro h|refine⟨k,x.tr,rfl,aa hx,?_⟩|exact Y13|refine e_ rfl ?_)
   all_goals try exact Q11
   all_goals(
    conv=>whnf
    refine⟨⟨(k+1,acc++[oA x]),g_,by simp;omega,by rw[<-hr];simp⟩,?_,KD⟩;repeat' ((conv=>whnf);first|refine Or.inl ?_|apply oi|apply fi|intro h|exact Y2|refine e_ rfl ?_)
    all_goals exact⟨by simp[oA,On.tr]⟩)
  ·obtain⟨y,hy⟩:=ab (l:=l) (k:=k-1) o_;have hp:ic l k=some y:=(by rw[ic,c8 O6,hy]);rw[hp]at hr;have hw:IntKind.i64.wrap (↑k-1)=((k-1:Nat):Int):=(by rw[c6 _ o_];omega);repeat' ((conv=>whnf);first|refine Or.inl ?_|apply oi|apply fi|intro h|refine⟨k,x.tr,rfl,aa hx,?_⟩|refine⟨(k-1),y.tr,hw,aa hy,?_⟩|exact Y3|refine e_ rfl ?_)
   all_goals try exact Q11
   all_goals conv=>whnf
   all_goals first
    |(have hs:gZ (some y) x=false:=by simp_all[gZ]
      rw[c8 (by rw[hs];simp)]at hr
      refine⟨⟨(k+1,acc++[oA x]),g_,by simp;omega,by rw[<-hr];simp⟩,?_,KD⟩)
    |(have hs:gZ (some y) x=true:=by simp_all[gZ]
      rw[d5 hs]at hr
      refine⟨⟨(k+1,acc),g_,g_,by rw[<-hr];simp⟩,?_,KD⟩)
   repeat' ((conv=>whnf);first|refine Or.inl ?_|apply oi|apply fi|intro h|exact Y2|refine e_ rfl ?_)
   all_goals exact⟨by simp[oA,On.tr]⟩
 ·have OK:l.length<=k:=o_;rw[d8 OK,cJ,i9]at hr;exact V122
theorem yx {α:Type}{g:α->List Tr}{L:Int}:∀{l:List α},(∀x∈l,aX L (g x))->eB L (l.map g)
 | [],_=>by rw[A4,eB];trivial
 | x::l,h=>by
  rw[n9,eB];exact⟨h x s_,yx fun y hy=>h y aao⟩
theorem gB {α:Type}{g:α->List Tr}{l:List α}{sz:Nat}(hl:l.length<=1048576)(h:∀x∈l,aX 1048576 (g x)):aE 1048576 (.lst sz (l.map g)):=by rw[aE];exact⟨by simp;omega,yx h⟩
theorem Iz {l:List On}(hl:l.length<=1048576):aE 1048576 (.lst 3 (l.map On.tr)):=gB hl fun x _=>by simp[On.tr,aX,aE]
theorem Fu {l:List Oo}(hl:l.length<=1048576):aE 1048576 (.lst 4 (l.map Oo.tr)):=gB hl fun x _=>by simp[Oo.tr,aX,aE]
def dc (c:Int):Int×Bool:=
 if c=0 then(4,true)else if c=1\/c=2\/c=3\/c=4\/c=10\/c=11 then(2,true)
 else if c=16 then(2,false)else if c=12\/c=13\/c=14\/c=15 then(1,false)else(0,false)
def bp (c:Int):Int:=if af c 0 17 then(dc c).1+1 else 0
theorem dX (c:Int):0<=(dc c).1/\(dc c).1<=4:=by
 unfold dc;repeat' split
 all_goals simp
theorem iP (c:Int):0<=bp c/\bp c<=5:=by have:=dX c;unfold bp;split<;>omega
abbrev IF (c:Int):Res:= .tup [.c (.t (.int .i64 (dc c).1)),.c (.t (.bool (dc c).2))]
theorem V113{p:Prop}(h:p:=by
 repeat' ((conv=>whnf);first|refine Or.inl ?_|apply oi|apply fi|intro h|exact Y1|refine e_ rfl ?_)
 all_goals(refine⟨?_⟩;simp_all[dc])):p:=h
theorem jH (c:Int):Sim.Spec prog 220 [tvI c] (IF c):=by refine ag hΓ ay func220 rfl d_ rfl ?_;exact V113
theorem jD (c:Int):Sim.Spec prog 131 [tvI c] (IF c):=by refine ag hΓ ay func131 rfl d_ rfl ?_;exact V113
theorem V93{p:Prop}(h:p:=by
 rw[hw]at hb
 repeat' ((conv=>whnf);first|refine Or.inl ?_|apply oi|apply fi|intro h|refine ci hb (ai rfl (ai rfl (ai rfl trivial))) ?_|exact Y1|refine e_ rfl ?_)):p:=h
theorem ga (c:Int):Sim.Spec prog 160 [tvI c] (rI (bp c)):=by
 refine ag hΓ ay func160 rfl d_ rfl ?_;have hb:=ak c 0 17;have ha:=jH c;have OH:=dX c;unfold bp
 cases hw:af c 0 17 with
 | false=>exact V93
 | true=>
  rw[hw]at hb;repeat' ((conv=>whnf);first|refine Or.inl ?_|apply oi|apply fi|intro h|refine ci hb (ai rfl (ai rfl (ai rfl trivial))) ?_|refine ci ha (ai rfl trivial) ?_|exact Y1|refine e_ rfl ?_)
  exact⟨by rw[c6 _ o_];rfl⟩
theorem zE (c:Int):Sim.Spec prog 59 [tvI c] (rI (bp c)):=by
 refine ag hΓ ay func59 rfl d_ rfl ?_;have hb:=cC c 0 17;have ha:=jD c;have OH:=dX c;unfold bp
 cases hw:af c 0 17 with
 | false=>exact V93
 | true=>
  rw[hw]at hb;repeat' ((conv=>whnf);first|refine Or.inl ?_|apply oi|apply fi|intro h|refine ci hb (ai rfl (ai rfl (ai rfl trivial))) ?_|refine ci ha (ai rfl trivial) ?_|exact Y1|refine e_ rfl ?_)
  exact⟨by rw[c6 _ o_,Int.add_comm];rfl⟩
def near (l:List Om):Bool:=l.all fun x=>af x.J7 0 1000000
theorem GJ {l:List Om}{k:Nat}{x:Om}(hx:l[k]?=some x):near (l.drop k)=(af x.J7 0 1000000&&near (l.drop (k+1))):=by rw[aP hx,near,G3];rfl
theorem Dk {l:List Om}(h:near l=true):∀x∈l,0<=x.J7/\x.J7<=1000000:=fun x hx=>within_iff.1 (q7.1 h x hx)
def ey (x:Om):Oo:=⟨x.J7,x.J7+bp x.I8.J6.J4,x.I8.M7,x.I8.L9⟩
def xw (r s:Oo):Bool:=r.L5==s.J8&&(r.M4==s.M4&&r.L9==s.L9)
def gK (acc:List Oo)(s:Oo):List Oo:=match acc.getLast? with
 | some r=>if xw r s then acc.dropLast++[⟨r.J8,s.L5,r.M4,r.L9⟩]else acc++[s]
 | none=>[s]
def im (l:List Om):List Oo:=if near l then l.foldl (fun a x=>gK a (ey x)) []else []
theorem oW {α:Type}(l:List α):l=[]\/∃ini r,l=ini++[r]:=by
 rcases List.eq_nil_or_concat l with h|⟨a,b,h⟩
 ·exact .inl h
 ·exact .inr ⟨a,b,by rw[h,List.concat_eq_append]⟩
theorem mK (ini:List Oo)(r s:Oo):gK (ini++[r]) s=if xw r s then ini++[⟨r.J8,s.L5,r.M4,r.L9⟩]else ini++[r]++[s]:=by simp[gK]
theorem CN (acc:List Oo)(s:Oo):(gK acc s).length<=acc.length+1:=by
 rcases oW acc with rfl|⟨ini,r,rfl⟩
 ·simp[gK]
 ·rw[mK];split<;>simp
abbrev NE (l:List Om):={q:Nat×List Oo//q.1<=l.length/\q.2.length<=q.1/\(l.drop q.1).foldl (fun a x=>gK a (ey x)) q.2=l.foldl (fun a x=>gK a (ey x)) []}
theorem wT (l:List Om)(hl:l.length<=1048576):Sim.Spec prog 100 [tvL 8 (l.map Om.tr)] (rL 4 ((im l).map Oo.tr)):=by
 refine ag hΓ ay func100 rfl d_ rfl ?_;have N1:(l.map Om.tr).length=l.length:=s_;unfold im;repeat' ((conv=>whnf);first|refine Or.inl ?_|apply oi|apply fi|intro h|exact Y1|refine e_ rfl ?_)
 conv=>whnf
 refine⟨{k:Nat//k<=l.length/\near (l.drop k)=near l},fun k=>⟨[(0,.r (.c (.t (.lst 8 (l.map Om.tr))))),(2,.r (.c (.nils 0))),(10,.r (.c (.t (.lst 8 (l.map Om.tr))))),(11,tI .i64 ((l.map Om.tr).length:Int)),(12,tI .i64 (k.1:Int))],[],[]⟩,fun k=>l.length-k.1,⟨0,o_,rfl⟩,?_,?_⟩
 ·exact Z1
 intro⟨k,hk,hr⟩;dsimp only;by_cases N2:k<l.length
 ·obtain⟨x,hx⟩:=ab N2;have hb:=ak x.J7 0 1000000;rw[GJ hx]at hr
  cases hw:af x.J7 0 1000000 with
  | false=>
   rw[hw]at hb hr;rw[c8 (by rw[<-hr];simp)]
   repeat' ((conv=>whnf);first|refine Or.inl ?_|apply oi|apply fi|intro h|refine⟨k,x.tr,rfl,aa hx,?_⟩|refine ci hb (ai rfl (ai rfl (ai rfl trivial))) ?_|exact Y3|refine e_ rfl ?_)
  | true=>
   rw[hw,m7]at hr;rw[hw]at hb;repeat' ((conv=>whnf);first|refine Or.inl ?_|apply oi|apply fi|intro h|refine⟨k,x.tr,rfl,aa hx,?_⟩|refine ci hb (ai rfl (ai rfl (ai rfl trivial))) ?_|exact Y3|refine e_ rfl ?_)
   all_goals(
    conv=>whnf
    refine⟨⟨k+1,o_,hr⟩,?_,KD⟩;repeat' ((conv=>whnf);first|refine Or.inl ?_|apply oi|apply fi|intro h|exact Y1|refine e_ rfl ?_)
    all_goals try exact⟨by dsimp only;rw[c6 _ o_];rfl⟩)
 ·have OK:l.length<=k:=o_;rw[d8 OK]at hr;have hn:near l=true:=by rw[<-hr];rfl
  have Qa:=Dk hn;rw[d5 hn];repeat' ((conv=>whnf);first|refine Or.inl ?_|apply oi|apply fi|intro h|exact Y3|refine e_ rfl ?_)
  conv=>whnf
  refine⟨NE l,fun q=>⟨[(5,.r (.c (.own (21,0,0)))),(22,.r (.c (.t (.lst 8 (l.map Om.tr))))),(23,tI .i64 ((l.map Om.tr).length:Int)),(24,tI .i64 (q.1.1:Int))],[((21,0,0),some (.arr true 4 (q.1.2.map Oo.tr)))],[21]⟩,fun q=>l.length-q.1.1,⟨(0,[]),s_,s_,s_⟩,?_,?_⟩
  ·exact Z1
  intro⟨⟨k,acc⟩,hk,OC,hr⟩;dsimp only at hk OC hr⊢;by_cases N2:k<l.length
  ·obtain⟨x,hx⟩:=ab N2;have Xe:=Qa x (b9 hx);have hz:=iP x.I8.J6.J4;have ho:=ga x.I8.J6.J4;have Ty:ey x=⟨x.J7,x.J7+bp x.I8.J6.J4,x.I8.M7,x.I8.L9⟩:=rfl;have PJ:IntKind.i64.wrap (x.J7+bp x.I8.J6.J4)=x.J7+bp x.I8.J6.J4:=c6 _ o_;rw[aP hx,B5]at hr;have PT:=CN acc (ey x);rcases oW acc with rfl|⟨ini,r,rfl⟩
   ·repeat' ((conv=>whnf);first|refine Or.inl ?_|apply oi|apply fi|intro h|refine⟨k,x.tr,rfl,aa hx,?_⟩|refine ci ho (ai rfl trivial) ?_|exact Y3|refine e_ rfl ?_)
    all_goals try exact⟨⟨s_,s_⟩⟩
    conv=>whnf
    refine⟨⟨(k+1,gK [] (ey x)),g_,by dsimp only;simp only[e7]at PT;omega,hr⟩,?_,KD⟩;repeat' ((conv=>whnf);first|refine Or.inl ?_|apply oi|apply fi|intro h|exact Y2|refine e_ rfl ?_)
    all_goals exact⟨by dsimp only;rw[PJ];rfl⟩
   ·have O3:ini.length+1<=k:=by simpa using OC
    have hwn:IntKind.i64.wrap ((((ini++[r]).map Oo.tr).length:Nat)-1:Int)=(ini.length:Int):=by rw[d9,b8,List.length_singleton,c6 _ o_];omega
    have Uu:((ini++[r]).map Oo.tr)[ini.length]?=some r.tr:=(by rw[ne];exact LK s_);rw[mK]at hr PT;repeat' ((conv=>whnf);first|refine Or.inl ?_|apply oi|apply fi|intro h|refine⟨k,x.tr,rfl,aa hx,?_⟩|refine ci ho (ai rfl trivial) ?_|refine⟨ini.length,hwn,?_⟩|refine⟨r.tr,Uu,?_⟩|exact Y3|refine e_ rfl ?_)
    all_goals try(exfalso;have h':=n6 h;rw[d9,b8,List.length_singleton]at h';omega;done)
    all_goals try exact⟨s_⟩
    all_goals try exact Q11
    all_goals conv=>whnf
    all_goals first
     |(have hj:xw r (ey x)=true:=by simp_all[xw]
       rw[d5 hj]at hr PT
       refine⟨⟨(k+1,ini++[⟨r.J8,(ey x).L5,r.M4,r.L9⟩]),g_,by simp;omega,hr⟩,?_,KD⟩)
     |(have hj:xw r (ey x)=false:=by simp_all[xw]
       rw[c8 (by rw[hj];simp)]at hr PT
       refine⟨⟨(k+1,ini++[r]++[ey x]),g_,by simp;omega,hr⟩,?_,KD⟩)
    repeat' ((conv=>whnf);first|refine Or.inl ?_|apply oi|apply fi|intro h|exact Y2|refine e_ rfl ?_)
    all_goals first
     | exact⟨by dsimp only;rw[PJ,Ty];simp[Oo.tr]⟩
     | exact⟨by dsimp only;rw[PJ,Ty,ne,n9,A4,Mk s_,ne];rfl⟩
  ·have OK:l.length<=k:=o_;rw[d8 OK,List.foldl_nil]at hr;exact V122
def cA:Int->List Oi->List Int
 | at0,[]=>[at0]
 | at0,x::l=>at0::cA (at0+bp x.J6.J4) l
def xE (at0:Int)(l:List Oi):Int:=atL (cA at0 l) l.length
def wr (x:Oi)(a:Int):Oi:=⟨⟨x.J6.J4,a⟩,x.J9,x.J8,x.J3,x.L9,x.M7⟩
def pl (x:Oi):Bool:=x.J6.J4==10||x.J6.J4==11
def eJ (st:List Int)(k:Nat)(x:Oi):Oi:=if pl x=true then wr x (atL st x.J6.L6.toNat-atL st (k+1))else x
def pA (st:List Int):Nat->List Oi->List Om
 | _,[]=>[]
 | k,x::l=>⟨atL st k,eJ st k x⟩::pA st (k+1) l
def dv (l:List Oi)(at0:Int):List Om:=pA (cA at0 l) 0 l
theorem pa:∀(at0:Int) (l:List Oi),(cA at0 l).length=l.length+1
 | _,[]=>rfl
 | at0,x::l=>by rw[cA,c7,pa,c7]
theorem iy (at0:Int)(l:List Oi):atL (cA at0 l) 0=at0:=by cases l<;>rfl
theorem xJ (a:Int)(l:List Int)(k:Nat):atL (a::l) (k+1)=atL l k:=by simp[atL]
theorem fE:∀{at0:Int} {l:List Oi} {k:Nat} {x:Oi},l[k]?=some x->atL (cA at0 l) (k+1)=atL (cA at0 l) k+bp x.J6.J4
 | _,[],_,_,h=>by simp at h
 | at0,y::l,0,x,h=>by
  rw[i8]at h;injection h with h;subst h;rw[cA,xJ,iy]
  rfl
 | at0,y::l,k+1,x,h=>by
  rw[m5]at h;rw[cA,xJ,xJ,fE h]
theorem gx {at0:Int}{l:List Oi}:∀{k:Nat},k<=l.length->at0<=atL (cA at0 l) k/\atL (cA at0 l) k<=at0+5*k
 | 0,_=>by rw[iy];omega
 | k+1,h=>by
  obtain⟨x,hx⟩:=ab (l:=l) (k:=k) o_;have:=gx (at0:=at0) (l:=l) (k:=k) o_;have:=iP x.J6.J4;rw[fE hx];omega
theorem pu {l:List Int}{k:Nat}(h:k<l.length):l[k]?=some (atL l k):=by obtain⟨x,hx⟩:=ab h;rw[atL,hx];rfl
theorem cn {α:Type}{l:List α}{k:Nat}{x:α}(h:l[k]?=some x):l.take (k+1)=l.take k++[x]:=by rw[z7,h];rfl
theorem uC (st:List Int):∀(k:Nat) (l:List Oi),(pA st k l).length=l.length
 | _,[]=>rfl
 | k,x::l=>by rw[pA,c7,uC,c7]
theorem uT (st:List Int):∀{l:List Oi} {j k:Nat} {x:Oi},l[j]?=some x->(pA st k l)[j]?=some ⟨atL st (k+j),eJ st (k+j) x⟩
 | [],_,_,_,h=>by simp at h
 | y::l,0,k,x,h=>by
  rw[i8]at h;injection h with h;subst h
  rfl
 | y::l,j+1,k,x,h=>by
  rw[m5]at h;rw[pA,m5,uT st h,show k+1+j=k+(j+1) by omega]
theorem cP (l:List Oi)(at0:Int):(dv l at0).length=l.length:=uC _ _ _
theorem dD {l:List Oi}{at0:Int}{j:Nat}{x:Oi}(h:l[j]?=some x):(dv l at0)[j]?=some ⟨atL (cA at0 l) j,eJ (cA at0 l) j x⟩:=by have:=uT (cA at0 l) (k:=0) h;rwa [q8]at this
def BW (l:List Oi):Prop:=∀x∈l,pl x=true->0<=x.J6.L6/\x.J6.L6<=l.length
theorem gv {x:Oi}:pl x=true↔x.J6.J4=10\/x.J6.J4=11:=by simp[pl]
def uF (b:Oa)(image:Int)(f:Nat):Bool:=if b.M9=true then(f:Int)%2==image else image==0
noncomputable def bT (p:List Oj) (b:Oa) (image:Int):Nat->Nat->Int->List (Nat×List Om)
 | 0,_,_=>[]
 | n+1,f,at0=>if uF b image f=true then(f,dv (aN p f b) at0)::bT p b image n (f+1) (xE at0 (aN p f b))else bT p b image n (f+1) at0
noncomputable def aH (p:List Oj) (b:Oa) (image:Int):List Om:=
 if aj p=true/\aS b=true/\af image 0 1=true then((bT p b image (az p).length 0 0).map Prod.snd).flatten else []
structure FnOk (p:List Oj) (b:Oa) (f:Nat):Prop where
 pos:0<(aN p f b).length
 len:(aN p f b).length<=2500
 jmp:BW (aN p f b)
theorem InvI.jumps {C:Cx}{g:Nat}{l:List Oi}(h:InvI C g l):0<l.length/\BW l:=by
 obtain⟨a,t,rfl,h2,h3⟩:=h;refine⟨s_,fun x hx hj=>?_⟩;rw[gv]at hj;rcases d6.1 hx with rfl|hx
 ·have:=h2.1;omega
 ·exact(h3 x hx).jump hj
theorem KA {p:List Oj}{b:Oa}(hs:aE 1048576 (.lst 4 (p.map Oj.tr)))(h1:aj p=true)(h2:aS b=true){f:Nat}(h:f<(az p).length):FnOk p b f:=by obtain⟨g,C,_,_,_,_,hi⟩:=sL (f:=(f:Int)) hs h1 h2 o_ o_;exact⟨hi.jumps.1,(ij hs).1,hi.jumps.2⟩
theorem eH {p:List Oj}(h1:aj p=true):(az p).length<=6/\p.length<=60:=by rw[uD]at h1;simp only[c9,j7]at h1;exact⟨h1.2.1,h1.1⟩
theorem Ca {l:List Oi}{at0:Int}(h:0<l.length):∃x:Om,(dv l at0)[l.length-1]?=some x/\x.J7+bp x.I8.J6.J4=xE at0 l/\at0<=x.J7/\x.J7<=at0+5*l.length:=by
 obtain⟨y,hy⟩:=ab (l:=l) (k:=l.length-1) o_;refine⟨_,dD hy,?_,?_⟩
 ·have h1:=fE (at0:=at0) hy;have hc:(eJ (cA at0 l) (l.length-1) y).J6.J4=y.J6.J4:=by unfold eJ;split<;>rfl
  rw[hc,<-h1,xE];congr 1;omega
 ·have:=gx (at0:=at0) (l:=l) (k:=l.length-1) o_;dsimp only;omega
theorem GB {l:List Oi}{at0:Int}:at0<=xE at0 l/\xE at0 l<=at0+5*l.length:=gx (d7 _)
theorem pS {p:List Oj}{b:Oa}{image:Int}{n f:Nat}{at0:Int}:bT p b image (n+1) f at0=if uF b image f=true then(f,dv (aN p f b) at0)::bT p b image n (f+1) (xE at0 (aN p f b))else bT p b image n (f+1) at0:=rfl
abbrev Mx (p:List Oj)(b:Oa)(image:Int):={q:Nat×Int×List (Nat×List Om)//q.1<=(az p).length/\(0<=q.2.1/\q.2.1<=12500*q.1)/\q.2.2.length<=q.1/\q.2.2++bT p b image ((az p).length-q.1) q.1 q.2.1=bT p b image (az p).length 0 0}
def fm (L:List (Nat×List Om)):List (List Tr):=L.map fun x=>ae (x.1:Int)
def cG (L:List (Nat×List Om)):List (List Tr):=L.map fun x=>[.lst 8 (x.2.map Om.tr)]
theorem fX (p:List Oj)(b:Oa)(image:Int):∀(n f:Nat) (at0:Int),(bT p b image n f at0).length<=n
 | 0,_,_=>d7 _
 | n+1,f,at0=>by
  rw[bT];split
  ·have:=fX p b image n (f+1) (xE at0 (aN p f b));rw[c7];omega
  ·have:=fX p b image n (f+1) at0;omega
theorem fV {p:List Oj}{b:Oa}(hs:aE 1048576 (.lst 4 (p.map Oj.tr))){image:Int}:∀{n f:Nat} {at0:Int} {x:Nat×List Om},x∈bT p b image n f at0->x.2.length<=2500/\∀y∈x.2,y.I8.J3.length<=4
 | 0,_,_,_,h=>by cases h
 | n+1,f,at0,x,h=>by
  rw[bT]at h;split at h
  ·rcases d6.1 h with rfl|h
   ·obtain⟨c1,c2⟩:=ij (p:=p) (f:=(f:Int)) (b:=b) hs;refine⟨by rw[cP];exact c1,fun y hy=>?_⟩;obtain⟨j,hj⟩:=B7 hy;have Pg:=aw hj;rw[cP]at Pg;obtain⟨z,hz⟩:=ab Pg;rw[dD hz]at hj;injection hj with hj;subst hj;have:(eJ (cA at0 (aN p f b)) j z).J3=z.J3:=(by unfold eJ;split<;>rfl);rw[this];exact c2 z (b9 hz)
   ·exact fV hs h
  ·exact fV hs h
def aC (L:List (Nat×List Om)):List Om:=(L.map Prod.snd).flatten
theorem xd {L:List (Nat×List Om)}{k:Nat}{x:Nat×List Om}(h:L[k]?=some x):aC (L.take (k+1))=aC (L.take k)++x.2:=by rw[cn h];simp[aC]
theorem iW {L:List (Nat×List Om)}(h:∀x∈L,x.2.length<=2500):∀{k:Nat},k<=L.length->(aC (L.take k)).length<=2500*k
 | 0,_=>by simp[aC]
 | k+1,hk=>by
  obtain⟨x,hx⟩:=ab (l:=L) (k:=k) o_;have:=iW h (k:=k) o_;have:=h x (b9 hx);rw[xd hx,b8];omega
def DI (it:Oi):Prop:=0<=it.L9/\it.L9<=1200/\(it.M7=true->it.L9=0)
def Dp (a b:Gs):Prop:=(∀it∈a.I4,DI it)->∀it∈b.I4,DI it
theorem Dp.refl (s:Gs):Dp s s:=id
theorem Dp.trans {a b c:Gs}(h:Dp a b)(h':Dp b c):Dp a c:=fun x=>h' (h x)
theorem Dp.same {a b b':Gs}(h:Dp a b)(e:b'.I4=b.I4):Dp a b':=fun x=>by rw[e];exact h x
theorem dP {C:Cx}{s:Gs}{d code arg line:Int}{chain:List Int}(h:0<=d/\d<=1200):Dp s (aA C s d code arg line chain):=by
 intro hs it OU;simp only[aA,f0,o9]at OU;rcases OU with OU|rfl
 ·exact hs it OU
 ·unfold lS DI;dsimp only;by_cases hf:C.L0=true/\0<s.I4.length
  ·rw[d5 hf];exact⟨o_,o_,fun _=>rfl⟩
  ·rw[c8 hf];refine⟨h.1,h.2,fun e=>?_⟩;rw[c9,j7]at e;exact absurd e hf
theorem V82{p:Prop}(h:p:=by
 unfold bI;split
 ·split
  ·rename_i x hx;intro it OU;rcases v5 OU with OU|rfl
   ·exact h it OU
   ·exact h x (b9 hx)
  ·exact h
 ·exact h):p:=h
theorem tR {l:List Oi}(j v:Int)(h:∀it∈l,DI it):∀it∈bI l j v,DI it:=by exact V82
theorem zM (v:Int):∀(js:List Int) {l:List Oi},(∀it∈l,DI it)->∀it∈cB l v js,DI it
 | [],_,h=>h
 | j::js,_,h=>zM v js (tR j v h)
section
variable {C:Cx} {x:Sc} {ins:List Nat} {rep:Sc->List Nat->Nat->Nat->Int->Gs->Gs} {line:Nat}
theorem zG {y:Sc}{chain:List Int}{line:Int}:∀(n:Nat) (d:Int) (s:Gs),0<=d-n->d<=1200->Dp s (cf C y chain line n d s)
 | 0,d,s,_,_=>Dp.refl s
 | n+1,d,s,h1,h2=>by
  rw[cf];exact(dP o_).trans (zG n (d-1) _ o_ o_)
theorem Df {y:Sc}{chain:List Int}{line d:Int}(hd:0<=d/\d<=1199):∀(n i:Nat) (s:Gs),Dp s (cR C y chain line d n i s)
 | 0,i,s=>Dp.refl s
 | n+1,i,s=>by
  rw[cR];exact((dP o_).trans (dP o_)).trans (Df hd n (i+1) _)
def Fx (C:Cx)(rep:Sc->List Nat->Nat->Nat->Int->Gs->Gs)(x:Sc)(ins:List Nat):Prop:=
 ∀(line g:Nat) (d:Int) (s:Gs),bO C g->(argsN C.p g:Int)<=d->d<=1000+30*ins.length+21->cw C ins g s.I4.length=true->Dp s (rep x ins line g d s)
def Bn (C:Cx)(l:List Ou):Prop:=∀t∈l,t.I6=7->∃f,findN C.p 0 t.J0=some f/\(argsN C.p f:Int)=t.L3
theorem MR (hi:ins.length<=4)(N3:Fx C rep x ins){t:Ou}{d:Int}(h1:0<=d)(h2:d<=1000+30*ins.length+21)(hc:t.I6=7->t.L3<=d/\∃f,findN C.p 0 t.J0=some f/\(argsN C.p f:Int)=t.L3)(s:Gs):Dp s (iB C rep x ins line t d s):=by
 unfold iB;split
 ·exact dP o_
 split
 ·exact dP o_
 split
 ·rename_i h7;obtain⟨hn,f,hf,ha⟩:=hc h7;split
  ·rename_i g hg;rw[hf]at hg;injection hg with hg;subst hg;obtain⟨_,ln,k1,k2,_⟩:=eV hf;split
   ·rename_i hr;exact N3 line f d s ⟨ln,k1,k2⟩ o_ h2 hr
   ·exact dP o_
  ·exact Dp.refl s
 ·exact dP o_
mutual
theorem GW (hi:ins.length<=4)(N3:Fx C rep x ins):∀(e:Ex) (d:Int) (s:Gs),e.ok->Bn C e.toks->0<=d->d+e.toks.length<=1000+30*ins.length+21->Dp s (dx C rep x ins line e d s)
 | .node t es,d,s,h,hc,h1,h2=>by
  rw[Ex.toks,c7]at h2;rw[dx];have OH:=CC es;refine(EC hi N3 es d s h.2.2 (fun u hu=>hc u (by rw[Ex.toks];simp[hu])) h1 o_).trans (MR hi N3 o_ o_ (fun h7=>⟨?_,hc t (by rw[Ex.toks];simp) h7⟩) _);have Vn:=h.2.1;have ht:=h.1;have ha:nP t=t.L3:=by simp[nP,ht,h7]
  unfold fv at ht;rw[c8 (by omega:¬t.I6=0),d5 h7]at ht;simp only[c9,within_iff]at ht;unfold ar at Vn;rw[ha]at Vn;omega
theorem EC (hi:ins.length<=4)(N3:Fx C rep x ins):∀(es:List Ex) (d:Int) (s:Gs),jL es->Bn C (ao es)->0<=d->d+(ao es).length<=1000+30*ins.length+21->Dp s (cO C rep x ins line es d s)
 | [],d,s,_,_,_,_=>by rw[cO];exact Dp.refl s
 | a::es,d,s,h,hc,h1,h2=>by
  rw[ao,b8]at h2;rw[cO];have hp:=a.toks_pos;exact(GW hi N3 a d s h.1 (fun u hu=>hc u (by rw[ao];simp[hu])) h1 o_).trans (EC hi N3 es (d+1) _ h.2 (fun u hu=>hc u (by rw[ao];simp[hu])) o_ o_)
end
theorem JS (x:Sc){d:Int}(h:0<=d/\d<=1200)(s:Gs):Dp s (bA C x line d s):=by
 unfold bA;split
 ·exact dP h
 ·exact Dp.refl s
theorem Ng {g:Nat}{d:Int}(h1:(argsN C.p g:Int)<=d)(h2:d<=1199)(s:Gs):Dp s (dB C x line g d s):=by unfold dB;exact((show Dp s ⟨s.I4,max s.J1 (bK C x+(localsOf C.p (g:Int)).length),s.start⟩ from id).trans (zG _ d _ o_ o_)).trans (Df o_ _ _ _)
theorem EG (k:Nat)(last:Bool){d:Int}(h:0<=d/\d<=1200)(L:Ls):Dp L.g (aU C x k last d L).g:=by
 unfold aU;split
 ·split
  ·exact dP h
  ·exact dP h
 split
 ·exact Dp.refl _
 ·exact dP h
theorem JL (hC:CxOk C)(hi:ins.length<=4)(N3:Fx C rep x ins){k:Nat}{ln:Oj}(hk:C.p[k]?=some ln)(h0:ln.I6≠0)(OJ:ln.I6≠7->Bn C ln.J5){base:Int}(PK:0<=base)(OX:base<=1000+30*ins.length)(L:Ls):Dp L.g (dq C rep x ins base k ln L).g:=by
 unfold dq;split
 ·intro h;exact tR _ _ (dP (C:=C) o_ h)
 rename_i h4;split
 ·split
  ·exact Dp.trans (b:=aA C L.g base 0 0 k x.I5) (dP o_) (EG k true (d:=base+1) o_ {L with g:=aA C L.g base 0 0 k x.I5})
  split
  ·exact dP o_
  ·exact Dp.refl _
 ·rename_i h7;have Sz:=hC.line _ _ hk;have TZ:=rl (Sz.2.2.2.2 o_);have Py:=Sz.2.2.2.1;have OJ:=OJ h7;rw[TZ.2]at Py OJ;have tg:Dp L.g (dx C rep x ins k (exL ln.J5) base ⟨L.g.I4,L.g.J1,true⟩):=GW hi N3 (exL ln.J5) base ⟨L.g.I4,L.g.J1,true⟩ TZ.1 OJ PK o_;dsimp only;split
  ·exact tg.trans (dP o_)
  split
  ·exact tg.trans (dP o_)
  split
  ·exact tg.trans (EG k false (d:=base+1) o_ {L with g:=dx C rep x ins k (exL ln.J5) base ⟨L.g.I4,L.g.J1,true⟩,I9:=L.I9.set k L.g.I4.length})
  ·exact tg.trans (dP o_)
theorem Kb (k:Nat)(ln:Oj)(L:Ls):Dp L.g (bc C x k ln L).g:=by
 unfold bc;split
 ·exact fun h=>tR _ _ h
 ·exact Dp.refl _
theorem He (hC:CxOk C)(hi:ins.length<=4)(N3:Fx C rep x ins){base:Int}(PK:0<=base)(OX:base<=1000+30*ins.length):∀(n k:Nat) (L:Ls),(∀(i:Nat) (y:Oj),k<=i->i<k+n->C.p[i]?=some y->y.I6≠0/\(y.I6≠7->Bn C y.J5))->Dp L.g (gD C rep x ins base n k L).g
 | 0,k,L,_=>by rw[gD];exact Dp.refl _
 | n+1,k,L,h=>by
  rw[gD];split
  ·rename_i ln hk;obtain⟨a1,a2⟩:=h k ln (d7 _) o_ hk;exact((JL hC hi N3 hk a1 a2 PK OX L).trans (Kb k ln _)).trans (He hC hi N3 PK OX n (k+1) _ fun i y h1 h2=>h i y o_ o_)
  ·exact Dp.refl _
theorem zF (hC:CxOk C)(hx:ScOk C x ins)(hi:ins.length<=4)(N3:Fx C rep x ins){base:Int}(PK:0<=base)(OX:base<=1000+30*ins.length)(s:Gs):Dp s (aV C rep x ins base s).1:=by
 obtain⟨ln,h1,h2⟩:=hx.fn;obtain⟨e,h3,_,_,h4⟩:=hC.fn _ _ h1 h2;obtain⟨e',g3,g4,U8,g5,_⟩:=hx.endE hC;rw[h3]at g3;injection g3 with g3;subst g3;unfold aV;rw[g5];refine He hC hi N3 PK OX (e-x.f) (x.f+1) (cq C s) fun i y k1 k2 hy=>?_;by_cases PZ:i=e
 ·subst PZ;obtain⟨z,hz,h7⟩:=bG h3;rw[hy]at hz;injection hz with hz;subst hz;exact⟨o_,fun hn=>absurd h7 hn⟩
 ·obtain⟨b1,b2,_⟩:=h4 i y o_ o_ hy;exact⟨b1,fun _=>b2⟩
end
theorem GG {C:Cx}(hC:CxOk C):∀(lev:Nat) {x:Sc} {ins:List Nat},ScOk C x ins->Fx C (bf C lev) x ins
 | 0,x,ins,hx,line,g,d,s,_,_,_,_=>Dp.refl s
 | lev+1,x,ins,hx,line,g,d,s,hg,h1,h2,hr=>by
  obtain⟨r1,r2,r3,_⟩:=eA hr;have hin:=hC.inl;have hy:=jR hC hx line hg;have O3:(ins++[g]).length=ins.length+1:=s_;have t1:=Ng (x:=x) (line:=line) h1 o_ s;have t2:=JS (C:=C) (line:=line) x (d:=d-argsN C.p g) o_ (dB C x line g d s);have t3:=zF hC hy o_ (GG hC lev hy) (base:=d-argsN C.p g) o_ o_ (bA C x line (d-argsN C.p g) (dB C x line g d s));intro h;exact zM _ _ (((t1.trans t2).trans t3) h)
end Go.Proofs.P
namespace Go.Proofs.P
open Go.Sim Tryz
def jv (c:Int):Int×Int:=
 if c=0 then(-2147483648,2147483647)else if c=1\/c=2\/c=3\/c=4\/c=10\/c=11 then(-32768,32767)
 else if c=16 then(0,65535)else if c=12\/c=13\/c=14\/c=15 then(0,255)else(0,0)
def dT (c a:Int):Bool:=af c 0 17&&af a (jv c).1 (jv c).2
theorem yM (c:Int):(dc c=(4,true)/\jv c=(-2147483648,2147483647))\/(dc c=(2,true)/\jv c=(-32768,32767))\/(dc c=(2,false)/\jv c=(0,65535))\/(dc c=(1,false)/\jv c=(0,255))\/(dc c=(0,false)/\jv c=(0,0)):=by
 unfold dc jv;repeat' split
 all_goals simp
theorem Dy {c:Int}:(bp c==0)= !af c 0 17:=by
 have:=dX c;unfold bp
 cases af c 0 17 with|false=>rfl|true=>simp;omega
theorem DN (x:Ol):Sim.Spec prog 223 [.agg x.tr] (rB (dT x.J4 x.L6)):=by
 refine aI hΓ ay func223 rfl d_ rfl ?_;have ho:=ga x.J4;have hz:=Dy (c:=x.J4);have ha:=jH x.J4;have h0:dT x.J4 x.L6=(af x.J4 0 17&&af x.L6 (jv x.J4).1 (jv x.J4).2):=rfl;rw[h0]
 cases hw:af x.J4 0 17 with
 | false=>
  rw[hw]at hz;repeat' ((conv=>whnf);first|apply Wx|apply W6|apply oi|apply fi|intro h|refine cl ho ?_|exact Y8|refine e_ rfl ?_)
  all_goals try(exfalso;rw[hz]at h;cases h;done)
 | true=>
  rw[hw]at hz;rw[m7];rcases yM x.J4 with⟨e1,e2⟩|⟨e1,e2⟩|⟨e1,e2⟩|⟨e1,e2⟩|⟨e1,e2⟩
  all_goals(
   rw[IF,e1]at ha;rw[e2];have gb:=ak x.L6 (jv x.J4).1 (jv x.J4).2;rw[e2]at gb;repeat' ((conv=>whnf);first|apply Wx|apply W6|apply oi|apply fi|intro h|refine cl ho ?_|refine cl ha ?_|refine .inl (ci gb (ai rfl (ai KW (ai KW trivial))) ?_)|exact Y8|refine e_ rfl ?_)
   all_goals try(exfalso;rw[hz]at h;cases h;done))
theorem Eo (x:Ol):Sim.Spec prog 193 [.agg x.tr] (rB (dT x.J4 x.L6)):=by
 refine aI hΓ ay func193 rfl d_ rfl ?_;have hi:=cC x.J4 0 17;have ha:=jD x.J4;have h0:dT x.J4 x.L6=(af x.J4 0 17&&af x.L6 (jv x.J4).1 (jv x.J4).2):=rfl;rw[h0]
 cases hw:af x.J4 0 17 with
 | false=>
  rw[hw]at hi
  repeat' ((conv=>whnf);first|apply Wx|apply W6|apply oi|apply fi|intro h|refine cl ha ?_|refine cl hi ?_|exact Y8|refine e_ rfl ?_)
 | true=>
  rw[hw]at hi;rw[m7];rcases yM x.J4 with⟨e1,e2⟩|⟨e1,e2⟩|⟨e1,e2⟩|⟨e1,e2⟩|⟨e1,e2⟩
  all_goals(
   rw[IF,e1]at ha;rw[e2];have gb:=cC x.L6 (jv x.J4).1 (jv x.J4).2;rw[e2]at gb;repeat' ((conv=>whnf);first|apply Wx|apply W6|apply oi|apply fi|intro h|refine cl ha ?_|refine cl hi ?_|refine .inl (ci gb (ai rfl (ai KW (ai KW trivial))) ?_)|exact Y8|refine e_ rfl ?_)
   skip)
def lR (a:Int)(k:Nat):UInt8:=UInt8.ofNat ((a.fdiv (2^(8*k)))%256).toNat
def gu (a:Int)(n:Nat):List UInt8:=(List.range n).map (lR a)
def bk (x:Ol):List UInt8:=if dT x.J4 x.L6=true then UInt8.ofNat x.J4.toNat::gu x.L6 (dc x.J4).1.toNat else []
theorem vq (a:Int)(n:Nat):gu a (n+1)=gu a n++[lR a n]:=by simp[gu,G7]
theorem fH {x:Ol}(h:dT x.J4 x.L6=true):((bk x).length:Int)=bp x.J4:=by have OH:=dX x.J4;rw[bk,d5 h];unfold dT at h;rw[c9]at h;rw[bp,d5 h.1];simp[gu];omega
theorem pj (x:Ol):(bk x).length<=5:=by
 have OH:=dX x.J4;unfold bk;split
 ·simp[gu];omega
 ·simp
theorem Bg (a:Int){k:Nat}(h:k<=4):IntKind.u8.wrap (a.fdiv (2^min (IntKind.i64.wrap (8*(k:Int))).toNat IntKind.i64.bits))=((lR a k).toNat:Int):=by
 have h8:IntKind.i64.wrap (8*(k:Int))=((8*k:Nat):Int):=by rw[c6 _ o_];rfl
 rw[h8,e8,x6 (by show 8*k<=64;omega)];unfold lR;generalize a.fdiv (2^(8*k))=z;simp[IntKind.wrap,IntKind.bits,IntKind.signed];omega
theorem V2{p:Prop}(h:p:=by
 unfold bk
 cases hw:dT x.J4 x.L6 with
 | false=>
  rw[hw]at ho
  repeat' ((conv=>whnf);first|apply Wx|apply W6|apply oi|apply fi|intro h|refine cl ho ?_|exact Y8|refine e_ rfl ?_)
 | true=>
  rw[hw]at ho;rw[d5 rfl]
  have hc:0<=x.J4/\x.J4<=17:=by unfold dT at hw;rw[c9]at hw;exact within_iff.1 hw.1
  obtain⟨n,hn⟩:∃n:Nat,(dc x.J4).1=(n:Int):=⟨(dc x.J4).1.toNat,by have:=dX x.J4;omega⟩;have Pn:n<=4:=by have:=dX x.J4;omega
  rw[IF,hn]at ha;rw[hn,e8];generalize Xt:UInt8.ofNat x.J4.toNat=b0
  have hbc:IntKind.u8.wrap x.J4=(b0.toNat:Int):=by subst Xt;simp[IntKind.wrap,IntKind.bits,IntKind.signed];omega
  repeat' ((conv=>whnf);first|apply Wx|apply W6|apply oi|apply fi|intro h|refine cl ho ?_|refine cl ha ?_|exact Y8|refine e_ rfl ?_)
  conv=>whnf
  refine⟨{k:Nat//k<=n},fun k=>⟨[(1,.r (.c (.ptr (1,0,0) 0))),(3,tI .i64 (n:Int)),(5,.r (.c (.own (19,0,0)))),(6,tI .i64 (k.1:Int))],[((19,0,0),some (.arr true 1 ((b0::gu x.L6 k.1).map aZ))),((1,0,0),some (.box [.t (.int .i64 x.J4),.t (.int .i64 x.L6)]))],[19,1]⟩,fun k=>n-k.1,⟨0,o_⟩,?_,?_⟩
  ·repeat' ((conv=>whnf);first|apply Wx|apply W6|apply oi|apply fi|intro h|exact Y8|refine e_ rfl ?_)
   all_goals try exact⟨by rw[hbc];rfl⟩
  intro⟨k,hk⟩;dsimp only;have RH:((b0::gu x.L6 k).map aZ).length=k+1:=by simp[gu]
  by_cases N2:k<n
  ·have h8:IntKind.i64.wrap (8*(k:Int))=((8*k:Nat):Int):=(by rw[c6 _ o_];rfl);have hbe:=Bg x.L6 (k:=k) o_;repeat' ((conv=>whnf);first|apply Wx|apply W6|apply oi|apply fi|intro h|exact Y6|refine e_ rfl ?_)
   all_goals try exact⟨by rw[h8];omega⟩
   all_goals try exact⟨⟨by simp only[e7,c7,RH]<;>omega,by simp only[e7,c7,RH]<;>omega⟩⟩
   conv=>whnf
   refine⟨⟨k+1,o_⟩,?_,KD⟩;repeat' ((conv=>whnf);first|apply Wx|apply W6|apply oi|apply fi|intro h|exact Y9|refine e_ rfl ?_)
   all_goals try exact⟨by dsimp only;rw[vq,hbe,<-p0,ne];rfl⟩
  ·have PQ:k=n:=o_;subst PQ
   exact Z6):p:=h
theorem vJ (x:Ol):Sim.Spec prog 164 [.agg x.tr] (rS (bk x)):=by refine aI hΓ ay func164 rfl d_ rfl ?_;have ho:=DN x;have ha:=jH x.J4;exact V2
theorem vL (x:Ol):Sim.Spec prog 123 [.agg x.tr] (rS (bk x)):=by refine aI hΓ ay func123 rfl d_ rfl ?_;have ho:=Eo x;have ha:=jD x.J4;exact V2
theorem zS {c a:Int}(h:fC c a):dT c a=true:=by
 obtain⟨h0,h1,h2,h3,h4,h5,h6⟩:=h;unfold dT;rw[c9,within_iff,within_iff];refine⟨⟨h0,h1⟩,?_⟩;unfold jv;split
 ·have:=h2 aag;dsimp only;omega
 split
 ·have:=h3 o_;dsimp only;omega
 split
 ·have:=h4 aag;dsimp only;omega
 split
 ·have:=h5 o_;dsimp only;omega
 ·have:=h6 o_;dsimp only;omega
structure PlI (p:List Oj) (f j:Nat) (y:Om):Prop where
 head:j=0->(y.I8.J6.J4=13\/y.I8.J6.J4=15)/\∃g ln,(az p)[f]?=some g/\y.I8.J9=(g:Int)/\p[g]?=some ln/\ln.I6=0
 body:0<j->y.I8.J6.J4≠13/\∃(n:Nat) (ln:Oj),y.I8.J9=(n:Int)/\p[n]?=some ln/\ln.I6≠0
 op:dT y.I8.J6.J4 y.I8.J6.L6=true
theorem nr (p:List Oj)(b:Oa):alike (foldIf p b) p:=by
 unfold foldIf;split
 ·exact kn p
 ·rfl
theorem qX (st:List Int)(k:Nat)(x:Oi):(eJ st k x).J6.J4=x.J6.J4:=by unfold eJ;split<;>rfl
theorem xk (st:List Int)(k:Nat)(x:Oi):(eJ st k x).J9=x.J9:=by unfold eJ;split<;>rfl
theorem pm {p:List Oj}{b:Oa}{at0:Int}(hs:aE 1048576 (.lst 4 (p.map Oj.tr)))(h1:aj p=true)(h2:aS b=true){f:Nat}(h:f<(az p).length){j:Nat}{y:Om}(hy:(dv (aN p f b) at0)[j]?=some y):PlI p f j y:=by
 obtain⟨g,C,k1,k2,k3,k4,hi⟩:=sL (f:=(f:Int)) hs h1 h2 o_ o_;have N1:=(ij (p:=p) (f:=(f:Int)) (b:=b) hs).1;have Pg:=hi.jumps.2;have hj:j<(aN p (f:Int) b).length:=by have:=aw hy;rwa [cP]at this
 obtain⟨x,hx⟩:=ab hj;rw[dD hx]at hy;injection hy with hy;subst hy;rw[e8]at k1;obtain⟨VN,ln,TW,UQ⟩:=jW (b9 k1)
 generalize aN p (f:Int) b=I at *
 obtain⟨a,t,rfl,ha,ht⟩:=hi
 have N4:¬pl x=true->fC x.J6.J4 x.J6.L6:=fun hn=>by
  rw[gv]at hn
  cases j with
  | zero=>
   simp only[i8,Option.some.injEq]at hx;subst hx;have e3:=ha.2.2
   rcases ha.1 with e|e<;>(rw[e,e3];unfold fC;omega)
  | succ j=>exact(ht x (b9 (by simpa using hx))).op hn
 refine⟨fun e=>?_,fun e=>?_,?_⟩
 ·subst e;simp only[i8,Option.some.injEq]at hx;subst hx;dsimp only;rw[qX,xk];exact⟨ha.1,g,ln,k1,ha.2.1,TW,UQ⟩
 ·obtain⟨j,rfl⟩:∃i,j=i+1:=⟨j-1,o_⟩;have hg:=ht x (b9 (by simpa using hx));dsimp only;rw[qX,xk];refine⟨hg.enter,?_⟩;obtain⟨z,z0,z1,z2⟩:=hg.line;rw[k2]at z1;obtain⟨w,w1,w2,_⟩:=(nr p b).get z1;exact⟨x.J9.toNat,w,o_,w1,o_⟩
 ·dsimp only;by_cases hn:pl x=true
  ·rw[eJ,d5 hn];have h3:=Pg x (b9 hx) hn;rw[gv]at hn;have s1:=gx (at0:=at0) (l:=a::t) (k:=x.J6.L6.toNat) o_;have s2:=gx (at0:=at0) (l:=a::t) (k:=j+1) o_;refine zS ?_;dsimp only[wr];unfold fC;omega
  ·rw[eJ,c8 hn];exact zS (N4 hn)
def ax (l:List Om):List UInt8:=l.flatMap fun x=>bk x.I8.J6
theorem aW (a b:List Om):ax (a++b)=ax a++ax b:=by simp[ax]
theorem eM (x:Om):ax [x]=bk x.I8.J6:=by simp[ax]
theorem eL:∀(l:List Om),(ax l).length<=5*l.length
 | []=>by simp[ax]
 | x::l=>by
  have h1:=eL l;have h2:=pj x.I8.J6;rw[show x::l=[x]++l from rfl,aW,b8,b8,eM];simp only[c7,e7];omega
theorem lO {l:List Oi}{at0:Int}(h:∀y∈dv l at0,dT y.I8.J6.J4 y.I8.J6.L6=true):∀{k:Nat},k<=l.length->((ax ((dv l at0).take k)).length:Int)=atL (cA at0 l) k-at0
 | 0,_=>by rw[iy];simp[ax]
 | k+1,hk=>by
  obtain⟨x,hx⟩:=ab (l:=l) (k:=k) o_;have hg:=dD (at0:=at0) hx;have ih:=lO h (k:=k) o_;have he:=fH (h _ (b9 hg));dsimp only at he;rw[qX]at he;rw[cn hg,aW,b8,eM,fE hx];dsimp only;omega
def cp (p:List Oj)(f:Nat):List UInt8:=match(az p)[f]? with
 | some g=>(match p[g]? with|some y=>y.J0|none=>[])
 | none=>[]
def bZ (p:List Oj):Int->List (Nat×List Om)->List Ot
 | _,[]=>[]
 | at0,(f,l)::L=>⟨cp p f,at0,(ax l).length⟩::bZ p (at0+(ax l).length) L
theorem oX (p:List Oj):∀(L:List (Nat×List Om)) (at0:Int) (x:Nat×List Om),bZ p at0 (L++[x])=bZ p at0 L++[⟨cp p x.1,at0+(ax (aC L)).length,(ax x.2).length⟩]
 | [],at0,(f,l)=>by simp[bZ,aC,ax]
 |(g,m)::L,at0,x=>by
  rw[p0,bZ,oX p L,bZ,p0];congr 3;have:aC ((g,m)::L)=m++aC L:=by simp[aC]
  rw[this,aW,b8];simp only[Ot.mk.injEq,true_and,and_true];omega
theorem kP (p:List Oj):∀(L:List (Nat×List Om)) (at0:Int),(bZ p at0 L).length=L.length
 | [],_=>rfl
 |(f,l)::L,at0=>by rw[bZ,c7,kP p L,c7]
noncomputable def be (p:List Oj) (b:Oa) (image:Int):Og:=
 if aj p=true/\aS b=true/\af image 0 1=true then⟨ax (aC (bT p b image (az p).length 0 0)),bZ p 0 (bT p b image (az p).length 0 0)⟩else⟨[],[]⟩
theorem pg {p:List Oj}{b:Oa}{image:Int}:∀{n f:Nat} {at0:Int} {x:Nat×List Om},x∈bT p b image n f at0->f<=x.1/\x.1<f+n
 | 0,_,_,_,h=>by cases h
 | n+1,f,at0,x,h=>by
  rw[bT]at h;split at h
  ·rcases d6.1 h with rfl|h
   ·exact⟨d7 _,g_⟩
   ·have:=pg h;omega
  ·have:=pg h;omega
theorem lF {p:List Oj}{b:Oa}{image:Int}(hs:aE 1048576 (.lst 4 (p.map Oj.tr)))(h1:aj p=true)(h2:aS b=true):∀{n f:Nat} {at0:Int} {i:Nat} {x:Nat×List Om},f+n<=(az p).length->(bT p b image n f at0)[i]?=some x->
  x.2=dv (aN p (x.1:Int) b) (at0+((ax (aC ((bT p b image n f at0).take i))).length:Int))/\x.1<(az p).length/\0<x.2.length
 | 0,_,_,_,_,_,h=>by simp[bT]at h
 | n+1,f,at0,i,x,hf,h=>by
  rw[pS]at h⊢;split at h
  ·rename_i hin;rw[d5 hin]
   cases i with
   | zero=>
    simp only[i8,Option.some.injEq]at h;subst h;have:=(KA (f:=f) hs h1 h2 o_).pos
    refine⟨by simp[aC,ax],g_,by dsimp only;rw[cP];exact this⟩
   | succ i=>
    rw[m5]at h;obtain⟨k1,k2,k3⟩:=lF hs h1 h2 o_ h;refine⟨?_,k2,k3⟩
    have hl:=lO (l:=aN p (f:Int) b) (at0:=at0) (fun y hy=>by
     obtain⟨j,hj⟩:=y6.1 hy
     exact(pm hs h1 h2 o_ hj).op) (k:=(aN p (f:Int) b).length) (d7 _)
    rw[gt (by rw[cP];exact d7 _)]at hl;rw[k1,r8,show ∀(a:Nat×List Om) (l:List (Nat×List Om)),aC (a::l)=a.2++aC l from fun a l=>by simp[aC],aW,b8];congr 1;have he:xE at0 (aN p (f:Int) b)=atL (cA at0 (aN p (f:Int) b)) (aN p (f:Int) b).length:=rfl;dsimp only
    rw[he]at *
    omega
  ·rename_i hin;rw[c8 hin];exact lF hs h1 h2 o_ h
theorem kK {p:List Oj}{b:Oa}{image:Int}(hs:aE 1048576 (.lst 4 (p.map Oj.tr)))(h1:aj p=true)(h2:aS b=true){i:Nat}{x:Nat×List Om}(h:(bT p b image (az p).length 0 0)[i]?=some x){j:Nat}{y:Om}(hy:x.2[j]?=some y):
  PlI p x.1 j y/\y.J7=((ax (aC ((bT p b image (az p).length 0 0).take i))).length:Int)+(ax (x.2.take j)).length:=by
 obtain⟨k1,k2,_⟩:=lF hs h1 h2 o_ h
 generalize hS:((ax (aC ((bT p b image (az p).length 0 0).take i))).length:Int)=S at *
 rw[H3]at k1;rw[k1]at hy⊢;refine⟨pm hs h1 h2 k2 hy,?_⟩;have hj:j<(aN p (x.1:Int) b).length:=by have:=aw hy;rwa [cP]at this
 rw[lO (fun z hz=>by
  obtain⟨j,hj⟩:=y6.1 hz
  exact(pm hs h1 h2 k2 hj).op) o_]
 obtain⟨z,hz⟩:=ab hj;rw[dD hz]at hy;injection hy with hy;subst hy;dsimp only;omega
def sD (L:List (Nat×List Om))(i j:Nat):List Om:=match L[i]? with|some x=>x.2.take j|none=>[]
def iq (L:List (Nat×List Om))(i j:Nat):List UInt8:=ax (aC (L.take i))++ax (sD L i j)
def kR (p:List Oj)(L:List (Nat×List Om))(i j:Nat):List Ot:=bZ p 0 (L.take i)++(match L[i]? with
 | some x=>if j=0 then []else [⟨cp p x.1,((ax (aC (L.take i))).length:Int),((ax (x.2.take j)).length:Int)⟩]
 | none=>[])
theorem mQ (L:List (Nat×List Om))(x:Nat×List Om):aC (L++[x])=aC L++x.2:=by simp[aC]
theorem Gj {L:List (Nat×List Om)}{i:Nat}{x:Nat×List Om}(h:L[i]?=some x):iq L i x.2.length=iq L (i+1) 0:=by
 have:sD L (i+1) 0=[]:=by unfold sD;split<;>simp
 rw[iq,iq,this,cn h,mQ,aW,sD,h];simp[ax]
theorem FM {p:List Oj}{L:List (Nat×List Om)}{i:Nat}{x:Nat×List Om}(h:L[i]?=some x)(h0:0<x.2.length):kR p L i x.2.length=kR p L (i+1) 0:=by
 rw[kR,kR,cn h,oX,h];dsimp only;rw[c8 o_,gt (d7 _),H3]
 cases L[i+1]?<;>simp
theorem Jh {p:List Oj}{L:List (Nat×List Om)}:kR p L L.length 0=bZ p 0 L:=by rw[kR,gt (d7 _),e9 (d7 _)];simp
theorem IM {L:List (Nat×List Om)}:iq L L.length 0=ax (aC L):=by rw[iq,gt (d7 _),sD,e9 (d7 _)];simp[ax]
theorem Kk {L:List (Nat×List Om)}{i j:Nat}{x:Nat×List Om}{y:Om}(h:L[i]?=some x)(hy:x.2[j]?=some y):(aC L)[(aC (L.take i)).length+j]?=some y:=by
 have e:L=L.take i++x::L.drop (i+1):=by rw[<-aP h,z9]
 have e2:aC L=aC (L.take i)++(x.2++aC (L.drop (i+1))):=by
  conv=>lhs;rw[e]
  simp[aC]
 rw[e2,u3 o_,F0,p9 (aw hy),hy]
theorem Jx {p:List Oj}{L:List (Nat×List Om)}(Sb:∀{i:Nat} {x:Nat×List Om},L[i]?=some x->0<x.2.length){i j:Nat}{x:Nat×List Om}(hx:L[i]?=some x)(hj:j<x.2.length):∃q:Nat×Nat,q.1<=L.length/\(∀x,L[q.1]?=some x->q.2<x.2.length)/\(q.1=L.length->q.2=0)/\
  (aC (L.take q.1)).length+q.2=(aC (L.take i)).length+(j+1)/\iq L q.1 q.2=iq L i (j+1)/\kR p L q.1 q.2=kR p L i (j+1):=by
 have hi:=aw hx;by_cases hn:j+1<x.2.length
 ·exact⟨(i,j+1),g_,fun z hz=>by dsimp only at hz⊢;rw[hx]at hz;injection hz with hz;subst hz;exact hn,fun h=>by dsimp only at h;omega,rfl,rfl,rfl⟩
 ·have e:j+1=x.2.length:=o_;refine⟨(i+1,0),g_,fun z hz=>Sb hz,fun _=>rfl,?_,?_,?_⟩
  ·dsimp only;rw[cn hx,mQ,b8];omega
  ·dsimp only;rw[e,Gj hx]
  ·dsimp only;rw[e,FM hx (Sb hx)]
theorem wE {p:List Oj}{L:List (Nat×List Om)}{i:Nat}:kR p L i 0=bZ p 0 (L.take i):=by rw[kR];cases L[i]?<;>simp
theorem FZ {L:List (Nat×List Om)}{i:Nat}:iq L i 0=ax (aC (L.take i)):=by rw[iq,sD];cases L[i]?<;>simp[ax]
theorem Am {p:List Oj}{L:List (Nat×List Om)}{i j:Nat}{x:Nat×List Om}(hx:L[i]?=some x):kR p L i (j+1)=bZ p 0 (L.take i)++[⟨cp p x.1,((ax (aC (L.take i))).length:Int),((ax (x.2.take (j+1))).length:Int)⟩]:=by rw[kR,hx];rfl
theorem HW {L:List (Nat×List Om)}{i j:Nat}{x:Nat×List Om}{y:Om}(hx:L[i]?=some x)(hy:x.2[j]?=some y):iq L i (j+1)=iq L i j++bk y.I8.J6:=by rw[iq,iq,sD,sD,hx];dsimp only;rw[cn hy,aW,eM,j9]
theorem IB {L:List (Nat×List Om)}{i j:Nat}{x:Nat×List Om}(hx:L[i]?=some x):(iq L i j).length=(ax (aC (L.take i))).length+(ax (x.2.take j)).length:=by rw[iq,sD,hx,b8]
theorem nn {s:List UInt8}{p:Int}(hs:s.length<=1048576):(upL (aD s p)).length<=1048576:=by
 unfold aD
 match hd:dec s p with
 | none=>simp[upL]
 | some (a,b)=>
  have h1:=dW hd;dsimp only
  match hu:fh s p.toNat a b with
  | none=>simp[upL]
  | some y=>have h2:=lB hu;simp only[upL];omega
def bY:On->List Int->List On
 | p,a::b::c::l=>⟨p.J7+a,p.J9+b,c==1⟩::bY ⟨p.J7+a,p.J9+b,c==1⟩ l
 | _,_=>[]
def cL (s:List UInt8):Option (List On):=match aD s 0 with
 | none=>none
 | some x=>if x.1.length%3=0/\aR (bY iA x.1)=s then some (bY iA x.1)else none
def oL {α:Type}(o:Option (List α)):List α:=match o with|some l=>l|none=>[]
theorem Ik (n:Int):-549755813888<=signed n/\signed n<=549755813888:=by
 unfold signed;split
 ·rename_i h;have:=within_iff.1 h;split<;>omega
 ·omega
theorem xC {s:List UInt8}{p:Nat}:∀{n z:Nat} {y:List Int×Nat},fh s p n z=some y->∀x∈y.1,-549755813888<=x/\x<=549755813888
 | 0,z,y,h=>by
  rw[fh]at h;injection h with h;subst h;intro x hx
  cases hx
 | n+1,z,y,h=>by
  rw[fh]at h;split at h
  ·cases h
  ·rw[m9]at h;obtain⟨y',h',rfl⟩:=h;have:=xC h';intro x hx;rcases d6.1 hx with rfl|hx
   ·exact Ik _
   ·exact this x hx
theorem As {s:List UInt8}{p:Int}{ns:List Int}{z:Nat}(h:aD s p=some (ns,z)):∀x∈ns,-549755813888<=x/\x<=549755813888:=by
 unfold aD at h;split at h
 ·cases h
 ·exact xC h
theorem DH:∀{l:List Int} {bs:List UInt8},cT l=some bs->∀n∈l,mR n
 | [],_,_,n,hn=>by cases hn
 | m::l,bs,h,n,hn=>by
  rw[cT]at h;split at h
  ·cases h
  ·rename_i VY;rw[m9]at h;obtain⟨b',h',_⟩:=h;rcases d6.1 hn with rfl|hn
   ·unfold bJ at VY;split at VY
    ·rename_i hw;exact within_iff.1 hw
    ·omega
   ·exact DH h' n hn
theorem qQ:aD [] 0=none:=d_
theorem Ax {s:List UInt8}{l ns:List Int}{z:Nat}(hl:l.length<=1099511627775)(he:bt l=s)(hu:aD s 0=some (ns,z)):z=s.length/\ns=l:=by
 match hp:cT l with
 | none=>
  have:bt l=[]:=by rw[bt,hp]
  rw[<-he,this,qQ]at hu
  cases hu
 | some bs=>have hin:=DH hp;have h:=mw (s:=s) (rest:=[]) (p:=0) hin hl (by rw[v6,i9,he]);rw[show((0:Nat):Int)=0 from rfl,hu]at h;injection h with h;injection h with h1 h2;exact⟨by rw[h2,he],h1⟩
theorem Bl (p:On):bY p []=[]:=by simp[bY]
theorem mJ:∀(p:On) (l:List Int),3*(bY p l).length<=l.length
 | p,a::b::c::l=>by rw[bY];have:=mJ ⟨p.J7+a,p.J9+b,c==1⟩ l;simp only[c7];omega
 | _,[]=>by simp[bY]
 | _,[_]=>by simp[bY]
 | _,[_,_]=>by simp[bY]
theorem HO {s:List UInt8}{R:List On}{ns:List Int}{z:Nat}(hR:R.length<=1048576)(he:aR R=s)(hu:aD s 0=some (ns,z)):z=s.length:=by
 unfold aR at he;split at he
 ·exact(Ax (by rw[mS];omega) he hu).1
 ·rw[<-he,qQ]at hu
  cases hu
abbrev Nz (ns:List Int):={q:Nat×On×List On//3*q.2.2.length=q.1/\q.1<=ns.length/\(-(549755813888*(q.1:Int))<=q.2.1.J7/\q.2.1.J7<=549755813888*(q.1:Int)/\-(549755813888*(q.1:Int))<=q.2.1.J9/\q.2.1.J9<=549755813888*(q.1:Int))/\q.2.2++bY q.2.1 (ns.drop q.1)=bY iA ns}
theorem V104{p:Prop}(h:p:=by
 rw[hd]
 repeat' ((conv=>whnf);first|refine Or.inl ?_|apply oi|apply fi|intro h|refine ci Qg (ai rfl (ai rfl trivial)) ?_|exact Y1|refine e_ rfl ?_)):p:=h
theorem V70{p:Prop}(h:p:=by
 rw[d5 he];rw[he]at Sy;repeat' ((conv=>whnf);first|refine Or.inl ?_|apply oi|apply fi|intro h|refine ci Sy (ai rfl trivial) ?_|exact Y3|refine e_ rfl ?_)
 all_goals(exfalso;simp at h;done)):p:=h
theorem V76{p:Prop}(h:p:=by
 rw[c8 he];repeat' ((conv=>whnf);first|refine Or.inl ?_|apply oi|apply fi|intro h|refine ci Sy (ai rfl trivial) ?_|exact Y3|refine e_ rfl ?_)
 all_goals(exfalso;simp at h;exact he h)):p:=h
theorem lE (s:List UInt8)(hs:s.length<=1048576):Sim.Spec prog 117 [tvS s] (.tup [.c (.arr 3 ((oL (cL s)).map On.tr)),.c (.t (.bool (cL s).isSome))]):=by
 refine ag hΓ ay func117 rfl d_ rfl ?_;have Qg:=fj s 0 hs o_;have P8:=nn (p:=0) hs
 match hu:aD s 0 with
 | none=>
  rw[hu]at Qg;dsimp only[BQ,upL,upZ,Option.isSome]at Qg;have hd:cL s=none:=by rw[cL,hu]
  exact V104
 | some (ns,z)=>
  rw[hu]at Qg P8;dsimp only[BQ,upL,upZ,Option.isSome]at Qg P8;have N1:(ns.map ae).length=ns.length:=s_;by_cases h3:ns.length%3=0
  ·have Uk:=As hu;have SP:((ns.map ae).length:Int).tmod 3=0:=(by rw[N1,w5 o_];omega);have ZV:=mJ iA ns;have Sy:=lK (bY iA ns) o_
   have hd:cL s=if aR (bY iA ns)=s then some (bY iA ns)else none:=by
    rw[cL,hu];by_cases he:aR (bY iA ns)=s
    ·rw[d5 he];exact d5 ⟨h3,he⟩
    ·rw[c8 he];exact c8 fun h=>he h.2
   have hz:=fun he=>HO (R:=bY iA ns) o_ he hu;rw[hd];repeat' ((conv=>whnf);first|refine Or.inl ?_|apply oi|apply fi|intro h|refine ci Qg (ai rfl (ai rfl trivial)) ?_|exact Y1|refine e_ rfl ?_)
   all_goals try(exfalso;rw[SP]at h;simp at h;done)
   all_goals try(
    have Ow:aR (bY iA ns)≠s:=fun he=>by
     have:=hz he;rw[this]at h;simp at h
    rw[c8 Ow]
    exact⟨rfl⟩)
   conv=>whnf
   refine⟨Nz ns,fun q=>⟨[(0,tS s),(4,.r (.c (.own (13,0,0)))),(7,.r (.c (.own (25,0,0)))),(8,.r (.c (.ptr (8,0,0) 0))),(9,tI .i64 (q.1.1:Int))],[((13,0,0),some (.arr true 1 (ns.map ae))),((25,0,0),some (.arr true 3 (q.1.2.2.map On.tr))),((8,0,0),some (.box [.t (.int .i64 q.1.2.1.J7),.t (.int .i64 q.1.2.1.J9),.t (.bool q.1.2.1.J8)]))],[13,25,8]⟩,fun q=>ns.length-q.1.1,⟨(0,iA,[]),s_,s_,by simp[iA],s_⟩,?_,?_⟩
   ·exact Z1
   intro⟨⟨k,p,acc⟩,OC,hk,hb,hr⟩;dsimp only at OC hk hb hr⊢;by_cases N2:k<ns.length
   ·obtain⟨a,ha⟩:=ab N2;obtain⟨b,OX⟩:=ab (show k+1<ns.length by omega);obtain⟨c,hc⟩:=ab (show k+2<ns.length by omega);have ia:=Uk a (b9 ha);have ib:=Uk b (b9 OX);rw[aP ha,aP OX,aP hc,bY]at hr;have w1:IntKind.i64.wrap ((k:Int)+1)=((k+1:Nat):Int):=(by rw[c6 _ o_];rfl);have w2:IntKind.i64.wrap ((k:Int)+2)=((k+2:Nat):Int):=(by rw[c6 _ o_];rfl);have w3:IntKind.i64.wrap (p.J7+a)=p.J7+a:=c6 _ o_;have w4:IntKind.i64.wrap (p.J9+b)=p.J9+b:=c6 _ o_;repeat' ((conv=>whnf);first|refine Or.inl ?_|apply oi|apply fi|intro h|refine⟨k+1,w1,?_⟩|refine⟨k+2,w2,?_⟩|refine⟨ae a,aa ha,?_⟩|refine⟨ae b,aa OX,?_⟩|refine⟨ae c,aa hc,?_⟩|exact Y3|refine e_ rfl ?_)
    all_goals try exact⟨by rw[N1];omega⟩
    all_goals try exact Q11
    all_goals(
     conv=>whnf
     refine⟨⟨(k+3,⟨p.J7+a,p.J9+b,c==1⟩,acc++[⟨p.J7+a,p.J9+b,c==1⟩]),by simp;omega,g_,⟨g_,g_,g_,g_⟩,by rw[<-hr];simp⟩,?_,KD⟩)
    repeat' ((conv=>whnf);first|refine Or.inl ?_|apply oi|apply fi|intro h|exact Y1|refine e_ rfl ?_)
    all_goals first
     |(refine⟨?_⟩;dsimp only;rw[w3,w4,ne];rfl)
     |(refine⟨?_⟩;dsimp only;rw[w3];done)
     |(refine⟨?_⟩;dsimp only;rw[w4];done)
     |(refine⟨?_⟩;dsimp only;rw[c6 _ o_];rfl)
   ·have OK:ns.length<=k:=o_;rw[d8 OK,Bl,i9]at hr
    ·subst hr;by_cases he:aR (bY iA ns)=s
     ·exact V70
     ·exact V76
  ·have hd:cL s=none:=(by rw[cL,hu];exact c8 fun h=>h3 h.1);rw[hd];have SP:((ns.map ae).length:Int).tmod 3≠0:=(by rw[N1,w5 o_];omega);repeat' ((conv=>whnf);first|refine Or.inl ?_|apply oi|apply fi|intro h|refine ci Qg (ai rfl (ai rfl trivial)) ?_|exact Y1|refine e_ rfl ?_)
   all_goals(exfalso;simp at h;exact SP (by rw[N1];exact h))
def bz:Int->List Int->List Oo
 | p,a::b::c::d::l=>⟨p+a,p+a+b,c==1,d⟩::bz (p+a+b) l
 | _,_=>[]
def ce (s:List UInt8):Option (List Oo):=match aD s 0 with
 | none=>none
 | some x=>if x.1.length%4=0/\aK (bz 0 x.1)=s then some (bz 0 x.1)else none
theorem jQ:∀(l:List Oo) (p:Int),(bh p l).length=4*l.length
 | [],_=>rfl
 | r::l,_=>by rw[bh];simp[jQ l r.L5];omega
theorem qh (p:Int):bz p []=[]:=by simp[bz]
theorem lX:∀(p:Int) (l:List Int),4*(bz p l).length<=l.length
 | p,a::b::c::d::l=>by rw[bz];have:=lX (p+a+b) l;simp only[c7];omega
 | _,[]=>by simp[bz]
 | _,[_]=>by simp[bz]
 | _,[_,_]=>by simp[bz]
 | _,[_,_,_]=>by simp[bz]
theorem Ff {s:List UInt8}{R:List Oo}{ns:List Int}{z:Nat}(hR:R.length<=1048576)(he:aK R=s)(hu:aD s 0=some (ns,z)):z=s.length:=by
 unfold aK at he;split at he
 ·exact(Ax (by rw[jQ];omega) he hu).1
 ·rw[<-he,qQ]at hu
  cases hu
abbrev MZ (ns:List Int):={q:Nat×Int×List Oo//4*q.2.2.length=q.1/\q.1<=ns.length/\(-(549755813888*(q.1:Int))<=q.2.1/\q.2.1<=549755813888*(q.1:Int))/\q.2.2++bz q.2.1 (ns.drop q.1)=bz 0 ns}
theorem kW (s:List UInt8)(hs:s.length<=1048576):Sim.Spec prog 116 [tvS s] (.tup [.c (.arr 4 ((oL (ce s)).map Oo.tr)),.c (.t (.bool (ce s).isSome))]):=by
 refine ag hΓ ay func116 rfl d_ rfl ?_;have Qg:=fj s 0 hs o_;have P8:=nn (p:=0) hs
 match hu:aD s 0 with
 | none=>
  rw[hu]at Qg;dsimp only[BQ,upL,upZ,Option.isSome]at Qg;have hd:ce s=none:=by rw[ce,hu]
  exact V104
 | some (ns,z)=>
  rw[hu]at Qg P8;dsimp only[BQ,upL,upZ,Option.isSome]at Qg P8;have N1:(ns.map ae).length=ns.length:=s_;by_cases h3:ns.length%4=0
  ·have Uk:=As hu;have SP:((ns.map ae).length:Int).tmod 4=0:=(by rw[N1,w5 o_];omega);have ZV:=lX 0 ns;have Sy:=kZ (bz 0 ns) o_
   have hd:ce s=if aK (bz 0 ns)=s then some (bz 0 ns)else none:=by
    rw[ce,hu];by_cases he:aK (bz 0 ns)=s
    ·rw[d5 he];exact d5 ⟨h3,he⟩
    ·rw[c8 he];exact c8 fun h=>he h.2
   have hz:=fun he=>Ff (R:=bz 0 ns) o_ he hu;rw[hd];repeat' ((conv=>whnf);first|refine Or.inl ?_|apply oi|apply fi|intro h|refine ci Qg (ai rfl (ai rfl trivial)) ?_|exact Y1|refine e_ rfl ?_)
   all_goals try(exfalso;rw[SP]at h;simp at h;done)
   all_goals try(
    have Ow:aK (bz 0 ns)≠s:=fun he=>by
     have:=hz he;rw[this]at h;simp at h
    rw[c8 Ow]
    exact⟨rfl⟩)
   conv=>whnf
   refine⟨MZ ns,fun q=>⟨[(0,tS s),(4,.r (.c (.own (13,0,0)))),(7,.r (.c (.own (25,0,0)))),(8,tI .i64 q.1.2.1),(9,tI .i64 (q.1.1:Int))],[((13,0,0),some (.arr true 1 (ns.map ae))),((25,0,0),some (.arr true 4 (q.1.2.2.map Oo.tr)))],[13,25]⟩,fun q=>ns.length-q.1.1,⟨(0,0,[]),s_,s_,s_,s_⟩,?_,?_⟩
   ·exact Z1
   intro⟨⟨k,p,acc⟩,OC,hk,hb,hr⟩;dsimp only at OC hk hb hr⊢;by_cases N2:k<ns.length
   ·obtain⟨a,ha⟩:=ab N2;obtain⟨b,OX⟩:=ab (show k+1<ns.length by omega);obtain⟨c,hc⟩:=ab (show k+2<ns.length by omega);obtain⟨d,UJ⟩:=ab (show k+3<ns.length by omega);have ia:=Uk a (b9 ha);have ib:=Uk b (b9 OX);rw[aP ha,aP OX,aP hc,aP UJ,bz]at hr;have w1:IntKind.i64.wrap ((k:Int)+1)=((k+1:Nat):Int):=(by rw[c6 _ o_];rfl);have w2:IntKind.i64.wrap ((k:Int)+2)=((k+2:Nat):Int):=(by rw[c6 _ o_];rfl);have w0:IntKind.i64.wrap ((k:Int)+3)=((k+3:Nat):Int):=(by rw[c6 _ o_];rfl);have w3:IntKind.i64.wrap (p+a)=p+a:=c6 _ o_;have w4:IntKind.i64.wrap (p+a+b)=p+a+b:=c6 _ o_;repeat' ((conv=>whnf);first|refine Or.inl ?_|apply oi|apply fi|intro h|refine⟨k+1,w1,?_⟩|refine⟨k+2,w2,?_⟩|refine⟨k+3,w0,?_⟩|refine⟨ae a,aa ha,?_⟩|refine⟨ae b,aa OX,?_⟩|refine⟨ae c,aa hc,?_⟩|refine⟨ae d,aa UJ,?_⟩|exact Y3|refine e_ rfl ?_)
    all_goals try exact⟨by rw[N1];omega⟩
    all_goals try exact Q11
    all_goals(
     conv=>whnf
     refine⟨⟨(k+4,p+a+b,acc++[⟨p+a,p+a+b,c==1,d⟩]),by simp;omega,g_,⟨g_,g_⟩,by rw[<-hr];simp⟩,?_,KD⟩)
    repeat' ((conv=>whnf);first|refine Or.inl ?_|apply oi|apply fi|intro h|exact Y1|refine e_ rfl ?_)
    all_goals first
     |(refine⟨?_⟩;dsimp only;rw[w3,w4,ne];rfl)
     |(refine⟨?_⟩;dsimp only;rw[w3,w4];done)
     |(refine⟨?_⟩;dsimp only;rw[w3];done)
     |(refine⟨?_⟩;dsimp only;rw[w4];done)
     |(refine⟨?_⟩;dsimp only;rw[c6 _ o_];rfl)
   ·have OK:ns.length<=k:=o_;rw[d8 OK,qh,i9]at hr
    ·subst hr;by_cases he:aK (bz 0 ns)=s
     ·exact V70
     ·exact V76
  ·have hd:ce s=none:=(by rw[ce,hu];exact c8 fun h=>h3 h.1);rw[hd];have SP:((ns.map ae).length:Int).tmod 4≠0:=(by rw[N1,w5 o_];omega);repeat' ((conv=>whnf);first|refine Or.inl ?_|apply oi|apply fi|intro h|refine ci Qg (ai rfl (ai rfl trivial)) ?_|exact Y1|refine e_ rfl ?_)
   all_goals(exfalso;simp at h;exact SP (by rw[N1];exact h))
theorem po {s:List UInt8}(hs:s.length<=1048576):(oL (cL s)).length<=1048576:=by
 have P8:=nn (p:=0) hs;unfold cL
 match hu:aD s 0 with
 | none=>simp[oL]
 | some (ns,z)=>rw[hu]at P8;have h1:=mJ iA ns;dsimp only[upL]at P8⊢;split<;>simp only[oL,e7]<;>omega
theorem nJ {s:List UInt8}(hs:s.length<=1048576):(oL (ce s)).length<=1048576:=by
 have P8:=nn (p:=0) hs;unfold ce
 match hu:aD s 0 with
 | none=>simp[oL]
 | some (ns,z)=>rw[hu]at P8;have h1:=lX 0 ns;dsimp only[upL]at P8⊢;split<;>simp only[oL,e7]<;>omega
structure PsOk (P:List Om):Prop where
 at0:∀x:Om,P[0]?=some x->x.J7=0
 next:∀(k:Nat) (x y:Om),P[k]?=some x->P[k+1]?=some y->y.J7=x.J7+bp x.I8.J6.J4
 rng:∀(k:Nat) (x:Om),P[k]?=some x->0<=x.J7/\x.J7<=100000/\1<=bp x.I8.J6.J4/\bp x.I8.J6.J4<=5/\0<=x.I8.J9/\x.I8.J9<=59
 len:P.length<=15000
theorem jo:∀{L:List (Nat×List Om)} {k:Nat} {x:Om},(aC L)[k]?=some x->∃i z j,L[i]?=some z/\z.2[j]?=some x/\k=(aC (L.take i)).length+j
 | [],k,x,h=>by simp[aC]at h
 | a::L,k,x,h=>by
  have e:aC (a::L)=a.2++aC L:=by simp[aC]
  rw[e,G4]at h;split at h
  ·exact⟨0,a,k,rfl,h,by simp[aC]⟩
  ·obtain⟨i,z,j,h1,h2,h3⟩:=jo h;refine⟨i+1,z,j,by simpa using h1,h2,?_⟩;rw[r8,show aC (a::L.take i)=a.2++aC (L.take i) by simp[aC],b8];omega
theorem xK {c a:Int}(h:dT c a=true):1<=bp c/\bp c<=5:=by unfold dT at h;rw[c9]at h;have:=dX c;rw[bp,d5 h.1];omega
theorem V96{p:Prop}(h:p:=by
 rcases z4 j with rfl|hj
 ·obtain⟨_,g,ln,k1,k2,k3,_⟩:=hp.head rfl;have:=aw k3;omega
 ·obtain⟨_,g,ln,k2,k3,_⟩:=hp.body hj;have:=aw k3
  omega):p:=h
theorem lg {p:List Oj}{b:Oa}{image:Int}(hs:aE 1048576 (.lst 4 (p.map Oj.tr))):PsOk (aH p b image):=by
 by_cases hc:aj p=true/\aS b=true/\af image 0 1=true
 ·rw[aH,d5 hc];obtain⟨h1,h2,_⟩:=hc;show PsOk (aC (bT p b image (az p).length 0 0));obtain⟨h6,PW⟩:=eH h1;have PO:=fX p b image (az p).length 0 0;have QJ:=fun x (hx:x∈bT p b image (az p).length 0 0)=>(fV hs hx).1;have OC:=iW QJ (d7 _);rw[gt (d7 _)]at OC;have PT:=A2 2500 (show(bT p b image (az p).length 0 0).length<=6 by omega)
  have key:∀(k:Nat) (x:Om),(aC (bT p b image (az p).length 0 0))[k]?=some x->x.J7=((ax ((aC (bT p b image (az p).length 0 0)).take k)).length:Int)/\dT x.I8.J6.J4 x.I8.J6.L6=true/\0<=x.I8.J9/\x.I8.J9<=59:=by
   intro k x hx;obtain⟨i,z,j,g1,g2,rfl⟩:=jo hx;obtain⟨hp,ho⟩:=kK hs h1 h2 g1 g2
   have ht:(aC (bT p b image (az p).length 0 0)).take ((aC ((bT p b image (az p).length 0 0).take i)).length+j)=aC ((bT p b image (az p).length 0 0).take i)++z.2.take j:=by
    generalize bT p b image (az p).length 0 0=L at *
    have e:L=L.take i++z::L.drop (i+1):=by rw[<-aP g1,z9]
    have e2:aC L=aC (L.take i)++(z.2++aC (L.drop (i+1))):=by
     conv=>lhs;rw[e]
     simp[aC]
    rw[e2,I0,F0,gt o_,x8 (Nat.le_of_lt (aw g2))]
   refine⟨by rw[ht,aW,b8];omega,hp.op,?_⟩;exact V96
  generalize aC (bT p b image (az p).length 0 0)=P at *
  refine⟨fun x hx=>?_,fun k x y hx hy=>?_,fun k x hx=>?_,o_⟩
  ·have:=(key 0 x hx).1;simpa [ax]using this
  ·obtain⟨a1,a2,_⟩:=key k x hx;obtain⟨b1,_⟩:=key (k+1) y hy;have:=fH a2;rw[b1,a1,cn hx,aW,b8,eM];omega
  ·obtain⟨a1,a2,a3,a4⟩:=key k x hx;have hz:=xK a2;have OJ:=eL (P.take k);have OZ:=aw hx;have:(P.take k).length=k:=(by rw[j5];omega);omega
 ·rw[aH,c8 hc];exact⟨fun x h=>by simp at h,fun k x y h=>by simp at h,fun k x h=>by simp at h,s_⟩
theorem PsOk.lt {P:List Om}(h:PsOk P):∀{n k:Nat} {x y:Om},P[k]?=some x->P[k+n+1]?=some y->x.J7+bp x.I8.J6.J4<=y.J7
 | 0,k,x,y,hx,hy=>by have:=h.next k x y hx hy;omega
 | n+1,k,x,y,hx,hy=>by
  obtain⟨z,hz⟩:=ab (l:=P) (k:=k+n+1) (by have:=aw hy;omega);have h1:=h.lt hx hz;have h2:=h.next (k+n+1) z y hz (by rw[show k+n+1+1=k+(n+1)+1 by omega];exact hy);have:=(h.rng _ z hz).2.2.1;omega
def iH (P:List Om)(k:Nat):List On:=cJ none (P.take k)
theorem kx:∀(A B:List Om) (p:Option Om),cJ p (A++B)=cJ p A++cJ (match A.getLast? with|some x=>some x|none=>p) B
 | [],B,p=>rfl
 | x::A,B,p=>by
  rw[p0,cJ,kx A B,cJ,j9];congr 2
  cases A with|nil=>rfl|cons y A=>simp[List.getLast?_cons]
theorem yK {P:List Om}{k:Nat}(hk:k<=P.length):(match(P.take k).getLast? with|some x=>some x|none=>none)=ic P k:=by
 rw[ic]
 cases k with
 | zero=>simp
 | succ k=>obtain⟨x,hx⟩:=ab (l:=P) (k:=k) o_;rw[cn hx,c8 o_,E7,hx];simp
theorem jf {P:List Om}{k:Nat}{x:Om}(hx:P[k]?=some x):iH P (k+1)=iH P k++(if gZ (ic P k) x then []else [oA x]):=by have:=yK (P:=P) (k:=k) (by have:=aw hx;omega);rw[iH,cn hx,kx,this,iH,cJ,cJ,i9]
theorem FD (P:List Om):iH P P.length=fR P:=by rw[iH,gt (d7 _)];rfl
theorem BF {P:List Om}{k:Nat}(hk:k<=P.length):fR P=iH P k++cJ (ic P k) (P.drop k):=by rw[fR,iH,<-yK hk,<-kx,z9]
structure LastR (P:List Om) (k:Nat) (x:Om) (r:On):Prop where
 line:r.J9=x.I8.J9
 off:r.J7<=x.J7
 st:(r.J7==x.J7&&r.J8)=x.I8.J8
theorem vd {P:List Om}(h:PsOk P):∀{k:Nat} {x:Om},P[k]?=some x->∃A r,iH P (k+1)=A++[r]/\LastR P k x r/\A.length+1<=k+1
 | 0,x,hx=>by
  rw[jf hx]
  exact⟨[],oA x,by simp[iH,ic,gZ,cJ],⟨rfl,v7 _,by simp[oA]⟩,s_⟩
 | k+1,x,hx=>by
  obtain⟨y,hy⟩:=ab (l:=P) (k:=k) (by have:=aw hx;omega);obtain⟨A,r,h1,h2,h3⟩:=vd h hy;rw[jf hx,h1];have hp:ic P (k+1)=some y:=by rw[ic,c8 o_];exact hy
  rw[hp]
  cases Qp:gZ (some y) x with
  | false=>exact⟨A++[r],oA x,s_,⟨rfl,v7 _,by simp[oA]⟩,by simp;omega⟩
  | true=>refine⟨A,r,s_,?_,o_⟩;simp only[gZ,c9,u9,x7]at Qp;have hn:=h.next k y x hy hx;have:=(h.rng _ y hy).2.2.1;have ho:=h2.off;refine⟨h2.line.trans Qp.2.2,o_,?_⟩;rw[Qp.1];have:(r.J7==x.J7)=false:=(by simp;omega);rw[this,q9]
theorem wL {P:List Om}(h:PsOk P){lo:Int}:∀{n k:Nat} {p:Option Om},P.length-k<=n->(∀x,P[k]?=some x->lo<=x.J7)->∀r∈cJ p (P.drop k),lo<=r.J7
 | 0,k,p,hn,_,r,hr=>by
  rw[d8 o_]at hr
  cases hr
 | n+1,k,p,hn,h0,r,hr=>by
  rcases l9 k P.length with hk|hk
  ·obtain⟨x,hx⟩:=ab hk;rw[aP hx,cJ,f0]at hr;rcases hr with hr|hr
   ·split at hr
    ·cases hr
    ·rw[o9]at hr;subst hr;exact h0 x hx
   ·refine wL h (n:=n) (k:=k+1) o_ (fun y hy=>?_) r hr;have:=h.next k x y hx hy;have:=(h.rng _ x hx).2.2.1;have:=h0 x hx;omega
  ·rw[d8 hk]at hr
   cases hr
theorem pB {P:List Om}(h:PsOk P):∀{k:Nat},k<=P.length->∀r∈iH P k,fG r/\∀x,P[k]?=some x->r.J7<x.J7
 | 0,_,r,hr=>by simp[iH,cJ]at hr
 | k+1,hk,r,hr=>by
  obtain⟨y,hy⟩:=ab (l:=P) (k:=k) o_;have T5:=h.rng _ y hy;rw[jf hy,f0]at hr;rcases hr with hr|hr
  ·obtain⟨h1,h2⟩:=pB h o_ r hr;refine⟨h1,fun x hx=>?_⟩;have:=h2 y hy;have:=h.next k y x hy hx;omega
  ·split at hr
   ·cases hr
   ·rw[o9]at hr;subst hr;refine⟨⟨T5.1,by show y.J7<=1000000;omega,T5.2.2.2.2.1,T5.2.2.2.2.2⟩,fun x hx=>?_⟩;have:=h.next k y x hy hx;show y.J7<x.J7;omega
theorem rF:∀{l:List On} {p:Option Int} {r:On},fg p l=true->fG r->(∀q,p=some q->q<r.J7)->(∀y∈l,y.J7<r.J7)->fg p (l++[r])=true
 | [],p,r,_,hn,hp,_=>by
  rw[p8,fg,fg,Bool.and_true]
  cases p with|none=>simp only[gU,within_iff.2 ⟨hn.1,hn.2.1⟩,within_iff.2 ⟨hn.2.2.1,hn.2.2.2⟩];rfl|some q=>simp only[gU,within_iff.2 ⟨hn.1,hn.2.1⟩,within_iff.2 ⟨hn.2.2.1,hn.2.2.2⟩];simpa using hp q rfl
 | y::l,p,r,h,hn,hp,hl=>by
  rw[fg,c9]at h;rw[p0,fg,h.1,m7];exact rF h.2 hn (fun q hq=>by injection hq with hq;subst hq;exact hl y s_) fun z hz=>hl z (by simp[hz])
theorem AN {P:List Om}(h:PsOk P):∀{k:Nat},k<=P.length->gq (iH P k)=true
 | 0,_=>rfl
 | k+1,hk=>by
  obtain⟨x,hx⟩:=ab (l:=P) (k:=k) o_;have Si:=h.rng _ x hx;have ih:=AN h (k:=k) o_;rw[jf hx];split
  ·rwa [i9]
  ·exact rF ih ⟨Si.1,by show x.J7<=1000000;omega,Si.2.2.2.2.1,Si.2.2.2.2.2⟩ (fun q hq=>by cases hq) fun y hy=>(pB h o_ y hy).2 x hx
theorem Ad {P:List Om}(h:PsOk P):gq (fR P)=true:=by rw[<-FD];exact AN h (d7 _)
theorem uW {off:Int}:∀{B:List On} {i:Nat} {f:Int},(∀r∈B,off<r.J7)->cW off B i f=f
 | [],_,_,_=>rfl
 | r::B,i,f,h=>by
  rw[cW,c8 (by have:=h r s_;omega)];exact uW fun y hy=>h y aao
theorem ve {off:Int}{B:List On}(hB:∀r∈B,off<r.J7):∀{A:List On} {i:Nat} {f:Int} {r:On},(∀y∈A++[r],y.J7<=off)->cW off (A++[r]++B) i f=(i+A.length:Nat)
 | [],i,f,r,h=>by
  rw[p8,D6,cW,d5 (h r s_),uW hB]
  rfl
 | y::A,i,f,r,h=>by
  rw[p0,p0,cW,ve hB fun z hz=>h z (by simp at hz⊢;exact .inr hz)];simp;omega
theorem Nd {P:List Om}(h:PsOk P){k:Nat}{x:Om}(hx:P[k]?=some x){off:Int}(h1:x.J7<=off)(h2:off<x.J7+bp x.I8.J6.J4):
  ∃(i:Nat) (r:On),fq (fR P) off=(i:Int)/\(fR P)[i]?=some r/\LastR P k x r:=by
 have hk:=aw hx;obtain⟨A,r,e,hl,_⟩:=vd h hx;have OH:=pB h (k:=k+1) o_;have Zu:=BF (P:=P) (k:=k+1) o_;have OK:=wL h (lo:=x.J7+bp x.I8.J6.J4) (n:=P.length-(k+1)) (k:=k+1) (p:=ic P (k+1)) o_ (fun y hy=>by have:=h.next k x y hx hy;omega);rw[e]at Zu OH;refine⟨A.length,r,?_,?_,hl⟩
 ·rw[fq,d5 (Ad h),Zu,ve (fun z hz=>by have:=OK z hz;omega) (fun y hy=>?_),q8];rw[<-e,jf hx,f0]at hy;rcases hy with hy|hy
  ·have:=(pB h (k:=k) o_ y hy).2 x hx;omega
  ·split at hy
   ·cases hy
   ·rw[o9]at hy;subst hy;exact h1
 ·rw[Zu];simp
theorem Gz (P:List Om):(fR P).length<=P.length:=uS P none
theorem oR:∀(p:On) (l:List On),(bL p l).length=3*l.length
 | _,[]=>rfl
 | p,r::l=>by rw[bL,c7,c7,c7,oR r l,c7];omega
theorem xm:∀{p:On} {l:List On},fG p->(∀r∈l,fG r)->∀n∈bL p l,-1000000<=n/\n<=1000000
 | _,[],_,_,n,h=>by cases h
 | p,r::l,hp,hl,n,h=>by
  have hr:=hl r s_;unfold fG at hp hr;rw[bL]at h;simp only[d6]at h;rcases h with rfl|rfl|rfl|h
  ·omega
  ·omega
  ·unfold b01;split<;>omega
  ·exact xm (hl r s_) (fun y hy=>hl y aao) n h
theorem vk:∀(p:On) (l:List On),bY p (bL p l)=l
 | _,[]=>rfl
 | p,r::l=>by
  have e:(⟨p.J7+(r.J7-p.J7),p.J9+(r.J9-p.J9),b01 r.J8==1⟩:On)=r:=by obtain⟨a,b,c⟩:=r;simp only[On.mk.injEq];exact⟨o_,o_,by cases c<;>rfl⟩
  rw[bL,bY,e,vk r l]
theorem uz {n:Int}(h:-1000000<=n/\n<=1000000):mR n:=by unfold mR;omega
theorem Ja {l:List On}(h:gq l=true)(hl:l.length<=1048576):cL (aR l)=some l:=by have hm:=lu h;have hu:=mw (s:=bt (bL iA l)) (rest:=[]) (p:=0) (fun n hn=>uz (xm (p:=iA) (l:=l) (by unfold fG iA;simp) hm n hn)) (by rw[oR];omega) s_;have hu:aD (bt (bL iA l)) 0=some (bL iA l,(bt (bL iA l)).length):=hu;rw[aR,d5 h,cL,hu];dsimp only;rw[vk,oR,d5 ⟨o_,by rw[aR,d5 h]⟩]
theorem CO {p:List Oj}{f:Int}{b:Oa}(hs:aE 1048576 (.lst 4 (p.map Oj.tr)))(h1:aj p=true)(h2:aS b=true)(h3:0<=f)(h4:f<(az p).length):∀it∈aN p f b,DI it:=by obtain⟨g,C,k1,k2,k3,k4,k5,k6,k7,k8,k9⟩:=jq hs h1 h2 h3 h4;have hS:ScOk C (bg C g) [g]:=⟨k7,rfl,⟨v7 _,by simp[bg]⟩,rfl,by simp[bg],fun _=>k5,rfl⟩;have hw:=k2.J2;rw[k8];refine zF k2 hS s_ (GG k2 C.b.L4.toNat hS) (base:=C.J2) hw.1 (by simp only[c7,e7];omega) (eK C g) ?_;exact dP (C:=C) (s:=⟨[],(localsOf C.p (g:Int)).length-C.args,false⟩) (d:=0) o_ (fun it h=>by cases h)
def DPs (P:List Om):Prop:=∀x∈P,DI x.I8
theorem Du {p:List Oj}{b:Oa}{image:Int}(hs:aE 1048576 (.lst 4 (p.map Oj.tr))):DPs (aH p b image):=by
 by_cases hc:aj p=true/\aS b=true/\af image 0 1=true
 ·rw[aH,d5 hc];obtain⟨h1,h2,_⟩:=hc;show DPs (aC (bT p b image (az p).length 0 0));intro x hx;obtain⟨k,hk⟩:=y6.1 hx;obtain⟨i,z,j,g1,g2,rfl⟩:=jo hk;obtain⟨e1,e2,_⟩:=lF hs h1 h2 o_ g1;rw[e1]at g2;have hj:j<(aN p (z.1:Int) b).length:=by have:=aw g2;rwa [cP]at this
  obtain⟨it,OU⟩:=ab hj;rw[dD OU]at g2;injection g2 with g2;subst g2;have:=CO (f:=(z.1:Int)) hs h1 h2 o_ o_ it (b9 OU);dsimp only;unfold eJ;split
  ·exact this
  ·exact this
 ·rw[aH,c8 hc];intro x hx;cases hx
def li (p:Int)(l:List Oo):Int:=match l.getLast? with|some r=>r.L5|none=>p
theorem rulesOkF_snoc:∀{l:List Oo} {p:Int} {r:Oo},cV p (l++[r])=true↔cV p l=true/\dK (li p l) r
 | [],p,r=>by
  rw[p8,cV,cV,cV]
  simp[li]
 | y::l,p,r=>by
  rw[p0,cV,cV]
  have e:li p (y::l)=li y.L5 l:=by
   unfold li
   cases l with|nil=>rfl|cons z l=>simp[List.getLast?_cons]
  rw[e];split
  ·exact rulesOkF_snoc
  ·simp
def jT (P:List Om)(k:Nat):List Oo:=(P.take k).foldl (fun a x=>gK a (ey x)) []
theorem Bu {P:List Om}{k:Nat}{x:Om}(hx:P[k]?=some x):jT P (k+1)=gK (jT P k) (ey x):=by rw[jT,cn hx,List.foldl_append];rfl
structure RInv (P:List Om) (k:Nat) (R:List Oo):Prop where
 ok:fI R=true
 len:R.length<=k
 nil:R=[]↔k=0
 fin:∀x,P[k]?=some x->li 0 R=x.J7
 all:∀(j:Nat) (x:Om),j<k->P[j]?=some x->∃(i:Nat) (r:Oo),R[i]?=some r/\r.J8<=x.J7/\x.J7+bp x.I8.J6.J4<=r.L5/\r.M4=x.I8.M7/\r.L9=x.I8.L9
theorem jS (p:Int)(l:List Oo)(r:Oo):li p (l++[r])=r.L5:=by simp[li]
theorem zT {P:List Om}(h:PsOk P)(hd:DPs P):∀{k:Nat},k<=P.length->RInv P k (jT P k)
 | 0,_=>⟨rfl,by simp[jT],by simp[jT],fun x hx=>by rw[h.at0 x hx];rfl,fun j x hj=>o_⟩
 | k+1,hk=>by
  obtain⟨x,hx⟩:=ab (l:=P) (k:=k) o_;have I:=zT h hd (k:=k) o_;have hr:=h.rng k x hx;have UT:=hd x (b9 hx);unfold DI at UT;have hfx:=I.fin x hx;rw[Bu hx];have OL:∀y,P[k+1]?=some y->x.J7+bp x.I8.J6.J4=y.J7:=fun y hy=>(h.next k x y hx hy).symm;have N7:=I.ok;have N1:=I.len;have QO:=I.all
  generalize jT P k=R at *
  rcases oW R with rfl|⟨ini,r,rfl⟩
  ·have O6:k=0:=I.nil.1 rfl;subst O6;have e:gK [] (ey x)=[ey x]:=rfl;rw[e];have h0:=h.at0 x hx;refine⟨?_,s_,s_,fun y hy=>by rw[<-OL y hy];rfl,fun j y hj hy=>?_⟩
   ·rw[fI,cV,cV,d5];unfold dK ey;dsimp only;exact⟨o_,o_,o_,UT.1,UT.2.1,UT.2.2⟩
   ·have:j=0:=o_;subst this;rw[hx]at hy;injection hy with hy;subst hy;exact⟨0,ey x,rfl,v7 _,v7 _,rfl,rfl⟩
  ·rw[jS]at hfx;have ho:=rulesOkF_snoc.1 N7;rw[mK];split
   ·rename_i hj;unfold xw at hj;simp only[c9,x7]at hj;have O2:=ho.2;unfold dK at O2;refine⟨rulesOkF_snoc.2 ⟨ho.1,?_⟩,by simp only[b8,c7,e7]at N1⊢;omega,s_,fun y hy=>by rw[jS,<-OL y hy];rfl,fun j y Qq hy=>?_⟩
    ·unfold dK ey;dsimp only;exact⟨O2.1,o_,o_,O2.2.2.2.1,O2.2.2.2.2.1,O2.2.2.2.2.2⟩
    ·by_cases P3:j=k
     ·subst P3;rw[hx]at hy;injection hy with hy;subst hy;refine⟨ini.length,⟨r.J8,(ey x).L5,r.M4,r.L9⟩,s_,?_,v7 _,hj.2.1,hj.2.2⟩;dsimp only;omega
     ·obtain⟨i,q,q1,q2,q3,q4,q5⟩:=QO j y o_ hy;rw[G4]at q1;split at q1
      ·rename_i hi;exact⟨i,q,by rw[p9 hi];exact q1,q2,q3,q4,q5⟩
      ·rename_i hi
       have ZF:i-ini.length=0:=by
        rcases z4 (i-ini.length)with e|e
        ·exact e
        ·rw[e9 aab]at q1;cases q1
       rw[ZF]at q1;simp only[i8,Option.some.injEq]at q1;subst q1;refine⟨ini.length,⟨r.J8,(ey x).L5,r.M4,r.L9⟩,s_,q2,?_,q4,q5⟩;show _<=x.J7+bp x.I8.J6.J4;omega
   ·refine⟨rulesOkF_snoc.2 ⟨N7,?_⟩,by simp only[b8,c7,e7]at N1⊢;omega,s_,fun y hy=>by rw[jS,<-OL y hy];rfl,fun j y Qq hy=>?_⟩
    ·rw[jS];unfold dK ey;dsimp only;exact⟨o_,o_,o_,UT.1,UT.2.1,UT.2.2⟩
    ·by_cases P3:j=k
     ·subst P3;rw[hx]at hy;injection hy with hy;subst hy;exact⟨(ini++[r]).length,ey x,s_,v7 _,v7 _,rfl,rfl⟩
     ·obtain⟨i,q,q1,q2⟩:=QO j y o_ hy;exact⟨i,q,by rw[p9 (aw q1)];exact q1,q2⟩
theorem EM {P:List Om}(h:PsOk P):jT P P.length=im P:=by
 have hn:near P=true:=by unfold near;rw[q7];intro x hx;obtain⟨k,hk⟩:=y6.1 hx;have:=h.rng k x hk;exact within_iff.2 ⟨this.1,o_⟩
 rw[jT,gt (d7 _),im,d5 hn]
theorem Ej {P:List Om}(h:PsOk P)(hd:DPs P):RInv P P.length (im P):=by rw[<-EM h];exact zT h hd (d7 _)
def iJ (l:List Oj):Nat->List UInt8
 | 0=>[]
 | n+1=>match l[n]? with
  | some x=>if x.I6=0 then x.J0 else iJ l n
  | none=>iJ l n
def aJ (l:List Oj)(k:Int):List UInt8:=if 0<=k/\k<l.length then iJ l (k+1).toNat else []
theorem iK {l:List Oj}{k:Nat}{x:Oj}(hx:l[k]?=some x):iJ l (k+1)=if x.I6=0 then x.J0 else iJ l k:=by rw[iJ,hx]
theorem iD (l:List Oj)(k:Int)(hl:l.length<=1048576):Sim.Spec prog 236 [tvL 4 (l.map Oj.tr),tvI k] (rS (aJ l k)):=by
 refine ag hΓ ay func236 rfl d_ rfl ?_;have N1:(l.map Oj.tr).length=l.length:=s_;have hw:IntKind.i64.wrap (((l.map Oj.tr).length:Int)-1)=(l.length:Int)-1:=by rw[c6 _ o_];omega
 unfold aJ;by_cases hb:0<=k/\k<l.length
 ·rw[d5 hb];obtain⟨R,hR⟩:∃R,iJ l (k+1).toNat=R:=⟨_,rfl⟩;rw[hR];have hin:af k 0 (IntKind.i64.wrap (((l.map Oj.tr).length:Int)-1))=true:=by rw[hw];simp[af];omega
  repeat' ((conv=>whnf);first|refine Or.inl ?_|apply oi|apply fi|intro h|refine ci (ak _ _ _) (ai rfl (ai rfl (ai rfl trivial))) ?_|exact Y1|refine e_ rfl ?_)
  ·rw[hin]at h;cases h
  clear h;conv=>whnf
  refine⟨{q:Nat//q<=l.length/\iJ l q=R},fun q=>⟨[(0,.r (.c (.t (.lst 4 (l.map Oj.tr))))),(1,tI .i64 ((q.1:Int)-1))],[],[]⟩,fun q=>q.1,⟨(k+1).toNat,o_,hR⟩,?_,?_⟩
  ·repeat' ((conv=>whnf);first|refine Or.inl ?_|apply oi|apply fi|intro h|exact Y1|refine e_ rfl ?_)
   all_goals exact⟨by congr 1;dsimp only;omega⟩
  intro⟨q,hq,hr⟩;dsimp only at hq hr⊢
  cases q with
  | zero=>
   repeat' ((conv=>whnf);first|refine Or.inl ?_|apply oi|apply fi|intro h|exact Y3|refine e_ rfl ?_)
   all_goals exact⟨by rw[<-hr];rfl⟩
  | succ q=>
   obtain⟨x,hx⟩:=ab (l:=l) (k:=q) o_;rw[iK hx]at hr;by_cases hf:x.I6=0
   ·rw[d5 hf]at hr;repeat' ((conv=>whnf);first|refine Or.inl ?_|apply oi|apply fi|intro h|refine⟨q,x.tr,o_,aa hx,?_⟩|exact Y3|refine e_ rfl ?_)
    all_goals try exact Q1
    all_goals exact⟨by rw[hr]⟩
   ·rw[c8 hf]at hr;repeat' ((conv=>whnf);first|refine Or.inl ?_|apply oi|apply fi|intro h|refine⟨q,x.tr,o_,aa hx,?_⟩|exact Y3|refine e_ rfl ?_)
    all_goals try exact Q1
    conv=>whnf
    refine⟨⟨q,o_,hr⟩,?_,KD⟩;repeat' ((conv=>whnf);first|refine Or.inl ?_|apply oi|apply fi|intro h|exact Y2|refine e_ rfl ?_)
    all_goals exact Q21
 ·rw[c8 hb];have hin:af k 0 (IntKind.i64.wrap (((l.map Oj.tr).length:Int)-1))=false:=by rw[hw];simp[af];omega
  repeat' ((conv=>whnf);first|refine Or.inl ?_|apply oi|apply fi|intro h|refine ci (ak _ _ _) (ai rfl (ai rfl (ai rfl trivial))) ?_|exact Y1|refine e_ rfl ?_)
  ·rw[hin]at h;cases h
theorem V33{p:Prop}(h:p:=by
 repeat' ((conv=>whnf);first|refine Or.inl ?_|apply oi|apply fi|intro h|refine⟨q,x.tr,rfl,aa hx,?_⟩|exact Y3|refine e_ rfl ?_)
 all_goals try exact Q1
 conv=>whnf
 refine⟨⟨q+1,o_,o_⟩,?_,KD⟩;repeat' ((conv=>whnf);first|refine Or.inl ?_|apply oi|apply fi|intro h|exact Y2|refine e_ rfl ?_)
 all_goals exact⟨by dsimp only;rw[hn]⟩):p:=h
theorem iF (l:List Oj)(k:Int)(hl:l.length<=1048576):Sim.Spec prog 55 [tvL 4 (l.map Oj.tr),tvI k] (rS (aJ l k)):=by
 refine ag hΓ ay func55 rfl d_ rfl ?_;have N1:(l.map Oj.tr).length=l.length:=s_;repeat' ((conv=>whnf);first|refine Or.inl ?_|apply oi|apply fi|intro h|exact Y1|refine e_ rfl ?_)
 unfold aJ;conv=>whnf
 refine⟨{q:Nat//q<=l.length/\(q=0\/(k<l.length/\(q:Int)<=k+1))},fun q=>⟨[(0,.r (.c (.t (.lst 4 (l.map Oj.tr))))),(1,tI .i64 k),(5,tS (iJ l q.1)),(6,tI .i64 (q.1:Int))],[],[]⟩,fun q=>l.length-q.1,⟨0,o_,o_⟩,?_,?_⟩
 ·exact Z1
 intro⟨q,hq,hr⟩;dsimp only at hq hr⊢;by_cases N2:(q:Int)<=k/\k<l.length
 ·obtain⟨x,hx⟩:=ab (l:=l) (k:=q) o_;have hn:=iK hx;by_cases hf:x.I6=0
  ·rw[d5 hf]at hn;exact V33
  ·rw[c8 hf]at hn;exact V33
 ·have OL:iJ l q=if 0<=k/\k<l.length then iJ l (k+1).toNat else []:=by
   by_cases hin:0<=k/\k<l.length
   ·rw[d5 hin];congr 1;omega
   ·rw[c8 hin,show q=0 by omega];rfl
  repeat' ((conv=>whnf);first|refine Or.inl ?_|apply oi|apply fi|intro h|exact Y3|refine e_ rfl ?_)
  all_goals exact⟨by rw[OL]⟩
def ChK (n:Nat)(ch:List Int):Prop:=ch.length<=3/\∀c∈ch,0<=c/\c<(n:Int)
def ChI (n:Nat)(l:List Oi):Prop:=∀it∈l,ChK n it.J3
def Cc (n:Nat)(a b:Gs):Prop:=ChI n a.I4->ChI n b.I4
theorem Cc.refl {n:Nat}(s:Gs):Cc n s s:=id
theorem Cc.trans {n:Nat}{a b c:Gs}(h:Cc n a b)(h':Cc n b c):Cc n a c:=fun x=>h' (h x)
theorem V127{p:Prop}(h:p:=by
 intro hs it OU;simp only[aA,f0,o9]at OU;rcases OU with OU|rfl
 ·exact hs it OU
 ·exact h):p:=h
theorem dR {n:Nat}{C:Cx}{s:Gs}{d code arg line:Int}{chain:List Int}(h:ChK n chain):Cc n s (aA C s d code arg line chain):=by exact V127
theorem tE {n:Nat}{l:List Oi}(j v:Int)(h:ChI n l):ChI n (bI l j v):=by exact V82
theorem AP {n:Nat}(v:Int):∀(js:List Int) {l:List Oi},ChI n l->ChI n (cB l v js)
 | [],_,h=>h
 | j::js,_,h=>AP v js (tE j v h)
section
variable {C:Cx} {x:Sc} {ins:List Nat} {rep:Sc->List Nat->Nat->Nat->Int->Gs->Gs} {line m:Nat}
theorem zO {y:Sc}{chain:List Int}(hc:ChK m chain){line:Int}:∀(n:Nat) (d:Int) (s:Gs),Cc m s (cf C y chain line n d s)
 | 0,d,s=>Cc.refl s
 | n+1,d,s=>by
  rw[cf];exact(dR hc).trans (zO hc n (d-1) _)
theorem CH {y:Sc}{chain:List Int}(hc:ChK m chain){line d:Int}:∀(n i:Nat) (s:Gs),Cc m s (cR C y chain line d n i s)
 | 0,i,s=>Cc.refl s
 | n+1,i,s=>by
  rw[cR];exact((dR hc).trans (dR hc)).trans (CH hc n (i+1) _)
def wI (C:Cx)(rep:Sc->List Nat->Nat->Nat->Int->Gs->Gs)(x:Sc)(ins:List Nat):Prop:=
 ∀(line g:Nat) (d:Int) (s:Gs),line<C.p.length->bO C g->cw C ins g s.I4.length=true->Cc C.p.length s (rep x ins line g d s)
theorem Nm (hx:ChK C.p.length x.I5)(N3:wI C rep x ins)(hl:line<C.p.length)(t:Ou)(d:Int)(s:Gs):Cc C.p.length s (iB C rep x ins line t d s):=by
 unfold iB;split
 ·exact dR hx
 split
 ·exact dR hx
 split
 ·split
  ·rename_i g hg;obtain⟨_,ln,k1,k2,_⟩:=eV hg;split
   ·rename_i hr;exact N3 line g d s hl ⟨ln,k1,k2⟩ hr
   ·exact dR hx
  ·exact Cc.refl s
 ·exact dR hx
mutual
theorem GV (hx:ChK C.p.length x.I5)(N3:wI C rep x ins)(hl:line<C.p.length):∀(e:Ex) (d:Int) (s:Gs),Cc C.p.length s (dx C rep x ins line e d s)
 | .node t es,d,s=>by
  rw[dx];exact(Dq hx N3 hl es d s).trans (Nm hx N3 hl t _ _)
theorem Dq (hx:ChK C.p.length x.I5)(N3:wI C rep x ins)(hl:line<C.p.length):∀(es:List Ex) (d:Int) (s:Gs),Cc C.p.length s (cO C rep x ins line es d s)
 | [],d,s=>by rw[cO];exact Cc.refl s
 | a::es,d,s=>by
  rw[cO];exact(GV hx N3 hl a d s).trans (Dq hx N3 hl es (d+1) _)
end
theorem Lh (hx:ChK m x.I5){d:Int}(s:Gs):Cc m s (bA C x line d s):=by
 unfold bA;split
 ·exact dR hx
 ·exact Cc.refl s
theorem MU (hx:ChK m x.I5){g:Nat}{d:Int}(s:Gs):Cc m s (dB C x line g d s):=by unfold dB;exact((show Cc m s ⟨s.I4,max s.J1 (bK C x+(localsOf C.p (g:Int)).length),s.start⟩ from id).trans (zO hx _ d _)).trans (CH hx _ _ _)
theorem DK (hx:ChK m x.I5)(k:Nat)(last:Bool){d:Int}(L:Ls):Cc m L.g (aU C x k last d L).g:=by
 unfold aU;split
 ·split
  ·exact dR hx
  ·exact dR hx
 split
 ·exact Cc.refl _
 ·exact dR hx
theorem Ks (hx:ChK C.p.length x.I5)(N3:wI C rep x ins){k:Nat}(hk:k<C.p.length)(ln:Oj){base:Int}(L:Ls):Cc C.p.length L.g (dq C rep x ins base k ln L).g:=by
 unfold dq;split
 ·intro h;exact tE _ _ (dR (C:=C) hx h)
 split
 ·split
  ·exact Cc.trans (b:=aA C L.g base 0 0 k x.I5) (dR hx) (DK hx k true (d:=base+1) {L with g:=aA C L.g base 0 0 k x.I5})
  split
  ·exact dR hx
  ·exact Cc.refl _
 ·have tg:Cc C.p.length L.g (dx C rep x ins k (exL ln.J5) base ⟨L.g.I4,L.g.J1,true⟩):=GV hx N3 hk (exL ln.J5) base ⟨L.g.I4,L.g.J1,true⟩;dsimp only;split
  ·exact tg.trans (dR hx)
  split
  ·exact tg.trans (dR hx)
  split
  ·exact tg.trans (DK hx k false (d:=base+1) {L with g:=dx C rep x ins k (exL ln.J5) base ⟨L.g.I4,L.g.J1,true⟩,I9:=L.I9.set k L.g.I4.length})
  ·exact tg.trans (dR hx)
theorem JW (k:Nat)(ln:Oj)(L:Ls):Cc m L.g (bc C x k ln L).g:=by
 unfold bc;split
 ·exact fun h=>tE _ _ h
 ·exact Cc.refl _
theorem HC (hx:ChK C.p.length x.I5)(N3:wI C rep x ins){base:Int}:∀(n k:Nat) (L:Ls),Cc C.p.length L.g (gD C rep x ins base n k L).g
 | 0,k,L=>by rw[gD];exact Cc.refl _
 | n+1,k,L=>by
  rw[gD];split
  ·rename_i ln hk;exact((Ks hx N3 (aw hk) ln L).trans (JW k ln _)).trans (HC hx N3 n (k+1) _)
  ·exact Cc.refl _
theorem zN (hx:ChK C.p.length x.I5)(N3:wI C rep x ins){base:Int}(s:Gs):Cc C.p.length s (aV C rep x ins base s).1:=by unfold aV;exact HC hx N3 _ _ (cq C s)
end
theorem GD {C:Cx}(hC:CxOk C):∀(lev:Nat) {x:Sc} {ins:List Nat},ScOk C x ins->ChK C.p.length x.I5->wI C (bf C lev) x ins
 | 0,x,ins,hx,hc,line,g,d,s,_,_,_=>Cc.refl s
 | lev+1,x,ins,hx,hc,line,g,d,s,hl,hg,hr=>by
  obtain⟨r1,r2,r3,_⟩:=eA hr;have hin:=hC.inl;have ON:=hx.I5;have hy:=jR hC hx line hg
  have P9:ChK C.p.length (bN C x line g).I5:=by
   refine⟨by simp only[bN,b8,c7,e7];omega,fun c Uh=>?_⟩;simp only[bN,f0,o9]at Uh;rcases Uh with Uh|rfl
   ·exact hc.2 c Uh
   ·omega
  have t1:=MU (C:=C) (x:=x) (line:=line) hc (g:=g) (d:=d) s;have t2:=Lh (C:=C) (line:=line) hc (d:=d-argsN C.p g) (dB C x line g d s);have t3:=zN P9 (GD hC lev hy P9) (base:=d-argsN C.p g) (bA C x line (d-argsN C.p g) (dB C x line g d s));intro h;exact AP _ _ (((t1.trans t2).trans t3) h)
theorem CT {p:List Oj}{f:Int}{b:Oa}(hs:aE 1048576 (.lst 4 (p.map Oj.tr)))(h1:aj p=true)(h2:aS b=true)(h3:0<=f)(h4:f<(az p).length):ChI p.length (aN p f b):=by
 obtain⟨g,C,k1,k2,k3,k4,k5,k6,k7,k8,k9⟩:=jq hs h1 h2 h3 h4;have hS:ScOk C (bg C g) [g]:=⟨k7,rfl,⟨v7 _,by simp[bg]⟩,rfl,by simp[bg],fun _=>k5,rfl⟩;have N1:C.p.length=p.length:=by rw[k3];exact(nr p b).len
 have hc:ChK C.p.length (bg C g).I5:=⟨by simp[bg],fun c h=>by simp[bg]at h⟩;rw[k8,<-N1];refine zN hc (GD k2 C.b.L4.toNat hS hc) (base:=C.J2) (eK C g) ?_;exact dR (C:=C) (s:=⟨[],(localsOf C.p (g:Int)).length-C.args,false⟩) (d:=0) ⟨s_,fun c h=>by simp at h⟩ (fun it h=>by cases h)
structure ChP (p:List Oj) (x:Om):Prop where
 I5:ChK p.length x.I8.J3
 line:0<=x.I8.J9/\x.I8.J9<p.length
theorem lD {p:List Oj}{b:Oa}{image:Int}(hs:aE 1048576 (.lst 4 (p.map Oj.tr))):∀x∈aH p b image,ChP p x:=by
 by_cases hc:aj p=true/\aS b=true/\af image 0 1=true
 ·rw[aH,d5 hc];obtain⟨h1,h2,_⟩:=hc;show ∀x∈aC (bT p b image (az p).length 0 0),ChP p x;intro x hx;obtain⟨k,hk⟩:=y6.1 hx;obtain⟨i,z,j,g1,g2,rfl⟩:=jo hk
  have WF:0<=x.I8.J9/\x.I8.J9<p.length:=by obtain⟨hp,_⟩:=kK hs h1 h2 g1 g2;exact V96
  refine⟨?_,WF⟩;obtain⟨e1,e2,_⟩:=lF hs h1 h2 o_ g1;rw[e1]at g2;have hj:j<(aN p (z.1:Int) b).length:=by have:=aw g2;rwa [cP]at this
  obtain⟨it,OU⟩:=ab hj;rw[dD OU]at g2;injection g2 with g2;subst g2;have:=CT (f:=(z.1:Int)) hs h1 h2 o_ o_ it (b9 OU);dsimp only;unfold eJ;split
  ·exact this
  ·exact this
 ·rw[aH,c8 hc];intro x hx;cases hx
theorem V131{p:Prop}(h:p:=by
 unfold cF at hl;simp only[c9]at hl;have:=hl.2.1;rw[d5 (.inl h0)]at this;rw[d5 h0]
 exact this):p:=h
theorem Ih {p:List Oj}(h:aj p=true):∀{n:Nat},n+1<=p.length->bW (iJ p (n+1))=true:=by
 unfold aj at h;simp only[c9,j7]at h;obtain⟨_,_,h3,h4,_⟩:=h;intro n
 induction n with
 | zero=>
  intro hn;obtain⟨x,hx⟩:=ab (l:=p) (k:=0) o_;rw[iK hx];have hl:=q7.1 h3 x (b9 hx)
  have h0:x.I6=0:=by
   cases p with
   | nil=>simp at hx
   | cons a p=>simp only[i8,Option.some.injEq]at hx;subst hx;simp only[nB,c9,x7]at h4;exact h4.1
  exact V131
 | succ n ih=>
  intro hn;obtain⟨x,hx⟩:=ab (l:=p) (k:=n+1) o_;rw[iK hx];by_cases h0:x.I6=0
  ·have hl:=q7.1 h3 x (b9 hx);exact V131
  ·rw[c8 h0];exact ih o_
theorem uB {p:List Oj}(h:aj p=true){c:Int}(h0:0<=c)(h1:c<p.length):bW (aJ p c)=true:=by rw[aJ,d5 ⟨h0,h1⟩,show(c+1).toNat=c.toNat+1 by omega];exact Ih h o_
end Go.Proofs.P
namespace Go.Proofs.P
open Go.Sim Tryz
def pX (off:Int)(x:Oh):Bool:=decide (x.J8<=off)&&decide (off<x.L5)
def eY (l:List Oh)(off:Int):List Oh:=if dV l then l.filter (pX off)else []
theorem De {α:Type}{p:α->Bool}{l:List α}{k:Nat}{x:α}(h:l[k]?=some x):(l.take (k+1)).filter p=(l.take k).filter p++(if p x then [x]else []):=by obtain⟨hk,rfl⟩:=y0.1 h;rw[B9 hk,H7];congr 1;by_cases hp:p l[k]<;>simp[hp]
theorem Q6{p:Prop}(h:p:=by exact⟨⟨by simp only[d9,c7,e7];omega,by simp only[d9,c7,e7];omega⟩⟩):p:=h
theorem uj (l:List Oh)(off:Int)(hl:l.length<=1048576)(hn:∀x∈l,x.J0.length<=1099511627775):Sim.Spec prog 128 [tvL 5 (l.map Oh.tr),tvI off] (rL 5 ((eY l off).map Oh.tr)):=by
 refine ag hΓ ay func128 rfl d_ rfl ?_;have N1:(l.map Oh.tr).length=l.length:=s_;unfold eY
 cases N7:dV l with
 | false=>
  have hs:=fL l hl hn;rw[N7]at hs
  repeat' ((conv=>whnf);first|refine Or.inl ?_|apply oi|apply fi|intro h|refine ci hs (ai rfl trivial) ?_|exact Y1|refine e_ rfl ?_)
 | true=>
  have hs:=fL l hl hn;rw[N7]at hs;rw[d5 rfl];repeat' ((conv=>whnf);first|refine Or.inl ?_|apply oi|apply fi|intro h|refine ci hs (ai rfl trivial) ?_|exact Y1|refine e_ rfl ?_)
  conv=>whnf
  refine⟨{k:Nat//k<=l.length},fun k=>⟨[(1,tI .i64 off),(5,.r (.c (.own (11,0,0)))),(12,.r (.c (.t (.lst 5 (l.map Oh.tr))))),(13,tI .i64 ((l.map Oh.tr).length:Int)),(14,tI .i64 (k.1:Int))],[((11,0,0),some (.arr true 5 (((l.take k.1).filter (pX off)).map Oh.tr)))],[11]⟩,fun k=>l.length-k.1,⟨0,o_⟩,?_,?_⟩
  ·exact Z1
  intro⟨k,hk⟩;dsimp only;by_cases N2:k<l.length
  ·obtain⟨x,hx⟩:=ab N2;have hf:=De (p:=pX off) hx;have OA:((l.take k).filter (pX off)).length<=k:=t7 (D4 _ _) aab;repeat' ((conv=>whnf);first|refine Or.inl ?_|apply oi|apply fi|intro h|refine⟨k,x.tr,rfl,aa hx,?_⟩|exact Y3|refine e_ rfl ?_)
   all_goals try exact Q6
   all_goals conv=>whnf
   all_goals refine⟨⟨k+1,o_⟩,?_,KD⟩
   repeat' ((conv=>whnf);first|refine Or.inl ?_|apply oi|apply fi|intro h|exact Y2|refine e_ rfl ?_)
   all_goals first
    |(have hp:pX off x=true:=by(simp_all[pX])<;>(intros;omega)
      rw[hp,d5 rfl]at hf
      exact⟨by dsimp only;rw[hf,ne];rfl⟩)
    |(have hp:pX off x=false:=by(simp_all[pX])<;>(intros;omega)
      rw[hp,c8 s_,i9]at hf
      exact⟨by dsimp only;rw[hf]⟩)
  ·have OK:l.length<=k:=o_;rw[gt OK];exact Z4
theorem zq (l:List Oh)(off:Int):(eY l off).length<=l.length:=by
 unfold eY;split
 ·exact D4 _ _
 ·simp
end Go.Proofs.P
