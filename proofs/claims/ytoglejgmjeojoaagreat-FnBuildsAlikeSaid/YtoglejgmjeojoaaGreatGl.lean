import Derived.Test.YtoglejgmjeojoaaGreatGk
set_option maxRecDepth 100000
set_option maxHeartbeats 0
namespace Go.Proofs.P
open Go.Sim Tryz
noncomputable section
section
variable {p:List Qt} {b:Ql} {first second:Int} {F g:Nat} {C:Cx} {x y:Sc} {ins:List Nat} {B fp:Int} {c:Nat}
theorem xN {s:Gs}{d code arg line:Int}{chain:List Int}{e:Nat}{l:List Qs}(hs:Seg p b F s.I8.length e l)(hp:Px (aB C s d code arg line chain).I8 l)(he:(aB C s d code arg line chain).I8.length<=e):opA p b F s.I8.length=some ⟨code,arg⟩:=by rw[Lc.emit_len]at he;rw[hs s.I8.length (d7 _) o_,hp.eq _ (by rw[Lc.emit_len];omega),zI,b9 rfl]
theorem rV (ho:y.J9=false)(j:Int):gd C y B j=B-1-(y.first+j):=by unfold gd jl eI;rw[ho];simp
theorem zL (hF:Fn p b first second F g C)(fr:Fr C c B fp)(ho:y.J9=false)(hf:0<=y.first){chain:List Int}{line:Int}{out:List Int}{e:Nat}{l:List Qs}:∀(n:Nat) (d sp:Int) (s:Gs) (W:Int->Int),Seg p b F s.I8.length e l->Px (bD C y chain line n d s).I8 l->(bD C y chain line n d s).I8.length<=e->sp+d=B->C.J1+n<=d->d<=148->y.first+n<=C.J1->
  ∃W',Reach (aJ p b first second) ⟨adr p b first second F s.I8.length,sp,fp,W,out⟩ ⟨adr p b first second F (bD C y chain line n d s).I8.length,sp+n,fp,W',out⟩/\(∀j:Nat,j<n->W' (gd C y B j)=W (sp+n-1-j))/\∀a,sp+n<=a->(∀j:Nat,j<n->a≠gd C y B j)->W' a=W a
 | 0,d,sp,s,W,_,_,_,_,_,_,_=>⟨W,by rw[bD,show sp+((0:Nat):Int)=sp by omega];exact Reach.refl _,fun j hj=>o_,fun a _ _=>rfl⟩
 | n+1,d,sp,s,W,hs,hp,he,QM,hd,hd2,SJ=>by
  have hr:=fr.rng hF.hC;rw[bD]at hp he⊢;have gx:=pQ (C:=C) (y:=y) (chain:=chain) (l:=line) n (d-1) (cX C y s d n line chain);have O3:opA p b F s.I8.length=some ⟨bL C true,bU C y d n⟩:=xN hs (gx.px.trans hp) (s8 gx.px.le he);have hv:=rV (C:=C) (B:=B) ho;have r1:=uH (W:=W) (out:=out) hF fr O3 QM o_ o_ abk;obtain⟨W',r2,r3,r4⟩:=zL hF fr ho hf n (d-1) (sp+1) (cX C y s d n line chain) (upd W (gd C y B n) (W sp)) (fun i i1 i2=>hs i (by unfold cX at i1;rw[Lc.emit_len]at i1;omega) i2) hp he o_ o_ o_ o_;have O2:(cX C y s d n line chain).I8.length=s.I8.length+1:=Lc.emit_len;rw[O2]at r2;refine⟨W',?_,fun j hj=>?_,fun a h1 h2=>?_⟩
  ·rw[show sp+((n+1:Nat):Int)=sp+1+n by omega];exact r1.trans r2
  ·by_cases VQ:j=n
   ·subst VQ;rw[r4 _ abk (fun k hk hh=>by rw[hv,hv]at hh;omega),jy,show sp+((j+1:Nat):Int)-1-j=sp by omega]
   ·rw[r3 j o_,fR abk];congr 1;omega
  ·rw[r4 a o_ (fun j hj=>h2 j o_),fR (h2 n o_)]
theorem Bx (hF:Fn p b first second F g C)(fr:Fr C c B fp)(ho:y.J9=false)(hf:0<=y.first){chain:List Int}{line d:Int}{out:List Int}{e:Nat}{l:List Qs}(sp:Int)(QM:sp+d=B)(hd:C.J1<=d)(hd2:d<=148):∀(n i:Nat) (s:Gs) (W:Int->Int),Seg p b F s.I8.length e l->Px (cj C y chain line d n i s).I8 l->(cj C y chain line d n i s).I8.length<=e->y.first+i+n<=C.J1->
  ∃W',Reach (aJ p b first second) ⟨adr p b first second F s.I8.length,sp,fp,W,out⟩ ⟨adr p b first second F (cj C y chain line d n i s).I8.length,sp,fp,W',out⟩/\(∀j:Nat,i<=j->j<i+n->W' (gd C y B j)=0)/\∀a,sp<=a->(∀j:Nat,i<=j->j<i+n->a≠gd C y B j)->W' a=W a
 | 0,i,s,W,_,_,_,_=>⟨W,by rw[cj];exact Reach.refl _,fun j h1 h2=>o_,fun a _ _=>rfl⟩
 | n+1,i,s,W,hs,hp,he,SJ=>by
  have hr:=fr.rng hF.hC;have WL:=hF.hC.J1;rw[cj]at hp he⊢;have hv:=rV (C:=C) (B:=B) ho;have gx:=tY (C:=C) (y:=y) (chain:=chain) (l:=line) (d:=d) n (i+1) (cX C y (aB C s d 0 0 line chain) (d+1) i line chain);have gx1:Px (aB C s d 0 0 line chain).I8 (cX C y (aB C s d 0 0 line chain) (d+1) i line chain).I8:=Px.emit ..;have op1:opA p b F s.I8.length=some ⟨0,0⟩:=xN hs (gx1.trans (gx.px.trans hp)) (s8 (gx1.trans gx.px).le he);have l1:(aB C s d 0 0 line chain).I8.length=s.I8.length+1:=Lc.emit_len;have l2:(cX C y (aB C s d 0 0 line chain) (d+1) i line chain).I8.length=s.I8.length+2:=by unfold cX;rw[Lc.emit_len,l1]
  have op2:opA p b F (s.I8.length+1)=some ⟨bL C true,bU C y (d+1) i⟩:=by rw[<-l1];exact xN (fun k k1 k2=>hs k o_ k2) (gx.px.trans hp) (s8 gx.px.le he)
  have r1:=oY (sp:=sp) (fp:=fp) (W:=W) (out:=out) hF.h hF.lt op1 o_ o_;have r2:=uH (W:=upd W (sp-1) 0) (out:=out) hF fr op2 (show sp-1+(d+1)=B by omega) o_ o_ abk;rw[jy,show sp-1+1=sp by omega]at r2;obtain⟨W',r3,r4,r5⟩:=Bx hF fr ho hf sp QM hd hd2 n (i+1) (cX C y (aB C s d 0 0 line chain) (d+1) i line chain) (upd (upd W (sp-1) 0) (gd C y B i) 0) (fun k k1 k2=>hs k o_ k2) hp he o_;rw[l2]at r3;refine⟨W',(r1.trans r2).trans r3,fun j h1 h2=>?_,fun a h1 h2=>?_⟩
  ·by_cases R7:j=i
   ·subst R7;rw[r5 _ abk (fun k k1 k2 hh=>by rw[hv,hv]at hh;omega),jy]
   ·exact r4 j o_ o_
  ·rw[r5 a h1 (fun j j1 j2=>h2 j o_ o_),fR (h2 i o_ o_),fR o_]
end
structure Sx (p:List Qt) (b:Ql) (first second:Int) (F g:Nat) (Q:Lc) (e lev:Nat):Prop where
 hF:Fn p b first second F g Q.C
 ok:Q.Ok e
 rep:Q.rep=bg Q.C lev
 lvl:Q.ins.length+lev=Q.C.b.M0.toNat+1
 base:(Q.x.J9=true/\Q.base=Q.C.J1)\/(Q.x.J9=false/\Q.C.J1<=Q.base)
 dm:Q.base+21*((lev:Int)+1)<=148
 J4:(Q.LL (e+1)).g.J4<=Q.C.J1
 top:ba Q.C Q.x<=Q.C.J1
 agree:∀i,Q.s.I8.length<=i->i<Q.Hd (e+1)->opA p b F i=if(i:Int)∈(Q.LL (e+1)).lv then some ⟨10,(Q.Hd (e+1):Int)⟩else opL (Q.LL (e+1)).g.I8 i
 room:Q.Hd (e+1)<=(aG p F b).length
 nx:Q.x.J9=false->Q.Hd (e+1)<(aG p F b).length
structure Post (C:Cx) (x:Sc) (B sp fp:Int) (W:Int->Int) (pcE v:Int) (y:MS) (out:List Int):Prop where
 out:y.out=out
 o:x.J9=true->y.pc=(if C.J8=true then W (B+1)else W B)/\y.sp=jx C B/\y.fp=(if C.J8=true then W B else fp)/\y.W (jx C B)=v/\∀a,jx C B<a->y.W a=W a
 i:x.J9=false->y.pc=pcE/\y.sp=sp-1/\y.fp=fp/\y.W (sp-1)=v/\∀a,sp<=a->¬Reg C x B a->y.W a=W a
def KeepR (C:Cx)(x:Sc)(B sp:Int)(W W':Int->Int):Prop:=∀a,sp<=a->¬Reg C x B a->W' a=W a
theorem KeepR.trans {C:Cx}{x:Sc}{B sp:Int}{W W' W'':Int->Int}(h:KeepR C x B sp W W')(h':KeepR C x B sp W' W''):KeepR C x B sp W W'':=fun a h1 h2=>(h' a h1 h2).trans (h a h1 h2)
theorem Post.keep {C:Cx}{x:Sc}{B sp fp:Int}{W W':Int->Int}{pcE v:Int}{y:MS}{out:List Int}(hC:CxOk C)(QM:sp<=B)(S5:0<=CV x)(h:Post C x B sp fp W' pcE v y out)(hk:KeepR C x B sp W W'):Post C x B sp fp W pcE v y out:=by
 refine⟨h.out,fun ho=>?_,fun ho=>?_⟩
 ·obtain⟨h1,h2,h3,h4,h5⟩:=h.o ho;have ha:=hC.args;have hf:CV x=0:=by unfold CV;rw[b9 ho]
  have kB:W' B=W B:=hk B QM (by
   have:=Ak C
   unfold Reg jx;rw[hf];omega)
  refine⟨?_,h2,?_,h4,fun a ha=>?_⟩
  ·rw[h1];split
   ·rename_i SH
    exact hk (B+1) o_ (by
     have:frI C=1:=by unfold frI;rw[b9 SH]
     unfold Reg jx;rw[hf];omega)
   ·exact kB
  ·rw[h3];split
   ·exact kB
   ·rfl
  ·rw[h5 a ha];have:=Ak C;have:B<=jx C B:=(by unfold jx;omega);exact hk a o_ (by unfold Reg;rw[hf];omega)
 ·obtain⟨h1,h2,h3,h4,h5⟩:=h.i ho;exact⟨h1,h2,h3,h4,fun a a1 a2=>(h5 a a1 a2).trans (hk a a1 a2)⟩
def uU (p:List Qt)(b:Ql)(first second lim:Int)(n:Nat):Prop:=
 ∀(F g:Nat) (Q:Lc) (e lev k:Nat) (calls vals:List Int) (st O5:IS) (v sp fp B:Int) (W:Int->Int),Sx p b first second F g Q e lev->Q.x.f<k->k<=e->bd (foldIf p b) lim n calls Q.x.f k vals st= .ok v O5->vals.length=Q.x.J3.length->Vars Q.C Q.x B W vals->Fr Q.C calls.length B fp->sp+Q.base=B->
  ∃y,Reach (aJ p b first second) ⟨adr p b first second F (Q.Hd k),sp,fp,W,st.out⟩ y/\Post Q.C Q.x B sp fp W (adr p b first second F (Q.Hd (e+1))) v y O5.out
section
variable {p:List Qt} {b:Ql} {first second lim:Int} {n:Nat}
theorem Lr {C:Cx}(hC:CxOk C){g e:Nat}(hg:bI C g)(e5:C.args=b_ C.p g)(he:h_ C.p g=some e):Lc.Ok ⟨C,bg C C.b.M0.toNat,aO C g,[g],C.J1,db C g⟩ e:=by have hS:ScOk C (aO C g) [g]:=⟨hg,rfl,⟨u6 _,by simp[aO]⟩,rfl,by simp[aO],fun _=>e5,rfl⟩;exact⟨hC,hS,he,Dg hC _ hS⟩
theorem LK {F g:Nat}{C:Cx}(hF:Fn p b first second F g C):∃e,h_ C.p g=some e/\g<e/\Sx p b first second F g ⟨C,bg C C.b.M0.toNat,aO C g,[g],C.J1,db C g⟩ e C.b.M0.toNat:=by
 have hC:=hF.hC;have hS:ScOk C (aO C g) [g]:=⟨hF.fn,rfl,⟨u6 _,by simp[aO]⟩,rfl,by simp[aO],fun _=>hF.args,rfl⟩;obtain⟨e,he,e2,e3,e4,_⟩:=hS.endE hC;have O7:=Lr hC hF.fn hF.args he;have hl:=Lc.lines_eq O7
 have TU:cJ C g=(Lc.LL ⟨C,bg C C.b.M0.toNat,aO C g,[g],C.J1,db C g⟩ (e+1)).g:=by unfold cJ;dsimp only at hl;rw[hl]
 have Zc:(Lc.LL ⟨C,bg C C.b.M0.toNat,aO C g,[g],C.J1,db C g⟩ (e+1)).lv=[]:=by
  cases hx:(Lc.LL ⟨C,bg C C.b.M0.toNat,aO C g,[g],C.J1,db C g⟩ (e+1)).lv with
  | nil=>rfl
  | cons j js=>
   obtain⟨_,_,_,_,h,_⟩:=Lc.fin_lv O7 (j:=j) (by rw[hx];simp)
   cases h
 have hin:=hC.inl;have hw:=hF.J1;have hm0:=(Lc.fin_start O7).J4;have hm:(Lc.LL ⟨C,bg C C.b.M0.toNat,aO C g,[g],C.J1,db C g⟩ (e+1)).g.J4<=C.J1:=by rw[<-TU];exact hF.J4
 refine⟨e,he,e2,⟨hF,O7,rfl,by dsimp only[List.length_cons,List.length_nil];omega,.inl ⟨rfl,rfl⟩,g_,hm,?_,fun i h1 h2=>?_,?_,fun h=>by cases h⟩⟩
 ·show ba C (aO C g)<=C.J1;have h3:(db C g).J4=(a_ C.p (g:Int)).length-C.args:=rfl;dsimp only at hm0;rw[h3]at hm0;unfold ba;rw[b9 (show(aO C g).J9=true from rfl)];show((a_ C.p (g:Int)).length:Int)-C.args<=C.J1;omega
 ·rw[Zc,b8 s_,<-TU];unfold opA opL;rw[hF.I8]
 ·unfold Lc.Hd;rw[<-TU,hF.I8];exact d7 _
theorem V121{p:Prop}(h:p:=by
 unfold eB atL;split
 ·rw[l8 o_]
 ·rw[m9 o_,G1]
  split<;>rfl):p:=h
theorem BE (SJ:∀G g',(aq p)[G]?=some g'->∃C',Fn p b first second G g' C')(hL:uU p b first second lim n){C:Cx}(hp:C.p=foldIf p b){calls:List Int}(YC:calls.length<=6){g' G:Nat}{av:List Int}{st O5:IS}{v sp fp':Int}{W:Int->Int}(SB:bI C g')(hG:(aq p)[G]?=some g')(U8:av.length=b_ C.p g')
  (QS:bd (foldIf p b) lim n calls g' (g'+1) (eB (a_ (foldIf p b) (g':Int)).length av) st= .ok v O5) (TQ:170*(7-(calls.length:Int))<=sp) (hhi:sp+b_ C.p g'<=1199) (RW:∀j:Nat,j<b_ C.p g'->W (sp+b_ C.p g'-j)=atL av j):
  ∃W',Reach (aJ p b first second) ⟨adr p b first second G 0,sp,fp',W,st.out⟩ ⟨W sp,sp+b_ C.p g',fp',W',O5.out⟩/\W' (sp+b_ C.p g')=v/\∀a,sp+b_ C.p g'<a->W' a=W a:=by
 obtain⟨C',hF⟩:=SJ G g' hG;have hpp:C'.p=C.p:=by rw[hF.pq,hp]
 have adj:C'.args=b_ C.p g':=by rw[hF.args,hpp]
 obtain⟨e,he,QY,hS⟩:=LK hF;have hC:=hF.hC;have WL:=hC.J1;have hw:=hF.J1;have ha:=hC.args
 have hH1:Lc.Hd ⟨C',bg C' C'.b.M0.toNat,aO C' g',[g'],C'.J1,db C' g'⟩ (g'+1)=1:=by show(Lc.LL _ (g'+1)).g.I8.length=1;have:=Lc.LL_start ⟨C',bg C' C'.b.M0.toNat,aO C' g',[g'],C'.J1,db C' g'⟩;dsimp only[aO]at this;rw[show(Lc.LL ⟨C',bg C' C'.b.M0.toNat,aO C' g',[g'],C'.J1,db C' g'⟩ (g'+1))=_ from this];rfl
 have O3:opA p b G 0=some ⟨if C'.J8=true then 13 else 15,C'.J1⟩:=by
  have QJ:=Lc.fin_start hS.ok;have h1:=QJ.px.eq 0 (by simp[db,aB])
  have TU:cJ C' g'=(Lc.LL ⟨C',bg C' C'.b.M0.toNat,aO C' g',[g'],C'.J1,db C' g'⟩ (e+1)).g:=by have hl:=Lc.lines_eq hS.ok;unfold cJ;dsimp only at hl;rw[hl]
  unfold opA;rw[hF.I8,TU];exact h1
 obtain⟨w,hwN⟩:=i7 WL.1
 have O2:(eB (a_ (foldIf p b) (g':Int)).length av).length=(aO C' g').J3.length:=by show _=(a_ C'.p (g':Int)).length;have P6:=(cW hC hF.fn).2;rw[hF.pq]at P6⊢;rw[show b_ (foldIf p b) g'=b_ C.p g' by rw[hp]]at P6;unfold eB;simp;omega
 have VE:∀j:Nat,atL (eB (a_ (foldIf p b) (g':Int)).length av) j=if j<av.length then atL av j else 0:=fun j=>by
  exact V121
 have Tp:=hS.top;have adk:=hS.ok.hx.argLe hC;have adn:(av.length:Int)=C'.args:=o_
 have key:∀(sp1 fp1 B1:Int) (W1:Int->Int),Reach (aJ p b first second) ⟨adr p b first second G 0,sp,fp',W,st.out⟩ ⟨adr p b first second G 1,sp1,fp1,W1,st.out⟩->sp1+C'.J1=B1->(C'.J8=true->fp1=B1)->jx C' B1=sp+b_ C.p g'->(B1=sp-1\/B1=sp)->(∀a,B1-C'.J1<=a->a<B1->W1 a=0)->(∀a,sp<=a->W1 a=W a)->(if C'.J8=true then W1 (B1+1)else W1 B1)=W sp->(if C'.J8=true then W1 B1 else fp1)=fp'->
   ∃W',Reach (aJ p b first second) ⟨adr p b first second G 0,sp,fp',W,st.out⟩ ⟨W sp,sp+b_ C.p g',fp',W',O5.out⟩/\W' (sp+b_ C.p g')=v/\∀a,sp+b_ C.p g'<a->W' a=W a:=by
  intro sp1 fp1 B1 W1 r1 e1 e2 e3 e4 z1 z2 e5 e6
  obtain⟨y,ry,py⟩:=hL G g' _ e _ (g'+1) calls _ st O5 v sp1 fp1 B1 W1 hS (Nat.lt_succ_self _) o_ QS O2 (fun j hj=>by
   rw[VE j];have XN:j<(a_ C'.p (g':Int)).length:=hj;unfold gd jl eI;rw[show(aO C' g').J9=true from rfl,l6,b9 rfl];unfold ba at Tp;rw[b9 (show(aO C' g').J9=true from rfl)]at Tp;have ad8:((a_ C'.p (g':Int)).length:Int)-C'.args<=C'.J1:=Tp;by_cases XK:(j:Int)<C'.args
   ·rw[b9 (by simpa using XK),b9 o_,e3,z2 _ o_];exact RW j o_
   ·rw[b8 (by simpa using XK),b8 o_]
    exact z1 _ g_ g_) ⟨e2,o_,YC,g_⟩ e1
  rw[hH1]at ry;obtain⟨o1,o2,o3,o4,o5⟩:=py.o rfl;have Sq:=py.out;obtain⟨ypc,ysp,yfp,yW,yout⟩:=y;dsimp only at o1 o2 o3 o4 o5 Sq ry;rw[e5]at o1;rw[e6]at o3;rw[e3]at o2 o4 o5;subst o1;subst o2;subst o3;subst Sq;exact⟨yW,r1.trans ry,o4,fun a ha=>by rw[o5 a ha,z2 a o_]⟩
 cases SH:C'.J8 with
 | true=>
  rw[SH,b9 rfl,hwN]at O3;have r1:=Fv (sp:=sp) (fp:=fp') (W:=W) (out:=st.out) hF.h hF.lt O3 o_ o_;have TC:frI C'=1:=by unfold frI;rw[b9 SH]
  refine key _ _ (sp-1) _ r1 o_ (fun _=>rfl) (by unfold jx;omega) (.inl rfl) (fun a a1 a2=>b9 o_) (fun a a1=>?_) ?_ ?_
  ·rw[b8 o_,fR o_]
  ·rw[b9 SH,b8 o_,fR o_,show sp-1+1=sp by omega]
  ·rw[b9 SH,b8 o_,jy]
 | false=>
  have hn:¬C'.J8=true:=by rw[SH];simp
  rw[b8 hn,hwN]at O3;have r1:=wQ (sp:=sp) (fp:=fp') (W:=W) (out:=st.out) hF.h hF.lt O3 o_ o_;have TC:frI C'=0:=by unfold frI;rw[b8 hn]
  refine key _ _ sp _ r1 o_ (fun h=>absurd h hn) (by unfold jx;omega) (.inr rfl) (fun a a1 a2=>b9 o_) (fun a a1=>b8 o_) ?_ ?_
  ·rw[b8 hn,b8 o_]
  ·rw[b8 hn]
theorem Mw (SJ:∀G g',(aq p)[G]?=some g'->∃C',Fn p b first second G g' C')(hL:uU p b first second lim n){C:Cx}(hp:C.p=foldIf p b){calls:List Int}{k:Nat}{B fp:Int}(fr:Fr C calls.length B fp):OU p b first second C (bE (foldIf p b) lim n calls k) (B-149):=by
 intro g' G av st O5 v sp fp' W SB hG U8 QS TQ hhi RW;unfold bE at QS;split at QS
 ·cases QS
 rename_i h6;have YC:=fr.c6;have acT:=fr.lo;exact BE SJ hL hp (calls:=calls++[(k:Int)]) (by rw[c7,C2];omega) SB hG U8 QS (by rw[c7,C2];omega) hhi RW
theorem LW (hL:uU p b first second lim n){F g:Nat}{Q:Lc}{e lev:Nat}(hS:Sx p b first second F g Q e lev){calls:List Int}{k:Nat}{B fp:Int}(fr:Fr Q.C calls.length B fp):ON p b first second F Q.C Q.rep Q.x Q.ins k (bE (foldIf p b) lim n calls k) B fp (Q.base+21):=by
 intro g' av st O5 v sp d W s SB hB hm QG QE U8 QS QM hd VD RW;have hC:=hS.hF.hC;have WL:=hC.J1;obtain⟨rB1,_⟩:=eM hB;have hin:=hC.inl;have R8:=hS.lvl;obtain⟨UY,rfl⟩:∃l,lev=l+1:=⟨lev-1,o_⟩;have af0:=hS.dm;have SI:Q.C.J1<=Q.base:=by rcases hS.base with h|h<;>omega
 have X6:=CxOk.b_ hC g';unfold bE at QS;split at QS
 ·cases QS
 rename_i h6;have YC:=fr.c6;have acT:=fr.lo;have XR:=fr.rng hC;have hx:=hS.ok.hx;have hy:=jg hC hx k SB;obtain⟨e',Rd,e2,e3,e4,_⟩:=hy.endE hC;have aeI:h_ Q.C.p g'=some e':=Rd;have QY:g'<e':=e2;obtain⟨hL8,hLa⟩:=cW hC SB;rw[hS.rep]at hm QG QE⊢
 generalize hq:(⟨Q.C,bg Q.C UY,bF Q.C Q.x k g',Q.ins++[g'],d-b_ Q.C.p g',bu Q.C Q.x k (d-b_ Q.C.p g') (di Q.C Q.x k g' d s)⟩:Lc)=Q2 at *
 have Xc:Q2.Ok e':=by rw[<-hq];exact⟨hC,hy,Rd,Dg hC _ hy⟩
 have hl:=Lc.lines_eq Xc;have c2:Q2.C=Q.C:=by rw[<-hq]
 have x2:Q2.x=bF Q.C Q.x k g':=by rw[<-hq]
 have s2:Q2.s=bu Q.C Q.x k (d-b_ Q.C.p g') (di Q.C Q.x k g' d s):=by rw[<-hq]
 have b2:Q2.base=d-b_ Q.C.p g':=by rw[<-hq]
 have i2:Q2.ins=Q.ins++[g']:=by rw[<-hq]
 have r2:Q2.rep=bg Q.C UY:=by rw[<-hq]
 have O6:bg Q.C (UY+1) Q.x Q.ins k g' d s=⟨patchL (Q2.LL (e'+1)).g.I8 (Q2.Hd (e'+1)) (Q2.LL (e'+1)).lv,(Q2.LL (e'+1)).g.J4,(Q2.LL (e'+1)).g.start⟩:=by show fH Q.C (aZ Q.C (bg Q.C UY)) Q.x Q.ins k g' d s=_;unfold fH;rw[c2,x2,s2,b2,i2,r2]at hl;rw[hl];rfl
 rw[O6]at hm QG QE⊢;dsimp only at hm QG QE⊢;rw[eH]at QG QE⊢;have hHd:(Q2.LL (e'+1)).g.I8.length=Q2.Hd (e'+1):=rfl;rw[hHd]at QG QE⊢;have gpre:=MU (C:=Q.C) (x:=Q.x) (line:=k) g' d s;have gsp:=Fw (C:=Q.C) (x:=Q.x) (line:=k) (d-b_ Q.C.p g') (di Q.C Q.x k g' d s);have gst:=Lc.fin_start Xc;rw[s2]at gst;have ags:=gpre.1.px.le;have TH:=gsp.px.le;have VG:=gst.px.le;rw[hHd]at VG
 have XW:∀j∈(Q2.LL (e'+1)).lv,((bu Q.C Q.x k (d-b_ Q.C.p g') (di Q.C Q.x k g' d s)).I8.length:Int)<=j/\opL (Q2.LL (e'+1)).g.I8 j.toNat=some ⟨10,0⟩:=fun j hj=>by
  obtain⟨r,_,_,_,_,_,h1,h2,h3⟩:=Lc.fin_lv Xc hj;rw[s2]at h3;rw[h1]at h3⊢;rw[e7];exact⟨h3,h2⟩
 have WC:Sx p b first second F g Q2 e' UY:=by
  refine⟨by rw[c2];exact hS.hF,Xc,by rw[r2,c2],by rw[i2,c2,c7,C2];omega,.inr ⟨by rw[x2];rfl,by rw[b2,c2];omega⟩,by rw[b2];omega,by rw[c2];exact hm,?_,fun i h1 h2=>?_,o_,fun _=>o_⟩
  ·have Wa:=gpre.2;have U2:=gsp.J4;have hm3:=gst.J4;rw[c2,x2];show ba Q.C Q.x+((a_ Q.C.p (g':Int)).length:Int)<=Q.C.J1;omega
  ·rw[s2]at h1;rw[QE i o_ h2];split
   ·rename_i RY;have h3:=(XW _ RY).2;rw[e7]at h3;rw[JZ _ h3,b9 RY]
   ·rename_i RY;exact zm _ RY
 have X4:=WC.top;rw[c2,x2]at X4;have aej:ba Q.C Q.x+((a_ Q.C.p (g':Int)).length:Int)<=Q.C.J1:=X4;have Xh:=(mR hC hx).1;have WO:(bF Q.C Q.x k g').J9=false:=rfl;have TC:(bF Q.C Q.x k g').first=ba Q.C Q.x:=rfl;have hv:=rV (C:=Q.C) (B:=B) WO;have Vq:Px (bu Q.C Q.x k (d-b_ Q.C.p g') (di Q.C Q.x k g' d s)).I8 (patchL (Q2.LL (e'+1)).g.I8 (Q2.Hd (e'+1)) (Q2.LL (e'+1)).lv):=Px.patch _ gst.px (fun j hj=>(XW j hj).1);have gz:=tY (C:=Q.C) (y:=bF Q.C Q.x k g') (chain:=Q.x.I9) (l:=(k:Int)) (d:=d-b_ Q.C.p g') ((a_ Q.C.p (g':Int)).length-b_ Q.C.p g') (b_ Q.C.p g') (bD Q.C (bF Q.C Q.x k g') Q.x.I9 k (b_ Q.C.p g') d ⟨s.I8,max s.J4 (ba Q.C Q.x+(a_ Q.C.p (g':Int)).length),s.start⟩);have RG:di Q.C Q.x k g' d s=cj Q.C (bF Q.C Q.x k g') Q.x.I9 k (d-b_ Q.C.p g') ((a_ Q.C.p (g':Int)).length-b_ Q.C.p g') (b_ Q.C.p g') (bD Q.C (bF Q.C Q.x k g') Q.x.I9 k (b_ Q.C.p g') d ⟨s.I8,max s.J4 (ba Q.C Q.x+(a_ Q.C.p (g':Int)).length),s.start⟩):=rfl;rw[<-RG]at gz;have YQ:=gz.px.le;obtain⟨W1,a1,a2,a3⟩:=zL (out:=st.out) hS.hF fr WO (by rw[TC];omega) (b_ Q.C.p g') d sp ⟨s.I8,max s.J4 (ba Q.C Q.x+(a_ Q.C.p (g':Int)).length),s.start⟩ W (fun i i1 i2=>QE i i1 i2) (gz.px.trans (gsp.px.trans Vq)) o_ QM o_ o_ (by rw[TC];omega);have gs0:=pQ (C:=Q.C) (y:=bF Q.C Q.x k g') (chain:=Q.x.I9) (l:=(k:Int)) (b_ Q.C.p g') d ⟨s.I8,max s.J4 (ba Q.C Q.x+(a_ Q.C.p (g':Int)).length),s.start⟩;have Su:=gs0.px.le;dsimp only at Su;obtain⟨W2,c1,c3,c4⟩:=Bx (out:=st.out) (chain:=Q.x.I9) (line:=(k:Int)) hS.hF fr WO (by rw[TC];omega) (sp+b_ Q.C.p g') (show sp+b_ Q.C.p g'+(d-b_ Q.C.p g')=B by omega) o_ o_ ((a_ Q.C.p (g':Int)).length-b_ Q.C.p g') (b_ Q.C.p g') (bD Q.C (bF Q.C Q.x k g') Q.x.I9 k (b_ Q.C.p g') d ⟨s.I8,max s.J4 (ba Q.C Q.x+(a_ Q.C.p (g':Int)).length),s.start⟩) W1 (fun i i1 i2=>QE i o_ i2) (by rw[<-RG];exact gsp.px.trans Vq) (by rw[<-RG];omega) (by rw[TC];omega);rw[<-RG]at c1
 have r3:Reach (aJ p b first second) ⟨adr p b first second F (di Q.C Q.x k g' d s).I8.length,sp+b_ Q.C.p g',fp,W2,st.out⟩ ⟨adr p b first second F (bu Q.C Q.x k (d-b_ Q.C.p g') (di Q.C Q.x k g' d s)).I8.length,sp+b_ Q.C.p g',fp,W2,st.out⟩:=by
  unfold bu at Vq TH VG⊢;split
  ·rename_i QJ;rw[b9 QJ]at Vq TH VG;have O3:=xN (fun i i1 i2=>QE i o_ i2) Vq VG;have:=wQ (n:=0) (sp:=sp+b_ Q.C.p g') (fp:=fp) (W:=W2) (out:=st.out) hS.hF.h hS.hF.lt O3 o_ o_;rw[Lc.emit_len];rw[show(fun a=>if sp+(b_ Q.C.p g':Int)-((0:Nat):Int)<=a/\a<sp+b_ Q.C.p g' then 0 else W2 a)=W2 from funext fun a=>b8 o_]at this;rwa [show sp+(b_ Q.C.p g':Int)-((0:Nat):Int)=sp+b_ Q.C.p g' by omega]at this
  ·exact Reach.refl _
 have hH1:Q2.Hd (g'+1)=(bu Q.C Q.x k (d-b_ Q.C.p g') (di Q.C Q.x k g' d s)).I8.length:=by unfold Lc.Hd;have:=Lc.LL_start Q2;rw[x2,s2]at this;rw[show(Q2.LL (g'+1))=_ from this];rfl
 have VE:∀j:Nat,atL (eB (a_ (foldIf p b) (g':Int)).length av) j=if j<av.length then atL av j else 0:=fun j=>by
  exact V121
 have x2f:Q2.x.f=g':=by rw[x2];rfl
 rw[<-x2f]at QS
 obtain⟨y,ry,py⟩:=hL F g Q2 e' UY (g'+1) (calls++[(k:Int)]) _ st O5 v (sp+b_ Q.C.p g') fp B W2 WC (by rw[x2f];omega) o_ (by rw[x2f]at QS⊢;exact QS) (by
   rw[x2];show _=(a_ Q.C.p (g':Int)).length;have hqq:foldIf p b=Q.C.p:=hS.hF.pq.symm;rw[hqq];unfold eB;simp
   omega) (fun j hj=>by
   rw[x2]at hj;have XN:j<(a_ Q.C.p (g':Int)).length:=hj;rw[VE j,c2,x2];by_cases XK:j<b_ Q.C.p g'
   ·rw[b9 o_,c4 _ (by rw[hv,TC];omega) (fun i i1 i2 hh=>by rw[hv,hv]at hh;omega),a2 j XK];exact RW j XK
   ·rw[b8 o_]
    exact c3 j o_ o_) (by rw[c2];exact⟨fr.fpB,by rw[c7,C2];omega,by rw[c7,C2];omega,fr.hi⟩) (by rw[b2];omega)
 rw[hH1]at ry;obtain⟨o1,o2,o3,o4,o5⟩:=py.i (by rw[x2];rfl);have Sq:=py.out;obtain⟨ypc,ysp,yfp,yW,yout⟩:=y;dsimp only at o1 o2 o3 o4 o5 Sq ry;subst o1;subst o2;subst o3;subst Sq;refine⟨yW,((a1.trans c1).trans r3).trans ry,o4,fun a h1 h2=>?_⟩
 have hnr:¬Reg Q2.C Q2.x B a:=by rw[c2,x2];unfold Reg CV;rw[WO,TC];simp;omega
 rw[o5 a h1 hnr,c4 a h1 (fun j j1 j2 hh=>by rw[hv,TC]at hh;omega),a3 a h1 (fun j hj hh=>by rw[hv,TC]at hh;omega)]
end
end
abbrev kS (s:List UInt8):Tr:= .str s
theorem keyS_iff {s:List UInt8}{q:Tr}:bH (kS s) q=true↔q=kS s:=by
 cases q with
 | str a=>
  constructor
  ·intro h;have:s=a:=z8 h;rw[this]
  ·intro h;injection h with h;subst h
   exact H0 _
 | _=>
  constructor
  ·intro h;cases h
  ·intro h;cases h
theorem sq (v:Int)(s:List UInt8):∀es:List (Tr×Int),bT (cQ es (kS s) v) (kS s)=some v
 | []=>by
  show cw (bH (kS s)) [(kS s,v)]=_
  rw[cw,keyS_iff.2 rfl];rfl
 |(q,x)::es=>by
  have ih:=sq v s es;show cw (bH (kS s)) (fM (bH (kS s)) (kS s) v ((q,x)::es))=_;rw[fM]
  cases hb:bH (kS s) q with|true=>rw[show(bif true then(q,v)::es else(q,x)::fM (bH (kS s)) (kS s) v es)=(q,v)::es from rfl,cw,hb];rfl|false=>rw[show(bif false then(q,v)::es else(q,x)::fM (bH (kS s)) (kS s) v es)=(q,x)::fM (bH (kS s)) (kS s) v es from rfl,cw,hb];exact ih
theorem mc {s s':List UInt8}(h:s≠s')(v:Int):∀es:List (Tr×Int),bT (cQ es (kS s) v) (kS s')=bT es (kS s')
 | []=>by
  show cw (bH (kS s')) [(kS s,v)]=cw _ [];rw[cw,cw]
  cases hb:bH (kS s') (kS s)with|true=>exact absurd (by have:=keyS_iff.1 hb;injection this) h|false=>rfl
 |(q,x)::es=>by
  have ih:=mc h v es;show cw (bH (kS s')) (fM (bH (kS s)) (kS s) v ((q,x)::es))=cw (bH (kS s')) ((q,x)::es);rw[fM]
  cases hb:bH (kS s) q with
  | true=>
   rw[show(bif true then(q,v)::es else(q,x)::fM (bH (kS s)) (kS s) v es)=(q,v)::es from rfl,cw,cw]
   cases Rb:bH (kS s') q with|true=>exact absurd (by have h1:=keyS_iff.1 hb;have h2:=keyS_iff.1 Rb;rw[h1]at h2;injection h2) h|false=>rfl
  | false=>
   rw[show(bif false then(q,v)::es else(q,x)::fM (bH (kS s)) (kS s) v es)=(q,x)::fM (bH (kS s)) (kS s) v es from rfl,cw,cw]
   cases bH (kS s') q with|true=>rfl|false=>exact ih
theorem Db {l:List (List UInt8)}:∀{n i:Nat} {s:List UInt8},eQ l n s=some i->n<=i/\l[i-n]?=some s:=by
 induction l with
 | nil=>intro n i s h;rw[eQ]at h;cases h
 | cons x l ih=>
  intro n i s h;rw[eQ]at h;split at h
  ·rename_i hx;injection h with h;subst h;exact⟨d7 _,by rw[v6,f9,z8 hx]⟩
  ·obtain⟨h1,h2⟩:=ih h;exact⟨o_,by rw[show i-n=(i-(n+1))+1 by omega,j8];exact h2⟩
theorem Hi {l:List (List UInt8)}:∀{n i:Nat} {s:List UInt8},eQ l n s=some i->∀j,n<=j->j<i->l[j-n]?≠some s:=by
 induction l with
 | nil=>intro n i s h;rw[eQ]at h;cases h
 | cons x l ih=>
  intro n i s h j h1 h2;rw[eQ]at h;split at h
  ·injection h with h;omega
  ·rename_i hx;rcases Nat.eq_or_lt_of_le h1 with rfl|O4
   ·rw[v6,f9];intro e;injection e with e;exact hx (by rw[e];simp)
   ·rw[show j-n=(j-(n+1))+1 by omega,j8];exact ih h j o_ h2
def VarsM (L:List (List UInt8))(vals:List Int)(es:List (Tr×Int)):Prop:=∀(i:Nat) (nm:List UInt8),eQ L 0 nm=some i->kD (bT es (kS nm))=atL vals i
theorem Lv {l:List Int}{i j:Nat}{v:Int}(hi:i<l.length):atL (l.set i v) j=if j=i then v else atL l j:=by
 unfold atL;rw[E4];by_cases h:i=j
 ·subst h;rw[b9 rfl,b9 hi,b9 rfl];rfl
 ·rw[b8 h,b8 (fun e=>h e.symm)]
theorem VarsM.set {L:List (List UInt8)}{vals:List Int}{es:List (Tr×Int)}(h:VarsM L vals es){nm:List UInt8}{i:Nat}(hi:eQ L 0 nm=some i)(hl:i<vals.length)(v:Int):VarsM L (vals.set i v) (cQ es (kS nm) v):=by
 intro j Zs hj;rw[Lv hl];by_cases e:nm=Zs
 ·subst e;rw[hi]at hj;injection hj with hj;rw[b9 hj.symm,sq];rfl
 ·rw[mc e,h j Zs hj,b8];intro e2;subst e2;have h1:=(Db hi).2;have h2:=(Db hj).2;rw[h1]at h2;injection h2 with h2;exact e h2
def FillM (A:List (List UInt8))(args:List Int)(k:Nat)(es:List (Tr×Int)):Prop:=(∀i nm,i<k->A[i]?=some nm->kD (bT es (kS nm))=atL args i)/\∀nm,nm∉A.take k->kD (bT es (kS nm))=0
theorem FillM.zero (A:List (List UInt8))(args:List Int):FillM A args 0 []:=⟨fun i nm h=>o_,fun nm _=>rfl⟩
theorem AW {l:List (List UInt8)}:∀(n k:Nat),vh l n k=true->∀(i j:Nat) (s:List UInt8),i<j->k<=j->j<k+n->l[j]?=some s->l[i]?≠some s
 | 0,k,_,i,j,s,_,h1,h2,_=>o_
 | n+1,k,h,i,j,s,SP,h1,h2,hj=>by
  rw[vh]at h;split at h
  ·rename_i t ht;split at h
   ·rename_i hc;rcases Nat.eq_or_lt_of_le h1 with rfl|O4
    ·rw[ht]at hj;injection hj with hj;subst hj;intro hi
     have hm:t∈l.take k:=by rw[u3];exact⟨i,by rw[n7,b9 SP];exact hi⟩
     have:=hc.2;rw[A4.2 hm]at this
     cases this
    ·exact AW n (k+1) h i j s SP o_ o_ hj
   ·cases h
  ·rename_i ht;rw[F1]at ht
   have:j<l.length:=by
    rcases n5 j l.length with h'|h'
    ·exact h'
    ·rw[e9 h']at hj;cases hj
   omega
theorem Dt {l:List (List UInt8)}(h:jI l=true){i j:Nat}{s:List UInt8}(SP:i<j)(hj:l[j]?=some s):l[i]?≠some s:=by
 unfold jI at h;rw[d5]at h
 have hl:j<l.length:=by
  rcases n5 j l.length with h'|h'
  ·exact h'
  ·rw[e9 h']at hj;cases hj
 exact AW l.length 0 h.1 i j s SP o_ o_ hj
theorem FillM.step {A:List (List UInt8)}{args:List Int}{k:Nat}{es:List (Tr×Int)}(hA:jI A=true)(h:FillM A args k es){nm:List UInt8}(hk:A[k]?=some nm):FillM A args (k+1) (cQ es (kS nm) (atL args k)):=by
 obtain⟨h1,h2⟩:=h;refine⟨fun i Zs hi hn=>?_,fun Zs hn=>?_⟩
 ·by_cases e:i=k
  ·subst e;rw[hk]at hn;injection hn with hn;subst hn;rw[sq];rfl
  ·rw[mc (fun e2=>by subst e2;exact Dt hA (show i<k by omega) hk hn)];exact h1 i Zs o_ hn
 ·rw[A0,hk]at hn;simp only[Option.toList,f0,t6,not_or]at hn;rw[mc (fun e=>hn.2 e.symm)];exact h2 Zs hn.1
theorem FillM.vars {A L:List (List UInt8)}{args:List Int}{es:List (Tr×Int)}(h:FillM A args A.length es)(hp:A <+:L)(hl:args.length=A.length):VarsM L (eB L.length args) es:=by
 obtain⟨t,rfl⟩:=hp;intro i nm hi;have h1:=(Db hi).2;rw[u7]at h1;by_cases O4:i<A.length
 ·rw[l8 O4]at h1;rw[h.1 i nm O4 h1,eB];unfold atL;rw[l8 o_]
 ·rw[h.2 nm]
  ·have Rw:i<(A++t).length:=by
    rcases n5 i (A++t).length with h'|h'
    ·exact h'
    ·rw[e9 h']at h1;cases h1
   rw[eB];unfold atL;rw[m9 o_,G1,b9 o_];rfl
  ·rw[A3];intro hm;obtain⟨j,hj⟩:=u3.1 hm
   have Q0:j<A.length:=by
    rcases n5 j A.length with h'|h'
    ·exact h'
    ·rw[e9 h']at hj;cases hj
   exact Hi hi j o_ o_ (by rw[u7,l8 Q0];exact hj)
noncomputable section
section
variable {p:List Qt} {b:Ql} {first second lim:Int} {F g:Nat} {Q:Lc} {e lev:Nat}
theorem LC {i:Nat}(h:i<(aG p F b).length):∃o,opA p b F i=some o:=by obtain⟨it,Ry⟩:=ae h;exact⟨it.K0,by unfold opA;rw[Ry];rfl⟩
theorem Sx.lo (hS:Sx p b first second F g Q e lev){k:Nat}(h1:Q.x.f<k)(h2:k<=e+1):Q.s.I8.length<=Q.Hd k:=by
 have e0:Q.Hd (Q.x.f+1)=Q.s.I8.length:=by unfold Lc.Hd;rw[Lc.LL_start];rfl
 rw[<-e0];exact Lc.hd_mono hS.ok o_ o_ h2
theorem Sx.line_op (hS:Sx p b first second F g Q e lev){k i:Nat}(h1:Q.x.f<k)(h2:k<=e)(h3:Q.Hd k<=i)(h4:i<Q.Hd (k+1))(h5:jumps Q.C.p k->i≠Q.Hd (k+1)-1)(h6:j_ Q.C.p k=6->Q.x.J9=false->i≠Q.Hd (k+1)-1):opA p b F i=opL (Q.LL (k+1)).g.I8 i:=by
 have hm:=Lc.hd_mono hS.ok (i:=k+1) (k:=e+1) o_ o_ (d7 _);have TQ:=hS.lo h1 o_;rw[hS.agree i o_ o_,b8,Lc.fin_line hS.ok h1 h2 h3 h4 h5];intro RY;obtain⟨r,r1,r2,r3,r4,r5,r6,_⟩:=Lc.fin_lv hS.ok RY;rcases y7 r k with hh|hh|hh
 ·have:=Lc.hd_mono hS.ok (i:=r+1) (k:=k) o_ o_ o_;omega
 ·subst hh;have:=h6 r3 r4;omega
 ·have:=Lc.hd_mono hS.ok (i:=k+1) (k:=r) o_ o_ o_;omega
theorem Sx.jump_op (hS:Sx p b first second F g Q e lev){k:Nat}(h1:Q.x.f<k)(h2:k<e)(hj:jumps Q.C.p k):∃t:Nat,plN Q.C.p k=(t:Int)/\k<t/\t<e/\opA p b F (Q.Hd (k+1)-1)=some ⟨if j_ Q.C.p k=4 then 10 else 11,(Q.Hd (t+1):Int)⟩/\Q.Hd k<Q.Hd (k+1):=by
 obtain⟨t,t1,t2,t3,t4⟩:=Lc.fin_jump hS.ok h1 h2 hj;have hI:=Lc.inv_all hS.ok (e+1) o_ (d7 _);have hn:=((hI.one k h1 o_).new hj).1;have hm:=Lc.hd_mono hS.ok (i:=k+1) (k:=e+1) o_ o_ (d7 _);have TQ:=hS.lo h1 o_;refine⟨t,t1,t2,t3,?_,hn⟩;rw[hS.agree _ o_ o_,b8,t4];intro RY;obtain⟨r,r1,r2,r3,r4,r5,r6,_⟩:=Lc.fin_lv hS.ok RY;have P2:r≠k:=fun hh=>by subst hh;unfold jumps at hj;omega
 have:=Lc.last_ne hS.ok r1 h1 o_ o_ r5 hn P2;omega
theorem Sx.lv_op (hS:Sx p b first second F g Q e lev){k:Nat}{ln:Qt}(h1:Q.x.f<k)(h2:k<e)(hk:Q.C.p[k]?=some ln)(h6:ln.J0=6)(ho:Q.x.J9=false):opA p b F (Q.Hd (k+1)-1)=some ⟨10,(Q.Hd (e+1):Int)⟩:=by have RY:=Lc.lv_has hS.ok h1 h2 hk h6 ho;obtain⟨r,r1,r2,r3,r4,r5,r6,_,r8⟩:=Lc.fin_lv hS.ok RY;have hm:=Lc.hd_mono hS.ok (i:=r+1) (k:=e+1) o_ o_ (d7 _);rw[hS.agree _ o_ o_,b9 RY]
theorem Sx.lastHd (hS:Sx p b first second F g Q e lev):Q.Hd e<Q.Hd (e+1):=by obtain⟨its,e1,e2,_⟩:=Lc.last_step hS.ok;unfold Lc.Hd;rw[e1,c7];have:=congrArg List.length e2;rw[d9,d6]at this;omega
theorem Sx.head_op (hS:Sx p b first second F g Q e lev){k:Nat}(h1:Q.x.f<k)(h2:k<=e):∃o,opA p b F (Q.Hd k)=some o:=by have:=Lc.hd_mono hS.ok (i:=k) (k:=e) h1 h2 o_;have:=hS.lastHd;have:=hS.room;exact LC o_
theorem IL {C:Cx}{x:Sc}{c i:Nat}{B fp sp:Int}{W:Int->Int}{out:List Int}{pcE:Int}(hF:Fn p b first second F g C)(fr:Fr C c B fp)(ho:x.J9=true)(QM:sp+C.J1+1=B)(O3:opA p b F i=some (if C.J8=true then⟨14,C.args⟩else⟨16,C.args+16*C.J1⟩)):
  ∃y,Reach (aJ p b first second) ⟨adr p b first second F i,sp,fp,W,out⟩ y/\Post C x B (sp+1) fp W pcE (W sp) y out:=by
 have hr:=fr.rng hF.hC;have ha:=hF.hC.args;have hw:=hF.hC.J1;have Sr:=hF.J1;have hhi:=fr.hi;obtain⟨n,hn⟩:=i7 ha.1;obtain⟨w,hwN⟩:=i7 hw.1
 cases hf:C.J8 with
 | true=>
  rw[b9 hf,hn]at O3;have Ta:=fr.fpB hf;subst Ta;have TC:frI C=1:=by unfold frI;rw[b9 hf]
  have hT:jx C fp=fp+1+n:=by unfold jx;omega
  have r:=EZ (sp:=sp) (fp:=fp) (W:=W) (out:=out) hF.h hF.lt O3 o_ o_ o_ o_;refine⟨_,r,rfl,fun _=>?_,fun h=>by rw[ho]at h;cases h⟩;rw[b9 hf,b9 hf,hT]
  exact⟨rfl,rfl,rfl,jy,fun a h=>fR o_⟩
 | false=>
  have SX:¬C.J8=true:=by rw[hf];simp
  rw[b8 SX,hn,hwN]at O3;have TC:frI C=0:=by unfold frI;rw[b8 SX]
  have hT:jx C B=sp+1+w+n:=by unfold jx;omega
  have r:=DG (sp:=sp) (fp:=fp) (W:=W) (out:=out) hF.h hF.lt (n:=n) (w:=w) o_ O3 o_ o_;refine⟨_,r,rfl,fun _=>?_,fun h=>by rw[ho]at h;cases h⟩;rw[b8 SX,b8 SX,hT,show B=sp+1+w by omega];exact⟨rfl,rfl,rfl,jy,fun a h=>fR o_⟩
theorem PF (hS:Sx p b first second F g Q e lev):0<=CV Q.x/\CV Q.x<=ba Q.C Q.x:=by
 have h1:=(mR hS.ok.hC hS.ok.hx).1;have h2:=hS.ok.hx.first;unfold CV;split
 ·omega
 ·rename_i ho
  unfold ba at *
  rw[b8 ho]at *
  omega
theorem Ly {k:Nat}{ln:Qt}(hk:Q.C.p[k]?=some ln)(hS:Sx p b first second F g Q e lev)(h1:Q.x.f<k)(h2:k<e)(TY:ln.J0=3\/ln.J0=5){t:Nat}(ht:plN Q.C.p k=(t:Int))(UQ:k<t):skipAt Q.C.p k=t:=by
 have T4:=aL hk;unfold skipAt
 cases QP:i_ Q.C.p k with
 | some j=>
  obtain⟨z,_,hz,hz3,_⟩:=aP QP;rw[hk]at hz;injection hz with hz;subst hz;have hE:bi Q.C.p (k:Int)=(j:Int):=by rw[bZ];exact aU QP
  have Vh:eV Q.C.p k= -(j:Int):=by unfold eV;rw[b8 (show ¬j_ Q.C.p k=4 by omega),hE,b9 (show j_ Q.C.p k=3/\0<=(j:Int) from⟨o_,o_⟩)]
  unfold plN at ht;rw[Vh,b8 o_]at ht;dsimp only
  omega
 | none=>
  have hE:bi Q.C.p (k:Int)= -1:=by rw[bZ,QP];rfl
  have Vh:eV Q.C.p k=bA Q.C.p (k:Int)+1:=by unfold eV;rw[b8 (show ¬j_ Q.C.p k=4 by omega),hE,b8 (show ¬(j_ Q.C.p k=3/\(0:Int)<=-1) by omega)]
  unfold plN at ht;rw[Vh]at ht;dsimp only;unfold dq;have QY:=gG Q.C.p k;rw[bc]at ht QY
  cases Tm:h_ Q.C.p k with
  | none=>
   rw[Tm]at ht;simp only[cn]at ht
   omega
  | some m=>rw[Tm,show cn (some m)=(m:Int) from rfl]at ht;show m=t;rw[b9 o_]at ht;omega
theorem MX {k:Nat}{ln:Qt}(hk:Q.C.p[k]?=some ln)(hS:Sx p b first second F g Q e lev)(h4:ln.J0=4){t:Nat}(ht:plN Q.C.p k=(t:Int))(UQ:k<t):dq Q.C.p (f_ Q.C.p k)=t:=by
 have T4:=aL hk;unfold plN eV at ht;rw[b9 (show j_ Q.C.p k=4 by omega)]at ht;have QY:=gG Q.C.p (f_ Q.C.p k);unfold dq;rw[bc]at ht QY
 cases Tm:h_ Q.C.p (f_ Q.C.p k)with
 | none=>
  rw[Tm]at ht;simp only[cn]at ht
  omega
 | some m=>rw[Tm,show cn (some m)=(m:Int) from rfl]at ht;show m=t;rw[b9 o_]at ht;omega
theorem HR (SJ:∀G g',(aq p)[G]?=some g'->∃C',Fn p b first second G g' C')(Si:ak (foldIf p b)=true){n:Nat}(hL:uU p b first second lim n):uU p b first second lim (n+1):=by
 intro F g Q e lev k calls vals st O5 v sp fp B W hS h1 h2 P0 RP QN fr QM;have hC:=hS.hF.hC;have hq:foldIf p b=Q.C.p:=hS.hF.pq.symm;obtain⟨ln,hk⟩:=Lc.line_at hS.ok h2;have T4:=aL hk;have hr:=fr.rng hC;have WL:=hC.J1;have SI:Q.C.J1<=Q.base:=by rcases hS.base with h|h<;>omega
 have VD:=hS.dm;have XC:=fQ hC hS.ok.hx hS.ok.he o_ h2 hk;obtain⟨kl,kh,_,kt,kx⟩:=hC.line k ln hk;obtain⟨Xh,X8⟩:=PF hS;have Rs:=hS.ok.hx.loc;have SG:(foldIf p b)[k]?=some ln:=by rw[hq];exact hk
 have XD:=Lc.hd_mono hS.ok (i:=k) (k:=k+1) h1 o_ o_;have hme:=Lc.hd_mono hS.ok (i:=k+1) (k:=e+1) o_ o_ (d7 _);have QG:=hS.room
 have lastop:∀{i:Nat} {o:Qv},opA p b F i=some o->i<(aG p F b).length:=fun{i o} h=>by
  unfold opA at h
  cases hx:(aG p F b)[i]? with
  | none=>rw[hx]at h;cases h
  | some x=>exact aE hx
 by_cases h7:ln.J0=7
 ·rw[dw SG h7,hq]at P0;by_cases P8:f_ Q.C.p k=Q.x.f
  ·
   rw[b9 P8]at P0;injection P0 with ev es;subst ev;subst es
   have QI:k=e:=by
    obtain⟨_,⟨o1,_⟩|⟨_,o3,_⟩⟩:=hS.ok.hx.own7 hC hS.ok.he h1 h2 hk h7
    ·exact o1
    ·omega
   subst QI;obtain⟨its,e1,e2,_⟩:=Lc.last_step hS.ok
   have O3:∀j,j<its.length->opA p b F (Q.Hd k+j)=(its.map (·.K0))[j]?:=fun j hj=>by
    have O2:Q.Hd (k+1)=Q.Hd k+its.length:=(by unfold Lc.Hd;rw[e1,c7]);rw[hS.line_op h1 (d7 _) o_ o_ (fun hh=>by unfold jumps at hh;omega) (fun hh=>o_),e1];unfold opL Lc.Hd;rw[m9 o_,D2,j9]
   have SR:=congrArg List.length e2;rw[d9,d6]at SR;have op0:=O3 0 o_;rw[e2,y5,f9]at op0;have r1:=oY (sp:=sp) (fp:=fp) (W:=W) (out:=st.out) hS.hF.h hS.hF.lt op0 o_ o_
   cases ho:Q.x.J9 with
   | true=>
    have Vb:Q.base=Q.C.J1:=by
     rcases hS.base with h|h
     ·exact h.2
     ·rw[ho]at h;cases h.1
    rw[ho]at e2 SR;rw[b9 rfl]at e2 SR;have op1:=O3 1 (by simp at SR;omega);rw[e2,j8,f9]at op1;obtain⟨y,r2,py⟩:=IL (x:=Q.x) (pcE:=adr p b first second F (Q.Hd (k+1))) (W:=upd W (sp-1) 0) (out:=st.out) (sp:=sp-1) hS.hF fr ho o_ op1;rw[jy]at py;refine⟨y,r1.trans r2,?_⟩;rw[show sp-1+1=sp by omega]at py
    exact py.keep hC o_ Xh (fun a a1 _=>fR o_)
   | false=>rw[ho]at e2 SR;simp at e2 SR;have O2:Q.Hd (k+1)=Q.Hd k+1:=(by unfold Lc.Hd;rw[e1,c7];omega);rw[O2];refine⟨_,r1,rfl,(fun h=>by rw[ho]at h;cases h),fun _=>⟨rfl,rfl,rfl,jy,fun a a1 _=>fR o_⟩⟩
  ·rw[b8 P8,<-hq]at P0
   have QI:k<e:=by
    obtain⟨_,⟨_,o1⟩|⟨o2,_⟩⟩:=hS.ok.hx.own7 hC hS.ok.he h1 h2 hk h7
    ·exact absurd o1 P8
    ·exact o2
   obtain⟨_,⟨_,o1⟩|⟨_,o3,o4,y0,RF,af4⟩⟩:=hS.ok.hx.own7 hC hS.ok.he h1 h2 hk h7
   ·exact absurd o1 P8
   have Vm:=aL RF;obtain⟨its,e1,e2,_⟩:=Lc.end_step hS.ok h1 QI hk h7;rw[hq]at P0;by_cases h5:j_ Q.C.p (f_ Q.C.p k)=5
   ·rw[b9 h5,<-hq]at P0;rcases e1 with⟨_,e1⟩|⟨_,it,e1,e3⟩
    ·exact absurd h5 e1
    subst e1;have hI:=Lc.inv_all hS.ok k h1 o_;have Zt:=hI.head (f_ Q.C.p k) o3 o4 o_ o_;have O2:Q.Hd (k+1)=Q.Hd k+1:=(by unfold Lc.Hd;rw[e2,bB,c7];rfl);obtain⟨x1,x2,x3,x4,_⟩:=Lc.plN_exit7 hS.ok h1 QI hk h7;have Rq:=hI.pos _ x1 x2 x3;have hIe:=Lc.inv_all hS.ok (e+1) o_ (d7 _);have hnw:=((hIe.one _ x1 o_).new x3).1;have hmx:=Lc.hd_mono hS.ok (i:=eU Q.C.p k+1) (k:=k) o_ o_ o_
    have O3:opA p b F (Q.Hd k)=some ⟨10,(Q.Hd (f_ Q.C.p k):Int)⟩:=by rw[hS.line_op h1 h2 (d7 _) o_ (fun hh=>by unfold jumps at hh;omega) (fun hh=>o_),e2,md,Rq,b8 o_,nj,b9 (by unfold Lc.Hd;rfl),e3,Zt]
    obtain⟨o',QL⟩:=hS.head_op o3 o_;have r1:=rn (sp:=sp) (fp:=fp) (W:=W) (out:=st.out) hS.hF.h hS.hF.lt O3 QL;rw[hq]at P0;rw[<-hq]at P0;obtain⟨y,r2,py⟩:=hL F g Q e lev (f_ Q.C.p k) calls vals st O5 v sp fp B W hS o3 o_ (by rw[hq]at P0⊢;exact P0) RP QN fr QM;exact⟨y,r1.trans r2,py⟩
   ·rw[b8 h5,<-hq]at P0;rcases e1 with⟨e1,_⟩|⟨e1,_⟩
    ·subst e1;have O2:Q.Hd (k+1)=Q.Hd k:=(by unfold Lc.Hd;rw[e2,bB,m7]);obtain⟨y,r2,py⟩:=hL F g Q e lev (k+1) calls vals st O5 v sp fp B W hS o_ o_ P0 RP QN fr QM;rw[O2]at r2;exact⟨y,r2,py⟩
    ·exact absurd e1 h5
 by_cases h4:ln.J0=4
 ·rw[eA SG h4,hq]at P0;have QI:k<e:=(hS.ok.hx.own4 hC hS.ok.he h1 h2 hk h4).2.2.2;obtain⟨t,t1,t2,t3,t4,t5⟩:=hS.jump_op h1 QI (.inr (.inl o_));have Tm:=MX hk hS h4 t1 t2;rw[Tm,<-hq]at P0;obtain⟨it,_,e2,_⟩:=Lc.else_step hS.ok h1 h2 hk h4;have O2:Q.Hd (k+1)=Q.Hd k+1:=by unfold Lc.Hd;rw[e2,bB,c7];rfl
  rw[O2,F8,b9 o_]at t4;obtain⟨o',QL⟩:=hS.head_op (k:=t+1) o_ o_;have r1:=rn (sp:=sp) (fp:=fp) (W:=W) (out:=st.out) hS.hF.h hS.hF.lt t4 QL;obtain⟨y,r2,py⟩:=hL F g Q e lev (t+1) calls vals st O5 v sp fp B W hS o_ o_ P0 RP QN fr QM;exact⟨y,r1.trans r2,py⟩
 by_cases TR:(st.J2.length:Int)=lim
 ·rw[eu SG h7 h4 TR]at P0;cases P0
 rw[eR SG h7 h4 TR]at P0
 have QI:k<e:=by
  rcases Nat.lt_or_eq_of_le h2 with h|h
  ·exact h
  ·subst h;obtain⟨le,P6,hl7⟩:=bn hS.ok.he;rw[hk]at P6;injection P6 with P6;subst P6;exact absurd hl7 h7
 obtain⟨q1,q2⟩:=mA (kx o_)
 have Rn:=Ev Si (f:=Q.x.f) (e:=e) (k:=k) (by
  rw[hq]
  exact⟨hS.ok.hx.fn,hS.ok.he,h1,h2⟩) SG QI
 have hkE:KnE Q.C Q.x.J3 (exL ln.L0).toks:=fun u hu=>by
  rw[<-q2]at hu;refine⟨fun hh=>?_,fun hh=>?_⟩
  ·have:=Rn.1.var u hu hh;rw[hq,<-Rs]at this;exact this
  ·have:=Rn.1.call u hu hh;rw[hq]at this;exact this
 cases RS:evE (foldIf p b) (a_ (foldIf p b) (Q.x.f:Int)) vals (bE (foldIf p b) lim n calls k) (exL ln.L0) ⟨st.out,st.J2++[calls++[(k:Int)]]⟩with
 | stop c s1=>rw[RS]at P0;cases P0
 | fuel=>rw[RS]at P0;cases P0
 | ok v1 st1=>
  rw[RS,Rr.bnd_ok]at P0;obtain⟨it,e1,e2,e3,e4,e5,e6⟩:=Lc.expr_step hS.ok h1 h2 hk h4 h7;have gx:=Lc.gE_px hS.ok k ln;have O2:Q.Hd (k+1)=(Lc.gE Q k ln).I8.length+1:=by unfold Lc.Hd;rw[e1,c7];rfl
  have XF:=Lc.most_mono hS.ok (i:=k+1) o_ (e-k) o_;rw[show k+1+(e-k)=e+1 by omega,e6]at XF;have E:Ec p b first second F g Q.C Q.x Q.ins B fp (Q.base+21) calls.length k Q.rep (bE (foldIf p b) lim n calls k) vals:=⟨hS.hF,hS.ok.hx,hS.ok.rep,fr,hS.top,o_,Mw SJ hL hS.hF.pq fr,LW hL hS fr⟩;rw[hq,<-Rs,<-hq]at RS;have X9:Q.Hd k<=(Lc.gE Q k ln).I8.length:=gx.px.le
  obtain⟨W1,r1,a2,a3⟩:=Ey E (exL ln.L0) Q.base sp v1 ⟨(Q.LL k).g.I8,(Q.LL k).g.J4,true⟩ ⟨st.out,st.J2++[calls++[(k:Int)]]⟩ st1 W q1 hkE SI (by rw[<-q2];omega) (B0 XF hS.J4) (by
   show(Lc.gE Q k ln).I8.length<_
   omega) (fun i i1 i2=>by
   have i1:Q.Hd k<=i:=i1;have i2:i<(Lc.gE Q k ln).I8.length:=i2;show opA p b F i=opL (Lc.gE Q k ln).I8 i
   rw[hS.line_op h1 h2 i1 o_ (fun _=>o_) (fun _ _=>o_),e1,nj,b8 o_]) (by rw[hq]at RS⊢;exact RS) QM QN
  have r1:Reach (aJ p b first second) ⟨adr p b first second F (Q.Hd k),sp,fp,W,st.out⟩ ⟨adr p b first second F (Lc.gE Q k ln).I8.length,sp-1,fp,W1,st1.out⟩:=r1;have Tl:=uX hS.hF hS.ok.hx hS.top (sp:=sp) o_ QN a3
  have kp:KeepR Q.C Q.x B sp W W1:=fun a h1 h2=>a3 a h1 (by
   unfold Reg at h2
   omega)
  have hHm:Q.Hd (k+1)-1=(Lc.gE Q k ln).I8.length:=o_
  have Yl:(jumps Q.C.p k->False)->(j_ Q.C.p k=6->Q.x.J9=true)->opA p b F (Lc.gE Q k ln).I8.length=some (Lc.lastOp Q k ln):=fun hj h6=>by
   rw[hS.line_op h1 h2 o_ o_ (fun hh=>(hj hh).elim) (fun hh ho=>by rw[h6 hh]at ho;cases ho),e1,nj,b9 rfl,e2]
  by_cases k6:ln.J0=6
  ·rw[b9 k6]at P0;injection P0 with ev es;subst ev;subst es
   cases ho:Q.x.J9 with
   | true=>
    have Vb:Q.base=Q.C.J1:=by
     rcases hS.base with h|h
     ·exact h.2
     ·rw[ho]at h;cases h.1
    have O3:=Yl (fun hj=>by unfold jumps at hj;omega) (fun _=>ho);unfold Lc.lastOp at O3;rw[b8 o_,b8 o_,b9 k6,b9 ho]at O3
    obtain⟨y,r2,py⟩:=IL (x:=Q.x) (pcE:=adr p b first second F (Q.Hd (e+1))) (W:=W1) (out:=st1.out) (sp:=sp-1) hS.hF fr ho o_ (by
     cases SH:Q.C.J8 with
     | true=>rw[SH]at O3;exact O3
     | false=>rw[SH]at O3;exact O3)
    rw[a2,show sp-1+1=sp by omega]at py
    exact⟨y,r1.trans r2,py.keep hC o_ Xh kp⟩
   | false=>have O3:=hS.lv_op h1 QI hk k6 ho;rw[hHm]at O3;obtain⟨o',QL⟩:=LC (hS.nx ho);have r2:=rn (sp:=sp-1) (fp:=fp) (W:=W1) (out:=st1.out) hS.hF.h hS.hF.lt O3 QL;refine⟨_,r1.trans r2,rfl,(fun h=>by rw[ho]at h;cases h),fun _=>⟨rfl,rfl,rfl,a2,fun a g1 g2=>kp a g1 g2⟩⟩
  rw[b8 k6]at P0;by_cases k1:ln.J0=1
  ·obtain⟨j,hj⟩:=Rn.2 k1;rw[hq,<-Rs]at hj;have Q0:=jp hj;have hjo:cN Q.x.J3 ln.J7=(j:Int):=(by unfold cN;exact aU hj);have O4:j<Q.x.J3.length:=o_;have O3:=Yl (fun hj=>by unfold jumps at hj;omega) (fun hh=>o_);unfold Lc.lastOp at O3;rw[b9 k1,hjo]at O3;obtain⟨va,vb,vc⟩:=Du (B:=B) hC hS.ok.hx hS.top O4;have hhi:=fr.hi;have htw:=hS.hF.J1;have htp:=hS.top;have r2:=uH (x:=Q.x) (W:=W1) (out:=st1.out) hS.hF fr O3 (show sp-1+(Q.base+1)=B by omega) o_ o_ ⟨o_,o_⟩;rw[a2,show sp-1+1=sp by omega,<-O2]at r2;have Sb:eD (foldIf p b) ln k v1=k+1:=(by unfold eD;rw[b8 o_]);have UG:ke ln st1 v1=st1:=(by unfold ke;rw[b8 o_]);have Uf:ou (a_ (foldIf p b) (Q.x.f:Int)) ln vals v1=vals.set j v1:=(by unfold ou;rw[b9 k1,hq,<-Rs,hj]);rw[Sb,UG,Uf]at P0
   obtain⟨y,r3,py⟩:=hL F g Q e lev (k+1) calls (vals.set j v1) st1 O5 v sp fp B (upd W1 (gd Q.C Q.x B j) v1) hS o_ o_ P0 (by rw[o8];exact RP) (fun i hi=>by
    rw[Lv o_];by_cases SP:i=j
    ·subst SP;rw[b9 rfl];exact jy
    ·rw[b8 SP,fR (fun hh=>SP (Mb hC hS.ok.hx hi O4 hh))]
     exact Tl i hi) fr QM
   refine⟨y,(r1.trans r2).trans r3,py.keep hC o_ Xh (kp.trans fun a g1 g2=>fR (fun hh=>g2 (hh▸va)))⟩
  have Uf:ou (a_ (foldIf p b) (Q.x.f:Int)) ln vals v1=vals:=by unfold ou;rw[b8 k1]
  rw[Uf]at P0;by_cases k2:ln.J0=2
  ·have O3:=Yl (fun hj=>by unfold jumps at hj;omega) (fun hh=>o_);unfold Lc.lastOp at O3;rw[b8 k1,b9 k2]at O3;have r2:=KB (sp:=sp-1) (fp:=fp) (W:=W1) (out:=st1.out) hS.hF.h hS.hF.lt O3 o_ o_;rw[a2,show sp-1+1=sp by omega,<-O2]at r2;have Sb:eD (foldIf p b) ln k v1=k+1:=(by unfold eD;rw[b8 o_]);have UG:ke ln st1 v1=⟨st1.out++[v1],st1.J2⟩:=(by unfold ke;rw[b9 k2]);rw[Sb,UG]at P0;obtain⟨y,r3,py⟩:=hL F g Q e lev (k+1) calls vals ⟨st1.out++[v1],st1.J2⟩ O5 v sp fp B W1 hS o_ o_ P0 RP Tl fr QM;exact⟨y,(r1.trans r2).trans r3,py.keep hC o_ Xh kp⟩
  have UG:ke ln st1 v1=st1:=by unfold ke;rw[b8 k2]
  rw[UG]at P0;have k35:ln.J0=3\/ln.J0=5:=o_;obtain⟨t,t1,t2,t3,t4,t5⟩:=hS.jump_op h1 QI aaY;rw[hHm,b8 o_]at t4;have SZ:=Ly hk hS h1 QI k35 t1 t2;obtain⟨o',QL⟩:=hS.head_op (k:=t+1) o_ o_;have r2:=Hr (sp:=sp-1) (fp:=fp) (W:=W1) (out:=st1.out) hS.hF.h hS.hF.lt t4 QL o_ o_;rw[a2,show sp-1+1=sp by omega]at r2;by_cases hz:v1=0
  ·rw[b9 hz]at r2;have Sb:eD (foldIf p b) ln k v1=t+1:=(by unfold eD;rw[b9 ⟨k35,hz⟩,hq,SZ]);rw[Sb]at P0;obtain⟨y,r3,py⟩:=hL F g Q e lev (t+1) calls vals st1 O5 v sp fp B W1 hS o_ o_ P0 RP Tl fr QM;exact⟨y,(r1.trans r2).trans r3,py.keep hC o_ Xh kp⟩
  ·rw[b8 hz,<-O2]at r2;have Sb:eD (foldIf p b) ln k v1=k+1:=(by unfold eD;rw[b8 (fun hh=>hz hh.2)]);rw[Sb]at P0;obtain⟨y,r3,py⟩:=hL F g Q e lev (k+1) calls vals st1 O5 v sp fp B W1 hS o_ o_ P0 RP Tl fr QM;exact⟨y,(r1.trans r2).trans r3,py.keep hC o_ Xh kp⟩
theorem zw (SJ:∀G g',(aq p)[G]?=some g'->∃C',Fn p b first second G g' C')(Si:ak (foldIf p b)=true):∀n,uU p b first second lim n
 | 0=>fun F g Q e lev k calls vals st O5 v sp fp B W hS h1 h2 P0=>by rw[bd]at P0;cases P0
 | n+1=>HR SJ Si (zw SJ Si n)
theorem PT (h:SpOk p b first second)(G g':Nat)(hG:(aq p)[G]?=some g'):∃C',Fn p b first second G g' C':=by
 have O4:=aE hG;obtain⟨g0,C,k1,k2,k3,k4,k5,k6,k7,k8,k9⟩:=lW (f:=(G:Int)) h.small h.prog h.build o_ o_;rw[e7,hG]at k1;injection k1 with k1;subst k1;have hw:Wd (ctx (foldIf p b) ((G:Int)).toNat g' b 0) C:=⟨by rw[k3];rfl,by rw[k4];rfl,by rw[k6];rfl,by rw[k5,k3];rfl⟩;have hcm:=Nw hw g';have hin:=k2.inl;have ha:=k2.args
 have Va:CxOk (ctx (foldIf p b) ((G:Int)).toNat g' b 0):=by refine⟨by have:=k2.len;rw[k3]at this;exact this,by have:=k2.small;rw[k3]at this;exact this,by have:=k2.line;rw[k3]at this;exact this,by have:=k2.fn;rw[k3]at this;exact this,?_,by show(0:Int)<=0/\(0:Int)<=1000;omega,by have:=k2.inl;rw[k4]at this;exact this⟩;rw[k5,k3]at ha;exact ha
 have SA:=(yI Va (show(0:Int)<=255 by omega) (g:=g') (by have hh:=k7;unfold bI at hh⊢;rw[k3]at hh;exact hh) rfl).2;exact⟨C,h,hG,k2,k3,k4,k5,k7,k8,by rw[hcm,k9];exact u6 _,by rw[k9];exact SA⟩
end
theorem Lj {p:List Qt}{b:Ql}{first second lim:Int}(h:SpOk p b first second){v:Int}{s':IS}(hr:iG p lim= .ok v s'):
  ∃m',Steps (aJ p b first second) (oo (aJ p b first second)) m'/\m'.L9=1/\m'.L6=s'.out/\m'.N8=v/\m'.L8=1199:=by
 have Si:ak (foldIf p b)=true:=by
  unfold foldIf;split
  ·exact yw h.prog
  ·exact h.prog
 have Uz:iG (foldIf p b) lim= .ok v s':=by
  unfold foldIf;split
  ·rw[KA h.prog];exact hr
  ·exact hr
 have hx:∃n,bd (foldIf p b) lim n [] 0 1 (eB (a_ (foldIf p b) 0).length []) is0= .ok v s':=by
  unfold iG at Uz;split at Uz
  ·exact⟨_,Uz⟩
  ·cases Uz
 obtain⟨n,hn⟩:=hx;obtain⟨y0,RF,hyk,_,hya⟩:=CC Si;have Wl:bI ⟨foldIf p b,b,false,0,0⟩ 0:=⟨y0,RF,hyk⟩;have VL:=Fz Wl
 have h00:(aq p)[0]?=some 0:=by
  rw[iC p b]at VL;have:iH (foldIf p b) 0=0:=by unfold iH;simp
  rw[this]at VL;exact VL
 have SJ:=PT h;have hL:=zw (lim:=lim) SJ Si n;have O4:0<(aq p).length:=aE h00;obtain⟨C0,hF⟩:=SJ 0 0 h00;have Tq:b_ (foldIf p b) 0=0:=by unfold b_;rw[RF];dsimp only;rw[hya];rfl
 have hS:=h.space
 have hn0:oo (aJ p b first second)=⟨dF p b first second 0,1199,1200,List.replicate 1200 0,[],0,0⟩:=by
  rw[oo,b9 hS]
  have he:(aJ p b first second).M2.headD 0=dF p b first second 0:=by have:=ov (p:=p) (b:=b) (first:=first) (second:=second) O4;rw[show(aJ p b first second).M2=entries p b first second from rfl,List.headD_eq_head?_getD,List.head?_eq_getElem?,this];rfl
  rw[he]
 obtain⟨W',r1,r2,_⟩:=BE (C:=C0) (calls:=[]) (av:=[]) (st:=is0) (sp:=1199) (fp':=1200) (W:=fun _=>0) (g':=0) (G:=0) SJ hL hF.pq s_ hF.fn h00 (by rw[hF.pq,Tq];rfl) hn s_ (by rw[hF.pq,Tq];decide) (fun j hj=>by rw[hF.pq,Tq]at hj;omega);rw[hF.pq,Tq]at r1 r2;have Tm:=wF h O4
 obtain⟨m',s1,s2⟩:=r1 (oo (aJ p b first second)) (by
  rw[hn0];refine⟨s_,(tv h O4).symm,rfl,rfl,rfl,fun a a0 a1=>?_,?_,fun _=>rfl⟩
  ·unfold fc;dsimp only;rw[G1,b9 o_]
  ·rw[b8 (by dsimp only;rw[tv h O4];omega)])
 refine⟨m',s1,?_,s2.out,?_,?_⟩
 ·have:=s2.st;simpa using this
 ·rw[s2.val rfl];exact r2
 ·have:=s2.sp;simpa using this
end
theorem xQ (s:QA):∀(n:Nat) (m:Qu),(il s n m).2<=n
 | 0,m=>by rw[fD (.inr rfl)];exact d7 _
 | n+1,m=>by
  by_cases h0:m.L9=0
  ·rw[qn h0];have:=xQ s n (nW m (fK s m));dsimp only;omega
  ·rw[fD (.inl h0)];exact v9 _
theorem MD {p:List Qt}{b:Ql}{first second lim:Int}(h:SpOk p b first second){v:Int}{s':IS}(hr:iG p lim= .ok v s')(n:Nat):
  ((il (aJ p b first second) n (oo (aJ p b first second))).1.L9=1/\(il (aJ p b first second) n (oo (aJ p b first second))).1.L6=s'.out/\(il (aJ p b first second) n (oo (aJ p b first second))).1.N8=v/\(il (aJ p b first second) n (oo (aJ p b first second))).1.L8=1199)\/(il (aJ p b first second) n (oo (aJ p b first second))).2=n:=by
 obtain⟨m',h1,h2,h3,h4,h5⟩:=Lj h hr;obtain⟨k,hk⟩:=h1.run;by_cases Rn:k<=n
 ·have e:=hk (n-k);rw[show k+(n-k)=n by omega,fD (m:=m') (.inl o_)]at e;rw[e];exact .inl ⟨h2,h3,h4,h5⟩
 ·refine .inr ?_;have e:=hk 0;rw[y5,fD (m:=m') (.inr rfl)]at e;have ha:=FE (s:=aJ p b first second) n (k-n) (oo (aJ p b first second));rw[show n+(k-n)=k by omega,e]at ha;have h1:=congrArg Prod.snd ha;dsimp only at h1;have l1:=xQ (aJ p b first second) n (oo (aJ p b first second));have l2:=xQ (aJ p b first second) (k-n) (il (aJ p b first second) n (oo (aJ p b first second))).1;omega
theorem Hs {p:List Qt}(hp:PgOk p)(h:ak p=true){lim:Int}(h0:0<=lim):(∃v s,iG p lim= .ok v s)\/(∃c s,iG p lim= .stop c s/\(c=1\/c=2)):=by obtain⟨n,hn⟩:=rz hp h h0;exact V54
theorem Pl {p:List Qt}{b:Ql}{first second:Int}(h:SpOk p b first second):∀e∈(aJ p b first second).M2,inI e:=fun e he=>by
 obtain⟨f,hf⟩:=u3.1 he;have P7:f<(aq p).length:=by have:=aE hf;rwa [show(aJ p b first second).M2=entries p b first second from rfl,ES]at this
 rw[show(aJ p b first second).M2=entries p b first second from rfl,ov P7]at hf;injection hf with hf;obtain⟨i,im,bs,hi⟩:=Cv h P7;have h1:=hi.entry;have h2:=hi.range;have h3:=hi.start;have h4:=hi.len;unfold inI;omega
theorem vD (code:List UInt8)(hl:code.length<=1048576):∃(p:List Qt) (a b:Ql),ak p=true/\aY a=true/\aY b=true/\aK 1048576 (.lst 4 (p.map Qt.tr))/\
  bh prog 39 [PX code] [] (.tup [.c (.t (.lst 4 (p.map Qt.tr))),.agg (a.tr.map .t),.agg (b.tr.map .t)]) []:=by
 have g0:=Ax code hl;have g1:=uk _ (Jl hl);obtain⟨h1,h2,h3,h4,h5⟩:=FR 5 _ (Jl hl)
 generalize lI 5 ⟨code,0,IE code⟩=R at *
 obtain⟨a,c2,ha,_,o2,g2⟩:=oe R.2 h4;obtain⟨b,c3,hb,_,o3,g3⟩:=oe c2 o2;refine⟨R.1,a,b,h1,ha,hb,zy h5 h2,?_⟩;refine ax hΓ aF func39 rfl d_ rfl rfl ?_;repeat' ((conv=>whnf);first|apply Wx|apply W6|apply oi|apply fi|intro h|exact Y8|refine e_ rfl ?_)
 refine cg (g0) ?_;repeat' ((conv=>whnf);first|apply Wx|apply W6|apply oi|apply fi|intro h|exact Y8|refine e_ rfl ?_)
 refine cg (g1) ?_;repeat' ((conv=>whnf);first|apply Wx|apply W6|apply oi|apply fi|intro h|exact Y8|refine e_ rfl ?_)
 refine cg (g2) ?_;repeat' ((conv=>whnf);first|apply Wx|apply W6|apply oi|apply fi|intro h|exact Y8|refine e_ rfl ?_)
 refine cg (g3) ?_;exact Z2
abbrev vIt (l:List Qs):AV:= .r (.c (.t (.lst 7 (l.map Qs.tr))))
theorem Q14{p:Prop}(h:p:=by exact⟨⟨by simp only[e8,d6,QK,Tj]<;>omega,by simp only[e8,d6,QK,Tj]<;>omega⟩⟩):p:=h
theorem ot (l:List Qs)(at0:Int)(hl:l.length<=2500)(h0:0<=at0/\at0<=200000)(hj:Di l)(hc:∀x∈l,x.N0.length<=1000):bh prog 158 [vIt l,tI .i64 at0] [] (.r (.c (.own (1,0,0)))) [((1,0,0),.dar 8 (aw ((dK l at0).map Qw.tr)) none)]:=by
 refine ax hΓ aF func158 rfl d_ rfl rfl ?_;have O2:(l.map Qs.tr).length=l.length:=s_;have Su:=oM at0 l;have P6:=fun k (h:k<=l.length)=>iw (at0:=at0) h
 generalize hS:bY at0 l=S at *
 have SU:atL S 0=at0:=by rw[<-hS];exact gq at0 l
 have hsu:=fun k x (h:l[k]?=some x)=>fg (at0:=at0) h;rw[hS]at hsu;repeat' ((conv=>whnf);first|apply Wx|apply W6|apply oi|apply fi|intro h|exact Y8|refine e_ rfl ?_)
 conv=>whnf
 refine⟨{k:Nat//k<=l.length},fun k=>⟨[(0,vIt l),(15,vIt l),(16,tI .i64 ((l.map Qs.tr).length:Int)),(17,tI .i64 (k.1:Int)),(7,tI .i64 (atL S k.1)),(6,.r (.c (.own (13,0,0)))),(5,.r (.c (.own (12,0,0))))],[((13,0,0),some (.arr true 1 ((S.take k.1).map aa))),((12,0,0),some (.arr true 8 []))],[13,12,0]⟩,fun k=>l.length-k.1,⟨0,o_⟩,?_,?_⟩
 ·repeat' ((conv=>whnf);first|apply Wx|apply W6|apply oi|apply fi|intro h|exact Y8|refine e_ rfl ?_)
  all_goals try exact⟨by rw[SU]⟩
 intro⟨k,hk⟩;dsimp only;have Wt:=P6 k hk;by_cases O4:k<l.length
 ·obtain⟨x,hx⟩:=ae O4;have hz:=iF x.K0.J5;have ho:=jN x.K0.J5;have Tg:=hsu k x hx;have hg:S[k]?=some (atL S k):=pZ o_;repeat' ((conv=>whnf);first|apply Wx|apply W6|apply oi|apply fi|intro h|refine⟨k,x.tr,rfl,ab hx,?_⟩|refine cl ho ?_|exact Y6|refine e_ rfl ?_)
  all_goals try exact Q2
  conv=>whnf
  refine⟨⟨k+1,o_⟩,?_,KD⟩;repeat' ((conv=>whnf);first|apply Wx|apply W6|apply oi|apply fi|intro h|exact Y9|refine e_ rfl ?_)
  all_goals try exact⟨by rw[cH hg,q8];rfl⟩
  all_goals try exact Q33
 ·have QV:k=l.length:=o_;subst QV;have hg:S[l.length]?=some (atL S l.length):=pZ o_;repeat' ((conv=>whnf);first|apply Wx|apply W6|apply oi|apply fi|intro h|exact Y6|refine e_ rfl ?_)
  all_goals try exact Q2
  conv=>whnf
  refine⟨{k:Nat//k<=l.length},fun k=>⟨[(0,vIt l),(36,vIt l),(37,tI .i64 ((l.map Qs.tr).length:Int)),(38,tI .i64 (k.1:Int)),(6,.r (.c (.own (35,0,0)))),(5,.r (.c (.own (12,0,0))))],[((35,0,0),some (.arr true 1 (S.map aa))),((12,0,0),some (.dar 8 (aw (((dK l at0).take k.1).map Qw.tr)) none))],[35,12,0]⟩,fun k=>l.length-k.1,⟨0,o_⟩,?_,?_⟩
  ·repeat' ((conv=>whnf);first|apply Wx|apply W6|apply oi|apply fi|intro h|exact Y8|refine e_ rfl ?_)
   all_goals exact⟨by rw[show [[Tr.int .i64 (atL S l.length)]]=[atL S l.length].map aa from rfl,<-q8,<-cH hg,gt o_]⟩
  intro⟨k,hk⟩;dsimp only;have P7:=dM l at0;have Tj:(aw (((dK l at0).take k).map Qw.tr)).length=k:=by rw[bX,d9,k0];omega
  have Zg:(S.map aa).length=l.length+1:=by rw[d9];exact Su
  have mg:∀j,j<=l.length->(S.map aa)[j]?=some (aa (atL S j)):=fun j hj=>by rw[j9,pZ o_];rfl
  by_cases O4:k<l.length
  ·obtain⟨x,hx⟩:=ae O4;have hxc:=hc x (c9 hx);have QK:(x.N0.map aa).length=x.N0.length:=s_;have Ti:=eF (at0:=at0) hx;rw[hS]at Ti;have RI:IntKind.i64.wrap ((k:Int)+1)=((k+1:Nat):Int):=(by rw[c8 _ o_];rfl);have S9:k<(S.map aa).length:=o_;have Rh:k+1<(S.map aa).length:=o_;have m0:=mg k o_;have m1:=mg (k+1) o_;have b1:=P6 (k+1) o_
   cases SQ:pm x with
   | true=>
    obtain⟨ja,jb⟩:=hj x (c9 hx) SQ;have ha:x.K0.L2=((x.K0.L2.toNat:Nat):Int):=(C9 ja).symm;have QZ:x.K0.L2.toNat<(S.map aa).length:=o_;have m2:=mg x.K0.L2.toNat o_;have b2:=P6 x.K0.L2.toNat o_;have R7:dN S k x=pU x (IntKind.i64.wrap (atL S x.K0.L2.toNat-atL S (k+1))):=(by rw[dN,b9 SQ,c8 _ o_]);rw[isJump_iff]at SQ;repeat' ((conv=>whnf);first|apply Wx|apply W6|apply oi|apply fi|intro h|refine⟨k,x.tr,rfl,ab hx,?_⟩|refine⟨k,rfl,S9,?_⟩|refine⟨k+1,RI,Rh,?_⟩|refine⟨_,ha,QZ,?_⟩|refine⟨_,m0,?_⟩|refine⟨_,m1,?_⟩|refine⟨_,m2,?_⟩|exact Y11|refine e_ rfl ?_)
    all_goals try exact Q14
    all_goals try exact⟨dh _⟩
    all_goals(
     conv=>whnf
     refine⟨⟨k+1,o_⟩,?_,KD⟩;repeat' ((conv=>whnf);first|apply Wx|apply W6|apply oi|apply fi|intro h|exact Y9|refine e_ rfl ?_)
     all_goals try exact⟨by rw[cH Ti,R7,q8,kA];rfl⟩)
   | false=>
    have R7:dN S k x=x:=(by rw[dN,b8 (by rw[SQ];simp)]);have VQ:¬(x.K0.J5=10\/x.K0.J5=11):=(by rw[<-isJump_iff,SQ];simp);repeat' ((conv=>whnf);first|apply Wx|apply W6|apply oi|apply fi|intro h|refine⟨k,x.tr,rfl,ab hx,?_⟩|refine⟨k,rfl,S9,?_⟩|refine⟨_,m0,?_⟩|exact Y11|refine e_ rfl ?_)
    all_goals try exact Q14
    all_goals try exact⟨dh _⟩
    all_goals(
     conv=>whnf
     refine⟨⟨k+1,o_⟩,?_,KD⟩;repeat' ((conv=>whnf);first|apply Wx|apply W6|apply oi|apply fi|intro h|exact Y9|refine e_ rfl ?_)
     all_goals try exact⟨by rw[cH Ti,R7,q8,kA];rfl⟩)
  ·have QV:k=l.length:=o_;subst QV;repeat' ((conv=>whnf);first|apply Wx|apply W6|apply oi|apply fi|intro h|exact Y6|refine e_ rfl ?_)
   all_goals exact⟨by rw[gt o_]⟩
structure IRm (C:Cx) (lev n:Nat) (x:Sc) (q:Ib) (ins pd:List Nat) (b:Nat) (s:Gs) (d:Int):Prop where
 sc:ScOk C x ins
 ib:IbOk C x q
 rm:Rm C lev n (ins.length-1) s d
 beg:Beg b s
 mem:b∈pd
 le:∀i∈pd,i<=b
def OW (C:Cx)(lev:Nat):Prop:=∀(e:Ex) (x:Sc) (q:Ib) (ins pd:List Nat) (lv:List Int) (k p b:Nat) (ln:Qt) (s:Gs) (d:Int),e.ok->C.p[k]?=some ln->iv ln.L0 p e->qm C ln.L0->IRm C lev e.toks.length x q ins pd b s d->
 bh prog 268 [dP,ibP,tI .i64 (k:Int),.r (.c (.t (.lst 3 (ln.L0.map QC.tr)))),tI .i64 (p:Int),tI .i64 (b:Int)] (kK (0,0,1) (0,0,2) (0,1,1) C pd s d ins q lv) (.tup []) (kK (1,0,1) (1,0,2) (0,1,1) C pd (dk C (bg C lev) x ins k e d s) (d+1) ins q lv)
def GD (C:Cx)(lev:Nat):Prop:=∀(x:Sc) (q:Ib) (ins pd:List Nat) (lv:List Int) (k g b:Nat) (s:Gs) (d:Int),k<C.p.length->bI C g->cv C ins g s.I8.length=true->IRm C lev 1 x q ins pd b s (d-b_ C.p g)->
 bh prog 274 [dP,ibP,tI .i64 (k:Int),tI .i64 (g:Int),tI .i64 (b:Int)] (kK (0,0,1) (0,0,2) (0,1,1) C pd s d ins q lv) (.tup []) (kK (1,0,1) (1,0,2) (0,1,1) C pd (bg C lev x ins k g d s) (d-b_ C.p g+1) ins q lv)
theorem Cb {C:Cx}(hC:CxOk C){lev:Nat}(hR:GD C lev):∀(n:Nat) (e:Ex),e.toks.length<=n->∀(x:Sc) (q:Ib) (ins pd:List Nat) (lv:List Int) (k p b:Nat) (ln:Qt) (s:Gs) (d:Int),e.ok->C.p[k]?=some ln->iv ln.L0 p e->qm C ln.L0->IRm C lev e.toks.length x q ins pd b s d->
  bh prog 268 [dP,ibP,tI .i64 (k:Int),.r (.c (.t (.lst 3 (ln.L0.map QC.tr)))),tI .i64 (p:Int),tI .i64 (b:Int)] (kK (0,0,1) (0,0,2) (0,1,1) C pd s d ins q lv) (.tup []) (kK (1,0,1) (1,0,2) (0,1,1) C pd (dk C (bg C lev) x ins k e d s) (d+1) ins q lv)
 | 0,e,hn,_,_,_,_,_,_,_,_,_,_,_,_,_,_,_,_=>by have:=e.toks_pos;omega
 | n+1,.node t es,hn,x,q,ins,pd,lv,k,p,b,ln,s,d,ho,hk,hs,hca,hr=>by
  refine ax hΓ aF func268 rfl d_ rfl rfl ?_;obtain⟨hx,hq,Zy,hbg,ZU,WG⟩:=hr;obtain⟨Tz,Sp⟩:=nA hC hk;have P6:=gj hs;obtain⟨ht,TZ⟩:=ip hs;obtain⟨e1,e2⟩:=rg ho.1;have QP:es.length=ar t:=ho.2.1;have SA:=hC.len;have RZ:=(hC.line _ _ hk).2.2.2.1;have Sy:=Zy.room;have Rk:=Zy.depth;have hr3:=Zy.low;have hr4:=Zy.high;have hin:=hC.inl;have aa6:=hx.I9;have htp:=yB lev;have hO:=oc ln.L0 p t es o_ Tz ho hs;have Se:((iS (p+1) es).map nR).length=es.length:=by rw[d9,tw]
  rw[Ex.toks,d6]at hn P6 Sy hr4;rw[dk];have VR:∀g d s,bI C g->cv C ins g s.I8.length=true->Grow (dc lev) s (bg C lev x ins k g d s):=fun g d s hg hr=>dQ hC lev k g d s hx hg hr;have Z8:∀g d s,bI C g->cv C ins g s.I8.length=true->Beg b s->Beg b (bg C lev x ins k g d s):=fun g d s hg hr hb=>Ef hC lev k g d s hx hg hr hb;repeat' ((conv=>whnf);first|apply Wx|apply W6|apply oi|apply fi|intro h|refine⟨p,t.tr,rfl,ab ht,?_⟩|refine cl hO ?_|exact Y8|refine e_ rfl ?_)
  conv=>whnf
  refine⟨{j:Nat//j<=es.length},fun r=>⟨[(0,dP),(1,ibP),(2,tI .i64 (k:Int)),(3,.r (.c (.t (.lst 3 (ln.L0.map QC.tr))))),(4,tI .i64 (p:Int)),(5,tI .i64 (b:Int)),(12,.r (.c (.ptr (12,0,0) 0))),(23,.r (.c (.own (23,0,0)))),(24,tI .i64 (((iS (p+1) es).map nR).length:Int)),(25,tI .i64 (r.1:Int))],
   [(
    (0,0,0),some (yn C (ce C (bg C lev) x ins k (es.take r.1) d s) (d+r.1) (12,0,1) (12,0,2))),((12,0,1),some (.dar 7 (itR (clr pd (ce C (bg C lev) x ins k (es.take r.1) d s).I8)) none)),((12,0,2),some (.arr false 1 (nS ins))),
    ((0,1,0),some (ibB q (0,1,1))),((0,1,1),some (.arr false 1 (lv.map aa))),((12,0,0),some (.box (t.tr.map .t))),((23,0,0),some (.arr true 1 ((iS (p+1) es).map nR)))],[23,12,0]⟩,fun r=>es.length-r.1,⟨0,o_⟩,?_,?_⟩
  ·exact Z5
  intro⟨j,hj⟩;dsimp only at hj⊢;have hgr:=nz (C:=C) (x:=x) (ins:=ins) (line:=k) (lev:=lev) VR (es.take j) d s;have XL:=hgr.le;have Rb:=qH (C:=C) (x:=x) (ins:=ins) (line:=k) (rep:=bg C lev) Z8 (es.take j) d hbg;have Wj:=cV es j;obtain⟨s1,Tg⟩:∃s1,ce C (bg C lev) x ins k (es.take j) d s=s1:=⟨_,rfl⟩;rw[Tg]at hgr XL Rb⊢;have Xt:s1.start=true->s1.I8.length∈pd:=fun h=>by rw[Rb.2.1 h];exact ZU
  by_cases Xs:j<es.length
  ·obtain⟨a,ha⟩:=ae Xs;obtain⟨o,ho1,WO⟩:=xP TZ ha;have hta:=fA ha;have YS:=cV es (j+1);have QZ:=jw ha
   have hjt:j<=(ao (es.take j)).length:=by exact V68
   have hm:=m5 (dc lev) (show(ao (es.take j)).length+a.toks.length<=(ao es).length+1 by omega);rw[p8]at hm;have hI:=Cb hC hR n a o_ x q ins pd lv k o b ln s1 (d+j) (iD ho.2.2 ha) hk WO hca ⟨hx,hq,⟨o_,Rk,o_,o_⟩,Rb,ZU,WG⟩;have QW:=rE C (bg C lev) x ins k d s ha;rw[Tg]at QW;have Q0:j<((iS (p+1) es).map nR).length:=(by rw[Se];exact Xs);repeat' ((conv=>whnf);first|apply Wx|apply W6|apply oi|apply fi|intro h|refine⟨j,rfl,Q0,?_⟩|refine⟨(nR o),(ab ho1),?_⟩|exact Y6|refine e_ rfl ?_)
   refine cg (hI) ?_;repeat' ((conv=>whnf);first|apply Wx|apply W6|apply oi|apply fi|intro h|exact Y8|refine e_ rfl ?_)
   conv=>whnf
   refine⟨⟨j+1,o_⟩,?_,KD⟩;repeat' ((conv=>whnf);first|apply Wx|apply W6|apply oi|apply fi|intro h|exact Y8|refine e_ rfl ?_)
   all_goals try exact⟨by dsimp only;rw[QW]⟩
   all_goals try exact Q15
  ·have Ut:j=es.length:=o_;subst Ut;rw[A3]at Tg XL Wj
   have QG:s1.I8.length+dc lev<=68719476736:=by have:((ao es).length+1)*dc lev=(ao es).length*dc lev+dc lev:=(by rw[p8];omega);omega
   rw[Tg];have Rx:x.I9.length<=100:=o_;have Ur:q.I9.length<=100:=(by rw[hq.I9];exact Rx);have S6:ca s1:=(by unfold ca;omega);obtain⟨k1,k2,k3⟩:=xS ho.1;have Zl:=Tz t (c9 ht)
   have VN:0<=x.first/\x.first<=1000:=by have:=hx.first;omega
   obtain⟨ee,_,_,_,_,Sk⟩:=hx.endE hC;rcases qs ho.1 with S9|Rh|TX|Yw
   ·have g1:=cB C pd s1 (d+es.length) ins q lv k 0 t.M1 1 S6 Ur Xt o_ o_;rw[hq.I9]at g1;exact V96
   ·have g1:=qX C hC pd s1 (d+es.length) ins q lv x hq k (cN x.J3 t.J7) 1 false rfl S6 Rx Xt o_ VN (by have:=mN x.J3 t.J7;omega);have gI:=ky x.J3 t.J7 o_;rw[<-hq.J3]at gI g1;have hz:=k1 (.inr Rh);unfold fW Ei;rw[b8 o_,b9 Rh,<-hq.J3]
    generalize cN q.J3 t.J7=ix at *
    exact V114
   ·obtain⟨f,hf,ZC⟩:=hca t (c9 ht) TX;obtain⟨P7,y,hy,RF,_⟩:=dR hf;have SB:bI C f:=⟨y,hy,RF⟩;have U3:=k2 TX;have gF:=gB C.p t.J7 o_;rw[show fS C.p t.J7=(f:Int) from aU hf]at gF;have g1:=wW C hC pd s1 (d+es.length) ins q lv f S6 (by rw[hq.I9];exact aa6) o_ P7;unfold fW;rw[b8 o_,b8 o_,b9 TX,hf];dsimp only
    cases UA:cv C ins f s1.I8.length with
    | true=>
     have g2:=hR x q ins pd lv k f b s1 (d+es.length) (aE hk) SB UA ⟨hx,hq,⟨o_,Rk,o_,o_⟩,Rb,ZU,WG⟩
     exact V87
    | false=>rw[UA]at g1;rw[b8 s_];have g2:=wX C hC pd s1 (d+es.length) ins f SB;have g3:=cB C pd s1 (d+es.length) ins q lv k 12 (iH C.p f) (1-t.M1) S6 Ur Xt o_ o_;have RI:IntKind.i64.wrap (1-t.M1)=1-t.M1:=(by rw[c8 _ o_]);rw[<-RI,hq.I9]at g3;repeat' ((conv=>whnf);first|apply Wx|apply W6|refine cg g1 ?_|refine cg g2 ?_|refine cg g3 ?_|apply oi|apply fi|intro h|refine cl gF ?_|exact Y10|refine e_ rfl ?_)
   ·have g1:=cB C pd s1 (d+es.length) ins q lv k (5+t.J0-2) 0 (-1) S6 Ur Xt o_ o_;rw[hq.I9]at g1;exact V41
def xI (C:Cx)(lev:Nat):Prop:=∀(x:Sc) (q:Ib) (ins pd:List Nat) (s:Gs) (d:Int),ScOk C x ins->IbOk C x q->q.f=(x.f:Int)->q.e=(dq C.p x.f:Int)->q.base=d->s.start=false->(∀i∈pd,i<s.I8.length)->
 s.I8.length+(dq C.p x.f-x.f)*(20*dc lev+3)<=68719476736->((lev+(ins.length-1):Nat):Int)=C.b.M0->0<=d->d+30+100*(lev:Int)<=1900->
 bh prog 252 [dP,ibP] (kK (0,0,1) (0,0,2) (0,1,1) C pd s d ins q []) (.tup []) (kK (1,0,1) (1,0,2) (1,1,1) C pd (aZ C (bg C lev) x ins d s).1 (if x.J9=true then d else d+1) ins q (aZ C (bg C lev) x ins d s).2)
theorem KT {C:Cx}(hC:CxOk C){lev:Nat}(hL:xI C lev):GD C (lev+1):=by
 intro x q ins pd lv k g b s d hk hg UA hr;refine ax hΓ aF func274 rfl d_ rfl rfl ?_;obtain⟨hx,hq,Zy,hbg,ZU,WG⟩:=hr;obtain⟨r1,r2,r3,r4⟩:=eM UA;obtain⟨y,hy,RF⟩:=hg;have SA:=hC.len;have hin:=hC.inl;have Rs:=cW hC ⟨y,hy,RF⟩;have hA:b_ C.p g=y.L3.length:=by rw[b_,hy]
 have Zk:=ko C.p (g:Int) o_ (fun z hz=>bk hC.small hz);have Tp:=mR hC hx;have U7:x.J3.length<=8:=by obtain⟨_,_,_,_,_,h⟩:=hx.endE hC;exact h
 have VN:=hx.first;have ha:=hC.args;have Rx:=hx.I9;obtain⟨q1,q2,q3,q4⟩:=Zy;have UD:=jg hC hx k ⟨y,hy,RF⟩;obtain⟨ye,ye1,ye2,ye3,ye4,_⟩:=UD.endE hC;have gE:=dL C.p (g:Int) o_;have RX:bA C.p (g:Int)=(ye:Int):=by rw[bc];exact aU ye1
 rw[RX]at gE r2;have Wr:(y.L3.map ah).length=y.L3.length:=s_;have WF:(x.J3.map ah).length=x.J3.length:=s_;have QK:(x.I9.map aa).length=x.I9.length:=s_;obtain⟨qf,qe,ql,qa,qi,qc,qb⟩:=q;obtain⟨i1,i2,i3,i4,i5,i6⟩:=hq;dsimp only at i1 i2 i3 i4;subst i1;subst i2;subst i3;have e2:IntKind.i64.wrap (x.first+(x.J3.length:Int))=x.first+x.J3.length:=by rw[c8 _ o_]
 repeat' ((conv=>whnf);first|(with_reducible apply W1;fail_if_success (with_reducible show Wo _ _ _ _ (Code.region 1 _ _) _ _))|(with_reducible first|apply W2|apply W3|apply W4|apply W5|apply W6|apply W7|apply W8|apply W9)|apply au|apply oi|apply fi|intro h|refine⟨g,y.tr,rfl,ab hy,?_⟩|refine cl gE ?_|refine cl Zk ?_|exact Y8|refine e_ rfl ?_)
 all_goals try exact Q2
 conv=>whnf
 refine lC ⟨[(0,dP),(1,ibP),(2,tI .i64 (k:Int)),(3,tI .i64 (g:Int)),(4,tI .i64 (b:Int)),(10,.r (.c (.ptr (48,0,0) 0)))],
  [((0,0,0),some (yn C s d (0,0,1) (0,0,2))),((0,0,1),some (.dar 7 (itR (clr pd (s).I8)) none)),((0,0,2),some (.arr false 1 (nS ins))),((0,1,0),some (ibB ⟨qf,qe,x.J3,qa,x.first,x.I9,qb⟩ (0,1,1))),((0,1,1),some (.arr false 1 (lv.map aa))),((48,0,0),some (.box [.t (.int .i64 (g:Int)),.t (.int .i64 (ye:Int)),.t (.lst 1 ((a_ C.p (g:Int)).map ah)),.t (.int .i64 (b_ C.p g:Int)),.t (.int .i64 0),.t (.lst 1 ((x.I9++[(k:Int)]).map aa)),.t (.int .i64 0),.nils 1]))],_⟩ ?_ ?_ rfl ?_
 ·exact⟨.inl rfl,.inl rfl,.inl rfl,.inl rfl,.inl rfl,.inl rfl,trivial⟩
 ·refine⟨.inr (.inl rfl),.inr (.inl rfl),.inr (.inl rfl),.inr (.inl rfl),.inr (.inl rfl),.inr (.inr (.inl ⟨_,_,rfl,rfl,.inl rfl,.inl rfl,.inr (.inr ⟨_,rfl,rfl,?_⟩),.inl ?_,.inl rfl,.inr (.inr ⟨_,rfl,?_,?_⟩),.inl rfl,.inr (.inl ⟨_,_,rfl,rfl⟩),trivial⟩)),trivial⟩
  ·exact V147
  ·rw[Wr,hA]
  ·show Tr.lst 1 _=Tr.lst 1 ([]++List.map aa x.I9++[[Tr.int .i64 (k:Int)]]);simp[aa]
  ·exact V147
 repeat' ((conv=>whnf);first|(with_reducible apply W1;fail_if_success (with_reducible show Wo _ _ _ _ (Code.seq (Code.region 2 _ _) _) _ _))|(with_reducible first|apply W2|apply W3|apply W4|apply W5|apply W6|apply W7|apply W8|apply W9)|apply au|apply oi|apply fi|intro h|exact Y8|refine e_ rfl ?_)
 conv=>whnf
 refine lb Unit (fun _=>⟨[(0,dP),(1,ibP),(2,tI .i64 (k:Int)),(3,tI .i64 (g:Int)),(4,tI .i64 (b:Int)),(10,.r (.c (.ptr (48,0,0) 0)))],
  [((0,0,0),some (yn C s d (0,0,1) (0,0,2))),((0,0,1),some (.dar 7 (itR (clr pd (s).I8)) none)),((0,0,2),some (.arr false 1 (nS ins))),((0,1,0),some (ibB ⟨qf,qe,x.J3,qa,x.first,x.I9,qb⟩ (0,1,1))),((0,1,1),some (.arr false 1 (lv.map aa))),((48,0,0),some (.box [.t (.int .i64 (g:Int)),.t (.int .i64 (ye:Int)),.t (.lst 1 ((a_ C.p (g:Int)).map ah)),.t (.int .i64 (b_ C.p g:Int)),.t (.int .i64 (ba C x)),.t (.lst 1 ((x.I9++[(k:Int)]).map aa)),.t (.int .i64 0),.nils 1]))],[48,0]⟩) ?_ ?_
 ·cases ho:x.J9 with
  | true=>
   have c1:=i5.1 ho;have c2:=i6 ho;have c3:=i4 ho;have c4:ba C x=(x.J3.length:Int)-C.args:=(by unfold ba;rw[b9 ho]);have c5:IntKind.i64.wrap (IntKind.i64.wrap (x.first+((x.J3.map ah).length:Int))-qa)=ba C x:=(by rw[c4,WF,e2,c2,c3,c8 _ o_];omega);repeat' ((conv=>whnf);first|apply Wx|apply W6|apply oi|apply fi|intro h|exact Y8|refine e_ rfl ?_)
   all_goals try(exfalso;rw[c1]at h;simp at h;done)
   all_goals(conv=>whnf)
   all_goals(refine⟨(),?_⟩)
   repeat' ((conv=>whnf);first|apply Wx|apply W6|apply oi|apply fi|intro h|exact Y8|refine e_ rfl ?_)
   all_goals exact⟨congrArg (Tr.int .i64) c5⟩
  | false=>
   have P2:x.I9≠[]:=fun e=>by rw[i5.2 e]at ho;cases ho
   have c4:ba C x=x.first+x.J3.length:=(by unfold ba;rw[b8 aao]);have c5:IntKind.i64.wrap (x.first+((x.J3.map ah).length:Int))=ba C x:=(by rw[c4,WF,e2]);repeat' ((conv=>whnf);first|apply Wx|apply W6|apply oi|apply fi|intro h|exact Y8|refine e_ rfl ?_)
   all_goals try(exfalso;simp at h;exact P2 h)
   all_goals(conv=>whnf)
   all_goals(refine⟨(),?_⟩)
   repeat' ((conv=>whnf);first|apply Wx|apply W6|apply oi|apply fi|intro h|exact Y8|refine e_ rfl ?_)
   all_goals exact⟨congrArg (Tr.int .i64) c5⟩
 intro _;have Sk:((a_ C.p (g:Int)).map ah).length=(a_ C.p (g:Int)).length:=s_;have em:IntKind.i64.wrap (ba C x+(((a_ C.p (g:Int)).map ah).length:Int))=ba C x+((a_ C.p (g:Int)).length:Int):=by rw[Sk,c8 _ o_]
 obtain⟨s0,Xe⟩:∃s0:Gs,(⟨s.I8,max s.J4 (ba C x+(a_ C.p (g:Int)).length),s.start⟩:Gs)=s0:=⟨_,rfl⟩;have z1:s.I8=s0.I8:=by rw[<-Xe]
 have z2:max s.J4 (ba C x+(a_ C.p (g:Int)).length)=s0.J4:=by rw[<-Xe]
 have Vb:Beg b s0:=by rw[<-Xe];exact⟨hbg.1,hbg.2⟩
 obtain⟨T1,hT1⟩:∃T1,bD C (bF C x k g) x.I9 k (b_ C.p g) d s0=T1:=⟨_,rfl⟩;have QJ:∀{t:Gs},Beg b t->t.start=true->t.I8.length∈pd:=fun{t} hb h=>by rw[hb.2.1 h];exact ZU
 repeat' ((conv=>whnf);first|apply Wx|apply W6|apply oi|apply fi|intro h|exact Y8|refine e_ rfl ?_)
 conv=>whnf
 refine⟨{r:Nat×Gs//r.1<=b_ C.p g/\bD C (bF C x k g) x.I9 k r.1 (d-((b_ C.p g-r.1:Nat):Int)) r.2=T1/\r.2.I8.length<=300-r.1/\Beg b r.2},fun r=>⟨[(0,dP),(1,ibP),(2,tI .i64 (k:Int)),(3,tI .i64 (g:Int)),(4,tI .i64 (b:Int)),(10,.r (.c (.ptr (48,0,0) 0))),(11,.r (.c (.ptr (117,0,0) 0))),(12,tI .i64 ((r.1.1:Int)-1))],
  [((0,0,0),some (yn C r.1.2 (d-((b_ C.p g-r.1.1:Nat):Int)) (48,0,2) (48,0,3))),((48,0,2),some (.dar 7 (itR (clr pd (r.1.2).I8)) none)),((48,0,3),some (.arr false 1 (nS ins))),((0,1,0),some (ibB ⟨qf,qe,x.J3,qa,x.first,x.I9,qb⟩ (0,1,1))),((0,1,1),some (.arr false 1 (lv.map aa))),((48,0,0),some (.box [.t (.int .i64 (g:Int)),.t (.int .i64 (ye:Int)),.t (.lst 1 ((a_ C.p (g:Int)).map ah)),.t (.int .i64 (b_ C.p g:Int)),.t (.int .i64 (ba C x)),.t (.lst 1 ((x.I9++[(k:Int)]).map aa)),.t (.int .i64 0),.own (48,0,1)])),((48,0,1),some (.arr false 1 [])),((117,0,0),some (ibB ⟨0,0,a_ C.p (g:Int),0,ba C x,x.I9,0⟩ (117,0,1))),((117,0,1),some (.arr false 1 []))],[117,48,0]⟩,fun r=>r.1.1,⟨(b_ C.p g,s0),g_,by rw[<-hT1];simp,by dsimp only;rw[<-z1];omega,Vb⟩,?_,?_⟩
 ·repeat' ((conv=>whnf);first|apply Wx|apply W6|apply oi|apply fi|intro h|exact Y8|refine e_ rfl ?_)
  all_goals try exact⟨congrArg (fun l=>itR (clr pd l)) z1⟩
  all_goals try exact⟨congrArg (Tr.int _) (by rw[em];exact z2)⟩
  all_goals try exact Q15
 intro⟨⟨m,t⟩,hm,ht,Zl,Ze⟩;dsimp only at hm ht Zl Ze⊢
 cases m with
 | succ m=>
  have g1:=ww C pd t (d-((b_ C.p g-(m+1):Nat):Int)) ins ⟨0,0,a_ C.p (g:Int),0,ba C x,x.I9,0⟩ [] (bF C x k g) k m rfl rfl aal g_ (QJ Ze) o_ aaQ o_;rw[bD]at ht;rw[show((m+1:Nat):Int)-1=(m:Int) by omega];repeat' ((conv=>whnf);first|apply Wx|apply W6|refine cg g1 ?_|apply oi|apply fi|intro h|exact Y6|refine e_ rfl ?_)
  conv=>whnf
  refine⟨⟨(m,cX C (bF C x k g) t (d-((b_ C.p g-(m+1):Nat):Int)) m k x.I9),g_,by rw[<-ht];dsimp only;congr 1;omega,by dsimp only;simp only[cX,aB,c7,d6,e8];omega,by unfold cX;exact Ze.emit ..⟩,?_,KD⟩
  exact Z5
 | zero=>
  have e0:t=T1:=by rw[<-ht];rfl
  subst e0;have ed:d-((b_ C.p g-0:Nat):Int)=d-b_ C.p g:=by rw[u7]
  rw[ed];obtain⟨T2,hT2⟩:∃T2,cj C (bF C x k g) x.I9 k (d-b_ C.p g) ((a_ C.p (g:Int)).length-b_ C.p g) (b_ C.p g) t=T2:=⟨_,rfl⟩;repeat' ((conv=>whnf);first|apply Wx|apply W6|apply oi|apply fi|intro h|exact Y6|refine e_ rfl ?_)
  conv=>whnf
  refine⟨{r:Nat×Gs//r.1<=(a_ C.p (g:Int)).length/\cj C (bF C x k g) x.I9 k (d-b_ C.p g) ((a_ C.p (g:Int)).length-r.1) r.1 r.2=T2/\r.2.I8.length<=400-2*((a_ C.p (g:Int)).length-r.1)/\Beg b r.2},fun r=>⟨[(0,dP),(1,ibP),(2,tI .i64 (k:Int)),(3,tI .i64 (g:Int)),(4,tI .i64 (b:Int)),(10,.r (.c (.ptr (48,0,0) 0))),(11,.r (.c (.ptr (117,0,0) 0))),(13,tI .i64 (r.1.1:Int))],
   [((0,0,0),some (yn C r.1.2 (d-b_ C.p g) (48,0,2) (48,0,3))),((48,0,2),some (.dar 7 (itR (clr pd (r.1.2).I8)) none)),((48,0,3),some (.arr false 1 (nS ins))),((0,1,0),some (ibB ⟨qf,qe,x.J3,qa,x.first,x.I9,qb⟩ (0,1,1))),((0,1,1),some (.arr false 1 (lv.map aa))),((48,0,0),some (.box [.t (.int .i64 (g:Int)),.t (.int .i64 (ye:Int)),.t (.lst 1 ((a_ C.p (g:Int)).map ah)),.t (.int .i64 (b_ C.p g:Int)),.t (.int .i64 (ba C x)),.t (.lst 1 ((x.I9++[(k:Int)]).map aa)),.t (.int .i64 0),.own (48,0,1)])),((48,0,1),some (.arr false 1 [])),((117,0,0),some (ibB ⟨0,0,a_ C.p (g:Int),0,ba C x,x.I9,0⟩ (117,0,1))),((117,0,1),some (.arr false 1 []))],[117,48,0]⟩,fun r=>(a_ C.p (g:Int)).length-r.1.1,⟨(b_ C.p g,t),g_,hT2,g_,Ze⟩,?_,?_⟩
  ·exact Z2
  intro⟨⟨i,u⟩,hi,hu,XX,XM⟩;dsimp only at hi hu XX XM⊢;by_cases acl:i<(a_ C.p (g:Int)).length
  ·obtain⟨c,hc⟩:∃c,(a_ C.p (g:Int)).length-i=c+1:=⟨(a_ C.p (g:Int)).length-i-1,o_⟩;rw[hc,cj]at hu;have g1:=cB C pd u (d-b_ C.p g) ins ⟨qf,qe,x.J3,qa,x.first,x.I9,qb⟩ lv k 0 0 1 aal g_ (QJ XM) o_ o_;have g2:=ww C pd (aB C u (d-b_ C.p g) 0 0 k x.I9) (d-b_ C.p g+1) ins ⟨0,0,a_ C.p (g:Int),0,ba C x,x.I9,0⟩ [] (bF C x k g) k i rfl rfl aas g_ (QJ (XM.emit ..)) o_ aaQ o_;repeat' ((conv=>whnf);first|apply Wx|apply W6|refine cg g1 ?_|refine cg g2 ?_|apply oi|apply fi|intro h|exact Y6|refine e_ rfl ?_)
   conv=>whnf
   refine⟨⟨(i+1,cX C (bF C x k g) (aB C u (d-b_ C.p g) 0 0 k x.I9) (d-b_ C.p g+1) i k x.I9),g_,by rw[<-hu];dsimp only;rw[show(a_ C.p (g:Int)).length-(i+1)=c by omega],by dsimp only;simp only[cX,aB,c7,d6,e8];omega,by unfold cX;exact(XM.emit ..).emit ..⟩,?_,KD⟩;exact Z5
  ·have Sv:i=(a_ C.p (g:Int)).length:=o_;subst Sv;rw[v6,cj]at hu;subst hu;have RG:di C x k g d s=u:=(by rw[di,Xe,hT1,hT2]);repeat' ((conv=>whnf);first|(with_reducible apply W1;fail_if_success (with_reducible show Wo _ _ _ _ (Code.seq (Code.region 15 _ _) _) _ _))|(with_reducible first|apply W2|apply W3|apply W4|apply W5|apply W6|apply W7|apply W8|apply W9)|apply au|apply oi|apply fi|intro h|exact Y6|refine e_ rfl ?_)
   conv=>whnf
   obtain⟨v,hv⟩:∃v,bu C x k (d-b_ C.p g) u=v:=⟨_,rfl⟩;have RP:v.I8.length<=500:=(by rw[<-hv,bu];split<;>first|(simp[aB];omega)|omega);obtain⟨hvb,S2⟩:=rF (C:=C) (x:=x) (line:=k) (d:=d-b_ C.p g) XM;rw[hv]at hvb S2;have O2:=cp pd u.I8
   refine lb Unit (fun _=>⟨[(0,dP),(1,ibP),(2,tI .i64 (k:Int)),(3,tI .i64 (g:Int)),(4,tI .i64 (b:Int)),(10,.r (.c (.ptr (48,0,0) 0)))],
    [((0,0,0),some (yn C v (d-b_ C.p g) (48,0,2) (48,0,3))),((48,0,2),some (.dar 7 (itR (clr pd (v).I8)) none)),((48,0,3),some (.arr false 1 (nS ins))),((0,1,0),some (ibB ⟨qf,qe,x.J3,qa,x.first,x.I9,qb⟩ (0,1,1))),((0,1,1),some (.arr false 1 (lv.map aa))),((48,0,0),some (.box [.t (.int .i64 (g:Int)),.t (.int .i64 (ye:Int)),.t (.lst 1 ((a_ C.p (g:Int)).map ah)),.t (.int .i64 (b_ C.p g:Int)),.t (.int .i64 (ba C x)),.t (.lst 1 ((x.I9++[(k:Int)]).map aa)),.t (.int .i64 0),.own (48,0,1)])),((48,0,1),some (.arr false 1 []))],[117,48,0]⟩) ?_ ?_
   ·have g3:=cB C pd u (d-b_ C.p g) ins ⟨qf,qe,x.J3,qa,x.first,x.I9,qb⟩ lv k 15 0 0 aal g_ (QJ XM) o_ o_;unfold bu at hv
    cases WW:u.start with
    | true=>
     rw[b9 WW]at hv;subst hv;have ac2:=XM.2.1 WW;repeat' ((conv=>whnf);first|apply Wx|apply W6|refine cg g3 ?_|apply oi|apply fi|intro h|exact Y8|refine e_ rfl ?_)
     ·conv=>whnf
      refine⟨(),?_⟩;exact Z5
     ·exfalso;rw[O2,ac2]at h;simp at h
    | false=>
     rw[b8 (by simp[WW])]at hv;subst hv;repeat' ((conv=>whnf);first|apply Wx|apply W6|refine cg g3 ?_|apply oi|apply fi|intro h|exact Y8|refine e_ rfl ?_)
     ·exfalso;rw[O2]at h;have h9:=XM.2.2 (by have:=z8 h;omega);rw[WW]at h9
      cases h9
     ·conv=>whnf
      refine⟨(),?_⟩;exact Z5
   intro _
   have hye:dq C.p (bF C x k g).f-(bF C x k g).f<=9:=by rw[ye4];show ye-g<=9;omega
   have h3:=vq (n:=lev) o_;have Xa:=A2 hye (show 20*dc lev+3<=20*8679837+3 by omega);have ae8:v.I8.length≠b:=fun e=>by have:=hvb.2.2 e;rw[S2]at this;cases this
   have Zf:=hL (bF C x k g) ⟨(g:Int),(ye:Int),a_ C.p (g:Int),(b_ C.p g:Int),ba C x,x.I9++[(k:Int)],d-b_ C.p g⟩ (ins++[g]) pd v (d-b_ C.p g) UD ⟨rfl,rfl,rfl,fun h=>aa4,UD.out,fun h=>aa4⟩ rfl (by rw[ye4]) rfl S2 (fun i hi=>by have:=WG i hi;have:=hvb.1;omega) o_ (by rw[c7,d6,e8];have h9:=Rx;omega) q3 o_;rw[b8 (by simp[bF])]at Zf;have VK:=kj (lev:=lev) (rep:=bg C lev) (fun line g d s hg hr=>dQ hC lev line g d s UD hg hr) hC UD (d-b_ C.p g) v;obtain⟨WR,Uq⟩:=Cr (lev:=lev) (rep:=bg C lev) (fun line g d s hg hr=>dQ hC lev line g d s UD hg hr) hC UD (d-b_ C.p g) v;obtain⟨r,hr⟩:∃r,aZ C (bg C lev) (bF C x k g) (ins++[g]) (d-b_ C.p g) v=r:=⟨_,rfl⟩;rw[hr]at Zf VK WR Uq;have acm:=VK.le;have Rw:(nS ins).length=ins.length:=s_;have aaM:(nS (ins++[g])).length=ins.length+1:=s_;have Sr:IntKind.i64.wrap (((nS (ins++[g])).length:Int)-1)=(ins.length:Int):=(by rw[aaM,c8 _ o_];omega);have TH:ins.length<=(nS (ins++[g])).length:=o_;have QF:(nS (ins++[g])).take ins.length=nS ins:=(by rw[<-y8,List.take_left' rfl]);have UC:nS ins++[[Tr.int .i64 (g:Int)]]=nS (ins++[g]):=(by simp[aa]);have RM:(r.2.map aa).length=r.2.length:=s_
   have QO:bg C (lev+1) x ins k g d s=⟨patchL r.1.I8 r.1.I8.length r.2,r.1.J4,r.1.start⟩:=by show fH C (aZ C (bg C lev)) x ins k g d s=_;unfold fH;rw[RG,hv,hr]
   rw[QO];repeat' ((conv=>whnf);first|apply Wx|apply W6|refine cg Zf ?_|apply oi|apply fi|intro h|refine⟨ins.length,Sr,TH,?_⟩|exact Y8|refine e_ rfl ?_)
   all_goals try exact⟨⟨by rw[Rw];simp<;>omega,by rw[Rw];simp<;>omega⟩⟩
   all_goals try exact⟨UC⟩
   conv=>whnf
   refine⟨{j:Nat//j<=r.2.length},fun j=>⟨[(0,dP),(10,.r (.c (.ptr (48,0,0) 0))),(202,.r (.c (.own (48,0,1)))),(203,tI .i64 (r.2.length:Int)),(204,tI .i64 (j.1:Int))],
    [((0,0,0),some (yn C ⟨patchL r.1.I8 r.1.I8.length (r.2.take j.1),r.1.J4,r.1.start⟩ (d-b_ C.p g+1) (48,0,2) (48,0,3))),((48,0,2),some (.dar 7 (itR (clr pd (patchL r.1.I8 r.1.I8.length (r.2.take j.1)))) none)),((48,0,3),some (.arr false 1 (nS ins))),((0,1,0),some (ibB ⟨qf,qe,x.J3,qa,x.first,x.I9,qb⟩ (0,1,1))),((0,1,1),some (.arr false 1 (lv.map aa))),((48,0,0),some (ibB ⟨(g:Int),(ye:Int),a_ C.p (g:Int),(b_ C.p g:Int),ba C x,x.I9++[(k:Int)],d-b_ C.p g⟩ (48,0,1))),((48,0,1),some (.arr false 1 (r.2.map aa)))],[117,48,0]⟩,fun j=>r.2.length-j.1,⟨0,o_⟩,?_,?_⟩
   ·repeat' ((conv=>whnf);first|apply Wx|apply W6|apply oi|apply fi|intro h|exact Y9|refine e_ rfl ?_)
    all_goals try exact⟨congrArg (Tr.int _) (by rw[RM])⟩
    all_goals try exact⟨TH⟩
    all_goals try exact⟨QF⟩
   intro⟨j,hj3⟩;dsimp only at hj3⊢;have Se:=eH (r.1.I8.length:Int) (r.2.take j) r.1.I8;have Vx:(itR (clr pd (patchL r.1.I8 r.1.I8.length (r.2.take j)))).length=r.1.I8.length:=(by rw[cp,Se]);by_cases Xs:j<r.2.length
   ·obtain⟨a,haj⟩:=ae Xs;obtain⟨j1,j2⟩:=Uq a (c9 haj);obtain⟨jn,rfl⟩:=i7 j1;have Q0:jn<(itR (clr pd (patchL r.1.I8 r.1.I8.length (r.2.take j)))).length:=(by rw[Vx];omega);obtain⟨it,Ry⟩:=ae (l:=clr pd (patchL r.1.I8 r.1.I8.length (r.2.take j))) (k:=jn) (by rw[qg,Se];omega);have QW:r.2.take (j+1)=r.2.take j++[(jn:Int)]:=(by rw[A0,haj];rfl);have XQ:=pH r.1.I8.length (jn:Int) (r.2.take j) r.1.I8;have YT:j<(r.2.map aa).length:=o_;repeat' ((conv=>whnf);first|apply Wx|apply W6|apply oi|apply fi|intro h|refine⟨j,rfl,YT,?_⟩|refine⟨(aa jn),(ab haj),?_⟩|refine⟨jn,rfl,Q0,?_⟩|refine⟨_,(gV Ry),?_⟩|exact Y6|refine e_ rfl ?_)
    conv=>whnf
    refine⟨⟨j+1,o_⟩,?_,KD⟩;repeat' ((conv=>whnf);first|apply Wx|apply W6|apply oi|apply fi|intro h|exact Y9|refine e_ rfl ?_)
    all_goals(refine⟨?_⟩;rw[Vx];dsimp only;rw[QW,XQ,rZ,lu Ry];rfl)
   ·have Ut:j=r.2.length:=o_;subst Ut;rw[A3];repeat' ((conv=>whnf);first|apply Wx|apply W6|apply oi|apply fi|intro h|exact Y12|refine e_ rfl ?_)
abbrev kI (n:Int):Tr:= .int .i64 n
theorem Bk {a:Int}{q:Tr}(h:bH (kI a) q=true):∃k,q= .int k a:=by cases q with|int k n=>simp only[bH,w5]at h;exact⟨k,by rw[h]⟩|str s=>simp[bH]at h|bool b=>simp[bH]at h|lst sz rows=>simp[bH]at h
theorem Ai {a b:Int}{q:Tr}(Wv:a≠b)(h:bH (kI a) q=true):bH (kI b) q=false:=by obtain⟨k,rfl⟩:=Bk h;simp only[bH,w3];exact fun e=>Wv e.symm
theorem Hv (a b:Tr):bH a b=bH b a:=by cases a<;>cases b<;>first|rfl|(simp only[bH];rw[u0];simp only[w5];exact eq_comm)
theorem zD (a:Int):bH (kI a) (kI a)=true:=by simp[bH]
theorem iK (v:Int)(a:Int):∀es:List (Tr×Int),bT (cQ es (kI a) v) (kI a)=some v
 | []=>by simp[bT,cQ,fM,cw,bH]
 |(q,x)::r=>by
  have ih:=iK v a r;unfold bT cQ at ih⊢;rw[fM]
  cases h:bH (kI a) q with|true=>simp[cw,h]|false=>simp only[cond_false];rw[cw,h,cond_false];exact ih
theorem ey {a b:Int}(Wv:a≠b)(v:Int):∀es:List (Tr×Int),bT (cQ es (kI a) v) (kI b)=bT es (kI b)
 | []=>by
  simp only[bT,cQ,fM,cw]
  rw[Ai Wv (zD a),cond_false]
 |(q,x)::r=>by
  have ih:=ey Wv v r;unfold bT cQ at ih⊢;rw[fM]
  cases h:bH (kI a) q with|true=>simp only[cond_true];rw[cw,cw,Ai Wv h];rfl|false=>simp only[cond_false];rw[cw,cw,ih]
theorem tq {a b:Int}(Wv:a≠b):∀es:List (Tr×Int),bT (jj es (kI a)) (kI b)=bT es (kI b)
 | []=>rfl
 |(q,x)::r=>by
  have ih:=tq Wv r;unfold bT jj at ih⊢;rw[qP]
  cases h:bH (kI a) q with|true=>simp only[cond_true];rw[cw,Ai Wv h,cond_false]|false=>simp only[cond_false];rw[cw,cw,ih]
def Uniq:List (Tr×Int)->Prop
 | []=>True
 |(q,_)::r=>(∀e∈r,bH q e.1=false)/\Uniq r
theorem wi {k:Tr}:∀{es:List (Tr×Int)},(∀e∈es,bH k e.1=false)->cw (bH k) es=none
 | [],_=>rfl
 |(q,x)::r,h=>by rw[cw,h (q,x) s_,cond_false];exact wi fun e he=>h e (by simp[he])
theorem oA {a:Int}:∀{es:List (Tr×Int)},Uniq es->bT (jj es (kI a)) (kI a)=none
 | [],_=>rfl
 |(q,x)::r,h=>by
  have ih:=oA (a:=a) h.2;unfold bT jj at ih⊢;rw[qP]
  cases hq:bH (kI a) q with
  | true=>
   simp only[cond_true];refine wi fun e he=>?_;obtain⟨k,rfl⟩:=Bk hq;have:=h.1 e he
   cases e with
   | mk e1 e2=>cases e1<;>simp_all[bH]
  | false=>simp only[cond_false];rw[cw,hq,cond_false];exact ih
theorem zC {k key:Tr}{v:Int}(hk:bH k key=true):∀(es:List (Tr×Int)) (q:Tr),(∀e∈es,bH q e.1=false)->bH q key=false->∀e∈fM (bH k) key v es,bH q e.1=false
 | [],q,_,hq,e,he=>by
  simp only[fM,d8,m8,or_false]at he
  subst he;exact hq
 |(q2,x)::r,q,h,hq,e,he=>by
  rw[fM]at he
  cases hb:bH k q2 with
  | true=>
   rw[hb,cond_true]at he;rcases d8.1 he with rfl|he
   ·exact h (q2,x) s_
   ·exact h e (by simp[he])
  | false=>
   rw[hb,cond_false]at he;rcases d8.1 he with rfl|he
   ·exact h (q2,x) s_
   ·exact zC hk r q (fun e he=>h e (by simp[he])) hq e he
theorem Uniq.put {a:Int}{v:Int}:∀{es:List (Tr×Int)},Uniq es->Uniq (cQ es (kI a) v)
 | [],_=>by unfold cQ fM;exact⟨fun e he=>(by cases he),trivial⟩
 |(q,x)::r,h=>by
  have ih:=Uniq.put (a:=a) (v:=v) h.2;unfold cQ at ih⊢;rw[fM]
  cases hb:bH (kI a) q with|true=>exact⟨h.1,h.2⟩|false=>exact⟨zC (zD a) r q h.1 (by rw[Hv];exact hb),ih⟩
theorem Bn {f:Tr->Bool}:∀{es:List (Tr×Int)} {e:Tr×Int},e∈qP f es->e∈es
 | [],_,h=>h
 |(q,x)::r,e,h=>by
  rw[qP]at h
  cases hb:f q with
  | true=>rw[hb,cond_true]at h;exact w6 _ h
  | false=>
   rw[hb,cond_false]at h;rcases d8.1 h with rfl|h
   ·simp
   ·exact w6 _ (Bn h)
theorem Uniq.del {k:Tr}:∀{es:List (Tr×Int)},Uniq es->Uniq (jj es k)
 | [],_=>trivial
 |(q,x)::r,h=>by
  have ih:=Uniq.del (k:=k) h.2;unfold jj at ih⊢;rw[qP]
  cases hb:bH k q with|true=>exact h.2|false=>exact⟨fun e he=>h.1 e (Bn he),ih⟩
structure MapOk (C:Cx) (x:Sc) (k:Nat) (pos RE:List Int) (zs os fs:List (Tr×Int)):Prop where
 uniq:Uniq zs
 zero:∀i:Nat,x.f<i->i<k->(j_ C.p i=3\/j_ C.p i=5)->bT zs (kI i)=(match i_ C.p i with|some j=>if j<k then none else some (atL pos i)|none=>some (atL pos i))
 over:∀i:Nat,x.f<i->i<k->(j_ C.p i=3\/j_ C.p i=5)->bT os (kI i)=(match i_ C.p i with|some j=>if j<k then some (atL pos j)else none|none=>none)
 fresh:∀i:Nat,k<=i->bT os (kI i)=none
 first:∀i:Nat,x.f<i->i<k->j_ C.p i=5->bT fs (kI i)=some (atL RE i)
section
variable {C:Cx} {x:Sc} {ins:List Nat} {k e:Nat} {pos RE:List Int} {zs os fs:List (Tr×Int)}
theorem xA {p:List Qt}{i k:Nat}{j:Nat}(h:i_ p i=some j)(hk:j_ p k≠4):j≠k:=by rintro rfl;obtain⟨_,_,_,_,_,_,_,y,hy,h4⟩:=aP h;exact hk (by rw[aL hy];exact h4)
theorem V148{p:Prop}(h:p:=by
 dsimp only;by_cases hj:j<k
 ·rw[b9 hj,b9 o_]
 ·rw[b8 hj,b8 o_]):p:=h
theorem MapOk.plain (h:MapOk C x k pos RE zs os fs)(hk:j_ C.p k≠3/\j_ C.p k≠4/\j_ C.p k≠5)(hd:Int)(v:Int):MapOk C x (k+1) pos (RE.set k hd) zs os (cQ fs (kI k) v):=by
 refine⟨h.uniq,fun i h1 h2 h3=>?_,fun i h1 h2 h3=>?_,fun i h1=>h.fresh i o_,fun i h1 h2 h3=>?_⟩
 ·have RB:i≠k:=fun e=>by subst e;omega
  rw[h.zero i h1 o_ h3]
  cases he:i_ C.p i with
  | none=>rfl
  | some j=>have:=xA he hk.2.1;exact V148
 ·have RB:i≠k:=fun e=>by subst e;omega
  rw[h.over i h1 o_ h3]
  cases he:i_ C.p i with
  | none=>rfl
  | some j=>have:=xA he hk.2.1;exact V148
 ·have RB:i≠k:=fun e=>by subst e;omega
  rw[ey o_,eO RB];exact h.first i h1 o_ h3
theorem MapOk.opens (h:MapOk C x k pos RE zs os fs)(hk:j_ C.p k=3\/j_ C.p k=5)(hp:k<pos.length)(hh:k<RE.length)(pv hd:Int):MapOk C x (k+1) (pos.set k pv) (RE.set k hd) (cQ zs (kI k) pv) os (cQ fs (kI k) hd):=by
 have Xz:∀j,i_ C.p k=some j->k<j:=fun j hj=>by obtain⟨_,_,_,_,_,h,_⟩:=aP hj;exact h
 refine⟨h.uniq.put,fun i h1 h2 h3=>?_,fun i h1 h2 h3=>?_,fun i h1=>h.fresh i o_,fun i h1 h2 h3=>?_⟩
 ·by_cases RB:i=k
  ·subst RB;rw[iK,fX hp]
   cases he:i_ C.p i with|none=>rfl|some j=>dsimp only;rw[b8 (by have:=Xz j he;omega)]
  ·rw[ey o_,h.zero i h1 o_ h3,eO RB]
   cases he:i_ C.p i with
   | none=>rfl
   | some j=>have:=xA (k:=k) he o_;exact V148
 ·by_cases RB:i=k
  ·subst RB;rw[h.fresh i (d7 _)]
   cases he:i_ C.p i with|none=>rfl|some j=>dsimp only;rw[b8 (by have:=Xz j he;omega)]
  ·rw[h.over i h1 o_ h3]
   cases he:i_ C.p i with
   | none=>rfl
   | some j=>
    have:=xA (k:=k) he o_;dsimp only;rw[eO this];by_cases hj:j<k
    ·rw[b9 hj,b9 o_]
    ·rw[b8 hj,b8 o_]
 ·by_cases RB:i=k
  ·subst RB;rw[iK,fX hh]
  ·rw[ey o_,eO RB];exact h.first i h1 o_ h3
theorem MapOk.else (h:MapOk C x k pos RE zs os fs)(hk:j_ C.p k=4)(ho:i_ C.p (f_ C.p k)=some k)(ho1:f_ C.p k<k)(hp:k<pos.length)(pv v:Int):MapOk C x (k+1) (pos.set k pv) RE (jj zs (kI (f_ C.p k:Int))) (cQ os (kI (f_ C.p k:Int)) pv) (cQ fs (kI k) v):=by
 have huq:∀i j,i_ C.p i=some j->i≠f_ C.p k->j≠k:=fun i j hj hi e=>by subst e;exact hi (lG hj ho)
 refine⟨h.uniq.del,fun i h1 h2 h3=>?_,fun i h1 h2 h3=>?_,fun i h1=>?_,fun i h1 h2 h3=>?_⟩
 ·have RB:i≠k:=fun e=>by subst e;omega
  by_cases S4:i=f_ C.p k
  ·subst S4;rw[oA h.uniq,ho];dsimp only;rw[b9 o_]
  ·rw[tq o_,h.zero i h1 o_ h3,eO RB]
   cases he:i_ C.p i with
   | none=>rfl
   | some j=>have:=huq i j he S4;exact V148
 ·have RB:i≠k:=fun e=>by subst e;omega
  by_cases S4:i=f_ C.p k
  ·subst S4;rw[iK,ho];dsimp only;rw[b9 o_,fX hp]
  ·rw[ey o_,h.over i h1 o_ h3]
   cases he:i_ C.p i with
   | none=>rfl
   | some j=>
    have:=huq i j he S4;dsimp only;rw[eO this];by_cases hj:j<k
    ·rw[b9 hj,b9 o_]
    ·rw[b8 hj,b8 o_]
 ·rw[ey o_];exact h.fresh i o_
 ·have RB:i≠k:=fun e=>by subst e;omega
  rw[ey o_];exact h.first i h1 o_ h3
theorem MapOk.end (h:MapOk C x k pos RE zs os fs)(hk:j_ C.p k=7)(v:Int):MapOk C x (k+1) pos RE zs os (cQ fs (kI k) v):=by
 have h':=h.plain o_ (atL RE k) v;refine⟨h'.uniq,h'.zero,h'.over,h'.fresh,fun i h1 h2 h3=>?_⟩;have RB:i≠k:=fun e=>by subst e;omega
 rw[h'.first i h1 h2 h3,eO RB]
theorem MapOk.exit (h:MapOk C x k pos RE zs os fs){i:Nat}(hi:f_ C.p k=i)(h1:x.f<i)(h2:i<k)(hk:j_ C.p i=3\/j_ C.p i=5)(hj:∀j,i_ C.p i=some j->j<k):
  (bT zs (kI i)=some (atL pos (eU C.p k))/\bT os (kI i)=none)\/(bT zs (kI i)=none/\bT os (kI i)=some (atL pos (eU C.p k))):=by
 have hz:=h.zero i h1 h2 hk;have ho:=h.over i h1 h2 hk;unfold eU;rw[hi]
 cases he:i_ C.p i with
 | none=>rw[he]at hz ho;exact .inl ⟨hz,ho⟩
 | some j=>rw[he]at hz ho;dsimp only at hz ho⊢;rw[b9 (hj j he)]at hz ho;exact .inr ⟨hz,ho⟩
end
abbrev mpV (o:Sim.Id):AV:= .r (.c (.mpv o))
abbrev mpH (zs os fs:List (Tr×Int)):List (Sim.Id×AO):=[((0,2,0),.mp (some .i64) zs),((0,2,1),.mp (some .i64) os),((0,2,2),.mp (some .i64) fs)]
theorem zd (C:Cx)(hC:CxOk C)(pd:List Nat)(s:Gs)(d:Int)(ins:List Nat)(q:Ib)(lv:List Int)(x:Sc)(hq:IbOk C x q)(k g:Nat)(hg:bI C g)(zs os fs:List (Tr×Int))(h1:s.I8.length+2<=68719476736)(h2:x.I9.length<=100)(h3:s.start=true->s.I8.length∈pd)(h4:-1000<=d/\d<=1990)(Zc:lv.length<=68719476736)(hd p:List Int):
  bh prog 271 [dP,ibP,tI .i64 (k:Int),tI .i64 (g:Int),mpV (0,2,0),mpV (0,2,1),mpV (0,2,2)] (kK (0,0,1) (0,0,2) (0,1,1) C pd s d ins q lv++mpH zs os fs) (.tup [])
   (kK (1,0,1) (0,0,2) (1,1,1) C pd (be C x k true (d+1) ⟨aB C s d 0 0 k x.I9,hd,p,lv⟩).g (if x.J9=true then d else d+1) ins q (be C x k true (d+1) ⟨aB C s d 0 0 k x.I9,hd,p,lv⟩).lv++mpH zs os fs):=by
 refine ax hΓ aF func271 rfl d_ rfl rfl ?_;obtain⟨y,hy,RF⟩:=hg;have g1:=cB C pd s d ins q lv k 0 0 1 aal (by rw[hq.I9];exact h2) h3 o_ o_;rw[hq.I9]at g1;have g2:=sS C hC pd (aB C s d 0 0 k x.I9) (d+1) ins q lv x hq k true aas h2 (fun h=>by cases h) o_ Zc hd p
 have Wz:(if x.J9=false/\true=true then d+1 else d+1-1)=if x.J9=true then d else d+1:=by
  cases x.J9
  ·rw[b9 ⟨rfl,rfl⟩,b8 s_]
  ·rw[b8 s_,b9 rfl];omega
 rw[Wz]at g2;repeat' ((conv=>whnf);first|apply Wx|apply W6|refine cg g1 ?_|refine cg g2 ?_|apply oi|apply fi|intro h|refine⟨g,y.tr,rfl,ab hy,?_⟩|exact Y15|refine e_ rfl ?_)
theorem Q7{p:Prop}(h:p:=by exfalso;(simp only[m1,m2,Option.isSome_some,Option.isSome_none,w9,Bool.true_eq_false,w5,w3,ne_eq]at *)<;>first|omega|contradiction):p:=h
theorem xp (C:Cx)(hC:CxOk C)(pd:List Nat)(s:Gs)(d:Int)(ins:List Nat)(q:Ib)(lv:List Int)(x:Sc)(hq:IbOk C x q)(k g:Nat)(y:Qt)(hy:C.p[g]?=some y)(hk:y.J0=3\/y.J0=5)(zs os fs:List (Tr×Int))(j:Nat)(hd:Int)
  (hm:(bT zs (kI g)=some (j:Int)/\bT os (kI g)=none)\/(bT zs (kI g)=none/\bT os (kI g)=some (j:Int))) (hf:y.J0=5->bT fs (kI g)=some hd) (hj:j<s.I8.length) (h1:s.I8.length+2<=68719476736) (h2:x.I9.length<=100) (h3:s.start=true->s.I8.length∈pd) (h4:-1000<=d/\d<=1990) (Zc:lv.length<=68719476736) (s1:Gs) (Tg:s1=if y.J0=5 then aB C s d 10 hd k x.I9 else s):
  bh prog 271 [dP,ibP,tI .i64 (k:Int),tI .i64 (g:Int),mpV (0,2,0),mpV (0,2,1),mpV (0,2,2)] (kK (0,0,1) (0,0,2) (0,1,1) C pd s d ins q lv++mpH zs os fs) (.tup [])
   (kK (1,0,1) (0,0,2) (0,1,1) C pd ⟨bv s1.I8 j s1.I8.length,s1.J4,s1.start⟩ d ins q lv++mpH zs os fs):=by
 refine ax hΓ aF func271 rfl d_ rfl rfl ?_;have UE:j<s1.I8.length:=by rw[Tg];split<;>first|(simp[aB];omega)|omega
 have Rw:=cp pd s1.I8;have Q0:j<(itR (clr pd s1.I8)).length:=o_;obtain⟨it,Ry⟩:=ae (l:=clr pd s1.I8) (k:=j) (by rw[qg];exact UE);have QO:itR (clr pd (bv s1.I8 j s1.I8.length))=(itR (clr pd s1.I8)).set j [.d (.int .i64 it.K0.J5),.d (.int .i64 (s1.I8.length:Int)),.d (.int .i64 it.M8),.d (.bool it.L7),.d (.lst 1 (it.N0.map aa)),.d (.int .i64 it.M6),.d (.bool it.N2)]:=by rw[rZ,lu Ry]
 have P2:¬y.J0=0:=o_;by_cases h5:y.J0=5
 ·rw[b9 h5]at Tg;have hf5:=hf h5;have g1:=cB C pd s d ins q lv k 10 hd 0 aal (by rw[hq.I9];exact h2) h3 o_ o_;rw[hq.I9,<-Tg,Int.add_zero]at g1;have hfv:kD (bT fs (kI g))=hd:=by rw[hf5];rfl
  rw[<-hfv]at g1;rcases hm with⟨m1,m2⟩|⟨m1,m2⟩
  ·have hv:kD (bT zs (kI g))=(j:Int):=(by rw[m1];rfl);repeat' ((conv=>whnf);first|apply Wx|apply W6|refine cg g1 ?_|apply oi|apply fi|intro h|refine⟨g,y.tr,rfl,ab hy,?_⟩|refine⟨j,hv,Q0,?_⟩|refine⟨_,(gV Ry),?_⟩|exact Y8|refine e_ rfl ?_)
   all_goals try exact Q7
   all_goals(refine⟨?_⟩;rw[Rw,QO];rfl)
  ·have hv:kD (bT os (kI g))=(j:Int):=(by rw[m2];rfl);repeat' ((conv=>whnf);first|apply Wx|apply W6|refine cg g1 ?_|apply oi|apply fi|intro h|refine⟨g,y.tr,rfl,ab hy,?_⟩|refine⟨j,hv,Q0,?_⟩|refine⟨_,(gV Ry),?_⟩|exact Y8|refine e_ rfl ?_)
   all_goals try exact Q7
   all_goals(refine⟨?_⟩;rw[Rw,QO];rfl)
 ·rw[b8 h5]at Tg;subst Tg;rcases hm with⟨m1,m2⟩|⟨m1,m2⟩
  ·have hv:kD (bT zs (kI g))=(j:Int):=(by rw[m1];rfl);repeat' ((conv=>whnf);first|apply Wx|apply W6|apply oi|apply fi|intro h|refine⟨g,y.tr,rfl,ab hy,?_⟩|refine⟨j,hv,Q0,?_⟩|refine⟨_,(gV Ry),?_⟩|exact Y8|refine e_ rfl ?_)
   all_goals try exact Q7
   all_goals(refine⟨?_⟩;rw[Rw,QO];rfl)
  ·have hv:kD (bT os (kI g))=(j:Int):=(by rw[m2];rfl);repeat' ((conv=>whnf);first|apply Wx|apply W6|apply oi|apply fi|intro h|refine⟨g,y.tr,rfl,ab hy,?_⟩|refine⟨j,hv,Q0,?_⟩|refine⟨_,(gV Ry),?_⟩|exact Y8|refine e_ rfl ?_)
   all_goals try exact Q7
   all_goals(refine⟨?_⟩;rw[Rw,QO];rfl)
theorem Jo {pd:List Nat}{l:List Qs}:clr (l.length::pd) l=clr pd l:=by
 apply B4;intro i;rw[gY,gY]
 cases hx:l[i]? with
 | none=>rfl
 | some x=>have:=aE hx;simp only[v5,lT,B9];rw[show(i==l.length)=false by simp;omega,A8]
theorem sC {pd:List Nat}{l:List Qs}{n:Nat}{it:Qs}(hx:l[n]?=some it)(hs:it.L7=true)(hn:n∉pd):(itR (clr (n::pd) l)).set n [.d (.int .i64 it.K0.J5),.d (.int .i64 it.K0.L2),.d (.int .i64 it.M8),.d (.bool true),.d (.lst 1 (it.N0.map aa)),.d (.int .i64 it.M6),.d (.bool it.N2)]=itR (clr pd l):=by
 have h1:clr pd l=(clr (n::pd) l).set n it:=by
  apply B4;intro i;rw[E4,qg,gY,gY];by_cases h:n=i
  ·subst h;rw[b9 rfl,b9 (aE hx),hx];simp only[v5,lT];rw[b8 (by simpa using hn)]
  ·rw[b8 h]
   cases l[i]? with
   | none=>rfl
   | some y=>simp only[v5,lT,B9];rw[show(i==n)=false by simp;omega,A8]
 rw[h1];simp only[itR,aw,C7];congr 1;simp[Qs.tr,hs]
theorem Mg {C:Cx}(hC:CxOk C){lev:Nat}{x:Sc}{ins:List Nat}(hx:ScOk C x ins)(R8:((lev+(ins.length-1):Nat):Int)=C.b.M0){line b:Nat}:∀(e:Ex) {d:Int} {s:Gs},(∀t∈e.toks,t.J0=7->∃f,findN C.p 0 t.J7=some f)->Beg b s->(dk C (bg C lev) x ins line e d s).start=false
 | .node t es,d,s,hca,hb=>by
  rw[dk];have Rb:=qH (C:=C) (x:=x) (ins:=ins) (line:=line) (rep:=bg C lev) (fun g d s hg hr hb=>Ef hC lev line g d s hx hg hr hb) es d hb;obtain⟨s1,Tg⟩:∃s1,ce C (bg C lev) x ins line es d s=s1:=⟨_,rfl⟩;rw[Tg]at Rb⊢;unfold fW;split
  ·rfl
  ·split
   ·rfl
   ·split
    ·rename_i h7;obtain⟨f,hf⟩:=hca t (by simp[Ex.toks]) h7;rw[hf];dsimp only;split
     ·rename_i hr;obtain⟨r1,_⟩:=eM hr;have hc:=hx.I9;obtain⟨m,rfl⟩:∃m,lev=m+1:=⟨lev-1,o_⟩;exact Mp Rb
     ·rfl
    ·rfl
theorem Q36{p:Prop}(h:p:=by exact⟨congrArg itR SH.symm⟩):p:=h
theorem Q16{p:Prop}(h:p:=by exact⟨congrArg (Tr.int .i64) hqb.symm⟩):p:=h
theorem Q10{p:Prop}(h:p:=by exfalso;rw[hqe]at h;have:=j6 h;omega):p:=h
theorem GM {C:Cx}(hC:CxOk C){lev:Nat}(hE:OW C lev):xI C lev:=by
 intro x q ins pd s d hx hq hqf hqe hqb QJ hpd QG R8 Vk Zq;refine ax hΓ aF func252 rfl d_ rfl rfl ?_;obtain⟨e,he,Xf,QP,Tm,Sk⟩:=hx.endE hC;rw[Tm]at hqe QG;have SA:=hC.len;have hin:=hC.inl;have aa6:=hx.I9;have h3:=vq (n:=lev) o_;have Rx:x.I9.length<=100:=o_;have Ur:q.I9.length<=100:=by rw[hq.I9];exact Rx
 have VN:0<=x.first/\x.first<=1000:=by have:=hx.first;omega
 have gO:=AE C.p SA;have Tk:=sJ C.p C.p.length;obtain⟨R,hR⟩:∃R,fh C (bg C lev) x ins d (e+1-(x.f+1)) (x.f+1) (cz C s)=R:=⟨_,rfl⟩
 have QO:aZ C (bg C lev) x ins d s=(R.g,R.lv):=by unfold aZ;rw[Tm,show e-x.f=e+1-(x.f+1) by omega,hR]
 rw[QO];have UN:LInv C lev x ins d e R (x.f+1) (cz C s):=⟨d7 _,o_,by simp[cz],by simp[cz],fun i h1 h2=>o_,⟨by simp[cz],fun j hj=>by simp[cz]at hj⟩,by rw[show e+1-(x.f+1)=e-x.f by omega];exact QG,hR⟩;have hM0:MapOk C x (x.f+1) (cz C s).pos (cz C s).J6 [] [] []:=⟨trivial,fun i h1 h2=>o_,fun i h1 h2=>o_,fun i _=>rfl,fun i h1 h2=>o_⟩;repeat' ((conv=>whnf);first|apply Wx|apply W6|apply oi|apply fi|intro h|refine cl gO ?_|exact Y8|refine e_ rfl ?_)
 conv=>whnf
 refine⟨{r:(Nat×Ls×Int)×(List (Tr×Int)×List (Tr×Int)×List (Tr×Int))//LInv C lev x ins d e R r.1.1 r.1.2.1/\MapOk C x r.1.1 r.1.2.1.pos r.1.2.1.J6 r.2.1 r.2.2.1 r.2.2.2/\(r.1.1=e+1->r.1.2.2=if x.J9=true then d else d+1)/\s.I8.length<=r.1.2.1.g.I8.length/\r.1.2.1.g.start=false},
  fun r=>⟨[(0,dP),(1,ibP),(4,.r (.c (.own (15,0,0)))),(5,mpV (16,0,0)),(6,mpV (17,0,0)),(7,mpV (18,0,0)),(8,tI .i64 (r.1.1.1:Int))],
   [(
    (0,0,0),some (yn C r.1.1.2.1.g r.1.1.2.2 (15,0,1) (15,0,2))),((15,0,1),some (.dar 7 (itR (clr pd r.1.1.2.1.g.I8)) none)),((15,0,2),some (.arr false 1 (nS ins))),((0,1,0),some (ibB q (15,0,3))),((15,0,3),some (.arr false 1 (r.1.1.2.1.lv.map aa))),((15,0,0),some (.arr true 1 ((mx C.p C.p.length).map aa))),
    ((16,0,0),some (.mp (some .i64) r.1.2.1)),((17,0,0),some (.mp (some .i64) r.1.2.2.1)),((18,0,0),some (.mp (some .i64) r.1.2.2.2))],[18,17,16,15,0]⟩,
  fun r=>e+1-r.1.1.1,⟨((x.f+1,cz C s,d),([],[],[])),UN,hM0,fun h=>by dsimp only at h;omega,d7 _,QJ⟩,?_,?_⟩
 ·exact Z5
 intro⟨⟨⟨k,L,dep⟩,⟨zs,os,fs⟩⟩,hI,hM,aaC,hgs,hL0⟩;dsimp only at hI hM aaC hgs hL0⊢;by_cases QI:k<=e
 ·obtain⟨ln,hl⟩:=ae (l:=C.p) (k:=k) o_;have h0:=fQ hC hx he hI.lo QI hl;obtain⟨S9,TX,_,RZ,To⟩:=hC.line _ _ hl;obtain⟨Tz,Sp⟩:=nA hC hl;have WS:=hI.lo;have hIr:=hI.room;have hIh:=hI.J6;have hIp:=hI.pos;have WR:=hI.lv.1;have U3:=aL hl
  have YL:L.g.I8.length+20*dc lev+3<=68719476736:=by obtain⟨n,hn⟩:∃n,e+1-k=n+1:=⟨e-k,o_⟩;rw[hn,p8]at hIr;omega
  obtain⟨A,hA⟩:∃A,dn C (bg C lev) x ins d k ln L=A:=⟨_,rfl⟩;have VR:∀line g d s,bI C g->cv C ins g s.I8.length=true->Grow (dc lev) s (bg C lev x ins line g d s):=fun line g d s hg hr=>dQ hC lev line g d s hx hg hr;have hN:=LInv.next hC hx he hI QI hl;have hAo:A.g.start=false:=by rw[<-hA];exact Cs hL0
  have hAg:=(nu (x:=x) (ins:=ins) (rep:=bg C lev) (lev:=lev) VR hC hl h0 d L).ge;rw[hA]at hN hAg;obtain⟨b1,b2,b3,b4,b5,b6⟩:=rX (C:=C) (x:=x) k ln A;have YD:(bf C x k ln A).g.start=false:=by rw[b6];exact hAo
  have YJ:s.I8.length<=(bf C x k ln A).g.I8.length:=by rw[b4];omega
  have Sj:=cp pd L.g.I8;have S6:ca L.g:=by unfold ca;omega
  have Ve:∀i∈pd,i<L.g.I8.length:=fun i hi=>by have:=hpd i hi;omega
  have gH:=pK ln.J0;have hpk:k<L.pos.length:=o_;have hhk:k<L.J6.length:=o_
  have P8:∀i:Nat,(h_ C.p i=some k\/i_ C.p i=some k)->((mx C.p C.p.length).map aa)[k]?=some (aa (i:Int)):=fun i hi=>by
   have UX:i<C.p.length:=by
    rcases hi with h|h
    ·obtain⟨_,hx,_⟩:=aI h;exact aE hx
    ·obtain⟨_,_,hx,_⟩:=aP h;exact aE hx
   rw[j9,Eg hi o_ _ UX];rfl
  have Yv:k<((mx C.p C.p.length).map aa).length:=by rw[d9,Tk];omega
  have Ul:ln.J0≠7->k<e:=fun h=>by
   exact V105
  have Rt:ln.J0≠7->qm C ln.L0:=fun h=>by
   exact V110
  obtain⟨g1,UP⟩:∃g1,dk C (bg C lev) x ins k (exL ln.L0) d ⟨L.g.I8,L.g.J4,true⟩=g1:=⟨_,rfl⟩;have aab:Beg L.g.I8.length (⟨L.g.I8,L.g.J4,true⟩:Gs):=⟨d7 _,⟨fun _=>rfl,fun _=>rfl⟩⟩
  have hX:bq ln.L0=true->ln.J0≠7->bh prog 268 [dP,ibP,tI .i64 (k:Int),.r (.c (.t (.lst 3 (ln.L0.map QC.tr)))),tI .i64 (0:Int),tI .i64 (L.g.I8.length:Int)] (kK (0,0,1) (0,0,2) (0,1,1) C (L.g.I8.length::pd) ⟨L.g.I8,L.g.J4,true⟩ d ins q L.lv) (.tup []) (kK (1,0,1) (1,0,2) (0,1,1) C (L.g.I8.length::pd) g1 (d+1) ins q L.lv):=fun Sd hx7=>by
   obtain⟨eo,et⟩:=mA Sd;have YB:(exL ln.L0).toks.length<=20:=(by rw[<-et];exact RZ);have hmu:=m5 (dc lev) YB
   have:=hE (exL ln.L0) x q ins (L.g.I8.length::pd) L.lv k 0 L.g.I8.length ln ⟨L.g.I8,L.g.J4,true⟩ d eo hl ⟨[],by rw[A1,m7];exact et⟩ (Rt hx7) ⟨hx,hq,⟨g_,R8,Vk,o_⟩,aab,s_,fun i hi=>by
    rcases d8.1 hi with rfl|hi
    ·exact d7 _
    ·have:=Ve i hi;omega⟩
   rw[UP]at this;exact this
  have hGr:bq ln.L0=true->ln.J0≠7->g1.I8.length<=L.g.I8.length+20*dc lev/\g1.start=false/\∃it,g1.I8[L.g.I8.length]?=some it/\it.L7=true:=fun Sd hx7=>by
   have:=(nD (x:=x) (ins:=ins) (rep:=bg C lev) (line:=k) (lev:=lev) (fun g d s hg hr=>dQ hC lev k g d s hx hg hr) hC hl Sd d ⟨L.g.I8,L.g.J4,true⟩).le;have et:=(mA Sd).2;have ho:=Mg hC hx R8 (line:=k) (exL ln.L0) (d:=d) (by rw[<-et];exact fun t ht h7=>by obtain⟨f,hf,_⟩:=Rt hx7 t ht h7;exact⟨f,hf⟩) aab;have hm:=AK (C:=C) (rep:=bg C lev) (b:=L.g.I8.length) (fun x ins line g d s h=>JU lev x ins line g d s h) x ins k (exL ln.L0) d ⟨L.g.I8,L.g.J4,true⟩ (.inl ⟨rfl,rfl⟩);rw[UP]at this ho hm;refine⟨this,ho,?_⟩;rcases hm with⟨hm,_⟩|hm
   ·rw[ho]at hm;cases hm
   ·exact hm
  unfold dn at hA;rw[UP]at hA;dsimp only at hA;have SH:=Jo (pd:=pd) (l:=L.g.I8);have Vf:ln.J0=4\/ln.J0=7\/ln.J0=1\/ln.J0=2\/ln.J0=6\/(ln.J0=3\/ln.J0=5):=o_;rcases Vf with h4|h7|h1|h2|h6|TY
  ·
   rw[b9 h4]at hA;obtain⟨o1,o2,o3,o4⟩:=hx.own4 hC he o_ QI hl h4;obtain⟨y,m,hy,y3,hm,_⟩:=aP o1;have Vm:=aL hy;have Vl:dY ln.J0=false:=(by rw[h4];rfl);rw[Vl]at gH;have gS:=cB C pd L.g d ins q L.lv k 10 0 0 S6 Ur (fun h=>by rw[hL0]at h;cases h) o_ o_;rw[hq.I9,Int.add_zero]at gS;have a1:A.g=⟨bv (aB C L.g d 10 0 k x.I9).I8 (atL L.pos (f_ C.p k)) (aB C L.g d 10 0 k x.I9).I8.length,(aB C L.g d 10 0 k x.I9).J4,(aB C L.g d 10 0 k x.I9).start⟩:=(by rw[<-hA]);have a4:A.J6=L.J6:=(by rw[<-hA]);have a5:A.pos=L.pos.set k L.g.I8.length:=(by rw[<-hA]);have a6:A.lv=L.lv:=(by rw[<-hA]);have SL:=hM.else o_ o1 o3 hpk (L.g.I8.length:Int) (L.g.I8.length:Int);have hB:bf C x k ln A=A:=(by unfold bf;rw[b8 o_]);have hz:=hM.zero _ o2 o3 (.inl o_);rw[o1]at hz;dsimp only at hz;rw[b8 o_]at hz;obtain⟨p1,p2⟩:=hI.at_ _ o2 o3 aaY;obtain⟨jn,VQ⟩:=i7 p1;have hzv:kD (bT zs (kI (f_ C.p k:Int)))=(jn:Int):=(by rw[hz];exact VQ);have ZB:(aB C L.g d 10 0 k x.I9).I8.length=L.g.I8.length+1:=(by simp[aB]);have Q0:jn<(itR (clr pd (aB C L.g d 10 0 k x.I9).I8)).length:=(by rw[cp,ZB];omega);obtain⟨it,Ry⟩:=ae (l:=clr pd (aB C L.g d 10 0 k x.I9).I8) (k:=jn) (by rw[qg,ZB];omega);have TZ:itR (clr pd (bv (aB C L.g d 10 0 k x.I9).I8 (atL L.pos (f_ C.p k)) (aB C L.g d 10 0 k x.I9).I8.length))=(itR (clr pd (aB C L.g d 10 0 k x.I9).I8)).set jn [.d (.int .i64 it.K0.J5),.d (.int .i64 ((itR (clr pd (aB C L.g d 10 0 k x.I9).I8)).length:Int)),.d (.int .i64 it.M8),.d (.bool it.L7),.d (.lst 1 (it.N0.map aa)),.d (.int .i64 it.M6),.d (.bool it.N2)]:=(by rw[rZ,VQ,lu Ry,cp]);have O7:=P8 _ (.inr o1);repeat' ((conv=>whnf);first|(with_reducible apply W1;fail_if_success (with_reducible show Wo _ _ _ _ (Code.region 10 _ _) _ _))|(with_reducible first|apply W2|apply W3|apply W4|apply W5|apply W6|apply W7|apply W8|apply W9)|apply au|apply oi|apply fi|intro h|refine⟨k,ln.tr,rfl,ab hl,?_⟩|exact Y8|refine e_ rfl ?_)
   all_goals try exact Q10
   conv=>whnf
   rw[Sj];repeat' ((conv=>whnf);first|apply Wx|apply W6|refine cg gS ?_|apply oi|apply fi|intro h|refine cl gH ?_|refine⟨k,rfl,Yv,?_⟩|refine⟨_,O7,?_⟩|refine⟨jn,hzv,Q0,?_⟩|refine⟨_,(gV Ry),?_⟩|exact Y8|refine e_ rfl ?_)
   all_goals try exact Q16
   all_goals try exact KK
   all_goals(conv=>whnf)
   all_goals(refine⟨⟨((k+1,bf C x k ln A,d),(jj zs (kI (f_ C.p k:Int)),cQ os (kI (f_ C.p k:Int)) (L.g.I8.length:Int),cQ fs (kI k) (L.g.I8.length:Int))),hN,by dsimp only;rw[b2,b1];rw[a5,a4];exact SL,fun h=>by have:=Ul o_;dsimp only at h;omega,YJ,YD⟩,?_,KD⟩)
   repeat' ((conv=>whnf);first|apply Wx|apply W6|apply oi|apply fi|intro h|exact Y9|refine e_ rfl ?_)
   all_goals(refine⟨?_⟩;dsimp only;simp only[hB,a1,a4,a5,a6,TZ,Sj];try rfl)
  ·
   rw[b8 o_,b9 h7]at hA;have Vl:dY ln.J0=false:=(by rw[h7];rfl);rw[Vl]at gH;obtain⟨o1,o2⟩:=hx.own7 hC he o_ QI hl h7;have O7:=P8 _ (.inl o1);have SL:=hM.end o_ (L.g.I8.length:Int);rcases o2 with⟨o2,o3⟩|⟨o2,o3,o4,y,hy,o5⟩
   ·subst o2;rw[b9 o3]at hA;rw[o3]at O7;have gS:=zd C hC pd L.g d ins q L.lv x hq k x.f hx.fn zs os (cQ fs (kI k) (L.g.I8.length:Int)) o_ Rx (fun h=>by rw[hL0]at h;cases h) o_ o_ L.J6 L.pos;rw[show be C x k true (d+1) ⟨aB C L.g d 0 0 k x.I9,L.J6,L.pos,L.lv⟩=A from hA]at gS;have a4:A.J6=L.J6:=(by rw[<-hA];unfold be;(repeat' split)<;>rfl);have a5:A.pos=L.pos:=(by rw[<-hA];unfold be;(repeat' split)<;>rfl);have hB:bf C x k ln A=A:=(by unfold bf;rw[b8 (by rintro⟨_,h⟩;exact h o3)]);repeat' ((conv=>whnf);first|(with_reducible apply W1;fail_if_success (with_reducible show Wo _ _ _ _ (Code.region 10 _ _) _ _))|(with_reducible first|apply W2|apply W3|apply W4|apply W5|apply W6|apply W7|apply W8|apply W9)|apply au|apply oi|apply fi|intro h|refine⟨k,ln.tr,rfl,ab hl,?_⟩|exact Y8|refine e_ rfl ?_)
    all_goals try exact Q10
    conv=>whnf
    rw[Sj];repeat' ((conv=>whnf);first|apply Wx|apply W6|refine cg gS ?_|apply oi|apply fi|intro h|refine cl gH ?_|refine⟨k,rfl,Yv,?_⟩|refine⟨_,O7,?_⟩|exact Y8|refine e_ rfl ?_)
    all_goals try exact Q16
    all_goals try exact KK
    all_goals(conv=>whnf)
    all_goals(refine⟨⟨((k+1,bf C x k ln A,(if x.J9=true then d else d+1)),(zs,os,cQ fs (kI k) (L.g.I8.length:Int))),hN,by dsimp only;rw[b2,b1];rw[a5,a4];exact SL,fun _=>rfl,YJ,YD⟩,?_,KD⟩)
    repeat' ((conv=>whnf);first|apply Wx|apply W6|apply oi|apply fi|intro h|exact Y9|refine e_ rfl ?_)
    all_goals(refine⟨?_⟩;dsimp only;simp only[hB];try rfl)
   ·rw[b8 o_]at hA;have Vm:=aL hy;have a1:A.g=if y.J0=5 then aB C L.g d 10 (atL L.J6 (f_ C.p k)) k x.I9 else L.g:=by rw[<-hA,Vm];split<;>rfl
    have a4:A.J6=L.J6:=(by rw[<-hA];split<;>rfl);have a5:A.pos=L.pos:=(by rw[<-hA];split<;>rfl);have a6:A.lv=L.lv:=by rw[<-hA];split<;>rfl
    have X7:=hM.exit (i:=f_ C.p k) rfl o3 o4 o_ (fun j hj=>by
     obtain⟨_,e2,_,_,q1,_,q2,_⟩:=aP hj;rw[o1]at q1;injection q1 with q1
     omega)
    obtain⟨x1,x2,x3,_⟩:=xE hC hx he o_ o_ hl h7;obtain⟨p1,p2⟩:=hI.at_ _ o_ x2 x3;obtain⟨jn,VQ⟩:=i7 p1;rw[VQ]at X7;have TD:y.J0=5->bT (cQ fs (kI k) (L.g.I8.length:Int)) (kI (f_ C.p k:Int))=some (atL L.J6 (f_ C.p k)):=fun h5=>by rw[ey o_];exact hM.first _ o3 o4 o_
    have gS:=xp C hC pd L.g d ins q L.lv x hq k (f_ C.p k) y hy o5 zs os (cQ fs (kI k) (L.g.I8.length:Int)) jn (atL L.J6 (f_ C.p k)) X7 TD o_ o_ Rx (fun h=>by rw[hL0]at h;cases h) o_ o_ A.g a1;have hB:(bf C x k ln A).g=⟨bv A.g.I8 (jn:Int) A.g.I8.length,A.g.J4,A.g.start⟩:=(by unfold bf;rw[b9 ⟨h7,o_⟩,a5,VQ]);repeat' ((conv=>whnf);first|(with_reducible apply W1;fail_if_success (with_reducible show Wo _ _ _ _ (Code.region 10 _ _) _ _))|(with_reducible first|apply W2|apply W3|apply W4|apply W5|apply W6|apply W7|apply W8|apply W9)|apply au|apply oi|apply fi|intro h|refine⟨k,ln.tr,rfl,ab hl,?_⟩|exact Y8|refine e_ rfl ?_)
    all_goals try exact Q10
    conv=>whnf
    rw[Sj];repeat' ((conv=>whnf);first|apply Wx|apply W6|refine cg gS ?_|apply oi|apply fi|intro h|refine cl gH ?_|refine⟨k,rfl,Yv,?_⟩|refine⟨_,O7,?_⟩|exact Y8|refine e_ rfl ?_)
    all_goals try exact Q16
    all_goals try exact KK
    all_goals(conv=>whnf)
    all_goals(refine⟨⟨((k+1,bf C x k ln A,d),(zs,os,cQ fs (kI k) (L.g.I8.length:Int))),hN,by dsimp only;rw[b2,b1];rw[a5,a4];exact SL,fun h=>by dsimp only at h;omega,YJ,YD⟩,?_,KD⟩)
    repeat' ((conv=>whnf);first|apply Wx|apply W6|apply oi|apply fi|intro h|exact Y9|refine e_ rfl ?_)
    all_goals(refine⟨?_⟩;dsimp only;simp only[hB,b3,a6];try rfl)
  ·
   rw[b8 o_,b8 o_,b9 h1]at hA;have Sd:=To (.inl h1);have gX:=hX Sd o_;obtain⟨YZ,Yd,it,Sm,Um⟩:=hGr Sd o_;have Yq:L.g.I8.length∉pd:=fun h=>by have:=Ve _ h;omega
   have XD:=sC (pd:=pd) Sm Um Yq;have T6:(clr (L.g.I8.length::pd) g1.I8)[L.g.I8.length]?=some (Gy it):=(by rw[gY,Sm];simp[lT]);have RQ:L.g.I8.length<(itR (clr (L.g.I8.length::pd) g1.I8)).length:=(by rw[cp];exact aE Sm);have Vl:dY ln.J0=true:=hasExpr_iff.2 (.inl h1);rw[Vl]at gH;have S3:=mN x.J3 ln.J7;have gI:=ky x.J3 ln.J7 o_;have gS:=qX C hC pd g1 (d+1) ins q L.lv x hq k (cN x.J3 ln.J7) (-1) true rfl aal Rx (fun h=>by rw[Yd]at h;cases h) o_ VN o_;rw[show d+1+-1=d by omega]at gS;have a1:A.g=aB C g1 (d+1) (bL C true) (bU C x (d+1) (cN x.J3 ln.J7)) k x.I9:=(by rw[<-hA];rfl);have a4:A.J6=L.J6.set k L.g.I8.length:=(by rw[<-hA]);have a5:A.pos=L.pos:=(by rw[<-hA]);have a6:A.lv=L.lv:=(by rw[<-hA]);rw[<-hq.J3]at gI gS a1;have SL:=hM.plain o_ (L.g.I8.length:Int) (L.g.I8.length:Int);have hB:bf C x k ln A=A:=by unfold bf;rw[b8 o_]
   generalize cN q.J3 ln.J7=ix at *
   repeat' ((conv=>whnf);first|(with_reducible apply W1;fail_if_success (with_reducible show Wo _ _ _ _ (Code.region 10 _ _) _ _))|(with_reducible first|apply W2|apply W3|apply W4|apply W5|apply W6|apply W7|apply W8|apply W9)|apply au|apply oi|apply fi|intro h|refine⟨k,ln.tr,rfl,ab hl,?_⟩|exact Y8|refine e_ rfl ?_)
   all_goals try exact Q10
   conv=>whnf
   rw[Sj];repeat' ((conv=>whnf);first|apply Wx|apply W6|refine cg gX ?_|refine cg gS ?_|apply oi|apply fi|intro h|refine cl gH ?_|refine⟨L.g.I8.length,rfl,RQ,?_⟩|refine⟨_,(gV T6),?_⟩|refine cl gI ?_|exact Y8|refine e_ rfl ?_)
   all_goals try exact Q16
   all_goals try exact Q36
   all_goals try exact⟨XD⟩
   all_goals try exact KK
   all_goals(conv=>whnf)
   all_goals(refine⟨⟨((k+1,bf C x k ln A,d),(zs,os,cQ fs (kI k) (L.g.I8.length:Int))),hN,by dsimp only;rw[b2,b1];rw[a5,a4];exact SL,fun h=>by have:=Ul o_;dsimp only at h;omega,YJ,YD⟩,?_,KD⟩)
   repeat' ((conv=>whnf);first|apply Wx|apply W6|apply oi|apply fi|intro h|exact Y9|refine e_ rfl ?_)
   all_goals(refine⟨?_⟩;dsimp only;simp only[hB,a1,a4,a5,a6];try rfl)
  ·
   rw[b8 o_,b8 o_,b8 o_,b9 h2]at hA;have Sd:=To (.inr (.inl h2));have gX:=hX Sd o_;obtain⟨YZ,Yd,it,Sm,Um⟩:=hGr Sd o_;have Yq:L.g.I8.length∉pd:=fun h=>by have:=Ve _ h;omega
   have XD:=sC (pd:=pd) Sm Um Yq;have T6:(clr (L.g.I8.length::pd) g1.I8)[L.g.I8.length]?=some (Gy it):=(by rw[gY,Sm];simp[lT]);have RQ:L.g.I8.length<(itR (clr (L.g.I8.length::pd) g1.I8)).length:=(by rw[cp];exact aE Sm);have Vl:dY ln.J0=true:=hasExpr_iff.2 (.inr (.inl h2));rw[Vl]at gH;have gS:=cB C pd g1 (d+1) ins q L.lv k 17 0 (-1) aal Ur (fun h=>by rw[Yd]at h;cases h) o_ o_;rw[hq.I9,show d+1+-1=d by omega]at gS;have a1:A.g=aB C g1 (d+1) 17 0 k x.I9:=(by rw[<-hA]);have a4:A.J6=L.J6.set k L.g.I8.length:=(by rw[<-hA]);have a5:A.pos=L.pos:=(by rw[<-hA]);have a6:A.lv=L.lv:=(by rw[<-hA]);have SL:=hM.plain o_ (L.g.I8.length:Int) (L.g.I8.length:Int);have hB:bf C x k ln A=A:=(by unfold bf;rw[b8 o_]);repeat' ((conv=>whnf);first|(with_reducible apply W1;fail_if_success (with_reducible show Wo _ _ _ _ (Code.region 10 _ _) _ _))|(with_reducible first|apply W2|apply W3|apply W4|apply W5|apply W6|apply W7|apply W8|apply W9)|apply au|apply oi|apply fi|intro h|refine⟨k,ln.tr,rfl,ab hl,?_⟩|exact Y8|refine e_ rfl ?_)
   all_goals try exact Q10
   conv=>whnf
   rw[Sj];repeat' ((conv=>whnf);first|apply Wx|apply W6|refine cg gX ?_|refine cg gS ?_|apply oi|apply fi|intro h|refine cl gH ?_|refine⟨L.g.I8.length,rfl,RQ,?_⟩|refine⟨_,(gV T6),?_⟩|exact Y8|refine e_ rfl ?_)
   all_goals try exact Q16
   all_goals try exact Q36
   all_goals try exact⟨XD⟩
   all_goals try exact KK
   all_goals(conv=>whnf)
   all_goals(refine⟨⟨((k+1,bf C x k ln A,d),(zs,os,cQ fs (kI k) (L.g.I8.length:Int))),hN,by dsimp only;rw[b2,b1];rw[a5,a4];exact SL,fun h=>by have:=Ul o_;dsimp only at h;omega,YJ,YD⟩,?_,KD⟩)
   repeat' ((conv=>whnf);first|apply Wx|apply W6|apply oi|apply fi|intro h|exact Y9|refine e_ rfl ?_)
   all_goals(refine⟨?_⟩;dsimp only;simp only[hB,a1,a4,a5,a6];try rfl)
  ·
   rw[b8 o_,b8 o_,b8 o_,b8 o_,b9 h6]at hA;have Sd:=To (.inr (.inr (.inr (.inr h6))));have gX:=hX Sd o_;obtain⟨YZ,Yd,it,Sm,Um⟩:=hGr Sd o_;have Yq:L.g.I8.length∉pd:=fun h=>by have:=Ve _ h;omega
   have XD:=sC (pd:=pd) Sm Um Yq;have T6:(clr (L.g.I8.length::pd) g1.I8)[L.g.I8.length]?=some (Gy it):=(by rw[gY,Sm];simp[lT]);have RQ:L.g.I8.length<(itR (clr (L.g.I8.length::pd) g1.I8)).length:=(by rw[cp];exact aE Sm);have Vl:dY ln.J0=true:=hasExpr_iff.2 (.inr (.inr (.inr (.inr h6))));rw[Vl]at gH;have gS:=sS C hC pd g1 (d+1) ins q L.lv x hq k false aal Rx (fun h=>by rw[Yd]at h;cases h) o_ o_ (L.J6.set k L.g.I8.length) L.pos;rw[hA,b8 s_,G0]at gS;have a4:A.J6=L.J6.set k L.g.I8.length:=(by rw[<-hA];unfold be;(repeat' split)<;>rfl);have a5:A.pos=L.pos:=(by rw[<-hA];unfold be;(repeat' split)<;>rfl);have SL:=hM.plain o_ (L.g.I8.length:Int) (L.g.I8.length:Int);have hB:bf C x k ln A=A:=(by unfold bf;rw[b8 o_]);repeat' ((conv=>whnf);first|(with_reducible apply W1;fail_if_success (with_reducible show Wo _ _ _ _ (Code.region 10 _ _) _ _))|(with_reducible first|apply W2|apply W3|apply W4|apply W5|apply W6|apply W7|apply W8|apply W9)|apply au|apply oi|apply fi|intro h|refine⟨k,ln.tr,rfl,ab hl,?_⟩|exact Y8|refine e_ rfl ?_)
   all_goals try exact Q10
   conv=>whnf
   rw[Sj];repeat' ((conv=>whnf);first|apply Wx|apply W6|refine cg gX ?_|refine cg gS ?_|apply oi|apply fi|intro h|refine cl gH ?_|refine⟨L.g.I8.length,rfl,RQ,?_⟩|refine⟨_,(gV T6),?_⟩|exact Y8|refine e_ rfl ?_)
   all_goals try exact Q16
   all_goals try exact Q36
   all_goals try exact⟨XD⟩
   all_goals try exact KK
   all_goals(conv=>whnf)
   all_goals(refine⟨⟨((k+1,bf C x k ln A,d),(zs,os,cQ fs (kI k) (L.g.I8.length:Int))),hN,by dsimp only;rw[b2,b1];rw[a5,a4];exact SL,fun h=>by have:=Ul o_;dsimp only at h;omega,YJ,YD⟩,?_,KD⟩)
   repeat' ((conv=>whnf);first|apply Wx|apply W6|apply oi|apply fi|intro h|exact Y9|refine e_ rfl ?_)
   all_goals(refine⟨?_⟩;dsimp only;simp only[hB,a4,a5];try rfl)
  ·
   rw[b8 o_,b8 o_,b8 o_,b8 o_,b8 o_]at hA;have Sd:=To o_;have gX:=hX Sd o_;obtain⟨YZ,Yd,it,Sm,Um⟩:=hGr Sd o_;have Yq:L.g.I8.length∉pd:=fun h=>by have:=Ve _ h;omega
   have XD:=sC (pd:=pd) Sm Um Yq;have T6:(clr (L.g.I8.length::pd) g1.I8)[L.g.I8.length]?=some (Gy it):=(by rw[gY,Sm];simp[lT]);have RQ:L.g.I8.length<(itR (clr (L.g.I8.length::pd) g1.I8)).length:=(by rw[cp];exact aE Sm);have Vl:dY ln.J0=true:=hasExpr_iff.2 o_;rw[Vl]at gH;have gS:=cB C pd g1 (d+1) ins q L.lv k 11 0 (-1) aal Ur (fun h=>by rw[Yd]at h;cases h) o_ o_;rw[hq.I9,show d+1+-1=d by omega]at gS;have a1:A.g=aB C g1 (d+1) 11 0 k x.I9:=(by rw[<-hA]);have aay:=cp pd g1.I8;have a4:A.J6=L.J6.set k L.g.I8.length:=(by rw[<-hA]);have a5:A.pos=L.pos.set k g1.I8.length:=(by rw[<-hA]);have a6:A.lv=L.lv:=(by rw[<-hA]);have SL:=hM.opens o_ hpk hhk (g1.I8.length:Int) (L.g.I8.length:Int);have hB:bf C x k ln A=A:=(by unfold bf;rw[b8 o_]);repeat' ((conv=>whnf);first|(with_reducible apply W1;fail_if_success (with_reducible show Wo _ _ _ _ (Code.region 10 _ _) _ _))|(with_reducible first|apply W2|apply W3|apply W4|apply W5|apply W6|apply W7|apply W8|apply W9)|apply au|apply oi|apply fi|intro h|refine⟨k,ln.tr,rfl,ab hl,?_⟩|exact Y8|refine e_ rfl ?_)
   all_goals try exact Q10
   conv=>whnf
   rw[Sj];repeat' ((conv=>whnf);first|apply Wx|apply W6|refine cg gX ?_|refine cg gS ?_|apply oi|apply fi|intro h|refine cl gH ?_|refine⟨L.g.I8.length,rfl,RQ,?_⟩|refine⟨_,(gV T6),?_⟩|exact Y8|refine e_ rfl ?_)
   all_goals try exact Q16
   all_goals try exact Q36
   all_goals try exact⟨XD⟩
   all_goals try exact KK
   all_goals(conv=>whnf)
   all_goals(refine⟨⟨((k+1,bf C x k ln A,d),(cQ zs (kI k) (g1.I8.length:Int),os,cQ fs (kI k) (L.g.I8.length:Int))),hN,by dsimp only;rw[b2,b1];rw[a5,a4];exact SL,fun h=>by have:=Ul o_;dsimp only at h;omega,YJ,YD⟩,?_,KD⟩)
   repeat' ((conv=>whnf);first|apply Wx|apply W6|apply oi|apply fi|intro h|exact Y9|refine e_ rfl ?_)
   all_goals(refine⟨?_⟩;dsimp only;simp only[hB,a1,a4,a5,a6,o8,cp];try rfl)
 ·have Rh:k=e+1:=by have:=hI.hi;omega
  subst Rh;have hf:=hI.fin;rw[v6,fh]at hf;subst hf;rw[aaC rfl];repeat' ((conv=>whnf);first|apply Wx|apply W6|apply oi|apply fi|intro h|exact Y8|refine e_ rfl ?_)
  all_goals try(exfalso;rw[hqe]at h;have:=j5 h;omega)
theorem HW {C:Cx}(hC:CxOk C):∀lev,GD C lev/\xI C lev:=by
 have hL:∀lev,GD C lev->xI C lev:=fun lev hR=>GM hC fun e x q ins pd lv k p b ln s d h1 h2 h3 h4 h5=>Cb hC hR e.toks.length e (d7 _) x q ins pd lv k p b ln s d h1 h2 h3 h4 h5;intro lev
 induction lev with
 | zero=>
  have hR:GD C 0:=by intro x q ins pd lv k g b s d hk hg UA hr;obtain⟨r1,_⟩:=eM UA;have h1:=hr.rm.depth;have h2:=hr.sc.I9;omega
  exact⟨hR,hL 0 hR⟩
 | succ n ih=>have hR:=KT hC ih.2;exact⟨hR,hL _ hR⟩
abbrev bV (b:Ql):AV:= .r (.agg [.t (.int .i64 b.N3),.t (.int .i64 b.M0),.t (.bool b.N9),.t (.bool b.N4)])
theorem V48{p:Prop}(h:p:=by
 rw[YE];repeat' ((conv=>whnf);first|apply Wx|apply W6|refine cg g2 ?_|refine cg gLs ?_|apply oi|apply fi|intro h|exact Y8|refine e_ rfl ?_)
 all_goals try exact Q8
 all_goals try exact⟨congrArg (Tr.int .i64) Zv.symm⟩
 all_goals try exact⟨by rw[Cu]⟩):p:=h
theorem oN (C:Cx)(hC:CxOk C)(g:Nat)(hg:bI C g)(e5:C.args=b_ C.p g):
  bh prog 219 [vP C.p,tI .i64 (g:Int),bV C.b,tB C.J8,tI .i64 C.J1] [] (.tup [.c (.own (1,0,0)),.c (.t (.int .i64 (cJ C g).J4))]) [((1,0,0),.dar 7 (aw ((cJ C g).I8.map Qs.tr)) none)]:=by
 refine ax hΓ aF func219 rfl d_ rfl rfl ?_;obtain⟨y,hy,RF⟩:=hg;have SA:=hC.len;have hw:=hC.J1;have hin:=hC.inl;have hA:b_ C.p g=y.L3.length:=by rw[b_,hy]
 have h4:=(hC.line g y hy).2.2.1;have Rs:=cW hC ⟨y,hy,RF⟩;have Wr:(y.L3.map ah).length=y.L3.length:=s_;have Sk:((a_ C.p (g:Int)).map ah).length=(a_ C.p (g:Int)).length:=s_;have hS:ScOk C (aO C g) [g]:=⟨⟨y,hy,RF⟩,rfl,⟨u6 _,by simp[aO]⟩,rfl,by simp[aO],fun _=>e5,rfl⟩;obtain⟨e,he1,S8,Z9,he4,_⟩:=hS.endE hC;have gL:=ko C.p (g:Int) o_ (fun z hz=>bk hC.small hz);have gE:=dL C.p (g:Int) o_;have RX:bA C.p (g:Int)=(e:Int):=by rw[bc];exact aU he1
 rw[RX]at gE;have R8:((C.b.M0.toNat:Nat):Int)=C.b.M0:=C9 hin.1;have h3:=vq (n:=C.b.M0.toNat) o_
 have gLs:=(HW hC C.b.M0.toNat).2 (aO C g) ⟨(g:Int),(e:Int),a_ C.p (g:Int),C.args,0,[],C.J1⟩ [g] [] (db C g) C.J1 hS ⟨rfl,rfl,rfl,fun _=>rfl,hS.out,fun _=>rfl⟩ rfl (by rw[he4]) rfl rfl (fun i hi=>by cases hi) (by
  rw[he4];have:=A2 (show e-(aO C g).f<=60 by omega) (show 20*dc C.b.M0.toNat+3<=20*8679837+3 by omega);simp only[db,aB,c7,e8,d6]
  omega) (by simpa using R8) hw.1 o_
 rw[b9 (by rfl)]at gLs;have g1:=fun code=>cB C [] ⟨[],(a_ C.p (g:Int)).length-C.args,false⟩ 0 [g] ⟨(g:Int),(e:Int),a_ C.p (g:Int),C.args,0,[],C.J1⟩ [] g code C.J1 C.J1 (by unfold ca;simp) s_ (fun h=>by cases h) o_ o_;have Zv:IntKind.i64.wrap ((((a_ C.p (g:Int)).map ah).length:Int)-C.args)=((a_ C.p (g:Int)).length:Int)-C.args:=by rw[Sk,c8 _ o_]
 repeat' ((conv=>whnf);first|(with_reducible apply W1;fail_if_success (with_reducible show Wo _ _ _ _ (Code.region 3 _ _) _ _))|(with_reducible first|apply W2|apply W3|apply W4|apply W5|apply W6|apply W7|apply W8|apply W9)|apply au|apply oi|apply fi|intro h|refine cl gE ?_|refine cl gL ?_|refine⟨g,y.tr,rfl,ab hy,?_⟩|exact Y8|refine e_ rfl ?_)
 conv=>whnf
 refine lC ⟨[(0,vP C.p),(1,tI .i64 (g:Int)),(3,tB C.J8),(4,tI .i64 C.J1),(12,.r (.c (.ptr (22,0,0) 0))),(13,.r (.c (.ptr (38,0,0) 0)))],
  [(
   (22,0,0),some (.box [.t (.lst 4 (C.p.map Qt.tr)),.t (.int .i64 C.b.N3),.t (.int .i64 C.b.M0),.t (.bool C.b.N9),.t (.bool C.b.N4),.t (.bool C.J8),.t (.int .i64 C.J1),.t (.int .i64 0),.nils 0,.t (.int .i64 0),.own (20,0,0)])),((20,0,0),some (.arr true 1 [aa (g:Int)])),
   ((38,0,0),some (.box [.t (.int .i64 (g:Int)),.t (.int .i64 (e:Int)),.t (.lst 1 ((a_ C.p (g:Int)).map ah)),.t (.int .i64 C.args),.t (.int .i64 0),.t (.lst 1 []),.t (.int .i64 C.J1),.nils 0]))],_⟩ ?_ ?_ rfl ?_
 ·exact⟨.inl rfl,.inl rfl,.inl rfl,.inl rfl,.inl rfl,.inl rfl,trivial⟩
 ·refine⟨.inr (.inl rfl),.inr (.inl rfl),.inr (.inr (.inl ⟨_,_,rfl,rfl,.inl rfl,.inl rfl,.inr (.inr ⟨_,rfl,rfl,?_⟩),.inl ?_,.inl rfl,.inr (.inr ⟨_,rfl,⟨_,rfl⟩,?_⟩),.inl rfl,.inl rfl,trivial⟩)),trivial⟩
  ·exact V147
  ·rw[e5,Wr,hA]
  ·intro q hq;simp[AC.ids]at hq
 refine oK ⟨[(0,vP C.p),(1,tI .i64 (g:Int)),(3,tB C.J8),(4,tI .i64 C.J1),(12,.r (.c (.ptr (22,0,0) 0))),(13,.r (.c (.ptr (38,0,0) 0)))],
  [((22,0,0),some (yn C ⟨[],0,false⟩ 0 (22,0,1) (22,0,2))),((22,0,1),some (.dar 7 (itR (clr [] [])) none)),((22,0,2),some (.arr false 1 (nS [g]))),((38,0,0),some (ibB ⟨(g:Int),(e:Int),a_ C.p (g:Int),C.args,0,[],C.J1⟩ (38,0,1))),((38,0,1),some (.arr false 1 []))],[38,22,0]⟩ ?_ ?_
 ·repeat' ((conv=>whnf);first|apply Wx|apply W6|apply oi|apply fi|intro h|exact Y8|refine e_ rfl ?_)
  all_goals try exact⟨by rw[Cu]⟩
 cases TN:C.J8 with
 | true=>
  have hh:db C g=aB C ⟨[],(a_ C.p (g:Int)).length-C.args,false⟩ 0 13 C.J1 g []:=by rw[db,b9 TN]
  rw[hh]at gLs;have g2:=g1 13;rw[G6]at g2;have YE:cJ C g=(aZ C (bg C C.b.M0.toNat) (aO C g) [g] C.J1 (aB C ⟨[],(a_ C.p (g:Int)).length-C.args,false⟩ 0 13 C.J1 g [])).1:=by rw[cJ,hh]
  exact V48
 | false=>
  have hh:db C g=aB C ⟨[],(a_ C.p (g:Int)).length-C.args,false⟩ 0 15 C.J1 g []:=by rw[db,b8 (by simp[TN])]
  rw[hh]at gLs;have g2:=g1 15;rw[G6]at g2;have YE:cJ C g=(aZ C (bg C C.b.M0.toNat) (aO C g) [g] C.J1 (aB C ⟨[],(a_ C.p (g:Int)).length-C.args,false⟩ 0 15 C.J1 g [])).1:=by rw[cJ,hh]
  exact V48
theorem V97{p:Prop}(h:p:=by
 repeat' ((conv=>whnf);first|apply Wx|apply W6|apply oi|apply fi|intro h|refine cl hP ?_|refine cl hB ?_|refine cl gF ?_|refine cl gb ?_|exact Y6|refine e_ rfl ?_)):p:=h
theorem nF (p:List Qt)(f:Int)(b:Ql)(hs:aK 1048576 (.lst 4 (p.map Qt.tr))):bh prog 159 [vP p,tI .i64 f,bV b] [] (.r (.c (.own (1,0,0)))) [((1,0,0),.dar 7 (aw ((aG p f b).map Qs.tr)) none)]:=by
 refine ax hΓ aF func159 rfl d_ rfl rfl ?_;have hP:=gg p hs;have hB:=li b;have hl:=cP hs;have gF:=ct p o_;have P7:((aq p).map fun n:Nat=>aa n).length=(aq p).length:=s_;have Tv:=pP p 0;change(aq p).length<=_ at Tv;have WL:IntKind.i64.wrap ((((aq p).map fun n:Nat=>aa n).length:Int)-1)=((aq p).length:Int)-1:=by rw[P7,c8 _ o_]
 have gb:=aN f 0 (IntKind.i64.wrap ((((aq p).map fun n:Nat=>aa n).length:Int)-1))
 have Xl:af f 0 (IntKind.i64.wrap ((((aq p).map fun n:Nat=>aa n).length:Int)-1))=decide (0<=f/\f<(aq p).length):=by rw[WL,af];by_cases h:0<=f/\f<(aq p).length<;>simp[h]<;>omega
 rw[Xl]at gb;by_cases hc:ak p=true/\aY b=true/\0<=f/\f<(aq p).length
 ·have TE:aG p f b=jV p f.toNat b:=by rw[aG,b9 hc]
  rw[TE];obtain⟨h1,h2,h3,h4⟩:=hc;rw[show decide (0<=f/\f<(aq p).length)=true from q9 ⟨h3,h4⟩]at gb;obtain⟨f,rfl⟩:=i7 h3;rw[e7];rw[h1]at hP;rw[h2]at hB
  have hb:0<=b.M0/\b.M0<=3:=by exact V150
  obtain⟨g,hg⟩:=ae (l:=aq p) (k:=f) o_;have Ti:=(nc hs h1).foldIf b;have UW:(aq (foldIf p b))[f]?=some g:=by rw[iC];exact hg
  obtain⟨X9,y,hy,RF⟩:=kN (c9 UW);have Uv:=(Ti.line g y hy).2.2.1;have ha:(0:Int)<=(b_ (foldIf p b) g:Int)/\(b_ (foldIf p b) g:Int)<=4:=by rw[b_,hy];dsimp only;omega
  have Va:CxOk (ctx (foldIf p b) f g b 0):=Ti.cx ha o_ hb;have hm:=rD Va ⟨y,hy,RF⟩ rfl;have hC1:CxOk (ctx (foldIf p b) f g b (cJ (ctx (foldIf p b) f g b 0) g).J4):=Ti.cx ha hm hb;have g0:=oN _ Va g ⟨y,hy,RF⟩ rfl;have g1:=oN _ hC1 g ⟨y,hy,RF⟩ rfl;have ZK:jV p f b=(cJ (ctx (foldIf p b) f g b (cJ (ctx (foldIf p b) f g b 0) g).J4) g).I8:=by rw[jV,UW]
  rw[ZK]
  generalize cJ (ctx (foldIf p b) f g b 0) g=R0 at *
  generalize cJ (ctx (foldIf p b) f g b R0.J4) g=R1 at *
  have Tn:=sm p hs;rw[show eE p=p.map aC by rw[eE,b9 h1]]at Tn;have gF2:=ct (foldIf p b) (s8 Ti.len o_);rw[iC]at gF2;have SH:f<((aq p).map fun n:Nat=>aa n).length:=o_;have VP:((aq p).map fun n:Nat=>aa n)[f]?=some (aa (g:Int)):=by rw[j9,hg];rfl
  obtain⟨fr,inl,fold,sp⟩:=b
  cases fold with
  | true=>
   have e:foldIf p ⟨fr,inl,true,sp⟩=p.map aC:=rfl;simp only[ctx,e]at g0 g1 gF2;repeat' ((conv=>whnf);first|apply Wx|apply W6|apply oi|apply fi|intro h|refine cl hP ?_|refine cl hB ?_|refine cl gF ?_|refine cl gb ?_|refine cl Tn ?_|refine cl gF2 ?_|refine⟨f,rfl,SH,?_⟩|refine⟨_,VP,?_⟩|exact Y8|refine e_ rfl ?_)
   all_goals try exact⟨o_⟩
   all_goals try exact⟨rfl⟩
   conv=>whnf
   refine cg (g0) ?_;repeat' ((conv=>whnf);first|apply Wx|apply W6|refine cg g1 ?_|apply oi|apply fi|intro h|exact Y8|refine e_ rfl ?_)
   all_goals try exact⟨uK _⟩
   all_goals try exact⟨o_⟩
   all_goals try exact⟨rfl⟩
   all_goals try exact KX
  | false=>
   have e:foldIf p ⟨fr,inl,false,sp⟩=p:=rfl;simp only[ctx,e]at g0 g1 gF2;repeat' ((conv=>whnf);first|apply Wx|apply W6|apply oi|apply fi|intro h|refine cl hP ?_|refine cl hB ?_|refine cl gF ?_|refine cl gb ?_|refine⟨f,rfl,SH,?_⟩|refine⟨_,VP,?_⟩|exact Y8|refine e_ rfl ?_)
   all_goals try exact⟨o_⟩
   all_goals try exact⟨rfl⟩
   conv=>whnf
   refine cg (g0) ?_;repeat' ((conv=>whnf);first|apply Wx|apply W6|refine cg g1 ?_|apply oi|apply fi|intro h|exact Y8|refine e_ rfl ?_)
   all_goals try exact⟨uK _⟩
   all_goals try exact⟨o_⟩
   all_goals try exact⟨rfl⟩
   all_goals try exact KX
 ·have TE:aG p f b=[]:=by rw[aG,b8 hc]
  rw[TE]
  cases h1:ak p with
  | false=>
   rw[h1]at hP
   exact V97
  | true=>
   rw[h1]at hP
   cases h2:aY b with
   | false=>
    rw[h2]at hB
    exact V97
   | true=>rw[h2]at hB;have O8:¬(0<=f/\f<(aq p).length):=fun hh=>hc ⟨h1,h2,hh⟩;rw[show decide (0<=f/\f<(aq p).length)=false from A5 O8]at gb;exact V97
theorem nr (p:List Qt)(f:Int)(b:Ql)(hs:aK 1048576 (.lst 4 (p.map Qt.tr))):Sim.Spec prog 159 [tvP p,tvI f,.agg b.tr] (rL 7 ((aG p f b).map Qs.tr)):=
 Hm (ts:=[tvP p,tvI f,.agg b.tr]) (nF p f b hs)
theorem yz (f:Nat)(b:Ql)(image:Int)(hf:f<=100):Sim.Spec prog 157 [tvI (f:Int),.agg b.tr,tvI image] (rB (oJ b image f)):=by
 refine aW hΓ aF func157 rfl d_ rfl ?_;unfold oJ;have hm:(f:Int).tmod 2=(f:Int)%2:=E8 o_;repeat' ((conv=>whnf);first|apply Wx|apply W6|apply oi|apply fi|intro h|exact Y8|refine e_ rfl ?_)
 all_goals exact⟨by simp[h,hm]⟩
theorem rO (p:List Qt)(b:Ql)(image:Int)(hs:aK 1048576 (.lst 4 (p.map Qt.tr)))(h1:ak p=true)(h2:aY b=true):bh prog 79 [vP p,bV b,tI .i64 image] [] (.tup [.c (.own (1,0,0)),.c (.own (1,0,1))]) [((1,0,0),.arr true 1 (fJ (co p b image (aq p).length 0 0))),((1,0,1),.dar 1 (aw (eN (co p b image (aq p).length 0 0))) none)]:=by
 refine ax hΓ aF func79 rfl d_ rfl rfl ?_;obtain⟨h6,SA⟩:=gD h1;have gF:=ct p o_;have P7:((aq p).map fun n:Nat=>aa n).length=(aq p).length:=s_;repeat' ((conv=>whnf);first|apply Wx|apply W6|apply oi|apply fi|intro h|refine cl gF ?_|exact Y8|refine e_ rfl ?_)
 conv=>whnf
 refine⟨OH p b image,fun q=>⟨[(0,vP p),(2,tI .i64 image),(4,.r (.c (.ptr (4,0,0) 0))),(8,.r (.c (.own (14,0,0)))),(9,.r (.c (.own (15,0,0)))),(10,tI .i64 q.1.2.1),(18,tI .i64 (((aq p).map fun n:Nat=>aa n).length:Int)),(19,tI .i64 (q.1.1:Int))],[((14,0,0),some (.arr true 1 (fJ q.1.2.2))),((15,0,0),some (.dar 1 (aw (eN q.1.2.2)) none)),((4,0,0),some (.box [.t (.int .i64 b.N3),.t (.int .i64 b.M0),.t (.bool b.N9),.t (.bool b.N4)]))],[14,15,4,0]⟩,fun q=>(aq p).length-q.1.1,⟨(0,0,[]),s_,s_,s_,s_⟩,?_,?_⟩
 ·exact Z2
 intro⟨⟨f,at0,acc⟩,hk,ha,QZ,hr⟩;dsimp only at hk ha QZ hr⊢;have RQ:(fJ acc).length=acc.length:=by simp[fJ]
 have RM:(aw (eN acc)).length=acc.length:=by rw[bX];simp[eN]
 by_cases O4:f<(aq p).length
 ·obtain⟨n,hn⟩:∃n,(aq p).length-f=n+1:=⟨(aq p).length-f-1,o_⟩;have hi:=yz f b image o_;rw[hn,mM]at hr
  cases hin:oJ b image f with
  | false=>
   rw[hin]at hi hr;rw[b8 s_]at hr;repeat' ((conv=>whnf);first|apply Wx|apply W6|apply oi|apply fi|intro h|refine cl hi ?_|exact Y6|refine e_ rfl ?_)
   conv=>whnf
   refine⟨⟨(f+1,at0,acc),g_,g_,g_,by dsimp only;rw[show(aq p).length-(f+1)=n by omega];exact hr⟩,?_,KD⟩
   exact Z5
  | true=>
   rw[hin]at hi hr;rw[b9 rfl]at hr;have Ug:=nr p (f:Int) b hs;obtain⟨f1,f2,f3⟩:=My (f:=f) hs h1 h2 O4;have Rx:=(iX (p:=p) (f:=(f:Int)) (b:=b) hs).2
   generalize aG p (f:Int) b=I at *
   have gP:=ot I at0 f2 o_ f3 (fun x hx=>by have:=Rx x hx;omega);obtain⟨y,y1,y2,y3,y4⟩:=CM (at0:=at0) f1;have ye:=Ij (l:=I) (at0:=at0);have hz:=iF y.L5.K0.J5;have ho:=jN y.L5.K0.J5;have Se:=dM I at0;have Tj:(aw ((dK I at0).map Qw.tr)).length=I.length:=(by rw[bX,d9,Se]);have S3:IntKind.i64.wrap (((aw ((dK I at0).map Qw.tr)).length:Int)-1)=((I.length-1:Nat):Int):=(by rw[Tj,c8 _ o_];omega);have hlx:I.length-1<(aw ((dK I at0).map Qw.tr)).length:=o_;have hgx:(aw ((dK I at0).map Qw.tr))[I.length-1]?=some (y.tr.map .d):=(by rw[aw,j9,j9,y1];rfl);repeat' ((conv=>whnf);first|apply Wx|apply W6|refine cg gP ?_|apply oi|apply fi|intro h|refine cl hi ?_|refine cl Ug ?_|refine⟨_,S3,hlx,?_⟩|refine⟨_,hgx,?_⟩|refine cl ho ?_|exact Y6|refine e_ rfl ?_)
   all_goals try exact⟨uK _⟩
   all_goals try exact⟨⟨by simp only[e8,d6,RQ,RM]<;>omega,by simp only[e8,d6,RQ,RM]<;>omega⟩⟩
   conv=>whnf
   refine⟨⟨(f+1,wY at0 I,acc++[(f,dK I at0)]),g_,g_,by simp;omega,by dsimp only;rw[l9,show(aq p).length-(f+1)=n by omega];exact hr⟩,?_,KD⟩;repeat' ((conv=>whnf);first|apply Wx|apply W6|apply oi|apply fi|intro h|exact Y9|refine e_ rfl ?_)
   all_goals try exact⟨congrArg (Tr.int .i64) (by rw[c8 _ o_,y2])⟩
   all_goals try exact⟨by rw[fJ,fJ,q8];rfl⟩
   all_goals try exact⟨by rw[eN,eN,q8,kA];rfl⟩
 ·rw[show(aq p).length-f=0 by omega]at hr;have Rk:acc=co p b image (aq p).length 0 0:=by rw[<-hr];simp[co]
  repeat' ((conv=>whnf);first|apply Wx|apply W6|apply oi|apply fi|intro h|exact Y6|refine e_ rfl ?_)
  all_goals exact⟨by rw[Rk]⟩
theorem si (p:List Qt)(b:Ql)(image:Int)(hs:aK 1048576 (.lst 4 (p.map Qt.tr)))(h1:ak p=true)(h2:aY b=true):Sim.Spec prog 79 [tvP p,.agg b.tr,tvI image] (.tup [.c (.arr 1 (fJ (co p b image (aq p).length 0 0))),.c (.arr 1 (eN (co p b image (aq p).length 0 0)))]):=by
 refine uY (ts:=[tvP p,.agg b.tr,tvI image]) (rO p b image hs h1 h2) rfl ⟨trivial,trivial,trivial⟩ ⟨rfl,rfl,?_⟩;conv=>whnf
 refine⟨rfl,rfl,?_⟩;conv=>whnf
 exact⟨trivial,rfl,rfl,rfl,rfl⟩
end Go.Proofs.P
