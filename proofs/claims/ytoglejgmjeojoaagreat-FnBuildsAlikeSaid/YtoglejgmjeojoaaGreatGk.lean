import Derived.Test.YtoglejgmjeojoaaGreatGj
set_option maxRecDepth 100000
set_option maxHeartbeats 0
namespace Go.Proofs.P
open Go.Sim Tryz
theorem iL {c:CS}{v:Int}:(cS c v).m.L9=c.m.L9:=by unfold cS;split<;>rfl
theorem cPop_st {c:CS}:(aX c).m.L9=c.m.L9:=by unfold aX;split<;>rfl
theorem cDrop_st:∀{n:Nat} {c:CS},(dl n c).m.L9=c.m.L9
 | 0,_=>rfl
 | n+1,c=>by rw[dl,cDrop_st (n:=n),cPop_st]
theorem vj:∀{n:Nat} {c:CS},(fq n c).m.L9=c.m.L9
 | 0,_=>rfl
 | n+1,c=>by rw[fq,vj (n:=n),iL]
theorem FX {c:CS}{a:Int}:(ji c a).m.L9=c.m.L9:=by
 unfold ji;split
 ·rfl
 ·exact iL
theorem Ch {c:CS}{a:Int}:(fF c a).m.L9=c.m.L9:=by
 unfold fF;split
 ·exact cPop_st
 ·exact cPop_st
theorem Nj {es:List Int}{c:CS}{x:Qv}:(bC es c x).m.L9=c.m.L9:=by
 unfold bC;refine bN (fun d=>d.m.L9=c.m.L9) iL ?_;refine bN (fun d=>d.m.L9=c.m.L9) FX ?_;refine bN (fun d=>d.m.L9=c.m.L9) FX ?_;refine bN (fun d=>d.m.L9=c.m.L9) Ch ?_;refine bN (fun d=>d.m.L9=c.m.L9) Ch ?_;refine bN (fun d=>d.m.L9=c.m.L9) (by rw[vA,iL,cPop_st,cPop_st]) ?_;refine bN (fun d=>d.m.L9=c.m.L9) rfl ?_
 refine bN (fun d=>d.m.L9=c.m.L9) (by
  unfold qW;split
  ·exact cPop_st
  ·exact cPop_st) ?_
 refine bN (fun d=>d.m.L9=c.m.L9) (by
  unfold qJ;split
  ·exact iL
  ·exact iL) ?_
 refine bN (fun d=>d.m.L9=c.m.L9) (by rw[vB,vj];exact iL) ?_;refine bN (fun d=>d.m.L9=c.m.L9) vj ?_
 refine bN (fun d=>d.m.L9=c.m.L9) (by
  rw[uM,iL,cDrop_st]
  exact cPop_st.trans (cPop_st.trans cPop_st)) ?_
 refine bN (fun d=>d.m.L9=c.m.L9) (by
  rw[qA,iL,cDrop_st]
  exact cPop_st.trans (cDrop_st.trans cPop_st)) ?_
 refine bN (fun d=>d.m.L9=c.m.L9) (by
  show(aX c).m.L9=_
  exact cPop_st) ?_
 rfl
theorem Na {s:QA}{m:Qu}(h:af m.L9 0 2=true):af (nW m (fK s m)).L9 0 2=true:=by
 cases hr:fK s m with
 | none=>rfl
 | some m'=>
  obtain⟨x,_,hx⟩:=nU hr;show af m'.L9 0 2=true;unfold uf at hx;split at hx
  ·cases hx
  ·split at hx
   ·split at hx
    ·injection hx with hx;subst hx;rfl
    ·cases hx
   ·injection hx with hx;subst hx;rw[Nj];exact h
structure MOk (m:Qu) (n:Nat):Prop where
 inv:MInv m 0
 st:af m.L9 0 2=true
 out:m.L6.length<=n
theorem Hw {s:QA}{m:Qu}:(nW m (fK s m)).L6.length<=m.L6.length+1:=by cases h:fK s m with|none=>show m.L6.length<=_;omega|some m'=>exact AN m' h
theorem MOk.step {s:QA}{m:Qu}{n:Nat}(h:MOk m n)(hn:n<=1000000)(he:∀e∈s.M2,inI e):MOk (nW m (fK s m)) (n+1):=by have h1:=h.inv.step (s:=s) he;have h2:=Hw (s:=s) (m:=m);have h3:=h.out;exact⟨⟨h1.len,h1.sp,h1.w,o_⟩,Na h.st,o_⟩
theorem MOk.mono {m:Qu}{n k:Nat}(h:MOk m n)(hk:n<=k):MOk m k:=⟨h.inv,h.st,by have:=h.out;omega⟩
theorem MOk.run {s:QA}(he:∀e∈s.M2,inI e):∀(k:Nat) {m:Qu} {n:Nat},MOk m n->n+k<=1000000->MOk (il s k m).1 (n+k)
 | 0,m,n,h,_=>h
 | k+1,m,n,h,hn=>by
  by_cases h0:m.L9=0
  ·rw[qn h0];have:=MOk.run he k (h.step o_ he) o_;rw[show n+1+k=n+(k+1) by omega]at this;exact this
  ·rw[fD (.inl h0)];exact h.mono o_
theorem MOk.ok {m:Qu}{n:Nat}(h:MOk m n):iE m=true:=by unfold iE;have h1:=h.inv.len;have h2:=h.inv.sp;rw[h.st,within_iff.2 ⟨h2.1,h2.2⟩,h1];rfl
theorem MOk.small {m:Qu}{n:Nat}(h:MOk m n)(hn:n<=1000000):aS 1048576 m.tr:=by have h1:=h.inv.len;have h2:=h.out;simp only[Qu.tr,aS];exact⟨by simp[aK],by simp[aK],by simp[aK],xX o_,xX o_,by simp[aK],by simp[aK],trivial⟩
theorem FE {s:QA}:∀(a b:Nat) (m:Qu),il s (a+b) m=((il s b (il s a m).1).1,(il s a m).2+(il s b (il s a m).1).2)
 | 0,b,m=>by
  rw[s7,fD (k:=0) (.inr rfl)];dsimp only
  rw[s7]
 | a+1,b,m=>by
  by_cases h0:m.L9=0
  ·rw[show a+1+b=(a+b)+1 by omega,qn h0,qn h0,FE a b];dsimp only;rw[Nat.add_right_comm]
  ·rw[fD (.inl h0),fD (k:=a+1) (.inl h0)];dsimp only;rw[fD (.inl h0)];exact congrArg (Prod.mk m) (s7 0).symm
theorem NB {s:QA}(hs:dt s=true)(he:∀e∈s.M2,inI e):MOk (oo s) 0:=by
 have hh:inI (s.M2.headD 0):=by cases hx:s.M2 with|nil=>show inI 0;unfold inI;omega|cons a l=>exact he a (by rw[hx];simp)
 rw[oo,b9 hs];refine⟨⟨s_,g_,⟨fun w hw=>?_,hh,by unfold inI;dsimp only;omega⟩,s_⟩,rfl,s_⟩;have:=List.eq_of_mem_replicate hw;rw[this];unfold inI;omega
theorem Gn {s:QA}(hs:dt s=true){m:Qu}{n:Nat}(h:MOk m n){l:Int}(h0:0<=l)(h1:l<=20000):sO s m l=il s l.toNat m:=by rw[sO,b9 ⟨hs,h.ok,within_iff.2 ⟨h0,h1⟩⟩]
noncomputable section
section
variable {p:List Qt} {b:Ql} {first second:Int}
def wd (b:Ql)(first second:Int)(f:Nat):Int:=if bS b f=1 then second else first
def adr (p:List Qt)(b:Ql)(first second:Int)(f j:Nat):Int:=wd b first second f+atL (bY (cy p b f) (aG p f b)) j
def Lf (p:List Qt)(b:Ql):List (List Qy):=[mn (cR p b 0),mn (cR p b 1)]
theorem Pv (h:SpOk p b first second)(f:Nat){off:Int}(h0:0<=off)(h1:off<(ay p b (bS b f)).J5.length):CU (aJ p b first second) (wd b first second f+off)=(bS b f,off)/\1<=wd b first second f/\wd b first second f<=1000000/\(ay p b (bS b f)).J5.length<=75000:=by
 have a0:=lV h.small h.prog h.build (image:=0) d_;have a1:=lV h.small h.prog h.build (image:=1) d_;have hfb:=h.fb;have hsb:=h.sb;have QM:=h.space
 have QR:eP (ay p b 0) (ay p b 1) first second=false:=by exact V89
 have Rs:∀e,CU (aJ p b first second) e=go (ay p b 0) (ay p b 1) first second e:=fun e=>rfl;unfold wd;rcases iO b f with e|e
 ·rw[e]at h1⊢;rw[b8 d_,Rs,go,b9 ⟨o_,o_⟩,show first+off-first=off by omega];exact⟨rfl,o_,o_,a0.2⟩
 ·rw[e]at h1⊢;rw[b9 rfl,Rs,go,b8,b9 ⟨o_,o_⟩,show second+off-second=off by omega]
  ·exact⟨rfl,o_,o_,a1.2⟩
  ·intro hc;unfold eP at QR;simp only[A9,p6]at QR;omega
structure AtA (p:List Qt) (b:Ql) (first second:Int) (f j:Nat) (it:Qs):Prop where
 fetch:nk (aJ p b first second) (adr p b first second f j)=some ((dN (bY (cy p b f) (aG p f b)) j it).K0,(aQ it.K0.J5).toNat)
 next:adr p b first second f (j+1)=adr p b first second f j+aQ it.K0.J5
 size:1<=aQ it.K0.J5/\aQ it.K0.J5<=5
 rng:1<=adr p b first second f j/\adr p b first second f j<=1080000
 rule:∀a,adr p b first second f j<=a->a<adr p b first second f (j+1)->∃r,Nx (Lf p b) (CU (aJ p b first second) a)=some r/\r.N7=it.N2/\r.M6=it.M6
theorem Hc (h:SpOk p b first second){f:Nat}(hf:f<(aq p).length){j:Nat}{it:Qs}(hj:(aG p f b)[j]?=some it):AtA p b first second f j it:=by
 obtain⟨i,x,hx⟩:=rj (b:=b) hf;obtain⟨g1,g2,g3⟩:=hx;have QR:=iO b f;have h3:af (bS b f) 0 1=true:=by rw[within_iff];omega
 have SV:=(mb h.small h.prog h.build o_ g1).1;rw[g2,G6]at SV;have QJ:((aA (aH ((co p b (bS b f) (aq p).length 0 0).take i))).length:Int)=cy p b f:=g3.symm;rw[QJ]at SV;have hy:=eF (at0:=cy p b f) hj;rw[<-SV]at hy;obtain⟨hp,SM⟩:=iy h.small h.prog h.build g1 hy;have Ro:(dN (bY (cy p b f) (aG p f b)) j it).K0.J5=it.K0.J5:=nM _ _ _;have RK:=rK hp.op;have QP:=eY hp.op;dsimp only at RK QP SM;rw[Ro]at RK QP
 have Uj:∀z∈x.2,dH z.L5.K0.J5 z.L5.K0.L2=true:=fun z hz=>by
  obtain⟨k,hk⟩:=u3.1 hz;exact(iy h.small h.prog h.build g1 hk).1.op
 have aae:(ay p b (bS b f)).J5=aA (aH ((imL p b (bS b f)).take i))++aA x.2++aA (aH ((imL p b (bS b f)).drop (i+1))):=by
  rw[ay,b9 ⟨h.prog,h.build,h3⟩];have e:=uL g1
  rw[show imL p b (bS b f)=co p b (bS b f) (aq p).length 0 0 from rfl]at *
  dsimp only;rw[e,aR,aR,<-l9]
 have hd:=wz Uj hy (aA (aH ((imL p b (bS b f)).take i))) (aA (aH ((imL p b (bS b f)).drop (i+1))));rw[<-aae,c7]at hd;dsimp only at hd;rw[Ro]at hd
 have aaj:(((aA (aH ((imL p b (bS b f)).take i))).length+(aA (x.2.take j)).length:Nat):Int)=atL (bY (cy p b f) (aG p f b)) j:=by rw[SM,Int.natCast_add]
 rw[aaj]at hd
 generalize hO:atL (bY (cy p b f) (aG p f b)) j=off at *
 have O2:off+aQ it.K0.J5<=((ay p b (bS b f)).J5.length:Int):=by rw[aae,c7,c7];have h2:x.2.take (j+1)++x.2.drop (j+1)=x.2:=x5 _ _;have h4:=congrArg (fun l=>(aA l).length) h2;simp only[aR,c7]at h4;rw[cH hy,aR,eK,c7]at h4;dsimp only at h4;omega
 have X5:0<=off:=o_
 have QW:adr p b first second f (j+1)=adr p b first second f j+aQ it.K0.J5:=by unfold adr;rw[fg hj];omega
 have Us:adr p b first second f j=wd b first second f+off:=by unfold adr;rw[hO]
 have Rs:=fun(o:Int) (h0:0<=o) (h1:o<(ay p b (bS b f)).J5.length)=>Pv h f h0 h1
 have WA:(aJ p b first second).N6[(bS b f).toNat]?=some (ay p b (bS b f)):=by
  rcases QR with e|e
  ·rw[e];rfl
  ·rw[e];rfl
 refine⟨?_,QW,RK,?_,fun a h1 h2=>?_⟩
 ·rw[Us,nk,(Rs off X5 o_).1];dsimp only;rw[b8 o_,WA];exact hd
 ·obtain⟨_,q1,q2,q3⟩:=Rs off X5 o_;rw[Us];omega
 ·rw[QW,Us]at h2;rw[Us]at h1;obtain⟨o,rfl⟩:∃o,a=wd b first second f+o:=⟨a-wd b first second f,o_⟩;rw[(Rs o o_ o_).1];have hPl:cR p b (bS b f)=aH (imL p b (bS b f)):=by rw[cR,b9 ⟨h.prog,h.build,h3⟩];rfl
  have hk:=GK g1 hy;rw[<-hPl]at hk;obtain⟨q,r,r1,r2,r3,r4,_⟩:=Oe (Gp h.small) (Gf h.small) hk (off:=o) g_ (by dsimp only;rw[Ro];omega)
  have hr:(Lf p b)[(bS b f).toNat]?=some (mn (cR p b (bS b f))):=by
   rcases QR with e|e
   ·rw[e];rfl
   ·rw[e];rfl
  refine⟨r,?_,?_,?_⟩
  ·unfold Nx;dsimp only;rw[b8 o_,hr];dsimp only;rw[r1,b8 o_,e7];exact r2
  ·rw[r3];unfold dN;split<;>rfl
  ·rw[r4];unfold dN;split<;>rfl
theorem tv (h:SpOk p b first second){f:Nat}(hf:f<(aq p).length):adr p b first second f 0=dF p b first second f:=by obtain⟨i,im,base,he⟩:=Cv h hf;have QJ:=he.start;have hl:=he.len;have hrg:=he.range;have hfb:=h.fb;have hsb:=h.sb;rw[adr,gq,dF,c8 _ (by split<;>omega)];rfl
end
end
theorem wk {n:Int}(h:-1000000000<=n/\n<=1000000000):wr n=n:=c8 _ o_
structure Same (c c':CS) (sp lo:Int):Prop where
 sp:c'.m.L8=sp
 fp:c'.m.M3=c.m.M3
 pc:c'.m.M4=c.m.M4
 st:c'.m.L9=c.m.L9
 J1:∀a,lo<=a->fc c'.m a=fc c.m a
theorem Same.trans {a b c:CS}{x y l m:Int}(h:Same a b x l)(h':Same b c y m):Same a c y (max l m):=⟨h'.sp,h'.fp.trans h.fp,h'.pc.trans h.pc,h'.st.trans h.st,fun v hv=>(h'.J1 v o_).trans (h.J1 v o_)⟩
theorem Ga {m:Qu}{a v b:Int}(hl:m.M5.length=1200)(ha:0<=a/\a<=1199)(hb:0<=b):fc (oI m a v) b=if b=a then v else fc m b:=by
 unfold fc oI;dsimp only;by_cases h:b=a
 ·rw[b9 h,h,s6 o_]
 ·rw[b8 h,y6 o_]
noncomputable section
structure MS where
 pc:Int
 sp:Int
 fp:Int
 W:Int->Int
 out:List Int
def upd (W:Int->Int)(a v:Int):Int->Int:=fun b=>if b=a then v else W b
theorem jy {W:Int->Int}{a v:Int}:upd W a v a=v:=b9 rfl
theorem fR {W:Int->Int}{a v b:Int}(h:b≠a):upd W a v b=W b:=b8 h
structure IsM (m:Qu) (x:MS):Prop where
 len:m.M5.length=1200
 pc:m.M4=x.pc
 sp:m.L8=x.sp
 fp:m.M3=x.fp
 out:m.L6=x.out
 w:∀a,0<=a->a<=1199->fc m a=x.W a
 st:m.L9=if x.pc=0 then 1 else 0
 val:x.pc=0->m.N8=x.W x.sp
inductive Steps (s:QA):Qu->Qu->Prop where
 | refl (m:Qu):Steps s m m
 | step {m m' m'':Qu}:m.L9=0->fK s m=some m'->Steps s m' m''->Steps s m m''
theorem Steps.trans {s:QA}{a b c:Qu}(h:Steps s a b)(h':Steps s b c):Steps s a c:=by
 induction h with
 | refl=>exact h'
 | step h0 h1 _ ih=>exact .step h0 h1 (ih h')
def Reach (s:QA)(x y:MS):Prop:=∀m,IsM m x->∃m',Steps s m m'/\IsM m' y
theorem Reach.refl {s:QA}(x:MS):Reach s x x:=fun m h=>⟨m,.refl m,h⟩
theorem Reach.trans {s:QA}{x y z:MS}(h:Reach s x y)(h':Reach s y z):Reach s x z:=fun m hm=>by
 obtain⟨m1,a1,a2⟩:=h m hm;obtain⟨m2,b1,b2⟩:=h' m1 a2;exact⟨m2,a1.trans b1,b2⟩
theorem Steps.run {s:QA}{m m':Qu}(h:Steps s m m'):∃k,∀j,il s (k+j) m=((il s j m').1,k+(il s j m').2):=by
 induction h with
 | refl m=>exact⟨0,fun j=>by rw[s7,s7]⟩
 | @step a b c h0 h1 _ ih=>obtain⟨k,hk⟩:=ih;refine⟨k+1,fun j=>?_⟩;rw[show k+1+j=(k+j)+1 by omega,qn h0,h1,nW,hk];dsimp only;rw[Nat.add_right_comm]
structure IsC (c:CS) (x:MS):Prop where
 bad:c.bad=false
 len:c.m.M5.length=1200
 pc:c.m.M4=x.pc
 sp:c.m.L8=x.sp
 fp:c.m.M3=x.fp
 out:c.m.L6=x.out
 w:∀a,0<=a->a<=1199->fc c.m a=x.W a
 st:c.m.L9=0
section
variable {c:CS} {pc sp fp:Int} {W:Int->Int} {out:List Int}
theorem IsC.congr {W':Int->Int}(h:IsC c ⟨pc,sp,fp,W,out⟩)(hw:∀a,0<=a->a<=1199->W' a=W a):IsC c ⟨pc,sp,fp,W',out⟩:=
 ⟨h.bad,h.len,h.pc,h.sp,h.fp,h.out,fun a h0 h1=>by rw[h.w a h0 h1];exact(hw a h0 h1).symm,h.st⟩
theorem mf {v:Int}(h:IsC c ⟨pc,sp,fp,W,out⟩)(h1:1<=sp)(h2:sp<=1200):IsC (cS c v) ⟨pc,sp-1,fp,upd W (sp-1) v,out⟩:=by
 have QM:c.m.L8=sp:=h.sp;have hw:wr (c.m.L8-1)=sp-1:=by rw[QM];exact wk o_
 unfold cS;rw[hw,h.bad,A8];have hin:cq (sp-1)=true:=by rw[inStk_iff];omega
 rw[hin,b8 s_];refine⟨rfl,by dsimp only[oI];rw[o8];exact h.len,h.pc,rfl,h.fp,h.out,fun a a0 a1=>?_,h.st⟩;have:=Ga (m:=c.m) (v:=v) h.len (inStk_iff.1 hin) a0;have e:=h.w a a0 a1;dsimp only[upd]at e⊢;rw[<-e];exact this
theorem lN (h:IsC c ⟨pc,sp,fp,W,out⟩)(h1:0<=sp)(h2:sp<=1199):IsC (aX c) ⟨pc,sp+1,fp,W,out⟩/\kn c=W sp:=by
 have QM:c.m.L8=sp:=h.sp;have hin:cq c.m.L8=true:=by rw[inStk_iff];omega
 unfold aX kn;rw[h.bad,hin,b8 s_,b8 s_];exact⟨⟨rfl,h.len,h.pc,by dsimp only;rw[QM],h.fp,h.out,h.w,h.st⟩,by rw[QM];exact h.w sp h1 h2⟩
theorem xM:∀(n:Nat) {c:CS} {sp:Int},IsC c ⟨pc,sp,fp,W,out⟩->0<=sp->sp+n<=1200->IsC (dl n c) ⟨pc,sp+n,fp,W,out⟩
 | 0,c,sp,h,_,_=>by rw[dl];simpa using h
 | n+1,c,sp,h,h1,h2=>by
  rw[dl];have:=xM n (lN h h1 o_).1 o_ o_;rwa [show sp+1+(n:Int)=sp+((n+1:Nat):Int) by omega]at this
theorem zO:∀(n:Nat) {c:CS} {sp:Int} {W:Int->Int},IsC c ⟨pc,sp,fp,W,out⟩->(n:Int)<=sp->sp<=1200->IsC (fq n c) ⟨pc,sp-n,fp,fun a=>if sp-n<=a/\a<sp then 0 else W a,out⟩
 | 0,c,sp,W,h,_,_=>by
  rw[fq,show sp-((0:Nat):Int)=sp by omega]
  exact h.congr fun a _ _=>b8 o_
 | n+1,c,sp,W,h,h1,h2=>by
  rw[fq];have:=zO n (mf (v:=0) h o_ h2) o_ o_;rw[show sp-1-(n:Int)=sp-((n+1:Nat):Int) by omega]at this;refine this.congr fun a _ _=>?_;unfold upd;by_cases h3:sp-((n+1:Nat):Int)<=a/\a<sp
  ·rw[b9 h3];by_cases h4:a=sp-1
   ·rw[b8 o_,b9 h4]
   ·rw[b9 o_]
  ·rw[b8 h3,b8 o_,b8 o_]
theorem Je {a:Int}(h:IsC c ⟨pc,sp,fp,W,out⟩)(h1:1<=sp)(h2:sp<=1200)(ha:0<=a/\a<=1199):IsC (ji c a) ⟨pc,sp-1,fp,upd W (sp-1) (W a),out⟩:=by unfold ji;have hin:cq a=true:=inStk_iff.2 ha;rw[h.bad,hin,b8 s_,h.w a ha.1 ha.2];exact mf ⟨rfl,h.len,h.pc,h.sp,h.fp,h.out,h.w,h.st⟩ h1 h2
theorem Ew {a:Int}(h:IsC c ⟨pc,sp,fp,W,out⟩)(h1:0<=sp)(h2:sp<=1199)(ha:0<=a/\a<=1199):IsC (fF c a) ⟨pc,sp+1,fp,upd W a (W sp),out⟩:=by obtain⟨p1,p2⟩:=lN h h1 h2;unfold fF;have hin:cq a=true:=inStk_iff.2 ha;rw[p1.bad,hin,b8 s_,p2];refine⟨rfl,by dsimp only[oI];rw[o8];exact p1.len,p1.pc,p1.sp,p1.fp,p1.out,fun b b0 b1=>?_,p1.st⟩;have:=Ga (m:=(aX c).m) (v:=W sp) p1.len ha b0;have e:=p1.w b b0 b1;dsimp only[upd]at e⊢;rw[<-e];exact this
end
section
variable {p:List Qt} {b:Ql} {first second:Int} {F i:Nat} {pc sp fp:Int} {W:Int->Int} {out:List Int} {o:Qv}
def opA (p:List Qt)(b:Ql)(F i:Nat):Option Qv:=((aG p F b)[i]?).map (·.K0)
theorem mG (h:opA p b F i=some o):∃it,(aG p F b)[i]?=some it/\it.K0=o:=by
 unfold opA at h
 cases hx:(aG p F b)[i]? with
 | none=>rw[hx]at h;cases h
 | some it=>rw[hx]at h;injection h with h;exact⟨it,rfl,h⟩
abbrev jOp (p:List Qt)(b:Ql)(F i:Nat)(it:Qs):Qv:=(dN (bY (cy p b F) (aG p F b)) i it).K0
theorem rq (h:SpOk p b first second)(hF:F<(aq p).length){it:Qs}(hi:(aG p F b)[i]?=some it){y:MS}
  (hy:∀c,IsC c ⟨adr p b first second F (i+1),sp,fp,W,out⟩->IsC (bC (aJ p b first second).M2 c (jOp p b F i it)) y) (h0:y.pc=0->0<=y.sp/\y.sp<=1199):Reach (aJ p b first second) ⟨adr p b first second F i,sp,fp,W,out⟩ y:=by
 intro m hm;have SV:=Hc h hF hi;have hr:=SV.rng;have hz:=SV.size;have Sn:m.M4=adr p b first second F i:=hm.pc;have QJ:m.L9=0:=by rw[hm.st,b8 g_]
 have hc:=hy (adv ⟨m,false⟩ ((aQ it.K0.J5).toNat:Nat)) ⟨rfl,hm.len,by
  show wr (m.M4+(((aQ it.K0.J5).toNat:Nat):Int))=adr p b first second F (i+1)
  rw[Sn,SV.next,wk o_];omega,hm.sp,hm.fp,hm.out,hm.w,QJ⟩
 have hs:fK (aJ p b first second) m=uf (bC (aJ p b first second).M2 (adv ⟨m,false⟩ ((aQ it.K0.J5).toNat:Nat)) (jOp p b F i it)):=by unfold fK;rw[Sn,SV.fetch]
 generalize bC (aJ p b first second).M2 (adv ⟨m,false⟩ ((aQ it.K0.J5).toNat:Nat)) (jOp p b F i it)=c at *
 have hp:=hc.pc;unfold uf at hs;rw[hc.bad,b8 s_]at hs;by_cases WD:y.pc=0
 ·have QM:=hc.sp;have hin:cq c.m.L8=true:=by rw[inStk_iff,QM];exact h0 WD
  rw[b9 (by rw[hp,WD]),b9 hin]at hs;refine⟨_,.step QJ hs (.refl _),⟨hc.len,hc.pc,hc.sp,hc.fp,hc.out,hc.w,by rw[b9 WD],fun _=>?_⟩⟩;dsimp only;rw[hc.w _ (by rw[QM];exact(h0 WD).1) (by rw[QM];exact(h0 WD).2),QM]
 ·rw[b8 (by rw[hp];exact WD)]at hs;exact⟨_,.step QJ hs (.refl _),⟨hc.len,hc.pc,hc.sp,hc.fp,hc.out,hc.w,by rw[b8 WD];exact hc.st,fun hh=>absurd hh WD⟩⟩
theorem wF (h:SpOk p b first second){G:Nat}(hG:G<(aq p).length):1<=dF p b first second G/\dF p b first second G<=1080000:=by obtain⟨i,im,base,he⟩:=Cv h hG;have h1:=he.entry;have h2:=he.range;have h3:=he.start;have h4:=he.len;omega
theorem Iv (h:SpOk p b first second)(hF:F<(aq p).length){it:Qs}(hi:(aG p F b)[i]?=some it):1<=adr p b first second F i/\adr p b first second F i<=1080000:=(Hc h hF hi).rng
theorem cZ (h:SpOk p b first second)(hF:F<(aq p).length)(hi:opA p b F i=some o):1<=adr p b first second F (i+1)/\adr p b first second F (i+1)<=1080005:=by obtain⟨it,h1,_⟩:=mG hi;have a:=Hc h hF h1;have:=a.rng;have:=a.next;have:=a.size;omega
theorem fu (h:SpOk p b first second)(hF:F<(aq p).length)(hi:opA p b F i=some o)(Ym:o.J5≠10)(WJ:o.J5≠11){y:MS}
  (hy:∀c,IsC c ⟨adr p b first second F (i+1),sp,fp,W,out⟩->IsC (bC (aJ p b first second).M2 c o) y) (h0:y.pc=0->0<=y.sp/\y.sp<=1199):Reach (aJ p b first second) ⟨adr p b first second F i,sp,fp,W,out⟩ y:=by
 obtain⟨it,h1,rfl⟩:=mG hi
 have hj:jOp p b F i it=it.K0:=by unfold jOp dN;rw[b8 (by rw[isJump_iff];omega)]
 exact rq h hF h1 (fun c hc=>by rw[hj];exact hy c hc) h0
theorem oY (h:SpOk p b first second)(hF:F<(aq p).length){v:Int}(hi:opA p b F i=some ⟨0,v⟩)(h1:1<=sp)(h2:sp<=1200):Reach (aJ p b first second) ⟨adr p b first second F i,sp,fp,W,out⟩ ⟨adr p b first second F (i+1),sp-1,fp,upd W (sp-1) v,out⟩:=by have hn:=cZ h hF hi;refine fu h hF hi s_ s_ (fun c hc=>?_) (fun e=>by dsimp only at e;omega);rw[show bC (aJ p b first second).M2 c ⟨0,v⟩=cS c v by unfold bC;rw[b9 rfl]];exact mf hc h1 h2
theorem Ee (h:SpOk p b first second)(hF:F<(aq p).length){a:Int}(hi:opA p b F i=some ⟨1,a⟩)(h1:1<=sp)(h2:sp<=1200)(ha:0<=fp+a/\fp+a<=1199):Reach (aJ p b first second) ⟨adr p b first second F i,sp,fp,W,out⟩ ⟨adr p b first second F (i+1),sp-1,fp,upd W (sp-1) (W (fp+a)),out⟩:=by have hn:=cZ h hF hi;refine fu h hF hi s_ s_ (fun c hc=>?_) (fun e=>by dsimp only at e;omega);rw[show bC (aJ p b first second).M2 c ⟨1,a⟩=ji c (wr (c.m.M3+a)) by unfold bC;rw[b8 g_,b9 rfl]];rw[show c.m.M3=fp from hc.fp,wk o_];exact Je hc h1 h2 ha
theorem Fi (h:SpOk p b first second)(hF:F<(aq p).length){a:Int}(hi:opA p b F i=some ⟨3,a⟩)(h1:1<=sp)(h2:sp<=1200)(ha:0<=sp+a/\sp+a<=1199):Reach (aJ p b first second) ⟨adr p b first second F i,sp,fp,W,out⟩ ⟨adr p b first second F (i+1),sp-1,fp,upd W (sp-1) (W (sp+a)),out⟩:=by have hn:=cZ h hF hi;refine fu h hF hi s_ s_ (fun c hc=>?_) (fun e=>by dsimp only at e;omega);rw[show bC (aJ p b first second).M2 c ⟨3,a⟩=ji c (wr (c.m.L8+a)) by unfold bC;rw[b8 g_,b8 g_,b9 rfl]];rw[show c.m.L8=sp from hc.sp,wk o_];exact Je hc h1 h2 ha
theorem Dk (h:SpOk p b first second)(hF:F<(aq p).length){a:Int}(hi:opA p b F i=some ⟨2,a⟩)(h1:0<=sp)(h2:sp<=1199)(ha:0<=fp+a/\fp+a<=1199):Reach (aJ p b first second) ⟨adr p b first second F i,sp,fp,W,out⟩ ⟨adr p b first second F (i+1),sp+1,fp,upd W (fp+a) (W sp),out⟩:=by have hn:=cZ h hF hi;refine fu h hF hi s_ s_ (fun c hc=>?_) (fun e=>by dsimp only at e;omega);rw[show bC (aJ p b first second).M2 c ⟨2,a⟩=fF c (wr (c.m.M3+a)) by unfold bC;rw[b8 g_,b8 g_,b8 g_,b9 rfl]];rw[show c.m.M3=fp from hc.fp,wk o_];exact Ew hc h1 h2 ha
theorem CZ (h:SpOk p b first second)(hF:F<(aq p).length){a:Int}(hi:opA p b F i=some ⟨4,a⟩)(h1:0<=sp)(h2:sp<=1199)(ha:0<=sp+a/\sp+a<=1199):Reach (aJ p b first second) ⟨adr p b first second F i,sp,fp,W,out⟩ ⟨adr p b first second F (i+1),sp+1,fp,upd W (sp+a) (W sp),out⟩:=by have hn:=cZ h hF hi;refine fu h hF hi s_ s_ (fun c hc=>?_) (fun e=>by dsimp only at e;omega);rw[show bC (aJ p b first second).M2 c ⟨4,a⟩=fF c (wr (c.m.L8+a)) by unfold bC;rw[b8 g_,b8 g_,b8 g_,b8 g_,b9 rfl]];rw[show c.m.L8=sp from hc.sp,wk o_];exact Ew hc h1 h2 ha
theorem FA (h:SpOk p b first second)(hF:F<(aq p).length){k a:Int}(hi:opA p b F i=some ⟨k,a⟩)(hk:5<=k/\k<=9)(h1:0<=sp)(h2:sp<=1198):Reach (aJ p b first second) ⟨adr p b first second F i,sp,fp,W,out⟩ ⟨adr p b first second F (i+1),sp+1,fp,upd W (sp+1) (cG (k-3) (W (sp+1)) (W sp)),out⟩:=by have hn:=cZ h hF hi;refine fu h hF hi g_ g_ (fun c hc=>?_) (fun e=>by dsimp only at e;omega);rw[show bC (aJ p b first second).M2 c ⟨k,a⟩=vA c (k-3) by unfold bC;rw[b8 g_,b8 g_,b8 g_,b8 g_,b8 g_,b9 hk]];obtain⟨p1,p2⟩:=lN hc h1 o_;obtain⟨q1,q2⟩:=lN p1 o_ o_;unfold vA;rw[p2,q2];have:=mf (v:=cG (k-3) (W (sp+1)) (W sp)) q1 o_ o_;rwa [show sp+1+1-1=sp+1 by omega]at this
theorem rn (h:SpOk p b first second)(hF:F<(aq p).length){j:Nat}{o':Qv}(hi:opA p b F i=some ⟨10,(j:Int)⟩)(hj:opA p b F j=some o'):Reach (aJ p b first second) ⟨adr p b first second F i,sp,fp,W,out⟩ ⟨adr p b first second F j,sp,fp,W,out⟩:=by
 obtain⟨it,k1,k2⟩:=mG hi;obtain⟨SE,k3,_⟩:=mG hj;have hr:=Iv h hF k3;have hn:=cZ h hF hi
 have O3:jOp p b F i it=⟨10,adr p b first second F j-adr p b first second F (i+1)⟩:=by unfold jOp dN;rw[b9 (isJump_iff.2 (by rw[k2];exact .inl rfl))];unfold pU adr;rw[k2];dsimp only;rw[e7];congr 1;omega
 refine rq h hF k1 (fun c hc=>?_) (fun e=>by dsimp only at e;omega);rw[O3];rw[show bC (aJ p b first second).M2 c ⟨10,adr p b first second F j-adr p b first second F (i+1)⟩=rh c (adr p b first second F j-adr p b first second F (i+1)) by unfold bC;rw[b8 g_,b8 g_,b8 g_,b8 g_,b8 g_,b8 g_,b9 rfl]];refine⟨hc.bad,hc.len,?_,hc.sp,hc.fp,hc.out,hc.w,hc.st⟩;show wr (c.m.M4+_)=_;rw[show c.m.M4=adr p b first second F (i+1) from hc.pc,wk o_];dsimp only;omega
theorem Hr (h:SpOk p b first second)(hF:F<(aq p).length){j:Nat}{o':Qv}(hi:opA p b F i=some ⟨11,(j:Int)⟩)(hj:opA p b F j=some o')(h1:0<=sp)(h2:sp<=1199):Reach (aJ p b first second) ⟨adr p b first second F i,sp,fp,W,out⟩ ⟨adr p b first second F (if W sp=0 then j else i+1),sp+1,fp,W,out⟩:=by
 obtain⟨it,k1,k2⟩:=mG hi;obtain⟨SE,k3,_⟩:=mG hj;have hr:=Iv h hF k3;have hn:=cZ h hF hi
 have O3:jOp p b F i it=⟨11,adr p b first second F j-adr p b first second F (i+1)⟩:=by unfold jOp dN;rw[b9 (isJump_iff.2 (by rw[k2];exact .inr rfl))];unfold pU adr;rw[k2];dsimp only;rw[e7];congr 1;omega
 refine rq h hF k1 (fun c hc=>?_) (fun e=>by dsimp only at e;split at e<;>omega);rw[O3];rw[show bC (aJ p b first second).M2 c ⟨11,adr p b first second F j-adr p b first second F (i+1)⟩=qW c (adr p b first second F j-adr p b first second F (i+1)) by unfold bC;rw[b8 g_,b8 g_,b8 g_,b8 g_,b8 g_,b8 g_,b8 g_,b9 rfl]];obtain⟨p1,p2⟩:=lN hc h1 h2;unfold qW;rw[p2];by_cases hz:W sp=0
 ·rw[b9 hz,b9 hz];refine⟨p1.bad,p1.len,?_,p1.sp,p1.fp,p1.out,p1.w,p1.st⟩;show wr ((aX c).m.M4+_)=_;rw[show(aX c).m.M4=adr p b first second F (i+1) from p1.pc,wk o_];dsimp only;omega
 ·rw[b8 hz,b8 hz];exact p1
theorem HG (h:SpOk p b first second)(hF:F<(aq p).length){G:Nat}(hG:G<(aq p).length)(hi:opA p b F i=some ⟨12,(G:Int)⟩)(h1:1<=sp)(h2:sp<=1200):Reach (aJ p b first second) ⟨adr p b first second F i,sp,fp,W,out⟩ ⟨adr p b first second G 0,sp-1,fp,upd W (sp-1) (adr p b first second F (i+1)),out⟩:=by
 have QJ:=wF h hG;rw[<-tv h hG]at QJ;refine fu h hF hi s_ s_ (fun c hc=>?_) (fun e=>by dsimp only at e;omega);rw[show bC (aJ p b first second).M2 c ⟨12,(G:Int)⟩=qJ (cS c c.m.M4) (aJ p b first second).M2 (G:Int) by unfold bC;rw[b8 g_,b8 g_,b8 g_,b8 g_,b8 g_,b8 g_,b8 g_,b8 g_,b9 rfl]]
 have cI:(aJ p b first second).M2[((G:Int)).toNat]?=some (adr p b first second G 0):=by rw[tv h hG,e7];exact ov hG
 unfold qJ;rw[cI];dsimp only;have hp:=mf (v:=c.m.M4) hc h1 h2;rw[show c.m.M4=adr p b first second F (i+1) from hc.pc]at hp⊢;exact⟨hp.bad,hp.len,rfl,hp.sp,hp.fp,hp.out,hp.w,hp.st⟩
theorem Fv (h:SpOk p b first second)(hF:F<(aq p).length){n:Nat}(hi:opA p b F i=some ⟨13,(n:Int)⟩)(h1:(n:Int)+1<=sp)(h2:sp<=1200):Reach (aJ p b first second) ⟨adr p b first second F i,sp,fp,W,out⟩ ⟨adr p b first second F (i+1),sp-1-n,sp-1,fun a=>if sp-1-n<=a/\a<sp-1 then 0 else upd W (sp-1) fp a,out⟩:=by have hn:=cZ h hF hi;refine fu h hF hi s_ s_ (fun c hc=>?_) (fun e=>by dsimp only at e;omega);rw[show bC (aJ p b first second).M2 c ⟨13,(n:Int)⟩=vB c ((n:Int)).toNat by unfold bC;rw[b8 g_,b8 g_,b8 g_,b8 g_,b8 g_,b8 g_,b8 g_,b8 g_,b8 g_,b9 rfl]];rw[e7];unfold vB;have hp:=mf (v:=c.m.M3) hc o_ h2;rw[show c.m.M3=fp from hc.fp]at hp⊢;exact zO n ⟨hp.bad,hp.len,hp.pc,hp.sp,hp.sp,hp.out,hp.w,hp.st⟩ o_ o_
theorem wQ (h:SpOk p b first second)(hF:F<(aq p).length){n:Nat}(hi:opA p b F i=some ⟨15,(n:Int)⟩)(h1:(n:Int)<=sp)(h2:sp<=1200):Reach (aJ p b first second) ⟨adr p b first second F i,sp,fp,W,out⟩ ⟨adr p b first second F (i+1),sp-n,fp,fun a=>if sp-n<=a/\a<sp then 0 else W a,out⟩:=by have hn:=cZ h hF hi;refine fu h hF hi s_ s_ (fun c hc=>?_) (fun e=>by dsimp only at e;omega);rw[show bC (aJ p b first second).M2 c ⟨15,(n:Int)⟩=fq ((n:Int)).toNat c by unfold bC;rw[b8 g_,b8 g_,b8 g_,b8 g_,b8 g_,b8 g_,b8 g_,b8 g_,b8 g_,b8 g_,b9 rfl]];rw[e7];exact zO n hc h1 h2
theorem EZ (h:SpOk p b first second)(hF:F<(aq p).length){n:Nat}(hi:opA p b F i=some ⟨14,(n:Int)⟩)(h1:0<=sp)(h2:sp<=1199)(hf:0<=fp)(WV:fp+2+n<=1200):Reach (aJ p b first second) ⟨adr p b first second F i,sp,fp,W,out⟩ ⟨W (fp+1),fp+1+n,W fp,upd W (fp+1+n) (W sp),out⟩:=by refine fu h hF hi s_ s_ (fun c hc=>?_) (fun e=>g_);rw[show bC (aJ p b first second).M2 c ⟨14,(n:Int)⟩=uM c ((n:Int)).toNat by unfold bC;rw[b8 g_,b8 g_,b8 g_,b8 g_,b8 g_,b8 g_,b8 g_,b8 g_,b8 g_,b8 g_,b8 g_,b9 rfl]];rw[e7];obtain⟨p1,p2⟩:=lN hc h1 h2;have QF:IsC (jC (aX c)) ⟨adr p b first second F (i+1),fp,fp,W,out⟩:=⟨p1.bad,p1.len,p1.pc,p1.fp,p1.fp,p1.out,p1.w,p1.st⟩;obtain⟨x1,x2⟩:=lN QF hf o_;have Ta:IsC (cFp (jC (aX c))) ⟨adr p b first second F (i+1),fp+1,W fp,W,out⟩:=⟨x1.bad,x1.len,x1.pc,x1.sp,x2,x1.out,x1.w,x1.st⟩;obtain⟨y1,y2⟩:=lN Ta o_ o_;have Sn:IsC (cPc (cFp (jC (aX c)))) ⟨W (fp+1),fp+1+1,W fp,W,out⟩:=⟨y1.bad,y1.len,y2,y1.sp,y1.fp,y1.out,y1.w,y1.st⟩;have hd:=xM n Sn o_ o_;unfold uM;rw[p2];have:=mf (v:=W sp) hd o_ o_;rwa [show fp+1+1+(n:Int)-1=fp+1+n by omega]at this
theorem DG (h:SpOk p b first second)(hF:F<(aq p).length){n w:Nat}(hn:n<16)(hi:opA p b F i=some ⟨16,(n:Int)+16*w⟩)(h1:0<=sp)(h2:sp+2+w+n<=1200):Reach (aJ p b first second) ⟨adr p b first second F i,sp,fp,W,out⟩ ⟨W (sp+1+w),sp+1+w+n,fp,upd W (sp+1+w+n) (W sp),out⟩:=by refine fu h hF hi s_ s_ (fun c hc=>?_) (fun e=>g_);rw[show bC (aJ p b first second).M2 c ⟨16,(n:Int)+16*w⟩=qA c ((n:Int)+16*w).toNat by unfold bC;rw[b8 g_,b8 g_,b8 g_,b8 g_,b8 g_,b8 g_,b8 g_,b8 g_,b8 g_,b8 g_,b8 g_,b8 g_,b9 rfl]];rw[show((n:Int)+16*w).toNat=n+16*w by omega];obtain⟨p1,p2⟩:=lN hc h1 o_;have d1:=xM w p1 o_ o_;obtain⟨y1,y2⟩:=lN d1 o_ o_;have Sn:IsC (cPc (dl w (aX c))) ⟨W (sp+1+w),sp+1+w+1,fp,W,out⟩:=⟨y1.bad,y1.len,y2,y1.sp,y1.fp,y1.out,y1.w,y1.st⟩;have hd:=xM n Sn o_ o_;unfold qA;rw[show(n+16*w)/16=w by omega,show(n+16*w)%16=n by omega,p2];have:=mf (v:=W sp) hd o_ o_;rwa [show sp+1+(w:Int)+1+n-1=sp+1+w+n by omega]at this
theorem KB (h:SpOk p b first second)(hF:F<(aq p).length){a:Int}(hi:opA p b F i=some ⟨17,a⟩)(h1:0<=sp)(h2:sp<=1199):Reach (aJ p b first second) ⟨adr p b first second F i,sp,fp,W,out⟩ ⟨adr p b first second F (i+1),sp+1,fp,W,out++[W sp]⟩:=by have hn:=cZ h hF hi;refine fu h hF hi s_ s_ (fun c hc=>?_) (fun e=>by dsimp only at e;omega);rw[show bC (aJ p b first second).M2 c ⟨17,a⟩=Er c by unfold bC;rw[b8 g_,b8 g_,b8 g_,b8 g_,b8 g_,b8 g_,b8 g_,b8 g_,b8 g_,b8 g_,b8 g_,b8 g_,b8 g_,b9 rfl]];obtain⟨p1,p2⟩:=lN hc h1 h2;refine⟨p1.bad,p1.len,p1.pc,p1.sp,p1.fp,?_,p1.w,p1.st⟩;show(aX c).m.L6++[kn c]=_;rw[p2,show(aX c).m.L6=out from p1.out]
end
end
def opL (l:List Qs)(i:Nat):Option Qv:=(l[i]?).map (·.K0)
theorem nj {l:List Qs}{x:Qs}{i:Nat}:opL (l++[x]) i=if i=l.length then some x.K0 else opL l i:=by
 unfold opL;rcases y7 i l.length with h|h|h
 ·rw[b8 o_,l8 h]
 ·rw[b9 h,h,m9 (d7 _),v6];rfl
 ·rw[b8 o_,e9 aad,e9 o_]
theorem zI {C:Cx}{s:Gs}{d code arg line:Int}{chain:List Int}{i:Nat}:opL (aB C s d code arg line chain).I8 i=if i=s.I8.length then some ⟨code,arg⟩else opL s.I8 i:=nj
theorem md {l:List Qs}{j v:Int}{i:Nat}:opL (bv l j v) i=if j=(i:Int)then(opL l i).map (fun o=>⟨o.J5,v⟩)else opL l i:=by
 unfold bv opL;by_cases h0:0<=j
 ·rw[b9 h0]
  cases hx:l[j.toNat]? with
  | none=>
   dsimp only;split
   ·rename_i h;rw[show i=j.toNat by omega,hx];rfl
   ·rfl
  | some x=>
   dsimp only;by_cases h:j=(i:Int)
   ·rw[b9 h,show i=j.toNat by omega,s6 (aE hx),hx];rfl
   ·rw[b8 h,y6 o_]
 ·rw[b8 h0,b8 o_]
structure Px (a b:List Qs):Prop where
 le:a.length<=b.length
 eq:∀i,i<a.length->opL b i=opL a i
theorem Px.refl (a:List Qs):Px a a:=⟨d7 _,fun _ _=>rfl⟩
theorem Px.trans {a b c:List Qs}(h:Px a b)(h':Px b c):Px a c:=⟨s8 h.le h'.le,fun i hi=>(h'.eq i (w8 hi h.le)).trans (h.eq i hi)⟩
theorem Px.emit (C:Cx)(s:Gs)(d code arg line:Int)(chain:List Int):Px s.I8 (aB C s d code arg line chain).I8:=⟨by simp[aB],fun i hi=>by rw[zI,b8 o_]⟩
theorem Px.set {a b:List Qs}(h:Px a b){j v:Int}(hj:(a.length:Int)<=j):Px a (bv b j v):=⟨by rw[bB];exact h.le,fun i hi=>by rw[md,b8 o_];exact h.eq i hi⟩
theorem Px.patch {a:List Qs}{v:Int}:∀(js:List Int) {b:List Qs},Px a b->(∀j∈js,(a.length:Int)<=j)->Px a (patchL b v js)
 | [],b,h,_=>h
 | j::js,b,h,hj=>by rw[patchL];exact Px.patch js (h.set (hj j s_)) (fun i hi=>hj i (by simp[hi]))
structure Gx (a b:Gs):Prop where
 px:Px a.I8 b.I8
 J4:a.J4<=b.J4
theorem Gx.refl (a:Gs):Gx a a:=⟨Px.refl _,u6 _⟩
theorem Gx.trans {a b c:Gs}(h:Gx a b)(h':Gx b c):Gx a c:=⟨h.px.trans h'.px,B0 h.J4 h'.J4⟩
theorem Gx.emit (C:Cx)(s:Gs)(d code arg line:Int)(chain:List Int):Gx s (aB C s d code arg line chain):=⟨Px.emit ..,u6 _⟩
def yK (C:Cx)(rep:Sc->List Nat->Nat->Nat->Int->Gs->Gs)(x:Sc)(ins:List Nat):Prop:=
 ∀(line g:Nat) (d:Int) (s:Gs),bI C g->cv C ins g s.I8.length=true->Gx s (rep x ins line g d s)
section
variable {C:Cx} {x y:Sc} {ins:List Nat} {rep:Sc->List Nat->Nat->Nat->Int->Gs->Gs} {line:Nat}
theorem pQ {chain:List Int}{l:Int}:∀(n:Nat) (d:Int) (s:Gs),Gx s (bD C y chain l n d s)
 | 0,_,s=>Gx.refl _
 | n+1,d,s=>by rw[bD];exact(Gx.emit ..).trans (pQ n _ _)
theorem tY {chain:List Int}{l d:Int}:∀(n i:Nat) (s:Gs),Gx s (cj C y chain l d n i s)
 | 0,_,s=>Gx.refl _
 | n+1,i,s=>by rw[cj];exact((Gx.emit C s d 0 0 l chain).trans (Gx.emit ..)).trans (tY n _ _)
theorem LM (O6:yK C rep x ins)(t:QC)(d:Int)(s:Gs):Gx s (fW C rep x ins line t d s):=by
 unfold fW;split
 ·exact Gx.emit ..
 split
 ·exact Gx.emit ..
 split
 ·split
  ·rename_i g hg;obtain⟨_,ln,k1,k2,_⟩:=dR hg;split
   ·exact O6 _ _ _ _ ⟨ln,k1,k2⟩ aav
   ·exact Gx.emit ..
  ·exact Gx.refl _
 ·exact Gx.emit ..
mutual
theorem Do (O6:yK C rep x ins):∀(e:Ex) (d:Int) (s:Gs),Gx s (dk C rep x ins line e d s)
 | .node t es,d,s=>by rw[dk];exact(uy O6 es d s).trans (LM O6 t _ _)
theorem uy (O6:yK C rep x ins):∀(es:List Ex) (d:Int) (s:Gs),Gx s (ce C rep x ins line es d s)
 | [],d,s=>by rw[ce];exact Gx.refl _
 | a::es,d,s=>by rw[ce];exact(Do O6 a d s).trans (uy O6 es _ _)
end
theorem Fw (d:Int)(s:Gs):Gx s (bu C x line d s):=by
 unfold bu;split
 ·exact Gx.emit ..
 ·exact Gx.refl _
theorem MU (g:Nat)(d:Int)(s:Gs):Gx s (di C x line g d s)/\ba C x+(a_ C.p (g:Int)).length<=(di C x line g d s).J4:=by have h:=(pQ (C:=C) (y:=bF C x line g) (chain:=x.I9) (l:=(line:Int)) (b_ C.p g) d ⟨s.I8,max s.J4 (ba C x+(a_ C.p (g:Int)).length),s.start⟩).trans (tY (C:=C) (y:=bF C x line g) (chain:=x.I9) (l:=(line:Int)) (d:=d-b_ C.p g) ((a_ C.p (g:Int)).length-b_ C.p g) (b_ C.p g) _);have hm:=h.J4;unfold di;dsimp only at hm;exact⟨⟨⟨h.px.le,h.px.eq⟩,o_⟩,o_⟩
end
structure Lc where
 C:Cx
 rep:Sc->List Nat->Nat->Nat->Int->Gs->Gs
 x:Sc
 ins:List Nat
 base:Int
 s:Gs
namespace Lc
noncomputable def LL (Q:Lc) (k:Nat):Ls:=fh Q.C Q.rep Q.x Q.ins Q.base (k-(Q.x.f+1)) (Q.x.f+1) (cz Q.C Q.s)
noncomputable def Hd (Q:Lc) (k:Nat):Nat:=(Q.LL k).g.I8.length
structure Ok (Q:Lc) (e:Nat):Prop where
 hC:CxOk Q.C
 hx:ScOk Q.C Q.x Q.ins
 he:h_ Q.C.p Q.x.f=some e
 rep:yK Q.C Q.rep Q.x Q.ins
section
variable {Q:Lc} {e:Nat}
theorem line_at (h:Q.Ok e){k:Nat}(hk:k<=e):∃ln,Q.C.p[k]?=some ln:=by obtain⟨_,_,_,_,_,he⟩:=aI h.he;exact ae o_
theorem LL_start (Q:Lc):Q.LL (Q.x.f+1)=cz Q.C Q.s:=by unfold LL;rw[v6];rfl
theorem xG (h:Q.Ok e){k:Nat}{ln:Qt}(h1:Q.x.f<k)(h2:k<=e)(hk:Q.C.p[k]?=some ln):Q.LL (k+1)=bf Q.C Q.x k ln (dn Q.C Q.rep Q.x Q.ins Q.base k ln (Q.LL k)):=by unfold LL;obtain⟨n,hn⟩:∃n,k-(Q.x.f+1)=n:=⟨_,rfl⟩;rw[show k+1-(Q.x.f+1)=n+1 by omega,hn,AY _ _ _ (fun i g1 g2=>line_at h o_),show Q.x.f+1+n=k by omega];rw[fh,hk];rfl
structure One (Q:Lc) (k:Nat):Prop where
 le:Q.Hd k<=Q.Hd (k+1)
 stay:∀i,i<Q.Hd k->(∀i0,Q.x.f<i0->i0<k->jumps Q.C.p i0->plN Q.C.p i0=(k:Int)->(i:Int)≠atL (Q.LL k).pos i0)->opL (Q.LL (k+1)).g.I8 i=opL (Q.LL k).g.I8 i
 told:∀i0 (t:Nat),Q.x.f<i0->i0<k->jumps Q.C.p i0->plN Q.C.p i0=(k:Int)->atL (Q.LL k).pos i0=(t:Int)->t<Q.Hd k->opL (Q.LL (k+1)).g.I8 t=(opL (Q.LL k).g.I8 t).map (fun o=>⟨o.J5,(Q.Hd (k+1):Int)⟩)
 pos:∀i,i≠k->atL (Q.LL (k+1)).pos i=atL (Q.LL k).pos i
 new:jumps Q.C.p k->Q.Hd k<Q.Hd (k+1)/\atL (Q.LL (k+1)).pos k=((Q.Hd (k+1)-1:Nat):Int)/\opL (Q.LL (k+1)).g.I8 (Q.Hd (k+1)-1)=some ⟨if j_ Q.C.p k=4 then 10 else 11,0⟩
 head:∀i,i≠k->atL (Q.LL (k+1)).J6 i=atL (Q.LL k).J6 i
 headk:j_ Q.C.p k≠4->j_ Q.C.p k≠7->atL (Q.LL (k+1)).J6 k=(Q.Hd k:Int)
 hl:(Q.LL (k+1)).J6.length=(Q.LL k).J6.length
 pl:(Q.LL (k+1)).pos.length=(Q.LL k).pos.length
 J4:(Q.LL k).g.J4<=(Q.LL (k+1)).g.J4
 lv:(Q.LL (k+1)).lv=(Q.LL k).lv\/(j_ Q.C.p k=6/\Q.x.J9=false/\(Q.LL (k+1)).lv=(Q.LL k).lv++[((Q.Hd (k+1)-1:Nat):Int)]/\Q.Hd k<Q.Hd (k+1)/\opL (Q.LL (k+1)).g.I8 (Q.Hd (k+1)-1)=some ⟨10,0⟩)
theorem emit_len {C:Cx}{s:Gs}{d code arg line:Int}{chain:List Int}:(aB C s d code arg line chain).I8.length=s.I8.length+1:=by simp[aB]
theorem Nh (h:Q.Ok e){k:Nat}{ln:Qt}(h1:Q.x.f<k)(h2:k<e)(hk:Q.C.p[k]?=some ln)(h4:ln.J0=4):Q.x.f<f_ Q.C.p k/\f_ Q.C.p k<k/\jumps Q.C.p (f_ Q.C.p k)/\plN Q.C.p (f_ Q.C.p k)=(k:Int):=by
 obtain⟨o1,o2,o3,o4⟩:=h.hx.own4 h.hC h.he h1 o_ hk h4;obtain⟨y,_,hy,hy3,_⟩:=aP o1;have Vm:=aL hy;refine⟨o2,o3,.inl o_,?_⟩;have hE:bi Q.C.p (f_ Q.C.p k:Int)=(k:Int):=by rw[bZ];exact aU o1
 have Vh:eV Q.C.p (f_ Q.C.p k)= -(k:Int):=by unfold eV;rw[b8 (show ¬j_ Q.C.p (f_ Q.C.p k)=4 by omega),hE,b9 ⟨o_,o_⟩]
 unfold plN;rw[Vh,b8 o_];omega
theorem plN_exit7 (h:Q.Ok e){k:Nat}{ln:Qt}(h1:Q.x.f<k)(h2:k<e)(hk:Q.C.p[k]?=some ln)(h7:ln.J0=7):Q.x.f<eU Q.C.p k/\eU Q.C.p k<k/\jumps Q.C.p (eU Q.C.p k)/\plN Q.C.p (eU Q.C.p k)=(k:Int)/\f_ Q.C.p k≠Q.x.f:=by obtain⟨k1,k2,k3,k4,k5⟩:=xE h.hC h.hx h.he h1 h2 hk h7;refine⟨o_,k2,k3,?_,k5⟩;unfold plN;rw[k4,b9 o_];omega
theorem JO (h:Q.Ok e){k i0:Nat}(h2:k<=e)(g1:Q.x.f<i0)(g2:i0<k)(g3:jumps Q.C.p i0)(g4:plN Q.C.p i0=(k:Int)):k<e/\(j_ Q.C.p k=4\/j_ Q.C.p k=7):=by
 have O4:k<e:=by have:=(LV h.hC h.hx h.he g1 o_ g3).2;omega
 exact⟨O4,ML h.hC h.hx h.he g1 g2 O4 g3 g4⟩
theorem MT (h:Q.Ok e){k:Nat}(h2:k<=e)(hq:k=e\/(j_ Q.C.p k≠4/\j_ Q.C.p k≠7))(hpx:Px (Q.LL k).g.I8 (Q.LL (k+1)).g.I8)
  (pos:∀i,i≠k->atL (Q.LL (k+1)).pos i=atL (Q.LL k).pos i)
  (new:jumps Q.C.p k->Q.Hd k<Q.Hd (k+1)/\atL (Q.LL (k+1)).pos k=((Q.Hd (k+1)-1:Nat):Int)/\opL (Q.LL (k+1)).g.I8 (Q.Hd (k+1)-1)=some ⟨if j_ Q.C.p k=4 then 10 else 11,0⟩)
  (head:∀i,i≠k->atL (Q.LL (k+1)).J6 i=atL (Q.LL k).J6 i)
  (headk:j_ Q.C.p k≠4->j_ Q.C.p k≠7->atL (Q.LL (k+1)).J6 k=(Q.Hd k:Int))
  (hl:(Q.LL (k+1)).J6.length=(Q.LL k).J6.length) (pl:(Q.LL (k+1)).pos.length=(Q.LL k).pos.length) (most:(Q.LL k).g.J4<=(Q.LL (k+1)).g.J4)
  (lv:(Q.LL (k+1)).lv=(Q.LL k).lv\/(j_ Q.C.p k=6/\Q.x.J9=false/\(Q.LL (k+1)).lv=(Q.LL k).lv++[((Q.Hd (k+1)-1:Nat):Int)]/\Q.Hd k<Q.Hd (k+1)/\opL (Q.LL (k+1)).g.I8 (Q.Hd (k+1)-1)=some ⟨10,0⟩)):One Q k:=
 ⟨hpx.le,fun i hi _=>hpx.eq i hi,fun i0 t g1 g2 g3 g4 _ _=>by
  have:=JO h h2 g1 g2 g3 g4
  omega,pos,new,head,headk,hl,pl,most,lv⟩
noncomputable def gE (Q:Lc) (k:Nat) (ln:Qt):Gs:=dk Q.C Q.rep Q.x Q.ins k (exL ln.L0) Q.base ⟨(Q.LL k).g.I8,(Q.LL k).g.J4,true⟩
theorem gE_px (h:Q.Ok e)(k:Nat)(ln:Qt):Gx (Q.LL k).g (gE Q k ln):=
 (fun hh=>⟨hh.px,hh.J4⟩:Gx ⟨(Q.LL k).g.I8,(Q.LL k).g.J4,true⟩ (gE Q k ln)->Gx (Q.LL k).g (gE Q k ln)) <| Do h.rep (exL ln.L0) Q.base ⟨(Q.LL k).g.I8,(Q.LL k).g.J4,true⟩
def lastOp (Q:Lc)(k:Nat)(ln:Qt):Qv:=
 if ln.J0=1 then⟨bL Q.C true,bU Q.C Q.x (Q.base+1) (cN Q.x.J3 ln.J7)⟩
 else if ln.J0=2 then⟨17,0⟩
 else if ln.J0=6 then(if Q.x.J9=true then(if Q.C.J8=true then⟨14,Q.C.args⟩else⟨16,Q.C.args+16*Q.C.J1⟩)else⟨10,0⟩)
 else⟨11,0⟩
theorem expr_step (h:Q.Ok e){k:Nat}{ln:Qt}(h1:Q.x.f<k)(h2:k<=e)(hk:Q.C.p[k]?=some ln)(h4:ln.J0≠4)(h7:ln.J0≠7):
  ∃it:Qs,(Q.LL (k+1)).g.I8=(gE Q k ln).I8++[it]/\it.K0=lastOp Q k ln/\(Q.LL (k+1)).J6=(Q.LL k).J6.set k ((Q.LL k).g.I8.length:Int)
   /\(Q.LL (k+1)).pos=(if ln.J0=1\/ln.J0=2\/ln.J0=6 then(Q.LL k).pos else(Q.LL k).pos.set k ((gE Q k ln).I8.length:Int))
   /\(Q.LL (k+1)).lv=(if ln.J0=6/\Q.x.J9=false then(Q.LL k).lv++[((gE Q k ln).I8.length:Int)]else(Q.LL k).lv)/\(Q.LL (k+1)).g.J4=(gE Q k ln).J4:=by
 rw[xG h h1 h2 hk];have hB:∀Z,bf Q.C Q.x k ln Z=Z:=fun Z=>by unfold bf;rw[b8 (fun hh=>h7 hh.1)]
 rw[hB];unfold dn;rw[b8 h4,b8 h7];unfold lastOp;by_cases k1:ln.J0=1
 ·rw[b9 k1,b9 k1,b9 (show ln.J0=1\/ln.J0=2\/ln.J0=6 from .inl k1),b8 (show ¬(ln.J0=6/\Q.x.J9=false) by omega)];exact⟨_,rfl,rfl,rfl,rfl,rfl,rfl⟩
 rw[b8 k1,b8 k1];by_cases k2:ln.J0=2
 ·rw[b9 k2,b9 k2,b9 (show ln.J0=1\/ln.J0=2\/ln.J0=6 from .inr (.inl k2)),b8 (show ¬(ln.J0=6/\Q.x.J9=false) by omega)];exact⟨_,rfl,rfl,rfl,rfl,rfl,rfl⟩
 rw[b8 k2,b8 k2];by_cases k6:ln.J0=6
 ·rw[b9 k6,b9 k6,b9 (show ln.J0=1\/ln.J0=2\/ln.J0=6 from .inr (.inr k6))];unfold be;by_cases ho:Q.x.J9=true
  ·rw[b9 ho,b9 ho,b8 (show ¬(ln.J0=6/\Q.x.J9=false) by simp[ho])];by_cases hf:Q.C.J8=true
   ·rw[b9 hf,b9 hf];exact⟨_,rfl,rfl,rfl,rfl,rfl,rfl⟩
   ·rw[b8 hf,b8 hf];exact⟨_,rfl,rfl,rfl,rfl,rfl,rfl⟩
  ·rw[b8 ho,b8 ho,b9 (show ln.J0=6/\Q.x.J9=false from⟨k6,by simpa using ho⟩),b8 (show ¬(false=true) by simp)];exact⟨_,rfl,rfl,rfl,rfl,rfl,rfl⟩
 ·rw[b8 k6,b8 k6,b8 (show ¬(ln.J0=1\/ln.J0=2\/ln.J0=6) by omega),b8 (show ¬(ln.J0=6/\Q.x.J9=false) by omega)];exact⟨_,rfl,rfl,rfl,rfl,rfl,rfl⟩
theorem MF (h:Q.Ok e){k:Nat}{ln:Qt}(h1:Q.x.f<k)(h2:k<=e)(hk:Q.C.p[k]?=some ln)(h0:ln.J0≠0)(h4:ln.J0≠4)(h7:ln.J0≠7)(Se:(Q.LL k).pos.length=Q.C.p.length)(hhl:(Q.LL k).J6.length=Q.C.p.length):One Q k:=by
 have T4:=aL hk;have QV:=aE hk;have acN:=h.hC.line k ln hk;obtain⟨it,e1,e2,e3,e4,e5,e6⟩:=expr_step h h1 h2 hk h4 h7;have hgm:=(gE_px h k ln).J4;have hg:=(gE_px h k ln).px;have O2:(Q.LL (k+1)).g.I8.length=(gE Q k ln).I8.length+1:=by rw[e1];simp
 have hH:Q.Hd (k+1)-1=(gE Q k ln).I8.length:=by unfold Hd;omega
 have O4:Q.Hd k<Q.Hd (k+1):=by unfold Hd;have:=hg.le;omega
 have O3:opL (Q.LL (k+1)).g.I8 (Q.Hd (k+1)-1)=some (lastOp Q k ln):=by rw[hH,e1,nj,b9 rfl,e2]
 have SN:jumps Q.C.p k->ln.J0=3\/ln.J0=5:=fun hj=>by unfold jumps at hj;omega
 refine MT h h2 (.inr ⟨o_,o_⟩) ⟨by have:=hg.le;omega,fun i hi=>?_⟩ (fun i hi=>?_) (fun hj=>?_) (fun i hi=>?_) (fun _ _=>?_) (by rw[e3,o8]) ?_ (by rw[e6];exact hgm) ?_
 ·rw[e1,nj,b8 (by have:=hg.le;omega)];exact hg.eq i hi
 ·rw[e4];split
  ·rfl
  ·exact eO hi
 ·refine⟨O4,?_,?_⟩
  ·rw[e4,b8 (by have:=SN hj;omega),fX o_,hH]
  ·rw[O3];unfold lastOp;have:=SN hj;rw[b8 o_,b8 o_,b8 o_,b8 o_]
 ·rw[e3];exact eO hi
 ·rw[e3,fX o_];rfl
 ·rw[e4];split
  ·rfl
  ·rw[o8]
 ·rw[e5];by_cases hc:ln.J0=6/\Q.x.J9=false
  ·rw[b9 hc];refine .inr ⟨o_,hc.2,by rw[hH],O4,?_⟩;rw[O3];unfold lastOp;rw[b8 o_,b8 o_,b9 hc.1,hc.2];rfl
  ·rw[b8 hc];exact .inl rfl
theorem else_step (h:Q.Ok e){k:Nat}{ln:Qt}(h1:Q.x.f<k)(h2:k<=e)(hk:Q.C.p[k]?=some ln)(h4:ln.J0=4):
  ∃it:Qs,it.K0=⟨10,0⟩/\(Q.LL (k+1)).g.I8=bv ((Q.LL k).g.I8++[it]) (atL (Q.LL k).pos (f_ Q.C.p k)) (((Q.LL k).g.I8.length:Int)+1)/\(Q.LL (k+1)).J6=(Q.LL k).J6/\(Q.LL (k+1)).pos=(Q.LL k).pos.set k ((Q.LL k).g.I8.length:Int)/\(Q.LL (k+1)).lv=(Q.LL k).lv/\(Q.LL (k+1)).g.J4=(Q.LL k).g.J4:=by
 rw[xG h h1 h2 hk];have hB:∀Z,bf Q.C Q.x k ln Z=Z:=fun Z=>by unfold bf;rw[b8 (fun hh=>o_)]
 rw[hB];unfold dn;rw[b9 h4];refine⟨kw Q.C (Q.LL k).g Q.base 10 0 k Q.x.I9,rfl,?_,rfl,rfl,rfl,rfl⟩;dsimp only;rw[emit_len];rfl
theorem KQ (h:Q.Ok e){k:Nat}{ln:Qt}(h1:Q.x.f<k)(h2:k<=e)(hk:Q.C.p[k]?=some ln)(h4:ln.J0=4)(Se:(Q.LL k).pos.length=Q.C.p.length)(hpi:∀i,Q.x.f<i->i<k->jumps Q.C.p i->∃t:Nat,atL (Q.LL k).pos i=(t:Int)/\t<Q.Hd k):One Q k:=by
 have T4:=aL hk;have QV:=aE hk;have QI:k<e:=(h.hx.own4 h.hC h.he h1 h2 hk h4).2.2.2;obtain⟨it,e1,e2,e3,e4,e5,e6⟩:=else_step h h1 h2 hk h4;obtain⟨o1,o2,o3,o4⟩:=Nh h h1 QI hk h4;have O2:Q.Hd (k+1)=Q.Hd k+1:=by unfold Hd;rw[e2,bB];simp
 have Rq:∀i,i≠k->atL (Q.LL (k+1)).pos i=atL (Q.LL k).pos i:=fun i hi=>by rw[e4];exact eO hi
 have SV:∀i,opL (Q.LL (k+1)).g.I8 i=if atL (Q.LL k).pos (f_ Q.C.p k)=(i:Int)then((if i=(Q.LL k).g.I8.length then some it.K0 else opL (Q.LL k).g.I8 i).map fun o=>(⟨o.J5,(Q.Hd (k+1):Int)⟩:Qv))else(if i=(Q.LL k).g.I8.length then some it.K0 else opL (Q.LL k).g.I8 i):=fun i=>by
  rw[e2,md,nj,show(((Q.LL k).g.I8.length:Int)+1)=(Q.Hd (k+1):Int) by rw[O2];unfold Hd;omega]
 refine⟨o_,fun i hi hn=>?_,fun i0 t g1 g2 g3 g4 g5 g6=>?_,Rq,fun _=>⟨o_,?_,?_⟩,fun i _=>by rw[e3],fun hh=>absurd T4 o_,by rw[e3],by rw[e4,o8],by rw[e6];exact u6 _,.inl e5⟩
 ·have h3:=hn _ o1 o2 o3 o4;unfold Hd at hi;rw[SV,b8 (fun hh=>h3 hh.symm),b8 o_]
 ·have:=ME h.hC h.hx h.he g1 g2 QI g3 o_ g4;subst this;unfold Hd at g6;rw[SV,b9 g5,b8 o_]
 ·rw[e4,fX o_,O2];unfold Hd;congr 1
 ·rw[SV,O2,F8];unfold Hd;rw[b8,b9 rfl,e1,b9 o_];intro hh;obtain⟨t,t1,t2⟩:=hpi _ o1 o2 o3;unfold Hd at t2;omega
theorem end_step (h:Q.Ok e){k:Nat}{ln:Qt}(h1:Q.x.f<k)(h2:k<e)(hk:Q.C.p[k]?=some ln)(h7:ln.J0=7):
  ∃its:List Qs,(its=[]/\j_ Q.C.p (f_ Q.C.p k)≠5\/j_ Q.C.p (f_ Q.C.p k)=5/\∃it:Qs,its=[it]/\it.K0=⟨10,atL (Q.LL k).J6 (f_ Q.C.p k)⟩)/\(Q.LL (k+1)).g.I8=bv ((Q.LL k).g.I8++its) (atL (Q.LL k).pos (eU Q.C.p k)) (((Q.LL k).g.I8.length:Int)+its.length)/\(Q.LL (k+1)).J6=(Q.LL k).J6/\(Q.LL (k+1)).pos=(Q.LL k).pos/\(Q.LL (k+1)).lv=(Q.LL k).lv/\(Q.LL (k+1)).g.J4=(Q.LL k).g.J4:=by
 rw[xG h h1 o_ hk];have P8:=(plN_exit7 h h1 h2 hk h7).2.2.2.2;have hB:∀Z,bf Q.C Q.x k ln Z={Z with g:=⟨bv Z.g.I8 (atL Z.pos (eU Q.C.p k)) Z.g.I8.length,Z.g.J4,Z.g.start⟩}:=fun Z=>by unfold bf;rw[b9 ⟨h7,P8⟩]
 rw[hB];unfold dn;rw[b8 o_,b9 h7,b8 P8];by_cases h5:j_ Q.C.p (f_ Q.C.p k)=5
 ·rw[b9 h5];refine⟨[kw Q.C (Q.LL k).g Q.base 10 (atL (Q.LL k).J6 (f_ Q.C.p k)) k Q.x.I9],.inr ⟨h5,_,rfl,rfl⟩,?_,rfl,rfl,rfl,rfl⟩;dsimp only;rw[emit_len];rfl
 ·rw[b8 h5];refine⟨[],.inl ⟨rfl,h5⟩,?_,rfl,rfl,rfl,rfl⟩;dsimp only;rw[m7];simp
theorem zB {l its:List Qs}{i:Nat}(hi:i<l.length):opL (l++its) i=opL l i:=by unfold opL;rw[l8 hi]
theorem NF (h:Q.Ok e){k:Nat}{ln:Qt}(h1:Q.x.f<k)(h2:k<e)(hk:Q.C.p[k]?=some ln)(h7:ln.J0=7):One Q k:=by
 have T4:=aL hk;obtain⟨its,e1,e2,e3,e4,e5,e6⟩:=end_step h h1 h2 hk h7;obtain⟨o1,o2,o3,o4,_⟩:=plN_exit7 h h1 h2 hk h7;have O2:(Q.LL (k+1)).g.I8.length=(Q.LL k).g.I8.length+its.length:=by rw[e2,bB];simp
 have hj:¬jumps Q.C.p k:=by unfold jumps;omega
 refine⟨by unfold Hd;omega,fun i hi hn=>?_,fun i0 t g1 g2 g3 g4 g5 g6=>?_,fun i _=>by rw[e4],fun hh=>absurd hh hj,fun i _=>by rw[e3],fun _ hh=>absurd T4 o_,by rw[e3],by rw[e4],by rw[e6];exact u6 _,.inl e5⟩
 ·have h3:=hn _ o1 o2 o3 o4;rw[e2,md,b8 (fun hh=>h3 hh.symm)];exact zB hi
 ·have:=Oy h.hC h.hx h.he g1 g2 h2 g3 o_ g4;subst this;rw[e2,md,b9 g5,zB g6];unfold Hd;rw[O2,Int.natCast_add]
theorem last_step (h:Q.Ok e):∃its:List Qs,(Q.LL (e+1)).g.I8=(Q.LL e).g.I8++its/\(its.map (·.K0))=(⟨0,0⟩:Qv)::(if Q.x.J9=true then [if Q.C.J8=true then⟨14,Q.C.args⟩else⟨16,Q.C.args+16*Q.C.J1⟩]else [])/\(Q.LL (e+1)).J6=(Q.LL e).J6/\(Q.LL (e+1)).pos=(Q.LL e).pos/\(Q.LL (e+1)).lv=(Q.LL e).lv/\(Q.LL (e+1)).g.J4=(Q.LL e).g.J4:=by
 obtain⟨ln,hk,h7⟩:=bn h.he;obtain⟨_,_,_,_,Xf,_⟩:=aI h.he;rw[xG h Xf (d7 _) hk];have P8:=jK h.he;have hB:∀Z,bf Q.C Q.x e ln Z=Z:=fun Z=>by unfold bf;rw[b8 (fun hh=>hh.2 P8)]
 rw[hB];unfold dn;rw[b8 o_,b9 h7,b9 P8];unfold be
 cases ho:Q.x.J9 with
 | true=>
  rw[b9 rfl,b9 rfl]
  cases hf:Q.C.J8 with|true=>exact⟨[_,_],by rw[b9 rfl];simp only[aB,l9,p9,r9];rfl,rfl,rfl,rfl,rfl,rfl⟩|false=>exact⟨[_,_],by rw[b8 s_];simp only[aB,l9,p9,r9];rfl,rfl,rfl,rfl,rfl,rfl⟩
 | false=>rw[b8 s_,b9 rfl,b8 s_];exact⟨[_],rfl,rfl,rfl,rfl,rfl,rfl⟩
theorem Lx (h:Q.Ok e):One Q e:=by
 obtain⟨ln,hk,h7⟩:=bn h.he;obtain⟨_,_,_,_,Xf,_⟩:=aI h.he;have T4:=aL hk;obtain⟨its,e1,_,e3,e4,e5,e6⟩:=last_step h;have hj:¬jumps Q.C.p e:=by unfold jumps;omega
 exact MT h (d7 _) (.inl rfl) ⟨by rw[e1,c7];omega,fun i hi=>by rw[e1];exact zB hi⟩ (fun i _=>by rw[e4]) (fun hh=>absurd hh hj) (fun i _=>by rw[e3]) (fun _ hh=>absurd T4 o_) (by rw[e3]) (by rw[e4]) (by rw[e6];exact u6 _) (.inl e5)
structure Inv (Q:Lc) (k:Nat):Prop where
 hl:(Q.LL k).J6.length=Q.C.p.length
 pl:(Q.LL k).pos.length=Q.C.p.length
 mono:∀i,Q.x.f<i->i<=k->Q.Hd i<=Q.Hd k
 pos:∀i,Q.x.f<i->i<k->jumps Q.C.p i->atL (Q.LL k).pos i=((Q.Hd (i+1)-1:Nat):Int)
 one:∀i,Q.x.f<i->i<k->One Q i
 head:∀i,Q.x.f<i->i<k->j_ Q.C.p i≠4->j_ Q.C.p i≠7->atL (Q.LL k).J6 i=(Q.Hd i:Int)
 lv:∀j∈(Q.LL k).lv,∃r,Q.x.f<r/\r<k/\j_ Q.C.p r=6/\Q.x.J9=false/\Q.Hd r<Q.Hd (r+1)/\j=((Q.Hd (r+1)-1:Nat):Int)/\opL (Q.LL (r+1)).g.I8 (Q.Hd (r+1)-1)=some ⟨10,0⟩
theorem Ju (Q:Lc):Inv Q (Q.x.f+1):=by
 have e:=LL_start Q;refine⟨by rw[e];simp[cz],by rw[e];simp[cz],fun i h1 h2=>?_,fun i h1 h2=>o_,fun i h1 h2=>o_,fun i h1 h2=>o_,fun j hj=>?_⟩
 ·rw[show i=Q.x.f+1 by omega];exact d7 _
 ·rw[e]at hj;simp[cz]at hj
theorem Nb (h:Q.Ok e){k:Nat}(h1:Q.x.f<k)(h2:k<=e)(hI:Inv Q k):Inv Q (k+1):=by
 obtain⟨ln,hk⟩:=line_at h h2;have T4:=aL hk;have XC:=fQ h.hC h.hx h.he o_ h2 hk
 have Rz:One Q k:=by
  by_cases h4:ln.J0=4
  ·refine KQ h h1 h2 hk h4 hI.pl (fun i g1 g2 g3=>⟨_,hI.pos i g1 g2 g3,?_⟩);have:=((hI.one i g1 g2).new g3).1;have:=hI.mono (i+1) o_ o_;omega
  by_cases h7:ln.J0=7
  ·by_cases QI:k=e
   ·subst QI;exact Lx h
   ·exact NF h h1 o_ hk h7
  ·exact MF h h1 h2 hk XC h4 h7 hI.pl hI.hl
 refine⟨by rw[Rz.hl];exact hI.hl,by rw[Rz.pl];exact hI.pl,fun i g1 g2=>?_,fun i g1 g2 g3=>?_,fun i g1 g2=>?_,fun i g1 g2 g3 g4=>?_,fun j hj=>?_⟩
 ·have:=Rz.le;rcases n5 k i with g|g
  ·rw[show i=k+1 by omega];exact d7 _
  ·have:=hI.mono i g1 g;omega
 ·by_cases RB:i=k
  ·subst RB;exact(Rz.new g3).2.1
  ·rw[Rz.pos i RB];exact hI.pos i g1 o_ g3
 ·by_cases RB:i=k
  ·subst RB;exact Rz
  ·exact hI.one i g1 o_
 ·by_cases RB:i=k
  ·subst RB;exact Rz.headk g3 g4
  ·rw[Rz.head i RB];exact hI.head i g1 o_ g3 g4
 ·rcases Rz.lv with hl|⟨l1,l2,l3,l4,l5⟩
  ·rw[hl]at hj;obtain⟨r,r1,r2,r3⟩:=hI.lv j hj;exact⟨r,r1,o_,r3⟩
  ·rw[l3]at hj;rcases f0.1 hj with hj|hj
   ·obtain⟨r,r1,r2,r3⟩:=hI.lv j hj;exact⟨r,r1,o_,r3⟩
   ·exact⟨k,h1,o_,l1,l2,l4,by simpa using hj,l5⟩
theorem inv_all (h:Q.Ok e):∀k,Q.x.f<k->k<=e+1->Inv Q k:=by
 have key:∀n,Q.x.f+1+n<=e+1->Inv Q (Q.x.f+1+n):=fun n=>by
  induction n with
  | zero=>intro _;exact Ju Q
  | succ n ih=>intro hn;exact Nb (k:=Q.x.f+1+n) h o_ o_ (ih o_)
 intro k h1 h2;have:=key (k-(Q.x.f+1)) o_;rwa [show Q.x.f+1+(k-(Q.x.f+1))=k by omega]at this
theorem hd_mono (h:Q.Ok e){i k:Nat}(h1:Q.x.f<i)(h2:i<=k)(h3:k<=e+1):Q.Hd i<=Q.Hd k:=(inv_all h k o_ h3).mono i h1 h2
theorem most_mono (h:Q.Ok e){i:Nat}(h1:Q.x.f<i):∀n,i+n<=e+1->(Q.LL i).g.J4<=(Q.LL (i+n)).g.J4
 | 0,_=>u6 _
 | n+1,h2=>B0 (most_mono h h1 n o_) ((inv_all h (e+1) o_ (d7 _)).one (i+n) o_ o_).J4
theorem last_ne (h:Q.Ok e){i j:Nat}(hi:Q.x.f<i)(hj:Q.x.f<j)(Sv:i<=e)(Ut:j<=e)(h1:Q.Hd i<Q.Hd (i+1))(h2:Q.Hd j<Q.Hd (j+1))(P2:i≠j):Q.Hd (i+1)-1≠Q.Hd (j+1)-1:=by
 rcases F7 P2 with g|g
 ·have:=hd_mono h (i:=i+1) (k:=j) o_ o_ o_;omega
 ·have:=hd_mono h (i:=j+1) (k:=i) o_ o_ o_;omega
theorem KU (h:Q.Ok e){k1:Nat}(h1:Q.x.f<k1):∀(n:Nat) {i:Nat},k1+n<=e+1->i<Q.Hd k1->(∀i0,Q.x.f<i0->i0<k1+n->jumps Q.C.p i0->(k1:Int)<=plN Q.C.p i0->plN Q.C.p i0<((k1+n:Nat):Int)->i≠Q.Hd (i0+1)-1)->opL (Q.LL (k1+n)).g.I8 i=opL (Q.LL k1).g.I8 i
 | 0,i,_,_,_=>rfl
 | n+1,i,h2,h3,h4=>by
  have ih:=KU h h1 n (i:=i) o_ h3 (fun i0 g1 g2 g3 g4 g5=>h4 i0 g1 o_ g3 g4 o_);have hI:=inv_all h (k1+n+1) o_ o_;have UN:=inv_all h (k1+n) o_ o_;have Rz:=hI.one (k1+n) o_ o_;have hm:=hd_mono h (i:=k1) (k:=k1+n) h1 o_ o_;rw[<-ih,<-D7];refine Rz.stay i o_ (fun i0 g1 g2 g3 g4=>?_);rw[UN.pos i0 g1 g2 g3];have:=h4 i0 g1 o_ g3 o_ o_;omega
theorem fin_line (h:Q.Ok e){k i:Nat}(h1:Q.x.f<k)(h2:k<=e)(h3:Q.Hd k<=i)(h4:i<Q.Hd (k+1))(h5:jumps Q.C.p k->i≠Q.Hd (k+1)-1):opL (Q.LL (e+1)).g.I8 i=opL (Q.LL (k+1)).g.I8 i:=by
 have:=KU h (k1:=k+1) o_ (e-k) (i:=i) o_ h4 (fun i0 g1 g2 g3 g4 g5=>by
  have hI:=inv_all h (e+1) o_ (d7 _);have hn:=((hI.one i0 g1 o_).new g3).1;rcases y7 i0 k with g|g|g
  ·have:=hd_mono h (i:=i0+1) (k:=k) o_ o_ o_;omega
  ·subst g;exact h5 g3
  ·have:=hd_mono h (i:=k+1) (k:=i0) o_ o_ o_;omega)
 rwa [show k+1+(e-k)=e+1 by omega]at this
theorem fin_start (h:Q.Ok e):Gx Q.s (Q.LL (e+1)).g:=by
 obtain⟨_,_,_,_,Xf,_⟩:=aI h.he;have e0:Q.Hd (Q.x.f+1)=Q.s.I8.length:=by unfold Hd;rw[LL_start];rfl
 have hm:=hd_mono h (i:=Q.x.f+1) (k:=e+1) o_ o_ (d7 _)
 refine⟨⟨by rw[<-e0];exact hm,fun i hi=>?_⟩,by
  have:=most_mono h (i:=Q.x.f+1) o_ (e-Q.x.f) o_;rw[show Q.x.f+1+(e-Q.x.f)=e+1 by omega,LL_start]at this
  exact this⟩
 have:=KU h (k1:=Q.x.f+1) o_ (e-Q.x.f) (i:=i) o_ o_ (fun i0 g1 g2 g3 g4 g5=>by
  have hI:=inv_all h (e+1) o_ (d7 _);have hn:=((hI.one i0 g1 o_).new g3).1;have:=hd_mono h (i:=Q.x.f+1) (k:=i0) o_ o_ o_
  omega)
 rw[show Q.x.f+1+(e-Q.x.f)=e+1 by omega,LL_start]at this;exact this
theorem fin_jump (h:Q.Ok e){i:Nat}(h1:Q.x.f<i)(h2:i<e)(hj:jumps Q.C.p i):∃t:Nat,plN Q.C.p i=(t:Int)/\i<t/\t<e/\opL (Q.LL (e+1)).g.I8 (Q.Hd (i+1)-1)=some ⟨if j_ Q.C.p i=4 then 10 else 11,(Q.Hd (t+1):Int)⟩:=by obtain⟨p1,p2⟩:=LV h.hC h.hx h.he h1 h2 hj;obtain⟨t,ht⟩:∃t:Nat,plN Q.C.p i=(t:Int):=⟨(plN Q.C.p i).toNat,o_⟩;refine⟨t,ht,o_,o_,?_⟩;have hI:=inv_all h (e+1) o_ (d7 _);have UN:=inv_all h t o_ o_;have Rz:=hI.one i h1 o_;obtain⟨n1,n2,n3⟩:=Rz.new hj;have hme:=hd_mono h (i:=i+1) (k:=t) o_ o_ o_;have dif:∀i0,Q.x.f<i0->i0<=e->jumps Q.C.p i0->i0≠i->Q.Hd (i+1)-1≠Q.Hd (i0+1)-1:=fun i0 g1 g2 g3 g4=>last_ne h h1 g1 o_ g2 n1 ((hI.one i0 g1 o_).new g3).1 (fun hh=>g4 hh.symm);have a:=KU h (k1:=i+1) o_ (t-(i+1)) (i:=Q.Hd (i+1)-1) o_ o_ (fun i0 g1 g2 g3 g4 g5=>dif i0 g1 o_ g3 (fun hh=>by subst hh;omega));rw[show i+1+(t-(i+1))=t by omega,n3]at a;have b:=(hI.one t o_ o_).told i (Q.Hd (i+1)-1) h1 o_ hj ht (UN.pos i h1 o_ hj) o_;rw[a]at b;have hmt:=hd_mono h (i:=t) (k:=t+1) o_ o_ o_;have c:=KU h (k1:=t+1) o_ (e-t) (i:=Q.Hd (i+1)-1) o_ o_ (fun i0 g1 g2 g3 g4 g5=>dif i0 g1 o_ g3 (fun hh=>by subst hh;omega));rw[show t+1+(e-t)=e+1 by omega]at c;rw[c,b];rfl
theorem fin_lv (h:Q.Ok e){j:Int}(hj:j∈(Q.LL (e+1)).lv):∃r,Q.x.f<r/\r<e/\j_ Q.C.p r=6/\Q.x.J9=false/\Q.Hd r<Q.Hd (r+1)/\j=((Q.Hd (r+1)-1:Nat):Int)/\opL (Q.LL (e+1)).g.I8 (Q.Hd (r+1)-1)=some ⟨10,0⟩/\(Q.s.I8.length:Int)<=j:=by
 obtain⟨_,_,_,_,Xf,_⟩:=aI h.he;obtain⟨le,QI,h7⟩:=bn h.he;have T4:=aL QI;have hI:=inv_all h (e+1) o_ (d7 _);obtain⟨r,r1,r2,r3,r4,r5,r6,r7⟩:=hI.lv j hj;have hre:r≠e:=fun hh=>by subst hh;omega
 have hf:=fin_line h (k:=r) (i:=Q.Hd (r+1)-1) r1 o_ o_ o_ (fun hh=>by unfold jumps at hh;omega);have e0:Q.Hd (Q.x.f+1)=Q.s.I8.length:=by unfold Hd;rw[LL_start];rfl
 have:=hd_mono h (i:=Q.x.f+1) (k:=r) o_ o_ o_;exact⟨r,r1,o_,r3,r4,r5,r6,by rw[hf,r7],o_⟩
theorem lv_has (h:Q.Ok e){r:Nat}{ln:Qt}(h1:Q.x.f<r)(h2:r<e)(hk:Q.C.p[r]?=some ln)(h6:ln.J0=6)(ho:Q.x.J9=false):((Q.Hd (r+1)-1:Nat):Int)∈(Q.LL (e+1)).lv:=by
 have key:∀n,r+1+n<=e+1->((Q.Hd (r+1)-1:Nat):Int)∈(Q.LL (r+1+n)).lv:=fun n=>by
  induction n with
  | zero=>
   intro _;obtain⟨it,e1,e2,e3,e4,e5,e6⟩:=expr_step h h1 o_ hk o_ o_;rw[y5,e5,b9 ⟨h6,ho⟩];have:Q.Hd (r+1)-1=(gE Q r ln).I8.length:=(by unfold Hd;rw[e1];simp);rw[this]
   simp
  | succ n ih=>
   intro hn;have hI:=inv_all h (e+1) o_ (d7 _);rcases(hI.one (r+1+n) o_ o_).lv with hl|⟨_,_,hl,_⟩
   ·rw[<-D7,hl];exact ih o_
   ·rw[<-D7,hl];exact f0.2 (.inl (ih o_))
 have:=key (e-r) o_;rwa [show r+1+(e-r)=e+1 by omega]at this
theorem lines_eq (h:Q.Ok e):aZ Q.C Q.rep Q.x Q.ins Q.base Q.s=((Q.LL (e+1)).g,(Q.LL (e+1)).lv):=by
 unfold aZ LL;have:dq Q.C.p Q.x.f=e:=by rw[dq,h.he];rfl
 rw[this,show e+1-(Q.x.f+1)=e-Q.x.f by omega]
end
end Lc
theorem JZ {l:List Qs}{v:Int}{i:Nat}{c a:Int}:∀(js:List Int),opL l i=some ⟨c,a⟩->opL (patchL l v js) i=some ⟨c,if(i:Int)∈js then v else a⟩:=by
 intro js
 induction js generalizing l a with
 | nil=>intro h;rw[patchL,h];simp
 | cons j js ih=>
  intro h;rw[patchL];by_cases hj:j=(i:Int)
  ·have h1:opL (bv l j v) i=some ⟨c,v⟩:=(by rw[md,b9 hj,h];rfl);rw[ih h1];simp[hj]
  ·have h1:opL (bv l j v) i=some ⟨c,a⟩:=(by rw[md,b8 hj,h]);rw[ih h1];have:¬(i:Int)=j:=fun hh=>hj hh.symm;simp[this]
theorem zm {l:List Qs}{v:Int}{i:Nat}:∀(js:List Int),(i:Int)∉js->opL (patchL l v js) i=opL l i:=by
 intro js
 induction js generalizing l with
 | nil=>intro h;rfl
 | cons j js ih=>intro h;rw[patchL,ih (by simp at h;simp[h]),md,b8 (by simp at h;exact fun hh=>h.1 hh.symm)]
theorem NO {C:Cx}(hC:CxOk C){x:Sc}{ins:List Nat}(hx:ScOk C x ins){rep:Sc->List Nat->Nat->Nat->Int->Gs->Gs}{line g:Nat}(hg:bI C g)(O6:yK C rep (bF C x line g) (ins++[g]))(d:Int)(s:Gs):Gx s (fH C (aZ C rep) x ins line g d s):=by have hy:=jg hC hx line hg;obtain⟨e,he,_⟩:=hy.endE hC;have hQ:Lc.Ok ⟨C,rep,bF C x line g,ins++[g],d-b_ C.p g,bu C x line (d-b_ C.p g) (di C x line g d s)⟩ e:=⟨hC,hy,he,O6⟩;have h1:Gx s (bu C x line (d-b_ C.p g) (di C x line g d s)):=(MU g d s).1.trans (Fw _ _);have hl:=Lc.lines_eq hQ;have h2:=Lc.fin_start hQ;unfold fH;dsimp only at hl;rw[hl];dsimp only at h2⊢;have h3:=h1.trans h2;refine⟨Px.patch _ h3.px (fun j hj=>?_),h3.J4⟩;obtain⟨r,_,_,_,_,_,_,_,h3⟩:=Lc.fin_lv hQ hj;have:=h1.px.le;dsimp only at h3;omega
theorem Dg {C:Cx}(hC:CxOk C):∀(lev:Nat) {x:Sc} {ins:List Nat},ScOk C x ins->yK C (bg C lev) x ins
 | 0,x,ins,hx,line,g,d,s,_,_=>Gx.refl _
 | lev+1,x,ins,hx,line,g,d,s,hg,hr=>NO hC hx hg (Dg hC lev (jg hC hx line hg)) d s
end Go.Proofs.P
namespace Go.Proofs.P
open Go.Sim Tryz
structure RunS where
 out:List Int
 J2:List (List Int)
 value:Int
 code:Int
 calls:List Int
abbrev kz (v:List Int):List Tr:=[.lst 1 (v.map aa)]
abbrev JS (i1 i2 i3:Sim.Id)(p:List Qt)(limit:Int)(s:RunS):List (Sim.Id×AO):=[((0,0,0),.box [.t (.lst 4 (p.map Qt.tr)),.t (.int .i64 limit),.own i1,.own i2,.t (.int .i64 s.value),.t (.int .i64 s.code),.own i3]),(i1,.arr false 1 (s.out.map aa)),(i2,.dar 1 (aw (s.J2.map kz)) none),(i3,.arr false 1 (s.calls.map aa))]
theorem sU (p:List Qt)(limit k:Int)(s:RunS)(h0:(s.J2.length:Int)=limit):bh prog 174 [.r (.c (.ptr (0,0,0) 0)),tI .i64 k] (JS (0,0,1) (0,0,2) (0,0,3) p limit s) (tB false) (JS (0,0,1) (0,0,2) (0,0,3) p limit {s with code:=1}):=by
 refine ax hΓ aF func174 rfl d_ rfl rfl ?_;have Tj:(aw (s.J2.map kz)).length=s.J2.length:=by rw[bX,d9]
 have hb:((s.J2.length:Int)==limit)=true:=w5.2 h0;repeat' ((conv=>whnf);first|apply Wx|apply W6|apply oi|apply fi|intro h|exact Y8|refine e_ rfl ?_)
 all_goals try(exfalso;rw[Tj,hb]at h;cases h;done)
theorem DH (p:List Qt)(limit k:Int)(s:RunS)(hv:s.J2.length<=1000)(hc:s.calls.length<=6)(h0:(s.J2.length:Int)≠limit):bh prog 174 [.r (.c (.ptr (0,0,0) 0)),tI .i64 k] (JS (0,0,1) (0,0,2) (0,0,3) p limit s) (tB true) (JS (0,0,1) (1,0,2) (0,0,3) p limit {s with J2:=s.J2++[s.calls++[k]]}):=by
 refine ax hΓ aF func174 rfl d_ rfl rfl ?_;have Tj:(aw (s.J2.map kz)).length=s.J2.length:=by rw[bX,d9]
 have hb:((s.J2.length:Int)==limit)=false:=w3.2 h0
 have hf:flat ([]++s.calls.map aa++[[Tr.int .i64 k]]):=by have:=dh (s.calls++[k]);simpa [aa]using this
 repeat' ((conv=>whnf);first|apply Wx|apply W6|apply oi|apply fi|intro h|exact Y8|refine e_ rfl ?_)
 all_goals try(exfalso;rw[Tj,hb]at h;cases h;done)
 all_goals try exact⟨⟨by simp[bX]<;>omega,by simp[bX]<;>omega⟩⟩
 all_goals try exact⟨hf⟩
 all_goals exact⟨by simp[aw,kz,aa]⟩
abbrev yd (l:List (List UInt8)):AV:= .r (.c (.t (.lst 1 (l.map ah))))
def Rr.val:Rr Int->Int
 | .ok v _=>v
 | _=>0
def Rr.st {α:Type}:Rr α->IS
 | .ok _ s=>s
 | .stop _ s=>s
 | .fuel=>⟨[],[]⟩
def Rr.code {α:Type}:Rr α->Int
 | .ok _ _=>0
 | .stop c _=>c
 | .fuel=>0
abbrev Ml (i1 i2 i3:Sim.Id)(p:List Qt)(lim:Int)(calls:List Int)(s:IS)(c:Int):List (Sim.Id×AO):=JS i1 i2 i3 p lim ⟨s.out,s.J2,0,c,calls⟩
structure InV (lim:Int) (calls:List Int) (s:IS):Prop where
 lm:lim<=1000
 vis:(s.J2.length:Int)<=lim
 out:s.out.length<=s.J2.length
 calls:calls.length<=6
theorem InV.ext {lim:Int}{calls:List Int}{s s':IS}(h:InV lim calls s)(hx:Ext lim s s'):InV lim calls s':=⟨h.lm,hx.le h.vis,by have:=hx.ol;have:=h.out;omega,h.calls⟩
noncomputable abbrev oR (p:List Qt) (lim:Int) (n:Nat) (calls:List Int) (f k:Nat) (vals:List Int) (e:Ex) (s:IS):Rr Int:=evE p (a_ p (f:Int)) vals (bE p lim n calls k) e s
abbrev Qb (vals:List Int):List (Sim.Id×AO):=[((0,0,4),.arr false 1 (vals.map aa))]
def OC (p:List Qt)(lim:Int)(n:Nat):Prop:=∀(calls:List Int) (f:Nat) (args:List Int) (s:IS),(∃y,p[f]?=some y/\y.J0=0)->args.length=b_ p f->InV lim calls s->
 bd p lim n calls f (f+1) (eB (a_ p (f:Int)).length args) s≠.fuel->
 bh prog 96 [.r (.c (.ptr (0,0,0) 0)),tI .i64 (f:Int),.r (.c (.t (.lst 1 (args.map aa))))] (Ml (0,0,1) (0,0,2) (0,0,3) p lim calls s 0)
  (tI .i64 (bd p lim n calls f (f+1) (eB (a_ p (f:Int)).length args) s).val) (Ml (1,0,1) (1,0,2) (1,0,3) p lim calls (bd p lim n calls f (f+1) (eB (a_ p (f:Int)).length args) s).st (bd p lim n calls f (f+1) (eB (a_ p (f:Int)).length args) s).code)
theorem Gk {p:List Qt}{locals:List (List UInt8)}{vals:List Int}{call:jm}:∀{es:List Ex} {s:IS} {c:Int} {s':IS},bG p locals vals call es s= .stop c s'->
  ∃(j:Nat) (a:Ex) (av:List Int) (s1:IS),es[j]?=some a/\bG p locals vals call (es.take j) s= .ok av s1/\evE p locals vals call a s1= .stop c s'
 | [],s,c,s',h=>by rw[bG]at h;cases h
 | b::es,s,c,s',h=>by
  rw[bG]at h
  cases h1:evE p locals vals call b s with
  | ok v s1=>
   rw[h1,Rr.bnd_ok]at h
   cases h2:bG p locals vals call es s1 with
   | ok vs s2=>rw[h2]at h;cases h
   | stop c2 s2=>
    rw[h2]at h;injection h with e1 e2;subst e1;subst e2;obtain⟨j,a,av,s3,q1,q2,q3⟩:=Gk h2
    exact⟨j+1,a,v::av,s3,by simpa using q1,by rw[s5,bG,h1,Rr.bnd_ok,q2];rfl,q3⟩
   | fuel=>rw[h2]at h;cases h
  | stop c2 s1=>
   rw[h1]at h;injection h with e1 e2;subst e1;subst e2
   exact⟨0,b,[],s,rfl,by rw[D1,bG],h1⟩
  | fuel=>rw[h1]at h;cases h
theorem BP {p:List Qt}{locals:List (List UInt8)}{vals:List Int}{call:jm}{es:List Ex}{s:IS}{av:List Int}{s':IS}(h:bG p locals vals call es s= .ok av s')(j:Nat):∃as1 s1,bG p locals vals call (es.take j) s= .ok as1 s1:=by
 cases h1:bG p locals vals call (es.take j) s with
 | ok as1 s1=>exact⟨_,_,rfl⟩
 | stop c s1=>rw[Jx h1]at h;cases h
 | fuel=>rw[JI h1]at h;cases h
theorem BA {p:List Qt}{locals:List (List UInt8)}{vals:List Int}{call:jm}{es:List Ex}{s:IS}{as1:List Int}{s1:IS}{j:Nat}{a:Ex}(h1:bG p locals vals call (es.take j) s= .ok as1 s1)(ha:es[j]?=some a){as2:List Int}{s2:IS}(h2:bG p locals vals call (es.take (j+1)) s= .ok as2 s2):
  ∃v,evE p locals vals call a s1= .ok v s2/\as2=as1++[v]:=by
 rw[JB s ha,h1,Rr.bnd_ok]at h2
 cases h3:evE p locals vals call a s1 with
 | ok v s3=>rw[h3,Rr.bnd_ok]at h2;injection h2 with e1 e2;subst e1;subst e2;exact⟨v,rfl,rfl⟩
 | stop c s3=>rw[h3]at h2;cases h2
 | fuel=>rw[h3]at h2;cases h2
def MG (p:List Qt)(lim:Int)(n:Nat)(e:Ex):Prop:=∀(calls:List Int) (f en k pos:Nat) (ln:Qt) (vals:List Int) (s:IS),e.ok->InF p f en k->p[k]?=some ln->iv ln.L0 pos e->Known p (a_ p (f:Int)) ln.L0->vals.length=(a_ p (f:Int)).length->InV lim calls s->
 oR p lim n calls f k vals e s≠.fuel->
 ∃x:Int,((∃v s',oR p lim n calls f k vals e s= .ok v s')->x=((pos+e.toks.length:Nat):Int))/\
 bh prog 175 [.r (.c (.ptr (0,0,0) 0)),tI .i64 (k:Int),tI .i64 (pos:Int),yd (a_ p (f:Int)),.r (.c (.own (0,0,4)))] (Ml (0,0,1) (0,0,2) (0,0,3) p lim calls s 0++Qb vals)
  (.tup [.c (.t (.int .i64 (oR p lim n calls f k vals e s).val)),.c (.t (.int .i64 x))]) (Ml (1,0,1) (1,0,2) (1,0,3) p lim calls (oR p lim n calls f k vals e s).st (oR p lim n calls f k vals e s).code++Qb vals)
theorem Fc {l:List Int}{k:Nat}(h:k<l.length):l[k]?=some (atL l k):=by obtain⟨x,hx⟩:=ae h;rw[atL,hx];rfl
theorem Gr {p:List Qt}(hp:PgOk p){k:Nat}{ln:Qt}(hk:p[k]?=some ln):ep ln.L0/\ln.J7.length<=1048576:=by obtain⟨h1,_,_,_,h5⟩:=dv (bk hp.small (c9 hk));exact⟨fun t ht=>by have:=h5 t ht;omega,h1⟩
theorem V11{p:Prop}(h:p:=by
 obtain⟨v,hv,rfl⟩:=BA Wu ha h2;have hxj:=hxt j;rw[Wu]at hxj;have hva:oR p lim n calls f k vals a sj= .ok v s2:=by show evE _ _ _ _ _ _=_;rw[hL];exact hv
 obtain⟨x,hx,g⟩:=hIH j a ha calls f en k (pos+1+(ao (es.take j)).length) ln vals sj (iD ho.2.2 ha) hI hk (kb TZ ha) Rn (by rw[hL];exact RP) (hV.ext hxj) (by rw[hva];exact fun e=>by cases e);have QZ:=pf Wu;rw[k0]at QZ;obtain rfl:=hx ⟨v,s2,hva⟩;rw[hva,hL]at g;dsimp only[Rr.val,Rr.st,Rr.code]at g;repeat' ((conv=>whnf);first|apply Wx|apply W6|apply oi|apply fi|intro h|exact Y6|refine e_ rfl ?_)
 refine cg (g) ?_;repeat' ((conv=>whnf);first|apply Wx|apply W6|apply oi|apply fi|intro h|exact Y6|refine e_ rfl ?_)
 all_goals try exact Q2
 conv=>whnf
 refine⟨⟨(j+1,aj++[v],s2),g_,h2⟩,?_,KD⟩;repeat' ((conv=>whnf);first|apply Wx|apply W6|apply oi|apply fi|intro h|exact Y9|refine e_ rfl ?_)
 all_goals exact⟨by simp[aa]⟩):p:=h
theorem V79{p:Prop}(h:p:=by
 dsimp only[Rr.val,Rr.st,Rr.code];repeat' ((conv=>whnf);first|apply Wx|apply W6|apply oi|apply fi|intro h|exact Y6|refine e_ rfl ?_)
 all_goals try exact Q3
 all_goals try exact⟨KW⟩):p:=h
theorem V101{p:Prop}(h:p:=by
 refine⟨.inl rfl,.inl rfl,.inl rfl,.inr ⟨_,_,rfl,rfl,rfl,?_⟩,trivial⟩
 intro q hq;simp only[AC.ids,d8,m8,or_false]at hq;subst hq;rfl):p:=h
theorem Q32{p:Prop}(h:p:=by exact⟨congrArg (Tr.int _) (by rw[c8 _ o_];simp[ao])⟩):p:=h
theorem EH {p:List Qt}(hp:PgOk p){lim:Int}{n:Nat}(hP:OC p lim n):∀(m:Nat) (e:Ex),e.toks.length<=m->MG p lim n e
 | 0,e,hn=>by have:=e.toks_pos;omega
 | m+1,.node t es,hn=>by
  intro calls f en k pos ln vals s ho hI hk hs Rn RP hV SX;obtain⟨Tz,Sp⟩:=Gr hp hk;have P6:=gj hs;obtain⟨ht,TZ⟩:=ip hs;have htm:=c9 ht;obtain⟨e1,e2⟩:=rg ho.1;have QP:es.length=ar t:=ho.2.1;have hA:=kO t (Tz t htm);rw[e1,<-QP]at hA;have SA:=hp.len;have RZ:=(hp.line _ _ hk).2.2.2.1;have QV:=aE hk;rw[Ex.toks,d6]at hn P6;have hlp:=hV.lm;have hIH:∀(j:Nat) (a:Ex),es[j]?=some a->MG p lim n a:=fun j a ha=>EH hp hP m a (by have:=jw ha;omega);have hL8:(a_ p (f:Int)).length<=8:=by obtain⟨y,hy,h0⟩:=hI.fn;obtain⟨_,_,h8,_⟩:=hp.fn f y hy h0;exact h8
  obtain⟨L,hL⟩:∃L,a_ p (f:Int)=L:=⟨_,rfl⟩;rw[hL]at hL8 RP
  have RS:oR p lim n calls f k vals (.node t es) s=(bG p L vals (bE p lim n calls k) es s).bnd fun av s'=>iU p L vals (bE p lim n calls k) t av s':=by show evE _ _ _ _ _ _=_;rw[evE,hL]
  have hxt:∀j,ExtR lim s (bG p L vals (bE p lim n calls k) (es.take j) s):=fun j=>po (kU n calls k) _ s;rw[RS]at SX⊢
  cases hR:bG p L vals (bE p lim n calls k) es s with
  | fuel=>rw[hR]at SX;exact absurd rfl SX
  | stop c s1=>
   obtain⟨j0,a0,as0,s0,q1,q2,q3⟩:=Gk hR;have ZZ:=aE q1;have S5:=hxt j0;rw[q2]at S5;have hq3:oR p lim n calls f k vals a0 s0= .stop c s1:=(by show evE _ _ _ _ _ _=_;rw[hL];exact q3);obtain⟨x0,_,g0⟩:=hIH j0 a0 q1 calls f en k (pos+1+(ao (es.take j0)).length) ln vals s0 (iD ho.2.2 q1) hI hk (kb TZ q1) Rn (by rw[hL];exact RP) (hV.ext S5) (by rw[hq3];exact fun e=>by cases e);rw[hq3,hL]at g0;refine⟨x0,(fun⟨v,s',h⟩=>by cases h),?_⟩;rw[Rr.bnd_stop];dsimp only[Rr.val,Rr.st,Rr.code]at g0⊢;have Ro:c=1\/c=2:=(by have:=po (p:=p) (locals:=L) (vals:=vals) (kU (p:=p) (lim:=lim) n calls k) es s;rw[hR]at this;exact this.2);refine ax hΓ aF func175 rfl d_ rfl rfl ?_;rw[hL];repeat' ((conv=>whnf);first|apply Wx|apply W6|apply oi|apply fi|intro h|refine⟨k,ln.tr,rfl,ab hk,?_⟩|refine⟨pos,t.tr,rfl,ab ht,?_⟩|refine cl hA ?_|exact Y8|refine e_ rfl ?_)
   have hz:bG p L vals (bE p lim n calls k) (es.take 0) s= .ok [] s:=(by rw[D1,bG]);conv=>whnf
   refine⟨{q:Nat×List Int×IS//q.1<=j0/\bG p L vals (bE p lim n calls k) (es.take q.1) s= .ok q.2.1 q.2.2},fun q=>⟨[(0,.r (.c (.ptr (0,0,0) 0))),(1,tI .i64 (k:Int)),(2,tI .i64 ((pos+1+(ao (es.take q.1.1)).length:Nat):Int)),(3,yd L),(4,.r (.c (.own (0,0,4)))),(12,.r (.c (.ptr (12,0,0) 0))),(13,.r (.c (.own (31,0,0)))),(14,tI .i64 ((es.length-q.1.1:Nat):Int))],
    [((0,0,0),some (.box [.t (.lst 4 (p.map Qt.tr)),.t (.int .i64 lim),.own (12,0,1),.own (12,0,2),.t (.int .i64 0),.t (.int .i64 0),.own (12,0,3)])),((12,0,1),some (.arr false 1 (q.1.2.2.out.map aa))),((12,0,2),some (.dar 1 (aw (q.1.2.2.J2.map kz)) none)),((12,0,3),some (.arr false 1 (calls.map aa))),((0,0,4),some (.arr false 1 (vals.map aa))),((12,0,0),some (.box (t.tr.map .t))),((31,0,0),some (.arr true 1 (q.1.2.1.map aa)))],[31,12,0]⟩,fun q=>es.length-q.1.1,⟨(0,[],s),v9 _,hz⟩,?_,?_⟩
   ·repeat' ((conv=>whnf);first|apply Wx|apply W6|apply oi|apply fi|intro h|exact Y8|refine e_ rfl ?_)
    all_goals try exact Q32
    all_goals try exact Q15
   intro⟨⟨j,aj,sj⟩,hj,Wu⟩;dsimp only at hj Wu⊢;obtain⟨a,ha⟩:=ae (l:=es) (k:=j) o_;have hta:=fA ha;have Wj:=cV es j;by_cases Xs:j<j0
   ·obtain⟨a2,s2,h2⟩:=BP q2 (j+1);rw[G2,z7 o_]at h2;exact V11
   ·obtain rfl:j=j0:=o_;rw[Wu]at q2;injection q2 with q2 q4;subst q2;subst q4;repeat' ((conv=>whnf);first|apply Wx|apply W6|apply oi|apply fi|intro h|exact Y6|refine e_ rfl ?_)
    refine cg (g0) ?_;repeat' ((conv=>whnf);first|apply Wx|apply W6|apply oi|apply fi|intro h|exact Y6|refine e_ rfl ?_)
    all_goals try exact Q9
  | ok av s1=>
   rw[hR,Rr.bnd_ok]at SX;rw[Rr.bnd_ok];have hxR:=hxt es.length;rw[A3,hR]at hxR;have YI:=hV.ext hxR;have U8:=pf hR;refine⟨((pos+(Ex.node t es).toks.length:Nat):Int),fun _=>rfl,?_⟩;refine ax hΓ aF func175 rfl d_ rfl rfl ?_;rw[hL];have hT:(Ex.node t es).toks.length=(ao es).length+1:=(by rw[Ex.toks,d6]);rw[hT];repeat' ((conv=>whnf);first|apply Wx|apply W6|apply oi|apply fi|intro h|refine⟨k,ln.tr,rfl,ab hk,?_⟩|refine⟨pos,t.tr,rfl,ab ht,?_⟩|refine cl hA ?_|exact Y8|refine e_ rfl ?_)
   have hz:bG p L vals (bE p lim n calls k) (es.take 0) s= .ok [] s:=(by rw[D1,bG]);conv=>whnf
   refine⟨{q:Nat×List Int×IS//q.1<=es.length/\bG p L vals (bE p lim n calls k) (es.take q.1) s= .ok q.2.1 q.2.2},fun q=>⟨[(0,.r (.c (.ptr (0,0,0) 0))),(1,tI .i64 (k:Int)),(2,tI .i64 ((pos+1+(ao (es.take q.1.1)).length:Nat):Int)),(3,yd L),(4,.r (.c (.own (0,0,4)))),(12,.r (.c (.ptr (12,0,0) 0))),(13,.r (.c (.own (31,0,0)))),(14,tI .i64 ((es.length-q.1.1:Nat):Int))],
    [((0,0,0),some (.box [.t (.lst 4 (p.map Qt.tr)),.t (.int .i64 lim),.own (12,0,1),.own (12,0,2),.t (.int .i64 0),.t (.int .i64 0),.own (12,0,3)])),((12,0,1),some (.arr false 1 (q.1.2.2.out.map aa))),((12,0,2),some (.dar 1 (aw (q.1.2.2.J2.map kz)) none)),((12,0,3),some (.arr false 1 (calls.map aa))),((0,0,4),some (.arr false 1 (vals.map aa))),((12,0,0),some (.box (t.tr.map .t))),((31,0,0),some (.arr true 1 (q.1.2.1.map aa)))],[31,12,0]⟩,fun q=>es.length-q.1.1,⟨(0,[],s),v9 _,hz⟩,?_,?_⟩
   ·repeat' ((conv=>whnf);first|apply Wx|apply W6|apply oi|apply fi|intro h|exact Y8|refine e_ rfl ?_)
    all_goals try exact Q32
    all_goals try exact Q15
   intro⟨⟨j,aj,sj⟩,hj,Wu⟩;dsimp only at hj Wu⊢;have Wj:=cV es j;by_cases Xs:j<es.length
   ·obtain⟨a,ha⟩:=ae Xs;have hta:=fA ha;obtain⟨a2,s2,h2⟩:=BP hR (j+1);exact V11
   ·obtain rfl:j=es.length:=o_;rw[A3]at Wu⊢;rw[hR]at Wu;injection Wu with e3 e4;subst e3;subst e4;obtain⟨ak0,ak7,ak2⟩:=xS ho.1;rcases qs ho.1 with h0|h1|h7|h2
    ·have hf:iU p L vals (bE p lim n calls k) t av s1= .ok t.M1 s1:=(by rw[iU,b9 h0]);rw[hf];exact V79
    ·obtain⟨i,hi⟩:=Rn.var t htm h1;rw[hL]at hi;have S3:=jp hi;have hIx:=er L t.J7 o_;rw[show cN L t.J7=(i:Int) by rw[cN,hi];rfl]at hIx;have hvi:vals[i]?=some (atL vals i):=Fc (by rw[RP];omega);have hgv:(vals.map aa)[i]?=some (aa (atL vals i)):=(by rw[j9,hvi];rfl);have Rw:i<(vals.map aa).length:=(by rw[d9,RP];omega);have hf:iU p L vals (bE p lim n calls k) t av s1= .ok (atL vals i) s1:=(by rw[iU,b8 o_,b9 h1,Mf,hi]);rw[hf];dsimp only[Rr.val,Rr.st,Rr.code];repeat' ((conv=>whnf);first|apply Wx|apply W6|apply oi|apply fi|intro h|refine cl hIx ?_|refine⟨i,rfl,Rw,?_⟩|refine⟨_,hgv,?_⟩|exact Y6|refine e_ rfl ?_)
     all_goals try exact Q3
     all_goals try exact Q15
    ·obtain⟨g,UP,XL⟩:=Rn.call t htm h7;have hFF:=dJ p t.J7 o_;rw[show fS p t.J7=(g:Int) by rw[fS,UP];rfl]at hFF;obtain⟨X9,y,hy,RF,_⟩:=dR UP;have hf:iU p L vals (bE p lim n calls k) t av s1=bE p lim n calls k g av s1:=(by rw[iU,b8 o_,b8 o_,b9 h7,UP];rfl);rw[hf]at SX⊢;have QK:(calls.map aa).length=calls.length:=s_;by_cases h6:calls.length=6
     ·have YC:bE p lim n calls k g av s1= .stop 2 s1:=(by rw[bE,b9 h6]);rw[YC];exact V79
     ·have YC:bE p lim n calls k g av s1=bd p lim n (calls++[(k:Int)]) g (g+1) (eB (a_ p (g:Int)).length av) s1:=(by rw[bE,b8 h6]);rw[YC]at SX⊢;have Rt:=YI.calls;have gp:=hP (calls++[(k:Int)]) g av s1 ⟨y,hy,RF⟩ (by have:=ak7 h7;omega) ⟨YI.lm,YI.vis,YI.out,by rw[c7];simp;omega⟩ SX
      generalize bd p lim n (calls++[(k:Int)]) g (g+1) (eB (a_ p (g:Int)).length av) s1=R at *
      repeat' ((conv=>whnf);first|(with_reducible apply W1;fail_if_success (with_reducible show Wo _ _ _ _ (Code.region 22 _ _) _ _))|(with_reducible first|apply W2|apply W3|apply W4|apply W5|apply W6|apply W7|apply W8|apply W9)|apply au|apply oi|apply fi|intro h|exact Y6|refine e_ rfl ?_)
      all_goals try(exfalso;rw[QK]at h;simp at h;omega)
      all_goals try exact Q3
      all_goals try exact Q2
      all_goals try exact⟨dh _⟩
      conv=>whnf
      refine kX ⟨[(0,.r (.c (.ptr (0,0,0) 0))),(2,tI .i64 ((pos+1+(ao es).length:Nat):Int)),(12,.r (.c (.ptr (12,0,0) 0))),(13,.r (.c (.t (.lst 1 (av.map aa)))))],
       [((0,0,0),some (.box [.t (.lst 4 (p.map Qt.tr)),.t (.int .i64 lim),.own (12,0,1),.own (12,0,2),.t (.int .i64 0),.t (.int .i64 0),.own (96,0,0)])),((96,0,0),some (.arr false 1 (calls.map aa++[[.int .i64 (k:Int)]]))),((12,0,1),some (.arr false 1 (s1.out.map aa))),((12,0,2),some (.dar 1 (aw (s1.J2.map kz)) none)),((0,0,4),some (.arr false 1 (vals.map aa))),((12,0,0),some (.box (t.tr.map .t)))],[96,95,31,12,0]⟩ ?_ ?_ rfl ?_
      ·exact V101
      ·exact⟨.inr rfl,.inr rfl,.inr rfl,.inr rfl,.inr rfl,.inr rfl,trivial⟩
      have ec:(calls++[(k:Int)]).map aa=calls.map aa++[[.int .i64 (k:Int)]]:=(by simp[aa]);simp only[Ml,JS]at gp;rw[ec]at gp;have YS:(calls.map aa++[[Tr.int .i64 (k:Int)]]).length=calls.length+1:=s_;have Sr:IntKind.i64.wrap (((calls.map aa++[[Tr.int .i64 (k:Int)]]).length:Int)-1)=(calls.length:Int):=(by rw[YS,c8 _ o_];omega);repeat' ((conv=>whnf);first|apply Wx|apply W6|apply oi|apply fi|intro h|refine cl hFF ?_|exact Y8|refine e_ rfl ?_)
      have ZT:calls.length<=(calls.map aa++[[Tr.int .i64 (k:Int)]]).length:=o_;have aci:(calls.map aa++[[Tr.int .i64 (k:Int)]]).take calls.length=calls.map aa:=(by rw[x6 s_,gt s_]);refine cg (gp) ?_;repeat' ((conv=>whnf);first|apply Wx|apply W6|apply oi|apply fi|intro h|refine⟨calls.length,Sr,ZT,?_⟩|exact Y9|refine e_ rfl ?_)
      all_goals try exact⟨aci⟩
      all_goals exact⟨ZT⟩
    ·have WV:=ak2 h2.1 h2.2
     obtain⟨x,y,rfl⟩:∃x y,av=[x,y]:=by match av,U8 with|[x,y],_=>exact⟨x,y,rfl⟩|[],h=>simp at h;omega|[_],h=>simp at h;omega|_::_::_::_,h=>simp at h;omega
     have YG:=sZ t.J0 x y;have hf:iU p L vals (bE p lim n calls k) t [x,y] s1= .ok (cG t.J0 x y) s1:=(by rw[iU,b8 o_,b8 o_,b8 o_];rfl);rw[hf];dsimp only[Rr.val,Rr.st,Rr.code];repeat' ((conv=>whnf);first|apply Wx|apply W6|apply oi|apply fi|intro h|refine cl YG ?_|refine⟨0,rfl,s_,?_⟩|refine⟨1,rfl,s_,?_⟩|exact Y6|refine e_ rfl ?_)
     all_goals try exact Q3
     all_goals try exact Q15
theorem An {α:Type}(l:List α):l=[]\/∃W w,l=W++[w]:=by
 rcases List.eq_nil_or_concat l with h|⟨W,w,h⟩
 ·exact .inl h
 ·exact .inr ⟨W,w,by rw[h];simp⟩
theorem LG {p:List Qt}(hp:PgOk p)(Si:ak p=true){lim:Int}:∀n,OC p lim n:=by
 intro n
 induction n using Nat.strongRecOn with
 | ind n ihn=>
  intro calls f args s hf QZ hV SX;have hEv:∀m,m<n->∀e,MG p lim m e:=fun m hm e=>EH hp (ihn m hm) e.toks.length e (d7 _);obtain⟨en,UN⟩:=InF.start hp hf;have SA:=hp.len;obtain⟨y,hy,RF⟩:=hf;obtain⟨e',Rd,hL8,hAL,_⟩:=hp.fn f y hy RF;rw[UN.en]at Rd;injection Rd with Rd;subst Rd;obtain⟨_,_,_,_,Xf,QP⟩:=aI UN.en;have hA:b_ p f=y.L3.length:=by rw[b_,hy]
  have h4:=(hp.line f y hy).2.2.1;have Zk:=ic p (f:Int) o_ (fun z hz=>bk hp.small hz);have Wh:=bW p (f:Int) o_;rw[show bA p (f:Int)=(en:Int) by rw[bc];exact aU UN.en]at Wh;have TM:=DP UN;obtain⟨L,hL⟩:∃L,a_ p (f:Int)=L:=⟨_,rfl⟩;have hKn:=fun{k:Nat} {ln:Qt} (hI:InF p f en k) (hk:p[k]?=some ln) (QI:k<en)=>Ev Si hI hk QI;rw[hL]at hL8 hAL Zk SX⊢;obtain⟨R,hR⟩:∃R,bd p lim n calls f (f+1) (eB L.length args) s=R:=⟨_,rfl⟩;rw[hR]at SX⊢;have RW:(args.map aa).length=args.length:=s_;refine ax hΓ aF func96 rfl d_ rfl rfl ?_;repeat' ((conv=>whnf);first|(with_reducible apply W1;fail_if_success (with_reducible show Wo _ _ _ _ (Code.region 2 _ _) _ _))|(with_reducible first|apply W2|apply W3|apply W4|apply W5|apply W6|apply W7|apply W8|apply W9)|apply au|apply oi|apply fi|intro h|refine cl Zk ?_|exact Y8|refine e_ rfl ?_)
  conv=>whnf
  refine kX ⟨[(0,.r (.c (.ptr (0,0,0) 0))),(1,tI .i64 (f:Int)),(2,.r (.c (.t (.lst 1 (args.map aa))))),(7,yd L)],
   [((0,0,0),some (.box [.t (.lst 4 (p.map Qt.tr)),.t (.int .i64 lim),.own (0,0,1),.own (0,0,2),.t (.int .i64 0),.t (.int .i64 0),.own (0,0,3)])),((0,0,1),some (.arr false 1 (s.out.map aa))),((0,0,2),some (.dar 1 (aw (s.J2.map kz)) none)),((0,0,3),some (.arr false 1 (calls.map aa)))],[21,0]⟩ ?_ ?_ rfl ?_
  ·exact V101
  ·exact⟨.inr rfl,.inr rfl,.inr rfl,.inr rfl,trivial⟩
  repeat' ((conv=>whnf);first|apply Wx|apply W6|apply oi|apply fi|intro h|exact Y8|refine e_ rfl ?_)
  all_goals try exact⟨by simpa using dh args⟩
  all_goals try exact Q2
  conv=>whnf
  refine⟨{j:Nat//j<=L.length-args.length},fun j=>⟨[(0,.r (.c (.ptr (0,0,0) 0))),(1,tI .i64 (f:Int)),(7,yd L),(8,.r (.c (.own (22,0,0))))],
   [((0,0,0),some (.box [.t (.lst 4 (p.map Qt.tr)),.t (.int .i64 lim),.own (0,0,1),.own (0,0,2),.t (.int .i64 0),.t (.int .i64 0),.own (0,0,3)])),((0,0,1),some (.arr false 1 (s.out.map aa))),((0,0,2),some (.dar 1 (aw (s.J2.map kz)) none)),((0,0,3),some (.arr false 1 (calls.map aa))),((22,0,0),some (.arr false 1 ((args++List.replicate j.1 0).map aa)))],[22,21,0]⟩,fun j=>L.length-j.1,⟨0,o_⟩,?_,?_⟩
  ·repeat' ((conv=>whnf);first|apply Wx|apply W6|apply oi|apply fi|intro h|exact Y9|refine e_ rfl ?_)
   all_goals try exact⟨s_⟩
  intro⟨j,hj⟩;dsimp only;have Q0:((args++List.replicate j 0).map aa).length=args.length+j:=s_;have Sk:(L.map ah).length=L.length:=s_;by_cases agf:j<L.length-args.length
  ·repeat' ((conv=>whnf);first|apply Wx|apply W6|apply oi|apply fi|intro h|exact Y8|refine e_ rfl ?_)
   all_goals try(exfalso;rw[Q0,Sk]at h;simp at h;omega)
   all_goals try exact⟨⟨by rw[Q0];simp<;>omega,by rw[Q0];simp<;>omega⟩⟩
   conv=>whnf
   refine⟨⟨j+1,o_⟩,?_,KD⟩;repeat' ((conv=>whnf);first|apply Wx|apply W6|apply oi|apply fi|intro h|exact Y8|refine e_ rfl ?_)
   all_goals exact⟨by rw[List.replicate_succ'];simp[aa]⟩
  ·repeat' ((conv=>whnf);first|apply Wx|apply W6|apply oi|apply fi|intro h|refine cl Wh ?_|exact Y8|refine e_ rfl ?_)
   all_goals try(exfalso;rw[Q0,Sk]at h;simp at h;omega)
   have VE:args++List.replicate j 0=eB L.length args:=(by rw[eB,show j=L.length-args.length by omega]);rw[VE];have Se:(eB L.length args).length=L.length:=by rw[eB,c7,E0];omega
   generalize eB L.length args=V0 at *
   conv=>whnf
   refine⟨{q:Nat×Nat×List Int×IS//q.1<=n/\InF p f en q.2.1/\q.2.2.1.length=L.length/\InV lim calls q.2.2.2/\bd p lim q.1 calls f q.2.1 q.2.2.1 q.2.2.2=R},fun q=>⟨[(0,.r (.c (.ptr (0,0,0) 0))),(1,tI .i64 (f:Int)),(7,yd L),(8,.r (.c (.own (22,0,0)))),(9,tI .i64 (en:Int)),(10,.r (.c (.own (39,0,0)))),(11,tI .i64 (q.1.2.1:Int))],
    [((0,0,0),some (.box [.t (.lst 4 (p.map Qt.tr)),.t (.int .i64 lim),.own (22,0,1),.own (22,0,2),.t (.int .i64 0),.t (.int .i64 0),.own (22,0,3)])),((22,0,1),some (.arr false 1 (q.1.2.2.2.out.map aa))),((22,0,2),some (.dar 1 (aw (q.1.2.2.2.J2.map kz)) none)),((22,0,3),some (.arr false 1 (calls.map aa))),((22,0,0),some (.arr false 1 (q.1.2.2.1.map aa))),((39,0,0),some (.arr true 1 ((aT p f q.1.2.1).map fun i:Nat=>aa (i:Int))))],[39,22,21,0]⟩,fun q=>q.1.1,⟨(n,f+1,V0,s),d7 _,UN,Se,hV,hR⟩,?_,?_⟩
   ·repeat' ((conv=>whnf);first|apply Wx|apply W6|apply oi|apply fi|intro h|exact Y9|refine e_ rfl ?_)
    all_goals try exact⟨by rw[TM];rfl⟩
   intro⟨⟨m,k,vals,sk⟩,hm,hI,RP,Ww,Ri⟩;dsimp only at hm hI RP Ww Ri⊢
   match m,hm,Ri with
   | 0,_,Ri=>exact absurd Ri.symm SX
   | m+1,hm,Ri=>
   obtain⟨ln,hk,Rh,TX,QI⟩:=hI.line hp;by_cases QV:k<en
   ·obtain⟨kd,nm,ag,ex⟩:=ln;dsimp only at Rh TX QI;have P9:p[k]?=some ⟨kd,nm,ag,ex⟩:=hk;have hvm:(vals.map aa).length=vals.length:=s_;rcases(show kd=7\/kd=4\/(kd≠7/\kd≠4) by omega)with rfl|rfl|⟨h7,Uv⟩
    ·obtain⟨ho,h|⟨q1,q2,q3,y2,Zd,q4⟩⟩:=hI.own7 hp hk rfl
     ·omega
     rw[dw hk rfl,b8 o_,aL Zd]at Ri
     generalize f_ p k=o at *
     by_cases h5:y2.J0=5
     ·rw[b9 h5]at Ri;rw[Hl hI.lo ho q2 Zd h5,q8];have hwl:=sl p f o;have Su:((aT p f o).map (fun i:Nat=>aa (i:Int))++[o].map fun i:Nat=>aa (i:Int)).length=(aT p f o).length+1:=s_;have hw:IntKind.i64.wrap ((((aT p f o).map (fun i:Nat=>aa (i:Int))++[o].map fun i:Nat=>aa (i:Int)).length:Int)-1)=((aT p f o).length:Int):=(by rw[Su,c8 _ o_];omega);have O4:(aT p f o).length<((aT p f o).map (fun i:Nat=>aa (i:Int))++[o].map fun i:Nat=>aa (i:Int)).length:=o_;have WQ:((aT p f o).map (fun i:Nat=>aa (i:Int))++[o].map fun i:Nat=>aa (i:Int))[(aT p f o).length]?=some (aa (o:Int)):=s_;have Wj:((aT p f o).map (fun i:Nat=>aa (i:Int))++[o].map fun i:Nat=>aa (i:Int)).take (aT p f o).length=(aT p f o).map fun i:Nat=>aa (i:Int):=(by rw[x6 s_,gt s_]);have hEo:=bW p (o:Int) o_;rw[show bA p (o:Int)=(k:Int) by rw[bc];exact aU ho]at hEo;have Vg:(aT p f o).length<=((aT p f o).map (fun i:Nat=>aa (i:Int))++[o].map fun i:Nat=>aa (i:Int)).length:=o_;repeat' ((conv=>whnf);first|apply Wx|apply W6|apply oi|apply fi|intro h|refine⟨k,(Qt.tr ⟨7,nm,ag,ex⟩),rfl,ab hk,?_⟩|refine cl hEo ?_|refine⟨(aT p f o).length,hw,O4,?_⟩|refine⟨_,WQ,?_⟩|refine⟨(aT p f o).length,hw,Vg,?_⟩|exact Y6|refine e_ rfl ?_)
      all_goals try exact Q6
      conv=>whnf
      refine⟨⟨(m,o,vals,sk),g_,hI.at q2 g_,RP,Ww,Ri⟩,?_,KD⟩;repeat' ((conv=>whnf);first|apply Wx|apply W6|apply oi|apply fi|intro h|exact Y9|refine e_ rfl ?_)
      all_goals try exact⟨Wj⟩
      all_goals exact⟨Vg⟩
     ·rw[b8 h5]at Ri;obtain⟨RI,Sr⟩:=Kq hk rfl ho Zd o_;have hwl:=sl p f k;rcases An (aT p f k)with hn|⟨W,w,Uu⟩
      ·rw[hn];rw[hn]at RI;repeat' ((conv=>whnf);first|apply Wx|apply W6|apply oi|apply fi|intro h|refine⟨k,(Qt.tr ⟨7,nm,ag,ex⟩),rfl,ab hk,?_⟩|exact Y6|refine e_ rfl ?_)
       conv=>whnf
       refine⟨⟨(m,k+1,vals,sk),g_,hI.at aag g_,RP,Ww,Ri⟩,?_,KD⟩;repeat' ((conv=>whnf);first|apply Wx|apply W6|apply oi|apply fi|intro h|exact Y9|refine e_ rfl ?_)
       all_goals exact⟨by dsimp only;rw[RI]⟩
      ·have Zv:w∈aT p f k:=(by rw[Uu];simp);have hwk:=Sr w Zv;obtain⟨_,_,_,ew,hew,_⟩:=zP Zv;have hEw:=bW p (w:Int) o_;rw[show bA p (w:Int)=(ew:Int) by rw[bc];exact aU hew]at hEw;have P2:ew≠k:=fun e=>hwk (by rw[hew,e]);rw[Uu,q8];rw[Uu]at RI hwl;rw[c7,d6,e8]at hwl;have Su:(W.map (fun i:Nat=>aa (i:Int))++[w].map fun i:Nat=>aa (i:Int)).length=W.length+1:=s_;have hw:IntKind.i64.wrap (((W.map (fun i:Nat=>aa (i:Int))++[w].map fun i:Nat=>aa (i:Int)).length:Int)-1)=(W.length:Int):=(by rw[Su,c8 _ o_];omega);have O4:W.length<(W.map (fun i:Nat=>aa (i:Int))++[w].map fun i:Nat=>aa (i:Int)).length:=o_;have WQ:(W.map (fun i:Nat=>aa (i:Int))++[w].map fun i:Nat=>aa (i:Int))[W.length]?=some (aa (w:Int)):=s_;repeat' ((conv=>whnf);first|apply Wx|apply W6|apply oi|apply fi|intro h|refine⟨k,(Qt.tr ⟨7,nm,ag,ex⟩),rfl,ab hk,?_⟩|refine cl hEw ?_|refine⟨W.length,hw,O4,?_⟩|refine⟨_,WQ,?_⟩|exact Y6|refine e_ rfl ?_)
       all_goals try exact Q9
       all_goals try(exfalso;rw[Su]at h;simp at h;omega)
       conv=>whnf
       refine⟨⟨(m,k+1,vals,sk),g_,hI.at aag g_,RP,Ww,Ri⟩,?_,KD⟩;repeat' ((conv=>whnf);first|apply Wx|apply W6|apply oi|apply fi|intro h|exact Y9|refine e_ rfl ?_)
       all_goals exact⟨by dsimp only;rw[RI,q8]⟩
    ·have Xy:=hI.elseNext hp hk rfl;obtain⟨q1,q2,q3,q4⟩:=hI.own4 hp hk rfl;have hwe:=GH hp hI hk rfl;rw[eA hk rfl]at Ri;have hEo:=bW p (f_ p k:Int) o_;obtain⟨x3,e3,hx3,af8,Z9,_,_,_⟩:=aP q1;have hE3:dq p (f_ p k)=e3:=(by rw[dq,Z9];rfl);rw[show bA p (f_ p k:Int)=(e3:Int) by rw[bc];exact aU Z9]at hEo;rw[hE3]at Xy hwe Ri;have Rz:∀i,i_ p i=some k->i=f_ p k:=fun i h=>lG h q1
     generalize f_ p k=o at *
     have h7e:∀i,i_ p i≠some e3:=fun i h=>by
      obtain⟨_,_,_,_,_,_,_,z,hz,h4z⟩:=aP h;obtain⟨z2,hz2,h7z⟩:=bn Z9;rw[hz]at hz2;injection hz2 with hz2;subst hz2;omega
     have UU:=fun i:Nat=>gR p (i:Int) o_;repeat' ((conv=>whnf);first|apply Wx|apply W6|apply oi|apply fi|intro h|refine⟨k,(Qt.tr ⟨4,nm,ag,ex⟩),rfl,ab hk,?_⟩|exact Y6|refine e_ rfl ?_)
     conv=>whnf
     refine⟨{i:Nat//f<=i/\i<=e3},fun i=>⟨[(0,.r (.c (.ptr (0,0,0) 0))),(1,tI .i64 (f:Int)),(7,yd L),(8,.r (.c (.own (22,0,0)))),(9,tI .i64 (en:Int)),(10,.r (.c (.own (39,0,0)))),(11,tI .i64 ((if o<i.1 then e3 else k:Nat):Int)),(13,tI .i64 (i.1:Int))],
      [((0,0,0),some (.box [.t (.lst 4 (p.map Qt.tr)),.t (.int .i64 lim),.own (22,0,1),.own (22,0,2),.t (.int .i64 0),.t (.int .i64 0),.own (22,0,3)])),((22,0,1),some (.arr false 1 (sk.out.map aa))),((22,0,2),some (.dar 1 (aw (sk.J2.map kz)) none)),((22,0,3),some (.arr false 1 (calls.map aa))),((22,0,0),some (.arr false 1 (vals.map aa))),((39,0,0),some (.arr true 1 ((aT p f k).map fun i:Nat=>aa (i:Int))))],[39,22,21,0]⟩,fun i=>e3-i.1,⟨f,o_,o_⟩,?_,?_⟩
     ·repeat' ((conv=>whnf);first|apply Wx|apply W6|apply oi|apply fi|intro h|exact Y9|refine e_ rfl ?_)
      all_goals exact⟨by dsimp only;rw[b8 o_]⟩
     intro⟨i,UJ,UX⟩;dsimp only;have hEi:=UU i;by_cases S4:o<i
     ·rw[b9 S4];by_cases Sv:i<e3
      ·have hv:bi p (i:Int)≠(e3:Int):=fun h=>by
        rw[bZ]at h
        cases hx:i_ p i with|none=>rw[hx]at h;simp[cn]at h|some j=>rw[hx]at h;simp only[cn]at h;exact h7e i (by rw[hx];congr 1;omega)
       generalize bi p (i:Int)=ev at *
       repeat' ((conv=>whnf);first|apply Wx|apply W6|apply oi|apply fi|intro h|refine cl hEi ?_|exact Y6|refine e_ rfl ?_)
       all_goals try(exfalso;simp at h;exact hv h)
       conv=>whnf
       refine⟨⟨i+1,o_,o_⟩,?_,KD⟩;repeat' ((conv=>whnf);first|apply Wx|apply W6|apply oi|apply fi|intro h|exact Y9|refine e_ rfl ?_)
       all_goals exact⟨by dsimp only;rw[b9 o_]⟩
      ·have VS:i=e3:=o_;subst VS;repeat' ((conv=>whnf);first|apply Wx|apply W6|apply oi|apply fi|intro h|exact Y6|refine e_ rfl ?_)
       conv=>whnf
       refine⟨⟨(m,i+1,vals,sk),g_,hI.at aag g_,RP,Ww,Ri⟩,?_,KD⟩;repeat' ((conv=>whnf);first|apply Wx|apply W6|apply oi|apply fi|intro h|exact Y9|refine e_ rfl ?_)
       all_goals exact⟨by dsimp only;rw[hwe]⟩
     ·rw[b8 S4];by_cases Sv:i=o
      ·subst Sv;rw[show bi p (i:Int)=(k:Int) by rw[bZ,q1];rfl]at hEi;repeat' ((conv=>whnf);first|apply Wx|apply W6|apply oi|apply fi|intro h|refine cl hEi ?_|refine cl hEo ?_|exact Y6|refine e_ rfl ?_)
       all_goals try exact Q6
       conv=>whnf
       refine⟨⟨i+1,o_,o_⟩,?_,KD⟩;repeat' ((conv=>whnf);first|apply Wx|apply W6|apply oi|apply fi|intro h|exact Y9|refine e_ rfl ?_)
       all_goals exact⟨by dsimp only;rw[b9 o_]⟩
      ·have hv:bi p (i:Int)≠(k:Int):=fun h=>by
        rw[bZ]at h
        cases hx:i_ p i with|none=>rw[hx]at h;simp[cn]at h|some j=>rw[hx]at h;simp only[cn]at h;exact Sv (Rz i (by rw[hx];congr 1;omega))
       generalize bi p (i:Int)=ev at *
       repeat' ((conv=>whnf);first|apply Wx|apply W6|apply oi|apply fi|intro h|refine cl hEi ?_|exact Y6|refine e_ rfl ?_)
       all_goals try(exfalso;simp at h;exact hv h)
       conv=>whnf
       refine⟨⟨i+1,o_,o_⟩,?_,KD⟩;repeat' ((conv=>whnf);first|apply Wx|apply W6|apply oi|apply fi|intro h|exact Y9|refine e_ rfl ?_)
       all_goals exact⟨by dsimp only;rw[b8 o_]⟩
    ·have Zn:kd=1\/kd=2\/kd=3\/kd=5\/kd=6:=o_;have hvn:sk.J2.length<=1000:=(by have:=Ww.vis;have:=Ww.lm;omega);by_cases SK:(sk.J2.length:Int)=lim
     ·rw[eu hk h7 Uv SK]at Ri;subst Ri;dsimp only[Rr.val,Rr.st,Rr.code];have gv:=sU p lim (k:Int) ⟨sk.out,sk.J2,0,0,calls⟩ SK;rcases Zn with rfl|rfl|rfl|rfl|rfl
      all_goals(
       repeat' ((conv=>whnf);first|apply Wx|apply W6|apply oi|apply fi|intro h|refine⟨k,(Qt.tr ⟨_,nm,ag,ex⟩),rfl,ab hk,?_⟩|exact Y6|refine e_ rfl ?_)
       refine cg (gv) ?_;repeat' ((conv=>whnf);first|apply Wx|apply W6|apply oi|apply fi|intro h|exact Y8|refine e_ rfl ?_)
       skip)
     ·rw[eR hk h7 Uv SK]at Ri;have gv:=DH p lim (k:Int) ⟨sk.out,sk.J2,0,0,calls⟩ hvn Ww.calls SK;obtain⟨hxo,e1,e2,e3⟩:=hI.known hp hk h7 Uv;obtain⟨Rn,SF⟩:=hKn hI hk QV;have YI:InV lim calls ⟨sk.out,sk.J2++[calls++[(k:Int)]]⟩:=Ww.ext (qy SK _);dsimp only at Ri hxo e1 e2 Rn SF;obtain⟨E,hE⟩:∃E,oR p lim m calls f k vals (exL ex) ⟨sk.out,sk.J2++[calls++[(k:Int)]]⟩=E:=⟨_,rfl⟩;have Xd:=tP (p:=p) (locals:=a_ p (f:Int)) (vals:=vals) (kU (p:=p) (lim:=lim) m calls k) (exL ex) ⟨sk.out,sk.J2++[calls++[(k:Int)]]⟩;rw[show evE p (a_ p (f:Int)) vals (bE p lim m calls k) (exL ex) ⟨sk.out,sk.J2++[calls++[(k:Int)]]⟩=E from hE]at Ri Xd
      have hnE:oR p lim m calls f k vals (exL ex) ⟨sk.out,sk.J2++[calls++[(k:Int)]]⟩≠.fuel:=fun e=>by
       rw[hE]at e;rw[e]at Ri;exact SX Ri.symm
      obtain⟨x,_,g⟩:=hEv m o_ (exL ex) calls f en k 0 ⟨kd,nm,ag,ex⟩ vals ⟨sk.out,sk.J2++[calls++[(k:Int)]]⟩ e1 hI hk ⟨[],by rw[A1,m7];exact e2⟩ Rn (by rw[hL];exact RP) YI hnE;rw[hE,hL]at g;rw[hL]at Ri SF
      match E,hE,Ri,Xd,g with
      | .fuel,hE,_,_,_=>exact absurd hE hnE
      | .stop c s2,hE,Ri,Xd,g=>
       have Ri:Rr.stop c s2=R:=Ri;subst Ri;have Ro:=Xd.2;dsimp only[Rr.val,Rr.st,Rr.code]at g⊢;rcases Zn with rfl|rfl|rfl|rfl|rfl
       all_goals(
        repeat' ((conv=>whnf);first|apply Wx|apply W6|apply oi|apply fi|intro h|refine⟨k,(Qt.tr ⟨_,nm,ag,ex⟩),rfl,ab hk,?_⟩|exact Y6|refine e_ rfl ?_)
        refine cg (gv) ?_;repeat' ((conv=>whnf);first|apply Wx|apply W6|apply oi|apply fi|intro h|exact Y8|refine e_ rfl ?_)
        refine cg (g) ?_;repeat' ((conv=>whnf);first|apply Wx|apply W6|apply oi|apply fi|intro h|exact Y8|refine e_ rfl ?_)
        all_goals try exact Q9
        skip)
      | .ok v s2,hE,Ri,Xd,g=>
       rw[Rr.bnd_ok]at Ri;have Xd:Ext lim ⟨sk.out,sk.J2++[calls++[(k:Int)]]⟩ s2:=Xd;have Xn:InV lim calls s2:=YI.ext Xd;have ago:s2.out.length<=1000:=(by have:=Xn.vis;have:=Xn.lm;have:=Xn.out;omega);dsimp only[Rr.val,Rr.st,Rr.code]at g;rcases Zn with rfl|rfl|rfl|rfl|rfl
       ·obtain⟨ix,S3⟩:=SF rfl;have afZ:=jp S3;have hIx:=er L nm o_;rw[show cN L nm=(ix:Int) by rw[cN,S3];rfl]at hIx;have Rw:ix<(vals.map aa).length:=o_;have hgv:(vals.map aa)[ix]?=some (aa (atL vals ix)):=(by rw[j9,Fc o_];rfl);have Uf:ou L ⟨1,nm,ag,ex⟩ vals v=vals.set ix v:=(by rw[ou,b9 rfl,S3]);have UG:ke ⟨1,nm,ag,ex⟩ s2 v=s2:=(by rw[ke,b8 s_]);have Sb:eD p ⟨1,nm,ag,ex⟩ k v=k+1:=(by rw[eD,b8 s_]);rw[b8 s_,Uf,UG,Sb]at Ri;have Yr:=oC (f:=f) hk s_ s_;repeat' ((conv=>whnf);first|apply Wx|apply W6|apply oi|apply fi|intro h|refine⟨k,(Qt.tr ⟨_,nm,ag,ex⟩),rfl,ab hk,?_⟩|exact Y6|refine e_ rfl ?_)
        refine cg (gv) ?_;repeat' ((conv=>whnf);first|apply Wx|apply W6|apply oi|apply fi|intro h|exact Y8|refine e_ rfl ?_)
        refine cg (g) ?_;repeat' ((conv=>whnf);first|apply Wx|apply W6|apply oi|apply fi|intro h|refine cl hIx ?_|refine⟨ix,rfl,Rw,?_⟩|refine⟨_,hgv,?_⟩|exact Y6|refine e_ rfl ?_)
        conv=>whnf
        refine⟨⟨(m,k+1,vals.set ix v,s2),g_,hI.at aag g_,by dsimp only;rw[o8];exact RP,Xn,Ri⟩,?_,KD⟩;repeat' ((conv=>whnf);first|apply Wx|apply W6|apply oi|apply fi|intro h|exact Y9|refine e_ rfl ?_)
        all_goals try exact⟨by dsimp only;rw[Yr]⟩
        all_goals try exact⟨by dsimp only;rw[C7];rfl⟩
       ·have Uf:ou L ⟨2,nm,ag,ex⟩ vals v=vals:=(by rw[ou,b8 s_]);have UG:ke ⟨2,nm,ag,ex⟩ s2 v=⟨s2.out++[v],s2.J2⟩:=(by rw[ke,b9 rfl]);have Sb:eD p ⟨2,nm,ag,ex⟩ k v=k+1:=(by rw[eD,b8 s_]);have hxo:=Cy (ln:=⟨2,nm,ag,ex⟩) (v:=v) SK Xd;rw[UG]at hxo;rw[b8 s_,Uf,UG,Sb]at Ri;have Yr:=oC (f:=f) hk s_ s_;repeat' ((conv=>whnf);first|apply Wx|apply W6|apply oi|apply fi|intro h|refine⟨k,(Qt.tr ⟨_,nm,ag,ex⟩),rfl,ab hk,?_⟩|exact Y6|refine e_ rfl ?_)
        refine cg (gv) ?_;repeat' ((conv=>whnf);first|apply Wx|apply W6|apply oi|apply fi|intro h|exact Y8|refine e_ rfl ?_)
        refine cg (g) ?_;repeat' ((conv=>whnf);first|apply Wx|apply W6|apply oi|apply fi|intro h|exact Y6|refine e_ rfl ?_)
        all_goals try exact Q2
        conv=>whnf
        refine⟨⟨(m,k+1,vals,⟨s2.out++[v],s2.J2⟩),g_,hI.at aag g_,RP,Ww.ext hxo,Ri⟩,?_,KD⟩;repeat' ((conv=>whnf);first|apply Wx|apply W6|apply oi|apply fi|intro h|exact Y9|refine e_ rfl ?_)
        all_goals try exact⟨by dsimp only;rw[Yr]⟩
        all_goals try exact⟨by simp[aa]⟩
       ·have Uf:ou L ⟨3,nm,ag,ex⟩ vals v=vals:=(by rw[ou,b8 s_]);have UG:ke ⟨3,nm,ag,ex⟩ s2 v=s2:=(by rw[ke,b8 s_]);rw[b8 s_,Uf,UG]at Ri;by_cases XP:v=0
        ·subst XP;have Sb:eD p ⟨3,nm,ag,ex⟩ k 0=skipAt p k+1:=(by rw[eD,b9 ⟨.inl rfl,rfl⟩]);rw[Sb]at Ri;have TM:=wG hp hI QV hk (.inl rfl);have SZ:=hI.skip hp hk (.inl rfl) QV;have UU:=gR p (k:Int) o_;obtain⟨ek,ZG,_,_⟩:=dE hI.en hI.lo QV hk (by rw[opensK_iff];simp);have ZD:=bW p (k:Int) o_;rw[show bA p (k:Int)=(ek:Int) by rw[bc];exact aU ZG]at ZD
         cases Ud:i_ p k with
         | some j=>
          have hj:skipAt p k=j:=(by rw[skipAt,Ud]);rw[show bi p (k:Int)=(j:Int) by rw[bZ,Ud];rfl]at UU;rw[hj]at Ri TM SZ;repeat' ((conv=>whnf);first|apply Wx|apply W6|apply oi|apply fi|intro h|refine⟨k,(Qt.tr ⟨_,nm,ag,ex⟩),rfl,ab hk,?_⟩|exact Y6|refine e_ rfl ?_)
          refine cg (gv) ?_;repeat' ((conv=>whnf);first|apply Wx|apply W6|apply oi|apply fi|intro h|exact Y8|refine e_ rfl ?_)
          refine cg (g) ?_;repeat' ((conv=>whnf);first|apply Wx|apply W6|apply oi|apply fi|intro h|refine cl UU ?_|exact Y6|refine e_ rfl ?_)
          conv=>whnf
          refine⟨⟨(m,j+1,vals,s2),g_,hI.at aag g_,RP,Xn,Ri⟩,?_,KD⟩;repeat' ((conv=>whnf);first|apply Wx|apply W6|apply oi|apply fi|intro h|exact Y9|refine e_ rfl ?_)
          all_goals try exact⟨by dsimp only;rw[TM]⟩
         | none=>
          have hj:skipAt p k=ek:=(by rw[skipAt,Ud,dq,ZG];rfl);rw[show bi p (k:Int)= -1 by rw[bZ,Ud];rfl]at UU;rw[hj]at Ri TM SZ;repeat' ((conv=>whnf);first|apply Wx|apply W6|apply oi|apply fi|intro h|refine⟨k,(Qt.tr ⟨_,nm,ag,ex⟩),rfl,ab hk,?_⟩|exact Y6|refine e_ rfl ?_)
          refine cg (gv) ?_;repeat' ((conv=>whnf);first|apply Wx|apply W6|apply oi|apply fi|intro h|exact Y8|refine e_ rfl ?_)
          refine cg (g) ?_;repeat' ((conv=>whnf);first|apply Wx|apply W6|apply oi|apply fi|intro h|refine cl UU ?_|refine cl ZD ?_|exact Y6|refine e_ rfl ?_)
          conv=>whnf
          refine⟨⟨(m,ek+1,vals,s2),g_,hI.at aag g_,RP,Xn,Ri⟩,?_,KD⟩;repeat' ((conv=>whnf);first|apply Wx|apply W6|apply oi|apply fi|intro h|exact Y9|refine e_ rfl ?_)
          all_goals try exact⟨by dsimp only;rw[TM]⟩
        ·have Sb:eD p ⟨3,nm,ag,ex⟩ k v=k+1:=(by rw[eD,b8 (fun h=>XP h.2)]);rw[Sb]at Ri;have Yr:=oC (f:=f) hk s_ s_;repeat' ((conv=>whnf);first|apply Wx|apply W6|apply oi|apply fi|intro h|refine⟨k,(Qt.tr ⟨_,nm,ag,ex⟩),rfl,ab hk,?_⟩|exact Y6|refine e_ rfl ?_)
         refine cg (gv) ?_;repeat' ((conv=>whnf);first|apply Wx|apply W6|apply oi|apply fi|intro h|exact Y8|refine e_ rfl ?_)
         refine cg (g) ?_;repeat' ((conv=>whnf);first|apply Wx|apply W6|apply oi|apply fi|intro h|exact Y6|refine e_ rfl ?_)
         all_goals try(exfalso;simp at h;exact XP h)
         conv=>whnf
         refine⟨⟨(m,k+1,vals,s2),g_,hI.at aag g_,RP,Xn,Ri⟩,?_,KD⟩;repeat' ((conv=>whnf);first|apply Wx|apply W6|apply oi|apply fi|intro h|exact Y9|refine e_ rfl ?_)
         all_goals try exact⟨by dsimp only;rw[Yr]⟩
       ·have Uf:ou L ⟨5,nm,ag,ex⟩ vals v=vals:=(by rw[ou,b8 s_]);have UG:ke ⟨5,nm,ag,ex⟩ s2 v=s2:=(by rw[ke,b8 s_]);rw[b8 s_,Uf,UG]at Ri;have hwl:=sl p f k;by_cases XP:v=0
        ·subst XP;have Sb:eD p ⟨5,nm,ag,ex⟩ k 0=skipAt p k+1:=(by rw[eD,b9 ⟨.inr rfl,rfl⟩]);rw[Sb]at Ri;have TM:=wG hp hI QV hk (.inr rfl);have SZ:=hI.skip hp hk (.inr rfl) QV;obtain⟨ek,ZG,_,_⟩:=dE hI.en hI.lo QV hk (by rw[opensK_iff];simp);have ZD:=bW p (k:Int) o_;rw[show bA p (k:Int)=(ek:Int) by rw[bc];exact aU ZG]at ZD;have hj:skipAt p k=ek:=(by rw[skipAt,rW (by rw[aL hk];simp),dq,ZG];rfl);rw[hj]at Ri TM SZ;repeat' ((conv=>whnf);first|apply Wx|apply W6|apply oi|apply fi|intro h|refine⟨k,(Qt.tr ⟨_,nm,ag,ex⟩),rfl,ab hk,?_⟩|exact Y6|refine e_ rfl ?_)
         refine cg (gv) ?_;repeat' ((conv=>whnf);first|apply Wx|apply W6|apply oi|apply fi|intro h|exact Y8|refine e_ rfl ?_)
         refine cg (g) ?_;repeat' ((conv=>whnf);first|apply Wx|apply W6|apply oi|apply fi|intro h|refine cl ZD ?_|exact Y6|refine e_ rfl ?_)
         conv=>whnf
         refine⟨⟨(m,ek+1,vals,s2),g_,hI.at aag g_,RP,Xn,Ri⟩,?_,KD⟩;repeat' ((conv=>whnf);first|apply Wx|apply W6|apply oi|apply fi|intro h|exact Y9|refine e_ rfl ?_)
         all_goals try exact⟨by dsimp only;rw[TM]⟩
        ·have Sb:eD p ⟨5,nm,ag,ex⟩ k v=k+1:=(by rw[eD,b8 (fun h=>XP h.2)]);rw[Sb]at Ri;have Yr:=FV hp hI QV hk rfl;repeat' ((conv=>whnf);first|apply Wx|apply W6|apply oi|apply fi|intro h|refine⟨k,(Qt.tr ⟨_,nm,ag,ex⟩),rfl,ab hk,?_⟩|exact Y6|refine e_ rfl ?_)
         refine cg (gv) ?_;repeat' ((conv=>whnf);first|apply Wx|apply W6|apply oi|apply fi|intro h|exact Y8|refine e_ rfl ?_)
         refine cg (g) ?_;repeat' ((conv=>whnf);first|apply Wx|apply W6|apply oi|apply fi|intro h|exact Y6|refine e_ rfl ?_)
         all_goals try(exfalso;simp at h;exact XP h)
         all_goals try exact Q2
         conv=>whnf
         refine⟨⟨(m,k+1,vals,s2),g_,hI.at aag g_,RP,Xn,Ri⟩,?_,KD⟩;repeat' ((conv=>whnf);first|apply Wx|apply W6|apply oi|apply fi|intro h|exact Y9|refine e_ rfl ?_)
         all_goals try exact⟨by dsimp only;rw[Yr,q8];rfl⟩
       ·rw[b9 rfl]at Ri;subst Ri;dsimp only[Rr.val,Rr.st,Rr.code];repeat' ((conv=>whnf);first|apply Wx|apply W6|apply oi|apply fi|intro h|refine⟨k,(Qt.tr ⟨_,nm,ag,ex⟩),rfl,ab hk,?_⟩|exact Y6|refine e_ rfl ?_)
        refine cg (gv) ?_;repeat' ((conv=>whnf);first|apply Wx|apply W6|apply oi|apply fi|intro h|exact Y8|refine e_ rfl ?_)
        refine cg (g) ?_;exact Z6
   ·have afa:k=en:=(by have:=hI.hi;omega);have h7:ln.J0=7:=o_;have how:f_ p k=f:=(by obtain⟨_,h|h⟩:=hI.own7 hp hk h7;exact h.2;omega);rw[dw hk h7,b9 how]at Ri;subst Ri;dsimp only[Rr.val,Rr.st,Rr.code];exact Z6
abbrev is0:IS:=⟨[],[]⟩
noncomputable def iG (p:List Qt) (lim:Int):Rr Int:=open Classical in
 if h:∃n,bd p lim n [] 0 1 (eB (a_ p 0).length []) is0≠.fuel then bd p lim (Classical.choose h) [] 0 1 (eB (a_ p 0).length []) is0 else .fuel
theorem qD {p:List Qt}{lim:Int}{n:Nat}(h:bd p lim n [] 0 1 (eB (a_ p 0).length []) is0≠.fuel):iG p lim=bd p lim n [] 0 1 (eB (a_ p 0).length []) is0:=by
 have hx:∃n,bd p lim n [] 0 1 (eB (a_ p 0).length []) is0≠.fuel:=⟨n,h⟩;rw[iG,dif_pos hx];have h2:=t9 hx;rcases Nat.le_total n (Classical.choose hx)with P6|P6
 ·exact mj h P6
 ·exact(mj h2 P6).symm
theorem CC {p:List Qt}(h:ak p=true):∃y,p[0]?=some y/\y.J0=0/\y.J7=iM/\y.L3=[]:=by
 unfold ak at h;simp only[d5,i8]at h;have h4:=h.2.2.2.1;unfold headOk at h4
 match p,h4 with
 | y::q,h4=>simp only[d5,w5]at h4;exact⟨y,rfl,h4.1,h4.2.1,z4.1 h4.2.2⟩
theorem rz {p:List Qt}(hp:PgOk p)(h:ak p=true){lim:Int}(h0:0<=lim):∃n,bd p lim n [] 0 1 (eB (a_ p 0).length []) is0≠.fuel:=by obtain⟨y,hy,RF,_⟩:=CC h;obtain⟨e,hI⟩:=InF.start hp ⟨y,hy,RF⟩;exact tH hp 6 [] rfl 0 e 1 _ is0 abf hI
theorem V54{p:Prop}(h:p:=by
 have hx:=fU (p:=p) (lim:=lim) n [] 0 1 (eB (a_ p 0).length []) is0;rw[qD hn]
 cases hr:bd p lim n [] 0 1 (eB (a_ p 0).length []) is0 with
 | ok v s=>exact .inl ⟨v,s,rfl⟩
 | stop c s=>rw[hr]at hx;exact .inr ⟨c,s,rfl,hx.2⟩
 | fuel=>exact absurd hr hn):p:=h
theorem vw (p:List Qt)(hs:aK 1048576 (.lst 4 (p.map Qt.tr)))(Si:ak p=true)(lim:Int)(h0:0<=lim)(h1:lim<=1000):
  bh prog 40 [.r (.c (.t (.lst 4 (p.map Qt.tr)))),tI .i64 lim] [] (.r (.agg [.own (1,0,1),.own (1,0,2),.t (.int .i64 (iG p lim).val),.t (.int .i64 (iG p lim).code)])) [((1,0,1),.arr false 1 ((iG p lim).st.out.map aa)),((1,0,2),.dar 1 (aw ((iG p lim).st.J2.map kz)) none)]:=by
 have hp:=nc hs Si;obtain⟨n,hn⟩:=rz hp Si h0;have hP:=dz p hs;rw[Si]at hP;have gl:=bz lim 0 1000;rw[show af lim 0 1000=true by rw[within_iff];exact⟨h0,h1⟩]at gl;obtain⟨y,hy,RF,_,hya⟩:=CC Si;have hA:b_ p 0=0:=by rw[b_,hy];dsimp only;rw[hya];rfl
 have gp:=LG hp Si (lim:=lim) n [] 0 [] is0 ⟨y,hy,RF⟩ (by rw[hA];rfl) ⟨h1,by simpa using h0,s_,s_⟩ hn;rw[show(((0:Nat):Int))=0 from rfl,show(0:Nat)+1=1 from rfl,<-qD hn]at gp
 have Ro:(∃v s,iG p lim= .ok v s)\/(∃c s,iG p lim= .stop c s/\(c=1\/c=2)):=by exact V54
 generalize iG p lim=R at *
 refine ax hΓ aF func40 rfl d_ rfl rfl ?_;repeat' ((conv=>whnf);first|(with_reducible apply W1;fail_if_success (with_reducible show Wo _ _ _ _ (Code.region 4 _ _) _ _))|(with_reducible first|apply W2|apply W3|apply W4|apply W5|apply W6|apply W7|apply W8|apply W9)|apply au|apply oi|apply fi|intro h|refine cl hP ?_|refine cl gl ?_|exact Y6|refine e_ rfl ?_)
 conv=>whnf
 refine oK ⟨[(4,.r (.c (.ptr (4,0,0) 0))),(5,.r (.c (.ptr (19,0,0) 0)))],[((4,0,0),some (.box [.nils 1,.nils 1,.t (.int .i64 0),.t (.int .i64 0)])),((19,0,0),some (.box [.t (.lst 4 (p.map Qt.tr)),.t (.int .i64 lim),.own (19,0,1),.own (19,0,2),.t (.int .i64 0),.t (.int .i64 0),.own (19,0,3)])),((19,0,1),some (.arr false 1 [])),((19,0,2),some (.dar 1 [] none)),((19,0,3),some (.arr false 1 []))],[19,4,0]⟩ ?_ ?_
 ·exact Z2
 rcases Ro with⟨v,s,rfl⟩|⟨c,s,rfl,hc⟩
 ·dsimp only[Rr.val,Rr.st,Rr.code]at gp⊢;repeat' ((conv=>whnf);first|apply Wx|apply W6|apply oi|apply fi|intro h|exact Y8|refine e_ rfl ?_)
  refine cg (gp) ?_;repeat' ((conv=>whnf);first|apply Wx|apply W6|apply oi|apply fi|intro h|exact Y8|refine e_ rfl ?_)
  all_goals try exact⟨⟨_,rfl⟩⟩
 ·dsimp only[Rr.val,Rr.st,Rr.code]at gp⊢;repeat' ((conv=>whnf);first|apply Wx|apply W6|apply oi|apply fi|intro h|exact Y8|refine e_ rfl ?_)
  refine cg (gp) ?_;repeat' ((conv=>whnf);first|apply Wx|apply W6|apply oi|apply fi|intro h|exact Y8|refine e_ rfl ?_)
  all_goals try exact Q9
  all_goals try exact⟨⟨_,rfl⟩⟩
def Kz (Φ:IS->Prop){α:Type}(r:Rr α):Prop:=match r with
 | .ok _ s=>Φ s
 | .stop _ s=>Φ s
 | .fuel=>True
section
variable {p:List Qt} {locals:List (List UInt8)} {vals:List Int} {call:jm} {Φ:IS->Prop}
mutual
theorem Iu (h:∀g av s,Φ s->Kz Φ (call g av s)):∀(e:Ex) (s:IS),Φ s->Kz Φ (evE p locals vals call e s)
 | .node t es,s,hs=>by
  have h1:=FQ h es s hs;rw[evE]
  cases hr:bG p locals vals call es s with
  | ok av s1=>
   rw[hr]at h1;rw[Rr.bnd_ok,iU];split
   ·exact h1
   ·split
    ·exact h1
    ·split
     ·exact h _ _ _ h1
     ·exact h1
  | stop c s1=>rw[hr]at h1;exact h1
  | fuel=>trivial
theorem FQ (h:∀g av s,Φ s->Kz Φ (call g av s)):∀(es:List Ex) (s:IS),Φ s->Kz Φ (bG p locals vals call es s)
 | [],s,hs=>by rw[bG];exact hs
 | a::es,s,hs=>by
  have h1:=Iu h a s hs;rw[bG]
  cases hr:evE p locals vals call a s with
  | ok v s1=>
   rw[hr]at h1;rw[Rr.bnd_ok];have h2:=FQ h es s1 h1
   cases Rk:bG p locals vals call es s1 with|ok vs s2=>rw[Rk]at h2;exact h2|stop c s2=>rw[Rk]at h2;exact h2|fuel=>trivial
  | stop c s1=>rw[hr]at h1;exact h1
  | fuel=>trivial
end
theorem lE {lim:Int}(TR:∀(calls:List Int) (k:Nat) (s:IS),calls.length<=6->Φ s->Φ ⟨s.out,s.J2++[calls++[(k:Int)]]⟩)(Sq:∀(s:IS) (v:Int),Φ s->Φ ⟨s.out++[v],s.J2⟩):
  ∀(n:Nat) (calls:List Int) (f k:Nat) (vals:List Int) (s:IS),calls.length<=6->Φ s->Kz Φ (bd p lim n calls f k vals s)
 | 0,_,_,_,_,_,_,_=>trivial
 | n+1,calls,f,k,vals,s,hc,hs=>by
  cases hk:p[k]? with
  | none=>rw[iB hk];exact hs
  | some ln=>
   by_cases h7:ln.J0=7
   ·rw[dw hk h7];split
    ·exact hs
    ·exact lE TR Sq n _ _ _ _ _ hc hs
   by_cases h4:ln.J0=4
   ·rw[eA hk h4];exact lE TR Sq n _ _ _ _ _ hc hs
   by_cases hv:(s.J2.length:Int)=lim
   ·rw[eu hk h7 h4 hv];exact hs
   ·rw[eR hk h7 h4 hv]
    have QS:∀g av s,Φ s->Kz Φ (bE p lim n calls k g av s):=by
     intro g av s' hs';unfold bE;split
     ·exact hs'
     ·exact lE TR Sq n _ _ _ _ _ (by rw[c7];simp;omega) hs'
    have he:=Iu (p:=p) (locals:=a_ p (f:Int)) (vals:=vals) QS (exL ln.L0) _ (TR calls k s hc hs)
    cases hr:evE p (a_ p (f:Int)) vals (bE p lim n calls k) (exL ln.L0) ⟨s.out,s.J2++[calls++[(k:Int)]]⟩with
    | ok v s1=>
     rw[hr]at he;rw[Rr.bnd_ok];split
     ·exact he
     ·refine lE TR Sq n _ _ _ _ _ hc ?_;unfold ke;split
      ·exact Sq _ _ he
      ·exact he
    | stop c s1=>rw[hr]at he;exact he
    | fuel=>trivial
end
structure RunOk (lim:Int) (R:Rr Int):Prop where
 nf:R≠.fuel
 vis:(R.st.J2.length:Int)<=lim
 out:R.st.out.length<=R.st.J2.length
 rows:∀x∈R.st.J2,x.length<=7
 code:R.code=0\/R.code=1\/R.code=2
theorem Od {p:List Qt}(hp:PgOk p)(h:ak p=true){lim:Int}(h0:0<=lim):RunOk lim (iG p lim):=by
 obtain⟨n,hn⟩:=rz hp h h0;rw[qD hn];have hx:=fU (p:=p) (lim:=lim) n [] 0 1 (eB (a_ p 0).length []) is0
 have hr:=lE (p:=p) (lim:=lim) (Φ:=fun s=>∀x∈s.J2,x.length<=7) (fun calls k s hc hs x hx=>by
  rcases f0.1 hx with hx|hx
  ·exact hs x hx
  ·rw[t6]at hx;subst hx;rw[c7];simp;omega) (fun s v hs=>hs) n [] 0 1 (eB (a_ p 0).length []) is0 s_ (fun x hx=>by cases hx)
 cases hR:bd p lim n [] 0 1 (eB (a_ p 0).length []) is0 with
 | fuel=>exact absurd hR hn
 | ok v s=>
  rw[hR]at hx hr;have h1:=hx.le abf;have h2:=hx.ol
  exact⟨(fun e=>by cases e),h1,(show s.out.length<=s.J2.length by simpa using h2),hr,.inl rfl⟩
 | stop c s=>rw[hR]at hx hr;have h1:=hx.1.le abf;have h2:=hx.1.ol;exact⟨(fun e=>by cases e),h1,(show s.out.length<=s.J2.length by simpa using h2),hr,.inr hx.2⟩
end Go.Proofs.P
namespace Go.Proofs.P
open Go.Sim Tryz
theorem KA {p:List Qt}(h:ak p=true){lim:Int}:iG (p.map aC) lim=iG p lim:=by
 unfold ak at h;simp only[d5,i8]at h;have h3:=n9.1 h.2.2.1
 have hl:∀n,bd (p.map aC) lim n [] 0 1 (eB (a_ (p.map aC) 0).length []) is0=bd p lim n [] 0 1 (eB (a_ p 0).length []) is0:=fun n=>by
  rw[jZ (fun x hx=>vS (h3 x hx)),(dW p).a_]
 by_cases hx:∃n,bd p lim n [] 0 1 (eB (a_ p 0).length []) is0≠.fuel
 ·obtain⟨n,hn⟩:=hx;rw[qD hn,qD (p:=p.map aC) (n:=n) (by rw[hl];exact hn),hl]
 ·have hy:¬∃n,bd (p.map aC) lim n [] 0 1 (eB (a_ (p.map aC) 0).length []) is0≠.fuel:=fun⟨n,hn⟩=>hx ⟨n,by rw[<-hl];exact hn⟩;rw[iG,iG,dif_neg hx,dif_neg hy]
noncomputable section
structure Fn (p:List Qt) (b:Ql) (first second:Int) (F g:Nat) (C:Cx):Prop where
 h:SpOk p b first second
 hg:(aq p)[F]?=some g
 hC:CxOk C
 pq:C.p=foldIf p b
 bb:C.b=b
 args:C.args=b_ C.p g
 fn:bI C g
 I8:aG p F b=(cJ C g).I8
 J4:(cJ C g).J4<=C.J1
 J1:C.J1<=60
theorem Fn.lt {p:List Qt}{b:Ql}{first second:Int}{F g:Nat}{C:Cx}(h:Fn p b first second F g C):F<(aq p).length:=aE h.hg
def frI (C:Cx):Int:=if C.J8=true then 1 else 0
def jx (C:Cx)(B:Int):Int:=B+frI C+C.args
def gd (C:Cx)(x:Sc)(B j:Int):Int:=if jl C x j=true then jx C B-j else B-1-eI C x j
def CV (x:Sc):Int:=if x.J9=true then 0 else x.first
def Reg (C:Cx)(x:Sc)(B a:Int):Prop:=(B-C.J1<=a/\a<B-CV x)\/(x.J9=true/\jx C B-C.args<a/\a<=jx C B)
structure Fr (C:Cx) (c:Nat) (B fp:Int):Prop where
 fpB:C.J8=true->fp=B
 lo:170*(7-(c:Int))-1<=B
 c6:c<=6
 hi:jx C B<=1199
def Vars (C:Cx)(x:Sc)(B:Int)(W:Int->Int)(vals:List Int):Prop:=∀j:Nat,j<x.J3.length->W (gd C x B j)=atL vals j
def Seg (p:List Qt)(b:Ql)(F a e:Nat)(items:List Qs):Prop:=∀i,a<=i->i<e->opA p b F i=opL items i
theorem Ak (C:Cx):0<=frI C/\frI C<=1:=by unfold frI;split<;>omega
theorem Fr.rng {C:Cx}{c:Nat}{B fp:Int}(hC:CxOk C)(h:Fr C c B fp):169<=B/\B<=1199:=by
 have:=h.lo;have:=h.c6;have:=h.hi;have:=Ak C;have:=hC.args
 unfold jx at *
 omega
section
variable {C:Cx} {x:Sc} {ins:List Nat} {B:Int}
theorem Du (hC:CxOk C)(hx:ScOk C x ins)(Tp:ba C x<=C.J1){j:Nat}(hj:j<x.J3.length):Reg C x B (gd C x B j)/\B-ba C x<=gd C x B j/\gd C x B j<=jx C B:=by
 have ha:=hC.args;have QZ:=hx.argLe hC;have hf:=Ak C;have TC:=hx.first
 unfold Reg gd jl eI CV at *
 unfold ba at *
 cases ho:x.J9 with
 | true=>
  rw[ho]at Tp;have RW:=hx.args ho
  simp only[l6,i8,if_true]at *
  unfold jx at *
  by_cases XK:(j:Int)<C.args
  ·rw[b9 XK];exact⟨.inr ⟨trivial,o_,o_⟩,o_,o_⟩
  ·rw[b8 XK]
   exact⟨.inl ⟨o_,o_⟩,o_,o_⟩
 | false=>
  rw[ho]at Tp
  simp only[n4,w9,if_false,false_and,or_false]at *
  unfold jx;omega
theorem Mb (hC:CxOk C)(hx:ScOk C x ins){j k:Nat}(hj:j<x.J3.length)(hk:k<x.J3.length)(h:gd C x B j=gd C x B k):j=k:=by
 have ha:=hC.args;have hf:=Ak C;have TC:=hx.first
 unfold gd jl eI jx at *
 cases ho:x.J9 with
 | true=>
  rw[ho]at h;simp only[l6,i8,if_true]at h;by_cases h1:(j:Int)<C.args
  ·rw[b9 h1]at h;by_cases h2:(k:Int)<C.args
   ·rw[b9 h2]at h;omega
   ·rw[b8 h2]at h;omega
  ·rw[b8 h1]at h;by_cases h2:(k:Int)<C.args
   ·rw[b9 h2]at h;omega
   ·rw[b8 h2]at h;omega
 | false=>rw[ho]at h;simp only[n4,w9,if_false]at h;omega
theorem Vars.keep {W W':Int->Int}{vals:List Int}(h:Vars C x B W vals)(hw:∀j:Nat,j<x.J3.length->W' (gd C x B j)=W (gd C x B j)):Vars C x B W' vals:=fun j hj=>(hw j hj).trans (h j hj)
end
section
variable {p:List Qt} {b:Ql} {first second:Int} {F g:Nat} {C:Cx} {x:Sc} {ins:List Nat} {B fp sp d:Int} {c i:Nat} {W:Int->Int} {out:List Int}
theorem La (hF:Fn p b first second F g C)(fr:Fr C c B fp){j:Int}(O3:opA p b F i=some ⟨bL C false,bU C x d j⟩)(QM:sp+d=B)(hd:0<=d)(h1:1<=sp)(ha:0<=gd C x B j/\gd C x B j<=1199):
  Reach (aJ p b first second) ⟨adr p b first second F i,sp,fp,W,out⟩ ⟨adr p b first second F (i+1),sp-1,fp,upd W (sp-1) (W (gd C x B j)),out⟩:=by
 have hr:=fr.rng hF.hC
 cases hf:C.J8 with
 | true=>
  have Ta:=fr.fpB hf
  have e:fp+bU C x d j=gd C x B j:=by unfold bU gd jx frI;rw[b9 hf,b9 hf];split<;>omega
  have Sn:bL C false=1:=by unfold bL;rw[b9 hf];rfl
  rw[Sn]at O3;have:=Ee (sp:=sp) (fp:=fp) (W:=W) (out:=out) hF.h hF.lt O3 h1 o_ (by rw[e];exact ha)
  rwa [e]at this
 | false=>
  have hn:¬(C.J8=true):=by rw[hf];simp
  have e:sp+bU C x d j=gd C x B j:=by unfold bU gd jx frI;rw[b8 hn,b8 hn];split<;>omega
  have Sn:bL C false=3:=by unfold bL;rw[b8 hn];rfl
  rw[Sn]at O3;have:=Fi (sp:=sp) (fp:=fp) (W:=W) (out:=out) hF.h hF.lt O3 h1 o_ (by rw[e];exact ha);rwa [e]at this
theorem uH (hF:Fn p b first second F g C)(fr:Fr C c B fp){j:Int}(O3:opA p b F i=some ⟨bL C true,bU C x d j⟩)(QM:sp+d=B)(hd:0<=d)(h1:0<=sp)(ha:0<=gd C x B j/\gd C x B j<=1199):
  Reach (aJ p b first second) ⟨adr p b first second F i,sp,fp,W,out⟩ ⟨adr p b first second F (i+1),sp+1,fp,upd W (gd C x B j) (W sp),out⟩:=by
 have hr:=fr.rng hF.hC
 cases hf:C.J8 with
 | true=>
  have Ta:=fr.fpB hf
  have e:fp+bU C x d j=gd C x B j:=by unfold bU gd jx frI;rw[b9 hf,b9 hf];split<;>omega
  have Sn:bL C true=2:=by unfold bL;rw[b9 hf];rfl
  rw[Sn]at O3;have:=Dk (sp:=sp) (fp:=fp) (W:=W) (out:=out) hF.h hF.lt O3 h1 o_ (by rw[e];exact ha)
  rwa [e]at this
 | false=>
  have hn:¬(C.J8=true):=by rw[hf];simp
  have e:sp+bU C x d j=gd C x B j:=by unfold bU gd jx frI;rw[b8 hn,b8 hn];split<;>omega
  have Sn:bL C true=4:=by unfold bL;rw[b8 hn];rfl
  rw[Sn]at O3;have:=CZ (sp:=sp) (fp:=fp) (W:=W) (out:=out) hF.h hF.lt O3 h1 o_ (by rw[e];exact ha);rwa [e]at this
end
def OU (p:List Qt)(b:Ql)(first second:Int)(C:Cx)(call:jm)(lo:Int):Prop:=
 ∀(g' G:Nat) (av:List Int) (st O5:IS) (v sp fp:Int) (W:Int->Int),bI C g'->(aq p)[G]?=some g'->av.length=b_ C.p g'->call g' av st= .ok v O5->lo<=sp->sp+b_ C.p g'<=1199->(∀j:Nat,j<b_ C.p g'->W (sp+b_ C.p g'-j)=atL av j)->
  ∃W',Reach (aJ p b first second) ⟨adr p b first second G 0,sp,fp,W,st.out⟩ ⟨W sp,sp+b_ C.p g',fp,W',O5.out⟩/\W' (sp+b_ C.p g')=v/\∀a,sp+b_ C.p g'<a->W' a=W a
def ON (p:List Qt)(b:Ql)(first second:Int)(F:Nat)(C:Cx)(rep:Sc->List Nat->Nat->Nat->Int->Gs->Gs)(x:Sc)(ins:List Nat)(line:Nat)(call:jm)(B fp dm:Int):Prop:=
 ∀(g':Nat) (av:List Int) (st O5:IS) (v sp d:Int) (W:Int->Int) (s:Gs),bI C g'->cv C ins g' s.I8.length=true->(rep x ins line g' d s).J4<=C.J1->(rep x ins line g' d s).I8.length<(aG p F b).length->Seg p b F s.I8.length (rep x ins line g' d s).I8.length (rep x ins line g' d s).I8->
  av.length=b_ C.p g'->call g' av st= .ok v O5->sp+d=B->C.J1+b_ C.p g'<=d->d<=dm->(∀j:Nat,j<b_ C.p g'->W (sp+b_ C.p g'-1-j)=atL av j)->
  ∃W',Reach (aJ p b first second) ⟨adr p b first second F s.I8.length,sp,fp,W,st.out⟩ ⟨adr p b first second F (rep x ins line g' d s).I8.length,sp+b_ C.p g'-1,fp,W',O5.out⟩/\W' (sp+b_ C.p g'-1)=v/\∀a,sp+b_ C.p g'<=a->(a<B-C.J1\/B-ba C x<=a)->W' a=W a
section
variable {p:List Qt} {b:Ql} {first second:Int} {F g:Nat} {C:Cx} {x:Sc} {ins:List Nat} {B fp dm:Int} {c line:Nat} {rep:Sc->List Nat->Nat->Nat->Int->Gs->Gs} {call:jm} {vals:List Int}
structure Ec (p:List Qt) (b:Ql) (first second:Int) (F g:Nat) (C:Cx) (x:Sc) (ins:List Nat) (B fp dm:Int) (c line:Nat) (rep:Sc->List Nat->Nat->Nat->Int->Gs->Gs) (call:jm) (vals:List Int):Prop where
 hF:Fn p b first second F g C
 hx:ScOk C x ins
 px:yK C rep x ins
 fr:Fr C c B fp
 top:ba C x<=C.J1
 dmx:dm<=148
 cm:OU p b first second C call (B-149)
 cr:ON p b first second F C rep x ins line call B fp dm
def Val (p:List Qt)(b:Ql)(first second:Int)(F:Nat)(C:Cx)(x:Sc)(B fp:Int)(i j:Nat)(sp top:Int)(W:Int->Int)(st O5:IS)(v:Int):Prop:=
 ∃W',Reach (aJ p b first second) ⟨adr p b first second F i,sp,fp,W,st.out⟩ ⟨adr p b first second F j,top-1,fp,W',O5.out⟩/\W' (top-1)=v/\∀a,top<=a->(a<B-C.J1\/B-ba C x<=a)->W' a=W a
theorem Nz (E:Ec p b first second F g C x ins B fp dm c line rep call vals){t:QC}(ht:fI t=true)(hv:t.J0=1->∃i,eQ x.J3 0 t.J7=some i)(QK:t.J0=7->∃g',findN C.p 0 t.J7=some g'/\(b_ C.p g':Int)=t.M1)
  {d sp v:Int} {s:Gs} {st O5:IS} {av:List Int} {W:Int->Int} (hd:C.J1<=d) (VD:d+ar t<=dm) (Zq:d+1<=dm) (hm:(fW C rep x ins line t (d+ar t) s).J4<=C.J1) (O2:(fW C rep x ins line t (d+ar t) s).I8.length<(aG p F b).length) (QE:Seg p b F s.I8.length (fW C rep x ins line t (d+ar t) s).I8.length (fW C rep x ins line t (d+ar t) s).I8)
  (U8:av.length=ar t) (P0:iU C.p x.J3 vals call t av st= .ok v O5) (QM:sp+(d+ar t)=B) (hW:∀j:Nat,j<ar t->W (sp+ar t-1-j)=atL av j) (QN:Vars C x B W vals):
  Val p b first second F C x B fp s.I8.length (fW C rep x ins line t (d+ar t) s).I8.length sp (sp+ar t) W st O5 v:=by
 obtain⟨hF,hx,px,fr,top,aeW,cm,cr⟩:=E;have hr:=fr.rng hF.hC;have WL:=hF.hC.J1;obtain⟨k1,k2,k3⟩:=xS ht
 have Ux:∀{code arg line:Int} {chain:List Int} {d:Int},Seg p b F s.I8.length (aB C s d code arg line chain).I8.length (aB C s d code arg line chain).I8->opA p b F s.I8.length=some ⟨code,arg⟩:=fun hs=>by
  rw[hs s.I8.length (d7 _) (by rw[Lc.emit_len];omega),zI,b9 rfl]
 unfold fW at hm QE O2⊢;unfold iU at P0;by_cases h0:t.J0=0
 ·rw[b9 h0]at hm QE O2 P0⊢;have hz:=k1 (.inl h0);rw[hz]at QM VD QE⊢;injection P0 with e1 e2;subst e1;subst e2;rw[Lc.emit_len];refine⟨upd W (sp-1) t.M1,?_,?_,?_⟩
  ·have:=oY (sp:=sp) (fp:=fp) (W:=W) (out:=st.out) hF.h hF.lt (Ux QE) o_ o_;rwa [show sp+((0:Nat):Int)-1=sp-1 by omega]
  ·rw[show sp+((0:Nat):Int)-1=sp-1 by omega];exact jy
  ·intro a ha _;exact fR o_
 rw[b8 h0]at hm QE O2 P0⊢;by_cases h1:t.J0=1
 ·rw[b9 h1]at hm QE O2 P0⊢;have hz:=k1 (.inr h1);rw[hz]at QM VD QE⊢;obtain⟨i,hi⟩:=hv h1;have Rw:=jp hi;have S4:cN x.J3 t.J7=(i:Int):=by unfold cN;exact aU hi
  have O4:i<x.J3.length:=o_;obtain⟨va,vb,vc⟩:=Du (B:=B) hF.hC hx top O4;have hhi:=fr.hi;injection P0 with e1 e2;subst e2;have hvv:v=atL vals i:=by rw[<-e1];unfold Mf;rw[hi]
  unfold Ei at QE⊢;rw[S4]at QE⊢;rw[Lc.emit_len];refine⟨upd W (sp-1) (W (gd C x B i)),?_,?_,?_⟩
  ·have:=La (x:=x) (W:=W) (out:=st.out) hF fr (Ux QE) (show sp+(d+((0:Nat):Int))=B by exact QM) o_ o_ ⟨o_,o_⟩;rwa [show sp+((0:Nat):Int)-1=sp-1 by omega]
  ·rw[show sp+((0:Nat):Int)-1=sp-1 by omega,jy,hvv];exact QN i O4
  ·intro a ha _;exact fR o_
 rw[b8 h1]at hm QE O2 P0⊢;by_cases h7:t.J0=7
 ·rw[b9 h7]at hm QE O2 P0⊢;obtain⟨g',UW,hn⟩:=QK h7;have TI:=k2 h7;obtain⟨_,ln,q1,q2,_⟩:=dR UW;have SB:bI C g':=⟨ln,q1,q2⟩;have X0:ar t=b_ C.p g':=o_;rw[UW]at hm QE O2 P0⊢;dsimp only[Option.getD_some]at hm QE O2 P0⊢;rw[X0]at hm QE O2 QM VD U8 hW⊢;by_cases hB:cv C ins g' s.I8.length=true
  ·rw[b9 hB]at hm QE O2⊢;obtain⟨W',r1,r2,r3⟩:=cr g' av st O5 v sp (d+b_ C.p g') W s SB hB hm O2 QE U8 P0 QM o_ VD hW;exact⟨W',r1,r2,r3⟩
  ·rw[b8 hB]at hm QE⊢;rw[Lc.emit_len];have VL:=Fz SB;have XE:(aq p)[iH C.p g']?=some g':=(by rw[<-iC p b,<-hF.pq];exact VL);have X6:=CxOk.b_ hF.hC g';have r1:=HG (sp:=sp) (fp:=fp) (W:=W) (out:=st.out) hF.h hF.lt (aE XE) (Ux QE) o_ o_
   obtain⟨W',r2,r3,r4⟩:=cm g' (iH C.p g') av st O5 v (sp-1) fp (upd W (sp-1) (adr p b first second F (s.I8.length+1))) SB XE U8 P0 o_ o_ (fun j hj=>by
    rw[fR o_,<-hW j hj];congr 1
    omega)
   rw[jy]at r2;rw[show sp-1+(b_ C.p g':Int)=sp+b_ C.p g'-1 by omega]at r2 r3 r4;refine⟨W',r1.trans r2,r3,fun a ha _=>?_⟩;rw[r4 a o_];exact fR o_
 ·rw[b8 h7]at hm QE O2 P0⊢
  have hk:2<=t.J0/\t.J0<=6:=by
   rcases qs ht with h|h|h|h
   ·omega
   ·omega
   ·omega
   ·exact h
  have h2:=k3 hk.1 hk.2;rw[h2]at QM VD QE hW⊢;injection P0 with e1 e2;subst e2;rw[Lc.emit_len];have w0:=hW 0 o_;have w1:=hW 1 o_;rw[show sp+((2:Nat):Int)-1-((0:Nat):Int)=sp+1 by omega]at w0;rw[show sp+((2:Nat):Int)-1-((1:Nat):Int)=sp by omega]at w1;refine⟨upd W (sp+1) v,?_,?_,?_⟩
  ·have:=FA (sp:=sp) (fp:=fp) (W:=W) (out:=st.out) hF.h hF.lt (Ux QE) o_ o_ o_;rw[w0,w1,show 5+t.J0-2-3=t.J0 by omega,e1]at this;rwa [show sp+((2:Nat):Int)-1=sp+1 by omega]
  ·rw[show sp+((2:Nat):Int)-1=sp+1 by omega];exact jy
  ·intro a ha _;exact fR o_
def KnE (C:Cx)(locals:List (List UInt8))(l:List QC):Prop:=∀t∈l,(t.J0=1->∃i,eQ locals 0 t.J7=some i)/\(t.J0=7->∃g',findN C.p 0 t.J7=some g'/\(b_ C.p g':Int)=t.M1)
theorem uX (hF:Fn p b first second F g C)(hx:ScOk C x ins)(top:ba C x<=C.J1){W W':Int->Int}{sp:Int}(QM:sp<=B-C.J1)(h:Vars C x B W vals)(hw:∀a,sp<=a->(a<B-C.J1\/B-ba C x<=a)->W' a=W a):Vars C x B W' vals:=h.keep fun j hj=>by
 obtain⟨_,v2,_⟩:=Du (B:=B) hF.hC hx top hj;exact hw _ o_ (.inr v2)
mutual
theorem Ey (E:Ec p b first second F g C x ins B fp dm c line rep call vals):∀(e:Ex) (d sp v:Int) (s:Gs) (st O5:IS) (W:Int->Int),e.ok->KnE C x.J3 e.toks->C.J1<=d->d+e.toks.length<=dm->(dk C rep x ins line e d s).J4<=C.J1->(dk C rep x ins line e d s).I8.length<(aG p F b).length->Seg p b F s.I8.length (dk C rep x ins line e d s).I8.length (dk C rep x ins line e d s).I8->
  evE C.p x.J3 vals call e st= .ok v O5->sp+d=B->Vars C x B W vals->Val p b first second F C x B fp s.I8.length (dk C rep x ins line e d s).I8.length sp sp W st O5 v
 | .node t es,d,sp,v,s,st,O5,W,ho,hk,hd,VD,hm,O2,QE,RS,QM,QN=>by
  rw[dk]at hm O2 QE⊢;rw[evE]at RS;rw[Ex.toks,d6]at VD;have UQ:=hk t (by rw[Ex.toks];simp);have aeg:=ho.2.1;have QP:=xO es;have gx:=LM (line:=line) E.px t (d+es.length) (ce C rep x ins line es d s);have gx0:=uy (line:=line) E.px es d s
  cases Sw:bG C.p x.J3 vals call es st with
  | stop c s'=>rw[Sw]at RS;cases RS
  | fuel=>rw[Sw]at RS;cases RS
  | ok av st1=>
   rw[Sw,Rr.bnd_ok]at RS;have U8:=pf Sw;obtain⟨W1,a1,a2,a3⟩:=BK E es d sp s st st1 av W ho.2.2 (fun u hu=>hk u (by rw[Ex.toks];simp[hu])) hd o_ (B0 gx.J4 hm) (Nat.lt_of_le_of_lt gx.px.le O2) (fun i i1 i2=>by rw[QE i i1 (w8 i2 gx.px.le)];exact gx.px.eq i i2) Sw QM QN;have Tl:=uX E.hF E.hx E.top (sp:=sp) o_ QN a3;have Ui:(ar t:Int)=es.length:=o_;rw[<-Ui]at hm O2 QE⊢;rw[<-Ui]at a1
   obtain⟨W2,b1,b2,b3⟩:=Nz E ho.1 UQ.1 UQ.2 (sp:=sp-ar t) (s:=ce C rep x ins line es d s) (d:=d) (W:=W1) hd o_ o_ hm O2 (fun i i1 i2=>QE i (s8 gx0.px.le i1) i2) o_ RS o_ (fun j hj=>by
    rw[show sp-(ar t:Int)+ar t-1-j=sp-1-j by omega]
    exact a2 j o_) Tl
   rw[show sp-(ar t:Int)+ar t=sp by omega]at b1 b2 b3;exact⟨W2,a1.trans b1,b2,fun a h1 h2=>by rw[b3 a h1 h2,a3 a h1 h2]⟩
theorem BK (E:Ec p b first second F g C x ins B fp dm c line rep call vals):∀(es:List Ex) (d sp:Int) (s:Gs) (st O5:IS) (av:List Int) (W:Int->Int),jd es->KnE C x.J3 (ao es)->C.J1<=d->d+(ao es).length<=dm->(ce C rep x ins line es d s).J4<=C.J1->(ce C rep x ins line es d s).I8.length<(aG p F b).length->Seg p b F s.I8.length (ce C rep x ins line es d s).I8.length (ce C rep x ins line es d s).I8->
  bG C.p x.J3 vals call es st= .ok av O5->sp+d=B->Vars C x B W vals->
  ∃W',Reach (aJ p b first second) ⟨adr p b first second F s.I8.length,sp,fp,W,st.out⟩ ⟨adr p b first second F (ce C rep x ins line es d s).I8.length,sp-es.length,fp,W',O5.out⟩/\(∀j:Nat,j<es.length->W' (sp-1-j)=atL av j)/\∀a,sp<=a->(a<B-C.J1\/B-ba C x<=a)->W' a=W a
 | [],d,sp,s,st,O5,av,W,_,_,_,_,_,_,_,RS,_,_=>by
  rw[ce];rw[bG]at RS;injection RS with e1 e2;subst e2;refine⟨W,?_,fun j hj=>absurd hj s_,fun a _ _=>rfl⟩;rw[show sp-(([]:List Ex).length:Int)=sp by simp]
  exact Reach.refl _
 | a::es,d,sp,s,st,O5,av,W,ho,hk,hd,VD,hm,O2,QE,RS,QM,QN=>by
  rw[ce]at hm O2 QE⊢;rw[bG]at RS;rw[ao,c7]at VD;have Rq:=a.toks_pos;have gx:=uy (line:=line) E.px es (d+1) (dk C rep x ins line a d s);have gx0:=Do (line:=line) E.px a d s
  cases hea:evE C.p x.J3 vals call a st with
  | stop c s'=>rw[hea]at RS;cases RS
  | fuel=>rw[hea]at RS;cases RS
  | ok v st1=>
   rw[hea,Rr.bnd_ok]at RS
   cases Sw:bG C.p x.J3 vals call es st1 with
   | stop c s'=>rw[Sw]at RS;cases RS
   | fuel=>rw[Sw]at RS;cases RS
   | ok vs st2=>
    rw[Sw,Rr.bnd_ok]at RS;injection RS with e1 e2;subst e1;subst e2;obtain⟨W1,a1,a2,a3⟩:=Ey E a d sp v s st st1 W ho.1 (fun u hu=>hk u abn) hd o_ (B0 gx.J4 hm) (Nat.lt_of_le_of_lt gx.px.le O2) (fun i i1 i2=>by rw[QE i i1 (w8 i2 gx.px.le)];exact gx.px.eq i i2) hea QM QN;have Tl:=uX E.hF E.hx E.top (sp:=sp) o_ QN a3;obtain⟨W2,b1,b2,b3⟩:=BK E es (d+1) (sp-1) (dk C rep x ins line a d s) st1 st2 vs W1 ho.2 (fun u hu=>hk u abn) o_ o_ hm O2 (fun i i1 i2=>QE i (s8 gx0.px.le i1) i2) Sw o_ Tl;refine⟨W2,?_,fun j hj=>?_,fun q h1 h2=>by rw[b3 q o_ h2,a3 q h1 h2]⟩
    ·rw[show sp-(((a::es).length:Nat):Int)=sp-1-es.length by simp;omega];exact a1.trans b1
    ·cases j with
     | zero=>
      rw[show sp-1-((0:Nat):Int)=sp-1 by omega,b3 (sp-1) o_ (.inl o_),a2]
      rfl
     | succ j=>rw[show sp-1-((j+1:Nat):Int)=sp-1-1-j by omega,b2 j aaV];simp[atL]
end
end
end
end Go.Proofs.P
