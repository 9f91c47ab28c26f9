/- The law FnRows answers true for every input and leaves its argument as it was. Conditions: none beyond the given statement. -/
import Derived.Test.YtogdbgmiigfmfaaGg
namespace Go.Proofs.Ytogdbgmiigfmfaa
open Go.Sim
set_option maxRecDepth 100000
set_option maxHeartbeats 4000000
def chOk (l:List TItem):Prop:=∀it∈l,it.fChain.length≤4
structure Cap (M t:Nat) (s s':Gs):Prop where
 le:s'.items.length≤max s.items.length M+t
 ch:chOk s.items→chOk s'.items
theorem Cap.refl {M:Nat}(s:Gs):Cap M 0 s s:=⟨by omega,id⟩
theorem Cap.trans {M n m:Nat}{a b c:Gs}(h:Cap M n a b)(h':Cap M m b c):Cap M (n+m) a c:=⟨by have:=h.le;have:=h'.le;omega,fun x=>h'.ch (h.ch x)⟩
theorem Cap.mono {M n m:Nat}{a b:Gs}(h:Cap M n a b)(hn:n≤m):Cap M m a b:=⟨by have:=h.le;omega,h.ch⟩
theorem emitG_cap {M:Nat}(C:Cx)(s:Gs)(d code arg line:Int){chain:List Int}(hc:chain.length≤4):Cap M 1 s (emitG C s d code arg line chain):=by
 refine⟨by simp only[emitG,List.length_append,List.length_cons,List.length_nil];omega,fun h it hit=>?_⟩
 simp only[emitG,List.mem_append,List.mem_cons,List.not_mem_nil,or_false]at hit
 rcases hit with hit|rfl
 ·exact h it hit
 ·exact hc
theorem setArg_ch {l:List TItem}(h:chOk l)(j v:Int):chOk (setArg l j v):=by
 unfold setArg
 split
 ·split
  ·rename_i it hi
   intro z hz
   rcases List.mem_or_eq_of_mem_set hz with hz|rfl
   ·exact h z hz
   ·exact h it (List.mem_of_getElem? hi)
  ·exact h
 ·exact h
theorem patchL_ch (v:Int):∀(js:List Int) {l:List TItem},chOk l→chOk (patchL l v js)
 | [],_,h=>h
 | j::js,_,h=>by rw[patchL];exact patchL_ch v js (setArg_ch h j v)
theorem Cap.set {M n:Nat}{a b:Gs}{l:List TItem}(h:Cap M n a b)(hl:l.length=b.items.length)(hc:chOk b.items→chOk l):Cap M n a ⟨l,b.most,b.start⟩:=⟨by have:=h.le;simp only[hl];omega,fun x=>hc (h.ch x)⟩
section
variable {C:Cx} {x:Sc} {ins:List Nat} {rep:Sc→List Nat→Nat→Nat→Int→Gs→Gs} {line:Nat} {M:Nat}
theorem storesG_cap (y:Sc){chain:List Int}(hc:chain.length≤4)(line:Int):∀(n:Nat) (d:Int) (s:Gs),Cap M n s (storesG C y chain line n d s)
 | 0,d,s=>Cap.refl s
 | n+1,d,s=>by
  rw[storesG]
  exact((emitG_cap C s d _ _ _ hc).trans (storesG_cap y hc line n (d - 1) _)).mono (by omega)
theorem zerosG_cap (y:Sc){chain:List Int}(hc:chain.length≤4)(line d:Int):∀(n i:Nat) (s:Gs),Cap M (2 * n) s (zerosG C y chain line d n i s)
 | 0,i,s=>Cap.refl s
 | n+1,i,s=>by
  rw[zerosG]
  exact(((emitG_cap C s d _ _ _ hc).trans (emitG_cap C _ (d+1) _ _ _ hc)).trans (zerosG_cap y hc line d n (i+1) _)).mono (by omega)
theorem finG_cap (hx:x.chain.length≤4)(hrep:∀g d s,isFun C g→replB C ins g s.items.length=true→Cap M 0 s (rep x ins line g d s))(t:TTok)(d:Int)(s:Gs):Cap M 1 s (finG C rep x ins line t d s):=by
 unfold finG
 split
 ·exact emitG_cap _ _ _ _ _ _ hx
 ·split
  ·exact emitG_cap _ _ _ _ _ _ hx
  ·split
   ·split
    ·rename_i g hg
     split
     ·rename_i hr
      obtain⟨_,ln,h1,h2,_⟩:=find_some hg
      exact(hrep g d s ⟨ln,h1,h2⟩ hr).mono (by omega)
     ·exact emitG_cap _ _ _ _ _ _ hx
    ·exact(Cap.refl s).mono (by omega)
   ·exact emitG_cap _ _ _ _ _ _ hx
mutual
theorem genE_cap (hx:x.chain.length≤4)(hrep:∀g d s,isFun C g→replB C ins g s.items.length=true→Cap M 0 s (rep x ins line g d s)):∀(e:Ex) (d:Int) (s:Gs),Cap M e.toks.length s (genE C rep x ins line e d s)
 | .node t es,d,s=>by
  rw[genE,Ex.toks,List.length_cons]
  exact((genEs_cap hx hrep es d s).trans (finG_cap hx hrep t _ _)).mono (by omega)
theorem genEs_cap (hx:x.chain.length≤4)(hrep:∀g d s,isFun C g→replB C ins g s.items.length=true→Cap M 0 s (rep x ins line g d s)):∀(es:List Ex) (d:Int) (s:Gs),Cap M (exToks es).length s (genEs C rep x ins line es d s)
 | [],d,s=>by rw[genEs,exToks];exact(Cap.refl s).mono (by omega)
 | a::es,d,s=>by
  rw[genEs,exToks,List.length_append]
  exact(genE_cap hx hrep a d s).trans (genEs_cap hx hrep es (d+1) _)
end
theorem preG_cap (hC:CxOk C)(hx:x.chain.length≤4)(line:Nat){g:Nat}(hg:isFun C g)(d:Int)(s:Gs):Cap M 16 s (preG C x line g d s):=by
 obtain⟨h1,h2⟩:=isFun_locals hC hg
 have h0:Cap M 0 s ⟨s.items,max s.most (topOf C x+(localsOf C.p (g:Int)).length),s.start⟩:=⟨by dsimp only;omega,id⟩
 unfold preG
 exact((h0.trans (storesG_cap _ hx _ _ _ _)).trans (zerosG_cap _ hx _ _ _ _ _)).mono (by omega)
theorem spaceG_cap (hx:x.chain.length≤4)(line:Nat)(d:Int)(s:Gs):Cap M 1 s (spaceG C x line d s):=by
 unfold spaceG
 split
 ·exact emitG_cap _ _ _ _ _ _ hx
 ·exact(Cap.refl s).mono (by omega)
theorem leaveG_cap (hx:x.chain.length≤4)(k:Nat)(last:Bool)(d:Int)(L:Ls):Cap M 1 L.g (leaveG C x k last d L).g:=by
 unfold leaveG
 split
 ·split
  ·exact emitG_cap _ _ _ _ _ _ hx
  ·exact emitG_cap _ _ _ _ _ _ hx
 ·split
  ·exact(Cap.refl _).mono (by omega)
  ·exact emitG_cap _ _ _ _ _ _ hx
theorem genE_cap' (hx:x.chain.length≤4)(hrep:∀g d s,isFun C g→replB C ins g s.items.length=true→Cap M 0 s (rep x ins line g d s))(hC:CxOk C){k:Nat}{ln:TLine}(hk:C.p[k]?=some ln)(he:exprOk ln.fExpr=true)(d:Int)(s:Gs):Cap M 20 s (genE C rep x ins line (exL ln.fExpr) d s):=by
 have h1:=(exL_ok he).2
 have h2:=(hC.line _ _ hk).2.2.2.1
 rw[h1]at h2
 exact(genE_cap hx hrep _ d s).mono h2
theorem stepA_cap (hx:x.chain.length≤4)(hrep:∀line g d s,isFun C g→replB C ins g s.items.length=true→Cap M 0 s (rep x ins line g d s))(hC:CxOk C){k:Nat}{ln:TLine}(hk:C.p[k]?=some ln)(h0:ln.fKind≠0)(base:Int)(L:Ls):Cap M 22 L.g (stepA C rep x ins base k ln L).g:=by
 unfold stepA
 split
 ·exact((emitG_cap C L.g base 10 0 k hx).set (setArg_len' _ _ _) fun h=>setArg_ch h _ _).mono (by omega)
 ·split
  ·split
   ·refine Cap.mono (n:=1+1) ?_ (by omega)
    exact(emitG_cap C L.g base 0 0 k hx).trans (leaveG_cap hx k true (base+1) {L with g:=emitG C L.g base 0 0 k x.chain})
   ·split
    ·exact(emitG_cap _ _ _ _ _ _ hx).mono (by omega)
    ·exact(Cap.refl _).mono (by omega)
  ·rename_i h4 h7
   have hl:=hC.line _ _ hk
   have h20:Cap M 20 L.g (genE C rep x ins k (exL ln.fExpr) base ⟨L.g.items,L.g.most,true⟩):=by
    have:=genE_cap' hx (fun g d s=>hrep k g d s) hC hk (hl.2.2.2.2 (by omega)) base ⟨L.g.items,L.g.most,true⟩
    exact⟨this.le,this.ch⟩
   split
   ·exact(h20.trans (emitG_cap _ _ _ _ _ _ hx)).mono (by omega)
   ·split
    ·exact(h20.trans (emitG_cap _ _ _ _ _ _ hx)).mono (by omega)
    ·split
     ·refine Cap.mono (n:=20+1) ?_ (by omega)
      exact h20.trans (leaveG_cap hx k false (base+1) {L with g:=genE C rep x ins k (exL ln.fExpr) base ⟨L.g.items,L.g.most,true⟩,heads:=L.heads.set k L.g.items.length})
     ·exact(h20.trans (emitG_cap _ _ _ _ _ _ hx)).mono (by omega)
theorem stepB_cap (k:Nat)(ln:TLine)(L:Ls):Cap M 0 L.g (stepB C x k ln L).g:=by
 unfold stepB
 split
 ·exact(Cap.refl _).set (setArg_len' _ _ _) fun h=>setArg_ch h _ _
 ·exact Cap.refl _
theorem runL_cap (hx:x.chain.length≤4)(hrep:∀line g d s,isFun C g→replB C ins g s.items.length=true→Cap M 0 s (rep x ins line g d s))(hC:CxOk C)(base:Int):∀(n k:Nat) (L:Ls),(∀i y,k≤i→i < k+n→C.p[i]?=some y→y.fKind≠0)→Cap M (n * 22) L.g (runL C rep x ins base n k L).g
 | 0,k,L,_=>(Cap.refl _).mono (by omega)
 | n+1,k,L,h=>by
  rw[runL]
  split
  ·rename_i ln hk
   exact(((stepA_cap hx hrep hC hk (h k ln (Nat.le_refl _) (by omega) hk) base L).trans (stepB_cap k ln _)).trans (runL_cap hx hrep hC base n (k+1) _ fun i y h1 h2 hy=>h i y (by omega) (by omega) hy)).mono (by omega)
  ·exact(Cap.refl _).mono (by omega)
theorem linesG_cap (hc:x.chain.length≤4)(hrep:∀line g d s,isFun C g→replB C ins g s.items.length=true→Cap M 0 s (rep x ins line g d s))(hC:CxOk C)(hx:ScOk C x ins)(base:Int)(s:Gs):Cap M ((endL' C.p x.f - x.f) * 22) s (linesG C rep x ins base s).1:=by
 unfold linesG
 obtain⟨ln,h1,h2⟩:=hx.fn
 obtain⟨e,h3,_,_,h4⟩:=hC.fn _ _ h1 h2
 obtain⟨e',g3,_,_,g5,_⟩:=hx.endE hC
 rw[h3]at g3
 injection g3 with g3
 subst g3
 rw[g5]
 refine runL_cap hc hrep hC base (e - x.f) (x.f+1) (startL C s) fun i y k1 k2 hy=>?_
 by_cases hie:i=e
 ·subst hie
  obtain⟨z,hz,h7⟩:=endAt_kind h3
  rw[hy]at hz
  injection hz with hz
  subst hz
  omega
 ·exact(h4 i y (by omega) (by omega) hy).1
end
theorem repN_cap {C:Cx}(hC:CxOk C):∀(lev:Nat) {x:Sc} {ins:List Nat} (line g:Nat) (d:Int) (s:Gs),ScOk C x ins→isFun C g→replB C ins g s.items.length=true→Cap (217+198 * lev) 0 s (repN C lev x ins line g d s)
 | 0,x,ins,line,g,d,s,hx,hg,hr=>(Cap.refl s).mono (by omega)
 | lev+1,x,ins,line,g,d,s,hx,hg,hr=>by
  obtain⟨r1,r2,r3,_⟩:=replB_spec hr
  have hin:=hC.inl
  have hch:=hx.chain
  have hy:=inSc_ok hC hx line hg
  have h1:=preG_cap (M:=217) (x:=x) hC (by omega) line hg d s
  have h2:=spaceG_cap (C:=C) (M:=217) (x:=x) (by omega) line (d - argsN C.p g) (preG C x line g d s)
  have hcy:=hy.chain
  rw[List.length_append,List.length_cons,List.length_nil]at hcy
  have h3:=linesG_cap (M:=217+198 * lev) (rep:=repN C lev) (by omega) (fun line g d s hg hr=>repN_cap hC lev line g d s hy hg hr) hC hy (d - argsN C.p g) (spaceG C x line (d - argsN C.p g) (preG C x line g d s))
  obtain⟨e,e1,e2,e3,e4,_⟩:=hy.endE hC
  have e5:endOf C.p (g:Int)=(e:Int):=by rw[endOf_at];exact endI_some e1
  have e6:endL' C.p (inSc C x line g).f - (inSc C x line g).f≤9:=by rw[e4];show e - g≤9;omega
  show Cap _ 0 s (replG C (linesG C (repN C lev)) x ins line g d s)
  unfold replG
  have l1:=preG_grow hC hx (by omega) line hg d s
  have l2:=spaceG_grow (C:=C) x line (d - argsN C.p g) (preG C x line g d s)
  refine⟨?_,fun h=>patchL_ch _ _ (h3.ch (h2.ch (h1.ch h)))⟩
  simp only[patchL_len]
  have k3:=h3.le
  have k1:=l1.le
  have k2:=l2.le
  omega
theorem compG_cap {C:Cx}(hC:CxOk C){g:Nat}(hg:isFun C g)(e5:C.args=argsN C.p g):(compG C g).items.length≤2500∧chOk (compG C g).items:=by
 have hS:ScOk C (outerSc C g) [g]:=⟨hg,rfl,⟨Int.le_refl _,by simp[outerSc]⟩,rfl,by simp[outerSc],fun _=>e5,rfl⟩
 have hG:=linesG_cap (M:=217+198 * C.b.fInline.toNat) (rep:=repN C C.b.fInline.toNat) (by simp[outerSc]) (fun line g d s hg hr=>repN_cap hC _ line g d s hS hg hr) hC hS C.words (headG C g)
 obtain⟨e,e1,e2,e3,e4,_⟩:=hS.endE hC
 have hl:=hC.len
 have hin:=hC.inl
 have hh:(headG C g).items.length=1:=by simp[headG,emitG]
 have hk:=hG.le
 refine⟨?_,hG.ch fun it hit=>?_⟩
 ·show(linesG C (repN C C.b.fInline.toNat) (outerSc C g) [g] C.words (headG C g)).1.items.length≤2500
  omega
 ·simp only[headG,emitG,List.nil_append,List.mem_cons,List.not_mem_nil,or_false]at hit
  subst hit
  exact Nat.zero_le _
theorem compiled_of {p:List TLine}{f:Int}{b:TBuild}(hs:smallT 1048576 (.lst 4 (p.map TLine.tr)))(h1:programOk p=true)(h2:buildOk b=true)(h3:0≤f)(h4:f < (funs p).length):∃(g:Nat) (C:Cx),(funs p)[f.toNat]?=some g∧CxOk C∧C.p=foldIf p b∧C.b=b∧C.args=argsN C.p g∧C.framed=framedB b.fFrames f∧isFun C g∧compileF p f b=(compG C g).items∧C.words=(compG (ctx (foldIf p b) f.toNat g b 0) g).most:=by
 obtain⟨f,rfl⟩:=Int.eq_ofNat_of_zero_le h3
 have hb:0≤b.fInline∧b.fInline≤3:=by
  unfold buildOk at h2
  simp only[Bool.and_eq_true,within_iff]at h2
  exact h2.2
 obtain⟨g,hg⟩:=get_of_lt (l:=funs p) (k:=f) (by omega)
 have hpg:=(PgOk_of hs h1).foldIf b
 have hg':(funs (foldIf p b))[f]?=some g:=by rw[foldIf_funs];exact hg
 obtain⟨hgl,y,hy,hy0⟩:=funs_lt (List.mem_of_getElem? hg')
 have h4':=(hpg.line g y hy).2.2.1
 have ha:(0:Int)≤(argsN (foldIf p b) g:Int)∧(argsN (foldIf p b) g:Int)≤4:=by rw[argsN,hy];dsimp only;omega
 have hC0:CxOk (ctx (foldIf p b) f g b 0):=hpg.cx ha (by omega) hb
 have hm:=compG_most hC0 ⟨y,hy,hy0⟩ rfl
 have hC1:CxOk (ctx (foldIf p b) f g b (compG (ctx (foldIf p b) f g b 0) g).most):=hpg.cx ha hm hb
 refine⟨g,_,by rw[Int.toNat_natCast];exact hg,hC1,rfl,rfl,rfl,rfl,⟨y,hy,hy0⟩,?_,by rw[Int.toNat_natCast];rfl⟩
 rw[compileF,if_pos ⟨h1,h2,h3,h4⟩,Int.toNat_natCast,compiled,hg']
theorem compileF_cap {p:List TLine}{f:Int}{b:TBuild}(hs:smallT 1048576 (.lst 4 (p.map TLine.tr))):(compileF p f b).length≤2500∧chOk (compileF p f b):=by
 by_cases hc:programOk p=true∧buildOk b=true∧0≤f∧f < (funs p).length
 ·obtain⟨h1,h2,h3,h4⟩:=hc
  obtain⟨g,C,_,k2,_,_,k5,_,k7,k8,_⟩:=compiled_of hs h1 h2 h3 h4
  rw[k8]
  exact compG_cap k2 k7 k5
 ·rw[compileF,if_neg hc]
  exact⟨by simp,fun it h=>by cases h⟩
end Go.Proofs.Ytogdbgmiigfmfaa
namespace Go.Proofs.Ytogdbgmiigfmfaa
open Go.Sim
set_option maxRecDepth 100000
set_option maxHeartbeats 4000000
def opGood (c a:Int):Prop:=0≤c∧c≤17∧(c=0→-2147483648≤a∧a≤2147483647)∧(c=1∨c=2∨c=3∨c=4∨c=10∨c=11→-32768≤a∧a≤32767)∧(c=16→0≤a∧a≤65535)∧(c=12∨c=13∨c=14∨c=15→0≤a∧a≤255)∧(5≤c∧c≤9∨c=17→a=0)
def BodyL (C:Cx)(line:Int):Prop:=∃y,0≤line∧C.p[line.toNat]?=some y∧y.fKind≠0
structure GoodI (C:Cx) (n:Nat) (it:TItem):Prop where
 line:BodyL C it.fLine
 jump:it.fOp.fCode=10∨it.fOp.fCode=11→0≤it.fOp.fArg∧it.fOp.fArg≤n
 op:¬(it.fOp.fCode=10∨it.fOp.fCode=11)→opGood it.fOp.fCode it.fOp.fArg
 enter:it.fOp.fCode≠13
theorem GoodI.mono {C:Cx}{n m:Nat}{it:TItem}(h:GoodI C n it)(hn:n≤m):GoodI C m it:=⟨h.line,fun k=>by have:=h.jump k;omega,h.op,h.enter⟩
def HeadI (C:Cx)(g:Nat)(it:TItem):Prop:=(it.fOp.fCode=13∨it.fOp.fCode=15)∧it.fLine=g∧it.fOp.fArg=C.words
def InvI (C:Cx)(g:Nat)(l:List TItem):Prop:=∃h t,l=h::t∧HeadI C g h∧∀it∈t,GoodI C l.length it
def codeAt (l:List TItem)(i:Nat):Option Int:=(l[i]?).map (·.fOp.fCode)
def JP (l:List TItem)(j:Int):Prop:=0≤j∧∃c,codeAt l j.toNat=some c∧(c=10∨c=11)
structure Tr2 (C:Cx) (g:Nat) (a b:Gs):Prop where
 ext:∀i c,codeAt a.items i=some c→codeAt b.items i=some c
 inv:InvI C g a.items→InvI C g b.items
 most:a.most≤60→b.most≤60
theorem Tr2.refl {C:Cx}{g:Nat}(s:Gs):Tr2 C g s s:=⟨fun _ _ h=>h,id,id⟩
theorem Tr2.trans {C:Cx}{g:Nat}{a b c:Gs}(h:Tr2 C g a b)(h':Tr2 C g b c):Tr2 C g a c:=⟨fun i v x=>h'.ext i v (h.ext i v x),fun x=>h'.inv (h.inv x),fun x=>h'.most (h.most x)⟩
theorem codeAt_lt {l:List TItem}{i:Nat}{c:Int}(h:codeAt l i=some c):i < l.length:=by
 unfold codeAt at h
 cases hi:l[i]? with
 | none=>rw[hi]at h;cases h
 | some x=>exact lt_of_get hi
theorem codeAt_some {l:List TItem}{i:Nat}(h:i < l.length):∃c,codeAt l i=some c:=by
 obtain⟨x,hx⟩:=get_of_lt h
 exact⟨x.fOp.fCode,by rw[codeAt,hx];rfl⟩
theorem JP.ext {a b:List TItem}(h:∀i c,codeAt a i=some c→codeAt b i=some c){j:Int}(hj:JP a j):JP b j:=by
 obtain⟨h0,c,h1,h2⟩:=hj
 exact⟨h0,c,h _ _ h1,h2⟩
theorem Tr2.len {C:Cx}{g:Nat}{a b:Gs}(h:Tr2 C g a b):a.items.length≤b.items.length:=by
 rcases Nat.eq_zero_or_pos a.items.length with h0|h0
 ·omega
 ·obtain⟨c,hc⟩:=codeAt_some (l:=a.items) (i:=a.items.length - 1) (by omega)
  have:=codeAt_lt (h.ext _ _ hc)
  omega
theorem emit_tr {C:Cx}{g:Nat}{s:Gs}{d code arg line:Int}{chain:List Int}(hl:BodyL C line)(h1:code=10∨code=11→0≤arg∧arg≤s.items.length)(h2:¬(code=10∨code=11)→opGood code arg)(h3:code≠13):Tr2 C g s (emitG C s d code arg line chain):=by
 refine⟨fun i c h=>?_,fun⟨h,t,e1,e2,e3⟩=>?_,id⟩
 ·have:=codeAt_lt h
  unfold codeAt at h ⊢
  simp only[emitG]
  rw[List.getElem?_append_left this]
  exact h
 ·refine⟨h,t++[mkItem C s d code arg line chain],by simp[emitG,e1],e2,fun it hit=>?_⟩
  have hn:s.items.length≤(emitG C s d code arg line chain).items.length:=by simp[emitG]
  rw[List.mem_append,List.mem_singleton]at hit
  rcases hit with hit|rfl
  ·exact(e3 it hit).mono hn
  ·exact⟨hl,fun k=>by have:=h1 k;simp only[mkItem];omega,h2,h3⟩
theorem setArg_code {l:List TItem}{j v:Int}(i:Nat):codeAt (setArg l j v) i=codeAt l i:=by
 unfold setArg
 split
 ·split
  ·rename_i x hx
   unfold codeAt
   by_cases h:j.toNat=i
   ·subst h
    rw[List.getElem?_set_self (lt_of_get hx),hx]
    rfl
   ·rw[List.getElem?_set_ne h]
  ·rfl
 ·rfl
theorem setArg_inv {C:Cx}{g:Nat}{l:List TItem}{j:Int}(h:InvI C g l)(hj:JP l j):InvI C g (setArg l j l.length):=by
 obtain⟨a,t,e1,e2,e3⟩:=h
 obtain⟨h0,c,h1,h2⟩:=hj
 unfold setArg
 rw[if_pos h0]
 cases hx:l[j.toNat]? with
 | none=>simp only;exact⟨a,t,e1,e2,e3⟩
 | some x=>
  have hc:x.fOp.fCode=c:=by rw[codeAt,hx]at h1;simpa using h1
  have hj0:j.toNat≠0:=by
   intro h
   rw[h,e1]at hx
   simp at hx
   subst hx
   have:=e2.1
   omega
  obtain⟨m,hm⟩:∃m,j.toNat=m+1:=⟨j.toNat - 1,by omega⟩
  rw[hm,e1,List.getElem?_cons_succ]at hx
  have hg:=e3 x (List.mem_of_getElem? hx)
  refine⟨a,t.set m ⟨⟨x.fOp.fCode,l.length⟩,x.fLine,x.fStart,x.fChain,x.fDepth,x.fEntered⟩,?_,e2,fun it hit=>?_⟩
  ·rw[e1,hm];rfl
  ·rw[List.length_set]
   rcases List.mem_or_eq_of_mem_set hit with hit|rfl
   ·exact e3 it hit
   ·exact⟨hg.line,fun _=>by simp only;omega,fun k=>absurd (by rw[hc];exact h2) k,hg.enter⟩
theorem setArg_tr {C:Cx}{g:Nat}{s:Gs}{j:Int}(hj:JP s.items j):Tr2 C g s ⟨setArg s.items j s.items.length,s.most,s.start⟩:=
 ⟨fun i c h=>by rw[setArg_code];exact h,fun h=>setArg_inv h hj,id⟩
theorem patchL_tr {C:Cx}{g:Nat}:∀(js:List Int) {s:Gs},(∀j∈js,JP s.items j)→Tr2 C g s ⟨patchL s.items s.items.length js,s.most,s.start⟩
 | [],s,_=>Tr2.refl s
 | j::js,s,h=>by
  have h1:=setArg_tr (C:=C) (g:=g) (s:=s) (h j (by simp))
  have h2:=patchL_tr (C:=C) (g:=g) js (s:=⟨setArg s.items j s.items.length,s.most,s.start⟩) fun i hi=>(h i (by simp[hi])).ext h1.ext
  simp only[setArg_len']at h2
  exact h1.trans h2
theorem emit_JP {C:Cx}{s:Gs}{d code arg line:Int}{chain:List Int}(h:code=10∨code=11):JP (emitG C s d code arg line chain).items (s.items.length:Int):=by
 refine⟨by omega,code,?_,h⟩
 rw[codeAt,Int.toNat_natCast]
 simp[emitG,mkItem]
theorem exs_len:∀(es:List Ex),es.length≤(exToks es).length
 | []=>Nat.zero_le _
 | a::es=>by
  have:=exs_len es
  have:=a.toks_pos
  rw[exToks,List.length_append,List.length_cons];omega
section
variable {C:Cx} {x:Sc} {ins:List Nat} {rep:Sc→List Nat→Nat→Nat→Int→Gs→Gs} {line:Nat} {G:Nat}
theorem place_good (hC:CxOk C){y:Sc}(hf:0≤y.first∧y.first≤200){d i:Int}(hd:-100≤d∧d≤2000)(hi:-2≤i∧i≤100)(store:Bool):¬(placeC C store=10∨placeC C store=11)∧placeC C store≠13∧opGood (placeC C store) (placeA C y d i):=by
 have ha:=hC.args
 have hk:aboveK C y i≥-10∧aboveK C y i≤400:=by unfold aboveK;split <;> omega
 have hc:1≤placeC C store∧placeC C store≤4:=by unfold placeC;split <;> split <;> omega
 have hA:-10000≤placeA C y d i∧placeA C y d i≤10000:=by unfold placeA;repeat' split <;> omega
 unfold opGood
 omega
theorem load_tr (hC:CxOk C){y:Sc}(hf:0≤y.first∧y.first≤200){d i line:Int}(hd:-100≤d∧d≤2000)(hi:-2≤i∧i≤100)(hl:BodyL C line)(s:Gs):Tr2 C G s (loadG C y s d i line):=by
 obtain⟨h1,h2,h3⟩:=place_good hC hf hd hi false
 exact emit_tr hl (fun k=>absurd k h1) (fun _=>h3) h2
theorem store_tr (hC:CxOk C){y:Sc}(hf:0≤y.first∧y.first≤200){d i line:Int}(hd:-100≤d∧d≤2000)(hi:-2≤i∧i≤100)(hl:BodyL C line)(s:Gs)(chain:List Int):Tr2 C G s (storeG C y s d i line chain):=by
 obtain⟨h1,h2,h3⟩:=place_good hC hf hd hi true
 exact emit_tr hl (fun k=>absurd k h1) (fun _=>h3) h2
theorem zero_good:opGood 0 0:=by unfold opGood;omega
theorem stores_tr (hC:CxOk C){y:Sc}(hf:0≤y.first∧y.first≤200){chain:List Int}{line:Int}(hl:BodyL C line):∀(n:Nat) (d:Int) (s:Gs),n≤50→-100≤d - n→d≤2000→Tr2 C G s (storesG C y chain line n d s)
 | 0,d,s,_,_,_=>Tr2.refl s
 | n+1,d,s,h0,h1,h2=>by
  rw[storesG]
  exact(store_tr hC hf (by omega) (by omega) hl s chain).trans (stores_tr hC hf hl n (d - 1) _ (by omega) (by omega) (by omega))
theorem zeros_tr (hC:CxOk C){y:Sc}(hf:0≤y.first∧y.first≤200){chain:List Int}{line d:Int}(hl:BodyL C line)(hd:-100≤d∧d≤1999):∀(n i:Nat) (s:Gs),i+n≤50→Tr2 C G s (zerosG C y chain line d n i s)
 | 0,i,s,_=>Tr2.refl s
 | n+1,i,s,h=>by
  rw[zerosG]
  exact((emit_tr hl (fun k=>by omega) (fun _=>zero_good) (by omega)).trans (store_tr hC hf (by omega) (by omega) hl _ chain)).trans (zeros_tr hC hf hl hd n (i+1) _ (by omega))
def RepT (C:Cx)(rep:Sc→List Nat→Nat→Nat→Int→Gs→Gs)(G:Nat)(x:Sc)(ins:List Nat):Prop:=
 ∀(line g:Nat) (d:Int) (s:Gs),BodyL C line→isFun C g→-10 * (ins.length:Int)≤d→d≤1000+30 * ins.length+21→replB C ins g s.items.length=true→Tr2 C G s (rep x ins line g d s)
theorem fin_tr (hC:CxOk C)(hx:ScOk C x ins)(hi:ins.length≤4)(hrep:RepT C rep G x ins)(hl:BodyL C line){t:TTok}(ht:tokOk t=true){d:Int}(h1:-10 * (ins.length:Int)≤d)(h2:d≤1000+30 * ins.length+21)(s:Gs):Tr2 C G s (finG C rep x ins line t d s):=by
 obtain⟨e,e1,e2,e3,e4,e5⟩:=hx.endE hC
 have hfi:=hx.first
 have hli:=idxOf_le x.locals t.fName
 unfold tokOk at ht
 unfold finG
 split
 ·rename_i h0
  rw[if_pos h0]at ht
  simp only[Bool.and_eq_true,within_iff]at ht
  exact emit_tr hl (fun k=>by omega) (fun _=>by unfold opGood;omega) (by omega)
 ·rename_i h0
  rw[if_neg h0]at ht
  split
  ·exact load_tr hC (by omega) (by omega) (by omega) hl s
  ·rename_i h1
   split
   ·split
    ·rename_i g hg
     obtain⟨_,ln,k1,k2,_⟩:=find_some hg
     split
     ·rename_i hr
      exact hrep line g d s hl ⟨ln,k1,k2⟩ (by omega) (by omega) hr
     ·have hn:=numOf_le C.p g
      have:=lt_of_get k1
      have:=hC.len
      exact emit_tr hl (fun k=>by omega) (fun _=>by unfold opGood;omega) (by omega)
    ·exact Tr2.refl s
   ·rename_i h7
    rw[if_neg h7,if_neg h1]at ht
    simp only[Bool.and_eq_true,within_iff]at ht
    exact emit_tr hl (fun k=>by omega) (fun _=>by unfold opGood;omega) (by omega)
mutual
theorem genE_tr (hC:CxOk C)(hx:ScOk C x ins)(hi:ins.length≤4)(hrep:RepT C rep G x ins)(hl:BodyL C line):∀(e:Ex) (d:Int) (s:Gs),e.ok→-10 * (ins.length:Int)≤d→d+e.toks.length≤1000+30 * ins.length+21→Tr2 C G s (genE C rep x ins line e d s)
 | .node t es,d,s,h,h1,h2=>by
  rw[Ex.toks,List.length_cons]at h2
  rw[genE]
  have hle:=exs_len es
  exact(genEs_tr hC hx hi hrep hl es d s h.2.2 h1 (by omega)).trans (fin_tr hC hx hi hrep hl h.1 (by omega) (by omega) _)
theorem genEs_tr (hC:CxOk C)(hx:ScOk C x ins)(hi:ins.length≤4)(hrep:RepT C rep G x ins)(hl:BodyL C line):∀(es:List Ex) (d:Int) (s:Gs),exsOk es→-10 * (ins.length:Int)≤d→d+(exToks es).length≤1000+30 * ins.length+21→Tr2 C G s (genEs C rep x ins line es d s)
 | [],d,s,_,_,_=>by rw[genEs];exact Tr2.refl s
 | a::es,d,s,h,h1,h2=>by
  rw[exToks,List.length_append]at h2
  rw[genEs]
  have hp:=a.toks_pos
  exact(genE_tr hC hx hi hrep hl a d s h.1 h1 (by omega)).trans (genEs_tr hC hx hi hrep hl es (d+1) _ h.2 (by omega) (by omega))
end
theorem space_tr (hl:BodyL C line)(x:Sc)(d:Int)(s:Gs):Tr2 C G s (spaceG C x line d s):=by
 unfold spaceG
 split
 ·exact emit_tr hl (fun k=>by omega) (fun _=>by unfold opGood;omega) (by omega)
 ·exact Tr2.refl s
theorem pre_tr (hC:CxOk C)(hx:ScOk C x ins)(hi:ins.length≤3)(hl:BodyL C line){g:Nat}(hg:isFun C g){d:Int}(h1:-10 * (ins.length:Int)≤d)(h2:d≤1000+30 * ins.length+21)(s:Gs):Tr2 C G s (preG C x line g d s):=by
 obtain⟨k1,k2⟩:=isFun_locals hC hg
 have hy:=inSc_ok hC hx line hg
 have hf:=hy.first
 rw[List.length_append,List.length_cons,List.length_nil]at hf
 have ht:=topOf_le hC hx
 have ha:=hC.argsN g
 have h0:Tr2 C G s ⟨s.items,max s.most (topOf C x+(localsOf C.p (g:Int)).length),s.start⟩:=⟨fun _ _ h=>h,id,fun h=>by dsimp only;omega⟩
 unfold preG
 exact(h0.trans (stores_tr hC (by omega) hl _ d _ (by omega) (by omega) (by omega))).trans (zeros_tr hC (by omega) hl (by omega) _ _ _ (by omega))
structure LsI (C:Cx) (G f k:Nat) (g0:Gs) (L:Ls):Prop where
 tr:Tr2 C G g0 L.g
 heads:∀v∈L.heads,0≤v∧v≤L.g.items.length
 pos:∀i,f+1≤i→i < k→jumps C.p i→JP L.g.items (atL L.pos i)
 lv:∀j∈L.lv,JP L.g.items j
 len:L.pos.length=C.p.length
theorem LsI.step {f k k':Nat}{g0:Gs}{L L':Ls}(h:LsI C G f k g0 L)(ht:Tr2 C G L.g L'.g)(hh:∀v∈L'.heads,v∈L.heads∨(0≤v∧v≤L'.g.items.length))(hp:∀i,f+1≤i→i < k'→jumps C.p i→(i < k∧atL L'.pos i=atL L.pos i)∨JP L'.g.items (atL L'.pos i))(hv:∀j∈L'.lv,j∈L.lv∨JP L'.g.items j)(hl:L'.pos.length=L.pos.length):LsI C G f k' g0 L':=by
 have hle:=ht.len
 refine⟨h.tr.trans ht,fun v hv=>?_,fun i h1 h2 h3=>?_,fun j hj=>?_,by rw[hl,h.len]⟩
 ·rcases hh v hv with h1|h1
  ·have:=h.heads v h1;omega
  ·exact h1
 ·rcases hp i h1 h2 h3 with⟨k1,k2⟩|k1
  ·rw[k2];exact(h.pos i h1 k1 h3).ext ht.ext
  ·exact k1
 ·rcases hv j hj with h1|h1
  ·exact(h.lv j h1).ext ht.ext
  ·exact h1
theorem LsI.same {f k:Nat}{g0:Gs}{L L':Ls}(h:LsI C G f k g0 L)(ht:Tr2 C G L.g L'.g)(e1:L'.heads=L.heads)(e2:L'.pos=L.pos)(e3:L'.lv=L.lv):LsI C G f k g0 L':=
 h.step ht (fun v hv=> .inl (by rw[←e1];exact hv)) (fun i _ h2 _=> .inl ⟨h2,by rw[e2]⟩) (fun j hj=> .inl (by rw[←e3];exact hj)) (by rw[e2])
theorem LsI.next {f k:Nat}{g0:Gs}{L:Ls}(h:LsI C G f k g0 L)(hj:¬jumps C.p k):LsI C G f (k+1) g0 L:=
 h.step (Tr2.refl _) (fun v hv=> .inl hv) (fun i h1 h2 h3=> .inl ⟨by
  rcases Nat.lt_or_ge i k with h|h
  ·exact h
  ·rw[show i=k by omega]at h3;exact absurd h3 hj,rfl⟩) (fun j hj=> .inl hj) rfl
theorem leave_tr (hC:CxOk C)(hw:C.words≤255){f k k':Nat}{g0:Gs}{L:Ls}(hl:BodyL C (k':Int))(last:Bool)(d:Int)(h:LsI C G f k g0 L):LsI C G f k g0 (leaveG C x k' last d L):=by
 have ha:=hC.args
 have hww:=hC.words
 unfold leaveG
 split
 ·split
  ·exact h.same (emit_tr hl (fun k=>by omega) (fun _=>by unfold opGood;omega) (by omega)) rfl rfl rfl
  ·exact h.same (emit_tr hl (fun k=>by omega) (fun _=>by unfold opGood;omega) (by omega)) rfl rfl rfl
 ·split
  ·exact h
  ·refine h.step (emit_tr hl (fun k=>by omega) (fun k=>by omega) (by omega)) (fun v hv=> .inl hv) (fun i _ h2 _=> .inl ⟨h2,rfl⟩) (fun j hj=>?_) rfl
   simp only[List.mem_append,List.mem_singleton]at hj
   rcases hj with hj|rfl
   ·exact .inl hj
   ·exact .inr (emit_JP (.inl rfl))
theorem atL_heads {l:List Int}{n:Int}(h:∀v∈l,0≤v∧v≤n)(hn:0≤n)(k:Nat):0≤atL l k∧atL l k≤n:=by
 unfold atL
 cases hk:l[k]? with
 | none=>simp only[Option.getD];omega
 | some v=>exact h v (List.mem_of_getElem? hk)
theorem stepA_tr (hC:CxOk C)(hw:C.words≤255)(hx:ScOk C x ins)(hi:ins.length≤4)(hrep:RepT C rep G x ins){e:Nat}(he:endAt C.p x.f=some e){k:Nat}{ln:TLine}(hk:C.p[k]?=some ln)(h0:ln.fKind≠0)(hk1:x.f < k)(hk2:k≤e){base:Int}(hb1:-10 * (ins.length:Int)≤base)(hb2:base≤1000+30 * ins.length){g0:Gs}{L:Ls}(h:LsI C G x.f k g0 L):LsI C G x.f (k+1) g0 (stepA C rep x ins base k ln L):=by
 have hl:BodyL C (k:Int):=⟨ln,by omega,by rw[Int.toNat_natCast];exact hk,h0⟩
 have hkl:k < C.p.length:=lt_of_get hk
 have hka:=kindAt_of hk
 unfold stepA
 split
 ·rename_i h4
  obtain⟨o1,o2,o3,o4⟩:=hx.own4 hC he hk1 hk2 hk h4
  obtain⟨y,_,hy,hy3,_⟩:=elseAt_some o1
  have hJ:=h.pos (ownOf C.p k) o2 o3 (.inl (by rw[kindAt_of hy];exact hy3))
  have t1:Tr2 C G L.g (emitG C L.g base 10 0 k x.chain):=emit_tr hl (fun _=>by omega) (fun k=>by omega) (by omega)
  have t2:=setArg_tr (C:=C) (g:=G) (hJ.ext t1.ext)
  refine h.step (t1.trans t2) (fun v hv=> .inl hv) (fun i h1 h2 h3=>?_) (fun j hj=> .inl hj) (by simp)
  by_cases hik:i=k
  ·subst hik
   refine .inr ?_
   rw[atL_self (by rw[h.len];exact hkl)]
   exact JP.ext t2.ext (emit_JP (.inl rfl))
  ·exact .inl ⟨by omega,atL_set hik⟩
 ·rename_i h4
  split
  ·rename_i h7
   have hnj:¬jumps C.p k:=by unfold jumps;rw[hka];omega
   split
   ·exact(leave_tr hC hw (x:=x) hl true (base+1) (h.same (L':={L with g:=emitG C L.g base 0 0 k x.chain}) (emit_tr hl (fun k=>by omega) (fun _=>zero_good) (by omega)) rfl rfl rfl)).next hnj
   ·split
    ·have hh:=atL_heads h.heads (by omega) (ownOf C.p k)
     exact(h.same (L':={L with g:=emitG C L.g base 10 (atL L.heads (ownOf C.p k)) k x.chain}) (emit_tr hl (fun _=>hh) (fun k=>by omega) (by omega)) rfl rfl rfl).next hnj
    ·exact h.next hnj
  ·rename_i h7
   have hlk:=hC.line _ _ hk
   have hex:=exL_ok (hlk.2.2.2.2 (by omega))
   have h20:=hlk.2.2.2.1
   rw[hex.2]at h20
   have tg:Tr2 C G L.g (genE C rep x ins k (exL ln.fExpr) base ⟨L.g.items,L.g.most,true⟩):=by
    have:=genE_tr hC hx hi hrep hl (exL ln.fExpr) base ⟨L.g.items,L.g.most,true⟩ hex.1 hb1 (by omega)
    exact⟨this.ext,this.inv,this.most⟩
   have hL1:LsI C G x.f k g0 {L with g:=genE C rep x ins k (exL ln.fExpr) base ⟨L.g.items,L.g.most,true⟩,heads:=L.heads.set k L.g.items.length}:=by
    refine h.step tg (fun v hv=>?_) (fun i _ h2 _=> .inl ⟨h2,rfl⟩) (fun j hj=> .inl hj) rfl
    rcases List.mem_or_eq_of_mem_set hv with hv|rfl
    ·exact .inl hv
    ·exact .inr ⟨by omega,by have:=tg.len;simp only;omega⟩
   have hli:=idxOf_le x.locals ln.fName
   obtain⟨_,_,_,_,_,e5⟩:=hx.endE hC
   have hfi:=hx.first
   generalize genE C rep x ins k (exL ln.fExpr) base ⟨L.g.items,L.g.most,true⟩=GE at tg hL1 ⊢
   split
   ·rename_i k1
    have hnj:¬jumps C.p k:=by unfold jumps;rw[hka];omega
    have t2:Tr2 C G GE (storeG C x GE (base+1) (idxOf x.locals ln.fName) k x.chain):=store_tr hC (by omega) (by omega) (by omega) hl _ _
    exact(hL1.same (L':={L with g:=storeG C x GE (base+1) (idxOf x.locals ln.fName) k x.chain,heads:=L.heads.set k L.g.items.length}) t2 rfl rfl rfl).next hnj
   ·split
    ·rename_i k2
     have hnj:¬jumps C.p k:=by unfold jumps;rw[hka];omega
     have t2:Tr2 C G GE (emitG C GE (base+1) 17 0 k x.chain):=emit_tr hl (fun k=>by omega) (fun _=>by unfold opGood;omega) (by omega)
     exact(hL1.same (L':={L with g:=emitG C GE (base+1) 17 0 k x.chain,heads:=L.heads.set k L.g.items.length}) t2 rfl rfl rfl).next hnj
    ·split
     ·rename_i k6
      have hnj:¬jumps C.p k:=by unfold jumps;rw[hka];omega
      exact(leave_tr hC hw (x:=x) hl false (base+1) hL1).next hnj
     ·refine hL1.step (emit_tr hl (fun _=>by omega) (fun k=>by omega) (by omega)) (fun v hv=> .inl hv) (fun i h1 h2 h3=>?_) (fun j hj=> .inl hj) (by simp)
      by_cases hik:i=k
      ·subst hik
       refine .inr ?_
       rw[atL_self (by rw[h.len];exact hkl)]
       exact emit_JP (.inr rfl)
      ·exact .inl ⟨by omega,atL_set hik⟩
theorem stepB_tr (hC:CxOk C)(hx:ScOk C x ins){e:Nat}(he:endAt C.p x.f=some e){k:Nat}{ln:TLine}(hk:C.p[k]?=some ln)(hk1:x.f < k)(hk2:k≤e){g0:Gs}{L:Ls}(h:LsI C G x.f (k+1) g0 L):LsI C G x.f (k+1) g0 (stepB C x k ln L):=by
 unfold stepB
 split
 ·rename_i h7
  have hke:k≠e:=fun hh=>by
   rcases(hx.own7 hC he hk1 hk2 hk h7.1).2 with⟨_,o⟩|⟨o,_⟩
   ·exact h7.2 o
   ·omega
  obtain⟨k1,k2,k3,_,_⟩:=exit_to hC hx he hk1 (by omega) hk h7.1
  exact h.same (setArg_tr (h.pos _ k1 (by omega) k3)) rfl rfl rfl
 ·exact h
theorem runL_tr (hC:CxOk C)(hw:C.words≤255)(hx:ScOk C x ins)(hi:ins.length≤4)(hrep:RepT C rep G x ins){e:Nat}(he:endAt C.p x.f=some e){base:Int}(hb1:-10 * (ins.length:Int)≤base)(hb2:base≤1000+30 * ins.length)(h0:∀i y,x.f < i→i≤e→C.p[i]?=some y→y.fKind≠0){g0:Gs}:∀(n k:Nat) (L:Ls),x.f < k→k+n=e+1→LsI C G x.f k g0 L→LsI C G x.f (e+1) g0 (runL C rep x ins base n k L)
 | 0,k,L,_,h2,h=>by rw[runL,←h2];exact h
 | n+1,k,L,h1,h2,h=>by
  obtain⟨_,_,_,_,_,hel⟩:=endAt_some he
  obtain⟨ln,hk⟩:=get_of_lt (l:=C.p) (k:=k) (by omega)
  rw[runL,hk]
  exact runL_tr hC hw hx hi hrep he hb1 hb2 h0 n (k+1) _ (by omega) (by omega) (stepB_tr hC hx he hk h1 (by omega) (stepA_tr hC hw hx hi hrep he hk (h0 k ln h1 (by omega) hk) h1 (by omega) hb1 hb2 h))
theorem linesG_tr (hC:CxOk C)(hw:C.words≤255)(hx:ScOk C x ins)(hi:ins.length≤4)(hrep:RepT C rep G x ins){base:Int}(hb1:-10 * (ins.length:Int)≤base)(hb2:base≤1000+30 * ins.length)(s:Gs):Tr2 C G s (linesG C rep x ins base s).1∧∀j∈(linesG C rep x ins base s).2,JP (linesG C rep x ins base s).1.items j:=by
 obtain⟨ln,h1,h2⟩:=hx.fn
 obtain⟨e,h3,_,_,h4⟩:=hC.fn _ _ h1 h2
 obtain⟨e',g3,g4,g4',g5,_⟩:=hx.endE hC
 rw[h3]at g3
 injection g3 with g3
 subst g3
 have h:=runL_tr hC hw hx hi hrep h3 hb1 hb2 (fun i y k1 k2 hy=>by
  by_cases hie:i=e
  ·subst hie
   obtain⟨z,hz,h7⟩:=endAt_kind h3
   rw[hy]at hz
   injection hz with hz
   subst hz
   omega
  ·exact(h4 i y (by omega) (by omega) hy).1) (g0:=s) (e - x.f) (x.f+1) (startL C s) (by omega) (by omega) ⟨Tr2.refl s,fun v hv=>by
   simp only[startL,List.mem_replicate]at hv
   omega,fun i k1 k2 _=>by omega,fun j hj=>(by cases hj),by simp[startL]⟩
 unfold linesG
 rw[g5]
 exact⟨h.tr,h.lv⟩
end
theorem repN_tr {C:Cx}{G:Nat}(hC:CxOk C)(hw:C.words≤255):∀(lev:Nat) {x:Sc} {ins:List Nat},ScOk C x ins→RepT C (repN C lev) G x ins
 | 0,x,ins,hx,line,g,d,s,_,_,_,_,_=>Tr2.refl s
 | lev+1,x,ins,hx,line,g,d,s,hl,hg,h1,h2,hr=>by
  obtain⟨r1,r2,r3,_⟩:=replB_spec hr
  have hin:=hC.inl
  have hy:=inSc_ok hC hx line hg
  have ha:=hC.argsN g
  have hil:(ins++[g]).length=ins.length+1:=by simp
  have t1:=pre_tr (G:=G) hC hx (by omega) hl hg h1 h2 s
  have t2:=space_tr (G:=G) hl x (d - argsN C.p g) (preG C x line g d s)
  have t3:=linesG_tr (G:=G) hC hw hy (by omega) (repN_tr hC hw lev hy) (base:=d - argsN C.p g) (by omega) (by omega) (spaceG C x line (d - argsN C.p g) (preG C x line g d s))
  exact((t1.trans t2).trans t3.1).trans (patchL_tr _ t3.2)
theorem compG_tr {C:Cx}(hC:CxOk C)(hw:C.words≤255){g:Nat}(hg:isFun C g)(e5:C.args=argsN C.p g):InvI C g (compG C g).items∧(compG C g).most≤60:=by
 have hS:ScOk C (outerSc C g) [g]:=⟨hg,rfl,⟨Int.le_refl _,by simp[outerSc]⟩,rfl,by simp[outerSc],fun _=>e5,rfl⟩
 have hww:=hC.words
 have t:=(linesG_tr (G:=g) hC hw hS (by simp) (repN_tr hC hw C.b.fInline.toNat hS) (base:=C.words) (by simp only[List.length_cons,List.length_nil];omega) (by simp only[List.length_cons,List.length_nil];omega) (headG C g)).1
 obtain⟨l1,l2⟩:=isFun_locals hC hg
 refine⟨t.inv ⟨_,[],rfl,⟨?_,rfl,rfl⟩,fun it h=>by cases h⟩,t.most ?_⟩
 ·simp only[mkItem];split <;> omega
 ·show(localsOf C.p (g:Int)).length - C.args≤60;omega
theorem compileF_inv {p:List TLine}{f:Int}{b:TBuild}(hs:smallT 1048576 (.lst 4 (p.map TLine.tr)))(h1:programOk p=true)(h2:buildOk b=true)(h3:0≤f)(h4:f < (funs p).length):∃(g:Nat) (C:Cx),(funs p)[f.toNat]?=some g∧C.p=foldIf p b∧0≤C.words∧C.words≤255∧InvI C g (compileF p f b):=by
 obtain⟨g,C,k1,k2,k3,k4,k5,k6,k7,k8,k9⟩:=compiled_of hs h1 h2 h3 h4
 have hb:0≤b.fInline∧b.fInline≤3:=by
  unfold buildOk at h2
  simp only[Bool.and_eq_true,within_iff]at h2
  exact h2.2
 have hpg:=(PgOk_of hs h1).foldIf b
 have ha:(0:Int)≤(argsN (foldIf p b) g:Int)∧(argsN (foldIf p b) g:Int)≤4:=by have:=k2.argsN g;rw[k3]at this;omega
 have hC0:CxOk (ctx (foldIf p b) f.toNat g b 0):=hpg.cx ha (by omega) hb
 obtain⟨y,y1,y2⟩:=k7
 have hf0:isFun (ctx (foldIf p b) f.toNat g b 0) g:=⟨y,by rw[k3]at y1;exact y1,y2⟩
 have h60:=(compG_tr hC0 (by show(0:Int)≤255;omega) hf0 rfl).2
 have hw:=k2.words
 refine⟨g,C,k1,k3,hw.1,by omega,?_⟩
 rw[k8]
 exact(compG_tr k2 (by omega) ⟨y,y1,y2⟩ k5).1
end Go.Proofs.Ytogdbgmiigfmfaa
namespace Go.Proofs.Ytogdbgmiigfmfaa
open Go.Sim
set_option maxRecDepth 100000
set_option maxHeartbeats 4000000
def opArg (c:Int):Int×Bool:=
 if c=0 then(4,true)else if c=1∨c=2∨c=3∨c=4∨c=10∨c=11 then(2,true)
 else if c=16 then(2,false)else if c=12∨c=13∨c=14∨c=15 then(1,false)else(0,false)
def opSize (c:Int):Int:=if within c 0 17 then(opArg c).1+1 else 0
theorem opArg_le (c:Int):0≤(opArg c).1∧(opArg c).1≤4:=by
 unfold opArg
 repeat' split
 all_goals simp
theorem opSize_le (c:Int):0≤opSize c∧opSize c≤5:=by
 have:=opArg_le c
 unfold opSize
 split <;> omega
abbrev rArg (c:Int):Res:= .tup [.c (.t (.int .i64 (opArg c).1)),.c (.t (.bool (opArg c).2))]
theorem s_spec_l07Width (c:Int):Sim.Spec Try.prog 82 [tvI c] (rArg c):=by
 refine spec_of_W hΓ hmix Try.func82 rfl (by decide) rfl ?_
 repeat' ((conv=>whnf);first|refine Or.inl ?_|apply oi|(apply fi<;>intro h)|refine⟨_,rfl,?_⟩|((with_reducible show _=_);rfl))
 all_goals try((with_reducible refine Obl.mk ?_);exact KO)
 all_goals(refine⟨?_⟩;simp_all[opArg])
theorem s_spec_OpSize (c:Int):Sim.Spec Try.prog 33 [tvI c] (rI (opSize c)):=by
 refine spec_of_W hΓ hmix Try.func33 rfl (by decide) rfl ?_
 have hb:=s_spec_l01In c 0 17
 have ha:=s_spec_l07Width c
 have hle:=opArg_le c
 unfold opSize
 cases hw:within c 0 17 with
 | false=>
  rw[hw]at hb
  repeat' ((conv=>whnf);first|refine Or.inl ?_|apply oi|(apply fi<;>intro h)|refine ci hb (ai rfl (ai rfl (ai rfl trivial))) ?_|refine⟨_,rfl,?_⟩|((with_reducible show _=_);rfl))
  all_goals try((with_reducible refine Obl.mk ?_);exact KO)
 | true=>
  rw[hw]at hb
  repeat' ((conv=>whnf);first|refine Or.inl ?_|apply oi|(apply fi<;>intro h)|refine ci hb (ai rfl (ai rfl (ai rfl trivial))) ?_|refine ci ha (ai rfl trivial) ?_|refine⟨_,rfl,?_⟩|((with_reducible show _=_);rfl))
  all_goals try((with_reducible refine Obl.mk ?_);exact KO)
  exact⟨by rw[IntWalk.i64_in _ (by omega),Int.add_comm];rfl⟩
end Go.Proofs.Ytogdbgmiigfmfaa
namespace Go.Proofs.Ytogdbgmiigfmfaa
open Go.Sim
set_option maxRecDepth 100000
set_option maxHeartbeats 4000000
def startsF:Int→List TItem→List Int
 | at0,[]=>[at0]
 | at0,x::l=>at0::startsF (at0+opSize x.fOp.fCode) l
def endF (at0:Int)(l:List TItem):Int:=atL (startsF at0 l) l.length
def withArg (x:TItem)(a:Int):TItem:=⟨⟨x.fOp.fCode,a⟩,x.fLine,x.fStart,x.fChain,x.fDepth,x.fEntered⟩
def isJump (x:TItem):Bool:=x.fOp.fCode==10 || x.fOp.fCode==11
def jumpI (st:List Int)(k:Nat)(x:TItem):TItem:=if isJump x=true then withArg x (atL st x.fOp.fArg.toNat - atL st (k+1))else x
def placesG (st:List Int):Nat→List TItem→List TPlace
 | _,[]=>[]
 | k,x::l=>⟨atL st k,jumpI st k x⟩::placesG st (k+1) l
def placesF (l:List TItem)(at0:Int):List TPlace:=placesG (startsF at0 l) 0 l
theorem startsF_len:∀(at0:Int) (l:List TItem),(startsF at0 l).length=l.length+1
 | _,[]=>rfl
 | at0,x::l=>by rw[startsF,List.length_cons,startsF_len,List.length_cons]
theorem startsF_zero (at0:Int)(l:List TItem):atL (startsF at0 l) 0=at0:=by cases l <;> rfl
theorem atL_cons (a:Int)(l:List Int)(k:Nat):atL (a::l) (k+1)=atL l k:=by simp[atL]
theorem startsF_succ:∀{at0:Int} {l:List TItem} {k:Nat} {x:TItem},l[k]?=some x→atL (startsF at0 l) (k+1)=atL (startsF at0 l) k+opSize x.fOp.fCode
 | _,[],_,_,h=>by simp at h
 | at0,y::l,0,x,h=>by
  rw[List.getElem?_cons_zero]at h
  injection h with h
  subst h
  rw[startsF,atL_cons,startsF_zero]
  rfl
 | at0,y::l,k+1,x,h=>by
  rw[List.getElem?_cons_succ]at h
  rw[startsF,atL_cons,atL_cons,startsF_succ h]
theorem startsF_le {at0:Int}{l:List TItem}:∀{k:Nat},k≤l.length→at0≤atL (startsF at0 l) k∧atL (startsF at0 l) k≤at0+5 * k
 | 0,_=>by rw[startsF_zero];omega
 | k+1,h=>by
  obtain⟨x,hx⟩:=get_of_lt (l:=l) (k:=k) (by omega)
  have:=startsF_le (at0:=at0) (l:=l) (k:=k) (by omega)
  have:=opSize_le x.fOp.fCode
  rw[startsF_succ hx]
  omega
theorem atL_get {l:List Int}{k:Nat}(h:k < l.length):l[k]?=some (atL l k):=by
 obtain⟨x,hx⟩:=get_of_lt h
 rw[atL,hx];rfl
theorem take_one {α:Type}{l:List α}{k:Nat}{x:α}(h:l[k]?=some x):l.take (k+1)=l.take k++[x]:=by
 rw[List.take_add_one,h];rfl
theorem placesG_len (st:List Int):∀(k:Nat) (l:List TItem),(placesG st k l).length=l.length
 | _,[]=>rfl
 | k,x::l=>by rw[placesG,List.length_cons,placesG_len,List.length_cons]
theorem placesG_get (st:List Int):∀{l:List TItem} {j k:Nat} {x:TItem},l[j]?=some x→(placesG st k l)[j]?=some ⟨atL st (k+j),jumpI st (k+j) x⟩
 | [],_,_,_,h=>by simp at h
 | y::l,0,k,x,h=>by
  rw[List.getElem?_cons_zero]at h
  injection h with h
  subst h
  rfl
 | y::l,j+1,k,x,h=>by
  rw[List.getElem?_cons_succ]at h
  rw[placesG,List.getElem?_cons_succ,placesG_get st h,show k+1+j=k+(j+1) by omega]
theorem placesF_len (l:List TItem)(at0:Int):(placesF l at0).length=l.length:=placesG_len _ _ _
theorem placesF_get {l:List TItem}{at0:Int}{j:Nat}{x:TItem}(h:l[j]?=some x):(placesF l at0)[j]?=some ⟨atL (startsF at0 l) j,jumpI (startsF at0 l) j x⟩:=by
 have:=placesG_get (startsF at0 l) (k:=0) h
 rwa [Nat.zero_add]at this
def jumpsOk (l:List TItem):Prop:=∀x∈l,isJump x=true→0≤x.fOp.fArg∧x.fOp.fArg≤l.length
theorem isJump_iff {x:TItem}:isJump x=true↔x.fOp.fCode=10∨x.fOp.fCode=11:=by simp[isJump]
def inImg (b:TBuild)(image:Int)(f:Nat):Bool:=if b.fSplit=true then(f:Int) % 2==image else image==0
noncomputable def imgL (p:List TLine) (b:TBuild) (image:Int):Nat→Nat→Int→List (Nat×List TPlace)
 | 0,_,_=>[]
 | n+1,f,at0=>if inImg b image f=true then(f,placesF (compileF p f b) at0)::imgL p b image n (f+1) (endF at0 (compileF p f b))else imgL p b image n (f+1) at0
noncomputable def placesOf (p:List TLine) (b:TBuild) (image:Int):List TPlace:=
 if programOk p=true∧buildOk b=true∧within image 0 1=true then((imgL p b image (funs p).length 0 0).map Prod.snd).flatten else []
structure FnOk (p:List TLine) (b:TBuild) (f:Nat):Prop where
 pos:0 < (compileF p f b).length
 len:(compileF p f b).length≤2500
 jmp:jumpsOk (compileF p f b)
theorem InvI.jumps {C:Cx}{g:Nat}{l:List TItem}(h:InvI C g l):0 < l.length∧jumpsOk l:=by
 obtain⟨a,t,rfl,h2,h3⟩:=h
 refine⟨by simp,fun x hx hj=>?_⟩
 rw[isJump_iff]at hj
 rcases List.mem_cons.1 hx with rfl|hx
 ·have:=h2.1;omega
 ·exact(h3 x hx).jump hj
theorem fn_ok {p:List TLine}{b:TBuild}(hs:smallT 1048576 (.lst 4 (p.map TLine.tr)))(h1:programOk p=true)(h2:buildOk b=true){f:Nat}(h:f < (funs p).length):FnOk p b f:=by
 obtain⟨g,C,_,_,_,_,hi⟩:=compileF_inv (f:=(f:Int)) hs h1 h2 (by omega) (by omega)
 exact⟨hi.jumps.1,(compileF_cap hs).1,hi.jumps.2⟩
theorem funs_six {p:List TLine}(h1:programOk p=true):(funs p).length≤6∧p.length≤60:=by
 rw[programOk_S]at h1
 simp only[Bool.and_eq_true,decide_eq_true_eq]at h1
 exact⟨h1.2.1,h1.1⟩
theorem endF_le {l:List TItem}{at0:Int}:at0≤endF at0 l∧endF at0 l≤at0+5 * l.length:=startsF_le (Nat.le_refl _)
theorem imgL_step {p:List TLine}{b:TBuild}{image:Int}{n f:Nat}{at0:Int}:imgL p b image (n+1) f at0=if inImg b image f=true then(f,placesF (compileF p f b) at0)::imgL p b image n (f+1) (endF at0 (compileF p f b))else imgL p b image n (f+1) at0:=rfl
abbrev ImgIx (p:List TLine)(b:TBuild)(image:Int):={q:Nat×Int×List (Nat×List TPlace) // q.1≤(funs p).length∧(0≤q.2.1∧q.2.1≤12500 * q.1)∧q.2.2.length≤q.1∧q.2.2++imgL p b image ((funs p).length - q.1) q.1 q.2.1=imgL p b image (funs p).length 0 0}
theorem imgL_len (p:List TLine)(b:TBuild)(image:Int):∀(n f:Nat) (at0:Int),(imgL p b image n f at0).length≤n
 | 0,_,_=>Nat.le_refl _
 | n+1,f,at0=>by
  rw[imgL]
  split
  ·have:=imgL_len p b image n (f+1) (endF at0 (compileF p f b));rw[List.length_cons];omega
  ·have:=imgL_len p b image n (f+1) at0;omega
theorem imgL_cap {p:List TLine}{b:TBuild}(hs:smallT 1048576 (.lst 4 (p.map TLine.tr))){image:Int}:∀{n f:Nat} {at0:Int} {x:Nat×List TPlace},x∈imgL p b image n f at0→x.2.length≤2500∧∀y∈x.2,y.fItem.fChain.length≤4
 | 0,_,_,_,h=>by cases h
 | n+1,f,at0,x,h=>by
  rw[imgL]at h
  split at h
  ·rcases List.mem_cons.1 h with rfl|h
   ·obtain⟨c1,c2⟩:=compileF_cap (p:=p) (f:=(f:Int)) (b:=b) hs
    refine⟨by rw[placesF_len];exact c1,fun y hy=>?_⟩
    obtain⟨j,hj⟩:=List.getElem?_of_mem hy
    have hjl:=lt_of_get hj
    rw[placesF_len]at hjl
    obtain⟨z,hz⟩:=get_of_lt hjl
    rw[placesF_get hz]at hj
    injection hj with hj
    subst hj
    have:(jumpI (startsF at0 (compileF p f b)) j z).fChain=z.fChain:=by unfold jumpI;split <;> rfl
    rw[this]
    exact c2 z (List.mem_of_getElem? hz)
   ·exact imgL_cap hs h
  ·exact imgL_cap hs h
def allPl (L:List (Nat×List TPlace)):List TPlace:=(L.map Prod.snd).flatten
theorem allPl_take {L:List (Nat×List TPlace)}{k:Nat}{x:Nat×List TPlace}(h:L[k]?=some x):allPl (L.take (k+1))=allPl (L.take k)++x.2:=by
 rw[take_one h];simp[allPl]
theorem allPl_cap {L:List (Nat×List TPlace)}(h:∀x∈L,x.2.length≤2500):∀{k:Nat},k≤L.length→(allPl (L.take k)).length≤2500 * k
 | 0,_=>by simp[allPl]
 | k+1,hk=>by
  obtain⟨x,hx⟩:=get_of_lt (l:=L) (k:=k) (by omega)
  have:=allPl_cap h (k:=k) (by omega)
  have:=h x (List.mem_of_getElem? hx)
  rw[allPl_take hx,List.length_append]
  omega
end Go.Proofs.Ytogdbgmiigfmfaa
namespace Go.Proofs.Ytogdbgmiigfmfaa
open Go.Sim
set_option maxRecDepth 100000
set_option maxHeartbeats 4000000
def opLim (c:Int):Int×Int:=
 if c=0 then(-2147483648,2147483647)else if c=1∨c=2∨c=3∨c=4∨c=10∨c=11 then(-32768,32767)
 else if c=16 then(0,65535)else if c=12∨c=13∨c=14∨c=15 then(0,255)else(0,0)
def opOkB (c a:Int):Bool:=within c 0 17 && within a (opLim c).1 (opLim c).2
def opByte (a:Int)(k:Nat):UInt8:=UInt8.ofNat ((a.fdiv (2 ^ (8 * k))) % 256).toNat
def bytesN (a:Int)(n:Nat):List UInt8:=(List.range n).map (opByte a)
def encodeOp (x:TOp):List UInt8:=if opOkB x.fCode x.fArg=true then UInt8.ofNat x.fCode.toNat::bytesN x.fArg (opArg x.fCode).1.toNat else []
theorem encodeOp_len {x:TOp}(h:opOkB x.fCode x.fArg=true):((encodeOp x).length:Int)=opSize x.fCode:=by
 have hle:=opArg_le x.fCode
 rw[encodeOp,if_pos h]
 unfold opOkB at h
 rw[Bool.and_eq_true]at h
 rw[opSize,if_pos h.1]
 simp[bytesN];omega
theorem encodeOp_le (x:TOp):(encodeOp x).length≤5:=by
 have hle:=opArg_le x.fCode
 unfold encodeOp
 split
 ·simp[bytesN];omega
 ·simp
end Go.Proofs.Ytogdbgmiigfmfaa
namespace Go.Proofs.Ytogdbgmiigfmfaa
open Go.Sim
set_option maxRecDepth 100000
set_option maxHeartbeats 4000000
theorem opGood_ok {c a:Int}(h:opGood c a):opOkB c a=true:=by
 obtain⟨h0,h1,h2,h3,h4,h5,h6⟩:=h
 unfold opOkB
 rw[Bool.and_eq_true,within_iff,within_iff]
 refine⟨⟨h0,h1⟩,?_⟩
 unfold opLim
 split
 ·have:=h2 (by assumption);dsimp only;omega
 split
 ·have:=h3 (by omega);dsimp only;omega
 split
 ·have:=h4 (by assumption);dsimp only;omega
 split
 ·have:=h5 (by omega);dsimp only;omega
 ·have:=h6 (by omega);dsimp only;omega
structure PlI (p:List TLine) (f j:Nat) (y:TPlace):Prop where
 head:j=0→(y.fItem.fOp.fCode=13∨y.fItem.fOp.fCode=15)∧∃g ln,(funs p)[f]?=some g∧y.fItem.fLine=(g:Int)∧p[g]?=some ln∧ln.fKind=0
 body:0 < j→y.fItem.fOp.fCode≠13∧∃(n:Nat) (ln:TLine),y.fItem.fLine=(n:Int)∧p[n]?=some ln∧ln.fKind≠0
 op:opOkB y.fItem.fOp.fCode y.fItem.fOp.fArg=true
theorem foldIf_alike (p:List TLine)(b:TBuild):alike (foldIf p b) p:=by
 unfold foldIf
 split
 ·exact foldLine_alike p
 ·rfl
theorem jumpI_code (st:List Int)(k:Nat)(x:TItem):(jumpI st k x).fOp.fCode=x.fOp.fCode:=by unfold jumpI;split <;> rfl
theorem jumpI_line (st:List Int)(k:Nat)(x:TItem):(jumpI st k x).fLine=x.fLine:=by unfold jumpI;split <;> rfl
theorem place_facts {p:List TLine}{b:TBuild}{at0:Int}(hs:smallT 1048576 (.lst 4 (p.map TLine.tr)))(h1:programOk p=true)(h2:buildOk b=true){f:Nat}(h:f < (funs p).length){j:Nat}{y:TPlace}(hy:(placesF (compileF p f b) at0)[j]?=some y):PlI p f j y:=by
 obtain⟨g,C,k1,k2,k3,k4,hi⟩:=compileF_inv (f:=(f:Int)) hs h1 h2 (by omega) (by omega)
 have hlen:=(compileF_cap (p:=p) (f:=(f:Int)) (b:=b) hs).1
 have hjl:=hi.jumps.2
 have hj:j < (compileF p (f:Int) b).length:=by have:=lt_of_get hy;rwa [placesF_len]at this
 obtain⟨x,hx⟩:=get_of_lt hj
 rw[placesF_get hx]at hy
 injection hy with hy
 subst hy
 rw[Int.toNat_natCast]at k1
 obtain⟨hgl,ln,hg1,hg2⟩:=funs_lt (List.mem_of_getElem? k1)
 generalize compileF p (f:Int) b=I at *
 obtain⟨a,t,rfl,ha,ht⟩:=hi
 have hop:¬isJump x=true→opGood x.fOp.fCode x.fOp.fArg:=fun hn=>by
  rw[isJump_iff]at hn
  cases j with
  | zero=>
   simp only[List.getElem?_cons_zero,Option.some.injEq]at hx
   subst hx
   have e3:=ha.2.2
   rcases ha.1 with e|e <;> (rw[e,e3];unfold opGood;omega)
  | succ j=>exact(ht x (List.mem_of_getElem? (by simpa using hx))).op hn
 refine⟨fun e=>?_,fun e=>?_,?_⟩
 ·subst e
  simp only[List.getElem?_cons_zero,Option.some.injEq]at hx
  subst hx
  dsimp only
  rw[jumpI_code,jumpI_line]
  exact⟨ha.1,g,ln,k1,ha.2.1,hg1,hg2⟩
 ·obtain⟨j,rfl⟩:∃i,j=i+1:=⟨j - 1,by omega⟩
  have hg:=ht x (List.mem_of_getElem? (by simpa using hx))
  dsimp only
  rw[jumpI_code,jumpI_line]
  refine⟨hg.enter,?_⟩
  obtain⟨z,z0,z1,z2⟩:=hg.line
  rw[k2]at z1
  obtain⟨w,w1,w2,_⟩:=(foldIf_alike p b).get z1
  exact⟨x.fLine.toNat,w,by omega,w1,by omega⟩
 ·dsimp only
  by_cases hn:isJump x=true
  ·rw[jumpI,if_pos hn]
   have h3:=hjl x (List.mem_of_getElem? hx) hn
   rw[isJump_iff]at hn
   have s1:=startsF_le (at0:=at0) (l:=a::t) (k:=x.fOp.fArg.toNat) (by omega)
   have s2:=startsF_le (at0:=at0) (l:=a::t) (k:=j+1) (by omega)
   refine opGood_ok ?_
   dsimp only[withArg]
   unfold opGood
   omega
  ·rw[jumpI,if_neg hn]
   exact opGood_ok (hop hn)
def codeOf (l:List TPlace):List UInt8:=l.flatMap fun x=>encodeOp x.fItem.fOp
theorem codeOf_append (a b:List TPlace):codeOf (a++b)=codeOf a++codeOf b:=by simp[codeOf]
theorem codeOf_one (x:TPlace):codeOf [x]=encodeOp x.fItem.fOp:=by simp[codeOf]
theorem codeOf_len:∀(l:List TPlace),(codeOf l).length≤5 * l.length
 | []=>by simp[codeOf]
 | x::l=>by
  have h1:=codeOf_len l
  have h2:=encodeOp_le x.fItem.fOp
  rw[show x::l=[x]++l from rfl,codeOf_append,List.length_append,List.length_append,codeOf_one]
  simp only[List.length_cons,List.length_nil]
  omega
theorem codeOf_places {l:List TItem}{at0:Int}(h:∀y∈placesF l at0,opOkB y.fItem.fOp.fCode y.fItem.fOp.fArg=true):∀{k:Nat},k≤l.length→((codeOf ((placesF l at0).take k)).length:Int)=atL (startsF at0 l) k - at0
 | 0,_=>by rw[startsF_zero];simp[codeOf]
 | k+1,hk=>by
  obtain⟨x,hx⟩:=get_of_lt (l:=l) (k:=k) (by omega)
  have hg:=placesF_get (at0:=at0) hx
  have ih:=codeOf_places h (k:=k) (by omega)
  have he:=encodeOp_len (h _ (List.mem_of_getElem? hg))
  dsimp only at he
  rw[jumpI_code]at he
  rw[take_one hg,codeOf_append,List.length_append,codeOf_one,startsF_succ hx]
  dsimp only
  omega
def nameOf (p:List TLine)(f:Nat):List UInt8:=match(funs p)[f]? with
 | some g=>(match p[g]? with|some y=>y.fName|none=>[])
 | none=>[]
theorem imgL_at {p:List TLine}{b:TBuild}{image:Int}(hs:smallT 1048576 (.lst 4 (p.map TLine.tr)))(h1:programOk p=true)(h2:buildOk b=true):∀{n f:Nat} {at0:Int} {i:Nat} {x:Nat×List TPlace},f+n≤(funs p).length→(imgL p b image n f at0)[i]?=some x→
  x.2=placesF (compileF p (x.1:Int) b) (at0+((codeOf (allPl ((imgL p b image n f at0).take i))).length:Int))∧x.1 < (funs p).length∧0 < x.2.length
 | 0,_,_,_,_,_,h=>by simp[imgL]at h
 | n+1,f,at0,i,x,hf,h=>by
  rw[imgL_step]at h ⊢
  split at h
  ·rename_i hin
   rw[if_pos hin]
   cases i with
   | zero=>
    simp only[List.getElem?_cons_zero,Option.some.injEq]at h
    subst h
    have:=(fn_ok (f:=f) hs h1 h2 (by omega)).pos
    refine⟨by simp[allPl,codeOf],by dsimp only;omega,by dsimp only;rw[placesF_len];exact this⟩
   | succ i=>
    rw[List.getElem?_cons_succ]at h
    obtain⟨k1,k2,k3⟩:=imgL_at hs h1 h2 (by omega) h
    refine⟨?_,k2,k3⟩
    have hl:=codeOf_places (l:=compileF p (f:Int) b) (at0:=at0) (fun y hy=>by
     obtain⟨j,hj⟩:=List.mem_iff_getElem?.1 hy
     exact(place_facts hs h1 h2 (by omega) hj).op) (k:=(compileF p (f:Int) b).length) (Nat.le_refl _)
    rw[List.take_of_length_le (by rw[placesF_len];exact Nat.le_refl _)]at hl
    rw[k1,List.take_succ_cons,show ∀(a:Nat×List TPlace) (l:List (Nat×List TPlace)),allPl (a::l)=a.2++allPl l from fun a l=>by simp[allPl],codeOf_append,List.length_append]
    congr 1
    have he:endF at0 (compileF p (f:Int) b)=atL (startsF at0 (compileF p (f:Int) b)) (compileF p (f:Int) b).length:=rfl
    dsimp only
    rw[he]at *
    omega
  ·rename_i hin
   rw[if_neg hin]
   exact imgL_at hs h1 h2 (by omega) h
theorem imgL_place {p:List TLine}{b:TBuild}{image:Int}(hs:smallT 1048576 (.lst 4 (p.map TLine.tr)))(h1:programOk p=true)(h2:buildOk b=true){i:Nat}{x:Nat×List TPlace}(h:(imgL p b image (funs p).length 0 0)[i]?=some x){j:Nat}{y:TPlace}(hy:x.2[j]?=some y):
  PlI p x.1 j y∧y.fOffset=((codeOf (allPl ((imgL p b image (funs p).length 0 0).take i))).length:Int)+(codeOf (x.2.take j)).length:=by
 obtain⟨k1,k2,_⟩:=imgL_at hs h1 h2 (by omega) h
 generalize hS:((codeOf (allPl ((imgL p b image (funs p).length 0 0).take i))).length:Int)=S at *
 rw[Int.zero_add]at k1
 rw[k1]at hy ⊢
 refine⟨place_facts hs h1 h2 k2 hy,?_⟩
 have hj:j < (compileF p (x.1:Int) b).length:=by have:=lt_of_get hy;rwa [placesF_len]at this
 rw[codeOf_places (fun z hz=>by
  obtain⟨j,hj⟩:=List.mem_iff_getElem?.1 hz
  exact(place_facts hs h1 h2 k2 hj).op) (by omega)]
 obtain⟨z,hz⟩:=get_of_lt hj
 rw[placesF_get hz]at hy
 injection hy with hy
 subst hy
 dsimp only
 omega
theorem allPl_snoc (L:List (Nat×List TPlace))(x:Nat×List TPlace):allPl (L++[x])=allPl L++x.2:=by simp[allPl]
end Go.Proofs.Ytogdbgmiigfmfaa
namespace Go.Proofs.Ytogdbgmiigfmfaa
open Go.Sim
set_option maxRecDepth 100000
set_option maxHeartbeats 4000000
theorem and_one:∀f:Fin 101,IntKind.i64.wrap (BitVec.ofInt IntKind.i64.bits (f.val:Int) &&& BitVec.ofInt IntKind.i64.bits 1).toNat=(f.val:Int) % 2:=by decide
theorem s_spec_l09InImage (f:Nat)(b:TBuild)(image:Int)(hf:f≤100):Sim.Spec Try.prog 79 [.agg b.tr,tvI (f:Int),tvI image] (rB (inImg b image f)):=by
 refine spec_of_Wo hΓ hmix Try.func79 rfl (by decide) rfl ?_
 unfold inImg
 have hm:=and_one ⟨f,by omega⟩
 dsimp only at hm
 repeat' ((conv=>whnf);first|(with_reducible first|apply Wx|apply W6)|apply oi|(apply fi<;>intro h)|refine⟨_,rfl,?_⟩|((with_reducible show _=_);rfl))
 all_goals try((with_reducible refine Obl.mk ?_);exact KP)
 all_goals first|exact⟨by rw[h,hm];rfl⟩|exact⟨by rw[h];rfl⟩
theorem allPl_le:∀{L:List (Nat×List TPlace)},(∀x∈L,x.2.length≤2500)→(allPl L).length≤2500 * L.length
 | L,h=>by
  have:=allPl_cap h (Nat.le_refl L.length)
  rwa [List.take_of_length_le (Nat.le_refl _)]at this
theorem s_spec_PlacesOf (p:List TLine)(b:TBuild)(image:Int)(hs:smallT 1048576 (.lst 4 (p.map TLine.tr))):Sim.Spec Try.prog 30 [tvP p,.agg b.tr,tvI image] (rL 8 ((placesOf p b image).map TPlace.tr)):=by
 refine spec_of_Wo hΓ hmix Try.func30 rfl (by decide) rfl ?_
 have hP:=s_spec_ProgramOk p hs
 have hB:=s_spec_BuildOk b
 have gb:=s_spec_l01In image 0 1
 by_cases hc:programOk p=true∧buildOk b=true∧within image 0 1=true
 ·have hcf:placesOf p b image=allPl (imgL p b image (funs p).length 0 0):=by rw[placesOf,if_pos hc];rfl
  rw[hcf]
  obtain⟨h1,h2,h3⟩:=hc
  rw[h1]at hP
  rw[h2]at hB
  rw[h3]at gb
  obtain⟨h6,h60⟩:=funs_six h1
  have gF:=s_spec_FunctionLines p (by omega)
  have hfl:((funs p).map fun n:Nat=>intRow n).length=(funs p).length:=by simp
  have hlc:=fun x (hx:x∈imgL p b image (funs p).length 0 0)=>(imgL_cap hs hx).1
  repeat' ((conv=>whnf);first|(with_reducible first|apply Wx|apply W6)|apply oi|(apply fi<;>intro h)|refine cl hP ?_|refine cl hB ?_|refine cl gb ?_|refine⟨_,rfl,?_⟩|((with_reducible show _=_);rfl))
  all_goals try((with_reducible refine Obl.mk ?_);exact KP)
  conv=>whnf
  refine⟨ImgIx p b image,fun q=>⟨[(0,vP p),(2,tI .i64 image),(4,.r (.c (.ptr (4,0,0) 0))),(7,.r (.c (.own (15,0,0)))),(8,tI .i64 q.1.2.1),(9,tI .i64 (q.1.1:Int))],[((15,0,0),some (.arr true 8 ((allPl q.1.2.2).map TPlace.tr))),((4,0,0),some (.box [.t (.int .i64 b.fFrames),.t (.int .i64 b.fInline),.t (.bool b.fFold),.t (.bool b.fSplit)]))],[15,4]⟩,fun q=>(funs p).length - q.1.1,⟨(0,0,[]),by simp,by simp,by simp,by simp⟩,?_,?_⟩
  ·skip
   repeat' ((conv=>whnf);first|(with_reducible first|apply Wx|apply W6)|apply oi|(apply fi<;>intro h)|refine⟨_,rfl,?_⟩|((with_reducible show _=_);rfl))
   all_goals try((with_reducible refine Obl.mk ?_);exact KP)
  intro⟨⟨f,at0,acc⟩,hk,ha,hal,hr⟩
  dsimp only at hk ha hal hr ⊢
  have hac:(allPl acc).length≤2500 * acc.length:=allPl_le fun x hx=>hlc x (by rw[←hr];exact List.mem_append.2 (.inl hx))
  by_cases hlt:f < (funs p).length
  ·obtain⟨n,hn⟩:∃n,(funs p).length - f=n+1:=⟨(funs p).length - f - 1,by omega⟩
   have hi:=s_spec_l09InImage f b image (by omega)
   rw[hn,imgL_step]at hr
   cases hin:inImg b image f with
   | false=>
    rw[hin]at hi hr
    rw[if_neg (by simp)]at hr
    repeat' ((conv=>whnf);first|(with_reducible first|apply Wx|apply W6)|apply oi|(apply fi<;>intro h)|refine cl gF ?_|refine cl hi ?_|refine⟨_,rfl,?_⟩|((with_reducible show _=_);rfl))
    all_goals try((with_reducible refine Obl.mk ?_);exact KP)
    all_goals try exact KX
    conv=>whnf
    refine⟨⟨(f+1,at0,acc),by dsimp only;omega,by dsimp only;omega,by dsimp only;omega,by dsimp only;rw[show(funs p).length - (f+1)=n by omega];exact hr⟩,?_,by dsimp only;omega⟩
    repeat' ((conv=>whnf);first|(with_reducible first|apply Wx|apply W6)|apply oi|(apply fi<;>intro h)|refine⟨_,rfl,?_⟩|((with_reducible show _=_);rfl))
    all_goals try((with_reducible refine Obl.mk ?_);exact KP)
    all_goals try exact⟨KW⟩
   | true=>
    rw[hin]at hi hr
    rw[if_pos rfl]at hr
    have hcs:=s_spec_CompileFunction p (f:Int) b hs
    obtain⟨f1,f2,f3⟩:=fn_ok (f:=f) hs h1 h2 hlt
    have hch:=(compileF_cap (p:=p) (f:=(f:Int)) (b:=b) hs).2
    generalize compileF p (f:Int) b=I at *
    repeat' ((conv=>whnf);first|(with_reducible first|apply Wx|apply W6)|apply oi|(apply fi<;>intro h)|refine cl gF ?_|refine cl hi ?_|refine cl hcs ?_|refine⟨_,rfl,?_⟩|((with_reducible show _=_);rfl))
    all_goals try((with_reducible refine Obl.mk ?_);exact KP)
    all_goals try exact KX
    have hlen:(I.map TItem.tr).length=I.length:=by simp
    have hsl:=startsF_len at0 I
    have hle:=fun k (h:k≤I.length)=>startsF_le (at0:=at0) h
    have hS0:=startsF_zero at0 I
    have hsu:=fun k x (h:I[k]?=some x)=>startsF_succ (at0:=at0) h
    have hpf:∀(k:Nat) (x:TItem),I[k]?=some x→(placesF I at0)[k]?=some (TPlace.mk (atL (startsF at0 I) k) (jumpI (startsF at0 I) k x)):=fun k x h=>placesF_get h
    have hfl2:=placesF_len I at0
    have hend:endF at0 I=atL (startsF at0 I) I.length:=rfl
    have ye:=endF_le (l:=I) (at0:=at0)
    generalize startsF at0 I=S at *
    generalize placesF I at0=F at *
    generalize endF at0 I=E at *
    conv=>whnf
    refine⟨{k:Nat // k≤I.length},fun k=>⟨[(0,vP p),(2,tI .i64 image),(4,.r (.c (.ptr (4,0,0) 0))),(7,.r (.c (.own (15,0,0)))),(8,tI .i64 (atL S k.1)),(9,tI .i64 (f:Int)),(10,.r (.c (.own (45,0,0)))),(11,.r (.c (.own (46,0,0)))),(12,tI .i64 (k.1:Int))],[((46,0,0),some (.arr true 1 ((S.take k.1).map intRow))),((45,0,0),some (.arr true 7 (I.map TItem.tr))),((15,0,0),some (.arr true 8 ((allPl acc).map TPlace.tr))),((4,0,0),some (.box [.t (.int .i64 b.fFrames),.t (.int .i64 b.fInline),.t (.bool b.fFold),.t (.bool b.fSplit)]))],[46,45,15,4]⟩,fun k=>I.length - k.1,⟨0,by omega⟩,?_,?_⟩
    ·skip
     repeat' ((conv=>whnf);first|(with_reducible first|apply Wx|apply W6)|apply oi|(apply fi<;>intro h)|refine⟨_,rfl,?_⟩|((with_reducible show _=_);rfl))
     all_goals try((with_reducible refine Obl.mk ?_);exact KP)
     all_goals try exact⟨by rw[hS0]⟩
    intro⟨k,hk⟩
    dsimp only
    have hlk:=hle k hk
    by_cases hlt2:k < I.length
    ·obtain⟨x,hx⟩:=get_of_lt hlt2
     have hz:=opSize_le x.fOp.fCode
     have ho:=s_spec_OpSize x.fOp.fCode
     have hs1:=hsu k x hx
     have hg:S[k]?=some (atL S k):=atL_get (by omega)
     have hkr:k < (I.map TItem.tr).length:=by omega
     have hxr:(I.map TItem.tr)[k]?=some x.tr:=map_get hx
     repeat' ((conv=>whnf);first|(with_reducible first|apply Wx|apply W6)|apply oi|(apply fi<;>intro h)|refine⟨k,rfl,hkr,?_⟩|refine⟨_,hxr,?_⟩|refine cl ho ?_|refine⟨_,rfl,?_⟩|((with_reducible show _=_);rfl))
     all_goals try((with_reducible refine Obl.mk ?_);exact KP)
     all_goals try exact KX
     all_goals try exact⟨⟨by simp <;> omega,by simp <;> omega⟩⟩
     conv=>whnf
     refine⟨⟨k+1,by omega⟩,?_,by dsimp only;omega⟩
     repeat' ((conv=>whnf);first|(with_reducible first|apply Wx|apply W6)|apply oi|(apply fi<;>intro h)|refine⟨_,rfl,?_⟩|((with_reducible show _=_);rfl))
     all_goals try((with_reducible refine Obl.mk ?_);exact KP)
     all_goals try exact⟨KW⟩
     all_goals try exact⟨by rw[take_one hg,List.map_append];rfl⟩
     all_goals try exact⟨congrArg (Tr.int .i64) (by rw[hs1,IntWalk.i64_in _ (by omega)])⟩
    ·have hkl:k=I.length:=by omega
     subst hkl
     have hg:S[I.length]?=some (atL S I.length):=atL_get (by omega)
     repeat' ((conv=>whnf);first|(with_reducible first|apply Wx|apply W6)|apply oi|(apply fi<;>intro h)|refine⟨_,rfl,?_⟩|((with_reducible show _=_);rfl))
     all_goals try((with_reducible refine Obl.mk ?_);exact KP)
     all_goals try exact KX
     all_goals try exact⟨⟨by simp <;> omega,by simp <;> omega⟩⟩
     conv=>whnf
     refine⟨{k:Nat // k≤I.length},fun k=>⟨[(0,vP p),(2,tI .i64 image),(4,.r (.c (.ptr (4,0,0) 0))),(7,.r (.c (.own (15,0,0)))),(8,tI .i64 (atL S I.length)),(9,tI .i64 (f:Int)),(10,.r (.c (.own (45,0,0)))),(11,.r (.c (.own (69,0,0)))),(13,tI .i64 (k.1:Int))],[((69,0,0),some (.arr true 1 (S.map intRow))),((45,0,0),some (.arr true 7 (I.map TItem.tr))),((15,0,0),some (.arr true 8 ((allPl acc++F.take k.1).map TPlace.tr))),((4,0,0),some (.box [.t (.int .i64 b.fFrames),.t (.int .i64 b.fInline),.t (.bool b.fFold),.t (.bool b.fSplit)]))],[69,45,15,4]⟩,fun k=>I.length - k.1,⟨0,by omega⟩,?_,?_⟩
     ·skip
      repeat' ((conv=>whnf);first|(with_reducible first|apply Wx|apply W6)|apply oi|(apply fi<;>intro h)|refine⟨_,rfl,?_⟩|((with_reducible show _=_);rfl))
      all_goals try((with_reducible refine Obl.mk ?_);exact KP)
      all_goals try exact⟨by rw[show [[Tr.int .i64 (atL S I.length)]]=[atL S I.length].map intRow from rfl,←List.map_append,←take_one hg,List.take_of_length_le (by omega)]⟩
      all_goals try exact⟨by simp⟩
     intro⟨k,hk⟩
     dsimp only
     have hol:((allPl acc++F.take k).map TPlace.tr).length=(allPl acc).length+k:=by rw[List.length_map,List.length_append,List.length_take];omega
     have hml:(S.map intRow).length=I.length+1:=by rw[List.length_map];exact hsl
     have mg:∀j,j≤I.length→(S.map intRow)[j]?=some (intRow (atL S j)):=fun j hj=>by rw[List.getElem?_map,atL_get (by omega)];rfl
     by_cases hlt2:k < I.length
     ·obtain⟨x,hx⟩:=get_of_lt hlt2
      have hpg:=hpf k x hx
      have hsn:(allPl acc++F.take (k+1)).map TPlace.tr=(allPl acc++F.take k).map TPlace.tr++[(TPlace.mk (atL S k) (jumpI S k x)).tr]:=by rw[take_one hpg,←List.append_assoc,List.map_append];rfl
      have hkr:k < (I.map TItem.tr).length:=by omega
      have hxr:(I.map TItem.tr)[k]?=some x.tr:=map_get hx
      have hw1:IntKind.i64.wrap ((k:Int)+1)=((k+1:Nat):Int):=by rw[IntWalk.i64_in _ (by omega)];rfl
      have hk0:k < (S.map intRow).length:=by omega
      have hk1:k+1 < (S.map intRow).length:=by omega
      have m0:=mg k (by omega)
      have m1:=mg (k+1) (by omega)
      have b1:=hle (k+1) (by omega)
      cases hjx:isJump x with
      | true=>
       obtain⟨ja,jb⟩:=f3 x (List.mem_of_getElem? hx) hjx
       have hwa:x.fOp.fArg=((x.fOp.fArg.toNat:Nat):Int):=(Int.toNat_of_nonneg ja).symm
       have hal2:x.fOp.fArg.toNat < (S.map intRow).length:=by omega
       have m2:=mg x.fOp.fArg.toNat (by omega)
       have b2:=hle x.fOp.fArg.toNat (by omega)
       have hji:jumpI S k x=withArg x (IntKind.i64.wrap (atL S x.fOp.fArg.toNat - atL S (k+1))):=by rw[jumpI,if_pos hjx,IntWalk.i64_in _ (by omega)]
       rw[isJump_iff]at hjx
       repeat' ((conv=>whnf);first|(with_reducible first|apply Wx|apply W6)|apply oi|(apply fi<;>intro h)|refine⟨k,rfl,hkr,?_⟩|refine⟨_,hxr,?_⟩|refine⟨k,rfl,hk0,?_⟩|refine⟨k+1,hw1,hk1,?_⟩|refine⟨_,hwa,hal2,?_⟩|refine⟨_,m0,?_⟩|refine⟨_,m1,?_⟩|refine⟨_,m2,?_⟩|refine⟨_,rfl,?_⟩|((with_reducible show _=_);rfl))
       all_goals try((with_reducible refine Obl.mk ?_);exact KP)
       all_goals try exact KX
       all_goals try exact KK
       all_goals try exact⟨⟨by simp only[List.length_nil,List.length_cons,hol] <;> omega,by simp only[List.length_nil,List.length_cons,hol] <;> omega⟩⟩
       all_goals(
        conv=>whnf
        refine⟨⟨k+1,by omega⟩,?_,by dsimp only;omega⟩
        repeat' ((conv=>whnf);first|(with_reducible first|apply Wx|apply W6)|apply oi|(apply fi<;>intro h)|refine⟨_,rfl,?_⟩|((with_reducible show _=_);rfl))
        all_goals try((with_reducible refine Obl.mk ?_);exact KP)
        all_goals try exact⟨KW⟩
        all_goals try exact⟨by dsimp only;rw[hsn,hji];rfl⟩)
      | false=>
       have hji:jumpI S k x=x:=by rw[jumpI,if_neg (by rw[hjx];simp)]
       have hjn:¬(x.fOp.fCode=10∨x.fOp.fCode=11):=by rw[←isJump_iff,hjx];simp
       repeat' ((conv=>whnf);first|(with_reducible first|apply Wx|apply W6)|apply oi|(apply fi<;>intro h)|refine⟨k,rfl,hkr,?_⟩|refine⟨_,hxr,?_⟩|refine⟨k,rfl,hk0,?_⟩|refine⟨_,m0,?_⟩|refine⟨_,rfl,?_⟩|((with_reducible show _=_);rfl))
       all_goals try((with_reducible refine Obl.mk ?_);exact KP)
       all_goals try exact KX
       all_goals try exact KK
       all_goals try exact⟨⟨by simp only[List.length_nil,List.length_cons,hol] <;> omega,by simp only[List.length_nil,List.length_cons,hol] <;> omega⟩⟩
       all_goals(
        conv=>whnf
        refine⟨⟨k+1,by omega⟩,?_,by dsimp only;omega⟩
        repeat' ((conv=>whnf);first|(with_reducible first|apply Wx|apply W6)|apply oi|(apply fi<;>intro h)|refine⟨_,rfl,?_⟩|((with_reducible show _=_);rfl))
        all_goals try((with_reducible refine Obl.mk ?_);exact KP)
        all_goals try exact⟨KW⟩
        all_goals try exact⟨by dsimp only;rw[hsn,hji];rfl⟩)
     ·have hkl:k=I.length:=by omega
      subst hkl
      repeat' ((conv=>whnf);first|(with_reducible first|apply Wx|apply W6)|apply oi|(apply fi<;>intro h)|refine⟨_,rfl,?_⟩|((with_reducible show _=_);rfl))
      all_goals try((with_reducible refine Obl.mk ?_);exact KP)
      all_goals try exact KX
      conv=>whnf
      refine⟨⟨(f+1,E,acc++[(f,F)]),by dsimp only;omega,by dsimp only;omega,by simp;omega,by dsimp only;rw[List.append_assoc,show(funs p).length - (f+1)=n by omega];exact hr⟩,?_,by dsimp only;omega⟩
      repeat' ((conv=>whnf);first|(with_reducible first|apply Wx|apply W6)|apply oi|(apply fi<;>intro h)|refine⟨_,rfl,?_⟩|((with_reducible show _=_);rfl))
      all_goals try((with_reducible refine Obl.mk ?_);exact KP)
      all_goals try exact⟨KW⟩
      all_goals try exact⟨by rw[hend]⟩
      all_goals try exact⟨by rw[allPl_snoc,List.take_of_length_le (by omega)]⟩
  ·rw[show(funs p).length - f=0 by omega]at hr
   have hr2:acc=imgL p b image (funs p).length 0 0:=by rw[←hr];simp[imgL]
   repeat' ((conv=>whnf);first|(with_reducible first|apply Wx|apply W6)|apply oi|(apply fi<;>intro h)|refine cl gF ?_|refine⟨_,rfl,?_⟩|((with_reducible show _=_);rfl))
   all_goals try((with_reducible refine Obl.mk ?_);exact KP)
   all_goals try exact KX
   all_goals exact⟨by rw[hr2]⟩
 ·have hcf:placesOf p b image=[]:=by rw[placesOf,if_neg hc]
  rw[hcf]
  cases h1:programOk p with
  | false=>
   rw[h1]at hP
   repeat' ((conv=>whnf);first|(with_reducible first|apply Wx|apply W6)|apply oi|(apply fi<;>intro h)|refine cl hP ?_|refine cl hB ?_|refine cl gb ?_|refine⟨_,rfl,?_⟩|((with_reducible show _=_);rfl))
   all_goals try((with_reducible refine Obl.mk ?_);exact KP)
   all_goals try exact KX
  | true=>
   rw[h1]at hP
   cases h2:buildOk b with
   | false=>
    rw[h2]at hB
    repeat' ((conv=>whnf);first|(with_reducible first|apply Wx|apply W6)|apply oi|(apply fi<;>intro h)|refine cl hP ?_|refine cl hB ?_|refine cl gb ?_|refine⟨_,rfl,?_⟩|((with_reducible show _=_);rfl))
    all_goals try((with_reducible refine Obl.mk ?_);exact KP)
    all_goals try exact KX
   | true=>
    rw[h2]at hB
    cases h3:within image 0 1 with
    | true=>exact absurd ⟨h1,h2,h3⟩ hc
    | false=>
     rw[h3]at gb
     repeat' ((conv=>whnf);first|(with_reducible first|apply Wx|apply W6)|apply oi|(apply fi<;>intro h)|refine cl hP ?_|refine cl hB ?_|refine cl gb ?_|refine⟨_,rfl,?_⟩|((with_reducible show _=_);rfl))
     all_goals try((with_reducible refine Obl.mk ?_);exact KP)
     all_goals try exact KX
end Go.Proofs.Ytogdbgmiigfmfaa
namespace Go.Proofs.Ytogdbgmiigfmfaa
open Go.Sim
set_option maxRecDepth 100000
set_option maxHeartbeats 4000000
theorem unpack_len {s:List UInt8}{p:Int}(hs:s.length≤1048576):(upL (unpackInts s p)).length≤1048576:=by
 unfold unpackInts
 match hd:dec s p with
 | none=>simp[upL]
 | some (a,b)=>
  have h1:=dec_some hd
  dsimp only
  match hu:unpackL s p.toNat a b with
  | none=>simp[upL]
  | some y=>
   have h2:=unpackL_len hu
   simp only[upL]
   omega
end Go.Proofs.Ytogdbgmiigfmfaa
namespace Go.Proofs.Ytogdbgmiigfmfaa
open Go.Sim
set_option maxRecDepth 100000
set_option maxHeartbeats 4000000
def decRowsL:TRow→List Int→List TRow
 | p,a::b::c::l=>⟨p.fOffset+a,p.fLine+b,c==1⟩::decRowsL ⟨p.fOffset+a,p.fLine+b,c==1⟩ l
 | _,_=>[]
def decodeRows (s:List UInt8):Option (List TRow):=match unpackInts s 0 with
 | none=>none
 | some x=>if x.1.length % 3=0∧encodeRows (decRowsL row0 x.1)=s then some (decRowsL row0 x.1)else none
def oL {α:Type}(o:Option (List α)):List α:=match o with|some l=>l|none=>[]
theorem signed_in (n:Int):-549755813888≤signed n∧signed n≤549755813888:=by
 unfold signed
 split
 ·rename_i h
  have:=within_iff.1 h
  split <;> omega
 ·omega
theorem unpackL_in {s:List UInt8}{p:Nat}:∀{n z:Nat} {y:List Int×Nat},unpackL s p n z=some y→∀x∈y.1,-549755813888≤x∧x≤549755813888
 | 0,z,y,h=>by
  rw[unpackL]at h
  injection h with h
  subst h
  intro x hx
  cases hx
 | n+1,z,y,h=>by
  rw[unpackL]at h
  split at h
  ·cases h
  ·rw[Option.map_eq_some_iff]at h
   obtain⟨y',h',rfl⟩:=h
   have:=unpackL_in h'
   intro x hx
   rcases List.mem_cons.1 hx with rfl|hx
   ·exact signed_in _
   ·exact this x hx
theorem unpack_in {s:List UInt8}{p:Int}{ns:List Int}{z:Nat}(h:unpackInts s p=some (ns,z)):∀x∈ns,-549755813888≤x∧x≤549755813888:=by
 unfold unpackInts at h
 split at h
 ·cases h
 ·exact unpackL_in h
theorem packL_in:∀{l:List Int} {bs:List UInt8},packL l=some bs→∀n∈l,inSign n
 | [],_,_,n,hn=>by cases hn
 | m::l,bs,h,n,hn=>by
  rw[packL]at h
  split at h
  ·cases h
  ·rename_i hneg
   rw[Option.map_eq_some_iff]at h
   obtain⟨b',h',_⟩:=h
   rcases List.mem_cons.1 hn with rfl|hn
   ·unfold signless at hneg
    split at hneg
    ·rename_i hw
     exact within_iff.1 hw
    ·omega
   ·exact packL_in h' n hn
theorem unpack_nil:unpackInts [] 0=none:=by decide
theorem pack_full {s:List UInt8}{l ns:List Int}{z:Nat}(hl:l.length≤1099511627775)(he:packInts l=s)(hu:unpackInts s 0=some (ns,z)):z=s.length∧ns=l:=by
 match hp:packL l with
 | none=>
  have:packInts l=[]:=by rw[packInts,hp]
  rw[←he,this,unpack_nil]at hu
  cases hu
 | some bs=>
  have hin:=packL_in hp
  have h:=unpack_at (s:=s) (rest:=[]) (p:=0) hin hl (by rw[List.drop_zero,List.append_nil,he])
  rw[show((0:Nat):Int)=0 from rfl,hu]at h
  injection h with h
  injection h with h1 h2
  exact⟨by rw[h2,he],h1⟩
theorem decRowsL_nil (p:TRow):decRowsL p []=[]:=by simp[decRowsL]
theorem decRowsL_len:∀(p:TRow) (l:List Int),3 * (decRowsL p l).length≤l.length
 | p,a::b::c::l=>by rw[decRowsL];have:=decRowsL_len ⟨p.fOffset+a,p.fLine+b,c==1⟩ l;simp only[List.length_cons];omega
 | _,[]=>by simp[decRowsL]
 | _,[_]=>by simp[decRowsL]
 | _,[_,_]=>by simp[decRowsL]
theorem rows_full {s:List UInt8}{R:List TRow}{ns:List Int}{z:Nat}(hR:R.length≤1048576)(he:encodeRows R=s)(hu:unpackInts s 0=some (ns,z)):z=s.length:=by
 unfold encodeRows at he
 split at he
 ·exact(pack_full (by rw[encRowsL_len];omega) he hu).1
 ·rw[←he,unpack_nil]at hu
  cases hu
abbrev DecRIx (ns:List Int):={q:Nat×TRow×List TRow // 3 * q.2.2.length=q.1∧q.1≤ns.length∧(-(549755813888 * (q.1:Int))≤q.2.1.fOffset∧q.2.1.fOffset≤549755813888 * (q.1:Int)∧-(549755813888 * (q.1:Int))≤q.2.1.fLine∧q.2.1.fLine≤549755813888 * (q.1:Int))∧q.2.2++decRowsL q.2.1 (ns.drop q.1)=decRowsL row0 ns}
theorem s_impl_DecodeRows (s:List UInt8)(hs:s.length≤1048576):Sim.Spec Try.prog 42 [tvS s] (.tup [.c (.arr 3 ((oL (decodeRows s)).map TRow.tr)),.c (.t (.bool (decodeRows s).isSome))]):=by
 refine spec_of_W hΓ hmix Try.func42 rfl (by decide) rfl ?_
 have hun:=s_impl_UnpackInts s 0 hs (by omega)
 have hul:=unpack_len (p:=0) hs
 match hu:unpackInts s 0 with
 | none=>
  rw[hu]at hun
  dsimp only[rUnp,upL,upZ,Option.isSome]at hun
  have hd:decodeRows s=none:=by rw[decodeRows,hu]
  rw[hd]
  repeat' ((conv=>whnf);first|refine Or.inl ?_|apply oi|(apply fi<;>intro h)|refine ci hun (ai rfl (ai rfl trivial)) ?_|refine⟨_,rfl,?_⟩|((with_reducible show _=_);rfl))
  all_goals try((with_reducible refine Obl.mk ?_);exact KO)
 | some (ns,z)=>
  rw[hu]at hun hul
  dsimp only[rUnp,upL,upZ,Option.isSome]at hun hul
  have hlen:(ns.map intRow).length=ns.length:=by simp
  by_cases h3:ns.length % 3=0
  ·have hrg:=unpack_in hu
   have hm3:((ns.map intRow).length:Int).tmod 3=0:=by rw[hlen,Int.tmod_eq_emod_of_nonneg (by omega)];omega
   have hRl:=decRowsL_len row0 ns
   have hEnc:=s_impl_EncodeRows (decRowsL row0 ns) (by omega)
   have hd:decodeRows s=if encodeRows (decRowsL row0 ns)=s then some (decRowsL row0 ns)else none:=by
    rw[decodeRows,hu]
    by_cases he:encodeRows (decRowsL row0 ns)=s
    ·rw[if_pos he];exact if_pos ⟨h3,he⟩
    ·rw[if_neg he];exact if_neg fun h=>he h.2
   have hz:=fun he=>rows_full (R:=decRowsL row0 ns) (by omega) he hu
   rw[hd]
   repeat' ((conv=>whnf);first|refine Or.inl ?_|apply oi|(apply fi<;>intro h)|refine ci hun (ai rfl (ai rfl trivial)) ?_|refine⟨_,rfl,?_⟩|((with_reducible show _=_);rfl))
   all_goals try((with_reducible refine Obl.mk ?_);exact KO)
   all_goals try(exfalso;rw[hm3]at h;simp at h;done)
   all_goals try(
    have hne:encodeRows (decRowsL row0 ns)≠s:=fun he=>by
     have:=hz he
     rw[this]at h
     simp at h
    rw[if_neg hne]
    exact⟨rfl⟩)
   conv=>whnf
   refine⟨DecRIx ns,fun q=>⟨[(0,tS s),(4,.r (.c (.own (13,0,0)))),(7,.r (.c (.own (25,0,0)))),(8,.r (.c (.ptr (8,0,0) 0))),(9,tI .i64 (q.1.1:Int))],[((13,0,0),some (.arr true 1 (ns.map intRow))),((25,0,0),some (.arr true 3 (q.1.2.2.map TRow.tr))),((8,0,0),some (.box [.t (.int .i64 q.1.2.1.fOffset),.t (.int .i64 q.1.2.1.fLine),.t (.bool q.1.2.1.fStart)]))],[13,25,8]⟩,fun q=>ns.length - q.1.1,⟨(0,row0,[]),by simp,by simp,by simp[row0],by simp⟩,?_,?_⟩
   ·skip
    repeat' ((conv=>whnf);first|refine Or.inl ?_|apply oi|(apply fi<;>intro h)|refine⟨_,rfl,?_⟩|((with_reducible show _=_);rfl))
    all_goals try((with_reducible refine Obl.mk ?_);exact KO)
   intro⟨⟨k,p,acc⟩,hal,hk,hb,hr⟩
   dsimp only at hal hk hb hr ⊢
   by_cases hlt:k < ns.length
   ·obtain⟨a,ha⟩:=get_of_lt hlt
    obtain⟨b,hb2⟩:=get_of_lt (show k+1 < ns.length by omega)
    obtain⟨c,hc⟩:=get_of_lt (show k+2 < ns.length by omega)
    have ia:=hrg a (List.mem_of_getElem? ha)
    have ib:=hrg b (List.mem_of_getElem? hb2)
    rw[drop_at ha,drop_at hb2,drop_at hc,decRowsL]at hr
    have w1:IntKind.i64.wrap ((k:Int)+1)=((k+1:Nat):Int):=by rw[IntWalk.i64_in _ (by omega)];rfl
    have w2:IntKind.i64.wrap ((k:Int)+2)=((k+2:Nat):Int):=by rw[IntWalk.i64_in _ (by omega)];rfl
    have w3:IntKind.i64.wrap (p.fOffset+a)=p.fOffset+a:=IntWalk.i64_in _ (by omega)
    have w4:IntKind.i64.wrap (p.fLine+b)=p.fLine+b:=IntWalk.i64_in _ (by omega)
    repeat' ((conv=>whnf);first|refine Or.inl ?_|apply oi|(apply fi<;>intro h)|refine⟨k+1,w1,?_⟩|refine⟨k+2,w2,?_⟩|refine⟨intRow a,map_get ha,?_⟩|refine⟨intRow b,map_get hb2,?_⟩|refine⟨intRow c,map_get hc,?_⟩|refine⟨_,rfl,?_⟩|((with_reducible show _=_);rfl))
    all_goals try((with_reducible refine Obl.mk ?_);exact KO)
    all_goals try exact KX
    all_goals try exact⟨by rw[hlen];omega⟩
    all_goals try exact⟨⟨by simp;omega,by simp;omega⟩⟩
    all_goals(
     conv=>whnf
     refine⟨⟨(k+3,⟨p.fOffset+a,p.fLine+b,c==1⟩,acc++[⟨p.fOffset+a,p.fLine+b,c==1⟩]),by simp;omega,by dsimp only;omega,⟨by dsimp only;omega,by dsimp only;omega,by dsimp only;omega,by dsimp only;omega⟩,by rw[←hr];simp⟩,?_,by dsimp only;omega⟩)
    repeat' ((conv=>whnf);first|refine Or.inl ?_|apply oi|(apply fi<;>intro h)|refine⟨_,rfl,?_⟩|((with_reducible show _=_);rfl))
    all_goals try((with_reducible refine Obl.mk ?_);exact KO)
    all_goals first
     |(refine⟨?_⟩;dsimp only;rw[w3,w4,List.map_append];rfl)
     |(refine⟨?_⟩;dsimp only;rw[w3];done)
     |(refine⟨?_⟩;dsimp only;rw[w4];done)
     |(refine⟨?_⟩;dsimp only;rw[IntWalk.i64_in _ (by omega)];rfl)
   ·have hge:ns.length≤k:=by omega
    rw[List.drop_eq_nil_of_le hge,decRowsL_nil,List.append_nil]at hr
    ·subst hr
     by_cases he:encodeRows (decRowsL row0 ns)=s
     ·rw[if_pos he]
      rw[he]at hEnc
      repeat' ((conv=>whnf);first|refine Or.inl ?_|apply oi|(apply fi<;>intro h)|refine ci hEnc (ai rfl trivial) ?_|refine⟨_,rfl,?_⟩|((with_reducible show _=_);rfl))
      all_goals try((with_reducible refine Obl.mk ?_);exact KO)
      all_goals try exact KX
      all_goals(exfalso;simp at h;done)
     ·rw[if_neg he]
      repeat' ((conv=>whnf);first|refine Or.inl ?_|apply oi|(apply fi<;>intro h)|refine ci hEnc (ai rfl trivial) ?_|refine⟨_,rfl,?_⟩|((with_reducible show _=_);rfl))
      all_goals try((with_reducible refine Obl.mk ?_);exact KO)
      all_goals try exact KX
      all_goals(exfalso;simp at h;exact he h)
  ·have hd:decodeRows s=none:=by rw[decodeRows,hu];exact if_neg fun h=>h3 h.1
   rw[hd]
   have hm3:((ns.map intRow).length:Int).tmod 3≠0:=by rw[hlen,Int.tmod_eq_emod_of_nonneg (by omega)];omega
   repeat' ((conv=>whnf);first|refine Or.inl ?_|apply oi|(apply fi<;>intro h)|refine ci hun (ai rfl (ai rfl trivial)) ?_|refine⟨_,rfl,?_⟩|((with_reducible show _=_);rfl))
   all_goals try((with_reducible refine Obl.mk ?_);exact KO)
   all_goals(exfalso;simp at h;exact hm3 (by rw[hlen];exact h))
end Go.Proofs.Ytogdbgmiigfmfaa
namespace Go.Proofs.Ytogdbgmiigfmfaa
open Go.Sim
set_option maxRecDepth 100000
set_option maxHeartbeats 4000000
structure PsOk (P:List TPlace):Prop where
 at0:∀x:TPlace,P[0]?=some x→x.fOffset=0
 next:∀(k:Nat) (x y:TPlace),P[k]?=some x→P[k+1]?=some y→y.fOffset=x.fOffset+opSize x.fItem.fOp.fCode
 rng:∀(k:Nat) (x:TPlace),P[k]?=some x→0≤x.fOffset∧x.fOffset≤100000∧1≤opSize x.fItem.fOp.fCode∧opSize x.fItem.fOp.fCode≤5∧0≤x.fItem.fLine∧x.fItem.fLine≤59
 len:P.length≤15000
theorem allPl_split:∀{L:List (Nat×List TPlace)} {k:Nat} {x:TPlace},(allPl L)[k]?=some x→∃i z j,L[i]?=some z∧z.2[j]?=some x∧k=(allPl (L.take i)).length+j
 | [],k,x,h=>by simp[allPl]at h
 | a::L,k,x,h=>by
  have e:allPl (a::L)=a.2++allPl L:=by simp[allPl]
  rw[e,List.getElem?_append]at h
  split at h
  ·exact⟨0,a,k,rfl,h,by simp[allPl]⟩
  ·obtain⟨i,z,j,h1,h2,h3⟩:=allPl_split h
   refine⟨i+1,z,j,by simpa using h1,h2,?_⟩
   rw[List.take_succ_cons,show allPl (a::L.take i)=a.2++allPl (L.take i) by simp[allPl],List.length_append]
   omega
theorem opSize_pos {c a:Int}(h:opOkB c a=true):1≤opSize c∧opSize c≤5:=by
 unfold opOkB at h
 rw[Bool.and_eq_true]at h
 have:=opArg_le c
 rw[opSize,if_pos h.1]
 omega
theorem placesOf_ok {p:List TLine}{b:TBuild}{image:Int}(hs:smallT 1048576 (.lst 4 (p.map TLine.tr))):PsOk (placesOf p b image):=by
 by_cases hc:programOk p=true∧buildOk b=true∧within image 0 1=true
 ·rw[placesOf,if_pos hc]
  obtain⟨h1,h2,_⟩:=hc
  show PsOk (allPl (imgL p b image (funs p).length 0 0))
  obtain⟨h6,h60⟩:=funs_six h1
  have hll:=imgL_len p b image (funs p).length 0 0
  have hlc:=fun x (hx:x∈imgL p b image (funs p).length 0 0)=>(imgL_cap hs hx).1
  have hal:=allPl_cap hlc (Nat.le_refl _)
  rw[List.take_of_length_le (Nat.le_refl _)]at hal
  have hal2:=Nat.mul_le_mul_left 2500 (show(imgL p b image (funs p).length 0 0).length≤6 by omega)
  have key:∀(k:Nat) (x:TPlace),(allPl (imgL p b image (funs p).length 0 0))[k]?=some x→x.fOffset=((codeOf ((allPl (imgL p b image (funs p).length 0 0)).take k)).length:Int)∧opOkB x.fItem.fOp.fCode x.fItem.fOp.fArg=true∧0≤x.fItem.fLine∧x.fItem.fLine≤59:=by
   intro k x hx
   obtain⟨i,z,j,g1,g2,rfl⟩:=allPl_split hx
   obtain⟨hp,ho⟩:=imgL_place hs h1 h2 g1 g2
   have ht:(allPl (imgL p b image (funs p).length 0 0)).take ((allPl ((imgL p b image (funs p).length 0 0).take i)).length+j)=allPl ((imgL p b image (funs p).length 0 0).take i)++z.2.take j:=by
    generalize imgL p b image (funs p).length 0 0=L at *
    have e:L=L.take i++z::L.drop (i+1):=by rw[←drop_at g1,List.take_append_drop]
    have e2:allPl L=allPl (L.take i)++(z.2++allPl (L.drop (i+1))):=by
     conv=>lhs;rw[e]
     simp[allPl]
    rw[e2,List.take_append,Nat.add_sub_cancel_left,List.take_of_length_le (by omega),List.take_append_of_le_length (Nat.le_of_lt (lt_of_get g2))]
   refine⟨by rw[ht,codeOf_append,List.length_append];omega,hp.op,?_⟩
   rcases Nat.eq_zero_or_pos j with rfl|hj
   ·obtain⟨_,g,ln,k1,k2,k3,_⟩:=hp.head rfl
    have:=lt_of_get k3
    omega
   ·obtain⟨_,g,ln,k2,k3,_⟩:=hp.body hj
    have:=lt_of_get k3
    omega
  generalize allPl (imgL p b image (funs p).length 0 0)=P at *
  refine⟨fun x hx=>?_,fun k x y hx hy=>?_,fun k x hx=>?_,by omega⟩
  ·have:=(key 0 x hx).1
   simpa [codeOf]using this
  ·obtain⟨a1,a2,_⟩:=key k x hx
   obtain⟨b1,_⟩:=key (k+1) y hy
   have:=encodeOp_len a2
   rw[b1,a1,take_one hx,codeOf_append,List.length_append,codeOf_one]
   omega
  ·obtain⟨a1,a2,a3,a4⟩:=key k x hx
   have hz:=opSize_pos a2
   have hcl:=codeOf_len (P.take k)
   have hkl:=lt_of_get hx
   have:(P.take k).length=k:=by rw[List.length_take];omega
   omega
 ·rw[placesOf,if_neg hc]
  exact⟨fun x h=>by simp at h,fun k x y h=>by simp at h,fun k x h=>by simp at h,by simp⟩
theorem PsOk.lt {P:List TPlace}(h:PsOk P):∀{n k:Nat} {x y:TPlace},P[k]?=some x→P[k+n+1]?=some y→x.fOffset+opSize x.fItem.fOp.fCode≤y.fOffset
 | 0,k,x,y,hx,hy=>by have:=h.next k x y hx hy;omega
 | n+1,k,x,y,hx,hy=>by
  obtain⟨z,hz⟩:=get_of_lt (l:=P) (k:=k+n+1) (by have:=lt_of_get hy;omega)
  have h1:=h.lt hx hz
  have h2:=h.next (k+n+1) z y hz (by rw[show k+n+1+1=k+(n+1)+1 by omega];exact hy)
  have:=(h.rng _ z hz).2.2.1
  omega
def rowsTo (P:List TPlace)(k:Nat):List TRow:=rowsOfF none (P.take k)
theorem rowsOfF_append:∀(A B:List TPlace) (p:Option TPlace),rowsOfF p (A++B)=rowsOfF p A++rowsOfF (match A.getLast? with|some x=>some x|none=>p) B
 | [],B,p=>rfl
 | x::A,B,p=>by
  rw[List.cons_append,rowsOfF,rowsOfF_append A B,rowsOfF,List.append_assoc]
  congr 2
  cases A with
  | nil=>rfl
  | cons y A=>simp[List.getLast?_cons]
theorem lastP_take {P:List TPlace}{k:Nat}(hk:k≤P.length):(match(P.take k).getLast? with|some x=>some x|none=>none)=prevP P k:=by
 rw[prevP]
 cases k with
 | zero=>simp
 | succ k=>
  obtain⟨x,hx⟩:=get_of_lt (l:=P) (k:=k) (by omega)
  rw[take_one hx,if_neg (by omega),Nat.add_sub_cancel,hx]
  simp
theorem rowsTo_succ {P:List TPlace}{k:Nat}{x:TPlace}(hx:P[k]?=some x):rowsTo P (k+1)=rowsTo P k++(if skipRow (prevP P k) x then []else [rowOf x]):=by
 have:=lastP_take (P:=P) (k:=k) (by have:=lt_of_get hx;omega)
 rw[rowsTo,take_one hx,rowsOfF_append,this,rowsTo,rowsOfF,rowsOfF,List.append_nil]
theorem rowsTo_all (P:List TPlace):rowsTo P P.length=rowsOf P:=by rw[rowsTo,List.take_of_length_le (Nat.le_refl _)];rfl
theorem rowsTo_split {P:List TPlace}{k:Nat}(hk:k≤P.length):rowsOf P=rowsTo P k++rowsOfF (prevP P k) (P.drop k):=by
 rw[rowsOf,rowsTo,←lastP_take hk,←rowsOfF_append,List.take_append_drop]
structure LastR (P:List TPlace) (k:Nat) (x:TPlace) (r:TRow):Prop where
 line:r.fLine=x.fItem.fLine
 off:r.fOffset≤x.fOffset
 st:(r.fOffset==x.fOffset && r.fStart)=x.fItem.fStart
theorem rowsTo_last {P:List TPlace}(h:PsOk P):∀{k:Nat} {x:TPlace},P[k]?=some x→∃A r,rowsTo P (k+1)=A++[r]∧LastR P k x r∧A.length+1≤k+1
 | 0,x,hx=>by
  rw[rowsTo_succ hx]
  exact⟨[],rowOf x,by simp[rowsTo,prevP,skipRow,rowsOfF],⟨rfl,Int.le_refl _,by simp[rowOf]⟩,by simp⟩
 | k+1,x,hx=>by
  obtain⟨y,hy⟩:=get_of_lt (l:=P) (k:=k) (by have:=lt_of_get hx;omega)
  obtain⟨A,r,h1,h2,h3⟩:=rowsTo_last h hy
  rw[rowsTo_succ hx,h1]
  have hp:prevP P (k+1)=some y:=by rw[prevP,if_neg (by omega)];exact hy
  rw[hp]
  cases hsk:skipRow (some y) x with
  | false=>exact⟨A++[r],rowOf x,by simp,⟨rfl,Int.le_refl _,by simp[rowOf]⟩,by simp;omega⟩
  | true=>
   refine⟨A,r,by simp,?_,by omega⟩
   simp only[skipRow,Bool.and_eq_true,Bool.not_eq_true',beq_iff_eq]at hsk
   have hn:=h.next k y x hy hx
   have:=(h.rng _ y hy).2.2.1
   have ho:=h2.off
   refine⟨h2.line.trans hsk.2.2,by omega,?_⟩
   rw[hsk.1]
   have:(r.fOffset==x.fOffset)=false:=by simp;omega
   rw[this,Bool.false_and]
theorem rowsOfF_ge {P:List TPlace}(h:PsOk P){lo:Int}:∀{n k:Nat} {p:Option TPlace},P.length - k≤n→(∀x,P[k]?=some x→lo≤x.fOffset)→∀r∈rowsOfF p (P.drop k),lo≤r.fOffset
 | 0,k,p,hn,_,r,hr=>by
  rw[List.drop_eq_nil_of_le (by omega)]at hr
  cases hr
 | n+1,k,p,hn,h0,r,hr=>by
  rcases Nat.lt_or_ge k P.length with hk|hk
  ·obtain⟨x,hx⟩:=get_of_lt hk
   rw[drop_at hx,rowsOfF,List.mem_append]at hr
   rcases hr with hr|hr
   ·split at hr
    ·cases hr
    ·rw[List.mem_singleton]at hr;subst hr;exact h0 x hx
   ·refine rowsOfF_ge h (n:=n) (k:=k+1) (by omega) (fun y hy=>?_) r hr
    have:=h.next k x y hx hy
    have:=(h.rng _ x hx).2.2.1
    have:=h0 x hx
    omega
  ·rw[List.drop_eq_nil_of_le hk]at hr
   cases hr
theorem rowsTo_le {P:List TPlace}(h:PsOk P):∀{k:Nat},k≤P.length→∀r∈rowsTo P k,nearRow r∧∀x,P[k]?=some x→r.fOffset < x.fOffset
 | 0,_,r,hr=>by simp[rowsTo,rowsOfF]at hr
 | k+1,hk,r,hr=>by
  obtain⟨y,hy⟩:=get_of_lt (l:=P) (k:=k) (by omega)
  have hy2:=h.rng _ y hy
  rw[rowsTo_succ hy,List.mem_append]at hr
  rcases hr with hr|hr
  ·obtain⟨h1,h2⟩:=rowsTo_le h (by omega) r hr
   refine⟨h1,fun x hx=>?_⟩
   have:=h2 y hy
   have:=h.next k y x hy hx
   omega
  ·split at hr
   ·cases hr
   ·rw[List.mem_singleton]at hr
    subst hr
    refine⟨⟨hy2.1,by show y.fOffset≤1000000;omega,hy2.2.2.2.2.1,hy2.2.2.2.2.2⟩,fun x hx=>?_⟩
    have:=h.next k y x hy hx
    show y.fOffset < x.fOffset
    omega
theorem rowsOkF_snoc:∀{l:List TRow} {p:Option Int} {r:TRow},rowsOkF p l=true→nearRow r→(∀q,p=some q→q < r.fOffset)→(∀y∈l,y.fOffset < r.fOffset)→rowsOkF p (l++[r])=true
 | [],p,r,_,hn,hp,_=>by
  rw[List.nil_append,rowsOkF,rowsOkF,Bool.and_true]
  cases p with
  | none=>simp only[rowOkAt,within_iff.2 ⟨hn.1,hn.2.1⟩,within_iff.2 ⟨hn.2.2.1,hn.2.2.2⟩];rfl
  | some q=>simp only[rowOkAt,within_iff.2 ⟨hn.1,hn.2.1⟩,within_iff.2 ⟨hn.2.2.1,hn.2.2.2⟩];simpa using hp q rfl
 | y::l,p,r,h,hn,hp,hl=>by
  rw[rowsOkF,Bool.and_eq_true]at h
  rw[List.cons_append,rowsOkF,h.1,Bool.true_and]
  exact rowsOkF_snoc h.2 hn (fun q hq=>by injection hq with hq;subst hq;exact hl y (by simp)) fun z hz=>hl z (by simp[hz])
theorem rowsTo_ok {P:List TPlace}(h:PsOk P):∀{k:Nat},k≤P.length→rowsOk (rowsTo P k)=true
 | 0,_=>rfl
 | k+1,hk=>by
  obtain⟨x,hx⟩:=get_of_lt (l:=P) (k:=k) (by omega)
  have hx2:=h.rng _ x hx
  have ih:=rowsTo_ok h (k:=k) (by omega)
  rw[rowsTo_succ hx]
  split
  ·rwa [List.append_nil]
  ·exact rowsOkF_snoc ih ⟨hx2.1,by show x.fOffset≤1000000;omega,hx2.2.2.2.2.1,hx2.2.2.2.2.2⟩ (fun q hq=>by cases hq) fun y hy=>(rowsTo_le h (by omega) y hy).2 x hx
theorem rowsOf_ok {P:List TPlace}(h:PsOk P):rowsOk (rowsOf P)=true:=by rw[←rowsTo_all];exact rowsTo_ok h (Nat.le_refl _)
theorem findRowF_lo {off:Int}:∀{B:List TRow} {i:Nat} {f:Int},(∀r∈B,off < r.fOffset)→findRowF off B i f=f
 | [],_,_,_=>rfl
 | r::B,i,f,h=>by
  rw[findRowF,if_neg (by have:=h r (by simp);omega)]
  exact findRowF_lo fun y hy=>h y (by simp[hy])
theorem findRowF_hi {off:Int}{B:List TRow}(hB:∀r∈B,off < r.fOffset):∀{A:List TRow} {i:Nat} {f:Int} {r:TRow},(∀y∈A++[r],y.fOffset≤off)→findRowF off (A++[r]++B) i f=(i+A.length:Nat)
 | [],i,f,r,h=>by
  rw[List.nil_append,List.singleton_append,findRowF,if_pos (h r (by simp)),findRowF_lo hB]
  rfl
 | y::A,i,f,r,h=>by
  rw[List.cons_append,List.cons_append,findRowF,findRowF_hi hB fun z hz=>h z (by simp at hz ⊢;exact .inr hz)]
  simp;omega
theorem row_of {P:List TPlace}(h:PsOk P){k:Nat}{x:TPlace}(hx:P[k]?=some x){off:Int}(h1:x.fOffset≤off)(h2:off < x.fOffset+opSize x.fItem.fOp.fCode):
  ∃(i:Nat) (r:TRow),findRow (rowsOf P) off=(i:Int)∧(rowsOf P)[i]?=some r∧LastR P k x r:=by
 have hk:=lt_of_get hx
 obtain⟨A,r,e,hl,_⟩:=rowsTo_last h hx
 have hle:=rowsTo_le h (k:=k+1) (by omega)
 have hsp:=rowsTo_split (P:=P) (k:=k+1) (by omega)
 have hge:=rowsOfF_ge h (lo:=x.fOffset+opSize x.fItem.fOp.fCode) (n:=P.length - (k+1)) (k:=k+1) (p:=prevP P (k+1)) (by omega) (fun y hy=>by have:=h.next k x y hx hy;omega)
 rw[e]at hsp hle
 refine⟨A.length,r,?_,?_,hl⟩
 ·rw[findRow,if_pos (rowsOf_ok h),hsp,findRowF_hi (fun z hz=>by have:=hge z hz;omega) (fun y hy=>?_),Nat.zero_add]
  rw[←e,rowsTo_succ hx,List.mem_append]at hy
  rcases hy with hy|hy
  ·have:=(rowsTo_le h (k:=k) (by omega) y hy).2 x hx;omega
  ·split at hy
   ·cases hy
   ·rw[List.mem_singleton]at hy;subst hy;exact h1
 ·rw[hsp]
  simp
theorem rowsOf_start {P:List TPlace}(h:PsOk P){k:Nat}{x:TPlace}(hx:P[k]?=some x):isStart (rowsOf P) x.fOffset=x.fItem.fStart:=by
 have:=(h.rng _ x hx).2.2.1
 obtain⟨i,r,e1,e2,e3⟩:=row_of h hx (off:=x.fOffset) (Int.le_refl _) (by omega)
 rw[isStart,e1,Int.toNat_natCast,e2]
 simp only[show decide ((0:Int)≤(i:Int))=true from decide_eq_true (by omega),Bool.true_and]
 exact e3.st
theorem rowsOf_len (P:List TPlace):(rowsOf P).length≤P.length:=rowsOfF_len P none
theorem encRows_len:∀(p:TRow) (l:List TRow),(encRowsL p l).length=3 * l.length
 | _,[]=>rfl
 | p,r::l=>by rw[encRowsL,List.length_cons,List.length_cons,List.length_cons,encRows_len r l,List.length_cons];omega
theorem encRows_in:∀{p:TRow} {l:List TRow},nearRow p→(∀r∈l,nearRow r)→∀n∈encRowsL p l,-1000000≤n∧n≤1000000
 | _,[],_,_,n,h=>by cases h
 | p,r::l,hp,hl,n,h=>by
  have hr:=hl r (by simp)
  unfold nearRow at hp hr
  rw[encRowsL]at h
  simp only[List.mem_cons]at h
  rcases h with rfl|rfl|rfl|h
  ·omega
  ·omega
  ·unfold b01;split <;> omega
  ·exact encRows_in (hl r (by simp)) (fun y hy=>hl y (by simp[hy])) n h
theorem dec_encRows:∀(p:TRow) (l:List TRow),decRowsL p (encRowsL p l)=l
 | _,[]=>rfl
 | p,r::l=>by
  have e:(⟨p.fOffset+(r.fOffset - p.fOffset),p.fLine+(r.fLine - p.fLine),b01 r.fStart==1⟩:TRow)=r:=by
   obtain⟨a,b,c⟩:=r
   simp only[TRow.mk.injEq]
   exact⟨by omega,by omega,by cases c <;> rfl⟩
  rw[encRowsL,decRowsL,e,dec_encRows r l]
theorem inSign_of {n:Int}(h:-1000000≤n∧n≤1000000):inSign n:=by unfold inSign;omega
theorem rows_back {l:List TRow}(h:rowsOk l=true)(hl:l.length≤1048576):decodeRows (encodeRows l)=some l:=by
 have hm:=rowsOkF_mem h
 have hu:=unpack_at (s:=packInts (encRowsL row0 l)) (rest:=[]) (p:=0) (fun n hn=>inSign_of (encRows_in (p:=row0) (l:=l) (by unfold nearRow row0;simp) hm n hn)) (by rw[encRows_len];omega) (by simp)
 have hu:unpackInts (packInts (encRowsL row0 l)) 0=some (encRowsL row0 l,(packInts (encRowsL row0 l)).length):=hu
 rw[encodeRows,if_pos h,decodeRows,hu]
 dsimp only
 rw[dec_encRows,encRows_len,if_pos ⟨by omega,by rw[encodeRows,if_pos h]⟩]
end Go.Proofs.Ytogdbgmiigfmfaa
namespace Go.Proofs.Ytogdbgmiigfmfaa
open Go.Sim
set_option maxRecDepth 100000
set_option maxHeartbeats 4000000
def DI (it:TItem):Prop:=0≤it.fDepth∧it.fDepth≤1200∧(it.fEntered=true→it.fDepth=0)
def Dp (a b:Gs):Prop:=(∀it∈a.items,DI it)→∀it∈b.items,DI it
theorem Dp.refl (s:Gs):Dp s s:=id
theorem Dp.trans {a b c:Gs}(h:Dp a b)(h':Dp b c):Dp a c:=fun x=>h' (h x)
theorem Dp.same {a b b':Gs}(h:Dp a b)(e:b'.items=b.items):Dp a b':=fun x=>by rw[e];exact h x
section
variable {C:Cx} {x:Sc} {ins:List Nat} {rep:Sc→List Nat→Nat→Nat→Int→Gs→Gs} {line:Nat}
end
end Go.Proofs.Ytogdbgmiigfmfaa
namespace Go.Proofs.Ytogdbgmiigfmfaa
open Go.Sim
set_option maxRecDepth 100000
set_option maxHeartbeats 4000000
theorem packInts_len (ns:List Int):(packInts ns).length≤6 * (ns.length+1):=by
 unfold packInts
 split
 ·rename_i bs h
  have:=packL_len h
  have:=enc_len ns.length
  rw[List.length_append]
  omega
 ·simp
end Go.Proofs.Ytogdbgmiigfmfaa
namespace Go.Proofs.Ytogdbgmiigfmfaa
open Go.Sim
set_option maxRecDepth 100000
set_option maxHeartbeats 4000000
theorem encRows_cap {l:List TRow}(hl:l.length≤15000):(encodeRows l).length≤400000:=by
 unfold encodeRows
 split
 ·have:=packInts_len (encRowsL row0 l)
  rw[encRows_len]at this
  omega
 ·simp
end Go.Proofs.Ytogdbgmiigfmfaa
namespace Go.Proofs.Ytogdbgmiigfmfaa
open Go.Sim Go.ChangeShapes Go.WideShapes Go.ChangeAt Go.RowKit
set_option maxRecDepth 100000
set_option maxHeartbeats 4000000
theorem s_laws_sameRows (l:List TRow)(hl:l.length≤1048576):Sim.Spec Try.prog 45 [tvL 3 (l.map TRow.tr),tvL 3 (l.map TRow.tr)] (rB true):=by
 refine spec_of_Wo hΓ hmix Try.func45 rfl (by decide) rfl ?_
 have hlen:(l.map TRow.tr).length=l.length:=by simp
 repeat' ((conv=>whnf);first|(with_reducible first|apply Wx|apply W6)|apply oi|(apply fi<;>intro h)|refine⟨_,rfl,?_⟩|((with_reducible show _=_);rfl))
 all_goals try((with_reducible refine Obl.mk ?_);exact KP)
 all_goals try(exfalso;simp at h;done)
 conv=>whnf
 refine⟨{k:Nat // k≤l.length},fun k=>⟨[(0,.r (.c (.t (.lst 3 (l.map TRow.tr))))),(1,.r (.c (.t (.lst 3 (l.map TRow.tr))))),(5,tI .i64 (k.1:Int))],[],[]⟩,fun k=>l.length - k.1,⟨0,by omega⟩,?_,?_⟩
 ·skip
  repeat' ((conv=>whnf);first|(with_reducible first|apply Wx|apply W6)|apply oi|(apply fi<;>intro h)|refine⟨_,rfl,?_⟩|((with_reducible show _=_);rfl))
  all_goals try((with_reducible refine Obl.mk ?_);exact KP)
 intro⟨k,hk⟩
 dsimp only
 by_cases hlt:k < l.length
 ·obtain⟨x,hx⟩:=get_of_lt hlt
  repeat' ((conv=>whnf);first|(with_reducible first|apply Wx|apply W6)|apply oi|(apply fi<;>intro h)|refine⟨k,x.tr,rfl,map_get hx,?_⟩|refine⟨_,rfl,?_⟩|((with_reducible show _=_);rfl))
  all_goals try((with_reducible refine Obl.mk ?_);exact KP)
  all_goals try(exfalso;simp at h;done)
  conv=>whnf
  refine⟨⟨k+1,by omega⟩,?_,by dsimp only;omega⟩
  repeat' ((conv=>whnf);first|(with_reducible first|apply Wx|apply W6)|apply oi|(apply fi<;>intro h)|refine⟨_,rfl,?_⟩|((with_reducible show _=_);rfl))
  all_goals try((with_reducible refine Obl.mk ?_);exact KP)
  all_goals try exact⟨KW⟩
 ·skip
  repeat' ((conv=>whnf);first|(with_reducible first|apply Wx|apply W6)|apply oi|(apply fi<;>intro h)|refine⟨_,rfl,?_⟩|((with_reducible show _=_);rfl))
  all_goals try((with_reducible refine Obl.mk ?_);exact KP)
  all_goals try exact KX
theorem s_laws_FnRows (code:List UInt8):Sim.Spec Try.prog 9 [tvL 1 (code.map byteRow)] (rB true):=by
 refine spec_of_Wo hΓ hmix Try.func9 rfl (by decide) rfl ?_
 repeat' ((conv=>whnf);first|(with_reducible first|apply Wx|apply W6)|apply oi|(apply fi<;>intro h)|refine cl ((s_laws_big code)) ?_|refine⟨_,rfl,?_⟩|((with_reducible show _=_);rfl))
 all_goals try((with_reducible refine Obl.mk ?_);exact KP)
 have hl:code.length≤1048576:=by have:=of_decide_eq_false h;omega
 obtain⟨p,b,img,h1,h2,h3,hs,g0⟩:=g_spec_DrawDebug code hl
 have hP:=s_spec_PlacesOf p b (img:Int) hs
 have hk:=placesOf_ok (b:=b) (image:=(img:Int)) hs
 generalize placesOf p b (img:Int)=P at *
 have hlen:=hk.len
 have hR:=s_impl_RowsOf P (by omega)
 have hrl:=rowsOf_len P
 have hok:=rowsOf_ok hk
 have hro:=fun{k:Nat} {x:TPlace} (hx:P[k]?=some x)=>row_of hk hx (off:=x.fOffset+opSize x.fItem.fOp.fCode - 1)
 have hst:=fun{k:Nat} {x:TPlace} (hx:P[k]?=some x)=>rowsOf_start hk hx
 have hback:=rows_back hok (by omega)
 generalize rowsOf P=R at *
 have hRk:=s_impl_RowsOk R (by omega)
 rw[hok]at hRk
 have hE:=s_impl_EncodeRows R (by omega)
 have hcap:=encRows_cap (l:=R) (by omega)
 have hD:=s_impl_DecodeRows (encodeRows R) (by omega)
 rw[hback]at hD
 generalize encodeRows R=eb at *
 have hSm:=s_laws_sameRows R (by omega)
 have hpl:(P.map TPlace.tr).length=P.length:=by simp
 have hRl:(R.map TRow.tr).length=R.length:=by simp
 refine cg (g0) ?_
 repeat' ((conv=>whnf);first|(with_reducible first|apply Wx|apply W6)|apply oi|(apply fi<;>intro h)|refine cl hP ?_|refine cl hR ?_|refine⟨_,rfl,?_⟩|((with_reducible show _=_);rfl))
 all_goals try((with_reducible refine Obl.mk ?_);exact KP)
 conv=>whnf
 refine⟨{k:Nat // k≤P.length},fun k=>⟨[(6,.r (.c (.own (27,0,0)))),(7,.r (.c (.own (29,0,0)))),(8,tI .i64 (k.1:Int))],[((29,0,0),some (.arr true 3 (R.map TRow.tr))),((27,0,0),some (.arr true 8 (P.map TPlace.tr)))],[29,27,4,16,13]⟩,fun k=>P.length - k.1,⟨0,by omega⟩,?_,?_⟩
 ·skip
  repeat' ((conv=>whnf);first|(with_reducible first|apply Wx|apply W6)|apply oi|(apply fi<;>intro h)|refine⟨_,rfl,?_⟩|((with_reducible show _=_);rfl))
  all_goals try((with_reducible refine Obl.mk ?_);exact KP)
 intro⟨k,hkP⟩
 dsimp only
 by_cases hlt:k < P.length
 ·obtain⟨x,hx⟩:=get_of_lt hlt
  obtain⟨r1,r2,r3,r4,_⟩:=hk.rng k x hx
  obtain⟨i,r,e1,e2,e3⟩:=hro hx (by omega) (by omega)
  have hF2:=s_impl_FindRow R (x.fOffset+opSize x.fItem.fOp.fCode - 1) (by omega)
  rw[e1]at hF2
  have hS:=s_impl_IsStart R x.fOffset (by omega)
  rw[hst hx]at hS
  have hO:=s_spec_OpSize x.fItem.fOp.fCode
  have hil:=lt_of_get e2
  have hir:i < (R.map TRow.tr).length:=by omega
  have hrt:(R.map TRow.tr)[i]?=some r.tr:=map_get e2
  have hkl:k < (P.map TPlace.tr).length:=by omega
  have hxt:(P.map TPlace.tr)[k]?=some x.tr:=map_get hx
  have hw1:IntKind.i64.wrap (IntKind.i64.wrap (x.fOffset+opSize x.fItem.fOp.fCode) - 1)=x.fOffset+opSize x.fItem.fOp.fCode - 1:=by rw[IntWalk.i64_in (x.fOffset+opSize x.fItem.fOp.fCode) (by omega),IntWalk.i64_in _ (by omega)]
  rw[←hw1]at hF2
  have hline:=e3.line
  repeat' ((conv=>whnf);first|(with_reducible first|apply Wx|apply W6)|apply oi|(apply fi<;>intro h)|refine⟨k,rfl,hkl,?_⟩|refine⟨_,hxt,?_⟩|refine cl hO ?_|refine cl hF2 ?_|refine cl hS ?_|refine⟨i,rfl,hir,?_⟩|refine⟨_,hrt,?_⟩|refine⟨_,rfl,?_⟩|((with_reducible show _=_);rfl))
  all_goals try((with_reducible refine Obl.mk ?_);exact KP)
  all_goals try exact KX
  all_goals try(exfalso;simp_all;done)
  conv=>whnf
  refine⟨⟨k+1,by omega⟩,?_,by dsimp only;omega⟩
  repeat' ((conv=>whnf);first|(with_reducible first|apply Wx|apply W6)|apply oi|(apply fi<;>intro h)|refine⟨_,rfl,?_⟩|((with_reducible show _=_);rfl))
  all_goals try((with_reducible refine Obl.mk ?_);exact KP)
  all_goals try exact⟨KW⟩
 ·skip
  repeat' ((conv=>whnf);first|(with_reducible first|apply Wx|apply W6)|apply oi|(apply fi<;>intro h)|refine cl hE ?_|refine cl hD ?_|refine cl hRk ?_|refine cl hSm ?_|refine⟨_,rfl,?_⟩|((with_reducible show _=_);rfl))
  all_goals try((with_reducible refine Obl.mk ?_);exact KP)
  all_goals try exact KX
  all_goals try(exfalso;first|(simp at h;done)|(simp at h;omega)|(simp_all;done)|(simp_all;omega))
  all_goals exact⟨congrArg Tr.bool (decide_eq_true (by omega))⟩
theorem fnRows_lifted (os:Os)(started:os.Started)(H:Type)(enc:TypeId×Value→H):
  ReturnsInHanded {} Try.checked os 9 .any (Rows.fnRowsSpec.pre6 enc Try.prog Try.f9 Rows.fnRowsRow.domain false) (Rows.fnRowsSpec.post enc Try.prog Try.f9 false true false false):=by
 refine returnsInHanded_of_change (C:=Try.checked) own started (by kernel_rfl) Try.func9
  (ChangeSpec.witness6 (enc:=enc) (C:=Try.checked) false ⟨#[],#[.slice none 0 0],[]⟩ 8 (by kernel_rfl) (by kernel_rfl) (by kernel_rfl) (by kernel_rfl)) ?_
 intro W base args ds gs before hval hW _ _
 have hW0:=hW
 obtain⟨p,q,hA,_,_,_,_⟩:=hW0
 have hlen:=trodAll_len hA
 obtain⟨xs,hx,hty⟩:=args_typed (n:=8) hΓ (by kernel_rfl) (fun j t v h1 h2=>hval j t v (by simpa using h1) (by simpa using h2)) hA
 rw[Try.params9]at hty hlen
 obtain⟨_,xs0,rfl,hx0,hty0⟩:=typedVs_cons hty
 obtain⟨_,rfl,rows,⟨⟩,hl,hr⟩:=hx0
 obtain rfl:=typedVs_nil hty0
 obtain⟨d0,rfl⟩:=len1 hlen
 obtain⟨bs,rfl⟩:=byte_rows (rows:=rows) (fun r hr'=>hr r hr')
 exact law_calls laidOut rfl Try.underlying4 rfl (by kernel_rfl) rfl hx (s_laws_FnRows bs) hW
theorem fnRows_holds:Rows.FnRowsSaid:=
 OpenClaim.holds_of_wide 9 Try.f9 rfl rfl rfl rfl rfl rfl rfl ⟨rfl,rfl,rfl,rfl,rfl⟩ rfl rfl rfl rfl rfl (by kernel_rfl) Try.func9 (by kernel_rfl)
  (of_decide_eq_true (by kernel_rfl)) (by unfold Func.isWrapper;first|(rw[if_pos (by decide+kernel)];kernel_rfl)|(rw[if_neg (by decide+kernel)];exact⟨rfl,rfl⟩))
  (fun os started H enc _=>fnRows_lifted os started H enc)
end Go.Proofs.Ytogdbgmiigfmfaa
