import Derived.Test.YtjmplnfiabmalaaGg
namespace Go.Proofs.Ytjmplnfiabmalaa
open Go.Sim
set_option maxRecDepth 100000
set_option maxHeartbeats 4000000
structure Grow (n:Nat) (s s':Gs):Prop where
 ge:s.items.length≤s'.items.length
 le:s'.items.length≤s.items.length+n
 most:s.most≤s'.most
 cap:s.most≤1000→s'.most≤1000
theorem Grow.refl (s:Gs):Grow 0 s s:=⟨Nat.le_refl _,Nat.le_refl _,Int.le_refl _,id⟩
theorem Grow.trans {n m:Nat}{a b c:Gs}(h:Grow n a b)(h':Grow m b c):Grow (n+m) a c:=⟨Nat.le_trans h.ge h'.ge,by have:=h.le;have:=h'.le;omega,Int.le_trans h.most h'.most,fun x=>h'.cap (h.cap x)⟩
theorem Grow.mono {n m:Nat}{a b:Gs}(h:Grow n a b)(hn:n≤m):Grow m a b:=⟨h.ge,by have:=h.le;omega,h.most,h.cap⟩
theorem aI (C:Cx)(s:Gs)(d code arg line:Int)(chain:List Int):Grow 1 s (co C s d code arg line chain):=⟨by simp[co],by simp[co],Int.le_refl _,id⟩
theorem ea (l:List Ag)(j v:Int):(oK l j v).length=l.length:=by
 unfold oK
 split
 ·split
  ·rw[List.length_set]
  ·rfl
 ·rfl
theorem og (v:Int):∀(js:List Int) (l:List Ag),(rF l v js).length=l.length
 | [],_=>rfl
 | j::js,l=>by rw[rF,og v js,ea]
def ed:Nat→Nat
 | 0=>1
 | n+1=>30+9 * (20 * ed n+3)
theorem xq:∀n,1≤ed n
 | 0=>Nat.le_refl _
 | n+1=>by rw[ed];omega
def ga (C:Cx)(g:Nat):Prop:=∃ln,C.p[g]?=some ln∧ln.faa=0
section
variable {C:Cx} {x:Sc} {ins:List Nat} {rep:Sc→List Nat→Nat→Nat→Int→Gs→Gs} {line:Nat} {lev:Nat}
theorem kl (y:Sc)(chain:List Int)(line:Int):∀(n:Nat) (d:Int) (s:Gs),Grow n s (nq C y chain line n d s)
 | 0,d,s=>Grow.refl s
 | n+1,d,s=>by
  rw[nq]
  exact((aI C s d _ _ _ _).trans (kl y chain line n (d - 1) _)).mono (by omega)
theorem mF (y:Sc)(chain:List Int)(line d:Int):∀(n i:Nat) (s:Gs),Grow (2 * n) s (qX C y chain line d n i s)
 | 0,i,s=>Grow.refl s
 | n+1,i,s=>by
  rw[qX]
  exact(((aI C s d _ _ _ _).trans (aI C _ (d+1) _ _ _ _)).trans (mF y chain line d n (i+1) _)).mono (by omega)
theorem vZ (hrep:∀g d s,ga C g→fL C ins g s.items.length=true→Grow (ed lev) s (rep x ins line g d s))(t:Aq)(d:Int)(s:Gs):Grow (ed lev) s (yS C rep x ins line t d s):=by
 have hp:=xq lev
 unfold yS
 split
 ·exact(aI ..).mono hp
 ·split
  ·exact(aI ..).mono hp
  ·split
   ·split
    ·rename_i g hg
     split
     ·rename_i hr
      obtain⟨_,ln,h1,h2,_⟩:=eK hg
      exact hrep g d s ⟨ln,h1,h2⟩ hr
     ·exact(aI ..).mono hp
    ·exact(Grow.refl s).mono (by omega)
   ·exact(aI ..).mono hp
mutual
theorem pX (hrep:∀g d s,ga C g→fL C ins g s.items.length=true→Grow (ed lev) s (rep x ins line g d s)):∀(e:Ex) (d:Int) (s:Gs),Grow (e.toks.length * ed lev) s (sW C rep x ins line e d s)
 | .node t es,d,s=>by
  rw[sW,Ex.toks,List.length_cons]
  exact((oY hrep es d s).trans (vZ hrep t _ _)).mono (by rw[Nat.add_mul];omega)
theorem oY (hrep:∀g d s,ga C g→fL C ins g s.items.length=true→Grow (ed lev) s (rep x ins line g d s)):∀(es:List Ex) (d:Int) (s:Gs),Grow ((az es).length * ed lev) s (sH C rep x ins line es d s)
 | [],d,s=>by rw[sH,az];exact(Grow.refl s).mono (by omega)
 | a::es,d,s=>by
  rw[sH,az,List.length_append,Nat.add_mul]
  exact(pX hrep a d s).trans (oY hrep es (d+1) _)
end
theorem ez:∀{es:List Ex} {j:Nat} {a:Ex},es[j]?=some a→(az (es.take (j+1))).length=(az (es.take j)).length+a.toks.length
 | [],_,_,h=>by simp at h
 | b::es,0,a,h=>by
  rw[List.getElem?_cons_zero]at h
  injection h with h
  subst h
  simp[az]
 | b::es,j+1,a,h=>by
  rw[List.getElem?_cons_succ]at h
  rw[List.take_succ_cons,az,List.length_append,ez h,List.take_succ_cons,az,List.length_append]
  omega
theorem xS (hC:CxOk C)(hx:ScOk C x ins)(line:Nat){g:Nat}(hg:ga C g):ScOk C (nY C x line g) (ins++[g]):=by
 obtain⟨e,_,_,_,_,h8⟩:=hx.endE hC
 have hle:=hx.argLe hC
 refine⟨hg,rfl,?_,?_,?_,?_,by simp[nY]⟩
 ·simp only[nY,nS,List.length_append,List.length_cons,List.length_nil]
  have:=hx.first
  split
  ·rename_i ho
   rw[hx.args ho]
   omega
  ·omega
 ·simp only[nY,List.length_append,List.length_cons,List.length_nil]
  have:=hx.chain
  omega
 ·simp[nY]
 ·simp[nY]
theorem xy (hC:CxOk C)(hx:ScOk C x ins):0≤nS C x∧nS C x≤8 * ins.length+8:=by
 obtain⟨e,_,_,_,_,h8⟩:=hx.endE hC
 have hle:=hx.argLe hC
 have:=hx.first
 unfold nS
 split
 ·rename_i ho
  rw[hx.args ho]
  omega
 ·omega
theorem qF (hC:CxOk C){g:Nat}(hg:ga C g):(localsOf C.p (g:Int)).length≤8∧argsN C.p g≤(localsOf C.p (g:Int)).length:=by
 obtain⟨ln,h1,h2⟩:=hg
 obtain⟨e,h3,h4,h5,_⟩:=hC.fn _ _ h1 h2
 rw[argsN,h1]
 exact⟨h4,h5⟩
theorem vp (hC:CxOk C)(hx:ScOk C x ins)(hi:ins.length≤10)(line:Nat){g:Nat}(hg:ga C g)(d:Int)(s:Gs):Grow 16 s (wz C x line g d s):=by
 obtain⟨h1,h2⟩:=qF hC hg
 have ht:=xy hC hx
 have h0:Grow 0 s ⟨s.items,max s.most (nS C x+(localsOf C.p (g:Int)).length),s.start⟩:=⟨Nat.le_refl _,Nat.le_refl _,by dsimp only;omega,fun h=>by dsimp only;omega⟩
 unfold wz
 exact((h0.trans (kl _ _ _ _ _ _)).trans (mF _ _ _ _ _ _ _)).mono (by omega)
theorem tl (x:Sc)(line:Nat)(d:Int)(s:Gs):Grow 1 s (qZ C x line d s):=by
 unfold qZ
 split
 ·exact aI ..
 ·exact(Grow.refl s).mono (by omega)
theorem iq (x:Sc)(k:Nat)(last:Bool)(d:Int)(L:Ls):Grow 1 L.g (gz C x k last d L).g:=by
 unfold gz
 split
 ·split
  ·exact aI ..
  ·exact aI ..
 ·split
  ·exact(Grow.refl _).mono (by omega)
  ·exact aI ..
theorem Grow.set {n:Nat}{a b:Gs}{l:List Ag}(h:Grow n a b)(hl:l.length=b.items.length):Grow n a ⟨l,b.most,b.start⟩:=⟨by have:=h.ge;simp only[hl];omega,by have:=h.le;simp only[hl];omega,h.most,h.cap⟩
theorem nO (hrep:∀g d s,ga C g→fL C ins g s.items.length=true→Grow (ed lev) s (rep x ins line g d s))(hC:CxOk C){k:Nat}{ln:Ah}(hk:C.p[k]?=some ln)(he:bJ ln.fad=true)(d:Int)(s:Gs):Grow (20 * ed lev) s (sW C rep x ins line (exL ln.fad) d s):=by
 have h1:=(wV he).2
 have h2:=(hC.line _ _ hk).2.2.2.1
 rw[h1]at h2
 exact(pX hrep _ d s).mono (Nat.mul_le_mul_right _ h2)
theorem jV (hrep:∀line g d s,ga C g→fL C ins g s.items.length=true→Grow (ed lev) s (rep x ins line g d s))(hC:CxOk C){k:Nat}{ln:Ah}(hk:C.p[k]?=some ln)(h0:ln.faa≠0)(base:Int)(L:Ls):Grow (20 * ed lev+2) L.g (eT C rep x ins base k ln L).g:=by
 unfold eT
 split
 ·exact((aI ..).set (ea _ _ _)).mono (by omega)
 ·split
  ·split
   ·refine Grow.mono (n:=1+1) ?_ (by omega)
    exact(aI ..).trans (iq x k true (base+1) {L with g:=co C L.g base 0 0 k x.chain})
   ·split
    ·exact(aI ..).mono (by omega)
    ·exact(Grow.refl _).mono (by omega)
  ·rename_i h4 h7
   have hl:=hC.line _ _ hk
   have h20:Grow (20 * ed lev) L.g (sW C rep x ins k (exL ln.fad) base ⟨L.g.items,L.g.most,true⟩):=by
    have:=nO (fun g d s=>hrep k g d s) hC hk (hl.2.2.2.2 (by omega)) base ⟨L.g.items,L.g.most,true⟩
    exact⟨this.ge,this.le,this.most,this.cap⟩
   split
   ·exact(h20.trans (aI ..)).mono (by omega)
   ·split
    ·exact(h20.trans (aI ..)).mono (by omega)
    ·split
     ·refine Grow.mono (n:=20 * ed lev+1) ?_ (by omega)
      exact h20.trans (iq x k false (base+1) {L with g:=sW C rep x ins k (exL ln.fad) base ⟨L.g.items,L.g.most,true⟩,heads:=L.heads.set k L.g.items.length})
     ·exact(h20.trans (aI ..)).mono (by omega)
theorem od (k:Nat)(ln:Ah)(L:Ls):Grow 0 L.g (gh C x k ln L).g:=by
 unfold gh
 split
 ·exact(Grow.refl _).set (ea _ _ _)
 ·exact Grow.refl _
theorem ql (hrep:∀line g d s,ga C g→fL C ins g s.items.length=true→Grow (ed lev) s (rep x ins line g d s))(hC:CxOk C)(base:Int):∀(n k:Nat) (L:Ls),(∀i y,k≤i→i < k+n→C.p[i]?=some y→y.faa≠0)→Grow (n * (20 * ed lev+3)) L.g (vy C rep x ins base n k L).g
 | 0,k,L,_=>(Grow.refl _).mono (by omega)
 | n+1,k,L,h=>by
  rw[vy]
  split
  ·rename_i ln hk
   exact(((jV hrep hC hk (h k ln (Nat.le_refl _) (by omega) hk) base L).trans (od k ln _)).trans (ql hrep hC base n (k+1) _ fun i y h1 h2 hy=>h i y (by omega) (by omega) hy)).mono (by rw[Nat.add_mul];omega)
  ·exact(Grow.refl _).mono (by omega)
theorem tv (hrep:∀line g d s,ga C g→fL C ins g s.items.length=true→Grow (ed lev) s (rep x ins line g d s))(hC:CxOk C)(hx:ScOk C x ins)(base:Int)(s:Gs):Grow ((cn C.p x.f - x.f) * (20 * ed lev+3)) s (rq C rep x ins base s).1:=by
 unfold rq
 obtain⟨ln,h1,h2⟩:=hx.fn
 obtain⟨e,h3,_,_,h4⟩:=hC.fn _ _ h1 h2
 obtain⟨e',g3,_,_,g5,_⟩:=hx.endE hC
 rw[h3]at g3
 injection g3 with g3
 subst g3
 rw[g5]
 refine ql hrep hC base (e - x.f) (x.f+1) (xD C s) fun i y k1 k2 hy=>?_
 by_cases hie:i=e
 ·subst hie
  obtain⟨z,hz,h7⟩:=bf h3
  rw[hy]at hz
  injection hz with hz
  subst hz
  omega
 ·exact(h4 i y (by omega) (by omega) hy).1
end
theorem tU {C:Cx}{ins:List Nat}{g n:Nat}(h:fL C ins g n=true):(ins.length:Int)≤C.b.fan∧br C.p (g:Int) - g≤9∧n < 200∧g∉ins:=by
 unfold fL at h
 simp only[Bool.and_eq_true,decide_eq_true_eq,Bool.not_eq_true',List.contains_eq_mem,decide_eq_false_iff_not]at h
 exact⟨h.1,h.2.1,h.2.2.1,h.2.2.2⟩
theorem pJ {C:Cx}(hC:CxOk C):∀(lev:Nat) {x:Sc} {ins:List Nat} (line g:Nat) (d:Int) (s:Gs),ScOk C x ins→ga C g→fL C ins g s.items.length=true→Grow (ed lev) s (oq C lev x ins line g d s)
 | 0,x,ins,line,g,d,s,hx,hg,hr=>(Grow.refl s).mono (by omega)
 | lev+1,x,ins,line,g,d,s,hx,hg,hr=>by
  obtain⟨r1,r2,_,_⟩:=tU hr
  have hin:=hC.inl
  have hy:=xS hC hx line hg
  have h1:=vp hC hx (by omega) line hg d s
  have h2:=tl (C:=C) x line (d - argsN C.p g) (wz C x line g d s)
  have h3:=tv (lev:=lev) (rep:=oq C lev) (fun line g d s hg hr=>pJ hC lev line g d s hy hg hr) hC hy (d - argsN C.p g) (qZ C x line (d - argsN C.p g) (wz C x line g d s))
  obtain⟨e,e1,e2,e3,e4,_⟩:=hy.endE hC
  have e5:br C.p (g:Int)=(e:Int):=by rw[aK];exact aN e1
  have e6:cn C.p (nY C x line g).f - (nY C x line g).f≤9:=by rw[e4];show e - g≤9;omega
  have h4:=((h1.trans h2).trans h3).mono (m:=ed (lev+1)) (by
   rw[ed]
   have:=Nat.mul_le_mul_right (20 * ed lev+3) e6
   omega)
  show Grow _ s (wZ C (rq C (oq C lev)) x ins line g d s)
  unfold wZ
  exact h4.set (og _ _ _)
def lvOk (L:Ls):Prop:=L.lv.length≤L.g.items.length∧∀j∈L.lv,0≤j∧j < L.g.items.length
section
variable {C:Cx} {x:Sc} {ins:List Nat} {rep:Sc→List Nat→Nat→Nat→Int→Gs→Gs} {lev:Nat}
theorem lvOk.grow {n:Nat}{L L':Ls}(h:lvOk L)(hl:L'.lv=L.lv)(hg:Grow n L.g L'.g):lvOk L':=⟨by rw[hl];exact Nat.le_trans h.1 hg.ge,fun j hj=>by
 rw[hl]at hj
 have:=h.2 j hj
 have:=hg.ge
 omega⟩
theorem pZ {L:Ls}(h:lvOk L)(k:Nat)(last:Bool)(d:Int):lvOk (gz C x k last d L):=by
 have hg:=iq (C:=C) x k last d L
 unfold gz at hg ⊢
 split
 ·rename_i ho
  rw[if_pos ho]at hg
  split
  ·rename_i hf;rw[if_pos hf]at hg;exact h.grow rfl hg
  ·rename_i hf;rw[if_neg hf]at hg;exact h.grow rfl hg
 ·split
  ·exact h
  ·refine⟨by have:=h.1;simp only[co,List.length_append,List.length_cons,List.length_nil];omega,?_⟩
   intro j hj
   simp only[List.mem_append,List.mem_cons,List.not_mem_nil,or_false]at hj
   simp only[co,List.length_append,List.length_cons,List.length_nil]
   rcases hj with hj|rfl
   ·have:=h.2 j hj;omega
   ·omega
theorem xc (hrep:∀line g d s,ga C g→fL C ins g s.items.length=true→Grow (ed lev) s (rep x ins line g d s))(hC:CxOk C){k:Nat}{ln:Ah}(hk:C.p[k]?=some ln)(h0:ln.faa≠0)(base:Int){L:Ls}(h:lvOk L):lvOk (eT C rep x ins base k ln L):=by
 have hg:=jV (x:=x) (ins:=ins) (rep:=rep) (lev:=lev) hrep hC hk h0 base L
 unfold eT at hg ⊢
 split
 ·rename_i h4;rw[if_pos h4]at hg;exact h.grow rfl hg
 ·rename_i h4
  rw[if_neg h4]at hg
  split
  ·rename_i h7
   rw[if_pos h7]at hg
   split
   ·exact pZ (h.grow (L':={L with g:=co C L.g base 0 0 k x.chain}) rfl (aI ..)) _ _ _
   ·rename_i ho
    rw[if_neg ho]at hg
    split
    ·rename_i h5;rw[if_pos h5]at hg;exact h.grow rfl hg
    ·exact h
  ·rename_i h7
   have hl:=hC.line _ _ hk
   have h20:=nO (x:=x) (ins:=ins) (rep:=rep) (line:=k) (lev:=lev) (fun g d s=>hrep k g d s) hC hk (hl.2.2.2.2 (by omega)) base ⟨L.g.items,L.g.most,true⟩
   have hL1:lvOk {L with g:=sW C rep x ins k (exL ln.fad) base ⟨L.g.items,L.g.most,true⟩,heads:=L.heads.set k L.g.items.length}:=h.grow rfl ⟨h20.ge,h20.le,h20.most,h20.cap⟩
   split
   ·exact hL1.grow rfl (aI ..)
   ·split
    ·exact hL1.grow rfl (aI ..)
    ·split
     ·exact pZ hL1 _ _ _
     ·exact hL1.grow rfl (aI ..)
theorem xa (k:Nat)(ln:Ah){L:Ls}(h:lvOk L):lvOk (gh C x k ln L):=by
 have hg:=od (C:=C) (x:=x) k ln L
 unfold gh at hg ⊢
 split
 ·rename_i h1;rw[if_pos h1]at hg;exact h.grow rfl hg
 ·exact h
theorem mm (hC:CxOk C)(hx:ScOk C x ins){e:Nat}(he:endAt C.p x.f=some e){i:Nat}{y:Ah}(h1:x.f+1≤i)(h2:i≤e)(hy:C.p[i]?=some y):y.faa≠0:=by
 obtain⟨ln,g1,g2⟩:=hx.fn
 obtain⟨e',h3,_,_,h4⟩:=hC.fn _ _ g1 g2
 rw[he]at h3
 injection h3 with h3
 subst h3
 by_cases hie:i=e
 ·subst hie
  obtain⟨z,hz,h7⟩:=bf he
  rw[hy]at hz
  injection hz with hz
  subst hz
  omega
 ·exact(h4 i y (by omega) (by omega) hy).1
end
end Go.Proofs.Ytjmplnfiabmalaa
namespace Go.Proofs.Ytjmplnfiabmalaa
open Go.Sim
set_option maxRecDepth 100000
set_option maxHeartbeats 4000000
def uT (p:List Ah)(i:Nat):Prop:=cH p i=3∨cH p i=4∨cH p i=5
instance (p:List Ah) (i:Nat):Decidable (uT p i):=by unfold uT;infer_instance
theorem uO {l:List Int}{k i:Nat}{v:Int}(h:i≠k):atL (l.set k v) i=atL l i:=by
 unfold atL
 rw[List.getElem?_set_ne (fun e=>h e.symm)]
theorem sZ {l:List Int}{k:Nat}{v:Int}(h:k < l.length):atL (l.set k v) k=v:=by
 unfold atL
 rw[List.getElem?_set_self h]
 rfl
theorem bz {p:List Ah}{k:Nat}{ln:Ah}(h:p[k]?=some ln):cH p k=ln.faa:=by rw[cH,h]
theorem dh {p:List Ah}{i:Nat}:aL p (i:Int)=bN (elseAt p i):=by rw[aL,if_pos (by omega),Int.toNat_natCast]
theorem ot {p:List Ah}{i:Nat}(h:cH p i≠3):elseAt p i=none:=by
 cases he:elseAt p i with
 | none=>rfl
 | some j=>
  obtain⟨y,_,hy,h3,_⟩:=aO he
  exact absurd (by rw[bz hy];exact h3) h
section
variable {C:Cx} {x:Sc} {ins:List Nat}
structure LInv (C:Cx) (lev:Nat) (x:Sc) (ins:List Nat) (d:Int) (e:Nat) (R:Ls) (k:Nat) (L:Ls):Prop where
 lo:x.f+1≤k
 hi:k≤e+1
 heads:L.heads.length=C.p.length
 pos:L.pos.length=C.p.length
 at_:∀i,x.f < i→i < k→uT C.p i→0≤atL L.pos i∧atL L.pos i < L.g.items.length
 lv:lvOk L
 room:L.g.items.length+(e+1 - k) * (20 * ed lev+3)≤68719476736
 fin:vy C (oq C lev) x ins d (e+1 - k) k L=R
theorem ua (rep:Sc→List Nat→Nat→Nat→Int→Gs→Gs)(base:Int)(k:Nat)(ln:Ah)(L:Ls):(eT C rep x ins base k ln L).heads.length=L.heads.length∧(eT C rep x ins base k ln L).pos.length=L.pos.length:=by
 unfold eT gz
 repeat' split
 all_goals simp
theorem ue (k:Nat)(ln:Ah)(L:Ls):(gh C x k ln L).heads=L.heads∧(gh C x k ln L).pos=L.pos∧(gh C x k ln L).lv=L.lv∧(gh C x k ln L).g.items.length=L.g.items.length∧(gh C x k ln L).g.most=L.g.most∧(gh C x k ln L).g.start=L.g.start:=by
 unfold gh
 split
 ·exact⟨rfl,rfl,rfl,ea _ _ _,rfl,rfl⟩
 ·exact⟨rfl,rfl,rfl,rfl,rfl,rfl⟩
theorem wW (rep:Sc→List Nat→Nat→Nat→Int→Gs→Gs)(base:Int)(k:Nat)(ln:Ah)(L:Ls)(hp:k < L.pos.length)(i:Nat):
  (i≠k→atL (eT C rep x ins base k ln L).pos i=atL L.pos i)∧((ln.faa=3∨ln.faa=4∨ln.faa=5)→0≤atL (eT C rep x ins base k ln L).pos k∧atL (eT C rep x ins base k ln L).pos k < (eT C rep x ins base k ln L).g.items.length):=by
 unfold eT
 by_cases h4:ln.faa=4
 ·rw[if_pos h4]
  refine⟨fun hi=>uO hi,fun _=>?_⟩
  simp only[sZ hp,ea,co,List.length_append,List.length_cons,List.length_nil]
  omega
 ·rw[if_neg h4]
  by_cases h7:ln.faa=7
  ·rw[if_pos h7]
   refine⟨fun _=>?_,fun h=>by omega⟩
   unfold gz
   repeat' split
   all_goals rfl
  ·rw[if_neg h7]
   by_cases h1:ln.faa=1
   ·rw[if_pos h1]
    exact⟨fun _=>rfl,fun h=>by omega⟩
   ·rw[if_neg h1]
    by_cases h2:ln.faa=2
    ·rw[if_pos h2]
     exact⟨fun _=>rfl,fun h=>by omega⟩
    ·rw[if_neg h2]
     by_cases h6:ln.faa=6
     ·rw[if_pos h6]
      refine⟨fun _=>?_,fun h=>by omega⟩
      unfold gz
      repeat' split
      all_goals rfl
     ·rw[if_neg h6]
      refine⟨fun hi=>uO hi,fun _=>?_⟩
      simp only[sZ hp,co,List.length_append,List.length_cons,List.length_nil]
      omega
theorem LInv.next (hC:CxOk C)(hx:ScOk C x ins){lev e k:Nat}{d:Int}{R L:Ls}{ln:Ah}(he:endAt C.p x.f=some e)(h:LInv C lev x ins d e R k L)(hk:k≤e)(hl:C.p[k]?=some ln):LInv C lev x ins d e R (k+1) (gh C x k ln (eT C (oq C lev) x ins d k ln L)):=by
 have h0:=mm hC hx he h.lo hk hl
 have hrep:∀line g d s,ga C g→fL C ins g s.items.length=true→Grow (ed lev) s (oq C lev x ins line g d s):=fun line g d s hg hr=>pJ hC lev line g d s hx hg hr
 have hA:=jV (lev:=lev) (rep:=oq C lev) hrep hC hl h0 d L
 obtain⟨b1,b2,b3,b4,b5,b6⟩:=ue (C:=C) (x:=x) k ln (eT C (oq C lev) x ins d k ln L)
 obtain⟨a1,a2⟩:=ua (C:=C) (x:=x) (ins:=ins) (oq C lev) d k ln L
 have hge:=hA.ge
 have hle:=hA.le
 have hr:=h.room
 refine⟨by have:=h.lo;omega,by omega,by rw[b1,a1];exact h.heads,by rw[b2,a2];exact h.pos,fun i h1 h2 hj=>?_,xa k ln (xc (lev:=lev) hrep hC hl h0 d h.lv),?_,?_⟩
 ·rw[b2,b4]
  obtain⟨p1,p2⟩:=wW (C:=C) (x:=x) (ins:=ins) (oq C lev) d k ln L (by rw[h.pos];exact bm hl) i
  by_cases hik:i=k
  ·subst hik
   refine p2 ?_
   unfold uT at hj
   rw[bz hl]at hj
   exact hj
  ·rw[p1 hik]
   have:=h.at_ i h1 (by omega) hj
   omega
 ·rw[b4]
  obtain⟨n,hn⟩:∃n,e+1 - k=n+1:=⟨e - k,by omega⟩
  rw[hn,Nat.add_mul]at hr
  rw[show e+1 - (k+1)=n by omega]
  omega
 ·have hf:=h.fin
  obtain⟨n,hn⟩:∃n,e+1 - k=n+1:=⟨e - k,by omega⟩
  rw[hn,vy,hl]at hf
  rw[show e+1 - (k+1)=n by omega]
  exact hf
end
structure PgOk (p:List Ah):Prop where
 len:p.length≤60
 small:aF 1048576 (.lst 4 (p.map Ah.tr))
 line:∀(k:Nat) (ln:Ah),p[k]?=some ln→0≤ln.faa∧ln.faa≤7∧ln.fac.length≤4∧ln.fad.length≤20∧((ln.faa=1∨ln.faa=2∨ln.faa=3∨ln.faa=5∨ln.faa=6)→bJ ln.fad=true)
 fn:∀(g:Nat) (ln:Ah),p[g]?=some ln→ln.faa=0→∃e,endAt p g=some e∧(localsOf p (g:Int)).length≤8∧ln.fac.length≤(localsOf p (g:Int)).length∧∀(k:Nat) (y:Ah),g < k→k < e→p[k]?=some y→y.faa≠0∧(∀t∈y.fad,t.faa=7→∃f,findN p 0 t.fab=some f∧(argsN p f:Int)=t.faf)∧(y.faa=4→∃i,g≤i∧i < k∧elseAt p i=some k)
theorem PgOk.cx {p:List Ah}(h:PgOk p){b:Aa}{framed:Bool}{words args:Int}(ha:0≤args∧args≤4)(hw:0≤words∧words≤1000)(hi:0≤b.fan∧b.fan≤3):CxOk ⟨p,b,framed,words,args⟩:=
 ⟨h.len,h.small,h.line,h.fn,ha,hw,hi⟩
theorem jJ {F:Nat→Nat→Bool}{l:List Ah}(hF:∀k e,endAt l k=some e→F k e=true→∀i x,k < i→i < e→l[i]?=some x→x.faa≠0):∀(n k:Nat),aY F l n k=true→∀g x,k≤g→l[g]?=some x→x.faa=0→∃e,endAt l g=some e∧F g e=true
 | 0,k,h,g,x,hk,hg,_=>by
  rw[aY,decide_eq_true_eq]at h
  have:=bm hg
  omega
 | n+1,k,h,g,x,hk,hg,h0=>by
  rw[aY,if_pos (by have:=bm hg;omega)]at h
  split at h
  ·rename_i y e hy he
   split at h
   ·rename_i hc
    by_cases hgk:g=k
    ·subst hgk;exact⟨e,he,hc.2⟩
    ·by_cases hge:g≤e
     ·by_cases hge2:g=e
      ·subst hge2
       obtain⟨z,hz,h7⟩:=bf he
       rw[hg]at hz
       injection hz with hz
       subst hz
       omega
      ·exact absurd h0 (hF k e he hc.2 g x (by omega) (by omega) hg)
     ·exact jJ hF n (e+1) h g x (by omega) hg h0
   ·cases h
  ·cases h
theorem jK {l:List Ah}{locals:List (List UInt8)}{e:Nat}:∀(n i d:Nat),e - i≤n→e≤l.length→eZ l locals e n i d=true→∀j x,i≤j→j < e→l[j]?=some x→aR l locals x.fad=true
 | 0,i,d,hn,_,_,j,x,h1,h2,_=>by omega
 | n+1,i,d,hn,he,hb,j,x,h1,h2,hx=>by
  rw[eZ,if_pos (by omega)]at hb
  obtain⟨y,hy⟩:=ak (l:=l) (k:=i) (by omega)
  rw[hy]at hb
  dsimp only at hb
  split at hb
  ·cases hb
  ·split at hb
   ·rename_i hk
    by_cases hj:j=i
    ·subst hj
     rw[hy]at hx
     injection hx with hx
     subst hx
     exact hk.2
    ·exact jK n (i+1) _ (by omega) he hb j x (by omega) h2 hx
   ·cases hb
theorem uk (acc:List (List UInt8))(s:List UInt8):acc.length≤(cD acc s).length:=by
 unfold cD
 split <;> simp
theorem vc {l:List Ah}{e:Nat}:∀(n i:Nat) (acc:List (List UInt8)),acc.length≤(locN l e n i acc).length
 | 0,_,_=>by simp[locN]
 | n+1,i,acc=>by
  rw[locN]
  split
  ·split
   ·refine Nat.le_trans ?_ (vc n _ _)
    split
    ·exact uk _ _
    ·exact Nat.le_refl _
   ·exact Nat.le_refl _
  ·exact Nat.le_refl _
theorem hasExpr_iff {k:Int}:bR k=true↔(k=1∨k=2∨k=3∨k=5∨k=6):=by
 unfold bR
 simp
theorem rj {x:Ah}(h:bk x=true):0≤x.faa∧x.faa≤7∧x.fac.length≤4∧x.fad.length≤20∧((x.faa=1∨x.faa=2∨x.faa=3∨x.faa=5∨x.faa=6)→bJ x.fad=true):=by
 have h4:x.fac.length≤4:=by
  rcases Nat.lt_or_ge 4 x.fac.length with h'|h'
  ·rw[mD h']at h;cases h
  ·exact h'
 unfold bk at h
 simp only[Bool.and_eq_true,within_iff]at h
 obtain⟨⟨h1,h2⟩,_,_,h3⟩:=h
 refine⟨h1,h2,h4,?_,fun hk=>by rw[if_pos (hasExpr_iff.2 hk)]at h3;exact h3⟩
 split at h3
 ·unfold bJ at h3
  simp only[Bool.and_eq_true,decide_eq_true_eq]at h3
  exact h3.1
 ·have:=eq_of_beq h3
  omega
theorem qE {p:List Ah}(hs:aF 1048576 (.lst 4 (p.map Ah.tr)))(h:aD p=true):PgOk p:=by
 unfold aD at h
 simp only[Bool.and_eq_true,decide_eq_true_eq]at h
 obtain⟨h1,_,h2,_,_,h3,h4⟩:=h
 have hS:=kb p
 rw[h3,h4]at hS
 have hlines:∀(k:Nat) (ln:Ah),p[k]?=some ln→0≤ln.faa∧ln.faa≤7∧ln.fac.length≤4∧ln.fad.length≤20∧((ln.faa=1∨ln.faa=2∨ln.faa=3∨ln.faa=5∨ln.faa=6)→bJ ln.fad=true):=fun k ln hk=>rj (List.all_eq_true.1 h2 ln (List.mem_of_getElem? hk))
 have hlt:∀k e,endAt p k=some e→e≤p.length:=fun k e he=>by obtain⟨_,_,_,_,_,h⟩:=aw he;omega
 have hF:∀k e,endAt p k=some e→gW p k e=true→∀i x,k < i→i < e→p[i]?=some x→x.faa≠0:=fun k e he hf=>by
  rw[ip,Bool.and_eq_true]at hf
  exact jL hf.1 (hlt k e he)
 refine⟨h1,hs,hlines,fun g ln hg h0=>?_⟩
 obtain⟨e,he,hf⟩:=jJ hF p.length 0 hS g ln (Nat.zero_le _) hg h0
 have hf':=hf
 rw[ip,Bool.and_eq_true]at hf'
 obtain⟨hf1,hf2⟩:=hf'
 have hf1':=hf1
 rw[eY,Bool.and_eq_true,decide_eq_true_eq]at hf1'
 obtain⟨hl8,hbody⟩:=hf1'
 refine⟨e,he,hl8,?_,fun k y hk1 hk2 hy=>⟨hF g e he hf k y hk1 hk2 hy,fun t ht h7=>?_,fun h4'=>?_⟩⟩
 ·unfold localsOf
  rw[if_pos (by omega),Int.toNat_natCast,hg,he]
  dsimp only
  rw[if_pos h0]
  exact vc _ _ _
 ·have hkn:=jK (e - (g+1)) (g+1) 0 (Nat.le_refl _) (hlt g e he) hbody k y (by omega) hk2 hy
  unfold aR at hkn
  have:=List.all_eq_true.1 hkn t ht
  unfold aW at this
  rw[if_neg (by omega),if_pos h7]at this
  split at this
  ·rename_i f hfi
   refine⟨f,hfi,?_⟩
   unfold argsN
   split at this
   ·rename_i x hx
    (try rw[hx])
    exact eq_of_beq this
   ·cases this
  ·cases this
 ·have:=(eb (Nat.le_refl _)).1 hf2 k y (by omega) hk2 hy h4'
  rw[ic]at this
  obtain⟨i,i1,i2,i3⟩:=this
  exact⟨i,i1,by omega,i3⟩
def alike (p q:List Ah):Prop:=p.map (fun x=>(x.faa,x.fab,x.fac))=q.map (fun x=>(x.faa,x.fab,x.fac))
theorem alike.len {p q:List Ah}(h:alike p q):p.length=q.length:=by simpa using congrArg List.length h
theorem alike.get {p q:List Ah}(h:alike p q){k:Nat}{x:Ah}(hx:p[k]?=some x):∃y,q[k]?=some y∧x.faa=y.faa∧x.fab=y.fab∧x.fac=y.fac:=by
 have:=congrArg (·[k]?) h
 simp only[List.getElem?_map,hx,Option.map_some]at this
 cases hy:q[k]? with
 | none=>rw[hy]at this;cases this
 | some y=>
  rw[hy]at this
  simp only[Option.map_some,Option.some.injEq,Prod.mk.injEq]at this
  exact⟨y,rfl,this.1,this.2.1,this.2.2⟩
theorem alike.none {p q:List Ah}(h:alike p q){k:Nat}(hx:p[k]?=none):q[k]?=none:=by
 rw[List.getElem?_eq_none_iff]at hx ⊢
 have:=h.len
 omega
theorem alike.symm {p q:List Ah}(h:alike p q):alike q p:=Eq.symm h
theorem alike.drop {p q:List Ah}(h:alike p q)(n:Nat):alike (p.drop n) (q.drop n):=by
 unfold alike at *
 rw[List.map_drop,List.map_drop,h]
theorem alike.endN:∀{p q:List Ah},alike p q→∀(i o:Nat),endN p i o=endN q i o
 | [],[],_,_,_=>rfl
 | x::p,y::q,h,i,o=>by
  simp only[alike,List.map_cons,List.cons.injEq,Prod.mk.injEq]at h
  have ih:=alike.endN (p:=p) (q:=q) h.2
  rw[Go.Proofs.Ytjmplnfiabmalaa.endN,Go.Proofs.Ytjmplnfiabmalaa.endN,h.1.1,ih,ih,ih]
 | [],_::_,h,_,_=>by simp[alike]at h
 | _::_,[],h,_,_=>by simp[alike]at h
theorem alike.endAt {p q:List Ah}(h:alike p q)(k:Nat):endAt p k=endAt q k:=by
 unfold Go.Proofs.Ytjmplnfiabmalaa.endAt
 cases hx:p[k]? with
 | none=>rw[h.none hx]
 | some x=>
  obtain⟨y,hy,e1,_⟩:=h.get hx
  rw[hy]
  dsimp only
  rw[e1,(h.drop (k+1)).endN]
theorem alike.elseN {p q:List Ah}(h:alike p q){e:Nat}:∀(n i:Nat),elseN p e n i=elseN q e n i
 | 0,_=>rfl
 | n+1,i=>by
  rw[Go.Proofs.Ytjmplnfiabmalaa.elseN,Go.Proofs.Ytjmplnfiabmalaa.elseN]
  cases hx:p[i]? with
  | none=>rw[h.none hx]
  | some x=>
   obtain⟨y,hy,e1,_⟩:=h.get hx
   rw[hy]
   dsimp only
   rw[e1,h.endAt i]
   cases Go.Proofs.Ytjmplnfiabmalaa.endAt q i with
   | none=>dsimp only;rw[alike.elseN h n]
   | some m=>dsimp only;rw[alike.elseN h n,alike.elseN h n]
theorem alike.elseAt {p q:List Ah}(h:alike p q)(k:Nat):elseAt p k=elseAt q k:=by
 unfold Go.Proofs.Ytjmplnfiabmalaa.elseAt
 rw[h.endAt k]
 cases hx:p[k]? with
 | none=>rw[h.none hx]
 | some x=>
  obtain⟨y,hy,e1,_⟩:=h.get hx
  rw[hy]
  cases Go.Proofs.Ytjmplnfiabmalaa.endAt q k with
  | none=>rfl
  | some e=>dsimp only;rw[e1,h.elseN]
theorem alike.findN:∀{p q:List Ah},alike p q→∀(i:Nat) (s:List UInt8),findN p i s=findN q i s
 | [],[],_,_,_=>rfl
 | x::p,y::q,h,i,s=>by
  simp only[alike,List.map_cons,List.cons.injEq,Prod.mk.injEq]at h
  have ih:=alike.findN (p:=p) (q:=q) h.2
  rw[Go.Proofs.Ytjmplnfiabmalaa.findN,Go.Proofs.Ytjmplnfiabmalaa.findN,h.1.1,h.1.2.1,ih]
 | [],_::_,h,_,_=>by simp[alike]at h
 | _::_,[],h,_,_=>by simp[alike]at h
theorem alike.locN {p q:List Ah}(h:alike p q){e:Nat}:∀(n i:Nat) (acc:List (List UInt8)),locN p e n i acc=locN q e n i acc
 | 0,_,_=>rfl
 | n+1,i,acc=>by
  rw[Go.Proofs.Ytjmplnfiabmalaa.locN,Go.Proofs.Ytjmplnfiabmalaa.locN]
  cases hx:p[i]? with
  | none=>rw[h.none hx]
  | some x=>
   obtain⟨y,hy,e1,e2,_⟩:=h.get hx
   rw[hy]
   dsimp only
   rw[e1,e2,alike.locN h n]
theorem alike.localsOf {p q:List Ah}(h:alike p q)(k:Int):localsOf p k=localsOf q k:=by
 unfold Go.Proofs.Ytjmplnfiabmalaa.localsOf
 rw[h.endAt]
 cases hx:p[k.toNat]? with
 | none=>rw[h.none hx]
 | some x=>
  obtain⟨y,hy,e1,_,e3⟩:=h.get hx
  rw[hy]
  cases Go.Proofs.Ytjmplnfiabmalaa.endAt q k.toNat with
  | none=>rfl
  | some e=>dsimp only;rw[e1,e3,h.locN]
theorem alike.argsN {p q:List Ah}(h:alike p q)(g:Nat):argsN p g=argsN q g:=by
 unfold Go.Proofs.Ytjmplnfiabmalaa.argsN
 cases hx:p[g]? with
 | none=>rw[h.none hx]
 | some x=>
  obtain⟨y,hy,_,_,e3⟩:=h.get hx
  rw[hy]
  dsimp only
  rw[e3]
section
variable {p:List Ah} {locals:List (List UInt8)} {vals:List Int} {call call':gd}
theorem vw (h:∀g av s,call g av s≠.fuel→call' g av s=call g av s){t:Aq}{av:List Int}{s:IS}(hf:cI p locals vals call t av s≠.fuel):cI p locals vals call' t av s=cI p locals vals call t av s:=by
 unfold cI at *
 split
 ·rfl
 ·split
  ·rfl
  ·split
   ·rename_i h0 h1 h7
    rw[if_neg h0,if_neg h1,if_pos h7]at hf
    exact h _ _ _ hf
   ·rfl
mutual
theorem lg (h:∀g av s,call g av s≠.fuel→call' g av s=call g av s):∀(e:Ex) (s:IS),evE p locals vals call e s≠.fuel→evE p locals vals call' e s=evE p locals vals call e s
 | .node t es,s,hf=>by
  rw[evE]at hf ⊢
  rw[evE,je h es s (fun e=>hf (by rw[e];rfl))]
  cases hr:aJ p locals vals call es s with
  | ok av s1=>
   rw[hr,Rr.bnd_ok]at hf
   rw[Rr.bnd_ok,Rr.bnd_ok]
   exact vw h hf
  | stop c s1=>rfl
  | fuel=>rfl
theorem je (h:∀g av s,call g av s≠.fuel→call' g av s=call g av s):∀(es:List Ex) (s:IS),aJ p locals vals call es s≠.fuel→aJ p locals vals call' es s=aJ p locals vals call es s
 | [],s,_=>by rw[aJ,aJ]
 | a::es,s,hf=>by
  rw[aJ]at hf ⊢
  rw[aJ,lg h a s (fun e=>hf (by rw[e];rfl))]
  cases hr:evE p locals vals call a s with
  | ok v s1=>
   rw[hr,Rr.bnd_ok]at hf
   rw[Rr.bnd_ok,Rr.bnd_ok,je h es s1 (fun e=>hf (by rw[e];rfl))]
  | stop c s1=>rfl
  | fuel=>rfl
end
end
section
variable {p:List Ah} {lim:Int}
theorem dy:∀(n:Nat) (calls:List Int) (f k:Nat) (vals:List Int) (s:IS),aC p lim n calls f k vals s≠.fuel→aC p lim (n+1) calls f k vals s=aC p lim n calls f k vals s
 | 0,_,_,_,_,_,h=>absurd rfl h
 | n+1,calls,f,k,vals,s,h=>by
  cases hk:p[k]? with
  | none=>rw[fj hk,fj hk]
  | some ln=>
   by_cases h7:ln.faa=7
   ·rw[bv hk h7]at h ⊢
    rw[bv hk h7]
    by_cases ho:aH p k=f
    ·rw[if_pos ho,if_pos ho]
    ·rw[if_neg ho]at h
     rw[if_neg ho,if_neg ho]
     exact dy n _ _ _ _ _ h
   by_cases h4:ln.faa=4
   ·rw[cw hk h4]at h ⊢
    rw[cw hk h4]
    exact dy n _ _ _ _ _ h
   by_cases hv:(s.visits.length:Int)=lim
   ·rw[cu hk h7 h4 hv,cu hk h7 h4 hv]
   ·rw[cB hk h7 h4 hv]at h ⊢
    rw[cB hk h7 h4 hv]
    have hc:∀g av s,aB p lim n calls k g av s≠.fuel→aB p lim (n+1) calls k g av s=aB p lim n calls k g av s:=by
     intro g av s' hf
     unfold aB at *
     split
     ·rfl
     ·rename_i h6
      rw[if_neg h6]at hf
      exact dy n _ _ _ _ _ hf
    rw[lg hc _ _ (fun e=>h (by rw[e];rfl))]
    cases hr:evE p (localsOf p (f:Int)) vals (aB p lim n calls k) (exL ln.fad) ⟨s.out,s.visits++[calls++[(k:Int)]]⟩with
    | ok v s1=>
     rw[hr,Rr.bnd_ok]at h
     rw[Rr.bnd_ok,Rr.bnd_ok]
     by_cases h6:ln.faa=6
     ·rw[if_pos h6,if_pos h6]
     ·rw[if_neg h6]at h
      rw[if_neg h6,if_neg h6]
      exact dy n _ _ _ _ _ h
    | stop c s1=>rfl
    | fuel=>rfl
theorem fy {n m:Nat}{calls:List Int}{f k:Nat}{vals:List Int}{s:IS}(h:aC p lim n calls f k vals s≠.fuel)(hm:n≤m):aC p lim m calls f k vals s=aC p lim n calls f k vals s:=by
 obtain⟨d,rfl⟩:=Nat.exists_eq_add_of_le hm
 clear hm
 induction d with
 | zero=>rfl
 | succ d ih=>rw[show n+(d+1)=(n+d)+1 by omega,dy (n+d) _ _ _ _ _ (by rw[ih];exact h),ih]
theorem eV {n m:Nat}{calls:List Int}{k:Nat}(hm:n≤m):∀g av s,aB p lim n calls k g av s≠.fuel→aB p lim m calls k g av s=aB p lim n calls k g av s:=by
 intro g av s h
 unfold aB at *
 split
 ·rfl
 ·rename_i h6
  rw[if_neg h6]at h
  exact fy h hm
end
structure Ext (lim:Int) (s s':IS):Prop where
 out:s.out <+:s'.out
 vis:s.visits <+:s'.visits
 le:(s.visits.length:Int)≤lim→(s'.visits.length:Int)≤lim
 ol:s'.out.length+s.visits.length≤s'.visits.length+s.out.length
theorem Ext.refl (lim:Int)(s:IS):Ext lim s s:=⟨List.prefix_refl _,List.prefix_refl _,id,by omega⟩
theorem Ext.trans {lim:Int}{a b c:IS}(h:Ext lim a b)(h':Ext lim b c):Ext lim a c:=⟨h.out.trans h'.out,h.vis.trans h'.vis,fun x=>h'.le (h.le x),by have:=h.ol;have:=h'.ol;omega⟩
def ExtR (lim:Int)(s:IS){α:Type}(r:Rr α):Prop:=match r with
 | .ok _ s'=>Ext lim s s'
 | .stop c s'=>Ext lim s s'∧(c=1∨c=2)
 | .fuel=>True
theorem ExtR.trans {lim:Int}{a b:IS}{α:Type}{r:Rr α}(h:Ext lim a b)(h':ExtR lim b r):ExtR lim a r:=by
 cases r with
 | ok v s=>exact Ext.trans h h'
 | stop c s=>exact⟨Ext.trans h h'.1,h'.2⟩
 | fuel=>trivial
section
variable {p:List Ah} {locals:List (List UInt8)} {vals:List Int} {call:gd} {lim:Int}
theorem xg (h:∀g av s,ExtR lim s (call g av s))(t:Aq)(av:List Int)(s:IS):ExtR lim s (cI p locals vals call t av s):=by
 unfold cI
 split
 ·exact Ext.refl _ _
 ·split
  ·exact Ext.refl _ _
  ·split
   ·exact h _ _ _
   ·exact Ext.refl _ _
mutual
theorem iP (h:∀g av s,ExtR lim s (call g av s)):∀(e:Ex) (s:IS),ExtR lim s (evE p locals vals call e s)
 | .node t es,s=>by
  have hs:=fM h es s
  rw[evE]
  cases hr:aJ p locals vals call es s with
  | ok av s1=>
   rw[hr]at hs
   rw[Rr.bnd_ok]
   exact ExtR.trans hs (xg h t av s1)
  | stop c s1=>rw[hr]at hs;exact hs
  | fuel=>trivial
theorem fM (h:∀g av s,ExtR lim s (call g av s)):∀(es:List Ex) (s:IS),ExtR lim s (aJ p locals vals call es s)
 | [],s=>by rw[aJ];exact Ext.refl _ _
 | a::es,s=>by
  have h1:=iP h a s
  rw[aJ]
  cases hr:evE p locals vals call a s with
  | ok v s1=>
   rw[hr]at h1
   rw[Rr.bnd_ok]
   have h2:=fM h es s1
   cases hr2:aJ p locals vals call es s1 with
   | ok vs s2=>rw[hr2]at h2;exact Ext.trans h1 h2
   | stop c s2=>rw[hr2]at h2;exact⟨Ext.trans h1 h2.1,h2.2⟩
   | fuel=>trivial
  | stop c s1=>rw[hr]at h1;exact h1
  | fuel=>trivial
end
theorem fP {s:IS}(hv:(s.visits.length:Int)≠lim)(row:List Int):Ext lim s ⟨s.out,s.visits++[row]⟩:=⟨List.prefix_refl _,List.prefix_append _ _,fun h=>by rw[List.length_append];simp only[List.length_cons,List.length_nil];omega,by simp;omega⟩
theorem ni {ln:Ah}{s s':IS}{row:List Int}{v:Int}(hv:(s.visits.length:Int)≠lim)(h:Ext lim ⟨s.out,s.visits++[row]⟩ s'):Ext lim s (ey ln s' v):=by
 have h0:=(fP hv row).trans h
 have hol:=h.ol
 simp only[List.length_append,List.length_cons,List.length_nil]at hol
 unfold ey
 split
 ·exact⟨h0.out.trans (List.prefix_append _ _),h0.vis,h0.le,by simp only[List.length_append,List.length_cons,List.length_nil];omega⟩
 ·exact h0
theorem ct:∀(n:Nat) (calls:List Int) (f k:Nat) (vals:List Int) (s:IS),ExtR lim s (aC p lim n calls f k vals s)
 | 0,_,_,_,_,_=>trivial
 | n+1,calls,f,k,vals,s=>by
  cases hk:p[k]? with
  | none=>rw[fj hk];exact Ext.refl _ _
  | some ln=>
   by_cases h7:ln.faa=7
   ·rw[bv hk h7]
    split
    ·exact Ext.refl _ _
    ·exact ct n _ _ _ _ _
   by_cases h4:ln.faa=4
   ·rw[cw hk h4]
    exact ct n _ _ _ _ _
   by_cases hv:(s.visits.length:Int)=lim
   ·rw[cu hk h7 h4 hv];exact⟨Ext.refl _ _,.inl rfl⟩
   ·rw[cB hk h7 h4 hv]
    have hc:∀g av s,ExtR lim s (aB p lim n calls k g av s):=by
     intro g av s'
     unfold aB
     split
     ·exact⟨Ext.refl _ _,.inr rfl⟩
     ·exact ct n _ _ _ _ _
    have he:=iP (p:=p) (locals:=localsOf p (f:Int)) (vals:=vals) hc (exL ln.fad) ⟨s.out,s.visits++[calls++[(k:Int)]]⟩
    cases hr:evE p (localsOf p (f:Int)) vals (aB p lim n calls k) (exL ln.fad) ⟨s.out,s.visits++[calls++[(k:Int)]]⟩with
    | ok v s1=>
     rw[hr]at he
     rw[Rr.bnd_ok]
     split
     ·exact(fP hv _).trans he
     ·exact ExtR.trans (ni hv he) (ct n _ _ _ _ _)
    | stop c s1=>rw[hr]at he;exact⟨(fP hv _).trans he.1,he.2⟩
    | fuel=>trivial
theorem dc (n:Nat)(calls:List Int)(k:Nat):∀g av s,ExtR lim s (aB p lim n calls k g av s):=by
 intro g av s'
 unfold aB
 split
 ·exact⟨Ext.refl _ _,.inr rfl⟩
 ·exact ct n _ _ _ _ _
end
section
variable {p:List Ah} {locals:List (List UInt8)} {vals:List Int} {lim:Int} {calls:List Int} {k:Nat}
def gw (p:List Ah)(l:List Aq):Prop:=∀t∈l,t.faa=7→∃f,findN p 0 t.fab=some f
mutual
theorem pW (hc:∀g av (s:IS),(s.visits.length:Int)≤lim→(∃y,p[g]?=some y∧y.faa=0)→∃n,aB p lim n calls k g av s≠.fuel):∀(e:Ex) (s:IS),(s.visits.length:Int)≤lim→gw p e.toks→∃n,evE p locals vals (aB p lim n calls k) e s≠.fuel
 | .node t es,s,hs,hk=>by
  have hk':gw p (az es):=fun t' ht=>hk t' (by rw[Ex.toks];exact List.mem_cons_of_mem _ ht)
  obtain⟨n,hn⟩:=nJ hc es s hs hk'
  have hx:=fM (p:=p) (locals:=locals) (vals:=vals) (dc (p:=p) (lim:=lim) n calls k) es s
  cases hr:aJ p locals vals (aB p lim n calls k) es s with
  | ok av s1=>
   rw[hr]at hx
   by_cases h7:t.faa=7
   ·obtain⟨f,hf⟩:=hk t (by rw[Ex.toks];exact List.mem_cons_self ..) h7
    obtain⟨_,y,hy,h0,_⟩:=eK hf
    obtain⟨m,hm⟩:=hc f av s1 (hx.le hs) ⟨y,hy,h0⟩
    refine⟨max n m,?_⟩
    rw[evE,je (eV (Nat.le_max_left n m)) es s hn,hr,Rr.bnd_ok,cI,if_neg (by omega),if_neg (by omega),if_pos h7,hf,Option.getD_some,eV (Nat.le_max_right n m) _ _ _ hm]
    exact hm
   ·refine⟨n,?_⟩
    rw[evE,hr,Rr.bnd_ok,cI,if_neg h7]
    split
    ·exact fun e=>by cases e
    ·split
     ·exact fun e=>by cases e
     ·exact fun e=>by cases e
  | stop c s1=>exact⟨n,by rw[evE,hr];exact fun e=>by cases e⟩
  | fuel=>exact absurd hr hn
theorem nJ (hc:∀g av (s:IS),(s.visits.length:Int)≤lim→(∃y,p[g]?=some y∧y.faa=0)→∃n,aB p lim n calls k g av s≠.fuel):∀(es:List Ex) (s:IS),(s.visits.length:Int)≤lim→gw p (az es)→∃n,aJ p locals vals (aB p lim n calls k) es s≠.fuel
 | [],s,_,_=>⟨0,by rw[aJ];exact fun e=>by cases e⟩
 | a::es,s,hs,hk=>by
  obtain⟨n,hn⟩:=pW hc a s hs (fun t ht=>hk t (by rw[az];exact List.mem_append.2 (.inl ht)))
  have hx:=iP (p:=p) (locals:=locals) (vals:=vals) (dc (p:=p) (lim:=lim) n calls k) a s
  cases hr:evE p locals vals (aB p lim n calls k) a s with
  | ok v s1=>
   rw[hr]at hx
   obtain⟨m,hm⟩:=nJ hc es s1 (hx.le hs) (fun t ht=>hk t (by rw[az];exact List.mem_append.2 (.inr ht)))
   refine⟨max n m,?_⟩
   rw[aJ,lg (eV (Nat.le_max_left n m)) a s hn,hr,Rr.bnd_ok,je (eV (Nat.le_max_right n m)) es s1 hm]
   cases hr2:aJ p locals vals (aB p lim m calls k) es s1 with
   | ok vs s2=>exact fun e=>by cases e
   | stop c s2=>exact fun e=>by cases e
   | fuel=>exact absurd hr2 hm
  | stop c s1=>exact⟨n,by rw[aJ,hr];exact fun e=>by cases e⟩
  | fuel=>exact absurd hr hn
end
end
structure InF (p:List Ah) (f e k:Nat):Prop where
 fn:∃y,p[f]?=some y∧y.faa=0
 en:endAt p f=some e
 lo:f < k
 hi:k≤e
section
variable {p:List Ah} {f e k:Nat} {ln:Ah}
abbrev cx0 (p:List Ah)(f:Nat):Cx:=⟨p,⟨0,0,false,false⟩,false,0,argsN p f⟩
theorem PgOk.cx0 (hp:PgOk p)(h:∃y,p[f]?=some y∧y.faa=0):CxOk (cx0 p f):=by
 obtain⟨y,hy,_⟩:=h
 refine hp.cx ?_ (by omega) (by simp)
 have:=(hp.line f y hy).2.2.1
 show(0:Int)≤(argsN p f:Int)∧(argsN p f:Int)≤4
 rw[argsN,hy];dsimp only;omega
theorem ui (h:∃y,p[f]?=some y∧y.faa=0):ScOk (cx0 p f) (rh (cx0 p f) f) [f]:=⟨h,rfl,⟨Int.le_refl _,by simp[rh]⟩,rfl,by simp[rh],fun _=>rfl,rfl⟩
theorem InF.own7 (hp:PgOk p)(h:InF p f e k)(hk:p[k]?=some ln)(h7:ln.faa=7):endAt p (aH p k)=some k∧((k=e∧aH p k=f)∨(k < e∧f < aH p k∧aH p k < k∧∃y,p[aH p k]?=some y∧(y.faa=3∨y.faa=5))):=
 ScOk.own7 (hp.cx0 h.fn) (ui h.fn) h.en h.lo h.hi hk h7
theorem InF.own4 (hp:PgOk p)(h:InF p f e k)(hk:p[k]?=some ln)(h4:ln.faa=4):elseAt p (aH p k)=some k∧f < aH p k∧aH p k < k∧k < e:=
 ScOk.own4 (hp.cx0 h.fn) (ui h.fn) h.en h.lo h.hi hk h4
theorem InF.kind (hp:PgOk p)(h:InF p f e k)(hk:p[k]?=some ln):ln.faa≠0:=mm (hp.cx0 h.fn) (ui h.fn) h.en h.lo h.hi hk
theorem InF.line (hp:PgOk p)(h:InF p f e k):∃ln,p[k]?=some ln∧1≤ln.faa∧ln.faa≤7∧(ln.faa=7∨k < e):=by
 have he:=aw h.en
 obtain⟨_,_,_,_,_,hl⟩:=he
 obtain⟨ln,hk⟩:=ak (l:=p) (k:=k) (by have:=h.hi;omega)
 have h1:=h.kind hp hk
 have h2:=hp.line k ln hk
 refine⟨ln,hk,by omega,h2.2.1,?_⟩
 by_cases hke:k=e
 ·subst hke
  obtain⟨y,hy,h7⟩:=bf h.en
  rw[hk]at hy;injection hy with hy;subst hy
  exact .inl h7
 ·have:=h.hi;exact .inr (by omega)
theorem InF.at (h:InF p f e k){j:Nat}(h1:f < j)(h2:j≤e):InF p f e j:=⟨h.fn,h.en,h1,h2⟩
theorem InF.skip (hp:PgOk p)(h:InF p f e k)(hk:p[k]?=some ln)(h35:ln.faa=3∨ln.faa=5)(hke:k < e):k < bc p k∧bc p k < e:=by
 obtain⟨m,hm,m1,m2⟩:=bt h.en h.lo hke hk (by rw[opensK_iff];omega)
 unfold bc
 split
 ·rename_i j hj
  obtain⟨_,e',_,_,he',q1,q2,_⟩:=aO hj
  rw[hm]at he';injection he' with he';subst he'
  omega
 ·rw[cn,hm]
  exact⟨m1,m2⟩
theorem InF.elseNext (hp:PgOk p)(h:InF p f e k)(hk:p[k]?=some ln)(h4:ln.faa=4):k < cn p (aH p k)∧cn p (aH p k) < e:=by
 obtain⟨q1,q2,q3,q4⟩:=h.own4 hp hk h4
 obtain⟨x,e',hx,h3,he',r1,r2,_⟩:=aO q1
 obtain⟨m,hm,m1,m2⟩:=bt h.en q2 (by omega) hx (by rw[opensK_iff];omega)
 rw[he']at hm;injection hm with hm;subst hm
 rw[cn,he']
 exact⟨r2,m2⟩
theorem InF.next (hp:PgOk p)(h:InF p f e k)(hk:p[k]?=some ln)(h7:ln.faa≠7)(v:Int):InF p f e (bC p ln k v)∧k < bC p ln k v:=by
 have hke:k < e:=by
  obtain⟨l,hl,_,_,h5⟩:=h.line hp
  rw[hk]at hl;injection hl with hl;subst hl
  omega
 have hlo:=h.lo
 unfold bC
 split
 ·rename_i hc
  have:=h.skip hp hk hc.1 hke
  exact⟨h.at (by omega) (by omega),by omega⟩
 ·exact⟨h.at (by omega) (by omega),by omega⟩
theorem InF.start (hp:PgOk p){g:Nat}(h:∃y,p[g]?=some y∧y.faa=0):∃e,InF p g e (g+1):=by
 obtain⟨y,hy,h0⟩:=h
 obtain⟨e,he,_⟩:=hp.fn g y hy h0
 obtain⟨_,_,_,_,h1,_⟩:=aw he
 exact⟨e,⟨⟨y,hy,h0⟩,he,by omega,by omega⟩⟩
theorem InF.known (hp:PgOk p)(h:InF p f e k)(hk:p[k]?=some ln)(h7:ln.faa≠7)(h4:ln.faa≠4):bJ ln.fad=true∧(exL ln.fad).ok∧ln.fad=(exL ln.fad).toks∧gw p (exL ln.fad).toks:=by
 obtain⟨l,hl,h1,h2,h5⟩:=h.line hp
 rw[hk]at hl;injection hl with hl;subst hl
 have he:=(hp.line k ln hk).2.2.2.2 (by omega)
 obtain⟨e1,e2⟩:=wV he
 refine⟨he,e1,e2,?_⟩
 rw[←e2]
 obtain⟨y,hy,h0⟩:=h.fn
 obtain⟨e',g1,_,_,g2⟩:=hp.fn f y hy h0
 rw[h.en]at g1;injection g1 with g1;subst g1
 intro t ht ht7
 obtain⟨q,hq,_⟩:=(g2 k ln h.lo (by omega) hk).2.1 t ht ht7
 exact⟨q,hq⟩
end
section
variable {p:List Ah} {lim:Int}
theorem oh (hp:PgOk p)(calls:List Int)(hcall:∀(k g:Nat) (av:List Int) (s:IS),(s.visits.length:Int)≤lim→(∃y,p[g]?=some y∧y.faa=0)→∃n,aB p lim n calls k g av s≠.fuel):
  ∀(m:Nat) (s:IS),(s.visits.length:Int)≤lim→lim - s.visits.length < m→∀(c f e k:Nat) (vals:List Int),InF p f e k→e - k≤c→∃n,aC p lim n calls f k vals s≠.fuel
 | 0,s,h1,h2,_,_,_,_,_,_,_=>by omega
 | m+1,s,h1,h2,c,f,e,k,vals,hI,hc=>by
  have vis:∀(k:Nat) (ln:Ah),InF p f e k→p[k]?=some ln→ln.faa≠7→ln.faa≠4→∃n,aC p lim n calls f k vals s≠.fuel:=by
   intro k ln hI hk h7 h4
   by_cases hv:(s.visits.length:Int)=lim
   ·exact⟨1,by rw[cu hk h7 h4 hv];exact fun e=>by cases e⟩
   obtain⟨_,e1,e2,e3⟩:=hI.known hp hk h7 h4
   have hl1:(((⟨s.out,s.visits++[calls++[(k:Int)]]⟩:IS).visits.length:Nat):Int)≤lim:=by simp only[List.length_append,List.length_cons,List.length_nil];omega
   obtain⟨n,hn⟩:=pW (locals:=localsOf p (f:Int)) (vals:=vals) (hcall k) (exL ln.fad) ⟨s.out,s.visits++[calls++[(k:Int)]]⟩ hl1 e3
   have hx:=iP (p:=p) (locals:=localsOf p (f:Int)) (vals:=vals) (dc (p:=p) (lim:=lim) n calls k) (exL ln.fad) ⟨s.out,s.visits++[calls++[(k:Int)]]⟩
   cases hr:evE p (localsOf p (f:Int)) vals (aB p lim n calls k) (exL ln.fad) ⟨s.out,s.visits++[calls++[(k:Int)]]⟩with
   | fuel=>exact absurd hr hn
   | stop c s1=>exact⟨n+1,by rw[cB hk h7 h4 hv,hr];exact fun e=>by cases e⟩
   | ok v s1=>
    rw[hr]at hx
    by_cases h6:ln.faa=6
    ·exact⟨n+1,by rw[cB hk h7 h4 hv,hr,Rr.bnd_ok,if_pos h6];exact fun e=>by cases e⟩
    have hx2:=ni (ln:=ln) (v:=v) hv hx
    have hlen:s.visits.length+1≤(ey ln s1 v).visits.length:=by
     have:=hx.vis.length_le
     simp only[List.length_append,List.length_cons,List.length_nil]at this
     have e:(ey ln s1 v).visits=s1.visits:=by unfold ey;split <;> rfl
     rw[e];exact this
    obtain⟨n2,hn2⟩:=oh hp calls hcall m (ey ln s1 v) (hx2.le h1) (by omega) _ f e (bC p ln k v) (gk (localsOf p (f:Int)) ln vals v) (hI.next hp hk h7 v).1 (Nat.le_refl _)
    refine⟨max n n2+1,?_⟩
    rw[cB hk h7 h4 hv,lg (eV (Nat.le_max_left n n2)) _ _ hn,hr,Rr.bnd_ok,if_neg h6,fy hn2 (Nat.le_max_right n n2)]
    exact hn2
  have pos:∀(c k:Nat),InF p f e k→e - k≤c→∃n,aC p lim n calls f k vals s≠.fuel:=by
   intro c
   induction c with
   | zero=>
    intro k hI hc
    obtain⟨ln,hk,_,_,h7⟩:=hI.line hp
    have h7:ln.faa=7:=by omega
    have hke:k=e:=by have:=hI.hi;omega
    obtain⟨_,h|h⟩:=hI.own7 hp hk h7
    ·exact⟨1,by rw[bv hk h7,if_pos h.2];exact fun e=>by cases e⟩
    ·omega
   | succ c ih=>
    intro k hI hc
    obtain⟨ln,hk,_,_,hke⟩:=hI.line hp
    by_cases h7:ln.faa=7
    ·obtain⟨_,h|⟨q1,q2,q3,y,hy,q4⟩⟩:=hI.own7 hp hk h7
     ·exact⟨1,by rw[bv hk h7,if_pos h.2];exact fun e=>by cases e⟩
     ·have hne:aH p k≠f:=by omega
      by_cases h5:y.faa=5
      ·have hI2:InF p f e (aH p k):=hI.at q2 (by omega)
       obtain⟨n,hn⟩:=vis (aH p k) y hI2 hy (by omega) (by omega)
       exact⟨n+1,by rw[bv hk h7,if_neg hne,bz hy,if_pos h5];exact hn⟩
      ·obtain⟨n,hn⟩:=ih (k+1) (hI.at (by have:=hI.lo;omega) (by omega)) (by omega)
       exact⟨n+1,by rw[bv hk h7,if_neg hne,bz hy,if_neg h5];exact hn⟩
    ·by_cases h4:ln.faa=4
     ·have hn4:=hI.elseNext hp hk h4
      obtain⟨n,hn⟩:=ih (cn p (aH p k)+1) (hI.at (by have:=hI.lo;omega) (by omega)) (by omega)
      exact⟨n+1,by rw[cw hk h4];exact hn⟩
     ·exact vis k ln hI hk h7 h4
  exact pos c k hI hc
theorem kO (hp:PgOk p):∀(d:Nat) (calls:List Int),calls.length+d=6→∀(f e k:Nat) (vals:List Int) (s:IS),(s.visits.length:Int)≤lim→InF p f e k→∃n,aC p lim n calls f k vals s≠.fuel
 | 0,calls,hcl,f,e,k,vals,s,hs,hI=>
  oh hp calls (fun k g av s _ _=>⟨0,by unfold aB;rw[if_pos (by omega)];exact fun e=>by cases e⟩) ((lim - s.visits.length).toNat+1) s hs (by omega) _ f e k vals hI (Nat.le_refl _)
 | d+1,calls,hcl,f,e,k,vals,s,hs,hI=>
  oh hp calls (fun k g av s hs hg=>by
   obtain⟨e,he⟩:=InF.start hp hg
   obtain⟨n,hn⟩:=kO hp d (calls++[(k:Int)]) (by rw[List.length_append];simp;omega) g e (g+1) (bZ (localsOf p (g:Int)).length av) s hs he
   exact⟨n,by unfold aB;split;exact(fun e=>by cases e);exact hn⟩) ((lim - s.visits.length).toNat+1) s hs (by omega) _ f e k vals hI (Nat.le_refl _)
end
end Go.Proofs.Ytjmplnfiabmalaa
namespace Go.Proofs.Ytjmplnfiabmalaa
open Go.Sim
set_option maxRecDepth 100000
set_option maxHeartbeats 4000000
def dD (p:List Ah)(f k i:Nat):Bool:=decide (f < i∧i < k∧cH p i=5∧∃e,endAt p i=some e∧k≤e)
def ax (p:List Ah)(f k:Nat):List Nat:=(List.range p.length).filter (dD p f k)
theorem jB {P P':Nat→Bool}{k:Nat}(h1:∀i,i < k→P' i=P i)(h2:P' k=true)(h3:∀i,k≤i→P i=false)(h4:∀i,k < i→P' i=false):∀n,k < n→(List.range n).filter P'=(List.range n).filter P++[k]
 | 0,h=>by omega
 | n+1,h=>by
  rw[List.range_succ,List.filter_append,List.filter_append]
  by_cases hk:k=n
  ·subst hk
   have e:(List.range k).filter P'=(List.range k).filter P:=List.filter_congr fun i hi=>h1 i (List.mem_range.1 hi)
   rw[e]
   simp[h2,h3 k (Nat.le_refl _)]
  ·rw[jB h1 h2 h3 h4 n (by omega)]
   simp[h4 n (by omega),h3 n (by omega)]
theorem openW_iff {p:List Ah}{f k i:Nat}:dD p f k i=true↔f < i∧i < k∧cH p i=5∧∃e,endAt p i=some e∧k≤e:=by unfold dD;rw[decide_eq_true_eq]
theorem kD {p:List Ah}{f k i:Nat}(h:¬(f < i∧i < k∧cH p i=5∧∃e,endAt p i=some e∧k≤e)):dD p f k i=false:=by unfold dD;rw[decide_eq_false h]
theorem iV {p:List Ah}{f k k':Nat}(h:∀i,dD p f k i=true↔dD p f k' i=true):ax p f k=ax p f k':=by
 unfold ax
 refine List.filter_congr fun i _=>?_
 have:=h i
 cases h1:dD p f k i <;> cases h2:dD p f k' i <;> simp_all
theorem jC (p:List Ah)(f k:Nat):(ax p f k).length≤p.length:=by
 unfold ax
 have:=List.length_filter_le (dD p f k) (List.range p.length)
 rwa [List.length_range]at this
theorem oa {p:List Ah}{f k i:Nat}(h:i∈ax p f k):f < i∧i < k∧cH p i=5∧∃e,endAt p i=some e∧k≤e:=by
 unfold ax at h
 exact openW_iff.1 (List.mem_filter.1 h).2
section
variable {p:List Ah} {f e k:Nat} {ln:Ah}
theorem iS {i:Nat}{c:Int}(h:cH p i=c)(hc:0≤c):∃x,p[i]?=some x∧x.faa=c:=by
 unfold cH at h
 split at h
 ·exact⟨_,by assumption,h⟩
 ·omega
theorem oQ {i m:Nat}(h:endAt p i=some m)(hk:p[k]?=some ln)(h7:ln.faa≠7):m≠k:=fun he=>by
 subst he
 obtain⟨y,hy,h7'⟩:=bf h
 rw[hk]at hy;injection hy with hy;subst hy
 exact h7 h7'
theorem rE (hI:InF p f e (f+1)):ax p f (f+1)=[]:=by
 unfold ax
 rw[List.filter_eq_nil_iff]
 intro i _ h
 have:=openW_iff.1 h
 omega
theorem gZ (hk:p[k]?=some ln)(h5:ln.faa≠5)(h7:ln.faa≠7):ax p f (k+1)=ax p f k:=by
 refine iV fun i=>?_
 rw[openW_iff,openW_iff]
 constructor
 ·rintro⟨a,b,c,m,hm,hle⟩
  have:i≠k:=fun he=>by subst he;rw[bz hk]at c;exact h5 c
  exact⟨a,by omega,c,m,hm,by omega⟩
 ·rintro⟨a,b,c,m,hm,hle⟩
  have:=oQ hm hk h7
  exact⟨a,by omega,c,m,hm,by omega⟩
theorem rZ (hp:PgOk p)(hI:InF p f e k)(hke:k < e)(hk:p[k]?=some ln)(h5:ln.faa=5):ax p f (k+1)=ax p f k++[k]:=by
 obtain⟨m,hm,m1,m2⟩:=bt hI.en hI.lo hke hk (by rw[opensK_iff];omega)
 unfold ax
 refine jB (fun i hi=>?_) (openW_iff.2 ⟨hI.lo,by omega,by rw[bz hk];exact h5,m,hm,m1⟩) (fun i hi=>kD fun h=>by omega) (fun i hi=>kD fun h=>by omega) _ (bm hk)
 have:dD p f (k+1) i=true↔dD p f k i=true:=by
  rw[openW_iff,openW_iff]
  constructor
  ·rintro⟨a,b,c,m,hm,hle⟩;exact⟨a,hi,c,m,hm,by omega⟩
  ·rintro⟨a,b,c,m,hm,hle⟩
   have:=oQ hm hk (by omega)
   exact⟨a,by omega,c,m,hm,by omega⟩
 cases h1:dD p f (k+1) i <;> cases h2:dD p f k i <;> simp_all
theorem lC {i o m mo:Nat}{y:Ah}(hm:endAt p i=some m)(h1:i < o)(h2:o≤m)(hy:p[o]?=some y)(ho:bh y.faa=true)(hmo:endAt p o=some mo):mo < m:=by
 have hne:=oQ hm hy (by rw[opensK_iff]at ho;omega)
 obtain⟨m',hm',_,h3⟩:=bt hm h1 (by omega) hy ho
 rw[hmo]at hm';injection hm' with hm';omega
theorem tN (hf:f < k){o:Nat}{y:Ah}(hok:endAt p o=some k)(hfo:f < o)(hy:p[o]?=some y)(h5:y.faa=5):ax p f k=ax p f o++[o]:=by
 obtain⟨_,_,_,_,hlt,_⟩:=aw hok
 unfold ax
 refine jB (fun i hi=>?_) (openW_iff.2 ⟨hfo,hlt,by rw[bz hy];exact h5,k,hok,Nat.le_refl _⟩) (fun i hi=>kD fun h=>by omega) (fun i hi=>kD ?_) _ (bm hy)
 ·have:dD p f k i=true↔dD p f o i=true:=by
   rw[openW_iff,openW_iff]
   constructor
   ·rintro⟨a,b,c,m,hm,hle⟩;exact⟨a,hi,c,m,hm,by omega⟩
   ·rintro⟨a,b,c,m,hm,hle⟩
    have:=lC hm hi hle hy (by rw[opensK_iff];omega) hok
    exact⟨a,by omega,c,m,hm,by omega⟩
  cases h1:dD p f k i <;> cases h2:dD p f o i <;> simp_all
 ·rintro⟨a,b,c,m,hm,hle⟩
  obtain⟨x,hx,hx5⟩:=iS c (by omega)
  obtain⟨m',hm',_,h3⟩:=bt hok hi b hx (by rw[opensK_iff];omega)
  rw[hm]at hm';injection hm' with hm';omega
theorem vR {o:Nat}{y:Ah}(hk:p[k]?=some ln)(h7:ln.faa=7)(hok:endAt p o=some k)(hy:p[o]?=some y)(h3:y.faa=3):ax p f (k+1)=ax p f k∧∀i∈ax p f k,endAt p i≠some k:=by
 have hne:∀i,cH p i=5→endAt p i≠some k:=fun i c h=>by
  have:=qa h hok
  subst this
  rw[bz hy]at c
  omega
 refine⟨iV fun i=>?_,fun i hi=>hne i (oa hi).2.2.1⟩
 rw[openW_iff,openW_iff]
 constructor
 ·rintro⟨a,b,c,m,hm,hle⟩
  have:i≠k:=fun he=>by subst he;rw[bz hk]at c;omega
  exact⟨a,by omega,c,m,hm,by omega⟩
 ·rintro⟨a,b,c,m,hm,hle⟩
  have:m≠k:=fun he=>by subst he;exact hne i c hm
  exact⟨a,by omega,c,m,hm,by omega⟩
theorem mM (hp:PgOk p)(hI:InF p f e k)(hke:k < e)(hk:p[k]?=some ln)(h35:ln.faa=3∨ln.faa=5):ax p f (bc p k+1)=ax p f k:=by
 obtain⟨m,hm,m1,m2⟩:=bt hI.en hI.lo hke hk (by rw[opensK_iff];omega)
 have hj:k < bc p k∧bc p k≤m∧∀i x mi,k < i→i≤bc p k→p[i]?=some x→x.faa=5→endAt p i=some mi→mi < bc p k:=by
  unfold bc
  split
  ·rename_i j hj
   obtain⟨x,e',hx,h3,he',q1,q2,y,hy,hy4⟩:=aO hj
   rw[hm]at he';injection he' with he';subst he'
   refine⟨q1,by omega,fun i z mi h1 h2 hz h5 hmi=>?_⟩
   have hij:i≠j:=fun he=>by subst he;rw[hz]at hy;injection hy with hy;subst hy;omega
   unfold elseAt at hj
   rw[hx,hm]at hj
   dsimp only at hj
   rw[if_pos h3]at hj
   exact eN hj i z mi (by omega) (by omega) hz (.inr h5) hmi
  ·rw[cn,hm]
   refine⟨m1,Nat.le_refl _,fun i z mi h1 h2 hz h5 hmi=>?_⟩
   have:=oQ hm hz (by omega)
   have h2:i≤m:=h2
   obtain⟨m',hm',_,h3⟩:=bt hm h1 (by omega) hz (by rw[opensK_iff];omega)
   rw[hmi]at hm';injection hm' with hm';subst hm'
   exact h3
 obtain⟨j1,j2,j3⟩:=hj
 have h5s:ln.faa=5→bc p k=m:=fun h5=>by
  unfold bc
  rw[ot (by rw[bz hk];omega),cn,hm]
  rfl
 generalize bc p k=j at *
 refine iV fun i=>?_
 rw[openW_iff,openW_iff]
 constructor
 ·rintro⟨a,b,c,mi,hmi,hle⟩
  obtain⟨x,hx,hx5⟩:=iS c (by omega)
  rcases Nat.lt_trichotomy i k with h|h|h
  ·exact⟨a,h,c,mi,hmi,by omega⟩
  ·subst h
   rw[hk]at hx;injection hx with hx;subst hx
   rw[hm]at hmi;injection hmi with hmi
   have:=h5s hx5
   omega
  ·have:=j3 i x mi h (by omega) hx hx5 hmi
   omega
 ·rintro⟨a,b,c,mi,hmi,hle⟩
  have:=lC hmi b hle hk (by rw[opensK_iff];omega) hm
  exact⟨a,by omega,c,mi,hmi,by omega⟩
theorem tw (hp:PgOk p)(hI:InF p f e k)(hk:p[k]?=some ln)(h4:ln.faa=4):ax p f (cn p (aH p k)+1)=ax p f k:=by
 obtain⟨q1,q2,q3,q4⟩:=hI.own4 hp hk h4
 obtain⟨x,E,hx,h3,hE,r1,r2,y,hy,hy4⟩:=aO q1
 have hq:=q1
 unfold elseAt at hq
 rw[hx,hE]at hq
 dsimp only at hq
 rw[if_pos h3]at hq
 rw[cn,hE]
 generalize aH p k=o at *
 show ax p f (E+1)=_
 refine iV fun i=>?_
 rw[openW_iff,openW_iff]
 constructor
 ·rintro⟨a,b,c,mi,hmi,hle⟩
  obtain⟨z,hz,hz5⟩:=iS c (by omega)
  rcases Nat.lt_trichotomy i o with h|h|h
  ·exact⟨a,by omega,c,mi,hmi,by omega⟩
  ·subst h;rw[hx]at hz;injection hz with hz;subst hz;omega
  ·have:=oQ hE hz (by omega)
   obtain⟨m',hm',_,h5⟩:=bt hE h (by omega) hz (by rw[opensK_iff];omega)
   rw[hmi]at hm';injection hm' with hm';omega
 ·rintro⟨a,b,c,mi,hmi,hle⟩
  obtain⟨z,hz,hz5⟩:=iS c (by omega)
  rcases Nat.lt_trichotomy i o with h|h|h
  ·have:=lC hmi h (by omega) hx (by rw[opensK_iff];omega) hE
   exact⟨a,by omega,c,mi,hmi,by omega⟩
  ·subst h;rw[hx]at hz;injection hz with hz;subst hz;omega
  ·have:=eN hq i z mi (by omega) b hz (.inr hz5) hmi
   omega
end
structure Known (p:List Ah) (locals:List (List UInt8)) (l:List Aq):Prop where
 var:∀t∈l,t.faa=1→∃i,cY locals 0 t.fab=some i
 call:∀t∈l,t.faa=7→∃g,findN p 0 t.fab=some g∧(argsN p g:Int)=t.faf
theorem tn (acc:List (List UInt8))(s:List UInt8):s∈cD acc s:=by
 unfold cD
 split
 ·rename_i h;exact List.contains_iff_mem.1 h
 ·simp
theorem sr {acc:List (List UInt8)}{s z:List UInt8}(h:z∈acc):z∈cD acc s:=by
 unfold cD
 split
 ·exact h
 ·simp[h]
theorem so {l:List Ah}{e:Nat}{z:List UInt8}:∀(n i:Nat) (acc:List (List UInt8)),z∈acc→z∈locN l e n i acc
 | 0,_,_,h=>by rw[locN];exact h
 | n+1,i,acc,h=>by
  rw[locN]
  split
  ·split
   ·refine so n _ _ ?_
    split
    ·exact sr h
    ·exact h
   ·exact h
  ·exact h
theorem sL {l:List Ah}{e k:Nat}{x:Ah}(hx:l[k]?=some x)(h1:x.faa=1)(hke:k < e):∀(n i:Nat) (acc:List (List UInt8)),i≤k→e - i≤n→(∀j,j < e→j < l.length)→x.fab∈locN l e n i acc
 | 0,i,acc,h,hn,_=>by omega
 | n+1,i,acc,h,hn,hl=>by
  rw[locN,if_pos (by omega)]
  obtain⟨y,hy⟩:=ak (hl i (by omega))
  rw[hy]
  dsimp only
  by_cases hik:i=k
  ·subst hik
   rw[hx]at hy;injection hy with hy;subst hy
   rw[if_pos h1]
   exact so n _ _ (tn _ _)
  ·exact sL hx h1 hke n (i+1) _ (by omega) (by omega) hl
theorem mG {l:List (List UInt8)}{s:List UInt8}(h:s∈l):∃i,cY l 0 s=some i:=by
 have:(cY l 0 s).isSome=true:=by rw[pb];exact List.contains_iff_mem.2 h
 exact Option.isSome_iff_exists.1 this
theorem tg {p:List Ah}(h:aD p=true){f e k:Nat}{ln:Ah}(hI:InF p f e k)(hk:p[k]?=some ln)(hke:k < e):Known p (localsOf p (f:Int)) ln.fad∧(ln.faa=1→∃i,cY (localsOf p (f:Int)) 0 ln.fab=some i):=by
 have h0:=h
 unfold aD at h
 simp only[Bool.and_eq_true,decide_eq_true_eq]at h
 obtain⟨_,_,h2,_,_,h3,h4⟩:=h
 have hS:=kb p
 rw[h3,h4]at hS
 have hlt:∀k e,endAt p k=some e→e≤p.length:=fun k e he=>by obtain⟨_,_,_,_,_,h⟩:=aw he;omega
 have hF:∀k e,endAt p k=some e→gW p k e=true→∀i x,k < i→i < e→p[i]?=some x→x.faa≠0:=fun k e he hf=>by
  rw[ip,Bool.and_eq_true]at hf
  exact jL hf.1 (hlt k e he)
 obtain⟨y,hy,hy0⟩:=hI.fn
 obtain⟨e',he',hf⟩:=jJ hF p.length 0 hS f y (Nat.zero_le _) hy hy0
 rw[hI.en]at he';injection he' with he';subst he'
 rw[ip,Bool.and_eq_true]at hf
 have hf1:=hf.1
 rw[eY,Bool.and_eq_true,decide_eq_true_eq]at hf1
 have hkn:=jK (e - (f+1)) (f+1) 0 (Nat.le_refl _) (hlt f e hI.en) hf1.2 k ln (by have:=hI.lo;omega) hke hk
 unfold aR at hkn
 have hkn:=List.all_eq_true.1 hkn
 refine⟨⟨fun t ht h1=>?_,fun t ht h7=>?_⟩,fun h1=>?_⟩
 ·have:=hkn t ht
  unfold aW at this
  rw[if_pos h1]at this
  exact mG (List.contains_iff_mem.1 this)
 ·have:=hkn t ht
  unfold aW at this
  rw[if_neg (by omega),if_pos h7]at this
  split at this
  ·rename_i g hg
   refine⟨g,hg,?_⟩
   unfold argsN
   split at this
   ·rename_i x hx
    (try rw[hx])
    exact eq_of_beq this
   ·cases this
  ·cases this
 ·refine mG ?_
  unfold localsOf
  rw[if_pos (by omega),Int.toNat_natCast,hy,hI.en]
  dsimp only
  rw[if_pos hy0]
  exact sL hk h1 hke _ _ _ (by have:=hI.lo;omega) (Nat.le_refl _) (fun j hj=>by have:=hlt f e hI.en;omega)
abbrev nQ (l:List (List UInt8)):AV:= .r (.c (.t (.lst 1 (l.map ah))))
def Rr.val:Rr Int→Int
 | .ok v _=>v
 | _=>0
def Rr.st {α:Type}:Rr α→IS
 | .ok _ s=>s
 | .stop _ s=>s
 | .fuel=>⟨[],[]⟩
def Rr.code {α:Type}:Rr α→Int
 | .ok _ _=>0
 | .stop c _=>c
 | .fuel=>0
abbrev ww (i1 i2 i3:Sim.Id)(p:List Ah)(lim:Int)(calls:List Int)(s:IS)(c:Int):List (Sim.Id×AO):=vU i1 i2 i3 p lim ⟨s.out,s.visits,0,c,calls⟩
structure InV (lim:Int) (calls:List Int) (s:IS):Prop where
 lm:lim≤1000
 vis:(s.visits.length:Int)≤lim
 out:s.out.length≤s.visits.length
 calls:calls.length≤6
theorem InV.ext {lim:Int}{calls:List Int}{s s':IS}(h:InV lim calls s)(hx:Ext lim s s'):InV lim calls s':=⟨h.lm,hx.le h.vis,by have:=hx.ol;have:=h.out;omega,h.calls⟩
noncomputable abbrev cG (p:List Ah) (lim:Int) (n:Nat) (calls:List Int) (f k:Nat) (vals:List Int) (e:Ex) (s:IS):Rr Int:=evE p (localsOf p (f:Int)) vals (aB p lim n calls k) e s
abbrev zp (vals:List Int):List (Sim.Id×AO):=[((0,0,4),.arr false 1 (vals.map aa))]
def yx (p:List Ah)(lim:Int)(n:Nat):Prop:=∀(calls:List Int) (f:Nat) (args:List Int) (s:IS),(∃y,p[f]?=some y∧y.faa=0)→args.length=argsN p f→InV lim calls s→
 aC p lim n calls f (f+1) (bZ (localsOf p (f:Int)).length args) s≠.fuel→
 bG Try.prog 28 [.r (.c (.ptr (0,0,0) 0)),tI .i64 (f:Int),.r (.c (.t (.lst 1 (args.map aa))))] (ww (0,0,1) (0,0,2) (0,0,3) p lim calls s 0)
  (tI .i64 (aC p lim n calls f (f+1) (bZ (localsOf p (f:Int)).length args) s).val) (ww (1,0,1) (1,0,2) (1,0,3) p lim calls (aC p lim n calls f (f+1) (bZ (localsOf p (f:Int)).length args) s).st (aC p lim n calls f (f+1) (bZ (localsOf p (f:Int)).length args) s).code)
theorem oP {p:List Ah}{locals:List (List UInt8)}{vals:List Int}{call:gd}:∀{es:List Ex} {s:IS} {c:Int} {s':IS},aJ p locals vals call es s= .stop c s'→
  ∃(j:Nat) (a:Ex) (av:List Int) (s1:IS),es[j]?=some a∧aJ p locals vals call (es.take j) s= .ok av s1∧evE p locals vals call a s1= .stop c s'
 | [],s,c,s',h=>by rw[aJ]at h;cases h
 | b::es,s,c,s',h=>by
  rw[aJ]at h
  cases h1:evE p locals vals call b s with
  | ok v s1=>
   rw[h1,Rr.bnd_ok]at h
   cases h2:aJ p locals vals call es s1 with
   | ok vs s2=>rw[h2]at h;cases h
   | stop c2 s2=>
    rw[h2]at h
    injection h with e1 e2
    subst e1;subst e2
    obtain⟨j,a,av,s3,q1,q2,q3⟩:=oP h2
    exact⟨j+1,a,v::av,s3,by simpa using q1,by rw[List.take_succ_cons,aJ,h1,Rr.bnd_ok,q2];rfl,q3⟩
   | fuel=>rw[h2]at h;cases h
  | stop c2 s1=>
   rw[h1]at h
   injection h with e1 e2
   subst e1;subst e2
   exact⟨0,b,[],s,rfl,by rw[List.take_zero,aJ],h1⟩
  | fuel=>rw[h1]at h;cases h
theorem dK {p:List Ah}{locals:List (List UInt8)}{vals:List Int}{call:gd}{es:List Ex}{s:IS}{av:List Int}{s':IS}(h:aJ p locals vals call es s= .ok av s')(j:Nat):∃as1 s1,aJ p locals vals call (es.take j) s= .ok as1 s1:=by
 cases h1:aJ p locals vals call (es.take j) s with
 | ok as1 s1=>exact⟨_,_,rfl⟩
 | stop c s1=>rw[vE h1]at h;cases h
 | fuel=>rw[vB h1]at h;cases h
theorem dM {p:List Ah}{locals:List (List UInt8)}{vals:List Int}{call:gd}{es:List Ex}{s:IS}{as1:List Int}{s1:IS}{j:Nat}{a:Ex}(h1:aJ p locals vals call (es.take j) s= .ok as1 s1)(ha:es[j]?=some a){as2:List Int}{s2:IS}(h2:aJ p locals vals call (es.take (j+1)) s= .ok as2 s2):
  ∃v,evE p locals vals call a s1= .ok v s2∧as2=as1++[v]:=by
 rw[wd s ha,h1,Rr.bnd_ok]at h2
 cases h3:evE p locals vals call a s1 with
 | ok v s3=>rw[h3,Rr.bnd_ok]at h2;injection h2 with e1 e2;subst e1;subst e2;exact⟨v,rfl,rfl⟩
 | stop c s3=>rw[h3]at h2;cases h2
 | fuel=>rw[h3]at h2;cases h2
def wj (p:List Ah)(lim:Int)(n:Nat)(e:Ex):Prop:=∀(calls:List Int) (f en k pos:Nat) (ln:Ah) (vals:List Int) (s:IS),e.ok→InF p f en k→p[k]?=some ln→gy ln.fad pos e→Known p (localsOf p (f:Int)) ln.fad→vals.length=(localsOf p (f:Int)).length→InV lim calls s→
 cG p lim n calls f k vals e s≠.fuel→
 ∃x:Int,((∃v s',cG p lim n calls f k vals e s= .ok v s')→x=((pos+e.toks.length:Nat):Int))∧
 bG Try.prog 60 [.r (.c (.ptr (0,0,0) 0)),tI .i64 (k:Int),tI .i64 (pos:Int),nQ (localsOf p (f:Int)),.r (.c (.own (0,0,4)))] (ww (0,0,1) (0,0,2) (0,0,3) p lim calls s 0++zp vals)
  (.tup [.c (.t (.int .i64 (cG p lim n calls f k vals e s).val)),.c (.t (.int .i64 x))]) (ww (1,0,1) (1,0,2) (1,0,3) p lim calls (cG p lim n calls f k vals e s).st (cG p lim n calls f k vals e s).code++zp vals)
theorem pa {l:List Int}{k:Nat}(h:k < l.length):l[k]?=some (atL l k):=by
 obtain⟨x,hx⟩:=ak h
 rw[atL,hx];rfl
theorem mz {p:List Ah}(hp:PgOk p){k:Nat}{ln:Ah}(hk:p[k]?=some ln):eJ ln.fad∧ln.fab.length≤1048576:=by
 obtain⟨h1,_,_,_,h5⟩:=cr (aS hp.small (List.mem_of_getElem? hk))
 exact⟨fun t ht=>by have:=h5 t ht;omega,h1⟩
theorem se {p:List Ah}(hp:PgOk p){lim:Int}{n:Nat}(hP:yx p lim n):∀(m:Nat) (e:Ex),e.toks.length≤m→wj p lim n e
 | 0,e,hn=>by have:=e.toks_pos;omega
 | m+1,.node t es,hn=>by
  intro calls f en k pos ln vals s ho hI hk hs hkn hvl hV hnf
  obtain⟨hsh,hnm⟩:=mz hp hk
  have hle:=jd hs
  obtain⟨ht,hsa⟩:=jH hs
  have htm:=List.mem_of_getElem? ht
  obtain⟨e1,e2⟩:=qm ho.1
  have hel:es.length=ar t:=ho.2.1
  have hA:=ky t (hsh t htm)
  rw[e1,←hel]at hA
  have h60:=hp.len
  have h20:=(hp.line _ _ hk).2.2.2.1
  have hkl:=bm hk
  rw[Ex.toks,List.length_cons]at hn hle
  have hlp:=hV.lm
  have hIH:∀(j:Nat) (a:Ex),es[j]?=some a→wj p lim n a:=fun j a ha=>se hp hP m a (by have:=jU ha;omega)
  have hL8:(localsOf p (f:Int)).length≤8:=by obtain⟨y,hy,h0⟩:=hI.fn;obtain⟨_,_,h8,_⟩:=hp.fn f y hy h0;exact h8
  obtain⟨L,hL⟩:∃L,localsOf p (f:Int)=L:=⟨_,rfl⟩
  rw[hL]at hL8 hvl
  have hev:cG p lim n calls f k vals (.node t es) s=(aJ p L vals (aB p lim n calls k) es s).bnd fun av s'=>cI p L vals (aB p lim n calls k) t av s':=by
   show evE _ _ _ _ _ _=_
   rw[evE,hL]
  have hxt:∀j,ExtR lim s (aJ p L vals (aB p lim n calls k) (es.take j) s):=fun j=>fM (dc n calls k) _ s
  rw[hev]at hnf ⊢
  cases hR:aJ p L vals (aB p lim n calls k) es s with
  | fuel=>rw[hR]at hnf;exact absurd rfl hnf
  | stop c s1=>
   obtain⟨j0,a0,as0,s0,q1,q2,q3⟩:=oP hR
   have hj0:=bm q1
   have hx0:=hxt j0
   rw[q2]at hx0
   have hq3:cG p lim n calls f k vals a0 s0= .stop c s1:=by show evE _ _ _ _ _ _=_;rw[hL];exact q3
   obtain⟨x0,_,g0⟩:=hIH j0 a0 q1 calls f en k (pos+1+(az (es.take j0)).length) ln vals s0 (ck ho.2.2 q1) hI hk (fk hsa q1) hkn (by rw[hL];exact hvl) (hV.ext hx0) (by rw[hq3];exact fun e=>by cases e)
   rw[hq3,hL]at g0
   refine⟨x0,(fun⟨v,s',h⟩=>by cases h),?_⟩
   rw[Rr.bnd_stop]
   dsimp only[Rr.val,Rr.st,Rr.code]at g0 ⊢
   have hcode:c=1∨c=2:=by have:=fM (p:=p) (locals:=L) (vals:=vals) (dc (p:=p) (lim:=lim) n calls k) es s;rw[hR]at this;exact this.2
   refine aT hΓ ap Try.func60 rfl (by decide) rfl rfl ?_
   rw[hL]
   repeat' ((conv=>whnf);first|apply Wx|apply W6|apply oi|(apply fi<;>intro h)|refine⟨k,ln.tr,rfl,ab hk,?_⟩|refine⟨pos,t.tr,rfl,ab ht,?_⟩|refine cl hA ?_|refine⟨_,rfl,?_⟩|exact rfl)
   all_goals try exact⟨KP⟩
   have hz:aJ p L vals (aB p lim n calls k) (es.take 0) s= .ok [] s:=by rw[List.take_zero,aJ]
   conv=>whnf
   refine⟨{q:Nat×List Int×IS // q.1≤j0∧aJ p L vals (aB p lim n calls k) (es.take q.1) s= .ok q.2.1 q.2.2},fun q=>⟨[(0,.r (.c (.ptr (0,0,0) 0))),(1,tI .i64 (k:Int)),(2,tI .i64 ((pos+1+(az (es.take q.1.1)).length:Nat):Int)),(3,nQ L),(4,.r (.c (.own (0,0,4)))),(12,.r (.c (.ptr (12,0,0) 0))),(13,.r (.c (.own (31,0,0)))),(14,tI .i64 ((es.length - q.1.1:Nat):Int))],
    [((0,0,0),some (.box [.t (.lst 4 (p.map Ah.tr)),.t (.int .i64 lim),.own (12,0,1),.own (12,0,2),.t (.int .i64 0),.t (.int .i64 0),.own (12,0,3)])),((12,0,1),some (.arr false 1 (q.1.2.2.out.map aa))),((12,0,2),some (.dar 1 (ae (q.1.2.2.visits.map aV)) none)),((12,0,3),some (.arr false 1 (calls.map aa))),((0,0,4),some (.arr false 1 (vals.map aa))),((12,0,0),some (.box (t.tr.map .t))),((31,0,0),some (.arr true 1 (q.1.2.1.map aa)))],[31,12,0]⟩,fun q=>es.length - q.1.1,⟨(0,[],s),Nat.zero_le _,hz⟩,?_,?_⟩
   ·skip
    repeat' ((conv=>whnf);first|apply Wx|apply W6|apply oi|(apply fi<;>intro h)|refine⟨_,rfl,?_⟩|exact rfl)
    all_goals try exact⟨KP⟩
    all_goals try exact⟨congrArg (Tr.int _) (by rw[IntWalk.i64_in _ (by omega)];simp[az])⟩
    all_goals try exact⟨KW⟩
   intro⟨⟨j,aj,sj⟩,hj,hjv⟩
   dsimp only at hj hjv ⊢
   obtain⟨a,ha⟩:=ak (l:=es) (k:=j) (by omega)
   have hta:=ez ha
   have htk:=eW es j
   by_cases hlj:j < j0
   ·obtain⟨a2,s2,h2⟩:=dK q2 (j+1)
    rw[List.take_take,Nat.min_eq_left (by omega)]at h2
    obtain⟨v,hv,rfl⟩:=dM hjv ha h2
    have hxj:=hxt j
    rw[hjv]at hxj
    have hva:cG p lim n calls f k vals a sj= .ok v s2:=by show evE _ _ _ _ _ _=_;rw[hL];exact hv
    obtain⟨x,hx,g⟩:=hIH j a ha calls f en k (pos+1+(az (es.take j)).length) ln vals sj (ck ho.2.2 ha) hI hk (fk hsa ha) hkn (by rw[hL];exact hvl) (hV.ext hxj) (by rw[hva];exact fun e=>by cases e)
    have hal:=cL hjv
    rw[List.length_take]at hal
    obtain rfl:=hx ⟨v,s2,hva⟩
    rw[hva,hL]at g
    dsimp only[Rr.val,Rr.st,Rr.code]at g
    repeat' ((conv=>whnf);first|apply Wx|apply W6|apply oi|(apply fi<;>intro h)|refine⟨_,rfl,?_⟩|exact rfl)
    all_goals try exact⟨KP⟩
    all_goals try exact KX
    refine cg (g) ?_
    repeat' ((conv=>whnf);first|apply Wx|apply W6|apply oi|(apply fi<;>intro h)|refine⟨_,rfl,?_⟩|exact rfl)
    all_goals try exact⟨KP⟩
    all_goals try exact KX
    all_goals try exact⟨⟨by simp <;> omega,by simp <;> omega⟩⟩
    conv=>whnf
    refine⟨⟨(j+1,aj++[v],s2),by dsimp only;omega,h2⟩,?_,KD⟩
    repeat' ((conv=>whnf);first|apply Wx|apply W6|apply oi|(apply fi<;>intro h)|refine⟨_,rfl,?_⟩|exact rfl)
    all_goals try exact⟨KP⟩
    all_goals try exact⟨KW⟩
    all_goals exact⟨by simp[aa]⟩
   ·obtain rfl:j=j0:=by omega
    rw[hjv]at q2
    injection q2 with q2 q4
    subst q2;subst q4
    repeat' ((conv=>whnf);first|apply Wx|apply W6|apply oi|(apply fi<;>intro h)|refine⟨_,rfl,?_⟩|exact rfl)
    all_goals try exact⟨KP⟩
    all_goals try exact KX
    refine cg (g0) ?_
    repeat' ((conv=>whnf);first|apply Wx|apply W6|apply oi|(apply fi<;>intro h)|refine⟨_,rfl,?_⟩|exact rfl)
    all_goals try exact⟨KP⟩
    all_goals try exact KX
    all_goals try(exfalso;simp at h;omega)
  | ok av s1=>
   rw[hR,Rr.bnd_ok]at hnf
   rw[Rr.bnd_ok]
   have hxR:=hxt es.length
   rw[List.take_length,hR]at hxR
   have hV1:=hV.ext hxR
   have hav:=cL hR
   refine⟨((pos+(Ex.node t es).toks.length:Nat):Int),fun _=>rfl,?_⟩
   refine aT hΓ ap Try.func60 rfl (by decide) rfl rfl ?_
   rw[hL]
   have hT:(Ex.node t es).toks.length=(az es).length+1:=by rw[Ex.toks,List.length_cons]
   rw[hT]
   repeat' ((conv=>whnf);first|apply Wx|apply W6|apply oi|(apply fi<;>intro h)|refine⟨k,ln.tr,rfl,ab hk,?_⟩|refine⟨pos,t.tr,rfl,ab ht,?_⟩|refine cl hA ?_|refine⟨_,rfl,?_⟩|exact rfl)
   all_goals try exact⟨KP⟩
   have hz:aJ p L vals (aB p lim n calls k) (es.take 0) s= .ok [] s:=by rw[List.take_zero,aJ]
   conv=>whnf
   refine⟨{q:Nat×List Int×IS // q.1≤es.length∧aJ p L vals (aB p lim n calls k) (es.take q.1) s= .ok q.2.1 q.2.2},fun q=>⟨[(0,.r (.c (.ptr (0,0,0) 0))),(1,tI .i64 (k:Int)),(2,tI .i64 ((pos+1+(az (es.take q.1.1)).length:Nat):Int)),(3,nQ L),(4,.r (.c (.own (0,0,4)))),(12,.r (.c (.ptr (12,0,0) 0))),(13,.r (.c (.own (31,0,0)))),(14,tI .i64 ((es.length - q.1.1:Nat):Int))],
    [((0,0,0),some (.box [.t (.lst 4 (p.map Ah.tr)),.t (.int .i64 lim),.own (12,0,1),.own (12,0,2),.t (.int .i64 0),.t (.int .i64 0),.own (12,0,3)])),((12,0,1),some (.arr false 1 (q.1.2.2.out.map aa))),((12,0,2),some (.dar 1 (ae (q.1.2.2.visits.map aV)) none)),((12,0,3),some (.arr false 1 (calls.map aa))),((0,0,4),some (.arr false 1 (vals.map aa))),((12,0,0),some (.box (t.tr.map .t))),((31,0,0),some (.arr true 1 (q.1.2.1.map aa)))],[31,12,0]⟩,fun q=>es.length - q.1.1,⟨(0,[],s),Nat.zero_le _,hz⟩,?_,?_⟩
   ·skip
    repeat' ((conv=>whnf);first|apply Wx|apply W6|apply oi|(apply fi<;>intro h)|refine⟨_,rfl,?_⟩|exact rfl)
    all_goals try exact⟨KP⟩
    all_goals try exact⟨congrArg (Tr.int _) (by rw[IntWalk.i64_in _ (by omega)];simp[az])⟩
    all_goals try exact⟨KW⟩
   intro⟨⟨j,aj,sj⟩,hj,hjv⟩
   dsimp only at hj hjv ⊢
   have htk:=eW es j
   by_cases hlj:j < es.length
   ·obtain⟨a,ha⟩:=ak hlj
    have hta:=ez ha
    obtain⟨a2,s2,h2⟩:=dK hR (j+1)
    obtain⟨v,hv,rfl⟩:=dM hjv ha h2
    have hxj:=hxt j
    rw[hjv]at hxj
    have hva:cG p lim n calls f k vals a sj= .ok v s2:=by show evE _ _ _ _ _ _=_;rw[hL];exact hv
    obtain⟨x,hx,g⟩:=hIH j a ha calls f en k (pos+1+(az (es.take j)).length) ln vals sj (ck ho.2.2 ha) hI hk (fk hsa ha) hkn (by rw[hL];exact hvl) (hV.ext hxj) (by rw[hva];exact fun e=>by cases e)
    have hal:=cL hjv
    rw[List.length_take]at hal
    obtain rfl:=hx ⟨v,s2,hva⟩
    rw[hva,hL]at g
    dsimp only[Rr.val,Rr.st,Rr.code]at g
    repeat' ((conv=>whnf);first|apply Wx|apply W6|apply oi|(apply fi<;>intro h)|refine⟨_,rfl,?_⟩|exact rfl)
    all_goals try exact⟨KP⟩
    all_goals try exact KX
    refine cg (g) ?_
    repeat' ((conv=>whnf);first|apply Wx|apply W6|apply oi|(apply fi<;>intro h)|refine⟨_,rfl,?_⟩|exact rfl)
    all_goals try exact⟨KP⟩
    all_goals try exact KX
    all_goals try exact⟨⟨by simp <;> omega,by simp <;> omega⟩⟩
    conv=>whnf
    refine⟨⟨(j+1,aj++[v],s2),by dsimp only;omega,h2⟩,?_,KD⟩
    repeat' ((conv=>whnf);first|apply Wx|apply W6|apply oi|(apply fi<;>intro h)|refine⟨_,rfl,?_⟩|exact rfl)
    all_goals try exact⟨KP⟩
    all_goals try exact⟨KW⟩
    all_goals exact⟨by simp[aa]⟩
   ·obtain rfl:j=es.length:=by omega
    rw[List.take_length]at hjv ⊢
    rw[hR]at hjv
    injection hjv with e3 e4
    subst e3;subst e4
    obtain⟨ak0,ak7,ak2⟩:=vl ho.1
    rcases pT ho.1 with h0|h1|h7|h2
    ·have hf:cI p L vals (aB p lim n calls k) t av s1= .ok t.faf s1:=by rw[cI,if_pos h0]
     rw[hf]
     dsimp only[Rr.val,Rr.st,Rr.code]
     repeat' ((conv=>whnf);first|apply Wx|apply W6|apply oi|(apply fi<;>intro h)|refine⟨_,rfl,?_⟩|exact rfl)
     all_goals try exact⟨KP⟩
     all_goals try exact KX
     all_goals try(exfalso;simp_all;done)
     all_goals try exact⟨KW⟩
    ·obtain⟨i,hi⟩:=hkn.var t htm h1
     rw[hL]at hi
     have hix:=fT hi
     have hIx:=cR L t.fab (by omega)
     rw[show dC L t.fab=(i:Int) by rw[dC,hi];rfl]at hIx
     have hvi:vals[i]?=some (atL vals i):=pa (by rw[hvl];omega)
     have hgv:(vals.map aa)[i]?=some (aa (atL vals i)):=by rw[List.getElem?_map,hvi];rfl
     have hil:i < (vals.map aa).length:=by rw[List.length_map,hvl];omega
     have hf:cI p L vals (aB p lim n calls k) t av s1= .ok (atL vals i) s1:=by rw[cI,if_neg (by omega),if_pos h1,xt,hi]
     rw[hf]
     dsimp only[Rr.val,Rr.st,Rr.code]
     repeat' ((conv=>whnf);first|apply Wx|apply W6|apply oi|(apply fi<;>intro h)|refine cl hIx ?_|refine⟨i,rfl,hil,?_⟩|refine⟨_,hgv,?_⟩|refine⟨_,rfl,?_⟩|exact rfl)
     all_goals try exact⟨KP⟩
     all_goals try exact KX
     all_goals try(exfalso;simp_all;done)
     all_goals try exact⟨KW⟩
    ·obtain⟨g,hg1,hg2⟩:=hkn.call t htm h7
     have hFF:=bQ p t.fab (by omega)
     rw[show cy p t.fab=(g:Int) by rw[cy,hg1];rfl]at hFF
     obtain⟨hgl,y,hy,hy0,_⟩:=eK hg1
     have hf:cI p L vals (aB p lim n calls k) t av s1=aB p lim n calls k g av s1:=by rw[cI,if_neg (by omega),if_neg (by omega),if_pos h7,hg1];rfl
     rw[hf]at hnf ⊢
     have hcl:(calls.map aa).length=calls.length:=by simp
     by_cases h6:calls.length=6
     ·have hc6:aB p lim n calls k g av s1= .stop 2 s1:=by rw[aB,if_pos h6]
      rw[hc6]
      dsimp only[Rr.val,Rr.st,Rr.code]
      repeat' ((conv=>whnf);first|apply Wx|apply W6|apply oi|(apply fi<;>intro h)|refine⟨_,rfl,?_⟩|exact rfl)
      all_goals try exact⟨KP⟩
      all_goals try exact KX
      all_goals try(exfalso;simp_all;done)
      all_goals try exact⟨KW⟩
     ·have hc6:aB p lim n calls k g av s1=aC p lim n (calls++[(k:Int)]) g (g+1) (bZ (localsOf p (g:Int)).length av) s1:=by rw[aB,if_neg h6]
      rw[hc6]at hnf ⊢
      have hcalls:=hV1.calls
      have gp:=hP (calls++[(k:Int)]) g av s1 ⟨y,hy,hy0⟩ (by have:=ak7 h7;omega) ⟨hV1.lm,hV1.vis,hV1.out,by rw[List.length_append];simp;omega⟩ hnf
      generalize aC p lim n (calls++[(k:Int)]) g (g+1) (bZ (localsOf p (g:Int)).length av) s1=R at *
      repeat' ((conv=>whnf);first|(with_reducible apply W1;fail_if_success (with_reducible show Wo _ _ _ _ (Code.region 22 _ _) _ _))|(with_reducible first|apply W2|apply W3|apply W4|apply W5|apply W6|apply W7|apply W8|apply W9)|apply bu|apply oi|(apply fi<;>intro h)|refine⟨_,rfl,?_⟩|exact rfl)
      all_goals try exact⟨KP⟩
      all_goals try exact KX
      all_goals try(exfalso;rw[hcl]at h;simp at h;omega)
      all_goals try(exfalso;simp_all;done)
      all_goals try exact⟨⟨by simp <;> omega,by simp <;> omega⟩⟩
      all_goals try exact⟨db _⟩
      conv=>whnf
      refine ji ⟨[(0,.r (.c (.ptr (0,0,0) 0))),(2,tI .i64 ((pos+1+(az es).length:Nat):Int)),(12,.r (.c (.ptr (12,0,0) 0))),(13,.r (.c (.t (.lst 1 (av.map aa)))))],
       [((0,0,0),some (.box [.t (.lst 4 (p.map Ah.tr)),.t (.int .i64 lim),.own (12,0,1),.own (12,0,2),.t (.int .i64 0),.t (.int .i64 0),.own (96,0,0)])),((96,0,0),some (.arr false 1 (calls.map aa++[[.int .i64 (k:Int)]]))),((12,0,1),some (.arr false 1 (s1.out.map aa))),((12,0,2),some (.dar 1 (ae (s1.visits.map aV)) none)),((0,0,4),some (.arr false 1 (vals.map aa))),((12,0,0),some (.box (t.tr.map .t)))],[96,95,31,12,0]⟩ ?_ ?_ rfl ?_
      ·refine⟨.inl rfl,.inl rfl,.inl rfl,.inr ⟨_,_,rfl,rfl,rfl,?_⟩,trivial⟩
       intro q hq;simp only[AC.ids,List.mem_cons,List.not_mem_nil,or_false]at hq;subst hq;rfl
      ·exact⟨.inr rfl,.inr rfl,.inr rfl,.inr rfl,.inr rfl,.inr rfl,trivial⟩
      have ec:(calls++[(k:Int)]).map aa=calls.map aa++[[.int .i64 (k:Int)]]:=by simp[aa]
      simp only[ww,vU]at gp
      rw[ec]at gp
      have htk2:(calls.map aa++[[Tr.int .i64 (k:Int)]]).length=calls.length+1:=by simp
      have hw2:IntKind.i64.wrap (((calls.map aa++[[Tr.int .i64 (k:Int)]]).length:Int) - 1)=(calls.length:Int):=by rw[htk2,IntWalk.i64_in _ (by omega)];omega
      repeat' ((conv=>whnf);first|apply Wx|apply W6|apply oi|(apply fi<;>intro h)|refine cl hFF ?_|refine⟨_,rfl,?_⟩|exact rfl)
      all_goals try exact⟨KP⟩
      have htk3:calls.length≤(calls.map aa++[[Tr.int .i64 (k:Int)]]).length:=by omega
      have htk4:(calls.map aa++[[Tr.int .i64 (k:Int)]]).take calls.length=calls.map aa:=by rw[List.take_append_of_le_length (by simp),List.take_of_length_le (by simp)]
      refine cg (gp) ?_
      repeat' ((conv=>whnf);first|apply Wx|apply W6|apply oi|(apply fi<;>intro h)|refine⟨calls.length,hw2,htk3,?_⟩|refine⟨_,rfl,?_⟩|exact rfl)
      all_goals try exact⟨KP⟩
      all_goals try exact⟨KW⟩
      all_goals try exact⟨htk4⟩
      all_goals exact⟨htk3⟩
    ·have hf2:=ak2 h2.1 h2.2
     obtain⟨x,y,rfl⟩:∃x y,av=[x,y]:=by
      match av,hav with
      | [x,y],_=>exact⟨x,y,rfl⟩
      | [],h=>simp at h;omega
      | [_],h=>simp at h;omega
      | _::_::_::_,h=>simp at h;omega
     have hAp:=rJ t.faa x y
     have hf:cI p L vals (aB p lim n calls k) t [x,y] s1= .ok (ia t.faa x y) s1:=by rw[cI,if_neg (by omega),if_neg (by omega),if_neg (by omega)];rfl
     rw[hf]
     dsimp only[Rr.val,Rr.st,Rr.code]
     repeat' ((conv=>whnf);first|apply Wx|apply W6|apply oi|(apply fi<;>intro h)|refine cl hAp ?_|refine⟨0,rfl,(by simp),?_⟩|refine⟨1,rfl,(by simp),?_⟩|refine⟨_,rfl,?_⟩|exact rfl)
     all_goals try exact⟨KP⟩
     all_goals try exact KX
     all_goals try(exfalso;simp_all;done)
     all_goals try exact⟨KW⟩
def kK (p:List Ah)(k:Nat)(l:List Int):List Int:=
 let l1:=match endAt p k with|some e=>l.set e k|none=>l
 match elseAt p k with|some e=>l1.set e k|none=>l1
def dt (p:List Ah):Nat→List Int
 | 0=>List.replicate p.length 0
 | n+1=>kK p n (dt p n)
theorem kW (p:List Ah):∀n,(dt p n).length=p.length
 | 0=>by simp[dt]
 | n+1=>by
  rw[dt,kK]
  have:=kW p n
  cases endAt p n <;> cases elseAt p n <;> simp[this]
theorem kF {p:List Ah}{i k:Nat}(h:endAt p i=some k∨elseAt p i=some k)(hk:k < p.length):∀n,i < n→(dt p n)[k]?=some (i:Int)
 | 0,hn=>by omega
 | n+1,hn=>by
  have hl:=kW p n
  rw[dt,kK]
  by_cases hin:i=n
  ·subst hin
   rcases h with h|h
   ·rw[h]
    dsimp only
    cases he:elseAt p i with
    | none=>dsimp only;rw[List.getElem?_set_self (by omega)]
    | some m=>
     dsimp only
     by_cases hm:m=k
     ·subst hm;rw[List.getElem?_set_self (by simp;omega)]
     ·rw[List.getElem?_set_ne hm,List.getElem?_set_self (by omega)]
   ·rw[h]
    dsimp only
    rw[List.getElem?_set_self (by cases endAt p i <;> simp <;> omega)]
  ·have ih:=kF h hk n (by omega)
   have own:∀m,(endAt p n=some m∨elseAt p n=some m)→m≠k:=by
    intro m hm e
    subst e
    have h1:aH p m=i:=by rcases h with h|h;exact np h;exact pq h
    have h2:aH p m=n:=by rcases hm with h|h;exact np h;exact pq h
    exact hin (h1.symm.trans h2)
   have key:((match endAt p n with|some e=>(dt p n).set e (n:Int)|none=>dt p n):List Int)[k]?=some (i:Int):=by
    cases he:endAt p n with
    | none=>exact ih
    | some m=>dsimp only;rw[List.getElem?_set_ne (own m (.inl he))];exact ih
   cases he:elseAt p n with
   | none=>exact key
   | some m=>dsimp only;rw[List.getElem?_set_ne (own m (.inr he))];exact key
theorem pt (p:List Ah)(h60:p.length≤60):Sim.Spec Try.prog 32 [tvP p] (rL 1 ((dt p p.length).map aa)):=by
 refine gB hΓ ap Try.func32 rfl (by decide) rfl ?_
 have hpl:(p.map Ah.tr).length=p.length:=by simp
 have hm1:(((p.map Ah.tr).length:Nat):Int)=(p.length:Int):=by rw[hpl]
 have hm2:p.length≤9223372036854775807:=by omega
 have hm3:p.length * 8≤140737488355328:=by omega
 repeat' ((conv=>whnf);first|apply Wx|apply W6|apply oi|(apply fi<;>intro h)|refine⟨p.length,hm1,hm1,hm2,hm3,?_⟩|refine⟨_,rfl,?_⟩|exact rfl)
 all_goals try exact⟨KP⟩
 conv=>whnf
 refine⟨{k:Nat // k≤p.length},fun q=>⟨[(0,vP p),(3,.r (.c (.own (3,0,0)))),(11,tI .i64 ((p.map Ah.tr).length:Int)),(12,tI .i64 (q.1:Int))],[((3,0,0),some (.arr true 1 ((dt p q.1).map aa)))],[3]⟩,fun q=>p.length - q.1,⟨0,by omega⟩,?_,?_⟩
 ·skip
  repeat' ((conv=>whnf);first|apply Wx|apply W6|apply oi|(apply fi<;>intro h)|refine⟨_,rfl,?_⟩|exact rfl)
  all_goals try exact⟨KP⟩
  all_goals exact⟨by simp[dt,aa]⟩
 intro⟨k,hk⟩
 dsimp only at hk ⊢
 by_cases hlt:k < p.length
 ·have gE:=bI p (k:Int) (by omega)
  have gL:=fA p (k:Int) (by omega)
  have hol:=kW p k
  have hml:((dt p k).map aa).length=p.length:=by rw[List.length_map,hol]
  rw[aK]at gE
  rw[dh]at gL
  have hst:dt p (k+1)=kK p k (dt p k):=rfl
  have aU:∀{l:List Int} {e:Nat},e < l.length→∃v,(l.map aa)[e]?=some (aa v):=fun{l e} he=>⟨l[e],by rw[List.getElem?_map,List.getElem?_eq_getElem he];rfl⟩
  have hset:∀(l:List Int) (e:Nat),(l.map aa).set e [.int .i64 (k:Int)]=(l.set e (k:Int)).map aa:=fun l e=>by simp[List.map_set,aa]
  rw[kK]at hst
  cases he:endAt p k with
  | none=>
   rw[he]at gE hst
   cases hl:elseAt p k with
   | none=>
    rw[hl]at gL hst
    dsimp only at hst
    repeat' ((conv=>whnf);first|apply Wx|apply W6|apply oi|(apply fi<;>intro h)|refine cl gE ?_|refine cl gL ?_|refine⟨_,rfl,?_⟩|exact rfl)
    all_goals try exact⟨KP⟩
    all_goals try exact KX
    all_goals try(exfalso;simp[bN]at h;done)
    conv=>whnf
    refine⟨⟨k+1,by omega⟩,?_,KD⟩
    repeat' ((conv=>whnf);first|apply Wx|apply W6|apply oi|(apply fi<;>intro h)|refine⟨_,rfl,?_⟩|exact rfl)
    all_goals try exact⟨KP⟩
    all_goals try exact⟨KW⟩
    all_goals exact⟨by dsimp only;rw[hst]⟩
   | some m=>obtain⟨_,_,_,_,h,_⟩:=aO hl;rw[he]at h;cases h
  | some e=>
   obtain⟨_,_,_,_,_,hel⟩:=aw he
   have hel2:e < ((dt p k).map aa).length:=by omega
   obtain⟨v,hv⟩:=aU (l:=dt p k) (e:=e) (by omega)
   rw[he]at gE hst
   cases hl:elseAt p k with
   | none=>
    rw[hl]at gL hst
    dsimp only at hst
    repeat' ((conv=>whnf);first|apply Wx|apply W6|apply oi|(apply fi<;>intro h)|refine cl gE ?_|refine cl gL ?_|refine⟨e,rfl,hel2,?_⟩|refine⟨_,hv,?_⟩|refine⟨_,rfl,?_⟩|exact rfl)
    all_goals try exact⟨KP⟩
    all_goals try exact KX
    all_goals try(exfalso;simp[bN]at h;done)
    all_goals try(exfalso;rename_i h0;simp[bN]at h0;done)
    conv=>whnf
    refine⟨⟨k+1,by omega⟩,?_,KD⟩
    repeat' ((conv=>whnf);first|apply Wx|apply W6|apply oi|(apply fi<;>intro h)|refine⟨_,rfl,?_⟩|exact rfl)
    all_goals try exact⟨KP⟩
    all_goals try exact⟨KW⟩
    all_goals exact⟨by dsimp only;rw[hst,hset]⟩
   | some m=>
    obtain⟨_,_,_,_,_,_,hmm,z,hz,_⟩:=aO hl
    have hml2:=bm hz
    have hml3:m < (((dt p k).set e (k:Int)).map aa).length:=by simp;omega
    obtain⟨v2,hv2⟩:=aU (l:=(dt p k).set e (k:Int)) (e:=m) (by simp;omega)
    rw[←hset]at hml3 hv2
    rw[hl]at gL hst
    dsimp only at hst
    repeat' ((conv=>whnf);first|apply Wx|apply W6|apply oi|(apply fi<;>intro h)|refine cl gE ?_|refine cl gL ?_|refine⟨e,rfl,hel2,?_⟩|refine⟨_,hv,?_⟩|refine⟨m,rfl,hml3,?_⟩|refine⟨_,hv2,?_⟩|refine⟨_,rfl,?_⟩|exact rfl)
    all_goals try exact⟨KP⟩
    all_goals try exact KX
    all_goals try(exfalso;simp[bN]at h;done)
    all_goals try(exfalso;rename_i h0;simp[bN]at h0;done)
    conv=>whnf
    refine⟨⟨k+1,by omega⟩,?_,KD⟩
    repeat' ((conv=>whnf);first|apply Wx|apply W6|apply oi|(apply fi<;>intro h)|refine⟨_,rfl,?_⟩|exact rfl)
    all_goals try exact⟨KP⟩
    all_goals try exact⟨KW⟩
    all_goals exact⟨by dsimp only;rw[hst,hset,hset]⟩
 ·have hke:k=p.length:=by omega
  subst hke
  repeat' ((conv=>whnf);first|apply Wx|apply W6|apply oi|(apply fi<;>intro h)|refine⟨_,rfl,?_⟩|exact rfl)
  all_goals try exact⟨KP⟩
  all_goals try exact KX
abbrev kS (s:List UInt8):Tr:= .str s
theorem keyS_iff {s:List UInt8}{q:Tr}:bM (kS s) q=true↔q=kS s:=by
 cases q with
 | str a=>
  constructor
  ·intro h
   have:s=a:=eq_of_beq h
   rw[this]
  ·intro h
   injection h with h
   subst h
   exact beq_self_eq_true _
 | _=>
  constructor
  ·intro h;cases h
  ·intro h;cases h
theorem jS (v:Int)(s:List UInt8):∀es:List (Tr×Int),cM (eB es (kS s) v) (kS s)=some v
 | []=>by
  show bT (bM (kS s)) [(kS s,v)]=_
  rw[bT,keyS_iff.2 rfl];rfl
 |(q,x)::es=>by
  have ih:=jS v s es
  show bT (bM (kS s)) (eR (bM (kS s)) (kS s) v ((q,x)::es))=_
  rw[eR]
  cases hb:bM (kS s) q with
  | true=>rw[show(bif true then(q,v)::es else(q,x)::eR (bM (kS s)) (kS s) v es)=(q,v)::es from rfl,bT,hb];rfl
  | false=>rw[show(bif false then(q,v)::es else(q,x)::eR (bM (kS s)) (kS s) v es)=(q,x)::eR (bM (kS s)) (kS s) v es from rfl,bT,hb];exact ih
theorem fh {s s':List UInt8}(h:s≠s')(v:Int):∀es:List (Tr×Int),cM (eB es (kS s) v) (kS s')=cM es (kS s')
 | []=>by
  show bT (bM (kS s')) [(kS s,v)]=bT _ []
  rw[bT,bT]
  cases hb:bM (kS s') (kS s)with
  | true=>exact absurd (by have:=keyS_iff.1 hb;injection this) h
  | false=>rfl
 |(q,x)::es=>by
  have ih:=fh h v es
  show bT (bM (kS s')) (eR (bM (kS s)) (kS s) v ((q,x)::es))=bT (bM (kS s')) ((q,x)::es)
  rw[eR]
  cases hb:bM (kS s) q with
  | true=>
   rw[show(bif true then(q,v)::es else(q,x)::eR (bM (kS s)) (kS s) v es)=(q,v)::es from rfl,bT,bT]
   cases hb2:bM (kS s') q with
   | true=>exact absurd (by have h1:=keyS_iff.1 hb;have h2:=keyS_iff.1 hb2;rw[h1]at h2;injection h2) h
   | false=>rfl
  | false=>
   rw[show(bif false then(q,v)::es else(q,x)::eR (bM (kS s)) (kS s) v es)=(q,x)::eR (bM (kS s)) (kS s) v es from rfl,bT,bT]
   cases bM (kS s') q with
   | true=>rfl
   | false=>exact ih
theorem rA {l:List (List UInt8)}:∀{n i:Nat} {s:List UInt8},cY l n s=some i→n≤i∧l[i - n]?=some s:=by
 induction l with
 | nil=>intro n i s h;rw[cY]at h;cases h
 | cons x l ih=>
  intro n i s h
  rw[cY]at h
  split at h
  ·rename_i hx
   injection h with h
   subst h
   exact⟨Nat.le_refl _,by rw[Nat.sub_self,List.getElem?_cons_zero,eq_of_beq hx]⟩
  ·obtain⟨h1,h2⟩:=ih h
   exact⟨by omega,by rw[show i - n=(i - (n+1))+1 by omega,List.getElem?_cons_succ];exact h2⟩
theorem ud {l:List (List UInt8)}:∀{n i:Nat} {s:List UInt8},cY l n s=some i→∀j,n≤j→j < i→l[j - n]?≠some s:=by
 induction l with
 | nil=>intro n i s h;rw[cY]at h;cases h
 | cons x l ih=>
  intro n i s h j h1 h2
  rw[cY]at h
  split at h
  ·injection h with h;omega
  ·rename_i hx
   rcases Nat.eq_or_lt_of_le h1 with rfl|hlt
   ·rw[Nat.sub_self,List.getElem?_cons_zero]
    intro e
    injection e with e
    exact hx (by rw[e];simp)
   ·rw[show j - n=(j - (n+1))+1 by omega,List.getElem?_cons_succ]
    exact ih h j (by omega) h2
def VarsM (L:List (List UInt8))(vals:List Int)(es:List (Tr×Int)):Prop:=∀(i:Nat) (nm:List UInt8),cY L 0 nm=some i→jp (cM es (kS nm))=atL vals i
theorem yM {l:List Int}{i j:Nat}{v:Int}(hi:i < l.length):atL (l.set i v) j=if j=i then v else atL l j:=by
 unfold atL
 rw[List.getElem?_set]
 by_cases h:i=j
 ·subst h
  rw[if_pos rfl,if_pos hi,if_pos rfl];rfl
 ·rw[if_neg h,if_neg (fun e=>h e.symm)]
theorem VarsM.set {L:List (List UInt8)}{vals:List Int}{es:List (Tr×Int)}(h:VarsM L vals es){nm:List UInt8}{i:Nat}(hi:cY L 0 nm=some i)(hl:i < vals.length)(v:Int):VarsM L (vals.set i v) (eB es (kS nm) v):=by
 intro j nm' hj
 rw[yM hl]
 by_cases e:nm=nm'
 ·subst e
  rw[hi]at hj
  injection hj with hj
  rw[if_pos hj.symm,jS]
  rfl
 ·rw[fh e,h j nm' hj,if_neg]
  intro e2
  subst e2
  have h1:=(rA hi).2
  have h2:=(rA hj).2
  rw[h1]at h2
  injection h2 with h2
  exact e h2
def FillM (A:List (List UInt8))(args:List Int)(k:Nat)(es:List (Tr×Int)):Prop:=(∀i nm,i < k→A[i]?=some nm→jp (cM es (kS nm))=atL args i)∧∀nm,nm∉A.take k→jp (cM es (kS nm))=0
theorem FillM.zero (A:List (List UInt8))(args:List Int):FillM A args 0 []:=⟨fun i nm h=>by omega,fun nm _=>rfl⟩
theorem qq {l:List (List UInt8)}:∀(n k:Nat),lX l n k=true→∀(i j:Nat) (s:List UInt8),i < j→k≤j→j < k+n→l[j]?=some s→l[i]?≠some s
 | 0,k,_,i,j,s,_,h1,h2,_=>by omega
 | n+1,k,h,i,j,s,hij,h1,h2,hj=>by
  rw[lX]at h
  split at h
  ·rename_i t ht
   split at h
   ·rename_i hc
    rcases Nat.eq_or_lt_of_le h1 with rfl|hlt
    ·rw[ht]at hj
     injection hj with hj
     subst hj
     intro hi
     have hm:t∈l.take k:=by
      rw[List.mem_iff_getElem?]
      exact⟨i,by rw[List.getElem?_take,if_pos hij];exact hi⟩
     have:=hc.2
     rw[List.contains_iff_mem.2 hm]at this
     cases this
    ·exact qq n (k+1) h i j s hij (by omega) (by omega) hj
   ·cases h
  ·rename_i ht
   rw[List.getElem?_eq_none_iff]at ht
   have:j < l.length:=by
    rcases Nat.lt_or_ge j l.length with h'|h'
    ·exact h'
    ·rw[List.getElem?_eq_none h']at hj;cases hj
   omega
theorem qU {l:List (List UInt8)}(h:dA l=true){i j:Nat}{s:List UInt8}(hij:i < j)(hj:l[j]?=some s):l[i]?≠some s:=by
 unfold dA at h
 rw[Bool.and_eq_true]at h
 have hl:j < l.length:=by
  rcases Nat.lt_or_ge j l.length with h'|h'
  ·exact h'
  ·rw[List.getElem?_eq_none h']at hj;cases hj
 exact qq l.length 0 h.1 i j s hij (by omega) (by omega) hj
theorem FillM.step {A:List (List UInt8)}{args:List Int}{k:Nat}{es:List (Tr×Int)}(hA:dA A=true)(h:FillM A args k es){nm:List UInt8}(hk:A[k]?=some nm):FillM A args (k+1) (eB es (kS nm) (atL args k)):=by
 obtain⟨h1,h2⟩:=h
 refine⟨fun i nm' hi hn=>?_,fun nm' hn=>?_⟩
 ·by_cases e:i=k
  ·subst e
   rw[hk]at hn
   injection hn with hn
   subst hn
   rw[jS];rfl
  ·rw[fh (fun e2=>by subst e2;exact qU hA (show i < k by omega) hk hn)]
   exact h1 i nm' (by omega) hn
 ·rw[List.take_add_one,hk]at hn
  simp only[Option.toList,List.mem_append,List.mem_singleton,not_or]at hn
  rw[fh (fun e=>hn.2 e.symm)]
  exact h2 nm' hn.1
theorem mQ {l:List Ah}{e:Nat}:∀(n i:Nat) (acc:List (List UInt8)),acc <+:locN l e n i acc
 | 0,_,acc=>by rw[locN];exact List.prefix_refl _
 | n+1,i,acc=>by
  rw[locN]
  split
  ·split
   ·refine List.IsPrefix.trans ?_ (mQ n _ _)
    split
    ·unfold cD
     split
     ·exact List.prefix_refl _
     ·exact List.prefix_append _ _
    ·exact List.prefix_refl _
   ·exact List.prefix_refl _
  ·exact List.prefix_refl _
theorem pD {p:List Ah}{f e:Nat}{y:Ah}(hy:p[f]?=some y)(h0:y.faa=0)(he:endAt p f=some e):y.fac <+:localsOf p (f:Int):=by
 rw[localsOf,if_pos (by omega),Int.toNat_natCast,hy,he]
 dsimp only
 rw[if_pos h0]
 exact mQ _ _ _
theorem FillM.vars {A L:List (List UInt8)}{args:List Int}{es:List (Tr×Int)}(h:FillM A args A.length es)(hp:A <+:L)(hl:args.length=A.length):VarsM L (bZ L.length args) es:=by
 obtain⟨t,rfl⟩:=hp
 intro i nm hi
 have h1:=(rA hi).2
 rw[Nat.sub_zero]at h1
 by_cases hlt:i < A.length
 ·rw[List.getElem?_append_left hlt]at h1
  rw[h.1 i nm hlt h1,bZ]
  unfold atL
  rw[List.getElem?_append_left (by omega)]
 ·rw[h.2 nm]
  ·have hil:i < (A++t).length:=by
    rcases Nat.lt_or_ge i (A++t).length with h'|h'
    ·exact h'
    ·rw[List.getElem?_eq_none h']at h1;cases h1
   rw[bZ]
   unfold atL
   rw[List.getElem?_append_right (by omega),List.getElem?_replicate,if_pos (by omega)]
   rfl
  ·rw[List.take_length]
   intro hm
   obtain⟨j,hj⟩:=List.mem_iff_getElem?.1 hm
   have hjl:j < A.length:=by
    rcases Nat.lt_or_ge j A.length with h'|h'
    ·exact h'
    ·rw[List.getElem?_eq_none h']at hj;cases hj
   exact ud hi j (by omega) (by omega) (by rw[Nat.sub_zero,List.getElem?_append_left hjl];exact hj)
abbrev gQ (c:Int):Value:= .iface 67 (.agg #[.int .i64 c])
abbrev rnB (p:List Ah)(lim:Int)(i1 i2 i3:Sim.Id):AO:= .box [.t (.lst 4 (p.map Ah.tr)),.t (.int .i64 lim),.own i3,.own i1,.own i2,.t (.int .i64 0),.t (.int .i64 0),.t (.lst 1 ((dt p p.length).map aa))]
abbrev rnH (i1 i2 i3:Sim.Id)(p:List Ah)(lim:Int)(calls:List Int)(s:IS):List (Sim.Id×AO):=[((0,0,0),rnB p lim i1 i2 i3),(i1,.arr false 1 (s.out.map aa)),(i2,.dar 1 (ae (s.visits.map aV)) none),(i3,.arr false 1 (calls.map aa))]
theorem qK (p:List Ah)(lim k:Int)(calls:List Int)(s:IS)(h0:(s.visits.length:Int)=lim):pL Try.prog 72 [.r (.c (.ptr (0,0,0) 0)),tI .i64 k] (rnH (0,0,1) (0,0,2) (0,0,3) p lim calls s) (gQ 1) (rnH (0,0,1) (0,0,2) (0,0,3) p lim calls s):=by
 refine dV hΓ ap Try.func72 rfl (by decide) rfl rfl ?_
 have hdl:(ae (s.visits.map aV)).length=s.visits.length:=by rw[aE,List.length_map]
 have hb:decide (lim≤(s.visits.length:Int))=true:=decide_eq_true (by omega)
 repeat' ((conv=>whnf);first|with_reducible refine iM (id:=1) (gQ 1) ?_ ?_|with_reducible apply Wx|with_reducible apply W6|apply oi|(apply fi<;>intro h)|refine⟨_,rfl,?_⟩|exact rfl)
 all_goals try exact⟨KP⟩
 ·exact ik (d1:=15) (d2:=16) rfl rfl rfl rfl rfl (by decide) (by decide) (fun _ _=>by kernel_rfl) (fun _ _=>by kernel_rfl) (fun a w u v h=>by simp only[execOp];rw[h];rfl)
 all_goals(exfalso;rw[hdl,h0]at h;simp at h;done)
theorem qv (p:List Ah)(lim k:Int)(calls:List Int)(s:IS)(hl:lim≤1000)(hc:calls.length≤6)(h0:(s.visits.length:Int) < lim):bG Try.prog 72 [.r (.c (.ptr (0,0,0) 0)),tI .i64 k] (rnH (0,0,1) (0,0,2) (0,0,3) p lim calls s) (.tup []) (rnH (0,0,1) (1,0,2) (0,0,3) p lim calls ⟨s.out,s.visits++[calls++[k]]⟩):=by
 refine aT hΓ ap Try.func72 rfl (by decide) rfl rfl ?_
 have hdl:(ae (s.visits.map aV)).length=s.visits.length:=by rw[aE,List.length_map]
 have hf:flat ([]++calls.map aa++[[Tr.int .i64 k]]):=by
  have:=db (calls++[k])
  simpa [aa]using this
 repeat' ((conv=>whnf);first|with_reducible refine iM (id:=1) (gQ 1) ?_ ?_|with_reducible apply Wx|with_reducible apply W6|apply oi|(apply fi<;>intro h)|refine⟨_,rfl,?_⟩|exact rfl)
 all_goals try exact⟨KP⟩
 all_goals try(exfalso;rw[hdl]at h;simp at h;omega)
 all_goals try exact⟨⟨by simp[aE] <;> omega,by simp[aE] <;> omega⟩⟩
 all_goals try exact⟨hf⟩
 all_goals try exact⟨by simp[ae,aV,aa]⟩
 all_goals exact ik (d1:=15) (d2:=16) rfl rfl rfl rfl rfl (by decide) (by decide) (fun _ _=>by kernel_rfl) (fun _ _=>by kernel_rfl) (fun a w u v h=>by simp only[execOp];rw[h];rfl)
abbrev rnP (i1 i2:Sim.Id)(p:List Ah)(lim:Int)(s:IS):List (Sim.Id×AO):=[((0,0,0),.box [.t (.lst 4 (p.map Ah.tr)),.t (.int .i64 lim),.opq,.own i1,.own i2,.t (.int .i64 0),.t (.int .i64 0),.t (.lst 1 ((dt p p.length).map aa))]),(i1,.arr false 1 (s.out.map aa)),(i2,.dar 1 (ae (s.visits.map aV)) none)]
def kG (f:FuncId)(xs:List AV)(h0:List (Sim.Id×AO))(H1 HP:IS→List (Sim.Id×AO))(R:Rr Int):Prop:=match R with
 | .ok v s=>bG Try.prog f xs h0 (tI .i64 v) (H1 s)
 | .stop c s=>pL Try.prog f xs h0 (gQ c) (HP s)
 | .fuel=>True
def zf (p:List Ah)(lim:Int)(n:Nat):Prop:=∀(calls:List Int) (f:Nat) (args:List Int) (s:IS),(∃y,p[f]?=some y∧y.faa=0)→args.length=argsN p f→InV lim calls s→
 aC p lim n calls f (f+1) (bZ (localsOf p (f:Int)).length args) s≠.fuel→
 kG 34 [.r (.c (.ptr (0,0,0) 0)),tI .i64 (f:Int),.r (.c (.t (.lst 1 (args.map aa))))] (rnH (0,0,1) (0,0,2) (0,0,3) p lim calls s) (rnH (1,0,1) (1,0,2) (1,0,3) p lim calls) (rnP (1,0,1) (1,0,2) p lim) (aC p lim n calls f (f+1) (bZ (localsOf p (f:Int)).length args) s)
abbrev yT (es:List (Tr×Int)):List (Sim.Id×AO):=[((0,0,4),.mp none es)]
def yQ (p:List Ah)(lim:Int)(n:Nat)(e:Ex):Prop:=∀(calls:List Int) (f en k pos:Nat) (ln:Ah) (vals:List Int) (es:List (Tr×Int)) (s:IS),e.ok→InF p f en k→p[k]?=some ln→gy ln.fad pos e→Known p (localsOf p (f:Int)) ln.fad→vals.length=(localsOf p (f:Int)).length→VarsM (localsOf p (f:Int)) vals es→InV lim calls s→
 cG p lim n calls f k vals e s≠.fuel→
 kG 73 [.r (.c (.ptr (0,0,0) 0)),tI .i64 (k:Int),.r (.c (.mpv (0,0,4))),.r (.c (.t (.lst 3 (ln.fad.map Aq.tr)))),tI .i64 (pos:Int)] (rnH (0,0,1) (0,0,2) (0,0,3) p lim calls s++yT es) (fun s'=>rnH (1,0,1) (1,0,2) (1,0,3) p lim calls s'++yT es) (fun s'=>rnP (1,0,1) (1,0,2) p lim s'++yT es) (cG p lim n calls f k vals e s)
def zn (rvs:List ResultVar)(H1 HP:IS→List (Sim.Id×AO))(R:Rr Int):Out→St→Prop:=match R with
 | .ok v s=>xk Γ rvs (tI .i64 v) (H1 s)
 | .stop c s=>yo (gQ c) (HP s)
 | .fuel=>fun _ _=>True
theorem tX {f:FuncId}{fn:Func}{c:Code}{xs:List AV}{h0:List (Sim.Id×AO)}{H1 HP:IS→List (Sim.Id×AO)}{R:Rr Int}(hf:Try.prog.funcs[f]?=some fn)(hb:fn.body=some c)(hn:(fn.name== "runtime.NumGoroutine")=false)
  (hN:Nat.ble xs.length fn.ntmps=true) (hnames:cU xs h0 .unk []=true) (h:Wo false Try.prog Γ fn.ntmps c (zn fn.results.toList H1 HP R) (stG xs h0)):kG f xs h0 H1 HP R:=by
 cases R with
 | ok v s=>exact aT hΓ ap hf hb hn hN hnames h
 | stop c s=>exact dV hΓ ap hf hb hn hN hnames h
 | fuel=>trivial
theorem ux {p:List Ah}(hp:PgOk p){lim:Int}{n:Nat}(hP:zf p lim n):∀(m:Nat) (e:Ex),e.toks.length≤m→yQ p lim n e
 | 0,e,hn=>by have:=e.toks_pos;omega
 | m+1,.node t es,hn=>by
  intro calls f en k pos ln vals ms s ho hI hk hs hkn hvl hvm hV hnf
  obtain⟨hsh,hnm⟩:=mz hp hk
  have hle:=jd hs
  obtain⟨ht,hsa⟩:=jH hs
  have htm:=List.mem_of_getElem? ht
  obtain⟨e1,e2⟩:=qm ho.1
  have hel:es.length=ar t:=ho.2.1
  have h60:=hp.len
  have h20:=(hp.line _ _ hk).2.2.2.1
  have hkl:=bm hk
  have hO:=mU ln.fad pos t es (by omega) hsh ho hs
  have hpl:((cW (pos+1) es).map nR).length=es.length:=by rw[List.length_map,sK]
  rw[Ex.toks,List.length_cons]at hn hle
  have hlp:=hV.lm
  have hIH:∀(j:Nat) (a:Ex),es[j]?=some a→yQ p lim n a:=fun j a ha=>ux hp hP m a (by have:=jU ha;omega)
  have hL8:(localsOf p (f:Int)).length≤8:=by obtain⟨y,hy,h0⟩:=hI.fn;obtain⟨_,_,h8,_⟩:=hp.fn f y hy h0;exact h8
  obtain⟨L,hL⟩:∃L,localsOf p (f:Int)=L:=⟨_,rfl⟩
  rw[hL]at hL8 hvl hvm
  have hev:cG p lim n calls f k vals (.node t es) s=(aJ p L vals (aB p lim n calls k) es s).bnd fun av s'=>cI p L vals (aB p lim n calls k) t av s':=by
   show evE _ _ _ _ _ _=_
   rw[evE,hL]
  have hxt:∀j,ExtR lim s (aJ p L vals (aB p lim n calls k) (es.take j) s):=fun j=>fM (dc n calls k) _ s
  rw[hev]at hnf ⊢
  have hz:aJ p L vals (aB p lim n calls k) (es.take 0) s= .ok [] s:=by rw[List.take_zero,aJ]
  cases hR:aJ p L vals (aB p lim n calls k) es s with
  | fuel=>rw[hR]at hnf;exact absurd rfl hnf
  | stop c s1=>
   obtain⟨j0,a0,as0,s0,q1,q2,q3⟩:=oP hR
   have hj0:=bm q1
   have hx0:=hxt j0
   rw[q2]at hx0
   have hq3:cG p lim n calls f k vals a0 s0= .stop c s1:=by show evE _ _ _ _ _ _=_;rw[hL];exact q3
   obtain⟨qp0,hqp0,hqs0⟩:=gJ hsa q1
   have g0:=hIH j0 a0 q1 calls f en k qp0 ln vals ms s0 (ck ho.2.2 q1) hI hk hqs0 hkn (by rw[hL];exact hvl) (by rw[hL];exact hvm) (hV.ext hx0) (by rw[hq3];exact fun e=>by cases e)
   rw[hq3]at g0
   rw[Rr.bnd_stop]
   refine dV hΓ ap Try.func73 rfl (by decide) rfl rfl ?_
   repeat' ((conv=>whnf);first|apply Wx|apply W6|apply oi|(apply fi<;>intro h)|refine cl hO ?_|refine⟨pos,t.tr,rfl,ab ht,?_⟩|refine⟨_,rfl,?_⟩|exact rfl)
   all_goals try exact⟨KP⟩
   conv=>whnf
   refine⟨{q:Nat×List Int×IS // q.1≤j0∧aJ p L vals (aB p lim n calls k) (es.take q.1) s= .ok q.2.1 q.2.2},fun q=>⟨[(0,.r (.c (.ptr (0,0,0) 0))),(1,tI .i64 (k:Int)),(2,.r (.c (.mpv (0,0,4)))),(3,.r (.c (.t (.lst 3 (ln.fad.map Aq.tr))))),(11,.r (.c (.ptr (11,0,0) 0))),(12,.r (.c (.own (20,0,0)))),(23,.r (.c (.own (23,0,0)))),(24,tI .i64 (((cW (pos+1) es).map nR).length:Int)),(25,tI .i64 (q.1.1:Int))],
    [((0,0,0),some (rnB p lim (20,0,1) (20,0,2) (20,0,3))),((20,0,1),some (.arr false 1 (q.1.2.2.out.map aa))),((20,0,2),some (.dar 1 (ae (q.1.2.2.visits.map aV)) none)),((20,0,3),some (.arr false 1 (calls.map aa))),((0,0,4),some (.mp none ms)),((11,0,0),some (.box (t.tr.map .t))),((20,0,0),some (.arr true 1 (q.1.2.1.map aa))),((23,0,0),some (.arr true 1 ((cW (pos+1) es).map nR)))],[23,20,11,0]⟩,fun q=>es.length - q.1.1,⟨(0,[],s),Nat.zero_le _,hz⟩,?_,?_⟩
   ·skip
    repeat' ((conv=>whnf);first|apply Wx|apply W6|apply oi|(apply fi<;>intro h)|refine⟨_,rfl,?_⟩|exact rfl)
    all_goals try exact⟨KP⟩
   intro⟨⟨j,aj,sj⟩,hj,hjv⟩
   dsimp only at hj hjv ⊢
   obtain⟨a,ha⟩:=ak (l:=es) (k:=j) (by omega)
   obtain⟨qp,hqp,hqs⟩:=gJ hsa ha
   have hjl:j < ((cW (pos+1) es).map nR).length:=by omega
   by_cases hlj:j < j0
   ·obtain⟨a2,s2,h2⟩:=dK q2 (j+1)
    rw[List.take_take,Nat.min_eq_left (by omega)]at h2
    obtain⟨v,hv,rfl⟩:=dM hjv ha h2
    have hxj:=hxt j
    rw[hjv]at hxj
    have hva:cG p lim n calls f k vals a sj= .ok v s2:=by show evE _ _ _ _ _ _=_;rw[hL];exact hv
    have g:=hIH j a ha calls f en k qp ln vals ms sj (ck ho.2.2 ha) hI hk hqs hkn (by rw[hL];exact hvl) (by rw[hL];exact hvm) (hV.ext hxj) (by rw[hva];exact fun e=>by cases e)
    have hal:=cL hjv
    rw[List.length_take]at hal
    rw[hva]at g
    simp only[kG]at g
    repeat' ((conv=>whnf);first|apply Wx|apply W6|apply oi|(apply fi<;>intro h)|refine⟨j,rfl,hjl,?_⟩|refine⟨(nR qp),(ab hqp),?_⟩|refine⟨_,rfl,?_⟩|exact rfl)
    all_goals try exact⟨KP⟩
    all_goals try exact KX
    refine cg (g) ?_
    repeat' ((conv=>whnf);first|apply Wx|apply W6|apply oi|(apply fi<;>intro h)|refine⟨_,rfl,?_⟩|exact rfl)
    all_goals try exact⟨KP⟩
    all_goals try exact⟨⟨by simp <;> omega,by simp <;> omega⟩⟩
    conv=>whnf
    refine⟨⟨(j+1,aj++[v],s2),by dsimp only;omega,h2⟩,?_,KD⟩
    repeat' ((conv=>whnf);first|apply Wx|apply W6|apply oi|(apply fi<;>intro h)|refine⟨_,rfl,?_⟩|exact rfl)
    all_goals try exact⟨KP⟩
    all_goals try exact⟨KW⟩
    all_goals exact⟨by simp[aa]⟩
   ·obtain rfl:j=j0:=by omega
    rw[hjv]at q2
    injection q2 with q2 q4
    subst q2;subst q4
    rw[hqp]at hqp0
    injection hqp0 with hqp0
    subst hqp0
    repeat' ((conv=>whnf);first|with_reducible refine nu (id:=6) 6 ?_|with_reducible apply Wx|with_reducible apply W6|refine cp g0 ?_|apply oi|(apply fi<;>intro h)|refine⟨j,rfl,hjl,?_⟩|refine⟨(nR qp),(ab hqp),?_⟩|refine⟨_,rfl,?_⟩|exact rfl)
    all_goals try exact⟨KP⟩
    all_goals try exact KX
  | ok av s1=>
   rw[hR,Rr.bnd_ok]at hnf
   rw[Rr.bnd_ok]
   have hxR:=hxt es.length
   rw[List.take_length,hR]at hxR
   have hV1:=hV.ext hxR
   have hav:=cL hR
   obtain⟨ak0,ak7,ak2⟩:=vl ho.1
   rcases pT ho.1 with h0|h1|h7|h2
   ·skip
    have hf:cI p L vals (aB p lim n calls k) t av s1= .ok t.faf s1:=by rw[cI,if_pos h0]
    rw[hf]
    simp only[kG]
    refine aT hΓ ap Try.func73 rfl (by decide) rfl rfl ?_
    repeat' ((conv=>whnf);first|apply Wx|apply W6|apply oi|(apply fi<;>intro h)|refine cl hO ?_|refine⟨pos,t.tr,rfl,ab ht,?_⟩|refine⟨_,rfl,?_⟩|exact rfl)
    all_goals try exact⟨KP⟩
    conv=>whnf
    refine⟨{q:Nat×List Int×IS // q.1≤es.length∧aJ p L vals (aB p lim n calls k) (es.take q.1) s= .ok q.2.1 q.2.2},fun q=>⟨[(0,.r (.c (.ptr (0,0,0) 0))),(1,tI .i64 (k:Int)),(2,.r (.c (.mpv (0,0,4)))),(3,.r (.c (.t (.lst 3 (ln.fad.map Aq.tr))))),(11,.r (.c (.ptr (11,0,0) 0))),(12,.r (.c (.own (20,0,0)))),(23,.r (.c (.own (23,0,0)))),(24,tI .i64 (((cW (pos+1) es).map nR).length:Int)),(25,tI .i64 (q.1.1:Int))],
     [((0,0,0),some (rnB p lim (20,0,1) (20,0,2) (20,0,3))),((20,0,1),some (.arr false 1 (q.1.2.2.out.map aa))),((20,0,2),some (.dar 1 (ae (q.1.2.2.visits.map aV)) none)),((20,0,3),some (.arr false 1 (calls.map aa))),((0,0,4),some (.mp none ms)),((11,0,0),some (.box (t.tr.map .t))),((20,0,0),some (.arr true 1 (q.1.2.1.map aa))),((23,0,0),some (.arr true 1 ((cW (pos+1) es).map nR)))],[23,20,11,0]⟩,fun q=>es.length - q.1.1,⟨(0,[],s),Nat.zero_le _,hz⟩,?_,?_⟩
    ·skip
     repeat' ((conv=>whnf);first|apply Wx|apply W6|apply oi|(apply fi<;>intro h)|refine⟨_,rfl,?_⟩|exact rfl)
     all_goals try exact⟨KP⟩
    intro⟨⟨j,aj,sj⟩,hj,hjv⟩
    dsimp only at hj hjv ⊢
    by_cases hlj:j < es.length
    ·exfalso;omega
    ·obtain rfl:j=es.length:=by omega
     rw[List.take_length,hR]at hjv
     injection hjv with e3 e4
     subst e3;subst e4
     repeat' ((conv=>whnf);first|apply Wx|apply W6|apply oi|(apply fi<;>intro h)|refine⟨_,rfl,?_⟩|exact rfl)
     all_goals try exact⟨KP⟩
     all_goals try exact KX
     all_goals try(exfalso;simp_all;done)
     all_goals try exact⟨KW⟩
   ·skip
    obtain⟨i,hi⟩:=hkn.var t htm h1
    rw[hL]at hi
    have hix:=fT hi
    have hvi:=hvm i t.fab hi
    have hf:cI p L vals (aB p lim n calls k) t av s1= .ok (atL vals i) s1:=by rw[cI,if_neg (by omega),if_pos h1,xt,hi]
    rw[hf]
    simp only[kG]
    refine aT hΓ ap Try.func73 rfl (by decide) rfl rfl ?_
    repeat' ((conv=>whnf);first|apply Wx|apply W6|apply oi|(apply fi<;>intro h)|refine cl hO ?_|refine⟨pos,t.tr,rfl,ab ht,?_⟩|refine⟨_,rfl,?_⟩|exact rfl)
    all_goals try exact⟨KP⟩
    conv=>whnf
    refine⟨{q:Nat×List Int×IS // q.1≤es.length∧aJ p L vals (aB p lim n calls k) (es.take q.1) s= .ok q.2.1 q.2.2},fun q=>⟨[(0,.r (.c (.ptr (0,0,0) 0))),(1,tI .i64 (k:Int)),(2,.r (.c (.mpv (0,0,4)))),(3,.r (.c (.t (.lst 3 (ln.fad.map Aq.tr))))),(11,.r (.c (.ptr (11,0,0) 0))),(12,.r (.c (.own (20,0,0)))),(23,.r (.c (.own (23,0,0)))),(24,tI .i64 (((cW (pos+1) es).map nR).length:Int)),(25,tI .i64 (q.1.1:Int))],
     [((0,0,0),some (rnB p lim (20,0,1) (20,0,2) (20,0,3))),((20,0,1),some (.arr false 1 (q.1.2.2.out.map aa))),((20,0,2),some (.dar 1 (ae (q.1.2.2.visits.map aV)) none)),((20,0,3),some (.arr false 1 (calls.map aa))),((0,0,4),some (.mp none ms)),((11,0,0),some (.box (t.tr.map .t))),((20,0,0),some (.arr true 1 (q.1.2.1.map aa))),((23,0,0),some (.arr true 1 ((cW (pos+1) es).map nR)))],[23,20,11,0]⟩,fun q=>es.length - q.1.1,⟨(0,[],s),Nat.zero_le _,hz⟩,?_,?_⟩
    ·skip
     repeat' ((conv=>whnf);first|apply Wx|apply W6|apply oi|(apply fi<;>intro h)|refine⟨_,rfl,?_⟩|exact rfl)
     all_goals try exact⟨KP⟩
    intro⟨⟨j,aj,sj⟩,hj,hjv⟩
    dsimp only at hj hjv ⊢
    by_cases hlj:j < es.length
    ·exfalso;omega
    ·obtain rfl:j=es.length:=by omega
     rw[List.take_length,hR]at hjv
     injection hjv with e3 e4
     subst e3;subst e4
     repeat' ((conv=>whnf);first|apply Wx|apply W6|apply oi|(apply fi<;>intro h)|refine⟨_,rfl,?_⟩|exact rfl)
     all_goals try exact⟨KP⟩
     all_goals try exact KX
     all_goals try(exfalso;simp_all;done)
     all_goals try exact⟨congrArg (Tr.int _) hvi⟩
     all_goals try exact⟨KW⟩
   ·skip
    obtain⟨g,hg1,hg2⟩:=hkn.call t htm h7
    have hFF:=cJ p t.fab (by omega)
    rw[show cy p t.fab=(g:Int) by rw[cy,hg1];rfl]at hFF
    obtain⟨hgl,y,hy,hy0,_⟩:=eK hg1
    have hf:cI p L vals (aB p lim n calls k) t av s1=aB p lim n calls k g av s1:=by rw[cI,if_neg (by omega),if_neg (by omega),if_pos h7,hg1];rfl
    rw[hf]at hnf ⊢
    have hcl:(calls.map aa).length=calls.length:=by simp
    by_cases h6:calls.length=6
    ·skip
     have hc6:aB p lim n calls k g av s1= .stop 2 s1:=by rw[aB,if_pos h6]
     rw[hc6]
     refine dV hΓ ap Try.func73 rfl (by decide) rfl rfl ?_
     repeat' ((conv=>whnf);first|apply Wx|apply W6|apply oi|(apply fi<;>intro h)|refine cl hO ?_|refine⟨pos,t.tr,rfl,ab ht,?_⟩|refine⟨_,rfl,?_⟩|exact rfl)
     all_goals try exact⟨KP⟩
     conv=>whnf
     refine⟨{q:Nat×List Int×IS // q.1≤es.length∧aJ p L vals (aB p lim n calls k) (es.take q.1) s= .ok q.2.1 q.2.2},fun q=>⟨[(0,.r (.c (.ptr (0,0,0) 0))),(1,tI .i64 (k:Int)),(2,.r (.c (.mpv (0,0,4)))),(3,.r (.c (.t (.lst 3 (ln.fad.map Aq.tr))))),(11,.r (.c (.ptr (11,0,0) 0))),(12,.r (.c (.own (20,0,0)))),(23,.r (.c (.own (23,0,0)))),(24,tI .i64 (((cW (pos+1) es).map nR).length:Int)),(25,tI .i64 (q.1.1:Int))],
      [((0,0,0),some (rnB p lim (20,0,1) (20,0,2) (20,0,3))),((20,0,1),some (.arr false 1 (q.1.2.2.out.map aa))),((20,0,2),some (.dar 1 (ae (q.1.2.2.visits.map aV)) none)),((20,0,3),some (.arr false 1 (calls.map aa))),((0,0,4),some (.mp none ms)),((11,0,0),some (.box (t.tr.map .t))),((20,0,0),some (.arr true 1 (q.1.2.1.map aa))),((23,0,0),some (.arr true 1 ((cW (pos+1) es).map nR)))],[23,20,11,0]⟩,fun q=>es.length - q.1.1,⟨(0,[],s),Nat.zero_le _,hz⟩,?_,?_⟩
     ·skip
      repeat' ((conv=>whnf);first|apply Wx|apply W6|apply oi|(apply fi<;>intro h)|refine⟨_,rfl,?_⟩|exact rfl)
      all_goals try exact⟨KP⟩
     intro⟨⟨j,aj,sj⟩,hj,hjv⟩
     dsimp only at hj hjv ⊢
     by_cases hlj:j < es.length
     ·obtain⟨a,ha⟩:=ak hlj
      obtain⟨qp,hqp,hqs⟩:=gJ hsa ha
      have hjl:j < ((cW (pos+1) es).map nR).length:=by omega
      obtain⟨a2,s2,h2⟩:=dK hR (j+1)
      obtain⟨v,hv,rfl⟩:=dM hjv ha h2
      have hxj:=hxt j
      rw[hjv]at hxj
      have hva:cG p lim n calls f k vals a sj= .ok v s2:=by show evE _ _ _ _ _ _=_;rw[hL];exact hv
      have g:=hIH j a ha calls f en k qp ln vals ms sj (ck ho.2.2 ha) hI hk hqs hkn (by rw[hL];exact hvl) (by rw[hL];exact hvm) (hV.ext hxj) (by rw[hva];exact fun e=>by cases e)
      have hal:=cL hjv
      rw[List.length_take]at hal
      rw[hva]at g
      simp only[kG]at g
      repeat' ((conv=>whnf);first|apply Wx|apply W6|apply oi|(apply fi<;>intro h)|refine⟨j,rfl,hjl,?_⟩|refine⟨(nR qp),(ab hqp),?_⟩|refine⟨_,rfl,?_⟩|exact rfl)
      all_goals try exact⟨KP⟩
      all_goals try exact KX
      refine cg (g) ?_
      repeat' ((conv=>whnf);first|apply Wx|apply W6|apply oi|(apply fi<;>intro h)|refine⟨_,rfl,?_⟩|exact rfl)
      all_goals try exact⟨KP⟩
      all_goals try exact⟨⟨by simp <;> omega,by simp <;> omega⟩⟩
      conv=>whnf
      refine⟨⟨(j+1,aj++[v],s2),by dsimp only;omega,h2⟩,?_,KD⟩
      repeat' ((conv=>whnf);first|apply Wx|apply W6|apply oi|(apply fi<;>intro h)|refine⟨_,rfl,?_⟩|exact rfl)
      all_goals try exact⟨KP⟩
      all_goals try exact⟨KW⟩
      all_goals exact⟨by simp[aa]⟩
     ·obtain rfl:j=es.length:=by omega
      rw[List.take_length,hR]at hjv
      injection hjv with e3 e4
      subst e3;subst e4
      repeat' ((conv=>whnf);first|with_reducible refine iM (id:=15) (gQ 2) ?_ ?_|with_reducible apply Wx|with_reducible apply W6|apply oi|(apply fi<;>intro h)|refine⟨_,rfl,?_⟩|exact rfl)
      all_goals try exact⟨KP⟩
      all_goals try exact KX
      all_goals try(exfalso;rw[hcl]at h;simp at h;omega)
      all_goals try(exfalso;simp_all;done)
      all_goals try exact ik (d1:=59) (d2:=60) rfl rfl rfl rfl rfl (by decide) (by decide) (fun _ _=>by kernel_rfl) (fun _ _=>by kernel_rfl) (fun a w u v h=>by simp only[execOp];rw[h];rfl)
    ·have hc6:aB p lim n calls k g av s1=aC p lim n (calls++[(k:Int)]) g (g+1) (bZ (localsOf p (g:Int)).length av) s1:=by rw[aB,if_neg h6]
     rw[hc6]at hnf ⊢
     have hcalls:=hV1.calls
     have gp:=hP (calls++[(k:Int)]) g av s1 ⟨y,hy,hy0⟩ (by have:=ak7 h7;omega) ⟨hV1.lm,hV1.vis,hV1.out,by rw[List.length_append];simp;omega⟩ hnf
     have ec:(calls++[(k:Int)]).map aa=calls.map aa++[[.int .i64 (k:Int)]]:=by simp[aa]
     generalize aC p lim n (calls++[(k:Int)]) g (g+1) (bZ (localsOf p (g:Int)).length av) s1=R at *
     match R,hnf,gp with
     | .fuel,hnf,_=>exact absurd rfl hnf
     | .stop c s2,_,gp=>
      simp only[rnH]at gp
      rw[ec]at gp
      refine dV hΓ ap Try.func73 rfl (by decide) rfl rfl ?_
      repeat' ((conv=>whnf);first|apply Wx|apply W6|apply oi|(apply fi<;>intro h)|refine cl hO ?_|refine⟨pos,t.tr,rfl,ab ht,?_⟩|refine⟨_,rfl,?_⟩|exact rfl)
      all_goals try exact⟨KP⟩
      conv=>whnf
      refine⟨{q:Nat×List Int×IS // q.1≤es.length∧aJ p L vals (aB p lim n calls k) (es.take q.1) s= .ok q.2.1 q.2.2},fun q=>⟨[(0,.r (.c (.ptr (0,0,0) 0))),(1,tI .i64 (k:Int)),(2,.r (.c (.mpv (0,0,4)))),(3,.r (.c (.t (.lst 3 (ln.fad.map Aq.tr))))),(11,.r (.c (.ptr (11,0,0) 0))),(12,.r (.c (.own (20,0,0)))),(23,.r (.c (.own (23,0,0)))),(24,tI .i64 (((cW (pos+1) es).map nR).length:Int)),(25,tI .i64 (q.1.1:Int))],
       [((0,0,0),some (rnB p lim (20,0,1) (20,0,2) (20,0,3))),((20,0,1),some (.arr false 1 (q.1.2.2.out.map aa))),((20,0,2),some (.dar 1 (ae (q.1.2.2.visits.map aV)) none)),((20,0,3),some (.arr false 1 (calls.map aa))),((0,0,4),some (.mp none ms)),((11,0,0),some (.box (t.tr.map .t))),((20,0,0),some (.arr true 1 (q.1.2.1.map aa))),((23,0,0),some (.arr true 1 ((cW (pos+1) es).map nR)))],[23,20,11,0]⟩,fun q=>es.length - q.1.1,⟨(0,[],s),Nat.zero_le _,hz⟩,?_,?_⟩
      ·skip
       repeat' ((conv=>whnf);first|apply Wx|apply W6|apply oi|(apply fi<;>intro h)|refine⟨_,rfl,?_⟩|exact rfl)
       all_goals try exact⟨KP⟩
      intro⟨⟨j,aj,sj⟩,hj,hjv⟩
      dsimp only at hj hjv ⊢
      by_cases hlj:j < es.length
      ·obtain⟨a,ha⟩:=ak hlj
       obtain⟨qp,hqp,hqs⟩:=gJ hsa ha
       have hjl:j < ((cW (pos+1) es).map nR).length:=by omega
       obtain⟨a2,s2,h2⟩:=dK hR (j+1)
       obtain⟨v,hv,rfl⟩:=dM hjv ha h2
       have hxj:=hxt j
       rw[hjv]at hxj
       have hva:cG p lim n calls f k vals a sj= .ok v s2:=by show evE _ _ _ _ _ _=_;rw[hL];exact hv
       have g:=hIH j a ha calls f en k qp ln vals ms sj (ck ho.2.2 ha) hI hk hqs hkn (by rw[hL];exact hvl) (by rw[hL];exact hvm) (hV.ext hxj) (by rw[hva];exact fun e=>by cases e)
       have hal:=cL hjv
       rw[List.length_take]at hal
       rw[hva]at g
       simp only[kG]at g
       repeat' ((conv=>whnf);first|apply Wx|apply W6|apply oi|(apply fi<;>intro h)|refine⟨j,rfl,hjl,?_⟩|refine⟨(nR qp),(ab hqp),?_⟩|refine⟨_,rfl,?_⟩|exact rfl)
       all_goals try exact⟨KP⟩
       all_goals try exact KX
       refine cg (g) ?_
       repeat' ((conv=>whnf);first|apply Wx|apply W6|apply oi|(apply fi<;>intro h)|refine⟨_,rfl,?_⟩|exact rfl)
       all_goals try exact⟨KP⟩
       all_goals try exact⟨⟨by simp <;> omega,by simp <;> omega⟩⟩
       conv=>whnf
       refine⟨⟨(j+1,aj++[v],s2),by dsimp only;omega,h2⟩,?_,KD⟩
       repeat' ((conv=>whnf);first|apply Wx|apply W6|apply oi|(apply fi<;>intro h)|refine⟨_,rfl,?_⟩|exact rfl)
       all_goals try exact⟨KP⟩
       all_goals try exact⟨KW⟩
       all_goals exact⟨by simp[aa]⟩
      ·obtain rfl:j=es.length:=by omega
       rw[List.take_length,hR]at hjv
       injection hjv with e3 e4
       subst e3;subst e4
       repeat' ((conv=>whnf);first|with_reducible refine iM (id:=15) (gQ 2) ?_ ?_|(with_reducible apply W1;fail_if_success (with_reducible show Wo _ _ _ _ (Code.region 17 _ _) _ _))|(with_reducible first|apply W2|apply W3|apply W4|apply W5|apply W6|apply W7|apply W8|apply W9)|apply bu|apply oi|(apply fi<;>intro h)|refine⟨_,rfl,?_⟩|exact rfl)
       all_goals try exact⟨KP⟩
       all_goals try exact KX
       all_goals try(exfalso;rw[hcl]at h;simp at h;omega)
       all_goals try(exfalso;simp_all;done)
       all_goals try exact⟨⟨by simp <;> omega,by simp <;> omega⟩⟩
       all_goals try exact⟨db _⟩
       all_goals try exact ik (d1:=59) (d2:=60) rfl rfl rfl rfl rfl (by decide) (by decide) (fun _ _=>by kernel_rfl) (fun _ _=>by kernel_rfl) (fun a w u v h=>by simp only[execOp];rw[h];rfl)
       conv=>whnf
       refine ji ⟨[(0,.r (.c (.ptr (0,0,0) 0))),(11,.r (.c (.ptr (11,0,0) 0))),(12,.r (.c (.t (.lst 1 (av.map aa)))))],
        [((0,0,0),some (rnB p lim (20,0,1) (20,0,2) (68,0,0))),((68,0,0),some (.arr false 1 (calls.map aa++[[.int .i64 (k:Int)]]))),((20,0,1),some (.arr false 1 (s1.out.map aa))),((20,0,2),some (.dar 1 (ae (s1.visits.map aV)) none)),((0,0,4),some (.mp none ms)),((11,0,0),some (.box (t.tr.map .t)))],_⟩ ?_ ?_ rfl ?_
       ·refine⟨.inl rfl,.inl rfl,.inr ⟨_,_,rfl,rfl,rfl,?_⟩,trivial⟩
        intro q hq;simp only[AC.ids,List.mem_cons,List.not_mem_nil,or_false]at hq;subst hq;rfl
       ·exact⟨.inr rfl,.inr rfl,.inr rfl,.inr rfl,.inr rfl,.inr rfl,trivial⟩
       repeat' ((conv=>whnf);first|with_reducible refine wE (id:=17) 9 ?_ ?_|((with_reducible show vd _ _=true);kernel_rfl)|with_reducible apply Wx|with_reducible apply W6|refine cp gp ?_|apply oi|(apply fi<;>intro h)|refine cl hFF ?_|refine⟨_,rfl,?_⟩|exact rfl)
       all_goals try exact⟨KP⟩
     | .ok v s2,_,gp=>
      simp only[kG]at gp ⊢
      simp only[rnH]at gp
      rw[ec]at gp
      refine aT hΓ ap Try.func73 rfl (by decide) rfl rfl ?_
      repeat' ((conv=>whnf);first|apply Wx|apply W6|apply oi|(apply fi<;>intro h)|refine cl hO ?_|refine⟨pos,t.tr,rfl,ab ht,?_⟩|refine⟨_,rfl,?_⟩|exact rfl)
      all_goals try exact⟨KP⟩
      conv=>whnf
      refine⟨{q:Nat×List Int×IS // q.1≤es.length∧aJ p L vals (aB p lim n calls k) (es.take q.1) s= .ok q.2.1 q.2.2},fun q=>⟨[(0,.r (.c (.ptr (0,0,0) 0))),(1,tI .i64 (k:Int)),(2,.r (.c (.mpv (0,0,4)))),(3,.r (.c (.t (.lst 3 (ln.fad.map Aq.tr))))),(11,.r (.c (.ptr (11,0,0) 0))),(12,.r (.c (.own (20,0,0)))),(23,.r (.c (.own (23,0,0)))),(24,tI .i64 (((cW (pos+1) es).map nR).length:Int)),(25,tI .i64 (q.1.1:Int))],
       [((0,0,0),some (rnB p lim (20,0,1) (20,0,2) (20,0,3))),((20,0,1),some (.arr false 1 (q.1.2.2.out.map aa))),((20,0,2),some (.dar 1 (ae (q.1.2.2.visits.map aV)) none)),((20,0,3),some (.arr false 1 (calls.map aa))),((0,0,4),some (.mp none ms)),((11,0,0),some (.box (t.tr.map .t))),((20,0,0),some (.arr true 1 (q.1.2.1.map aa))),((23,0,0),some (.arr true 1 ((cW (pos+1) es).map nR)))],[23,20,11,0]⟩,fun q=>es.length - q.1.1,⟨(0,[],s),Nat.zero_le _,hz⟩,?_,?_⟩
      ·skip
       repeat' ((conv=>whnf);first|apply Wx|apply W6|apply oi|(apply fi<;>intro h)|refine⟨_,rfl,?_⟩|exact rfl)
       all_goals try exact⟨KP⟩
      intro⟨⟨j,aj,sj⟩,hj,hjv⟩
      dsimp only at hj hjv ⊢
      by_cases hlj:j < es.length
      ·obtain⟨a,ha⟩:=ak hlj
       obtain⟨qp,hqp,hqs⟩:=gJ hsa ha
       have hjl:j < ((cW (pos+1) es).map nR).length:=by omega
       obtain⟨a2,s2,h2⟩:=dK hR (j+1)
       obtain⟨v,hv,rfl⟩:=dM hjv ha h2
       have hxj:=hxt j
       rw[hjv]at hxj
       have hva:cG p lim n calls f k vals a sj= .ok v s2:=by show evE _ _ _ _ _ _=_;rw[hL];exact hv
       have g:=hIH j a ha calls f en k qp ln vals ms sj (ck ho.2.2 ha) hI hk hqs hkn (by rw[hL];exact hvl) (by rw[hL];exact hvm) (hV.ext hxj) (by rw[hva];exact fun e=>by cases e)
       have hal:=cL hjv
       rw[List.length_take]at hal
       rw[hva]at g
       simp only[kG]at g
       repeat' ((conv=>whnf);first|apply Wx|apply W6|apply oi|(apply fi<;>intro h)|refine⟨j,rfl,hjl,?_⟩|refine⟨(nR qp),(ab hqp),?_⟩|refine⟨_,rfl,?_⟩|exact rfl)
       all_goals try exact⟨KP⟩
       all_goals try exact KX
       refine cg (g) ?_
       repeat' ((conv=>whnf);first|apply Wx|apply W6|apply oi|(apply fi<;>intro h)|refine⟨_,rfl,?_⟩|exact rfl)
       all_goals try exact⟨KP⟩
       all_goals try exact⟨⟨by simp <;> omega,by simp <;> omega⟩⟩
       conv=>whnf
       refine⟨⟨(j+1,aj++[v],s2),by dsimp only;omega,h2⟩,?_,KD⟩
       repeat' ((conv=>whnf);first|apply Wx|apply W6|apply oi|(apply fi<;>intro h)|refine⟨_,rfl,?_⟩|exact rfl)
       all_goals try exact⟨KP⟩
       all_goals try exact⟨KW⟩
       all_goals exact⟨by simp[aa]⟩
      ·obtain rfl:j=es.length:=by omega
       rw[List.take_length,hR]at hjv
       injection hjv with e3 e4
       subst e3;subst e4
       repeat' ((conv=>whnf);first|with_reducible refine iM (id:=15) (gQ 2) ?_ ?_|(with_reducible apply W1;fail_if_success (with_reducible show Wo _ _ _ _ (Code.region 17 _ _) _ _))|(with_reducible first|apply W2|apply W3|apply W4|apply W5|apply W6|apply W7|apply W8|apply W9)|apply bu|apply oi|(apply fi<;>intro h)|refine⟨_,rfl,?_⟩|exact rfl)
       all_goals try exact⟨KP⟩
       all_goals try exact KX
       all_goals try(exfalso;rw[hcl]at h;simp at h;omega)
       all_goals try(exfalso;simp_all;done)
       all_goals try exact⟨⟨by simp <;> omega,by simp <;> omega⟩⟩
       all_goals try exact⟨db _⟩
       all_goals try exact ik (d1:=59) (d2:=60) rfl rfl rfl rfl rfl (by decide) (by decide) (fun _ _=>by kernel_rfl) (fun _ _=>by kernel_rfl) (fun a w u v h=>by simp only[execOp];rw[h];rfl)
       conv=>whnf
       refine ji ⟨[(0,.r (.c (.ptr (0,0,0) 0))),(11,.r (.c (.ptr (11,0,0) 0))),(12,.r (.c (.t (.lst 1 (av.map aa)))))],
        [((0,0,0),some (rnB p lim (20,0,1) (20,0,2) (68,0,0))),((68,0,0),some (.arr false 1 (calls.map aa++[[.int .i64 (k:Int)]]))),((20,0,1),some (.arr false 1 (s1.out.map aa))),((20,0,2),some (.dar 1 (ae (s1.visits.map aV)) none)),((0,0,4),some (.mp none ms)),((11,0,0),some (.box (t.tr.map .t)))],_⟩ ?_ ?_ rfl ?_
       ·refine⟨.inl rfl,.inl rfl,.inr ⟨_,_,rfl,rfl,rfl,?_⟩,trivial⟩
        intro q hq;simp only[AC.ids,List.mem_cons,List.not_mem_nil,or_false]at hq;subst hq;rfl
       ·exact⟨.inr rfl,.inr rfl,.inr rfl,.inr rfl,.inr rfl,.inr rfl,trivial⟩
       have htk2:(calls.map aa++[[Tr.int .i64 (k:Int)]]).length=calls.length+1:=by simp
       have hw2:IntKind.i64.wrap (((calls.map aa++[[Tr.int .i64 (k:Int)]]).length:Int) - 1)=(calls.length:Int):=by rw[htk2,IntWalk.i64_in _ (by omega)];omega
       have htk3:calls.length≤(calls.map aa++[[Tr.int .i64 (k:Int)]]).length:=by omega
       have htk4:(calls.map aa++[[Tr.int .i64 (k:Int)]]).take calls.length=calls.map aa:=by rw[List.take_append_of_le_length (by simp),List.take_of_length_le (by simp)]
       repeat' ((conv=>whnf);first|apply Wx|apply W6|apply oi|(apply fi<;>intro h)|refine cl hFF ?_|refine⟨_,rfl,?_⟩|exact rfl)
       all_goals try exact⟨KP⟩
       refine cg (gp) ?_
       repeat' ((conv=>whnf);first|apply Wx|apply W6|apply oi|(apply fi<;>intro h)|refine⟨calls.length,hw2,htk3,?_⟩|refine⟨_,rfl,?_⟩|exact rfl)
       all_goals try exact⟨KP⟩
       all_goals try exact⟨KW⟩
       all_goals try exact⟨htk4⟩
       all_goals exact⟨htk3⟩
   ·skip
    have hf2:=ak2 h2.1 h2.2
    obtain⟨x,y,rfl⟩:∃x y,av=[x,y]:=by
     match av,hav with
     | [x,y],_=>exact⟨x,y,rfl⟩
     | [],h=>simp at h;omega
     | [_],h=>simp at h;omega
     | _::_::_::_,h=>simp at h;omega
    have hAp:=rM t.faa x y
    have hf:cI p L vals (aB p lim n calls k) t [x,y] s1= .ok (ia t.faa x y) s1:=by rw[cI,if_neg (by omega),if_neg (by omega),if_neg (by omega)];rfl
    rw[hf]
    simp only[kG]
    refine aT hΓ ap Try.func73 rfl (by decide) rfl rfl ?_
    repeat' ((conv=>whnf);first|apply Wx|apply W6|apply oi|(apply fi<;>intro h)|refine cl hO ?_|refine⟨pos,t.tr,rfl,ab ht,?_⟩|refine⟨_,rfl,?_⟩|exact rfl)
    all_goals try exact⟨KP⟩
    conv=>whnf
    refine⟨{q:Nat×List Int×IS // q.1≤es.length∧aJ p L vals (aB p lim n calls k) (es.take q.1) s= .ok q.2.1 q.2.2},fun q=>⟨[(0,.r (.c (.ptr (0,0,0) 0))),(1,tI .i64 (k:Int)),(2,.r (.c (.mpv (0,0,4)))),(3,.r (.c (.t (.lst 3 (ln.fad.map Aq.tr))))),(11,.r (.c (.ptr (11,0,0) 0))),(12,.r (.c (.own (20,0,0)))),(23,.r (.c (.own (23,0,0)))),(24,tI .i64 (((cW (pos+1) es).map nR).length:Int)),(25,tI .i64 (q.1.1:Int))],
     [((0,0,0),some (rnB p lim (20,0,1) (20,0,2) (20,0,3))),((20,0,1),some (.arr false 1 (q.1.2.2.out.map aa))),((20,0,2),some (.dar 1 (ae (q.1.2.2.visits.map aV)) none)),((20,0,3),some (.arr false 1 (calls.map aa))),((0,0,4),some (.mp none ms)),((11,0,0),some (.box (t.tr.map .t))),((20,0,0),some (.arr true 1 (q.1.2.1.map aa))),((23,0,0),some (.arr true 1 ((cW (pos+1) es).map nR)))],[23,20,11,0]⟩,fun q=>es.length - q.1.1,⟨(0,[],s),Nat.zero_le _,hz⟩,?_,?_⟩
    ·skip
     repeat' ((conv=>whnf);first|apply Wx|apply W6|apply oi|(apply fi<;>intro h)|refine⟨_,rfl,?_⟩|exact rfl)
     all_goals try exact⟨KP⟩
    intro⟨⟨j,aj,sj⟩,hj,hjv⟩
    dsimp only at hj hjv ⊢
    by_cases hlj:j < es.length
    ·obtain⟨a,ha⟩:=ak hlj
     obtain⟨qp,hqp,hqs⟩:=gJ hsa ha
     have hjl:j < ((cW (pos+1) es).map nR).length:=by omega
     obtain⟨a2,s2,h2⟩:=dK hR (j+1)
     obtain⟨v,hv,rfl⟩:=dM hjv ha h2
     have hxj:=hxt j
     rw[hjv]at hxj
     have hva:cG p lim n calls f k vals a sj= .ok v s2:=by show evE _ _ _ _ _ _=_;rw[hL];exact hv
     have g:=hIH j a ha calls f en k qp ln vals ms sj (ck ho.2.2 ha) hI hk hqs hkn (by rw[hL];exact hvl) (by rw[hL];exact hvm) (hV.ext hxj) (by rw[hva];exact fun e=>by cases e)
     have hal:=cL hjv
     rw[List.length_take]at hal
     rw[hva]at g
     simp only[kG]at g
     repeat' ((conv=>whnf);first|apply Wx|apply W6|apply oi|(apply fi<;>intro h)|refine⟨j,rfl,hjl,?_⟩|refine⟨(nR qp),(ab hqp),?_⟩|refine⟨_,rfl,?_⟩|exact rfl)
     all_goals try exact⟨KP⟩
     all_goals try exact KX
     refine cg (g) ?_
     repeat' ((conv=>whnf);first|apply Wx|apply W6|apply oi|(apply fi<;>intro h)|refine⟨_,rfl,?_⟩|exact rfl)
     all_goals try exact⟨KP⟩
     all_goals try exact⟨⟨by simp <;> omega,by simp <;> omega⟩⟩
     conv=>whnf
     refine⟨⟨(j+1,aj++[v],s2),by dsimp only;omega,h2⟩,?_,KD⟩
     repeat' ((conv=>whnf);first|apply Wx|apply W6|apply oi|(apply fi<;>intro h)|refine⟨_,rfl,?_⟩|exact rfl)
     all_goals try exact⟨KP⟩
     all_goals try exact⟨KW⟩
     all_goals exact⟨by simp[aa]⟩
    ·obtain rfl:j=es.length:=by omega
     rw[List.take_length,hR]at hjv
     injection hjv with e3 e4
     subst e3;subst e4
     repeat' ((conv=>whnf);first|apply Wx|apply W6|apply oi|(apply fi<;>intro h)|refine cl hAp ?_|refine⟨0,rfl,(by simp),?_⟩|refine⟨1,rfl,(by simp),?_⟩|refine⟨_,rfl,?_⟩|exact rfl)
     all_goals try exact⟨KP⟩
     all_goals try exact KX
     all_goals try(exfalso;simp_all;done)
     all_goals try exact⟨KW⟩
theorem nL {α:Type}(l:List α):l=[]∨∃W w,l=W++[w]:=by
 rcases List.eq_nil_or_concat l with h|⟨W,w,h⟩
 ·exact .inl h
 ·exact .inr ⟨W,w,by rw[h];simp⟩
theorem wn {p:List Ah}(hp:PgOk p)(hpo:aD p=true){lim:Int}:∀n,yx p lim n:=by
 intro n
 induction n using Nat.strongRecOn with
 | ind n ihn=>
  intro calls f args s hf hal hV hnf
  have hEv:∀m,m < n→∀e,wj p lim m e:=fun m hm e=>se hp (ihn m hm) e.toks.length e (Nat.le_refl _)
  obtain⟨en,hI0⟩:=InF.start hp hf
  have h60:=hp.len
  obtain⟨y,hy,hy0⟩:=hf
  obtain⟨e',he',hL8,hAL,_⟩:=hp.fn f y hy hy0
  rw[hI0.en]at he';injection he' with he';subst he'
  obtain⟨_,_,_,_,hfe,hel⟩:=aw hI0.en
  have hA:argsN p f=y.fac.length:=by rw[argsN,hy]
  have h4:=(hp.line f y hy).2.2.1
  have hLo:=gR p (f:Int) (by omega) (fun z hz=>aS hp.small hz)
  have hEn:=bp p (f:Int) (by omega)
  rw[show br p (f:Int)=(en:Int) by rw[aK];exact aN hI0.en]at hEn
  have hws:=rE hI0
  obtain⟨L,hL⟩:∃L,localsOf p (f:Int)=L:=⟨_,rfl⟩
  have hKn:=fun{k:Nat} {ln:Ah} (hI:InF p f en k) (hk:p[k]?=some ln) (hke:k < en)=>tg hpo hI hk hke
  rw[hL]at hL8 hAL hLo hnf ⊢
  obtain⟨R,hR⟩:∃R,aC p lim n calls f (f+1) (bZ L.length args) s=R:=⟨_,rfl⟩
  rw[hR]at hnf ⊢
  have hargs:(args.map aa).length=args.length:=by simp
  refine aT hΓ ap Try.func28 rfl (by decide) rfl rfl ?_
  repeat' ((conv=>whnf);first|(with_reducible apply W1;fail_if_success (with_reducible show Wo _ _ _ _ (Code.region 2 _ _) _ _))|(with_reducible first|apply W2|apply W3|apply W4|apply W5|apply W6|apply W7|apply W8|apply W9)|apply bu|apply oi|(apply fi<;>intro h)|refine cl hLo ?_|refine⟨_,rfl,?_⟩|exact rfl)
  all_goals try exact⟨KP⟩
  conv=>whnf
  refine ji ⟨[(0,.r (.c (.ptr (0,0,0) 0))),(1,tI .i64 (f:Int)),(2,.r (.c (.t (.lst 1 (args.map aa))))),(7,nQ L)],
   [((0,0,0),some (.box [.t (.lst 4 (p.map Ah.tr)),.t (.int .i64 lim),.own (0,0,1),.own (0,0,2),.t (.int .i64 0),.t (.int .i64 0),.own (0,0,3)])),((0,0,1),some (.arr false 1 (s.out.map aa))),((0,0,2),some (.dar 1 (ae (s.visits.map aV)) none)),((0,0,3),some (.arr false 1 (calls.map aa)))],[21,0]⟩ ?_ ?_ rfl ?_
  ·refine⟨.inl rfl,.inl rfl,.inl rfl,.inr ⟨_,_,rfl,rfl,rfl,?_⟩,trivial⟩
   intro q hq;simp only[AC.ids,List.mem_cons,List.not_mem_nil,or_false]at hq;subst hq;rfl
  ·exact⟨.inr rfl,.inr rfl,.inr rfl,.inr rfl,trivial⟩
  repeat' ((conv=>whnf);first|apply Wx|apply W6|apply oi|(apply fi<;>intro h)|refine⟨_,rfl,?_⟩|exact rfl)
  all_goals try exact⟨KP⟩
  all_goals try exact⟨by simpa using db args⟩
  all_goals try exact⟨⟨by simp <;> omega,by simp <;> omega⟩⟩
  conv=>whnf
  refine⟨{j:Nat // j≤L.length - args.length},fun j=>⟨[(0,.r (.c (.ptr (0,0,0) 0))),(1,tI .i64 (f:Int)),(7,nQ L),(8,.r (.c (.own (22,0,0))))],
   [((0,0,0),some (.box [.t (.lst 4 (p.map Ah.tr)),.t (.int .i64 lim),.own (0,0,1),.own (0,0,2),.t (.int .i64 0),.t (.int .i64 0),.own (0,0,3)])),((0,0,1),some (.arr false 1 (s.out.map aa))),((0,0,2),some (.dar 1 (ae (s.visits.map aV)) none)),((0,0,3),some (.arr false 1 (calls.map aa))),((22,0,0),some (.arr false 1 ((args++List.replicate j.1 0).map aa)))],[22,21,0]⟩,fun j=>L.length - j.1,⟨0,by omega⟩,?_,?_⟩
  ·skip
   repeat' ((conv=>whnf);first|apply Wx|apply W6|apply oi|(apply fi<;>intro h)|refine⟨_,rfl,?_⟩|exact rfl)
   all_goals try exact⟨KP⟩
   all_goals try exact⟨KW⟩
   all_goals try exact⟨by simp⟩
  intro⟨j,hj⟩
  dsimp only
  have hjl:((args++List.replicate j 0).map aa).length=args.length+j:=by simp
  have hll:(L.map ah).length=L.length:=by simp
  by_cases hjlt:j < L.length - args.length
  ·skip
   repeat' ((conv=>whnf);first|apply Wx|apply W6|apply oi|(apply fi<;>intro h)|refine⟨_,rfl,?_⟩|exact rfl)
   all_goals try exact⟨KP⟩
   all_goals try(exfalso;rw[hjl,hll]at h;simp at h;omega)
   all_goals try exact⟨⟨by rw[hjl];simp <;> omega,by rw[hjl];simp <;> omega⟩⟩
   conv=>whnf
   refine⟨⟨j+1,by omega⟩,?_,KD⟩
   repeat' ((conv=>whnf);first|apply Wx|apply W6|apply oi|(apply fi<;>intro h)|refine⟨_,rfl,?_⟩|exact rfl)
   all_goals try exact⟨KP⟩
   all_goals exact⟨by rw[List.replicate_succ'];simp[aa]⟩
  ·skip
   repeat' ((conv=>whnf);first|apply Wx|apply W6|apply oi|(apply fi<;>intro h)|refine cl hEn ?_|refine⟨_,rfl,?_⟩|exact rfl)
   all_goals try exact⟨KP⟩
   all_goals try(exfalso;rw[hjl,hll]at h;simp at h;omega)
   have hpad:args++List.replicate j 0=bZ L.length args:=by rw[bZ,show j=L.length - args.length by omega]
   rw[hpad]
   have hpl:(bZ L.length args).length=L.length:=by rw[bZ,List.length_append,List.length_replicate];omega
   generalize bZ L.length args=V0 at *
   conv=>whnf
   refine⟨{q:Nat×Nat×List Int×IS // q.1≤n∧InF p f en q.2.1∧q.2.2.1.length=L.length∧InV lim calls q.2.2.2∧aC p lim q.1 calls f q.2.1 q.2.2.1 q.2.2.2=R},fun q=>⟨[(0,.r (.c (.ptr (0,0,0) 0))),(1,tI .i64 (f:Int)),(7,nQ L),(8,.r (.c (.own (22,0,0)))),(9,tI .i64 (en:Int)),(10,.r (.c (.own (39,0,0)))),(11,tI .i64 (q.1.2.1:Int))],
    [((0,0,0),some (.box [.t (.lst 4 (p.map Ah.tr)),.t (.int .i64 lim),.own (22,0,1),.own (22,0,2),.t (.int .i64 0),.t (.int .i64 0),.own (22,0,3)])),((22,0,1),some (.arr false 1 (q.1.2.2.2.out.map aa))),((22,0,2),some (.dar 1 (ae (q.1.2.2.2.visits.map aV)) none)),((22,0,3),some (.arr false 1 (calls.map aa))),((22,0,0),some (.arr false 1 (q.1.2.2.1.map aa))),((39,0,0),some (.arr true 1 ((ax p f q.1.2.1).map fun i:Nat=>aa (i:Int))))],[39,22,21,0]⟩,fun q=>q.1.1,⟨(n,f+1,V0,s),Nat.le_refl _,hI0,hpl,hV,hR⟩,?_,?_⟩
   ·skip
    repeat' ((conv=>whnf);first|apply Wx|apply W6|apply oi|(apply fi<;>intro h)|refine⟨_,rfl,?_⟩|exact rfl)
    all_goals try exact⟨KP⟩
    all_goals try exact⟨KW⟩
    all_goals try exact⟨by rw[hws];rfl⟩
   intro⟨⟨m,k,vals,sk⟩,hm,hI,hvl,hVk,hRk⟩
   dsimp only at hm hI hvl hVk hRk ⊢
   match m,hm,hRk with
   | 0,_,hRk=>exact absurd hRk.symm hnf
   | m+1,hm,hRk=>
   obtain⟨ln,hk,hk1,hk7,hke⟩:=hI.line hp
   by_cases hkl:k < en
   ·obtain⟨kd,nm,ag,ex⟩:=ln
    dsimp only at hk1 hk7 hke
    have hrow:p[k]?=some ⟨kd,nm,ag,ex⟩:=hk
    have hvm:(vals.map aa).length=vals.length:=by simp
    rcases(show kd=7∨kd=4∨(kd≠7∧kd≠4) by omega)with rfl|rfl|⟨h7,h4'⟩
    ·obtain⟨ho,h|⟨q1,q2,q3,y2,hy2,q4⟩⟩:=hI.own7 hp hk rfl
     ·omega
     rw[bv hk rfl,if_neg (by omega),bz hy2]at hRk
     generalize aH p k=o at *
     by_cases h5:y2.faa=5
     ·rw[if_pos h5]at hRk
      rw[tN hI.lo ho q2 hy2 h5,List.map_append]
      have hwl:=jC p f o
      have hsl:((ax p f o).map (fun i:Nat=>aa (i:Int))++[o].map fun i:Nat=>aa (i:Int)).length=(ax p f o).length+1:=by simp
      have hw:IntKind.i64.wrap ((((ax p f o).map (fun i:Nat=>aa (i:Int))++[o].map fun i:Nat=>aa (i:Int)).length:Int) - 1)=((ax p f o).length:Int):=by rw[hsl,IntWalk.i64_in _ (by omega)];omega
      have hlt:(ax p f o).length < ((ax p f o).map (fun i:Nat=>aa (i:Int))++[o].map fun i:Nat=>aa (i:Int)).length:=by omega
      have hgt:((ax p f o).map (fun i:Nat=>aa (i:Int))++[o].map fun i:Nat=>aa (i:Int))[(ax p f o).length]?=some (aa (o:Int)):=by simp
      have htk:((ax p f o).map (fun i:Nat=>aa (i:Int))++[o].map fun i:Nat=>aa (i:Int)).take (ax p f o).length=(ax p f o).map fun i:Nat=>aa (i:Int):=by rw[List.take_append_of_le_length (by simp),List.take_of_length_le (by simp)]
      have hEo:=bp p (o:Int) (by omega)
      rw[show br p (o:Int)=(k:Int) by rw[aK];exact aN ho]at hEo
      have hsl2:(ax p f o).length≤((ax p f o).map (fun i:Nat=>aa (i:Int))++[o].map fun i:Nat=>aa (i:Int)).length:=by omega
      repeat' ((conv=>whnf);first|apply Wx|apply W6|apply oi|(apply fi<;>intro h)|refine⟨k,(Ah.tr ⟨7,nm,ag,ex⟩),rfl,ab hk,?_⟩|refine cl hEo ?_|refine⟨(ax p f o).length,hw,hlt,?_⟩|refine⟨_,hgt,?_⟩|refine⟨(ax p f o).length,hw,hsl2,?_⟩|refine⟨_,rfl,?_⟩|exact rfl)
      all_goals try exact⟨KP⟩
      all_goals try exact KX
      all_goals try(exfalso;simp at h;done)
      conv=>whnf
      refine⟨⟨(m,o,vals,sk),by dsimp only;omega,hI.at q2 (by dsimp only;omega),hvl,hVk,hRk⟩,?_,KD⟩
      repeat' ((conv=>whnf);first|apply Wx|apply W6|apply oi|(apply fi<;>intro h)|refine⟨_,rfl,?_⟩|exact rfl)
      all_goals try exact⟨KP⟩
      all_goals try exact⟨KW⟩
      all_goals try exact⟨htk⟩
      all_goals exact⟨hsl2⟩
     ·rw[if_neg h5]at hRk
      obtain⟨hw1,hw2⟩:=vR hk rfl ho hy2 (by omega)
      have hwl:=jC p f k
      rcases nL (ax p f k)with hn|⟨W,w,hsn⟩
      ·rw[hn]
       rw[hn]at hw1
       repeat' ((conv=>whnf);first|apply Wx|apply W6|apply oi|(apply fi<;>intro h)|refine⟨k,(Ah.tr ⟨7,nm,ag,ex⟩),rfl,ab hk,?_⟩|refine⟨_,rfl,?_⟩|exact rfl)
       all_goals try exact⟨KP⟩
       all_goals try exact KX
       conv=>whnf
       refine⟨⟨(m,k+1,vals,sk),by dsimp only;omega,hI.at (by have:=hI.lo;dsimp only;omega) (by dsimp only;omega),hvl,hVk,hRk⟩,?_,KD⟩
       repeat' ((conv=>whnf);first|apply Wx|apply W6|apply oi|(apply fi<;>intro h)|refine⟨_,rfl,?_⟩|exact rfl)
       all_goals try exact⟨KP⟩
       all_goals try exact⟨KW⟩
       all_goals exact⟨by dsimp only;rw[hw1]⟩
      ·have hwm:w∈ax p f k:=by rw[hsn];simp
       have hwk:=hw2 w hwm
       obtain⟨_,_,_,ew,hew,_⟩:=oa hwm
       have hEw:=bp p (w:Int) (by omega)
       rw[show br p (w:Int)=(ew:Int) by rw[aK];exact aN hew]at hEw
       have hne:ew≠k:=fun e=>hwk (by rw[hew,e])
       rw[hsn,List.map_append]
       rw[hsn]at hw1 hwl
       rw[List.length_append,List.length_cons,List.length_nil]at hwl
       have hsl:(W.map (fun i:Nat=>aa (i:Int))++[w].map fun i:Nat=>aa (i:Int)).length=W.length+1:=by simp
       have hw:IntKind.i64.wrap (((W.map (fun i:Nat=>aa (i:Int))++[w].map fun i:Nat=>aa (i:Int)).length:Int) - 1)=(W.length:Int):=by rw[hsl,IntWalk.i64_in _ (by omega)];omega
       have hlt:W.length < (W.map (fun i:Nat=>aa (i:Int))++[w].map fun i:Nat=>aa (i:Int)).length:=by omega
       have hgt:(W.map (fun i:Nat=>aa (i:Int))++[w].map fun i:Nat=>aa (i:Int))[W.length]?=some (aa (w:Int)):=by simp
       repeat' ((conv=>whnf);first|apply Wx|apply W6|apply oi|(apply fi<;>intro h)|refine⟨k,(Ah.tr ⟨7,nm,ag,ex⟩),rfl,ab hk,?_⟩|refine cl hEw ?_|refine⟨W.length,hw,hlt,?_⟩|refine⟨_,hgt,?_⟩|refine⟨_,rfl,?_⟩|exact rfl)
       all_goals try exact⟨KP⟩
       all_goals try exact KX
       all_goals try(exfalso;simp at h;omega)
       all_goals try(exfalso;rw[hsl]at h;simp at h;omega)
       conv=>whnf
       refine⟨⟨(m,k+1,vals,sk),by dsimp only;omega,hI.at (by have:=hI.lo;dsimp only;omega) (by dsimp only;omega),hvl,hVk,hRk⟩,?_,KD⟩
       repeat' ((conv=>whnf);first|apply Wx|apply W6|apply oi|(apply fi<;>intro h)|refine⟨_,rfl,?_⟩|exact rfl)
       all_goals try exact⟨KP⟩
       all_goals try exact⟨KW⟩
       all_goals exact⟨by dsimp only;rw[hw1,List.map_append]⟩
    ·have hn4:=hI.elseNext hp hk rfl
     obtain⟨q1,q2,q3,q4⟩:=hI.own4 hp hk rfl
     have hwe:=tw hp hI hk rfl
     rw[cw hk rfl]at hRk
     have hEo:=bp p (aH p k:Int) (by omega)
     obtain⟨x3,e3,hx3,hx33,he3,_,_,_⟩:=aO q1
     have hE3:cn p (aH p k)=e3:=by rw[cn,he3];rfl
     rw[show br p (aH p k:Int)=(e3:Int) by rw[aK];exact aN he3]at hEo
     rw[hE3]at hn4 hwe hRk
     have hone:∀i,elseAt p i=some k→i=aH p k:=fun i h=>oz h q1
     generalize aH p k=o at *
     have h7e:∀i,elseAt p i≠some e3:=fun i h=>by
      obtain⟨_,_,_,_,_,_,_,z,hz,h4z⟩:=aO h
      obtain⟨z2,hz2,h7z⟩:=bf he3
      rw[hz]at hz2;injection hz2 with hz2;subst hz2;omega
     have hEl:=fun i:Nat=>fH p (i:Int) (by omega)
     repeat' ((conv=>whnf);first|apply Wx|apply W6|apply oi|(apply fi<;>intro h)|refine⟨k,(Ah.tr ⟨4,nm,ag,ex⟩),rfl,ab hk,?_⟩|refine⟨_,rfl,?_⟩|exact rfl)
     all_goals try exact⟨KP⟩
     all_goals try exact KX
     conv=>whnf
     refine⟨{i:Nat // f≤i∧i≤e3},fun i=>⟨[(0,.r (.c (.ptr (0,0,0) 0))),(1,tI .i64 (f:Int)),(7,nQ L),(8,.r (.c (.own (22,0,0)))),(9,tI .i64 (en:Int)),(10,.r (.c (.own (39,0,0)))),(11,tI .i64 ((if o < i.1 then e3 else k:Nat):Int)),(13,tI .i64 (i.1:Int))],
      [((0,0,0),some (.box [.t (.lst 4 (p.map Ah.tr)),.t (.int .i64 lim),.own (22,0,1),.own (22,0,2),.t (.int .i64 0),.t (.int .i64 0),.own (22,0,3)])),((22,0,1),some (.arr false 1 (sk.out.map aa))),((22,0,2),some (.dar 1 (ae (sk.visits.map aV)) none)),((22,0,3),some (.arr false 1 (calls.map aa))),((22,0,0),some (.arr false 1 (vals.map aa))),((39,0,0),some (.arr true 1 ((ax p f k).map fun i:Nat=>aa (i:Int))))],[39,22,21,0]⟩,fun i=>e3 - i.1,⟨f,by omega,by omega⟩,?_,?_⟩
     ·skip
      repeat' ((conv=>whnf);first|apply Wx|apply W6|apply oi|(apply fi<;>intro h)|refine⟨_,rfl,?_⟩|exact rfl)
      all_goals try exact⟨KP⟩
      all_goals try exact⟨KW⟩
      all_goals exact⟨by dsimp only;rw[if_neg (by omega)]⟩
     intro⟨i,hi1,hi2⟩
     dsimp only
     have hEi:=hEl i
     by_cases hio:o < i
     ·rw[if_pos hio]
      by_cases hie:i < e3
      ·have hv:aL p (i:Int)≠(e3:Int):=fun h=>by
        rw[dh]at h
        cases hx:elseAt p i with
        | none=>rw[hx]at h;simp[bN]at h
        | some j=>rw[hx]at h;simp only[bN]at h;exact h7e i (by rw[hx];congr 1;omega)
       generalize aL p (i:Int)=ev at *
       repeat' ((conv=>whnf);first|apply Wx|apply W6|apply oi|(apply fi<;>intro h)|refine cl hEi ?_|refine⟨_,rfl,?_⟩|exact rfl)
       all_goals try exact⟨KP⟩
       all_goals try exact KX
       all_goals try(exfalso;simp at h;exact hv h)
       conv=>whnf
       refine⟨⟨i+1,by omega,by omega⟩,?_,KD⟩
       repeat' ((conv=>whnf);first|apply Wx|apply W6|apply oi|(apply fi<;>intro h)|refine⟨_,rfl,?_⟩|exact rfl)
       all_goals try exact⟨KP⟩
       all_goals try exact⟨KW⟩
       all_goals exact⟨by dsimp only;rw[if_pos (by omega)]⟩
      ·have hie':i=e3:=by omega
       subst hie'
       repeat' ((conv=>whnf);first|apply Wx|apply W6|apply oi|(apply fi<;>intro h)|refine⟨_,rfl,?_⟩|exact rfl)
       all_goals try exact⟨KP⟩
       all_goals try exact KX
       conv=>whnf
       refine⟨⟨(m,i+1,vals,sk),by dsimp only;omega,hI.at (by have:=hI.lo;dsimp only;omega) (by dsimp only;omega),hvl,hVk,hRk⟩,?_,KD⟩
       repeat' ((conv=>whnf);first|apply Wx|apply W6|apply oi|(apply fi<;>intro h)|refine⟨_,rfl,?_⟩|exact rfl)
       all_goals try exact⟨KP⟩
       all_goals try exact⟨KW⟩
       all_goals exact⟨by dsimp only;rw[hwe]⟩
     ·rw[if_neg hio]
      by_cases hie:i=o
      ·subst hie
       rw[show aL p (i:Int)=(k:Int) by rw[dh,q1];rfl]at hEi
       repeat' ((conv=>whnf);first|apply Wx|apply W6|apply oi|(apply fi<;>intro h)|refine cl hEi ?_|refine cl hEo ?_|refine⟨_,rfl,?_⟩|exact rfl)
       all_goals try exact⟨KP⟩
       all_goals try exact KX
       all_goals try(exfalso;simp at h;done)
       conv=>whnf
       refine⟨⟨i+1,by omega,by omega⟩,?_,KD⟩
       repeat' ((conv=>whnf);first|apply Wx|apply W6|apply oi|(apply fi<;>intro h)|refine⟨_,rfl,?_⟩|exact rfl)
       all_goals try exact⟨KP⟩
       all_goals try exact⟨KW⟩
       all_goals exact⟨by dsimp only;rw[if_pos (by omega)]⟩
      ·have hv:aL p (i:Int)≠(k:Int):=fun h=>by
        rw[dh]at h
        cases hx:elseAt p i with
        | none=>rw[hx]at h;simp[bN]at h
        | some j=>rw[hx]at h;simp only[bN]at h;exact hie (hone i (by rw[hx];congr 1;omega))
       generalize aL p (i:Int)=ev at *
       repeat' ((conv=>whnf);first|apply Wx|apply W6|apply oi|(apply fi<;>intro h)|refine cl hEi ?_|refine⟨_,rfl,?_⟩|exact rfl)
       all_goals try exact⟨KP⟩
       all_goals try exact KX
       all_goals try(exfalso;simp at h;exact hv h)
       conv=>whnf
       refine⟨⟨i+1,by omega,by omega⟩,?_,KD⟩
       repeat' ((conv=>whnf);first|apply Wx|apply W6|apply oi|(apply fi<;>intro h)|refine⟨_,rfl,?_⟩|exact rfl)
       all_goals try exact⟨KP⟩
       all_goals try exact⟨KW⟩
       all_goals exact⟨by dsimp only;rw[if_neg (by omega)]⟩
    ·have hk6:kd=1∨kd=2∨kd=3∨kd=5∨kd=6:=by omega
     have hvn:sk.visits.length≤1000:=by have:=hVk.vis;have:=hVk.lm;omega
     by_cases hfull:(sk.visits.length:Int)=lim
     ·rw[cu hk h7 h4' hfull]at hRk
      subst hRk
      dsimp only[Rr.val,Rr.st,Rr.code]
      have gv:=lr p lim (k:Int) ⟨sk.out,sk.visits,0,0,calls⟩ hfull
      rcases hk6 with rfl|rfl|rfl|rfl|rfl
      all_goals(
       repeat' ((conv=>whnf);first|apply Wx|apply W6|apply oi|(apply fi<;>intro h)|refine⟨k,(Ah.tr ⟨_,nm,ag,ex⟩),rfl,ab hk,?_⟩|refine⟨_,rfl,?_⟩|exact rfl)
       all_goals try exact⟨KP⟩
       all_goals try exact KX
       refine cg (gv) ?_
       repeat' ((conv=>whnf);first|apply Wx|apply W6|apply oi|(apply fi<;>intro h)|refine⟨_,rfl,?_⟩|exact rfl)
       all_goals try exact⟨KP⟩
       skip)
     ·rw[cB hk h7 h4' hfull]at hRk
      have gv:=qV p lim (k:Int) ⟨sk.out,sk.visits,0,0,calls⟩ hvn hVk.calls hfull
      obtain⟨hxo,e1,e2,e3⟩:=hI.known hp hk h7 h4'
      obtain⟨hkn,hset⟩:=hKn hI hk hkl
      have hV1:InV lim calls ⟨sk.out,sk.visits++[calls++[(k:Int)]]⟩:=hVk.ext (fP hfull _)
      dsimp only at hRk hxo e1 e2 hkn hset
      obtain⟨E,hE⟩:∃E,cG p lim m calls f k vals (exL ex) ⟨sk.out,sk.visits++[calls++[(k:Int)]]⟩=E:=⟨_,rfl⟩
      have hxE:=iP (p:=p) (locals:=localsOf p (f:Int)) (vals:=vals) (dc (p:=p) (lim:=lim) m calls k) (exL ex) ⟨sk.out,sk.visits++[calls++[(k:Int)]]⟩
      rw[show evE p (localsOf p (f:Int)) vals (aB p lim m calls k) (exL ex) ⟨sk.out,sk.visits++[calls++[(k:Int)]]⟩=E from hE]at hRk hxE
      have hnE:cG p lim m calls f k vals (exL ex) ⟨sk.out,sk.visits++[calls++[(k:Int)]]⟩≠.fuel:=fun e=>by
       rw[hE]at e;rw[e]at hRk;exact hnf hRk.symm
      obtain⟨x,_,g⟩:=hEv m (by omega) (exL ex) calls f en k 0 ⟨kd,nm,ag,ex⟩ vals ⟨sk.out,sk.visits++[calls++[(k:Int)]]⟩ e1 hI hk ⟨[],by rw[List.drop_zero,List.append_nil];exact e2⟩ hkn (by rw[hL];exact hvl) hV1 hnE
      rw[hE,hL]at g
      rw[hL]at hRk hset
      match E,hE,hRk,hxE,g with
      | .fuel,hE,_,_,_=>exact absurd hE hnE
      | .stop c s2,hE,hRk,hxE,g=>
       have hRk:Rr.stop c s2=R:=hRk
       subst hRk
       have hcode:=hxE.2
       dsimp only[Rr.val,Rr.st,Rr.code]at g ⊢
       rcases hk6 with rfl|rfl|rfl|rfl|rfl
       all_goals(
        repeat' ((conv=>whnf);first|apply Wx|apply W6|apply oi|(apply fi<;>intro h)|refine⟨k,(Ah.tr ⟨_,nm,ag,ex⟩),rfl,ab hk,?_⟩|refine⟨_,rfl,?_⟩|exact rfl)
        all_goals try exact⟨KP⟩
        all_goals try exact KX
        refine cg (gv) ?_
        repeat' ((conv=>whnf);first|apply Wx|apply W6|apply oi|(apply fi<;>intro h)|refine⟨_,rfl,?_⟩|exact rfl)
        all_goals try exact⟨KP⟩
        refine cg (g) ?_
        repeat' ((conv=>whnf);first|apply Wx|apply W6|apply oi|(apply fi<;>intro h)|refine⟨_,rfl,?_⟩|exact rfl)
        all_goals try exact⟨KP⟩
        all_goals try(exfalso;simp at h;omega)
        skip)
      | .ok v s2,hE,hRk,hxE,g=>
       rw[Rr.bnd_ok]at hRk
       have hxE:Ext lim ⟨sk.out,sk.visits++[calls++[(k:Int)]]⟩ s2:=hxE
       have hV2:InV lim calls s2:=hV1.ext hxE
       have hvn2:s2.out.length≤1000:=by have:=hV2.vis;have:=hV2.lm;have:=hV2.out;omega
       dsimp only[Rr.val,Rr.st,Rr.code]at g
       rcases hk6 with rfl|rfl|rfl|rfl|rfl
       ·obtain⟨ix,hix⟩:=hset rfl
        have hixl:=fT hix
        have hIx:=cR L nm (by omega)
        rw[show dC L nm=(ix:Int) by rw[dC,hix];rfl]at hIx
        have hil:ix < (vals.map aa).length:=by omega
        have hgv:(vals.map aa)[ix]?=some (aa (atL vals ix)):=by rw[List.getElem?_map,pa (by omega)];rfl
        have hsv:gk L ⟨1,nm,ag,ex⟩ vals v=vals.set ix v:=by rw[gk,if_pos rfl,hix]
        have hov:ey ⟨1,nm,ag,ex⟩ s2 v=s2:=by rw[ey,if_neg (by simp)]
        have hnx:bC p ⟨1,nm,ag,ex⟩ k v=k+1:=by rw[bC,if_neg (by simp)]
        rw[if_neg (by simp),hsv,hov,hnx]at hRk
        have hwn:=gZ (f:=f) hk (by simp) (by simp)
        repeat' ((conv=>whnf);first|apply Wx|apply W6|apply oi|(apply fi<;>intro h)|refine⟨k,(Ah.tr ⟨_,nm,ag,ex⟩),rfl,ab hk,?_⟩|refine⟨_,rfl,?_⟩|exact rfl)
        all_goals try exact⟨KP⟩
        all_goals try exact KX
        refine cg (gv) ?_
        repeat' ((conv=>whnf);first|apply Wx|apply W6|apply oi|(apply fi<;>intro h)|refine⟨_,rfl,?_⟩|exact rfl)
        all_goals try exact⟨KP⟩
        refine cg (g) ?_
        repeat' ((conv=>whnf);first|apply Wx|apply W6|apply oi|(apply fi<;>intro h)|refine cl hIx ?_|refine⟨ix,rfl,hil,?_⟩|refine⟨_,hgv,?_⟩|refine⟨_,rfl,?_⟩|exact rfl)
        all_goals try exact⟨KP⟩
        all_goals try exact KX
        conv=>whnf
        refine⟨⟨(m,k+1,vals.set ix v,s2),by dsimp only;omega,hI.at (by have:=hI.lo;dsimp only;omega) (by dsimp only;omega),by dsimp only;rw[List.length_set];exact hvl,hV2,hRk⟩,?_,KD⟩
        repeat' ((conv=>whnf);first|apply Wx|apply W6|apply oi|(apply fi<;>intro h)|refine⟨_,rfl,?_⟩|exact rfl)
        all_goals try exact⟨KP⟩
        all_goals try exact⟨KW⟩
        all_goals try exact⟨by dsimp only;rw[hwn]⟩
        all_goals try exact⟨by dsimp only;rw[List.map_set];rfl⟩
       ·have hsv:gk L ⟨2,nm,ag,ex⟩ vals v=vals:=by rw[gk,if_neg (by simp)]
        have hov:ey ⟨2,nm,ag,ex⟩ s2 v=⟨s2.out++[v],s2.visits⟩:=by rw[ey,if_pos rfl]
        have hnx:bC p ⟨2,nm,ag,ex⟩ k v=k+1:=by rw[bC,if_neg (by simp)]
        have hxo:=ni (ln:=⟨2,nm,ag,ex⟩) (v:=v) hfull hxE
        rw[hov]at hxo
        rw[if_neg (by simp),hsv,hov,hnx]at hRk
        have hwn:=gZ (f:=f) hk (by simp) (by simp)
        repeat' ((conv=>whnf);first|apply Wx|apply W6|apply oi|(apply fi<;>intro h)|refine⟨k,(Ah.tr ⟨_,nm,ag,ex⟩),rfl,ab hk,?_⟩|refine⟨_,rfl,?_⟩|exact rfl)
        all_goals try exact⟨KP⟩
        all_goals try exact KX
        refine cg (gv) ?_
        repeat' ((conv=>whnf);first|apply Wx|apply W6|apply oi|(apply fi<;>intro h)|refine⟨_,rfl,?_⟩|exact rfl)
        all_goals try exact⟨KP⟩
        refine cg (g) ?_
        repeat' ((conv=>whnf);first|apply Wx|apply W6|apply oi|(apply fi<;>intro h)|refine⟨_,rfl,?_⟩|exact rfl)
        all_goals try exact⟨KP⟩
        all_goals try exact KX
        all_goals try exact⟨⟨by simp <;> omega,by simp <;> omega⟩⟩
        conv=>whnf
        refine⟨⟨(m,k+1,vals,⟨s2.out++[v],s2.visits⟩),by dsimp only;omega,hI.at (by have:=hI.lo;dsimp only;omega) (by dsimp only;omega),hvl,hVk.ext hxo,hRk⟩,?_,KD⟩
        repeat' ((conv=>whnf);first|apply Wx|apply W6|apply oi|(apply fi<;>intro h)|refine⟨_,rfl,?_⟩|exact rfl)
        all_goals try exact⟨KP⟩
        all_goals try exact⟨KW⟩
        all_goals try exact⟨by dsimp only;rw[hwn]⟩
        all_goals try exact⟨by simp[aa]⟩
       ·have hsv:gk L ⟨3,nm,ag,ex⟩ vals v=vals:=by rw[gk,if_neg (by simp)]
        have hov:ey ⟨3,nm,ag,ex⟩ s2 v=s2:=by rw[ey,if_neg (by simp)]
        rw[if_neg (by simp),hsv,hov]at hRk
        by_cases hv0:v=0
        ·subst hv0
         have hnx:bC p ⟨3,nm,ag,ex⟩ k 0=bc p k+1:=by rw[bC,if_pos ⟨.inl rfl,rfl⟩]
         rw[hnx]at hRk
         have hws:=mM hp hI hkl hk (.inl rfl)
         have hsk:=hI.skip hp hk (.inl rfl) hkl
         have hEl:=fH p (k:Int) (by omega)
         obtain⟨ek,hek,_,_⟩:=bt hI.en hI.lo hkl hk (by rw[opensK_iff];simp)
         have hEk:=bp p (k:Int) (by omega)
         rw[show br p (k:Int)=(ek:Int) by rw[aK];exact aN hek]at hEk
         cases hel2:elseAt p k with
         | some j=>
          have hj:bc p k=j:=by rw[bc,hel2]
          rw[show aL p (k:Int)=(j:Int) by rw[dh,hel2];rfl]at hEl
          rw[hj]at hRk hws hsk
          repeat' ((conv=>whnf);first|apply Wx|apply W6|apply oi|(apply fi<;>intro h)|refine⟨k,(Ah.tr ⟨_,nm,ag,ex⟩),rfl,ab hk,?_⟩|refine⟨_,rfl,?_⟩|exact rfl)
          all_goals try exact⟨KP⟩
          all_goals try exact KX
          refine cg (gv) ?_
          repeat' ((conv=>whnf);first|apply Wx|apply W6|apply oi|(apply fi<;>intro h)|refine⟨_,rfl,?_⟩|exact rfl)
          all_goals try exact⟨KP⟩
          refine cg (g) ?_
          repeat' ((conv=>whnf);first|apply Wx|apply W6|apply oi|(apply fi<;>intro h)|refine cl hEl ?_|refine⟨_,rfl,?_⟩|exact rfl)
          all_goals try exact⟨KP⟩
          all_goals try exact KX
          conv=>whnf
          refine⟨⟨(m,j+1,vals,s2),by dsimp only;omega,hI.at (by have:=hI.lo;dsimp only;omega) (by dsimp only;omega),hvl,hV2,hRk⟩,?_,KD⟩
          repeat' ((conv=>whnf);first|apply Wx|apply W6|apply oi|(apply fi<;>intro h)|refine⟨_,rfl,?_⟩|exact rfl)
          all_goals try exact⟨KP⟩
          all_goals try exact⟨KW⟩
          all_goals try exact⟨by dsimp only;rw[hws]⟩
         | none=>
          have hj:bc p k=ek:=by rw[bc,hel2,cn,hek];rfl
          rw[show aL p (k:Int)= -1 by rw[dh,hel2];rfl]at hEl
          rw[hj]at hRk hws hsk
          repeat' ((conv=>whnf);first|apply Wx|apply W6|apply oi|(apply fi<;>intro h)|refine⟨k,(Ah.tr ⟨_,nm,ag,ex⟩),rfl,ab hk,?_⟩|refine⟨_,rfl,?_⟩|exact rfl)
          all_goals try exact⟨KP⟩
          all_goals try exact KX
          refine cg (gv) ?_
          repeat' ((conv=>whnf);first|apply Wx|apply W6|apply oi|(apply fi<;>intro h)|refine⟨_,rfl,?_⟩|exact rfl)
          all_goals try exact⟨KP⟩
          refine cg (g) ?_
          repeat' ((conv=>whnf);first|apply Wx|apply W6|apply oi|(apply fi<;>intro h)|refine cl hEl ?_|refine cl hEk ?_|refine⟨_,rfl,?_⟩|exact rfl)
          all_goals try exact⟨KP⟩
          all_goals try exact KX
          conv=>whnf
          refine⟨⟨(m,ek+1,vals,s2),by dsimp only;omega,hI.at (by have:=hI.lo;dsimp only;omega) (by dsimp only;omega),hvl,hV2,hRk⟩,?_,KD⟩
          repeat' ((conv=>whnf);first|apply Wx|apply W6|apply oi|(apply fi<;>intro h)|refine⟨_,rfl,?_⟩|exact rfl)
          all_goals try exact⟨KP⟩
          all_goals try exact⟨KW⟩
          all_goals try exact⟨by dsimp only;rw[hws]⟩
        ·have hnx:bC p ⟨3,nm,ag,ex⟩ k v=k+1:=by rw[bC,if_neg (fun h=>hv0 h.2)]
         rw[hnx]at hRk
         have hwn:=gZ (f:=f) hk (by simp) (by simp)
         repeat' ((conv=>whnf);first|apply Wx|apply W6|apply oi|(apply fi<;>intro h)|refine⟨k,(Ah.tr ⟨_,nm,ag,ex⟩),rfl,ab hk,?_⟩|refine⟨_,rfl,?_⟩|exact rfl)
         all_goals try exact⟨KP⟩
         all_goals try exact KX
         refine cg (gv) ?_
         repeat' ((conv=>whnf);first|apply Wx|apply W6|apply oi|(apply fi<;>intro h)|refine⟨_,rfl,?_⟩|exact rfl)
         all_goals try exact⟨KP⟩
         refine cg (g) ?_
         repeat' ((conv=>whnf);first|apply Wx|apply W6|apply oi|(apply fi<;>intro h)|refine⟨_,rfl,?_⟩|exact rfl)
         all_goals try exact⟨KP⟩
         all_goals try exact KX
         all_goals try(exfalso;simp at h;exact hv0 h)
         conv=>whnf
         refine⟨⟨(m,k+1,vals,s2),by dsimp only;omega,hI.at (by have:=hI.lo;dsimp only;omega) (by dsimp only;omega),hvl,hV2,hRk⟩,?_,KD⟩
         repeat' ((conv=>whnf);first|apply Wx|apply W6|apply oi|(apply fi<;>intro h)|refine⟨_,rfl,?_⟩|exact rfl)
         all_goals try exact⟨KP⟩
         all_goals try exact⟨KW⟩
         all_goals try exact⟨by dsimp only;rw[hwn]⟩
       ·have hsv:gk L ⟨5,nm,ag,ex⟩ vals v=vals:=by rw[gk,if_neg (by simp)]
        have hov:ey ⟨5,nm,ag,ex⟩ s2 v=s2:=by rw[ey,if_neg (by simp)]
        rw[if_neg (by simp),hsv,hov]at hRk
        have hwl:=jC p f k
        by_cases hv0:v=0
        ·subst hv0
         have hnx:bC p ⟨5,nm,ag,ex⟩ k 0=bc p k+1:=by rw[bC,if_pos ⟨.inr rfl,rfl⟩]
         rw[hnx]at hRk
         have hws:=mM hp hI hkl hk (.inr rfl)
         have hsk:=hI.skip hp hk (.inr rfl) hkl
         obtain⟨ek,hek,_,_⟩:=bt hI.en hI.lo hkl hk (by rw[opensK_iff];simp)
         have hEk:=bp p (k:Int) (by omega)
         rw[show br p (k:Int)=(ek:Int) by rw[aK];exact aN hek]at hEk
         have hj:bc p k=ek:=by rw[bc,ot (by rw[bz hk];simp),cn,hek];rfl
         rw[hj]at hRk hws hsk
         repeat' ((conv=>whnf);first|apply Wx|apply W6|apply oi|(apply fi<;>intro h)|refine⟨k,(Ah.tr ⟨_,nm,ag,ex⟩),rfl,ab hk,?_⟩|refine⟨_,rfl,?_⟩|exact rfl)
         all_goals try exact⟨KP⟩
         all_goals try exact KX
         refine cg (gv) ?_
         repeat' ((conv=>whnf);first|apply Wx|apply W6|apply oi|(apply fi<;>intro h)|refine⟨_,rfl,?_⟩|exact rfl)
         all_goals try exact⟨KP⟩
         refine cg (g) ?_
         repeat' ((conv=>whnf);first|apply Wx|apply W6|apply oi|(apply fi<;>intro h)|refine cl hEk ?_|refine⟨_,rfl,?_⟩|exact rfl)
         all_goals try exact⟨KP⟩
         all_goals try exact KX
         conv=>whnf
         refine⟨⟨(m,ek+1,vals,s2),by dsimp only;omega,hI.at (by have:=hI.lo;dsimp only;omega) (by dsimp only;omega),hvl,hV2,hRk⟩,?_,KD⟩
         repeat' ((conv=>whnf);first|apply Wx|apply W6|apply oi|(apply fi<;>intro h)|refine⟨_,rfl,?_⟩|exact rfl)
         all_goals try exact⟨KP⟩
         all_goals try exact⟨KW⟩
         all_goals try exact⟨by dsimp only;rw[hws]⟩
        ·have hnx:bC p ⟨5,nm,ag,ex⟩ k v=k+1:=by rw[bC,if_neg (fun h=>hv0 h.2)]
         rw[hnx]at hRk
         have hwn:=rZ hp hI hkl hk rfl
         repeat' ((conv=>whnf);first|apply Wx|apply W6|apply oi|(apply fi<;>intro h)|refine⟨k,(Ah.tr ⟨_,nm,ag,ex⟩),rfl,ab hk,?_⟩|refine⟨_,rfl,?_⟩|exact rfl)
         all_goals try exact⟨KP⟩
         all_goals try exact KX
         refine cg (gv) ?_
         repeat' ((conv=>whnf);first|apply Wx|apply W6|apply oi|(apply fi<;>intro h)|refine⟨_,rfl,?_⟩|exact rfl)
         all_goals try exact⟨KP⟩
         refine cg (g) ?_
         repeat' ((conv=>whnf);first|apply Wx|apply W6|apply oi|(apply fi<;>intro h)|refine⟨_,rfl,?_⟩|exact rfl)
         all_goals try exact⟨KP⟩
         all_goals try exact KX
         all_goals try(exfalso;simp at h;exact hv0 h)
         all_goals try exact⟨⟨by simp <;> omega,by simp <;> omega⟩⟩
         conv=>whnf
         refine⟨⟨(m,k+1,vals,s2),by dsimp only;omega,hI.at (by have:=hI.lo;dsimp only;omega) (by dsimp only;omega),hvl,hV2,hRk⟩,?_,KD⟩
         repeat' ((conv=>whnf);first|apply Wx|apply W6|apply oi|(apply fi<;>intro h)|refine⟨_,rfl,?_⟩|exact rfl)
         all_goals try exact⟨KP⟩
         all_goals try exact⟨KW⟩
         all_goals try exact⟨by dsimp only;rw[hwn,List.map_append];rfl⟩
       ·rw[if_pos rfl]at hRk
        subst hRk
        dsimp only[Rr.val,Rr.st,Rr.code]
        repeat' ((conv=>whnf);first|apply Wx|apply W6|apply oi|(apply fi<;>intro h)|refine⟨k,(Ah.tr ⟨_,nm,ag,ex⟩),rfl,ab hk,?_⟩|refine⟨_,rfl,?_⟩|exact rfl)
        all_goals try exact⟨KP⟩
        all_goals try exact KX
        refine cg (gv) ?_
        repeat' ((conv=>whnf);first|apply Wx|apply W6|apply oi|(apply fi<;>intro h)|refine⟨_,rfl,?_⟩|exact rfl)
        all_goals try exact⟨KP⟩
        refine cg (g) ?_
        repeat' ((conv=>whnf);first|apply Wx|apply W6|apply oi|(apply fi<;>intro h)|refine⟨_,rfl,?_⟩|exact rfl)
        all_goals try exact⟨KP⟩
        all_goals try exact KX
   ·have hke':k=en:=by have:=hI.hi;omega
    have h7:ln.faa=7:=by omega
    have how:aH p k=f:=by obtain⟨_,h|h⟩:=hI.own7 hp hk h7;exact h.2;omega
    rw[bv hk h7,if_pos how]at hRk
    subst hRk
    dsimp only[Rr.val,Rr.st,Rr.code]
    repeat' ((conv=>whnf);first|apply Wx|apply W6|apply oi|(apply fi<;>intro h)|refine⟨_,rfl,?_⟩|exact rfl)
    all_goals try exact⟨KP⟩
    all_goals try exact KX
end Go.Proofs.Ytjmplnfiabmalaa
