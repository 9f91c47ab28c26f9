/- The law FnRuleBytes answers true for every input and leaves its argument as it was. Conditions: none beyond the given statement. -/
import Derived.Test.YtogdbgmiigfmfaaGg
namespace Go.Proofs.Ytogdbgmiigfmfaa
open Go.Sim
set_option maxRecDepth 100000
set_option maxHeartbeats 4000000
def opGood (c a:Int):Prop:=0≤c∧c≤17∧(c=0→-2147483648≤a∧a≤2147483647)∧(c=1∨c=2∨c=3∨c=4∨c=10∨c=11→-32768≤a∧a≤32767)∧(c=16→0≤a∧a≤65535)∧(c=12∨c=13∨c=14∨c=15→0≤a∧a≤255)∧(5≤c∧c≤9∨c=17→a=0)
def BodyL (C:Cx)(line:Int):Prop:=∃y,0≤line∧C.p[line.toNat]?=some y∧y.fKind≠0
structure GoodI (C:Cx) (n:Nat) (it:TItem):Prop where
 line:BodyL C it.fLine
 jump:it.fOp.fCode=10∨it.fOp.fCode=11→0≤it.fOp.fArg∧it.fOp.fArg≤n
 op:¬(it.fOp.fCode=10∨it.fOp.fCode=11)→opGood it.fOp.fCode it.fOp.fArg
 enter:it.fOp.fCode≠13
theorem GoodI.mono {C:Cx}{n m:Nat}{it:TItem}(h:GoodI C n it)(hn:n≤m):GoodI C m it:=⟨h.line,fun k=>by have:=h.jump k;omega,h.op,h.enter⟩
def HeadI (C:Cx)(g:Nat)(it:TItem):Prop:=(it.fOp.fCode=13∨it.fOp.fCode=15)∧it.fLine=g∧it.fOp.fArg=C.words
def InvI (C:Cx)(g:Nat)(l:List TItem):Prop:=∃h t,l=h::t∧HeadI C g h∧∀it∈t,GoodI C l.length it
def codeAt (l:List TItem)(i:Nat):Option Int:=(l[i]?).map (·.fOp.fCode)
def JP (l:List TItem)(j:Int):Prop:=0≤j∧∃c,codeAt l j.toNat=some c∧(c=10∨c=11)
structure Tr2 (C:Cx) (g:Nat) (a b:Gs):Prop where
 ext:∀i c,codeAt a.items i=some c→codeAt b.items i=some c
 inv:InvI C g a.items→InvI C g b.items
 most:a.most≤60→b.most≤60
theorem Tr2.refl {C:Cx}{g:Nat}(s:Gs):Tr2 C g s s:=⟨fun _ _ h=>h,id,id⟩
theorem Tr2.trans {C:Cx}{g:Nat}{a b c:Gs}(h:Tr2 C g a b)(h':Tr2 C g b c):Tr2 C g a c:=⟨fun i v x=>h'.ext i v (h.ext i v x),fun x=>h'.inv (h.inv x),fun x=>h'.most (h.most x)⟩
theorem codeAt_lt {l:List TItem}{i:Nat}{c:Int}(h:codeAt l i=some c):i < l.length:=by
 unfold codeAt at h
 cases hi:l[i]? with
 | none=>rw[hi]at h;cases h
 | some x=>exact lt_of_get hi
theorem codeAt_some {l:List TItem}{i:Nat}(h:i < l.length):∃c,codeAt l i=some c:=by
 obtain⟨x,hx⟩:=get_of_lt h
 exact⟨x.fOp.fCode,by rw[codeAt,hx];rfl⟩
theorem JP.ext {a b:List TItem}(h:∀i c,codeAt a i=some c→codeAt b i=some c){j:Int}(hj:JP a j):JP b j:=by
 obtain⟨h0,c,h1,h2⟩:=hj
 exact⟨h0,c,h _ _ h1,h2⟩
theorem Tr2.len {C:Cx}{g:Nat}{a b:Gs}(h:Tr2 C g a b):a.items.length≤b.items.length:=by
 rcases Nat.eq_zero_or_pos a.items.length with h0|h0
 ·omega
 ·obtain⟨c,hc⟩:=codeAt_some (l:=a.items) (i:=a.items.length - 1) (by omega)
  have:=codeAt_lt (h.ext _ _ hc)
  omega
theorem emit_tr {C:Cx}{g:Nat}{s:Gs}{d code arg line:Int}{chain:List Int}(hl:BodyL C line)(h1:code=10∨code=11→0≤arg∧arg≤s.items.length)(h2:¬(code=10∨code=11)→opGood code arg)(h3:code≠13):Tr2 C g s (emitG C s d code arg line chain):=by
 refine⟨fun i c h=>?_,fun⟨h,t,e1,e2,e3⟩=>?_,id⟩
 ·have:=codeAt_lt h
  unfold codeAt at h ⊢
  simp only[emitG]
  rw[List.getElem?_append_left this]
  exact h
 ·refine⟨h,t++[mkItem C s d code arg line chain],by simp[emitG,e1],e2,fun it hit=>?_⟩
  have hn:s.items.length≤(emitG C s d code arg line chain).items.length:=by simp[emitG]
  rw[List.mem_append,List.mem_singleton]at hit
  rcases hit with hit|rfl
  ·exact(e3 it hit).mono hn
  ·exact⟨hl,fun k=>by have:=h1 k;simp only[mkItem];omega,h2,h3⟩
theorem setArg_code {l:List TItem}{j v:Int}(i:Nat):codeAt (setArg l j v) i=codeAt l i:=by
 unfold setArg
 split
 ·split
  ·rename_i x hx
   unfold codeAt
   by_cases h:j.toNat=i
   ·subst h
    rw[List.getElem?_set_self (lt_of_get hx),hx]
    rfl
   ·rw[List.getElem?_set_ne h]
  ·rfl
 ·rfl
theorem setArg_inv {C:Cx}{g:Nat}{l:List TItem}{j:Int}(h:InvI C g l)(hj:JP l j):InvI C g (setArg l j l.length):=by
 obtain⟨a,t,e1,e2,e3⟩:=h
 obtain⟨h0,c,h1,h2⟩:=hj
 unfold setArg
 rw[if_pos h0]
 cases hx:l[j.toNat]? with
 | none=>simp only;exact⟨a,t,e1,e2,e3⟩
 | some x=>
  have hc:x.fOp.fCode=c:=by rw[codeAt,hx]at h1;simpa using h1
  have hj0:j.toNat≠0:=by
   intro h
   rw[h,e1]at hx
   simp at hx
   subst hx
   have:=e2.1
   omega
  obtain⟨m,hm⟩:∃m,j.toNat=m+1:=⟨j.toNat - 1,by omega⟩
  rw[hm,e1,List.getElem?_cons_succ]at hx
  have hg:=e3 x (List.mem_of_getElem? hx)
  refine⟨a,t.set m ⟨⟨x.fOp.fCode,l.length⟩,x.fLine,x.fStart,x.fChain,x.fDepth,x.fEntered⟩,?_,e2,fun it hit=>?_⟩
  ·rw[e1,hm];rfl
  ·rw[List.length_set]
   rcases List.mem_or_eq_of_mem_set hit with hit|rfl
   ·exact e3 it hit
   ·exact⟨hg.line,fun _=>by simp only;omega,fun k=>absurd (by rw[hc];exact h2) k,hg.enter⟩
theorem setArg_tr {C:Cx}{g:Nat}{s:Gs}{j:Int}(hj:JP s.items j):Tr2 C g s ⟨setArg s.items j s.items.length,s.most,s.start⟩:=
 ⟨fun i c h=>by rw[setArg_code];exact h,fun h=>setArg_inv h hj,id⟩
theorem patchL_tr {C:Cx}{g:Nat}:∀(js:List Int) {s:Gs},(∀j∈js,JP s.items j)→Tr2 C g s ⟨patchL s.items s.items.length js,s.most,s.start⟩
 | [],s,_=>Tr2.refl s
 | j::js,s,h=>by
  have h1:=setArg_tr (C:=C) (g:=g) (s:=s) (h j (by simp))
  have h2:=patchL_tr (C:=C) (g:=g) js (s:=⟨setArg s.items j s.items.length,s.most,s.start⟩) fun i hi=>(h i (by simp[hi])).ext h1.ext
  simp only[setArg_len']at h2
  exact h1.trans h2
theorem emit_JP {C:Cx}{s:Gs}{d code arg line:Int}{chain:List Int}(h:code=10∨code=11):JP (emitG C s d code arg line chain).items (s.items.length:Int):=by
 refine⟨by omega,code,?_,h⟩
 rw[codeAt,Int.toNat_natCast]
 simp[emitG,mkItem]
theorem exs_len:∀(es:List Ex),es.length≤(exToks es).length
 | []=>Nat.zero_le _
 | a::es=>by
  have:=exs_len es
  have:=a.toks_pos
  rw[exToks,List.length_append,List.length_cons];omega
section
variable {C:Cx} {x:Sc} {ins:List Nat} {rep:Sc→List Nat→Nat→Nat→Int→Gs→Gs} {line:Nat} {G:Nat}
theorem place_good (hC:CxOk C){y:Sc}(hf:0≤y.first∧y.first≤200){d i:Int}(hd:-100≤d∧d≤2000)(hi:-2≤i∧i≤100)(store:Bool):¬(placeC C store=10∨placeC C store=11)∧placeC C store≠13∧opGood (placeC C store) (placeA C y d i):=by
 have ha:=hC.args
 have hk:aboveK C y i≥-10∧aboveK C y i≤400:=by unfold aboveK;split <;> omega
 have hc:1≤placeC C store∧placeC C store≤4:=by unfold placeC;split <;> split <;> omega
 have hA:-10000≤placeA C y d i∧placeA C y d i≤10000:=by unfold placeA;repeat' split <;> omega
 unfold opGood
 omega
theorem load_tr (hC:CxOk C){y:Sc}(hf:0≤y.first∧y.first≤200){d i line:Int}(hd:-100≤d∧d≤2000)(hi:-2≤i∧i≤100)(hl:BodyL C line)(s:Gs):Tr2 C G s (loadG C y s d i line):=by
 obtain⟨h1,h2,h3⟩:=place_good hC hf hd hi false
 exact emit_tr hl (fun k=>absurd k h1) (fun _=>h3) h2
theorem store_tr (hC:CxOk C){y:Sc}(hf:0≤y.first∧y.first≤200){d i line:Int}(hd:-100≤d∧d≤2000)(hi:-2≤i∧i≤100)(hl:BodyL C line)(s:Gs)(chain:List Int):Tr2 C G s (storeG C y s d i line chain):=by
 obtain⟨h1,h2,h3⟩:=place_good hC hf hd hi true
 exact emit_tr hl (fun k=>absurd k h1) (fun _=>h3) h2
theorem zero_good:opGood 0 0:=by unfold opGood;omega
theorem stores_tr (hC:CxOk C){y:Sc}(hf:0≤y.first∧y.first≤200){chain:List Int}{line:Int}(hl:BodyL C line):∀(n:Nat) (d:Int) (s:Gs),n≤50→-100≤d - n→d≤2000→Tr2 C G s (storesG C y chain line n d s)
 | 0,d,s,_,_,_=>Tr2.refl s
 | n+1,d,s,h0,h1,h2=>by
  rw[storesG]
  exact(store_tr hC hf (by omega) (by omega) hl s chain).trans (stores_tr hC hf hl n (d - 1) _ (by omega) (by omega) (by omega))
theorem zeros_tr (hC:CxOk C){y:Sc}(hf:0≤y.first∧y.first≤200){chain:List Int}{line d:Int}(hl:BodyL C line)(hd:-100≤d∧d≤1999):∀(n i:Nat) (s:Gs),i+n≤50→Tr2 C G s (zerosG C y chain line d n i s)
 | 0,i,s,_=>Tr2.refl s
 | n+1,i,s,h=>by
  rw[zerosG]
  exact((emit_tr hl (fun k=>by omega) (fun _=>zero_good) (by omega)).trans (store_tr hC hf (by omega) (by omega) hl _ chain)).trans (zeros_tr hC hf hl hd n (i+1) _ (by omega))
def RepT (C:Cx)(rep:Sc→List Nat→Nat→Nat→Int→Gs→Gs)(G:Nat)(x:Sc)(ins:List Nat):Prop:=
 ∀(line g:Nat) (d:Int) (s:Gs),BodyL C line→isFun C g→-10 * (ins.length:Int)≤d→d≤1000+30 * ins.length+21→replB C ins g s.items.length=true→Tr2 C G s (rep x ins line g d s)
theorem fin_tr (hC:CxOk C)(hx:ScOk C x ins)(hi:ins.length≤4)(hrep:RepT C rep G x ins)(hl:BodyL C line){t:TTok}(ht:tokOk t=true){d:Int}(h1:-10 * (ins.length:Int)≤d)(h2:d≤1000+30 * ins.length+21)(s:Gs):Tr2 C G s (finG C rep x ins line t d s):=by
 obtain⟨e,e1,e2,e3,e4,e5⟩:=hx.endE hC
 have hfi:=hx.first
 have hli:=idxOf_le x.locals t.fName
 unfold tokOk at ht
 unfold finG
 split
 ·rename_i h0
  rw[if_pos h0]at ht
  simp only[Bool.and_eq_true,within_iff]at ht
  exact emit_tr hl (fun k=>by omega) (fun _=>by unfold opGood;omega) (by omega)
 ·rename_i h0
  rw[if_neg h0]at ht
  split
  ·exact load_tr hC (by omega) (by omega) (by omega) hl s
  ·rename_i h1
   split
   ·split
    ·rename_i g hg
     obtain⟨_,ln,k1,k2,_⟩:=find_some hg
     split
     ·rename_i hr
      exact hrep line g d s hl ⟨ln,k1,k2⟩ (by omega) (by omega) hr
     ·have hn:=numOf_le C.p g
      have:=lt_of_get k1
      have:=hC.len
      exact emit_tr hl (fun k=>by omega) (fun _=>by unfold opGood;omega) (by omega)
    ·exact Tr2.refl s
   ·rename_i h7
    rw[if_neg h7,if_neg h1]at ht
    simp only[Bool.and_eq_true,within_iff]at ht
    exact emit_tr hl (fun k=>by omega) (fun _=>by unfold opGood;omega) (by omega)
mutual
theorem genE_tr (hC:CxOk C)(hx:ScOk C x ins)(hi:ins.length≤4)(hrep:RepT C rep G x ins)(hl:BodyL C line):∀(e:Ex) (d:Int) (s:Gs),e.ok→-10 * (ins.length:Int)≤d→d+e.toks.length≤1000+30 * ins.length+21→Tr2 C G s (genE C rep x ins line e d s)
 | .node t es,d,s,h,h1,h2=>by
  rw[Ex.toks,List.length_cons]at h2
  rw[genE]
  have hle:=exs_len es
  exact(genEs_tr hC hx hi hrep hl es d s h.2.2 h1 (by omega)).trans (fin_tr hC hx hi hrep hl h.1 (by omega) (by omega) _)
theorem genEs_tr (hC:CxOk C)(hx:ScOk C x ins)(hi:ins.length≤4)(hrep:RepT C rep G x ins)(hl:BodyL C line):∀(es:List Ex) (d:Int) (s:Gs),exsOk es→-10 * (ins.length:Int)≤d→d+(exToks es).length≤1000+30 * ins.length+21→Tr2 C G s (genEs C rep x ins line es d s)
 | [],d,s,_,_,_=>by rw[genEs];exact Tr2.refl s
 | a::es,d,s,h,h1,h2=>by
  rw[exToks,List.length_append]at h2
  rw[genEs]
  have hp:=a.toks_pos
  exact(genE_tr hC hx hi hrep hl a d s h.1 h1 (by omega)).trans (genEs_tr hC hx hi hrep hl es (d+1) _ h.2 (by omega) (by omega))
end
theorem space_tr (hl:BodyL C line)(x:Sc)(d:Int)(s:Gs):Tr2 C G s (spaceG C x line d s):=by
 unfold spaceG
 split
 ·exact emit_tr hl (fun k=>by omega) (fun _=>by unfold opGood;omega) (by omega)
 ·exact Tr2.refl s
theorem pre_tr (hC:CxOk C)(hx:ScOk C x ins)(hi:ins.length≤3)(hl:BodyL C line){g:Nat}(hg:isFun C g){d:Int}(h1:-10 * (ins.length:Int)≤d)(h2:d≤1000+30 * ins.length+21)(s:Gs):Tr2 C G s (preG C x line g d s):=by
 obtain⟨k1,k2⟩:=isFun_locals hC hg
 have hy:=inSc_ok hC hx line hg
 have hf:=hy.first
 rw[List.length_append,List.length_cons,List.length_nil]at hf
 have ht:=topOf_le hC hx
 have ha:=hC.argsN g
 have h0:Tr2 C G s ⟨s.items,max s.most (topOf C x+(localsOf C.p (g:Int)).length),s.start⟩:=⟨fun _ _ h=>h,id,fun h=>by dsimp only;omega⟩
 unfold preG
 exact(h0.trans (stores_tr hC (by omega) hl _ d _ (by omega) (by omega) (by omega))).trans (zeros_tr hC (by omega) hl (by omega) _ _ _ (by omega))
structure LsI (C:Cx) (G f k:Nat) (g0:Gs) (L:Ls):Prop where
 tr:Tr2 C G g0 L.g
 heads:∀v∈L.heads,0≤v∧v≤L.g.items.length
 pos:∀i,f+1≤i→i < k→jumps C.p i→JP L.g.items (atL L.pos i)
 lv:∀j∈L.lv,JP L.g.items j
 len:L.pos.length=C.p.length
theorem LsI.step {f k k':Nat}{g0:Gs}{L L':Ls}(h:LsI C G f k g0 L)(ht:Tr2 C G L.g L'.g)(hh:∀v∈L'.heads,v∈L.heads∨(0≤v∧v≤L'.g.items.length))(hp:∀i,f+1≤i→i < k'→jumps C.p i→(i < k∧atL L'.pos i=atL L.pos i)∨JP L'.g.items (atL L'.pos i))(hv:∀j∈L'.lv,j∈L.lv∨JP L'.g.items j)(hl:L'.pos.length=L.pos.length):LsI C G f k' g0 L':=by
 have hle:=ht.len
 refine⟨h.tr.trans ht,fun v hv=>?_,fun i h1 h2 h3=>?_,fun j hj=>?_,by rw[hl,h.len]⟩
 ·rcases hh v hv with h1|h1
  ·have:=h.heads v h1;omega
  ·exact h1
 ·rcases hp i h1 h2 h3 with⟨k1,k2⟩|k1
  ·rw[k2];exact(h.pos i h1 k1 h3).ext ht.ext
  ·exact k1
 ·rcases hv j hj with h1|h1
  ·exact(h.lv j h1).ext ht.ext
  ·exact h1
theorem LsI.same {f k:Nat}{g0:Gs}{L L':Ls}(h:LsI C G f k g0 L)(ht:Tr2 C G L.g L'.g)(e1:L'.heads=L.heads)(e2:L'.pos=L.pos)(e3:L'.lv=L.lv):LsI C G f k g0 L':=
 h.step ht (fun v hv=> .inl (by rw[←e1];exact hv)) (fun i _ h2 _=> .inl ⟨h2,by rw[e2]⟩) (fun j hj=> .inl (by rw[←e3];exact hj)) (by rw[e2])
theorem LsI.next {f k:Nat}{g0:Gs}{L:Ls}(h:LsI C G f k g0 L)(hj:¬jumps C.p k):LsI C G f (k+1) g0 L:=
 h.step (Tr2.refl _) (fun v hv=> .inl hv) (fun i h1 h2 h3=> .inl ⟨by
  rcases Nat.lt_or_ge i k with h|h
  ·exact h
  ·rw[show i=k by omega]at h3;exact absurd h3 hj,rfl⟩) (fun j hj=> .inl hj) rfl
theorem leave_tr (hC:CxOk C)(hw:C.words≤255){f k k':Nat}{g0:Gs}{L:Ls}(hl:BodyL C (k':Int))(last:Bool)(d:Int)(h:LsI C G f k g0 L):LsI C G f k g0 (leaveG C x k' last d L):=by
 have ha:=hC.args
 have hww:=hC.words
 unfold leaveG
 split
 ·split
  ·exact h.same (emit_tr hl (fun k=>by omega) (fun _=>by unfold opGood;omega) (by omega)) rfl rfl rfl
  ·exact h.same (emit_tr hl (fun k=>by omega) (fun _=>by unfold opGood;omega) (by omega)) rfl rfl rfl
 ·split
  ·exact h
  ·refine h.step (emit_tr hl (fun k=>by omega) (fun k=>by omega) (by omega)) (fun v hv=> .inl hv) (fun i _ h2 _=> .inl ⟨h2,rfl⟩) (fun j hj=>?_) rfl
   simp only[List.mem_append,List.mem_singleton]at hj
   rcases hj with hj|rfl
   ·exact .inl hj
   ·exact .inr (emit_JP (.inl rfl))
theorem atL_heads {l:List Int}{n:Int}(h:∀v∈l,0≤v∧v≤n)(hn:0≤n)(k:Nat):0≤atL l k∧atL l k≤n:=by
 unfold atL
 cases hk:l[k]? with
 | none=>simp only[Option.getD];omega
 | some v=>exact h v (List.mem_of_getElem? hk)
theorem stepA_tr (hC:CxOk C)(hw:C.words≤255)(hx:ScOk C x ins)(hi:ins.length≤4)(hrep:RepT C rep G x ins){e:Nat}(he:endAt C.p x.f=some e){k:Nat}{ln:TLine}(hk:C.p[k]?=some ln)(h0:ln.fKind≠0)(hk1:x.f < k)(hk2:k≤e){base:Int}(hb1:-10 * (ins.length:Int)≤base)(hb2:base≤1000+30 * ins.length){g0:Gs}{L:Ls}(h:LsI C G x.f k g0 L):LsI C G x.f (k+1) g0 (stepA C rep x ins base k ln L):=by
 have hl:BodyL C (k:Int):=⟨ln,by omega,by rw[Int.toNat_natCast];exact hk,h0⟩
 have hkl:k < C.p.length:=lt_of_get hk
 have hka:=kindAt_of hk
 unfold stepA
 split
 ·rename_i h4
  obtain⟨o1,o2,o3,o4⟩:=hx.own4 hC he hk1 hk2 hk h4
  obtain⟨y,_,hy,hy3,_⟩:=elseAt_some o1
  have hJ:=h.pos (ownOf C.p k) o2 o3 (.inl (by rw[kindAt_of hy];exact hy3))
  have t1:Tr2 C G L.g (emitG C L.g base 10 0 k x.chain):=emit_tr hl (fun _=>by omega) (fun k=>by omega) (by omega)
  have t2:=setArg_tr (C:=C) (g:=G) (hJ.ext t1.ext)
  refine h.step (t1.trans t2) (fun v hv=> .inl hv) (fun i h1 h2 h3=>?_) (fun j hj=> .inl hj) (by simp)
  by_cases hik:i=k
  ·subst hik
   refine .inr ?_
   rw[atL_self (by rw[h.len];exact hkl)]
   exact JP.ext t2.ext (emit_JP (.inl rfl))
  ·exact .inl ⟨by omega,atL_set hik⟩
 ·rename_i h4
  split
  ·rename_i h7
   have hnj:¬jumps C.p k:=by unfold jumps;rw[hka];omega
   split
   ·exact(leave_tr hC hw (x:=x) hl true (base+1) (h.same (L':={L with g:=emitG C L.g base 0 0 k x.chain}) (emit_tr hl (fun k=>by omega) (fun _=>zero_good) (by omega)) rfl rfl rfl)).next hnj
   ·split
    ·have hh:=atL_heads h.heads (by omega) (ownOf C.p k)
     exact(h.same (L':={L with g:=emitG C L.g base 10 (atL L.heads (ownOf C.p k)) k x.chain}) (emit_tr hl (fun _=>hh) (fun k=>by omega) (by omega)) rfl rfl rfl).next hnj
    ·exact h.next hnj
  ·rename_i h7
   have hlk:=hC.line _ _ hk
   have hex:=exL_ok (hlk.2.2.2.2 (by omega))
   have h20:=hlk.2.2.2.1
   rw[hex.2]at h20
   have tg:Tr2 C G L.g (genE C rep x ins k (exL ln.fExpr) base ⟨L.g.items,L.g.most,true⟩):=by
    have:=genE_tr hC hx hi hrep hl (exL ln.fExpr) base ⟨L.g.items,L.g.most,true⟩ hex.1 hb1 (by omega)
    exact⟨this.ext,this.inv,this.most⟩
   have hL1:LsI C G x.f k g0 {L with g:=genE C rep x ins k (exL ln.fExpr) base ⟨L.g.items,L.g.most,true⟩,heads:=L.heads.set k L.g.items.length}:=by
    refine h.step tg (fun v hv=>?_) (fun i _ h2 _=> .inl ⟨h2,rfl⟩) (fun j hj=> .inl hj) rfl
    rcases List.mem_or_eq_of_mem_set hv with hv|rfl
    ·exact .inl hv
    ·exact .inr ⟨by omega,by have:=tg.len;simp only;omega⟩
   have hli:=idxOf_le x.locals ln.fName
   obtain⟨_,_,_,_,_,e5⟩:=hx.endE hC
   have hfi:=hx.first
   generalize genE C rep x ins k (exL ln.fExpr) base ⟨L.g.items,L.g.most,true⟩=GE at tg hL1 ⊢
   split
   ·rename_i k1
    have hnj:¬jumps C.p k:=by unfold jumps;rw[hka];omega
    have t2:Tr2 C G GE (storeG C x GE (base+1) (idxOf x.locals ln.fName) k x.chain):=store_tr hC (by omega) (by omega) (by omega) hl _ _
    exact(hL1.same (L':={L with g:=storeG C x GE (base+1) (idxOf x.locals ln.fName) k x.chain,heads:=L.heads.set k L.g.items.length}) t2 rfl rfl rfl).next hnj
   ·split
    ·rename_i k2
     have hnj:¬jumps C.p k:=by unfold jumps;rw[hka];omega
     have t2:Tr2 C G GE (emitG C GE (base+1) 17 0 k x.chain):=emit_tr hl (fun k=>by omega) (fun _=>by unfold opGood;omega) (by omega)
     exact(hL1.same (L':={L with g:=emitG C GE (base+1) 17 0 k x.chain,heads:=L.heads.set k L.g.items.length}) t2 rfl rfl rfl).next hnj
    ·split
     ·rename_i k6
      have hnj:¬jumps C.p k:=by unfold jumps;rw[hka];omega
      exact(leave_tr hC hw (x:=x) hl false (base+1) hL1).next hnj
     ·refine hL1.step (emit_tr hl (fun _=>by omega) (fun k=>by omega) (by omega)) (fun v hv=> .inl hv) (fun i h1 h2 h3=>?_) (fun j hj=> .inl hj) (by simp)
      by_cases hik:i=k
      ·subst hik
       refine .inr ?_
       rw[atL_self (by rw[h.len];exact hkl)]
       exact emit_JP (.inr rfl)
      ·exact .inl ⟨by omega,atL_set hik⟩
theorem stepB_tr (hC:CxOk C)(hx:ScOk C x ins){e:Nat}(he:endAt C.p x.f=some e){k:Nat}{ln:TLine}(hk:C.p[k]?=some ln)(hk1:x.f < k)(hk2:k≤e){g0:Gs}{L:Ls}(h:LsI C G x.f (k+1) g0 L):LsI C G x.f (k+1) g0 (stepB C x k ln L):=by
 unfold stepB
 split
 ·rename_i h7
  have hke:k≠e:=fun hh=>by
   rcases(hx.own7 hC he hk1 hk2 hk h7.1).2 with⟨_,o⟩|⟨o,_⟩
   ·exact h7.2 o
   ·omega
  obtain⟨k1,k2,k3,_,_⟩:=exit_to hC hx he hk1 (by omega) hk h7.1
  exact h.same (setArg_tr (h.pos _ k1 (by omega) k3)) rfl rfl rfl
 ·exact h
theorem runL_tr (hC:CxOk C)(hw:C.words≤255)(hx:ScOk C x ins)(hi:ins.length≤4)(hrep:RepT C rep G x ins){e:Nat}(he:endAt C.p x.f=some e){base:Int}(hb1:-10 * (ins.length:Int)≤base)(hb2:base≤1000+30 * ins.length)(h0:∀i y,x.f < i→i≤e→C.p[i]?=some y→y.fKind≠0){g0:Gs}:∀(n k:Nat) (L:Ls),x.f < k→k+n=e+1→LsI C G x.f k g0 L→LsI C G x.f (e+1) g0 (runL C rep x ins base n k L)
 | 0,k,L,_,h2,h=>by rw[runL,←h2];exact h
 | n+1,k,L,h1,h2,h=>by
  obtain⟨_,_,_,_,_,hel⟩:=endAt_some he
  obtain⟨ln,hk⟩:=get_of_lt (l:=C.p) (k:=k) (by omega)
  rw[runL,hk]
  exact runL_tr hC hw hx hi hrep he hb1 hb2 h0 n (k+1) _ (by omega) (by omega) (stepB_tr hC hx he hk h1 (by omega) (stepA_tr hC hw hx hi hrep he hk (h0 k ln h1 (by omega) hk) h1 (by omega) hb1 hb2 h))
theorem linesG_tr (hC:CxOk C)(hw:C.words≤255)(hx:ScOk C x ins)(hi:ins.length≤4)(hrep:RepT C rep G x ins){base:Int}(hb1:-10 * (ins.length:Int)≤base)(hb2:base≤1000+30 * ins.length)(s:Gs):Tr2 C G s (linesG C rep x ins base s).1∧∀j∈(linesG C rep x ins base s).2,JP (linesG C rep x ins base s).1.items j:=by
 obtain⟨ln,h1,h2⟩:=hx.fn
 obtain⟨e,h3,_,_,h4⟩:=hC.fn _ _ h1 h2
 obtain⟨e',g3,g4,g4',g5,_⟩:=hx.endE hC
 rw[h3]at g3
 injection g3 with g3
 subst g3
 have h:=runL_tr hC hw hx hi hrep h3 hb1 hb2 (fun i y k1 k2 hy=>by
  by_cases hie:i=e
  ·subst hie
   obtain⟨z,hz,h7⟩:=endAt_kind h3
   rw[hy]at hz
   injection hz with hz
   subst hz
   omega
  ·exact(h4 i y (by omega) (by omega) hy).1) (g0:=s) (e - x.f) (x.f+1) (startL C s) (by omega) (by omega) ⟨Tr2.refl s,fun v hv=>by
   simp only[startL,List.mem_replicate]at hv
   omega,fun i k1 k2 _=>by omega,fun j hj=>(by cases hj),by simp[startL]⟩
 unfold linesG
 rw[g5]
 exact⟨h.tr,h.lv⟩
end
theorem repN_tr {C:Cx}{G:Nat}(hC:CxOk C)(hw:C.words≤255):∀(lev:Nat) {x:Sc} {ins:List Nat},ScOk C x ins→RepT C (repN C lev) G x ins
 | 0,x,ins,hx,line,g,d,s,_,_,_,_,_=>Tr2.refl s
 | lev+1,x,ins,hx,line,g,d,s,hl,hg,h1,h2,hr=>by
  obtain⟨r1,r2,r3,_⟩:=replB_spec hr
  have hin:=hC.inl
  have hy:=inSc_ok hC hx line hg
  have ha:=hC.argsN g
  have hil:(ins++[g]).length=ins.length+1:=by simp
  have t1:=pre_tr (G:=G) hC hx (by omega) hl hg h1 h2 s
  have t2:=space_tr (G:=G) hl x (d - argsN C.p g) (preG C x line g d s)
  have t3:=linesG_tr (G:=G) hC hw hy (by omega) (repN_tr hC hw lev hy) (base:=d - argsN C.p g) (by omega) (by omega) (spaceG C x line (d - argsN C.p g) (preG C x line g d s))
  exact((t1.trans t2).trans t3.1).trans (patchL_tr _ t3.2)
theorem compG_tr {C:Cx}(hC:CxOk C)(hw:C.words≤255){g:Nat}(hg:isFun C g)(e5:C.args=argsN C.p g):InvI C g (compG C g).items∧(compG C g).most≤60:=by
 have hS:ScOk C (outerSc C g) [g]:=⟨hg,rfl,⟨Int.le_refl _,by simp[outerSc]⟩,rfl,by simp[outerSc],fun _=>e5,rfl⟩
 have hww:=hC.words
 have t:=(linesG_tr (G:=g) hC hw hS (by simp) (repN_tr hC hw C.b.fInline.toNat hS) (base:=C.words) (by simp only[List.length_cons,List.length_nil];omega) (by simp only[List.length_cons,List.length_nil];omega) (headG C g)).1
 obtain⟨l1,l2⟩:=isFun_locals hC hg
 refine⟨t.inv ⟨_,[],rfl,⟨?_,rfl,rfl⟩,fun it h=>by cases h⟩,t.most ?_⟩
 ·simp only[mkItem];split <;> omega
 ·show(localsOf C.p (g:Int)).length - C.args≤60;omega
theorem compileF_inv {p:List TLine}{f:Int}{b:TBuild}(hs:smallT 1048576 (.lst 4 (p.map TLine.tr)))(h1:programOk p=true)(h2:buildOk b=true)(h3:0≤f)(h4:f < (funs p).length):∃(g:Nat) (C:Cx),(funs p)[f.toNat]?=some g∧C.p=foldIf p b∧0≤C.words∧C.words≤255∧InvI C g (compileF p f b):=by
 obtain⟨g,C,k1,k2,k3,k4,k5,k6,k7,k8,k9⟩:=compiled_of hs h1 h2 h3 h4
 have hb:0≤b.fInline∧b.fInline≤3:=by
  unfold buildOk at h2
  simp only[Bool.and_eq_true,within_iff]at h2
  exact h2.2
 have hpg:=(PgOk_of hs h1).foldIf b
 have ha:(0:Int)≤(argsN (foldIf p b) g:Int)∧(argsN (foldIf p b) g:Int)≤4:=by have:=k2.argsN g;rw[k3]at this;omega
 have hC0:CxOk (ctx (foldIf p b) f.toNat g b 0):=hpg.cx ha (by omega) hb
 obtain⟨y,y1,y2⟩:=k7
 have hf0:isFun (ctx (foldIf p b) f.toNat g b 0) g:=⟨y,by rw[k3]at y1;exact y1,y2⟩
 have h60:=(compG_tr hC0 (by show(0:Int)≤255;omega) hf0 rfl).2
 have hw:=k2.words
 refine⟨g,C,k1,k3,hw.1,by omega,?_⟩
 rw[k8]
 exact(compG_tr k2 (by omega) ⟨y,y1,y2⟩ k5).1
end Go.Proofs.Ytogdbgmiigfmfaa
namespace Go.Proofs.Ytogdbgmiigfmfaa
open Go.Sim
set_option maxRecDepth 100000
set_option maxHeartbeats 4000000
def opArg (c:Int):Int×Bool:=
 if c=0 then(4,true)else if c=1∨c=2∨c=3∨c=4∨c=10∨c=11 then(2,true)
 else if c=16 then(2,false)else if c=12∨c=13∨c=14∨c=15 then(1,false)else(0,false)
def opSize (c:Int):Int:=if within c 0 17 then(opArg c).1+1 else 0
theorem opArg_le (c:Int):0≤(opArg c).1∧(opArg c).1≤4:=by
 unfold opArg
 repeat' split
 all_goals simp
theorem opSize_le (c:Int):0≤opSize c∧opSize c≤5:=by
 have:=opArg_le c
 unfold opSize
 split <;> omega
abbrev rArg (c:Int):Res:= .tup [.c (.t (.int .i64 (opArg c).1)),.c (.t (.bool (opArg c).2))]
theorem s_spec_l07Width (c:Int):Sim.Spec Try.prog 82 [tvI c] (rArg c):=by
 refine spec_of_W hΓ hmix Try.func82 rfl (by decide) rfl ?_
 repeat' ((conv=>whnf);first|refine Or.inl ?_|apply oi|(apply fi<;>intro h)|refine⟨_,rfl,?_⟩|((with_reducible show _=_);rfl))
 all_goals try((with_reducible refine Obl.mk ?_);exact KO)
 all_goals(refine⟨?_⟩;simp_all[opArg])
theorem s_spec_OpSize (c:Int):Sim.Spec Try.prog 33 [tvI c] (rI (opSize c)):=by
 refine spec_of_W hΓ hmix Try.func33 rfl (by decide) rfl ?_
 have hb:=s_spec_l01In c 0 17
 have ha:=s_spec_l07Width c
 have hle:=opArg_le c
 unfold opSize
 cases hw:within c 0 17 with
 | false=>
  rw[hw]at hb
  repeat' ((conv=>whnf);first|refine Or.inl ?_|apply oi|(apply fi<;>intro h)|refine ci hb (ai rfl (ai rfl (ai rfl trivial))) ?_|refine⟨_,rfl,?_⟩|((with_reducible show _=_);rfl))
  all_goals try((with_reducible refine Obl.mk ?_);exact KO)
 | true=>
  rw[hw]at hb
  repeat' ((conv=>whnf);first|refine Or.inl ?_|apply oi|(apply fi<;>intro h)|refine ci hb (ai rfl (ai rfl (ai rfl trivial))) ?_|refine ci ha (ai rfl trivial) ?_|refine⟨_,rfl,?_⟩|((with_reducible show _=_);rfl))
  all_goals try((with_reducible refine Obl.mk ?_);exact KO)
  exact⟨by rw[IntWalk.i64_in _ (by omega),Int.add_comm];rfl⟩
def near (l:List TPlace):Bool:=l.all fun x=>within x.fOffset 0 1000000
theorem near_at {l:List TPlace}{k:Nat}{x:TPlace}(hx:l[k]?=some x):near (l.drop k)=(within x.fOffset 0 1000000 && near (l.drop (k+1))):=by
 rw[drop_at hx,near,List.all_cons];rfl
theorem near_mem {l:List TPlace}(h:near l=true):∀x∈l,0≤x.fOffset∧x.fOffset≤1000000:=fun x hx=>within_iff.1 (List.all_eq_true.1 h x hx)
theorem s_spec_l12Near (l:List TPlace)(hl:l.length≤1048576):Sim.Spec Try.prog 151 [tvL 8 (l.map TPlace.tr)] (rB (near l)):=by
 refine spec_of_W hΓ hmix Try.func151 rfl (by decide) rfl ?_
 have hlen:(l.map TPlace.tr).length=l.length:=by simp
 repeat' ((conv=>whnf);first|refine Or.inl ?_|apply oi|(apply fi<;>intro h)|refine⟨_,rfl,?_⟩|((with_reducible show _=_);rfl))
 all_goals try((with_reducible refine Obl.mk ?_);exact KO)
 conv=>whnf
 refine⟨{k:Nat // k≤l.length∧near (l.drop k)=near l},fun k=>⟨[(0,.r (.c (.t (.lst 8 (l.map TPlace.tr))))),(3,tI .i64 (k.1:Int))],[],[]⟩,fun k=>l.length - k.1,⟨0,by omega,rfl⟩,?_,?_⟩
 ·skip
  repeat' ((conv=>whnf);first|refine Or.inl ?_|apply oi|(apply fi<;>intro h)|refine⟨_,rfl,?_⟩|((with_reducible show _=_);rfl))
  all_goals try((with_reducible refine Obl.mk ?_);exact KO)
 intro⟨k,hk,hr⟩
 dsimp only
 by_cases hlt:k < l.length
 ·obtain⟨x,hx⟩:=get_of_lt hlt
  have hb:=s_spec_l01In x.fOffset 0 1000000
  rw[near_at hx]at hr
  cases hw:within x.fOffset 0 1000000 with
  | false=>
   rw[hw]at hb hr
   repeat' ((conv=>whnf);first|refine Or.inl ?_|apply oi|(apply fi<;>intro h)|refine⟨k,x.tr,rfl,map_get hx,?_⟩|refine ci hb (ai rfl (ai rfl (ai rfl trivial))) ?_|refine⟨_,rfl,?_⟩|((with_reducible show _=_);rfl))
   all_goals try((with_reducible refine Obl.mk ?_);exact KO)
   all_goals try exact KX
   all_goals exact⟨by rw[←hr];rfl⟩
  | true=>
   rw[hw,Bool.true_and]at hr
   rw[hw]at hb
   repeat' ((conv=>whnf);first|refine Or.inl ?_|apply oi|(apply fi<;>intro h)|refine⟨k,x.tr,rfl,map_get hx,?_⟩|refine ci hb (ai rfl (ai rfl (ai rfl trivial))) ?_|refine⟨_,rfl,?_⟩|((with_reducible show _=_);rfl))
   all_goals try((with_reducible refine Obl.mk ?_);exact KO)
   all_goals try exact KX
   conv=>whnf
   refine⟨⟨k+1,by omega,hr⟩,?_,by dsimp only;omega⟩
   repeat' ((conv=>whnf);first|refine Or.inl ?_|apply oi|(apply fi<;>intro h)|refine⟨_,rfl,?_⟩|((with_reducible show _=_);rfl))
   all_goals try((with_reducible refine Obl.mk ?_);exact KO)
   all_goals try exact⟨K1⟩
 ·have hge:l.length≤k:=by omega
  rw[List.drop_eq_nil_of_le hge]at hr
  repeat' ((conv=>whnf);first|refine Or.inl ?_|apply oi|(apply fi<;>intro h)|refine⟨_,rfl,?_⟩|((with_reducible show _=_);rfl))
  all_goals try((with_reducible refine Obl.mk ?_);exact KO)
  all_goals try exact KX
  exact⟨by rw[←hr];rfl⟩
def ruleOf (x:TPlace):TRule:=⟨x.fOffset,x.fOffset+opSize x.fItem.fOp.fCode,x.fItem.fEntered,x.fItem.fDepth⟩
def joins (r s:TRule):Bool:=r.fEnd==s.fStart && (r.fFrame==s.fFrame && r.fDepth==s.fDepth)
def addRule (acc:List TRule)(s:TRule):List TRule:=match acc.getLast? with
 | some r=>if joins r s then acc.dropLast++[⟨r.fStart,s.fEnd,r.fFrame,r.fDepth⟩]else acc++[s]
 | none=>[s]
def rulesOf (l:List TPlace):List TRule:=if near l then l.foldl (fun a x=>addRule a (ruleOf x)) []else []
theorem nil_or_snoc {α:Type}(l:List α):l=[]∨∃ini r,l=ini++[r]:=by
 rcases List.eq_nil_or_concat l with h|⟨a,b,h⟩
 ·exact .inl h
 ·exact .inr ⟨a,b,by rw[h,List.concat_eq_append]⟩
theorem addRule_snoc (ini:List TRule)(r s:TRule):addRule (ini++[r]) s=if joins r s then ini++[⟨r.fStart,s.fEnd,r.fFrame,r.fDepth⟩]else ini++[r]++[s]:=by
 simp[addRule]
theorem addRule_len (acc:List TRule)(s:TRule):(addRule acc s).length≤acc.length+1:=by
 rcases nil_or_snoc acc with rfl|⟨ini,r,rfl⟩
 ·simp[addRule]
 ·rw[addRule_snoc]
  split <;> simp
abbrev RulIx (l:List TPlace):={q:Nat×List TRule // q.1≤l.length∧q.2.length≤q.1∧(l.drop q.1).foldl (fun a x=>addRule a (ruleOf x)) q.2=l.foldl (fun a x=>addRule a (ruleOf x)) []}
theorem s_spec_RulesOf (l:List TPlace)(hl:l.length≤1048576):Sim.Spec Try.prog 124 [tvL 8 (l.map TPlace.tr)] (rL 4 ((rulesOf l).map TRule.tr)):=by
 refine spec_of_W hΓ hmix Try.func124 rfl (by decide) rfl ?_
 have hlen:(l.map TPlace.tr).length=l.length:=by simp
 have hn0:=s_spec_l12Near l hl
 unfold rulesOf
 cases hn:near l with
 | false=>
  rw[hn]at hn0
  rw[if_neg (by simp)]
  repeat' ((conv=>whnf);first|refine Or.inl ?_|apply oi|(apply fi<;>intro h)|refine ci hn0 (ai rfl trivial) ?_|refine⟨_,rfl,?_⟩|((with_reducible show _=_);rfl))
  all_goals try((with_reducible refine Obl.mk ?_);exact KO)
 | true=>
  rw[hn]at hn0
  have hmem:=near_mem hn
  rw[if_pos rfl]
  repeat' ((conv=>whnf);first|refine Or.inl ?_|apply oi|(apply fi<;>intro h)|refine ci hn0 (ai rfl trivial) ?_|refine⟨_,rfl,?_⟩|((with_reducible show _=_);rfl))
  all_goals try((with_reducible refine Obl.mk ?_);exact KO)
  conv=>whnf
  refine⟨RulIx l,fun q=>⟨[(0,.r (.c (.t (.lst 8 (l.map TPlace.tr))))),(3,.r (.c (.own (8,0,0)))),(4,tI .i64 (q.1.1:Int))],[((8,0,0),some (.arr true 4 (q.1.2.map TRule.tr)))],[8]⟩,fun q=>l.length - q.1.1,⟨(0,[]),by simp,by simp,by simp⟩,?_,?_⟩
  ·skip
   repeat' ((conv=>whnf);first|refine Or.inl ?_|apply oi|(apply fi<;>intro h)|refine⟨_,rfl,?_⟩|((with_reducible show _=_);rfl))
   all_goals try((with_reducible refine Obl.mk ?_);exact KO)
  intro⟨⟨k,acc⟩,hk,hal,hr⟩
  dsimp only at hk hal hr ⊢
  by_cases hlt:k < l.length
  ·obtain⟨x,hx⟩:=get_of_lt hlt
   have hxm:=hmem x (List.mem_of_getElem? hx)
   have hz:=opSize_le x.fItem.fOp.fCode
   have ho:=s_spec_OpSize x.fItem.fOp.fCode
   have hru:ruleOf x=⟨x.fOffset,x.fOffset+opSize x.fItem.fOp.fCode,x.fItem.fEntered,x.fItem.fDepth⟩:=rfl
   have hw1:IntKind.i64.wrap (x.fOffset+opSize x.fItem.fOp.fCode)=x.fOffset+opSize x.fItem.fOp.fCode:=IntWalk.i64_in _ (by omega)
   rw[drop_at hx,List.foldl_cons]at hr
   have hal2:=addRule_len acc (ruleOf x)
   rcases nil_or_snoc acc with rfl|⟨ini,r,rfl⟩
   ·skip
    repeat' ((conv=>whnf);first|refine Or.inl ?_|apply oi|(apply fi<;>intro h)|refine⟨k,x.tr,rfl,map_get hx,?_⟩|refine ci ho (ai rfl trivial) ?_|refine⟨_,rfl,?_⟩|((with_reducible show _=_);rfl))
    all_goals try((with_reducible refine Obl.mk ?_);exact KO)
    all_goals try exact KX
    all_goals try exact⟨⟨by simp,by simp⟩⟩
    conv=>whnf
    refine⟨⟨(k+1,addRule [] (ruleOf x)),by dsimp only;omega,by dsimp only;simp only[List.length_nil]at hal2;omega,hr⟩,?_,by dsimp only;omega⟩
    repeat' ((conv=>whnf);first|refine Or.inl ?_|apply oi|(apply fi<;>intro h)|refine⟨_,rfl,?_⟩|((with_reducible show _=_);rfl))
    all_goals try((with_reducible refine Obl.mk ?_);exact KO)
    all_goals try exact⟨K1⟩
    all_goals exact⟨by dsimp only;rw[hw1];rfl⟩
   ·have hil:ini.length+1≤k:=by simpa using hal
    have hwn:IntKind.i64.wrap ((((ini++[r]).map TRule.tr).length:Nat) - 1:Int)=(ini.length:Int):=by
     rw[List.length_map,List.length_append,List.length_singleton,IntWalk.i64_in _ (by omega)];omega
    have hgr:((ini++[r]).map TRule.tr)[ini.length]?=some r.tr:=by rw[List.map_append];exact mid_get (by simp)
    rw[addRule_snoc]at hr hal2
    repeat' ((conv=>whnf);first|refine Or.inl ?_|apply oi|(apply fi<;>intro h)|refine⟨k,x.tr,rfl,map_get hx,?_⟩|refine ci ho (ai rfl trivial) ?_|refine⟨ini.length,hwn,?_⟩|refine⟨r.tr,hgr,?_⟩|refine⟨_,rfl,?_⟩|((with_reducible show _=_);rfl))
    all_goals try((with_reducible refine Obl.mk ?_);exact KO)
    all_goals try exact KX
    all_goals try(exfalso;have h':=of_decide_eq_false h;rw[List.length_map,List.length_append,List.length_singleton]at h';omega;done)
    all_goals try exact⟨by simp⟩
    all_goals try exact⟨⟨by simp;omega,by simp;omega⟩⟩
    all_goals conv=>whnf
    all_goals first
     |(have hj:joins r (ruleOf x)=true:=by simp_all[joins]
       rw[if_pos hj]at hr hal2
       refine⟨⟨(k+1,ini++[⟨r.fStart,(ruleOf x).fEnd,r.fFrame,r.fDepth⟩]),by dsimp only;omega,by simp;omega,hr⟩,?_,by dsimp only;omega⟩)
     |(have hj:joins r (ruleOf x)=false:=by simp_all[joins]
       rw[if_neg (by rw[hj];simp)]at hr hal2
       refine⟨⟨(k+1,ini++[r]++[ruleOf x]),by dsimp only;omega,by simp;omega,hr⟩,?_,by dsimp only;omega⟩)
    repeat' ((conv=>whnf);first|refine Or.inl ?_|apply oi|(apply fi<;>intro h)|refine⟨_,rfl,?_⟩|((with_reducible show _=_);rfl))
    all_goals try((with_reducible refine Obl.mk ?_);exact KO)
    all_goals try exact⟨K1⟩
    all_goals first
     | exact⟨by dsimp only;rw[hw1,hru];simp[TRule.tr]⟩
     | exact⟨by dsimp only;rw[hw1,hru,List.map_append,List.map_cons,List.map_nil,mid_set (by simp),List.map_append];rfl⟩
  ·have hge:l.length≤k:=by omega
   rw[List.drop_eq_nil_of_le hge,List.foldl_nil]at hr
   repeat' ((conv=>whnf);first|refine Or.inl ?_|apply oi|(apply fi<;>intro h)|refine⟨_,rfl,?_⟩|((with_reducible show _=_);rfl))
   all_goals try((with_reducible refine Obl.mk ?_);exact KO)
   all_goals try exact KX
   all_goals exact⟨by rw[hr]⟩
end Go.Proofs.Ytogdbgmiigfmfaa
namespace Go.Proofs.Ytogdbgmiigfmfaa
open Go.Sim
set_option maxRecDepth 100000
set_option maxHeartbeats 4000000
def startsF:Int→List TItem→List Int
 | at0,[]=>[at0]
 | at0,x::l=>at0::startsF (at0+opSize x.fOp.fCode) l
def endF (at0:Int)(l:List TItem):Int:=atL (startsF at0 l) l.length
def withArg (x:TItem)(a:Int):TItem:=⟨⟨x.fOp.fCode,a⟩,x.fLine,x.fStart,x.fChain,x.fDepth,x.fEntered⟩
def isJump (x:TItem):Bool:=x.fOp.fCode==10 || x.fOp.fCode==11
def jumpI (st:List Int)(k:Nat)(x:TItem):TItem:=if isJump x=true then withArg x (atL st x.fOp.fArg.toNat - atL st (k+1))else x
def placesG (st:List Int):Nat→List TItem→List TPlace
 | _,[]=>[]
 | k,x::l=>⟨atL st k,jumpI st k x⟩::placesG st (k+1) l
def placesF (l:List TItem)(at0:Int):List TPlace:=placesG (startsF at0 l) 0 l
theorem startsF_len:∀(at0:Int) (l:List TItem),(startsF at0 l).length=l.length+1
 | _,[]=>rfl
 | at0,x::l=>by rw[startsF,List.length_cons,startsF_len,List.length_cons]
theorem startsF_zero (at0:Int)(l:List TItem):atL (startsF at0 l) 0=at0:=by cases l <;> rfl
theorem atL_cons (a:Int)(l:List Int)(k:Nat):atL (a::l) (k+1)=atL l k:=by simp[atL]
theorem startsF_succ:∀{at0:Int} {l:List TItem} {k:Nat} {x:TItem},l[k]?=some x→atL (startsF at0 l) (k+1)=atL (startsF at0 l) k+opSize x.fOp.fCode
 | _,[],_,_,h=>by simp at h
 | at0,y::l,0,x,h=>by
  rw[List.getElem?_cons_zero]at h
  injection h with h
  subst h
  rw[startsF,atL_cons,startsF_zero]
  rfl
 | at0,y::l,k+1,x,h=>by
  rw[List.getElem?_cons_succ]at h
  rw[startsF,atL_cons,atL_cons,startsF_succ h]
theorem startsF_le {at0:Int}{l:List TItem}:∀{k:Nat},k≤l.length→at0≤atL (startsF at0 l) k∧atL (startsF at0 l) k≤at0+5 * k
 | 0,_=>by rw[startsF_zero];omega
 | k+1,h=>by
  obtain⟨x,hx⟩:=get_of_lt (l:=l) (k:=k) (by omega)
  have:=startsF_le (at0:=at0) (l:=l) (k:=k) (by omega)
  have:=opSize_le x.fOp.fCode
  rw[startsF_succ hx]
  omega
theorem atL_get {l:List Int}{k:Nat}(h:k < l.length):l[k]?=some (atL l k):=by
 obtain⟨x,hx⟩:=get_of_lt h
 rw[atL,hx];rfl
theorem take_one {α:Type}{l:List α}{k:Nat}{x:α}(h:l[k]?=some x):l.take (k+1)=l.take k++[x]:=by
 rw[List.take_add_one,h];rfl
theorem placesG_len (st:List Int):∀(k:Nat) (l:List TItem),(placesG st k l).length=l.length
 | _,[]=>rfl
 | k,x::l=>by rw[placesG,List.length_cons,placesG_len,List.length_cons]
theorem placesG_get (st:List Int):∀{l:List TItem} {j k:Nat} {x:TItem},l[j]?=some x→(placesG st k l)[j]?=some ⟨atL st (k+j),jumpI st (k+j) x⟩
 | [],_,_,_,h=>by simp at h
 | y::l,0,k,x,h=>by
  rw[List.getElem?_cons_zero]at h
  injection h with h
  subst h
  rfl
 | y::l,j+1,k,x,h=>by
  rw[List.getElem?_cons_succ]at h
  rw[placesG,List.getElem?_cons_succ,placesG_get st h,show k+1+j=k+(j+1) by omega]
theorem placesF_len (l:List TItem)(at0:Int):(placesF l at0).length=l.length:=placesG_len _ _ _
theorem placesF_get {l:List TItem}{at0:Int}{j:Nat}{x:TItem}(h:l[j]?=some x):(placesF l at0)[j]?=some ⟨atL (startsF at0 l) j,jumpI (startsF at0 l) j x⟩:=by
 have:=placesG_get (startsF at0 l) (k:=0) h
 rwa [Nat.zero_add]at this
def jumpsOk (l:List TItem):Prop:=∀x∈l,isJump x=true→0≤x.fOp.fArg∧x.fOp.fArg≤l.length
theorem isJump_iff {x:TItem}:isJump x=true↔x.fOp.fCode=10∨x.fOp.fCode=11:=by simp[isJump]
def inImg (b:TBuild)(image:Int)(f:Nat):Bool:=if b.fSplit=true then(f:Int) % 2==image else image==0
noncomputable def imgL (p:List TLine) (b:TBuild) (image:Int):Nat→Nat→Int→List (Nat×List TPlace)
 | 0,_,_=>[]
 | n+1,f,at0=>if inImg b image f=true then(f,placesF (compileF p f b) at0)::imgL p b image n (f+1) (endF at0 (compileF p f b))else imgL p b image n (f+1) at0
noncomputable def placesOf (p:List TLine) (b:TBuild) (image:Int):List TPlace:=
 if programOk p=true∧buildOk b=true∧within image 0 1=true then((imgL p b image (funs p).length 0 0).map Prod.snd).flatten else []
structure FnOk (p:List TLine) (b:TBuild) (f:Nat):Prop where
 pos:0 < (compileF p f b).length
 len:(compileF p f b).length≤2500
 jmp:jumpsOk (compileF p f b)
theorem InvI.jumps {C:Cx}{g:Nat}{l:List TItem}(h:InvI C g l):0 < l.length∧jumpsOk l:=by
 obtain⟨a,t,rfl,h2,h3⟩:=h
 refine⟨by simp,fun x hx hj=>?_⟩
 rw[isJump_iff]at hj
 rcases List.mem_cons.1 hx with rfl|hx
 ·have:=h2.1;omega
 ·exact(h3 x hx).jump hj
theorem fn_ok {p:List TLine}{b:TBuild}(hs:smallT 1048576 (.lst 4 (p.map TLine.tr)))(h1:programOk p=true)(h2:buildOk b=true){f:Nat}(h:f < (funs p).length):FnOk p b f:=by
 obtain⟨g,C,_,_,_,_,hi⟩:=compileF_inv (f:=(f:Int)) hs h1 h2 (by omega) (by omega)
 exact⟨hi.jumps.1,(compileF_cap hs).1,hi.jumps.2⟩
theorem funs_six {p:List TLine}(h1:programOk p=true):(funs p).length≤6∧p.length≤60:=by
 rw[programOk_S]at h1
 simp only[Bool.and_eq_true,decide_eq_true_eq]at h1
 exact⟨h1.2.1,h1.1⟩
theorem endF_le {l:List TItem}{at0:Int}:at0≤endF at0 l∧endF at0 l≤at0+5 * l.length:=startsF_le (Nat.le_refl _)
theorem imgL_step {p:List TLine}{b:TBuild}{image:Int}{n f:Nat}{at0:Int}:imgL p b image (n+1) f at0=if inImg b image f=true then(f,placesF (compileF p f b) at0)::imgL p b image n (f+1) (endF at0 (compileF p f b))else imgL p b image n (f+1) at0:=rfl
abbrev ImgIx (p:List TLine)(b:TBuild)(image:Int):={q:Nat×Int×List (Nat×List TPlace) // q.1≤(funs p).length∧(0≤q.2.1∧q.2.1≤12500 * q.1)∧q.2.2.length≤q.1∧q.2.2++imgL p b image ((funs p).length - q.1) q.1 q.2.1=imgL p b image (funs p).length 0 0}
theorem imgL_len (p:List TLine)(b:TBuild)(image:Int):∀(n f:Nat) (at0:Int),(imgL p b image n f at0).length≤n
 | 0,_,_=>Nat.le_refl _
 | n+1,f,at0=>by
  rw[imgL]
  split
  ·have:=imgL_len p b image n (f+1) (endF at0 (compileF p f b));rw[List.length_cons];omega
  ·have:=imgL_len p b image n (f+1) at0;omega
theorem imgL_cap {p:List TLine}{b:TBuild}(hs:smallT 1048576 (.lst 4 (p.map TLine.tr))){image:Int}:∀{n f:Nat} {at0:Int} {x:Nat×List TPlace},x∈imgL p b image n f at0→x.2.length≤2500∧∀y∈x.2,y.fItem.fChain.length≤4
 | 0,_,_,_,h=>by cases h
 | n+1,f,at0,x,h=>by
  rw[imgL]at h
  split at h
  ·rcases List.mem_cons.1 h with rfl|h
   ·obtain⟨c1,c2⟩:=compileF_cap (p:=p) (f:=(f:Int)) (b:=b) hs
    refine⟨by rw[placesF_len];exact c1,fun y hy=>?_⟩
    obtain⟨j,hj⟩:=List.getElem?_of_mem hy
    have hjl:=lt_of_get hj
    rw[placesF_len]at hjl
    obtain⟨z,hz⟩:=get_of_lt hjl
    rw[placesF_get hz]at hj
    injection hj with hj
    subst hj
    have:(jumpI (startsF at0 (compileF p f b)) j z).fChain=z.fChain:=by unfold jumpI;split <;> rfl
    rw[this]
    exact c2 z (List.mem_of_getElem? hz)
   ·exact imgL_cap hs h
  ·exact imgL_cap hs h
def allPl (L:List (Nat×List TPlace)):List TPlace:=(L.map Prod.snd).flatten
theorem allPl_take {L:List (Nat×List TPlace)}{k:Nat}{x:Nat×List TPlace}(h:L[k]?=some x):allPl (L.take (k+1))=allPl (L.take k)++x.2:=by
 rw[take_one h];simp[allPl]
theorem allPl_cap {L:List (Nat×List TPlace)}(h:∀x∈L,x.2.length≤2500):∀{k:Nat},k≤L.length→(allPl (L.take k)).length≤2500 * k
 | 0,_=>by simp[allPl]
 | k+1,hk=>by
  obtain⟨x,hx⟩:=get_of_lt (l:=L) (k:=k) (by omega)
  have:=allPl_cap h (k:=k) (by omega)
  have:=h x (List.mem_of_getElem? hx)
  rw[allPl_take hx,List.length_append]
  omega
end Go.Proofs.Ytogdbgmiigfmfaa
namespace Go.Proofs.Ytogdbgmiigfmfaa
open Go.Sim
set_option maxRecDepth 100000
set_option maxHeartbeats 4000000
def opLim (c:Int):Int×Int:=
 if c=0 then(-2147483648,2147483647)else if c=1∨c=2∨c=3∨c=4∨c=10∨c=11 then(-32768,32767)
 else if c=16 then(0,65535)else if c=12∨c=13∨c=14∨c=15 then(0,255)else(0,0)
def opOkB (c a:Int):Bool:=within c 0 17 && within a (opLim c).1 (opLim c).2
def byteAt (a:Int)(k:Nat):UInt8:=UInt8.ofNat ((a.fdiv (2 ^ (8 * k))) % 256).toNat
def bytesN (a:Int)(n:Nat):List UInt8:=(List.range n).map (byteAt a)
def encodeOp (x:TOp):List UInt8:=if opOkB x.fCode x.fArg=true then UInt8.ofNat x.fCode.toNat::bytesN x.fArg (opArg x.fCode).1.toNat else []
theorem encodeOp_len {x:TOp}(h:opOkB x.fCode x.fArg=true):((encodeOp x).length:Int)=opSize x.fCode:=by
 have hle:=opArg_le x.fCode
 rw[encodeOp,if_pos h]
 unfold opOkB at h
 rw[Bool.and_eq_true]at h
 rw[opSize,if_pos h.1]
 simp[bytesN];omega
theorem encodeOp_le (x:TOp):(encodeOp x).length≤5:=by
 have hle:=opArg_le x.fCode
 unfold encodeOp
 split
 ·simp[bytesN];omega
 ·simp
end Go.Proofs.Ytogdbgmiigfmfaa
namespace Go.Proofs.Ytogdbgmiigfmfaa
open Go.Sim
set_option maxRecDepth 100000
set_option maxHeartbeats 4000000
theorem opGood_ok {c a:Int}(h:opGood c a):opOkB c a=true:=by
 obtain⟨h0,h1,h2,h3,h4,h5,h6⟩:=h
 unfold opOkB
 rw[Bool.and_eq_true,within_iff,within_iff]
 refine⟨⟨h0,h1⟩,?_⟩
 unfold opLim
 split
 ·have:=h2 (by assumption);dsimp only;omega
 split
 ·have:=h3 (by omega);dsimp only;omega
 split
 ·have:=h4 (by assumption);dsimp only;omega
 split
 ·have:=h5 (by omega);dsimp only;omega
 ·have:=h6 (by omega);dsimp only;omega
structure PlI (p:List TLine) (f j:Nat) (y:TPlace):Prop where
 head:j=0→(y.fItem.fOp.fCode=13∨y.fItem.fOp.fCode=15)∧∃g ln,(funs p)[f]?=some g∧y.fItem.fLine=(g:Int)∧p[g]?=some ln∧ln.fKind=0
 body:0 < j→y.fItem.fOp.fCode≠13∧∃(n:Nat) (ln:TLine),y.fItem.fLine=(n:Int)∧p[n]?=some ln∧ln.fKind≠0
 op:opOkB y.fItem.fOp.fCode y.fItem.fOp.fArg=true
theorem foldIf_alike (p:List TLine)(b:TBuild):alike (foldIf p b) p:=by
 unfold foldIf
 split
 ·exact foldLine_alike p
 ·rfl
theorem jumpI_code (st:List Int)(k:Nat)(x:TItem):(jumpI st k x).fOp.fCode=x.fOp.fCode:=by unfold jumpI;split <;> rfl
theorem jumpI_line (st:List Int)(k:Nat)(x:TItem):(jumpI st k x).fLine=x.fLine:=by unfold jumpI;split <;> rfl
theorem place_facts {p:List TLine}{b:TBuild}{at0:Int}(hs:smallT 1048576 (.lst 4 (p.map TLine.tr)))(h1:programOk p=true)(h2:buildOk b=true){f:Nat}(h:f < (funs p).length){j:Nat}{y:TPlace}(hy:(placesF (compileF p f b) at0)[j]?=some y):PlI p f j y:=by
 obtain⟨g,C,k1,k2,k3,k4,hi⟩:=compileF_inv (f:=(f:Int)) hs h1 h2 (by omega) (by omega)
 have hlen:=(compileF_cap (p:=p) (f:=(f:Int)) (b:=b) hs).1
 have hjl:=hi.jumps.2
 have hj:j < (compileF p (f:Int) b).length:=by have:=lt_of_get hy;rwa [placesF_len]at this
 obtain⟨x,hx⟩:=get_of_lt hj
 rw[placesF_get hx]at hy
 injection hy with hy
 subst hy
 rw[Int.toNat_natCast]at k1
 obtain⟨hgl,ln,hg1,hg2⟩:=funs_lt (List.mem_of_getElem? k1)
 generalize compileF p (f:Int) b=I at *
 obtain⟨a,t,rfl,ha,ht⟩:=hi
 have hop:¬isJump x=true→opGood x.fOp.fCode x.fOp.fArg:=fun hn=>by
  rw[isJump_iff]at hn
  cases j with
  | zero=>
   simp only[List.getElem?_cons_zero,Option.some.injEq]at hx
   subst hx
   have e3:=ha.2.2
   rcases ha.1 with e|e <;> (rw[e,e3];unfold opGood;omega)
  | succ j=>exact(ht x (List.mem_of_getElem? (by simpa using hx))).op hn
 refine⟨fun e=>?_,fun e=>?_,?_⟩
 ·subst e
  simp only[List.getElem?_cons_zero,Option.some.injEq]at hx
  subst hx
  dsimp only
  rw[jumpI_code,jumpI_line]
  exact⟨ha.1,g,ln,k1,ha.2.1,hg1,hg2⟩
 ·obtain⟨j,rfl⟩:∃i,j=i+1:=⟨j - 1,by omega⟩
  have hg:=ht x (List.mem_of_getElem? (by simpa using hx))
  dsimp only
  rw[jumpI_code,jumpI_line]
  refine⟨hg.enter,?_⟩
  obtain⟨z,z0,z1,z2⟩:=hg.line
  rw[k2]at z1
  obtain⟨w,w1,w2,_⟩:=(foldIf_alike p b).get z1
  exact⟨x.fLine.toNat,w,by omega,w1,by omega⟩
 ·dsimp only
  by_cases hn:isJump x=true
  ·rw[jumpI,if_pos hn]
   have h3:=hjl x (List.mem_of_getElem? hx) hn
   rw[isJump_iff]at hn
   have s1:=startsF_le (at0:=at0) (l:=a::t) (k:=x.fOp.fArg.toNat) (by omega)
   have s2:=startsF_le (at0:=at0) (l:=a::t) (k:=j+1) (by omega)
   refine opGood_ok ?_
   dsimp only[withArg]
   unfold opGood
   omega
  ·rw[jumpI,if_neg hn]
   exact opGood_ok (hop hn)
def codeOf (l:List TPlace):List UInt8:=l.flatMap fun x=>encodeOp x.fItem.fOp
theorem codeOf_append (a b:List TPlace):codeOf (a++b)=codeOf a++codeOf b:=by simp[codeOf]
theorem codeOf_one (x:TPlace):codeOf [x]=encodeOp x.fItem.fOp:=by simp[codeOf]
theorem codeOf_len:∀(l:List TPlace),(codeOf l).length≤5 * l.length
 | []=>by simp[codeOf]
 | x::l=>by
  have h1:=codeOf_len l
  have h2:=encodeOp_le x.fItem.fOp
  rw[show x::l=[x]++l from rfl,codeOf_append,List.length_append,List.length_append,codeOf_one]
  simp only[List.length_cons,List.length_nil]
  omega
theorem codeOf_places {l:List TItem}{at0:Int}(h:∀y∈placesF l at0,opOkB y.fItem.fOp.fCode y.fItem.fOp.fArg=true):∀{k:Nat},k≤l.length→((codeOf ((placesF l at0).take k)).length:Int)=atL (startsF at0 l) k - at0
 | 0,_=>by rw[startsF_zero];simp[codeOf]
 | k+1,hk=>by
  obtain⟨x,hx⟩:=get_of_lt (l:=l) (k:=k) (by omega)
  have hg:=placesF_get (at0:=at0) hx
  have ih:=codeOf_places h (k:=k) (by omega)
  have he:=encodeOp_len (h _ (List.mem_of_getElem? hg))
  dsimp only at he
  rw[jumpI_code]at he
  rw[take_one hg,codeOf_append,List.length_append,codeOf_one,startsF_succ hx]
  dsimp only
  omega
def nameOf (p:List TLine)(f:Nat):List UInt8:=match(funs p)[f]? with
 | some g=>(match p[g]? with|some y=>y.fName|none=>[])
 | none=>[]
theorem imgL_at {p:List TLine}{b:TBuild}{image:Int}(hs:smallT 1048576 (.lst 4 (p.map TLine.tr)))(h1:programOk p=true)(h2:buildOk b=true):∀{n f:Nat} {at0:Int} {i:Nat} {x:Nat×List TPlace},f+n≤(funs p).length→(imgL p b image n f at0)[i]?=some x→
  x.2=placesF (compileF p (x.1:Int) b) (at0+((codeOf (allPl ((imgL p b image n f at0).take i))).length:Int))∧x.1 < (funs p).length∧0 < x.2.length
 | 0,_,_,_,_,_,h=>by simp[imgL]at h
 | n+1,f,at0,i,x,hf,h=>by
  rw[imgL_step]at h ⊢
  split at h
  ·rename_i hin
   rw[if_pos hin]
   cases i with
   | zero=>
    simp only[List.getElem?_cons_zero,Option.some.injEq]at h
    subst h
    have:=(fn_ok (f:=f) hs h1 h2 (by omega)).pos
    refine⟨by simp[allPl,codeOf],by dsimp only;omega,by dsimp only;rw[placesF_len];exact this⟩
   | succ i=>
    rw[List.getElem?_cons_succ]at h
    obtain⟨k1,k2,k3⟩:=imgL_at hs h1 h2 (by omega) h
    refine⟨?_,k2,k3⟩
    have hl:=codeOf_places (l:=compileF p (f:Int) b) (at0:=at0) (fun y hy=>by
     obtain⟨j,hj⟩:=List.mem_iff_getElem?.1 hy
     exact(place_facts hs h1 h2 (by omega) hj).op) (k:=(compileF p (f:Int) b).length) (Nat.le_refl _)
    rw[List.take_of_length_le (by rw[placesF_len];exact Nat.le_refl _)]at hl
    rw[k1,List.take_succ_cons,show ∀(a:Nat×List TPlace) (l:List (Nat×List TPlace)),allPl (a::l)=a.2++allPl l from fun a l=>by simp[allPl],codeOf_append,List.length_append]
    congr 1
    have he:endF at0 (compileF p (f:Int) b)=atL (startsF at0 (compileF p (f:Int) b)) (compileF p (f:Int) b).length:=rfl
    dsimp only
    rw[he]at *
    omega
  ·rename_i hin
   rw[if_neg hin]
   exact imgL_at hs h1 h2 (by omega) h
theorem imgL_place {p:List TLine}{b:TBuild}{image:Int}(hs:smallT 1048576 (.lst 4 (p.map TLine.tr)))(h1:programOk p=true)(h2:buildOk b=true){i:Nat}{x:Nat×List TPlace}(h:(imgL p b image (funs p).length 0 0)[i]?=some x){j:Nat}{y:TPlace}(hy:x.2[j]?=some y):
  PlI p x.1 j y∧y.fOffset=((codeOf (allPl ((imgL p b image (funs p).length 0 0).take i))).length:Int)+(codeOf (x.2.take j)).length:=by
 obtain⟨k1,k2,_⟩:=imgL_at hs h1 h2 (by omega) h
 generalize hS:((codeOf (allPl ((imgL p b image (funs p).length 0 0).take i))).length:Int)=S at *
 rw[Int.zero_add]at k1
 rw[k1]at hy ⊢
 refine⟨place_facts hs h1 h2 k2 hy,?_⟩
 have hj:j < (compileF p (x.1:Int) b).length:=by have:=lt_of_get hy;rwa [placesF_len]at this
 rw[codeOf_places (fun z hz=>by
  obtain⟨j,hj⟩:=List.mem_iff_getElem?.1 hz
  exact(place_facts hs h1 h2 k2 hj).op) (by omega)]
 obtain⟨z,hz⟩:=get_of_lt hj
 rw[placesF_get hz]at hy
 injection hy with hy
 subst hy
 dsimp only
 omega
theorem allPl_snoc (L:List (Nat×List TPlace))(x:Nat×List TPlace):allPl (L++[x])=allPl L++x.2:=by simp[allPl]
end Go.Proofs.Ytogdbgmiigfmfaa
namespace Go.Proofs.Ytogdbgmiigfmfaa
open Go.Sim
set_option maxRecDepth 100000
set_option maxHeartbeats 4000000
theorem and_one:∀f:Fin 101,IntKind.i64.wrap (BitVec.ofInt IntKind.i64.bits (f.val:Int) &&& BitVec.ofInt IntKind.i64.bits 1).toNat=(f.val:Int) % 2:=by decide
theorem s_spec_l09InImage (f:Nat)(b:TBuild)(image:Int)(hf:f≤100):Sim.Spec Try.prog 79 [.agg b.tr,tvI (f:Int),tvI image] (rB (inImg b image f)):=by
 refine spec_of_Wo hΓ hmix Try.func79 rfl (by decide) rfl ?_
 unfold inImg
 have hm:=and_one ⟨f,by omega⟩
 dsimp only at hm
 repeat' ((conv=>whnf);first|(with_reducible first|apply Wx|apply W6)|apply oi|(apply fi<;>intro h)|refine⟨_,rfl,?_⟩|((with_reducible show _=_);rfl))
 all_goals try((with_reducible refine Obl.mk ?_);exact KP)
 all_goals first|exact⟨by rw[h,hm];rfl⟩|exact⟨by rw[h];rfl⟩
theorem allPl_le:∀{L:List (Nat×List TPlace)},(∀x∈L,x.2.length≤2500)→(allPl L).length≤2500 * L.length
 | L,h=>by
  have:=allPl_cap h (Nat.le_refl L.length)
  rwa [List.take_of_length_le (Nat.le_refl _)]at this
theorem s_spec_PlacesOf (p:List TLine)(b:TBuild)(image:Int)(hs:smallT 1048576 (.lst 4 (p.map TLine.tr))):Sim.Spec Try.prog 30 [tvP p,.agg b.tr,tvI image] (rL 8 ((placesOf p b image).map TPlace.tr)):=by
 refine spec_of_Wo hΓ hmix Try.func30 rfl (by decide) rfl ?_
 have hP:=s_spec_ProgramOk p hs
 have hB:=s_spec_BuildOk b
 have gb:=s_spec_l01In image 0 1
 by_cases hc:programOk p=true∧buildOk b=true∧within image 0 1=true
 ·have hcf:placesOf p b image=allPl (imgL p b image (funs p).length 0 0):=by rw[placesOf,if_pos hc];rfl
  rw[hcf]
  obtain⟨h1,h2,h3⟩:=hc
  rw[h1]at hP
  rw[h2]at hB
  rw[h3]at gb
  obtain⟨h6,h60⟩:=funs_six h1
  have gF:=s_spec_FunctionLines p (by omega)
  have hfl:((funs p).map fun n:Nat=>intRow n).length=(funs p).length:=by simp
  have hlc:=fun x (hx:x∈imgL p b image (funs p).length 0 0)=>(imgL_cap hs hx).1
  repeat' ((conv=>whnf);first|(with_reducible first|apply Wx|apply W6)|apply oi|(apply fi<;>intro h)|refine cl hP ?_|refine cl hB ?_|refine cl gb ?_|refine⟨_,rfl,?_⟩|((with_reducible show _=_);rfl))
  all_goals try((with_reducible refine Obl.mk ?_);exact KP)
  conv=>whnf
  refine⟨ImgIx p b image,fun q=>⟨[(0,vP p),(2,tI .i64 image),(4,.r (.c (.ptr (4,0,0) 0))),(7,.r (.c (.own (15,0,0)))),(8,tI .i64 q.1.2.1),(9,tI .i64 (q.1.1:Int))],[((15,0,0),some (.arr true 8 ((allPl q.1.2.2).map TPlace.tr))),((4,0,0),some (.box [.t (.int .i64 b.fFrames),.t (.int .i64 b.fInline),.t (.bool b.fFold),.t (.bool b.fSplit)]))],[15,4]⟩,fun q=>(funs p).length - q.1.1,⟨(0,0,[]),by simp,by simp,by simp,by simp⟩,?_,?_⟩
  ·skip
   repeat' ((conv=>whnf);first|(with_reducible first|apply Wx|apply W6)|apply oi|(apply fi<;>intro h)|refine⟨_,rfl,?_⟩|((with_reducible show _=_);rfl))
   all_goals try((with_reducible refine Obl.mk ?_);exact KP)
  intro⟨⟨f,at0,acc⟩,hk,ha,hal,hr⟩
  dsimp only at hk ha hal hr ⊢
  have hac:(allPl acc).length≤2500 * acc.length:=allPl_le fun x hx=>hlc x (by rw[←hr];exact List.mem_append.2 (.inl hx))
  by_cases hlt:f < (funs p).length
  ·obtain⟨n,hn⟩:∃n,(funs p).length - f=n+1:=⟨(funs p).length - f - 1,by omega⟩
   have hi:=s_spec_l09InImage f b image (by omega)
   rw[hn,imgL_step]at hr
   cases hin:inImg b image f with
   | false=>
    rw[hin]at hi hr
    rw[if_neg (by simp)]at hr
    repeat' ((conv=>whnf);first|(with_reducible first|apply Wx|apply W6)|apply oi|(apply fi<;>intro h)|refine cl gF ?_|refine cl hi ?_|refine⟨_,rfl,?_⟩|((with_reducible show _=_);rfl))
    all_goals try((with_reducible refine Obl.mk ?_);exact KP)
    all_goals try exact KX
    conv=>whnf
    refine⟨⟨(f+1,at0,acc),by dsimp only;omega,by dsimp only;omega,by dsimp only;omega,by dsimp only;rw[show(funs p).length - (f+1)=n by omega];exact hr⟩,?_,by dsimp only;omega⟩
    repeat' ((conv=>whnf);first|(with_reducible first|apply Wx|apply W6)|apply oi|(apply fi<;>intro h)|refine⟨_,rfl,?_⟩|((with_reducible show _=_);rfl))
    all_goals try((with_reducible refine Obl.mk ?_);exact KP)
    all_goals try exact⟨KW⟩
   | true=>
    rw[hin]at hi hr
    rw[if_pos rfl]at hr
    have hcs:=s_spec_CompileFunction p (f:Int) b hs
    obtain⟨f1,f2,f3⟩:=fn_ok (f:=f) hs h1 h2 hlt
    have hch:=(compileF_cap (p:=p) (f:=(f:Int)) (b:=b) hs).2
    generalize compileF p (f:Int) b=I at *
    repeat' ((conv=>whnf);first|(with_reducible first|apply Wx|apply W6)|apply oi|(apply fi<;>intro h)|refine cl gF ?_|refine cl hi ?_|refine cl hcs ?_|refine⟨_,rfl,?_⟩|((with_reducible show _=_);rfl))
    all_goals try((with_reducible refine Obl.mk ?_);exact KP)
    all_goals try exact KX
    have hlen:(I.map TItem.tr).length=I.length:=by simp
    have hsl:=startsF_len at0 I
    have hle:=fun k (h:k≤I.length)=>startsF_le (at0:=at0) h
    have hS0:=startsF_zero at0 I
    have hsu:=fun k x (h:I[k]?=some x)=>startsF_succ (at0:=at0) h
    have hpf:∀(k:Nat) (x:TItem),I[k]?=some x→(placesF I at0)[k]?=some (TPlace.mk (atL (startsF at0 I) k) (jumpI (startsF at0 I) k x)):=fun k x h=>placesF_get h
    have hfl2:=placesF_len I at0
    have hend:endF at0 I=atL (startsF at0 I) I.length:=rfl
    have ye:=endF_le (l:=I) (at0:=at0)
    generalize startsF at0 I=S at *
    generalize placesF I at0=F at *
    generalize endF at0 I=E at *
    conv=>whnf
    refine⟨{k:Nat // k≤I.length},fun k=>⟨[(0,vP p),(2,tI .i64 image),(4,.r (.c (.ptr (4,0,0) 0))),(7,.r (.c (.own (15,0,0)))),(8,tI .i64 (atL S k.1)),(9,tI .i64 (f:Int)),(10,.r (.c (.own (45,0,0)))),(11,.r (.c (.own (46,0,0)))),(12,tI .i64 (k.1:Int))],[((46,0,0),some (.arr true 1 ((S.take k.1).map intRow))),((45,0,0),some (.arr true 7 (I.map TItem.tr))),((15,0,0),some (.arr true 8 ((allPl acc).map TPlace.tr))),((4,0,0),some (.box [.t (.int .i64 b.fFrames),.t (.int .i64 b.fInline),.t (.bool b.fFold),.t (.bool b.fSplit)]))],[46,45,15,4]⟩,fun k=>I.length - k.1,⟨0,by omega⟩,?_,?_⟩
    ·skip
     repeat' ((conv=>whnf);first|(with_reducible first|apply Wx|apply W6)|apply oi|(apply fi<;>intro h)|refine⟨_,rfl,?_⟩|((with_reducible show _=_);rfl))
     all_goals try((with_reducible refine Obl.mk ?_);exact KP)
     all_goals try exact⟨by rw[hS0]⟩
    intro⟨k,hk⟩
    dsimp only
    have hlk:=hle k hk
    by_cases hlt2:k < I.length
    ·obtain⟨x,hx⟩:=get_of_lt hlt2
     have hz:=opSize_le x.fOp.fCode
     have ho:=s_spec_OpSize x.fOp.fCode
     have hs1:=hsu k x hx
     have hg:S[k]?=some (atL S k):=atL_get (by omega)
     have hkr:k < (I.map TItem.tr).length:=by omega
     have hxr:(I.map TItem.tr)[k]?=some x.tr:=map_get hx
     repeat' ((conv=>whnf);first|(with_reducible first|apply Wx|apply W6)|apply oi|(apply fi<;>intro h)|refine⟨k,rfl,hkr,?_⟩|refine⟨_,hxr,?_⟩|refine cl ho ?_|refine⟨_,rfl,?_⟩|((with_reducible show _=_);rfl))
     all_goals try((with_reducible refine Obl.mk ?_);exact KP)
     all_goals try exact KX
     all_goals try exact⟨⟨by simp <;> omega,by simp <;> omega⟩⟩
     conv=>whnf
     refine⟨⟨k+1,by omega⟩,?_,by dsimp only;omega⟩
     repeat' ((conv=>whnf);first|(with_reducible first|apply Wx|apply W6)|apply oi|(apply fi<;>intro h)|refine⟨_,rfl,?_⟩|((with_reducible show _=_);rfl))
     all_goals try((with_reducible refine Obl.mk ?_);exact KP)
     all_goals try exact⟨KW⟩
     all_goals try exact⟨by rw[take_one hg,List.map_append];rfl⟩
     all_goals try exact⟨congrArg (Tr.int .i64) (by rw[hs1,IntWalk.i64_in _ (by omega)])⟩
    ·have hkl:k=I.length:=by omega
     subst hkl
     have hg:S[I.length]?=some (atL S I.length):=atL_get (by omega)
     repeat' ((conv=>whnf);first|(with_reducible first|apply Wx|apply W6)|apply oi|(apply fi<;>intro h)|refine⟨_,rfl,?_⟩|((with_reducible show _=_);rfl))
     all_goals try((with_reducible refine Obl.mk ?_);exact KP)
     all_goals try exact KX
     all_goals try exact⟨⟨by simp <;> omega,by simp <;> omega⟩⟩
     conv=>whnf
     refine⟨{k:Nat // k≤I.length},fun k=>⟨[(0,vP p),(2,tI .i64 image),(4,.r (.c (.ptr (4,0,0) 0))),(7,.r (.c (.own (15,0,0)))),(8,tI .i64 (atL S I.length)),(9,tI .i64 (f:Int)),(10,.r (.c (.own (45,0,0)))),(11,.r (.c (.own (69,0,0)))),(13,tI .i64 (k.1:Int))],[((69,0,0),some (.arr true 1 (S.map intRow))),((45,0,0),some (.arr true 7 (I.map TItem.tr))),((15,0,0),some (.arr true 8 ((allPl acc++F.take k.1).map TPlace.tr))),((4,0,0),some (.box [.t (.int .i64 b.fFrames),.t (.int .i64 b.fInline),.t (.bool b.fFold),.t (.bool b.fSplit)]))],[69,45,15,4]⟩,fun k=>I.length - k.1,⟨0,by omega⟩,?_,?_⟩
     ·skip
      repeat' ((conv=>whnf);first|(with_reducible first|apply Wx|apply W6)|apply oi|(apply fi<;>intro h)|refine⟨_,rfl,?_⟩|((with_reducible show _=_);rfl))
      all_goals try((with_reducible refine Obl.mk ?_);exact KP)
      all_goals try exact⟨by rw[show [[Tr.int .i64 (atL S I.length)]]=[atL S I.length].map intRow from rfl,←List.map_append,←take_one hg,List.take_of_length_le (by omega)]⟩
      all_goals try exact⟨by simp⟩
     intro⟨k,hk⟩
     dsimp only
     have hol:((allPl acc++F.take k).map TPlace.tr).length=(allPl acc).length+k:=by rw[List.length_map,List.length_append,List.length_take];omega
     have hml:(S.map intRow).length=I.length+1:=by rw[List.length_map];exact hsl
     have mg:∀j,j≤I.length→(S.map intRow)[j]?=some (intRow (atL S j)):=fun j hj=>by rw[List.getElem?_map,atL_get (by omega)];rfl
     by_cases hlt2:k < I.length
     ·obtain⟨x,hx⟩:=get_of_lt hlt2
      have hpg:=hpf k x hx
      have hsn:(allPl acc++F.take (k+1)).map TPlace.tr=(allPl acc++F.take k).map TPlace.tr++[(TPlace.mk (atL S k) (jumpI S k x)).tr]:=by rw[take_one hpg,←List.append_assoc,List.map_append];rfl
      have hkr:k < (I.map TItem.tr).length:=by omega
      have hxr:(I.map TItem.tr)[k]?=some x.tr:=map_get hx
      have hw1:IntKind.i64.wrap ((k:Int)+1)=((k+1:Nat):Int):=by rw[IntWalk.i64_in _ (by omega)];rfl
      have hk0:k < (S.map intRow).length:=by omega
      have hk1:k+1 < (S.map intRow).length:=by omega
      have m0:=mg k (by omega)
      have m1:=mg (k+1) (by omega)
      have b1:=hle (k+1) (by omega)
      cases hjx:isJump x with
      | true=>
       obtain⟨ja,jb⟩:=f3 x (List.mem_of_getElem? hx) hjx
       have hwa:x.fOp.fArg=((x.fOp.fArg.toNat:Nat):Int):=(Int.toNat_of_nonneg ja).symm
       have hal2:x.fOp.fArg.toNat < (S.map intRow).length:=by omega
       have m2:=mg x.fOp.fArg.toNat (by omega)
       have b2:=hle x.fOp.fArg.toNat (by omega)
       have hji:jumpI S k x=withArg x (IntKind.i64.wrap (atL S x.fOp.fArg.toNat - atL S (k+1))):=by rw[jumpI,if_pos hjx,IntWalk.i64_in _ (by omega)]
       rw[isJump_iff]at hjx
       repeat' ((conv=>whnf);first|(with_reducible first|apply Wx|apply W6)|apply oi|(apply fi<;>intro h)|refine⟨k,rfl,hkr,?_⟩|refine⟨_,hxr,?_⟩|refine⟨k,rfl,hk0,?_⟩|refine⟨k+1,hw1,hk1,?_⟩|refine⟨_,hwa,hal2,?_⟩|refine⟨_,m0,?_⟩|refine⟨_,m1,?_⟩|refine⟨_,m2,?_⟩|refine⟨_,rfl,?_⟩|((with_reducible show _=_);rfl))
       all_goals try((with_reducible refine Obl.mk ?_);exact KP)
       all_goals try exact KX
       all_goals try exact KK
       all_goals try exact⟨⟨by simp only[List.length_nil,List.length_cons,hol] <;> omega,by simp only[List.length_nil,List.length_cons,hol] <;> omega⟩⟩
       all_goals(
        conv=>whnf
        refine⟨⟨k+1,by omega⟩,?_,by dsimp only;omega⟩
        repeat' ((conv=>whnf);first|(with_reducible first|apply Wx|apply W6)|apply oi|(apply fi<;>intro h)|refine⟨_,rfl,?_⟩|((with_reducible show _=_);rfl))
        all_goals try((with_reducible refine Obl.mk ?_);exact KP)
        all_goals try exact⟨KW⟩
        all_goals try exact⟨by dsimp only;rw[hsn,hji];rfl⟩)
      | false=>
       have hji:jumpI S k x=x:=by rw[jumpI,if_neg (by rw[hjx];simp)]
       have hjn:¬(x.fOp.fCode=10∨x.fOp.fCode=11):=by rw[←isJump_iff,hjx];simp
       repeat' ((conv=>whnf);first|(with_reducible first|apply Wx|apply W6)|apply oi|(apply fi<;>intro h)|refine⟨k,rfl,hkr,?_⟩|refine⟨_,hxr,?_⟩|refine⟨k,rfl,hk0,?_⟩|refine⟨_,m0,?_⟩|refine⟨_,rfl,?_⟩|((with_reducible show _=_);rfl))
       all_goals try((with_reducible refine Obl.mk ?_);exact KP)
       all_goals try exact KX
       all_goals try exact KK
       all_goals try exact⟨⟨by simp only[List.length_nil,List.length_cons,hol] <;> omega,by simp only[List.length_nil,List.length_cons,hol] <;> omega⟩⟩
       all_goals(
        conv=>whnf
        refine⟨⟨k+1,by omega⟩,?_,by dsimp only;omega⟩
        repeat' ((conv=>whnf);first|(with_reducible first|apply Wx|apply W6)|apply oi|(apply fi<;>intro h)|refine⟨_,rfl,?_⟩|((with_reducible show _=_);rfl))
        all_goals try((with_reducible refine Obl.mk ?_);exact KP)
        all_goals try exact⟨KW⟩
        all_goals try exact⟨by dsimp only;rw[hsn,hji];rfl⟩)
     ·have hkl:k=I.length:=by omega
      subst hkl
      repeat' ((conv=>whnf);first|(with_reducible first|apply Wx|apply W6)|apply oi|(apply fi<;>intro h)|refine⟨_,rfl,?_⟩|((with_reducible show _=_);rfl))
      all_goals try((with_reducible refine Obl.mk ?_);exact KP)
      all_goals try exact KX
      conv=>whnf
      refine⟨⟨(f+1,E,acc++[(f,F)]),by dsimp only;omega,by dsimp only;omega,by simp;omega,by dsimp only;rw[List.append_assoc,show(funs p).length - (f+1)=n by omega];exact hr⟩,?_,by dsimp only;omega⟩
      repeat' ((conv=>whnf);first|(with_reducible first|apply Wx|apply W6)|apply oi|(apply fi<;>intro h)|refine⟨_,rfl,?_⟩|((with_reducible show _=_);rfl))
      all_goals try((with_reducible refine Obl.mk ?_);exact KP)
      all_goals try exact⟨KW⟩
      all_goals try exact⟨by rw[hend]⟩
      all_goals try exact⟨by rw[allPl_snoc,List.take_of_length_le (by omega)]⟩
  ·rw[show(funs p).length - f=0 by omega]at hr
   have hr2:acc=imgL p b image (funs p).length 0 0:=by rw[←hr];simp[imgL]
   repeat' ((conv=>whnf);first|(with_reducible first|apply Wx|apply W6)|apply oi|(apply fi<;>intro h)|refine cl gF ?_|refine⟨_,rfl,?_⟩|((with_reducible show _=_);rfl))
   all_goals try((with_reducible refine Obl.mk ?_);exact KP)
   all_goals try exact KX
   all_goals exact⟨by rw[hr2]⟩
 ·have hcf:placesOf p b image=[]:=by rw[placesOf,if_neg hc]
  rw[hcf]
  cases h1:programOk p with
  | false=>
   rw[h1]at hP
   repeat' ((conv=>whnf);first|(with_reducible first|apply Wx|apply W6)|apply oi|(apply fi<;>intro h)|refine cl hP ?_|refine cl hB ?_|refine cl gb ?_|refine⟨_,rfl,?_⟩|((with_reducible show _=_);rfl))
   all_goals try((with_reducible refine Obl.mk ?_);exact KP)
   all_goals try exact KX
  | true=>
   rw[h1]at hP
   cases h2:buildOk b with
   | false=>
    rw[h2]at hB
    repeat' ((conv=>whnf);first|(with_reducible first|apply Wx|apply W6)|apply oi|(apply fi<;>intro h)|refine cl hP ?_|refine cl hB ?_|refine cl gb ?_|refine⟨_,rfl,?_⟩|((with_reducible show _=_);rfl))
    all_goals try((with_reducible refine Obl.mk ?_);exact KP)
    all_goals try exact KX
   | true=>
    rw[h2]at hB
    cases h3:within image 0 1 with
    | true=>exact absurd ⟨h1,h2,h3⟩ hc
    | false=>
     rw[h3]at gb
     repeat' ((conv=>whnf);first|(with_reducible first|apply Wx|apply W6)|apply oi|(apply fi<;>intro h)|refine cl hP ?_|refine cl hB ?_|refine cl gb ?_|refine⟨_,rfl,?_⟩|((with_reducible show _=_);rfl))
     all_goals try((with_reducible refine Obl.mk ?_);exact KP)
     all_goals try exact KX
end Go.Proofs.Ytogdbgmiigfmfaa
namespace Go.Proofs.Ytogdbgmiigfmfaa
open Go.Sim
set_option maxRecDepth 100000
set_option maxHeartbeats 4000000
def DI (it:TItem):Prop:=0≤it.fDepth∧it.fDepth≤1200∧(it.fEntered=true→it.fDepth=0)
def Dp (a b:Gs):Prop:=(∀it∈a.items,DI it)→∀it∈b.items,DI it
theorem Dp.refl (s:Gs):Dp s s:=id
theorem Dp.trans {a b c:Gs}(h:Dp a b)(h':Dp b c):Dp a c:=fun x=>h' (h x)
theorem Dp.same {a b b':Gs}(h:Dp a b)(e:b'.items=b.items):Dp a b':=fun x=>by rw[e];exact h x
theorem emit_dp {C:Cx}{s:Gs}{d code arg line:Int}{chain:List Int}(h:0≤d∧d≤1200):Dp s (emitG C s d code arg line chain):=by
 intro hs it hit
 simp only[emitG,List.mem_append,List.mem_singleton]at hit
 rcases hit with hit|rfl
 ·exact hs it hit
 ·unfold mkItem DI
  dsimp only
  by_cases hf:C.framed=true∧0 < s.items.length
  ·rw[if_pos hf];exact⟨by omega,by omega,fun _=>rfl⟩
  ·rw[if_neg hf]
   refine⟨h.1,h.2,fun e=>?_⟩
   rw[Bool.and_eq_true,decide_eq_true_eq]at e
   exact absurd e hf
theorem setArg_dp {l:List TItem}(j v:Int)(h:∀it∈l,DI it):∀it∈setArg l j v,DI it:=by
 unfold setArg
 split
 ·split
  ·rename_i x hx
   intro it hit
   rcases List.mem_or_eq_of_mem_set hit with hit|rfl
   ·exact h it hit
   ·exact h x (List.mem_of_getElem? hx)
  ·exact h
 ·exact h
theorem patchL_dp (v:Int):∀(js:List Int) {l:List TItem},(∀it∈l,DI it)→∀it∈patchL l v js,DI it
 | [],_,h=>h
 | j::js,_,h=>patchL_dp v js (setArg_dp j v h)
section
variable {C:Cx} {x:Sc} {ins:List Nat} {rep:Sc→List Nat→Nat→Nat→Int→Gs→Gs} {line:Nat}
theorem stores_dp {y:Sc}{chain:List Int}{line:Int}:∀(n:Nat) (d:Int) (s:Gs),0≤d - n→d≤1200→Dp s (storesG C y chain line n d s)
 | 0,d,s,_,_=>Dp.refl s
 | n+1,d,s,h1,h2=>by
  rw[storesG]
  exact(emit_dp (by omega)).trans (stores_dp n (d - 1) _ (by omega) (by omega))
theorem zeros_dp {y:Sc}{chain:List Int}{line d:Int}(hd:0≤d∧d≤1199):∀(n i:Nat) (s:Gs),Dp s (zerosG C y chain line d n i s)
 | 0,i,s=>Dp.refl s
 | n+1,i,s=>by
  rw[zerosG]
  exact((emit_dp (by omega)).trans (emit_dp (by omega))).trans (zeros_dp hd n (i+1) _)
def RepD (C:Cx)(rep:Sc→List Nat→Nat→Nat→Int→Gs→Gs)(x:Sc)(ins:List Nat):Prop:=
 ∀(line g:Nat) (d:Int) (s:Gs),isFun C g→(argsN C.p g:Int)≤d→d≤1000+30 * ins.length+21→replB C ins g s.items.length=true→Dp s (rep x ins line g d s)
def CallsE (C:Cx)(l:List TTok):Prop:=∀t∈l,t.fKind=7→∃f,findN C.p 0 t.fName=some f∧(argsN C.p f:Int)=t.fNum
theorem fin_dp (hi:ins.length≤4)(hrep:RepD C rep x ins){t:TTok}{d:Int}(h1:0≤d)(h2:d≤1000+30 * ins.length+21)(hc:t.fKind=7→t.fNum≤d∧∃f,findN C.p 0 t.fName=some f∧(argsN C.p f:Int)=t.fNum)(s:Gs):Dp s (finG C rep x ins line t d s):=by
 unfold finG
 split
 ·exact emit_dp (by omega)
 split
 ·exact emit_dp (by omega)
 split
 ·rename_i h7
  obtain⟨hn,f,hf,ha⟩:=hc h7
  split
  ·rename_i g hg
   rw[hf]at hg
   injection hg with hg
   subst hg
   obtain⟨_,ln,k1,k2,_⟩:=find_some hf
   split
   ·rename_i hr
    exact hrep line f d s ⟨ln,k1,k2⟩ (by omega) h2 hr
   ·exact emit_dp (by omega)
  ·exact Dp.refl s
 ·exact emit_dp (by omega)
mutual
theorem genE_dp (hi:ins.length≤4)(hrep:RepD C rep x ins):∀(e:Ex) (d:Int) (s:Gs),e.ok→CallsE C e.toks→0≤d→d+e.toks.length≤1000+30 * ins.length+21→Dp s (genE C rep x ins line e d s)
 | .node t es,d,s,h,hc,h1,h2=>by
  rw[Ex.toks,List.length_cons]at h2
  rw[genE]
  have hle:=exs_len es
  refine(genEs_dp hi hrep es d s h.2.2 (fun u hu=>hc u (by rw[Ex.toks];simp[hu])) h1 (by omega)).trans (fin_dp hi hrep (by omega) (by omega) (fun h7=>⟨?_,hc t (by rw[Ex.toks];simp) h7⟩) _)
  have har:=h.2.1
  have ht:=h.1
  have ha:arity t=t.fNum:=by simp[arity,ht,h7]
  unfold tokOk at ht
  rw[if_neg (by omega:¬t.fKind=0),if_pos h7]at ht
  simp only[Bool.and_eq_true,within_iff]at ht
  unfold ar at har
  rw[ha]at har
  omega
theorem genEs_dp (hi:ins.length≤4)(hrep:RepD C rep x ins):∀(es:List Ex) (d:Int) (s:Gs),exsOk es→CallsE C (exToks es)→0≤d→d+(exToks es).length≤1000+30 * ins.length+21→Dp s (genEs C rep x ins line es d s)
 | [],d,s,_,_,_,_=>by rw[genEs];exact Dp.refl s
 | a::es,d,s,h,hc,h1,h2=>by
  rw[exToks,List.length_append]at h2
  rw[genEs]
  have hp:=a.toks_pos
  exact(genE_dp hi hrep a d s h.1 (fun u hu=>hc u (by rw[exToks];simp[hu])) h1 (by omega)).trans (genEs_dp hi hrep es (d+1) _ h.2 (fun u hu=>hc u (by rw[exToks];simp[hu])) (by omega) (by omega))
end
theorem space_dp (x:Sc){d:Int}(h:0≤d∧d≤1200)(s:Gs):Dp s (spaceG C x line d s):=by
 unfold spaceG
 split
 ·exact emit_dp h
 ·exact Dp.refl s
theorem pre_dp {g:Nat}{d:Int}(h1:(argsN C.p g:Int)≤d)(h2:d≤1199)(s:Gs):Dp s (preG C x line g d s):=by
 unfold preG
 exact((show Dp s ⟨s.items,max s.most (topOf C x+(localsOf C.p (g:Int)).length),s.start⟩ from id).trans (stores_dp _ d _ (by omega) (by omega))).trans (zeros_dp (by omega) _ _ _)
theorem leave_dp (k:Nat)(last:Bool){d:Int}(h:0≤d∧d≤1200)(L:Ls):Dp L.g (leaveG C x k last d L).g:=by
 unfold leaveG
 split
 ·split
  ·exact emit_dp h
  ·exact emit_dp h
 split
 ·exact Dp.refl _
 ·exact emit_dp h
theorem stepA_dp (hC:CxOk C)(hi:ins.length≤4)(hrep:RepD C rep x ins){k:Nat}{ln:TLine}(hk:C.p[k]?=some ln)(h0:ln.fKind≠0)(hcl:ln.fKind≠7→CallsE C ln.fExpr){base:Int}(hb1:0≤base)(hb2:base≤1000+30 * ins.length)(L:Ls):Dp L.g (stepA C rep x ins base k ln L).g:=by
 unfold stepA
 split
 ·intro h
  exact setArg_dp _ _ (emit_dp (C:=C) (by omega) h)
 rename_i h4
 split
 ·split
  ·exact Dp.trans (b:=emitG C L.g base 0 0 k x.chain) (emit_dp (by omega)) (leave_dp k true (d:=base+1) (by omega) {L with g:=emitG C L.g base 0 0 k x.chain})
  split
  ·exact emit_dp (by omega)
  ·exact Dp.refl _
 ·rename_i h7
  have hlk:=hC.line _ _ hk
  have hex:=exL_ok (hlk.2.2.2.2 (by omega))
  have h20:=hlk.2.2.2.1
  have hcl:=hcl h7
  rw[hex.2]at h20 hcl
  have tg:Dp L.g (genE C rep x ins k (exL ln.fExpr) base ⟨L.g.items,L.g.most,true⟩):=genE_dp hi hrep (exL ln.fExpr) base ⟨L.g.items,L.g.most,true⟩ hex.1 hcl hb1 (by omega)
  dsimp only
  split
  ·exact tg.trans (emit_dp (by omega))
  split
  ·exact tg.trans (emit_dp (by omega))
  split
  ·exact tg.trans (leave_dp k false (d:=base+1) (by omega) {L with g:=genE C rep x ins k (exL ln.fExpr) base ⟨L.g.items,L.g.most,true⟩,heads:=L.heads.set k L.g.items.length})
  ·exact tg.trans (emit_dp (by omega))
theorem stepB_dp (k:Nat)(ln:TLine)(L:Ls):Dp L.g (stepB C x k ln L).g:=by
 unfold stepB
 split
 ·exact fun h=>setArg_dp _ _ h
 ·exact Dp.refl _
theorem runL_dp (hC:CxOk C)(hi:ins.length≤4)(hrep:RepD C rep x ins){base:Int}(hb1:0≤base)(hb2:base≤1000+30 * ins.length):∀(n k:Nat) (L:Ls),(∀(i:Nat) (y:TLine),k≤i→i < k+n→C.p[i]?=some y→y.fKind≠0∧(y.fKind≠7→CallsE C y.fExpr))→Dp L.g (runL C rep x ins base n k L).g
 | 0,k,L,_=>by rw[runL];exact Dp.refl _
 | n+1,k,L,h=>by
  rw[runL]
  split
  ·rename_i ln hk
   obtain⟨a1,a2⟩:=h k ln (Nat.le_refl _) (by omega) hk
   exact((stepA_dp hC hi hrep hk a1 a2 hb1 hb2 L).trans (stepB_dp k ln _)).trans (runL_dp hC hi hrep hb1 hb2 n (k+1) _ fun i y h1 h2=>h i y (by omega) (by omega))
  ·exact Dp.refl _
theorem linesG_dp (hC:CxOk C)(hx:ScOk C x ins)(hi:ins.length≤4)(hrep:RepD C rep x ins){base:Int}(hb1:0≤base)(hb2:base≤1000+30 * ins.length)(s:Gs):Dp s (linesG C rep x ins base s).1:=by
 obtain⟨ln,h1,h2⟩:=hx.fn
 obtain⟨e,h3,_,_,h4⟩:=hC.fn _ _ h1 h2
 obtain⟨e',g3,g4,g4',g5,_⟩:=hx.endE hC
 rw[h3]at g3
 injection g3 with g3
 subst g3
 unfold linesG
 rw[g5]
 refine runL_dp hC hi hrep hb1 hb2 (e - x.f) (x.f+1) (startL C s) fun i y k1 k2 hy=>?_
 by_cases hie:i=e
 ·subst hie
  obtain⟨z,hz,h7⟩:=endAt_kind h3
  rw[hy]at hz
  injection hz with hz
  subst hz
  exact⟨by omega,fun hn=>absurd h7 hn⟩
 ·obtain⟨b1,b2,_⟩:=h4 i y (by omega) (by omega) hy
  exact⟨b1,fun _=>b2⟩
end
theorem repN_dp {C:Cx}(hC:CxOk C):∀(lev:Nat) {x:Sc} {ins:List Nat},ScOk C x ins→RepD C (repN C lev) x ins
 | 0,x,ins,hx,line,g,d,s,_,_,_,_=>Dp.refl s
 | lev+1,x,ins,hx,line,g,d,s,hg,h1,h2,hr=>by
  obtain⟨r1,r2,r3,_⟩:=replB_spec hr
  have hin:=hC.inl
  have hy:=inSc_ok hC hx line hg
  have hil:(ins++[g]).length=ins.length+1:=by simp
  have t1:=pre_dp (x:=x) (line:=line) h1 (by omega) s
  have t2:=space_dp (C:=C) (line:=line) x (d:=d - argsN C.p g) (by omega) (preG C x line g d s)
  have t3:=linesG_dp hC hy (by omega) (repN_dp hC lev hy) (base:=d - argsN C.p g) (by omega) (by omega) (spaceG C x line (d - argsN C.p g) (preG C x line g d s))
  intro h
  exact patchL_dp _ _ (((t1.trans t2).trans t3) h)
end Go.Proofs.Ytogdbgmiigfmfaa
namespace Go.Proofs.Ytogdbgmiigfmfaa
open Go.Sim
set_option maxRecDepth 100000
set_option maxHeartbeats 4000000
theorem unpack_len {s:List UInt8}{p:Int}(hs:s.length≤1048576):(upL (unpackInts s p)).length≤1048576:=by
 unfold unpackInts
 match hd:dec s p with
 | none=>simp[upL]
 | some (a,b)=>
  have h1:=dec_some hd
  dsimp only
  match hu:unpackL s p.toNat a b with
  | none=>simp[upL]
  | some y=>
   have h2:=unpackL_len hu
   simp only[upL]
   omega
end Go.Proofs.Ytogdbgmiigfmfaa
namespace Go.Proofs.Ytogdbgmiigfmfaa
open Go.Sim
set_option maxRecDepth 100000
set_option maxHeartbeats 4000000
def oL {α:Type}(o:Option (List α)):List α:=match o with|some l=>l|none=>[]
theorem signed_in (n:Int):-549755813888≤signed n∧signed n≤549755813888:=by
 unfold signed
 split
 ·rename_i h
  have:=within_iff.1 h
  split <;> omega
 ·omega
theorem unpackL_in {s:List UInt8}{p:Nat}:∀{n z:Nat} {y:List Int×Nat},unpackL s p n z=some y→∀x∈y.1,-549755813888≤x∧x≤549755813888
 | 0,z,y,h=>by
  rw[unpackL]at h
  injection h with h
  subst h
  intro x hx
  cases hx
 | n+1,z,y,h=>by
  rw[unpackL]at h
  split at h
  ·cases h
  ·rw[Option.map_eq_some_iff]at h
   obtain⟨y',h',rfl⟩:=h
   have:=unpackL_in h'
   intro x hx
   rcases List.mem_cons.1 hx with rfl|hx
   ·exact signed_in _
   ·exact this x hx
theorem unpack_in {s:List UInt8}{p:Int}{ns:List Int}{z:Nat}(h:unpackInts s p=some (ns,z)):∀x∈ns,-549755813888≤x∧x≤549755813888:=by
 unfold unpackInts at h
 split at h
 ·cases h
 ·exact unpackL_in h
theorem packL_in:∀{l:List Int} {bs:List UInt8},packL l=some bs→∀n∈l,inSign n
 | [],_,_,n,hn=>by cases hn
 | m::l,bs,h,n,hn=>by
  rw[packL]at h
  split at h
  ·cases h
  ·rename_i hneg
   rw[Option.map_eq_some_iff]at h
   obtain⟨b',h',_⟩:=h
   rcases List.mem_cons.1 hn with rfl|hn
   ·unfold signless at hneg
    split at hneg
    ·rename_i hw
     exact within_iff.1 hw
    ·omega
   ·exact packL_in h' n hn
theorem unpack_nil:unpackInts [] 0=none:=by decide
theorem pack_full {s:List UInt8}{l ns:List Int}{z:Nat}(hl:l.length≤1099511627775)(he:packInts l=s)(hu:unpackInts s 0=some (ns,z)):z=s.length∧ns=l:=by
 match hp:packL l with
 | none=>
  have:packInts l=[]:=by rw[packInts,hp]
  rw[←he,this,unpack_nil]at hu
  cases hu
 | some bs=>
  have hin:=packL_in hp
  have h:=unpack_at (s:=s) (rest:=[]) (p:=0) hin hl (by rw[List.drop_zero,List.append_nil,he])
  rw[show((0:Nat):Int)=0 from rfl,hu]at h
  injection h with h
  injection h with h1 h2
  exact⟨by rw[h2,he],h1⟩
def decRulesL:Int→List Int→List TRule
 | p,a::b::c::d::l=>⟨p+a,p+a+b,c==1,d⟩::decRulesL (p+a+b) l
 | _,_=>[]
def decodeRules (s:List UInt8):Option (List TRule):=match unpackInts s 0 with
 | none=>none
 | some x=>if x.1.length % 4=0∧encodeRules (decRulesL 0 x.1)=s then some (decRulesL 0 x.1)else none
theorem encRules_len:∀(l:List TRule) (p:Int),(encRulesL p l).length=4 * l.length
 | [],_=>rfl
 | r::l,_=>by rw[encRulesL];simp[encRules_len l r.fEnd];omega
theorem decRulesL_nil (p:Int):decRulesL p []=[]:=by simp[decRulesL]
theorem decRulesL_len:∀(p:Int) (l:List Int),4 * (decRulesL p l).length≤l.length
 | p,a::b::c::d::l=>by rw[decRulesL];have:=decRulesL_len (p+a+b) l;simp only[List.length_cons];omega
 | _,[]=>by simp[decRulesL]
 | _,[_]=>by simp[decRulesL]
 | _,[_,_]=>by simp[decRulesL]
 | _,[_,_,_]=>by simp[decRulesL]
theorem rules_full {s:List UInt8}{R:List TRule}{ns:List Int}{z:Nat}(hR:R.length≤1048576)(he:encodeRules R=s)(hu:unpackInts s 0=some (ns,z)):z=s.length:=by
 unfold encodeRules at he
 split at he
 ·exact(pack_full (by rw[encRules_len];omega) he hu).1
 ·rw[←he,unpack_nil]at hu
  cases hu
abbrev DecUIx (ns:List Int):={q:Nat×Int×List TRule // 4 * q.2.2.length=q.1∧q.1≤ns.length∧(-(549755813888 * (q.1:Int))≤q.2.1∧q.2.1≤549755813888 * (q.1:Int))∧q.2.2++decRulesL q.2.1 (ns.drop q.1)=decRulesL 0 ns}
theorem s_impl_DecodeRules (s:List UInt8)(hs:s.length≤1048576):Sim.Spec Try.prog 37 [tvS s] (.tup [.c (.arr 4 ((oL (decodeRules s)).map TRule.tr)),.c (.t (.bool (decodeRules s).isSome))]):=by
 refine spec_of_W hΓ hmix Try.func37 rfl (by decide) rfl ?_
 have hun:=s_impl_UnpackInts s 0 hs (by omega)
 have hul:=unpack_len (p:=0) hs
 match hu:unpackInts s 0 with
 | none=>
  rw[hu]at hun
  dsimp only[rUnp,upL,upZ,Option.isSome]at hun
  have hd:decodeRules s=none:=by rw[decodeRules,hu]
  rw[hd]
  repeat' ((conv=>whnf);first|refine Or.inl ?_|apply oi|(apply fi<;>intro h)|refine ci hun (ai rfl (ai rfl trivial)) ?_|refine⟨_,rfl,?_⟩|((with_reducible show _=_);rfl))
  all_goals try((with_reducible refine Obl.mk ?_);exact KO)
 | some (ns,z)=>
  rw[hu]at hun hul
  dsimp only[rUnp,upL,upZ,Option.isSome]at hun hul
  have hlen:(ns.map intRow).length=ns.length:=by simp
  by_cases h3:ns.length % 4=0
  ·have hrg:=unpack_in hu
   have hm3:((ns.map intRow).length:Int).tmod 4=0:=by rw[hlen,Int.tmod_eq_emod_of_nonneg (by omega)];omega
   have hRl:=decRulesL_len 0 ns
   have hEnc:=s_impl_EncodeRules (decRulesL 0 ns) (by omega)
   have hd:decodeRules s=if encodeRules (decRulesL 0 ns)=s then some (decRulesL 0 ns)else none:=by
    rw[decodeRules,hu]
    by_cases he:encodeRules (decRulesL 0 ns)=s
    ·rw[if_pos he];exact if_pos ⟨h3,he⟩
    ·rw[if_neg he];exact if_neg fun h=>he h.2
   have hz:=fun he=>rules_full (R:=decRulesL 0 ns) (by omega) he hu
   rw[hd]
   repeat' ((conv=>whnf);first|refine Or.inl ?_|apply oi|(apply fi<;>intro h)|refine ci hun (ai rfl (ai rfl trivial)) ?_|refine⟨_,rfl,?_⟩|((with_reducible show _=_);rfl))
   all_goals try((with_reducible refine Obl.mk ?_);exact KO)
   all_goals try(exfalso;rw[hm3]at h;simp at h;done)
   all_goals try(
    have hne:encodeRules (decRulesL 0 ns)≠s:=fun he=>by
     have:=hz he
     rw[this]at h
     simp at h
    rw[if_neg hne]
    exact⟨rfl⟩)
   conv=>whnf
   refine⟨DecUIx ns,fun q=>⟨[(0,tS s),(4,.r (.c (.own (13,0,0)))),(7,.r (.c (.own (25,0,0)))),(8,tI .i64 q.1.2.1),(9,tI .i64 (q.1.1:Int))],[((13,0,0),some (.arr true 1 (ns.map intRow))),((25,0,0),some (.arr true 4 (q.1.2.2.map TRule.tr)))],[13,25]⟩,fun q=>ns.length - q.1.1,⟨(0,0,[]),by simp,by simp,by simp,by simp⟩,?_,?_⟩
   ·skip
    repeat' ((conv=>whnf);first|refine Or.inl ?_|apply oi|(apply fi<;>intro h)|refine⟨_,rfl,?_⟩|((with_reducible show _=_);rfl))
    all_goals try((with_reducible refine Obl.mk ?_);exact KO)
   intro⟨⟨k,p,acc⟩,hal,hk,hb,hr⟩
   dsimp only at hal hk hb hr ⊢
   by_cases hlt:k < ns.length
   ·obtain⟨a,ha⟩:=get_of_lt hlt
    obtain⟨b,hb2⟩:=get_of_lt (show k+1 < ns.length by omega)
    obtain⟨c,hc⟩:=get_of_lt (show k+2 < ns.length by omega)
    obtain⟨d,hd2⟩:=get_of_lt (show k+3 < ns.length by omega)
    have ia:=hrg a (List.mem_of_getElem? ha)
    have ib:=hrg b (List.mem_of_getElem? hb2)
    rw[drop_at ha,drop_at hb2,drop_at hc,drop_at hd2,decRulesL]at hr
    have w1:IntKind.i64.wrap ((k:Int)+1)=((k+1:Nat):Int):=by rw[IntWalk.i64_in _ (by omega)];rfl
    have w2:IntKind.i64.wrap ((k:Int)+2)=((k+2:Nat):Int):=by rw[IntWalk.i64_in _ (by omega)];rfl
    have w0:IntKind.i64.wrap ((k:Int)+3)=((k+3:Nat):Int):=by rw[IntWalk.i64_in _ (by omega)];rfl
    have w3:IntKind.i64.wrap (p+a)=p+a:=IntWalk.i64_in _ (by omega)
    have w4:IntKind.i64.wrap (p+a+b)=p+a+b:=IntWalk.i64_in _ (by omega)
    repeat' ((conv=>whnf);first|refine Or.inl ?_|apply oi|(apply fi<;>intro h)|refine⟨k+1,w1,?_⟩|refine⟨k+2,w2,?_⟩|refine⟨k+3,w0,?_⟩|refine⟨intRow a,map_get ha,?_⟩|refine⟨intRow b,map_get hb2,?_⟩|refine⟨intRow c,map_get hc,?_⟩|refine⟨intRow d,map_get hd2,?_⟩|refine⟨_,rfl,?_⟩|((with_reducible show _=_);rfl))
    all_goals try((with_reducible refine Obl.mk ?_);exact KO)
    all_goals try exact KX
    all_goals try exact⟨by rw[hlen];omega⟩
    all_goals try exact⟨⟨by simp;omega,by simp;omega⟩⟩
    all_goals(
     conv=>whnf
     refine⟨⟨(k+4,p+a+b,acc++[⟨p+a,p+a+b,c==1,d⟩]),by simp;omega,by dsimp only;omega,⟨by dsimp only;omega,by dsimp only;omega⟩,by rw[←hr];simp⟩,?_,by dsimp only;omega⟩)
    repeat' ((conv=>whnf);first|refine Or.inl ?_|apply oi|(apply fi<;>intro h)|refine⟨_,rfl,?_⟩|((with_reducible show _=_);rfl))
    all_goals try((with_reducible refine Obl.mk ?_);exact KO)
    all_goals first
     |(refine⟨?_⟩;dsimp only;rw[w3,w4,List.map_append];rfl)
     |(refine⟨?_⟩;dsimp only;rw[w3,w4];done)
     |(refine⟨?_⟩;dsimp only;rw[w3];done)
     |(refine⟨?_⟩;dsimp only;rw[w4];done)
     |(refine⟨?_⟩;dsimp only;rw[IntWalk.i64_in _ (by omega)];rfl)
   ·have hge:ns.length≤k:=by omega
    rw[List.drop_eq_nil_of_le hge,decRulesL_nil,List.append_nil]at hr
    ·subst hr
     by_cases he:encodeRules (decRulesL 0 ns)=s
     ·rw[if_pos he]
      rw[he]at hEnc
      repeat' ((conv=>whnf);first|refine Or.inl ?_|apply oi|(apply fi<;>intro h)|refine ci hEnc (ai rfl trivial) ?_|refine⟨_,rfl,?_⟩|((with_reducible show _=_);rfl))
      all_goals try((with_reducible refine Obl.mk ?_);exact KO)
      all_goals try exact KX
      all_goals(exfalso;simp at h;done)
     ·rw[if_neg he]
      repeat' ((conv=>whnf);first|refine Or.inl ?_|apply oi|(apply fi<;>intro h)|refine ci hEnc (ai rfl trivial) ?_|refine⟨_,rfl,?_⟩|((with_reducible show _=_);rfl))
      all_goals try((with_reducible refine Obl.mk ?_);exact KO)
      all_goals try exact KX
      all_goals(exfalso;simp at h;exact he h)
  ·have hd:decodeRules s=none:=by rw[decodeRules,hu];exact if_neg fun h=>h3 h.1
   rw[hd]
   have hm3:((ns.map intRow).length:Int).tmod 4≠0:=by rw[hlen,Int.tmod_eq_emod_of_nonneg (by omega)];omega
   repeat' ((conv=>whnf);first|refine Or.inl ?_|apply oi|(apply fi<;>intro h)|refine ci hun (ai rfl (ai rfl trivial)) ?_|refine⟨_,rfl,?_⟩|((with_reducible show _=_);rfl))
   all_goals try((with_reducible refine Obl.mk ?_);exact KO)
   all_goals(exfalso;simp at h;exact hm3 (by rw[hlen];exact h))
end Go.Proofs.Ytogdbgmiigfmfaa
namespace Go.Proofs.Ytogdbgmiigfmfaa
open Go.Sim
set_option maxRecDepth 100000
set_option maxHeartbeats 4000000
structure PsOk (P:List TPlace):Prop where
 at0:∀x:TPlace,P[0]?=some x→x.fOffset=0
 next:∀(k:Nat) (x y:TPlace),P[k]?=some x→P[k+1]?=some y→y.fOffset=x.fOffset+opSize x.fItem.fOp.fCode
 rng:∀(k:Nat) (x:TPlace),P[k]?=some x→0≤x.fOffset∧x.fOffset≤100000∧1≤opSize x.fItem.fOp.fCode∧opSize x.fItem.fOp.fCode≤5∧0≤x.fItem.fLine∧x.fItem.fLine≤59
 len:P.length≤15000
theorem allPl_split:∀{L:List (Nat×List TPlace)} {k:Nat} {x:TPlace},(allPl L)[k]?=some x→∃i z j,L[i]?=some z∧z.2[j]?=some x∧k=(allPl (L.take i)).length+j
 | [],k,x,h=>by simp[allPl]at h
 | a::L,k,x,h=>by
  have e:allPl (a::L)=a.2++allPl L:=by simp[allPl]
  rw[e,List.getElem?_append]at h
  split at h
  ·exact⟨0,a,k,rfl,h,by simp[allPl]⟩
  ·obtain⟨i,z,j,h1,h2,h3⟩:=allPl_split h
   refine⟨i+1,z,j,by simpa using h1,h2,?_⟩
   rw[List.take_succ_cons,show allPl (a::L.take i)=a.2++allPl (L.take i) by simp[allPl],List.length_append]
   omega
theorem opSize_pos {c a:Int}(h:opOkB c a=true):1≤opSize c∧opSize c≤5:=by
 unfold opOkB at h
 rw[Bool.and_eq_true]at h
 have:=opArg_le c
 rw[opSize,if_pos h.1]
 omega
theorem placesOf_ok {p:List TLine}{b:TBuild}{image:Int}(hs:smallT 1048576 (.lst 4 (p.map TLine.tr))):PsOk (placesOf p b image):=by
 by_cases hc:programOk p=true∧buildOk b=true∧within image 0 1=true
 ·rw[placesOf,if_pos hc]
  obtain⟨h1,h2,_⟩:=hc
  show PsOk (allPl (imgL p b image (funs p).length 0 0))
  obtain⟨h6,h60⟩:=funs_six h1
  have hll:=imgL_len p b image (funs p).length 0 0
  have hlc:=fun x (hx:x∈imgL p b image (funs p).length 0 0)=>(imgL_cap hs hx).1
  have hal:=allPl_cap hlc (Nat.le_refl _)
  rw[List.take_of_length_le (Nat.le_refl _)]at hal
  have hal2:=Nat.mul_le_mul_left 2500 (show(imgL p b image (funs p).length 0 0).length≤6 by omega)
  have key:∀(k:Nat) (x:TPlace),(allPl (imgL p b image (funs p).length 0 0))[k]?=some x→x.fOffset=((codeOf ((allPl (imgL p b image (funs p).length 0 0)).take k)).length:Int)∧opOkB x.fItem.fOp.fCode x.fItem.fOp.fArg=true∧0≤x.fItem.fLine∧x.fItem.fLine≤59:=by
   intro k x hx
   obtain⟨i,z,j,g1,g2,rfl⟩:=allPl_split hx
   obtain⟨hp,ho⟩:=imgL_place hs h1 h2 g1 g2
   have ht:(allPl (imgL p b image (funs p).length 0 0)).take ((allPl ((imgL p b image (funs p).length 0 0).take i)).length+j)=allPl ((imgL p b image (funs p).length 0 0).take i)++z.2.take j:=by
    generalize imgL p b image (funs p).length 0 0=L at *
    have e:L=L.take i++z::L.drop (i+1):=by rw[←drop_at g1,List.take_append_drop]
    have e2:allPl L=allPl (L.take i)++(z.2++allPl (L.drop (i+1))):=by
     conv=>lhs;rw[e]
     simp[allPl]
    rw[e2,List.take_append,Nat.add_sub_cancel_left,List.take_of_length_le (by omega),List.take_append_of_le_length (Nat.le_of_lt (lt_of_get g2))]
   refine⟨by rw[ht,codeOf_append,List.length_append];omega,hp.op,?_⟩
   rcases Nat.eq_zero_or_pos j with rfl|hj
   ·obtain⟨_,g,ln,k1,k2,k3,_⟩:=hp.head rfl
    have:=lt_of_get k3
    omega
   ·obtain⟨_,g,ln,k2,k3,_⟩:=hp.body hj
    have:=lt_of_get k3
    omega
  generalize allPl (imgL p b image (funs p).length 0 0)=P at *
  refine⟨fun x hx=>?_,fun k x y hx hy=>?_,fun k x hx=>?_,by omega⟩
  ·have:=(key 0 x hx).1
   simpa [codeOf]using this
  ·obtain⟨a1,a2,_⟩:=key k x hx
   obtain⟨b1,_⟩:=key (k+1) y hy
   have:=encodeOp_len a2
   rw[b1,a1,take_one hx,codeOf_append,List.length_append,codeOf_one]
   omega
  ·obtain⟨a1,a2,a3,a4⟩:=key k x hx
   have hz:=opSize_pos a2
   have hcl:=codeOf_len (P.take k)
   have hkl:=lt_of_get hx
   have:(P.take k).length=k:=by rw[List.length_take];omega
   omega
 ·rw[placesOf,if_neg hc]
  exact⟨fun x h=>by simp at h,fun k x y h=>by simp at h,fun k x h=>by simp at h,by simp⟩
theorem PsOk.lt {P:List TPlace}(h:PsOk P):∀{n k:Nat} {x y:TPlace},P[k]?=some x→P[k+n+1]?=some y→x.fOffset+opSize x.fItem.fOp.fCode≤y.fOffset
 | 0,k,x,y,hx,hy=>by have:=h.next k x y hx hy;omega
 | n+1,k,x,y,hx,hy=>by
  obtain⟨z,hz⟩:=get_of_lt (l:=P) (k:=k+n+1) (by have:=lt_of_get hy;omega)
  have h1:=h.lt hx hz
  have h2:=h.next (k+n+1) z y hz (by rw[show k+n+1+1=k+(n+1)+1 by omega];exact hy)
  have:=(h.rng _ z hz).2.2.1
  omega
theorem inSign_of {n:Int}(h:-1000000≤n∧n≤1000000):inSign n:=by unfold inSign;omega
end Go.Proofs.Ytogdbgmiigfmfaa
namespace Go.Proofs.Ytogdbgmiigfmfaa
open Go.Sim
set_option maxRecDepth 100000
set_option maxHeartbeats 4000000
theorem compileF_dp {p:List TLine}{f:Int}{b:TBuild}(hs:smallT 1048576 (.lst 4 (p.map TLine.tr)))(h1:programOk p=true)(h2:buildOk b=true)(h3:0≤f)(h4:f < (funs p).length):∀it∈compileF p f b,DI it:=by
 obtain⟨g,C,k1,k2,k3,k4,k5,k6,k7,k8,k9⟩:=compiled_of hs h1 h2 h3 h4
 have hS:ScOk C (outerSc C g) [g]:=⟨k7,rfl,⟨Int.le_refl _,by simp[outerSc]⟩,rfl,by simp[outerSc],fun _=>k5,rfl⟩
 have hw:=k2.words
 rw[k8]
 refine linesG_dp k2 hS (by simp) (repN_dp k2 C.b.fInline.toNat hS) (base:=C.words) hw.1 (by simp only[List.length_cons,List.length_nil];omega) (headG C g) ?_
 exact emit_dp (C:=C) (s:=⟨[],(localsOf C.p (g:Int)).length - C.args,false⟩) (d:=0) (by omega) (fun it h=>by cases h)
def DPs (P:List TPlace):Prop:=∀x∈P,DI x.fItem
theorem placesOf_dp {p:List TLine}{b:TBuild}{image:Int}(hs:smallT 1048576 (.lst 4 (p.map TLine.tr))):DPs (placesOf p b image):=by
 by_cases hc:programOk p=true∧buildOk b=true∧within image 0 1=true
 ·rw[placesOf,if_pos hc]
  obtain⟨h1,h2,_⟩:=hc
  show DPs (allPl (imgL p b image (funs p).length 0 0))
  intro x hx
  obtain⟨k,hk⟩:=List.mem_iff_getElem?.1 hx
  obtain⟨i,z,j,g1,g2,rfl⟩:=allPl_split hk
  obtain⟨e1,e2,_⟩:=imgL_at hs h1 h2 (by omega) g1
  rw[e1]at g2
  have hj:j < (compileF p (z.1:Int) b).length:=by have:=lt_of_get g2;rwa [placesF_len]at this
  obtain⟨it,hit⟩:=get_of_lt hj
  rw[placesF_get hit]at g2
  injection g2 with g2
  subst g2
  have:=compileF_dp (f:=(z.1:Int)) hs h1 h2 (by omega) (by omega) it (List.mem_of_getElem? hit)
  dsimp only
  unfold jumpI
  split
  ·exact this
  ·exact this
 ·rw[placesOf,if_neg hc]
  intro x hx;cases hx
def lastEnd (p:Int)(l:List TRule):Int:=match l.getLast? with|some r=>r.fEnd|none=>p
theorem rulesOkF_snoc:∀{l:List TRule} {p:Int} {r:TRule},rulesOkF p (l++[r])=true↔rulesOkF p l=true∧ruleOkAt (lastEnd p l) r
 | [],p,r=>by
  rw[List.nil_append,rulesOkF,rulesOkF,rulesOkF]
  simp[lastEnd]
 | y::l,p,r=>by
  rw[List.cons_append,rulesOkF,rulesOkF]
  have e:lastEnd p (y::l)=lastEnd y.fEnd l:=by
   unfold lastEnd
   cases l with
   | nil=>rfl
   | cons z l=>simp[List.getLast?_cons]
  rw[e]
  split
  ·exact rulesOkF_snoc
  ·simp
def rulesTo (P:List TPlace)(k:Nat):List TRule:=(P.take k).foldl (fun a x=>addRule a (ruleOf x)) []
theorem rulesTo_succ {P:List TPlace}{k:Nat}{x:TPlace}(hx:P[k]?=some x):rulesTo P (k+1)=addRule (rulesTo P k) (ruleOf x):=by
 rw[rulesTo,take_one hx,List.foldl_append]
 rfl
structure RInv (P:List TPlace) (k:Nat) (R:List TRule):Prop where
 ok:rulesOk R=true
 len:R.length≤k
 nil:R=[]↔k=0
 fin:∀x,P[k]?=some x→lastEnd 0 R=x.fOffset
 all:∀(j:Nat) (x:TPlace),j < k→P[j]?=some x→∃(i:Nat) (r:TRule),R[i]?=some r∧r.fStart≤x.fOffset∧x.fOffset+opSize x.fItem.fOp.fCode≤r.fEnd∧r.fFrame=x.fItem.fEntered∧r.fDepth=x.fItem.fDepth
theorem lastEnd_snoc (p:Int)(l:List TRule)(r:TRule):lastEnd p (l++[r])=r.fEnd:=by simp[lastEnd]
theorem rules_inv {P:List TPlace}(h:PsOk P)(hd:DPs P):∀{k:Nat},k≤P.length→RInv P k (rulesTo P k)
 | 0,_=>⟨rfl,by simp[rulesTo],by simp[rulesTo],fun x hx=>by rw[h.at0 x hx];rfl,fun j x hj=>by omega⟩
 | k+1,hk=>by
  obtain⟨x,hx⟩:=get_of_lt (l:=P) (k:=k) (by omega)
  have I:=rules_inv h hd (k:=k) (by omega)
  have hr:=h.rng k x hx
  have hdx:=hd x (List.mem_of_getElem? hx)
  unfold DI at hdx
  have hfx:=I.fin x hx
  rw[rulesTo_succ hx]
  have hfin:∀y,P[k+1]?=some y→x.fOffset+opSize x.fItem.fOp.fCode=y.fOffset:=fun y hy=>(h.next k x y hx hy).symm
  have hok:=I.ok
  have hlen:=I.len
  have hall:=I.all
  generalize rulesTo P k=R at *
  rcases nil_or_snoc R with rfl|⟨ini,r,rfl⟩
  ·have hk0:k=0:=I.nil.1 rfl
   subst hk0
   have e:addRule [] (ruleOf x)=[ruleOf x]:=rfl
   rw[e]
   have h0:=h.at0 x hx
   refine⟨?_,by simp,by simp,fun y hy=>by rw[←hfin y hy];rfl,fun j y hj hy=>?_⟩
   ·rw[rulesOk,rulesOkF,rulesOkF,if_pos]
    unfold ruleOkAt ruleOf
    dsimp only
    exact⟨by omega,by omega,by omega,hdx.1,hdx.2.1,hdx.2.2⟩
   ·have:j=0:=by omega
    subst this
    rw[hx]at hy
    injection hy with hy
    subst hy
    exact⟨0,ruleOf x,rfl,Int.le_refl _,Int.le_refl _,rfl,rfl⟩
  ·rw[lastEnd_snoc]at hfx
   have ho:=rulesOkF_snoc.1 hok
   rw[addRule_snoc]
   split
   ·rename_i hj
    unfold joins at hj
    simp only[Bool.and_eq_true,beq_iff_eq]at hj
    have hrr:=ho.2
    unfold ruleOkAt at hrr
    refine⟨rulesOkF_snoc.2 ⟨ho.1,?_⟩,by simp only[List.length_append,List.length_cons,List.length_nil]at hlen ⊢;omega,by simp,fun y hy=>by rw[lastEnd_snoc,←hfin y hy];rfl,fun j y hjk hy=>?_⟩
    ·unfold ruleOkAt ruleOf
     dsimp only
     exact⟨hrr.1,by omega,by omega,hrr.2.2.2.1,hrr.2.2.2.2.1,hrr.2.2.2.2.2⟩
    ·by_cases hjx:j=k
     ·subst hjx
      rw[hx]at hy
      injection hy with hy
      subst hy
      refine⟨ini.length,⟨r.fStart,(ruleOf x).fEnd,r.fFrame,r.fDepth⟩,by simp,?_,Int.le_refl _,hj.2.1,hj.2.2⟩
      dsimp only
      omega
     ·obtain⟨i,q,q1,q2,q3,q4,q5⟩:=hall j y (by omega) hy
      rw[List.getElem?_append]at q1
      split at q1
      ·rename_i hi
       exact⟨i,q,by rw[List.getElem?_append_left hi];exact q1,q2,q3,q4,q5⟩
      ·rename_i hi
       have hi0:i - ini.length=0:=by
        rcases Nat.eq_zero_or_pos (i - ini.length)with e|e
        ·exact e
        ·rw[List.getElem?_eq_none (by simp;omega)]at q1;cases q1
       rw[hi0]at q1
       simp only[List.getElem?_cons_zero,Option.some.injEq]at q1
       subst q1
       refine⟨ini.length,⟨r.fStart,(ruleOf x).fEnd,r.fFrame,r.fDepth⟩,by simp,q2,?_,q4,q5⟩
       show _≤x.fOffset+opSize x.fItem.fOp.fCode
       omega
   ·refine⟨rulesOkF_snoc.2 ⟨hok,?_⟩,by simp only[List.length_append,List.length_cons,List.length_nil]at hlen ⊢;omega,by simp,fun y hy=>by rw[lastEnd_snoc,←hfin y hy];rfl,fun j y hjk hy=>?_⟩
    ·rw[lastEnd_snoc]
     unfold ruleOkAt ruleOf
     dsimp only
     exact⟨by omega,by omega,by omega,hdx.1,hdx.2.1,hdx.2.2⟩
    ·by_cases hjx:j=k
     ·subst hjx
      rw[hx]at hy
      injection hy with hy
      subst hy
      exact⟨(ini++[r]).length,ruleOf x,by simp,Int.le_refl _,Int.le_refl _,rfl,rfl⟩
     ·obtain⟨i,q,q1,q2⟩:=hall j y (by omega) hy
      exact⟨i,q,by rw[List.getElem?_append_left (lt_of_get q1)];exact q1,q2⟩
theorem rulesTo_all {P:List TPlace}(h:PsOk P):rulesTo P P.length=rulesOf P:=by
 have hn:near P=true:=by
  unfold near
  rw[List.all_eq_true]
  intro x hx
  obtain⟨k,hk⟩:=List.mem_iff_getElem?.1 hx
  have:=h.rng k x hk
  exact within_iff.2 ⟨this.1,by omega⟩
 rw[rulesTo,List.take_of_length_le (Nat.le_refl _),rulesOf,if_pos hn]
theorem rulesOf_inv {P:List TPlace}(h:PsOk P)(hd:DPs P):RInv P P.length (rulesOf P):=by
 rw[←rulesTo_all h];exact rules_inv h hd (Nat.le_refl _)
end Go.Proofs.Ytogdbgmiigfmfaa
namespace Go.Proofs.Ytogdbgmiigfmfaa
open Go.Sim
set_option maxRecDepth 100000
set_option maxHeartbeats 4000000
theorem g_spec_l12Places (c:TCur)(hc:c.ok):∃(P:List TPlace) (c':TCur),PsOk P∧DPs P∧P.length≤15000∧SpecG Try.prog 125 [curP] (curH c) (.r (.c (.own (1,0,0)))) (curH c'++[((1,0,0),.arr true 8 (P.map TPlace.tr))]):=by
 have g1:=g_spec_l04Program c hc
 obtain⟨h1,h2,h3,h4,h5⟩:=prog4_ok 5 c hc
 generalize prog4 5 c=R at *
 obtain⟨b,c2,hb,_,o2,g2⟩:=g_spec_l08Build R.2 h4
 have hs:=prog_small h5 h2
 have hP:=s_spec_PlacesOf R.1 b 0 hs
 have hk:=placesOf_ok (b:=b) (image:=0) hs
 refine⟨placesOf R.1 b 0,c2,hk,placesOf_dp hs,hk.len,?_⟩
 generalize placesOf R.1 b 0=P at *
 refine specG_of_Wo hΓ hmix Try.func125 rfl (by decide) rfl rfl ?_
 repeat' ((conv=>whnf);first|(with_reducible first|apply Wx|apply W6)|apply oi|(apply fi<;>intro h)|refine⟨_,rfl,?_⟩|((with_reducible show _=_);rfl))
 all_goals try((with_reducible refine Obl.mk ?_);exact KP)
 refine cg (g1) ?_
 repeat' ((conv=>whnf);first|(with_reducible first|apply Wx|apply W6)|apply oi|(apply fi<;>intro h)|refine⟨_,rfl,?_⟩|((with_reducible show _=_);rfl))
 all_goals try((with_reducible refine Obl.mk ?_);exact KP)
 refine cg (g2) ?_
 repeat' ((conv=>whnf);first|(with_reducible first|apply Wx|apply W6)|apply oi|(apply fi<;>intro h)|refine cl hP ?_|refine⟨_,rfl,?_⟩|((with_reducible show _=_);rfl))
 all_goals try((with_reducible refine Obl.mk ?_);exact KP)
theorem g_spec_DrawRules (code:List UInt8)(hl:code.length≤1048576):∃(l:List TRule),rulesOk l=true∧l.length≤15000∧
  SpecG Try.prog 35 [vCode code] [] (.r (.c (.own (1,0,0)))) [((1,0,0),.arr true 4 (l.map TRule.tr))]:=by
 have g0:=g_spec_l01New code hl
 obtain⟨P,c',h1,h2,h3,g1⟩:=g_spec_l12Places _ (cur0_ok hl)
 have hI:=rulesOf_inv h1 h2
 have hR:=s_spec_RulesOf P (by omega)
 have hlen:=hI.len
 refine⟨rulesOf P,hI.ok,by omega,?_⟩
 generalize rulesOf P=l at *
 have g2:SpecG Try.prog 83 [curP] (curH ⟨code,0,hashC code⟩) (.r (.c (.own (1,0,0)))) (curH c'++[((1,0,0),.arr true 4 (l.map TRule.tr))]):=by
  refine specG_of_Wo hΓ hmix Try.func83 rfl (by decide) rfl rfl ?_
  repeat' ((conv=>whnf);first|(with_reducible first|apply Wx|apply W6)|apply oi|(apply fi<;>intro h)|refine⟨_,rfl,?_⟩|((with_reducible show _=_);rfl))
  all_goals try((with_reducible refine Obl.mk ?_);exact KP)
  refine cg (g1) ?_
  repeat' ((conv=>whnf);first|(with_reducible first|apply Wx|apply W6)|apply oi|(apply fi<;>intro h)|refine cl hR ?_|refine⟨_,rfl,?_⟩|((with_reducible show _=_);rfl))
  all_goals try((with_reducible refine Obl.mk ?_);exact KP)
 refine specG_of_Wo hΓ hmix Try.func35 rfl (by decide) rfl rfl ?_
 repeat' ((conv=>whnf);first|(with_reducible first|apply Wx|apply W6)|apply oi|(apply fi<;>intro h)|refine⟨_,rfl,?_⟩|((with_reducible show _=_);rfl))
 all_goals try((with_reducible refine Obl.mk ?_);exact KP)
 refine cg (g0) ?_
 repeat' ((conv=>whnf);first|(with_reducible first|apply Wx|apply W6)|apply oi|(apply fi<;>intro h)|refine⟨_,rfl,?_⟩|((with_reducible show _=_);rfl))
 all_goals try((with_reducible refine Obl.mk ?_);exact KP)
 refine cg (g2) ?_
 repeat' ((conv=>whnf);first|(with_reducible first|apply Wx|apply W6)|apply oi|(apply fi<;>intro h)|refine⟨_,rfl,?_⟩|((with_reducible show _=_);rfl))
 all_goals try((with_reducible refine Obl.mk ?_);exact KP)
end Go.Proofs.Ytogdbgmiigfmfaa
namespace Go.Proofs.Ytogdbgmiigfmfaa
open Go.Sim
set_option maxRecDepth 100000
set_option maxHeartbeats 4000000
theorem packInts_len (ns:List Int):(packInts ns).length≤6 * (ns.length+1):=by
 unfold packInts
 split
 ·rename_i bs h
  have:=packL_len h
  have:=enc_len ns.length
  rw[List.length_append]
  omega
 ·simp
end Go.Proofs.Ytogdbgmiigfmfaa
namespace Go.Proofs.Ytogdbgmiigfmfaa
open Go.Sim
set_option maxRecDepth 100000
set_option maxHeartbeats 4000000
theorem encRules_in:∀{l:List TRule} {p:Int},0≤p→p≤1000000→(∀r∈l,nearRule r)→∀n∈encRulesL p l,-1000000≤n∧n≤1000000
 | [],_,_,_,_,n,h=>by cases h
 | r::l,p,h0,h1,hl,n,h=>by
  have hr:=hl r (by simp)
  unfold nearRule at hr
  rw[encRulesL]at h
  simp only[List.mem_cons]at h
  rcases h with rfl|rfl|rfl|rfl|h
  ·omega
  ·omega
  ·unfold b01;split <;> omega
  ·omega
  ·exact encRules_in (by omega) (by omega) (fun y hy=>hl y (by simp[hy])) n h
theorem dec_encRules:∀(l:List TRule) (p:Int),decRulesL p (encRulesL p l)=l
 | [],_=>by rw[encRulesL,decRulesL_nil]
 | r::l,p=>by
  have e:(⟨p+(r.fStart - p),p+(r.fStart - p)+(r.fEnd - r.fStart),b01 r.fFrame==1,r.fDepth⟩:TRule)=r:=by
   obtain⟨a,b,c,d⟩:=r
   simp only[TRule.mk.injEq]
   exact⟨by omega,by omega,by cases c <;> rfl,trivial⟩
  rw[encRulesL,decRulesL,e,show p+(r.fStart - p)+(r.fEnd - r.fStart)=r.fEnd by omega,dec_encRules l r.fEnd]
theorem unpack_rules {l:List TRule}(h:rulesOk l=true)(hl:l.length≤1048576)(rest:List UInt8):unpackInts (packInts (encRulesL 0 l)++rest) 0=some (encRulesL 0 l,(packInts (encRulesL 0 l)).length):=
 unpack_at (s:=packInts (encRulesL 0 l)++rest) (rest:=rest) (p:=0) (fun n hn=>inSign_of (encRules_in (p:=0) (l:=l) (by omega) (by omega) (rulesOkF_mem (by omega) h) n hn)) (by rw[encRules_len];omega) (by simp)
theorem rules_back {l:List TRule}(h:rulesOk l=true)(hl:l.length≤1048576):decodeRules (encodeRules l)=some l:=by
 have hu:=unpack_rules h hl []
 rw[List.append_nil]at hu
 rw[encodeRules,if_pos h,decodeRules,hu]
 dsimp only
 rw[dec_encRules,encRules_len,if_pos ⟨by omega,by rw[encodeRules,if_pos h]⟩]
theorem rules_more {l:List TRule}(h:rulesOk l=true)(hl:l.length≤1048576)(a:UInt8)(rest:List UInt8):decodeRules (encodeRules l++(a::rest))=none:=by
 have hu:=unpack_rules h hl (a::rest)
 rw[encodeRules,if_pos h,decodeRules,hu]
 dsimp only
 rw[dec_encRules,encodeRules,if_pos h,if_neg]
 intro hh
 have:=congrArg List.length hh.2
 simp at this
theorem rules_pos {l:List TRule}(h:rulesOk l=true)(hl:l.length≤1048576):0 < (encodeRules l).length:=by
 rcases Nat.eq_zero_or_pos (encodeRules l).length with e|e
 ·have h0:=rules_back h hl
  rw[List.length_eq_zero_iff.1 e]at h0
  unfold decodeRules at h0
  rw[unpack_nil]at h0
  cases h0
 ·exact e
theorem encRules_cap {l:List TRule}(hl:l.length≤15000):(encodeRules l).length≤400000:=by
 unfold encodeRules
 split
 ·have:=packInts_len (encRulesL 0 l)
  rw[encRules_len]at this
  omega
 ·simp
end Go.Proofs.Ytogdbgmiigfmfaa
namespace Go.Proofs.Ytogdbgmiigfmfaa
open Go.Sim Go.ChangeShapes Go.WideShapes Go.ChangeAt Go.RowKit
set_option maxRecDepth 100000
set_option maxHeartbeats 4000000
theorem s_laws_sameRules (l:List TRule)(hl:l.length≤1048576):Sim.Spec Try.prog 38 [tvL 4 (l.map TRule.tr),tvL 4 (l.map TRule.tr)] (rB true):=by
 refine spec_of_Wo hΓ hmix Try.func38 rfl (by decide) rfl ?_
 have hlen:(l.map TRule.tr).length=l.length:=by simp
 repeat' ((conv=>whnf);first|(with_reducible first|apply Wx|apply W6)|apply oi|(apply fi<;>intro h)|refine⟨_,rfl,?_⟩|((with_reducible show _=_);rfl))
 all_goals try((with_reducible refine Obl.mk ?_);exact KP)
 all_goals try(exfalso;simp at h;done)
 conv=>whnf
 refine⟨{k:Nat // k≤l.length},fun k=>⟨[(0,.r (.c (.t (.lst 4 (l.map TRule.tr))))),(1,.r (.c (.t (.lst 4 (l.map TRule.tr))))),(5,tI .i64 (k.1:Int))],[],[]⟩,fun k=>l.length - k.1,⟨0,by omega⟩,?_,?_⟩
 ·skip
  repeat' ((conv=>whnf);first|(with_reducible first|apply Wx|apply W6)|apply oi|(apply fi<;>intro h)|refine⟨_,rfl,?_⟩|((with_reducible show _=_);rfl))
  all_goals try((with_reducible refine Obl.mk ?_);exact KP)
 intro⟨k,hk⟩
 dsimp only
 by_cases hlt:k < l.length
 ·obtain⟨x,hx⟩:=get_of_lt hlt
  repeat' ((conv=>whnf);first|(with_reducible first|apply Wx|apply W6)|apply oi|(apply fi<;>intro h)|refine⟨k,x.tr,rfl,map_get hx,?_⟩|refine⟨_,rfl,?_⟩|((with_reducible show _=_);rfl))
  all_goals try((with_reducible refine Obl.mk ?_);exact KP)
  all_goals try(exfalso;simp at h;done)
  conv=>whnf
  refine⟨⟨k+1,by omega⟩,?_,by dsimp only;omega⟩
  repeat' ((conv=>whnf);first|(with_reducible first|apply Wx|apply W6)|apply oi|(apply fi<;>intro h)|refine⟨_,rfl,?_⟩|((with_reducible show _=_);rfl))
  all_goals try((with_reducible refine Obl.mk ?_);exact KP)
  all_goals try exact⟨KW⟩
 ·skip
  repeat' ((conv=>whnf);first|(with_reducible first|apply Wx|apply W6)|apply oi|(apply fi<;>intro h)|refine⟨_,rfl,?_⟩|((with_reducible show _=_);rfl))
  all_goals try((with_reducible refine Obl.mk ?_);exact KP)
  all_goals try exact KX
theorem s_laws_FnRuleBytes (code:List UInt8):Sim.Spec Try.prog 8 [tvL 1 (code.map byteRow)] (rB true):=by
 refine spec_of_Wo hΓ hmix Try.func8 rfl (by decide) rfl ?_
 repeat' ((conv=>whnf);first|(with_reducible first|apply Wx|apply W6)|apply oi|(apply fi<;>intro h)|refine cl ((s_laws_big code)) ?_|refine⟨_,rfl,?_⟩|((with_reducible show _=_);rfl))
 all_goals try((with_reducible refine Obl.mk ?_);exact KP)
 have hl:code.length≤1048576:=by have:=of_decide_eq_false h;omega
 obtain⟨l,hok,hlen,g0⟩:=g_spec_DrawRules code hl
 have hE:=s_impl_EncodeRules l (by omega)
 have hcap:=encRules_cap hlen
 have hD:=s_impl_DecodeRules (encodeRules l) (by omega)
 have hD2:=s_impl_DecodeRules (encodeRules l++[0]) (by rw[List.length_append];simp;omega)
 rw[rules_back hok (by omega)]at hD
 rw[rules_more hok (by omega)]at hD2
 have hpos:=rules_pos hok (by omega)
 have hS:=s_laws_sameRules l (by omega)
 generalize encodeRules l=s at *
 refine cg (g0) ?_
 repeat' ((conv=>whnf);first|(with_reducible first|apply Wx|apply W6)|apply oi|(apply fi<;>intro h)|refine cl hE ?_|refine cl hD ?_|refine cl hD2 ?_|refine cl hS ?_|refine⟨_,rfl,?_⟩|((with_reducible show _=_);rfl))
 all_goals try((with_reducible refine Obl.mk ?_);exact KP)
 all_goals try exact⟨by show((s.length+1:Nat):Int)≤_;omega⟩
 all_goals try exact⟨congrArg Tr.bool (decide_eq_true (by omega))⟩
 all_goals(exfalso;first|(simp at h;done)|(simp at h;omega)|(simp_all;done)|(simp_all;omega))
theorem fnRuleBytes_lifted (os:Os)(started:os.Started)(H:Type)(enc:TypeId×Value→H):
  ReturnsInHanded {} Try.checked os 8 .any (Rows.fnRuleBytesSpec.pre6 enc Try.prog Try.f8 Rows.fnRuleBytesRow.domain false) (Rows.fnRuleBytesSpec.post enc Try.prog Try.f8 false true false false):=by
 refine returnsInHanded_of_change (C:=Try.checked) own started (by kernel_rfl) Try.func8
  (ChangeSpec.witness6 (enc:=enc) (C:=Try.checked) false ⟨#[],#[.slice none 0 0],[]⟩ 8 (by kernel_rfl) (by kernel_rfl) (by kernel_rfl) (by kernel_rfl)) ?_
 intro W base args ds gs before hval hW _ _
 have hW0:=hW
 obtain⟨p,q,hA,_,_,_,_⟩:=hW0
 have hlen:=trodAll_len hA
 obtain⟨xs,hx,hty⟩:=args_typed (n:=8) hΓ (by kernel_rfl) (fun j t v h1 h2=>hval j t v (by simpa using h1) (by simpa using h2)) hA
 rw[Try.params8]at hty hlen
 obtain⟨_,xs0,rfl,hx0,hty0⟩:=typedVs_cons hty
 obtain⟨_,rfl,rows,⟨⟩,hl,hr⟩:=hx0
 obtain rfl:=typedVs_nil hty0
 obtain⟨d0,rfl⟩:=len1 hlen
 obtain⟨bs,rfl⟩:=byte_rows (rows:=rows) (fun r hr'=>hr r hr')
 exact law_calls laidOut rfl Try.underlying4 rfl (by kernel_rfl) rfl hx (s_laws_FnRuleBytes bs) hW
theorem fnRuleBytes_holds:Rows.FnRuleBytesSaid:=
 OpenClaim.holds_of_wide 8 Try.f8 rfl rfl rfl rfl rfl rfl rfl ⟨rfl,rfl,rfl,rfl,rfl⟩ rfl rfl rfl rfl rfl (by kernel_rfl) Try.func8 (by kernel_rfl)
  (of_decide_eq_true (by kernel_rfl)) (by unfold Func.isWrapper;first|(rw[if_pos (by decide+kernel)];kernel_rfl)|(rw[if_neg (by decide+kernel)];exact⟨rfl,rfl⟩))
  (fun os started H enc _=>fnRuleBytes_lifted os started H enc)
end Go.Proofs.Ytogdbgmiigfmfaa
