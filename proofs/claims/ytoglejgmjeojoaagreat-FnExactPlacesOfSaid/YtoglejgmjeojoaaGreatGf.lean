import Derived.Test.YtoglejgmjeojoaaGreatGe
namespace Go.Proofs.YtoglejgmjeojoaaGreat
open Go.Sim
set_option maxRecDepth 100000
set_option maxHeartbeats 4000000
def bO (k:Int):Bool:=k==0 || (k==3 || k==5)
theorem opensK_iff {k:Int}:bO k=true↔k=0∨k=3∨k=5:=by simp[bO]
def endN:List CM→Nat→Nat→Option Nat
 | [],_,_=>none
 | x::l,i,o=>if bO x.faa=true then endN l (i+1) (o+1)else if x.faa=7 then(if o=1 then some i else endN l (i+1) (o - 1))else endN l (i+1) o
def endAt (l:List CM)(k:Nat):Option Nat:=match l[k]? with
 | some x=>if bO x.faa=true then endN (l.drop (k+1)) (k+1) 1 else none
 | none=>none
def aY (l:List CM)(k:Int):Int:=if 0≤k then bS (endAt l k.toNat)else -1
theorem cE {l:List CM}{i o:Nat}{x:CM}(h:l[i]?=some x):endN (l.drop i) i o=if bO x.faa=true then endN (l.drop (i+1)) (i+1) (o+1)else if x.faa=7 then(if o=1 then some i else endN (l.drop (i+1)) (i+1) (o - 1))else endN (l.drop (i+1)) (i+1) o:=by
 rw[dP h,endN]
theorem gJ {l:List CM}{i o:Nat}(h:l.length≤i):endN (l.drop i) i o=none:=by
 rw[List.drop_eq_nil_of_le h,endN]
theorem qm:∀{l:List CM} {i o e:Nat},endN l i o=some e→i≤e∧e < i+l.length
 | [],_,_,_,h=>by rw[endN]at h;cases h
 | x::l,i,o,e,h=>by
  rw[endN]at h
  simp only[List.length_cons]
  split at h
  ·have:=qm h;omega
  ·split at h
   ·split at h
    ·injection h with h;omega
    ·have:=qm h;omega
   ·have:=qm h;omega
theorem fI {l:List CM}{i o e:Nat}(h:endN (l.drop i) i o=some e):i≤e∧e < l.length:=by
 have:=qm h
 rw[List.length_drop]at this
 omega
theorem ky:∀{l:List CM} {i:Nat} (n:Nat) {a b:Nat},l.length - i≤n→1≤a→1≤b→endN (l.drop i) i (a+b)=(endN (l.drop i) i b).bind fun m=>endN (l.drop (m+1)) (m+1) a
 | l,i,0,a,b,hn,_,_=>by rw[gJ (by omega),gJ (by omega)];rfl
 | l,i,n+1,a,b,hn,ha,hb=>by
  by_cases hi:i < l.length
  ·obtain⟨x,hx⟩:=af hi
   rw[cE hx,cE hx]
   split
   ·rw[show a+b+1=a+(b+1) by omega]
    exact ky n (by omega) ha (by omega)
   ·split
    ·rw[if_neg (by omega)]
     by_cases h1:b=1
     ·subst h1
      rw[if_pos rfl]
      rfl
     ·rw[if_neg h1,show a+b - 1=a+(b - 1) by omega]
      exact ky n (by omega) ha (by omega)
    ·exact ky n (by omega) ha hb
  ·rw[gJ (by omega),gJ (by omega)];rfl
theorem lj:∀{l:List CM} {i:Nat} (n:Nat) {o e:Nat},l.length - i≤n→endN (l.drop i) i o=some e→∃x,l[e]?=some x∧x.faa=7
 | l,i,0,o,e,hn,h=>by rw[gJ (by omega)]at h;cases h
 | l,i,n+1,o,e,hn,h=>by
  by_cases hi:i < l.length
  ·obtain⟨x,hx⟩:=af hi
   rw[cE hx]at h
   split at h
   ·exact lj n (by omega) h
   ·split at h
    ·split at h
     ·injection h with h
      subst h
      exact⟨x,hx,by assumption⟩
     ·exact lj n (by omega) h
    ·exact lj n (by omega) h
  ·rw[gJ (by omega)]at h;cases h
theorem au {l:List CM}{k e:Nat}(h:endAt l k=some e):∃x,l[k]?=some x∧bO x.faa=true∧endN (l.drop (k+1)) (k+1) 1=some e∧k < e∧e < l.length:=by
 unfold endAt at h
 split at h
 ·rename_i x hx
  split at h
  ·rename_i ho
   have:=fI h
   exact⟨x,hx,ho,h,by omega,by omega⟩
  ·cases h
 ·cases h
theorem nI {l:List CM}{k:Nat}{x:CM}(hx:l[k]?=some x)(ho:bO x.faa=true):endAt l k=endN (l.drop (k+1)) (k+1) 1:=by
 unfold endAt
 rw[hx]
 dsimp only
 rw[if_pos ho]
theorem bk {l:List CM}{k e:Nat}(h:endAt l k=some e):∃x,l[e]?=some x∧x.faa=7:=by
 obtain⟨_,_,_,h,_⟩:=au h
 exact lj _ (Nat.le_refl _) h
theorem nq:∀{l:List CM} (n:Nat) {s o e i:Nat},i - s≤n→1≤o→endN (l.drop s) s o=some e→s≤i→i≤e→∃o',1≤o'∧endN (l.drop i) i o'=some e
 | l,0,s,o,e,i,hn,ho,h,h1,h2=>by
  have:s=i:=by omega
  subst this
  exact⟨o,ho,h⟩
 | l,n+1,s,o,e,i,hn,ho,h,h1,h2=>by
  by_cases hs:s=i
  ·subst hs;exact⟨o,ho,h⟩
  have hl:=fI h
  obtain⟨x,hx⟩:=af (l:=l) (k:=s) (by omega)
  rw[cE hx]at h
  split at h
  ·exact nq n (by omega) (by omega) h (by omega) h2
  ·split at h
   ·split at h
    ·injection h with h;omega
    ·exact nq n (by omega) (by omega) h (by omega) h2
   ·exact nq n (by omega) ho h (by omega) h2
theorem kg {l:List CM}{k e i:Nat}{x:CM}(h:endAt l k=some e)(h1:k < i)(h2:i < e)(hx:l[i]?=some x)(ho:bO x.faa=true):∃m,endAt l i=some m∧i < m∧m < e:=by
 obtain⟨_,_,_,he,_,hlt⟩:=au h
 obtain⟨o,ho1,hlev⟩:=nq _ (Nat.le_refl _) (Nat.le_refl 1) he (by omega:k+1≤i) (by omega)
 rw[cE hx,if_pos ho,ky _ (Nat.le_refl _) ho1 (Nat.le_refl 1)]at hlev
 cases hm:endN (l.drop (i+1)) (i+1) 1 with
 | none=>rw[hm]at hlev;cases hlev
 | some m=>
  rw[hm]at hlev
  have h3:=fI hm
  have h4:=fI (show endN (l.drop (m+1)) (m+1) o=some e from hlev)
  exact⟨m,by rw[nI hx ho];exact hm,by omega,by omega⟩
theorem aV {l:List CM}{k:Nat}:aY l (k:Int)=bS (endAt l k):=by
 rw[aY,if_pos (by omega),Int.toNat_natCast]
theorem aU {o:Option Nat}{n:Nat}(h:o=some n):bS o=(n:Int):=by rw[h];rfl
theorem fQ {o:Option Nat}(h:o=none):bS o= -1:=by rw[h];rfl
def elseN (l:List CM)(e:Nat):Nat→Nat→Option Nat
 | 0,_=>none
 | n+1,i=>if i < e then(match l[i]? with
  | some x=>if x.faa=4 then some i else if x.faa=3∨x.faa=5 then(match endAt l i with
   | some m=>elseN l e n (m+1)
   | none=>elseN l e n (i+1))else elseN l e n (i+1)
  | none=>none)else none
def elseAt (l:List CM)(k:Nat):Option Nat:=match l[k]?,endAt l k with
 | some x,some e=>if x.faa=3 then elseN l e (e - (k+1)) (k+1)else none
 | _,_=>none
def aX (l:List CM)(k:Int):Int:=if 0≤k then bS (elseAt l k.toNat)else -1
theorem eJ {l:List CM}{e:Nat}:∀{n m i:Nat},e - i≤n→e - i≤m→elseN l e n i=elseN l e m i
 | 0,0,_,_,_=>rfl
 | 0,m+1,i,h1,h2=>by rw[elseN,elseN,if_neg (by omega)]
 | n+1,0,i,h1,h2=>by rw[elseN,elseN,if_neg (by omega)]
 | n+1,m+1,i,h1,h2=>by
  rw[elseN,elseN]
  by_cases hi:i < e
  ·rw[if_pos hi,if_pos hi]
   cases hx:l[i]? with
   | none=>rfl
   | some x=>
    dsimp only
    split
    ·rfl
    ·split
     ·cases hm:endAt l i with
      | none=>exact eJ (by omega) (by omega)
      | some m'=>
       have:=au hm
       obtain⟨_,_,_,_,h3,_⟩:=this
       exact eJ (by omega) (by omega)
     ·exact eJ (by omega) (by omega)
  ·rw[if_neg hi,if_neg hi]
theorem qM {l:List CM}{e i:Nat}{x:CM}(hi:i < e)(hx:l[i]?=some x):elseN l e (e - i) i=if x.faa=4 then some i else if x.faa=3∨x.faa=5 then(match endAt l i with
   | some m=>elseN l e (e - (m+1)) (m+1)
   | none=>elseN l e (e - (i+1)) (i+1))else elseN l e (e - (i+1)) (i+1):=by
 obtain⟨n,hn⟩:∃n,e - i=n+1:=⟨e - i - 1,by omega⟩
 rw[hn,elseN,if_pos hi,hx]
 dsimp only
 split
 ·rfl
 ·split
  ·cases hm:endAt l i with
   | none=>exact eJ (by omega) (by omega)
   | some m=>
    obtain⟨_,_,_,_,h3,_⟩:=au hm
    exact eJ (by omega) (by omega)
  ·exact eJ (by omega) (by omega)
theorem tc {l:List CM}{e i n:Nat}(hi:e≤i):elseN l e n i=none:=by
 cases n with
 | zero=>rfl
 | succ n=>rw[elseN,if_neg (by omega)]
theorem kv {l:List CM}{e:Nat}:∀{n i j:Nat},elseN l e n i=some j→i≤j∧j < e∧∃x,l[j]?=some x∧x.faa=4
 | 0,_,_,h=>by rw[elseN]at h;cases h
 | n+1,i,j,h=>by
  rw[elseN]at h
  split at h
  ·rename_i hi
   split at h
   ·rename_i x hx
    split at h
    ·injection h with h;subst h;exact⟨by omega,hi,x,hx,by assumption⟩
    ·split at h
     ·split at h
      ·rename_i m hm
       obtain⟨_,_,_,_,h3,_⟩:=au hm
       have:=kv h
       exact⟨by omega,this.2⟩
      ·have:=kv h
       exact⟨by omega,this.2⟩
     ·have:=kv h
      exact⟨by omega,this.2⟩
   ·cases h
  ·cases h
theorem aP {l:List CM}{k j:Nat}(h:elseAt l k=some j):∃x e,l[k]?=some x∧x.faa=3∧endAt l k=some e∧k < j∧j < e∧∃y,l[j]?=some y∧y.faa=4:=by
 unfold elseAt at h
 split at h
 ·rename_i x e hx he
  split at h
  ·rename_i h3
   have:=kv h
   exact⟨x,e,hx,h3,he,by omega,this.2⟩
  ·cases h
 ·cases h
def funsF:List CM→Nat→List Nat
 | [],_=>[]
 | x::l,i=>(if x.faa=0 then [i]else [])++funsF l (i+1)
def ay (l:List CM):List Nat:=funsF l 0
theorem iF {l:List CM}{i:Nat}{x:CM}(hx:l[i]?=some x):funsF (l.drop i) i=(if x.faa=0 then [i]else [])++funsF (l.drop (i+1)) (i+1):=by
 rw[dP hx,funsF]
theorem kX:∀(l:List CM) (i:Nat),(funsF l i).length≤l.length
 | [],_=>by simp[funsF]
 | x::l,i=>by
  have:=kX l (i+1)
  rw[funsF,List.length_append,List.length_cons]
  split <;> simp <;> omega
theorem qS:∀{l:List CM} {i k:Nat},k∈funsF l i→i≤k∧k < i+l.length∧∃x,l[k - i]?=some x∧x.faa=0
 | [],_,_,h=>by simp[funsF]at h
 | x::l,i,k,h=>by
  rw[funsF,List.mem_append]at h
  rcases h with h|h
  ·split at h
   ·simp only[List.mem_cons,List.not_mem_nil,or_false]at h
    subst h
    exact⟨by omega,by simp,x,by simp,by assumption⟩
   ·cases h
  ·obtain⟨h1,h2,y,hy,hk⟩:=qS h
   refine⟨by omega,by simp only[List.length_cons];omega,y,?_,hk⟩
   rw[show k - i=(k - (i+1))+1 by omega,List.getElem?_cons_succ]
   exact hy
theorem kS {l:List CM}{k:Nat}(h:k∈ay l):k < l.length∧∃x,l[k]?=some x∧x.faa=0:=by
 have:=qS h
 simpa using this.2
def findN:List CM→Nat→List UInt8→Option Nat
 | [],_,_=>none
 | x::l,i,s=>if x.faa=0∧x.fab=s then some i else findN l (i+1) s
def dF (l:List CM)(s:List UInt8):Int:=bS (findN l 0 s)
theorem vZ {l:List CM}{i:Nat}{x:CM}{s:List UInt8}(hx:l[i]?=some x):findN (l.drop i) i s=if x.faa=0∧x.fab=s then some i else findN (l.drop (i+1)) (i+1) s:=by
 rw[dP hx,findN]
theorem rW:∀{l:List CM} {i k:Nat} {s:List UInt8},findN l i s=some k→i≤k∧k < i+l.length∧∃x,l[k - i]?=some x∧x.faa=0∧x.fab=s
 | [],_,_,_,h=>by rw[findN]at h;cases h
 | x::l,i,k,s,h=>by
  rw[findN]at h
  split at h
  ·injection h with h;subst h
   exact⟨by omega,by simp,x,by simp,by assumption⟩
  ·obtain⟨h1,h2,y,hy,hk⟩:=rW h
   refine⟨by omega,by simp only[List.length_cons];omega,y,?_,hk⟩
   rw[show k - i=(k - (i+1))+1 by omega,List.getElem?_cons_succ]
   exact hy
theorem dZ {l:List CM}{k:Nat}{s:List UInt8}(h:findN l 0 s=some k):k < l.length∧∃x,l[k]?=some x∧x.faa=0∧x.fab=s:=by
 have:=rW h
 simpa using this.2
def gw (acc:List (List UInt8))(s:List UInt8):List (List UInt8):=if acc.contains s=true then acc else acc++[s]
def locN (l:List CM)(e:Nat):Nat→Nat→List (List UInt8)→List (List UInt8)
 | 0,_,acc=>acc
 | n+1,i,acc=>if i < e then(match l[i]? with
  | some x=>locN l e n (i+1) (if x.faa=1 then gw acc x.fab else acc)
  | none=>acc)else acc
def localsOf (l:List CM)(k:Int):List (List UInt8):=if 0≤k then(match l[k.toNat]?,endAt l k.toNat with
 | some x,some e=>if x.faa=0 then locN l e (e - k.toNat) k.toNat x.fad else []
 | _,_=>[])else []
theorem tD {l:List CM}{e i:Nat}{x:CM}{acc:List (List UInt8)}(hi:i < e)(hx:l[i]?=some x):locN l e (e - i) i acc=locN l e (e - (i+1)) (i+1) (if x.faa=1 then gw acc x.fab else acc):=by
 rw[show e - i=(e - (i+1))+1 by omega,locN,if_pos hi,hx]
theorem vM {l:List CM}{e i n:Nat}{acc:List (List UInt8)}(hi:e≤i):locN l e n i acc=acc:=by
 cases n with
 | zero=>rfl
 | succ n=>rw[locN,if_neg (by omega)]
theorem wt (acc:List (List UInt8))(s:List UInt8):(gw acc s).length≤acc.length+1:=by
 unfold gw
 split <;> simp
theorem vo {l:List CM}{e:Nat}:∀(n i:Nat) (acc:List (List UInt8)),(locN l e n i acc).length≤acc.length+n
 | 0,_,_=>by simp[locN]
 | n+1,i,acc=>by
  rw[locN]
  split
  ·split
   ·refine Nat.le_trans (vo n _ _) ?_
    split
    ·have:=wt acc (by assumption:CM).fab;omega
    ·omega
   ·omega
  ·omega
def bB (l:List CM)(locals:List (List UInt8))(t:CU):Bool:=
 if t.faa=1 then locals.contains t.fab
 else if t.faa=7 then(match findN l 0 t.fab with
  | some f=>(match l[f]? with|some x=>(x.fad.length:Int)==t.faf|none=>false)
  | none=>false)
 else true
def bm (l:List CM)(locals:List (List UInt8))(ts:List CU):Bool:=ts.all (bB l locals)
def dep (x:CM)(d:Nat):Nat:=if x.faa=3∨x.faa=5 then d+1 else if x.faa=7 then d - 1 else d
def fS (l:List CM)(locals:List (List UInt8))(e:Nat):Nat→Nat→Nat→Bool
 | 0,_,_=>true
 | n+1,i,d=>if i < e then(match l[i]? with
  | some x=>if x.faa=0 then false else
   if dep x d≤4∧bm l locals x.fac=true then fS l locals e n (i+1) (dep x d)else false
  | none=>false)else true
theorem ru {l:List CM}{locals:List (List UInt8)}{e i d:Nat}{x:CM}(hi:i < e)(hx:l[i]?=some x):fS l locals e (e - i) i d=if x.faa=0 then false else if dep x d≤4∧bm l locals x.fac=true then fS l locals e (e - (i+1)) (i+1) (dep x d)else false:=by
 rw[show e - i=(e - (i+1))+1 by omega,fS,if_pos hi,hx]
theorem tM {l:List CM}{locals:List (List UInt8)}{e i d n:Nat}(hi:e≤i):fS l locals e n i d=true:=by
 cases n with
 | zero=>rfl
 | succ n=>rw[fS,if_neg (by omega)]
def lz (l:List CM)(i:Nat):Nat→Nat→Bool
 | 0,_=>false
 | n+1,j=>(elseAt l j==some i) || lz l i n (j+1)
theorem kf {l:List CM}{i:Nat}:∀{n j:Nat},lz l i n j=true↔∃k,j≤k∧k < j+n∧elseAt l k=some i
 | 0,j=>by
  rw[lz]
  exact⟨fun h=>(by cases h),fun⟨k,h1,h2,_⟩=>(by omega)⟩
 | n+1,j=>by
  rw[lz,Bool.or_eq_true,kf,beq_iff_eq]
  constructor
  ·rintro(h|⟨k,h1,h2,h3⟩)
   ·exact⟨j,by omega,by omega,h⟩
   ·exact⟨k,by omega,by omega,h3⟩
  ·rintro⟨k,h1,h2,h3⟩
   by_cases hk:k=j
   ·subst hk;exact .inl h3
   ·exact .inr ⟨k,by omega,by omega,h3⟩
def cM (l:List CM)(k e:Nat):Nat→Nat→Bool
 | 0,_=>true
 | n+1,i=>if i < e then(match l[i]? with
  | some x=>(if x.faa=4 then lz l i (i - k) k else true) && cM l k e n (i+1)
  | none=>true)else true
theorem fk {l:List CM}{k e:Nat}:∀{n i:Nat},e - i≤n→(cM l k e n i=true↔∀j x,i≤j→j < e→l[j]?=some x→x.faa=4→lz l j (j - k) k=true)
 | 0,i,h=>⟨fun _ j x h1 h2=>by omega,fun _=>rfl⟩
 | n+1,i,h=>by
  rw[cM]
  by_cases hi:i < e
  ·rw[if_pos hi]
   cases hx:l[i]? with
   | none=>
    refine⟨fun _ j x h1 h2 hj=>?_,fun _=>rfl⟩
    have:l.length≤i:=List.getElem?_eq_none_iff.1 hx
    rw[List.getElem?_eq_none (by omega)]at hj
    cases hj
   | some x=>
    dsimp only
    rw[Bool.and_eq_true,fk (by omega)]
    constructor
    ·rintro⟨h1,h2⟩ j y hj1 hj2 hy hk
     by_cases he:j=i
     ·subst he
      rw[hx]at hy
      injection hy with hy
      subst hy
      rw[if_pos hk]at h1
      exact h1
     ·exact h2 j y (by omega) hj2 hy hk
    ·intro H
     refine⟨?_,fun j y hj1 hj2 hy hk=>H j y (by omega) hj2 hy hk⟩
     split
     ·exact H i x (Nat.le_refl _) hi hx (by assumption)
     ·rfl
  ·rw[if_neg hi]
   exact⟨fun _ j x h1 h2=>by omega,fun _=>rfl⟩
def jM (l:List CM)(locals:List (List UInt8))(k e:Nat):Nat→Nat→Nat→Bool
 | 0,_,_=>true
 | n+1,i,d=>if i < e then(match l[i]? with
  | some x=>if x.faa=0 then false else if x.faa=4∧lz l i (i - k) k=false then false else
   if dep x d≤4∧bm l locals x.fac=true then jM l locals k e n (i+1) (dep x d)else false
  | none=>false)else true
theorem xA {l:List CM}{locals:List (List UInt8)}{k e i d:Nat}{x:CM}(hi:i < e)(hx:l[i]?=some x):jM l locals k e (e - i) i d=if x.faa=0 then false else if x.faa=4∧lz l i (i - k) k=false then false else if dep x d≤4∧bm l locals x.fac=true then jM l locals k e (e - (i+1)) (i+1) (dep x d)else false:=by
 rw[show e - i=(e - (i+1))+1 by omega,jM,if_pos hi,hx]
theorem yD {l:List CM}{locals:List (List UInt8)}{k e i d n:Nat}(hi:e≤i):jM l locals k e n i d=true:=by
 cases n with
 | zero=>rfl
 | succ n=>rw[jM,if_neg (by omega)]
theorem vR {l:List CM}{locals:List (List UInt8)}{k e:Nat}:∀{n i d:Nat},jM l locals k e n i d=(fS l locals e n i d && cM l k e n i)
 | 0,i,d=>rfl
 | n+1,i,d=>by
  rw[jM,fS,cM]
  by_cases hi:i < e
  ·rw[if_pos hi,if_pos hi,if_pos hi]
   cases hx:l[i]? with
   | none=>rfl
   | some x=>
    dsimp only
    by_cases h0:x.faa=0
    ·rw[if_pos h0,if_pos h0];rfl
    ·rw[if_neg h0,if_neg h0]
     rw[vR]
     by_cases h4:x.faa=4
     ·rw[if_pos h4]
      cases ha:lz l i (i - k) k with
      | false=>rw[if_pos ⟨h4,rfl⟩];simp
      | true=>
       rw[if_neg (by simp)]
       split <;> simp_all
     ·rw[if_neg (by simp[h4]),if_neg h4]
      split <;> simp_all
  ·rw[if_neg hi,if_neg hi,if_neg hi];rfl
def gn (l:List CM)(k e:Nat):Bool:=decide ((localsOf l (k:Int)).length≤8) && fS l (localsOf l (k:Int)) e (e - (k+1)) (k+1) 0
def jT (l:List CM)(k e:Nat):Bool:=decide ((localsOf l (k:Int)).length≤8) && jM l (localsOf l (k:Int)) k e (e - (k+1)) (k+1) 0
theorem sk {l:List CM}{k e:Nat}:jT l k e=(gn l k e && cM l k e (e - (k+1)) (k+1)):=by
 rw[jT,gn,vR,Bool.and_assoc]
theorem sl {l:List CM}{k e:Nat}(h:gn l k e=true)(he:e≤l.length):∀i x,k < i→i < e→l[i]?=some x→x.faa≠0:=by
 rw[gn,Bool.and_eq_true]at h
 have key:∀(n i d:Nat),e - i≤n→fS l (localsOf l (k:Int)) e n i d=true→∀j x,i≤j→j < e→l[j]?=some x→x.faa≠0:=by
  intro n
  induction n with
  | zero=>intro i d hn _ j x h1 h2;omega
  | succ n ih=>
   intro i d hn hb j x h1 h2 hx
   rw[fS,if_pos (by omega)]at hb
   obtain⟨y,hy⟩:=af (l:=l) (k:=i) (by omega)
   rw[hy]at hb
   dsimp only at hb
   split at hb
   ·cases hb
   ·rename_i h0
    split at hb
    ·by_cases hj:j=i
     ·subst hj
      rw[hy]at hx
      injection hx with hx
      subst hx
      exact h0
     ·exact ih (i+1) _ (by omega) hb j x (by omega) h2 hx
    ·cases hb
 exact fun i x h1 h2 hx=>key _ _ _ (Nat.le_refl _) h.2 i x (by omega) h2 hx
def bv (F:Nat→Nat→Bool)(l:List CM):Nat→Nat→Bool
 | 0,k=>decide (l.length≤k)
 | n+1,k=>if k < l.length then(match l[k]?,endAt l k with
  | some x,some e=>if x.faa=0∧F k e=true then bv F l n (e+1)else false
  | _,_=>false)else true
theorem gQ {F:Nat→Nat→Bool}{l:List CM}{k n:Nat}{x:CM}(hx:l[k]?=some x)(hn:l.length - k≤n):bv F l n k=match endAt l k with|some e=>if x.faa=0∧F k e=true then bv F l (l.length - (e+1)) (e+1)else false|none=>false:=by
 have more:∀(n m k:Nat),l.length - k≤n→l.length - k≤m→bv F l n k=bv F l m k:=by
  intro n
  induction n with
  | zero=>
   intro m k h1 h2
   rw[bv,decide_eq_true (by omega)]
   cases m with
   | zero=>rw[bv,decide_eq_true (by omega)]
   | succ m=>rw[bv,if_neg (by omega)]
  | succ n ih=>
   intro m k h1 h2
   cases m with
   | zero=>rw[bv,bv,if_neg (by omega),decide_eq_true (by omega)]
   | succ m=>
    rw[bv,bv]
    split
    ·split
     ·rename_i x e hx he
      obtain⟨_,_,_,_,h3,_⟩:=au he
      split
      ·exact ih m (e+1) (by omega) (by omega)
      ·rfl
     ·rfl
    ·rfl
 have hk:k < l.length:=by
  rcases Nat.lt_or_ge k l.length with h|h
  ·exact h
  ·rw[List.getElem?_eq_none h]at hx;cases hx
 obtain⟨m,rfl⟩:∃m,n=m+1:=⟨n - 1,by omega⟩
 rw[bv,if_pos hk,hx]
 cases he:endAt l k with
 | none=>rfl
 | some e=>
  obtain⟨_,_,_,_,h3,_⟩:=au he
  dsimp only
  split
  ·exact more _ _ _ (by omega) (by omega)
  ·rfl
theorem ml {F:Nat→Nat→Bool}{l:List CM}{k n:Nat}(hk:l.length≤k):bv F l n k=true:=by
 cases n with
 | zero=>rw[bv,decide_eq_true hk]
 | succ n=>rw[bv,if_neg (by omega)]
def gr (l:List CM):Bool:=cM l 0 l.length l.length 0
def bb (l:List CM)(k:Nat):Bool:=match l[k]? with|some x=>findN l 0 x.fab==some k|none=>false
def eF (l:List CM):List Nat→Nat→Bool
 | [],next=>gr l && (next==l.length)
 | k::fs,next=>match endAt l k with
  | some e=>if k=next∧bb l k=true∧gn l k e=true then eF l fs (e+1)else false
  | none=>false
theorem rf {l:List CM}{i e:Nat}:∀(n:Nat),e - i≤n→i≤e→e≤l.length→(∀j x,i≤j→j < e→l[j]?=some x→x.faa≠0)→funsF (l.drop i) i=funsF (l.drop e) e
 | n,hn,hi,he,h=>by
  by_cases hx:i=e
  ·subst hx;rfl
  obtain⟨x,hxi⟩:=af (l:=l) (k:=i) (by omega)
  cases n with
  | zero=>omega
  | succ n=>
   rw[iF hxi,if_neg (h i x (Nat.le_refl _) (by omega) hxi),List.nil_append]
   exact rf n (by omega) (by omega) he fun j y h1 h2=>h j y (by omega) h2
theorem tw {l:List CM}:∀(n i:Nat),l.length - i≤n→i≤l.length→eF l (funsF (l.drop i) i) i=((funsF (l.drop i) i).all (bb l) && bv (gn l) l (l.length - i) i && gr l)
 | n,i,hn,hi=>by
  by_cases hlt:i < l.length
  ·obtain⟨x,hx⟩:=af hlt
   rw[gQ hx (Nat.le_refl _)]
   by_cases h0:x.faa=0
   ·rw[iF hx,if_pos h0,List.cons_append,List.nil_append,eF,List.all_cons]
    cases he:endAt l i with
    | none=>simp
    | some e=>
     dsimp only
     obtain⟨_,_,_,_,h3,h4⟩:=au he
     cases hf:gn l i e with
     | false=>simp
     | true=>
      have hnf:=sl hf (by omega)
      have hsk:funsF (l.drop (i+1)) (i+1)=funsF (l.drop (e+1)) (e+1):=by
       refine rf _ (Nat.le_refl _) (by omega) (by omega) fun j y h5 h6 hy=>?_
       by_cases hje:j=e
       ·subst hje
        obtain⟨z,hz,hz7⟩:=bk he
        rw[hy]at hz
        injection hz with hz
        subst hz
        omega
       ·exact hnf j y (by omega) (by omega) hy
      cases n with
      | zero=>omega
      | succ n=>
       have ih:=tw (l:=l) n (e+1) (by omega) (by omega)
       rw[hsk]
       cases hnm:bb l i with
       | false=>simp
       | true=>
        rw[if_pos ⟨rfl,rfl,rfl⟩,if_pos ⟨h0,rfl⟩,ih]
        simp
   ·have hc:(match endAt l i with|some e=>if x.faa=0∧gn l i e=true then bv (gn l) l (l.length - (e+1)) (e+1)else false|none=>false)=false:=by
     cases endAt l i with
     | none=>rfl
     | some e=>dsimp only;rw[if_neg (by simp[h0])]
    rw[hc,Bool.and_false,Bool.false_and]
    rw[iF hx,if_neg h0,List.nil_append]
    cases hfs:funsF (l.drop (i+1)) (i+1)with
    | nil=>
     rw[eF]
     have:(i==l.length)=false:=by rw[beq_eq_false_iff_ne];omega
     rw[this,Bool.and_false]
    | cons k fs=>
     have hk:k∈funsF (l.drop (i+1)) (i+1):=by rw[hfs];simp
     have:=(qS hk).1
     rw[eF]
     cases endAt l k with
     | none=>rfl
     | some e=>dsimp only;rw[if_neg (by omega)]
  ·have:i=l.length:=by omega
   subst this
   rw[List.drop_eq_nil_of_le (Nat.le_refl _),funsF,eF,ml (Nat.le_refl _)]
   simp
theorem tU {l:List CM}:∀(n k:Nat),l.length - k≤n→k≤l.length→(∀j m,j < k→endAt l j=some m→m < k)→
  (bv (jT l) l (l.length - k) k=(bv (gn l) l (l.length - k) k && cM l 0 l.length (l.length - k) k))
 | n,k,hn,hk,hP=>by
  by_cases hlt:k < l.length
  ·obtain⟨x,hx⟩:=af hlt
   rw[gQ hx (Nat.le_refl _),gQ hx (Nat.le_refl _)]
   cases he:endAt l k with
   | none=>simp
   | some e=>
    dsimp only
    obtain⟨_,hx',ho,_,h3,h4⟩:=au he
    obtain⟨z,hz,hz7⟩:=bk he
    by_cases h0:x.faa=0
    ·have hP':∀j m,j < e+1→endAt l j=some m→m < e+1:=by
      intro j m hj hm
      rcases Nat.lt_trichotomy j k with hjk|hjk|hjk
      ·have:=hP j m hjk hm;omega
      ·subst hjk
       rw[he]at hm
       injection hm with hm
       omega
      ·obtain⟨y,hy,hyo,_⟩:=au hm
       by_cases hje:j=e
       ·subst hje
        rw[hz]at hy
        injection hy with hy
        subst hy
        rw[opensK_iff]at hyo
        omega
       ·obtain⟨m',hm',_,h5⟩:=kg he hjk (by omega) hy hyo
        rw[hm]at hm'
        injection hm' with hm'
        omega
     cases n with
     | zero=>omega
     | succ n=>
      have ih:=tU (l:=l) n (e+1) (by omega) (by omega) hP'
      have hels:cM l 0 l.length (l.length - k) k=(cM l k e (e - (k+1)) (k+1) && cM l 0 l.length (l.length - (e+1)) (e+1)):=by
       rw[Bool.eq_iff_iff,Bool.and_eq_true,fk (Nat.le_refl _),fk (Nat.le_refl _),fk (Nat.le_refl _)]
       constructor
       ·intro H
        refine⟨fun j y h5 h6 hy h7=>?_,fun j y h5 h6 hy h7=>H j y (by omega) h6 hy h7⟩
        have:=H j y (by omega) (by omega) hy h7
        rw[kf]at this ⊢
        obtain⟨i,h8,h9,h10⟩:=this
        refine⟨i,?_,by omega,h10⟩
        rcases Nat.lt_or_ge i k with h11|h11
        ·obtain⟨_,m,_,_,h12,_,h13,_⟩:=aP h10
         have:=hP i m h11 h12
         omega
        ·exact h11
       ·rintro⟨H1,H2⟩ j y h5 h6 hy h7
        rcases Nat.lt_or_ge e j with h8|h8
        ·exact H2 j y h8 h6 hy h7
        ·have hje:j≠e:=fun h=>by
          subst h
          rw[hz]at hy
          injection hy with hy
          subst hy
          omega
         have hjk:j≠k:=fun h=>by
          subst h
          rw[hx]at hy
          injection hy with hy
          subst hy
          omega
         have:=H1 j y (by omega) (by omega) hy h7
         rw[kf]at this ⊢
         obtain⟨i,h9,h10,h11⟩:=this
         exact⟨i,by omega,by omega,h11⟩
      rw[hels,ih,sk]
      cases gn l k e <;> cases cM l k e (e - (k+1)) (k+1) <;> simp[h0]
    ·rw[if_neg (by simp[h0]),if_neg (by simp[h0])];rfl
  ·have:k=l.length:=by omega
   subst this
   rw[ml (Nat.le_refl _),ml (Nat.le_refl _)]
   rw[Nat.sub_self]
   rfl
def fa:List UInt8:=[109,97,105,110]
def ka (l:List CM):Bool:=match l with
 | []=>false
 | x::_=>x.faa==0 && (x.fab==fa && x.fad.length==0)
def aF (l:List CM):Bool:=decide (l.length≤60) && (decide (1≤(ay l).length∧(ay l).length≤6) && (l.all bZ && (ka l && ((ay l).all (bb l) && (bv (gn l) l l.length 0 && gr l)))))
theorem wM (l:List CM):eF l (ay l) 0=((ay l).all (bb l) && (bv (gn l) l l.length 0 && gr l)):=by
 have:=tw (l:=l) _ 0 (Nat.le_refl _) (by omega)
 rw[List.drop_zero]at this
 rw[ay,this,Nat.sub_zero,Bool.and_assoc]
theorem rj (l:List CM):bv (jT l) l l.length 0=(bv (gn l) l l.length 0 && gr l):=by
 have:=tU (l:=l) _ 0 (Nat.le_refl _) (by omega) (fun j m h=>by omega)
 rw[Nat.sub_zero]at this
 exact this
def StkOk (l:List CM)(e:Nat):Nat→List Nat→Prop
 | i,[]=>endN (l.drop i) i 1=some e
 | i,m::es=>i≤m∧endN (l.drop i) i 1=some m∧StkOk l e (m+1) es
theorem StkOk.push {l:List CM}{e i:Nat}{es:List Nat}{x:CM}(h:StkOk l e i es)(hx:l[i]?=some x)(ho:bO x.faa=true):∃m,endAt l i=some m∧i < m∧StkOk l e (i+1) (m::es):=by
 have key:∀m',endN (l.drop i) i 1=some m'→∃m,endAt l i=some m∧i < m∧endN (l.drop (i+1)) (i+1) 1=some m∧endN (l.drop (m+1)) (m+1) 1=some m':=by
  intro m' hm
  rw[cE hx,if_pos ho,ky _ (Nat.le_refl _) (Nat.le_refl 1) (Nat.le_refl 1)]at hm
  cases h1:endN (l.drop (i+1)) (i+1) 1 with
  | none=>rw[h1]at hm;cases hm
  | some m=>
   rw[h1]at hm
   have:=fI h1
   exact⟨m,by rw[nI hx ho];exact h1,by omega,rfl,hm⟩
 cases es with
 | nil=>
  obtain⟨m,h1,h2,h3,h4⟩:=key e h
  exact⟨m,h1,h2,by omega,h3,h4⟩
 | cons m' es=>
  obtain⟨g1,g2,g3⟩:=h
  obtain⟨m,h1,h2,h3,h4⟩:=key m' g2
  have:=fI h4
  exact⟨m,h1,h2,by omega,h3,by omega,h4,g3⟩
theorem StkOk.other {l:List CM}{e i:Nat}{es:List Nat}{x:CM}(h:StkOk l e i es)(hx:l[i]?=some x)(ho:bO x.faa=false)(h7:x.faa≠7):StkOk l e (i+1) es:=by
 have key:∀m',endN (l.drop i) i 1=some m'→endN (l.drop (i+1)) (i+1) 1=some m':=by
  intro m' hm
  rw[cE hx,if_neg (by simp[ho]),if_neg h7]at hm
  exact hm
 cases es with
 | nil=>exact key e h
 | cons m' es=>
  obtain⟨g1,g2,g3⟩:=h
  have:=fI (key m' g2)
  exact⟨by omega,key m' g2,g3⟩
theorem StkOk.pop {l:List CM}{e i:Nat}{es:List Nat}{x:CM}(h:StkOk l e i es)(hx:l[i]?=some x)(h7:x.faa=7):(es=[]∧i=e)∨∃es',es=i::es'∧StkOk l e (i+1) es':=by
 have ho:¬bO x.faa=true:=by rw[opensK_iff];omega
 cases es with
 | nil=>
  unfold StkOk at h
  rw[cE hx,if_neg ho,if_pos h7,if_pos rfl]at h
  injection h with h
  exact .inl ⟨rfl,h⟩
 | cons m' es=>
  obtain⟨g1,g2,g3⟩:=h
  rw[cE hx,if_neg ho,if_pos h7,if_pos rfl]at g2
  injection g2 with g2
  subst g2
  exact .inr ⟨es,rfl,g3⟩
theorem StkOk.le {l:List CM}{e:Nat}:∀{i:Nat} {es:List Nat},StkOk l e i es→i≤e
 | i,[],h=>(fI h).1
 | i,m::es,h=>by
  have:=StkOk.le h.2.2
  have:=h.1
  omega
inductive Ex where
 | node (t:CU) (es:List Ex)
mutual
def Ex.toks:Ex→List CU
 | .node t es=>t::ak es
def ak:List Ex→List CU
 | []=>[]
 | a::es=>a.toks++ak es
end
mutual
def Ex.ok:Ex→Prop
 | .node t es=>dB t=true∧es.length=ar t∧gh es
def gh:List Ex→Prop
 | []=>True
 | a::es=>a.ok∧gh es
end
theorem Ex.toks_pos (e:Ex):0 < e.toks.length:=by cases e;simp[Ex.toks]
theorem dH:∀(a b:List Ex),ak (a++b)=ak a++ak b
 | [],b=>by rw[List.nil_append,ak,List.nil_append]
 | x::a,b=>by rw[List.cons_append,ak,ak,dH a b,List.append_assoc]
theorem qQ:∀{l:List Ex} (n:Nat),gh l→gh (l.take n)
 | [],n,h=>by rw[List.take_nil];exact h
 | x::l,0,h=>by rw[List.take_zero];trivial
 | x::l,n+1,h=>by rw[List.take_succ_cons];exact⟨h.1,qQ n h.2⟩
theorem qE:∀{l:List Ex} (n:Nat),gh l→gh (l.drop n)
 | [],n,h=>by rw[List.drop_nil];exact h
 | x::l,0,h=>h
 | x::l,n+1,h=>by rw[List.drop_succ_cons];exact qE n h.2
theorem sg:∀{l:List CU} {p n e:Nat},endL l p n=some e→∃es:List Ex,es.length=n∧gh es∧∃rest,l=ak es++rest∧p+(ak es).length=e
 | l,p,0,e,h=>by
  have h:some p=some e:=by cases l <;> exact h
  injection h with h
  exact⟨[],rfl,trivial,l,rfl,by simp[ak];omega⟩
 | [],_,_+1,_,h=>by rw[endL]at h;cases h
 | t::l,p,n+1,e,h=>by
  rw[endL]at h
  split at h
  ·rename_i hok
   obtain⟨es,h1,h2,rest,h3,h4⟩:=sg h
   refine⟨.node t (es.take (ar t))::es.drop (ar t),by simp;omega,⟨⟨hok,by simp;omega,qQ _ h2⟩,qE _ h2⟩,rest,?_,?_⟩
   ·rw[ak,Ex.toks,List.cons_append,←dH,List.take_append_drop,List.cons_append,←h3]
   ·rw[ak,Ex.toks,List.cons_append,←dH,List.take_append_drop,List.length_cons];omega
  ·cases h
mutual
theorem Ex.endL:∀(e:Ex),e.ok→∀(r:List CU) (p n:Nat),Go.Proofs.YtoglejgmjeojoaaGreat.endL (e.toks++r) p (n+1)=Go.Proofs.YtoglejgmjeojoaaGreat.endL r (p+e.toks.length) n
 | .node t es,h,r,p,n=>by
  rw[Ex.toks,List.cons_append,Go.Proofs.YtoglejgmjeojoaaGreat.endL,if_pos h.1,show n+ar t=n+es.length by rw[h.2.1],wd es h.2.2,List.length_cons]
  congr 1;omega
theorem wd:∀(es:List Ex),gh es→∀(r:List CU) (p n:Nat),Go.Proofs.YtoglejgmjeojoaaGreat.endL (ak es++r) p (n+es.length)=Go.Proofs.YtoglejgmjeojoaaGreat.endL r (p+(ak es).length) n
 | [],_,r,p,n=>by rw[ak];simp
 | a::es,h,r,p,n=>by
  rw[ak,List.append_assoc,List.length_cons,show n+(es.length+1)=(n+es.length)+1 by omega,Ex.endL a h.1,wd es h.2,List.length_append]
  congr 1;omega
end
theorem fH {l:List CU}(h:ba l=true):∃e:Ex,e.ok∧l=e.toks:=by
 unfold ba at h
 simp only[Bool.and_eq_true,decide_eq_true_eq,beq_iff_eq]at h
 obtain⟨_,h1,h2⟩:=h
 rw[cH,if_pos (by omega)]at h2
 show ∃e:Ex,e.ok∧l=e.toks
 cases he:Go.Proofs.YtoglejgmjeojoaaGreat.endL (l.drop (0:Int).toNat) (0:Int).toNat 1 with
 | none=>rw[he]at h2;simp only[bS]at h2;omega
 | some e=>
  rw[he]at h2
  simp only[bS]at h2
  obtain⟨es,g1,g2,rest,g3,g4⟩:=sg he
  match es,g1 with
  | [a],_=>
   rw[ak,ak,List.append_nil]at g3 g4
   have e0:l.drop (0:Int).toNat=l:=rfl
   rw[e0]at g3
   have:rest=[]:=by
    have:=congrArg List.length g3
    rw[List.length_append]at this
    have e1:(0:Int).toNat=0:=rfl
    rw[e1]at g4
    exact List.length_eq_zero_iff.1 (by omega)
   subst this
   exact⟨a,g2.1,by rw[g3,List.append_nil]⟩
def eB (l:List CU)(p:Nat)(e:Ex):Prop:=∃r,l.drop p=e.toks++r
def gl (l:List CU)(p:Nat)(es:List Ex):Prop:=∃r,l.drop p=ak es++r
theorem fX {l:List CU}{p:Nat}{e:Ex}(h:eB l p e)(ho:e.ok):cH l (p:Int)=((p+e.toks.length:Nat):Int):=by
 obtain⟨r,h⟩:=h
 rw[cH,if_pos (by omega),Int.toNat_natCast,h,show(1:Nat)=0+1 from rfl,Ex.endL e ho]
 cases r <;> rfl
theorem eO {l:List CU}{p:Nat}{t:CU}{es:List Ex}(h:eB l p (.node t es)):l[p]?=some t∧gl l (p+1) es:=by
 obtain⟨r,h⟩:=h
 rw[Ex.toks,List.cons_append]at h
 refine⟨?_,r,?_⟩
 ·have:=congrArg (·[0]?) h
  simpa [List.getElem?_drop]using this
 ·have:=congrArg (·.drop 1) h
  simpa [List.drop_drop]using this
theorem dc {l:List CU}{p:Nat}{a:Ex}{es:List Ex}(h:gl l p (a::es)):eB l p a∧gl l (p+a.toks.length) es:=by
 obtain⟨r,h⟩:=h
 rw[ak,List.append_assoc]at h
 refine⟨⟨_,h⟩,r,?_⟩
 rw[←List.drop_drop,h,List.drop_left]
def er:Nat→List Ex→List Nat
 | _,[]=>[]
 | p,a::es=>p::er (p+a.toks.length) es
theorem mN:∀(p:Nat) (es:List Ex),(er p es).length=es.length
 | _,[]=>rfl
 | p,a::es=>by rw[er,List.length_cons,mN,List.length_cons]
theorem qg:∀{l:List CU} {p:Nat} {es:List Ex} {k:Nat} {a:Ex},gl l p es→es[k]?=some a→∃q,(er p es)[k]?=some q∧eB l q a
 | _,_,[],_,_,_,h=>by simp at h
 | l,p,b::es,0,a,hs,h=>by
  rw[List.getElem?_cons_zero]at h
  injection h with h
  subst h
  exact⟨p,by rw[er,List.getElem?_cons_zero],(dc hs).1⟩
 | l,p,b::es,k+1,a,hs,h=>by
  rw[List.getElem?_cons_succ]at h
  obtain⟨q,h1,h2⟩:=qg (dc hs).2 h
  exact⟨q,by rw[er,List.getElem?_cons_succ];exact h1,h2⟩
theorem tz {t:CU}(h:dB t=true):t.faa=0∨t.faa=1∨t.faa=7∨(2≤t.faa∧t.faa≤6):=by
 unfold dB at h
 split at h
 ·omega
 ·split at h
  ·omega
  ·split at h
   ·omega
   ·simp only[Bool.and_eq_true,within_iff]at h
    omega
theorem yi {t:CU}(h:dB t=true):((t.faa=0∨t.faa=1)→ar t=0)∧(t.faa=7→(ar t:Int)=t.faf)∧(2≤t.faa→t.faa≤6→ar t=2):=by
 obtain⟨e1,_⟩:=nJ h
 unfold lI at e1
 rw[if_neg (by simp[h])]at e1
 refine⟨fun h0=>?_,fun h7=>?_,fun h2 h6=>?_⟩
 ·rw[if_neg (by omega),if_pos h0]at e1;omega
 ·rw[if_pos h7]at e1;omega
 ·rw[if_neg (by omega),if_neg (by omega)]at e1;omega
theorem pl:∀{l:List CU} {p:Nat} {es:List Ex} {j:Nat} {a:Ex},gl l p es→es[j]?=some a→eB l (p+(ak (es.take j)).length) a
 | _,_,[],_,_,_,h=>by simp at h
 | l,p,b::es,0,a,hs,h=>by
  rw[List.getElem?_cons_zero]at h
  injection h with h
  subst h
  simpa [ak]using(dc hs).1
 | l,p,b::es,j+1,a,hs,h=>by
  rw[List.getElem?_cons_succ]at h
  have:=pl (dc hs).2 h
  rw[List.take_succ_cons,ak,List.length_append,←Nat.add_assoc]
  exact this
end Go.Proofs.YtoglejgmjeojoaaGreat
namespace Go.Proofs.YtoglejgmjeojoaaGreat
noncomputable section
open Go.Sim
set_option maxRecDepth 100000
set_option maxHeartbeats 4000000
structure Cx where
 p:List CM
 b:CE
 framed:Bool
 words:Int
 args:Int
structure Sc where
 f:Nat
 chain:List Int
 locals:List (List UInt8)
 first:Int
 outer:Bool
structure Gs where
 items:List CL
 most:Int
 start:Bool
def iW (C:Cx)(s:Gs)(depth code arg line:Int)(chain:List Int):CL:=⟨⟨code,arg⟩,line,s.start,chain,if C.framed=true∧0 < s.items.length then 0 else depth,C.framed && decide (0 < s.items.length)⟩
def an (C:Cx)(s:Gs)(depth code arg line:Int)(chain:List Int):Gs:=⟨s.items++[iW C s depth code arg line chain],s.most,false⟩
def iG (C:Cx)(x:Sc)(i:Int):Bool:=x.outer && decide (i < C.args)
def dD (C:Cx)(x:Sc)(i:Int):Int:=if x.outer=true then i - C.args else x.first+i
def bF (C:Cx)(store:Bool):Int:=(if C.framed=true then 1 else 3)+(if store=true then 1 else 0)
def ca (C:Cx)(x:Sc)(depth i:Int):Int:=
 if C.framed=true then(if iG C x i=true then 1+(C.args - i)else -1 - dD C x i)
 else(if iG C x i=true then depth+(C.args - i)else depth - 1 - dD C x i)
def xT (C:Cx)(x:Sc)(s:Gs)(depth i line:Int):Gs:=an C s depth (bF C false) (ca C x depth i) line x.chain
def cQ (C:Cx)(x:Sc)(s:Gs)(depth i line:Int)(chain:List Int):Gs:=an C s depth (bF C true) (ca C x depth i) line chain
def cb (C:Cx)(y:Sc)(chain:List Int)(line:Int):Nat→Int→Gs→Gs
 | 0,_,s=>s
 | n+1,d,s=>cb C y chain line n (d - 1) (cQ C y s d n line chain)
def cB (C:Cx)(y:Sc)(chain:List Int)(line d:Int):Nat→Nat→Gs→Gs
 | 0,_,s=>s
 | n+1,i,s=>cB C y chain line d n (i+1) (cQ C y (an C s d 0 0 line chain) (d+1) i line chain)
def bx (l:List CL)(j:Int)(v:Int):List CL:=if 0≤j then(match l[j.toNat]? with
 | some x=>l.set j.toNat ⟨⟨x.fae.fah,v⟩,x.fam,x.fai,x.faj,x.fao,x.fap⟩
 | none=>l)else l
def bT (l:List CL)(v:Int):List Int→List CL
 | []=>l
 | j::js=>bT (bx l j v) v js
def jN (p:List CM)(g:Nat):Nat:=((p.take g).filter fun x=>x.faa==0).length
def bI (C:Cx)(inside:List Nat)(g:Nat)(n:Nat):Bool:=decide ((inside.length:Int)≤C.b.fag) && (decide (aY C.p (g:Int) - g≤9) && (decide (n < 200) && !inside.contains g))
def gq (C:Cx)(rep:Sc→List Nat→Nat→Nat→Int→Gs→Gs)(x:Sc)(inside:List Nat)(line:Nat)(t:CU)(d:Int)(s:Gs):Gs:=
 if t.faa=0 then an C s d 0 t.faf line x.chain
 else if t.faa=1 then xT C x s d (ct x.locals t.fab) line
 else if t.faa=7 then(match findN C.p 0 t.fab with
  | some g=>if bI C inside g s.items.length=true then rep x inside line g d s else an C s d 12 (jN C.p g) line x.chain
  | none=>s)
 else an C s d (5+t.faa - 2) 0 line x.chain
mutual
def dh (C:Cx)(rep:Sc→List Nat→Nat→Nat→Int→Gs→Gs)(x:Sc)(inside:List Nat)(line:Nat):Ex→Int→Gs→Gs
 | .node t es,d,s=>gq C rep x inside line t (d+es.length) (cD C rep x inside line es d s)
def cD (C:Cx)(rep:Sc→List Nat→Nat→Nat→Int→Gs→Gs)(x:Sc)(inside:List Nat)(line:Nat):List Ex→Int→Gs→Gs
 | [],_,s=>s
 | a::es,d,s=>cD C rep x inside line es (d+1) (dh C rep x inside line a d s)
end
def be (C:Cx)(x:Sc):Int:=if x.outer=true then(x.locals.length:Int) - C.args else x.first+x.locals.length
def argsN (p:List CM)(g:Nat):Nat:=match p[g]? with|some l=>l.fad.length|none=>0
def bq (C:Cx)(x:Sc)(line g:Nat):Sc:=⟨g,x.chain++[(line:Int)],localsOf C.p (g:Int),be C x,false⟩
def di (C:Cx)(x:Sc)(line g:Nat)(d:Int)(s:Gs):Gs:=
 cB C (bq C x line g) x.chain line (d - argsN C.p g) ((localsOf C.p (g:Int)).length - argsN C.p g) (argsN C.p g)
  (cb C (bq C x line g) x.chain line (argsN C.p g) d ⟨s.items,max s.most (be C x+(localsOf C.p (g:Int)).length),s.start⟩)
def bA (C:Cx)(x:Sc)(line:Nat)(d:Int)(s:Gs):Gs:=if s.start=true then an C s d 15 0 line x.chain else s
def fv (C:Cx)(lines:Sc→List Nat→Int→Gs→Gs×List Int)(x:Sc)(inside:List Nat)(line g:Nat)(d:Int)(s:Gs):Gs:=
 let r:=lines (bq C x line g) (inside++[g]) (d - argsN C.p g) (bA C x line (d - argsN C.p g) (di C x line g d s))
 ⟨bT r.1.items r.1.items.length r.2,r.1.most,r.1.start⟩
def wY (p:List CM)(k:Nat):Nat→Option Nat
 | 0=>none
 | n+1=>if endAt p n=some k∨elseAt p n=some k then some n else wY p k n
def az (p:List CM)(k:Nat):Nat:=(wY p k p.length).getD 0
def bH (p:List CM)(k:Nat):Int:=match p[k]? with|some x=>x.faa|none=> -1
structure Ls where
 g:Gs
 heads:List Int
 pos:List Int
 lv:List Int
def exL (l:List CU):Ex:=if h:ba l=true then Classical.choose (fH h)else .node ⟨0,0,[]⟩ []
theorem ox {l:List CU}(h:ba l=true):(exL l).ok∧l=(exL l).toks:=by
 rw[exL,dif_pos h]
 exact Classical.choose_spec (fH h)
def atL (l:List Int)(k:Nat):Int:=l[k]?.getD 0
def aH (C:Cx)(x:Sc)(k:Nat)(last:Bool)(d:Int)(L:Ls):Ls:=
 if x.outer=true then(if C.framed=true then{L with g:=an C L.g d 14 C.args k x.chain} else{L with g:=an C L.g d 16 (C.args+16 * C.words) k x.chain})
 else if last=true then L
 else{L with g:=an C L.g d 10 0 k x.chain,lv:=L.lv++[(L.g.items.length:Int)]}
def cO (C:Cx)(rep:Sc→List Nat→Nat→Nat→Int→Gs→Gs)(x:Sc)(inside:List Nat)(base:Int)(k:Nat)(ln:CM)(L:Ls):Ls:=
 if ln.faa=4 then
  let g:=an C L.g base 10 0 k x.chain
  {L with g:=⟨bx g.items (atL L.pos (az C.p k)) g.items.length,g.most,g.start⟩,pos:=L.pos.set k L.g.items.length}
 else if ln.faa=7 then
  if az C.p k=x.f then aH C x k true (base+1) {L with g:=an C L.g base 0 0 k x.chain}
  else if bH C.p (az C.p k)=5 then{L with g:=an C L.g base 10 (atL L.heads (az C.p k)) k x.chain}
  else L
 else
  let L1:Ls:={L with g:=dh C rep x inside k (exL ln.fac) base ⟨L.g.items,L.g.most,true⟩,heads:=L.heads.set k L.g.items.length}
  if ln.faa=1 then{L1 with g:=cQ C x L1.g (base+1) (ct x.locals ln.fab) k x.chain}
  else if ln.faa=2 then{L1 with g:=an C L1.g (base+1) 17 0 k x.chain}
  else if ln.faa=6 then aH C x k false (base+1) L1
  else{L1 with g:=an C L1.g (base+1) 11 0 k x.chain,pos:=L1.pos.set k L1.g.items.length}
def fE (p:List CM)(k:Nat):Nat:=match elseAt p (az p k)with|some j=>j|none=>az p k
def aK (C:Cx)(x:Sc)(k:Nat)(ln:CM)(L:Ls):Ls:=
 if ln.faa=7∧az C.p k≠x.f then{L with g:=⟨bx L.g.items (atL L.pos (fE C.p k)) L.g.items.length,L.g.most,L.g.start⟩} else L
def gY (C:Cx)(rep:Sc→List Nat→Nat→Nat→Int→Gs→Gs)(x:Sc)(inside:List Nat)(base:Int):Nat→Nat→Ls→Ls
 | 0,_,L=>L
 | n+1,k,L=>match C.p[k]? with
  | some ln=>gY C rep x inside base n (k+1) (aK C x k ln (cO C rep x inside base k ln L))
  | none=>L
def bN (C:Cx)(s:Gs):Ls:=⟨s,List.replicate C.p.length 0,List.replicate C.p.length 0,[]⟩
def ir (p:List CM)(f:Nat):Nat:=(endAt p f).getD 0
def aI (C:Cx)(rep:Sc→List Nat→Nat→Nat→Int→Gs→Gs)(x:Sc)(inside:List Nat)(base:Int)(s:Gs):Gs×List Int:=
 let L:=gY C rep x inside base (ir C.p x.f - x.f) (x.f+1) (bN C s)
 (L.g,L.lv)
def aL (C:Cx):Nat→Sc→List Nat→Nat→Nat→Int→Gs→Gs
 | 0=>fun _ _ _ _ _ s=>s
 | n+1=>fv C (aI C (aL C n))
def dp (C:Cx)(f:Nat):Gs:=an C ⟨[],(localsOf C.p (f:Int)).length - C.args,false⟩ 0 (if C.framed=true then 13 else 15) C.words f []
def bf (C:Cx)(f:Nat):Sc:=⟨f,[],localsOf C.p (f:Int),0,true⟩
def cf (C:Cx)(f:Nat):Gs:=(aI C (aL C C.b.fag.toNat) (bf C f) [f] C.words (dp C f)).1
end
end Go.Proofs.YtoglejgmjeojoaaGreat
namespace Go.Proofs.YtoglejgmjeojoaaGreat
open Go.Sim
set_option maxRecDepth 100000
set_option maxHeartbeats 4000000
theorem aM {α:Type}{l:List α}{k:Nat}{x:α}(h:l[k]?=some x):k < l.length:=by
 rcases Nat.lt_or_ge k l.length with h'|h'
 ·exact h'
 ·rw[List.getElem?_eq_none h']at h;cases h
theorem tp {l:List CM}{i j e:Nat}(hi:endAt l i=some e)(hj:endAt l j=some e):i=j:=by
 have key:∀{i j:Nat},endAt l i=some e→endAt l j=some e→i < j→False:=by
  intro i j hi hj hlt
  obtain⟨x,hx,ho,_,h1,_⟩:=au hj
  obtain⟨m,hm,_,h2⟩:=kg hi hlt h1 hx ho
  rw[hj]at hm
  injection hm with hm
  omega
 rcases Nat.lt_trichotomy i j with h|h|h
 ·exact(key hi hj h).elim
 ·exact h
 ·exact(key hj hi h).elim
theorem kY {l:List CM}{e:Nat}:∀{n i j:Nat},elseN l e n i=some j→∀k x m,i≤k→k < j→l[k]?=some x→(x.faa=3∨x.faa=5)→endAt l k=some m→m < j
 | 0,_,_,h=>by rw[elseN]at h;cases h
 | n+1,i,j,h=>by
  intro k x m h1 h2 hx h3 hm
  rw[elseN]at h
  split at h
  ·split at h
   ·rename_i y hy
    split at h
    ·injection h with h;omega
    ·split at h
     ·split at h
      ·rename_i m' hm'
       have hin:=kv h
       obtain⟨_,_,_,_,g1,_⟩:=au hm'
       by_cases hk:k=i
       ·subst hk
        rw[hm']at hm
        injection hm with hm
        omega
       ·by_cases hk2:k≤m'
        ·by_cases hk3:k=m'
         ·subst hk3
          obtain⟨z,hz,h7⟩:=bk hm'
          rw[hx]at hz
          injection hz with hz
          subst hz
          omega
         ·obtain⟨m2,hm2,_,g2⟩:=kg hm' (by omega) (by omega) hx (by rw[opensK_iff];omega)
          rw[hm]at hm2
          injection hm2 with hm2
          omega
        ·exact kY h k x m (by omega) h2 hx h3 hm
      ·rename_i hno
       by_cases hk:k=i
       ·subst hk
        rw[hno]at hm
        cases hm
       ·exact kY h k x m (by omega) h2 hx h3 hm
     ·by_cases hk:k=i
      ·subst hk
       rw[hx]at hy
       injection hy with hy
       subst hy
       rename_i hne
       exact absurd h3 hne
      ·exact kY h k x m (by omega) h2 hx h3 hm
   ·cases h
  ·cases h
theorem jo {l:List CM}{i j k:Nat}(hi:elseAt l i=some k)(hj:elseAt l j=some k):i=j:=by
 have key:∀{i j:Nat},elseAt l i=some k→elseAt l j=some k→i < j→False:=by
  intro i j hi hj hlt
  obtain⟨y,ej,hy,h3,hej,h4,h5,_⟩:=aP hj
  unfold elseAt at hi
  split at hi
  ·split at hi
   ·have:=kY hi j y ej (by omega) h4 hy (.inl h3) hej
    omega
   ·cases hi
  ·cases hi
 rcases Nat.lt_trichotomy i j with h|h|h
 ·exact(key hi hj h).elim
 ·exact h
 ·exact(key hj hi h).elim
theorem nX {p:List CM}{k i:Nat}:∀{n:Nat},wY p k n=some i→i < n∧(endAt p i=some k∨elseAt p i=some k)
 | 0,h=>by rw[wY]at h;cases h
 | n+1,h=>by
  rw[wY]at h
  split at h
  ·injection h with h;subst h;exact⟨by omega,by assumption⟩
  ·have:=nX h;exact⟨by omega,this.2⟩
theorem qZ {p:List CM}{k i:Nat}(hi:endAt p i=some k∨elseAt p i=some k):∀{n:Nat},i < n→∃j,wY p k n=some j
 | 0,h=>by omega
 | n+1,h=>by
  rw[wY]
  split
  ·exact⟨_,rfl⟩
  ·by_cases he:i=n
   ·subst he;exact absurd hi (by assumption)
   ·exact qZ hi (by omega)
theorem fJ {p:List CM}{k i:Nat}(h:endAt p i=some k):az p k=i:=by
 obtain⟨x,hx,_,_,_,_⟩:=au h
 obtain⟨j,hj⟩:=qZ (.inl h) (aM hx)
 rw[az,hj]
 obtain⟨_,h1|h1⟩:=nX hj
 ·exact tp h1 h
 ·obtain⟨_,_,_,_,_,_,_,y,hy,h4⟩:=aP h1
  obtain⟨z,hz,h7⟩:=bk h
  rw[hy]at hz
  injection hz with hz
  subst hz
  omega
theorem mE {p:List CM}{k i:Nat}(h:elseAt p i=some k):az p k=i:=by
 obtain⟨x,e,hx,_,_,_,_,y,hy,h4⟩:=aP h
 obtain⟨j,hj⟩:=qZ (.inr h) (aM hx)
 rw[az,hj]
 obtain⟨_,h1|h1⟩:=nX hj
 ·obtain⟨z,hz,h7⟩:=bk h1
  rw[hy]at hz
  injection hz with hz
  subst hz
  omega
 ·exact jo h1 h
theorem jw {l:List CM}{i:Nat}{x:CM}(hx:l[i]?=some x)(h7:x.faa=7):∀(n s o e:Nat),i - s≤n→s≤i→1≤o→endN (l.drop s) s o=some e→i≤e→(∃k,s≤k∧k < i∧endAt l k=some i)∨∃j,1≤j∧j≤o∧endN (l.drop s) s j=some i
 | n,s,o,e,hn,hs,ho,h,hi=>by
  have hno:¬bO x.faa=true:=by rw[opensK_iff];omega
  by_cases he:s=i
  ·subst he
   exact .inr ⟨1,Nat.le_refl _,ho,by rw[cE hx,if_neg hno,if_pos h7,if_pos rfl]⟩
  obtain⟨m,rfl⟩:∃m,n=m+1:=⟨n - 1,by omega⟩
  have hl:=fI h
  obtain⟨y,hy⟩:=af (l:=l) (k:=s) (by omega)
  rw[cE hy]at h
  by_cases hop:bO y.faa=true
  ·rw[if_pos hop]at h
   rcases jw hx h7 m (s+1) (o+1) e (by omega) (by omega) (by omega) h hi with⟨k,h1,h2,h3⟩|⟨j,h1,h2,h3⟩
   ·exact .inl ⟨k,by omega,h2,h3⟩
   ·by_cases hj:j=1
    ·subst hj
     exact .inl ⟨s,Nat.le_refl _,by omega,by rw[nI hy hop];exact h3⟩
    ·exact .inr ⟨j - 1,by omega,by omega,by rw[cE hy,if_pos hop,show j - 1+1=j by omega];exact h3⟩
  ·rw[if_neg hop]at h
   by_cases h7y:y.faa=7
   ·rw[if_pos h7y]at h
    by_cases h1o:o=1
    ·rw[if_pos h1o]at h
     injection h with h
     omega
    ·rw[if_neg h1o]at h
     rcases jw hx h7 m (s+1) (o - 1) e (by omega) (by omega) (by omega) h hi with⟨k,h1,h2,h3⟩|⟨j,h1,h2,h3⟩
     ·exact .inl ⟨k,by omega,h2,h3⟩
     ·exact .inr ⟨j+1,by omega,by omega,by rw[cE hy,if_neg hop,if_pos h7y,if_neg (by omega),show j+1 - 1=j by omega];exact h3⟩
   ·rw[if_neg h7y]at h
    rcases jw hx h7 m (s+1) o e (by omega) (by omega) ho h hi with⟨k,h1,h2,h3⟩|⟨j,h1,h2,h3⟩
    ·exact .inl ⟨k,by omega,h2,h3⟩
    ·exact .inr ⟨j,h1,h2,by rw[cE hy,if_neg hop,if_neg h7y];exact h3⟩
structure CxOk (C:Cx):Prop where
 len:C.p.length≤60
 small:aA 1048576 (.lst 4 (C.p.map CM.tr))
 line:∀(k:Nat) (ln:CM),C.p[k]?=some ln→0≤ln.faa∧ln.faa≤7∧ln.fad.length≤4∧ln.fac.length≤20∧((ln.faa=1∨ln.faa=2∨ln.faa=3∨ln.faa=5∨ln.faa=6)→ba ln.fac=true)
 fn:∀(g:Nat) (ln:CM),C.p[g]?=some ln→ln.faa=0→∃e,endAt C.p g=some e∧(localsOf C.p (g:Int)).length≤8∧ln.fad.length≤(localsOf C.p (g:Int)).length∧∀(k:Nat) (y:CM),g < k→k < e→C.p[k]?=some y→y.faa≠0∧(∀t∈y.fac,t.faa=7→∃f,findN C.p 0 t.fab=some f∧(argsN C.p f:Int)=t.faf)∧(y.faa=4→∃i,g≤i∧i < k∧elseAt C.p i=some k)
 args:0≤C.args∧C.args≤4
 words:0≤C.words∧C.words≤1000
 inl:0≤C.b.fag∧C.b.fag≤3
structure ScOk (C:Cx) (x:Sc) (ins:List Nat):Prop where
 fn:∃ln,C.p[x.f]?=some ln∧ln.faa=0
 loc:x.locals=localsOf C.p (x.f:Int)
 first:0≤x.first∧x.first≤8 * ins.length
 chain:x.chain.length+1=ins.length
 out:x.outer=true↔x.chain=[]
 args:x.outer=true→C.args=argsN C.p x.f
 mem:ins.getLast?=some x.f
section
variable {C:Cx} {x:Sc} {ins:List Nat}
theorem CxOk.argsN (h:CxOk C)(g:Nat):argsN C.p g≤4:=by
 unfold Go.Proofs.YtoglejgmjeojoaaGreat.argsN
 split
 ·rename_i l hl
  have:=h.line _ _ hl
  omega
 ·omega
theorem ScOk.endE (hC:CxOk C)(hx:ScOk C x ins):∃e,endAt C.p x.f=some e∧x.f < e∧e < C.p.length∧ir C.p x.f=e∧x.locals.length≤8:=by
 obtain⟨ln,h1,h2⟩:=hx.fn
 obtain⟨e,h3,h4,h5,_⟩:=hC.fn _ _ h1 h2
 obtain⟨_,_,_,_,h6,h7⟩:=au h3
 exact⟨e,h3,h6,h7,by rw[ir,h3];rfl,by rw[hx.loc];exact h4⟩
theorem ScOk.argLe (hC:CxOk C)(hx:ScOk C x ins):argsN C.p x.f≤x.locals.length:=by
 obtain⟨ln,h1,h2⟩:=hx.fn
 obtain⟨e,h3,h4,h5,_⟩:=hC.fn _ _ h1 h2
 rw[hx.loc,Go.Proofs.YtoglejgmjeojoaaGreat.argsN,h1]
 exact h5
theorem ScOk.own7 (hC:CxOk C)(hx:ScOk C x ins){e k:Nat}{ln:CM}(he:endAt C.p x.f=some e)(h1:x.f < k)(h2:k≤e)(hk:C.p[k]?=some ln)(h7:ln.faa=7):
  endAt C.p (az C.p k)=some k∧((k=e∧az C.p k=x.f)∨(k < e∧x.f < az C.p k∧az C.p k < k∧∃y,C.p[az C.p k]?=some y∧(y.faa=3∨y.faa=5))):=by
 obtain⟨l0,g1,g2⟩:=hx.fn
 obtain⟨e',g3,_,_,g4⟩:=hC.fn _ _ g1 g2
 rw[he]at g3
 injection g3 with g3
 subst g3
 by_cases hke:k=e
 ·subst hke
  rw[fJ he]
  exact⟨he,.inl ⟨rfl,rfl⟩⟩
 ·obtain⟨z,hz,hzo,hzn,_,_⟩:=au he
  rcases jw hk h7 _ (x.f+1) 1 e (Nat.le_refl _) (by omega) (Nat.le_refl _) hzn h2 with⟨i,k1,k2,k3⟩|⟨j,k1,k2,k3⟩
  ·rw[fJ k3]
   obtain⟨y,hy,hyo,_⟩:=au k3
   have:=(g4 i y (by omega) (by omega) hy).1
   rw[opensK_iff]at hyo
   exact⟨k3,.inr ⟨by omega,by omega,k2,y,hy,by omega⟩⟩
  ·have:j=1:=by omega
   subst this
   rw[hzn]at k3
   injection k3 with k3
   omega
theorem ScOk.own4 (hC:CxOk C)(hx:ScOk C x ins){e k:Nat}{ln:CM}(he:endAt C.p x.f=some e)(h1:x.f < k)(h2:k≤e)(hk:C.p[k]?=some ln)(h4:ln.faa=4):
  elseAt C.p (az C.p k)=some k∧x.f < az C.p k∧az C.p k < k∧k < e:=by
 obtain⟨l0,g1,g2⟩:=hx.fn
 obtain⟨e',g3,_,_,g4⟩:=hC.fn _ _ g1 g2
 rw[he]at g3
 injection g3 with g3
 subst g3
 have hke:k≠e:=fun h=>by
  subst h
  obtain⟨y,hy,h7⟩:=bk he
  rw[hk]at hy
  injection hy with hy
  subst hy
  omega
 obtain⟨i,k1,k2,k3⟩:=(g4 k ln h1 (by omega) hk).2.2 h4
 rw[mE k3]
 obtain⟨y,_,hy,h3,_⟩:=aP k3
 have:i≠x.f:=fun h=>by
  subst h
  rw[g1]at hy
  injection hy with hy
  subst hy
  omega
 exact⟨k3,by omega,k2,by omega⟩
end
abbrev tvP (l:List CM):TV:=tvL 4 (l.map CM.tr)
abbrev vP (l:List CM):AV:= .r (.c (.t (.lst 4 (l.map CM.tr))))
theorem nP (k:Int):Sim.Spec Tryz.prog 214 [tvI k] (rB (bO k)):=by
 refine aj hΓ aq Tryz.func214 rfl (by decide) rfl ?_
 unfold bO
 repeat' ((conv=>whnf);first|refine Or.inl ?_|apply oi|(apply fi<;>intro h)|refine⟨_,rfl,?_⟩|exact rfl)
 all_goals try exact⟨KO⟩
 all_goals(refine⟨congrArg Tr.bool ?_⟩;simp_all;(try(rw[Bool.eq_iff_iff];simp;omega)))
theorem jJ (k:Int):Sim.Spec Tryz.prog 192 [tvI k] (rB (bO k)):=by
 refine aj hΓ aq Tryz.func192 rfl (by decide) rfl ?_
 unfold bO
 repeat' ((conv=>whnf);first|refine Or.inl ?_|apply oi|(apply fi<;>intro h)|refine⟨_,rfl,?_⟩|exact rfl)
 all_goals try exact⟨KO⟩
 all_goals(refine⟨congrArg Tr.bool ?_⟩;simp_all;(try(rw[Bool.eq_iff_iff];simp;omega)))
abbrev Ai (l:List CM)(k:Nat)(R:Int):={q:Nat×Nat // q.1≤l.length∧q.2≤q.1∧(q.2=0→q.1=k)∧bS (endN (l.drop q.1) q.1 q.2)=R}
theorem qK {l:List CM}{k:Nat}{x:CM}(hx:l[k]?=some x)(ho:bO x.faa=true):endN (l.drop k) k 0=endAt l k:=by
 rw[cE hx,if_pos ho,nI hx ho]
theorem co (l:List CM)(k:Int)(hl:l.length≤1048576):Sim.Spec Tryz.prog 152 [tvP l,tvI k] (rI (aY l k)):=by
 refine aj hΓ aq Tryz.func152 rfl (by decide) rfl ?_
 have hlen:(l.map CM.tr).length=l.length:=by simp
 by_cases hin:0≤k∧k < l.length
 ·obtain⟨h0,h1⟩:=hin
  obtain⟨k,rfl⟩:=Int.eq_ofNat_of_zero_le h0
  obtain⟨x,hx⟩:=af (l:=l) (k:=k) (by omega)
  have hO:=nP x.faa
  have hw:IntKind.i64.wrap (((l.map CM.tr).length:Int) - 1)=(l.length:Int) - 1:=by rw[IntWalk.i64_in _ (by omega)];omega
  have hb:=aJ (k:Int) 0 (IntKind.i64.wrap (((l.map CM.tr).length:Int) - 1))
  rw[within_iff.2 ⟨h0,by rw[hw];omega⟩]at hb
  cases ho:bO x.faa with
  | false=>
   rw[ho]at hO
   have:aY l (k:Int)= -1:=by rw[aV,endAt,hx];dsimp only;rw[if_neg (by simp[ho])];rfl
   rw[this]
   repeat' ((conv=>whnf);first|refine Or.inl ?_|apply oi|(apply fi<;>intro h)|refine ci hb (ai rfl (ai rfl (ai rfl trivial))) ?_|refine⟨k,x.tr,rfl,aa hx,?_⟩|refine ci hO (ai rfl trivial) ?_|refine⟨_,rfl,?_⟩|exact rfl)
   all_goals try exact⟨KO⟩
   all_goals try exact KX
  | true=>
   rw[ho]at hO
   obtain⟨R,hR⟩:∃R,aY l (k:Int)=R:=⟨_,rfl⟩
   rw[hR]
   rw[aV,←qK hx ho]at hR
   repeat' ((conv=>whnf);first|refine Or.inl ?_|apply oi|(apply fi<;>intro h)|refine ci hb (ai rfl (ai rfl (ai rfl trivial))) ?_|refine⟨k,x.tr,rfl,aa hx,?_⟩|refine ci hO (ai rfl trivial) ?_|refine⟨_,rfl,?_⟩|exact rfl)
   all_goals try exact⟨KO⟩
   all_goals try exact KX
   conv=>whnf
   refine⟨Ai l k R,fun q=>⟨[(0,vP l),(5,tI .i64 (q.1.2:Int)),(6,tI .i64 (q.1.1:Int))],[],[]⟩,fun q=>l.length - q.1.1,⟨(k,0),by dsimp only;omega,by omega,fun _=>rfl,hR⟩,?_,?_⟩
   ·skip
    repeat' ((conv=>whnf);first|refine Or.inl ?_|apply oi|(apply fi<;>intro h)|refine⟨_,rfl,?_⟩|exact rfl)
    all_goals try exact⟨KO⟩
   intro⟨⟨i,o⟩,hi,hoi,hs,hr⟩
   dsimp only at hi hoi hs hr ⊢
   by_cases hlt:i < l.length
   ·obtain⟨y,hy⟩:=af hlt
    have hO2:=nP y.faa
    rw[cE hy]at hr
    cases hoy:bO y.faa with
    | true=>
     rw[hoy]at hO2
     rw[if_pos hoy]at hr
     have h7:y.faa≠7:=by rw[opensK_iff]at hoy;omega
     repeat' ((conv=>whnf);first|refine Or.inl ?_|apply oi|(apply fi<;>intro h)|refine⟨i,y.tr,rfl,aa hy,?_⟩|refine ci hO2 (ai rfl trivial) ?_|refine⟨_,rfl,?_⟩|exact rfl)
     all_goals try exact⟨KO⟩
     all_goals try exact KX
     all_goals try(exfalso;(try simp_all[ah]);(try omega);done)
     all_goals try exact K5
     conv=>whnf
     refine⟨⟨(i+1,o+1),by dsimp only;omega,by dsimp only;omega,fun h=>by omega,hr⟩,?_,KD⟩
     repeat' ((conv=>whnf);first|refine Or.inl ?_|apply oi|(apply fi<;>intro h)|refine⟨_,rfl,?_⟩|exact rfl)
     all_goals try exact⟨KO⟩
     all_goals try exact⟨K4⟩
     all_goals exact⟨by dsimp only;rw[IntWalk.i64_in _ (by omega)];rfl⟩
    | false=>
     rw[hoy]at hO2
     rw[if_neg (by simp[hoy])]at hr
     have hne:o≠0:=fun h=>by
      have:=hs h
      subst this
      rw[hx]at hy
      injection hy with hy
      subst hy
      rw[ho]at hoy
      cases hoy
     by_cases h7:y.faa=7
     ·rw[if_pos h7]at hr
      by_cases h1:o=1
      ·rw[if_pos h1]at hr
       subst hr
       subst h1
       repeat' ((conv=>whnf);first|refine Or.inl ?_|apply oi|(apply fi<;>intro h)|refine⟨i,y.tr,rfl,aa hy,?_⟩|refine ci hO2 (ai rfl trivial) ?_|refine⟨_,rfl,?_⟩|exact rfl)
       all_goals try exact⟨KO⟩
       all_goals try exact KX
       all_goals try(exfalso;(try simp_all[ah]);(try omega);done)
      ·rw[if_neg h1]at hr
       repeat' ((conv=>whnf);first|refine Or.inl ?_|apply oi|(apply fi<;>intro h)|refine⟨i,y.tr,rfl,aa hy,?_⟩|refine ci hO2 (ai rfl trivial) ?_|refine⟨_,rfl,?_⟩|exact rfl)
       all_goals try exact⟨KO⟩
       all_goals try exact KX
       all_goals try(exfalso;(try simp_all[ah]);(try omega);done)
       all_goals try exact K5
       conv=>whnf
       refine⟨⟨(i+1,o - 1),by dsimp only;omega,by dsimp only;omega,fun h=>by omega,hr⟩,?_,KD⟩
       repeat' ((conv=>whnf);first|refine Or.inl ?_|apply oi|(apply fi<;>intro h)|refine⟨_,rfl,?_⟩|exact rfl)
       all_goals try exact⟨KO⟩
       all_goals try exact⟨K4⟩
       all_goals exact⟨by dsimp only;congr 1;rw[IntWalk.i64_in _ (by omega)];omega⟩
     ·rw[if_neg h7]at hr
      repeat' ((conv=>whnf);first|refine Or.inl ?_|apply oi|(apply fi<;>intro h)|refine⟨i,y.tr,rfl,aa hy,?_⟩|refine ci hO2 (ai rfl trivial) ?_|refine⟨_,rfl,?_⟩|exact rfl)
      all_goals try exact⟨KO⟩
      all_goals try exact KX
      all_goals try(exfalso;(try simp_all[ah]);(try omega);done)
      all_goals try exact K6
      conv=>whnf
      refine⟨⟨(i+1,o),by dsimp only;omega,by dsimp only;omega,fun h=>by omega,hr⟩,?_,KD⟩
      repeat' ((conv=>whnf);first|refine Or.inl ?_|apply oi|(apply fi<;>intro h)|refine⟨_,rfl,?_⟩|exact rfl)
      all_goals try exact⟨KO⟩
      all_goals try exact⟨K4⟩
   ·rw[gJ (by omega)]at hr
    subst hr
    repeat' ((conv=>whnf);first|refine Or.inl ?_|apply oi|(apply fi<;>intro h)|refine⟨_,rfl,?_⟩|exact rfl)
    all_goals try exact⟨KO⟩
    all_goals try exact KX
 ·have:aY l k= -1:=by
   rw[aY]
   split
   ·rw[endAt,List.getElem?_eq_none (by omega)];rfl
   ·rfl
  rw[this]
  have hb:=aJ k 0 (IntKind.i64.wrap (((l.map CM.tr).length:Int) - 1))
  have hw:IntKind.i64.wrap (((l.map CM.tr).length:Int) - 1)=(l.length:Int) - 1:=by rw[IntWalk.i64_in _ (by omega)];omega
  have hf:ah k 0 (IntKind.i64.wrap (((l.map CM.tr).length:Int) - 1))=false:=by
   cases hx:ah k 0 (IntKind.i64.wrap (((l.map CM.tr).length:Int) - 1))with
   | false=>rfl
   | true=>have:=within_iff.1 hx;rw[hw]at this;exact absurd ⟨this.1,by omega⟩ hin
  rw[hf]at hb
  repeat' ((conv=>whnf);first|refine Or.inl ?_|apply oi|(apply fi<;>intro h)|refine ci hb (ai rfl (ai rfl (ai rfl trivial))) ?_|refine⟨_,rfl,?_⟩|exact rfl)
  all_goals try exact⟨KO⟩
  all_goals try exact KX
theorem cm (l:List CM)(k:Int)(hl:l.length≤1048576):Sim.Spec Tryz.prog 121 [tvP l,tvI k] (rI (aY l k)):=by
 refine aj hΓ aq Tryz.func121 rfl (by decide) rfl ?_
 have hlen:(l.map CM.tr).length=l.length:=by simp
 by_cases hin:0≤k∧k < l.length
 ·obtain⟨h0,h1⟩:=hin
  obtain⟨k,rfl⟩:=Int.eq_ofNat_of_zero_le h0
  obtain⟨x,hx⟩:=af (l:=l) (k:=k) (by omega)
  have hO:=jJ x.faa
  skip
  cases ho:bO x.faa with
  | false=>
   rw[ho]at hO
   have:aY l (k:Int)= -1:=by rw[aV,endAt,hx];dsimp only;rw[if_neg (by simp[ho])];rfl
   rw[this]
   repeat' ((conv=>whnf);first|refine Or.inl ?_|apply oi|(apply fi<;>intro h)|refine⟨k,x.tr,rfl,aa hx,?_⟩|refine ci hO (ai rfl trivial) ?_|refine⟨_,rfl,?_⟩|exact rfl)
   all_goals try exact⟨KO⟩
   all_goals try exact KX
  | true=>
   rw[ho]at hO
   obtain⟨R,hR⟩:∃R,aY l (k:Int)=R:=⟨_,rfl⟩
   rw[hR]
   rw[aV,←qK hx ho]at hR
   repeat' ((conv=>whnf);first|refine Or.inl ?_|apply oi|(apply fi<;>intro h)|refine⟨k,x.tr,rfl,aa hx,?_⟩|refine ci hO (ai rfl trivial) ?_|refine⟨_,rfl,?_⟩|exact rfl)
   all_goals try exact⟨KO⟩
   all_goals try exact KX
   conv=>whnf
   refine⟨Ai l k R,fun q=>⟨[(0,vP l),(5,tI .i64 (q.1.2:Int)),(6,tI .i64 (q.1.1:Int))],[],[]⟩,fun q=>l.length - q.1.1,⟨(k,0),by dsimp only;omega,by omega,fun _=>rfl,hR⟩,?_,?_⟩
   ·skip
    repeat' ((conv=>whnf);first|refine Or.inl ?_|apply oi|(apply fi<;>intro h)|refine⟨_,rfl,?_⟩|exact rfl)
    all_goals try exact⟨KO⟩
   intro⟨⟨i,o⟩,hi,hoi,hs,hr⟩
   dsimp only at hi hoi hs hr ⊢
   by_cases hlt:i < l.length
   ·obtain⟨y,hy⟩:=af hlt
    have hO2:=jJ y.faa
    rw[cE hy]at hr
    cases hoy:bO y.faa with
    | true=>
     rw[hoy]at hO2
     rw[if_pos hoy]at hr
     have h7:y.faa≠7:=by rw[opensK_iff]at hoy;omega
     repeat' ((conv=>whnf);first|refine Or.inl ?_|apply oi|(apply fi<;>intro h)|refine⟨i,y.tr,rfl,aa hy,?_⟩|refine ci hO2 (ai rfl trivial) ?_|refine⟨_,rfl,?_⟩|exact rfl)
     all_goals try exact⟨KO⟩
     all_goals try exact KX
     all_goals try(exfalso;(try simp_all[ah]);(try omega);done)
     all_goals try exact K5
     conv=>whnf
     refine⟨⟨(i+1,o+1),by dsimp only;omega,by dsimp only;omega,fun h=>by omega,hr⟩,?_,KD⟩
     repeat' ((conv=>whnf);first|refine Or.inl ?_|apply oi|(apply fi<;>intro h)|refine⟨_,rfl,?_⟩|exact rfl)
     all_goals try exact⟨KO⟩
     all_goals try exact⟨K4⟩
     all_goals exact⟨by dsimp only;rw[IntWalk.i64_in _ (by omega)];rfl⟩
    | false=>
     rw[hoy]at hO2
     rw[if_neg (by simp[hoy])]at hr
     have hne:o≠0:=fun h=>by
      have:=hs h
      subst this
      rw[hx]at hy
      injection hy with hy
      subst hy
      rw[ho]at hoy
      cases hoy
     by_cases h7:y.faa=7
     ·rw[if_pos h7]at hr
      by_cases h1:o=1
      ·rw[if_pos h1]at hr
       subst hr
       subst h1
       repeat' ((conv=>whnf);first|refine Or.inl ?_|apply oi|(apply fi<;>intro h)|refine⟨i,y.tr,rfl,aa hy,?_⟩|refine ci hO2 (ai rfl trivial) ?_|refine⟨_,rfl,?_⟩|exact rfl)
       all_goals try exact⟨KO⟩
       all_goals try exact KX
       all_goals try(exfalso;(try simp_all[ah]);(try omega);done)
      ·rw[if_neg h1]at hr
       repeat' ((conv=>whnf);first|refine Or.inl ?_|apply oi|(apply fi<;>intro h)|refine⟨i,y.tr,rfl,aa hy,?_⟩|refine ci hO2 (ai rfl trivial) ?_|refine⟨_,rfl,?_⟩|exact rfl)
       all_goals try exact⟨KO⟩
       all_goals try exact KX
       all_goals try(exfalso;(try simp_all[ah]);(try omega);done)
       all_goals try exact K5
       conv=>whnf
       refine⟨⟨(i+1,o - 1),by dsimp only;omega,by dsimp only;omega,fun h=>by omega,hr⟩,?_,KD⟩
       repeat' ((conv=>whnf);first|refine Or.inl ?_|apply oi|(apply fi<;>intro h)|refine⟨_,rfl,?_⟩|exact rfl)
       all_goals try exact⟨KO⟩
       all_goals try exact⟨K4⟩
       all_goals exact⟨by dsimp only;congr 1;rw[IntWalk.i64_in _ (by omega)];omega⟩
     ·rw[if_neg h7]at hr
      repeat' ((conv=>whnf);first|refine Or.inl ?_|apply oi|(apply fi<;>intro h)|refine⟨i,y.tr,rfl,aa hy,?_⟩|refine ci hO2 (ai rfl trivial) ?_|refine⟨_,rfl,?_⟩|exact rfl)
      all_goals try exact⟨KO⟩
      all_goals try exact KX
      all_goals try(exfalso;(try simp_all[ah]);(try omega);done)
      all_goals try exact K6
      conv=>whnf
      refine⟨⟨(i+1,o),by dsimp only;omega,by dsimp only;omega,fun h=>by omega,hr⟩,?_,KD⟩
      repeat' ((conv=>whnf);first|refine Or.inl ?_|apply oi|(apply fi<;>intro h)|refine⟨_,rfl,?_⟩|exact rfl)
      all_goals try exact⟨KO⟩
      all_goals try exact⟨K4⟩
   ·rw[gJ (by omega)]at hr
    subst hr
    repeat' ((conv=>whnf);first|refine Or.inl ?_|apply oi|(apply fi<;>intro h)|refine⟨_,rfl,?_⟩|exact rfl)
    all_goals try exact⟨KO⟩
    all_goals try exact KX
 ·have:aY l k= -1:=by
   rw[aY]
   split
   ·rw[endAt,List.getElem?_eq_none (by omega)];rfl
   ·rfl
  rw[this]
  repeat' ((conv=>whnf);first|refine Or.inl ?_|apply oi|(apply fi<;>intro h)|refine⟨_,rfl,?_⟩|exact rfl)
  all_goals try exact⟨KO⟩
  all_goals try exact KX
theorem dX (l:List (List UInt8)):flat (l.map ag):=dG _ (by intro x c hc sz rs e;subst e;simp[ag]at hc)
theorem rU {l:List CM}{k:Nat}{x:CM}(hx:l[k]?=some x)(h:x.faa≠3∨endAt l k=none):elseAt l k=none:=by
 unfold elseAt
 rw[hx]
 cases he:endAt l k with
 | none=>rfl
 | some e=>
  dsimp only
  rw[if_neg]
  rcases h with h|h
  ·exact h
  ·rw[he]at h;cases h
theorem lE (l:List CM)(k:Int)(hl:l.length≤1048576):Sim.Spec Tryz.prog 155 [tvP l,tvI k] (rI (aX l k)):=by
 refine aj hΓ aq Tryz.func155 rfl (by decide) rfl ?_
 have hlen:(l.map CM.tr).length=l.length:=by simp
 have hE:=co l k hl
 cases he:endAt l k.toNat with
 | none=>
  have h1:aY l k= -1:=by rw[aY,he];split <;> rfl
  have h2:aX l k= -1:=by
   rw[aX]
   split
   ·unfold elseAt;rw[he];cases l[k.toNat]? <;> rfl
   ·rfl
  rw[h1]at hE
  rw[h2]
  repeat' ((conv=>whnf);first|refine Or.inl ?_|apply oi|(apply fi<;>intro h)|refine ci hE (ai rfl (ai rfl trivial)) ?_|refine⟨_,rfl,?_⟩|exact rfl)
  all_goals try exact⟨KO⟩
  all_goals try exact KX
 | some e=>
  obtain⟨x,hx,ho,_,hke,hel⟩:=au he
  by_cases h0:0≤k
  ·obtain⟨k,rfl⟩:=Int.eq_ofNat_of_zero_le h0
   rw[Int.toNat_natCast]at he hx hke
   rw[aV,aU he]at hE
   by_cases h3:x.faa=3
   ·obtain⟨R,hR⟩:∃R,aX l (k:Int)=R:=⟨_,rfl⟩
    rw[hR]
    have hR:bS (elseN l e (e - (k+1)) (k+1))=R:=by
     rw[aX,if_pos h0,Int.toNat_natCast,elseAt,hx,he]at hR
     dsimp only at hR
     rw[if_pos h3]at hR
     exact hR
    repeat' ((conv=>whnf);first|refine Or.inl ?_|apply oi|(apply fi<;>intro h)|refine ci hE (ai rfl (ai rfl trivial)) ?_|refine⟨k,x.tr,rfl,aa hx,?_⟩|refine⟨_,rfl,?_⟩|exact rfl)
    all_goals try exact⟨KO⟩
    all_goals try exact KX
    all_goals try(exfalso;(try simp_all[ah]);(try omega);done)
    conv=>whnf
    refine⟨{i:Nat // k < i∧i≤e∧bS (elseN l e (e - i) i)=R},fun q=>⟨[(0,vP l),(5,tI .i64 (e:Int)),(6,tI .i64 (q.1:Int))],[],[]⟩,fun q=>e - q.1,⟨k+1,by omega,by omega,hR⟩,?_,?_⟩
    ·skip
     repeat' ((conv=>whnf);first|refine Or.inl ?_|apply oi|(apply fi<;>intro h)|refine⟨_,rfl,?_⟩|exact rfl)
     all_goals try exact⟨KO⟩
     all_goals exact⟨by dsimp only;rw[IntWalk.i64_in _ (by omega)];rfl⟩
    intro⟨i,hki,hi,hr⟩
    dsimp only at hki hi hr ⊢
    by_cases hlt:i < e
    ·obtain⟨y,hy⟩:=af (l:=l) (k:=i) (by omega)
     rw[qM hlt hy]at hr
     have hE2:=co l (i:Int) hl
     by_cases h4:y.faa=4
     ·rw[if_pos h4]at hr
      subst hr
      repeat' ((conv=>whnf);first|refine Or.inl ?_|apply oi|(apply fi<;>intro h)|refine ci hE2 (ai rfl (ai rfl trivial)) ?_|refine⟨i,y.tr,rfl,aa hy,?_⟩|refine⟨_,rfl,?_⟩|exact rfl)
      all_goals try exact⟨KO⟩
      all_goals try exact KX
      all_goals try(exfalso;(try simp_all[ah]);(try omega);done)
     ·rw[if_neg h4]at hr
      by_cases h5:y.faa=3∨y.faa=5
      ·rw[if_pos h5]at hr
       obtain⟨m,hm,hm1,hm2⟩:=kg he (i:=i) hki hlt hy (opensK_iff.2 (by omega))
       rw[hm]at hr
       dsimp only at hr
       rw[aV,aU hm]at hE2
       repeat' ((conv=>whnf);first|refine Or.inl ?_|apply oi|(apply fi<;>intro h)|refine ci hE2 (ai rfl (ai rfl trivial)) ?_|refine⟨i,y.tr,rfl,aa hy,?_⟩|refine⟨_,rfl,?_⟩|exact rfl)
       all_goals try exact⟨KO⟩
       all_goals try exact KX
       all_goals try(exfalso;(try simp_all[ah]);(try omega);done)
       all_goals
        conv=>whnf
        refine⟨⟨m+1,by omega,by omega,hr⟩,?_,KD⟩
        repeat' ((conv=>whnf);first|refine Or.inl ?_|apply oi|(apply fi<;>intro h)|refine⟨_,rfl,?_⟩|exact rfl)
        all_goals try exact⟨KO⟩
        all_goals try exact⟨K4⟩
        all_goals exact⟨by dsimp only;rw[IntWalk.i64_in _ (by omega)];rfl⟩
      ·rw[if_neg h5]at hr
       repeat' ((conv=>whnf);first|refine Or.inl ?_|apply oi|(apply fi<;>intro h)|refine ci hE2 (ai rfl (ai rfl trivial)) ?_|refine⟨i,y.tr,rfl,aa hy,?_⟩|refine⟨_,rfl,?_⟩|exact rfl)
       all_goals try exact⟨KO⟩
       all_goals try exact KX
       all_goals try(exfalso;(try simp_all[ah]);(try omega);done)
       all_goals try(exfalso;simp_all;done)
       conv=>whnf
       refine⟨⟨i+1,by omega,by omega,hr⟩,?_,KD⟩
       repeat' ((conv=>whnf);first|refine Or.inl ?_|apply oi|(apply fi<;>intro h)|refine⟨_,rfl,?_⟩|exact rfl)
       all_goals try exact⟨KO⟩
       all_goals try exact⟨K4⟩
       all_goals exact⟨by dsimp only;rw[IntWalk.i64_in _ (by omega)];rfl⟩
    ·rw[tc (by omega)]at hr
     subst hr
     repeat' ((conv=>whnf);first|refine Or.inl ?_|apply oi|(apply fi<;>intro h)|refine⟨_,rfl,?_⟩|exact rfl)
     all_goals try exact⟨KO⟩
     all_goals try exact KX
   ·have h2:aX l (k:Int)= -1:=by
     rw[aX,if_pos h0,Int.toNat_natCast,rU hx (.inl h3)];rfl
    rw[h2]
    repeat' ((conv=>whnf);first|refine Or.inl ?_|apply oi|(apply fi<;>intro h)|refine ci hE (ai rfl (ai rfl trivial)) ?_|refine⟨k,x.tr,rfl,aa hx,?_⟩|refine⟨_,rfl,?_⟩|exact rfl)
    all_goals try exact⟨KO⟩
    all_goals try exact KX
    all_goals try(exfalso;(try simp_all[ah]);(try omega);done)
  ·have h1:aY l k= -1:=by rw[aY,if_neg h0]
   have h2:aX l k= -1:=by rw[aX,if_neg h0]
   rw[h1]at hE
   rw[h2]
   repeat' ((conv=>whnf);first|refine Or.inl ?_|apply oi|(apply fi<;>intro h)|refine ci hE (ai rfl (ai rfl trivial)) ?_|refine⟨_,rfl,?_⟩|exact rfl)
   all_goals try exact⟨KO⟩
   all_goals try exact KX
theorem im (l:List CM)(k:Int)(hl:l.length≤1048576):Sim.Spec Tryz.prog 173 [tvP l,tvI k] (rI (aX l k)):=by
 refine aj hΓ aq Tryz.func173 rfl (by decide) rfl ?_
 have hlen:(l.map CM.tr).length=l.length:=by simp
 have hE:=cm l k hl
 cases he:endAt l k.toNat with
 | none=>
  have h1:aY l k= -1:=by rw[aY,he];split <;> rfl
  have h2:aX l k= -1:=by
   rw[aX]
   split
   ·unfold elseAt;rw[he];cases l[k.toNat]? <;> rfl
   ·rfl
  rw[h1]at hE
  rw[h2]
  repeat' ((conv=>whnf);first|refine Or.inl ?_|apply oi|(apply fi<;>intro h)|refine ci hE (ai rfl (ai rfl trivial)) ?_|refine⟨_,rfl,?_⟩|exact rfl)
  all_goals try exact⟨KO⟩
  all_goals try exact KX
 | some e=>
  obtain⟨x,hx,ho,_,hke,hel⟩:=au he
  by_cases h0:0≤k
  ·obtain⟨k,rfl⟩:=Int.eq_ofNat_of_zero_le h0
   rw[Int.toNat_natCast]at he hx hke
   rw[aV,aU he]at hE
   by_cases h3:x.faa=3
   ·obtain⟨R,hR⟩:∃R,aX l (k:Int)=R:=⟨_,rfl⟩
    rw[hR]
    have hR:bS (elseN l e (e - (k+1)) (k+1))=R:=by
     rw[aX,if_pos h0,Int.toNat_natCast,elseAt,hx,he]at hR
     dsimp only at hR
     rw[if_pos h3]at hR
     exact hR
    repeat' ((conv=>whnf);first|refine Or.inl ?_|apply oi|(apply fi<;>intro h)|refine ci hE (ai rfl (ai rfl trivial)) ?_|refine⟨k,x.tr,rfl,aa hx,?_⟩|refine⟨_,rfl,?_⟩|exact rfl)
    all_goals try exact⟨KO⟩
    all_goals try exact KX
    all_goals try(exfalso;(try simp_all[ah]);(try omega);done)
    conv=>whnf
    refine⟨{i:Nat // k < i∧i≤e∧bS (elseN l e (e - i) i)=R},fun q=>⟨[(0,vP l),(5,tI .i64 (e:Int)),(6,tI .i64 (q.1:Int))],[],[]⟩,fun q=>e - q.1,⟨k+1,by omega,by omega,hR⟩,?_,?_⟩
    ·skip
     repeat' ((conv=>whnf);first|refine Or.inl ?_|apply oi|(apply fi<;>intro h)|refine⟨_,rfl,?_⟩|exact rfl)
     all_goals try exact⟨KO⟩
     all_goals exact⟨by dsimp only;rw[IntWalk.i64_in _ (by omega)];rfl⟩
    intro⟨i,hki,hi,hr⟩
    dsimp only at hki hi hr ⊢
    by_cases hlt:i < e
    ·obtain⟨y,hy⟩:=af (l:=l) (k:=i) (by omega)
     rw[qM hlt hy]at hr
     have hE2:=cm l (i:Int) hl
     by_cases h4:y.faa=4
     ·rw[if_pos h4]at hr
      subst hr
      repeat' ((conv=>whnf);first|refine Or.inl ?_|apply oi|(apply fi<;>intro h)|refine ci hE2 (ai rfl (ai rfl trivial)) ?_|refine⟨i,y.tr,rfl,aa hy,?_⟩|refine⟨_,rfl,?_⟩|exact rfl)
      all_goals try exact⟨KO⟩
      all_goals try exact KX
      all_goals try(exfalso;(try simp_all[ah]);(try omega);done)
     ·rw[if_neg h4]at hr
      by_cases h5:y.faa=3∨y.faa=5
      ·rw[if_pos h5]at hr
       obtain⟨m,hm,hm1,hm2⟩:=kg he (i:=i) hki hlt hy (opensK_iff.2 (by omega))
       rw[hm]at hr
       dsimp only at hr
       rw[aV,aU hm]at hE2
       repeat' ((conv=>whnf);first|refine Or.inl ?_|apply oi|(apply fi<;>intro h)|refine ci hE2 (ai rfl (ai rfl trivial)) ?_|refine⟨i,y.tr,rfl,aa hy,?_⟩|refine⟨_,rfl,?_⟩|exact rfl)
       all_goals try exact⟨KO⟩
       all_goals try exact KX
       all_goals try(exfalso;(try simp_all[ah]);(try omega);done)
       all_goals
        conv=>whnf
        refine⟨⟨m+1,by omega,by omega,hr⟩,?_,KD⟩
        repeat' ((conv=>whnf);first|refine Or.inl ?_|apply oi|(apply fi<;>intro h)|refine⟨_,rfl,?_⟩|exact rfl)
        all_goals try exact⟨KO⟩
        all_goals try exact⟨K4⟩
        all_goals exact⟨by dsimp only;rw[IntWalk.i64_in _ (by omega)];rfl⟩
      ·rw[if_neg h5]at hr
       repeat' ((conv=>whnf);first|refine Or.inl ?_|apply oi|(apply fi<;>intro h)|refine ci hE2 (ai rfl (ai rfl trivial)) ?_|refine⟨i,y.tr,rfl,aa hy,?_⟩|refine⟨_,rfl,?_⟩|exact rfl)
       all_goals try exact⟨KO⟩
       all_goals try exact KX
       all_goals try(exfalso;(try simp_all[ah]);(try omega);done)
       all_goals try(exfalso;simp_all;done)
       conv=>whnf
       refine⟨⟨i+1,by omega,by omega,hr⟩,?_,KD⟩
       repeat' ((conv=>whnf);first|refine Or.inl ?_|apply oi|(apply fi<;>intro h)|refine⟨_,rfl,?_⟩|exact rfl)
       all_goals try exact⟨KO⟩
       all_goals try exact⟨K4⟩
       all_goals exact⟨by dsimp only;rw[IntWalk.i64_in _ (by omega)];rfl⟩
    ·rw[tc (by omega)]at hr
     subst hr
     repeat' ((conv=>whnf);first|refine Or.inl ?_|apply oi|(apply fi<;>intro h)|refine⟨_,rfl,?_⟩|exact rfl)
     all_goals try exact⟨KO⟩
     all_goals try exact KX
   ·have h2:aX l (k:Int)= -1:=by
     rw[aX,if_pos h0,Int.toNat_natCast,rU hx (.inl h3)];rfl
    rw[h2]
    repeat' ((conv=>whnf);first|refine Or.inl ?_|apply oi|(apply fi<;>intro h)|refine ci hE (ai rfl (ai rfl trivial)) ?_|refine⟨k,x.tr,rfl,aa hx,?_⟩|refine⟨_,rfl,?_⟩|exact rfl)
    all_goals try exact⟨KO⟩
    all_goals try exact KX
    all_goals try(exfalso;(try simp_all[ah]);(try omega);done)
  ·have h1:aY l k= -1:=by rw[aY,if_neg h0]
   have h2:aX l k= -1:=by rw[aX,if_neg h0]
   rw[h1]at hE
   rw[h2]
   repeat' ((conv=>whnf);first|refine Or.inl ?_|apply oi|(apply fi<;>intro h)|refine ci hE (ai rfl (ai rfl trivial)) ?_|refine⟨_,rfl,?_⟩|exact rfl)
   all_goals try exact⟨KO⟩
   all_goals try exact KX
theorem bX (l:List CM)(hl:l.length≤1048576):Sim.Spec Tryz.prog 88 [tvP l] (rL 1 ((ay l).map fun n:Nat=>ab n)):=by
 refine aj hΓ aq Tryz.func88 rfl (by decide) rfl ?_
 have hlen:(l.map CM.tr).length=l.length:=by simp
 obtain⟨R,hR⟩:∃R,ay l=R:=⟨_,rfl⟩
 rw[hR]
 repeat' ((conv=>whnf);first|refine Or.inl ?_|apply oi|(apply fi<;>intro h)|refine⟨_,rfl,?_⟩|exact rfl)
 all_goals try exact⟨KO⟩
 conv=>whnf
 refine⟨{q:Nat×List Nat // q.1≤l.length∧q.2.length≤q.1∧q.2++funsF (l.drop q.1) q.1=R},fun q=>⟨[(0,vP l),(3,.r (.c (.own (6,0,0)))),(7,vP l),(8,tI .i64 ((l.map CM.tr).length:Int)),(9,tI .i64 (q.1.1:Int))],[((6,0,0),some (.arr true 1 (q.1.2.map fun n:Nat=>ab n)))],[6]⟩,fun q=>l.length - q.1.1,⟨(0,[]),by simp,by simp,by simpa [ay]using hR⟩,?_,?_⟩
 ·skip
  repeat' ((conv=>whnf);first|refine Or.inl ?_|apply oi|(apply fi<;>intro h)|refine⟨_,rfl,?_⟩|exact rfl)
  all_goals try exact⟨KO⟩
 intro⟨⟨k,acc⟩,hk,hal,hr⟩
 dsimp only at hk hal hr ⊢
 have hacc:(acc.map fun n:Nat=>ab n).length=acc.length:=by simp
 by_cases hlt:k < l.length
 ·obtain⟨x,hx⟩:=af hlt
  rw[iF hx]at hr
  by_cases h0:x.faa=0
  ·rw[if_pos h0]at hr
   repeat' ((conv=>whnf);first|refine Or.inl ?_|apply oi|(apply fi<;>intro h)|refine⟨k,x.tr,rfl,aa hx,?_⟩|refine⟨_,rfl,?_⟩|exact rfl)
   all_goals try exact⟨KO⟩
   all_goals try exact KX
   all_goals try(exfalso;(try simp_all[ah]);(try omega);done)
   all_goals try exact⟨⟨by simp;omega,by simp;omega⟩⟩
   conv=>whnf
   refine⟨⟨(k+1,acc++[k]),by dsimp only;omega,by simp;omega,by rw[←hr];simp⟩,?_,KD⟩
   repeat' ((conv=>whnf);first|refine Or.inl ?_|apply oi|(apply fi<;>intro h)|refine⟨_,rfl,?_⟩|exact rfl)
   all_goals try exact⟨KO⟩
   all_goals try exact⟨K4⟩
   all_goals exact⟨by simp[ab]⟩
  ·rw[if_neg h0,List.nil_append]at hr
   repeat' ((conv=>whnf);first|refine Or.inl ?_|apply oi|(apply fi<;>intro h)|refine⟨k,x.tr,rfl,aa hx,?_⟩|refine⟨_,rfl,?_⟩|exact rfl)
   all_goals try exact⟨KO⟩
   all_goals try exact KX
   all_goals try(exfalso;(try simp_all[ah]);(try omega);done)
   conv=>whnf
   refine⟨⟨(k+1,acc),by dsimp only;omega,by dsimp only;omega,hr⟩,?_,KD⟩
   repeat' ((conv=>whnf);first|refine Or.inl ?_|apply oi|(apply fi<;>intro h)|refine⟨_,rfl,?_⟩|exact rfl)
   all_goals try exact⟨KO⟩
   all_goals try exact⟨K4⟩
 ·rw[List.drop_eq_nil_of_le (by omega),funsF,List.append_nil]at hr
  subst hr
  repeat' ((conv=>whnf);first|refine Or.inl ?_|apply oi|(apply fi<;>intro h)|refine⟨_,rfl,?_⟩|exact rfl)
  all_goals try exact⟨KO⟩
  all_goals try exact KX
theorem cK (l:List CM)(hl:l.length≤1048576):Sim.Spec Tryz.prog 62 [tvP l] (rL 1 ((ay l).map fun n:Nat=>ab n)):=by
 refine aj hΓ aq Tryz.func62 rfl (by decide) rfl ?_
 have hlen:(l.map CM.tr).length=l.length:=by simp
 obtain⟨R,hR⟩:∃R,ay l=R:=⟨_,rfl⟩
 rw[hR]
 repeat' ((conv=>whnf);first|refine Or.inl ?_|apply oi|(apply fi<;>intro h)|refine⟨_,rfl,?_⟩|exact rfl)
 all_goals try exact⟨KO⟩
 conv=>whnf
 refine⟨{q:Nat×List Nat // q.1≤l.length∧q.2.length≤q.1∧q.2++funsF (l.drop q.1) q.1=R},fun q=>⟨[(0,vP l),(3,.r (.c (.own (5,0,0)))),(4,tI .i64 (q.1.1:Int))],[((5,0,0),some (.arr true 1 (q.1.2.map fun n:Nat=>ab n)))],[5]⟩,fun q=>l.length - q.1.1,⟨(0,[]),by simp,by simp,by simpa [ay]using hR⟩,?_,?_⟩
 ·skip
  repeat' ((conv=>whnf);first|refine Or.inl ?_|apply oi|(apply fi<;>intro h)|refine⟨_,rfl,?_⟩|exact rfl)
  all_goals try exact⟨KO⟩
 intro⟨⟨k,acc⟩,hk,hal,hr⟩
 dsimp only at hk hal hr ⊢
 have hacc:(acc.map fun n:Nat=>ab n).length=acc.length:=by simp
 by_cases hlt:k < l.length
 ·obtain⟨x,hx⟩:=af hlt
  rw[iF hx]at hr
  by_cases h0:x.faa=0
  ·rw[if_pos h0]at hr
   repeat' ((conv=>whnf);first|refine Or.inl ?_|apply oi|(apply fi<;>intro h)|refine⟨k,x.tr,rfl,aa hx,?_⟩|refine⟨_,rfl,?_⟩|exact rfl)
   all_goals try exact⟨KO⟩
   all_goals try exact KX
   all_goals try(exfalso;(try simp_all[ah]);(try omega);done)
   all_goals try exact⟨⟨by simp;omega,by simp;omega⟩⟩
   conv=>whnf
   refine⟨⟨(k+1,acc++[k]),by dsimp only;omega,by simp;omega,by rw[←hr];simp⟩,?_,KD⟩
   repeat' ((conv=>whnf);first|refine Or.inl ?_|apply oi|(apply fi<;>intro h)|refine⟨_,rfl,?_⟩|exact rfl)
   all_goals try exact⟨KO⟩
   all_goals try exact⟨K4⟩
   all_goals exact⟨by simp[ab]⟩
  ·rw[if_neg h0,List.nil_append]at hr
   repeat' ((conv=>whnf);first|refine Or.inl ?_|apply oi|(apply fi<;>intro h)|refine⟨k,x.tr,rfl,aa hx,?_⟩|refine⟨_,rfl,?_⟩|exact rfl)
   all_goals try exact⟨KO⟩
   all_goals try exact KX
   all_goals try(exfalso;(try simp_all[ah]);(try omega);done)
   conv=>whnf
   refine⟨⟨(k+1,acc),by dsimp only;omega,by dsimp only;omega,hr⟩,?_,KD⟩
   repeat' ((conv=>whnf);first|refine Or.inl ?_|apply oi|(apply fi<;>intro h)|refine⟨_,rfl,?_⟩|exact rfl)
   all_goals try exact⟨KO⟩
   all_goals try exact⟨K4⟩
 ·rw[List.drop_eq_nil_of_le (by omega),funsF,List.append_nil]at hr
  subst hr
  repeat' ((conv=>whnf);first|refine Or.inl ?_|apply oi|(apply fi<;>intro h)|refine⟨_,rfl,?_⟩|exact rfl)
  all_goals try exact⟨KO⟩
  all_goals try exact KX
theorem dC (l:List CM)(s:List UInt8)(hl:l.length≤1048576):Sim.Spec Tryz.prog 153 [tvP l,tvS s] (rI (dF l s)):=by
 refine aj hΓ aq Tryz.func153 rfl (by decide) rfl ?_
 have hlen:(l.map CM.tr).length=l.length:=by simp
 obtain⟨R,hR⟩:∃R,dF l s=R:=⟨_,rfl⟩
 rw[hR]
 repeat' ((conv=>whnf);first|refine Or.inl ?_|apply oi|(apply fi<;>intro h)|refine⟨_,rfl,?_⟩|exact rfl)
 all_goals try exact⟨KO⟩
 conv=>whnf
 refine⟨{k:Nat // k≤l.length∧bS (findN (l.drop k) k s)=R},fun q=>⟨[(0,vP l),(1,tS s),(7,vP l),(8,tI .i64 ((l.map CM.tr).length:Int)),(9,tI .i64 (q.1:Int))],[],[]⟩,fun q=>l.length - q.1,⟨0,by omega,hR⟩,?_,?_⟩
 ·skip
  repeat' ((conv=>whnf);first|refine Or.inl ?_|apply oi|(apply fi<;>intro h)|refine⟨_,rfl,?_⟩|exact rfl)
  all_goals try exact⟨KO⟩
 intro⟨k,hk,hr⟩
 dsimp only at hk hr ⊢
 by_cases hlt:k < l.length
 ·obtain⟨x,hx⟩:=af hlt
  rw[vZ hx]at hr
  by_cases h0:x.faa=0∧x.fab=s
  ·rw[if_pos h0]at hr
   obtain⟨h1,h2⟩:=h0
   subst h2
   subst hr
   repeat' ((conv=>whnf);first|refine Or.inl ?_|apply oi|(apply fi<;>intro h)|refine⟨k,x.tr,rfl,aa hx,?_⟩|refine⟨_,rfl,?_⟩|exact rfl)
   all_goals try exact⟨KO⟩
   all_goals try exact KX
   all_goals try(exfalso;(try simp_all[ah]);(try omega);done)
  ·rw[if_neg h0]at hr
   repeat' ((conv=>whnf);first|refine Or.inl ?_|apply oi|(apply fi<;>intro h)|refine⟨k,x.tr,rfl,aa hx,?_⟩|refine⟨_,rfl,?_⟩|exact rfl)
   all_goals try exact⟨KO⟩
   all_goals try exact KX
   all_goals try(exfalso;apply h0;simp_all;done)
   all_goals
    conv=>whnf
    refine⟨⟨k+1,by omega,hr⟩,?_,KD⟩
    repeat' ((conv=>whnf);first|refine Or.inl ?_|apply oi|(apply fi<;>intro h)|refine⟨_,rfl,?_⟩|exact rfl)
    all_goals try exact⟨KO⟩
    all_goals try exact⟨K4⟩
 ·rw[List.drop_eq_nil_of_le (by omega),findN]at hr
  subst hr
  repeat' ((conv=>whnf);first|refine Or.inl ?_|apply oi|(apply fi<;>intro h)|refine⟨_,rfl,?_⟩|exact rfl)
  all_goals try exact⟨KO⟩
  all_goals try exact KX
theorem cN (l:List CM)(s:List UInt8)(hl:l.length≤1048576):Sim.Spec Tryz.prog 120 [tvP l,tvS s] (rI (dF l s)):=by
 refine aj hΓ aq Tryz.func120 rfl (by decide) rfl ?_
 have hlen:(l.map CM.tr).length=l.length:=by simp
 obtain⟨R,hR⟩:∃R,dF l s=R:=⟨_,rfl⟩
 rw[hR]
 repeat' ((conv=>whnf);first|refine Or.inl ?_|apply oi|(apply fi<;>intro h)|refine⟨_,rfl,?_⟩|exact rfl)
 all_goals try exact⟨KO⟩
 conv=>whnf
 refine⟨{k:Nat // k≤l.length∧bS (findN (l.drop k) k s)=R},fun q=>⟨[(0,vP l),(1,tS s),(5,tI .i64 (q.1:Int))],[],[]⟩,fun q=>l.length - q.1,⟨0,by omega,hR⟩,?_,?_⟩
 ·skip
  repeat' ((conv=>whnf);first|refine Or.inl ?_|apply oi|(apply fi<;>intro h)|refine⟨_,rfl,?_⟩|exact rfl)
  all_goals try exact⟨KO⟩
 intro⟨k,hk,hr⟩
 dsimp only at hk hr ⊢
 by_cases hlt:k < l.length
 ·obtain⟨x,hx⟩:=af hlt
  rw[vZ hx]at hr
  by_cases h0:x.faa=0∧x.fab=s
  ·rw[if_pos h0]at hr
   obtain⟨h1,h2⟩:=h0
   subst h2
   subst hr
   repeat' ((conv=>whnf);first|refine Or.inl ?_|apply oi|(apply fi<;>intro h)|refine⟨k,x.tr,rfl,aa hx,?_⟩|refine⟨_,rfl,?_⟩|exact rfl)
   all_goals try exact⟨KO⟩
   all_goals try exact KX
   all_goals try(exfalso;(try simp_all[ah]);(try omega);done)
  ·rw[if_neg h0]at hr
   repeat' ((conv=>whnf);first|refine Or.inl ?_|apply oi|(apply fi<;>intro h)|refine⟨k,x.tr,rfl,aa hx,?_⟩|refine⟨_,rfl,?_⟩|exact rfl)
   all_goals try exact⟨KO⟩
   all_goals try exact KX
   all_goals try(exfalso;apply h0;simp_all;done)
   all_goals
    conv=>whnf
    refine⟨⟨k+1,by omega,hr⟩,?_,KD⟩
    repeat' ((conv=>whnf);first|refine Or.inl ?_|apply oi|(apply fi<;>intro h)|refine⟨_,rfl,?_⟩|exact rfl)
    all_goals try exact⟨KO⟩
    all_goals try exact⟨K4⟩
 ·rw[List.drop_eq_nil_of_le (by omega),findN]at hr
  subst hr
  repeat' ((conv=>whnf);first|refine Or.inl ?_|apply oi|(apply fi<;>intro h)|refine⟨_,rfl,?_⟩|exact rfl)
  all_goals try exact⟨KO⟩
  all_goals try exact KX
abbrev rN (l:List (List UInt8)):Res:=rL 1 (l.map ag)
theorem pm {l:List CM}{k e:Nat}{x:CM}(hx:l[k]?=some x)(he:endAt l k=some e)(h0:x.faa=0):localsOf l (k:Int)=locN l e (e - k) k x.fad:=by
 rw[localsOf,if_pos (by omega),Int.toNat_natCast,hx,he]
 dsimp only
 rw[if_pos h0]
theorem eI {l:List CM}{k:Int}(h:∀e x,endAt l k.toNat=some e→l[k.toNat]?=some x→0≤k→x.faa≠0):localsOf l k=[]:=by
 rw[localsOf]
 split
 ·split
  ·rename_i x e hx he
   rw[if_neg (h e x he hx (by assumption))]
  ·rfl
 ·rfl
theorem sT {l:List CM}{k:Int}(hl:l.length≤1048576)(hs:∀x∈l,aE 1048576 x.tr):(localsOf l k).length≤2097152∧True:=by
 refine⟨?_,trivial⟩
 rw[localsOf]
 split
 ·split
  ·rename_i x e hx he
   obtain⟨_,_,_,_,h1,h2⟩:=au he
   have:=(cd (hs x (List.mem_of_getElem? hx))).2.1
   split
   ·have:=vo (l:=l) (e:=e) (e - k.toNat) k.toNat x.fad
    omega
   ·simp
  ·simp
 ·simp
theorem dN (l:List (List UInt8))(s:List UInt8)(hl:l.length≤2097152):Sim.Spec Tryz.prog 176 [tvL 1 (l.map ag),tvS s] (rI (ct l s)):=by
 refine aj hΓ aq Tryz.func176 rfl (by decide) rfl ?_
 have hlen:(l.map ag).length=l.length:=by simp
 obtain⟨R,hR⟩:∃R,ct l s=R:=⟨_,rfl⟩
 rw[hR]
 repeat' ((conv=>whnf);first|refine Or.inl ?_|apply oi|(apply fi<;>intro h)|refine⟨_,rfl,?_⟩|exact rfl)
 all_goals try exact⟨KO⟩
 conv=>whnf
 refine⟨{k:Nat // k≤l.length∧bS (ia (l.drop k) k s)=R},fun k=>⟨[(0,.r (.c (.t (.lst 1 (l.map ag))))),(1,tS s),(5,tI .i64 (k.1:Int))],[],[]⟩,fun k=>l.length - k.1,⟨0,by omega,hR⟩,?_,?_⟩
 ·skip
  repeat' ((conv=>whnf);first|refine Or.inl ?_|apply oi|(apply fi<;>intro h)|refine⟨_,rfl,?_⟩|exact rfl)
  all_goals try exact⟨KO⟩
 intro⟨k,hk,hr⟩
 dsimp only at hk hr ⊢
 by_cases hlt:k < l.length
 ·obtain⟨x,hx⟩:=af hlt
  rw[uy hx]at hr
  cases he:(x==s)with
  | true=>
   rw[he,if_pos rfl]at hr
   have he2:=eq_of_beq he
   subst he2
   subst hr
   repeat' ((conv=>whnf);first|refine Or.inl ?_|apply oi|(apply fi<;>intro h)|refine⟨k,(ag x),rfl,aa hx,?_⟩|refine⟨_,rfl,?_⟩|exact rfl)
   all_goals try exact⟨KO⟩
   all_goals try exact KX
   all_goals try(exfalso;(try simp_all[ah]);(try omega);done)
  | false=>
   rw[he,if_neg (by simp)]at hr
   repeat' ((conv=>whnf);first|refine Or.inl ?_|apply oi|(apply fi<;>intro h)|refine⟨k,(ag x),rfl,aa hx,?_⟩|refine⟨_,rfl,?_⟩|exact rfl)
   all_goals try exact⟨KO⟩
   all_goals try exact KX
   all_goals try(exfalso;(try simp_all[ah]);(try omega);done)
   conv=>whnf
   refine⟨⟨k+1,by omega,hr⟩,?_,KD⟩
   repeat' ((conv=>whnf);first|refine Or.inl ?_|apply oi|(apply fi<;>intro h)|refine⟨_,rfl,?_⟩|exact rfl)
   all_goals try exact⟨KO⟩
   all_goals try exact⟨K4⟩
 ·rw[List.drop_eq_nil_of_le (by omega),ia]at hr
  subst hr
  repeat' ((conv=>whnf);first|refine Or.inl ?_|apply oi|(apply fi<;>intro h)|refine⟨_,rfl,?_⟩|exact rfl)
  all_goals try exact⟨KO⟩
  all_goals try exact KX
theorem fC (l:List CM)(k:Int)(hl:l.length≤1048576)(hs:∀x∈l,aE 1048576 x.tr):Sim.Spec Tryz.prog 215 [tvP l,tvI k] (rN (localsOf l k)):=by
 refine aj hΓ aq Tryz.func215 rfl (by decide) rfl ?_
 have hlen:(l.map CM.tr).length=l.length:=by simp
 have hE:=co l k hl
 by_cases h0:0≤k
 ·obtain⟨k,rfl⟩:=Int.eq_ofNat_of_zero_le h0
  rw[aV]at hE
  cases he:endAt l k with
  | none=>
   rw[fQ he]at hE
   rw[eI (fun e x h1 _ _=>by rw[Int.toNat_natCast,he]at h1;cases h1)]
   repeat' ((conv=>whnf);first|refine Or.inl ?_|apply oi|(apply fi<;>intro h)|refine ci hE (ai rfl (ai rfl trivial)) ?_|refine⟨_,rfl,?_⟩|exact rfl)
   all_goals try exact⟨KO⟩
   all_goals try exact KX
  | some e=>
   rw[aU he]at hE
   obtain⟨x,hx,ho,_,hke,hel⟩:=au he
   by_cases hk0:x.faa=0
   ·have hsm:=cd (hs x (List.mem_of_getElem? hx))
    rw[pm hx he hk0]
    obtain⟨R,hR⟩:∃R,locN l e (e - k) k x.fad=R:=⟨_,rfl⟩
    rw[hR]
    have hal:(x.fad.map ag).length=x.fad.length:=by simp
    repeat' ((conv=>whnf);first|refine Or.inl ?_|apply oi|(apply fi<;>intro h)|refine ci hE (ai rfl (ai rfl trivial)) ?_|refine⟨k,x.tr,rfl,aa hx,?_⟩|refine⟨_,rfl,?_⟩|exact rfl)
    all_goals try exact⟨KO⟩
    all_goals try exact KX
    all_goals try(exfalso;(try simp_all[ah]);(try omega);done)
    all_goals try exact⟨⟨by simp;omega,by simp;omega⟩⟩
    conv=>whnf
    refine⟨{q:Nat×List (List UInt8) // k≤q.1∧q.1≤e∧q.2.length≤1048576+q.1∧locN l e (e - q.1) q.1 q.2=R},fun q=>⟨[(0,vP l),(5,tI .i64 (e:Int)),(6,.r (.c (.own (6,0,0)))),(7,tI .i64 (q.1.1:Int))],[((6,0,0),some (.arr false 1 (q.1.2.map ag)))],[6]⟩,fun q=>e - q.1.1,⟨(k,x.fad),by dsimp only;omega,by dsimp only;omega,by dsimp only;omega,hR⟩,?_,?_⟩
    ·skip
     repeat' ((conv=>whnf);first|refine Or.inl ?_|apply oi|(apply fi<;>intro h)|refine⟨_,rfl,?_⟩|exact rfl)
     all_goals try exact⟨KO⟩
     all_goals exact⟨by simp⟩
    intro⟨⟨i,acc⟩,hki,hi,hac,hr⟩
    dsimp only at hki hi hac hr ⊢
    have hal2:(acc.map ag).length=acc.length:=by simp
    by_cases hlt:i < e
    ·obtain⟨y,hy⟩:=af (l:=l) (k:=i) (by omega)
     rw[tD hlt hy]at hr
     have hC:=dU acc y.fab (by omega)
     by_cases h1:y.faa=1
     ·rw[if_pos h1]at hr
      unfold gw at hr
      cases hc:acc.contains y.fab with
      | true=>
       rw[hc]at hC hr
       rw[if_pos rfl]at hr
       repeat' ((conv=>whnf);first|refine Or.inl ?_|apply oi|(apply fi<;>intro h)|refine ci hC (ai rfl (ai rfl trivial)) ?_|refine⟨i,y.tr,rfl,aa hy,?_⟩|refine⟨_,rfl,?_⟩|exact rfl)
       all_goals try exact⟨KO⟩
       all_goals try exact KX
       all_goals try(exfalso;(try simp_all[ah]);(try omega);done)
       all_goals
        conv=>whnf
        refine⟨⟨(i+1,acc),by dsimp only;omega,by dsimp only;omega,by dsimp only;omega,hr⟩,?_,KD⟩
        repeat' ((conv=>whnf);first|refine Or.inl ?_|apply oi|(apply fi<;>intro h)|refine⟨_,rfl,?_⟩|exact rfl)
        all_goals try exact⟨KO⟩
        all_goals try exact⟨K4⟩
      | false=>
       rw[hc]at hC hr
       rw[if_neg (by simp)]at hr
       repeat' ((conv=>whnf);first|refine Or.inl ?_|apply oi|(apply fi<;>intro h)|refine ci hC (ai rfl (ai rfl trivial)) ?_|refine⟨i,y.tr,rfl,aa hy,?_⟩|refine⟨_,rfl,?_⟩|exact rfl)
       all_goals try exact⟨KO⟩
       all_goals try exact KX
       all_goals try(exfalso;(try simp_all[ah]);(try omega);done)
       all_goals try exact⟨⟨by simp;omega,by simp;omega⟩⟩
       all_goals
        conv=>whnf
        refine⟨⟨(i+1,acc++[y.fab]),by dsimp only;omega,by dsimp only;omega,by simp;omega,hr⟩,?_,KD⟩
        repeat' ((conv=>whnf);first|refine Or.inl ?_|apply oi|(apply fi<;>intro h)|refine⟨_,rfl,?_⟩|exact rfl)
        all_goals try exact⟨KO⟩
        all_goals try exact⟨K4⟩
        all_goals exact⟨by simp[ag]⟩
     ·rw[if_neg h1]at hr
      repeat' ((conv=>whnf);first|refine Or.inl ?_|apply oi|(apply fi<;>intro h)|refine ci hC (ai rfl (ai rfl trivial)) ?_|refine⟨i,y.tr,rfl,aa hy,?_⟩|refine⟨_,rfl,?_⟩|exact rfl)
      all_goals try exact⟨KO⟩
      all_goals try exact KX
      all_goals try(exfalso;(try simp_all[ah]);(try omega);done)
      all_goals try(exfalso;simp_all;done)
      conv=>whnf
      refine⟨⟨(i+1,acc),by dsimp only;omega,by dsimp only;omega,by dsimp only;omega,hr⟩,?_,KD⟩
      repeat' ((conv=>whnf);first|refine Or.inl ?_|apply oi|(apply fi<;>intro h)|refine⟨_,rfl,?_⟩|exact rfl)
      all_goals try exact⟨KO⟩
      all_goals try exact⟨K4⟩
    ·rw[vM (by omega)]at hr
     subst hr
     repeat' ((conv=>whnf);first|refine Or.inl ?_|apply oi|(apply fi<;>intro h)|refine⟨_,rfl,?_⟩|exact rfl)
     all_goals try exact⟨KO⟩
     all_goals try exact KX
     all_goals exact⟨⟨rfl,dX _⟩⟩
   ·rw[eI (fun e x' h1 h2 _=>by rw[Int.toNat_natCast,hx]at h2;injection h2 with h2;subst h2;exact hk0)]
    repeat' ((conv=>whnf);first|refine Or.inl ?_|apply oi|(apply fi<;>intro h)|refine ci hE (ai rfl (ai rfl trivial)) ?_|refine⟨k,x.tr,rfl,aa hx,?_⟩|refine⟨_,rfl,?_⟩|exact rfl)
    all_goals try exact⟨KO⟩
    all_goals try exact KX
    all_goals try(exfalso;(try simp_all[ah]);(try omega);done)
 ·have h1:aY l k= -1:=by rw[aY,if_neg h0]
  rw[h1]at hE
  rw[eI (fun e x _ _ h=>absurd h h0)]
  repeat' ((conv=>whnf);first|refine Or.inl ?_|apply oi|(apply fi<;>intro h)|refine ci hE (ai rfl (ai rfl trivial)) ?_|refine⟨_,rfl,?_⟩|exact rfl)
  all_goals try exact⟨KO⟩
  all_goals try exact KX
theorem fw (l:List CM)(k:Int)(hl:l.length≤1048576)(hs:∀x∈l,aE 1048576 x.tr):Sim.Spec Tryz.prog 172 [tvP l,tvI k] (rN (localsOf l k)):=by
 refine aj hΓ aq Tryz.func172 rfl (by decide) rfl ?_
 have hlen:(l.map CM.tr).length=l.length:=by simp
 have hE:=cm l k hl
 by_cases h0:0≤k
 ·obtain⟨k,rfl⟩:=Int.eq_ofNat_of_zero_le h0
  rw[aV]at hE
  cases he:endAt l k with
  | none=>
   rw[fQ he]at hE
   rw[eI (fun e x h1 _ _=>by rw[Int.toNat_natCast,he]at h1;cases h1)]
   repeat' ((conv=>whnf);first|refine Or.inl ?_|apply oi|(apply fi<;>intro h)|refine ci hE (ai rfl (ai rfl trivial)) ?_|refine⟨_,rfl,?_⟩|exact rfl)
   all_goals try exact⟨KO⟩
   all_goals try exact KX
  | some e=>
   rw[aU he]at hE
   obtain⟨x,hx,ho,_,hke,hel⟩:=au he
   by_cases hk0:x.faa=0
   ·have hsm:=cd (hs x (List.mem_of_getElem? hx))
    rw[pm hx he hk0]
    obtain⟨R,hR⟩:∃R,locN l e (e - k) k x.fad=R:=⟨_,rfl⟩
    rw[hR]
    have hal:(x.fad.map ag).length=x.fad.length:=by simp
    repeat' ((conv=>whnf);first|refine Or.inl ?_|apply oi|(apply fi<;>intro h)|refine ci hE (ai rfl (ai rfl trivial)) ?_|refine⟨k,x.tr,rfl,aa hx,?_⟩|refine⟨_,rfl,?_⟩|exact rfl)
    all_goals try exact⟨KO⟩
    all_goals try exact KX
    all_goals try(exfalso;(try simp_all[ah]);(try omega);done)
    all_goals try exact⟨⟨by simp;omega,by simp;omega⟩⟩
    conv=>whnf
    refine⟨{q:Nat×List (List UInt8) // k≤q.1∧q.1≤e∧q.2.length≤1048576+q.1∧locN l e (e - q.1) q.1 q.2=R},fun q=>⟨[(0,vP l),(5,tI .i64 (e:Int)),(6,.r (.c (.own (6,0,0)))),(7,tI .i64 (q.1.1:Int))],[((6,0,0),some (.arr false 1 (q.1.2.map ag)))],[6]⟩,fun q=>e - q.1.1,⟨(k,x.fad),by dsimp only;omega,by dsimp only;omega,by dsimp only;omega,hR⟩,?_,?_⟩
    ·skip
     repeat' ((conv=>whnf);first|refine Or.inl ?_|apply oi|(apply fi<;>intro h)|refine⟨_,rfl,?_⟩|exact rfl)
     all_goals try exact⟨KO⟩
     all_goals exact⟨by simp⟩
    intro⟨⟨i,acc⟩,hki,hi,hac,hr⟩
    dsimp only at hki hi hac hr ⊢
    have hal2:(acc.map ag).length=acc.length:=by simp
    by_cases hlt:i < e
    ·obtain⟨y,hy⟩:=af (l:=l) (k:=i) (by omega)
     rw[tD hlt hy]at hr
     have hC:=dN acc y.fab (by omega)
     by_cases h1:y.faa=1
     ·rw[if_pos h1]at hr
      have hix:=lh (l:=acc) (s:=y.fab)
      generalize ct acc y.fab=ix at *
      unfold gw at hr
      cases hc:acc.contains y.fab with
      | true=>
       rw[hc]at hix hr
       rw[if_pos rfl]at hr
       repeat' ((conv=>whnf);first|refine Or.inl ?_|apply oi|(apply fi<;>intro h)|refine ci hC (ai rfl (ai rfl trivial)) ?_|refine⟨i,y.tr,rfl,aa hy,?_⟩|refine⟨_,rfl,?_⟩|exact rfl)
       all_goals try exact⟨KO⟩
       all_goals try exact KX
       all_goals try(exfalso;(try simp_all[ah]);(try omega);done)
       all_goals
        conv=>whnf
        refine⟨⟨(i+1,acc),by dsimp only;omega,by dsimp only;omega,by dsimp only;omega,hr⟩,?_,KD⟩
        repeat' ((conv=>whnf);first|refine Or.inl ?_|apply oi|(apply fi<;>intro h)|refine⟨_,rfl,?_⟩|exact rfl)
        all_goals try exact⟨KO⟩
        all_goals try exact⟨K4⟩
      | false=>
       rw[hc]at hix hr
       rw[if_neg (by simp)]at hr
       repeat' ((conv=>whnf);first|refine Or.inl ?_|apply oi|(apply fi<;>intro h)|refine ci hC (ai rfl (ai rfl trivial)) ?_|refine⟨i,y.tr,rfl,aa hy,?_⟩|refine⟨_,rfl,?_⟩|exact rfl)
       all_goals try exact⟨KO⟩
       all_goals try exact KX
       all_goals try(exfalso;(try simp_all[ah]);(try omega);done)
       all_goals try exact⟨⟨by simp;omega,by simp;omega⟩⟩
       all_goals
        conv=>whnf
        refine⟨⟨(i+1,acc++[y.fab]),by dsimp only;omega,by dsimp only;omega,by simp;omega,hr⟩,?_,KD⟩
        repeat' ((conv=>whnf);first|refine Or.inl ?_|apply oi|(apply fi<;>intro h)|refine⟨_,rfl,?_⟩|exact rfl)
        all_goals try exact⟨KO⟩
        all_goals try exact⟨K4⟩
        all_goals exact⟨by simp[ag]⟩
     ·rw[if_neg h1]at hr
      repeat' ((conv=>whnf);first|refine Or.inl ?_|apply oi|(apply fi<;>intro h)|refine ci hC (ai rfl (ai rfl trivial)) ?_|refine⟨i,y.tr,rfl,aa hy,?_⟩|refine⟨_,rfl,?_⟩|exact rfl)
      all_goals try exact⟨KO⟩
      all_goals try exact KX
      all_goals try(exfalso;(try simp_all[ah]);(try omega);done)
      all_goals try(exfalso;simp_all;done)
      conv=>whnf
      refine⟨⟨(i+1,acc),by dsimp only;omega,by dsimp only;omega,by dsimp only;omega,hr⟩,?_,KD⟩
      repeat' ((conv=>whnf);first|refine Or.inl ?_|apply oi|(apply fi<;>intro h)|refine⟨_,rfl,?_⟩|exact rfl)
      all_goals try exact⟨KO⟩
      all_goals try exact⟨K4⟩
    ·rw[vM (by omega)]at hr
     subst hr
     repeat' ((conv=>whnf);first|refine Or.inl ?_|apply oi|(apply fi<;>intro h)|refine⟨_,rfl,?_⟩|exact rfl)
     all_goals try exact⟨KO⟩
     all_goals try exact KX
     all_goals exact⟨⟨rfl,dX _⟩⟩
   ·rw[eI (fun e x' h1 h2 _=>by rw[Int.toNat_natCast,hx]at h2;injection h2 with h2;subst h2;exact hk0)]
    repeat' ((conv=>whnf);first|refine Or.inl ?_|apply oi|(apply fi<;>intro h)|refine ci hE (ai rfl (ai rfl trivial)) ?_|refine⟨k,x.tr,rfl,aa hx,?_⟩|refine⟨_,rfl,?_⟩|exact rfl)
    all_goals try exact⟨KO⟩
    all_goals try exact KX
    all_goals try(exfalso;(try simp_all[ah]);(try omega);done)
 ·have h1:aY l k= -1:=by rw[aY,if_neg h0]
  rw[h1]at hE
  rw[eI (fun e x _ _ h=>absurd h h0)]
  repeat' ((conv=>whnf);first|refine Or.inl ?_|apply oi|(apply fi<;>intro h)|refine ci hE (ai rfl (ai rfl trivial)) ?_|refine⟨_,rfl,?_⟩|exact rfl)
  all_goals try exact⟨KO⟩
  all_goals try exact KX
abbrev vN (l:List (List UInt8)):AV:= .r (.c (.t (.lst 1 (l.map ag))))
theorem wS {α:Type}{f:α→Bool}{l:List α}{k:Nat}{x:α}(hx:l[k]?=some x):(l.drop k).all f=(f x && (l.drop (k+1)).all f):=by
 rw[dP hx,List.all_cons]
theorem oE (l:List CM)(loc:List (List UInt8))(ts:List CU)(hl:l.length≤1048576)(hloc:loc.length≤4194304)(hts:ts.length≤1048576):Sim.Spec Tryz.prog 216 [tvP l,tvL 1 (loc.map ag),tvL 3 (ts.map CU.tr)] (rB (bm l loc ts)):=by
 refine aj hΓ aq Tryz.func216 rfl (by decide) rfl ?_
 have hlen:(ts.map CU.tr).length=ts.length:=by simp
 have hlen2:(l.map CM.tr).length=l.length:=by simp
 obtain⟨R,hR⟩:∃R,bm l loc ts=R:=⟨_,rfl⟩
 rw[hR]
 repeat' ((conv=>whnf);first|refine Or.inl ?_|apply oi|(apply fi<;>intro h)|refine⟨_,rfl,?_⟩|exact rfl)
 all_goals try exact⟨KO⟩
 conv=>whnf
 refine⟨{k:Nat // k≤ts.length∧(ts.drop k).all (bB l loc)=R},fun q=>⟨[(0,vP l),(1,vN loc),(10,.r (.c (.t (.lst 3 (ts.map CU.tr))))),(11,tI .i64 ((ts.map CU.tr).length:Int)),(12,tI .i64 (q.1:Int))],[],[]⟩,fun q=>ts.length - q.1,⟨0,by omega,hR⟩,?_,?_⟩
 ·skip
  repeat' ((conv=>whnf);first|refine Or.inl ?_|apply oi|(apply fi<;>intro h)|refine⟨_,rfl,?_⟩|exact rfl)
  all_goals try exact⟨KO⟩
 intro⟨k,hk,hr⟩
 dsimp only at hk hr ⊢
 by_cases hlt:k < ts.length
 ·obtain⟨t,ht⟩:=af hlt
  rw[wS ht]at hr
  have hC:=dU loc t.fab hloc
  have hF:=dC l t.fab hl
  by_cases h1:t.faa=1
  ·have e1:bB l loc t=loc.contains t.fab:=by unfold bB;rw[if_pos h1]
   rw[e1]at hr
   cases hc:loc.contains t.fab with
   | false=>
    rw[hc]at hC hr
    rw[Bool.false_and]at hr
    subst hr
    repeat' ((conv=>whnf);first|refine Or.inl ?_|apply oi|(apply fi<;>intro h)|refine⟨k,t.tr,rfl,aa ht,?_⟩|refine ci hC (ai rfl (ai rfl trivial)) ?_|refine ci hF (ai rfl (ai rfl trivial)) ?_|refine⟨_,rfl,?_⟩|exact rfl)
    all_goals try exact⟨KO⟩
    all_goals try exact KX
    all_goals try(exfalso;(try simp_all[ah]);(try omega);done)
   | true=>
    rw[hc]at hC hr
    rw[Bool.true_and]at hr
    repeat' ((conv=>whnf);first|refine Or.inl ?_|apply oi|(apply fi<;>intro h)|refine⟨k,t.tr,rfl,aa ht,?_⟩|refine ci hC (ai rfl (ai rfl trivial)) ?_|refine ci hF (ai rfl (ai rfl trivial)) ?_|refine⟨_,rfl,?_⟩|exact rfl)
    all_goals try exact⟨KO⟩
    all_goals try exact KX
    all_goals try(exfalso;(try simp_all[ah]);(try omega);done)
    all_goals try(exfalso;simp_all;done)
    conv=>whnf
    refine⟨⟨k+1,by omega,hr⟩,?_,KD⟩
    repeat' ((conv=>whnf);first|refine Or.inl ?_|apply oi|(apply fi<;>intro h)|refine⟨_,rfl,?_⟩|exact rfl)
    all_goals try exact⟨KO⟩
    all_goals try exact⟨K4⟩
  ·by_cases h7:t.faa=7
   ·cases hf:findN l 0 t.fab with
    | none=>
     have e1:bB l loc t=false:=by unfold bB;rw[if_neg h1,if_pos h7,hf]
     rw[e1,Bool.false_and]at hr
     subst hr
     rw[show dF l t.fab= -1 from fQ hf]at hF
     repeat' ((conv=>whnf);first|refine Or.inl ?_|apply oi|(apply fi<;>intro h)|refine⟨k,t.tr,rfl,aa ht,?_⟩|refine ci hC (ai rfl (ai rfl trivial)) ?_|refine ci hF (ai rfl (ai rfl trivial)) ?_|refine⟨_,rfl,?_⟩|exact rfl)
     all_goals try exact⟨KO⟩
     all_goals try exact KX
     all_goals try(exfalso;(try simp_all[ah]);(try omega);done)
    | some f=>
     obtain⟨hfl,x,hx,hx0,_⟩:=dZ hf
     have e1:bB l loc t=((x.fad.length:Int)==t.faf):=by unfold bB;rw[if_neg h1,if_pos h7,hf];dsimp only;rw[hx]
     rw[e1]at hr
     rw[show dF l t.fab=(f:Int) from aU hf]at hF
     have hxl:(x.fad.map ag).length=x.fad.length:=by simp
     by_cases hn:(x.fad.length:Int)=t.faf
     ·rw[beq_iff_eq.2 hn,Bool.true_and]at hr
      repeat' ((conv=>whnf);first|refine Or.inl ?_|apply oi|(apply fi<;>intro h)|refine⟨k,t.tr,rfl,aa ht,?_⟩|refine⟨f,x.tr,rfl,aa hx,?_⟩|refine ci hC (ai rfl (ai rfl trivial)) ?_|refine ci hF (ai rfl (ai rfl trivial)) ?_|refine⟨_,rfl,?_⟩|exact rfl)
      all_goals try exact⟨KO⟩
      all_goals try exact KX
      all_goals try(exfalso;(try simp_all[ah]);(try omega);done)
      all_goals try(exfalso;simp_all;done)
      conv=>whnf
      refine⟨⟨k+1,by omega,hr⟩,?_,KD⟩
      repeat' ((conv=>whnf);first|refine Or.inl ?_|apply oi|(apply fi<;>intro h)|refine⟨_,rfl,?_⟩|exact rfl)
      all_goals try exact⟨KO⟩
      all_goals try exact⟨K4⟩
     ·rw[beq_eq_false_iff_ne.2 hn,Bool.false_and]at hr
      subst hr
      repeat' ((conv=>whnf);first|refine Or.inl ?_|apply oi|(apply fi<;>intro h)|refine⟨k,t.tr,rfl,aa ht,?_⟩|refine⟨f,x.tr,rfl,aa hx,?_⟩|refine ci hC (ai rfl (ai rfl trivial)) ?_|refine ci hF (ai rfl (ai rfl trivial)) ?_|refine⟨_,rfl,?_⟩|exact rfl)
      all_goals try exact⟨KO⟩
      all_goals try exact KX
      all_goals try(exfalso;(try simp_all[ah]);(try omega);done)
      all_goals try(exfalso;simp_all;done)
   ·have e1:bB l loc t=true:=by unfold bB;rw[if_neg h1,if_neg h7]
    rw[e1,Bool.true_and]at hr
    repeat' ((conv=>whnf);first|refine Or.inl ?_|apply oi|(apply fi<;>intro h)|refine⟨k,t.tr,rfl,aa ht,?_⟩|refine ci hC (ai rfl (ai rfl trivial)) ?_|refine ci hF (ai rfl (ai rfl trivial)) ?_|refine⟨_,rfl,?_⟩|exact rfl)
    all_goals try exact⟨KO⟩
    all_goals try exact KX
    all_goals try(exfalso;(try simp_all[ah]);(try omega);done)
    all_goals try(exfalso;simp_all;done)
    conv=>whnf
    refine⟨⟨k+1,by omega,hr⟩,?_,KD⟩
    repeat' ((conv=>whnf);first|refine Or.inl ?_|apply oi|(apply fi<;>intro h)|refine⟨_,rfl,?_⟩|exact rfl)
    all_goals try exact⟨KO⟩
    all_goals try exact⟨K4⟩
 ·rw[List.drop_eq_nil_of_le (by omega),List.all_nil]at hr
  subst hr
  repeat' ((conv=>whnf);first|refine Or.inl ?_|apply oi|(apply fi<;>intro h)|refine⟨_,rfl,?_⟩|exact rfl)
  all_goals try exact⟨KO⟩
  all_goals try exact KX
def cV (n:Nat):List Tr:=ab n
theorem lP {x:CM}(h:bZ x=true)(hk:x.faa=7):x.fac=[]:=by
 unfold bZ at h
 simp only[Bool.and_eq_true]at h
 have h3:=h.2.2.2
 rw[if_neg (by rw[hk];decide)]at h3
 exact List.length_eq_zero_iff.1 (eq_of_beq h3)
def Cv (i:Nat)(st es:List Nat):Prop:=st=es∨st=(i - 1)::es
theorem hZ (m:Nat)(r:List Nat):((m::r).reverse.map cV)[r.length]?=some (cV m):=by simp
theorem StkOk.top {l:List CM}{e i m:Nat}{r:List Nat}(h:StkOk l e i (m::r)):i≤m:=h.1
theorem mX (l:List CM)(k e:Nat)(hl:l.length≤60)(hs:∀x∈l,aE 1048576 x.tr)(hok:∀x∈l,bZ x=true)(he:endAt l k=some e):Sim.Spec Tryz.prog 154 [tvP l,tvI k,tvI e] (rB (gn l k e)):=by
 refine aj hΓ aq Tryz.func154 rfl (by decide) rfl ?_
 have hlen:(l.map CM.tr).length=l.length:=by simp
 have hL:=fC l k (by omega) hs
 obtain⟨hloc1,hloc2⟩:=sT (l:=l) (k:=(k:Int)) (by omega) hs
 have hst0:=(au he)
 obtain⟨x0,hx0,ho0,he0,hke,hel⟩:=hst0
 unfold gn
 generalize localsOf l (k:Int)=loc at *
 have hll:(loc.map ag).length=loc.length:=by simp
 by_cases h8:loc.length≤8
 ·rw[decide_eq_true h8,Bool.true_and]
  obtain⟨R,hR⟩:∃R,fS l loc e (e - (k+1)) (k+1) 0=R:=⟨_,rfl⟩
  rw[hR]
  repeat' ((conv=>whnf);first|refine Or.inl ?_|apply oi|(apply fi<;>intro h)|refine ci hL (ai rfl (ai rfl trivial)) ?_|refine⟨_,rfl,?_⟩|exact rfl)
  all_goals try exact⟨KO⟩
  all_goals try exact KX
  conv=>whnf
  refine⟨{q:Nat×List Nat×List Nat // k < q.1∧q.1≤e+1∧q.2.1.length≤5∧(q.1=e+1→R=true)∧(q.1≤e→StkOk l e q.1 q.2.2∧q.2.2.length≤4∧Cv q.1 q.2.1 q.2.2∧fS l loc e (e - q.1) q.1 q.2.2.length=R)},fun q=>⟨[(0,vP l),(2,tI .i64 (e:Int)),(7,.r (.c (.own (7,0,0)))),(8,.r (.c (.own (8,0,0)))),(9,tI .i64 (q.1.1:Int))],[((7,0,0),some (.arr true 1 (loc.map ag))),((8,0,0),some (.arr false 1 (q.1.2.1.reverse.map cV)))],[7,8]⟩,fun q=>e+1 - q.1.1,⟨(k+1,[],[]),by dsimp only;omega,by dsimp only;omega,by simp,fun h=>by dsimp only at h;omega,fun _=>⟨he0,by simp,.inl rfl,hR⟩⟩,?_,?_⟩
  ·skip
   repeat' ((conv=>whnf);first|refine Or.inl ?_|apply oi|(apply fi<;>intro h)|refine⟨_,rfl,?_⟩|exact rfl)
   all_goals try exact⟨KO⟩
   all_goals try exact⟨K4⟩
   all_goals exact⟨by simp⟩
  intro⟨⟨i,st,es⟩,q1,q2,q3,q4,q5⟩
  dsimp only at q1 q2 q3 q4 q5 ⊢
  by_cases hie:i≤e
  ·obtain⟨y,hy⟩:=af (l:=l) (k:=i) (by omega)
   obtain⟨g1,g2,g3,g4⟩:=q5 hie
   have hE:=co l (i:Int) (by omega)
   have hX:=oE l loc y.fac (by omega) (by omega) (by have:=(cd (hs y (List.mem_of_getElem? hy))).2.2.2.1;omega)
   repeat' ((conv=>whnf);first|refine Or.inl ?_|apply oi|(apply fi<;>intro h)|refine⟨_,rfl,?_⟩|exact rfl)
   all_goals try exact⟨KO⟩
   all_goals try exact KX
   conv=>whnf
   refine⟨{u:List Nat // Cv i u es},fun q=>⟨[(0,vP l),(2,tI .i64 (e:Int)),(7,.r (.c (.own (7,0,0)))),(8,.r (.c (.own (8,0,0)))),(9,tI .i64 (i:Int))],[((7,0,0),some (.arr true 1 (loc.map ag))),((8,0,0),some (.arr false 1 (q.1.reverse.map cV)))],[7,8]⟩,fun q=>q.1.length,⟨st,g3⟩,?_,?_⟩
   ·skip
    repeat' ((conv=>whnf);first|refine Or.inl ?_|apply oi|(apply fi<;>intro h)|refine⟨_,rfl,?_⟩|exact rfl)
    all_goals try exact⟨KO⟩
   intro⟨u,hu⟩
   dsimp only at hu ⊢
   have hul:(u.reverse.map cV).length=u.length:=by simp
   cases u with
   | nil=>
    have hes0:es=[]:=by
     rcases hu with h|h
     ·exact h.symm
     ·cases h
    subst hes0
    by_cases hlt:i < e
    ·rw[ru hlt hy]at g4
     by_cases h0:y.faa=0
     ·rw[if_pos h0]at g4
      subst g4
      repeat' ((conv=>whnf);first|refine Or.inl ?_|apply oi|(apply fi<;>intro h)|refine ci hE (ai rfl (ai rfl trivial)) ?_|refine ci hX (ai rfl (ai rfl (ai rfl trivial))) ?_|refine⟨i,y.tr,rfl,aa hy,?_⟩|refine⟨_,rfl,?_⟩|exact rfl)
      all_goals try exact⟨KO⟩
      all_goals try exact KX
      all_goals try(exfalso;(try simp_all[ah]);(try omega);done)
     ·rw[if_neg h0]at g4
      by_cases h35:y.faa=3∨y.faa=5
      ·have hd:dep y ([]:List Nat).length=([]:List Nat).length+1:=by unfold dep;rw[if_pos h35]
       rw[hd]at g4
       obtain⟨m',hm',him,hst'⟩:=g1.push hy (opensK_iff.2 (by omega))
       rw[aV,aU hm']at hE
       by_cases hc:([]:List Nat).length+1≤4∧bm l loc y.fac=true
       ·obtain⟨c1,c2⟩:=hc
        rw[if_pos ⟨c1,c2⟩]at g4
        rw[c2]at hX
        repeat' ((conv=>whnf);first|refine Or.inl ?_|apply oi|(apply fi<;>intro h)|refine ci hE (ai rfl (ai rfl trivial)) ?_|refine ci hX (ai rfl (ai rfl (ai rfl trivial))) ?_|refine⟨i,y.tr,rfl,aa hy,?_⟩|refine⟨_,rfl,?_⟩|exact rfl)
        all_goals try exact⟨KO⟩
        all_goals try exact KX
        all_goals try(exfalso;(try simp_all[ah]);(try omega);done)
        all_goals try(exfalso;simp at h;omega)
        all_goals try exact⟨⟨by simp <;> omega,by simp <;> omega⟩⟩
        all_goals try(exfalso;simp_all;done)
        all_goals
         conv=>whnf
         refine⟨⟨(i+1,m'::([]:List Nat),m'::([]:List Nat)),by dsimp only;omega,by dsimp only;omega,by simp only[List.length_cons]at *;omega,fun h=>by dsimp only at h;omega,fun _=>⟨hst',by simp only[List.length_cons]at *;omega,.inl rfl,g4⟩⟩,?_,KD⟩
         repeat' ((conv=>whnf);first|refine Or.inl ?_|apply oi|(apply fi<;>intro h)|refine⟨_,rfl,?_⟩|exact rfl)
         all_goals try exact⟨KO⟩
         all_goals try exact⟨K4⟩
         all_goals exact⟨by simp[cV,ab]⟩
       ·rw[if_neg hc]at g4
        subst g4
        cases hkn:bm l loc y.fac with
        | true=>
         rw[hkn]at hX hc
         repeat' ((conv=>whnf);first|refine Or.inl ?_|apply oi|(apply fi<;>intro h)|refine ci hE (ai rfl (ai rfl trivial)) ?_|refine ci hX (ai rfl (ai rfl (ai rfl trivial))) ?_|refine⟨i,y.tr,rfl,aa hy,?_⟩|refine⟨_,rfl,?_⟩|exact rfl)
         all_goals try exact⟨KO⟩
         all_goals try exact KX
         all_goals try(exfalso;(try simp_all[ah]);(try omega);done)
         all_goals try exact⟨⟨by simp <;> omega,by simp <;> omega⟩⟩
         all_goals try(exfalso;apply hc;refine⟨?_,rfl⟩;simp at h;omega)
         all_goals try(exfalso;simp_all;done)
        | false=>
         rw[hkn]at hX hc
         repeat' ((conv=>whnf);first|refine Or.inl ?_|apply oi|(apply fi<;>intro h)|refine ci hE (ai rfl (ai rfl trivial)) ?_|refine ci hX (ai rfl (ai rfl (ai rfl trivial))) ?_|refine⟨i,y.tr,rfl,aa hy,?_⟩|refine⟨_,rfl,?_⟩|exact rfl)
         all_goals try exact⟨KO⟩
         all_goals try exact KX
         all_goals try(exfalso;(try simp_all[ah]);(try omega);done)
         all_goals try exact⟨⟨by simp <;> omega,by simp <;> omega⟩⟩
         all_goals try(exfalso;simp_all;done)
      ·by_cases h7:y.faa=7
       ·rcases g1.pop hy h7 with⟨_,h'⟩|⟨es',hes,hst'⟩
        ·omega
        have hd:dep y ([]:List Nat).length=es'.length:=by unfold dep;rw[if_neg h35,if_pos h7,hes];simp
        have hl4:es'.length≤4:=by rw[hes]at g2;simp at g2;omega
        rw[hd]at g4
        cases hkn:bm l loc y.fac with
        | true=>
         rw[hkn]at hX g4
         rw[if_pos ⟨hl4,rfl⟩]at g4
         repeat' ((conv=>whnf);first|refine Or.inl ?_|apply oi|(apply fi<;>intro h)|refine ci hE (ai rfl (ai rfl trivial)) ?_|refine ci hX (ai rfl (ai rfl (ai rfl trivial))) ?_|refine⟨i,y.tr,rfl,aa hy,?_⟩|refine⟨_,rfl,?_⟩|exact rfl)
         all_goals try exact⟨KO⟩
         all_goals try exact KX
         all_goals try(exfalso;(try simp_all[ah]);(try omega);done)
         all_goals try(exfalso;simp at h;omega)
         all_goals try(exfalso;simp_all;done)
         all_goals
          conv=>whnf
          refine⟨⟨(i+1,[],es'),by dsimp only;omega,by dsimp only;omega,by dsimp only;omega,fun h=>by dsimp only at h;omega,fun _=>⟨hst',hl4,.inr (by dsimp only;rw[hes];rfl),g4⟩⟩,?_,KD⟩
          repeat' ((conv=>whnf);first|refine Or.inl ?_|apply oi|(apply fi<;>intro h)|refine⟨_,rfl,?_⟩|exact rfl)
          all_goals try exact⟨KO⟩
          all_goals try exact⟨K4⟩
        | false=>
         rw[hkn]at hX g4
         rw[if_neg (by simp)]at g4
         subst g4
         repeat' ((conv=>whnf);first|refine Or.inl ?_|apply oi|(apply fi<;>intro h)|refine ci hE (ai rfl (ai rfl trivial)) ?_|refine ci hX (ai rfl (ai rfl (ai rfl trivial))) ?_|refine⟨i,y.tr,rfl,aa hy,?_⟩|refine⟨_,rfl,?_⟩|exact rfl)
         all_goals try exact⟨KO⟩
         all_goals try exact KX
         all_goals try(exfalso;(try simp_all[ah]);(try omega);done)
         all_goals try(exfalso;simp_all;done)
       ·have hd:dep y ([]:List Nat).length=([]:List Nat).length:=by unfold dep;rw[if_neg h35,if_neg h7]
        have ho:bO y.faa=false:=by
         cases hh:bO y.faa with
         | false=>rfl
         | true=>rw[opensK_iff]at hh;omega
        have hst':=g1.other hy ho h7
        rw[hd]at g4
        cases hkn:bm l loc y.fac with
        | true=>
         rw[hkn]at hX g4
         rw[if_pos ⟨g2,rfl⟩]at g4
         repeat' ((conv=>whnf);first|refine Or.inl ?_|apply oi|(apply fi<;>intro h)|refine ci hE (ai rfl (ai rfl trivial)) ?_|refine ci hX (ai rfl (ai rfl (ai rfl trivial))) ?_|refine⟨i,y.tr,rfl,aa hy,?_⟩|refine⟨_,rfl,?_⟩|exact rfl)
         all_goals try exact⟨KO⟩
         all_goals try exact KX
         all_goals try(exfalso;(try simp_all[ah]);(try omega);done)
         all_goals try(exfalso;simp at h;omega)
         all_goals try(exfalso;simp_all;done)
         all_goals
          conv=>whnf
          refine⟨⟨(i+1,[],[]),by dsimp only;omega,by dsimp only;omega,by dsimp only;omega,fun h=>by dsimp only at h;omega,fun _=>⟨hst',g2,.inl rfl,g4⟩⟩,?_,KD⟩
          repeat' ((conv=>whnf);first|refine Or.inl ?_|apply oi|(apply fi<;>intro h)|refine⟨_,rfl,?_⟩|exact rfl)
          all_goals try exact⟨KO⟩
          all_goals try exact⟨K4⟩
        | false=>
         rw[hkn]at hX g4
         rw[if_neg (by simp)]at g4
         subst g4
         repeat' ((conv=>whnf);first|refine Or.inl ?_|apply oi|(apply fi<;>intro h)|refine ci hE (ai rfl (ai rfl trivial)) ?_|refine ci hX (ai rfl (ai rfl (ai rfl trivial))) ?_|refine⟨i,y.tr,rfl,aa hy,?_⟩|refine⟨_,rfl,?_⟩|exact rfl)
         all_goals try exact⟨KO⟩
         all_goals try exact KX
         all_goals try(exfalso;(try simp_all[ah]);(try omega);done)
         all_goals try(exfalso;simp_all;done)
    ·have hie':i=e:=by omega
     obtain⟨z,hz,hz7⟩:=bk he
     rw[←hie',hy]at hz
     injection hz with hz
     subst hz
     rw[tM (by omega)]at g4
     have hkn:bm l loc y.fac=true:=by rw[lP (hok y (List.mem_of_getElem? hy)) hz7];rfl
     rw[hkn]at hX
     repeat' ((conv=>whnf);first|refine Or.inl ?_|apply oi|(apply fi<;>intro h)|refine ci hE (ai rfl (ai rfl trivial)) ?_|refine ci hX (ai rfl (ai rfl (ai rfl trivial))) ?_|refine⟨i,y.tr,rfl,aa hy,?_⟩|refine⟨_,rfl,?_⟩|exact rfl)
     all_goals try exact⟨KO⟩
     all_goals try exact KX
     all_goals try(exfalso;(try simp_all[ah]);(try omega);done)
     all_goals try(exfalso;simp at h;omega)
     all_goals try(exfalso;simp_all;done)
     all_goals
      conv=>whnf
      refine⟨⟨(i+1,[],[]),by dsimp only;omega,by dsimp only;omega,by dsimp only;omega,fun _=>g4.symm,fun h=>by dsimp only at h;omega⟩,?_,KD⟩
      repeat' ((conv=>whnf);first|refine Or.inl ?_|apply oi|(apply fi<;>intro h)|refine⟨_,rfl,?_⟩|exact rfl)
      all_goals try exact⟨KO⟩
      all_goals try exact⟨K4⟩
   | cons m r=>
    have hlen3:((m::r).reverse.map cV).length=r.length+1:=by simp
    have hrl:r.length≤5:=by
     rcases hu with h|h
     ·rw[←h]at g2
      simp only[List.length_cons]at g2
      omega
     ·injection h with h1 h2
      rw[h2]
      omega
    have hw:IntKind.i64.wrap ((((m::r).reverse.map cV).length:Int) - 1)=(r.length:Int):=by rw[hlen3,IntWalk.i64_in _ (by omega)];omega
    by_cases hm:m < i
    ·have hr:r=es:=by
      rcases hu with h|h
      ·subst h
       have:=g1.top
       omega
      ·injection h
     subst hr
     repeat' ((conv=>whnf);first|refine Or.inl ?_|apply oi|(apply fi<;>intro h)|refine⟨r.length,hw,(by rw[hlen3];omega),?_⟩|refine⟨(cV m),(hZ m r),?_⟩|refine⟨_,rfl,?_⟩|exact rfl)
     all_goals try exact⟨KO⟩
     all_goals try exact KX
     conv=>whnf
     refine⟨⟨r,.inl rfl⟩,?_,by dsimp only;simp⟩
     repeat' ((conv=>whnf);first|refine Or.inl ?_|apply oi|(apply fi<;>intro h)|refine⟨_,rfl,?_⟩|exact rfl)
     all_goals try exact⟨KO⟩
     all_goals try exact⟨K7⟩
    ·have hr:es=m::r:=by
      rcases hu with h|h
      ·exact h.symm
      ·injection h with h1 h2
       omega
     subst hr
     have hbk:=0
     by_cases hlt:i < e
     ·rw[ru hlt hy]at g4
      by_cases h0:y.faa=0
      ·rw[if_pos h0]at g4
       subst g4
       repeat' ((conv=>whnf);first|refine Or.inl ?_|apply oi|(apply fi<;>intro h)|refine⟨r.length,hw,(by rw[hlen3];omega),?_⟩|refine⟨(cV m),(hZ m r),?_⟩|refine ci hE (ai rfl (ai rfl trivial)) ?_|refine ci hX (ai rfl (ai rfl (ai rfl trivial))) ?_|refine⟨i,y.tr,rfl,aa hy,?_⟩|refine⟨_,rfl,?_⟩|exact rfl)
       all_goals try exact⟨KO⟩
       all_goals try exact KX
       all_goals try(exfalso;(try simp_all[ah]);(try omega);done)
      ·rw[if_neg h0]at g4
       by_cases h35:y.faa=3∨y.faa=5
       ·have hd:dep y (m::r).length=(m::r).length+1:=by unfold dep;rw[if_pos h35]
        rw[hd]at g4
        obtain⟨m',hm',him,hst'⟩:=g1.push hy (opensK_iff.2 (by omega))
        rw[aV,aU hm']at hE
        by_cases hc:(m::r).length+1≤4∧bm l loc y.fac=true
        ·obtain⟨c1,c2⟩:=hc
         rw[if_pos ⟨c1,c2⟩]at g4
         rw[c2]at hX
         repeat' ((conv=>whnf);first|refine Or.inl ?_|apply oi|(apply fi<;>intro h)|refine⟨r.length,hw,(by rw[hlen3];omega),?_⟩|refine⟨(cV m),(hZ m r),?_⟩|refine ci hE (ai rfl (ai rfl trivial)) ?_|refine ci hX (ai rfl (ai rfl (ai rfl trivial))) ?_|refine⟨i,y.tr,rfl,aa hy,?_⟩|refine⟨_,rfl,?_⟩|exact rfl)
         all_goals try exact⟨KO⟩
         all_goals try exact KX
         all_goals try(exfalso;(try simp_all[ah]);(try omega);done)
         all_goals try(exfalso;simp at h;omega)
         all_goals try exact⟨⟨by simp <;> omega,by simp <;> omega⟩⟩
         all_goals try(exfalso;simp_all;done)
         all_goals
          conv=>whnf
          refine⟨⟨(i+1,m'::(m::r),m'::(m::r)),by dsimp only;omega,by dsimp only;omega,by simp only[List.length_cons]at *;omega,fun h=>by dsimp only at h;omega,fun _=>⟨hst',by simp only[List.length_cons]at *;omega,.inl rfl,g4⟩⟩,?_,KD⟩
          repeat' ((conv=>whnf);first|refine Or.inl ?_|apply oi|(apply fi<;>intro h)|refine⟨_,rfl,?_⟩|exact rfl)
          all_goals try exact⟨KO⟩
          all_goals try exact⟨K4⟩
          all_goals exact⟨by simp[cV,ab]⟩
        ·rw[if_neg hc]at g4
         subst g4
         cases hkn:bm l loc y.fac with
         | true=>
          rw[hkn]at hX hc
          repeat' ((conv=>whnf);first|refine Or.inl ?_|apply oi|(apply fi<;>intro h)|refine⟨r.length,hw,(by rw[hlen3];omega),?_⟩|refine⟨(cV m),(hZ m r),?_⟩|refine ci hE (ai rfl (ai rfl trivial)) ?_|refine ci hX (ai rfl (ai rfl (ai rfl trivial))) ?_|refine⟨i,y.tr,rfl,aa hy,?_⟩|refine⟨_,rfl,?_⟩|exact rfl)
          all_goals try exact⟨KO⟩
          all_goals try exact KX
          all_goals try(exfalso;(try simp_all[ah]);(try omega);done)
          all_goals try exact⟨⟨by simp <;> omega,by simp <;> omega⟩⟩
          all_goals try(exfalso;apply hc;refine⟨?_,rfl⟩;simp at h;omega)
          all_goals try(exfalso;simp_all;done)
         | false=>
          rw[hkn]at hX hc
          repeat' ((conv=>whnf);first|refine Or.inl ?_|apply oi|(apply fi<;>intro h)|refine⟨r.length,hw,(by rw[hlen3];omega),?_⟩|refine⟨(cV m),(hZ m r),?_⟩|refine ci hE (ai rfl (ai rfl trivial)) ?_|refine ci hX (ai rfl (ai rfl (ai rfl trivial))) ?_|refine⟨i,y.tr,rfl,aa hy,?_⟩|refine⟨_,rfl,?_⟩|exact rfl)
          all_goals try exact⟨KO⟩
          all_goals try exact KX
          all_goals try(exfalso;(try simp_all[ah]);(try omega);done)
          all_goals try exact⟨⟨by simp <;> omega,by simp <;> omega⟩⟩
          all_goals try(exfalso;simp_all;done)
       ·by_cases h7:y.faa=7
        ·rcases g1.pop hy h7 with⟨_,h'⟩|⟨es',hes,hst'⟩
         ·omega
         have hd:dep y (m::r).length=es'.length:=by unfold dep;rw[if_neg h35,if_pos h7,hes];simp
         have hl4:es'.length≤4:=by rw[hes]at g2;simp at g2;omega
         rw[hd]at g4
         cases hkn:bm l loc y.fac with
         | true=>
          rw[hkn]at hX g4
          rw[if_pos ⟨hl4,rfl⟩]at g4
          repeat' ((conv=>whnf);first|refine Or.inl ?_|apply oi|(apply fi<;>intro h)|refine⟨r.length,hw,(by rw[hlen3];omega),?_⟩|refine⟨(cV m),(hZ m r),?_⟩|refine ci hE (ai rfl (ai rfl trivial)) ?_|refine ci hX (ai rfl (ai rfl (ai rfl trivial))) ?_|refine⟨i,y.tr,rfl,aa hy,?_⟩|refine⟨_,rfl,?_⟩|exact rfl)
          all_goals try exact⟨KO⟩
          all_goals try exact KX
          all_goals try(exfalso;(try simp_all[ah]);(try omega);done)
          all_goals try(exfalso;simp at h;omega)
          all_goals try(exfalso;simp_all;done)
          all_goals
           conv=>whnf
           refine⟨⟨(i+1,(m::r),es'),by dsimp only;omega,by dsimp only;omega,by dsimp only;omega,fun h=>by dsimp only at h;omega,fun _=>⟨hst',hl4,.inr (by dsimp only;rw[hes];rfl),g4⟩⟩,?_,KD⟩
           repeat' ((conv=>whnf);first|refine Or.inl ?_|apply oi|(apply fi<;>intro h)|refine⟨_,rfl,?_⟩|exact rfl)
           all_goals try exact⟨KO⟩
           all_goals try exact⟨K4⟩
         | false=>
          rw[hkn]at hX g4
          rw[if_neg (by simp)]at g4
          subst g4
          repeat' ((conv=>whnf);first|refine Or.inl ?_|apply oi|(apply fi<;>intro h)|refine⟨r.length,hw,(by rw[hlen3];omega),?_⟩|refine⟨(cV m),(hZ m r),?_⟩|refine ci hE (ai rfl (ai rfl trivial)) ?_|refine ci hX (ai rfl (ai rfl (ai rfl trivial))) ?_|refine⟨i,y.tr,rfl,aa hy,?_⟩|refine⟨_,rfl,?_⟩|exact rfl)
          all_goals try exact⟨KO⟩
          all_goals try exact KX
          all_goals try(exfalso;(try simp_all[ah]);(try omega);done)
          all_goals try(exfalso;simp_all;done)
        ·have hd:dep y (m::r).length=(m::r).length:=by unfold dep;rw[if_neg h35,if_neg h7]
         have ho:bO y.faa=false:=by
          cases hh:bO y.faa with
          | false=>rfl
          | true=>rw[opensK_iff]at hh;omega
         have hst':=g1.other hy ho h7
         rw[hd]at g4
         cases hkn:bm l loc y.fac with
         | true=>
          rw[hkn]at hX g4
          rw[if_pos ⟨g2,rfl⟩]at g4
          repeat' ((conv=>whnf);first|refine Or.inl ?_|apply oi|(apply fi<;>intro h)|refine⟨r.length,hw,(by rw[hlen3];omega),?_⟩|refine⟨(cV m),(hZ m r),?_⟩|refine ci hE (ai rfl (ai rfl trivial)) ?_|refine ci hX (ai rfl (ai rfl (ai rfl trivial))) ?_|refine⟨i,y.tr,rfl,aa hy,?_⟩|refine⟨_,rfl,?_⟩|exact rfl)
          all_goals try exact⟨KO⟩
          all_goals try exact KX
          all_goals try(exfalso;(try simp_all[ah]);(try omega);done)
          all_goals try(exfalso;simp at h;omega)
          all_goals try(exfalso;simp_all;done)
          all_goals
           conv=>whnf
           refine⟨⟨(i+1,(m::r),(m::r)),by dsimp only;omega,by dsimp only;omega,by dsimp only;omega,fun h=>by dsimp only at h;omega,fun _=>⟨hst',g2,.inl rfl,g4⟩⟩,?_,KD⟩
           repeat' ((conv=>whnf);first|refine Or.inl ?_|apply oi|(apply fi<;>intro h)|refine⟨_,rfl,?_⟩|exact rfl)
           all_goals try exact⟨KO⟩
           all_goals try exact⟨K4⟩
         | false=>
          rw[hkn]at hX g4
          rw[if_neg (by simp)]at g4
          subst g4
          repeat' ((conv=>whnf);first|refine Or.inl ?_|apply oi|(apply fi<;>intro h)|refine⟨r.length,hw,(by rw[hlen3];omega),?_⟩|refine⟨(cV m),(hZ m r),?_⟩|refine ci hE (ai rfl (ai rfl trivial)) ?_|refine ci hX (ai rfl (ai rfl (ai rfl trivial))) ?_|refine⟨i,y.tr,rfl,aa hy,?_⟩|refine⟨_,rfl,?_⟩|exact rfl)
          all_goals try exact⟨KO⟩
          all_goals try exact KX
          all_goals try(exfalso;(try simp_all[ah]);(try omega);done)
          all_goals try(exfalso;simp_all;done)
     ·have hie':i=e:=by omega
      obtain⟨z,hz,hz7⟩:=bk he
      rw[←hie',hy]at hz
      injection hz with hz
      subst hz
      rw[tM (by omega)]at g4
      have hkn:bm l loc y.fac=true:=by rw[lP (hok y (List.mem_of_getElem? hy)) hz7];rfl
      rw[hkn]at hX
      repeat' ((conv=>whnf);first|refine Or.inl ?_|apply oi|(apply fi<;>intro h)|refine⟨r.length,hw,(by rw[hlen3];omega),?_⟩|refine⟨(cV m),(hZ m r),?_⟩|refine ci hE (ai rfl (ai rfl trivial)) ?_|refine ci hX (ai rfl (ai rfl (ai rfl trivial))) ?_|refine⟨i,y.tr,rfl,aa hy,?_⟩|refine⟨_,rfl,?_⟩|exact rfl)
      all_goals try exact⟨KO⟩
      all_goals try exact KX
      all_goals try(exfalso;(try simp_all[ah]);(try omega);done)
      all_goals try(exfalso;simp at h;omega)
      all_goals try(exfalso;simp_all;done)
      all_goals
       conv=>whnf
       refine⟨⟨(i+1,(m::r),(m::r)),by dsimp only;omega,by dsimp only;omega,by dsimp only;omega,fun _=>g4.symm,fun h=>by dsimp only at h;omega⟩,?_,KD⟩
       repeat' ((conv=>whnf);first|refine Or.inl ?_|apply oi|(apply fi<;>intro h)|refine⟨_,rfl,?_⟩|exact rfl)
       all_goals try exact⟨KO⟩
       all_goals try exact⟨K4⟩
  ·rw[q4 (by omega)]
   repeat' ((conv=>whnf);first|refine Or.inl ?_|apply oi|(apply fi<;>intro h)|refine⟨_,rfl,?_⟩|exact rfl)
   all_goals try exact⟨KO⟩
   all_goals try exact KX
 ·rw[decide_eq_false h8,Bool.false_and]
  repeat' ((conv=>whnf);first|refine Or.inl ?_|apply oi|(apply fi<;>intro h)|refine ci hL (ai rfl (ai rfl trivial)) ?_|refine⟨_,rfl,?_⟩|exact rfl)
  all_goals try exact⟨KO⟩
  all_goals try exact KX
abbrev nR (n:Nat):List Tr:=ab n
theorem vS {l:List CM}{k:Nat}{fs:List Nat}{next:Nat}:eF l (k::fs) next=match endAt l k with|some e=>if k=next∧bb l k=true∧gn l k e=true then eF l fs (e+1)else false|none=>false:=by rw[eF] <;> (cases endAt l k <;> rfl)
theorem nW {l:List CM}{x:CM}(hx:l[0]?=some x):ka l=(x.faa==0 && (x.fab==fa && x.fad.length==0)):=by
 cases l with
 | nil=>cases hx
 | cons y r=>rw[List.getElem?_cons_zero]at hx;injection hx with hx;subst hx;rfl
theorem uU {l:List CM}{k e i:Nat}{x:CM}(hi:i < e)(hx:l[i]?=some x):cM l k e (e - i) i=((if x.faa=4 then lz l i (i - k) k else true) && cM l k e (e - (i+1)) (i+1)):=by
 rw[show e - i=(e - (i+1))+1 by omega,cM,if_pos hi,hx]
theorem zc {l:List CM}{i:Nat}(hi:i < l.length):((List.range l.length).map fun j:Nat=>aX l (j:Int)).contains (i:Int)=lz l i i 0:=by
 rw[Bool.eq_iff_iff,kf,List.contains_iff_mem,List.mem_map]
 constructor
 ·rintro⟨j,hj,he⟩
  rw[aX,if_pos (by omega),Int.toNat_natCast]at he
  cases hx:elseAt l j with
  | none=>rw[hx]at he;simp only[bS]at he;omega
  | some m=>
   rw[hx]at he
   simp only[bS]at he
   have:m=i:=by omega
   subst this
   obtain⟨_,_,_,_,_,h1,_⟩:=aP hx
   exact⟨j,by omega,by omega,hx⟩
 ·rintro⟨j,_,hj,he⟩
  refine⟨j,by rw[List.mem_range];omega,?_⟩
  rw[aX,if_pos (by omega),Int.toNat_natCast,he]
  rfl
theorem eK (l:List CM)(hsm:aA 1048576 (.lst 4 (l.map CM.tr))):Sim.Spec Tryz.prog 77 [tvP l] (rB (aF l)):=by
 refine aj hΓ aq Tryz.func77 rfl (by decide) rfl ?_
 have hl:=bo hsm
 have hs:∀x∈l,aE 1048576 x.tr:=fun x hx=>aC hsm hx
 have hlen:(l.map CM.tr).length=l.length:=by simp
 have hF:=bX l hl
 have hfl:((ay l).map fun n:Nat=>ab n).length=(ay l).length:=by simp
 have hfle:(ay l).length≤l.length:=kX l 0
 have hB:=aJ (((ay l).map fun n:Nat=>ab n).length:Int) 1 6
 by_cases c1:l.length≤60∧(1≤(ay l).length∧(ay l).length≤6)
 ·obtain⟨c1,c2,c3⟩:=c1
  rw[within_iff.2 ⟨by rw[hfl];omega,by rw[hfl];omega⟩]at hB
  unfold aF
  rw[decide_eq_true c1,decide_eq_true (show 1≤(ay l).length∧(ay l).length≤6 from⟨c2,c3⟩),Bool.true_and,Bool.true_and]
  cases hall:l.all bZ with
  | false=>
   rw[Bool.false_and]
   repeat' ((conv=>whnf);first|refine Or.inl ?_|apply oi|(apply fi<;>intro h)|refine ci hF (ai rfl trivial) ?_|refine ci hB (ai rfl (ai rfl (ai rfl trivial))) ?_|refine⟨_,rfl,?_⟩|exact rfl)
   all_goals try exact⟨KO⟩
   all_goals try exact KX
   all_goals try(exfalso;(try simp_all[ah]);(try omega);done)
   conv=>whnf
   refine⟨{k:Nat // k≤l.length∧(l.drop k).all bZ=false},fun q=>⟨[(0,vP l),(3,.r (.c (.own (3,0,0)))),(25,vP l),(26,tI .i64 ((l.map CM.tr).length:Int)),(27,tI .i64 (q.1:Int))],[((3,0,0),some (.arr true 1 ((ay l).map fun n:Nat=>ab n)))],[3]⟩,fun q=>l.length - q.1,⟨0,by omega,hall⟩,?_,?_⟩
   ·skip
    repeat' ((conv=>whnf);first|refine Or.inl ?_|apply oi|(apply fi<;>intro h)|refine⟨_,rfl,?_⟩|exact rfl)
    all_goals try exact⟨KO⟩
   intro⟨k,hk,hr⟩
   dsimp only at hk hr ⊢
   by_cases hlt:k < l.length
   ·obtain⟨x,hx⟩:=af hlt
    rw[wS hx]at hr
    have hL:=lK x (hs x (List.mem_of_getElem? hx))
    cases ho:bZ x with
    | false=>
     rw[ho]at hL
     repeat' ((conv=>whnf);first|refine Or.inl ?_|apply oi|(apply fi<;>intro h)|refine⟨k,x.tr,rfl,aa hx,?_⟩|refine ci hL (ai (ai rfl (ai rfl (ai rfl (ai rfl trivial)))) trivial) ?_|refine⟨_,rfl,?_⟩|exact rfl)
     all_goals try exact⟨KO⟩
     all_goals try exact KX
     all_goals try(exfalso;(try simp_all[ah]);(try omega);done)
    | true=>
     rw[ho]at hL hr
     rw[Bool.true_and]at hr
     repeat' ((conv=>whnf);first|refine Or.inl ?_|apply oi|(apply fi<;>intro h)|refine⟨k,x.tr,rfl,aa hx,?_⟩|refine ci hL (ai (ai rfl (ai rfl (ai rfl (ai rfl trivial)))) trivial) ?_|refine⟨_,rfl,?_⟩|exact rfl)
     all_goals try exact⟨KO⟩
     all_goals try exact KX
     all_goals try(exfalso;(try simp_all[ah]);(try omega);done)
     conv=>whnf
     refine⟨⟨k+1,by omega,hr⟩,?_,KD⟩
     repeat' ((conv=>whnf);first|refine Or.inl ?_|apply oi|(apply fi<;>intro h)|refine⟨_,rfl,?_⟩|exact rfl)
     all_goals try exact⟨KO⟩
     all_goals try exact⟨K4⟩
   ·rw[List.drop_eq_nil_of_le (by omega)]at hr
    cases hr
  | true=>
   have hok:∀x∈l,bZ x=true:=List.all_eq_true.1 hall
   rw[Bool.true_and]
   repeat' ((conv=>whnf);first|refine Or.inl ?_|apply oi|(apply fi<;>intro h)|refine ci hF (ai rfl trivial) ?_|refine ci hB (ai rfl (ai rfl (ai rfl trivial))) ?_|refine⟨_,rfl,?_⟩|exact rfl)
   all_goals try exact⟨KO⟩
   all_goals try exact KX
   all_goals try(exfalso;(try simp_all[ah]);(try omega);done)
   conv=>whnf
   refine⟨{k:Nat // k≤l.length},fun q=>⟨[(0,vP l),(3,.r (.c (.own (3,0,0)))),(25,vP l),(26,tI .i64 ((l.map CM.tr).length:Int)),(27,tI .i64 (q.1:Int))],[((3,0,0),some (.arr true 1 ((ay l).map fun n:Nat=>ab n)))],[3]⟩,fun q=>l.length - q.1,⟨0,by omega⟩,?_,?_⟩
   ·skip
    repeat' ((conv=>whnf);first|refine Or.inl ?_|apply oi|(apply fi<;>intro h)|refine⟨_,rfl,?_⟩|exact rfl)
    all_goals try exact⟨KO⟩
   intro⟨k,hk⟩
   dsimp only at hk ⊢
   by_cases hlt:k < l.length
   ·obtain⟨x,hx⟩:=af hlt
    have hL:=lK x (hs x (List.mem_of_getElem? hx))
    rw[hok x (List.mem_of_getElem? hx)]at hL
    repeat' ((conv=>whnf);first|refine Or.inl ?_|apply oi|(apply fi<;>intro h)|refine⟨k,x.tr,rfl,aa hx,?_⟩|refine ci hL (ai (ai rfl (ai rfl (ai rfl (ai rfl trivial)))) trivial) ?_|refine⟨_,rfl,?_⟩|exact rfl)
    all_goals try exact⟨KO⟩
    all_goals try exact KX
    all_goals try(exfalso;(try simp_all[ah]);(try omega);done)
    conv=>whnf
    refine⟨⟨k+1,by omega⟩,?_,KD⟩
    repeat' ((conv=>whnf);first|refine Or.inl ?_|apply oi|(apply fi<;>intro h)|refine⟨_,rfl,?_⟩|exact rfl)
    all_goals try exact⟨KO⟩
    all_goals try exact⟨K4⟩
   ·clear hB hF
    have hpos:0 < l.length:=by omega
    obtain⟨x0,hx0⟩:=af hpos
    have hal:(x0.fad.map ag).length=x0.fad.length:=by simp
    cases hho:ka l with
    | false=>
     rw[Bool.false_and]
     rw[nW hx0]at hho
     repeat' ((conv=>whnf);first|refine Or.inl ?_|apply oi|(apply fi<;>intro h)|refine⟨0,x0.tr,rfl,aa hx0,?_⟩|refine⟨_,rfl,?_⟩|exact rfl)
     all_goals try exact⟨KO⟩
     all_goals try exact KX
     all_goals try(exfalso;(try simp_all[ah]);(try omega);done)
     all_goals try(exfalso;simp_all[fa];done)
    | true=>
     rw[Bool.true_and]
     obtain⟨R,hR⟩:∃R,eF l (ay l) 0=R:=⟨_,rfl⟩
     rw[←wM,hR]
     rw[nW hx0]at hho
     repeat' ((conv=>whnf);first|refine Or.inl ?_|apply oi|(apply fi<;>intro h)|refine⟨0,x0.tr,rfl,aa hx0,?_⟩|refine⟨_,rfl,?_⟩|exact rfl)
     all_goals try exact⟨KO⟩
     all_goals try exact KX
     all_goals try(exfalso;(try simp_all[ah]);(try omega);done)
     all_goals try(exfalso;simp_all[fa];done)
     conv=>whnf
     refine⟨{q:Nat×Nat // q.1≤(ay l).length∧q.2≤l.length∧eF l ((ay l).drop q.1) q.2=R},fun q=>⟨[(0,vP l),(6,tI .i64 (q.1.2:Int)),(55,.r (.c (.own (3,0,0)))),(56,tI .i64 (((ay l).map fun n:Nat=>ab n).length:Int)),(57,tI .i64 (q.1.1:Int))],[((3,0,0),some (.arr true 1 ((ay l).map fun n:Nat=>ab n)))],[3]⟩,fun q=>(ay l).length - q.1.1,⟨(0,0),by dsimp only;omega,by dsimp only;omega,hR⟩,?_,?_⟩
     ·skip
      repeat' ((conv=>whnf);first|refine Or.inl ?_|apply oi|(apply fi<;>intro h)|refine⟨_,rfl,?_⟩|exact rfl)
      all_goals try exact⟨KO⟩
     intro⟨⟨j,next⟩,hj,hnx,hr⟩
     dsimp only at hj hnx hr ⊢
     by_cases hjl:j < (ay l).length
     ·obtain⟨f,hf⟩:=af hjl
      obtain⟨hfl2,x,hx,hx0'⟩:=kS (List.mem_of_getElem? hf)
      rw[dP hf,vS]at hr
      have hE:=co l (f:Int) hl
      have hN:=dC l x.fab hl
      have hjm:j < ((ay l).map fun n:Nat=>ab n).length:=by rw[hfl];exact hjl
      cases he:endAt l f with
      | none=>
       rw[aV,fQ he]at hE
       rw[he]at hr
       subst hr
       generalize dF l x.fab=ff at *
       repeat' ((conv=>whnf);first|refine fM ?_|apply bg|apply oi|(apply fi<;>intro h)|refine⟨j,rfl,hjm,?_⟩|refine⟨(nR f),(aa hf),?_⟩|refine⟨f,x.tr,rfl,aa hx,?_⟩|refine cl hE ?_|refine cl hN ?_|refine⟨_,rfl,?_⟩|exact rfl)
       all_goals try exact⟨KO⟩
       all_goals try exact KX
       all_goals try(exfalso;(try simp_all[ah]);(try omega);done)
      | some e=>
       obtain⟨_,_,_,_,hke,hel⟩:=au he
       rw[aV,aU he]at hE
       rw[he]at hr
       dsimp only at hr
       have hK:=mX l f e c1 hs hok he
       have hnf:bb l f=(findN l 0 x.fab==some f):=by unfold bb;rw[hx]
       have hnf2:(dF l x.fab==(f:Int))=bb l f:=by
        rw[hnf,dF]
        cases findN l 0 x.fab with
        | none=>simp[bS]
        | some m=>rw[Bool.eq_iff_iff];simp[bS];omega
       generalize dF l x.fab=ff at *
       by_cases hc:f=next∧bb l f=true∧gn l f e=true
       ·rw[if_pos hc]at hr
        obtain⟨d1,d2,d3⟩:=hc
        rw[d2]at hnf2
        have hff:=eq_of_beq hnf2
        subst hff
        rw[d3]at hK
        repeat' ((conv=>whnf);first|refine fM ?_|apply bg|apply oi|(apply fi<;>intro h)|refine⟨j,rfl,hjm,?_⟩|refine⟨(nR f),(aa hf),?_⟩|refine⟨f,x.tr,rfl,aa hx,?_⟩|refine cl hE ?_|refine cl hN ?_|refine cl hK ?_|refine⟨_,rfl,?_⟩|exact rfl)
        all_goals try exact⟨KO⟩
        all_goals try exact KX
        all_goals try(exfalso;(try simp_all[ah]);(try omega);done)
        all_goals try(exfalso;simp_all;done)
        conv=>whnf
        refine⟨⟨(j+1,e+1),by dsimp only;omega,by dsimp only;omega,hr⟩,?_,KD⟩
        repeat' ((conv=>whnf);first|refine fM ?_|apply bg|apply oi|(apply fi<;>intro h)|refine⟨_,rfl,?_⟩|exact rfl)
        all_goals try exact⟨KO⟩
        all_goals try exact⟨K4⟩
       ·rw[if_neg hc]at hr
        subst hr
        have hbad:∀b1 b2:Bool,gn l f e=b2→(ff==(f:Int))=b1→f=next→b1=true→b2=true→False:=by
         intro b1 b2 h1 h2 h3 h4 h5
         subst h4;subst h5
         exact hc ⟨h3,by rw[←hnf2];exact h2,h1⟩
        cases hfk:gn l f e with
        | true=>
         rw[hfk]at hK
         repeat' ((conv=>whnf);first|refine fM ?_|apply bg|apply oi|(apply fi<;>intro h)|refine⟨j,rfl,hjm,?_⟩|refine⟨(nR f),(aa hf),?_⟩|refine⟨f,x.tr,rfl,aa hx,?_⟩|refine cl hE ?_|refine cl hN ?_|refine cl hK ?_|refine⟨_,rfl,?_⟩|exact rfl)
         all_goals try exact⟨KO⟩
         all_goals try exact KX
         all_goals try(exfalso;(try simp_all[ah]);(try omega);done)
         all_goals(exfalso;refine hbad true true hfk ?_ ?_ rfl rfl <;> simp_all <;> omega)
        | false=>
         rw[hfk]at hK
         repeat' ((conv=>whnf);first|refine fM ?_|apply bg|apply oi|(apply fi<;>intro h)|refine⟨j,rfl,hjm,?_⟩|refine⟨(nR f),(aa hf),?_⟩|refine⟨f,x.tr,rfl,aa hx,?_⟩|refine cl hE ?_|refine cl hN ?_|refine cl hK ?_|refine⟨_,rfl,?_⟩|exact rfl)
         all_goals try exact⟨KO⟩
         all_goals try exact KX
         all_goals try(exfalso;(try simp_all[ah]);(try omega);done)
     ·rw[List.drop_eq_nil_of_le (by omega),eF]at hr
      repeat' ((conv=>whnf);first|refine Or.inl ?_|apply oi|(apply fi<;>intro h)|refine⟨_,rfl,?_⟩|exact rfl)
      all_goals try exact⟨KO⟩
      all_goals try exact KX
      conv=>whnf
      refine⟨{k:Nat // k≤l.length},fun q=>⟨[(0,vP l),(6,tI .i64 (next:Int)),(10,.r (.c (.own (10,0,0)))),(94,tI .i64 ((l.map CM.tr).length:Int)),(95,tI .i64 (q.1:Int))],[((10,0,0),some (.arr true 1 (((List.range q.1).map fun j:Nat=>aX l (j:Int)).map ab)))],[10]⟩,fun q=>l.length - q.1,⟨0,by omega⟩,?_,?_⟩
      ·skip
       repeat' ((conv=>whnf);first|refine Or.inl ?_|apply oi|(apply fi<;>intro h)|refine⟨_,rfl,?_⟩|exact rfl)
       all_goals try exact⟨KO⟩
      intro⟨k,hk⟩
      dsimp only at hk ⊢
      have hral:(((List.range k).map fun j:Nat=>aX l (j:Int)).map ab).length=k:=by simp
      by_cases hlt:k < l.length
      ·have hS:=lE l (k:Int) hl
       repeat' ((conv=>whnf);first|refine fM ?_|apply bg|apply oi|(apply fi<;>intro h)|refine cl hS ?_|refine⟨_,rfl,?_⟩|exact rfl)
       all_goals try exact⟨KO⟩
       all_goals try exact KX
       all_goals try exact⟨⟨by simp <;> omega,by simp <;> omega⟩⟩
       conv=>whnf
       refine⟨⟨k+1,by omega⟩,?_,KD⟩
       repeat' ((conv=>whnf);first|refine fM ?_|apply bg|apply oi|(apply fi<;>intro h)|refine⟨_,rfl,?_⟩|exact rfl)
       all_goals try exact⟨KO⟩
       all_goals try exact⟨K4⟩
       all_goals exact⟨by simp[List.range_succ,ab]⟩
      ·have hkl:k=l.length:=by omega
       subst hkl
       obtain⟨Q,hQ⟩:∃Q,gr l=Q:=⟨_,rfl⟩
       rw[hQ]at hr
       rw[gr]at hQ
       repeat' ((conv=>whnf);first|refine Or.inl ?_|apply oi|(apply fi<;>intro h)|refine⟨_,rfl,?_⟩|exact rfl)
       all_goals try exact⟨KO⟩
       all_goals try exact KX
       conv=>whnf
       refine⟨{k:Nat // k≤l.length∧cM l 0 l.length (l.length - k) k=Q},fun q=>⟨[(0,vP l),(6,tI .i64 (next:Int)),(10,.r (.c (.own (10,0,0)))),(105,vP l),(106,tI .i64 ((l.map CM.tr).length:Int)),(107,tI .i64 (q.1:Int))],[((10,0,0),some (.arr true 1 (((List.range l.length).map fun j:Nat=>aX l (j:Int)).map ab)))],[10]⟩,fun q=>l.length - q.1,⟨0,by omega,by rw[Nat.sub_zero];exact hQ⟩,?_,?_⟩
       ·skip
        repeat' ((conv=>whnf);first|refine Or.inl ?_|apply oi|(apply fi<;>intro h)|refine⟨_,rfl,?_⟩|exact rfl)
        all_goals try exact⟨KO⟩
       intro⟨k,hk,hq⟩
       dsimp only at hk hq ⊢
       by_cases hlt:k < l.length
       ·obtain⟨x,hx⟩:=af hlt
        rw[uU hlt hx]at hq
        have hC:=gj ((List.range l.length).map fun j:Nat=>aX l (j:Int)) (k:Int) (by simp;omega)
        rw[zc hlt]at hC
        by_cases h4:x.faa=4
        ·rw[if_pos h4,Nat.sub_zero]at hq
         cases ha:lz l k k 0 with
         | false=>
          rw[ha]at hC hq
          rw[Bool.false_and]at hq
          subst hq
          rw[Bool.false_and]at hr
          subst hr
          repeat' ((conv=>whnf);first|refine Or.inl ?_|apply oi|(apply fi<;>intro h)|refine⟨k,x.tr,rfl,aa hx,?_⟩|refine ci hC (ai rfl (ai rfl trivial)) ?_|refine⟨_,rfl,?_⟩|exact rfl)
          all_goals try exact⟨KO⟩
          all_goals try exact KX
          all_goals try(exfalso;(try simp_all[ah]);(try omega);done)
         | true=>
          rw[ha]at hC hq
          rw[Bool.true_and]at hq
          repeat' ((conv=>whnf);first|refine Or.inl ?_|apply oi|(apply fi<;>intro h)|refine⟨k,x.tr,rfl,aa hx,?_⟩|refine ci hC (ai rfl (ai rfl trivial)) ?_|refine⟨_,rfl,?_⟩|exact rfl)
          all_goals try exact⟨KO⟩
          all_goals try exact KX
          all_goals try(exfalso;(try simp_all[ah]);(try omega);done)
          conv=>whnf
          refine⟨⟨k+1,by omega,hq⟩,?_,KD⟩
          repeat' ((conv=>whnf);first|refine Or.inl ?_|apply oi|(apply fi<;>intro h)|refine⟨_,rfl,?_⟩|exact rfl)
          all_goals try exact⟨KO⟩
          all_goals try exact⟨K4⟩
        ·rw[if_neg h4,Bool.true_and]at hq
         repeat' ((conv=>whnf);first|refine Or.inl ?_|apply oi|(apply fi<;>intro h)|refine⟨k,x.tr,rfl,aa hx,?_⟩|refine ci hC (ai rfl (ai rfl trivial)) ?_|refine⟨_,rfl,?_⟩|exact rfl)
         all_goals try exact⟨KO⟩
         all_goals try exact KX
         all_goals try(exfalso;(try simp_all[ah]);(try omega);done)
         conv=>whnf
         refine⟨⟨k+1,by omega,hq⟩,?_,KD⟩
         repeat' ((conv=>whnf);first|refine Or.inl ?_|apply oi|(apply fi<;>intro h)|refine⟨_,rfl,?_⟩|exact rfl)
         all_goals try exact⟨KO⟩
         all_goals try exact⟨K4⟩
       ·rw[show l.length - k=0 by omega]at hq
        have hq:true=Q:=hq
        subst hq
        rw[Bool.true_and]at hr
        subst hr
        repeat' ((conv=>whnf);first|refine Or.inl ?_|apply oi|(apply fi<;>intro h)|refine⟨_,rfl,?_⟩|exact rfl)
        all_goals try exact⟨KO⟩
        all_goals try exact KX
        all_goals(refine⟨congrArg Tr.bool ?_⟩;rw[hlen,Bool.eq_iff_iff];simp;omega)
 ·have:aF l=false:=by
   unfold aF
   by_cases h60:l.length≤60
   ·rw[decide_eq_false (show ¬(1≤(ay l).length∧(ay l).length≤6) from fun h=>c1 ⟨h60,h⟩)];simp
   ·rw[decide_eq_false h60,Bool.false_and]
  rw[this]
  by_cases h60:l.length≤60
  ·have hw:ah (((ay l).map fun n:Nat=>ab n).length:Int) 1 6=false:=by
    cases hx:ah (((ay l).map fun n:Nat=>ab n).length:Int) 1 6 with
    | false=>rfl
    | true=>have:=within_iff.1 hx;rw[hfl]at this;exact absurd ⟨h60,by omega,by omega⟩ c1
   rw[hw]at hB
   repeat' ((conv=>whnf);first|refine Or.inl ?_|apply oi|(apply fi<;>intro h)|refine ci hF (ai rfl trivial) ?_|refine ci hB (ai rfl (ai rfl (ai rfl trivial))) ?_|refine⟨_,rfl,?_⟩|exact rfl)
   all_goals try exact⟨KO⟩
   all_goals try exact KX
   all_goals try(exfalso;(try simp_all[ah]);(try omega);done)
  ·skip
   repeat' ((conv=>whnf);first|refine Or.inl ?_|apply oi|(apply fi<;>intro h)|refine ci hF (ai rfl trivial) ?_|refine ci hB (ai rfl (ai rfl (ai rfl trivial))) ?_|refine⟨_,rfl,?_⟩|exact rfl)
   all_goals try exact⟨KO⟩
   all_goals try exact KX
   all_goals try(exfalso;(try simp_all[ah]);(try omega);done)
end Go.Proofs.YtoglejgmjeojoaaGreat
