import Derived.Test.YtogdbgmiigfmfaaGf
namespace Go.Proofs.Ytogdbgmiigfmfaa
noncomputable section
open Go.Sim
set_option maxRecDepth 100000
set_option maxHeartbeats 4000000
structure Cx where
 p:List TLine
 b:TBuild
 framed:Bool
 words:Int
 args:Int
structure Sc where
 f:Nat
 chain:List Int
 locals:List (List UInt8)
 first:Int
 outer:Bool
structure Gs where
 items:List TItem
 most:Int
 start:Bool
def mkItem (C:Cx)(s:Gs)(depth code arg line:Int)(chain:List Int):TItem:=⟨⟨code,arg⟩,line,s.start,chain,if C.framed=true∧0 < s.items.length then 0 else depth,C.framed && decide (0 < s.items.length)⟩
def emitG (C:Cx)(s:Gs)(depth code arg line:Int)(chain:List Int):Gs:=⟨s.items++[mkItem C s depth code arg line chain],s.most,false⟩
def isArg (C:Cx)(x:Sc)(i:Int):Bool:=x.outer && decide (i < C.args)
def aboveK (C:Cx)(x:Sc)(i:Int):Int:=if x.outer=true then i - C.args else x.first+i
def placeC (C:Cx)(store:Bool):Int:=(if C.framed=true then 1 else 3)+(if store=true then 1 else 0)
def placeA (C:Cx)(x:Sc)(depth i:Int):Int:=
 if C.framed=true then(if isArg C x i=true then 1+(C.args - i)else -1 - aboveK C x i)
 else(if isArg C x i=true then depth+(C.args - i)else depth - 1 - aboveK C x i)
def loadG (C:Cx)(x:Sc)(s:Gs)(depth i line:Int):Gs:=emitG C s depth (placeC C false) (placeA C x depth i) line x.chain
def storeG (C:Cx)(x:Sc)(s:Gs)(depth i line:Int)(chain:List Int):Gs:=emitG C s depth (placeC C true) (placeA C x depth i) line chain
def storesG (C:Cx)(y:Sc)(chain:List Int)(line:Int):Nat→Int→Gs→Gs
 | 0,_,s=>s
 | n+1,d,s=>storesG C y chain line n (d - 1) (storeG C y s d n line chain)
def zerosG (C:Cx)(y:Sc)(chain:List Int)(line d:Int):Nat→Nat→Gs→Gs
 | 0,_,s=>s
 | n+1,i,s=>zerosG C y chain line d n (i+1) (storeG C y (emitG C s d 0 0 line chain) (d+1) i line chain)
def setArg (l:List TItem)(j:Int)(v:Int):List TItem:=if 0≤j then(match l[j.toNat]? with
 | some x=>l.set j.toNat ⟨⟨x.fOp.fCode,v⟩,x.fLine,x.fStart,x.fChain,x.fDepth,x.fEntered⟩
 | none=>l)else l
def patchL (l:List TItem)(v:Int):List Int→List TItem
 | []=>l
 | j::js=>patchL (setArg l j v) v js
def numOf (p:List TLine)(g:Nat):Nat:=((p.take g).filter fun x=>x.fKind==0).length
def replB (C:Cx)(inside:List Nat)(g:Nat)(n:Nat):Bool:=decide ((inside.length:Int)≤C.b.fInline) && (decide (endOf C.p (g:Int) - g≤9) && (decide (n < 200) && !inside.contains g))
def finG (C:Cx)(rep:Sc→List Nat→Nat→Nat→Int→Gs→Gs)(x:Sc)(inside:List Nat)(line:Nat)(t:TTok)(d:Int)(s:Gs):Gs:=
 if t.fKind=0 then emitG C s d 0 t.fNum line x.chain
 else if t.fKind=1 then loadG C x s d (idxOf x.locals t.fName) line
 else if t.fKind=7 then(match findN C.p 0 t.fName with
  | some g=>if replB C inside g s.items.length=true then rep x inside line g d s else emitG C s d 12 (numOf C.p g) line x.chain
  | none=>s)
 else emitG C s d (5+t.fKind - 2) 0 line x.chain
mutual
def genE (C:Cx)(rep:Sc→List Nat→Nat→Nat→Int→Gs→Gs)(x:Sc)(inside:List Nat)(line:Nat):Ex→Int→Gs→Gs
 | .node t es,d,s=>finG C rep x inside line t (d+es.length) (genEs C rep x inside line es d s)
def genEs (C:Cx)(rep:Sc→List Nat→Nat→Nat→Int→Gs→Gs)(x:Sc)(inside:List Nat)(line:Nat):List Ex→Int→Gs→Gs
 | [],_,s=>s
 | a::es,d,s=>genEs C rep x inside line es (d+1) (genE C rep x inside line a d s)
end
def topOf (C:Cx)(x:Sc):Int:=if x.outer=true then(x.locals.length:Int) - C.args else x.first+x.locals.length
def argsN (p:List TLine)(g:Nat):Nat:=match p[g]? with|some l=>l.fArgs.length|none=>0
def inSc (C:Cx)(x:Sc)(line g:Nat):Sc:=⟨g,x.chain++[(line:Int)],localsOf C.p (g:Int),topOf C x,false⟩
def preG (C:Cx)(x:Sc)(line g:Nat)(d:Int)(s:Gs):Gs:=
 zerosG C (inSc C x line g) x.chain line (d - argsN C.p g) ((localsOf C.p (g:Int)).length - argsN C.p g) (argsN C.p g)
  (storesG C (inSc C x line g) x.chain line (argsN C.p g) d ⟨s.items,max s.most (topOf C x+(localsOf C.p (g:Int)).length),s.start⟩)
def spaceG (C:Cx)(x:Sc)(line:Nat)(d:Int)(s:Gs):Gs:=if s.start=true then emitG C s d 15 0 line x.chain else s
def replG (C:Cx)(lines:Sc→List Nat→Int→Gs→Gs×List Int)(x:Sc)(inside:List Nat)(line g:Nat)(d:Int)(s:Gs):Gs:=
 let r:=lines (inSc C x line g) (inside++[g]) (d - argsN C.p g) (spaceG C x line (d - argsN C.p g) (preG C x line g d s))
 ⟨patchL r.1.items r.1.items.length r.2,r.1.most,r.1.start⟩
def ownN (p:List TLine)(k:Nat):Nat→Option Nat
 | 0=>none
 | n+1=>if endAt p n=some k∨elseAt p n=some k then some n else ownN p k n
def ownOf (p:List TLine)(k:Nat):Nat:=(ownN p k p.length).getD 0
def kindAt (p:List TLine)(k:Nat):Int:=match p[k]? with|some x=>x.fKind|none=> -1
structure Ls where
 g:Gs
 heads:List Int
 pos:List Int
 lv:List Int
def exL (l:List TTok):Ex:=if h:exprOk l=true then Classical.choose (exprOk_parse h)else .node ⟨0,0,[]⟩ []
theorem exL_ok {l:List TTok}(h:exprOk l=true):(exL l).ok∧l=(exL l).toks:=by
 rw[exL,dif_pos h]
 exact Classical.choose_spec (exprOk_parse h)
def atL (l:List Int)(k:Nat):Int:=l[k]?.getD 0
def leaveG (C:Cx)(x:Sc)(k:Nat)(last:Bool)(d:Int)(L:Ls):Ls:=
 if x.outer=true then(if C.framed=true then{L with g:=emitG C L.g d 14 C.args k x.chain} else{L with g:=emitG C L.g d 16 (C.args+16 * C.words) k x.chain})
 else if last=true then L
 else{L with g:=emitG C L.g d 10 0 k x.chain,lv:=L.lv++[(L.g.items.length:Int)]}
def stepA (C:Cx)(rep:Sc→List Nat→Nat→Nat→Int→Gs→Gs)(x:Sc)(inside:List Nat)(base:Int)(k:Nat)(ln:TLine)(L:Ls):Ls:=
 if ln.fKind=4 then
  let g:=emitG C L.g base 10 0 k x.chain
  {L with g:=⟨setArg g.items (atL L.pos (ownOf C.p k)) g.items.length,g.most,g.start⟩,pos:=L.pos.set k L.g.items.length}
 else if ln.fKind=7 then
  if ownOf C.p k=x.f then leaveG C x k true (base+1) {L with g:=emitG C L.g base 0 0 k x.chain}
  else if kindAt C.p (ownOf C.p k)=5 then{L with g:=emitG C L.g base 10 (atL L.heads (ownOf C.p k)) k x.chain}
  else L
 else
  let L1:Ls:={L with g:=genE C rep x inside k (exL ln.fExpr) base ⟨L.g.items,L.g.most,true⟩,heads:=L.heads.set k L.g.items.length}
  if ln.fKind=1 then{L1 with g:=storeG C x L1.g (base+1) (idxOf x.locals ln.fName) k x.chain}
  else if ln.fKind=2 then{L1 with g:=emitG C L1.g (base+1) 17 0 k x.chain}
  else if ln.fKind=6 then leaveG C x k false (base+1) L1
  else{L1 with g:=emitG C L1.g (base+1) 11 0 k x.chain,pos:=L1.pos.set k L1.g.items.length}
def exitAt (p:List TLine)(k:Nat):Nat:=match elseAt p (ownOf p k)with|some j=>j|none=>ownOf p k
def stepB (C:Cx)(x:Sc)(k:Nat)(ln:TLine)(L:Ls):Ls:=
 if ln.fKind=7∧ownOf C.p k≠x.f then{L with g:=⟨setArg L.g.items (atL L.pos (exitAt C.p k)) L.g.items.length,L.g.most,L.g.start⟩} else L
def runL (C:Cx)(rep:Sc→List Nat→Nat→Nat→Int→Gs→Gs)(x:Sc)(inside:List Nat)(base:Int):Nat→Nat→Ls→Ls
 | 0,_,L=>L
 | n+1,k,L=>match C.p[k]? with
  | some ln=>runL C rep x inside base n (k+1) (stepB C x k ln (stepA C rep x inside base k ln L))
  | none=>L
def startL (C:Cx)(s:Gs):Ls:=⟨s,List.replicate C.p.length 0,List.replicate C.p.length 0,[]⟩
def endL' (p:List TLine)(f:Nat):Nat:=(endAt p f).getD 0
def linesG (C:Cx)(rep:Sc→List Nat→Nat→Nat→Int→Gs→Gs)(x:Sc)(inside:List Nat)(base:Int)(s:Gs):Gs×List Int:=
 let L:=runL C rep x inside base (endL' C.p x.f - x.f) (x.f+1) (startL C s)
 (L.g,L.lv)
def repN (C:Cx):Nat→Sc→List Nat→Nat→Nat→Int→Gs→Gs
 | 0=>fun _ _ _ _ _ s=>s
 | n+1=>replG C (linesG C (repN C n))
def headG (C:Cx)(f:Nat):Gs:=emitG C ⟨[],(localsOf C.p (f:Int)).length - C.args,false⟩ 0 (if C.framed=true then 13 else 15) C.words f []
def outerSc (C:Cx)(f:Nat):Sc:=⟨f,[],localsOf C.p (f:Int),0,true⟩
def compG (C:Cx)(f:Nat):Gs:=(linesG C (repN C C.b.fInline.toNat) (outerSc C f) [f] C.words (headG C f)).1
end
end Go.Proofs.Ytogdbgmiigfmfaa
namespace Go.Proofs.Ytogdbgmiigfmfaa
open Go.Sim
set_option maxRecDepth 100000
set_option maxHeartbeats 4000000
theorem lt_of_get {α:Type}{l:List α}{k:Nat}{x:α}(h:l[k]?=some x):k < l.length:=by
 rcases Nat.lt_or_ge k l.length with h'|h'
 ·exact h'
 ·rw[List.getElem?_eq_none h']at h;cases h
theorem endAt_inj {l:List TLine}{i j e:Nat}(hi:endAt l i=some e)(hj:endAt l j=some e):i=j:=by
 have key:∀{i j:Nat},endAt l i=some e→endAt l j=some e→i < j→False:=by
  intro i j hi hj hlt
  obtain⟨x,hx,ho,_,h1,_⟩:=endAt_some hj
  obtain⟨m,hm,_,h2⟩:=endAt_in hi hlt h1 hx ho
  rw[hj]at hm
  injection hm with hm
  omega
 rcases Nat.lt_trichotomy i j with h|h|h
 ·exact(key hi hj h).elim
 ·exact h
 ·exact(key hj hi h).elim
theorem elseN_out {l:List TLine}{e:Nat}:∀{n i j:Nat},elseN l e n i=some j→∀k x m,i≤k→k < j→l[k]?=some x→(x.fKind=3∨x.fKind=5)→endAt l k=some m→m < j
 | 0,_,_,h=>by rw[elseN]at h;cases h
 | n+1,i,j,h=>by
  intro k x m h1 h2 hx h3 hm
  rw[elseN]at h
  split at h
  ·split at h
   ·rename_i y hy
    split at h
    ·injection h with h;omega
    ·split at h
     ·split at h
      ·rename_i m' hm'
       have hin:=elseN_in h
       obtain⟨_,_,_,_,g1,_⟩:=endAt_some hm'
       by_cases hk:k=i
       ·subst hk
        rw[hm']at hm
        injection hm with hm
        omega
       ·by_cases hk2:k≤m'
        ·by_cases hk3:k=m'
         ·subst hk3
          obtain⟨z,hz,h7⟩:=endAt_kind hm'
          rw[hx]at hz
          injection hz with hz
          subst hz
          omega
         ·obtain⟨m2,hm2,_,g2⟩:=endAt_in hm' (by omega) (by omega) hx (by rw[opensK_iff];omega)
          rw[hm]at hm2
          injection hm2 with hm2
          omega
        ·exact elseN_out h k x m (by omega) h2 hx h3 hm
      ·rename_i hno
       by_cases hk:k=i
       ·subst hk
        rw[hno]at hm
        cases hm
       ·exact elseN_out h k x m (by omega) h2 hx h3 hm
     ·by_cases hk:k=i
      ·subst hk
       rw[hx]at hy
       injection hy with hy
       subst hy
       rename_i hne
       exact absurd h3 hne
      ·exact elseN_out h k x m (by omega) h2 hx h3 hm
   ·cases h
  ·cases h
theorem elseAt_inj {l:List TLine}{i j k:Nat}(hi:elseAt l i=some k)(hj:elseAt l j=some k):i=j:=by
 have key:∀{i j:Nat},elseAt l i=some k→elseAt l j=some k→i < j→False:=by
  intro i j hi hj hlt
  obtain⟨y,ej,hy,h3,hej,h4,h5,_⟩:=elseAt_some hj
  unfold elseAt at hi
  split at hi
  ·split at hi
   ·have:=elseN_out hi j y ej (by omega) h4 hy (.inl h3) hej
    omega
   ·cases hi
  ·cases hi
 rcases Nat.lt_trichotomy i j with h|h|h
 ·exact(key hi hj h).elim
 ·exact h
 ·exact(key hj hi h).elim
theorem ownN_some {p:List TLine}{k i:Nat}:∀{n:Nat},ownN p k n=some i→i < n∧(endAt p i=some k∨elseAt p i=some k)
 | 0,h=>by rw[ownN]at h;cases h
 | n+1,h=>by
  rw[ownN]at h
  split at h
  ·injection h with h;subst h;exact⟨by omega,by assumption⟩
  ·have:=ownN_some h;exact⟨by omega,this.2⟩
theorem ownN_has {p:List TLine}{k i:Nat}(hi:endAt p i=some k∨elseAt p i=some k):∀{n:Nat},i < n→∃j,ownN p k n=some j
 | 0,h=>by omega
 | n+1,h=>by
  rw[ownN]
  split
  ·exact⟨_,rfl⟩
  ·by_cases he:i=n
   ·subst he;exact absurd hi (by assumption)
   ·exact ownN_has hi (by omega)
theorem own_end {p:List TLine}{k i:Nat}(h:endAt p i=some k):ownOf p k=i:=by
 obtain⟨x,hx,_,_,_,_⟩:=endAt_some h
 obtain⟨j,hj⟩:=ownN_has (.inl h) (lt_of_get hx)
 rw[ownOf,hj]
 obtain⟨_,h1|h1⟩:=ownN_some hj
 ·exact endAt_inj h1 h
 ·obtain⟨_,_,_,_,_,_,_,y,hy,h4⟩:=elseAt_some h1
  obtain⟨z,hz,h7⟩:=endAt_kind h
  rw[hy]at hz
  injection hz with hz
  subst hz
  omega
theorem own_else {p:List TLine}{k i:Nat}(h:elseAt p i=some k):ownOf p k=i:=by
 obtain⟨x,e,hx,_,_,_,_,y,hy,h4⟩:=elseAt_some h
 obtain⟨j,hj⟩:=ownN_has (.inr h) (lt_of_get hx)
 rw[ownOf,hj]
 obtain⟨_,h1|h1⟩:=ownN_some hj
 ·obtain⟨z,hz,h7⟩:=endAt_kind h1
  rw[hy]at hz
  injection hz with hz
  subst hz
  omega
 ·exact elseAt_inj h1 h
theorem end_closes {l:List TLine}{i:Nat}{x:TLine}(hx:l[i]?=some x)(h7:x.fKind=7):∀(n s o e:Nat),i - s≤n→s≤i→1≤o→endN (l.drop s) s o=some e→i≤e→(∃k,s≤k∧k < i∧endAt l k=some i)∨∃j,1≤j∧j≤o∧endN (l.drop s) s j=some i
 | n,s,o,e,hn,hs,ho,h,hi=>by
  have hno:¬opensK x.fKind=true:=by rw[opensK_iff];omega
  by_cases he:s=i
  ·subst he
   exact .inr ⟨1,Nat.le_refl _,ho,by rw[endN_at hx,if_neg hno,if_pos h7,if_pos rfl]⟩
  obtain⟨m,rfl⟩:∃m,n=m+1:=⟨n - 1,by omega⟩
  have hl:=endN_lt h
  obtain⟨y,hy⟩:=get_of_lt (l:=l) (k:=s) (by omega)
  rw[endN_at hy]at h
  by_cases hop:opensK y.fKind=true
  ·rw[if_pos hop]at h
   rcases end_closes hx h7 m (s+1) (o+1) e (by omega) (by omega) (by omega) h hi with⟨k,h1,h2,h3⟩|⟨j,h1,h2,h3⟩
   ·exact .inl ⟨k,by omega,h2,h3⟩
   ·by_cases hj:j=1
    ·subst hj
     exact .inl ⟨s,Nat.le_refl _,by omega,by rw[endAt_of hy hop];exact h3⟩
    ·exact .inr ⟨j - 1,by omega,by omega,by rw[endN_at hy,if_pos hop,show j - 1+1=j by omega];exact h3⟩
  ·rw[if_neg hop]at h
   by_cases h7y:y.fKind=7
   ·rw[if_pos h7y]at h
    by_cases h1o:o=1
    ·rw[if_pos h1o]at h
     injection h with h
     omega
    ·rw[if_neg h1o]at h
     rcases end_closes hx h7 m (s+1) (o - 1) e (by omega) (by omega) (by omega) h hi with⟨k,h1,h2,h3⟩|⟨j,h1,h2,h3⟩
     ·exact .inl ⟨k,by omega,h2,h3⟩
     ·exact .inr ⟨j+1,by omega,by omega,by rw[endN_at hy,if_neg hop,if_pos h7y,if_neg (by omega),show j+1 - 1=j by omega];exact h3⟩
   ·rw[if_neg h7y]at h
    rcases end_closes hx h7 m (s+1) o e (by omega) (by omega) ho h hi with⟨k,h1,h2,h3⟩|⟨j,h1,h2,h3⟩
    ·exact .inl ⟨k,by omega,h2,h3⟩
    ·exact .inr ⟨j,h1,h2,by rw[endN_at hy,if_neg hop,if_neg h7y];exact h3⟩
structure CxOk (C:Cx):Prop where
 len:C.p.length≤60
 small:smallT 1048576 (.lst 4 (C.p.map TLine.tr))
 line:∀(k:Nat) (ln:TLine),C.p[k]?=some ln→0≤ln.fKind∧ln.fKind≤7∧ln.fArgs.length≤4∧ln.fExpr.length≤20∧((ln.fKind=1∨ln.fKind=2∨ln.fKind=3∨ln.fKind=5∨ln.fKind=6)→exprOk ln.fExpr=true)
 fn:∀(g:Nat) (ln:TLine),C.p[g]?=some ln→ln.fKind=0→∃e,endAt C.p g=some e∧(localsOf C.p (g:Int)).length≤8∧ln.fArgs.length≤(localsOf C.p (g:Int)).length∧∀(k:Nat) (y:TLine),g < k→k < e→C.p[k]?=some y→y.fKind≠0∧(∀t∈y.fExpr,t.fKind=7→∃f,findN C.p 0 t.fName=some f∧(argsN C.p f:Int)=t.fNum)∧(y.fKind=4→∃i,g≤i∧i < k∧elseAt C.p i=some k)
 args:0≤C.args∧C.args≤4
 words:0≤C.words∧C.words≤1000
 inl:0≤C.b.fInline∧C.b.fInline≤3
structure ScOk (C:Cx) (x:Sc) (ins:List Nat):Prop where
 fn:∃ln,C.p[x.f]?=some ln∧ln.fKind=0
 loc:x.locals=localsOf C.p (x.f:Int)
 first:0≤x.first∧x.first≤8 * ins.length
 chain:x.chain.length+1=ins.length
 out:x.outer=true↔x.chain=[]
 args:x.outer=true→C.args=argsN C.p x.f
 mem:ins.getLast?=some x.f
section
variable {C:Cx} {x:Sc} {ins:List Nat}
theorem CxOk.argsN (h:CxOk C)(g:Nat):argsN C.p g≤4:=by
 unfold Go.Proofs.Ytogdbgmiigfmfaa.argsN
 split
 ·rename_i l hl
  have:=h.line _ _ hl
  omega
 ·omega
theorem ScOk.endE (hC:CxOk C)(hx:ScOk C x ins):∃e,endAt C.p x.f=some e∧x.f < e∧e < C.p.length∧endL' C.p x.f=e∧x.locals.length≤8:=by
 obtain⟨ln,h1,h2⟩:=hx.fn
 obtain⟨e,h3,h4,h5,_⟩:=hC.fn _ _ h1 h2
 obtain⟨_,_,_,_,h6,h7⟩:=endAt_some h3
 exact⟨e,h3,h6,h7,by rw[endL',h3];rfl,by rw[hx.loc];exact h4⟩
theorem ScOk.argLe (hC:CxOk C)(hx:ScOk C x ins):argsN C.p x.f≤x.locals.length:=by
 obtain⟨ln,h1,h2⟩:=hx.fn
 obtain⟨e,h3,h4,h5,_⟩:=hC.fn _ _ h1 h2
 rw[hx.loc,Go.Proofs.Ytogdbgmiigfmfaa.argsN,h1]
 exact h5
theorem ScOk.own7 (hC:CxOk C)(hx:ScOk C x ins){e k:Nat}{ln:TLine}(he:endAt C.p x.f=some e)(h1:x.f < k)(h2:k≤e)(hk:C.p[k]?=some ln)(h7:ln.fKind=7):
  endAt C.p (ownOf C.p k)=some k∧((k=e∧ownOf C.p k=x.f)∨(k < e∧x.f < ownOf C.p k∧ownOf C.p k < k∧∃y,C.p[ownOf C.p k]?=some y∧(y.fKind=3∨y.fKind=5))):=by
 obtain⟨l0,g1,g2⟩:=hx.fn
 obtain⟨e',g3,_,_,g4⟩:=hC.fn _ _ g1 g2
 rw[he]at g3
 injection g3 with g3
 subst g3
 by_cases hke:k=e
 ·subst hke
  rw[own_end he]
  exact⟨he,.inl ⟨rfl,rfl⟩⟩
 ·obtain⟨z,hz,hzo,hzn,_,_⟩:=endAt_some he
  rcases end_closes hk h7 _ (x.f+1) 1 e (Nat.le_refl _) (by omega) (Nat.le_refl _) hzn h2 with⟨i,k1,k2,k3⟩|⟨j,k1,k2,k3⟩
  ·rw[own_end k3]
   obtain⟨y,hy,hyo,_⟩:=endAt_some k3
   have:=(g4 i y (by omega) (by omega) hy).1
   rw[opensK_iff]at hyo
   exact⟨k3,.inr ⟨by omega,by omega,k2,y,hy,by omega⟩⟩
  ·have:j=1:=by omega
   subst this
   rw[hzn]at k3
   injection k3 with k3
   omega
theorem ScOk.own4 (hC:CxOk C)(hx:ScOk C x ins){e k:Nat}{ln:TLine}(he:endAt C.p x.f=some e)(h1:x.f < k)(h2:k≤e)(hk:C.p[k]?=some ln)(h4:ln.fKind=4):
  elseAt C.p (ownOf C.p k)=some k∧x.f < ownOf C.p k∧ownOf C.p k < k∧k < e:=by
 obtain⟨l0,g1,g2⟩:=hx.fn
 obtain⟨e',g3,_,_,g4⟩:=hC.fn _ _ g1 g2
 rw[he]at g3
 injection g3 with g3
 subst g3
 have hke:k≠e:=fun h=>by
  subst h
  obtain⟨y,hy,h7⟩:=endAt_kind he
  rw[hk]at hy
  injection hy with hy
  subst hy
  omega
 obtain⟨i,k1,k2,k3⟩:=(g4 k ln h1 (by omega) hk).2.2 h4
 rw[own_else k3]
 obtain⟨y,_,hy,h3,_⟩:=elseAt_some k3
 have:i≠x.f:=fun h=>by
  subst h
  rw[g1]at hy
  injection hy with hy
  subst hy
  omega
 exact⟨k3,by omega,k2,by omega⟩
end
end Go.Proofs.Ytogdbgmiigfmfaa
namespace Go.Proofs.Ytogdbgmiigfmfaa
open Go.Sim
set_option maxRecDepth 100000
set_option maxHeartbeats 4000000
structure Grow (n:Nat) (s s':Gs):Prop where
 ge:s.items.length≤s'.items.length
 le:s'.items.length≤s.items.length+n
 most:s.most≤s'.most
 cap:s.most≤1000→s'.most≤1000
theorem Grow.refl (s:Gs):Grow 0 s s:=⟨Nat.le_refl _,Nat.le_refl _,Int.le_refl _,id⟩
theorem Grow.trans {n m:Nat}{a b c:Gs}(h:Grow n a b)(h':Grow m b c):Grow (n+m) a c:=⟨Nat.le_trans h.ge h'.ge,by have:=h.le;have:=h'.le;omega,Int.le_trans h.most h'.most,fun x=>h'.cap (h.cap x)⟩
theorem Grow.mono {n m:Nat}{a b:Gs}(h:Grow n a b)(hn:n≤m):Grow m a b:=⟨h.ge,by have:=h.le;omega,h.most,h.cap⟩
theorem emitG_grow (C:Cx)(s:Gs)(d code arg line:Int)(chain:List Int):Grow 1 s (emitG C s d code arg line chain):=⟨by simp[emitG],by simp[emitG],Int.le_refl _,id⟩
theorem setArg_len' (l:List TItem)(j v:Int):(setArg l j v).length=l.length:=by
 unfold setArg
 split
 ·split
  ·rw[List.length_set]
  ·rfl
 ·rfl
theorem patchL_len (v:Int):∀(js:List Int) (l:List TItem),(patchL l v js).length=l.length
 | [],_=>rfl
 | j::js,l=>by rw[patchL,patchL_len v js,setArg_len']
def tokC:Nat→Nat
 | 0=>1
 | n+1=>30+9 * (20 * tokC n+3)
theorem tokC_pos:∀n,1≤tokC n
 | 0=>Nat.le_refl _
 | n+1=>by rw[tokC];omega
theorem tokC_le:∀{n m:Nat},n≤m→tokC n≤tokC m:=by
 intro n m h
 induction h with
 | refl=>exact Nat.le_refl _
 | step _ ih=>rw[tokC];omega
theorem tokC_3 {n:Nat}(h:n≤3):tokC n≤8679837:=Nat.le_trans (tokC_le h) (by simp[tokC])
def isFun (C:Cx)(g:Nat):Prop:=∃ln,C.p[g]?=some ln∧ln.fKind=0
section
variable {C:Cx} {x:Sc} {ins:List Nat} {rep:Sc→List Nat→Nat→Nat→Int→Gs→Gs} {line:Nat} {lev:Nat}
theorem storesG_grow (y:Sc)(chain:List Int)(line:Int):∀(n:Nat) (d:Int) (s:Gs),Grow n s (storesG C y chain line n d s)
 | 0,d,s=>Grow.refl s
 | n+1,d,s=>by
  rw[storesG]
  exact((emitG_grow C s d _ _ _ _).trans (storesG_grow y chain line n (d - 1) _)).mono (by omega)
theorem zerosG_grow (y:Sc)(chain:List Int)(line d:Int):∀(n i:Nat) (s:Gs),Grow (2 * n) s (zerosG C y chain line d n i s)
 | 0,i,s=>Grow.refl s
 | n+1,i,s=>by
  rw[zerosG]
  exact(((emitG_grow C s d _ _ _ _).trans (emitG_grow C _ (d+1) _ _ _ _)).trans (zerosG_grow y chain line d n (i+1) _)).mono (by omega)
theorem finG_grow (hrep:∀g d s,isFun C g→replB C ins g s.items.length=true→Grow (tokC lev) s (rep x ins line g d s))(t:TTok)(d:Int)(s:Gs):Grow (tokC lev) s (finG C rep x ins line t d s):=by
 have hp:=tokC_pos lev
 unfold finG
 split
 ·exact(emitG_grow ..).mono hp
 ·split
  ·exact(emitG_grow ..).mono hp
  ·split
   ·split
    ·rename_i g hg
     split
     ·rename_i hr
      obtain⟨_,ln,h1,h2,_⟩:=find_some hg
      exact hrep g d s ⟨ln,h1,h2⟩ hr
     ·exact(emitG_grow ..).mono hp
    ·exact(Grow.refl s).mono (by omega)
   ·exact(emitG_grow ..).mono hp
mutual
theorem genE_grow (hrep:∀g d s,isFun C g→replB C ins g s.items.length=true→Grow (tokC lev) s (rep x ins line g d s)):∀(e:Ex) (d:Int) (s:Gs),Grow (e.toks.length * tokC lev) s (genE C rep x ins line e d s)
 | .node t es,d,s=>by
  rw[genE,Ex.toks,List.length_cons]
  exact((genEs_grow hrep es d s).trans (finG_grow hrep t _ _)).mono (by rw[Nat.add_mul];omega)
theorem genEs_grow (hrep:∀g d s,isFun C g→replB C ins g s.items.length=true→Grow (tokC lev) s (rep x ins line g d s)):∀(es:List Ex) (d:Int) (s:Gs),Grow ((exToks es).length * tokC lev) s (genEs C rep x ins line es d s)
 | [],d,s=>by rw[genEs,exToks];exact(Grow.refl s).mono (by omega)
 | a::es,d,s=>by
  rw[genEs,exToks,List.length_append,Nat.add_mul]
  exact(genE_grow hrep a d s).trans (genEs_grow hrep es (d+1) _)
end
theorem genEs_take (C:Cx)(rep:Sc→List Nat→Nat→Nat→Int→Gs→Gs)(x:Sc)(ins:List Nat)(line:Nat):∀{es:List Ex} {j:Nat} {a:Ex} (d:Int) (s:Gs),es[j]?=some a→genEs C rep x ins line (es.take (j+1)) d s=genE C rep x ins line a (d+j) (genEs C rep x ins line (es.take j) d s)
 | [],_,_,_,_,h=>by simp at h
 | b::es,0,a,d,s,h=>by
  rw[List.getElem?_cons_zero]at h
  injection h with h
  subst h
  simp[genEs]
 | b::es,j+1,a,d,s,h=>by
  rw[List.getElem?_cons_succ]at h
  rw[List.take_succ_cons,genEs,genEs_take C rep x ins line (d+1) _ h,List.take_succ_cons,genEs]
  congr 1
  omega
theorem exToks_take_get:∀{es:List Ex} {j:Nat} {a:Ex},es[j]?=some a→(exToks (es.take (j+1))).length=(exToks (es.take j)).length+a.toks.length
 | [],_,_,h=>by simp at h
 | b::es,0,a,h=>by
  rw[List.getElem?_cons_zero]at h
  injection h with h
  subst h
  simp[exToks]
 | b::es,j+1,a,h=>by
  rw[List.getElem?_cons_succ]at h
  rw[List.take_succ_cons,exToks,List.length_append,exToks_take_get h,List.take_succ_cons,exToks,List.length_append]
  omega
theorem inSc_ok (hC:CxOk C)(hx:ScOk C x ins)(line:Nat){g:Nat}(hg:isFun C g):ScOk C (inSc C x line g) (ins++[g]):=by
 obtain⟨e,_,_,_,_,h8⟩:=hx.endE hC
 have hle:=hx.argLe hC
 refine⟨hg,rfl,?_,?_,?_,?_,by simp[inSc]⟩
 ·simp only[inSc,topOf,List.length_append,List.length_cons,List.length_nil]
  have:=hx.first
  split
  ·rename_i ho
   rw[hx.args ho]
   omega
  ·omega
 ·simp only[inSc,List.length_append,List.length_cons,List.length_nil]
  have:=hx.chain
  omega
 ·simp[inSc]
 ·simp[inSc]
theorem topOf_le (hC:CxOk C)(hx:ScOk C x ins):0≤topOf C x∧topOf C x≤8 * ins.length+8:=by
 obtain⟨e,_,_,_,_,h8⟩:=hx.endE hC
 have hle:=hx.argLe hC
 have:=hx.first
 unfold topOf
 split
 ·rename_i ho
  rw[hx.args ho]
  omega
 ·omega
theorem isFun_locals (hC:CxOk C){g:Nat}(hg:isFun C g):(localsOf C.p (g:Int)).length≤8∧argsN C.p g≤(localsOf C.p (g:Int)).length:=by
 obtain⟨ln,h1,h2⟩:=hg
 obtain⟨e,h3,h4,h5,_⟩:=hC.fn _ _ h1 h2
 rw[argsN,h1]
 exact⟨h4,h5⟩
theorem preG_grow (hC:CxOk C)(hx:ScOk C x ins)(hi:ins.length≤10)(line:Nat){g:Nat}(hg:isFun C g)(d:Int)(s:Gs):Grow 16 s (preG C x line g d s):=by
 obtain⟨h1,h2⟩:=isFun_locals hC hg
 have ht:=topOf_le hC hx
 have h0:Grow 0 s ⟨s.items,max s.most (topOf C x+(localsOf C.p (g:Int)).length),s.start⟩:=⟨Nat.le_refl _,Nat.le_refl _,by dsimp only;omega,fun h=>by dsimp only;omega⟩
 unfold preG
 exact((h0.trans (storesG_grow _ _ _ _ _ _)).trans (zerosG_grow _ _ _ _ _ _ _)).mono (by omega)
theorem spaceG_grow (x:Sc)(line:Nat)(d:Int)(s:Gs):Grow 1 s (spaceG C x line d s):=by
 unfold spaceG
 split
 ·exact emitG_grow ..
 ·exact(Grow.refl s).mono (by omega)
theorem leaveG_grow (x:Sc)(k:Nat)(last:Bool)(d:Int)(L:Ls):Grow 1 L.g (leaveG C x k last d L).g:=by
 unfold leaveG
 split
 ·split
  ·exact emitG_grow ..
  ·exact emitG_grow ..
 ·split
  ·exact(Grow.refl _).mono (by omega)
  ·exact emitG_grow ..
theorem Grow.set {n:Nat}{a b:Gs}{l:List TItem}(h:Grow n a b)(hl:l.length=b.items.length):Grow n a ⟨l,b.most,b.start⟩:=⟨by have:=h.ge;simp only[hl];omega,by have:=h.le;simp only[hl];omega,h.most,h.cap⟩
theorem genE_grow' (hrep:∀g d s,isFun C g→replB C ins g s.items.length=true→Grow (tokC lev) s (rep x ins line g d s))(hC:CxOk C){k:Nat}{ln:TLine}(hk:C.p[k]?=some ln)(he:exprOk ln.fExpr=true)(d:Int)(s:Gs):Grow (20 * tokC lev) s (genE C rep x ins line (exL ln.fExpr) d s):=by
 have h1:=(exL_ok he).2
 have h2:=(hC.line _ _ hk).2.2.2.1
 rw[h1]at h2
 exact(genE_grow hrep _ d s).mono (Nat.mul_le_mul_right _ h2)
theorem stepA_grow (hrep:∀line g d s,isFun C g→replB C ins g s.items.length=true→Grow (tokC lev) s (rep x ins line g d s))(hC:CxOk C){k:Nat}{ln:TLine}(hk:C.p[k]?=some ln)(h0:ln.fKind≠0)(base:Int)(L:Ls):Grow (20 * tokC lev+2) L.g (stepA C rep x ins base k ln L).g:=by
 unfold stepA
 split
 ·exact((emitG_grow ..).set (setArg_len' _ _ _)).mono (by omega)
 ·split
  ·split
   ·refine Grow.mono (n:=1+1) ?_ (by omega)
    exact(emitG_grow ..).trans (leaveG_grow x k true (base+1) {L with g:=emitG C L.g base 0 0 k x.chain})
   ·split
    ·exact(emitG_grow ..).mono (by omega)
    ·exact(Grow.refl _).mono (by omega)
  ·rename_i h4 h7
   have hl:=hC.line _ _ hk
   have h20:Grow (20 * tokC lev) L.g (genE C rep x ins k (exL ln.fExpr) base ⟨L.g.items,L.g.most,true⟩):=by
    have:=genE_grow' (fun g d s=>hrep k g d s) hC hk (hl.2.2.2.2 (by omega)) base ⟨L.g.items,L.g.most,true⟩
    exact⟨this.ge,this.le,this.most,this.cap⟩
   split
   ·exact(h20.trans (emitG_grow ..)).mono (by omega)
   ·split
    ·exact(h20.trans (emitG_grow ..)).mono (by omega)
    ·split
     ·refine Grow.mono (n:=20 * tokC lev+1) ?_ (by omega)
      exact h20.trans (leaveG_grow x k false (base+1) {L with g:=genE C rep x ins k (exL ln.fExpr) base ⟨L.g.items,L.g.most,true⟩,heads:=L.heads.set k L.g.items.length})
     ·exact(h20.trans (emitG_grow ..)).mono (by omega)
theorem stepB_grow (k:Nat)(ln:TLine)(L:Ls):Grow 0 L.g (stepB C x k ln L).g:=by
 unfold stepB
 split
 ·exact(Grow.refl _).set (setArg_len' _ _ _)
 ·exact Grow.refl _
theorem runL_grow (hrep:∀line g d s,isFun C g→replB C ins g s.items.length=true→Grow (tokC lev) s (rep x ins line g d s))(hC:CxOk C)(base:Int):∀(n k:Nat) (L:Ls),(∀i y,k≤i→i < k+n→C.p[i]?=some y→y.fKind≠0)→Grow (n * (20 * tokC lev+3)) L.g (runL C rep x ins base n k L).g
 | 0,k,L,_=>(Grow.refl _).mono (by omega)
 | n+1,k,L,h=>by
  rw[runL]
  split
  ·rename_i ln hk
   exact(((stepA_grow hrep hC hk (h k ln (Nat.le_refl _) (by omega) hk) base L).trans (stepB_grow k ln _)).trans (runL_grow hrep hC base n (k+1) _ fun i y h1 h2 hy=>h i y (by omega) (by omega) hy)).mono (by rw[Nat.add_mul];omega)
  ·exact(Grow.refl _).mono (by omega)
theorem linesG_grow (hrep:∀line g d s,isFun C g→replB C ins g s.items.length=true→Grow (tokC lev) s (rep x ins line g d s))(hC:CxOk C)(hx:ScOk C x ins)(base:Int)(s:Gs):Grow ((endL' C.p x.f - x.f) * (20 * tokC lev+3)) s (linesG C rep x ins base s).1:=by
 unfold linesG
 obtain⟨ln,h1,h2⟩:=hx.fn
 obtain⟨e,h3,_,_,h4⟩:=hC.fn _ _ h1 h2
 obtain⟨e',g3,_,_,g5,_⟩:=hx.endE hC
 rw[h3]at g3
 injection g3 with g3
 subst g3
 rw[g5]
 refine runL_grow hrep hC base (e - x.f) (x.f+1) (startL C s) fun i y k1 k2 hy=>?_
 by_cases hie:i=e
 ·subst hie
  obtain⟨z,hz,h7⟩:=endAt_kind h3
  rw[hy]at hz
  injection hz with hz
  subst hz
  omega
 ·exact(h4 i y (by omega) (by omega) hy).1
end
theorem replB_spec {C:Cx}{ins:List Nat}{g n:Nat}(h:replB C ins g n=true):(ins.length:Int)≤C.b.fInline∧endOf C.p (g:Int) - g≤9∧n < 200∧g∉ins:=by
 unfold replB at h
 simp only[Bool.and_eq_true,decide_eq_true_eq,Bool.not_eq_true',List.contains_eq_mem,decide_eq_false_iff_not]at h
 exact⟨h.1,h.2.1,h.2.2.1,h.2.2.2⟩
theorem repN_grow {C:Cx}(hC:CxOk C):∀(lev:Nat) {x:Sc} {ins:List Nat} (line g:Nat) (d:Int) (s:Gs),ScOk C x ins→isFun C g→replB C ins g s.items.length=true→Grow (tokC lev) s (repN C lev x ins line g d s)
 | 0,x,ins,line,g,d,s,hx,hg,hr=>(Grow.refl s).mono (by omega)
 | lev+1,x,ins,line,g,d,s,hx,hg,hr=>by
  obtain⟨r1,r2,_,_⟩:=replB_spec hr
  have hin:=hC.inl
  have hy:=inSc_ok hC hx line hg
  have h1:=preG_grow hC hx (by omega) line hg d s
  have h2:=spaceG_grow (C:=C) x line (d - argsN C.p g) (preG C x line g d s)
  have h3:=linesG_grow (lev:=lev) (rep:=repN C lev) (fun line g d s hg hr=>repN_grow hC lev line g d s hy hg hr) hC hy (d - argsN C.p g) (spaceG C x line (d - argsN C.p g) (preG C x line g d s))
  obtain⟨e,e1,e2,e3,e4,_⟩:=hy.endE hC
  have e5:endOf C.p (g:Int)=(e:Int):=by rw[endOf_at];exact endI_some e1
  have e6:endL' C.p (inSc C x line g).f - (inSc C x line g).f≤9:=by rw[e4];show e - g≤9;omega
  have h4:=((h1.trans h2).trans h3).mono (m:=tokC (lev+1)) (by
   rw[tokC]
   have:=Nat.mul_le_mul_right (20 * tokC lev+3) e6
   omega)
  show Grow _ s (replG C (linesG C (repN C lev)) x ins line g d s)
  unfold replG
  exact h4.set (patchL_len _ _ _)
def lvOk (L:Ls):Prop:=L.lv.length≤L.g.items.length∧∀j∈L.lv,0≤j∧j < L.g.items.length
section
variable {C:Cx} {x:Sc} {ins:List Nat} {rep:Sc→List Nat→Nat→Nat→Int→Gs→Gs} {lev:Nat}
theorem lvOk.grow {n:Nat}{L L':Ls}(h:lvOk L)(hl:L'.lv=L.lv)(hg:Grow n L.g L'.g):lvOk L':=⟨by rw[hl];exact Nat.le_trans h.1 hg.ge,fun j hj=>by
 rw[hl]at hj
 have:=h.2 j hj
 have:=hg.ge
 omega⟩
theorem leaveG_lv {L:Ls}(h:lvOk L)(k:Nat)(last:Bool)(d:Int):lvOk (leaveG C x k last d L):=by
 have hg:=leaveG_grow (C:=C) x k last d L
 unfold leaveG at hg ⊢
 split
 ·rename_i ho
  rw[if_pos ho]at hg
  split
  ·rename_i hf;rw[if_pos hf]at hg;exact h.grow rfl hg
  ·rename_i hf;rw[if_neg hf]at hg;exact h.grow rfl hg
 ·split
  ·exact h
  ·refine⟨by have:=h.1;simp only[emitG,List.length_append,List.length_cons,List.length_nil];omega,?_⟩
   intro j hj
   simp only[List.mem_append,List.mem_cons,List.not_mem_nil,or_false]at hj
   simp only[emitG,List.length_append,List.length_cons,List.length_nil]
   rcases hj with hj|rfl
   ·have:=h.2 j hj;omega
   ·omega
theorem stepA_lv (hrep:∀line g d s,isFun C g→replB C ins g s.items.length=true→Grow (tokC lev) s (rep x ins line g d s))(hC:CxOk C){k:Nat}{ln:TLine}(hk:C.p[k]?=some ln)(h0:ln.fKind≠0)(base:Int){L:Ls}(h:lvOk L):lvOk (stepA C rep x ins base k ln L):=by
 have hg:=stepA_grow (x:=x) (ins:=ins) (rep:=rep) (lev:=lev) hrep hC hk h0 base L
 unfold stepA at hg ⊢
 split
 ·rename_i h4;rw[if_pos h4]at hg;exact h.grow rfl hg
 ·rename_i h4
  rw[if_neg h4]at hg
  split
  ·rename_i h7
   rw[if_pos h7]at hg
   split
   ·exact leaveG_lv (h.grow (L':={L with g:=emitG C L.g base 0 0 k x.chain}) rfl (emitG_grow ..)) _ _ _
   ·rename_i ho
    rw[if_neg ho]at hg
    split
    ·rename_i h5;rw[if_pos h5]at hg;exact h.grow rfl hg
    ·exact h
  ·rename_i h7
   have hl:=hC.line _ _ hk
   have h20:=genE_grow' (x:=x) (ins:=ins) (rep:=rep) (line:=k) (lev:=lev) (fun g d s=>hrep k g d s) hC hk (hl.2.2.2.2 (by omega)) base ⟨L.g.items,L.g.most,true⟩
   have hL1:lvOk {L with g:=genE C rep x ins k (exL ln.fExpr) base ⟨L.g.items,L.g.most,true⟩,heads:=L.heads.set k L.g.items.length}:=h.grow rfl ⟨h20.ge,h20.le,h20.most,h20.cap⟩
   split
   ·exact hL1.grow rfl (emitG_grow ..)
   ·split
    ·exact hL1.grow rfl (emitG_grow ..)
    ·split
     ·exact leaveG_lv hL1 _ _ _
     ·exact hL1.grow rfl (emitG_grow ..)
theorem stepB_lv (k:Nat)(ln:TLine){L:Ls}(h:lvOk L):lvOk (stepB C x k ln L):=by
 have hg:=stepB_grow (C:=C) (x:=x) k ln L
 unfold stepB at hg ⊢
 split
 ·rename_i h1;rw[if_pos h1]at hg;exact h.grow rfl hg
 ·exact h
theorem runL_lv (hrep:∀line g d s,isFun C g→replB C ins g s.items.length=true→Grow (tokC lev) s (rep x ins line g d s))(hC:CxOk C)(base:Int):∀(n k:Nat) (L:Ls),(∀i y,k≤i→i < k+n→C.p[i]?=some y→y.fKind≠0)→lvOk L→lvOk (runL C rep x ins base n k L)
 | 0,k,L,_,h=>h
 | n+1,k,L,hf,h=>by
  rw[runL]
  split
  ·rename_i ln hk
   exact runL_lv hrep hC base n (k+1) _ (fun i y h1 h2 hy=>hf i y (by omega) (by omega) hy) (stepB_lv k ln (stepA_lv hrep hC hk (hf k ln (Nat.le_refl _) (by omega) hk) base h))
  ·exact h
theorem lines_kinds (hC:CxOk C)(hx:ScOk C x ins){e:Nat}(he:endAt C.p x.f=some e){i:Nat}{y:TLine}(h1:x.f+1≤i)(h2:i≤e)(hy:C.p[i]?=some y):y.fKind≠0:=by
 obtain⟨ln,g1,g2⟩:=hx.fn
 obtain⟨e',h3,_,_,h4⟩:=hC.fn _ _ g1 g2
 rw[he]at h3
 injection h3 with h3
 subst h3
 by_cases hie:i=e
 ·subst hie
  obtain⟨z,hz,h7⟩:=endAt_kind he
  rw[hy]at hz
  injection hz with hz
  subst hz
  omega
 ·exact(h4 i y (by omega) (by omega) hy).1
theorem linesG_lv (hrep:∀line g d s,isFun C g→replB C ins g s.items.length=true→Grow (tokC lev) s (rep x ins line g d s))(hC:CxOk C)(hx:ScOk C x ins)(base:Int)(s:Gs):(linesG C rep x ins base s).2.length≤(linesG C rep x ins base s).1.items.length∧∀j∈(linesG C rep x ins base s).2,0≤j∧j < ((linesG C rep x ins base s).1.items.length:Int):=by
 unfold linesG
 obtain⟨e,g3,g4,_,g5,_⟩:=hx.endE hC
 rw[g5]
 exact runL_lv hrep hC base (e - x.f) (x.f+1) (startL C s) (fun i y k1 k2 hy=>lines_kinds hC hx g3 k1 (by omega) hy) ⟨by simp[startL],by intro j hj;simp[startL]at hj⟩
end
theorem patchL_snoc (v j:Int):∀(js:List Int) (l:List TItem),patchL l v (js++[j])=setArg (patchL l v js) j v
 | [],l=>by rw[List.nil_append,patchL,patchL,patchL]
 | a::js,l=>by rw[List.cons_append,patchL,patchL_snoc v j js,patchL]
end Go.Proofs.Ytogdbgmiigfmfaa
namespace Go.Proofs.Ytogdbgmiigfmfaa
open Go.Sim
set_option maxRecDepth 100000
set_option maxHeartbeats 4000000
def patchE (l:List TItem)(v to:Int):List (Int×Int)→List TItem
 | []=>l
 | e::r=>patchE (if e.1=to then setArg l e.2 v else l) v to r
theorem patchE_len (v to:Int):∀(E:List (Int×Int)) (l:List TItem),(patchE l v to E).length=l.length
 | [],l=>rfl
 | e::r,l=>by
  rw[patchE,patchE_len v to r]
  split
  ·rw[setArg_len']
  ·rfl
theorem patchE_append (v to:Int):∀(A B:List (Int×Int)) (l:List TItem),patchE l v to (A++B)=patchE (patchE l v to A) v to B
 | [],B,l=>rfl
 | a::A,B,l=>by rw[List.cons_append,patchE,patchE_append v to A B,patchE]
theorem patchE_snoc (v to:Int)(e:Int×Int)(E:List (Int×Int))(l:List TItem):patchE l v to (E++[e])=if e.1=to then setArg (patchE l v to E) e.2 v else patchE l v to E:=by
 rw[patchE_append];rfl
def jumps (p:List TLine)(i:Nat):Prop:=kindAt p i=3∨kindAt p i=4∨kindAt p i=5
instance (p:List TLine) (i:Nat):Decidable (jumps p i):=by unfold jumps;infer_instance
def toOf (p:List TLine)(i:Nat):Int:=if kindAt p i=4 then endOf p (ownOf p i:Int)+1 else if kindAt p i=3∧0≤elseOf p (i:Int)then - elseOf p (i:Int)else endOf p (i:Int)+1
def entry (p:List TLine)(pos:List Int)(i:Nat):List (Int×Int):=if jumps p i then [(toOf p i,atL pos i)]else []
def exitsF (p:List TLine)(pos:List Int)(f:Nat):Nat→List (Int×Int)
 | 0=>[]
 | n+1=>exitsF p pos f n++entry p pos (f+n)
theorem exitsF_len (p:List TLine)(pos:List Int)(f:Nat):∀n,(exitsF p pos f n).length≤n
 | 0=>Nat.le_refl _
 | n+1=>by
  have:=exitsF_len p pos f n
  rw[exitsF,List.length_append,entry]
  split <;> simp <;> omega
theorem atL_set {l:List Int}{k i:Nat}{v:Int}(h:i≠k):atL (l.set k v) i=atL l i:=by
 unfold atL
 rw[List.getElem?_set_ne (fun e=>h e.symm)]
theorem atL_self {l:List Int}{k:Nat}{v:Int}(h:k < l.length):atL (l.set k v) k=v:=by
 unfold atL
 rw[List.getElem?_set_self h]
 rfl
theorem exitsF_set (p:List TLine)(pos:List Int)(f k:Nat)(v:Int):∀n,f+n≤k→exitsF p (pos.set k v) f n=exitsF p pos f n
 | 0,_=>rfl
 | n+1,h=>by
  rw[exitsF,exitsF,exitsF_set p pos f k v n (by omega),entry,entry,atL_set (by omega)]
theorem exits_next {p:List TLine}{pos:List Int}{f k:Nat}(h:f+1≤k)(hj:¬jumps p k):exitsF p pos (f+1) (k+1 - (f+1))=exitsF p pos (f+1) (k - (f+1)):=by
 rw[show k+1 - (f+1)=(k - (f+1))+1 by omega,exitsF,show f+1+(k - (f+1))=k by omega,entry,if_neg hj,List.append_nil]
theorem exits_jump {p:List TLine}{pos:List Int}{f k:Nat}(h:f+1≤k)(hj:jumps p k)(hk:k < pos.length)(v:Int):exitsF p pos (f+1) (k - (f+1))++[(toOf p k,v)]=exitsF p (pos.set k v) (f+1) (k+1 - (f+1)):=by
 rw[show k+1 - (f+1)=(k - (f+1))+1 by omega,exitsF,exitsF_set _ _ _ _ _ _ (by omega),show f+1+(k - (f+1))=k by omega,entry,if_pos hj,atL_self hk]
theorem exitsF_mem {p:List TLine}{pos:List Int}{f:Nat}:∀{n:Nat} {e:Int×Int},e∈exitsF p pos f n→∃i,f≤i∧i < f+n∧jumps p i∧e=(toOf p i,atL pos i)
 | 0,e,h=>by simp[exitsF]at h
 | n+1,e,h=>by
  rw[exitsF,List.mem_append]at h
  rcases h with h|h
  ·obtain⟨i,h1,h2,h3⟩:=exitsF_mem h
   exact⟨i,h1,by omega,h3⟩
  ·rw[entry]at h
   split at h
   ·rename_i hj
    simp only[List.mem_cons,List.not_mem_nil,or_false]at h
    exact⟨f+n,by omega,by omega,hj,h⟩
   ·cases h
theorem patchE_none {v to:Int}:∀{E:List (Int×Int)} {l:List TItem},(∀e∈E,e.1≠to)→patchE l v to E=l
 | [],_,_=>rfl
 | e::r,l,h=>by rw[patchE,if_neg (h e (by simp)),patchE_none fun x hx=>h x (by simp[hx])]
theorem patch_one {p:List TLine}{pos:List Int}{f i0:Nat}{v to:Int}(hj:jumps p i0)(ht:toOf p i0=to):∀{n:Nat} {l:List TItem},f≤i0→i0 < f+n→(∀i,f≤i→i < f+n→jumps p i→toOf p i=to→i=i0)→patchE l v to (exitsF p pos f n)=setArg l (atL pos i0) v
 | 0,l,h1,h2,_=>by omega
 | n+1,l,h1,h2,hu=>by
  rw[exitsF,patchE_append]
  by_cases h:i0=f+n
  ·subst h
   rw[patchE_none (E:=exitsF p pos f n) (fun e he=>by
    obtain⟨i,k1,k2,k3,rfl⟩:=exitsF_mem he
    intro hh
    have:=hu i k1 (by omega) k3 hh
    omega)]
   rw[entry,if_pos hj]
   show(if(toOf p (f+n),atL pos (f+n)).1=to then _ else _)=_
   rw[if_pos ht]
  ·rw[patch_one hj ht h1 (by omega) fun i k1 k2 k3 k4=>hu i k1 (by omega) k3 k4]
   refine patchE_none fun e he=>?_
   rw[entry]at he
   split at he
   ·rename_i hj2
    simp only[List.mem_cons,List.not_mem_nil,or_false]at he
    subst he
    intro hh
    exact h (hu (f+n) (by omega) (by omega) hj2 hh).symm
   ·cases he
theorem kindAt_of {p:List TLine}{k:Nat}{ln:TLine}(h:p[k]?=some ln):kindAt p k=ln.fKind:=by rw[kindAt,h]
theorem endOf_some {p:List TLine}{i:Nat}{m:Int}(h:endOf p (i:Int)=m)(h0:0≤m):endAt p i=some m.toNat:=by
 rw[endOf_at]at h
 cases he:endAt p i with
 | none=>rw[he]at h;simp only[endI]at h;omega
 | some e=>rw[he]at h;simp only[endI]at h;congr 1;omega
theorem endOf_ge (p:List TLine)(i:Nat):-1≤endOf p (i:Int)∧endOf p (i:Int)≤p.length:=by
 rw[endOf_at]
 cases he:endAt p i with
 | none=>simp only[endI];omega
 | some e=>obtain⟨_,_,_,_,_,h⟩:=endAt_some he;simp only[endI];omega
theorem elseOf_at {p:List TLine}{i:Nat}:elseOf p (i:Int)=endI (elseAt p i):=by rw[elseOf,if_pos (by omega),Int.toNat_natCast]
theorem elseAt_not {p:List TLine}{i:Nat}(h:kindAt p i≠3):elseAt p i=none:=by
 cases he:elseAt p i with
 | none=>rfl
 | some j=>
  obtain⟨y,_,hy,h3,_⟩:=elseAt_some he
  exact absurd (by rw[kindAt_of hy];exact h3) h
section
variable {C:Cx} {x:Sc} {ins:List Nat}
theorem to_line (hC:CxOk C)(hx:ScOk C x ins){e:Nat}(he:endAt C.p x.f=some e){k i:Nat}(h1:x.f+1≤i)(h2:i < k)(h3:k≤e)(hj:jumps C.p i)(ht:toOf C.p i=(k:Int)):kindAt C.p (k - 1)=7∧ownOf C.p (k - 1)≠x.f∧exitAt C.p (k - 1)=i:=by
 have hil:i < C.p.length:=by obtain⟨_,_,_,_,_,h⟩:=endAt_some he;omega
 obtain⟨y,hy⟩:=get_of_lt hil
 have hky:=kindAt_of hy
 unfold toOf at ht
 by_cases h4:kindAt C.p i=4
 ·rw[if_pos h4]at ht
  obtain⟨o1,o2,o3,o4⟩:=hx.own4 hC he (by omega) (by omega) hy (by rw[←hky];exact h4)
  have hee:=endOf_some (show endOf C.p (ownOf C.p i:Int)=((k - 1:Nat):Int) by omega) (by omega)
  rw[Int.toNat_natCast]at hee
  obtain⟨z,hz,h7⟩:=endAt_kind hee
  rw[own_end hee,kindAt_of hz]
  refine⟨h7,by omega,?_⟩
  rw[exitAt,own_end hee,o1]
 ·rw[if_neg h4]at ht
  split at ht
  ·omega
  ·rename_i hn
   have hee:=endOf_some (show endOf C.p (i:Int)=((k - 1:Nat):Int) by omega) (by omega)
   rw[Int.toNat_natCast]at hee
   obtain⟨z,hz,h7⟩:=endAt_kind hee
   rw[own_end hee,kindAt_of hz]
   refine⟨h7,by omega,?_⟩
   rw[exitAt,own_end hee]
   have:elseAt C.p i=none:=by
    by_cases h3':kindAt C.p i=3
    ·cases hel:elseAt C.p i with
     | none=>rfl
     | some j=>exact absurd ⟨h3',by rw[elseOf_at,hel];simp[endI]⟩ hn
    ·exact elseAt_not h3'
   rw[this]
theorem exit_to (hC:CxOk C)(hx:ScOk C x ins){e:Nat}(he:endAt C.p x.f=some e){j:Nat}{ln:TLine}(h1:x.f < j)(h2:j < e)(hl:C.p[j]?=some ln)(h7:ln.fKind=7):x.f+1≤exitAt C.p j∧exitAt C.p j < j∧jumps C.p (exitAt C.p j)∧toOf C.p (exitAt C.p j)=((j+1:Nat):Int)∧ownOf C.p j≠x.f:=by
 obtain⟨o1,o2⟩:=hx.own7 hC he h1 (by omega) hl h7
 rcases o2 with⟨o2,_⟩|⟨_,o3,o4,y,hy,ho⟩
 ·omega
 have hky:=kindAt_of hy
 have hend:endOf C.p (ownOf C.p j:Int)=(j:Int):=by rw[endOf_at];exact endI_some o1
 unfold exitAt
 cases hel:elseAt C.p (ownOf C.p j)with
 | none=>
  dsimp only
  refine⟨by omega,o4,by unfold jumps;omega,?_,by omega⟩
  unfold toOf
  rw[if_neg (by omega),if_neg (by rw[elseOf_at,hel];simp[endI]),hend]
  omega
 | some m=>
  obtain⟨z,m1,hz,z3,hm1,k1,k2,w,hw,w4⟩:=elseAt_some hel
  rw[o1]at hm1
  injection hm1 with hm1
  have hkw:=kindAt_of hw
  refine⟨by dsimp only;omega,by dsimp only;omega,by unfold jumps;dsimp only;omega,?_,by omega⟩
  unfold toOf
  dsimp only
  rw[if_pos (by omega),own_else hel,hend]
  omega
structure LInv (C:Cx) (lev:Nat) (x:Sc) (ins:List Nat) (d:Int) (e:Nat) (R:Ls) (k:Nat) (L:Ls):Prop where
 lo:x.f+1≤k
 hi:k≤e+1
 heads:L.heads.length=C.p.length
 pos:L.pos.length=C.p.length
 at_:∀i,x.f < i→i < k→jumps C.p i→0≤atL L.pos i∧atL L.pos i < L.g.items.length
 lv:lvOk L
 room:L.g.items.length+(e+1 - k) * (20 * tokC lev+3)≤68719476736
 fin:runL C (repN C lev) x ins d (e+1 - k) k L=R
theorem stepA_lens (rep:Sc→List Nat→Nat→Nat→Int→Gs→Gs)(base:Int)(k:Nat)(ln:TLine)(L:Ls):(stepA C rep x ins base k ln L).heads.length=L.heads.length∧(stepA C rep x ins base k ln L).pos.length=L.pos.length:=by
 unfold stepA leaveG
 repeat' split
 all_goals simp
theorem stepB_lens (k:Nat)(ln:TLine)(L:Ls):(stepB C x k ln L).heads=L.heads∧(stepB C x k ln L).pos=L.pos∧(stepB C x k ln L).lv=L.lv∧(stepB C x k ln L).g.items.length=L.g.items.length∧(stepB C x k ln L).g.most=L.g.most∧(stepB C x k ln L).g.start=L.g.start:=by
 unfold stepB
 split
 ·exact⟨rfl,rfl,rfl,setArg_len' _ _ _,rfl,rfl⟩
 ·exact⟨rfl,rfl,rfl,rfl,rfl,rfl⟩
theorem stepA_at (rep:Sc→List Nat→Nat→Nat→Int→Gs→Gs)(base:Int)(k:Nat)(ln:TLine)(L:Ls)(hp:k < L.pos.length)(i:Nat):
  (i≠k→atL (stepA C rep x ins base k ln L).pos i=atL L.pos i)∧((ln.fKind=3∨ln.fKind=4∨ln.fKind=5)→0≤atL (stepA C rep x ins base k ln L).pos k∧atL (stepA C rep x ins base k ln L).pos k < (stepA C rep x ins base k ln L).g.items.length):=by
 unfold stepA
 by_cases h4:ln.fKind=4
 ·rw[if_pos h4]
  refine⟨fun hi=>atL_set hi,fun _=>?_⟩
  simp only[atL_self hp,setArg_len',emitG,List.length_append,List.length_cons,List.length_nil]
  omega
 ·rw[if_neg h4]
  by_cases h7:ln.fKind=7
  ·rw[if_pos h7]
   refine⟨fun _=>?_,fun h=>by omega⟩
   unfold leaveG
   repeat' split
   all_goals rfl
  ·rw[if_neg h7]
   by_cases h1:ln.fKind=1
   ·rw[if_pos h1]
    exact⟨fun _=>rfl,fun h=>by omega⟩
   ·rw[if_neg h1]
    by_cases h2:ln.fKind=2
    ·rw[if_pos h2]
     exact⟨fun _=>rfl,fun h=>by omega⟩
    ·rw[if_neg h2]
     by_cases h6:ln.fKind=6
     ·rw[if_pos h6]
      refine⟨fun _=>?_,fun h=>by omega⟩
      unfold leaveG
      repeat' split
      all_goals rfl
     ·rw[if_neg h6]
      refine⟨fun hi=>atL_set hi,fun _=>?_⟩
      simp only[atL_self hp,emitG,List.length_append,List.length_cons,List.length_nil]
      omega
theorem LInv.next (hC:CxOk C)(hx:ScOk C x ins){lev e k:Nat}{d:Int}{R L:Ls}{ln:TLine}(he:endAt C.p x.f=some e)(h:LInv C lev x ins d e R k L)(hk:k≤e)(hl:C.p[k]?=some ln):LInv C lev x ins d e R (k+1) (stepB C x k ln (stepA C (repN C lev) x ins d k ln L)):=by
 have h0:=lines_kinds hC hx he h.lo hk hl
 have hrep:∀line g d s,isFun C g→replB C ins g s.items.length=true→Grow (tokC lev) s (repN C lev x ins line g d s):=fun line g d s hg hr=>repN_grow hC lev line g d s hx hg hr
 have hA:=stepA_grow (lev:=lev) (rep:=repN C lev) hrep hC hl h0 d L
 obtain⟨b1,b2,b3,b4,b5,b6⟩:=stepB_lens (C:=C) (x:=x) k ln (stepA C (repN C lev) x ins d k ln L)
 obtain⟨a1,a2⟩:=stepA_lens (C:=C) (x:=x) (ins:=ins) (repN C lev) d k ln L
 have hge:=hA.ge
 have hle:=hA.le
 have hr:=h.room
 refine⟨by have:=h.lo;omega,by omega,by rw[b1,a1];exact h.heads,by rw[b2,a2];exact h.pos,fun i h1 h2 hj=>?_,stepB_lv k ln (stepA_lv (lev:=lev) hrep hC hl h0 d h.lv),?_,?_⟩
 ·rw[b2,b4]
  obtain⟨p1,p2⟩:=stepA_at (C:=C) (x:=x) (ins:=ins) (repN C lev) d k ln L (by rw[h.pos];exact lt_of_get hl) i
  by_cases hik:i=k
  ·subst hik
   refine p2 ?_
   unfold jumps at hj
   rw[kindAt_of hl]at hj
   exact hj
  ·rw[p1 hik]
   have:=h.at_ i h1 (by omega) hj
   omega
 ·rw[b4]
  obtain⟨n,hn⟩:∃n,e+1 - k=n+1:=⟨e - k,by omega⟩
  rw[hn,Nat.add_mul]at hr
  rw[show e+1 - (k+1)=n by omega]
  omega
 ·have hf:=h.fin
  obtain⟨n,hn⟩:∃n,e+1 - k=n+1:=⟨e - k,by omega⟩
  rw[hn,runL,hl]at hf
  rw[show e+1 - (k+1)=n by omega]
  exact hf
theorem patch_next (hC:CxOk C)(hx:ScOk C x ins){e k:Nat}{ln:TLine}(he:endAt C.p x.f=some e)(h1:x.f+1≤k)(hk:k≤e)(hl:C.p[k]?=some ln)(A:Ls):
  (k+1≤e→patchE A.g.items A.g.items.length ((k+1:Nat):Int) (exitsF C.p A.pos (x.f+1) (k+1 - (x.f+1)))=(stepB C x k ln A).g.items)∧(k=e→A.g.items=(stepB C x k ln A).g.items):=by
 constructor
 ·intro hke
  unfold stepB
  by_cases h7:ln.fKind=7
  ·obtain⟨q1,q2,q3,q4,q5⟩:=exit_to hC hx he (by omega) (by omega) hl h7
   rw[if_pos ⟨h7,q5⟩]
   refine patch_one q3 q4 q1 (by omega) fun i k1 k2 k3 k4=>?_
   obtain⟨_,_,t3⟩:=to_line hC hx he (k:=k+1) k1 (by omega) hke k3 k4
   rw[Nat.add_sub_cancel]at t3
   exact t3.symm
  ·rw[if_neg (by omega)]
   refine patchE_none fun z hz=>?_
   obtain⟨i,k1,k2,k3,rfl⟩:=exitsF_mem hz
   intro hh
   obtain⟨t1,_⟩:=to_line hC hx he (k:=k+1) k1 (by omega) hke k3 hh
   rw[Nat.add_sub_cancel,kindAt_of hl]at t1
   exact h7 t1
 ·rintro rfl
  unfold stepB
  rw[if_neg]
  rintro⟨_,h⟩
  exact h (own_end he)
theorem patch_else (hC:CxOk C)(hx:ScOk C x ins){e k:Nat}{ln:TLine}(he:endAt C.p x.f=some e)(h1:x.f+1≤k)(hk:k≤e)(hl:C.p[k]?=some ln)(h4:ln.fKind=4)(pos:List Int)(l:List TItem)(v:Int):
  patchE l v (-(k:Int)) (exitsF C.p pos (x.f+1) (k+1 - (x.f+1)))=setArg l (atL pos (ownOf C.p k)) v:=by
 obtain⟨o1,o2,o3,o4⟩:=hx.own4 hC he h1 hk hl h4
 obtain⟨y,m,hy,y3,hm,_,_,_⟩:=elseAt_some o1
 have hky:=kindAt_of hy
 have hel:elseOf C.p (ownOf C.p k:Int)=(k:Int):=by rw[elseOf_at];exact endI_some o1
 refine patch_one (by unfold jumps;omega) (by unfold toOf;rw[if_neg (by omega),if_pos ⟨by omega,by omega⟩,hel]) (by omega) (by omega) fun i k1 k2 k3 k4=>?_
 unfold toOf at k4
 by_cases hi4:kindAt C.p i=4
 ·rw[if_pos hi4]at k4
  have:=endOf_ge C.p (ownOf C.p i)
  omega
 ·rw[if_neg hi4]at k4
  split at k4
  ·rename_i h3
   have hk':elseOf C.p (i:Int)=(k:Int):=by omega
   rw[elseOf_at]at hk'
   cases hie:elseAt C.p i with
   | none=>rw[hie]at hk';simp only[endI]at hk';omega
   | some j=>
    rw[hie]at hk'
    simp only[endI]at hk'
    have:j=k:=by omega
    subst this
    exact elseAt_inj hie o1
  ·have:=endOf_ge C.p i
   omega
end
end Go.Proofs.Ytogdbgmiigfmfaa
namespace Go.Proofs.Ytogdbgmiigfmfaa
open Go.Sim
set_option maxRecDepth 100000
set_option maxHeartbeats 4000000
structure PgOk (p:List TLine):Prop where
 len:p.length≤60
 small:smallT 1048576 (.lst 4 (p.map TLine.tr))
 line:∀(k:Nat) (ln:TLine),p[k]?=some ln→0≤ln.fKind∧ln.fKind≤7∧ln.fArgs.length≤4∧ln.fExpr.length≤20∧((ln.fKind=1∨ln.fKind=2∨ln.fKind=3∨ln.fKind=5∨ln.fKind=6)→exprOk ln.fExpr=true)
 fn:∀(g:Nat) (ln:TLine),p[g]?=some ln→ln.fKind=0→∃e,endAt p g=some e∧(localsOf p (g:Int)).length≤8∧ln.fArgs.length≤(localsOf p (g:Int)).length∧∀(k:Nat) (y:TLine),g < k→k < e→p[k]?=some y→y.fKind≠0∧(∀t∈y.fExpr,t.fKind=7→∃f,findN p 0 t.fName=some f∧(argsN p f:Int)=t.fNum)∧(y.fKind=4→∃i,g≤i∧i < k∧elseAt p i=some k)
theorem PgOk.cx {p:List TLine}(h:PgOk p){b:TBuild}{framed:Bool}{words args:Int}(ha:0≤args∧args≤4)(hw:0≤words∧words≤1000)(hi:0≤b.fInline∧b.fInline≤3):CxOk ⟨p,b,framed,words,args⟩:=
 ⟨h.len,h.small,h.line,h.fn,ha,hw,hi⟩
theorem chain_funs {F:Nat→Nat→Bool}{l:List TLine}(hF:∀k e,endAt l k=some e→F k e=true→∀i x,k < i→i < e→l[i]?=some x→x.fKind≠0):∀(n k:Nat),chainN F l n k=true→∀g x,k≤g→l[g]?=some x→x.fKind=0→∃e,endAt l g=some e∧F g e=true
 | 0,k,h,g,x,hk,hg,_=>by
  rw[chainN,decide_eq_true_eq]at h
  have:=lt_of_get hg
  omega
 | n+1,k,h,g,x,hk,hg,h0=>by
  rw[chainN,if_pos (by have:=lt_of_get hg;omega)]at h
  split at h
  ·rename_i y e hy he
   split at h
   ·rename_i hc
    by_cases hgk:g=k
    ·subst hgk;exact⟨e,he,hc.2⟩
    ·by_cases hge:g≤e
     ·by_cases hge2:g=e
      ·subst hge2
       obtain⟨z,hz,h7⟩:=endAt_kind he
       rw[hg]at hz
       injection hz with hz
       subst hz
       omega
      ·exact absurd h0 (hF k e he hc.2 g x (by omega) (by omega) hg)
     ·exact chain_funs hF n (e+1) h g x (by omega) hg h0
   ·cases h
  ·cases h
theorem body_known {l:List TLine}{locals:List (List UInt8)}{e:Nat}:∀(n i d:Nat),e - i≤n→e≤l.length→bodyN l locals e n i d=true→∀j x,i≤j→j < e→l[j]?=some x→exprKnown l locals x.fExpr=true
 | 0,i,d,hn,_,_,j,x,h1,h2,_=>by omega
 | n+1,i,d,hn,he,hb,j,x,h1,h2,hx=>by
  rw[bodyN,if_pos (by omega)]at hb
  obtain⟨y,hy⟩:=get_of_lt (l:=l) (k:=i) (by omega)
  rw[hy]at hb
  dsimp only at hb
  split at hb
  ·cases hb
  ·split at hb
   ·rename_i hk
    by_cases hj:j=i
    ·subst hj
     rw[hy]at hx
     injection hx with hx
     subst hx
     exact hk.2
    ·exact body_known n (i+1) _ (by omega) he hb j x (by omega) h2 hx
   ·cases hb
theorem addName_ge (acc:List (List UInt8))(s:List UInt8):acc.length≤(addName acc s).length:=by
 unfold addName
 split <;> simp
theorem locN_ge {l:List TLine}{e:Nat}:∀(n i:Nat) (acc:List (List UInt8)),acc.length≤(locN l e n i acc).length
 | 0,_,_=>by simp[locN]
 | n+1,i,acc=>by
  rw[locN]
  split
  ·split
   ·refine Nat.le_trans ?_ (locN_ge n _ _)
    split
    ·exact addName_ge _ _
    ·exact Nat.le_refl _
   ·exact Nat.le_refl _
  ·exact Nat.le_refl _
theorem hasExpr_iff {k:Int}:hasExpr k=true↔(k=1∨k=2∨k=3∨k=5∨k=6):=by
 unfold hasExpr
 simp
theorem lineOk_facts {x:TLine}(h:lineOk x=true):0≤x.fKind∧x.fKind≤7∧x.fArgs.length≤4∧x.fExpr.length≤20∧((x.fKind=1∨x.fKind=2∨x.fKind=3∨x.fKind=5∨x.fKind=6)→exprOk x.fExpr=true):=by
 have h4:x.fArgs.length≤4:=by
  rcases Nat.lt_or_ge 4 x.fArgs.length with h'|h'
  ·rw[lineOk_args h']at h;cases h
  ·exact h'
 unfold lineOk at h
 simp only[Bool.and_eq_true,within_iff]at h
 obtain⟨⟨h1,h2⟩,_,_,h3⟩:=h
 refine⟨h1,h2,h4,?_,fun hk=>by rw[if_pos (hasExpr_iff.2 hk)]at h3;exact h3⟩
 split at h3
 ·unfold exprOk at h3
  simp only[Bool.and_eq_true,decide_eq_true_eq]at h3
  exact h3.1
 ·have:=eq_of_beq h3
  omega
theorem PgOk_of {p:List TLine}(hs:smallT 1048576 (.lst 4 (p.map TLine.tr)))(h:programOk p=true):PgOk p:=by
 unfold programOk at h
 simp only[Bool.and_eq_true,decide_eq_true_eq]at h
 obtain⟨h1,_,h2,_,_,h3,h4⟩:=h
 have hS:=chainS_all p
 rw[h3,h4]at hS
 have hlines:∀(k:Nat) (ln:TLine),p[k]?=some ln→0≤ln.fKind∧ln.fKind≤7∧ln.fArgs.length≤4∧ln.fExpr.length≤20∧((ln.fKind=1∨ln.fKind=2∨ln.fKind=3∨ln.fKind=5∨ln.fKind=6)→exprOk ln.fExpr=true):=fun k ln hk=>lineOk_facts (List.all_eq_true.1 h2 ln (List.mem_of_getElem? hk))
 have hlt:∀k e,endAt p k=some e→e≤p.length:=fun k e he=>by obtain⟨_,_,_,_,_,h⟩:=endAt_some he;omega
 have hF:∀k e,endAt p k=some e→fnOkS p k e=true→∀i x,k < i→i < e→p[i]?=some x→x.fKind≠0:=fun k e he hf=>by
  rw[fnOkS_eq,Bool.and_eq_true]at hf
  exact fnOk_nofun hf.1 (hlt k e he)
 refine⟨h1,hs,hlines,fun g ln hg h0=>?_⟩
 obtain⟨e,he,hf⟩:=chain_funs hF p.length 0 hS g ln (Nat.zero_le _) hg h0
 have hf':=hf
 rw[fnOkS_eq,Bool.and_eq_true]at hf'
 obtain⟨hf1,hf2⟩:=hf'
 have hf1':=hf1
 rw[fnOk,Bool.and_eq_true,decide_eq_true_eq]at hf1'
 obtain⟨hl8,hbody⟩:=hf1'
 refine⟨e,he,hl8,?_,fun k y hk1 hk2 hy=>⟨hF g e he hf k y hk1 hk2 hy,fun t ht h7=>?_,fun h4'=>?_⟩⟩
 ·unfold localsOf
  rw[if_pos (by omega),Int.toNat_natCast,hg,he]
  dsimp only
  rw[if_pos h0]
  exact locN_ge _ _ _
 ·have hkn:=body_known (e - (g+1)) (g+1) 0 (Nat.le_refl _) (hlt g e he) hbody k y (by omega) hk2 hy
  unfold exprKnown at hkn
  have:=List.all_eq_true.1 hkn t ht
  unfold tokKnown at this
  rw[if_neg (by omega),if_pos h7]at this
  split at this
  ·rename_i f hfi
   refine⟨f,hfi,?_⟩
   unfold argsN
   split at this
   ·rename_i x hx
    (try rw[hx])
    exact eq_of_beq this
   ·cases this
  ·cases this
 ·have:=(elsesIn_iff (Nat.le_refl _)).1 hf2 k y (by omega) hk2 hy h4'
  rw[anyE_iff]at this
  obtain⟨i,i1,i2,i3⟩:=this
  exact⟨i,i1,by omega,i3⟩
def alike (p q:List TLine):Prop:=p.map (fun x=>(x.fKind,x.fName,x.fArgs))=q.map (fun x=>(x.fKind,x.fName,x.fArgs))
theorem alike.len {p q:List TLine}(h:alike p q):p.length=q.length:=by simpa using congrArg List.length h
theorem alike.get {p q:List TLine}(h:alike p q){k:Nat}{x:TLine}(hx:p[k]?=some x):∃y,q[k]?=some y∧x.fKind=y.fKind∧x.fName=y.fName∧x.fArgs=y.fArgs:=by
 have:=congrArg (·[k]?) h
 simp only[List.getElem?_map,hx,Option.map_some]at this
 cases hy:q[k]? with
 | none=>rw[hy]at this;cases this
 | some y=>
  rw[hy]at this
  simp only[Option.map_some,Option.some.injEq,Prod.mk.injEq]at this
  exact⟨y,rfl,this.1,this.2.1,this.2.2⟩
theorem alike.none {p q:List TLine}(h:alike p q){k:Nat}(hx:p[k]?=none):q[k]?=none:=by
 rw[List.getElem?_eq_none_iff]at hx ⊢
 have:=h.len
 omega
theorem alike.symm {p q:List TLine}(h:alike p q):alike q p:=Eq.symm h
theorem alike.drop {p q:List TLine}(h:alike p q)(n:Nat):alike (p.drop n) (q.drop n):=by
 unfold alike at *
 rw[List.map_drop,List.map_drop,h]
theorem alike.endN:∀{p q:List TLine},alike p q→∀(i o:Nat),endN p i o=endN q i o
 | [],[],_,_,_=>rfl
 | x::p,y::q,h,i,o=>by
  simp only[alike,List.map_cons,List.cons.injEq,Prod.mk.injEq]at h
  have ih:=alike.endN (p:=p) (q:=q) h.2
  rw[Go.Proofs.Ytogdbgmiigfmfaa.endN,Go.Proofs.Ytogdbgmiigfmfaa.endN,h.1.1,ih,ih,ih]
 | [],_::_,h,_,_=>by simp[alike]at h
 | _::_,[],h,_,_=>by simp[alike]at h
theorem alike.endAt {p q:List TLine}(h:alike p q)(k:Nat):endAt p k=endAt q k:=by
 unfold Go.Proofs.Ytogdbgmiigfmfaa.endAt
 cases hx:p[k]? with
 | none=>rw[h.none hx]
 | some x=>
  obtain⟨y,hy,e1,_⟩:=h.get hx
  rw[hy]
  dsimp only
  rw[e1,(h.drop (k+1)).endN]
theorem alike.elseN {p q:List TLine}(h:alike p q){e:Nat}:∀(n i:Nat),elseN p e n i=elseN q e n i
 | 0,_=>rfl
 | n+1,i=>by
  rw[Go.Proofs.Ytogdbgmiigfmfaa.elseN,Go.Proofs.Ytogdbgmiigfmfaa.elseN]
  cases hx:p[i]? with
  | none=>rw[h.none hx]
  | some x=>
   obtain⟨y,hy,e1,_⟩:=h.get hx
   rw[hy]
   dsimp only
   rw[e1,h.endAt i]
   cases Go.Proofs.Ytogdbgmiigfmfaa.endAt q i with
   | none=>dsimp only;rw[alike.elseN h n]
   | some m=>dsimp only;rw[alike.elseN h n,alike.elseN h n]
theorem alike.elseAt {p q:List TLine}(h:alike p q)(k:Nat):elseAt p k=elseAt q k:=by
 unfold Go.Proofs.Ytogdbgmiigfmfaa.elseAt
 rw[h.endAt k]
 cases hx:p[k]? with
 | none=>rw[h.none hx]
 | some x=>
  obtain⟨y,hy,e1,_⟩:=h.get hx
  rw[hy]
  cases Go.Proofs.Ytogdbgmiigfmfaa.endAt q k with
  | none=>rfl
  | some e=>dsimp only;rw[e1,h.elseN]
theorem alike.findN:∀{p q:List TLine},alike p q→∀(i:Nat) (s:List UInt8),findN p i s=findN q i s
 | [],[],_,_,_=>rfl
 | x::p,y::q,h,i,s=>by
  simp only[alike,List.map_cons,List.cons.injEq,Prod.mk.injEq]at h
  have ih:=alike.findN (p:=p) (q:=q) h.2
  rw[Go.Proofs.Ytogdbgmiigfmfaa.findN,Go.Proofs.Ytogdbgmiigfmfaa.findN,h.1.1,h.1.2.1,ih]
 | [],_::_,h,_,_=>by simp[alike]at h
 | _::_,[],h,_,_=>by simp[alike]at h
theorem alike.locN {p q:List TLine}(h:alike p q){e:Nat}:∀(n i:Nat) (acc:List (List UInt8)),locN p e n i acc=locN q e n i acc
 | 0,_,_=>rfl
 | n+1,i,acc=>by
  rw[Go.Proofs.Ytogdbgmiigfmfaa.locN,Go.Proofs.Ytogdbgmiigfmfaa.locN]
  cases hx:p[i]? with
  | none=>rw[h.none hx]
  | some x=>
   obtain⟨y,hy,e1,e2,_⟩:=h.get hx
   rw[hy]
   dsimp only
   rw[e1,e2,alike.locN h n]
theorem alike.localsOf {p q:List TLine}(h:alike p q)(k:Int):localsOf p k=localsOf q k:=by
 unfold Go.Proofs.Ytogdbgmiigfmfaa.localsOf
 rw[h.endAt]
 cases hx:p[k.toNat]? with
 | none=>rw[h.none hx]
 | some x=>
  obtain⟨y,hy,e1,_,e3⟩:=h.get hx
  rw[hy]
  cases Go.Proofs.Ytogdbgmiigfmfaa.endAt q k.toNat with
  | none=>rfl
  | some e=>dsimp only;rw[e1,e3,h.locN]
theorem alike.argsN {p q:List TLine}(h:alike p q)(g:Nat):argsN p g=argsN q g:=by
 unfold Go.Proofs.Ytogdbgmiigfmfaa.argsN
 cases hx:p[g]? with
 | none=>rw[h.none hx]
 | some x=>
  obtain⟨y,hy,_,_,e3⟩:=h.get hx
  rw[hy]
  dsimp only
  rw[e3]
theorem foldLine_alike (p:List TLine):alike (p.map foldLine) p:=by
 unfold alike
 rw[List.map_map]
 refine List.map_congr_left fun x _=>?_
 simp only[Function.comp,foldLine]
 split <;> rfl
theorem ar_num (v:Int):ar ⟨0,v,[]⟩=0:=by
 unfold ar arity
 split <;> simp
theorem numE_ok {v:Int}(h:within v 0 999=true):(numE v).ok:=⟨by simp[tokOk,h],by rw[ar_num];rfl,trivial⟩
theorem finF_ok {t:TTok}{fs:List Ex}(h1:tokOk t=true)(h2:fs.length=ar t)(h3:exsOk fs):(finF t fs).ok:=by
 unfold finF
 split
 ·split
  ·rename_i hc
   exact numE_ok hc.2.2.2
  ·exact⟨h1,h2,h3⟩
 ·exact⟨h1,h2,h3⟩
mutual
theorem Ex.fold_ok:∀e:Ex,e.ok→e.fold.ok
 | .node t es,h=>by rw[Ex.fold];exact finF_ok h.1 (by rw[exFold_len];exact h.2.1) (exFold_ok es h.2.2)
theorem exFold_ok:∀es:List Ex,exsOk es→exsOk (exFold es)
 | [],_=>by rw[exFold];trivial
 | a::es,h=>by rw[exFold];exact⟨a.fold_ok h.1,exFold_ok es h.2⟩
end
theorem finF_mem {t:TTok}{fs:List Ex}{z:TTok}(h:z∈(finF t fs).toks):z=t∨z∈exToks fs∨∃n,z=⟨0,n,[]⟩:=by
 unfold finF at h
 split at h
 ·split at h
  ·simp only[numE,Ex.toks,exToks,List.mem_cons,List.not_mem_nil,or_false]at h
   exact .inr (.inr ⟨_,h⟩)
  ·rw[Ex.toks,List.mem_cons]at h
   exact h.imp id .inl
 ·rw[Ex.toks,List.mem_cons]at h
  exact h.imp id .inl
mutual
theorem Ex.fold_mem:∀(e:Ex) {z:TTok},z∈e.fold.toks→z∈e.toks∨∃n,z=⟨0,n,[]⟩
 | .node t es,z,h=>by
  rw[Ex.fold]at h
  rw[Ex.toks,List.mem_cons]
  rcases finF_mem h with h|h|h
  ·exact .inl (.inl h)
  ·rcases exFold_mem es h with h|h
   ·exact .inl (.inr h)
   ·exact .inr h
  ·exact .inr h
theorem exFold_mem:∀(es:List Ex) {z:TTok},z∈exToks (exFold es)→z∈exToks es∨∃n,z=⟨0,n,[]⟩
 | [],z,h=>by rw[exFold]at h;exact .inl h
 | a::es,z,h=>by
  rw[exFold,exToks,List.mem_append]at h
  rw[exToks,List.mem_append]
  rcases h with h|h
  ·exact(a.fold_mem h).imp .inl id
  ·exact(exFold_mem es h).imp .inr id
end
theorem exprOk_of {e:Ex}(ho:e.ok)(hl:e.toks.length≤20):exprOk e.toks=true:=by
 have h:=stands_end (l:=e.toks) (p:=0) ⟨[],by rw[List.drop_zero,List.append_nil]⟩ ho
 have hp:=e.toks_pos
 unfold exprOk
 rw[decide_eq_true hl,decide_eq_true hp,show exprEnd e.toks 0=_ from h]
 simp
theorem foldL_facts {l:List TTok}(h:exprOk l=true):exprOk (foldL l)=true∧∀z∈foldL l,z∈l∨∃n,z=⟨0,n,[]⟩:=by
 obtain⟨e,h1,h2,h3⟩:=foldL_ok h
 have hl:=foldL_len l
 have h20:l.length≤20:=by
  unfold exprOk at h
  simp only[Bool.and_eq_true,decide_eq_true_eq]at h
  exact h.1
 rw[h3]at hl ⊢
 refine⟨exprOk_of (e.fold_ok h1) (by omega),fun z hz=>?_⟩
 rw[h2]
 exact e.fold_mem hz
theorem smallRs_ofI {L:Int}:∀{rows:List (List Tr)},(∀r∈rows,smallR L r)→smallRs L rows
 | [],_=>by rw[smallRs];trivial
 | r::rs,h=>by rw[smallRs];exact⟨h r (by simp),smallRs_ofI fun x hx=>h x (by simp[hx])⟩
theorem foldLine_facts {x:TLine}(hs:smallR 1048576 x.tr)(he:(x.fKind=1∨x.fKind=2∨x.fKind=3∨x.fKind=5∨x.fKind=6)→exprOk x.fExpr=true)(h20:x.fExpr.length≤20):
  (foldLine x).fKind=x.fKind∧(foldLine x).fArgs=x.fArgs∧(foldLine x).fExpr.length≤20∧((x.fKind=1∨x.fKind=2∨x.fKind=3∨x.fKind=5∨x.fKind=6)→exprOk (foldLine x).fExpr=true)∧(∀z∈(foldLine x).fExpr,z∈x.fExpr∨∃n,z=⟨0,n,[]⟩)∧smallR 1048576 (foldLine x).tr:=by
 unfold foldLine
 split
 ·rename_i hpos
  have hl:=foldL_len x.fExpr
  have hz:∀z∈foldL x.fExpr,z∈x.fExpr∨∃n,z=⟨0,n,[]⟩:=by
   cases hx:exprOk x.fExpr with
   | true=>exact(foldL_facts hx).2
   | false=>rw[foldL_no hx];intro z hz;cases hz
  refine⟨rfl,rfl,by dsimp only;omega,fun hk=>(foldL_facts (he hk)).1,hz,?_⟩
  simp only[TLine.tr,smallR]at hs ⊢
  obtain⟨q0,q1,q2,q3,q4⟩:=hs
  refine⟨q0,q1,q2,?_,q4⟩
  have hsl:=small_len q3
  rw[smallT]
  refine⟨by rw[List.length_map];omega,smallRs_ofI fun r hr=>?_⟩
  obtain⟨z,hz1,rfl⟩:=List.mem_map.1 hr
  rcases hz z hz1 with h|⟨n,rfl⟩
  ·exact smallRs_map q3 h
  ·simp[TTok.tr,smallR,smallT]
 ·exact⟨rfl,rfl,h20,he,fun z hz=> .inl hz,hs⟩
theorem PgOk.fold {p:List TLine}(h:PgOk p):PgOk (p.map foldLine):=by
 have ha:=foldLine_alike p
 have hget:∀{k:Nat} {y:TLine},(p.map foldLine)[k]?=some y→∃x,p[k]?=some x∧y=foldLine x:=fun{k y} hy=>by
  rw[List.getElem?_map]at hy
  cases hx:p[k]? with
  | none=>rw[hx]at hy;cases hy
  | some x=>rw[hx]at hy;injection hy with hy;exact⟨x,rfl,hy.symm⟩
 have hf:∀{k:Nat} {x:TLine},p[k]?=some x→_:=fun{k x} hx=>foldLine_facts (smallRs_map h.small (List.mem_of_getElem? hx)) (h.line k x hx).2.2.2.2 (h.line k x hx).2.2.2.1
 refine⟨by rw[List.length_map];exact h.len,?_,fun k y hy=>?_,fun g y hy h0=>?_⟩
 ·rw[smallT]
  refine⟨by have:=h.len;simp;omega,smallRs_ofI fun r hr=>?_⟩
  obtain⟨y,hy,rfl⟩:=List.mem_map.1 hr
  obtain⟨x,hx,rfl⟩:=List.mem_map.1 hy
  obtain⟨k,hk,hkx⟩:=List.mem_iff_getElem.1 hx
  exact(hf (k:=k) (x:=x) (by rw[List.getElem?_eq_getElem hk,hkx])).2.2.2.2.2
 ·obtain⟨x,hx,rfl⟩:=hget hy
  obtain⟨f1,f2,f3,f4,_⟩:=hf hx
  obtain⟨l1,l2,l3,_⟩:=h.line k x hx
  rw[f1,f2]
  exact⟨l1,l2,l3,f3,f4⟩
 ·obtain⟨x,hx,rfl⟩:=hget hy
  obtain⟨f1,f2,_⟩:=hf hx
  rw[f1]at h0
  obtain⟨e,he,q1,q2,q3⟩:=h.fn g x hx h0
  refine⟨e,by rw[ha.endAt];exact he,by rw[ha.localsOf];exact q1,by rw[ha.localsOf,f2];exact q2,fun k y hk1 hk2 hy=>?_⟩
  obtain⟨z,hz,rfl⟩:=hget hy
  obtain⟨g1,_,_,_,g5,_⟩:=hf hz
  obtain⟨r1,r2,r3⟩:=q3 k z hk1 hk2 hz
  refine⟨by rw[g1];exact r1,fun t ht h7=>?_,fun h4=>?_⟩
  ·rcases g5 t ht with h'|⟨n,rfl⟩
   ·obtain⟨f,hf1,hf2⟩:=r2 t h' h7
    exact⟨f,by rw[ha.findN];exact hf1,by rw[ha.argsN];exact hf2⟩
   ·exact absurd h7 (show ¬(0:Int)=7 by decide)
  ·rw[g1]at h4
   obtain⟨i,i1,i2,i3⟩:=r3 h4
   exact⟨i,i1,i2,by rw[ha.elseAt];exact i3⟩
end Go.Proofs.Ytogdbgmiigfmfaa
namespace Go.Proofs.Ytogdbgmiigfmfaa
open Go.Sim
set_option maxRecDepth 100000
set_option maxHeartbeats 4000000
abbrev scRow (x:Sc)(lv:List Int):List DC:=[.d (.int .i64 (x.f:Int)),.t (.lst 1 (x.chain.map intRow)),.t (.lst 1 (x.locals.map strRow)),.d (.int .i64 x.first),.d (.bool x.outer),.d (.lst (if x.outer=true then 0 else 1) (lv.map intRow))]
abbrev scV (x:Sc):AV:= .r (.agg [.t (.int .i64 (x.f:Int)),.t (.lst 1 (x.chain.map intRow)),.t (.lst 1 (x.locals.map strRow)),.t (.int .i64 x.first),.t (.bool x.outer),.opq])
abbrev vInts (l:List Int):AV:= .r (.c (.t (.lst 1 (l.map intRow))))
abbrev itR (l:List TItem):List (List DC):=deepRows (l.map TItem.tr)
abbrev mkrB (C:Cx)(s:Gs)(d:Int)(i1 i2:Sim.Id):AO:= .box [.t (.lst 4 (C.p.map TLine.tr)),.t (.int .i64 C.b.fFrames),.t (.int .i64 C.b.fInline),.t (.bool C.b.fFold),.t (.bool C.b.fSplit),.t (.bool C.framed),.t (.int .i64 C.words),.t (.int .i64 s.most),.t (.int .i64 C.args),.t (.int .i64 d),.own i1,.own i2,.t (.bool s.start)]
abbrev mkrH (i1 i2:Sim.Id)(C:Cx)(s:Gs)(d:Int)(S:List (List DC)):List (Sim.Id×AO):=[((0,0,0),mkrB C s d i1 i2),(i1,.dar 7 (itR s.items) none),(i2,.dar 6 S none)]
abbrev mkrP:AV:= .r (.c (.ptr (0,0,0) 0))
theorem itR_len (l:List TItem):(itR l).length=l.length:=by rw[itR,deepRows_length,List.length_map]
theorem itR_snoc (l:List TItem)(x:TItem):itR (l++[x])=itR l++[x.tr.map .d]:=by simp[itR,deepRows]
def roomy (s:Gs):Prop:=s.items.length≤68719476736
theorem g_spec_emit (C:Cx)(s:Gs)(d:Int)(S:List (List DC))(code arg line:Int)(chain:List Int)(h1:roomy s)(h2:chain.length≤100):SpecG Try.prog 149 [mkrP,tI .i64 code,tI .i64 arg,tI .i64 line,vInts chain] (mkrH (0,0,1) (0,0,2) C s d S) (.tup []) (mkrH (1,0,1) (0,0,2) C (emitG C s d code arg line chain) d S):=by
 refine specG_of_Wo hΓ hmix Try.func149 rfl (by decide) rfl rfl ?_
 unfold roomy at h1
 have hlen:=itR_len s.items
 have hcl:(chain.map intRow).length=chain.length:=by simp
 have hfl:=flat_ints chain
 repeat' ((conv=>whnf);first|(with_reducible first|apply Wx|apply W6)|apply oi|(apply fi<;>intro h)|refine⟨_,rfl,?_⟩|((with_reducible show _=_);rfl))
 all_goals try((with_reducible refine Obl.mk ?_);exact KP)
 all_goals try exact⟨⟨by rw[hlen];(try dsimp only);omega,by rw[hlen];(try dsimp only);omega⟩⟩
 all_goals try exact⟨⟨by simp <;> omega,by simp <;> omega⟩⟩
 all_goals try exact⟨by simpa using hfl⟩
 all_goals(refine⟨?_⟩;(try rw[hlen]at *);rw[emitG,itR_snoc];congr 1;simp_all[mkItem,TItem.tr])
theorem g_spec_place (C:Cx)(hC:CxOk C)(s:Gs)(d:Int)(S:List (List DC))(x:Sc)(i:Int)(store:Bool)(hd:-2000≤d∧d≤2000)(hx:0≤x.first∧x.first≤1000)(hi:-2≤i∧i≤100):SpecG Try.prog 171 [mkrP,scV x,tI .i64 i,tB store] (mkrH (0,0,1) (0,0,2) C s d S) (.tup [.c (.t (.int .i64 (placeC C store))),.c (.t (.int .i64 (placeA C x d i)))]) (mkrH (0,0,1) (0,0,2) C s d S):=by
 refine specG_of_Wo hΓ hmix Try.func171 rfl (by decide) rfl rfl ?_
 obtain⟨a1,a2⟩:=hC.args
 repeat' ((conv=>whnf);first|(with_reducible first|apply Wx|apply W6)|apply oi|(apply fi<;>intro h)|refine⟨_,rfl,?_⟩|((with_reducible show _=_);rfl))
 all_goals try((with_reducible refine Obl.mk ?_);exact KP)
 all_goals try(exfalso;simp_all;done)
 all_goals(refine⟨congrArg (Tr.int _) ?_⟩;(try unfold placeC);(try unfold placeA isArg aboveK);(try simp(disch:=omega)only[IntWalk.i64_in]);simp_all <;> omega)
theorem g_spec_load (C:Cx)(hC:CxOk C)(s:Gs)(d:Int)(S:List (List DC))(x:Sc)(i line:Int)(h1:roomy s)(h2:x.chain.length≤100)(hd:-1000≤d∧d≤1999)(hx:0≤x.first∧x.first≤1000)(hi:-2≤i∧i≤100):SpecG Try.prog 168 [mkrP,scV x,tI .i64 i,tI .i64 line] (mkrH (0,0,1) (0,0,2) C s d S) (.tup []) (mkrH (1,0,1) (0,0,2) C (loadG C x s d i line) (d+1) S):=by
 refine specG_of_Wo hΓ hmix Try.func168 rfl (by decide) rfl rfl ?_
 have g1:=g_spec_place C hC s d S x i false (by omega) hx hi
 have g2:=g_spec_emit C s d S (placeC C false) (placeA C x d i) line x.chain h1 h2
 repeat' ((conv=>whnf);first|(with_reducible first|apply Wx|apply W6)|apply oi|(apply fi<;>intro h)|refine⟨_,rfl,?_⟩|((with_reducible show _=_);rfl))
 all_goals try((with_reducible refine Obl.mk ?_);exact KP)
 refine cg (g1) ?_
 repeat' ((conv=>whnf);first|(with_reducible first|apply Wx|apply W6)|apply oi|(apply fi<;>intro h)|refine⟨_,rfl,?_⟩|((with_reducible show _=_);rfl))
 all_goals try((with_reducible refine Obl.mk ?_);exact KP)
 refine cg (g2) ?_
 repeat' ((conv=>whnf);first|(with_reducible first|apply Wx|apply W6)|apply oi|(apply fi<;>intro h)|refine⟨_,rfl,?_⟩|((with_reducible show _=_);rfl))
 all_goals try((with_reducible refine Obl.mk ?_);exact KP)
 all_goals try exact⟨KW⟩
theorem g_spec_store (C:Cx)(hC:CxOk C)(s:Gs)(d:Int)(S:List (List DC))(x:Sc)(i line:Int)(chain:List Int)(h1:roomy s)(h2:chain.length≤100)(hd:-1000≤d∧d≤2000)(hx:0≤x.first∧x.first≤1000)(hi:-2≤i∧i≤100):SpecG Try.prog 164 [mkrP,scV x,tI .i64 i,tI .i64 line,vInts chain] (mkrH (0,0,1) (0,0,2) C s d S) (.tup []) (mkrH (1,0,1) (0,0,2) C (storeG C x s d i line chain) (d - 1) S):=by
 refine specG_of_Wo hΓ hmix Try.func164 rfl (by decide) rfl rfl ?_
 have g1:=g_spec_place C hC s d S x i true (by omega) hx hi
 have g2:=g_spec_emit C s d S (placeC C true) (placeA C x d i) line chain h1 h2
 repeat' ((conv=>whnf);first|(with_reducible first|apply Wx|apply W6)|apply oi|(apply fi<;>intro h)|refine⟨_,rfl,?_⟩|((with_reducible show _=_);rfl))
 all_goals try((with_reducible refine Obl.mk ?_);exact KP)
 refine cg (g1) ?_
 repeat' ((conv=>whnf);first|(with_reducible first|apply Wx|apply W6)|apply oi|(apply fi<;>intro h)|refine⟨_,rfl,?_⟩|((with_reducible show _=_);rfl))
 all_goals try((with_reducible refine Obl.mk ?_);exact KP)
 refine cg (g2) ?_
 repeat' ((conv=>whnf);first|(with_reducible first|apply Wx|apply W6)|apply oi|(apply fi<;>intro h)|refine⟨_,rfl,?_⟩|((with_reducible show _=_);rfl))
 all_goals try((with_reducible refine Obl.mk ?_);exact KP)
 all_goals try exact⟨KW⟩
theorem g_spec_number (C:Cx)(s:Gs)(d:Int)(S:List (List DC))(v line:Int)(chain:List Int)(h1:roomy s)(h2:chain.length≤100)(hd:-1000≤d∧d≤1999):SpecG Try.prog 161 [mkrP,tI .i64 v,tI .i64 line,vInts chain] (mkrH (0,0,1) (0,0,2) C s d S) (.tup []) (mkrH (1,0,1) (0,0,2) C (emitG C s d 0 v line chain) (d+1) S):=by
 refine specG_of_Wo hΓ hmix Try.func161 rfl (by decide) rfl rfl ?_
 have g2:=g_spec_emit C s d S 0 v line chain h1 h2
 repeat' ((conv=>whnf);first|(with_reducible first|apply Wx|apply W6)|apply oi|(apply fi<;>intro h)|refine⟨_,rfl,?_⟩|((with_reducible show _=_);rfl))
 all_goals try((with_reducible refine Obl.mk ?_);exact KP)
 refine cg (g2) ?_
 repeat' ((conv=>whnf);first|(with_reducible first|apply Wx|apply W6)|apply oi|(apply fi<;>intro h)|refine⟨_,rfl,?_⟩|((with_reducible show _=_);rfl))
 all_goals try((with_reducible refine Obl.mk ?_);exact KP)
 all_goals try exact⟨KW⟩
abbrev scH (l:List (Sc×List Int)):List (List DC):=l.map fun y=>scRow y.1 y.2
theorem g_spec_leave (C:Cx)(hC:CxOk C)(s:Gs)(d:Int)(S:List (Sc×List Int))(x:Sc)(lv:List Int)(k:Nat)(last:Bool)(h1:roomy s)(h2:x.chain.length≤100)(hd:-1000≤d∧d≤2000)(hS:S.length≤100)(hlv:lv.length≤68719476736)(hd p:List Int):
  SpecG Try.prog 162 [mkrP,tI .i64 (k:Int),tB last] (mkrH (0,0,1) (0,0,2) C s d (scH (S++[(x,lv)]))) (.tup []) (mkrH (1,0,1) (1,0,2) C (leaveG C x k last d ⟨s,hd,p,lv⟩).g (d - 1) (scH (S++[(x,(leaveG C x k last d ⟨s,hd,p,lv⟩).lv)]))):=by
 refine specG_of_Wo hΓ hmix Try.func162 rfl (by decide) rfl rfl ?_
 obtain⟨f,chain,locals,first,outer⟩:=x
 have hlen:=itR_len s.items
 have hsl:(scH (S++[(⟨f,chain,locals,first,outer⟩,lv)])).length=S.length+1:=by simp
 have hrow:(scH (S++[(⟨f,chain,locals,first,outer⟩,lv)]))[S.length]?=some (scRow ⟨f,chain,locals,first,outer⟩ lv):=by simp
 have hw:IntKind.i64.wrap (((scH (S++[(⟨f,chain,locals,first,outer⟩,lv)])).length:Int) - 1)=(S.length:Int):=by rw[hsl,IntWalk.i64_in _ (by omega)];omega
 have hfl:=flat_ints lv
 have hfl2:=flat_ints (lv++[(s.items.length:Int)])
 have hlt:S.length < (scH (S++[(⟨f,chain,locals,first,outer⟩,lv)])).length:=by omega
 have hll:(lv.map intRow).length=lv.length:=by simp
 unfold roomy at h1
 cases outer with
 | false=>
  cases last with
  | true=>
   have e:leaveG C ⟨f,chain,locals,first,false⟩ k true d ⟨s,hd,p,lv⟩=⟨s,hd,p,lv⟩:=by simp[leaveG]
   rw[e]
   repeat' ((conv=>whnf);first|(with_reducible first|apply Wx|apply W6)|apply oi|(apply fi<;>intro h)|refine⟨S.length,hw,hlt,?_⟩|refine⟨_,hrow,?_⟩|refine⟨_,rfl,?_⟩|((with_reducible show _=_);rfl))
   all_goals try((with_reducible refine Obl.mk ?_);exact KP)
   all_goals try exact⟨KW⟩
   all_goals(exfalso;simp_all;done)
  | false=>
   have e:leaveG C ⟨f,chain,locals,first,false⟩ k false d ⟨s,hd,p,lv⟩=⟨emitG C s d 10 0 k chain,hd,p,lv++[(s.items.length:Int)]⟩:=by simp[leaveG]
   rw[e]
   have g:=g_spec_emit C s d ((scH (S++[(⟨f,chain,locals,first,false⟩,lv)])).set S.length [.d (.int .i64 (f:Int)),.t (.lst 1 (chain.map intRow)),.t (.lst 1 (locals.map strRow)),.d (.int .i64 first),.d (.bool false),.d (.lst 1 (lv.map intRow++[[.int .i64 ((itR s.items).length:Int)]]))]) 10 0 k chain h1 h2
   repeat' ((conv=>whnf);first|(with_reducible first|apply Wx|apply W6)|refine cg g ?_|apply oi|(apply fi<;>intro h)|refine⟨S.length,hw,hlt,?_⟩|refine⟨_,hrow,?_⟩|refine⟨_,(List.getElem?_set_self hlt),?_⟩|refine⟨_,rfl,?_⟩|((with_reducible show _=_);rfl))
   all_goals try((with_reducible refine Obl.mk ?_);exact KP)
   all_goals try exact⟨hfl⟩
   all_goals try exact⟨⟨by rw[hll];(try dsimp only);simp <;> omega,by rw[hll];(try dsimp only);simp <;> omega⟩⟩
   all_goals try exact⟨by rw[hlen];first|(simp[intRow];done)|simpa [intRow]using hfl2⟩
   all_goals try exact⟨KW⟩
   all_goals try(exfalso;simp_all;done)
   all_goals(refine⟨?_⟩;rw[hlen];simp[List.set_append,intRow])
 | true=>
  have g1:=g_spec_emit C s d (scH (S++[(⟨f,chain,locals,first,true⟩,lv)])) 14 C.args k chain h1 h2
  have g2:=g_spec_emit C s d (scH (S++[(⟨f,chain,locals,first,true⟩,lv)])) 16 (C.args+16 * C.words) k chain h1 h2
  obtain⟨a1,a2⟩:=hC.args
  obtain⟨a3,a4⟩:=hC.words
  have e2:IntKind.i64.wrap (C.args+IntKind.i64.wrap (16 * C.words))=C.args+16 * C.words:=by simp(disch:=omega)only[IntWalk.i64_in]
  rw[←e2]at g2
  cases hf:C.framed with
  | true=>
   have e:leaveG C ⟨f,chain,locals,first,true⟩ k last d ⟨s,hd,p,lv⟩=⟨emitG C s d 14 C.args k chain,hd,p,lv⟩:=by simp[leaveG,hf]
   rw[e]
   repeat' ((conv=>whnf);first|(with_reducible first|apply Wx|apply W6)|refine cg g1 ?_|apply oi|(apply fi<;>intro h)|refine⟨S.length,hw,hlt,?_⟩|refine⟨_,hrow,?_⟩|refine⟨_,rfl,?_⟩|((with_reducible show _=_);rfl))
   all_goals try((with_reducible refine Obl.mk ?_);exact KP)
   all_goals try exact⟨KW⟩
   all_goals(exfalso;simp_all;done)
  | false=>
   have e:leaveG C ⟨f,chain,locals,first,true⟩ k last d ⟨s,hd,p,lv⟩=⟨emitG C s d 16 (IntKind.i64.wrap (C.args+IntKind.i64.wrap (16 * C.words))) k chain,hd,p,lv⟩:=by simp[leaveG,hf,e2]
   rw[e]
   repeat' ((conv=>whnf);first|(with_reducible first|apply Wx|apply W6)|refine cg g2 ?_|apply oi|(apply fi<;>intro h)|refine⟨S.length,hw,hlt,?_⟩|refine⟨_,hrow,?_⟩|refine⟨_,rfl,?_⟩|((with_reducible show _=_);rfl))
   all_goals try((with_reducible refine Obl.mk ?_);exact KP)
   all_goals try exact⟨KW⟩
   all_goals(exfalso;simp_all;done)
end Go.Proofs.Ytogdbgmiigfmfaa
namespace Go.Proofs.Ytogdbgmiigfmfaa
open Go.Sim
set_option maxRecDepth 100000
set_option maxHeartbeats 4000000
abbrev exRow (e:Int×Int):List Tr:=[.int .i64 e.1,.int .i64 e.2]
theorem setArg_at {l:List TItem}{j:Nat}{x:TItem}(h:l[j]?=some x)(v:Int):setArg l (j:Int) v=l.set j ⟨⟨x.fOp.fCode,v⟩,x.fLine,x.fStart,x.fChain,x.fDepth,x.fEntered⟩:=by
 rw[setArg,if_pos (by omega),Int.toNat_natCast,h]
theorem itR_setArg {l:List TItem}{j:Nat}{x:TItem}(h:l[j]?=some x)(v:Int):itR (setArg l (j:Int) v)=(itR l).set j [.d (.int .i64 x.fOp.fCode),.d (.int .i64 v),.d (.int .i64 x.fLine),.d (.bool x.fStart),.d (.lst 1 (x.fChain.map intRow)),.d (.int .i64 x.fDepth),.d (.bool x.fEntered)]:=by
 rw[setArg_at h]
 simp[deepRows,List.map_set,TItem.tr]
theorem itR_get {l:List TItem}{j:Nat}{x:TItem}(h:l[j]?=some x):(itR l)[j]?=some (x.tr.map .d):=deepRows_get (map_get h)
theorem g_spec_patch (C:Cx)(s:Gs)(d:Int)(S:List (List DC))(E:List (Int×Int))(to:Int)(h1:roomy s)(hE:E.length≤100)(hin:∀e∈E,0≤e.2∧e.2 < s.items.length):
  SpecG Try.prog 160 [mkrP,.r (.c (.own (0,1,0))),tI .i64 to] (mkrH (0,0,1) (0,0,2) C s d S++[((0,1,0),.arr false 2 (E.map exRow))]) (.tup []) (mkrH (0,0,1) (0,0,2) C ⟨patchE s.items s.items.length to E,s.most,s.start⟩ d S++[((0,1,0),.arr false 2 (E.map exRow))]):=by
 refine specG_of_Wo hΓ hmix Try.func160 rfl (by decide) rfl rfl ?_
 have hEl:(E.map exRow).length=E.length:=by simp
 unfold roomy at h1
 repeat' ((conv=>whnf);first|(with_reducible first|apply Wx|apply W6)|apply oi|(apply fi<;>intro h)|refine⟨_,rfl,?_⟩|((with_reducible show _=_);rfl))
 all_goals try((with_reducible refine Obl.mk ?_);exact KP)
 conv=>whnf
 refine⟨{k:Nat // k≤E.length},fun q=>⟨[(0,mkrP),(1,.r (.c (.own (0,1,0)))),(2,tI .i64 to),(6,tI .i64 (q.1:Int))],[((0,0,0),some (mkrB C s d (0,0,1) (0,0,2))),((0,0,1),some (.dar 7 (itR (patchE s.items s.items.length to (E.take q.1))) none)),((0,0,2),some (.dar 6 S none)),((0,1,0),some (.arr false 2 (E.map exRow)))],[0]⟩,fun q=>E.length - q.1,⟨0,by omega⟩,?_,?_⟩
 ·skip
  repeat' ((conv=>whnf);first|(with_reducible first|apply Wx|apply W6)|apply oi|(apply fi<;>intro h)|refine⟨_,rfl,?_⟩|((with_reducible show _=_);rfl))
  all_goals try((with_reducible refine Obl.mk ?_);exact KP)
 intro⟨k,hk⟩
 dsimp only at hk ⊢
 have hpl:=patchE_len s.items.length to (E.take k) s.items
 have hil:(itR (patchE s.items s.items.length to (E.take k))).length=s.items.length:=by rw[itR_len,hpl]
 by_cases hlt:k < E.length
 ·obtain⟨e,he⟩:=get_of_lt hlt
  obtain⟨i1,i2⟩:=hin e (List.mem_of_getElem? he)
  obtain⟨j,hj⟩:=Int.eq_ofNat_of_zero_le i1
  have hjl:j < (itR (patchE s.items s.items.length to (E.take k))).length:=by rw[hil];omega
  obtain⟨x,hx⟩:=get_of_lt (l:=patchE s.items s.items.length to (E.take k)) (k:=j) (by rw[hpl];omega)
  have hkl:k < (E.map exRow).length:=by rw[hEl];exact hlt
  have hnext:E.take (k+1)=E.take k++[e]:=by rw[List.take_add_one,he];rfl
  have hps:=patchE_snoc s.items.length to e (E.take k) s.items
  repeat' ((conv=>whnf);first|(with_reducible first|apply Wx|apply W6)|apply oi|(apply fi<;>intro h)|refine⟨k,rfl,hkl,?_⟩|refine⟨exRow e,(map_get he),?_⟩|refine⟨j,hj,hjl,?_⟩|refine⟨_,(itR_get hx),?_⟩|refine⟨_,rfl,?_⟩|((with_reducible show _=_);rfl))
  all_goals try((with_reducible refine Obl.mk ?_);exact KP)
  all_goals try exact KX
  all_goals(conv=>whnf)
  all_goals(refine⟨⟨k+1,by omega⟩,?_,by dsimp only;omega⟩)
  repeat' ((conv=>whnf);first|(with_reducible first|apply Wx|apply W6)|apply oi|(apply fi<;>intro h)|refine⟨_,rfl,?_⟩|((with_reducible show _=_);rfl))
  all_goals try((with_reducible refine Obl.mk ?_);exact KP)
  all_goals try exact⟨KW⟩
  all_goals(refine⟨?_⟩;(try rw[hil]);rw[hnext,hps])
  ·rw[if_pos (by simpa using h),hj,itR_setArg hx];rfl
  ·rw[if_neg (by simpa using h)]
 ·skip
  repeat' ((conv=>whnf);first|(with_reducible first|apply Wx|apply W6)|apply oi|(apply fi<;>intro h)|refine⟨_,rfl,?_⟩|((with_reducible show _=_);rfl))
  all_goals try((with_reducible refine Obl.mk ?_);exact KP)
  all_goals try exact KX
  all_goals(refine⟨?_⟩;rw[List.take_of_length_le (by omega)])
abbrev insOf (S:List (Sc×List Int)):List Nat:=S.map fun y=>y.1.f
theorem g_spec_replaced (C:Cx)(hC:CxOk C)(s:Gs)(d:Int)(S:List (Sc×List Int))(g:Nat)(h1:roomy s)(hS:1≤S.length∧S.length≤100)(hg:g < C.p.length):
  SpecG Try.prog 169 [mkrP,tI .i64 (g:Int)] (mkrH (0,0,1) (0,0,2) C s d (scH S)) (tB (replB C (insOf S) g s.items.length)) (mkrH (0,0,1) (0,0,2) C s d (scH S)):=by
 refine specG_of_Wo hΓ hmix Try.func169 rfl (by decide) rfl rfl ?_
 unfold roomy at h1
 have hlen:=itR_len s.items
 have hsl:(scH S).length=S.length:=by simp
 have hpl:(C.p.map TLine.tr).length=C.p.length:=by simp
 have hE:=s_spec_EndOf C.p (g:Int) (by have:=hC.len;omega)
 have hil:(insOf S).length=S.length:=by simp
 have h60:=hC.len
 have hin:=hC.inl
 have hee:-1≤endOf C.p (g:Int)∧endOf C.p (g:Int)≤60:=by
  rw[endOf_at]
  cases he:endAt C.p g with
  | none=>simp[endI]
  | some e=>have:=endAt_some he;obtain⟨_,_,_,_,_,h⟩:=this;simp only[endI];omega
 unfold replB
 rw[hil]
 generalize endOf C.p (g:Int)=eg at *
 have hw1:IntKind.i64.wrap (((scH S).length:Int) - 1)=(S.length:Int) - 1:=by rw[hsl,IntWalk.i64_in _ (by omega)]
 have hw2:IntKind.i64.wrap (eg - (g:Int))=eg - g:=by rw[IntWalk.i64_in _ (by omega)]
 repeat' ((conv=>whnf);first|(with_reducible first|apply Wx|apply W6)|apply oi|(apply fi<;>intro h)|refine cl hE ?_|refine⟨_,rfl,?_⟩|((with_reducible show _=_);rfl))
 all_goals try((with_reducible refine Obl.mk ?_);exact KP)
 all_goals try(refine⟨congrArg Tr.bool ?_⟩;(try rw[hw1]at h);(try rw[hw2]at h);(try rw[hlen]at h);simp only[decide_eq_true_eq]at h;symm;simp only[Bool.and_eq_false_iff,decide_eq_false_iff_not];omega)
 conv=>whnf
 refine⟨{k:Nat // k≤S.length∧((insOf S).take k).contains g=false},fun q=>⟨[(0,mkrP),(1,tI .i64 (g:Int)),(5,tI .i64 (q.1:Int))],(mkrH (0,0,1) (0,0,2) C s d (scH S)).map (fun p=>(p.1,some p.2)),[0]⟩,fun q=>S.length - q.1,⟨0,by omega,by simp⟩,?_,?_⟩
 ·skip
  repeat' ((conv=>whnf);first|(with_reducible first|apply Wx|apply W6)|apply oi|(apply fi<;>intro h)|refine⟨_,rfl,?_⟩|((with_reducible show _=_);rfl))
  all_goals try((with_reducible refine Obl.mk ?_);exact KP)
 rename_i ha hb
 rw[hw1]at ha
 rw[hw2]at hb
 rw[hlen]at h
 simp only[decide_eq_false_iff_not]at ha hb h
 have hfin:∀c:Bool,(decide ((S.length:Int)≤C.b.fInline) && (decide (eg - (g:Int)≤9) && (decide (s.items.length < 200) && !c)))= !c:=fun c=>by
  rw[decide_eq_true (by omega),decide_eq_true (by omega),decide_eq_true (by omega)];rfl
 rw[hfin]
 clear hfin
 intro⟨k,hk,hno⟩
 dsimp only at hk hno ⊢
 by_cases hlt:k < S.length
 ·obtain⟨y,hy⟩:=get_of_lt hlt
  have hyr:(scH S)[k]?=some (scRow y.1 y.2):=by simp[hy]
  have hkl:k < (scH S).length:=by omega
  have hnext:(insOf S).take (k+1)=(insOf S).take k++[y.1.f]:=by rw[List.take_add_one,List.getElem?_map,hy];rfl
  have hmem:y.1.f∈insOf S:=List.mem_map.2 ⟨y,List.mem_of_getElem? hy,rfl⟩
  repeat' ((conv=>whnf);first|(with_reducible first|apply Wx|apply W6)|apply oi|(apply fi<;>intro h)|refine⟨k,rfl,hkl,?_⟩|refine⟨_,hyr,?_⟩|refine⟨_,rfl,?_⟩|((with_reducible show _=_);rfl))
  all_goals try((with_reducible refine Obl.mk ?_);exact KP)
  all_goals try exact KX
  ·refine⟨congrArg Tr.bool ?_⟩
   have e:y.1.f=g:=by have:=eq_of_beq h;omega
   rw[←e,List.contains_iff_mem.2 hmem]
   rfl
  ·conv=>whnf
   refine⟨⟨k+1,by omega,?_⟩,?_,by dsimp only;omega⟩
   ·have e:g≠y.1.f:=fun e=>by rw[←e]at h;simp at h
    rw[hnext,List.contains_eq_any_beq,List.any_append,←List.contains_eq_any_beq,hno]
    simp[e]
   repeat' ((conv=>whnf);first|(with_reducible first|apply Wx|apply W6)|apply oi|(apply fi<;>intro h)|refine⟨_,rfl,?_⟩|((with_reducible show _=_);rfl))
   all_goals try((with_reducible refine Obl.mk ?_);exact KP)
   all_goals try exact⟨KW⟩
 ·skip
  repeat' ((conv=>whnf);first|(with_reducible first|apply Wx|apply W6)|apply oi|(apply fi<;>intro h)|refine⟨_,rfl,?_⟩|((with_reducible show _=_);rfl))
  all_goals try((with_reducible refine Obl.mk ?_);exact KP)
  all_goals try exact KX
  rw[List.take_of_length_le (by omega)]at hno
  exact⟨by rw[hno];rfl⟩
end Go.Proofs.Ytogdbgmiigfmfaa
namespace Go.Proofs.Ytogdbgmiigfmfaa
open Go.Sim
set_option maxRecDepth 100000
set_option maxHeartbeats 4000000
def callsOk (C:Cx)(l:List TTok):Prop:=∀t∈l,t.fKind=7→∃f,findN C.p 0 t.fName=some f∧(argsN C.p f:Int)=t.fNum
structure Rm (C:Cx) (lev n:Nat) (S:Nat) (s:Gs) (d:Int):Prop where
 room:s.items.length+n * tokC lev≤68719476736
 depth:((lev+S:Nat):Int)=C.b.fInline
 low:0≤d
 high:d+(n:Int)+100 * (lev:Int)≤1900
def ExprC (C:Cx)(lev:Nat):Prop:=∀(e:Ex) (x:Sc) (S:List (Sc×List Int)) (lv:List Int) (k p:Nat) (ln:TLine) (s:Gs) (d:Int),e.ok→ScOk C x (insOf (S++[(x,lv)]))→C.p[k]?=some ln→stands ln.fExpr p e→callsOk C ln.fExpr→Rm C lev e.toks.length S.length s d→
 SpecG Try.prog 163 [mkrP,tI .i64 (k:Int),tI .i64 (p:Int)] (mkrH (0,0,1) (0,0,2) C s d (scH (S++[(x,lv)]))) (tI .i64 ((p+e.toks.length:Nat):Int)) (mkrH (1,0,1) (1,0,2) C (genE C (repN C lev) x (insOf (S++[(x,lv)])) k e d s) (d+1) (scH (S++[(x,lv)])))
def RepC (C:Cx)(lev:Nat):Prop:=∀(x:Sc) (S:List (Sc×List Int)) (lv:List Int) (k g:Nat) (s:Gs) (d:Int),ScOk C x (insOf (S++[(x,lv)]))→k < C.p.length→isFun C g→replB C (insOf (S++[(x,lv)])) g s.items.length=true→Rm C lev 1 S.length s (d - argsN C.p g)→
 SpecG Try.prog 170 [mkrP,tI .i64 (g:Int),tI .i64 (k:Int),scV x] (mkrH (0,0,1) (0,0,2) C s d (scH (S++[(x,lv)]))) (.tup []) (mkrH (1,0,1) (1,0,2) C (repN C lev x (insOf (S++[(x,lv)])) k g d s) (d - argsN C.p g+1) (scH (S++[(x,lv)])))
theorem idxOf_le {α:Type}[BEq α](l:List α)(s:α):-1≤idxOf l s∧idxOf l s≤l.length:=by
 unfold idxOf
 cases h:idxN l 0 s with
 | none=>simp only[endI];omega
 | some k=>have:=idxN_some h;simp only[endI];omega
theorem toks_short {C:Cx}(hC:CxOk C){k:Nat}{ln:TLine}(hk:C.p[k]?=some ln):toksShort ln.fExpr∧ln.fName.length≤1048576:=by
 obtain⟨h1,_,_,_,h5⟩:=line_small (smallRs_map hC.small (List.mem_of_getElem? hk))
 exact⟨fun t ht=>by have:=h5 t ht;omega,h1⟩
theorem numOf_le (p:List TLine)(g:Nat):numOf p g≤g:=by
 unfold numOf
 have h1:=List.length_filter_le (fun x:TLine=>x.fKind==0) (p.take g)
 have h2:=List.length_take_le g p
 omega
theorem numOf_succ {p:List TLine}{i:Nat}{x:TLine}(hx:p[i]?=some x):numOf p (i+1)=numOf p i+if x.fKind=0 then 1 else 0:=by
 unfold numOf
 rw[List.take_add_one,hx,List.filter_append,List.length_append]
 by_cases h:x.fKind=0
 ·simp[h]
 ·simp[h]
theorem ExprC_of {C:Cx}(hC:CxOk C){lev:Nat}(hR:RepC C lev):∀(n:Nat) (e:Ex),e.toks.length≤n→∀(x:Sc) (S:List (Sc×List Int)) (lv:List Int) (k p:Nat) (ln:TLine) (s:Gs) (d:Int),e.ok→ScOk C x (insOf (S++[(x,lv)]))→C.p[k]?=some ln→stands ln.fExpr p e→callsOk C ln.fExpr→Rm C lev e.toks.length S.length s d→
  SpecG Try.prog 163 [mkrP,tI .i64 (k:Int),tI .i64 (p:Int)] (mkrH (0,0,1) (0,0,2) C s d (scH (S++[(x,lv)]))) (tI .i64 ((p+e.toks.length:Nat):Int)) (mkrH (1,0,1) (1,0,2) C (genE C (repN C lev) x (insOf (S++[(x,lv)])) k e d s) (d+1) (scH (S++[(x,lv)])))
 | 0,e,hn,_,_,_,_,_,_,_,_,_,_,_,_,_,_=>by have:=e.toks_pos;omega
 | n+1,.node t es,hn,x,S,lv,k,p,ln,s,d,ho,hx,hk,hs,hca,hr=>by
  refine specG_of_Wo hΓ hmix Try.func163 rfl (by decide) rfl rfl ?_
  obtain⟨hsh,hnm⟩:=toks_short hC hk
  have hle:=stands_le hs
  obtain⟨ht,hsa⟩:=stands_tok hs
  obtain⟨e1,e2⟩:=ar_eq ho.1
  have hel:es.length=ar t:=ho.2.1
  have hA:=s_spec_Arity t (hsh t (List.mem_of_getElem? ht))
  rw[e1,←hel]at hA
  have h60:=hC.len
  have h20:=(hC.line _ _ hk).2.2.2.1
  have hsl:(scH (S++[(x,lv)])).length=S.length+1:=by simp
  have hrow:(scH (S++[(x,lv)]))[S.length]?=some (scRow x lv):=by simp
  have hlt:S.length < (scH (S++[(x,lv)])).length:=by omega
  have hr1:=hr.room
  have hr2:=hr.depth
  have hr3:=hr.low
  have hr4:=hr.high
  have hin:=hC.inl
  have hw:IntKind.i64.wrap (((scH (S++[(x,lv)])).length:Int) - 1)=(S.length:Int):=by rw[hsl,IntWalk.i64_in _ (by omega)];omega
  have htp:=tokC_pos lev
  rw[Ex.toks,List.length_cons]at hn hle hr1 hr4
  rw[genE]
  repeat' ((conv=>whnf);first|(with_reducible first|apply Wx|apply W6)|apply oi|(apply fi<;>intro h)|refine⟨S.length,hw,hlt,?_⟩|refine⟨_,hrow,?_⟩|refine⟨k,ln.tr,rfl,map_get hk,?_⟩|refine⟨p,t.tr,rfl,map_get ht,?_⟩|refine cl hA ?_|refine⟨_,rfl,?_⟩|((with_reducible show _=_);rfl))
  all_goals try((with_reducible refine Obl.mk ?_);exact KP)
  conv=>whnf
  refine⟨{j:Nat // j≤es.length},fun q=>⟨[(0,mkrP),(1,tI .i64 (k:Int)),(2,tI .i64 ((p+1+(exToks (es.take q.1)).length:Nat):Int)),(9,tI .i64 ((es.length - q.1:Nat):Int)),(7,.r (.c (.ptr (7,0,0) 0))),(8,.r (.c (.ptr (8,0,0) 0)))],
   [(
    (0,0,0),some (mkrB C (genEs C (repN C lev) x (insOf (S++[(x,lv)])) k (es.take q.1) d s) (d+q.1) (7,0,1) (7,0,2))),((7,0,1),some (.dar 7 (itR (genEs C (repN C lev) x (insOf (S++[(x,lv)])) k (es.take q.1) d s).items) none)),((7,0,2),some (.dar 6 (scH (S++[(x,lv)])) none)),
    ((7,0,0),some (.box [.t (.int .i64 (x.f:Int)),.t (.lst 1 (x.chain.map intRow)),.t (.lst 1 (x.locals.map strRow)),.t (.int .i64 x.first),.t (.bool x.outer),.opq])),((8,0,0),some (.box (t.tr.map .t)))],[8,7,0]⟩,fun q=>es.length - q.1,⟨0,by omega⟩,?_,?_⟩
  ·skip
   repeat' ((conv=>whnf);first|(with_reducible first|apply Wx|apply W6)|apply oi|(apply fi<;>intro h)|refine⟨_,rfl,?_⟩|((with_reducible show _=_);rfl))
   all_goals try((with_reducible refine Obl.mk ?_);exact KP)
   ·exact⟨congrArg (Tr.int _) (by rw[IntWalk.i64_in _ (by omega)];simp[exToks])⟩
   ·exact⟨congrArg (Tr.int _) (by simp)⟩
  intro⟨j,hj⟩
  dsimp only at hj ⊢
  have hgr:=genEs_grow (C:=C) (x:=x) (ins:=insOf (S++[(x,lv)])) (line:=k) (lev:=lev) (fun g d s hg hr=>repN_grow hC lev k g d s hx hg hr) (es.take j) d s
  have hg2:=hgr.le
  have htk:=exToks_take_le es j
  obtain⟨s1,hs1⟩:∃s1,genEs C (repN C lev) x (insOf (S++[(x,lv)])) k (es.take j) d s=s1:=⟨_,rfl⟩
  rw[hs1]at hgr hg2 ⊢
  by_cases hlj:j < es.length
  ·obtain⟨a,ha⟩:=get_of_lt hlj
   have hta:=exToks_take_get ha
   have htk2:=exToks_take_le es (j+1)
   have hal:=exToks_mem ha
   have hjt:j≤(exToks (es.take j)).length:=by
    have:∀(l:List Ex),l.length≤(exToks l).length:=by
     intro l
     induction l with
     | nil=>simp
     | cons b l ih=>have:=b.toks_pos;rw[exToks,List.length_append,List.length_cons];omega
    have h2:=this (es.take j)
    rw[List.length_take]at h2
    omega
   have hm:=Nat.mul_le_mul_right (tokC lev) (show(exToks (es.take j)).length+a.toks.length≤(exToks es).length+1 by omega)
   rw[Nat.add_mul]at hm
   have hI:=ExprC_of hC hR n a (by omega) x S lv k (p+1+(exToks (es.take j)).length) ln s1 (d+j) (exsOk_get ho.2.2 ha) hx hk (standAll_at hsa ha) hca ⟨by omega,hr2,by omega,by omega⟩
   have hnext:=genEs_take C (repN C lev) x (insOf (S++[(x,lv)])) k d s ha
   rw[hs1]at hnext
   repeat' ((conv=>whnf);first|(with_reducible first|apply Wx|apply W6)|apply oi|(apply fi<;>intro h)|refine⟨_,rfl,?_⟩|((with_reducible show _=_);rfl))
   all_goals try((with_reducible refine Obl.mk ?_);exact KP)
   all_goals try exact KX
   refine cg (hI) ?_
   repeat' ((conv=>whnf);first|(with_reducible first|apply Wx|apply W6)|apply oi|(apply fi<;>intro h)|refine⟨_,rfl,?_⟩|((with_reducible show _=_);rfl))
   all_goals try((with_reducible refine Obl.mk ?_);exact KP)
   conv=>whnf
   refine⟨⟨j+1,by omega⟩,?_,by dsimp only;omega⟩
   repeat' ((conv=>whnf);first|(with_reducible first|apply Wx|apply W6)|apply oi|(apply fi<;>intro h)|refine⟨_,rfl,?_⟩|((with_reducible show _=_);rfl))
   all_goals try((with_reducible refine Obl.mk ?_);exact KP)
   all_goals try exact⟨by dsimp only;rw[hnext]⟩
   all_goals try exact⟨KW⟩
  ·have hje:j=es.length:=by omega
   subst hje
   rw[List.take_length]at hs1 hg2 htk ⊢
   have hT:(Ex.node t es).toks.length=(exToks es).length+1:=by rw[Ex.toks,List.length_cons]
   rw[hs1]
   have hroom:s1.items.length+tokC lev≤68719476736:=by
    have:((exToks es).length+1) * tokC lev=(exToks es).length * tokC lev+tokC lev:=by rw[Nat.add_mul];omega
    omega
   have hch:x.chain.length≤100:=by
    have:=hx.chain
    rw[show(insOf (S++[(x,lv)])).length=S.length+1 by simp]at this
    omega
   have hro:roomy s1:=by unfold roomy;omega
   obtain⟨k1,k2,k3⟩:=ar_kind ho.1
   have htl:=hsh t (List.mem_of_getElem? ht)
   have hxf:0≤x.first∧x.first≤1000:=by
    have:=hx.first
    rw[show(insOf (S++[(x,lv)])).length=S.length+1 by simp]at this
    omega
   obtain⟨ee,_,_,_,_,hll⟩:=hx.endE hC
   rcases tok_kinds ho.1 with hk0|hk1|hk7|hk26
   ·have g1:=g_spec_number C s1 (d+es.length) (scH (S++[(x,lv)])) t.fNum k x.chain hro hch (by omega)
    have hz:=k1 (.inl hk0)
    unfold finG
    rw[if_pos hk0]
    repeat' ((conv=>whnf);first|(with_reducible first|apply Wx|apply W6)|refine cg g1 ?_|apply oi|(apply fi<;>intro h)|refine⟨_,rfl,?_⟩|((with_reducible show _=_);rfl))
    all_goals try((with_reducible refine Obl.mk ?_);exact KP)
    all_goals try exact KX
    all_goals try exact⟨KW⟩
    all_goals try exact KK
   ·have g1:=g_spec_load C hC s1 (d+es.length) (scH (S++[(x,lv)])) x (idxOf x.locals t.fName) k hro hch (by omega) hxf (by have:=idxOf_le x.locals t.fName;omega)
    have gI:=s_spec_l04Index x.locals t.fName (by omega)
    have hz:=k1 (.inr hk1)
    unfold finG
    rw[if_neg (by omega),if_pos hk1]
    generalize idxOf x.locals t.fName=ix at *
    repeat' ((conv=>whnf);first|(with_reducible first|apply Wx|apply W6)|refine cg g1 ?_|apply oi|(apply fi<;>intro h)|refine cl gI ?_|refine⟨_,rfl,?_⟩|((with_reducible show _=_);rfl))
    all_goals try((with_reducible refine Obl.mk ?_);exact KP)
    all_goals try exact KX
    all_goals try exact⟨KW⟩
    all_goals try exact KK
   ·obtain⟨f,hf,hfa⟩:=hca t (List.mem_of_getElem? ht) hk7
    obtain⟨hfl,y,hy,hy0,_⟩:=find_some hf
    have hfun:isFun C f:=⟨y,hy,hy0⟩
    have hkk:=k2 hk7
    have gF:=s_spec_FindFunction C.p t.fName (by omega)
    rw[show findF C.p t.fName=(f:Int) from endI_some hf]at gF
    have g1:=g_spec_replaced C hC s1 (d+es.length) (S++[(x,lv)]) f hro (by simp;omega) hfl
    unfold finG
    rw[if_neg (by omega),if_neg (by omega),if_pos hk7,hf]
    dsimp only
    cases hrb:replB C (insOf (S++[(x,lv)])) f s1.items.length with
    | true=>
     have g2:=hR x S lv k f s1 (d+es.length) hx (lt_of_get hk) hfun hrb ⟨by omega,hr2,by omega,by omega⟩
     rw[hrb]at g1
     rw[if_pos rfl]
     repeat' ((conv=>whnf);first|(with_reducible first|apply Wx|apply W6)|refine cg g1 ?_|refine cg g2 ?_|apply oi|(apply fi<;>intro h)|refine cl gF ?_|refine⟨_,rfl,?_⟩|((with_reducible show _=_);rfl))
     all_goals try((with_reducible refine Obl.mk ?_);exact KP)
     all_goals try exact KX
     all_goals try exact⟨KW⟩
     all_goals try exact KK
    | false=>
     rw[hrb]at g1
     rw[if_neg (by simp)]
     have g2:=g_spec_emit C s1 (d+es.length) (scH (S++[(x,lv)])) 12 (numOf C.p f) k x.chain hro hch
     repeat' ((conv=>whnf);first|(with_reducible first|apply Wx|apply W6)|refine cg g1 ?_|apply oi|(apply fi<;>intro h)|refine cl gF ?_|refine⟨_,rfl,?_⟩|((with_reducible show _=_);rfl))
     all_goals try((with_reducible refine Obl.mk ?_);exact KP)
     all_goals try exact KX
     all_goals try exact KK
     conv=>whnf
     refine⟨{i:Nat // i≤f},fun q=>⟨[(0,mkrP),(1,tI .i64 (k:Int)),(2,tI .i64 ((p+1+(exToks es).length:Nat):Int)),(10,tI .i64 (f:Int)),(11,tI .i64 (numOf C.p q.1:Int)),(12,tI .i64 (q.1:Int)),(7,.r (.c (.ptr (7,0,0) 0))),(8,.r (.c (.ptr (8,0,0) 0)))],
      [(
       (0,0,0),some (mkrB C s1 (d+es.length) (7,0,1) (7,0,2))),((7,0,1),some (.dar 7 (itR s1.items) none)),((7,0,2),some (.dar 6 (scH (S++[(x,lv)])) none)),
       ((7,0,0),some (.box [.t (.int .i64 (x.f:Int)),.t (.lst 1 (x.chain.map intRow)),.t (.lst 1 (x.locals.map strRow)),.t (.int .i64 x.first),.t (.bool x.outer),.opq])),((8,0,0),some (.box (t.tr.map .t)))],[8,7,0]⟩,fun q=>f - q.1,⟨0,by omega⟩,?_,?_⟩
     ·skip
      repeat' ((conv=>whnf);first|(with_reducible first|apply Wx|apply W6)|apply oi|(apply fi<;>intro h)|refine⟨_,rfl,?_⟩|((with_reducible show _=_);rfl))
      all_goals try((with_reducible refine Obl.mk ?_);exact KP)
     intro⟨i,hi⟩
     dsimp only at hi ⊢
     have hnl:=numOf_le C.p i
     by_cases hif:i < f
     ·obtain⟨z,hz⟩:=get_of_lt (l:=C.p) (k:=i) (by omega)
      have hns:=numOf_succ hz
      repeat' ((conv=>whnf);first|(with_reducible first|apply Wx|apply W6)|apply oi|(apply fi<;>intro h)|refine⟨i,z.tr,rfl,map_get hz,?_⟩|refine⟨_,rfl,?_⟩|((with_reducible show _=_);rfl))
      all_goals try((with_reducible refine Obl.mk ?_);exact KP)
      all_goals try exact KX
      all_goals(conv=>whnf)
      all_goals(refine⟨⟨i+1,by omega⟩,?_,by dsimp only;omega⟩)
      repeat' ((conv=>whnf);first|(with_reducible first|apply Wx|apply W6)|apply oi|(apply fi<;>intro h)|refine⟨_,rfl,?_⟩|((with_reducible show _=_);rfl))
      all_goals try((with_reducible refine Obl.mk ?_);exact KP)
      all_goals try exact⟨KW⟩
      ·rw[if_pos (by simpa using h)]at hns
       all_goals try exact⟨KW⟩
      ·rw[if_neg (by simpa using h)]at hns
       all_goals try exact⟨KW⟩
     ·have hie:i=f:=by omega
      subst hie
      repeat' ((conv=>whnf);first|(with_reducible first|apply Wx|apply W6)|refine cg g2 ?_|apply oi|(apply fi<;>intro h)|refine⟨_,rfl,?_⟩|((with_reducible show _=_);rfl))
      all_goals try((with_reducible refine Obl.mk ?_);exact KP)
      all_goals try exact KX
      all_goals try exact⟨KW⟩
   ·have g1:=g_spec_emit C s1 (d+es.length) (scH (S++[(x,lv)])) (5+t.fKind - 2) 0 k x.chain hro hch
    have hw5:IntKind.i64.wrap (IntKind.i64.wrap (5+t.fKind) - 2)=5+t.fKind - 2:=by simp(disch:=omega)only[IntWalk.i64_in]
    rw[←hw5]at g1
    have hz:=k3 hk26.1 hk26.2
    unfold finG
    rw[if_neg (by omega),if_neg (by omega),if_neg (by omega),←hw5]
    repeat' ((conv=>whnf);first|(with_reducible first|apply Wx|apply W6)|refine cg g1 ?_|apply oi|(apply fi<;>intro h)|refine⟨_,rfl,?_⟩|((with_reducible show _=_);rfl))
    all_goals try((with_reducible refine Obl.mk ?_);exact KP)
    all_goals try exact KX
    all_goals try exact⟨KW⟩
    all_goals try exact KK
end Go.Proofs.Ytogdbgmiigfmfaa
namespace Go.Proofs.Ytogdbgmiigfmfaa
open Go.Sim
set_option maxRecDepth 100000
set_option maxHeartbeats 4000000
def LinesC (C:Cx)(lev:Nat):Prop:=∀(x:Sc) (S:List (Sc×List Int)) (s:Gs) (d:Int),ScOk C x (insOf (S++[(x,[])]))→s.items.length+(endL' C.p x.f - x.f) * (20 * tokC lev+3)≤68719476736→((lev+S.length:Nat):Int)=C.b.fInline→0≤d→d+30+100 * (lev:Int)≤1900→
 SpecG Try.prog 150 [mkrP] (mkrH (0,0,1) (0,0,2) C s d (scH (S++[(x,[])]))) (.tup []) (mkrH (1,0,1) (1,0,2) C (linesG C (repN C lev) x (insOf (S++[(x,[])])) d s).1 d (scH (S++[(x,(linesG C (repN C lev) x (insOf (S++[(x,[])])) d s).2)])))
theorem insOf_snoc (S:List (Sc×List Int))(y:Sc×List Int):insOf (S++[y])=insOf S++[y.1.f]:=by simp
theorem RepC_of {C:Cx}(hC:CxOk C){lev:Nat}(hL:LinesC C lev):RepC C (lev+1):=by
 intro x S lv k g s d hx hk hg hrb hr
 refine specG_of_Wo hΓ hmix Try.func170 rfl (by decide) rfl rfl ?_
 obtain⟨r1,r2,r3,r4⟩:=replB_spec hrb
 obtain⟨y,hy,hy0⟩:=hg
 have h60:=hC.len
 have hin:=hC.inl
 have hloc:=isFun_locals hC ⟨y,hy,hy0⟩
 have hA:argsN C.p g=y.fArgs.length:=by rw[argsN,hy]
 have hLo:=s_spec_LocalsOf C.p (g:Int) (by omega) (fun z hz=>smallRs_map hC.small hz)
 have htop:=topOf_le hC hx
 have hil:(insOf (S++[(x,lv)])).length=S.length+1:=by simp
 rw[hil]at htop r1
 have hxl:x.locals.length≤8:=by obtain⟨_,_,_,_,_,h⟩:=hx.endE hC;exact h
 have hxf:=hx.first
 rw[hil]at hxf
 have ha:=hC.args
 have hch:=hx.chain
 rw[hil]at hch
 obtain⟨q1,q2,q3,q4⟩:=hr
 have hfl:=flat_ints (x.chain++[(k:Int)])
 have hyl:(y.fArgs.map strRow).length=y.fArgs.length:=by simp
 have hxll:(x.locals.map strRow).length=x.locals.length:=by simp
 have hcl:(x.chain.map intRow).length=x.chain.length:=by simp
 have e1:IntKind.i64.wrap ((x.locals.length:Int) - C.args)=(x.locals.length:Int) - C.args:=by rw[IntWalk.i64_in _ (by omega)]
 have e2:IntKind.i64.wrap (x.first+(x.locals.length:Int))=x.first+x.locals.length:=by rw[IntWalk.i64_in _ (by omega)]
 repeat' ((conv=>whnf);first|(with_reducible apply W1;fail_if_success (with_reducible show Wo _ _ _ _ (Code.seq (Code.region 3 _ _) _) _ _))|(with_reducible first|apply W2|apply W3|apply W4|apply W5|apply W6|apply W7|apply W8|apply W9)|apply reg_inl|apply oi|(apply fi<;>intro h)|refine⟨g,y.tr,rfl,map_get hy,?_⟩|refine⟨_,rfl,?_⟩|((with_reducible show _=_);rfl))
 all_goals try((with_reducible refine Obl.mk ?_);exact KP)
 refine join_rule Unit (fun _=>⟨[(0,mkrP),(1,tI .i64 (g:Int)),(2,tI .i64 (k:Int)),(7,.r (.c (.ptr (7,0,0) 0))),(8,tI .i64 (argsN C.p g:Int)),(9,tI .i64 (topOf C x))],
  [(
   (0,0,0),some (mkrB C s d (0,0,1) (0,0,2))),((0,0,1),some (.dar 7 (itR s.items) none)),((0,0,2),some (.dar 6 (scH (S++[(x,lv)])) none)),
   ((7,0,0),some (.box [.t (.int .i64 (x.f:Int)),.t (.lst 1 (x.chain.map intRow)),.t (.lst 1 (x.locals.map strRow)),.t (.int .i64 x.first),.t (.bool x.outer),.opq]))],[7,0]⟩) ?_ ?_
 ·skip
  repeat' ((conv=>whnf);first|(with_reducible first|apply Wx|apply W6)|apply oi|(apply fi<;>intro h)|refine⟨_,rfl,?_⟩|((with_reducible show _=_);rfl))
  all_goals try((with_reducible refine Obl.mk ?_);exact KP)
  all_goals(conv=>whnf)
  all_goals(refine⟨(),?_⟩)
  repeat' ((conv=>whnf);first|(with_reducible first|apply Wx|apply W6)|apply oi|(apply fi<;>intro h)|refine⟨_,rfl,?_⟩|((with_reducible show _=_);rfl))
  all_goals try((with_reducible refine Obl.mk ?_);exact KP)
  all_goals(refine⟨congrArg (Tr.int _) ?_⟩)
  all_goals try(rw[hyl,hA];done)
  all_goals(unfold topOf;rw[hxll])
  all_goals first|(rw[if_pos (by assumption)];exact e1)|(rw[if_neg (by simp_all)];exact e2)
 intro _
 repeat' ((conv=>whnf);first|(with_reducible apply W1;fail_if_success (with_reducible show Wo _ _ _ _ (Code.region 7 _ _) _ _))|(with_reducible first|apply W2|apply W3|apply W4|apply W5|apply W6|apply W7|apply W8|apply W9)|apply reg_inl|apply oi|(apply fi<;>intro h)|refine cl hLo ?_|refine⟨_,rfl,?_⟩|((with_reducible show _=_);rfl))
 all_goals try((with_reducible refine Obl.mk ?_);exact KP)
 all_goals try exact⟨⟨by simp <;> omega,by simp <;> omega⟩⟩
 conv=>whnf
 refine view2_rule ⟨[(0,mkrP),(1,tI .i64 (g:Int)),(2,tI .i64 (k:Int)),(7,.r (.c (.ptr (7,0,0) 0))),(8,tI .i64 (argsN C.p g:Int)),(9,tI .i64 (topOf C x)),(10,.r (.c (.ptr (10,0,0) 0)))],
  [(
   (0,0,0),some (mkrB C s d (0,0,1) (0,0,2))),((0,0,1),some (.dar 7 (itR s.items) none)),((0,0,2),some (.dar 6 (scH (S++[(x,lv)])) none)),
   ((7,0,0),some (.box [.t (.int .i64 (x.f:Int)),.t (.lst 1 (x.chain.map intRow)),.t (.lst 1 (x.locals.map strRow)),.t (.int .i64 x.first),.t (.bool x.outer),.opq])),
   ((10,0,0),some (.box [.t (.int .i64 (g:Int)),.t (.lst 1 ((x.chain++[(k:Int)]).map intRow)),.t (.lst 1 ((localsOf C.p (g:Int)).map strRow)),.t (.int .i64 (topOf C x)),.t (.bool false),.nils 1]))],_⟩ ?_ ?_ rfl ?_
 ·exact⟨.inl rfl,.inl rfl,.inl rfl,.inl rfl,.inl rfl,.inl rfl,.inl rfl,trivial⟩
 ·refine⟨.inr (.inl rfl),.inr (.inl rfl),.inr (.inl rfl),.inr (.inl rfl),.inr (.inr (.inl ⟨_,_,rfl,rfl,.inl rfl,.inr (.inr ⟨_,rfl,?_,?_⟩),.inr (.inr ⟨_,rfl,rfl,?_⟩),.inl rfl,.inl rfl,.inr (.inl ⟨_,_,rfl,rfl⟩),trivial⟩)),trivial⟩
  ·show Tr.lst 1 _=Tr.lst 1 ([]++List.map intRow x.chain++[[Tr.int .i64 (k:Int)]])
   simp[intRow]
  all_goals(intro q hq;simp only[AC.ids,List.mem_cons,List.not_mem_nil,or_false]at hq;subst hq;rfl)
 have hll:((localsOf C.p (g:Int)).map strRow).length=(localsOf C.p (g:Int)).length:=by simp
 have em:IntKind.i64.wrap (topOf C x+(((localsOf C.p (g:Int)).map strRow).length:Int))=topOf C x+((localsOf C.p (g:Int)).length:Int):=by rw[hll,IntWalk.i64_in _ (by omega)]
 obtain⟨s0,hs0⟩:∃s0:Gs,(⟨s.items,max s.most (topOf C x+(localsOf C.p (g:Int)).length),s.start⟩:Gs)=s0:=⟨_,rfl⟩
 have z1:s.items=s0.items:=by rw[←hs0]
 have z2:max s.most (topOf C x+(localsOf C.p (g:Int)).length)=s0.most:=by rw[←hs0]
 have z3:s.start=s0.start:=by rw[←hs0]
 obtain⟨Y,hY⟩:∃Y,inSc C x k g=Y:=⟨_,rfl⟩
 obtain⟨T1,hT1⟩:∃T1,storesG C (inSc C x k g) x.chain k (argsN C.p g) d s0=T1:=⟨_,rfl⟩
 repeat' ((conv=>whnf);first|(with_reducible first|apply Wx|apply W6)|apply oi|(apply fi<;>intro h)|refine⟨_,rfl,?_⟩|((with_reducible show _=_);rfl))
 all_goals try((with_reducible refine Obl.mk ?_);exact KP)
 conv=>whnf
 refine⟨{q:Nat×Gs // q.1≤argsN C.p g∧storesG C (inSc C x k g) x.chain k q.1 (d - ((argsN C.p g - q.1:Nat):Int)) q.2=T1∧q.2.items.length≤300 - q.1},fun q=>⟨[(0,mkrP),(1,tI .i64 (g:Int)),(2,tI .i64 (k:Int)),(7,.r (.c (.ptr (7,0,0) 0))),(8,tI .i64 (argsN C.p g:Int)),(10,.r (.c (.ptr (10,0,0) 0))),(11,tI .i64 ((q.1.1:Int) - 1))],
  [(
   (0,0,0),some (mkrB C q.1.2 (d - ((argsN C.p g - q.1.1:Nat):Int)) (7,0,1) (7,0,2))),((7,0,1),some (.dar 7 (itR q.1.2.items) none)),((7,0,2),some (.dar 6 (scH (S++[(x,lv)])) none)),
   ((7,0,0),some (.box [.t (.int .i64 (x.f:Int)),.t (.lst 1 (x.chain.map intRow)),.t (.lst 1 (x.locals.map strRow)),.t (.int .i64 x.first),.t (.bool x.outer),.opq])),
   ((10,0,0),some (.box [.t (.int .i64 (g:Int)),.t (.lst 1 ((x.chain++[(k:Int)]).map intRow)),.t (.lst 1 ((localsOf C.p (g:Int)).map strRow)),.t (.int .i64 (topOf C x)),.t (.bool false),.nils 1]))],[10,7,0]⟩,fun q=>q.1.1,⟨(argsN C.p g,s0),by dsimp only;omega,by rw[←hT1];simp,by dsimp only;rw[←z1];omega⟩,?_,?_⟩
 ·skip
  repeat' ((conv=>whnf);first|(with_reducible first|apply Wx|apply W6)|apply oi|(apply fi<;>intro h)|refine⟨_,rfl,?_⟩|((with_reducible show _=_);rfl))
  all_goals try((with_reducible refine Obl.mk ?_);exact KP)
  all_goals try exact⟨by rw[z1]⟩
  all_goals try exact⟨by rw[z3]⟩
  all_goals try exact⟨congrArg itR z1⟩
  all_goals try exact⟨congrArg (Tr.int _) (by rw[em];exact z2)⟩
  all_goals try exact⟨KW⟩
 intro⟨⟨m,t⟩,hm,ht,htl⟩
 dsimp only at hm ht htl ⊢
 cases m with
 | succ m=>
  have g1:=g_spec_store C hC t (d - ((argsN C.p g - (m+1):Nat):Int)) (scH (S++[(x,lv)])) (inSc C x k g) m k x.chain (by unfold roomy;omega) (by omega) (by omega) (by show 0≤topOf C x∧topOf C x≤1000;omega) (by omega)
  rw[storesG]at ht
  rw[show((m+1:Nat):Int) - 1=(m:Int) by omega]
  repeat' ((conv=>whnf);first|(with_reducible first|apply Wx|apply W6)|refine cg g1 ?_|apply oi|(apply fi<;>intro h)|refine⟨_,rfl,?_⟩|((with_reducible show _=_);rfl))
  all_goals try((with_reducible refine Obl.mk ?_);exact KP)
  all_goals try exact KX
  conv=>whnf
  refine⟨⟨(m,storeG C (inSc C x k g) t (d - ((argsN C.p g - (m+1):Nat):Int)) m k x.chain),by dsimp only;omega,by rw[←ht];dsimp only;congr 1;omega,by dsimp only;simp only[storeG,emitG,List.length_append,List.length_cons,List.length_nil];omega⟩,?_,by dsimp only;omega⟩
  repeat' ((conv=>whnf);first|(with_reducible first|apply Wx|apply W6)|apply oi|(apply fi<;>intro h)|refine⟨_,rfl,?_⟩|((with_reducible show _=_);rfl))
  all_goals try((with_reducible refine Obl.mk ?_);exact KP)
  all_goals try exact⟨KW⟩
 | zero=>
  have e0:t=T1:=by rw[←ht];rfl
  subst e0
  have ed:d - ((argsN C.p g - 0:Nat):Int)=d - argsN C.p g:=by rw[Nat.sub_zero]
  rw[ed]
  obtain⟨T2,hT2⟩:∃T2,zerosG C (inSc C x k g) x.chain k (d - argsN C.p g) ((localsOf C.p (g:Int)).length - argsN C.p g) (argsN C.p g) t=T2:=⟨_,rfl⟩
  repeat' ((conv=>whnf);first|(with_reducible first|apply Wx|apply W6)|apply oi|(apply fi<;>intro h)|refine⟨_,rfl,?_⟩|((with_reducible show _=_);rfl))
  all_goals try((with_reducible refine Obl.mk ?_);exact KP)
  all_goals try exact KX
  conv=>whnf
  refine⟨{q:Nat×Gs // q.1≤(localsOf C.p (g:Int)).length∧zerosG C (inSc C x k g) x.chain k (d - argsN C.p g) ((localsOf C.p (g:Int)).length - q.1) q.1 q.2=T2∧q.2.items.length≤400 - 2 * ((localsOf C.p (g:Int)).length - q.1)},fun q=>⟨[(0,mkrP),(1,tI .i64 (g:Int)),(2,tI .i64 (k:Int)),(7,.r (.c (.ptr (7,0,0) 0))),(10,.r (.c (.ptr (10,0,0) 0))),(12,tI .i64 (q.1.1:Int))],
   [(
    (0,0,0),some (mkrB C q.1.2 (d - argsN C.p g) (7,0,1) (7,0,2))),((7,0,1),some (.dar 7 (itR q.1.2.items) none)),((7,0,2),some (.dar 6 (scH (S++[(x,lv)])) none)),
    ((7,0,0),some (.box [.t (.int .i64 (x.f:Int)),.t (.lst 1 (x.chain.map intRow)),.t (.lst 1 (x.locals.map strRow)),.t (.int .i64 x.first),.t (.bool x.outer),.opq])),
    ((10,0,0),some (.box [.t (.int .i64 (g:Int)),.t (.lst 1 ((x.chain++[(k:Int)]).map intRow)),.t (.lst 1 ((localsOf C.p (g:Int)).map strRow)),.t (.int .i64 (topOf C x)),.t (.bool false),.nils 1]))],[10,7,0]⟩,fun q=>(localsOf C.p (g:Int)).length - q.1.1,⟨(argsN C.p g,t),by dsimp only;omega,hT2,by dsimp only;omega⟩,?_,?_⟩
  ·skip
   repeat' ((conv=>whnf);first|(with_reducible first|apply Wx|apply W6)|apply oi|(apply fi<;>intro h)|refine⟨_,rfl,?_⟩|((with_reducible show _=_);rfl))
   all_goals try((with_reducible refine Obl.mk ?_);exact KP)
  intro⟨⟨i,u⟩,hi,hu,hul⟩
  dsimp only at hi hu hul ⊢
  by_cases hil2:i < (localsOf C.p (g:Int)).length
  ·obtain⟨c,hc⟩:∃c,(localsOf C.p (g:Int)).length - i=c+1:=⟨(localsOf C.p (g:Int)).length - i - 1,by omega⟩
   rw[hc,zerosG]at hu
   have g1:=g_spec_number C u (d - argsN C.p g) (scH (S++[(x,lv)])) 0 k x.chain (by unfold roomy;omega) (by omega) (by omega)
   have g2:=g_spec_store C hC (emitG C u (d - argsN C.p g) 0 0 k x.chain) (d - argsN C.p g+1) (scH (S++[(x,lv)])) (inSc C x k g) i k x.chain (by unfold roomy emitG;simp only[List.length_append,List.length_cons,List.length_nil];omega) (by omega) (by omega) (by show 0≤topOf C x∧topOf C x≤1000;omega) (by omega)
   repeat' ((conv=>whnf);first|(with_reducible first|apply Wx|apply W6)|refine cg g1 ?_|refine cg g2 ?_|apply oi|(apply fi<;>intro h)|refine⟨_,rfl,?_⟩|((with_reducible show _=_);rfl))
   all_goals try((with_reducible refine Obl.mk ?_);exact KP)
   all_goals try exact KX
   conv=>whnf
   refine⟨⟨(i+1,storeG C (inSc C x k g) (emitG C u (d - argsN C.p g) 0 0 k x.chain) (d - argsN C.p g+1) i k x.chain),by dsimp only;omega,by rw[←hu];dsimp only;rw[show(localsOf C.p (g:Int)).length - (i+1)=c by omega],by dsimp only;simp only[storeG,emitG,List.length_append,List.length_cons,List.length_nil];omega⟩,?_,by dsimp only;omega⟩
   repeat' ((conv=>whnf);first|(with_reducible first|apply Wx|apply W6)|apply oi|(apply fi<;>intro h)|refine⟨_,rfl,?_⟩|((with_reducible show _=_);rfl))
   all_goals try((with_reducible refine Obl.mk ?_);exact KP)
   all_goals try exact⟨KW⟩
  ·have hie:i=(localsOf C.p (g:Int)).length:=by omega
   subst hie
   rw[Nat.sub_self,zerosG]at hu
   subst hu
   have hpre:preG C x k g d s=u:=by rw[preG,hs0,hT1,hT2]
   repeat' ((conv=>whnf);first|(with_reducible apply W1;fail_if_success (with_reducible show Wo _ _ _ _ (Code.seq (Code.region 17 _ _) _) _ _))|(with_reducible first|apply W2|apply W3|apply W4|apply W5|apply W6|apply W7|apply W8|apply W9)|apply reg_inl|apply oi|(apply fi<;>intro h)|refine⟨_,rfl,?_⟩|((with_reducible show _=_);rfl))
   all_goals try((with_reducible refine Obl.mk ?_);exact KP)
   all_goals try exact KX
   obtain⟨v,hv⟩:∃v,spaceG C x k (d - argsN C.p g) u=v:=⟨_,rfl⟩
   have hvl:v.items.length≤500:=by rw[←hv,spaceG];split <;> first|(simp[emitG];omega)|omega
   refine join_rule Unit (fun _=>⟨[(0,mkrP),(1,tI .i64 (g:Int)),(2,tI .i64 (k:Int)),(7,.r (.c (.ptr (7,0,0) 0))),(10,.r (.c (.ptr (10,0,0) 0)))],
    [(
     (0,0,0),some (mkrB C v (d - argsN C.p g) (7,0,1) (7,0,2))),((7,0,1),some (.dar 7 (itR v.items) none)),((7,0,2),some (.dar 6 (scH (S++[(x,lv)])) none)),
     ((10,0,0),some (.box [.t (.int .i64 (g:Int)),.t (.lst 1 ((x.chain++[(k:Int)]).map intRow)),.t (.lst 1 ((localsOf C.p (g:Int)).map strRow)),.t (.int .i64 (topOf C x)),.t (.bool false),.own (10,0,1)])),((10,0,1),some (.arr true 1 []))],[10,7,0]⟩) ?_ ?_
   ·have g3:=g_spec_emit C u (d - argsN C.p g) (scH (S++[(x,lv)])) 15 0 k x.chain (by unfold roomy;omega) (by omega)
    unfold spaceG at hv
    cases hst:u.start with
    | true=>
     rw[if_pos hst]at hv
     subst hv
     repeat' ((conv=>whnf);first|(with_reducible first|apply Wx|apply W6)|refine cg g3 ?_|apply oi|(apply fi<;>intro h)|refine⟨_,rfl,?_⟩|((with_reducible show _=_);rfl))
     all_goals try((with_reducible refine Obl.mk ?_);exact KP)
     ·conv=>whnf
      refine⟨(),?_⟩
      repeat' ((conv=>whnf);first|(with_reducible first|apply Wx|apply W6)|apply oi|(apply fi<;>intro h)|refine⟨_,rfl,?_⟩|((with_reducible show _=_);rfl))
      all_goals try((with_reducible refine Obl.mk ?_);exact KP)
     ·exfalso;simp_all
    | false=>
     rw[if_neg (by simp[hst])]at hv
     subst hv
     repeat' ((conv=>whnf);first|(with_reducible first|apply Wx|apply W6)|refine cg g3 ?_|apply oi|(apply fi<;>intro h)|refine⟨_,rfl,?_⟩|((with_reducible show _=_);rfl))
     all_goals try((with_reducible refine Obl.mk ?_);exact KP)
     ·exfalso;simp_all
     ·conv=>whnf
      refine⟨(),?_⟩
      repeat' ((conv=>whnf);first|(with_reducible first|apply Wx|apply W6)|apply oi|(apply fi<;>intro h)|refine⟨_,rfl,?_⟩|((with_reducible show _=_);rfl))
      all_goals try((with_reducible refine Obl.mk ?_);exact KP)
   intro _
   have hyS:ScOk C (inSc C x k g) (insOf ((S++[(x,lv)])++[(inSc C x k g,[])])):=by rw[insOf_snoc];exact inSc_ok hC hx k ⟨y,hy,hy0⟩
   obtain⟨ye,ye1,ye2,ye3,ye4,_⟩:=hyS.endE hC
   have hye:endL' C.p (inSc C x k g).f - (inSc C x k g).f≤9:=by
    rw[ye4]
    have:endOf C.p (g:Int)=(ye:Int):=by rw[endOf_at];exact endI_some ye1
    show ye - g≤9
    omega
   have h3:=tokC_3 (n:=lev) (by omega)
   have hgL:=hL (inSc C x k g) (S++[(x,lv)]) v (d - argsN C.p g) hyS (by
    have:=Nat.mul_le_mul hye (show 20 * tokC lev+3≤20 * 8679837+3 by omega)
    omega) (by simp only[List.length_append,List.length_cons,List.length_nil];omega) q3 (by omega)
   have hsl:(scH (S++[(x,lv)])).length=S.length+1:=by simp
   obtain⟨r,hr⟩:∃r,linesG C (repN C lev) (inSc C x k g) (insOf ((S++[(x,lv)])++[(inSc C x k g,[])])) (d - argsN C.p g) v=r:=⟨_,rfl⟩
   rw[hr]at hgL
   have hsl2:(scH ((S++[(x,lv)])++[(inSc C x k g,r.2)])).length=S.length+2:=by simp
   have hw2:IntKind.i64.wrap (((scH ((S++[(x,lv)])++[(inSc C x k g,r.2)])).length:Int) - 1)=((S.length+1:Nat):Int):=by rw[hsl2,IntWalk.i64_in _ (by omega)];omega
   have hlt2:S.length+1 < (scH ((S++[(x,lv)])++[(inSc C x k g,r.2)])).length:=by omega
   have hrow2:(scH ((S++[(x,lv)])++[(inSc C x k g,r.2)]))[S.length+1]?=some (scRow (inSc C x k g) r.2):=by simp
   have hfl3:=flat_ints r.2
   repeat' ((conv=>whnf);first|(with_reducible apply W1;fail_if_success (with_reducible show Wo _ _ _ _ (Code.region 23 _ _) _ _))|(with_reducible first|apply W2|apply W3|apply W4|apply W5|apply W6|apply W7|apply W8|apply W9)|apply reg_inl|refine cg hgL ?_|apply oi|(apply fi<;>intro h)|refine⟨S.length+1,hw2,hlt2,?_⟩|refine⟨_,hrow2,?_⟩|refine⟨_,rfl,?_⟩|((with_reducible show _=_);rfl))
   all_goals try((with_reducible refine Obl.mk ?_);exact KP)
   all_goals try exact⟨⟨by rw[hsl];simp <;> omega,by rw[hsl];simp <;> omega⟩⟩
   all_goals try exact⟨hfl3⟩
   all_goals try exact⟨by simp[inSc,intRow]⟩
   conv=>whnf
   refine view2_rule ⟨[(0,mkrP),(13,tI .i64 (d - argsN C.p g)),(14,.r (.c (.t (.lst 1 (r.2.map intRow)))))],
    [((0,0,0),some (mkrB C r.1 (d - argsN C.p g) (127,0,1) (127,0,2))),((127,0,1),some (.dar 7 (itR r.1.items) none)),((127,0,2),some (.dar 6 ((scH ((S++[(x,lv)])++[(inSc C x k g,r.2)])).set (S.length+1) ((scRow (inSc C x k g) r.2).set 5 (.t (.lst 1 (r.2.map intRow))))) none))],_⟩ ?_ ?_ rfl ?_
   ·refine⟨.inl rfl,.inl rfl,.inr (.inl ⟨_,_,rfl,rfl,.inr (.inr ⟨_,rfl,rfl,?_⟩)⟩),trivial⟩
    intro q hq;simp only[AC.ids,List.mem_cons,List.not_mem_nil,or_false]at hq;subst hq;rfl
   ·exact⟨.inr (.inl rfl),.inr (.inl rfl),.inr (.inr (.inr ⟨_,_,_,_,_,_,_,rfl,hrow2,(by decide),rfl,rfl,rfl⟩)),trivial⟩
   have hsl4:((scH ((S++[(x,lv)])++[(inSc C x k g,r.2)])).set (S.length+1) ((scRow (inSc C x k g) r.2).set 5 (.t (.lst 1 (r.2.map intRow))))).length=S.length+2:=by rw[List.length_set];exact hsl2
   have hw4:IntKind.i64.wrap ((((scH ((S++[(x,lv)])++[(inSc C x k g,r.2)])).set (S.length+1) ((scRow (inSc C x k g) r.2).set 5 (.t (.lst 1 (r.2.map intRow))))).length:Int) - 1)=((S.length+1:Nat):Int):=by rw[hsl4,IntWalk.i64_in _ (by omega)];omega
   have hle4:S.length+1≤((scH ((S++[(x,lv)])++[(inSc C x k g,r.2)])).set (S.length+1) ((scRow (inSc C x k g) r.2).set 5 (.t (.lst 1 (r.2.map intRow))))).length:=by omega
   have hcut:((scH ((S++[(x,lv)])++[(inSc C x k g,r.2)])).set (S.length+1) ((scRow (inSc C x k g) r.2).set 5 (.t (.lst 1 (r.2.map intRow))))).take (S.length+1)=scH (S++[(x,lv)]):=by
    rw[List.take_set_of_le (Nat.le_refl _),←List.map_take,List.take_left' (by simp)]
   have hrl:(r.2.map intRow).length=r.2.length:=by simp
   have hin2:=linesG_lv (lev:=lev) (rep:=repN C lev) (fun line g d s hg hr=>repN_grow hC lev line g d s hyS hg hr) hC hyS (d - argsN C.p g) v
   have hgr2:=linesG_grow (lev:=lev) (rep:=repN C lev) (fun line g d s hg hr=>repN_grow hC lev line g d s hyS hg hr) hC hyS (d - argsN C.p g) v
   rw[hr]at hin2 hgr2
   have hrle:=hgr2.le
   obtain⟨hlvl,hin2⟩:=hin2
   have hmul:=Nat.mul_le_mul hye (show 20 * tokC lev+3≤20 * 8679837+3 by omega)
   repeat' ((conv=>whnf);first|(with_reducible first|apply Wx|apply W6)|apply oi|(apply fi<;>intro h)|refine⟨S.length+1,hw4,hle4,?_⟩|refine⟨_,rfl,?_⟩|((with_reducible show _=_);rfl))
   all_goals try((with_reducible refine Obl.mk ?_);exact KP)
   conv=>whnf
   refine⟨{i:Nat // i≤r.2.length},fun q=>⟨[(0,mkrP),(13,tI .i64 (d - argsN C.p g)),(14,.r (.c (.t (.lst 1 (r.2.map intRow))))),(15,tI .i64 (q.1:Int))],
    [((0,0,0),some (mkrB C r.1 (d - argsN C.p g) (127,0,1) (127,0,2))),((127,0,1),some (.dar 7 (itR (patchL r.1.items r.1.items.length (r.2.take q.1))) none)),((127,0,2),some (.dar 6 (scH (S++[(x,lv)])) none))],[127,0]⟩,fun q=>r.2.length - q.1,⟨0,by omega⟩,?_,?_⟩
   ·skip
    repeat' ((conv=>whnf);first|(with_reducible first|apply Wx|apply W6)|apply oi|(apply fi<;>intro h)|refine⟨_,rfl,?_⟩|((with_reducible show _=_);rfl))
    all_goals try((with_reducible refine Obl.mk ?_);exact KP)
    all_goals first|exact⟨hle4⟩|exact⟨hcut⟩
   intro⟨i,hi3⟩
   dsimp only at hi3 ⊢
   have hpl:=patchL_len (r.1.items.length:Int) (r.2.take i) r.1.items
   have hil4:(itR (patchL r.1.items r.1.items.length (r.2.take i))).length=r.1.items.length:=by rw[itR_len,hpl]
   by_cases hli:i < r.2.length
   ·obtain⟨j,hj⟩:=get_of_lt hli
    obtain⟨j1,j2⟩:=hin2 j (List.mem_of_getElem? hj)
    obtain⟨jn,rfl⟩:=Int.eq_ofNat_of_zero_le j1
    have hjl:jn < (itR (patchL r.1.items r.1.items.length (r.2.take i))).length:=by rw[hil4];omega
    obtain⟨it,hit⟩:=get_of_lt (l:=patchL r.1.items r.1.items.length (r.2.take i)) (k:=jn) (by rw[hpl];omega)
    have hnext:r.2.take (i+1)=r.2.take i++[(jn:Int)]:=by rw[List.take_add_one,hj];rfl
    have hps:=patchL_snoc r.1.items.length (jn:Int) (r.2.take i) r.1.items
    repeat' ((conv=>whnf);first|(with_reducible first|apply Wx|apply W6)|apply oi|(apply fi<;>intro h)|refine⟨i,(intRow jn),rfl,map_get hj,?_⟩|refine⟨jn,rfl,hjl,?_⟩|refine⟨_,(itR_get hit),?_⟩|refine⟨_,rfl,?_⟩|((with_reducible show _=_);rfl))
    all_goals try((with_reducible refine Obl.mk ?_);exact KP)
    all_goals try exact KX
    conv=>whnf
    refine⟨⟨i+1,by omega⟩,?_,by dsimp only;omega⟩
    repeat' ((conv=>whnf);first|(with_reducible first|apply Wx|apply W6)|apply oi|(apply fi<;>intro h)|refine⟨_,rfl,?_⟩|((with_reducible show _=_);rfl))
    all_goals try((with_reducible refine Obl.mk ?_);exact KP)
    all_goals try exact⟨KW⟩
    all_goals(refine⟨?_⟩;rw[hil4];dsimp only;rw[hnext,hps,itR_setArg hit];rfl)
   ·have hie:i=r.2.length:=by omega
    subst hie
    have hr':linesG C (repN C lev) (inSc C x k g) (insOf (S++[(x,lv)])++[g]) (d - argsN C.p g) v=r:=(congrArg (fun l=>linesG C (repN C lev) (inSc C x k g) l (d - argsN C.p g) v) (by simp[inSc])).trans hr
    have hfin:repN C (lev+1) x (insOf (S++[(x,lv)])) k g d s=⟨patchL r.1.items r.1.items.length r.2,r.1.most,r.1.start⟩:=by
     show replG C (linesG C (repN C lev)) x (insOf (S++[(x,lv)])) k g d s=_
     unfold replG
     rw[hpre,hv,hr']
    rw[hfin]
    rw[List.take_length]
    repeat' ((conv=>whnf);first|(with_reducible first|apply Wx|apply W6)|apply oi|(apply fi<;>intro h)|refine⟨_,rfl,?_⟩|((with_reducible show _=_);rfl))
    all_goals try((with_reducible refine Obl.mk ?_);exact KP)
    all_goals try exact KX
    all_goals try exact⟨congrArg (fun z:Gs=>Tr.bool z.start) hfin.symm⟩
    all_goals try exact⟨congrArg (fun z:Gs=>itR z.items) hfin.symm⟩
    all_goals try exact⟨congrArg (fun z:Gs=>Tr.int .i64 z.most) hfin.symm⟩
    all_goals try exact⟨KW⟩
end Go.Proofs.Ytogdbgmiigfmfaa
namespace Go.Proofs.Ytogdbgmiigfmfaa
open Go.Sim
set_option maxRecDepth 100000
set_option maxHeartbeats 4000000
theorem LinesC_of {C:Cx}(hC:CxOk C){lev:Nat}(hE:ExprC C lev):LinesC C lev:=by
 intro x S s d hx hroom hlev hd0 hd1
 refine specG_of_Wo hΓ hmix Try.func150 rfl (by decide) rfl rfl ?_
 rw[insOf_snoc]at hx
 rw[insOf_snoc]
 dsimp only at hx ⊢
 obtain⟨e,he,hfe,hel,hen,hll⟩:=hx.endE hC
 have h60:=hC.len
 have hin:=hC.inl
 have hsl:∀lv:List Int,(scH (S++[(x,lv)])).length=S.length+1:=fun lv=>by simp
 have hrow:∀lv:List Int,(scH (S++[(x,lv)]))[S.length]?=some (scRow x lv):=fun lv=>by simp
 have hlt:∀lv:List Int,S.length < (scH (S++[(x,lv)])).length:=fun lv=>by rw[hsl];omega
 have hw:∀lv:List Int,IntKind.i64.wrap (((scH (S++[(x,lv)])).length:Int) - 1)=(S.length:Int):=fun lv=>by rw[hsl,IntWalk.i64_in _ (by omega)];omega
 have gE:=s_spec_EndOf C.p (x.f:Int) (by omega)
 rw[show endOf C.p (x.f:Int)=(e:Int) by rw[endOf_at];exact endI_some he]at gE
 have hpl:(C.p.map TLine.tr).length=C.p.length:=by simp
 have hm1:(((C.p.map TLine.tr).length:Nat):Int)=(C.p.length:Int):=by rw[hpl]
 have hm2:C.p.length≤9223372036854775807:=by omega
 have hm3:C.p.length * 8≤140737488355328:=by omega
 have h3:=tokC_3 (n:=lev) (by omega)
 have hch:x.chain.length≤100:=by
  have:=hx.chain
  rw[List.length_append,List.length_map]at this
  simp only[List.length_cons,List.length_nil]at this
  omega
 have hxf:0≤x.first∧x.first≤1000:=by
  have:=hx.first
  rw[List.length_append,List.length_map]at this
  simp only[List.length_cons,List.length_nil]at this
  omega
 obtain⟨R,hR⟩:∃R,runL C (repN C lev) x (insOf S++[x.f]) d (e+1 - (x.f+1)) (x.f+1) (startL C s)=R:=⟨_,rfl⟩
 have hfin:linesG C (repN C lev) x (insOf S++[x.f]) d s=(R.g,R.lv):=by
  unfold linesG
  rw[hen,show e - x.f=e+1 - (x.f+1) by omega,hR]
 rw[hfin]
 rw[hen]at hroom
 have hI0:LInv C lev x (insOf S++[x.f]) d e R (x.f+1) (startL C s):=⟨Nat.le_refl _,by omega,by simp[startL],by simp[startL],fun i h1 h2=>by omega,⟨by simp[startL],fun j hj=>by simp[startL]at hj⟩,by rw[show e+1 - (x.f+1)=e - x.f by omega];exact hroom,hR⟩
 repeat' ((conv=>whnf);first|(with_reducible first|apply Wx|apply W6)|apply oi|(apply fi<;>intro h)|refine⟨S.length,hw [],hlt [],?_⟩|refine⟨_,hrow [],?_⟩|refine cl gE ?_|refine⟨C.p.length,hm1,hm1,hm2,hm3,?_⟩|refine⟨_,rfl,?_⟩|((with_reducible show _=_);rfl))
 all_goals try((with_reducible refine Obl.mk ?_);exact KP)
 conv=>whnf
 refine⟨{q:Nat×Ls×List TItem // LInv C lev x (insOf S++[x.f]) d e R q.1 q.2.1∧q.2.2.length=q.2.1.g.items.length∧(q.1≤e→patchE q.2.2 q.2.2.length (q.1:Int) (exitsF C.p q.2.1.pos (x.f+1) (q.1 - (x.f+1)))=q.2.1.g.items)∧(q.1=e+1→q.2.2=q.2.1.g.items)},
  fun q=>⟨[(0,mkrP),(2,tI .i64 (x.f:Int)),(3,vInts x.chain),(4,tI .i64 (e:Int)),(5,.r (.c (.own (5,0,0)))),(6,.r (.c (.own (6,0,0)))),(7,tI .i64 (q.1.1:Int))],
   [((0,0,0),some (mkrB C ⟨q.1.2.2,q.1.2.1.g.most,q.1.2.1.g.start⟩ d (5,0,1) (5,0,2))),((5,0,1),some (.dar 7 (itR q.1.2.2) none)),((5,0,2),some (.dar 6 (scH (S++[(x,q.1.2.1.lv)])) none)),((5,0,0),some (.arr false 1 (q.1.2.1.heads.map intRow))),((6,0,0),some (.arr false 2 ((exitsF C.p q.1.2.1.pos (x.f+1) (q.1.1 - (x.f+1))).map exRow)))],[6,5,0]⟩,
  fun q=>e+1 - q.1.1,⟨(x.f+1,startL C s,s.items),hI0,rfl,fun _=>by rw[Nat.sub_self];rfl,fun _=>rfl⟩,?_,?_⟩
 ·skip
  repeat' ((conv=>whnf);first|(with_reducible first|apply Wx|apply W6)|apply oi|(apply fi<;>intro h)|refine⟨_,rfl,?_⟩|((with_reducible show _=_);rfl))
  all_goals try((with_reducible refine Obl.mk ?_);exact KP)
  all_goals try exact⟨KW⟩
  ·exact⟨by simp[startL,intRow]⟩
  ·exact⟨by dsimp only;rw[Nat.sub_self];rfl⟩
 intro⟨⟨k,L,u⟩,hI,hul,hpat,hlast⟩
 dsimp only at hI hul hpat hlast ⊢
 by_cases hke:k≤e
 ·obtain⟨ln,hl⟩:=get_of_lt (l:=C.p) (k:=k) (by omega)
  have h0:=lines_kinds hC hx he hI.lo hke hl
  obtain⟨hk0,hk7,_,h20,hexp⟩:=hC.line _ _ hl
  obtain⟨hsh,hnm⟩:=toks_short hC hl
  have hkf:=hI.lo
  have hIr:=hI.room
  have hIh:=hI.heads
  have hIp:=hI.pos
  have hlvl:=hI.lv.1
  have hIroom:L.g.items.length+20 * tokC lev+3≤68719476736:=by
   obtain⟨n,hn⟩:∃n,e+1 - k=n+1:=⟨e - k,by omega⟩
   rw[hn,Nat.add_mul]at hIr
   omega
  have hEl:=exitsF_len C.p L.pos (x.f+1) (k - (x.f+1))
  have hEin:∀z∈exitsF C.p L.pos (x.f+1) (k - (x.f+1)),0≤z.2∧z.2 < (L.g.items.length:Int):=fun z hz=>by
   obtain⟨i,i1,i2,i3,rfl⟩:=exitsF_mem hz
   exact hI.at_ i (by omega) (by omega) i3
  have gP:=g_spec_patch C ⟨u,L.g.most,L.g.start⟩ d (scH (S++[(x,L.lv)])) (exitsF C.p L.pos (x.f+1) (k - (x.f+1))) k (by unfold roomy;dsimp only;omega) (by omega) (by dsimp only;rw[hul];exact hEin)
  rw[hpat hke]at gP
  obtain⟨A,hA⟩:∃A,stepA C (repN C lev) x (insOf S++[x.f]) d k ln L=A:=⟨_,rfl⟩
  have hN:=LInv.next hC hx he hI hke hl
  rw[hA]at hN
  obtain⟨hP1,hP2⟩:=patch_next hC hx he hkf hke hl A
  obtain⟨b1,b2,b3,b4,b5,b6⟩:=stepB_lens (C:=C) (x:=x) k ln A
  have hQ:LInv C lev x (insOf S++[x.f]) d e R (k+1) (stepB C x k ln A)∧A.g.items.length=(stepB C x k ln A).g.items.length∧(k+1≤e→patchE A.g.items A.g.items.length ((k+1:Nat):Int) (exitsF C.p (stepB C x k ln A).pos (x.f+1) (k+1 - (x.f+1)))=(stepB C x k ln A).g.items)∧(k+1=e+1→A.g.items=(stepB C x k ln A).g.items):=⟨hN,b4.symm,fun h=>by rw[b2];exact hP1 h,fun h=>hP2 (by omega)⟩
  have hIl:k < (L.heads.map intRow).length:=by rw[List.length_map,hIh];omega
  have hro:roomy L.g:=by unfold roomy;omega
  have hitl:=itR_len L.g.items
  have hkne:ln.fKind≠7→k < e:=fun h=>by
   rcases Nat.lt_or_eq_of_le hke with h'|h'
   ·exact h'
   ·subst h'
    obtain⟨z,hz,hz7⟩:=endAt_kind he
    rw[hl]at hz
    injection hz with hz
    subst hz
    exact absurd hz7 h
  have hcalls:ln.fKind≠7→callsOk C ln.fExpr:=fun h=>by
   obtain⟨l0,q1,q2⟩:=hx.fn
   obtain⟨e',q3,_,_,q4⟩:=hC.fn _ _ q1 q2
   rw[he]at q3
   injection q3 with q3
   subst q3
   exact(q4 k ln (by omega) (hkne h) hl).2.1
  obtain⟨g1,hg1⟩:∃g1,genE C (repN C lev) x (insOf S++[x.f]) k (exL ln.fExpr) d ⟨L.g.items,L.g.most,true⟩=g1:=⟨_,rfl⟩
  have hX:exprOk ln.fExpr=true→ln.fKind≠7→SpecG Try.prog 163 [mkrP,tI .i64 (k:Int),tI .i64 (0:Int)] (mkrH (0,0,1) (0,0,2) C ⟨L.g.items,L.g.most,true⟩ d (scH (S++[(x,L.lv)]))) (tI .i64 ((0+(exL ln.fExpr).toks.length:Nat):Int)) (mkrH (1,0,1) (1,0,2) C g1 (d+1) (scH (S++[(x,L.lv)]))):=fun hx1 hx7=>by
   obtain⟨eo,et⟩:=exL_ok hx1
   have h20':(exL ln.fExpr).toks.length≤20:=by rw[←et];exact h20
   have hmu:=Nat.mul_le_mul_right (tokC lev) h20'
   have:=hE (exL ln.fExpr) x S L.lv k 0 ln ⟨L.g.items,L.g.most,true⟩ d eo (by rw[insOf_snoc];exact hx) hl ⟨[],by rw[List.drop_zero,List.append_nil];exact et⟩ (hcalls hx7) ⟨by dsimp only;omega,hlev,hd0,by omega⟩
   rw[insOf_snoc]at this
   dsimp only at this
   rw[hg1]at this
   exact this
  have hG:exprOk ln.fExpr=true→g1.items.length≤L.g.items.length+20 * tokC lev:=fun hx1=>by
   have:=(genE_grow' (x:=x) (ins:=insOf S++[x.f]) (rep:=repN C lev) (line:=k) (lev:=lev) (fun g d s hg hr=>repN_grow hC lev k g d s hx hg hr) hC hl hx1 d ⟨L.g.items,L.g.most,true⟩).le
   rw[hg1]at this
   exact this
  have hhr:(L.heads.map intRow)[k]?=some (intRow (atL L.heads k)):=by
   rw[List.getElem?_map]
   have:k < L.heads.length:=by omega
   rw[List.getElem?_eq_getElem this,atL,List.getElem?_eq_getElem this]
   rfl
  have hhs:∀v:Int,(L.heads.map intRow).set k [.int .i64 v]=(L.heads.set k v).map intRow:=fun v=>by simp[List.map_set,intRow]
  unfold stepA at hA
  rw[hg1]at hA
  dsimp only at hA
  have hcase:ln.fKind=4∨ln.fKind=7∨ln.fKind=1∨ln.fKind=2∨ln.fKind=6∨(ln.fKind=3∨ln.fKind=5):=by omega
  rcases hcase with h4|h7|h1|h2|h6|h35
  ·
   rw[if_pos h4]at hA
   have a1:A.g.items=setArg (emitG C L.g d 10 0 k x.chain).items (atL L.pos (ownOf C.p k)) (emitG C L.g d 10 0 k x.chain).items.length:=by rw[←hA]
   have a2:A.g.most=L.g.most:=by rw[←hA];rfl
   have a3:A.g.start=false:=by rw[←hA];rfl
   have a4:A.heads=L.heads:=by rw[←hA]
   have a5:A.pos=L.pos.set k L.g.items.length:=by rw[←hA]
   have a6:A.lv=L.lv:=by rw[←hA]
   obtain⟨o1,o2,o3,o4⟩:=hx.own4 hC he (by omega) hke hl h4
   obtain⟨y,m,hy,y3,hm,_⟩:=elseAt_some o1
   have hkk:=kindAt_of hl
   have hto:toOf C.p k=endOf C.p (ownOf C.p k:Int)+1:=by unfold toOf;rw[if_pos (by omega)]
   have hge:=endOf_ge C.p (ownOf C.p k)
   have hEn:exitsF C.p L.pos (x.f+1) (k - (x.f+1))++[(toOf C.p k,(L.g.items.length:Int))]=exitsF C.p (L.pos.set k L.g.items.length) (x.f+1) (k+1 - (x.f+1)):=exits_jump hkf (by unfold jumps;omega) (by rw[hIp];omega) _
   have gEm:=g_spec_emit C L.g d (scH (S++[(x,L.lv)])) 10 0 k x.chain hro hch
   have gP2:=g_spec_patch C (emitG C L.g d 10 0 k x.chain) d (scH (S++[(x,L.lv)])) (exitsF C.p (L.pos.set k L.g.items.length) (x.f+1) (k+1 - (x.f+1))) (-(k:Int)) (by unfold roomy emitG;simp only[List.length_append,List.length_cons,List.length_nil];omega) (by have:=exitsF_len C.p (L.pos.set k L.g.items.length) (x.f+1) (k+1 - (x.f+1));omega) (fun z hz=>by
    rw[←hEn,List.mem_append]at hz
    simp only[emitG,List.length_append,List.length_cons,List.length_nil]
    rcases hz with hz|hz
    ·have:=hEin z hz;omega
    ·simp only[List.mem_cons,List.not_mem_nil,or_false]at hz
     subst hz
     dsimp only
     omega)
   rw[patch_else hC hx he hkf hke hl h4,atL_set (by omega)]at gP2
   have hng:IntKind.i64.wrap (0 - (k:Int))= -(k:Int):=by rw[IntWalk.i64_in _ (by omega)];omega
   rw[←hng]at gP2
   repeat' ((conv=>whnf);first|(with_reducible first|apply Wx|apply W6)|refine cg gP ?_|apply oi|(apply fi<;>intro h)|refine⟨k,ln.tr,rfl,map_get hl,?_⟩|refine⟨_,rfl,?_⟩|((with_reducible show _=_);rfl))
   all_goals try((with_reducible refine Obl.mk ?_);exact KP)
   all_goals try exact KX
   all_goals try exact KK
   conv=>whnf
   refine⟨{i:Nat // x.f≤i∧i≤k},fun q=>⟨[(0,mkrP),(2,tI .i64 (x.f:Int)),(3,vInts x.chain),(4,tI .i64 (e:Int)),(5,.r (.c (.own (5,0,0)))),(6,.r (.c (.own (6,0,0)))),(7,tI .i64 (k:Int)),(9,tI .i64 (q.1:Int))],
    [((0,0,0),some (mkrB C L.g d (5,0,1) (5,0,2))),((5,0,1),some (.dar 7 (itR L.g.items) none)),((5,0,2),some (.dar 6 (scH (S++[(x,L.lv)])) none)),((5,0,0),some (.arr false 1 (L.heads.map intRow))),((6,0,0),some (.arr false 2 ((exitsF C.p L.pos (x.f+1) (k - (x.f+1))++(if ownOf C.p k < q.1 then [(toOf C.p k,(L.g.items.length:Int))]else [])).map exRow)))],[6,5,0]⟩,
    fun q=>k - q.1,⟨x.f,by omega,by omega⟩,?_,?_⟩
   ·skip
    repeat' ((conv=>whnf);first|(with_reducible first|apply Wx|apply W6)|apply oi|(apply fi<;>intro h)|refine⟨_,rfl,?_⟩|((with_reducible show _=_);rfl))
    all_goals try((with_reducible refine Obl.mk ?_);exact KP)
    all_goals exact⟨by rw[if_neg (by dsimp only;omega)];simp⟩
   intro⟨i,hi1,hi2⟩
   dsimp only at hi1 hi2 ⊢
   by_cases hik:i < k
   ·have gEl:=s_spec_ElseOf C.p (i:Int) (by omega)
    by_cases hio:i=ownOf C.p k
    ·subst hio
     rw[show elseOf C.p (ownOf C.p k:Int)=(k:Int) by rw[elseOf_at];exact endI_some o1]at gEl
     have gEn:=s_spec_EndOf C.p (ownOf C.p k:Int) (by omega)
     rw[if_neg (by omega),List.append_nil]
     have hml:((exitsF C.p L.pos (x.f+1) (k - (x.f+1))).map exRow).length=(exitsF C.p L.pos (x.f+1) (k - (x.f+1))).length:=by simp
     have hitl:=itR_len L.g.items
     repeat' ((conv=>whnf);first|(with_reducible first|apply Wx|apply W6)|apply oi|(apply fi<;>intro h)|refine cl gEl ?_|refine cl gEn ?_|refine⟨_,rfl,?_⟩|((with_reducible show _=_);rfl))
     all_goals try((with_reducible refine Obl.mk ?_);exact KP)
     all_goals try exact KX
     all_goals try(exfalso;simp at h;done)
     all_goals try exact⟨⟨by rw[hml];simp <;> omega,by rw[hml];simp <;> omega⟩⟩
     conv=>whnf
     refine⟨⟨ownOf C.p k+1,by omega,by omega⟩,?_,by dsimp only;omega⟩
     repeat' ((conv=>whnf);first|(with_reducible first|apply Wx|apply W6)|apply oi|(apply fi<;>intro h)|refine⟨_,rfl,?_⟩|((with_reducible show _=_);rfl))
     all_goals try((with_reducible refine Obl.mk ?_);exact KP)
     all_goals try exact⟨KW⟩
     all_goals(refine⟨?_⟩;dsimp only;rw[if_pos (by omega),hto,hitl,IntWalk.i64_in _ (by omega)];simp)
    ·have hne:elseOf C.p (i:Int)≠(k:Int):=fun hh=>by
      rw[elseOf_at]at hh
      cases hz:elseAt C.p i with
      | none=>rw[hz]at hh;simp only[endI]at hh;omega
      | some j=>
       rw[hz]at hh
       simp only[endI]at hh
       have:j=k:=by omega
       subst this
       exact hio (elseAt_inj hz o1)
     generalize elseOf C.p (i:Int)=el at *
     repeat' ((conv=>whnf);first|(with_reducible first|apply Wx|apply W6)|apply oi|(apply fi<;>intro h)|refine cl gEl ?_|refine⟨_,rfl,?_⟩|((with_reducible show _=_);rfl))
     all_goals try((with_reducible refine Obl.mk ?_);exact KP)
     all_goals try exact KX
     ·exact absurd (eq_of_beq h) hne
     ·conv=>whnf
      refine⟨⟨i+1,by omega,by omega⟩,?_,by dsimp only;omega⟩
      repeat' ((conv=>whnf);first|(with_reducible first|apply Wx|apply W6)|apply oi|(apply fi<;>intro h)|refine⟨_,rfl,?_⟩|((with_reducible show _=_);rfl))
      all_goals try((with_reducible refine Obl.mk ?_);exact KP)
      all_goals try exact⟨KW⟩
      all_goals(refine⟨?_⟩;dsimp only;congr 2)
      all_goals(by_cases hh:ownOf C.p k < i)
      all_goals first|rw[if_pos hh,if_pos (by omega)]|rw[if_neg hh,if_neg (by omega)]
   ·have hie:i=k:=by omega
    subst hie
    rw[if_pos o3,hEn]
    repeat' ((conv=>whnf);first|(with_reducible first|apply Wx|apply W6)|refine cg gEm ?_|refine cg gP2 ?_|apply oi|(apply fi<;>intro h)|refine⟨_,rfl,?_⟩|((with_reducible show _=_);rfl))
    all_goals try((with_reducible refine Obl.mk ?_);exact KP)
    all_goals try exact KX
    conv=>whnf
    refine⟨⟨(i+1,stepB C x i ln A,A.g.items),hQ⟩,?_,by dsimp only;omega⟩
    repeat' ((conv=>whnf);first|(with_reducible first|apply Wx|apply W6)|apply oi|(apply fi<;>intro h)|refine⟨_,rfl,?_⟩|((with_reducible show _=_);rfl))
    all_goals try((with_reducible refine Obl.mk ?_);exact KP)
    all_goals try exact⟨KW⟩
    all_goals(refine⟨?_⟩;dsimp only;simp only[b1,b2,b3,b5,b6,a1,a2,a3,a4,a5,a6];try rfl)
  ·
   rw[if_neg (by omega),if_pos h7]at hA
   obtain⟨o1,o2⟩:=hx.own7 hC he (by omega) hke hl h7
   have hee:exitsF C.p L.pos (x.f+1) (k+1 - (x.f+1))=exitsF C.p L.pos (x.f+1) (k - (x.f+1)):=exits_next hkf (by unfold jumps;rw[kindAt_of hl,h7];decide)
   rcases o2 with⟨o2,o3⟩|⟨o2,o3,o4,y,hy,o5⟩
   ·subst o2
    rw[if_pos o3]at hA
    have gN:=g_spec_number C L.g d (scH (S++[(x,L.lv)])) 0 k x.chain hro hch (by omega)
    have gL:=g_spec_leave C hC (emitG C L.g d 0 0 k x.chain) (d+1) S x L.lv k true (by unfold roomy emitG;simp only[List.length_append,List.length_cons,List.length_nil];omega) hch (by omega) (by omega) (by omega) L.heads L.pos
    rw[show leaveG C x k true (d+1) ⟨emitG C L.g d 0 0 k x.chain,L.heads,L.pos,L.lv⟩=A from hA,Int.add_sub_cancel]at gL
    have a4:A.heads=L.heads:=by rw[←hA];unfold leaveG;(repeat' split) <;> rfl
    have a5:A.pos=L.pos:=by rw[←hA];unfold leaveG;(repeat' split) <;> rfl
    repeat' ((conv=>whnf);first|(with_reducible first|apply Wx|apply W6)|refine cg gP ?_|refine cg gN ?_|refine cg gL ?_|apply oi|(apply fi<;>intro h)|refine⟨k,ln.tr,rfl,map_get hl,?_⟩|refine⟨_,rfl,?_⟩|((with_reducible show _=_);rfl))
    all_goals try((with_reducible refine Obl.mk ?_);exact KP)
    all_goals try exact KX
    all_goals try exact KK
    all_goals try(exfalso;simp at h;done)
    conv=>whnf
    refine⟨⟨(k+1,stepB C x k ln A,A.g.items),hQ⟩,?_,by dsimp only;omega⟩
    repeat' ((conv=>whnf);first|(with_reducible first|apply Wx|apply W6)|apply oi|(apply fi<;>intro h)|refine⟨_,rfl,?_⟩|((with_reducible show _=_);rfl))
    all_goals try((with_reducible refine Obl.mk ?_);exact KP)
    all_goals try exact⟨KW⟩
    all_goals(refine⟨?_⟩;dsimp only;simp only[b1,b2,b3,b5,b6,a4,a5,hee];try rfl)
   ·rw[if_neg (by omega)]at hA
    have hky:=kindAt_of hy
    have gEm:=g_spec_emit C L.g d (scH (S++[(x,L.lv)])) 10 (atL L.heads (ownOf C.p k)) k x.chain hro hch
    have a4:A.heads=L.heads:=by rw[←hA];split <;> rfl
    have a5:A.pos=L.pos:=by rw[←hA];split <;> rfl
    have a6:A.lv=L.lv:=by rw[←hA];split <;> rfl
    have a1:A.g=if kindAt C.p (ownOf C.p k)=5 then emitG C L.g d 10 (atL L.heads (ownOf C.p k)) k x.chain else L.g:=by rw[←hA];split <;> rfl
    have hend:endOf C.p (ownOf C.p k:Int)=(k:Int):=by rw[endOf_at];exact endI_some o1
    have hhd:(L.heads.map intRow)[ownOf C.p k]?=some (intRow (atL L.heads (ownOf C.p k))):=by
     rw[List.getElem?_map]
     have:ownOf C.p k < L.heads.length:=by omega
     rw[List.getElem?_eq_getElem this,atL,List.getElem?_eq_getElem this]
     rfl
    have hol:ownOf C.p k < (L.heads.map intRow).length:=by rw[List.length_map];omega
    repeat' ((conv=>whnf);first|(with_reducible first|apply Wx|apply W6)|refine cg gP ?_|apply oi|(apply fi<;>intro h)|refine⟨k,ln.tr,rfl,map_get hl,?_⟩|refine⟨_,rfl,?_⟩|((with_reducible show _=_);rfl))
    all_goals try((with_reducible refine Obl.mk ?_);exact KP)
    all_goals try exact KX
    all_goals try exact KK
    conv=>whnf
    refine⟨{i:Nat // x.f+1≤i∧i≤k},fun q=>⟨[(0,mkrP),(2,tI .i64 (x.f:Int)),(3,vInts x.chain),(4,tI .i64 (e:Int)),(5,.r (.c (.own (5,0,0)))),(6,.r (.c (.own (6,0,0)))),(7,tI .i64 (k:Int)),(11,tI .i64 (q.1:Int))],
     [((0,0,0),some (mkrB C (if ownOf C.p k < q.1 then A.g else L.g) d (5,0,1) (5,0,2))),((5,0,1),some (.dar 7 (itR (if ownOf C.p k < q.1 then A.g else L.g).items) none)),((5,0,2),some (.dar 6 (scH (S++[(x,L.lv)])) none)),((5,0,0),some (.arr false 1 (L.heads.map intRow))),((6,0,0),some (.arr false 2 ((exitsF C.p L.pos (x.f+1) (k - (x.f+1))).map exRow)))],[6,5,0]⟩,
     fun q=>k - q.1,⟨x.f+1,by omega,by omega⟩,?_,?_⟩
    ·skip
     repeat' ((conv=>whnf);first|(with_reducible first|apply Wx|apply W6)|apply oi|(apply fi<;>intro h)|refine⟨_,rfl,?_⟩|((with_reducible show _=_);rfl))
     all_goals try((with_reducible refine Obl.mk ?_);exact KP)
     all_goals try(refine⟨?_⟩;dsimp only;rw[if_neg (by omega)];done)
     all_goals try exact⟨KW⟩
    intro⟨i,hi1,hi2⟩
    dsimp only at hi1 hi2 ⊢
    by_cases hik:i < k
    ·have gEn:=s_spec_EndOf C.p (i:Int) (by omega)
     obtain⟨z,hz⟩:=get_of_lt (l:=C.p) (k:=i) (by omega)
     by_cases hio:i=ownOf C.p k
     ·subst hio
      rw[hend]at gEn
      rw[hy]at hz
      injection hz with hz
      subst hz
      rw[if_neg (by omega)]
      by_cases h5:y.fKind=5
      ·rw[if_pos (by omega)]at a1
       repeat' ((conv=>whnf);first|(with_reducible first|apply Wx|apply W6)|refine cg gEm ?_|apply oi|(apply fi<;>intro h)|refine cl gEn ?_|refine⟨(ownOf C.p k),y.tr,rfl,map_get hy,?_⟩|refine⟨ownOf C.p k,rfl,hol,?_⟩|refine⟨_,hhd,?_⟩|refine⟨_,rfl,?_⟩|((with_reducible show _=_);rfl))
       all_goals try((with_reducible refine Obl.mk ?_);exact KP)
       all_goals try exact KX
       all_goals try exact KK
       all_goals try(exfalso;simp at h;done)
       conv=>whnf
       refine⟨⟨ownOf C.p k+1,by omega,by omega⟩,?_,by dsimp only;omega⟩
       repeat' ((conv=>whnf);first|(with_reducible first|apply Wx|apply W6)|apply oi|(apply fi<;>intro h)|refine⟨_,rfl,?_⟩|((with_reducible show _=_);rfl))
       all_goals try((with_reducible refine Obl.mk ?_);exact KP)
       all_goals try exact⟨KW⟩
       all_goals(refine⟨?_⟩;dsimp only;rw[if_pos (by omega),a1])
      ·rw[if_neg (by omega)]at a1
       repeat' ((conv=>whnf);first|(with_reducible first|apply Wx|apply W6)|refine cg gEm ?_|apply oi|(apply fi<;>intro h)|refine cl gEn ?_|refine⟨(ownOf C.p k),y.tr,rfl,map_get hy,?_⟩|refine⟨ownOf C.p k,rfl,hol,?_⟩|refine⟨_,hhd,?_⟩|refine⟨_,rfl,?_⟩|((with_reducible show _=_);rfl))
       all_goals try((with_reducible refine Obl.mk ?_);exact KP)
       all_goals try exact KX
       all_goals try exact KK
       all_goals try(exfalso;simp at h;done)
       conv=>whnf
       refine⟨⟨ownOf C.p k+1,by omega,by omega⟩,?_,by dsimp only;omega⟩
       repeat' ((conv=>whnf);first|(with_reducible first|apply Wx|apply W6)|apply oi|(apply fi<;>intro h)|refine⟨_,rfl,?_⟩|((with_reducible show _=_);rfl))
       all_goals try((with_reducible refine Obl.mk ?_);exact KP)
       all_goals try exact⟨KW⟩
       all_goals(refine⟨?_⟩;dsimp only;rw[if_pos (by omega),a1])
     ·have hne:endOf C.p (i:Int)≠(k:Int):=fun hh=>by
       have h':=endOf_some hh (by omega)
       rw[Int.toNat_natCast]at h'
       exact hio (endAt_inj h' o1)
      generalize endOf C.p (i:Int)=en at *
      repeat' ((conv=>whnf);first|(with_reducible first|apply Wx|apply W6)|apply oi|(apply fi<;>intro h)|refine cl gEn ?_|refine⟨i,z.tr,rfl,map_get hz,?_⟩|refine⟨_,rfl,?_⟩|((with_reducible show _=_);rfl))
      all_goals try((with_reducible refine Obl.mk ?_);exact KP)
      all_goals try exact KX
      all_goals try(exfalso;exact hne (eq_of_beq (by assumption)))
      conv=>whnf
      refine⟨⟨i+1,by omega,by omega⟩,?_,by dsimp only;omega⟩
      have hsm:(if ownOf C.p k < i+1 then A.g else L.g)=if ownOf C.p k < i then A.g else L.g:=by
       by_cases hh:ownOf C.p k < i
       ·rw[if_pos hh,if_pos (by omega)]
       ·rw[if_neg hh,if_neg (by omega)]
      dsimp only
      rw[hsm]
      repeat' ((conv=>whnf);first|(with_reducible first|apply Wx|apply W6)|apply oi|(apply fi<;>intro h)|refine⟨_,rfl,?_⟩|((with_reducible show _=_);rfl))
      all_goals try((with_reducible refine Obl.mk ?_);exact KP)
      all_goals try exact⟨KW⟩
    ·have hie:i=k:=by omega
     subst hie
     rw[if_pos o4]
     repeat' ((conv=>whnf);first|(with_reducible first|apply Wx|apply W6)|apply oi|(apply fi<;>intro h)|refine⟨_,rfl,?_⟩|((with_reducible show _=_);rfl))
     all_goals try((with_reducible refine Obl.mk ?_);exact KP)
     all_goals try exact KX
     conv=>whnf
     refine⟨⟨(i+1,stepB C x i ln A,A.g.items),hQ⟩,?_,by dsimp only;omega⟩
     repeat' ((conv=>whnf);first|(with_reducible first|apply Wx|apply W6)|apply oi|(apply fi<;>intro h)|refine⟨_,rfl,?_⟩|((with_reducible show _=_);rfl))
     all_goals try((with_reducible refine Obl.mk ?_);exact KP)
     all_goals try exact⟨KW⟩
     all_goals(refine⟨?_⟩;dsimp only;simp only[b1,b2,b3,b5,b6,a4,a5,a6,hee];try rfl)
  ·
   rw[if_neg (by omega),if_neg (by omega),if_pos h1]at hA
   have hx1:=hexp (.inl h1)
   have gX:=hX hx1 (by omega)
   have hG1:=hG hx1
   have hix:=idxOf_le x.locals ln.fName
   have gI:=s_spec_l04Index x.locals ln.fName (by omega)
   have gS:=g_spec_store C hC g1 (d+1) (scH (S++[(x,L.lv)])) x (idxOf x.locals ln.fName) k x.chain (by unfold roomy;omega) hch (by omega) hxf (by omega)
   rw[Int.add_sub_cancel]at gS
   have a1:A.g=storeG C x g1 (d+1) (idxOf x.locals ln.fName) k x.chain:=by rw[←hA]
   have a4:A.heads=L.heads.set k L.g.items.length:=by rw[←hA]
   have a5:A.pos=L.pos:=by rw[←hA]
   have a6:A.lv=L.lv:=by rw[←hA]
   have hee:exitsF C.p L.pos (x.f+1) (k+1 - (x.f+1))=exitsF C.p L.pos (x.f+1) (k - (x.f+1)):=exits_next hkf (by unfold jumps;rw[kindAt_of hl,h1];decide)
   generalize idxOf x.locals ln.fName=ix at *
   repeat' ((conv=>whnf);first|(with_reducible first|apply Wx|apply W6)|refine cg gP ?_|refine cg gX ?_|refine cg gS ?_|apply oi|(apply fi<;>intro h)|refine⟨k,ln.tr,rfl,map_get hl,?_⟩|refine⟨k,rfl,hIl,?_⟩|refine⟨_,hhr,?_⟩|refine⟨S.length,hw L.lv,hlt L.lv,?_⟩|refine⟨_,hrow L.lv,?_⟩|refine cl gI ?_|refine⟨_,rfl,?_⟩|((with_reducible show _=_);rfl))
   all_goals try((with_reducible refine Obl.mk ?_);exact KP)
   all_goals try exact KX
   all_goals try exact KK
   conv=>whnf
   refine⟨⟨(k+1,stepB C x k ln A,A.g.items),hQ⟩,?_,by dsimp only;omega⟩
   repeat' ((conv=>whnf);first|(with_reducible first|apply Wx|apply W6)|apply oi|(apply fi<;>intro h)|refine⟨_,rfl,?_⟩|((with_reducible show _=_);rfl))
   all_goals try((with_reducible refine Obl.mk ?_);exact KP)
   all_goals try exact⟨KW⟩
   all_goals(refine⟨?_⟩;dsimp only;simp only[b1,b2,b3,b5,b6,a1,a4,a5,a6,hee,hitl,←hhs];try rfl)
  ·
   rw[if_neg (by omega),if_neg (by omega),if_neg (by omega),if_pos h2]at hA
   have hx1:=hexp (.inr (.inl h2))
   have gX:=hX hx1 (by omega)
   have hG1:=hG hx1
   have gS:=g_spec_emit C g1 (d+1) (scH (S++[(x,L.lv)])) 17 0 k x.chain (by unfold roomy;omega) hch
   have a1:A.g=emitG C g1 (d+1) 17 0 k x.chain:=by rw[←hA]
   have a4:A.heads=L.heads.set k L.g.items.length:=by rw[←hA]
   have a5:A.pos=L.pos:=by rw[←hA]
   have a6:A.lv=L.lv:=by rw[←hA]
   have hee:exitsF C.p L.pos (x.f+1) (k+1 - (x.f+1))=exitsF C.p L.pos (x.f+1) (k - (x.f+1)):=exits_next hkf (by unfold jumps;rw[kindAt_of hl,h2];decide)
   repeat' ((conv=>whnf);first|(with_reducible first|apply Wx|apply W6)|refine cg gP ?_|refine cg gX ?_|refine cg gS ?_|apply oi|(apply fi<;>intro h)|refine⟨k,ln.tr,rfl,map_get hl,?_⟩|refine⟨k,rfl,hIl,?_⟩|refine⟨_,hhr,?_⟩|refine⟨_,rfl,?_⟩|((with_reducible show _=_);rfl))
   all_goals try((with_reducible refine Obl.mk ?_);exact KP)
   all_goals try exact KX
   all_goals try exact KK
   conv=>whnf
   refine⟨⟨(k+1,stepB C x k ln A,A.g.items),hQ⟩,?_,by dsimp only;omega⟩
   repeat' ((conv=>whnf);first|(with_reducible first|apply Wx|apply W6)|apply oi|(apply fi<;>intro h)|refine⟨_,rfl,?_⟩|((with_reducible show _=_);rfl))
   all_goals try((with_reducible refine Obl.mk ?_);exact KP)
   all_goals try exact⟨KW⟩
   all_goals(refine⟨?_⟩;dsimp only;simp only[b1,b2,b3,b5,b6,a1,a4,a5,a6,hee,hitl,←hhs];try rfl)
  ·
   rw[if_neg (by omega),if_neg (by omega),if_neg (by omega),if_neg (by omega),if_pos h6]at hA
   have hx1:=hexp (.inr (.inr (.inr (.inr h6))))
   have gX:=hX hx1 (by omega)
   have hG1:=hG hx1
   have gS:=g_spec_leave C hC g1 (d+1) S x L.lv k false (by unfold roomy;omega) hch (by omega) (by omega) (by omega) (L.heads.set k L.g.items.length) L.pos
   rw[hA,Int.add_sub_cancel]at gS
   have a4:A.heads=L.heads.set k L.g.items.length:=by rw[←hA];unfold leaveG;(repeat' split) <;> rfl
   have a5:A.pos=L.pos:=by rw[←hA];unfold leaveG;(repeat' split) <;> rfl
   have hee:exitsF C.p L.pos (x.f+1) (k+1 - (x.f+1))=exitsF C.p L.pos (x.f+1) (k - (x.f+1)):=exits_next hkf (by unfold jumps;rw[kindAt_of hl,h6];decide)
   repeat' ((conv=>whnf);first|(with_reducible first|apply Wx|apply W6)|refine cg gP ?_|refine cg gX ?_|refine cg gS ?_|apply oi|(apply fi<;>intro h)|refine⟨k,ln.tr,rfl,map_get hl,?_⟩|refine⟨k,rfl,hIl,?_⟩|refine⟨_,hhr,?_⟩|refine⟨_,rfl,?_⟩|((with_reducible show _=_);rfl))
   all_goals try((with_reducible refine Obl.mk ?_);exact KP)
   all_goals try exact KX
   all_goals try exact KK
   conv=>whnf
   refine⟨⟨(k+1,stepB C x k ln A,A.g.items),hQ⟩,?_,by dsimp only;omega⟩
   repeat' ((conv=>whnf);first|(with_reducible first|apply Wx|apply W6)|apply oi|(apply fi<;>intro h)|refine⟨_,rfl,?_⟩|((with_reducible show _=_);rfl))
   all_goals try((with_reducible refine Obl.mk ?_);exact KP)
   all_goals try exact⟨KW⟩
   all_goals(refine⟨?_⟩;dsimp only;simp only[b1,b2,b3,b5,b6,a4,a5,hee,hitl,←hhs];try rfl)
  ·
   rw[if_neg (by omega),if_neg (by omega),if_neg (by omega),if_neg (by omega),if_neg (by omega)]at hA
   have hx1:=hexp (by omega)
   have gX:=hX hx1 (by omega)
   have hG1:=hG hx1
   have gS:=g_spec_emit C g1 (d+1) (scH (S++[(x,L.lv)])) 11 0 k x.chain (by unfold roomy;omega) hch
   have a1:A.g=emitG C g1 (d+1) 11 0 k x.chain:=by rw[←hA]
   have a4:A.heads=L.heads.set k L.g.items.length:=by rw[←hA]
   have a5:A.pos=L.pos.set k g1.items.length:=by rw[←hA]
   have a6:A.lv=L.lv:=by rw[←hA]
   have hkk:=kindAt_of hl
   have hee:=exits_jump (pos:=L.pos) (p:=C.p) (f:=x.f) (k:=k) hkf (by unfold jumps;omega) (by rw[hIp];omega) (g1.items.length:Int)
   have gEn:=s_spec_EndOf C.p (k:Int) (by omega)
   have gEl:=s_spec_ElseOf C.p (k:Int) (by omega)
   have hge:=endOf_ge C.p k
   have hgl:-1≤elseOf C.p (k:Int)∧elseOf C.p (k:Int)≤C.p.length:=by
    rw[elseOf_at]
    cases hz:elseAt C.p k with
    | none=>simp only[endI];omega
    | some j=>
     obtain⟨_,_,_,_,_,_,_,w,hw,_⟩:=elseAt_some hz
     have:=lt_of_get hw
     simp only[endI];omega
   have hto:toOf C.p k=if ln.fKind=3∧0≤elseOf C.p (k:Int)then - elseOf C.p (k:Int)else endOf C.p (k:Int)+1:=by unfold toOf;rw[if_neg (by omega),hkk]
   have hml:((exitsF C.p L.pos (x.f+1) (k - (x.f+1))).map exRow).length=(exitsF C.p L.pos (x.f+1) (k - (x.f+1))).length:=by simp
   have hitg:=itR_len g1.items
   generalize toOf C.p k=to at *
   generalize endOf C.p (k:Int)=en at *
   generalize elseOf C.p (k:Int)=el at *
   have hw1:IntKind.i64.wrap (en+1)=en+1:=by rw[IntWalk.i64_in _ (by omega)]
   have hw2:IntKind.i64.wrap (0 - el)= - el:=by rw[IntWalk.i64_in _ (by omega)];omega
   repeat' ((conv=>whnf);first|(with_reducible first|apply Wx|apply W6)|refine cg gP ?_|refine cg gX ?_|refine cg gS ?_|apply oi|(apply fi<;>intro h)|refine⟨k,ln.tr,rfl,map_get hl,?_⟩|refine⟨k,rfl,hIl,?_⟩|refine⟨_,hhr,?_⟩|refine cl gEn ?_|refine cl gEl ?_|refine⟨_,rfl,?_⟩|((with_reducible show _=_);rfl))
   all_goals try((with_reducible refine Obl.mk ?_);exact KP)
   all_goals try exact KX
   all_goals try exact KK
   all_goals try exact⟨⟨by rw[hml];simp <;> omega,by rw[hml];simp <;> omega⟩⟩
   all_goals(conv=>whnf)
   all_goals(refine⟨⟨(k+1,stepB C x k ln A,A.g.items),hQ⟩,?_,by dsimp only;omega⟩)
   repeat' ((conv=>whnf);first|(with_reducible first|apply Wx|apply W6)|apply oi|(apply fi<;>intro h)|refine⟨_,rfl,?_⟩|((with_reducible show _=_);rfl))
   all_goals try((with_reducible refine Obl.mk ?_);exact KP)
   all_goals try exact⟨KW⟩
   all_goals(refine⟨?_⟩;dsimp only;simp only[b1,b2,b3,b5,b6,a1,a4,a5,a6,←hee,hitl,hitg,←hhs,hw1,hw2];try rfl)
   all_goals first
    |(rw[hto,if_pos ⟨eq_of_beq (by assumption),of_decide_eq_true (by assumption)⟩];simp)
    |(rw[hto,if_neg (fun hh=>absurd hh.2 (of_decide_eq_false (by assumption)))];simp)
    |(rw[hto,if_neg (fun hh=>by
                     have h9:(ln.fKind==3)=false:=by assumption
                     rw[hh.1]at h9;cases h9)];simp)
 ·have hk1:k=e+1:=by have:=hI.hi;omega
  subst hk1
  have hf:=hI.fin
  rw[Nat.sub_self,runL]at hf
  subst hf
  rw[hlast rfl]
  repeat' ((conv=>whnf);first|(with_reducible first|apply Wx|apply W6)|apply oi|(apply fi<;>intro h)|refine⟨_,rfl,?_⟩|((with_reducible show _=_);rfl))
  all_goals try((with_reducible refine Obl.mk ?_);exact KP)
  all_goals try exact KX
end Go.Proofs.Ytogdbgmiigfmfaa
namespace Go.Proofs.Ytogdbgmiigfmfaa
open Go.Sim
set_option maxRecDepth 100000
set_option maxHeartbeats 4000000
theorem lines_all {C:Cx}(hC:CxOk C):∀lev,RepC C lev∧LinesC C lev:=by
 have hL:∀lev,RepC C lev→LinesC C lev:=fun lev hR=>LinesC_of hC fun e x S lv k p ln s d h1 h2 h3 h4 h5 h6=>ExprC_of hC hR e.toks.length e (Nat.le_refl _) x S lv k p ln s d h1 h2 h3 h4 h5 h6
 intro lev
 induction lev with
 | zero=>
  have hR:RepC C 0:=by
   intro x S lv k g s d hx hk hg hrb hr
   obtain⟨r1,_⟩:=replB_spec hrb
   have:=hr.depth
   rw[show(insOf (S++[(x,lv)])).length=S.length+1 by simp]at r1
   omega
  exact⟨hR,hL 0 hR⟩
 | succ n ih=>
  have hR:=RepC_of hC ih.2
  exact⟨hR,hL _ hR⟩
def framedB (frames f:Int):Bool:=IntKind.i64.wrap (BitVec.ofInt IntKind.i64.bits (frames.fdiv (2 ^ min f.toNat IntKind.i64.bits)) &&& BitVec.ofInt IntKind.i64.bits 1).toNat==1
theorem s_spec_l08Compile (C:Cx)(hC:CxOk C)(f g:Nat)(hf:(funs C.p)[f]?=some g)(e3:C.framed=framedB C.b.fFrames f)(e5:C.args=argsN C.p g):
  Sim.Spec Try.prog 122 [tvP C.p,tvI (f:Int),.agg C.b.tr,tvI C.words] (.tup [.c (.arr 7 ((compG C g).items.map TItem.tr)),.c (.t (.int .i64 (compG C g).most))]):=by
 refine spec_of_Wo hΓ hmix Try.func122 rfl (by decide) rfl ?_
 obtain⟨hgl,y,hy,hy0⟩:=funs_lt (List.mem_of_getElem? hf)
 have h60:=hC.len
 have hw:=hC.words
 have hin:=hC.inl
 have gF:=s_spec_FunctionLines C.p (by omega)
 have gL:=s_spec_LocalsOf C.p (g:Int) (by omega) (fun z hz=>smallRs_map hC.small hz)
 have hA:argsN C.p g=y.fArgs.length:=by rw[argsN,hy]
 have h4:=(hC.line g y hy).2.2.1
 have hfl:f < (funs C.p).length:=lt_of_get hf
 have hfr:f < ((funs C.p).map fun n:Nat=>intRow n).length:=by rw[List.length_map];exact hfl
 have hfg:((funs C.p).map fun n:Nat=>intRow n)[f]?=some (intRow (g:Int)):=by rw[List.getElem?_map,hf];rfl
 have hloc:=isFun_locals hC ⟨y,hy,hy0⟩
 have hyl:(y.fArgs.map strRow).length=y.fArgs.length:=by simp
 have hll:((localsOf C.p (g:Int)).map strRow).length=(localsOf C.p (g:Int)).length:=by simp
 have hS:ScOk C (outerSc C g) [g]:=⟨⟨y,hy,hy0⟩,rfl,⟨Int.le_refl _,by simp[outerSc]⟩,rfl,by simp[outerSc],fun _=>e5,rfl⟩
 obtain⟨e,he1,he2,he3,he4,_⟩:=hS.endE hC
 obtain⟨O,hO⟩:∃O,outerSc C g=O:=⟨_,rfl⟩
 have hOr:scRow O []=[.d (.int .i64 (g:Int)),.t (.lst 1 []),.t (.lst 1 ((localsOf C.p (g:Int)).map strRow)),.d (.int .i64 0),.d (.bool true),.d (.lst 0 [])]:=by rw[←hO,outerSc];rfl
 have hOl:(scH [(O,[])])[0]?=some [.d (.int .i64 (g:Int)),.t (.lst 1 []),.t (.lst 1 ((localsOf C.p (g:Int)).map strRow)),.d (.int .i64 0),.d (.bool true),.d (.lst 0 [])]:=by rw[←hOr];rfl
 have g1:=fun code=>g_spec_emit C ⟨[],(localsOf C.p (g:Int)).length - C.args,false⟩ 0 (scH [(O,[])]) code C.words g [] (by unfold roomy;simp) (by simp)
 have hlev:((C.b.fInline.toNat:Nat):Int)=C.b.fInline:=Int.toNat_of_nonneg hin.1
 have h3:=tokC_3 (n:=C.b.fInline.toNat) (by omega)
 have gLs:=(lines_all hC C.b.fInline.toNat).2 O [] (headG C g) C.words (by rw[←hO];exact hS) (by
  rw[←hO,he4]
  have:=Nat.mul_le_mul (show e - (outerSc C g).f≤60 by omega) (show 20 * tokC C.b.fInline.toNat+3≤20 * 8679837+3 by omega)
  simp only[headG,emitG,List.length_append,List.length_nil,List.length_cons]
  omega) (by simpa using hlev) hw.1 (by omega)
 have hcg:linesG C (repN C C.b.fInline.toNat) O (insOf ([]++[(O,[])])) C.words (headG C g)=linesG C (repN C C.b.fInline.toNat) (outerSc C g) [g] C.words (headG C g):=by rw[←hO];rfl
 rw[hcg,List.nil_append,List.nil_append]at gLs
 repeat' ((conv=>whnf);first|(with_reducible apply W1;fail_if_success (with_reducible show Wo _ _ _ _ (Code.region 4 _ _) _ _))|(with_reducible first|apply W2|apply W3|apply W4|apply W5|apply W6|apply W7|apply W8|apply W9)|apply reg_inl|apply oi|(apply fi<;>intro h)|refine cl gF ?_|refine⟨f,rfl,hfr,?_⟩|refine⟨_,hfg,?_⟩|refine⟨g,y.tr,rfl,map_get hy,?_⟩|refine cl gL ?_|refine⟨_,rfl,?_⟩|((with_reducible show _=_);rfl))
 all_goals try((with_reducible refine Obl.mk ?_);exact KP)
 all_goals try exact⟨by omega⟩
 all_goals try exact⟨flat_strs _⟩
 conv=>whnf
 refine give_rule (40,0,0) (rows':=[scRow O []]) rfl ?_ ?_
 ·rw[hOr]
  refine⟨⟨rfl,fun q c d hc hd=>?_⟩,trivial⟩
  match q with
  | 0=>simp at hc hd;subst hc;subst hd;exact .inl rfl
  | 1=>simp at hc hd;subst hc;subst hd;exact .inr (.inr ⟨0,1,rfl,rfl⟩)
  | 2=>simp at hc hd;subst hc;subst hd;exact .inr (.inl rfl)
  | 3=>simp at hc hd;subst hc;subst hd;exact .inl rfl
  | 4=>simp at hc hd;subst hc;subst hd;exact .inl rfl
  | 5=>simp at hc hd;subst hc;subst hd;exact .inl rfl
  | q+6=>simp at hc
 refine leq_rule ⟨[(0,vP C.p),(3,tI .i64 C.words),(10,tI .i64 (g:Int)),(11,.r (.c (.ptr (33,0,0) 0)))],[((33,0,0),some (mkrB C ⟨[],0,false⟩ 0 (33,0,1) (33,0,2))),((33,0,1),some (.dar 7 (itR []) none)),((33,0,2),some (.dar 6 (scH [(O,[])]) none))],[40,38,33,13,6]⟩ ?_ ?_
 ·skip
  repeat' ((conv=>whnf);first|(with_reducible first|apply Wx|apply W6)|apply oi|(apply fi<;>intro h)|refine⟨_,rfl,?_⟩|((with_reducible show _=_);rfl))
  all_goals try((with_reducible refine Obl.mk ?_);exact KP)
  all_goals try exact⟨by rw[e3];rfl⟩
  all_goals try exact⟨by rw[e5,hA,hyl]⟩
 have hwm:IntKind.i64.wrap ((((localsOf C.p (g:Int)).map strRow).length:Int) - C.args)=((localsOf C.p (g:Int)).length:Int) - C.args:=by rw[hll,IntWalk.i64_in _ (by omega)]
 cases hfm:C.framed with
 | true=>
  have hh:headG C g=emitG C ⟨[],(localsOf C.p (g:Int)).length - C.args,false⟩ 0 13 C.words g []:=by rw[headG,if_pos hfm]
  rw[hh]at gLs
  have g2:=g1 13
  have hcr:compG C g=(linesG C (repN C C.b.fInline.toNat) (outerSc C g) [g] C.words (emitG C ⟨[],(localsOf C.p (g:Int)).length - C.args,false⟩ 0 13 C.words g [])).1:=by rw[compG,hh]
  rw[hcr]
  repeat' ((conv=>whnf);first|(with_reducible first|apply Wx|apply W6)|refine cg g2 ?_|refine cg gLs ?_|apply oi|(apply fi<;>intro h)|refine⟨0,rfl,(by simp),?_⟩|refine⟨_,hOl,?_⟩|refine⟨_,rfl,?_⟩|((with_reducible show _=_);rfl))
  all_goals try((with_reducible refine Obl.mk ?_);exact KP)
  all_goals try(exfalso;rw[hfm]at h;cases h;done)
  all_goals first|exact⟨⟨_,rfl⟩⟩|exact⟨congrArg (Tr.int .i64) hwm.symm⟩
 | false=>
  have hh:headG C g=emitG C ⟨[],(localsOf C.p (g:Int)).length - C.args,false⟩ 0 15 C.words g []:=by rw[headG,if_neg (by simp[hfm])]
  rw[hh]at gLs
  have g2:=g1 15
  have hcr:compG C g=(linesG C (repN C C.b.fInline.toNat) (outerSc C g) [g] C.words (emitG C ⟨[],(localsOf C.p (g:Int)).length - C.args,false⟩ 0 15 C.words g [])).1:=by rw[compG,hh]
  rw[hcr]
  repeat' ((conv=>whnf);first|(with_reducible first|apply Wx|apply W6)|refine cg g2 ?_|refine cg gLs ?_|apply oi|(apply fi<;>intro h)|refine⟨0,rfl,(by simp),?_⟩|refine⟨_,hOl,?_⟩|refine⟨_,rfl,?_⟩|((with_reducible show _=_);rfl))
  all_goals try((with_reducible refine Obl.mk ?_);exact KP)
  all_goals try(exfalso;rw[hfm]at h;cases h;done)
  all_goals first|exact⟨⟨_,rfl⟩⟩|exact⟨congrArg (Tr.int .i64) hwm.symm⟩
theorem compG_most {C:Cx}(hC:CxOk C){g:Nat}(hg:isFun C g)(e5:C.args=argsN C.p g):0≤(compG C g).most∧(compG C g).most≤1000:=by
 have hS:ScOk C (outerSc C g) [g]:=⟨hg,rfl,⟨Int.le_refl _,by simp[outerSc]⟩,rfl,by simp[outerSc],fun _=>e5,rfl⟩
 have hG:=linesG_grow (lev:=C.b.fInline.toNat) (rep:=repN C C.b.fInline.toNat) (fun line g d s hg hr=>repN_grow hC _ line g d s hS hg hr) hC hS C.words (headG C g)
 obtain⟨l1,l2⟩:=isFun_locals hC hg
 have hm:(headG C g).most=(localsOf C.p (g:Int)).length - C.args:=rfl
 have h1:=hG.most
 have h2:=hG.cap (by rw[hm];omega)
 rw[hm]at h1
 exact⟨Int.le_trans (by omega) h1,h2⟩
def ctx (p:List TLine)(f g:Nat)(b:TBuild)(words:Int):Cx:=⟨p,b,framedB b.fFrames f,words,argsN p g⟩
noncomputable def foldIf (p:List TLine) (b:TBuild):List TLine:=if b.fFold=true then p.map foldLine else p
noncomputable def compiled (p:List TLine) (f:Nat) (b:TBuild):List TItem:=match(funs (foldIf p b))[f]? with
 | some g=>(compG (ctx (foldIf p b) f g b (compG (ctx (foldIf p b) f g b 0) g).most) g).items
 | none=>[]
noncomputable def compileF (p:List TLine) (f:Int) (b:TBuild):List TItem:=
 if programOk p=true∧buildOk b=true∧0≤f∧f < (funs p).length then compiled p f.toNat b else []
theorem alike.funsF:∀{p q:List TLine},alike p q→∀i:Nat,funsF p i=funsF q i
 | [],[],_,_=>rfl
 | x::p,y::q,h,i=>by
  simp only[alike,List.map_cons,List.cons.injEq,Prod.mk.injEq]at h
  have ih:=alike.funsF (p:=p) (q:=q) h.2
  rw[Go.Proofs.Ytogdbgmiigfmfaa.funsF,Go.Proofs.Ytogdbgmiigfmfaa.funsF,h.1.1,ih]
 | [],_::_,h,_=>by simp[alike]at h
 | _::_,[],h,_=>by simp[alike]at h
theorem foldIf_funs (p:List TLine)(b:TBuild):funs (foldIf p b)=funs p:=by
 unfold foldIf
 split
 ·exact(foldLine_alike p).funsF 0
 ·rfl
theorem PgOk.foldIf {p:List TLine}(h:PgOk p)(b:TBuild):PgOk (foldIf p b):=by
 unfold Go.Proofs.Ytogdbgmiigfmfaa.foldIf
 split
 ·exact h.fold
 ·exact h
theorem s_spec_CompileFunction (p:List TLine)(f:Int)(b:TBuild)(hs:smallT 1048576 (.lst 4 (p.map TLine.tr))):Sim.Spec Try.prog 80 [tvP p,tvI f,.agg b.tr] (rL 7 ((compileF p f b).map TItem.tr)):=by
 refine spec_of_Wo hΓ hmix Try.func80 rfl (by decide) rfl ?_
 have hP:=s_spec_ProgramOk p hs
 have hB:=s_spec_BuildOk b
 have hl:=small_nat hs
 have gF:=s_spec_FunctionLines p (by omega)
 have hfl:((funs p).map fun n:Nat=>intRow n).length=(funs p).length:=by simp
 by_cases hc:programOk p=true∧buildOk b=true∧0≤f∧f < (funs p).length
 ·have hcf:compileF p f b=compiled p f.toNat b:=by rw[compileF,if_pos hc]
  rw[hcf]
  obtain⟨h1,h2,h3,h4⟩:=hc
  obtain⟨f,rfl⟩:=Int.eq_ofNat_of_zero_le h3
  rw[Int.toNat_natCast]
  rw[h1]at hP
  rw[h2]at hB
  have hb:0≤b.fInline∧b.fInline≤3:=by
   unfold buildOk at h2
   simp only[Bool.and_eq_true,within_iff]at h2
   exact h2.2
  obtain⟨g,hg⟩:=get_of_lt (l:=funs p) (k:=f) (by omega)
  have hpg:=(PgOk_of hs h1).foldIf b
  have hg':(funs (foldIf p b))[f]?=some g:=by rw[foldIf_funs];exact hg
  obtain⟨hgl,y,hy,hy0⟩:=funs_lt (List.mem_of_getElem? hg')
  have h4':=(hpg.line g y hy).2.2.1
  have ha:(0:Int)≤(argsN (foldIf p b) g:Int)∧(argsN (foldIf p b) g:Int)≤4:=by rw[argsN,hy];dsimp only;omega
  have hC0:CxOk (ctx (foldIf p b) f g b 0):=hpg.cx ha (by omega) hb
  have hm:=compG_most hC0 ⟨y,hy,hy0⟩ rfl
  have hC1:CxOk (ctx (foldIf p b) f g b (compG (ctx (foldIf p b) f g b 0) g).most):=hpg.cx ha hm hb
  have g0:=s_spec_l08Compile _ hC0 f g hg' rfl rfl
  have g1:=s_spec_l08Compile _ hC1 f g hg' rfl rfl
  have hcd:compiled p f b=(compG (ctx (foldIf p b) f g b (compG (ctx (foldIf p b) f g b 0) g).most) g).items:=by rw[compiled,hg']
  rw[hcd]
  generalize compG (ctx (foldIf p b) f g b 0) g=R0 at *
  generalize compG (ctx (foldIf p b) f g b R0.most) g=R1 at *
  have hfo:=s_spec_FoldProgram p hs
  rw[show foldProg p=p.map foldLine by rw[foldProg,if_pos h1]]at hfo
  obtain⟨fr,inl,fold,sp⟩:=b
  cases fold with
  | true=>
   have e:foldIf p ⟨fr,inl,true,sp⟩=p.map foldLine:=rfl
   simp only[ctx,e]at g0 g1
   repeat' ((conv=>whnf);first|(with_reducible first|apply Wx|apply W6)|apply oi|(apply fi<;>intro h)|refine cl hP ?_|refine cl hB ?_|refine cl gF ?_|refine cl hfo ?_|refine cl g0 ?_|refine cl g1 ?_|refine⟨_,rfl,?_⟩|((with_reducible show _=_);rfl))
   all_goals try((with_reducible refine Obl.mk ?_);exact KP)
   all_goals try exact KX
  | false=>
   have e:foldIf p ⟨fr,inl,false,sp⟩=p:=rfl
   simp only[ctx,e]at g0 g1
   repeat' ((conv=>whnf);first|(with_reducible first|apply Wx|apply W6)|apply oi|(apply fi<;>intro h)|refine cl hP ?_|refine cl hB ?_|refine cl gF ?_|refine cl hfo ?_|refine cl g0 ?_|refine cl g1 ?_|refine⟨_,rfl,?_⟩|((with_reducible show _=_);rfl))
   all_goals try((with_reducible refine Obl.mk ?_);exact KP)
   all_goals try exact KX
 ·have hcf:compileF p f b=[]:=by rw[compileF,if_neg hc]
  rw[hcf]
  cases h1:programOk p with
  | false=>
   rw[h1]at hP
   repeat' ((conv=>whnf);first|(with_reducible first|apply Wx|apply W6)|apply oi|(apply fi<;>intro h)|refine cl hP ?_|refine cl hB ?_|refine cl gF ?_|refine⟨_,rfl,?_⟩|((with_reducible show _=_);rfl))
   all_goals try((with_reducible refine Obl.mk ?_);exact KP)
   all_goals try exact KX
  | true=>
   rw[h1]at hP
   cases h2:buildOk b with
   | false=>
    rw[h2]at hB
    repeat' ((conv=>whnf);first|(with_reducible first|apply Wx|apply W6)|apply oi|(apply fi<;>intro h)|refine cl hP ?_|refine cl hB ?_|refine cl gF ?_|refine⟨_,rfl,?_⟩|((with_reducible show _=_);rfl))
    all_goals try((with_reducible refine Obl.mk ?_);exact KP)
    all_goals try exact KX
   | true=>
    rw[h2]at hB
    have hc':¬(0≤f∧f < (funs p).length):=fun hh=>hc ⟨h1,h2,hh⟩
    repeat' ((conv=>whnf);first|(with_reducible first|apply Wx|apply W6)|apply oi|(apply fi<;>intro h)|refine cl hP ?_|refine cl hB ?_|refine cl gF ?_|refine⟨_,rfl,?_⟩|((with_reducible show _=_);rfl))
    all_goals try((with_reducible refine Obl.mk ?_);exact KP)
    all_goals try exact KX
end Go.Proofs.Ytogdbgmiigfmfaa
