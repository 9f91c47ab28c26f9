import Derived.Test.YtjmplnfiabmalaaGg
namespace Go.Proofs.Ytjmplnfiabmalaa
noncomputable section
open Go.Sim
set_option maxRecDepth 100000
set_option maxHeartbeats 4000000
structure Cx where
 p:List Ai
 b:Aa
 framed:Bool
 words:Int
 args:Int
structure Sc where
 f:Nat
 chain:List Int
 locals:List (List UInt8)
 first:Int
 outer:Bool
structure Gs where
 items:List Ah
 most:Int
 start:Bool
def yG (C:Cx)(s:Gs)(depth code arg line:Int)(chain:List Int):Ah:=⟨⟨code,arg⟩,line,s.start,chain,if C.framed=true∧0 < s.items.length then 0 else depth,C.framed && decide (0 < s.items.length)⟩
def cr (C:Cx)(s:Gs)(depth code arg line:Int)(chain:List Int):Gs:=⟨s.items++[yG C s depth code arg line chain],s.most,false⟩
def yp (C:Cx)(x:Sc)(i:Int):Bool:=x.outer && decide (i < C.args)
def wi (C:Cx)(x:Sc)(i:Int):Int:=if x.outer=true then i - C.args else x.first+i
def we (C:Cx)(store:Bool):Int:=(if C.framed=true then 1 else 3)+(if store=true then 1 else 0)
def xd (C:Cx)(x:Sc)(depth i:Int):Int:=
 if C.framed=true then(if yp C x i=true then 1+(C.args - i)else -1 - wi C x i)
 else(if yp C x i=true then depth+(C.args - i)else depth - 1 - wi C x i)
def zk (C:Cx)(x:Sc)(s:Gs)(depth i line:Int):Gs:=cr C s depth (we C false) (xd C x depth i) line x.chain
def uh (C:Cx)(x:Sc)(s:Gs)(depth i line:Int)(chain:List Int):Gs:=cr C s depth (we C true) (xd C x depth i) line chain
def mW (C:Cx)(y:Sc)(chain:List Int)(line:Int):Nat→Int→Gs→Gs
 | 0,_,s=>s
 | n+1,d,s=>mW C y chain line n (d - 1) (uh C y s d n line chain)
def qO (C:Cx)(y:Sc)(chain:List Int)(line d:Int):Nat→Nat→Gs→Gs
 | 0,_,s=>s
 | n+1,i,s=>qO C y chain line d n (i+1) (uh C y (cr C s d 0 0 line chain) (d+1) i line chain)
def ov (l:List Ah)(j:Int)(v:Int):List Ah:=if 0≤j then(match l[j.toNat]? with
 | some x=>l.set j.toNat ⟨⟨x.far.fag,v⟩,x.fai,x.faf,x.fas,x.faj,x.faD⟩
 | none=>l)else l
def rh (l:List Ah)(v:Int):List Int→List Ah
 | []=>l
 | j::js=>rh (ov l j v) v js
def zf (p:List Ai)(g:Nat):Nat:=((p.take g).filter fun x=>x.faa==0).length
def gh (C:Cx)(inside:List Nat)(g:Nat)(n:Nat):Bool:=decide ((inside.length:Int)≤C.b.fan) && (decide (bv C.p (g:Int) - g≤9) && (decide (n < 200) && !inside.contains g))
def yH (C:Cx)(rep:Sc→List Nat→Nat→Nat→Int→Gs→Gs)(x:Sc)(inside:List Nat)(line:Nat)(t:Ar)(d:Int)(s:Gs):Gs:=
 if t.faa=0 then cr C s d 0 t.fae line x.chain
 else if t.faa=1 then zk C x s d (dB x.locals t.fab) line
 else if t.faa=7 then(match findN C.p 0 t.fab with
  | some g=>if gh C inside g s.items.length=true then rep x inside line g d s else cr C s d 12 (zf C.p g) line x.chain
  | none=>s)
 else cr C s d (5+t.faa - 2) 0 line x.chain
mutual
def tn (C:Cx)(rep:Sc→List Nat→Nat→Nat→Int→Gs→Gs)(x:Sc)(inside:List Nat)(line:Nat):Ex→Int→Gs→Gs
 | .node t es,d,s=>yH C rep x inside line t (d+es.length) (sO C rep x inside line es d s)
def sO (C:Cx)(rep:Sc→List Nat→Nat→Nat→Int→Gs→Gs)(x:Sc)(inside:List Nat)(line:Nat):List Ex→Int→Gs→Gs
 | [],_,s=>s
 | a::es,d,s=>sO C rep x inside line es (d+1) (tn C rep x inside line a d s)
end
def oI (C:Cx)(x:Sc):Int:=if x.outer=true then(x.locals.length:Int) - C.args else x.first+x.locals.length
def argsN (p:List Ai)(g:Nat):Nat:=match p[g]? with|some l=>l.fad.length|none=>0
def nO (C:Cx)(x:Sc)(line g:Nat):Sc:=⟨g,x.chain++[(line:Int)],localsOf C.p (g:Int),oI C x,false⟩
def wN (C:Cx)(x:Sc)(line g:Nat)(d:Int)(s:Gs):Gs:=
 qO C (nO C x line g) x.chain line (d - argsN C.p g) ((localsOf C.p (g:Int)).length - argsN C.p g) (argsN C.p g)
  (mW C (nO C x line g) x.chain line (argsN C.p g) d ⟨s.items,max s.most (oI C x+(localsOf C.p (g:Int)).length),s.start⟩)
def qr (C:Cx)(x:Sc)(line:Nat)(d:Int)(s:Gs):Gs:=if s.start=true then cr C s d 15 0 line x.chain else s
def xo (C:Cx)(lines:Sc→List Nat→Int→Gs→Gs×List Int)(x:Sc)(inside:List Nat)(line g:Nat)(d:Int)(s:Gs):Gs:=
 let r:=lines (nO C x line g) (inside++[g]) (d - argsN C.p g) (qr C x line (d - argsN C.p g) (wN C x line g d s))
 ⟨rh r.1.items r.1.items.length r.2,r.1.most,r.1.start⟩
def tA (p:List Ai)(k:Nat):Nat→Option Nat
 | 0=>none
 | n+1=>if endAt p n=some k∨elseAt p n=some k then some n else tA p k n
def aD (p:List Ai)(k:Nat):Nat:=(tA p k p.length).getD 0
def cK (p:List Ai)(k:Nat):Int:=match p[k]? with|some x=>x.faa|none=> -1
structure Ls where
 g:Gs
 heads:List Int
 pos:List Int
 lv:List Int
def exL (l:List Ar):Ex:=if h:bH l=true then Classical.choose (lp h)else .node ⟨0,0,[]⟩ []
theorem xu {l:List Ar}(h:bH l=true):(exL l).ok∧l=(exL l).toks:=by
 rw[exL,dif_pos h]
 exact Classical.choose_spec (lp h)
def atL (l:List Int)(k:Nat):Int:=l[k]?.getD 0
def gx (C:Cx)(x:Sc)(k:Nat)(last:Bool)(d:Int)(L:Ls):Ls:=
 if x.outer=true then(if C.framed=true then{L with g:=cr C L.g d 14 C.args k x.chain} else{L with g:=cr C L.g d 16 (C.args+16 * C.words) k x.chain})
 else if last=true then L
 else{L with g:=cr C L.g d 10 0 k x.chain,lv:=L.lv++[(L.g.items.length:Int)]}
def eT (C:Cx)(rep:Sc→List Nat→Nat→Nat→Int→Gs→Gs)(x:Sc)(inside:List Nat)(base:Int)(k:Nat)(ln:Ai)(L:Ls):Ls:=
 if ln.faa=4 then
  let g:=cr C L.g base 10 0 k x.chain
  {L with g:=⟨ov g.items (atL L.pos (aD C.p k)) g.items.length,g.most,g.start⟩,pos:=L.pos.set k L.g.items.length}
 else if ln.faa=7 then
  if aD C.p k=x.f then gx C x k true (base+1) {L with g:=cr C L.g base 0 0 k x.chain}
  else if cK C.p (aD C.p k)=5 then{L with g:=cr C L.g base 10 (atL L.heads (aD C.p k)) k x.chain}
  else L
 else
  let L1:Ls:={L with g:=tn C rep x inside k (exL ln.fac) base ⟨L.g.items,L.g.most,true⟩,heads:=L.heads.set k L.g.items.length}
  if ln.faa=1 then{L1 with g:=uh C x L1.g (base+1) (dB x.locals ln.fab) k x.chain}
  else if ln.faa=2 then{L1 with g:=cr C L1.g (base+1) 17 0 k x.chain}
  else if ln.faa=6 then gx C x k false (base+1) L1
  else{L1 with g:=cr C L1.g (base+1) 11 0 k x.chain,pos:=L1.pos.set k L1.g.items.length}
def yO (p:List Ai)(k:Nat):Nat:=match elseAt p (aD p k)with|some j=>j|none=>aD p k
def fR (C:Cx)(x:Sc)(k:Nat)(ln:Ai)(L:Ls):Ls:=
 if ln.faa=7∧aD C.p k≠x.f then{L with g:=⟨ov L.g.items (atL L.pos (yO C.p k)) L.g.items.length,L.g.most,L.g.start⟩} else L
def vK (C:Cx)(rep:Sc→List Nat→Nat→Nat→Int→Gs→Gs)(x:Sc)(inside:List Nat)(base:Int):Nat→Nat→Ls→Ls
 | 0,_,L=>L
 | n+1,k,L=>match C.p[k]? with
  | some ln=>vK C rep x inside base n (k+1) (fR C x k ln (eT C rep x inside base k ln L))
  | none=>L
def wC (C:Cx)(s:Gs):Ls:=⟨s,List.replicate C.p.length 0,List.replicate C.p.length 0,[]⟩
def ct (p:List Ai)(f:Nat):Nat:=(endAt p f).getD 0
def rF (C:Cx)(rep:Sc→List Nat→Nat→Nat→Int→Gs→Gs)(x:Sc)(inside:List Nat)(base:Int)(s:Gs):Gs×List Int:=
 let L:=vK C rep x inside base (ct C.p x.f - x.f) (x.f+1) (wC C s)
 (L.g,L.lv)
def nU (C:Cx):Nat→Sc→List Nat→Nat→Nat→Int→Gs→Gs
 | 0=>fun _ _ _ _ _ s=>s
 | n+1=>xo C (rF C (nU C n))
def rg (C:Cx)(f:Nat):Sc:=⟨f,[],localsOf C.p (f:Int),0,true⟩
end
end Go.Proofs.Ytjmplnfiabmalaa
namespace Go.Proofs.Ytjmplnfiabmalaa
open Go.Sim
set_option maxRecDepth 100000
set_option maxHeartbeats 4000000
theorem aU {α:Type}{l:List α}{k:Nat}{x:α}(h:l[k]?=some x):k < l.length:=by
 rcases Nat.lt_or_ge k l.length with h'|h'
 ·exact h'
 ·rw[List.getElem?_eq_none h']at h;cases h
theorem qk {l:List Ai}{i j e:Nat}(hi:endAt l i=some e)(hj:endAt l j=some e):i=j:=by
 have key:∀{i j:Nat},endAt l i=some e→endAt l j=some e→i < j→False:=by
  intro i j hi hj hlt
  obtain⟨x,hx,ho,_,h1,_⟩:=aw hj
  obtain⟨m,hm,_,h2⟩:=bu hi hlt h1 hx ho
  rw[hj]at hm
  injection hm with hm
  omega
 rcases Nat.lt_trichotomy i j with h|h|h
 ·exact(key hi hj h).elim
 ·exact h
 ·exact(key hj hi h).elim
theorem eH {l:List Ai}{e:Nat}:∀{n i j:Nat},elseN l e n i=some j→∀k x m,i≤k→k < j→l[k]?=some x→(x.faa=3∨x.faa=5)→endAt l k=some m→m < j
 | 0,_,_,h=>by rw[elseN]at h;cases h
 | n+1,i,j,h=>by
  intro k x m h1 h2 hx h3 hm
  rw[elseN]at h
  split at h
  ·split at h
   ·rename_i y hy
    split at h
    ·injection h with h;omega
    ·split at h
     ·split at h
      ·rename_i m' hm'
       have hin:=iC h
       obtain⟨_,_,_,_,g1,_⟩:=aw hm'
       by_cases hk:k=i
       ·subst hk
        rw[hm']at hm
        injection hm with hm
        omega
       ·by_cases hk2:k≤m'
        ·by_cases hk3:k=m'
         ·subst hk3
          obtain⟨z,hz,h7⟩:=bc hm'
          rw[hx]at hz
          injection hz with hz
          subst hz
          omega
         ·obtain⟨m2,hm2,_,g2⟩:=bu hm' (by omega) (by omega) hx (by rw[opensK_iff];omega)
          rw[hm]at hm2
          injection hm2 with hm2
          omega
        ·exact eH h k x m (by omega) h2 hx h3 hm
      ·rename_i hno
       by_cases hk:k=i
       ·subst hk
        rw[hno]at hm
        cases hm
       ·exact eH h k x m (by omega) h2 hx h3 hm
     ·by_cases hk:k=i
      ·subst hk
       rw[hx]at hy
       injection hy with hy
       subst hy
       rename_i hne
       exact absurd h3 hne
      ·exact eH h k x m (by omega) h2 hx h3 hm
   ·cases h
  ·cases h
theorem oB {l:List Ai}{i j k:Nat}(hi:elseAt l i=some k)(hj:elseAt l j=some k):i=j:=by
 have key:∀{i j:Nat},elseAt l i=some k→elseAt l j=some k→i < j→False:=by
  intro i j hi hj hlt
  obtain⟨y,ej,hy,h3,hej,h4,h5,_⟩:=aL hj
  unfold elseAt at hi
  split at hi
  ·split at hi
   ·have:=eH hi j y ej (by omega) h4 hy (.inl h3) hej
    omega
   ·cases hi
  ·cases hi
 rcases Nat.lt_trichotomy i j with h|h|h
 ·exact(key hi hj h).elim
 ·exact h
 ·exact(key hj hi h).elim
theorem lE {p:List Ai}{k i:Nat}:∀{n:Nat},tA p k n=some i→i < n∧(endAt p i=some k∨elseAt p i=some k)
 | 0,h=>by rw[tA]at h;cases h
 | n+1,h=>by
  rw[tA]at h
  split at h
  ·injection h with h;subst h;exact⟨by omega,by assumption⟩
  ·have:=lE h;exact⟨by omega,this.2⟩
theorem oo {p:List Ai}{k i:Nat}(hi:endAt p i=some k∨elseAt p i=some k):∀{n:Nat},i < n→∃j,tA p k n=some j
 | 0,h=>by omega
 | n+1,h=>by
  rw[tA]
  split
  ·exact⟨_,rfl⟩
  ·by_cases he:i=n
   ·subst he;exact absurd hi (by assumption)
   ·exact oo hi (by omega)
theorem ni {p:List Ai}{k i:Nat}(h:endAt p i=some k):aD p k=i:=by
 obtain⟨x,hx,_,_,_,_⟩:=aw h
 obtain⟨j,hj⟩:=oo (.inl h) (aU hx)
 rw[aD,hj]
 obtain⟨_,h1|h1⟩:=lE hj
 ·exact qk h1 h
 ·obtain⟨_,_,_,_,_,_,_,y,hy,h4⟩:=aL h1
  obtain⟨z,hz,h7⟩:=bc h
  rw[hy]at hz
  injection hz with hz
  subst hz
  omega
theorem nN {p:List Ai}{k i:Nat}(h:elseAt p i=some k):aD p k=i:=by
 obtain⟨x,e,hx,_,_,_,_,y,hy,h4⟩:=aL h
 obtain⟨j,hj⟩:=oo (.inr h) (aU hx)
 rw[aD,hj]
 obtain⟨_,h1|h1⟩:=lE hj
 ·obtain⟨z,hz,h7⟩:=bc h1
  rw[hy]at hz
  injection hz with hz
  subst hz
  omega
 ·exact oB h1 h
theorem gk {l:List Ai}{i:Nat}{x:Ai}(hx:l[i]?=some x)(h7:x.faa=7):∀(n s o e:Nat),i - s≤n→s≤i→1≤o→endN (l.drop s) s o=some e→i≤e→(∃k,s≤k∧k < i∧endAt l k=some i)∨∃j,1≤j∧j≤o∧endN (l.drop s) s j=some i
 | n,s,o,e,hn,hs,ho,h,hi=>by
  have hno:¬be x.faa=true:=by rw[opensK_iff];omega
  by_cases he:s=i
  ·subst he
   exact .inr ⟨1,Nat.le_refl _,ho,by rw[bG hx,if_neg hno,if_pos h7,if_pos rfl]⟩
  obtain⟨m,rfl⟩:∃m,n=m+1:=⟨n - 1,by omega⟩
  have hl:=ez h
  obtain⟨y,hy⟩:=af (l:=l) (k:=s) (by omega)
  rw[bG hy]at h
  by_cases hop:be y.faa=true
  ·rw[if_pos hop]at h
   rcases gk hx h7 m (s+1) (o+1) e (by omega) (by omega) (by omega) h hi with⟨k,h1,h2,h3⟩|⟨j,h1,h2,h3⟩
   ·exact .inl ⟨k,by omega,h2,h3⟩
   ·by_cases hj:j=1
    ·subst hj
     exact .inl ⟨s,Nat.le_refl _,by omega,by rw[kG hy hop];exact h3⟩
    ·exact .inr ⟨j - 1,by omega,by omega,by rw[bG hy,if_pos hop,show j - 1+1=j by omega];exact h3⟩
  ·rw[if_neg hop]at h
   by_cases h7y:y.faa=7
   ·rw[if_pos h7y]at h
    by_cases h1o:o=1
    ·rw[if_pos h1o]at h
     injection h with h
     omega
    ·rw[if_neg h1o]at h
     rcases gk hx h7 m (s+1) (o - 1) e (by omega) (by omega) (by omega) h hi with⟨k,h1,h2,h3⟩|⟨j,h1,h2,h3⟩
     ·exact .inl ⟨k,by omega,h2,h3⟩
     ·exact .inr ⟨j+1,by omega,by omega,by rw[bG hy,if_neg hop,if_pos h7y,if_neg (by omega),show j+1 - 1=j by omega];exact h3⟩
   ·rw[if_neg h7y]at h
    rcases gk hx h7 m (s+1) o e (by omega) (by omega) ho h hi with⟨k,h1,h2,h3⟩|⟨j,h1,h2,h3⟩
    ·exact .inl ⟨k,by omega,h2,h3⟩
    ·exact .inr ⟨j,h1,h2,by rw[bG hy,if_neg hop,if_neg h7y];exact h3⟩
structure CxOk (C:Cx):Prop where
 len:C.p.length≤60
 small:bd 1048576 (.lst 4 (C.p.map Ai.tr))
 line:∀(k:Nat) (ln:Ai),C.p[k]?=some ln→0≤ln.faa∧ln.faa≤7∧ln.fad.length≤4∧ln.fac.length≤20∧((ln.faa=1∨ln.faa=2∨ln.faa=3∨ln.faa=5∨ln.faa=6)→bH ln.fac=true)
 fn:∀(g:Nat) (ln:Ai),C.p[g]?=some ln→ln.faa=0→∃e,endAt C.p g=some e∧(localsOf C.p (g:Int)).length≤8∧ln.fad.length≤(localsOf C.p (g:Int)).length∧∀(k:Nat) (y:Ai),g < k→k < e→C.p[k]?=some y→y.faa≠0∧(∀t∈y.fac,t.faa=7→∃f,findN C.p 0 t.fab=some f∧(argsN C.p f:Int)=t.fae)∧(y.faa=4→∃i,g≤i∧i < k∧elseAt C.p i=some k)
 args:0≤C.args∧C.args≤4
 words:0≤C.words∧C.words≤1000
 inl:0≤C.b.fan∧C.b.fan≤3
structure ScOk (C:Cx) (x:Sc) (ins:List Nat):Prop where
 fn:∃ln,C.p[x.f]?=some ln∧ln.faa=0
 loc:x.locals=localsOf C.p (x.f:Int)
 first:0≤x.first∧x.first≤8 * ins.length
 chain:x.chain.length+1=ins.length
 out:x.outer=true↔x.chain=[]
 args:x.outer=true→C.args=argsN C.p x.f
 mem:ins.getLast?=some x.f
section
variable {C:Cx} {x:Sc} {ins:List Nat}
theorem CxOk.argsN (h:CxOk C)(g:Nat):argsN C.p g≤4:=by
 unfold Go.Proofs.Ytjmplnfiabmalaa.argsN
 split
 ·rename_i l hl
  have:=h.line _ _ hl
  omega
 ·omega
theorem ScOk.endE (hC:CxOk C)(hx:ScOk C x ins):∃e,endAt C.p x.f=some e∧x.f < e∧e < C.p.length∧ct C.p x.f=e∧x.locals.length≤8:=by
 obtain⟨ln,h1,h2⟩:=hx.fn
 obtain⟨e,h3,h4,h5,_⟩:=hC.fn _ _ h1 h2
 obtain⟨_,_,_,_,h6,h7⟩:=aw h3
 exact⟨e,h3,h6,h7,by rw[ct,h3];rfl,by rw[hx.loc];exact h4⟩
theorem ScOk.argLe (hC:CxOk C)(hx:ScOk C x ins):argsN C.p x.f≤x.locals.length:=by
 obtain⟨ln,h1,h2⟩:=hx.fn
 obtain⟨e,h3,h4,h5,_⟩:=hC.fn _ _ h1 h2
 rw[hx.loc,Go.Proofs.Ytjmplnfiabmalaa.argsN,h1]
 exact h5
theorem ScOk.own7 (hC:CxOk C)(hx:ScOk C x ins){e k:Nat}{ln:Ai}(he:endAt C.p x.f=some e)(h1:x.f < k)(h2:k≤e)(hk:C.p[k]?=some ln)(h7:ln.faa=7):
  endAt C.p (aD C.p k)=some k∧((k=e∧aD C.p k=x.f)∨(k < e∧x.f < aD C.p k∧aD C.p k < k∧∃y,C.p[aD C.p k]?=some y∧(y.faa=3∨y.faa=5))):=by
 obtain⟨l0,g1,g2⟩:=hx.fn
 obtain⟨e',g3,_,_,g4⟩:=hC.fn _ _ g1 g2
 rw[he]at g3
 injection g3 with g3
 subst g3
 by_cases hke:k=e
 ·subst hke
  rw[ni he]
  exact⟨he,.inl ⟨rfl,rfl⟩⟩
 ·obtain⟨z,hz,hzo,hzn,_,_⟩:=aw he
  rcases gk hk h7 _ (x.f+1) 1 e (Nat.le_refl _) (by omega) (Nat.le_refl _) hzn h2 with⟨i,k1,k2,k3⟩|⟨j,k1,k2,k3⟩
  ·rw[ni k3]
   obtain⟨y,hy,hyo,_⟩:=aw k3
   have:=(g4 i y (by omega) (by omega) hy).1
   rw[opensK_iff]at hyo
   exact⟨k3,.inr ⟨by omega,by omega,k2,y,hy,by omega⟩⟩
  ·have:j=1:=by omega
   subst this
   rw[hzn]at k3
   injection k3 with k3
   omega
theorem ScOk.own4 (hC:CxOk C)(hx:ScOk C x ins){e k:Nat}{ln:Ai}(he:endAt C.p x.f=some e)(h1:x.f < k)(h2:k≤e)(hk:C.p[k]?=some ln)(h4:ln.faa=4):
  elseAt C.p (aD C.p k)=some k∧x.f < aD C.p k∧aD C.p k < k∧k < e:=by
 obtain⟨l0,g1,g2⟩:=hx.fn
 obtain⟨e',g3,_,_,g4⟩:=hC.fn _ _ g1 g2
 rw[he]at g3
 injection g3 with g3
 subst g3
 have hke:k≠e:=fun h=>by
  subst h
  obtain⟨y,hy,h7⟩:=bc he
  rw[hk]at hy
  injection hy with hy
  subst hy
  omega
 obtain⟨i,k1,k2,k3⟩:=(g4 k ln h1 (by omega) hk).2.2 h4
 rw[nN k3]
 obtain⟨y,_,hy,h3,_⟩:=aL k3
 have:i≠x.f:=fun h=>by
  subst h
  rw[g1]at hy
  injection hy with hy
  subst hy
  omega
 exact⟨k3,by omega,k2,by omega⟩
end
structure IS where
 out:List Int
 visits:List (List Int)
inductive Rr (α:Type) where
 | ok (a:α) (s:IS)
 | stop (c:Int) (s:IS)
 | fuel
def Rr.bnd {α β:Type}(r:Rr α)(f:α→IS→Rr β):Rr β:=match r with
 | .ok a s=>f a s
 | .stop c s=> .stop c s
 | .fuel=> .fuel
theorem Rr.bnd_ok {α β:Type}(a:α)(s:IS)(f:α→IS→Rr β):(Rr.ok a s).bnd f=f a s:=rfl
theorem Rr.bnd_stop {α β:Type}(c:Int)(s:IS)(f:α→IS→Rr β):(Rr.stop c s:Rr α).bnd f= .stop c s:=rfl
abbrev fw:=Nat→List Int→IS→Rr Int
def xA (locals:List (List UInt8))(vals:List Int)(nm:List UInt8):Int:=match cW locals 0 nm with
 | some i=>atL vals i
 | none=>0
section
variable (p:List Ai) (locals:List (List UInt8)) (vals:List Int) (call:fw)
def cE (t:Ar)(av:List Int)(s:IS):Rr Int:=
 if t.faa=0 then .ok t.fae s
 else if t.faa=1 then .ok (xA locals vals t.fab) s
 else if t.faa=7 then call ((findN p 0 t.fab).getD 0) av s
 else .ok (gY t.faa (atL av 0) (atL av 1)) s
mutual
def evE:Ex→IS→Rr Int
 | .node t es,s=>(aF es s).bnd fun av s'=>cE p locals vals call t av s'
def aF:List Ex→IS→Rr (List Int)
 | [],s=> .ok [] s
 | a::es,s=>(evE a s).bnd fun v s'=>(aF es s').bnd fun vs s''=> .ok (v::vs) s''
end
end
def bT (n:Nat)(l:List Int):List Int:=l++List.replicate (n - l.length) 0
def bb (p:List Ai)(k:Nat):Nat:=match elseAt p k with
 | some j=>j
 | none=>ct p k
def gA (locals:List (List UInt8))(ln:Ai)(vals:List Int)(v:Int):List Int:=if ln.faa=1 then(match cW locals 0 ln.fab with
 | some i=>vals.set i v
 | none=>vals)else vals
def eb (ln:Ai)(s:IS)(v:Int):IS:=if ln.faa=2 then⟨s.out++[v],s.visits⟩else s
def bC (p:List Ai)(ln:Ai)(k:Nat)(v:Int):Nat:=if(ln.faa=3∨ln.faa=5)∧v=0 then bb p k+1 else k+1
noncomputable def aA (p:List Ai) (lim:Int):Nat→List Int→Nat→Nat→List Int→IS→Rr Int
 | 0,_,_,_,_,_=> .fuel
 | n+1,calls,f,k,vals,s=>match p[k]? with
  | none=> .ok 0 s
  | some ln=>
   if ln.faa=7 then
    if aD p k=f then .ok 0 s
    else aA p lim n calls f (if cK p (aD p k)=5 then aD p k else k+1) vals s
   else if ln.faa=4 then aA p lim n calls f (ct p (aD p k)+1) vals s
   else if(s.visits.length:Int)=lim then .stop 1 s
   else(evE p (localsOf p (f:Int)) vals (fun g av s'=>if calls.length=6 then .stop 2 s' else aA p lim n (calls++[(k:Int)]) g (g+1) (bT (localsOf p (g:Int)).length av) s')
     (exL ln.fac) ⟨s.out,s.visits++[calls++[(k:Int)]]⟩).bnd fun v s'=>
    if ln.faa=6 then .ok v s'
    else aA p lim n calls f (bC p ln k v) (gA (localsOf p (f:Int)) ln vals v) (eb ln s' v)
noncomputable def az (p:List Ai) (lim:Int) (n:Nat) (calls:List Int) (k:Nat):fw:=fun g av s'=>if calls.length=6 then .stop 2 s' else aA p lim n (calls++[(k:Int)]) g (g+1) (bT (localsOf p (g:Int)).length av) s'
theorem fk {p:List Ai}{lim:Int}{n:Nat}{calls:List Int}{f k:Nat}{vals:List Int}{s:IS}(hk:p[k]?=none):aA p lim (n+1) calls f k vals s= .ok 0 s:=by
 rw[aA,hk]
theorem bn {p:List Ai}{lim:Int}{n:Nat}{calls:List Int}{f k:Nat}{vals:List Int}{s:IS}{ln:Ai}(hk:p[k]?=some ln)(h:ln.faa=7):
  aA p lim (n+1) calls f k vals s=if aD p k=f then .ok 0 s else aA p lim n calls f (if cK p (aD p k)=5 then aD p k else k+1) vals s:=by
 rw[aA,hk];dsimp only;rw[if_pos h]
theorem bX {p:List Ai}{lim:Int}{n:Nat}{calls:List Int}{f k:Nat}{vals:List Int}{s:IS}{ln:Ai}(hk:p[k]?=some ln)(h:ln.faa=4):
  aA p lim (n+1) calls f k vals s=aA p lim n calls f (ct p (aD p k)+1) vals s:=by
 rw[aA,hk];dsimp only;rw[if_neg (by omega),if_pos h]
theorem bY {p:List Ai}{lim:Int}{n:Nat}{calls:List Int}{f k:Nat}{vals:List Int}{s:IS}{ln:Ai}(hk:p[k]?=some ln)(h7:ln.faa≠7)(h4:ln.faa≠4)(hv:(s.visits.length:Int)=lim):
  aA p lim (n+1) calls f k vals s= .stop 1 s:=by
 rw[aA,hk];dsimp only;rw[if_neg h7,if_neg h4,if_pos hv]
theorem co {p:List Ai}{lim:Int}{n:Nat}{calls:List Int}{f k:Nat}{vals:List Int}{s:IS}{ln:Ai}(hk:p[k]?=some ln)(h7:ln.faa≠7)(h4:ln.faa≠4)(hv:(s.visits.length:Int)≠lim):
  aA p lim (n+1) calls f k vals s=(evE p (localsOf p (f:Int)) vals (az p lim n calls k) (exL ln.fac) ⟨s.out,s.visits++[calls++[(k:Int)]]⟩).bnd fun v s'=>
    if ln.faa=6 then .ok v s'
    else aA p lim n calls f (bC p ln k v) (gA (localsOf p (f:Int)) ln vals v) (eb ln s' v):=by
 rw[aA,hk];dsimp only;rw[if_neg h7,if_neg h4,if_neg hv];rfl
theorem jg {p:List Ai}{locals:List (List UInt8)}{vals:List Int}{call:fw}:∀(es:List Ex) (a:Ex) (s:IS),
  aF p locals vals call (es++[a]) s=(aF p locals vals call es s).bnd fun vs s'=>(evE p locals vals call a s').bnd fun v s''=> .ok (vs++[v]) s''
 | [],a,s=>by
  rw[List.nil_append,aF,aF]
  simp only[Rr.bnd_ok]
  cases evE p locals vals call a s with
  | ok v s1=>simp[Rr.bnd,aF]
  | stop c s1=>rfl
  | fuel=>rfl
 | b::es,a,s=>by
  rw[List.cons_append,aF,aF]
  cases evE p locals vals call b s with
  | ok v s1=>
   simp only[Rr.bnd_ok]
   rw[jg es a s1]
   cases aF p locals vals call es s1 with
   | ok vs s2=>
    simp only[Rr.bnd_ok]
    cases evE p locals vals call a s2 with
    | ok w s3=>simp[Rr.bnd]
    | stop c s3=>rfl
    | fuel=>rfl
   | stop c s2=>rfl
   | fuel=>rfl
  | stop c s1=>rfl
  | fuel=>rfl
theorem vX {p:List Ai}{locals:List (List UInt8)}{vals:List Int}{call:fw}{es:List Ex}{j:Nat}{a:Ex}(s:IS)(h:es[j]?=some a):
  aF p locals vals call (es.take (j+1)) s=(aF p locals vals call (es.take j) s).bnd fun vs s'=>(evE p locals vals call a s').bnd fun v s''=> .ok (vs++[v]) s'':=by
 rw[List.take_add_one,h]
 exact jg _ _ _
theorem cP {p:List Ai}{locals:List (List UInt8)}{vals:List Int}{call:fw}:∀{es:List Ex} {s:IS} {vs:List Int} {s':IS},aF p locals vals call es s= .ok vs s'→vs.length=es.length
 | [],s,vs,s',h=>by rw[aF]at h;injection h with h1 h2;subst h1;rfl
 | a::es,s,vs,s',h=>by
  rw[aF]at h
  cases h1:evE p locals vals call a s with
  | ok v s1=>
   rw[h1,Rr.bnd_ok]at h
   cases h2:aF p locals vals call es s1 with
   | ok ws s2=>
    rw[h2,Rr.bnd_ok]at h
    injection h with h3 h4
    subst h3
    rw[List.length_cons,List.length_cons,cP h2]
   | stop c s2=>rw[h2]at h;cases h
   | fuel=>rw[h2]at h;cases h
  | stop c s1=>rw[h1]at h;cases h
  | fuel=>rw[h1]at h;cases h
theorem vD {p:List Ai}{locals:List (List UInt8)}{vals:List Int}{call:fw}{es:List Ex}{j:Nat}{s:IS}{c:Int}{s':IS}(h:aF p locals vals call (es.take j) s= .stop c s'):aF p locals vals call es s= .stop c s':=by
 have key:∀(b a:List Ex),aF p locals vals call a s= .stop c s'→aF p locals vals call (a++b) s= .stop c s':=by
  intro b
  induction b with
  | nil=>intro a h;rw[List.append_nil];exact h
  | cons x b ih=>
   intro a h
   rw[show a++x::b=(a++[x])++b by simp]
   refine ih _ ?_
   rw[jg,h]
   rfl
 have:=key (es.drop j) (es.take j) h
 rwa [List.take_append_drop]at this
theorem vt {p:List Ai}{locals:List (List UInt8)}{vals:List Int}{call:fw}{es:List Ex}{j:Nat}{s:IS}(h:aF p locals vals call (es.take j) s= .fuel):aF p locals vals call es s= .fuel:=by
 have key:∀(b a:List Ex),aF p locals vals call a s= .fuel→aF p locals vals call (a++b) s= .fuel:=by
  intro b
  induction b with
  | nil=>intro a h;rw[List.append_nil];exact h
  | cons x b ih=>
   intro a h
   rw[show a++x::b=(a++[x])++b by simp]
   refine ih _ ?_
   rw[jg,h]
   rfl
 have:=key (es.drop j) (es.take j) h
 rwa [List.take_append_drop]at this
end Go.Proofs.Ytjmplnfiabmalaa
namespace Go.Proofs.Ytjmplnfiabmalaa
open Go.Sim
set_option maxRecDepth 100000
set_option maxHeartbeats 4000000
structure Grow (n:Nat) (s s':Gs):Prop where
 ge:s.items.length≤s'.items.length
 le:s'.items.length≤s.items.length+n
 most:s.most≤s'.most
 cap:s.most≤1000→s'.most≤1000
theorem Grow.refl (s:Gs):Grow 0 s s:=⟨Nat.le_refl _,Nat.le_refl _,Int.le_refl _,id⟩
theorem Grow.trans {n m:Nat}{a b c:Gs}(h:Grow n a b)(h':Grow m b c):Grow (n+m) a c:=⟨Nat.le_trans h.ge h'.ge,by have:=h.le;have:=h'.le;omega,Int.le_trans h.most h'.most,fun x=>h'.cap (h.cap x)⟩
theorem Grow.mono {n m:Nat}{a b:Gs}(h:Grow n a b)(hn:n≤m):Grow m a b:=⟨h.ge,by have:=h.le;omega,h.most,h.cap⟩
theorem aE (C:Cx)(s:Gs)(d code arg line:Int)(chain:List Int):Grow 1 s (cr C s d code arg line chain):=⟨by simp[cr],by simp[cr],Int.le_refl _,id⟩
theorem dU (l:List Ah)(j v:Int):(ov l j v).length=l.length:=by
 unfold ov
 split
 ·split
  ·rw[List.length_set]
  ·rfl
 ·rfl
theorem nT (v:Int):∀(js:List Int) (l:List Ah),(rh l v js).length=l.length
 | [],_=>rfl
 | j::js,l=>by rw[rh,nT v js,dU]
def dV:Nat→Nat
 | 0=>1
 | n+1=>30+9 * (20 * dV n+3)
theorem xt:∀n,1≤dV n
 | 0=>Nat.le_refl _
 | n+1=>by rw[dV];omega
def gb (C:Cx)(g:Nat):Prop:=∃ln,C.p[g]?=some ln∧ln.faa=0
section
variable {C:Cx} {x:Sc} {ins:List Nat} {rep:Sc→List Nat→Nat→Nat→Int→Gs→Gs} {line:Nat} {lev:Nat}
theorem kV (y:Sc)(chain:List Int)(line:Int):∀(n:Nat) (d:Int) (s:Gs),Grow n s (mW C y chain line n d s)
 | 0,d,s=>Grow.refl s
 | n+1,d,s=>by
  rw[mW]
  exact((aE C s d _ _ _ _).trans (kV y chain line n (d - 1) _)).mono (by omega)
theorem mC (y:Sc)(chain:List Int)(line d:Int):∀(n i:Nat) (s:Gs),Grow (2 * n) s (qO C y chain line d n i s)
 | 0,i,s=>Grow.refl s
 | n+1,i,s=>by
  rw[qO]
  exact(((aE C s d _ _ _ _).trans (aE C _ (d+1) _ _ _ _)).trans (mC y chain line d n (i+1) _)).mono (by omega)
theorem vW (hrep:∀g d s,gb C g→gh C ins g s.items.length=true→Grow (dV lev) s (rep x ins line g d s))(t:Ar)(d:Int)(s:Gs):Grow (dV lev) s (yH C rep x ins line t d s):=by
 have hp:=xt lev
 unfold yH
 split
 ·exact(aE ..).mono hp
 ·split
  ·exact(aE ..).mono hp
  ·split
   ·split
    ·rename_i g hg
     split
     ·rename_i hr
      obtain⟨_,ln,h1,h2,_⟩:=dF hg
      exact hrep g d s ⟨ln,h1,h2⟩ hr
     ·exact(aE ..).mono hp
    ·exact(Grow.refl s).mono (by omega)
   ·exact(aE ..).mono hp
mutual
theorem pD (hrep:∀g d s,gb C g→gh C ins g s.items.length=true→Grow (dV lev) s (rep x ins line g d s)):∀(e:Ex) (d:Int) (s:Gs),Grow (e.toks.length * dV lev) s (tn C rep x ins line e d s)
 | .node t es,d,s=>by
  rw[tn,Ex.toks,List.length_cons]
  exact((nr hrep es d s).trans (vW hrep t _ _)).mono (by rw[Nat.add_mul];omega)
theorem nr (hrep:∀g d s,gb C g→gh C ins g s.items.length=true→Grow (dV lev) s (rep x ins line g d s)):∀(es:List Ex) (d:Int) (s:Gs),Grow ((ay es).length * dV lev) s (sO C rep x ins line es d s)
 | [],d,s=>by rw[sO,ay];exact(Grow.refl s).mono (by omega)
 | a::es,d,s=>by
  rw[sO,ay,List.length_append,Nat.add_mul]
  exact(pD hrep a d s).trans (nr hrep es (d+1) _)
end
theorem eh:∀{es:List Ex} {j:Nat} {a:Ex},es[j]?=some a→(ay (es.take (j+1))).length=(ay (es.take j)).length+a.toks.length
 | [],_,_,h=>by simp at h
 | b::es,0,a,h=>by
  rw[List.getElem?_cons_zero]at h
  injection h with h
  subst h
  simp[ay]
 | b::es,j+1,a,h=>by
  rw[List.getElem?_cons_succ]at h
  rw[List.take_succ_cons,ay,List.length_append,eh h,List.take_succ_cons,ay,List.length_append]
  omega
theorem xJ (hC:CxOk C)(hx:ScOk C x ins)(line:Nat){g:Nat}(hg:gb C g):ScOk C (nO C x line g) (ins++[g]):=by
 obtain⟨e,_,_,_,_,h8⟩:=hx.endE hC
 have hle:=hx.argLe hC
 refine⟨hg,rfl,?_,?_,?_,?_,by simp[nO]⟩
 ·simp only[nO,oI,List.length_append,List.length_cons,List.length_nil]
  have:=hx.first
  split
  ·rename_i ho
   rw[hx.args ho]
   omega
  ·omega
 ·simp only[nO,List.length_append,List.length_cons,List.length_nil]
  have:=hx.chain
  omega
 ·simp[nO]
 ·simp[nO]
theorem xf (hC:CxOk C)(hx:ScOk C x ins):0≤oI C x∧oI C x≤8 * ins.length+8:=by
 obtain⟨e,_,_,_,_,h8⟩:=hx.endE hC
 have hle:=hx.argLe hC
 have:=hx.first
 unfold oI
 split
 ·rename_i ho
  rw[hx.args ho]
  omega
 ·omega
theorem rj (hC:CxOk C){g:Nat}(hg:gb C g):(localsOf C.p (g:Int)).length≤8∧argsN C.p g≤(localsOf C.p (g:Int)).length:=by
 obtain⟨ln,h1,h2⟩:=hg
 obtain⟨e,h3,h4,h5,_⟩:=hC.fn _ _ h1 h2
 rw[argsN,h1]
 exact⟨h4,h5⟩
theorem vT (hC:CxOk C)(hx:ScOk C x ins)(hi:ins.length≤10)(line:Nat){g:Nat}(hg:gb C g)(d:Int)(s:Gs):Grow 16 s (wN C x line g d s):=by
 obtain⟨h1,h2⟩:=rj hC hg
 have ht:=xf hC hx
 have h0:Grow 0 s ⟨s.items,max s.most (oI C x+(localsOf C.p (g:Int)).length),s.start⟩:=⟨Nat.le_refl _,Nat.le_refl _,by dsimp only;omega,fun h=>by dsimp only;omega⟩
 unfold wN
 exact((h0.trans (kV _ _ _ _ _ _)).trans (mC _ _ _ _ _ _ _)).mono (by omega)
theorem sL (x:Sc)(line:Nat)(d:Int)(s:Gs):Grow 1 s (qr C x line d s):=by
 unfold qr
 split
 ·exact aE ..
 ·exact(Grow.refl s).mono (by omega)
theorem iw (x:Sc)(k:Nat)(last:Bool)(d:Int)(L:Ls):Grow 1 L.g (gx C x k last d L).g:=by
 unfold gx
 split
 ·split
  ·exact aE ..
  ·exact aE ..
 ·split
  ·exact(Grow.refl _).mono (by omega)
  ·exact aE ..
theorem Grow.set {n:Nat}{a b:Gs}{l:List Ah}(h:Grow n a b)(hl:l.length=b.items.length):Grow n a ⟨l,b.most,b.start⟩:=⟨by have:=h.ge;simp only[hl];omega,by have:=h.le;simp only[hl];omega,h.most,h.cap⟩
theorem pi (hrep:∀g d s,gb C g→gh C ins g s.items.length=true→Grow (dV lev) s (rep x ins line g d s))(hC:CxOk C){k:Nat}{ln:Ai}(hk:C.p[k]?=some ln)(he:bH ln.fac=true)(d:Int)(s:Gs):Grow (20 * dV lev) s (tn C rep x ins line (exL ln.fac) d s):=by
 have h1:=(xu he).2
 have h2:=(hC.line _ _ hk).2.2.2.1
 rw[h1]at h2
 exact(pD hrep _ d s).mono (Nat.mul_le_mul_right _ h2)
theorem jK (hrep:∀line g d s,gb C g→gh C ins g s.items.length=true→Grow (dV lev) s (rep x ins line g d s))(hC:CxOk C){k:Nat}{ln:Ai}(hk:C.p[k]?=some ln)(h0:ln.faa≠0)(base:Int)(L:Ls):Grow (20 * dV lev+2) L.g (eT C rep x ins base k ln L).g:=by
 unfold eT
 split
 ·exact((aE ..).set (dU _ _ _)).mono (by omega)
 ·split
  ·split
   ·refine Grow.mono (n:=1+1) ?_ (by omega)
    exact(aE ..).trans (iw x k true (base+1) {L with g:=cr C L.g base 0 0 k x.chain})
   ·split
    ·exact(aE ..).mono (by omega)
    ·exact(Grow.refl _).mono (by omega)
  ·rename_i h4 h7
   have hl:=hC.line _ _ hk
   have h20:Grow (20 * dV lev) L.g (tn C rep x ins k (exL ln.fac) base ⟨L.g.items,L.g.most,true⟩):=by
    have:=pi (fun g d s=>hrep k g d s) hC hk (hl.2.2.2.2 (by omega)) base ⟨L.g.items,L.g.most,true⟩
    exact⟨this.ge,this.le,this.most,this.cap⟩
   split
   ·exact(h20.trans (aE ..)).mono (by omega)
   ·split
    ·exact(h20.trans (aE ..)).mono (by omega)
    ·split
     ·refine Grow.mono (n:=20 * dV lev+1) ?_ (by omega)
      exact h20.trans (iw x k false (base+1) {L with g:=tn C rep x ins k (exL ln.fac) base ⟨L.g.items,L.g.most,true⟩,heads:=L.heads.set k L.g.items.length})
     ·exact(h20.trans (aE ..)).mono (by omega)
theorem oq (k:Nat)(ln:Ai)(L:Ls):Grow 0 L.g (fR C x k ln L).g:=by
 unfold fR
 split
 ·exact(Grow.refl _).set (dU _ _ _)
 ·exact Grow.refl _
theorem qf (hrep:∀line g d s,gb C g→gh C ins g s.items.length=true→Grow (dV lev) s (rep x ins line g d s))(hC:CxOk C)(base:Int):∀(n k:Nat) (L:Ls),(∀i y,k≤i→i < k+n→C.p[i]?=some y→y.faa≠0)→Grow (n * (20 * dV lev+3)) L.g (vK C rep x ins base n k L).g
 | 0,k,L,_=>(Grow.refl _).mono (by omega)
 | n+1,k,L,h=>by
  rw[vK]
  split
  ·rename_i ln hk
   exact(((jK hrep hC hk (h k ln (Nat.le_refl _) (by omega) hk) base L).trans (oq k ln _)).trans (qf hrep hC base n (k+1) _ fun i y h1 h2 hy=>h i y (by omega) (by omega) hy)).mono (by rw[Nat.add_mul];omega)
  ·exact(Grow.refl _).mono (by omega)
theorem sC (hrep:∀line g d s,gb C g→gh C ins g s.items.length=true→Grow (dV lev) s (rep x ins line g d s))(hC:CxOk C)(hx:ScOk C x ins)(base:Int)(s:Gs):Grow ((ct C.p x.f - x.f) * (20 * dV lev+3)) s (rF C rep x ins base s).1:=by
 unfold rF
 obtain⟨ln,h1,h2⟩:=hx.fn
 obtain⟨e,h3,_,_,h4⟩:=hC.fn _ _ h1 h2
 obtain⟨e',g3,_,_,g5,_⟩:=hx.endE hC
 rw[h3]at g3
 injection g3 with g3
 subst g3
 rw[g5]
 refine qf hrep hC base (e - x.f) (x.f+1) (wC C s) fun i y k1 k2 hy=>?_
 by_cases hie:i=e
 ·subst hie
  obtain⟨z,hz,h7⟩:=bc h3
  rw[hy]at hz
  injection hz with hz
  subst hz
  omega
 ·exact(h4 i y (by omega) (by omega) hy).1
end
theorem tY {C:Cx}{ins:List Nat}{g n:Nat}(h:gh C ins g n=true):(ins.length:Int)≤C.b.fan∧bv C.p (g:Int) - g≤9∧n < 200∧g∉ins:=by
 unfold gh at h
 simp only[Bool.and_eq_true,decide_eq_true_eq,Bool.not_eq_true',List.contains_eq_mem,decide_eq_false_iff_not]at h
 exact⟨h.1,h.2.1,h.2.2.1,h.2.2.2⟩
theorem qh {C:Cx}(hC:CxOk C):∀(lev:Nat) {x:Sc} {ins:List Nat} (line g:Nat) (d:Int) (s:Gs),ScOk C x ins→gb C g→gh C ins g s.items.length=true→Grow (dV lev) s (nU C lev x ins line g d s)
 | 0,x,ins,line,g,d,s,hx,hg,hr=>(Grow.refl s).mono (by omega)
 | lev+1,x,ins,line,g,d,s,hx,hg,hr=>by
  obtain⟨r1,r2,_,_⟩:=tY hr
  have hin:=hC.inl
  have hy:=xJ hC hx line hg
  have h1:=vT hC hx (by omega) line hg d s
  have h2:=sL (C:=C) x line (d - argsN C.p g) (wN C x line g d s)
  have h3:=sC (lev:=lev) (rep:=nU C lev) (fun line g d s hg hr=>qh hC lev line g d s hy hg hr) hC hy (d - argsN C.p g) (qr C x line (d - argsN C.p g) (wN C x line g d s))
  obtain⟨e,e1,e2,e3,e4,_⟩:=hy.endE hC
  have e5:bv C.p (g:Int)=(e:Int):=by rw[aG];exact aK e1
  have e6:ct C.p (nO C x line g).f - (nO C x line g).f≤9:=by rw[e4];show e - g≤9;omega
  have h4:=((h1.trans h2).trans h3).mono (m:=dV (lev+1)) (by
   rw[dV]
   have:=Nat.mul_le_mul_right (20 * dV lev+3) e6
   omega)
  show Grow _ s (xo C (rF C (nU C lev)) x ins line g d s)
  unfold xo
  exact h4.set (nT _ _ _)
def lvOk (L:Ls):Prop:=L.lv.length≤L.g.items.length∧∀j∈L.lv,0≤j∧j < L.g.items.length
section
variable {C:Cx} {x:Sc} {ins:List Nat} {rep:Sc→List Nat→Nat→Nat→Int→Gs→Gs} {lev:Nat}
theorem lvOk.grow {n:Nat}{L L':Ls}(h:lvOk L)(hl:L'.lv=L.lv)(hg:Grow n L.g L'.g):lvOk L':=⟨by rw[hl];exact Nat.le_trans h.1 hg.ge,fun j hj=>by
 rw[hl]at hj
 have:=h.2 j hj
 have:=hg.ge
 omega⟩
theorem pP {L:Ls}(h:lvOk L)(k:Nat)(last:Bool)(d:Int):lvOk (gx C x k last d L):=by
 have hg:=iw (C:=C) x k last d L
 unfold gx at hg ⊢
 split
 ·rename_i ho
  rw[if_pos ho]at hg
  split
  ·rename_i hf;rw[if_pos hf]at hg;exact h.grow rfl hg
  ·rename_i hf;rw[if_neg hf]at hg;exact h.grow rfl hg
 ·split
  ·exact h
  ·refine⟨by have:=h.1;simp only[cr,List.length_append,List.length_cons,List.length_nil];omega,?_⟩
   intro j hj
   simp only[List.mem_append,List.mem_cons,List.not_mem_nil,or_false]at hj
   simp only[cr,List.length_append,List.length_cons,List.length_nil]
   rcases hj with hj|rfl
   ·have:=h.2 j hj;omega
   ·omega
theorem wQ (hrep:∀line g d s,gb C g→gh C ins g s.items.length=true→Grow (dV lev) s (rep x ins line g d s))(hC:CxOk C){k:Nat}{ln:Ai}(hk:C.p[k]?=some ln)(h0:ln.faa≠0)(base:Int){L:Ls}(h:lvOk L):lvOk (eT C rep x ins base k ln L):=by
 have hg:=jK (x:=x) (ins:=ins) (rep:=rep) (lev:=lev) hrep hC hk h0 base L
 unfold eT at hg ⊢
 split
 ·rename_i h4;rw[if_pos h4]at hg;exact h.grow rfl hg
 ·rename_i h4
  rw[if_neg h4]at hg
  split
  ·rename_i h7
   rw[if_pos h7]at hg
   split
   ·exact pP (h.grow (L':={L with g:=cr C L.g base 0 0 k x.chain}) rfl (aE ..)) _ _ _
   ·rename_i ho
    rw[if_neg ho]at hg
    split
    ·rename_i h5;rw[if_pos h5]at hg;exact h.grow rfl hg
    ·exact h
  ·rename_i h7
   have hl:=hC.line _ _ hk
   have h20:=pi (x:=x) (ins:=ins) (rep:=rep) (line:=k) (lev:=lev) (fun g d s=>hrep k g d s) hC hk (hl.2.2.2.2 (by omega)) base ⟨L.g.items,L.g.most,true⟩
   have hL1:lvOk {L with g:=tn C rep x ins k (exL ln.fac) base ⟨L.g.items,L.g.most,true⟩,heads:=L.heads.set k L.g.items.length}:=h.grow rfl ⟨h20.ge,h20.le,h20.most,h20.cap⟩
   split
   ·exact hL1.grow rfl (aE ..)
   ·split
    ·exact hL1.grow rfl (aE ..)
    ·split
     ·exact pP hL1 _ _ _
     ·exact hL1.grow rfl (aE ..)
theorem wj (k:Nat)(ln:Ai){L:Ls}(h:lvOk L):lvOk (fR C x k ln L):=by
 have hg:=oq (C:=C) (x:=x) k ln L
 unfold fR at hg ⊢
 split
 ·rename_i h1;rw[if_pos h1]at hg;exact h.grow rfl hg
 ·exact h
theorem mr (hC:CxOk C)(hx:ScOk C x ins){e:Nat}(he:endAt C.p x.f=some e){i:Nat}{y:Ai}(h1:x.f+1≤i)(h2:i≤e)(hy:C.p[i]?=some y):y.faa≠0:=by
 obtain⟨ln,g1,g2⟩:=hx.fn
 obtain⟨e',h3,_,_,h4⟩:=hC.fn _ _ g1 g2
 rw[he]at h3
 injection h3 with h3
 subst h3
 by_cases hie:i=e
 ·subst hie
  obtain⟨z,hz,h7⟩:=bc he
  rw[hy]at hz
  injection hz with hz
  subst hz
  omega
 ·exact(h4 i y (by omega) (by omega) hy).1
end
end Go.Proofs.Ytjmplnfiabmalaa
namespace Go.Proofs.Ytjmplnfiabmalaa
open Go.Sim
set_option maxRecDepth 100000
set_option maxHeartbeats 4000000
def uK (p:List Ai)(i:Nat):Prop:=cK p i=3∨cK p i=4∨cK p i=5
instance (p:List Ai) (i:Nat):Decidable (uK p i):=by unfold uK;infer_instance
theorem uB {l:List Int}{k i:Nat}{v:Int}(h:i≠k):atL (l.set k v) i=atL l i:=by
 unfold atL
 rw[List.getElem?_set_ne (fun e=>h e.symm)]
theorem sg {l:List Int}{k:Nat}{v:Int}(h:k < l.length):atL (l.set k v) k=v:=by
 unfold atL
 rw[List.getElem?_set_self h]
 rfl
theorem bz {p:List Ai}{k:Nat}{ln:Ai}(h:p[k]?=some ln):cK p k=ln.faa:=by rw[cK,h]
theorem db {p:List Ai}{i:Nat}:aH p (i:Int)=bM (elseAt p i):=by rw[aH,if_pos (by omega),Int.toNat_natCast]
theorem oW {p:List Ai}{i:Nat}(h:cK p i≠3):elseAt p i=none:=by
 cases he:elseAt p i with
 | none=>rfl
 | some j=>
  obtain⟨y,_,hy,h3,_⟩:=aL he
  exact absurd (by rw[bz hy];exact h3) h
section
variable {C:Cx} {x:Sc} {ins:List Nat}
structure LInv (C:Cx) (lev:Nat) (x:Sc) (ins:List Nat) (d:Int) (e:Nat) (R:Ls) (k:Nat) (L:Ls):Prop where
 lo:x.f+1≤k
 hi:k≤e+1
 heads:L.heads.length=C.p.length
 pos:L.pos.length=C.p.length
 at_:∀i,x.f < i→i < k→uK C.p i→0≤atL L.pos i∧atL L.pos i < L.g.items.length
 lv:lvOk L
 room:L.g.items.length+(e+1 - k) * (20 * dV lev+3)≤68719476736
 fin:vK C (nU C lev) x ins d (e+1 - k) k L=R
theorem ub (rep:Sc→List Nat→Nat→Nat→Int→Gs→Gs)(base:Int)(k:Nat)(ln:Ai)(L:Ls):(eT C rep x ins base k ln L).heads.length=L.heads.length∧(eT C rep x ins base k ln L).pos.length=L.pos.length:=by
 unfold eT gx
 repeat' split
 all_goals simp
theorem tN (k:Nat)(ln:Ai)(L:Ls):(fR C x k ln L).heads=L.heads∧(fR C x k ln L).pos=L.pos∧(fR C x k ln L).lv=L.lv∧(fR C x k ln L).g.items.length=L.g.items.length∧(fR C x k ln L).g.most=L.g.most∧(fR C x k ln L).g.start=L.g.start:=by
 unfold fR
 split
 ·exact⟨rfl,rfl,rfl,dU _ _ _,rfl,rfl⟩
 ·exact⟨rfl,rfl,rfl,rfl,rfl,rfl⟩
theorem xg (rep:Sc→List Nat→Nat→Nat→Int→Gs→Gs)(base:Int)(k:Nat)(ln:Ai)(L:Ls)(hp:k < L.pos.length)(i:Nat):
  (i≠k→atL (eT C rep x ins base k ln L).pos i=atL L.pos i)∧((ln.faa=3∨ln.faa=4∨ln.faa=5)→0≤atL (eT C rep x ins base k ln L).pos k∧atL (eT C rep x ins base k ln L).pos k < (eT C rep x ins base k ln L).g.items.length):=by
 unfold eT
 by_cases h4:ln.faa=4
 ·rw[if_pos h4]
  refine⟨fun hi=>uB hi,fun _=>?_⟩
  simp only[sg hp,dU,cr,List.length_append,List.length_cons,List.length_nil]
  omega
 ·rw[if_neg h4]
  by_cases h7:ln.faa=7
  ·rw[if_pos h7]
   refine⟨fun _=>?_,fun h=>by omega⟩
   unfold gx
   repeat' split
   all_goals rfl
  ·rw[if_neg h7]
   by_cases h1:ln.faa=1
   ·rw[if_pos h1]
    exact⟨fun _=>rfl,fun h=>by omega⟩
   ·rw[if_neg h1]
    by_cases h2:ln.faa=2
    ·rw[if_pos h2]
     exact⟨fun _=>rfl,fun h=>by omega⟩
    ·rw[if_neg h2]
     by_cases h6:ln.faa=6
     ·rw[if_pos h6]
      refine⟨fun _=>?_,fun h=>by omega⟩
      unfold gx
      repeat' split
      all_goals rfl
     ·rw[if_neg h6]
      refine⟨fun hi=>uB hi,fun _=>?_⟩
      simp only[sg hp,cr,List.length_append,List.length_cons,List.length_nil]
      omega
theorem LInv.next (hC:CxOk C)(hx:ScOk C x ins){lev e k:Nat}{d:Int}{R L:Ls}{ln:Ai}(he:endAt C.p x.f=some e)(h:LInv C lev x ins d e R k L)(hk:k≤e)(hl:C.p[k]?=some ln):LInv C lev x ins d e R (k+1) (fR C x k ln (eT C (nU C lev) x ins d k ln L)):=by
 have h0:=mr hC hx he h.lo hk hl
 have hrep:∀line g d s,gb C g→gh C ins g s.items.length=true→Grow (dV lev) s (nU C lev x ins line g d s):=fun line g d s hg hr=>qh hC lev line g d s hx hg hr
 have hA:=jK (lev:=lev) (rep:=nU C lev) hrep hC hl h0 d L
 obtain⟨b1,b2,b3,b4,b5,b6⟩:=tN (C:=C) (x:=x) k ln (eT C (nU C lev) x ins d k ln L)
 obtain⟨a1,a2⟩:=ub (C:=C) (x:=x) (ins:=ins) (nU C lev) d k ln L
 have hge:=hA.ge
 have hle:=hA.le
 have hr:=h.room
 refine⟨by have:=h.lo;omega,by omega,by rw[b1,a1];exact h.heads,by rw[b2,a2];exact h.pos,fun i h1 h2 hj=>?_,wj k ln (wQ (lev:=lev) hrep hC hl h0 d h.lv),?_,?_⟩
 ·rw[b2,b4]
  obtain⟨p1,p2⟩:=xg (C:=C) (x:=x) (ins:=ins) (nU C lev) d k ln L (by rw[h.pos];exact aU hl) i
  by_cases hik:i=k
  ·subst hik
   refine p2 ?_
   unfold uK at hj
   rw[bz hl]at hj
   exact hj
  ·rw[p1 hik]
   have:=h.at_ i h1 (by omega) hj
   omega
 ·rw[b4]
  obtain⟨n,hn⟩:∃n,e+1 - k=n+1:=⟨e - k,by omega⟩
  rw[hn,Nat.add_mul]at hr
  rw[show e+1 - (k+1)=n by omega]
  omega
 ·have hf:=h.fin
  obtain⟨n,hn⟩:∃n,e+1 - k=n+1:=⟨e - k,by omega⟩
  rw[hn,vK,hl]at hf
  rw[show e+1 - (k+1)=n by omega]
  exact hf
end
structure PgOk (p:List Ai):Prop where
 len:p.length≤60
 small:bd 1048576 (.lst 4 (p.map Ai.tr))
 line:∀(k:Nat) (ln:Ai),p[k]?=some ln→0≤ln.faa∧ln.faa≤7∧ln.fad.length≤4∧ln.fac.length≤20∧((ln.faa=1∨ln.faa=2∨ln.faa=3∨ln.faa=5∨ln.faa=6)→bH ln.fac=true)
 fn:∀(g:Nat) (ln:Ai),p[g]?=some ln→ln.faa=0→∃e,endAt p g=some e∧(localsOf p (g:Int)).length≤8∧ln.fad.length≤(localsOf p (g:Int)).length∧∀(k:Nat) (y:Ai),g < k→k < e→p[k]?=some y→y.faa≠0∧(∀t∈y.fac,t.faa=7→∃f,findN p 0 t.fab=some f∧(argsN p f:Int)=t.fae)∧(y.faa=4→∃i,g≤i∧i < k∧elseAt p i=some k)
theorem PgOk.cx {p:List Ai}(h:PgOk p){b:Aa}{framed:Bool}{words args:Int}(ha:0≤args∧args≤4)(hw:0≤words∧words≤1000)(hi:0≤b.fan∧b.fan≤3):CxOk ⟨p,b,framed,words,args⟩:=
 ⟨h.len,h.small,h.line,h.fn,ha,hw,hi⟩
theorem jJ {F:Nat→Nat→Bool}{l:List Ai}(hF:∀k e,endAt l k=some e→F k e=true→∀i x,k < i→i < e→l[i]?=some x→x.faa≠0):∀(n k:Nat),aW F l n k=true→∀g x,k≤g→l[g]?=some x→x.faa=0→∃e,endAt l g=some e∧F g e=true
 | 0,k,h,g,x,hk,hg,_=>by
  rw[aW,decide_eq_true_eq]at h
  have:=aU hg
  omega
 | n+1,k,h,g,x,hk,hg,h0=>by
  rw[aW,if_pos (by have:=aU hg;omega)]at h
  split at h
  ·rename_i y e hy he
   split at h
   ·rename_i hc
    by_cases hgk:g=k
    ·subst hgk;exact⟨e,he,hc.2⟩
    ·by_cases hge:g≤e
     ·by_cases hge2:g=e
      ·subst hge2
       obtain⟨z,hz,h7⟩:=bc he
       rw[hg]at hz
       injection hz with hz
       subst hz
       omega
      ·exact absurd h0 (hF k e he hc.2 g x (by omega) (by omega) hg)
     ·exact jJ hF n (e+1) h g x (by omega) hg h0
   ·cases h
  ·cases h
theorem jU {l:List Ai}{locals:List (List UInt8)}{e:Nat}:∀(n i d:Nat),e - i≤n→e≤l.length→eJ l locals e n i d=true→∀j x,i≤j→j < e→l[j]?=some x→aN l locals x.fac=true
 | 0,i,d,hn,_,_,j,x,h1,h2,_=>by omega
 | n+1,i,d,hn,he,hb,j,x,h1,h2,hx=>by
  rw[eJ,if_pos (by omega)]at hb
  obtain⟨y,hy⟩:=af (l:=l) (k:=i) (by omega)
  rw[hy]at hb
  dsimp only at hb
  split at hb
  ·cases hb
  ·split at hb
   ·rename_i hk
    by_cases hj:j=i
    ·subst hj
     rw[hy]at hx
     injection hx with hx
     subst hx
     exact hk.2
    ·exact jU n (i+1) _ (by omega) he hb j x (by omega) h2 hx
   ·cases hb
theorem tE (acc:List (List UInt8))(s:List UInt8):acc.length≤(cI acc s).length:=by
 unfold cI
 split <;> simp
theorem vj {l:List Ai}{e:Nat}:∀(n i:Nat) (acc:List (List UInt8)),acc.length≤(locN l e n i acc).length
 | 0,_,_=>by simp[locN]
 | n+1,i,acc=>by
  rw[locN]
  split
  ·split
   ·refine Nat.le_trans ?_ (vj n _ _)
    split
    ·exact tE _ _
    ·exact Nat.le_refl _
   ·exact Nat.le_refl _
  ·exact Nat.le_refl _
theorem hasExpr_iff {k:Int}:bP k=true↔(k=1∨k=2∨k=3∨k=5∨k=6):=by
 unfold bP
 simp
theorem qx {x:Ai}(h:bm x=true):0≤x.faa∧x.faa≤7∧x.fad.length≤4∧x.fac.length≤20∧((x.faa=1∨x.faa=2∨x.faa=3∨x.faa=5∨x.faa=6)→bH x.fac=true):=by
 have h4:x.fad.length≤4:=by
  rcases Nat.lt_or_ge 4 x.fad.length with h'|h'
  ·rw[mx h']at h;cases h
  ·exact h'
 unfold bm at h
 simp only[Bool.and_eq_true,within_iff]at h
 obtain⟨⟨h1,h2⟩,_,_,h3⟩:=h
 refine⟨h1,h2,h4,?_,fun hk=>by rw[if_pos (hasExpr_iff.2 hk)]at h3;exact h3⟩
 split at h3
 ·unfold bH at h3
  simp only[Bool.and_eq_true,decide_eq_true_eq]at h3
  exact h3.1
 ·have:=eq_of_beq h3
  omega
theorem qW {p:List Ai}(hs:bd 1048576 (.lst 4 (p.map Ai.tr)))(h:aB p=true):PgOk p:=by
 unfold aB at h
 simp only[Bool.and_eq_true,decide_eq_true_eq]at h
 obtain⟨h1,_,h2,_,_,h3,h4⟩:=h
 have hS:=jT p
 rw[h3,h4]at hS
 have hlines:∀(k:Nat) (ln:Ai),p[k]?=some ln→0≤ln.faa∧ln.faa≤7∧ln.fad.length≤4∧ln.fac.length≤20∧((ln.faa=1∨ln.faa=2∨ln.faa=3∨ln.faa=5∨ln.faa=6)→bH ln.fac=true):=fun k ln hk=>qx (List.all_eq_true.1 h2 ln (List.mem_of_getElem? hk))
 have hlt:∀k e,endAt p k=some e→e≤p.length:=fun k e he=>by obtain⟨_,_,_,_,_,h⟩:=aw he;omega
 have hF:∀k e,endAt p k=some e→gS p k e=true→∀i x,k < i→i < e→p[i]?=some x→x.faa≠0:=fun k e he hf=>by
  rw[iz,Bool.and_eq_true]at hf
  exact ka hf.1 (hlt k e he)
 refine⟨h1,hs,hlines,fun g ln hg h0=>?_⟩
 obtain⟨e,he,hf⟩:=jJ hF p.length 0 hS g ln (Nat.zero_le _) hg h0
 have hf':=hf
 rw[iz,Bool.and_eq_true]at hf'
 obtain⟨hf1,hf2⟩:=hf'
 have hf1':=hf1
 rw[eS,Bool.and_eq_true,decide_eq_true_eq]at hf1'
 obtain⟨hl8,hbody⟩:=hf1'
 refine⟨e,he,hl8,?_,fun k y hk1 hk2 hy=>⟨hF g e he hf k y hk1 hk2 hy,fun t ht h7=>?_,fun h4'=>?_⟩⟩
 ·unfold localsOf
  rw[if_pos (by omega),Int.toNat_natCast,hg,he]
  dsimp only
  rw[if_pos h0]
  exact vj _ _ _
 ·have hkn:=jU (e - (g+1)) (g+1) 0 (Nat.le_refl _) (hlt g e he) hbody k y (by omega) hk2 hy
  unfold aN at hkn
  have:=List.all_eq_true.1 hkn t ht
  unfold aR at this
  rw[if_neg (by omega),if_pos h7]at this
  split at this
  ·rename_i f hfi
   refine⟨f,hfi,?_⟩
   unfold argsN
   split at this
   ·rename_i x hx
    (try rw[hx])
    exact eq_of_beq this
   ·cases this
  ·cases this
 ·have:=(dT (Nat.le_refl _)).1 hf2 k y (by omega) hk2 hy h4'
  rw[ik]at this
  obtain⟨i,i1,i2,i3⟩:=this
  exact⟨i,i1,by omega,i3⟩
def alike (p q:List Ai):Prop:=p.map (fun x=>(x.faa,x.fab,x.fad))=q.map (fun x=>(x.faa,x.fab,x.fad))
theorem alike.len {p q:List Ai}(h:alike p q):p.length=q.length:=by simpa using congrArg List.length h
theorem alike.get {p q:List Ai}(h:alike p q){k:Nat}{x:Ai}(hx:p[k]?=some x):∃y,q[k]?=some y∧x.faa=y.faa∧x.fab=y.fab∧x.fad=y.fad:=by
 have:=congrArg (·[k]?) h
 simp only[List.getElem?_map,hx,Option.map_some]at this
 cases hy:q[k]? with
 | none=>rw[hy]at this;cases this
 | some y=>
  rw[hy]at this
  simp only[Option.map_some,Option.some.injEq,Prod.mk.injEq]at this
  exact⟨y,rfl,this.1,this.2.1,this.2.2⟩
theorem alike.none {p q:List Ai}(h:alike p q){k:Nat}(hx:p[k]?=none):q[k]?=none:=by
 rw[List.getElem?_eq_none_iff]at hx ⊢
 have:=h.len
 omega
theorem alike.symm {p q:List Ai}(h:alike p q):alike q p:=Eq.symm h
theorem alike.drop {p q:List Ai}(h:alike p q)(n:Nat):alike (p.drop n) (q.drop n):=by
 unfold alike at *
 rw[List.map_drop,List.map_drop,h]
theorem alike.endN:∀{p q:List Ai},alike p q→∀(i o:Nat),endN p i o=endN q i o
 | [],[],_,_,_=>rfl
 | x::p,y::q,h,i,o=>by
  simp only[alike,List.map_cons,List.cons.injEq,Prod.mk.injEq]at h
  have ih:=alike.endN (p:=p) (q:=q) h.2
  rw[Go.Proofs.Ytjmplnfiabmalaa.endN,Go.Proofs.Ytjmplnfiabmalaa.endN,h.1.1,ih,ih,ih]
 | [],_::_,h,_,_=>by simp[alike]at h
 | _::_,[],h,_,_=>by simp[alike]at h
theorem alike.endAt {p q:List Ai}(h:alike p q)(k:Nat):endAt p k=endAt q k:=by
 unfold Go.Proofs.Ytjmplnfiabmalaa.endAt
 cases hx:p[k]? with
 | none=>rw[h.none hx]
 | some x=>
  obtain⟨y,hy,e1,_⟩:=h.get hx
  rw[hy]
  dsimp only
  rw[e1,(h.drop (k+1)).endN]
theorem alike.elseN {p q:List Ai}(h:alike p q){e:Nat}:∀(n i:Nat),elseN p e n i=elseN q e n i
 | 0,_=>rfl
 | n+1,i=>by
  rw[Go.Proofs.Ytjmplnfiabmalaa.elseN,Go.Proofs.Ytjmplnfiabmalaa.elseN]
  cases hx:p[i]? with
  | none=>rw[h.none hx]
  | some x=>
   obtain⟨y,hy,e1,_⟩:=h.get hx
   rw[hy]
   dsimp only
   rw[e1,h.endAt i]
   cases Go.Proofs.Ytjmplnfiabmalaa.endAt q i with
   | none=>dsimp only;rw[alike.elseN h n]
   | some m=>dsimp only;rw[alike.elseN h n,alike.elseN h n]
theorem alike.elseAt {p q:List Ai}(h:alike p q)(k:Nat):elseAt p k=elseAt q k:=by
 unfold Go.Proofs.Ytjmplnfiabmalaa.elseAt
 rw[h.endAt k]
 cases hx:p[k]? with
 | none=>rw[h.none hx]
 | some x=>
  obtain⟨y,hy,e1,_⟩:=h.get hx
  rw[hy]
  cases Go.Proofs.Ytjmplnfiabmalaa.endAt q k with
  | none=>rfl
  | some e=>dsimp only;rw[e1,h.elseN]
theorem alike.findN:∀{p q:List Ai},alike p q→∀(i:Nat) (s:List UInt8),findN p i s=findN q i s
 | [],[],_,_,_=>rfl
 | x::p,y::q,h,i,s=>by
  simp only[alike,List.map_cons,List.cons.injEq,Prod.mk.injEq]at h
  have ih:=alike.findN (p:=p) (q:=q) h.2
  rw[Go.Proofs.Ytjmplnfiabmalaa.findN,Go.Proofs.Ytjmplnfiabmalaa.findN,h.1.1,h.1.2.1,ih]
 | [],_::_,h,_,_=>by simp[alike]at h
 | _::_,[],h,_,_=>by simp[alike]at h
theorem alike.locN {p q:List Ai}(h:alike p q){e:Nat}:∀(n i:Nat) (acc:List (List UInt8)),locN p e n i acc=locN q e n i acc
 | 0,_,_=>rfl
 | n+1,i,acc=>by
  rw[Go.Proofs.Ytjmplnfiabmalaa.locN,Go.Proofs.Ytjmplnfiabmalaa.locN]
  cases hx:p[i]? with
  | none=>rw[h.none hx]
  | some x=>
   obtain⟨y,hy,e1,e2,_⟩:=h.get hx
   rw[hy]
   dsimp only
   rw[e1,e2,alike.locN h n]
theorem alike.localsOf {p q:List Ai}(h:alike p q)(k:Int):localsOf p k=localsOf q k:=by
 unfold Go.Proofs.Ytjmplnfiabmalaa.localsOf
 rw[h.endAt]
 cases hx:p[k.toNat]? with
 | none=>rw[h.none hx]
 | some x=>
  obtain⟨y,hy,e1,_,e3⟩:=h.get hx
  rw[hy]
  cases Go.Proofs.Ytjmplnfiabmalaa.endAt q k.toNat with
  | none=>rfl
  | some e=>dsimp only;rw[e1,e3,h.locN]
theorem alike.argsN {p q:List Ai}(h:alike p q)(g:Nat):argsN p g=argsN q g:=by
 unfold Go.Proofs.Ytjmplnfiabmalaa.argsN
 cases hx:p[g]? with
 | none=>rw[h.none hx]
 | some x=>
  obtain⟨y,hy,_,_,e3⟩:=h.get hx
  rw[hy]
  dsimp only
  rw[e3]
section
variable {p:List Ai} {locals:List (List UInt8)} {vals:List Int} {call call':fw}
theorem vB (h:∀g av s,call g av s≠.fuel→call' g av s=call g av s){t:Ar}{av:List Int}{s:IS}(hf:cE p locals vals call t av s≠.fuel):cE p locals vals call' t av s=cE p locals vals call t av s:=by
 unfold cE at *
 split
 ·rfl
 ·split
  ·rfl
  ·split
   ·rename_i h0 h1 h7
    rw[if_neg h0,if_neg h1,if_pos h7]at hf
    exact h _ _ _ hf
   ·rfl
mutual
theorem kr (h:∀g av s,call g av s≠.fuel→call' g av s=call g av s):∀(e:Ex) (s:IS),evE p locals vals call e s≠.fuel→evE p locals vals call' e s=evE p locals vals call e s
 | .node t es,s,hf=>by
  rw[evE]at hf ⊢
  rw[evE,jh h es s (fun e=>hf (by rw[e];rfl))]
  cases hr:aF p locals vals call es s with
  | ok av s1=>
   rw[hr,Rr.bnd_ok]at hf
   rw[Rr.bnd_ok,Rr.bnd_ok]
   exact vB h hf
  | stop c s1=>rfl
  | fuel=>rfl
theorem jh (h:∀g av s,call g av s≠.fuel→call' g av s=call g av s):∀(es:List Ex) (s:IS),aF p locals vals call es s≠.fuel→aF p locals vals call' es s=aF p locals vals call es s
 | [],s,_=>by rw[aF,aF]
 | a::es,s,hf=>by
  rw[aF]at hf ⊢
  rw[aF,kr h a s (fun e=>hf (by rw[e];rfl))]
  cases hr:evE p locals vals call a s with
  | ok v s1=>
   rw[hr,Rr.bnd_ok]at hf
   rw[Rr.bnd_ok,Rr.bnd_ok,jh h es s1 (fun e=>hf (by rw[e];rfl))]
  | stop c s1=>rfl
  | fuel=>rfl
end
end
section
variable {p:List Ai} {lim:Int}
theorem dx:∀(n:Nat) (calls:List Int) (f k:Nat) (vals:List Int) (s:IS),aA p lim n calls f k vals s≠.fuel→aA p lim (n+1) calls f k vals s=aA p lim n calls f k vals s
 | 0,_,_,_,_,_,h=>absurd rfl h
 | n+1,calls,f,k,vals,s,h=>by
  cases hk:p[k]? with
  | none=>rw[fk hk,fk hk]
  | some ln=>
   by_cases h7:ln.faa=7
   ·rw[bn hk h7]at h ⊢
    rw[bn hk h7]
    by_cases ho:aD p k=f
    ·rw[if_pos ho,if_pos ho]
    ·rw[if_neg ho]at h
     rw[if_neg ho,if_neg ho]
     exact dx n _ _ _ _ _ h
   by_cases h4:ln.faa=4
   ·rw[bX hk h4]at h ⊢
    rw[bX hk h4]
    exact dx n _ _ _ _ _ h
   by_cases hv:(s.visits.length:Int)=lim
   ·rw[bY hk h7 h4 hv,bY hk h7 h4 hv]
   ·rw[co hk h7 h4 hv]at h ⊢
    rw[co hk h7 h4 hv]
    have hc:∀g av s,az p lim n calls k g av s≠.fuel→az p lim (n+1) calls k g av s=az p lim n calls k g av s:=by
     intro g av s' hf
     unfold az at *
     split
     ·rfl
     ·rename_i h6
      rw[if_neg h6]at hf
      exact dx n _ _ _ _ _ hf
    rw[kr hc _ _ (fun e=>h (by rw[e];rfl))]
    cases hr:evE p (localsOf p (f:Int)) vals (az p lim n calls k) (exL ln.fac) ⟨s.out,s.visits++[calls++[(k:Int)]]⟩with
    | ok v s1=>
     rw[hr,Rr.bnd_ok]at h
     rw[Rr.bnd_ok,Rr.bnd_ok]
     by_cases h6:ln.faa=6
     ·rw[if_pos h6,if_pos h6]
     ·rw[if_neg h6]at h
      rw[if_neg h6,if_neg h6]
      exact dx n _ _ _ _ _ h
    | stop c s1=>rfl
    | fuel=>rfl
theorem fv {n m:Nat}{calls:List Int}{f k:Nat}{vals:List Int}{s:IS}(h:aA p lim n calls f k vals s≠.fuel)(hm:n≤m):aA p lim m calls f k vals s=aA p lim n calls f k vals s:=by
 obtain⟨d,rfl⟩:=Nat.exists_eq_add_of_le hm
 clear hm
 induction d with
 | zero=>rfl
 | succ d ih=>rw[show n+(d+1)=(n+d)+1 by omega,dx (n+d) _ _ _ _ _ (by rw[ih];exact h),ih]
theorem eQ {n m:Nat}{calls:List Int}{k:Nat}(hm:n≤m):∀g av s,az p lim n calls k g av s≠.fuel→az p lim m calls k g av s=az p lim n calls k g av s:=by
 intro g av s h
 unfold az at *
 split
 ·rfl
 ·rename_i h6
  rw[if_neg h6]at h
  exact fv h hm
end
structure Ext (lim:Int) (s s':IS):Prop where
 out:s.out <+:s'.out
 vis:s.visits <+:s'.visits
 le:(s.visits.length:Int)≤lim→(s'.visits.length:Int)≤lim
 ol:s'.out.length+s.visits.length≤s'.visits.length+s.out.length
theorem Ext.refl (lim:Int)(s:IS):Ext lim s s:=⟨List.prefix_refl _,List.prefix_refl _,id,by omega⟩
theorem Ext.trans {lim:Int}{a b c:IS}(h:Ext lim a b)(h':Ext lim b c):Ext lim a c:=⟨h.out.trans h'.out,h.vis.trans h'.vis,fun x=>h'.le (h.le x),by have:=h.ol;have:=h'.ol;omega⟩
def ExtR (lim:Int)(s:IS){α:Type}(r:Rr α):Prop:=match r with
 | .ok _ s'=>Ext lim s s'
 | .stop c s'=>Ext lim s s'∧(c=1∨c=2)
 | .fuel=>True
theorem ExtR.trans {lim:Int}{a b:IS}{α:Type}{r:Rr α}(h:Ext lim a b)(h':ExtR lim b r):ExtR lim a r:=by
 cases r with
 | ok v s=>exact Ext.trans h h'
 | stop c s=>exact⟨Ext.trans h h'.1,h'.2⟩
 | fuel=>trivial
section
variable {p:List Ai} {locals:List (List UInt8)} {vals:List Int} {call:fw} {lim:Int}
theorem wK (h:∀g av s,ExtR lim s (call g av s))(t:Ar)(av:List Int)(s:IS):ExtR lim s (cE p locals vals call t av s):=by
 unfold cE
 split
 ·exact Ext.refl _ _
 ·split
  ·exact Ext.refl _ _
  ·split
   ·exact h _ _ _
   ·exact Ext.refl _ _
mutual
theorem je (h:∀g av s,ExtR lim s (call g av s)):∀(e:Ex) (s:IS),ExtR lim s (evE p locals vals call e s)
 | .node t es,s=>by
  have hs:=fO h es s
  rw[evE]
  cases hr:aF p locals vals call es s with
  | ok av s1=>
   rw[hr]at hs
   rw[Rr.bnd_ok]
   exact ExtR.trans hs (wK h t av s1)
  | stop c s1=>rw[hr]at hs;exact hs
  | fuel=>trivial
theorem fO (h:∀g av s,ExtR lim s (call g av s)):∀(es:List Ex) (s:IS),ExtR lim s (aF p locals vals call es s)
 | [],s=>by rw[aF];exact Ext.refl _ _
 | a::es,s=>by
  have h1:=je h a s
  rw[aF]
  cases hr:evE p locals vals call a s with
  | ok v s1=>
   rw[hr]at h1
   rw[Rr.bnd_ok]
   have h2:=fO h es s1
   cases hr2:aF p locals vals call es s1 with
   | ok vs s2=>rw[hr2]at h2;exact Ext.trans h1 h2
   | stop c s2=>rw[hr2]at h2;exact⟨Ext.trans h1 h2.1,h2.2⟩
   | fuel=>trivial
  | stop c s1=>rw[hr]at h1;exact h1
  | fuel=>trivial
end
theorem fX {s:IS}(hv:(s.visits.length:Int)≠lim)(row:List Int):Ext lim s ⟨s.out,s.visits++[row]⟩:=⟨List.prefix_refl _,List.prefix_append _ _,fun h=>by rw[List.length_append];simp only[List.length_cons,List.length_nil];omega,by simp;omega⟩
theorem nk {ln:Ai}{s s':IS}{row:List Int}{v:Int}(hv:(s.visits.length:Int)≠lim)(h:Ext lim ⟨s.out,s.visits++[row]⟩ s'):Ext lim s (eb ln s' v):=by
 have h0:=(fX hv row).trans h
 have hol:=h.ol
 simp only[List.length_append,List.length_cons,List.length_nil]at hol
 unfold eb
 split
 ·exact⟨h0.out.trans (List.prefix_append _ _),h0.vis,h0.le,by simp only[List.length_append,List.length_cons,List.length_nil];omega⟩
 ·exact h0
theorem cy:∀(n:Nat) (calls:List Int) (f k:Nat) (vals:List Int) (s:IS),ExtR lim s (aA p lim n calls f k vals s)
 | 0,_,_,_,_,_=>trivial
 | n+1,calls,f,k,vals,s=>by
  cases hk:p[k]? with
  | none=>rw[fk hk];exact Ext.refl _ _
  | some ln=>
   by_cases h7:ln.faa=7
   ·rw[bn hk h7]
    split
    ·exact Ext.refl _ _
    ·exact cy n _ _ _ _ _
   by_cases h4:ln.faa=4
   ·rw[bX hk h4]
    exact cy n _ _ _ _ _
   by_cases hv:(s.visits.length:Int)=lim
   ·rw[bY hk h7 h4 hv];exact⟨Ext.refl _ _,.inl rfl⟩
   ·rw[co hk h7 h4 hv]
    have hc:∀g av s,ExtR lim s (az p lim n calls k g av s):=by
     intro g av s'
     unfold az
     split
     ·exact⟨Ext.refl _ _,.inr rfl⟩
     ·exact cy n _ _ _ _ _
    have he:=je (p:=p) (locals:=localsOf p (f:Int)) (vals:=vals) hc (exL ln.fac) ⟨s.out,s.visits++[calls++[(k:Int)]]⟩
    cases hr:evE p (localsOf p (f:Int)) vals (az p lim n calls k) (exL ln.fac) ⟨s.out,s.visits++[calls++[(k:Int)]]⟩with
    | ok v s1=>
     rw[hr]at he
     rw[Rr.bnd_ok]
     split
     ·exact(fX hv _).trans he
     ·exact ExtR.trans (nk hv he) (cy n _ _ _ _ _)
    | stop c s1=>rw[hr]at he;exact⟨(fX hv _).trans he.1,he.2⟩
    | fuel=>trivial
theorem cX (n:Nat)(calls:List Int)(k:Nat):∀g av s,ExtR lim s (az p lim n calls k g av s):=by
 intro g av s'
 unfold az
 split
 ·exact⟨Ext.refl _ _,.inr rfl⟩
 ·exact cy n _ _ _ _ _
end
section
variable {p:List Ai} {locals:List (List UInt8)} {vals:List Int} {lim:Int} {calls:List Int} {k:Nat}
def gj (p:List Ai)(l:List Ar):Prop:=∀t∈l,t.faa=7→∃f,findN p 0 t.fab=some f
mutual
theorem pC (hc:∀g av (s:IS),(s.visits.length:Int)≤lim→(∃y,p[g]?=some y∧y.faa=0)→∃n,az p lim n calls k g av s≠.fuel):∀(e:Ex) (s:IS),(s.visits.length:Int)≤lim→gj p e.toks→∃n,evE p locals vals (az p lim n calls k) e s≠.fuel
 | .node t es,s,hs,hk=>by
  have hk':gj p (ay es):=fun t' ht=>hk t' (by rw[Ex.toks];exact List.mem_cons_of_mem _ ht)
  obtain⟨n,hn⟩:=nM hc es s hs hk'
  have hx:=fO (p:=p) (locals:=locals) (vals:=vals) (cX (p:=p) (lim:=lim) n calls k) es s
  cases hr:aF p locals vals (az p lim n calls k) es s with
  | ok av s1=>
   rw[hr]at hx
   by_cases h7:t.faa=7
   ·obtain⟨f,hf⟩:=hk t (by rw[Ex.toks];exact List.mem_cons_self ..) h7
    obtain⟨_,y,hy,h0,_⟩:=dF hf
    obtain⟨m,hm⟩:=hc f av s1 (hx.le hs) ⟨y,hy,h0⟩
    refine⟨max n m,?_⟩
    rw[evE,jh (eQ (Nat.le_max_left n m)) es s hn,hr,Rr.bnd_ok,cE,if_neg (by omega),if_neg (by omega),if_pos h7,hf,Option.getD_some,eQ (Nat.le_max_right n m) _ _ _ hm]
    exact hm
   ·refine⟨n,?_⟩
    rw[evE,hr,Rr.bnd_ok,cE,if_neg h7]
    split
    ·exact fun e=>by cases e
    ·split
     ·exact fun e=>by cases e
     ·exact fun e=>by cases e
  | stop c s1=>exact⟨n,by rw[evE,hr];exact fun e=>by cases e⟩
  | fuel=>exact absurd hr hn
theorem nM (hc:∀g av (s:IS),(s.visits.length:Int)≤lim→(∃y,p[g]?=some y∧y.faa=0)→∃n,az p lim n calls k g av s≠.fuel):∀(es:List Ex) (s:IS),(s.visits.length:Int)≤lim→gj p (ay es)→∃n,aF p locals vals (az p lim n calls k) es s≠.fuel
 | [],s,_,_=>⟨0,by rw[aF];exact fun e=>by cases e⟩
 | a::es,s,hs,hk=>by
  obtain⟨n,hn⟩:=pC hc a s hs (fun t ht=>hk t (by rw[ay];exact List.mem_append.2 (.inl ht)))
  have hx:=je (p:=p) (locals:=locals) (vals:=vals) (cX (p:=p) (lim:=lim) n calls k) a s
  cases hr:evE p locals vals (az p lim n calls k) a s with
  | ok v s1=>
   rw[hr]at hx
   obtain⟨m,hm⟩:=nM hc es s1 (hx.le hs) (fun t ht=>hk t (by rw[ay];exact List.mem_append.2 (.inr ht)))
   refine⟨max n m,?_⟩
   rw[aF,kr (eQ (Nat.le_max_left n m)) a s hn,hr,Rr.bnd_ok,jh (eQ (Nat.le_max_right n m)) es s1 hm]
   cases hr2:aF p locals vals (az p lim m calls k) es s1 with
   | ok vs s2=>exact fun e=>by cases e
   | stop c s2=>exact fun e=>by cases e
   | fuel=>exact absurd hr2 hm
  | stop c s1=>exact⟨n,by rw[aF,hr];exact fun e=>by cases e⟩
  | fuel=>exact absurd hr hn
end
end
structure InF (p:List Ai) (f e k:Nat):Prop where
 fn:∃y,p[f]?=some y∧y.faa=0
 en:endAt p f=some e
 lo:f < k
 hi:k≤e
section
variable {p:List Ai} {f e k:Nat} {ln:Ai}
abbrev cx0 (p:List Ai)(f:Nat):Cx:=⟨p,⟨0,0,false,false⟩,false,0,argsN p f⟩
theorem PgOk.cx0 (hp:PgOk p)(h:∃y,p[f]?=some y∧y.faa=0):CxOk (cx0 p f):=by
 obtain⟨y,hy,_⟩:=h
 refine hp.cx ?_ (by omega) (by simp)
 have:=(hp.line f y hy).2.2.1
 show(0:Int)≤(argsN p f:Int)∧(argsN p f:Int)≤4
 rw[argsN,hy];dsimp only;omega
theorem uc (h:∃y,p[f]?=some y∧y.faa=0):ScOk (cx0 p f) (rg (cx0 p f) f) [f]:=⟨h,rfl,⟨Int.le_refl _,by simp[rg]⟩,rfl,by simp[rg],fun _=>rfl,rfl⟩
theorem InF.own7 (hp:PgOk p)(h:InF p f e k)(hk:p[k]?=some ln)(h7:ln.faa=7):endAt p (aD p k)=some k∧((k=e∧aD p k=f)∨(k < e∧f < aD p k∧aD p k < k∧∃y,p[aD p k]?=some y∧(y.faa=3∨y.faa=5))):=
 ScOk.own7 (hp.cx0 h.fn) (uc h.fn) h.en h.lo h.hi hk h7
theorem InF.own4 (hp:PgOk p)(h:InF p f e k)(hk:p[k]?=some ln)(h4:ln.faa=4):elseAt p (aD p k)=some k∧f < aD p k∧aD p k < k∧k < e:=
 ScOk.own4 (hp.cx0 h.fn) (uc h.fn) h.en h.lo h.hi hk h4
theorem InF.kind (hp:PgOk p)(h:InF p f e k)(hk:p[k]?=some ln):ln.faa≠0:=mr (hp.cx0 h.fn) (uc h.fn) h.en h.lo h.hi hk
theorem InF.line (hp:PgOk p)(h:InF p f e k):∃ln,p[k]?=some ln∧1≤ln.faa∧ln.faa≤7∧(ln.faa=7∨k < e):=by
 have he:=aw h.en
 obtain⟨_,_,_,_,_,hl⟩:=he
 obtain⟨ln,hk⟩:=af (l:=p) (k:=k) (by have:=h.hi;omega)
 have h1:=h.kind hp hk
 have h2:=hp.line k ln hk
 refine⟨ln,hk,by omega,h2.2.1,?_⟩
 by_cases hke:k=e
 ·subst hke
  obtain⟨y,hy,h7⟩:=bc h.en
  rw[hk]at hy;injection hy with hy;subst hy
  exact .inl h7
 ·have:=h.hi;exact .inr (by omega)
theorem InF.at (h:InF p f e k){j:Nat}(h1:f < j)(h2:j≤e):InF p f e j:=⟨h.fn,h.en,h1,h2⟩
theorem InF.skip (hp:PgOk p)(h:InF p f e k)(hk:p[k]?=some ln)(h35:ln.faa=3∨ln.faa=5)(hke:k < e):k < bb p k∧bb p k < e:=by
 obtain⟨m,hm,m1,m2⟩:=bu h.en h.lo hke hk (by rw[opensK_iff];omega)
 unfold bb
 split
 ·rename_i j hj
  obtain⟨_,e',_,_,he',q1,q2,_⟩:=aL hj
  rw[hm]at he';injection he' with he';subst he'
  omega
 ·rw[ct,hm]
  exact⟨m1,m2⟩
theorem InF.elseNext (hp:PgOk p)(h:InF p f e k)(hk:p[k]?=some ln)(h4:ln.faa=4):k < ct p (aD p k)∧ct p (aD p k) < e:=by
 obtain⟨q1,q2,q3,q4⟩:=h.own4 hp hk h4
 obtain⟨x,e',hx,h3,he',r1,r2,_⟩:=aL q1
 obtain⟨m,hm,m1,m2⟩:=bu h.en q2 (by omega) hx (by rw[opensK_iff];omega)
 rw[he']at hm;injection hm with hm;subst hm
 rw[ct,he']
 exact⟨r2,m2⟩
theorem InF.next (hp:PgOk p)(h:InF p f e k)(hk:p[k]?=some ln)(h7:ln.faa≠7)(v:Int):InF p f e (bC p ln k v)∧k < bC p ln k v:=by
 have hke:k < e:=by
  obtain⟨l,hl,_,_,h5⟩:=h.line hp
  rw[hk]at hl;injection hl with hl;subst hl
  omega
 have hlo:=h.lo
 unfold bC
 split
 ·rename_i hc
  have:=h.skip hp hk hc.1 hke
  exact⟨h.at (by omega) (by omega),by omega⟩
 ·exact⟨h.at (by omega) (by omega),by omega⟩
theorem InF.start (hp:PgOk p){g:Nat}(h:∃y,p[g]?=some y∧y.faa=0):∃e,InF p g e (g+1):=by
 obtain⟨y,hy,h0⟩:=h
 obtain⟨e,he,_⟩:=hp.fn g y hy h0
 obtain⟨_,_,_,_,h1,_⟩:=aw he
 exact⟨e,⟨⟨y,hy,h0⟩,he,by omega,by omega⟩⟩
theorem InF.known (hp:PgOk p)(h:InF p f e k)(hk:p[k]?=some ln)(h7:ln.faa≠7)(h4:ln.faa≠4):bH ln.fac=true∧(exL ln.fac).ok∧ln.fac=(exL ln.fac).toks∧gj p (exL ln.fac).toks:=by
 obtain⟨l,hl,h1,h2,h5⟩:=h.line hp
 rw[hk]at hl;injection hl with hl;subst hl
 have he:=(hp.line k ln hk).2.2.2.2 (by omega)
 obtain⟨e1,e2⟩:=xu he
 refine⟨he,e1,e2,?_⟩
 rw[←e2]
 obtain⟨y,hy,h0⟩:=h.fn
 obtain⟨e',g1,_,_,g2⟩:=hp.fn f y hy h0
 rw[h.en]at g1;injection g1 with g1;subst g1
 intro t ht ht7
 obtain⟨q,hq,_⟩:=(g2 k ln h.lo (by omega) hk).2.1 t ht ht7
 exact⟨q,hq⟩
end
section
variable {p:List Ai} {lim:Int}
theorem oN (hp:PgOk p)(calls:List Int)(hcall:∀(k g:Nat) (av:List Int) (s:IS),(s.visits.length:Int)≤lim→(∃y,p[g]?=some y∧y.faa=0)→∃n,az p lim n calls k g av s≠.fuel):
  ∀(m:Nat) (s:IS),(s.visits.length:Int)≤lim→lim - s.visits.length < m→∀(c f e k:Nat) (vals:List Int),InF p f e k→e - k≤c→∃n,aA p lim n calls f k vals s≠.fuel
 | 0,s,h1,h2,_,_,_,_,_,_,_=>by omega
 | m+1,s,h1,h2,c,f,e,k,vals,hI,hc=>by
  have vis:∀(k:Nat) (ln:Ai),InF p f e k→p[k]?=some ln→ln.faa≠7→ln.faa≠4→∃n,aA p lim n calls f k vals s≠.fuel:=by
   intro k ln hI hk h7 h4
   by_cases hv:(s.visits.length:Int)=lim
   ·exact⟨1,by rw[bY hk h7 h4 hv];exact fun e=>by cases e⟩
   obtain⟨_,e1,e2,e3⟩:=hI.known hp hk h7 h4
   have hl1:(((⟨s.out,s.visits++[calls++[(k:Int)]]⟩:IS).visits.length:Nat):Int)≤lim:=by simp only[List.length_append,List.length_cons,List.length_nil];omega
   obtain⟨n,hn⟩:=pC (locals:=localsOf p (f:Int)) (vals:=vals) (hcall k) (exL ln.fac) ⟨s.out,s.visits++[calls++[(k:Int)]]⟩ hl1 e3
   have hx:=je (p:=p) (locals:=localsOf p (f:Int)) (vals:=vals) (cX (p:=p) (lim:=lim) n calls k) (exL ln.fac) ⟨s.out,s.visits++[calls++[(k:Int)]]⟩
   cases hr:evE p (localsOf p (f:Int)) vals (az p lim n calls k) (exL ln.fac) ⟨s.out,s.visits++[calls++[(k:Int)]]⟩with
   | fuel=>exact absurd hr hn
   | stop c s1=>exact⟨n+1,by rw[co hk h7 h4 hv,hr];exact fun e=>by cases e⟩
   | ok v s1=>
    rw[hr]at hx
    by_cases h6:ln.faa=6
    ·exact⟨n+1,by rw[co hk h7 h4 hv,hr,Rr.bnd_ok,if_pos h6];exact fun e=>by cases e⟩
    have hx2:=nk (ln:=ln) (v:=v) hv hx
    have hlen:s.visits.length+1≤(eb ln s1 v).visits.length:=by
     have:=hx.vis.length_le
     simp only[List.length_append,List.length_cons,List.length_nil]at this
     have e:(eb ln s1 v).visits=s1.visits:=by unfold eb;split <;> rfl
     rw[e];exact this
    obtain⟨n2,hn2⟩:=oN hp calls hcall m (eb ln s1 v) (hx2.le h1) (by omega) _ f e (bC p ln k v) (gA (localsOf p (f:Int)) ln vals v) (hI.next hp hk h7 v).1 (Nat.le_refl _)
    refine⟨max n n2+1,?_⟩
    rw[co hk h7 h4 hv,kr (eQ (Nat.le_max_left n n2)) _ _ hn,hr,Rr.bnd_ok,if_neg h6,fv hn2 (Nat.le_max_right n n2)]
    exact hn2
  have pos:∀(c k:Nat),InF p f e k→e - k≤c→∃n,aA p lim n calls f k vals s≠.fuel:=by
   intro c
   induction c with
   | zero=>
    intro k hI hc
    obtain⟨ln,hk,_,_,h7⟩:=hI.line hp
    have h7:ln.faa=7:=by omega
    have hke:k=e:=by have:=hI.hi;omega
    obtain⟨_,h|h⟩:=hI.own7 hp hk h7
    ·exact⟨1,by rw[bn hk h7,if_pos h.2];exact fun e=>by cases e⟩
    ·omega
   | succ c ih=>
    intro k hI hc
    obtain⟨ln,hk,_,_,hke⟩:=hI.line hp
    by_cases h7:ln.faa=7
    ·obtain⟨_,h|⟨q1,q2,q3,y,hy,q4⟩⟩:=hI.own7 hp hk h7
     ·exact⟨1,by rw[bn hk h7,if_pos h.2];exact fun e=>by cases e⟩
     ·have hne:aD p k≠f:=by omega
      by_cases h5:y.faa=5
      ·have hI2:InF p f e (aD p k):=hI.at q2 (by omega)
       obtain⟨n,hn⟩:=vis (aD p k) y hI2 hy (by omega) (by omega)
       exact⟨n+1,by rw[bn hk h7,if_neg hne,bz hy,if_pos h5];exact hn⟩
      ·obtain⟨n,hn⟩:=ih (k+1) (hI.at (by have:=hI.lo;omega) (by omega)) (by omega)
       exact⟨n+1,by rw[bn hk h7,if_neg hne,bz hy,if_neg h5];exact hn⟩
    ·by_cases h4:ln.faa=4
     ·have hn4:=hI.elseNext hp hk h4
      obtain⟨n,hn⟩:=ih (ct p (aD p k)+1) (hI.at (by have:=hI.lo;omega) (by omega)) (by omega)
      exact⟨n+1,by rw[bX hk h4];exact hn⟩
     ·exact vis k ln hI hk h7 h4
  exact pos c k hI hc
theorem kp (hp:PgOk p):∀(d:Nat) (calls:List Int),calls.length+d=6→∀(f e k:Nat) (vals:List Int) (s:IS),(s.visits.length:Int)≤lim→InF p f e k→∃n,aA p lim n calls f k vals s≠.fuel
 | 0,calls,hcl,f,e,k,vals,s,hs,hI=>
  oN hp calls (fun k g av s _ _=>⟨0,by unfold az;rw[if_pos (by omega)];exact fun e=>by cases e⟩) ((lim - s.visits.length).toNat+1) s hs (by omega) _ f e k vals hI (Nat.le_refl _)
 | d+1,calls,hcl,f,e,k,vals,s,hs,hI=>
  oN hp calls (fun k g av s hs hg=>by
   obtain⟨e,he⟩:=InF.start hp hg
   obtain⟨n,hn⟩:=kp hp d (calls++[(k:Int)]) (by rw[List.length_append];simp;omega) g e (g+1) (bT (localsOf p (g:Int)).length av) s hs he
   exact⟨n,by unfold az;split;exact(fun e=>by cases e);exact hn⟩) ((lim - s.visits.length).toNat+1) s hs (by omega) _ f e k vals hI (Nat.le_refl _)
end
end Go.Proofs.Ytjmplnfiabmalaa
namespace Go.Proofs.Ytjmplnfiabmalaa
open Go.Sim
set_option maxRecDepth 100000
set_option maxHeartbeats 4000000
def dA (p:List Ai)(f k i:Nat):Bool:=decide (f < i∧i < k∧cK p i=5∧∃e,endAt p i=some e∧k≤e)
def ax (p:List Ai)(f k:Nat):List Nat:=(List.range p.length).filter (dA p f k)
theorem jY {P P':Nat→Bool}{k:Nat}(h1:∀i,i < k→P' i=P i)(h2:P' k=true)(h3:∀i,k≤i→P i=false)(h4:∀i,k < i→P' i=false):∀n,k < n→(List.range n).filter P'=(List.range n).filter P++[k]
 | 0,h=>by omega
 | n+1,h=>by
  rw[List.range_succ,List.filter_append,List.filter_append]
  by_cases hk:k=n
  ·subst hk
   have e:(List.range k).filter P'=(List.range k).filter P:=List.filter_congr fun i hi=>h1 i (List.mem_range.1 hi)
   rw[e]
   simp[h2,h3 k (Nat.le_refl _)]
  ·rw[jY h1 h2 h3 h4 n (by omega)]
   simp[h4 n (by omega),h3 n (by omega)]
theorem openW_iff {p:List Ai}{f k i:Nat}:dA p f k i=true↔f < i∧i < k∧cK p i=5∧∃e,endAt p i=some e∧k≤e:=by unfold dA;rw[decide_eq_true_eq]
theorem kP {p:List Ai}{f k i:Nat}(h:¬(f < i∧i < k∧cK p i=5∧∃e,endAt p i=some e∧k≤e)):dA p f k i=false:=by unfold dA;rw[decide_eq_false h]
theorem jk {p:List Ai}{f k k':Nat}(h:∀i,dA p f k i=true↔dA p f k' i=true):ax p f k=ax p f k':=by
 unfold ax
 refine List.filter_congr fun i _=>?_
 have:=h i
 cases h1:dA p f k i <;> cases h2:dA p f k' i <;> simp_all
theorem jW (p:List Ai)(f k:Nat):(ax p f k).length≤p.length:=by
 unfold ax
 have:=List.length_filter_le (dA p f k) (List.range p.length)
 rwa [List.length_range]at this
theorem nC {p:List Ai}{f k i:Nat}(h:i∈ax p f k):f < i∧i < k∧cK p i=5∧∃e,endAt p i=some e∧k≤e:=by
 unfold ax at h
 exact openW_iff.1 (List.mem_filter.1 h).2
section
variable {p:List Ai} {f e k:Nat} {ln:Ai}
theorem jl {i:Nat}{c:Int}(h:cK p i=c)(hc:0≤c):∃x,p[i]?=some x∧x.faa=c:=by
 unfold cK at h
 split at h
 ·exact⟨_,by assumption,h⟩
 ·omega
theorem nG {i m:Nat}(h:endAt p i=some m)(hk:p[k]?=some ln)(h7:ln.faa≠7):m≠k:=fun he=>by
 subst he
 obtain⟨y,hy,h7'⟩:=bc h
 rw[hk]at hy;injection hy with hy;subst hy
 exact h7 h7'
theorem rC (hI:InF p f e (f+1)):ax p f (f+1)=[]:=by
 unfold ax
 rw[List.filter_eq_nil_iff]
 intro i _ h
 have:=openW_iff.1 h
 omega
theorem iq (hk:p[k]?=some ln)(h5:ln.faa≠5)(h7:ln.faa≠7):ax p f (k+1)=ax p f k:=by
 refine jk fun i=>?_
 rw[openW_iff,openW_iff]
 constructor
 ·rintro⟨a,b,c,m,hm,hle⟩
  have:i≠k:=fun he=>by subst he;rw[bz hk]at c;exact h5 c
  exact⟨a,by omega,c,m,hm,by omega⟩
 ·rintro⟨a,b,c,m,hm,hle⟩
  have:=nG hm hk h7
  exact⟨a,by omega,c,m,hm,by omega⟩
theorem sw (hp:PgOk p)(hI:InF p f e k)(hke:k < e)(hk:p[k]?=some ln)(h5:ln.faa=5):ax p f (k+1)=ax p f k++[k]:=by
 obtain⟨m,hm,m1,m2⟩:=bu hI.en hI.lo hke hk (by rw[opensK_iff];omega)
 unfold ax
 refine jY (fun i hi=>?_) (openW_iff.2 ⟨hI.lo,by omega,by rw[bz hk];exact h5,m,hm,m1⟩) (fun i hi=>kP fun h=>by omega) (fun i hi=>kP fun h=>by omega) _ (aU hk)
 have:dA p f (k+1) i=true↔dA p f k i=true:=by
  rw[openW_iff,openW_iff]
  constructor
  ·rintro⟨a,b,c,m,hm,hle⟩;exact⟨a,hi,c,m,hm,by omega⟩
  ·rintro⟨a,b,c,m,hm,hle⟩
   have:=nG hm hk (by omega)
   exact⟨a,by omega,c,m,hm,by omega⟩
 cases h1:dA p f (k+1) i <;> cases h2:dA p f k i <;> simp_all
theorem lT {i o m mo:Nat}{y:Ai}(hm:endAt p i=some m)(h1:i < o)(h2:o≤m)(hy:p[o]?=some y)(ho:be y.faa=true)(hmo:endAt p o=some mo):mo < m:=by
 have hne:=nG hm hy (by rw[opensK_iff]at ho;omega)
 obtain⟨m',hm',_,h3⟩:=bu hm h1 (by omega) hy ho
 rw[hmo]at hm';injection hm' with hm';omega
theorem ui (hf:f < k){o:Nat}{y:Ai}(hok:endAt p o=some k)(hfo:f < o)(hy:p[o]?=some y)(h5:y.faa=5):ax p f k=ax p f o++[o]:=by
 obtain⟨_,_,_,_,hlt,_⟩:=aw hok
 unfold ax
 refine jY (fun i hi=>?_) (openW_iff.2 ⟨hfo,hlt,by rw[bz hy];exact h5,k,hok,Nat.le_refl _⟩) (fun i hi=>kP fun h=>by omega) (fun i hi=>kP ?_) _ (aU hy)
 ·have:dA p f k i=true↔dA p f o i=true:=by
   rw[openW_iff,openW_iff]
   constructor
   ·rintro⟨a,b,c,m,hm,hle⟩;exact⟨a,hi,c,m,hm,by omega⟩
   ·rintro⟨a,b,c,m,hm,hle⟩
    have:=lT hm hi hle hy (by rw[opensK_iff];omega) hok
    exact⟨a,by omega,c,m,hm,by omega⟩
  cases h1:dA p f k i <;> cases h2:dA p f o i <;> simp_all
 ·rintro⟨a,b,c,m,hm,hle⟩
  obtain⟨x,hx,hx5⟩:=jl c (by omega)
  obtain⟨m',hm',_,h3⟩:=bu hok hi b hx (by rw[opensK_iff];omega)
  rw[hm]at hm';injection hm' with hm';omega
theorem vV {o:Nat}{y:Ai}(hk:p[k]?=some ln)(h7:ln.faa=7)(hok:endAt p o=some k)(hy:p[o]?=some y)(h3:y.faa=3):ax p f (k+1)=ax p f k∧∀i∈ax p f k,endAt p i≠some k:=by
 have hne:∀i,cK p i=5→endAt p i≠some k:=fun i c h=>by
  have:=qk h hok
  subst this
  rw[bz hy]at c
  omega
 refine⟨jk fun i=>?_,fun i hi=>hne i (nC hi).2.2.1⟩
 rw[openW_iff,openW_iff]
 constructor
 ·rintro⟨a,b,c,m,hm,hle⟩
  have:i≠k:=fun he=>by subst he;rw[bz hk]at c;omega
  exact⟨a,by omega,c,m,hm,by omega⟩
 ·rintro⟨a,b,c,m,hm,hle⟩
  have:m≠k:=fun he=>by subst he;exact hne i c hm
  exact⟨a,by omega,c,m,hm,by omega⟩
theorem mD (hp:PgOk p)(hI:InF p f e k)(hke:k < e)(hk:p[k]?=some ln)(h35:ln.faa=3∨ln.faa=5):ax p f (bb p k+1)=ax p f k:=by
 obtain⟨m,hm,m1,m2⟩:=bu hI.en hI.lo hke hk (by rw[opensK_iff];omega)
 have hj:k < bb p k∧bb p k≤m∧∀i x mi,k < i→i≤bb p k→p[i]?=some x→x.faa=5→endAt p i=some mi→mi < bb p k:=by
  unfold bb
  split
  ·rename_i j hj
   obtain⟨x,e',hx,h3,he',q1,q2,y,hy,hy4⟩:=aL hj
   rw[hm]at he';injection he' with he';subst he'
   refine⟨q1,by omega,fun i z mi h1 h2 hz h5 hmi=>?_⟩
   have hij:i≠j:=fun he=>by subst he;rw[hz]at hy;injection hy with hy;subst hy;omega
   unfold elseAt at hj
   rw[hx,hm]at hj
   dsimp only at hj
   rw[if_pos h3]at hj
   exact eH hj i z mi (by omega) (by omega) hz (.inr h5) hmi
  ·rw[ct,hm]
   refine⟨m1,Nat.le_refl _,fun i z mi h1 h2 hz h5 hmi=>?_⟩
   have:=nG hm hz (by omega)
   have h2:i≤m:=h2
   obtain⟨m',hm',_,h3⟩:=bu hm h1 (by omega) hz (by rw[opensK_iff];omega)
   rw[hmi]at hm';injection hm' with hm';subst hm'
   exact h3
 obtain⟨j1,j2,j3⟩:=hj
 have h5s:ln.faa=5→bb p k=m:=fun h5=>by
  unfold bb
  rw[oW (by rw[bz hk];omega),ct,hm]
  rfl
 generalize bb p k=j at *
 refine jk fun i=>?_
 rw[openW_iff,openW_iff]
 constructor
 ·rintro⟨a,b,c,mi,hmi,hle⟩
  obtain⟨x,hx,hx5⟩:=jl c (by omega)
  rcases Nat.lt_trichotomy i k with h|h|h
  ·exact⟨a,h,c,mi,hmi,by omega⟩
  ·subst h
   rw[hk]at hx;injection hx with hx;subst hx
   rw[hm]at hmi;injection hmi with hmi
   have:=h5s hx5
   omega
  ·have:=j3 i x mi h (by omega) hx hx5 hmi
   omega
 ·rintro⟨a,b,c,mi,hmi,hle⟩
  have:=lT hmi b hle hk (by rw[opensK_iff];omega) hm
  exact⟨a,by omega,c,mi,hmi,by omega⟩
theorem sF (hp:PgOk p)(hI:InF p f e k)(hk:p[k]?=some ln)(h4:ln.faa=4):ax p f (ct p (aD p k)+1)=ax p f k:=by
 obtain⟨q1,q2,q3,q4⟩:=hI.own4 hp hk h4
 obtain⟨x,E,hx,h3,hE,r1,r2,y,hy,hy4⟩:=aL q1
 have hq:=q1
 unfold elseAt at hq
 rw[hx,hE]at hq
 dsimp only at hq
 rw[if_pos h3]at hq
 rw[ct,hE]
 generalize aD p k=o at *
 show ax p f (E+1)=_
 refine jk fun i=>?_
 rw[openW_iff,openW_iff]
 constructor
 ·rintro⟨a,b,c,mi,hmi,hle⟩
  obtain⟨z,hz,hz5⟩:=jl c (by omega)
  rcases Nat.lt_trichotomy i o with h|h|h
  ·exact⟨a,by omega,c,mi,hmi,by omega⟩
  ·subst h;rw[hx]at hz;injection hz with hz;subst hz;omega
  ·have:=nG hE hz (by omega)
   obtain⟨m',hm',_,h5⟩:=bu hE h (by omega) hz (by rw[opensK_iff];omega)
   rw[hmi]at hm';injection hm' with hm';omega
 ·rintro⟨a,b,c,mi,hmi,hle⟩
  obtain⟨z,hz,hz5⟩:=jl c (by omega)
  rcases Nat.lt_trichotomy i o with h|h|h
  ·have:=lT hmi h (by omega) hx (by rw[opensK_iff];omega) hE
   exact⟨a,by omega,c,mi,hmi,by omega⟩
  ·subst h;rw[hx]at hz;injection hz with hz;subst hz;omega
  ·have:=eH hq i z mi (by omega) b hz (.inr hz5) hmi
   omega
end
structure Known (p:List Ai) (locals:List (List UInt8)) (l:List Ar):Prop where
 var:∀t∈l,t.faa=1→∃i,cW locals 0 t.fab=some i
 call:∀t∈l,t.faa=7→∃g,findN p 0 t.fab=some g∧(argsN p g:Int)=t.fae
theorem sr (acc:List (List UInt8))(s:List UInt8):s∈cI acc s:=by
 unfold cI
 split
 ·rename_i h;exact List.contains_iff_mem.1 h
 ·simp
theorem ta {acc:List (List UInt8)}{s z:List UInt8}(h:z∈acc):z∈cI acc s:=by
 unfold cI
 split
 ·exact h
 ·simp[h]
theorem sb {l:List Ai}{e:Nat}{z:List UInt8}:∀(n i:Nat) (acc:List (List UInt8)),z∈acc→z∈locN l e n i acc
 | 0,_,_,h=>by rw[locN];exact h
 | n+1,i,acc,h=>by
  rw[locN]
  split
  ·split
   ·refine sb n _ _ ?_
    split
    ·exact ta h
    ·exact h
   ·exact h
  ·exact h
theorem th {l:List Ai}{e k:Nat}{x:Ai}(hx:l[k]?=some x)(h1:x.faa=1)(hke:k < e):∀(n i:Nat) (acc:List (List UInt8)),i≤k→e - i≤n→(∀j,j < e→j < l.length)→x.fab∈locN l e n i acc
 | 0,i,acc,h,hn,_=>by omega
 | n+1,i,acc,h,hn,hl=>by
  rw[locN,if_pos (by omega)]
  obtain⟨y,hy⟩:=af (hl i (by omega))
  rw[hy]
  dsimp only
  by_cases hik:i=k
  ·subst hik
   rw[hx]at hy;injection hy with hy;subst hy
   rw[if_pos h1]
   exact sb n _ _ (sr _ _)
  ·exact th hx h1 hke n (i+1) _ (by omega) (by omega) hl
theorem mu {l:List (List UInt8)}{s:List UInt8}(h:s∈l):∃i,cW l 0 s=some i:=by
 have:(cW l 0 s).isSome=true:=by rw[nJ];exact List.contains_iff_mem.2 h
 exact Option.isSome_iff_exists.1 this
theorem tk {p:List Ai}(h:aB p=true){f e k:Nat}{ln:Ai}(hI:InF p f e k)(hk:p[k]?=some ln)(hke:k < e):Known p (localsOf p (f:Int)) ln.fac∧(ln.faa=1→∃i,cW (localsOf p (f:Int)) 0 ln.fab=some i):=by
 have h0:=h
 unfold aB at h
 simp only[Bool.and_eq_true,decide_eq_true_eq]at h
 obtain⟨_,_,h2,_,_,h3,h4⟩:=h
 have hS:=jT p
 rw[h3,h4]at hS
 have hlt:∀k e,endAt p k=some e→e≤p.length:=fun k e he=>by obtain⟨_,_,_,_,_,h⟩:=aw he;omega
 have hF:∀k e,endAt p k=some e→gS p k e=true→∀i x,k < i→i < e→p[i]?=some x→x.faa≠0:=fun k e he hf=>by
  rw[iz,Bool.and_eq_true]at hf
  exact ka hf.1 (hlt k e he)
 obtain⟨y,hy,hy0⟩:=hI.fn
 obtain⟨e',he',hf⟩:=jJ hF p.length 0 hS f y (Nat.zero_le _) hy hy0
 rw[hI.en]at he';injection he' with he';subst he'
 rw[iz,Bool.and_eq_true]at hf
 have hf1:=hf.1
 rw[eS,Bool.and_eq_true,decide_eq_true_eq]at hf1
 have hkn:=jU (e - (f+1)) (f+1) 0 (Nat.le_refl _) (hlt f e hI.en) hf1.2 k ln (by have:=hI.lo;omega) hke hk
 unfold aN at hkn
 have hkn:=List.all_eq_true.1 hkn
 refine⟨⟨fun t ht h1=>?_,fun t ht h7=>?_⟩,fun h1=>?_⟩
 ·have:=hkn t ht
  unfold aR at this
  rw[if_pos h1]at this
  exact mu (List.contains_iff_mem.1 this)
 ·have:=hkn t ht
  unfold aR at this
  rw[if_neg (by omega),if_pos h7]at this
  split at this
  ·rename_i g hg
   refine⟨g,hg,?_⟩
   unfold argsN
   split at this
   ·rename_i x hx
    (try rw[hx])
    exact eq_of_beq this
   ·cases this
  ·cases this
 ·refine mu ?_
  unfold localsOf
  rw[if_pos (by omega),Int.toNat_natCast,hy,hI.en]
  dsimp only
  rw[if_pos hy0]
  exact th hk h1 hke _ _ _ (by have:=hI.lo;omega) (Nat.le_refl _) (fun j hj=>by have:=hlt f e hI.en;omega)
abbrev pf (l:List (List UInt8)):AV:= .r (.c (.t (.lst 1 (l.map ah))))
def Rr.val:Rr Int→Int
 | .ok v _=>v
 | _=>0
def Rr.st {α:Type}:Rr α→IS
 | .ok _ s=>s
 | .stop _ s=>s
 | .fuel=>⟨[],[]⟩
def Rr.code {α:Type}:Rr α→Int
 | .ok _ _=>0
 | .stop c _=>c
 | .fuel=>0
abbrev wz (i1 i2 i3:Sim.Id)(p:List Ai)(lim:Int)(calls:List Int)(s:IS)(c:Int):List (Sim.Id×AO):=vR i1 i2 i3 p lim ⟨s.out,s.visits,0,c,calls⟩
structure InV (lim:Int) (calls:List Int) (s:IS):Prop where
 lm:lim≤1000
 vis:(s.visits.length:Int)≤lim
 out:s.out.length≤s.visits.length
 calls:calls.length≤6
theorem InV.ext {lim:Int}{calls:List Int}{s s':IS}(h:InV lim calls s)(hx:Ext lim s s'):InV lim calls s':=⟨h.lm,hx.le h.vis,by have:=hx.ol;have:=h.out;omega,h.calls⟩
noncomputable abbrev cJ (p:List Ai) (lim:Int) (n:Nat) (calls:List Int) (f k:Nat) (vals:List Int) (e:Ex) (s:IS):Rr Int:=evE p (localsOf p (f:Int)) vals (az p lim n calls k) e s
abbrev zb (vals:List Int):List (Sim.Id×AO):=[((0,0,4),.arr false 1 (vals.map ab))]
def yo (p:List Ai)(lim:Int)(n:Nat):Prop:=∀(calls:List Int) (f:Nat) (args:List Int) (s:IS),(∃y,p[f]?=some y∧y.faa=0)→args.length=argsN p f→InV lim calls s→
 aA p lim n calls f (f+1) (bT (localsOf p (f:Int)).length args) s≠.fuel→
 bt Try.prog 28 [.r (.c (.ptr (0,0,0) 0)),tI .i64 (f:Int),.r (.c (.t (.lst 1 (args.map ab))))] (wz (0,0,1) (0,0,2) (0,0,3) p lim calls s 0)
  (tI .i64 (aA p lim n calls f (f+1) (bT (localsOf p (f:Int)).length args) s).val) (wz (1,0,1) (1,0,2) (1,0,3) p lim calls (aA p lim n calls f (f+1) (bT (localsOf p (f:Int)).length args) s).st (aA p lim n calls f (f+1) (bT (localsOf p (f:Int)).length args) s).code)
theorem pj {p:List Ai}{locals:List (List UInt8)}{vals:List Int}{call:fw}:∀{es:List Ex} {s:IS} {c:Int} {s':IS},aF p locals vals call es s= .stop c s'→
  ∃(j:Nat) (a:Ex) (av:List Int) (s1:IS),es[j]?=some a∧aF p locals vals call (es.take j) s= .ok av s1∧evE p locals vals call a s1= .stop c s'
 | [],s,c,s',h=>by rw[aF]at h;cases h
 | b::es,s,c,s',h=>by
  rw[aF]at h
  cases h1:evE p locals vals call b s with
  | ok v s1=>
   rw[h1,Rr.bnd_ok]at h
   cases h2:aF p locals vals call es s1 with
   | ok vs s2=>rw[h2]at h;cases h
   | stop c2 s2=>
    rw[h2]at h
    injection h with e1 e2
    subst e1;subst e2
    obtain⟨j,a,av,s3,q1,q2,q3⟩:=pj h2
    exact⟨j+1,a,v::av,s3,by simpa using q1,by rw[List.take_succ_cons,aF,h1,Rr.bnd_ok,q2];rfl,q3⟩
   | fuel=>rw[h2]at h;cases h
  | stop c2 s1=>
   rw[h1]at h
   injection h with e1 e2
   subst e1;subst e2
   exact⟨0,b,[],s,rfl,by rw[List.take_zero,aF],h1⟩
  | fuel=>rw[h1]at h;cases h
theorem dC {p:List Ai}{locals:List (List UInt8)}{vals:List Int}{call:fw}{es:List Ex}{s:IS}{av:List Int}{s':IS}(h:aF p locals vals call es s= .ok av s')(j:Nat):∃as1 s1,aF p locals vals call (es.take j) s= .ok as1 s1:=by
 cases h1:aF p locals vals call (es.take j) s with
 | ok as1 s1=>exact⟨_,_,rfl⟩
 | stop c s1=>rw[vD h1]at h;cases h
 | fuel=>rw[vt h1]at h;cases h
theorem dI {p:List Ai}{locals:List (List UInt8)}{vals:List Int}{call:fw}{es:List Ex}{s:IS}{as1:List Int}{s1:IS}{j:Nat}{a:Ex}(h1:aF p locals vals call (es.take j) s= .ok as1 s1)(ha:es[j]?=some a){as2:List Int}{s2:IS}(h2:aF p locals vals call (es.take (j+1)) s= .ok as2 s2):
  ∃v,evE p locals vals call a s1= .ok v s2∧as2=as1++[v]:=by
 rw[vX s ha,h1,Rr.bnd_ok]at h2
 cases h3:evE p locals vals call a s1 with
 | ok v s3=>rw[h3,Rr.bnd_ok]at h2;injection h2 with e1 e2;subst e1;subst e2;exact⟨v,rfl,rfl⟩
 | stop c s3=>rw[h3]at h2;cases h2
 | fuel=>rw[h3]at h2;cases h2
def wl (p:List Ai)(lim:Int)(n:Nat)(e:Ex):Prop:=∀(calls:List Int) (f en k pos:Nat) (ln:Ai) (vals:List Int) (s:IS),e.ok→InF p f en k→p[k]?=some ln→gI ln.fac pos e→Known p (localsOf p (f:Int)) ln.fac→vals.length=(localsOf p (f:Int)).length→InV lim calls s→
 cJ p lim n calls f k vals e s≠.fuel→
 ∃x:Int,((∃v s',cJ p lim n calls f k vals e s= .ok v s')→x=((pos+e.toks.length:Nat):Int))∧
 bt Try.prog 60 [.r (.c (.ptr (0,0,0) 0)),tI .i64 (k:Int),tI .i64 (pos:Int),pf (localsOf p (f:Int)),.r (.c (.own (0,0,4)))] (wz (0,0,1) (0,0,2) (0,0,3) p lim calls s 0++zb vals)
  (.tup [.c (.t (.int .i64 (cJ p lim n calls f k vals e s).val)),.c (.t (.int .i64 x))]) (wz (1,0,1) (1,0,2) (1,0,3) p lim calls (cJ p lim n calls f k vals e s).st (cJ p lim n calls f k vals e s).code++zb vals)
theorem nQ {l:List Int}{k:Nat}(h:k < l.length):l[k]?=some (atL l k):=by
 obtain⟨x,hx⟩:=af h
 rw[atL,hx];rfl
theorem mt {p:List Ai}(hp:PgOk p){k:Nat}{ln:Ai}(hk:p[k]?=some ln):eF ln.fac∧ln.fab.length≤1048576:=by
 obtain⟨h1,_,_,_,h5⟩:=cb (cz hp.small (List.mem_of_getElem? hk))
 exact⟨fun t ht=>by have:=h5 t ht;omega,h1⟩
theorem tp {p:List Ai}(hp:PgOk p){lim:Int}{n:Nat}(hP:yo p lim n):∀(m:Nat) (e:Ex),e.toks.length≤m→wl p lim n e
 | 0,e,hn=>by have:=e.toks_pos;omega
 | m+1,.node t es,hn=>by
  intro calls f en k pos ln vals s ho hI hk hs hkn hvl hV hnf
  obtain⟨hsh,hnm⟩:=mt hp hk
  have hle:=iR hs
  obtain⟨ht,hsa⟩:=jL hs
  have htm:=List.mem_of_getElem? ht
  obtain⟨e1,e2⟩:=qb ho.1
  have hel:es.length=ar t:=ho.2.1
  have hA:=kO t (hsh t htm)
  rw[e1,←hel]at hA
  have h60:=hp.len
  have h20:=(hp.line _ _ hk).2.2.2.1
  have hkl:=aU hk
  rw[Ex.toks,List.length_cons]at hn hle
  have hlp:=hV.lm
  have hIH:∀(j:Nat) (a:Ex),es[j]?=some a→wl p lim n a:=fun j a ha=>tp hp hP m a (by have:=jQ ha;omega)
  have hL8:(localsOf p (f:Int)).length≤8:=by obtain⟨y,hy,h0⟩:=hI.fn;obtain⟨_,_,h8,_⟩:=hp.fn f y hy h0;exact h8
  obtain⟨L,hL⟩:∃L,localsOf p (f:Int)=L:=⟨_,rfl⟩
  rw[hL]at hL8 hvl
  have hev:cJ p lim n calls f k vals (.node t es) s=(aF p L vals (az p lim n calls k) es s).bnd fun av s'=>cE p L vals (az p lim n calls k) t av s':=by
   show evE _ _ _ _ _ _=_
   rw[evE,hL]
  have hxt:∀j,ExtR lim s (aF p L vals (az p lim n calls k) (es.take j) s):=fun j=>fO (cX n calls k) _ s
  rw[hev]at hnf ⊢
  cases hR:aF p L vals (az p lim n calls k) es s with
  | fuel=>rw[hR]at hnf;exact absurd rfl hnf
  | stop c s1=>
   obtain⟨j0,a0,as0,s0,q1,q2,q3⟩:=pj hR
   have hj0:=aU q1
   have hx0:=hxt j0
   rw[q2]at hx0
   have hq3:cJ p lim n calls f k vals a0 s0= .stop c s1:=by show evE _ _ _ _ _ _=_;rw[hL];exact q3
   obtain⟨x0,_,g0⟩:=hIH j0 a0 q1 calls f en k (pos+1+(ay (es.take j0)).length) ln vals s0 (cq ho.2.2 q1) hI hk (fA hsa q1) hkn (by rw[hL];exact hvl) (hV.ext hx0) (by rw[hq3];exact fun e=>by cases e)
   rw[hq3,hL]at g0
   refine⟨x0,(fun⟨v,s',h⟩=>by cases h),?_⟩
   rw[Rr.bnd_stop]
   dsimp only[Rr.val,Rr.st,Rr.code]at g0 ⊢
   have hcode:c=1∨c=2:=by have:=fO (p:=p) (locals:=L) (vals:=vals) (cX (p:=p) (lim:=lim) n calls k) es s;rw[hR]at this;exact this.2
   refine aq hΓ au Try.func60 rfl (by decide) rfl rfl ?_
   rw[hL]
   repeat' ((conv=>whnf);first|apply Wx|apply W6|apply oi|(apply fi<;>intro h)|refine⟨k,ln.tr,rfl,aa hk,?_⟩|refine⟨pos,t.tr,rfl,aa ht,?_⟩|refine cl hA ?_|refine⟨_,rfl,?_⟩|exact rfl)
   all_goals try exact⟨KP⟩
   have hz:aF p L vals (az p lim n calls k) (es.take 0) s= .ok [] s:=by rw[List.take_zero,aF]
   conv=>whnf
   refine⟨{q:Nat×List Int×IS // q.1≤j0∧aF p L vals (az p lim n calls k) (es.take q.1) s= .ok q.2.1 q.2.2},fun q=>⟨[(0,.r (.c (.ptr (0,0,0) 0))),(1,tI .i64 (k:Int)),(2,tI .i64 ((pos+1+(ay (es.take q.1.1)).length:Nat):Int)),(3,pf L),(4,.r (.c (.own (0,0,4)))),(12,.r (.c (.ptr (12,0,0) 0))),(13,.r (.c (.own (31,0,0)))),(14,tI .i64 ((es.length - q.1.1:Nat):Int))],
    [((0,0,0),some (.box [.t (.lst 4 (p.map Ai.tr)),.t (.int .i64 lim),.own (12,0,1),.own (12,0,2),.t (.int .i64 0),.t (.int .i64 0),.own (12,0,3)])),((12,0,1),some (.arr false 1 (q.1.2.2.out.map ab))),((12,0,2),some (.dar 1 (ak (q.1.2.2.visits.map aP)) none)),((12,0,3),some (.arr false 1 (calls.map ab))),((0,0,4),some (.arr false 1 (vals.map ab))),((12,0,0),some (.box (t.tr.map .t))),((31,0,0),some (.arr true 1 (q.1.2.1.map ab)))],[31,12,0]⟩,fun q=>es.length - q.1.1,⟨(0,[],s),Nat.zero_le _,hz⟩,?_,?_⟩
   ·skip
    repeat' ((conv=>whnf);first|apply Wx|apply W6|apply oi|(apply fi<;>intro h)|refine⟨_,rfl,?_⟩|exact rfl)
    all_goals try exact⟨KP⟩
    all_goals try exact⟨congrArg (Tr.int _) (by rw[IntWalk.i64_in _ (by omega)];simp[ay])⟩
    all_goals try exact⟨KW⟩
   intro⟨⟨j,aj,sj⟩,hj,hjv⟩
   dsimp only at hj hjv ⊢
   obtain⟨a,ha⟩:=af (l:=es) (k:=j) (by omega)
   have hta:=eh ha
   have htk:=eX es j
   by_cases hlj:j < j0
   ·obtain⟨a2,s2,h2⟩:=dC q2 (j+1)
    rw[List.take_take,Nat.min_eq_left (by omega)]at h2
    obtain⟨v,hv,rfl⟩:=dI hjv ha h2
    have hxj:=hxt j
    rw[hjv]at hxj
    have hva:cJ p lim n calls f k vals a sj= .ok v s2:=by show evE _ _ _ _ _ _=_;rw[hL];exact hv
    obtain⟨x,hx,g⟩:=hIH j a ha calls f en k (pos+1+(ay (es.take j)).length) ln vals sj (cq ho.2.2 ha) hI hk (fA hsa ha) hkn (by rw[hL];exact hvl) (hV.ext hxj) (by rw[hva];exact fun e=>by cases e)
    have hal:=cP hjv
    rw[List.length_take]at hal
    obtain rfl:=hx ⟨v,s2,hva⟩
    rw[hva,hL]at g
    dsimp only[Rr.val,Rr.st,Rr.code]at g
    repeat' ((conv=>whnf);first|apply Wx|apply W6|apply oi|(apply fi<;>intro h)|refine⟨_,rfl,?_⟩|exact rfl)
    all_goals try exact⟨KP⟩
    all_goals try exact KX
    refine cg (g) ?_
    repeat' ((conv=>whnf);first|apply Wx|apply W6|apply oi|(apply fi<;>intro h)|refine⟨_,rfl,?_⟩|exact rfl)
    all_goals try exact⟨KP⟩
    all_goals try exact KX
    all_goals try exact⟨⟨by simp <;> omega,by simp <;> omega⟩⟩
    conv=>whnf
    refine⟨⟨(j+1,aj++[v],s2),by dsimp only;omega,h2⟩,?_,KD⟩
    repeat' ((conv=>whnf);first|apply Wx|apply W6|apply oi|(apply fi<;>intro h)|refine⟨_,rfl,?_⟩|exact rfl)
    all_goals try exact⟨KP⟩
    all_goals try exact⟨KW⟩
    all_goals exact⟨by simp[ab]⟩
   ·obtain rfl:j=j0:=by omega
    rw[hjv]at q2
    injection q2 with q2 q4
    subst q2;subst q4
    repeat' ((conv=>whnf);first|apply Wx|apply W6|apply oi|(apply fi<;>intro h)|refine⟨_,rfl,?_⟩|exact rfl)
    all_goals try exact⟨KP⟩
    all_goals try exact KX
    refine cg (g0) ?_
    repeat' ((conv=>whnf);first|apply Wx|apply W6|apply oi|(apply fi<;>intro h)|refine⟨_,rfl,?_⟩|exact rfl)
    all_goals try exact⟨KP⟩
    all_goals try exact KX
    all_goals try(exfalso;simp at h;omega)
  | ok av s1=>
   rw[hR,Rr.bnd_ok]at hnf
   rw[Rr.bnd_ok]
   have hxR:=hxt es.length
   rw[List.take_length,hR]at hxR
   have hV1:=hV.ext hxR
   have hav:=cP hR
   refine⟨((pos+(Ex.node t es).toks.length:Nat):Int),fun _=>rfl,?_⟩
   refine aq hΓ au Try.func60 rfl (by decide) rfl rfl ?_
   rw[hL]
   have hT:(Ex.node t es).toks.length=(ay es).length+1:=by rw[Ex.toks,List.length_cons]
   rw[hT]
   repeat' ((conv=>whnf);first|apply Wx|apply W6|apply oi|(apply fi<;>intro h)|refine⟨k,ln.tr,rfl,aa hk,?_⟩|refine⟨pos,t.tr,rfl,aa ht,?_⟩|refine cl hA ?_|refine⟨_,rfl,?_⟩|exact rfl)
   all_goals try exact⟨KP⟩
   have hz:aF p L vals (az p lim n calls k) (es.take 0) s= .ok [] s:=by rw[List.take_zero,aF]
   conv=>whnf
   refine⟨{q:Nat×List Int×IS // q.1≤es.length∧aF p L vals (az p lim n calls k) (es.take q.1) s= .ok q.2.1 q.2.2},fun q=>⟨[(0,.r (.c (.ptr (0,0,0) 0))),(1,tI .i64 (k:Int)),(2,tI .i64 ((pos+1+(ay (es.take q.1.1)).length:Nat):Int)),(3,pf L),(4,.r (.c (.own (0,0,4)))),(12,.r (.c (.ptr (12,0,0) 0))),(13,.r (.c (.own (31,0,0)))),(14,tI .i64 ((es.length - q.1.1:Nat):Int))],
    [((0,0,0),some (.box [.t (.lst 4 (p.map Ai.tr)),.t (.int .i64 lim),.own (12,0,1),.own (12,0,2),.t (.int .i64 0),.t (.int .i64 0),.own (12,0,3)])),((12,0,1),some (.arr false 1 (q.1.2.2.out.map ab))),((12,0,2),some (.dar 1 (ak (q.1.2.2.visits.map aP)) none)),((12,0,3),some (.arr false 1 (calls.map ab))),((0,0,4),some (.arr false 1 (vals.map ab))),((12,0,0),some (.box (t.tr.map .t))),((31,0,0),some (.arr true 1 (q.1.2.1.map ab)))],[31,12,0]⟩,fun q=>es.length - q.1.1,⟨(0,[],s),Nat.zero_le _,hz⟩,?_,?_⟩
   ·skip
    repeat' ((conv=>whnf);first|apply Wx|apply W6|apply oi|(apply fi<;>intro h)|refine⟨_,rfl,?_⟩|exact rfl)
    all_goals try exact⟨KP⟩
    all_goals try exact⟨congrArg (Tr.int _) (by rw[IntWalk.i64_in _ (by omega)];simp[ay])⟩
    all_goals try exact⟨KW⟩
   intro⟨⟨j,aj,sj⟩,hj,hjv⟩
   dsimp only at hj hjv ⊢
   have htk:=eX es j
   by_cases hlj:j < es.length
   ·obtain⟨a,ha⟩:=af hlj
    have hta:=eh ha
    obtain⟨a2,s2,h2⟩:=dC hR (j+1)
    obtain⟨v,hv,rfl⟩:=dI hjv ha h2
    have hxj:=hxt j
    rw[hjv]at hxj
    have hva:cJ p lim n calls f k vals a sj= .ok v s2:=by show evE _ _ _ _ _ _=_;rw[hL];exact hv
    obtain⟨x,hx,g⟩:=hIH j a ha calls f en k (pos+1+(ay (es.take j)).length) ln vals sj (cq ho.2.2 ha) hI hk (fA hsa ha) hkn (by rw[hL];exact hvl) (hV.ext hxj) (by rw[hva];exact fun e=>by cases e)
    have hal:=cP hjv
    rw[List.length_take]at hal
    obtain rfl:=hx ⟨v,s2,hva⟩
    rw[hva,hL]at g
    dsimp only[Rr.val,Rr.st,Rr.code]at g
    repeat' ((conv=>whnf);first|apply Wx|apply W6|apply oi|(apply fi<;>intro h)|refine⟨_,rfl,?_⟩|exact rfl)
    all_goals try exact⟨KP⟩
    all_goals try exact KX
    refine cg (g) ?_
    repeat' ((conv=>whnf);first|apply Wx|apply W6|apply oi|(apply fi<;>intro h)|refine⟨_,rfl,?_⟩|exact rfl)
    all_goals try exact⟨KP⟩
    all_goals try exact KX
    all_goals try exact⟨⟨by simp <;> omega,by simp <;> omega⟩⟩
    conv=>whnf
    refine⟨⟨(j+1,aj++[v],s2),by dsimp only;omega,h2⟩,?_,KD⟩
    repeat' ((conv=>whnf);first|apply Wx|apply W6|apply oi|(apply fi<;>intro h)|refine⟨_,rfl,?_⟩|exact rfl)
    all_goals try exact⟨KP⟩
    all_goals try exact⟨KW⟩
    all_goals exact⟨by simp[ab]⟩
   ·obtain rfl:j=es.length:=by omega
    rw[List.take_length]at hjv ⊢
    rw[hR]at hjv
    injection hjv with e3 e4
    subst e3;subst e4
    obtain⟨ak0,ak7,ak2⟩:=uY ho.1
    rcases pH ho.1 with h0|h1|h7|h2
    ·have hf:cE p L vals (az p lim n calls k) t av s1= .ok t.fae s1:=by rw[cE,if_pos h0]
     rw[hf]
     dsimp only[Rr.val,Rr.st,Rr.code]
     repeat' ((conv=>whnf);first|apply Wx|apply W6|apply oi|(apply fi<;>intro h)|refine⟨_,rfl,?_⟩|exact rfl)
     all_goals try exact⟨KP⟩
     all_goals try exact KX
     all_goals try(exfalso;simp_all;done)
     all_goals try exact⟨KW⟩
    ·obtain⟨i,hi⟩:=hkn.var t htm h1
     rw[hL]at hi
     have hix:=gd hi
     have hIx:=cS L t.fab (by omega)
     rw[show dB L t.fab=(i:Int) by rw[dB,hi];rfl]at hIx
     have hvi:vals[i]?=some (atL vals i):=nQ (by rw[hvl];omega)
     have hgv:(vals.map ab)[i]?=some (ab (atL vals i)):=by rw[List.getElem?_map,hvi];rfl
     have hil:i < (vals.map ab).length:=by rw[List.length_map,hvl];omega
     have hf:cE p L vals (az p lim n calls k) t av s1= .ok (atL vals i) s1:=by rw[cE,if_neg (by omega),if_pos h1,xA,hi]
     rw[hf]
     dsimp only[Rr.val,Rr.st,Rr.code]
     repeat' ((conv=>whnf);first|apply Wx|apply W6|apply oi|(apply fi<;>intro h)|refine cl hIx ?_|refine⟨i,rfl,hil,?_⟩|refine⟨_,hgv,?_⟩|refine⟨_,rfl,?_⟩|exact rfl)
     all_goals try exact⟨KP⟩
     all_goals try exact KX
     all_goals try(exfalso;simp_all;done)
     all_goals try exact⟨KW⟩
    ·obtain⟨g,hg1,hg2⟩:=hkn.call t htm h7
     have hFF:=bO p t.fab (by omega)
     rw[show cA p t.fab=(g:Int) by rw[cA,hg1];rfl]at hFF
     obtain⟨hgl,y,hy,hy0,_⟩:=dF hg1
     have hf:cE p L vals (az p lim n calls k) t av s1=az p lim n calls k g av s1:=by rw[cE,if_neg (by omega),if_neg (by omega),if_pos h7,hg1];rfl
     rw[hf]at hnf ⊢
     have hcl:(calls.map ab).length=calls.length:=by simp
     by_cases h6:calls.length=6
     ·have hc6:az p lim n calls k g av s1= .stop 2 s1:=by rw[az,if_pos h6]
      rw[hc6]
      dsimp only[Rr.val,Rr.st,Rr.code]
      repeat' ((conv=>whnf);first|apply Wx|apply W6|apply oi|(apply fi<;>intro h)|refine⟨_,rfl,?_⟩|exact rfl)
      all_goals try exact⟨KP⟩
      all_goals try exact KX
      all_goals try(exfalso;simp_all;done)
      all_goals try exact⟨KW⟩
     ·have hc6:az p lim n calls k g av s1=aA p lim n (calls++[(k:Int)]) g (g+1) (bT (localsOf p (g:Int)).length av) s1:=by rw[az,if_neg h6]
      rw[hc6]at hnf ⊢
      have hcalls:=hV1.calls
      have gp:=hP (calls++[(k:Int)]) g av s1 ⟨y,hy,hy0⟩ (by have:=ak7 h7;omega) ⟨hV1.lm,hV1.vis,hV1.out,by rw[List.length_append];simp;omega⟩ hnf
      generalize aA p lim n (calls++[(k:Int)]) g (g+1) (bT (localsOf p (g:Int)).length av) s1=R at *
      repeat' ((conv=>whnf);first|(with_reducible apply W1;fail_if_success (with_reducible show Wo _ _ _ _ (Code.region 22 _ _) _ _))|(with_reducible first|apply W2|apply W3|apply W4|apply W5|apply W6|apply W7|apply W8|apply W9)|apply bB|apply oi|(apply fi<;>intro h)|refine⟨_,rfl,?_⟩|exact rfl)
      all_goals try exact⟨KP⟩
      all_goals try exact KX
      all_goals try(exfalso;rw[hcl]at h;simp at h;omega)
      all_goals try(exfalso;simp_all;done)
      all_goals try exact⟨⟨by simp <;> omega,by simp <;> omega⟩⟩
      all_goals try exact⟨da _⟩
      conv=>whnf
      refine eI ⟨[(0,.r (.c (.ptr (0,0,0) 0))),(2,tI .i64 ((pos+1+(ay es).length:Nat):Int)),(12,.r (.c (.ptr (12,0,0) 0))),(13,.r (.c (.t (.lst 1 (av.map ab)))))],
       [((0,0,0),some (.box [.t (.lst 4 (p.map Ai.tr)),.t (.int .i64 lim),.own (12,0,1),.own (12,0,2),.t (.int .i64 0),.t (.int .i64 0),.own (96,0,0)])),((96,0,0),some (.arr false 1 (calls.map ab++[[.int .i64 (k:Int)]]))),((12,0,1),some (.arr false 1 (s1.out.map ab))),((12,0,2),some (.dar 1 (ak (s1.visits.map aP)) none)),((0,0,4),some (.arr false 1 (vals.map ab))),((12,0,0),some (.box (t.tr.map .t)))],[96,95,31,12,0]⟩ ?_ ?_ rfl ?_
      ·refine⟨.inl rfl,.inl rfl,.inl rfl,.inr ⟨_,_,rfl,rfl,rfl,?_⟩,trivial⟩
       intro q hq;simp only[AC.ids,List.mem_cons,List.not_mem_nil,or_false]at hq;subst hq;rfl
      ·exact⟨.inr rfl,.inr rfl,.inr rfl,.inr rfl,.inr rfl,.inr rfl,trivial⟩
      have ec:(calls++[(k:Int)]).map ab=calls.map ab++[[.int .i64 (k:Int)]]:=by simp[ab]
      simp only[wz,vR]at gp
      rw[ec]at gp
      have htk2:(calls.map ab++[[Tr.int .i64 (k:Int)]]).length=calls.length+1:=by simp
      have hw2:IntKind.i64.wrap (((calls.map ab++[[Tr.int .i64 (k:Int)]]).length:Int) - 1)=(calls.length:Int):=by rw[htk2,IntWalk.i64_in _ (by omega)];omega
      repeat' ((conv=>whnf);first|apply Wx|apply W6|apply oi|(apply fi<;>intro h)|refine cl hFF ?_|refine⟨_,rfl,?_⟩|exact rfl)
      all_goals try exact⟨KP⟩
      have htk3:calls.length≤(calls.map ab++[[Tr.int .i64 (k:Int)]]).length:=by omega
      have htk4:(calls.map ab++[[Tr.int .i64 (k:Int)]]).take calls.length=calls.map ab:=by rw[List.take_append_of_le_length (by simp),List.take_of_length_le (by simp)]
      refine cg (gp) ?_
      repeat' ((conv=>whnf);first|apply Wx|apply W6|apply oi|(apply fi<;>intro h)|refine⟨calls.length,hw2,htk3,?_⟩|refine⟨_,rfl,?_⟩|exact rfl)
      all_goals try exact⟨KP⟩
      all_goals try exact⟨KW⟩
      all_goals try exact⟨htk4⟩
      all_goals exact⟨htk3⟩
    ·have hf2:=ak2 h2.1 h2.2
     obtain⟨x,y,rfl⟩:∃x y,av=[x,y]:=by
      match av,hav with
      | [x,y],_=>exact⟨x,y,rfl⟩
      | [],h=>simp at h;omega
      | [_],h=>simp at h;omega
      | _::_::_::_,h=>simp at h;omega
     have hAp:=rD t.faa x y
     have hf:cE p L vals (az p lim n calls k) t [x,y] s1= .ok (gY t.faa x y) s1:=by rw[cE,if_neg (by omega),if_neg (by omega),if_neg (by omega)];rfl
     rw[hf]
     dsimp only[Rr.val,Rr.st,Rr.code]
     repeat' ((conv=>whnf);first|apply Wx|apply W6|apply oi|(apply fi<;>intro h)|refine cl hAp ?_|refine⟨0,rfl,(by simp),?_⟩|refine⟨1,rfl,(by simp),?_⟩|refine⟨_,rfl,?_⟩|exact rfl)
     all_goals try exact⟨KP⟩
     all_goals try exact KX
     all_goals try(exfalso;simp_all;done)
     all_goals try exact⟨KW⟩
def ky (p:List Ai)(k:Nat)(l:List Int):List Int:=
 let l1:=match endAt p k with|some e=>l.set e k|none=>l
 match elseAt p k with|some e=>l1.set e k|none=>l1
def dy (p:List Ai):Nat→List Int
 | 0=>List.replicate p.length 0
 | n+1=>ky p n (dy p n)
theorem kl (p:List Ai):∀n,(dy p n).length=p.length
 | 0=>by simp[dy]
 | n+1=>by
  rw[dy,ky]
  have:=kl p n
  cases endAt p n <;> cases elseAt p n <;> simp[this]
theorem kH {p:List Ai}{i k:Nat}(h:endAt p i=some k∨elseAt p i=some k)(hk:k < p.length):∀n,i < n→(dy p n)[k]?=some (i:Int)
 | 0,hn=>by omega
 | n+1,hn=>by
  have hl:=kl p n
  rw[dy,ky]
  by_cases hin:i=n
  ·subst hin
   rcases h with h|h
   ·rw[h]
    dsimp only
    cases he:elseAt p i with
    | none=>dsimp only;rw[List.getElem?_set_self (by omega)]
    | some m=>
     dsimp only
     by_cases hm:m=k
     ·subst hm;rw[List.getElem?_set_self (by simp;omega)]
     ·rw[List.getElem?_set_ne hm,List.getElem?_set_self (by omega)]
   ·rw[h]
    dsimp only
    rw[List.getElem?_set_self (by cases endAt p i <;> simp <;> omega)]
  ·have ih:=kH h hk n (by omega)
   have own:∀m,(endAt p n=some m∨elseAt p n=some m)→m≠k:=by
    intro m hm e
    subst e
    have h1:aD p m=i:=by rcases h with h|h;exact ni h;exact nN h
    have h2:aD p m=n:=by rcases hm with h|h;exact ni h;exact nN h
    exact hin (h1.symm.trans h2)
   have key:((match endAt p n with|some e=>(dy p n).set e (n:Int)|none=>dy p n):List Int)[k]?=some (i:Int):=by
    cases he:endAt p n with
    | none=>exact ih
    | some m=>dsimp only;rw[List.getElem?_set_ne (own m (.inl he))];exact ih
   cases he:elseAt p n with
   | none=>exact key
   | some m=>dsimp only;rw[List.getElem?_set_ne (own m (.inr he))];exact key
theorem pz (p:List Ai)(h60:p.length≤60):Sim.Spec Try.prog 32 [tvP p] (rL 1 ((dy p p.length).map ab)):=by
 refine eY hΓ au Try.func32 rfl (by decide) rfl ?_
 have hpl:(p.map Ai.tr).length=p.length:=by simp
 have hm1:(((p.map Ai.tr).length:Nat):Int)=(p.length:Int):=by rw[hpl]
 have hm2:p.length≤9223372036854775807:=by omega
 have hm3:p.length * 8≤140737488355328:=by omega
 repeat' ((conv=>whnf);first|apply Wx|apply W6|apply oi|(apply fi<;>intro h)|refine⟨p.length,hm1,hm1,hm2,hm3,?_⟩|refine⟨_,rfl,?_⟩|exact rfl)
 all_goals try exact⟨KP⟩
 conv=>whnf
 refine⟨{k:Nat // k≤p.length},fun q=>⟨[(0,vP p),(3,.r (.c (.own (3,0,0)))),(11,tI .i64 ((p.map Ai.tr).length:Int)),(12,tI .i64 (q.1:Int))],[((3,0,0),some (.arr true 1 ((dy p q.1).map ab)))],[3]⟩,fun q=>p.length - q.1,⟨0,by omega⟩,?_,?_⟩
 ·skip
  repeat' ((conv=>whnf);first|apply Wx|apply W6|apply oi|(apply fi<;>intro h)|refine⟨_,rfl,?_⟩|exact rfl)
  all_goals try exact⟨KP⟩
  all_goals exact⟨by simp[dy,ab]⟩
 intro⟨k,hk⟩
 dsimp only at hk ⊢
 by_cases hlt:k < p.length
 ·have gE:=bF p (k:Int) (by omega)
  have gL:=fG p (k:Int) (by omega)
  have hol:=kl p k
  have hml:((dy p k).map ab).length=p.length:=by rw[List.length_map,hol]
  rw[aG]at gE
  rw[db]at gL
  have hst:dy p (k+1)=ky p k (dy p k):=rfl
  have br:∀{l:List Int} {e:Nat},e < l.length→∃v,(l.map ab)[e]?=some (ab v):=fun{l e} he=>⟨l[e],by rw[List.getElem?_map,List.getElem?_eq_getElem he];rfl⟩
  have hset:∀(l:List Int) (e:Nat),(l.map ab).set e [.int .i64 (k:Int)]=(l.set e (k:Int)).map ab:=fun l e=>by simp[List.map_set,ab]
  rw[ky]at hst
  cases he:endAt p k with
  | none=>
   rw[he]at gE hst
   cases hl:elseAt p k with
   | none=>
    rw[hl]at gL hst
    dsimp only at hst
    repeat' ((conv=>whnf);first|apply Wx|apply W6|apply oi|(apply fi<;>intro h)|refine cl gE ?_|refine cl gL ?_|refine⟨_,rfl,?_⟩|exact rfl)
    all_goals try exact⟨KP⟩
    all_goals try exact KX
    all_goals try(exfalso;simp[bM]at h;done)
    conv=>whnf
    refine⟨⟨k+1,by omega⟩,?_,KD⟩
    repeat' ((conv=>whnf);first|apply Wx|apply W6|apply oi|(apply fi<;>intro h)|refine⟨_,rfl,?_⟩|exact rfl)
    all_goals try exact⟨KP⟩
    all_goals try exact⟨KW⟩
    all_goals exact⟨by dsimp only;rw[hst]⟩
   | some m=>obtain⟨_,_,_,_,h,_⟩:=aL hl;rw[he]at h;cases h
  | some e=>
   obtain⟨_,_,_,_,_,hel⟩:=aw he
   have hel2:e < ((dy p k).map ab).length:=by omega
   obtain⟨v,hv⟩:=br (l:=dy p k) (e:=e) (by omega)
   rw[he]at gE hst
   cases hl:elseAt p k with
   | none=>
    rw[hl]at gL hst
    dsimp only at hst
    repeat' ((conv=>whnf);first|apply Wx|apply W6|apply oi|(apply fi<;>intro h)|refine cl gE ?_|refine cl gL ?_|refine⟨e,rfl,hel2,?_⟩|refine⟨_,hv,?_⟩|refine⟨_,rfl,?_⟩|exact rfl)
    all_goals try exact⟨KP⟩
    all_goals try exact KX
    all_goals try(exfalso;simp[bM]at h;done)
    all_goals try(exfalso;rename_i h0;simp[bM]at h0;done)
    conv=>whnf
    refine⟨⟨k+1,by omega⟩,?_,KD⟩
    repeat' ((conv=>whnf);first|apply Wx|apply W6|apply oi|(apply fi<;>intro h)|refine⟨_,rfl,?_⟩|exact rfl)
    all_goals try exact⟨KP⟩
    all_goals try exact⟨KW⟩
    all_goals exact⟨by dsimp only;rw[hst,hset]⟩
   | some m=>
    obtain⟨_,_,_,_,_,_,hmm,z,hz,_⟩:=aL hl
    have hml2:=aU hz
    have hml3:m < (((dy p k).set e (k:Int)).map ab).length:=by simp;omega
    obtain⟨v2,hv2⟩:=br (l:=(dy p k).set e (k:Int)) (e:=m) (by simp;omega)
    rw[←hset]at hml3 hv2
    rw[hl]at gL hst
    dsimp only at hst
    repeat' ((conv=>whnf);first|apply Wx|apply W6|apply oi|(apply fi<;>intro h)|refine cl gE ?_|refine cl gL ?_|refine⟨e,rfl,hel2,?_⟩|refine⟨_,hv,?_⟩|refine⟨m,rfl,hml3,?_⟩|refine⟨_,hv2,?_⟩|refine⟨_,rfl,?_⟩|exact rfl)
    all_goals try exact⟨KP⟩
    all_goals try exact KX
    all_goals try(exfalso;simp[bM]at h;done)
    all_goals try(exfalso;rename_i h0;simp[bM]at h0;done)
    conv=>whnf
    refine⟨⟨k+1,by omega⟩,?_,KD⟩
    repeat' ((conv=>whnf);first|apply Wx|apply W6|apply oi|(apply fi<;>intro h)|refine⟨_,rfl,?_⟩|exact rfl)
    all_goals try exact⟨KP⟩
    all_goals try exact⟨KW⟩
    all_goals exact⟨by dsimp only;rw[hst,hset,hset]⟩
 ·have hke:k=p.length:=by omega
  subst hke
  repeat' ((conv=>whnf);first|apply Wx|apply W6|apply oi|(apply fi<;>intro h)|refine⟨_,rfl,?_⟩|exact rfl)
  all_goals try exact⟨KP⟩
  all_goals try exact KX
abbrev kS (s:List UInt8):Tr:= .str s
theorem keyS_iff {s:List UInt8}{q:Tr}:bL (kS s) q=true↔q=kS s:=by
 cases q with
 | str a=>
  constructor
  ·intro h
   have:s=a:=eq_of_beq h
   rw[this]
  ·intro h
   injection h with h
   subst h
   exact beq_self_eq_true _
 | _=>
  constructor
  ·intro h;cases h
  ·intro h;cases h
theorem jE (v:Int)(s:List UInt8):∀es:List (Tr×Int),cN (er es (kS s) v) (kS s)=some v
 | []=>by
  show bS (bL (kS s)) [(kS s,v)]=_
  rw[bS,keyS_iff.2 rfl];rfl
 |(q,x)::es=>by
  have ih:=jE v s es
  show bS (bL (kS s)) (eM (bL (kS s)) (kS s) v ((q,x)::es))=_
  rw[eM]
  cases hb:bL (kS s) q with
  | true=>rw[show(bif true then(q,v)::es else(q,x)::eM (bL (kS s)) (kS s) v es)=(q,v)::es from rfl,bS,hb];rfl
  | false=>rw[show(bif false then(q,v)::es else(q,x)::eM (bL (kS s)) (kS s) v es)=(q,x)::eM (bL (kS s)) (kS s) v es from rfl,bS,hb];exact ih
theorem fm {s s':List UInt8}(h:s≠s')(v:Int):∀es:List (Tr×Int),cN (er es (kS s) v) (kS s')=cN es (kS s')
 | []=>by
  show bS (bL (kS s')) [(kS s,v)]=bS _ []
  rw[bS,bS]
  cases hb:bL (kS s') (kS s)with
  | true=>exact absurd (by have:=keyS_iff.1 hb;injection this) h
  | false=>rfl
 |(q,x)::es=>by
  have ih:=fm h v es
  show bS (bL (kS s')) (eM (bL (kS s)) (kS s) v ((q,x)::es))=bS (bL (kS s')) ((q,x)::es)
  rw[eM]
  cases hb:bL (kS s) q with
  | true=>
   rw[show(bif true then(q,v)::es else(q,x)::eM (bL (kS s)) (kS s) v es)=(q,v)::es from rfl,bS,bS]
   cases hb2:bL (kS s') q with
   | true=>exact absurd (by have h1:=keyS_iff.1 hb;have h2:=keyS_iff.1 hb2;rw[h1]at h2;injection h2) h
   | false=>rfl
  | false=>
   rw[show(bif false then(q,v)::es else(q,x)::eM (bL (kS s)) (kS s) v es)=(q,x)::eM (bL (kS s)) (kS s) v es from rfl,bS,bS]
   cases bL (kS s') q with
   | true=>rfl
   | false=>exact ih
theorem qL {l:List (List UInt8)}:∀{n i:Nat} {s:List UInt8},cW l n s=some i→n≤i∧l[i - n]?=some s:=by
 induction l with
 | nil=>intro n i s h;rw[cW]at h;cases h
 | cons x l ih=>
  intro n i s h
  rw[cW]at h
  split at h
  ·rename_i hx
   injection h with h
   subst h
   exact⟨Nat.le_refl _,by rw[Nat.sub_self,List.getElem?_cons_zero,eq_of_beq hx]⟩
  ·obtain⟨h1,h2⟩:=ih h
   exact⟨by omega,by rw[show i - n=(i - (n+1))+1 by omega,List.getElem?_cons_succ];exact h2⟩
theorem um {l:List (List UInt8)}:∀{n i:Nat} {s:List UInt8},cW l n s=some i→∀j,n≤j→j < i→l[j - n]?≠some s:=by
 induction l with
 | nil=>intro n i s h;rw[cW]at h;cases h
 | cons x l ih=>
  intro n i s h j h1 h2
  rw[cW]at h
  split at h
  ·injection h with h;omega
  ·rename_i hx
   rcases Nat.eq_or_lt_of_le h1 with rfl|hlt
   ·rw[Nat.sub_self,List.getElem?_cons_zero]
    intro e
    injection e with e
    exact hx (by rw[e];simp)
   ·rw[show j - n=(j - (n+1))+1 by omega,List.getElem?_cons_succ]
    exact ih h j (by omega) h2
def VarsM (L:List (List UInt8))(vals:List Int)(es:List (Tr×Int)):Prop:=∀(i:Nat) (nm:List UInt8),cW L 0 nm=some i→jr (cN es (kS nm))=atL vals i
theorem yT {l:List Int}{i j:Nat}{v:Int}(hi:i < l.length):atL (l.set i v) j=if j=i then v else atL l j:=by
 unfold atL
 rw[List.getElem?_set]
 by_cases h:i=j
 ·subst h
  rw[if_pos rfl,if_pos hi,if_pos rfl];rfl
 ·rw[if_neg h,if_neg (fun e=>h e.symm)]
theorem VarsM.set {L:List (List UInt8)}{vals:List Int}{es:List (Tr×Int)}(h:VarsM L vals es){nm:List UInt8}{i:Nat}(hi:cW L 0 nm=some i)(hl:i < vals.length)(v:Int):VarsM L (vals.set i v) (er es (kS nm) v):=by
 intro j nm' hj
 rw[yT hl]
 by_cases e:nm=nm'
 ·subst e
  rw[hi]at hj
  injection hj with hj
  rw[if_pos hj.symm,jE]
  rfl
 ·rw[fm e,h j nm' hj,if_neg]
  intro e2
  subst e2
  have h1:=(qL hi).2
  have h2:=(qL hj).2
  rw[h1]at h2
  injection h2 with h2
  exact e h2
def FillM (A:List (List UInt8))(args:List Int)(k:Nat)(es:List (Tr×Int)):Prop:=(∀i nm,i < k→A[i]?=some nm→jr (cN es (kS nm))=atL args i)∧∀nm,nm∉A.take k→jr (cN es (kS nm))=0
theorem FillM.zero (A:List (List UInt8))(args:List Int):FillM A args 0 []:=⟨fun i nm h=>by omega,fun nm _=>rfl⟩
theorem qa {l:List (List UInt8)}:∀(n k:Nat),lS l n k=true→∀(i j:Nat) (s:List UInt8),i < j→k≤j→j < k+n→l[j]?=some s→l[i]?≠some s
 | 0,k,_,i,j,s,_,h1,h2,_=>by omega
 | n+1,k,h,i,j,s,hij,h1,h2,hj=>by
  rw[lS]at h
  split at h
  ·rename_i t ht
   split at h
   ·rename_i hc
    rcases Nat.eq_or_lt_of_le h1 with rfl|hlt
    ·rw[ht]at hj
     injection hj with hj
     subst hj
     intro hi
     have hm:t∈l.take k:=by
      rw[List.mem_iff_getElem?]
      exact⟨i,by rw[List.getElem?_take,if_pos hij];exact hi⟩
     have:=hc.2
     rw[List.contains_iff_mem.2 hm]at this
     cases this
    ·exact qa n (k+1) h i j s hij (by omega) (by omega) hj
   ·cases h
  ·rename_i ht
   rw[List.getElem?_eq_none_iff]at ht
   have:j < l.length:=by
    rcases Nat.lt_or_ge j l.length with h'|h'
    ·exact h'
    ·rw[List.getElem?_eq_none h']at hj;cases hj
   omega
theorem qP {l:List (List UInt8)}(h:di l=true){i j:Nat}{s:List UInt8}(hij:i < j)(hj:l[j]?=some s):l[i]?≠some s:=by
 unfold di at h
 rw[Bool.and_eq_true]at h
 have hl:j < l.length:=by
  rcases Nat.lt_or_ge j l.length with h'|h'
  ·exact h'
  ·rw[List.getElem?_eq_none h']at hj;cases hj
 exact qa l.length 0 h.1 i j s hij (by omega) (by omega) hj
theorem FillM.step {A:List (List UInt8)}{args:List Int}{k:Nat}{es:List (Tr×Int)}(hA:di A=true)(h:FillM A args k es){nm:List UInt8}(hk:A[k]?=some nm):FillM A args (k+1) (er es (kS nm) (atL args k)):=by
 obtain⟨h1,h2⟩:=h
 refine⟨fun i nm' hi hn=>?_,fun nm' hn=>?_⟩
 ·by_cases e:i=k
  ·subst e
   rw[hk]at hn
   injection hn with hn
   subst hn
   rw[jE];rfl
  ·rw[fm (fun e2=>by subst e2;exact qP hA (show i < k by omega) hk hn)]
   exact h1 i nm' (by omega) hn
 ·rw[List.take_add_one,hk]at hn
  simp only[Option.toList,List.mem_append,List.mem_singleton,not_or]at hn
  rw[fm (fun e=>hn.2 e.symm)]
  exact h2 nm' hn.1
theorem mE {l:List Ai}{e:Nat}:∀(n i:Nat) (acc:List (List UInt8)),acc <+:locN l e n i acc
 | 0,_,acc=>by rw[locN];exact List.prefix_refl _
 | n+1,i,acc=>by
  rw[locN]
  split
  ·split
   ·refine List.IsPrefix.trans ?_ (mE n _ _)
    split
    ·unfold cI
     split
     ·exact List.prefix_refl _
     ·exact List.prefix_append _ _
    ·exact List.prefix_refl _
   ·exact List.prefix_refl _
  ·exact List.prefix_refl _
theorem pr {p:List Ai}{f e:Nat}{y:Ai}(hy:p[f]?=some y)(h0:y.faa=0)(he:endAt p f=some e):y.fad <+:localsOf p (f:Int):=by
 rw[localsOf,if_pos (by omega),Int.toNat_natCast,hy,he]
 dsimp only
 rw[if_pos h0]
 exact mE _ _ _
theorem FillM.vars {A L:List (List UInt8)}{args:List Int}{es:List (Tr×Int)}(h:FillM A args A.length es)(hp:A <+:L)(hl:args.length=A.length):VarsM L (bT L.length args) es:=by
 obtain⟨t,rfl⟩:=hp
 intro i nm hi
 have h1:=(qL hi).2
 rw[Nat.sub_zero]at h1
 by_cases hlt:i < A.length
 ·rw[List.getElem?_append_left hlt]at h1
  rw[h.1 i nm hlt h1,bT]
  unfold atL
  rw[List.getElem?_append_left (by omega)]
 ·rw[h.2 nm]
  ·have hil:i < (A++t).length:=by
    rcases Nat.lt_or_ge i (A++t).length with h'|h'
    ·exact h'
    ·rw[List.getElem?_eq_none h']at h1;cases h1
   rw[bT]
   unfold atL
   rw[List.getElem?_append_right (by omega),List.getElem?_replicate,if_pos (by omega)]
   rfl
  ·rw[List.take_length]
   intro hm
   obtain⟨j,hj⟩:=List.mem_iff_getElem?.1 hm
   have hjl:j < A.length:=by
    rcases Nat.lt_or_ge j A.length with h'|h'
    ·exact h'
    ·rw[List.getElem?_eq_none h']at hj;cases hj
   exact um hi j (by omega) (by omega) (by rw[Nat.sub_zero,List.getElem?_append_left hjl];exact hj)
abbrev gV (c:Int):Value:= .iface 67 (.agg #[.int .i64 c])
abbrev rnB (p:List Ai)(lim:Int)(i1 i2 i3:Sim.Id):AO:= .box [.t (.lst 4 (p.map Ai.tr)),.t (.int .i64 lim),.own i3,.own i1,.own i2,.t (.int .i64 0),.t (.int .i64 0),.t (.lst 1 ((dy p p.length).map ab))]
abbrev rnH (i1 i2 i3:Sim.Id)(p:List Ai)(lim:Int)(calls:List Int)(s:IS):List (Sim.Id×AO):=[((0,0,0),rnB p lim i1 i2 i3),(i1,.arr false 1 (s.out.map ab)),(i2,.dar 1 (ak (s.visits.map aP)) none),(i3,.arr false 1 (calls.map ab))]
theorem rq (p:List Ai)(lim k:Int)(calls:List Int)(s:IS)(h0:(s.visits.length:Int)=lim):pO Try.prog 72 [.r (.c (.ptr (0,0,0) 0)),tI .i64 k] (rnH (0,0,1) (0,0,2) (0,0,3) p lim calls s) (gV 1) (rnH (0,0,1) (0,0,2) (0,0,3) p lim calls s):=by
 refine dS hΓ au Try.func72 rfl (by decide) rfl rfl ?_
 have hdl:(ak (s.visits.map aP)).length=s.visits.length:=by rw[bh,List.length_map]
 have hb:decide (lim≤(s.visits.length:Int))=true:=decide_eq_true (by omega)
 repeat' ((conv=>whnf);first|with_reducible refine ic (id:=1) (gV 1) ?_ ?_|with_reducible apply Wx|with_reducible apply W6|apply oi|(apply fi<;>intro h)|refine⟨_,rfl,?_⟩|exact rfl)
 all_goals try exact⟨KP⟩
 ·exact iv (d1:=15) (d2:=16) rfl rfl rfl rfl rfl (by decide) (by decide) (fun _ _=>by kernel_rfl) (fun _ _=>by kernel_rfl) (fun a w u v h=>by simp only[execOp];rw[h];rfl)
 all_goals(exfalso;rw[hdl,h0]at h;simp at h;done)
theorem qo (p:List Ai)(lim k:Int)(calls:List Int)(s:IS)(hl:lim≤1000)(hc:calls.length≤6)(h0:(s.visits.length:Int) < lim):bt Try.prog 72 [.r (.c (.ptr (0,0,0) 0)),tI .i64 k] (rnH (0,0,1) (0,0,2) (0,0,3) p lim calls s) (.tup []) (rnH (0,0,1) (1,0,2) (0,0,3) p lim calls ⟨s.out,s.visits++[calls++[k]]⟩):=by
 refine aq hΓ au Try.func72 rfl (by decide) rfl rfl ?_
 have hdl:(ak (s.visits.map aP)).length=s.visits.length:=by rw[bh,List.length_map]
 have hf:flat ([]++calls.map ab++[[Tr.int .i64 k]]):=by
  have:=da (calls++[k])
  simpa [ab]using this
 repeat' ((conv=>whnf);first|with_reducible refine ic (id:=1) (gV 1) ?_ ?_|with_reducible apply Wx|with_reducible apply W6|apply oi|(apply fi<;>intro h)|refine⟨_,rfl,?_⟩|exact rfl)
 all_goals try exact⟨KP⟩
 all_goals try(exfalso;rw[hdl]at h;simp at h;omega)
 all_goals try exact⟨⟨by simp[bh] <;> omega,by simp[bh] <;> omega⟩⟩
 all_goals try exact⟨hf⟩
 all_goals try exact⟨by simp[ak,aP,ab]⟩
 all_goals exact iv (d1:=15) (d2:=16) rfl rfl rfl rfl rfl (by decide) (by decide) (fun _ _=>by kernel_rfl) (fun _ _=>by kernel_rfl) (fun a w u v h=>by simp only[execOp];rw[h];rfl)
abbrev rnP (i1 i2:Sim.Id)(p:List Ai)(lim:Int)(s:IS):List (Sim.Id×AO):=[((0,0,0),.box [.t (.lst 4 (p.map Ai.tr)),.t (.int .i64 lim),.opq,.own i1,.own i2,.t (.int .i64 0),.t (.int .i64 0),.t (.lst 1 ((dy p p.length).map ab))]),(i1,.arr false 1 (s.out.map ab)),(i2,.dar 1 (ak (s.visits.map aP)) none)]
def kQ (f:FuncId)(xs:List AV)(h0:List (Sim.Id×AO))(H1 HP:IS→List (Sim.Id×AO))(R:Rr Int):Prop:=match R with
 | .ok v s=>bt Try.prog f xs h0 (tI .i64 v) (H1 s)
 | .stop c s=>pO Try.prog f xs h0 (gV c) (HP s)
 | .fuel=>True
def zl (p:List Ai)(lim:Int)(n:Nat):Prop:=∀(calls:List Int) (f:Nat) (args:List Int) (s:IS),(∃y,p[f]?=some y∧y.faa=0)→args.length=argsN p f→InV lim calls s→
 aA p lim n calls f (f+1) (bT (localsOf p (f:Int)).length args) s≠.fuel→
 kQ 34 [.r (.c (.ptr (0,0,0) 0)),tI .i64 (f:Int),.r (.c (.t (.lst 1 (args.map ab))))] (rnH (0,0,1) (0,0,2) (0,0,3) p lim calls s) (rnH (1,0,1) (1,0,2) (1,0,3) p lim calls) (rnP (1,0,1) (1,0,2) p lim) (aA p lim n calls f (f+1) (bT (localsOf p (f:Int)).length args) s)
abbrev yN (es:List (Tr×Int)):List (Sim.Id×AO):=[((0,0,4),.mp none es)]
def yR (p:List Ai)(lim:Int)(n:Nat)(e:Ex):Prop:=∀(calls:List Int) (f en k pos:Nat) (ln:Ai) (vals:List Int) (es:List (Tr×Int)) (s:IS),e.ok→InF p f en k→p[k]?=some ln→gI ln.fac pos e→Known p (localsOf p (f:Int)) ln.fac→vals.length=(localsOf p (f:Int)).length→VarsM (localsOf p (f:Int)) vals es→InV lim calls s→
 cJ p lim n calls f k vals e s≠.fuel→
 kQ 73 [.r (.c (.ptr (0,0,0) 0)),tI .i64 (k:Int),.r (.c (.mpv (0,0,4))),.r (.c (.t (.lst 3 (ln.fac.map Ar.tr)))),tI .i64 (pos:Int)] (rnH (0,0,1) (0,0,2) (0,0,3) p lim calls s++yN es) (fun s'=>rnH (1,0,1) (1,0,2) (1,0,3) p lim calls s'++yN es) (fun s'=>rnP (1,0,1) (1,0,2) p lim s'++yN es) (cJ p lim n calls f k vals e s)
def zn (rvs:List ResultVar)(H1 HP:IS→List (Sim.Id×AO))(R:Rr Int):Out→St→Prop:=match R with
 | .ok v s=>yy Γ rvs (tI .i64 v) (H1 s)
 | .stop c s=>yq (gV c) (HP s)
 | .fuel=>fun _ _=>True
theorem tU {f:FuncId}{fn:Func}{c:Code}{xs:List AV}{h0:List (Sim.Id×AO)}{H1 HP:IS→List (Sim.Id×AO)}{R:Rr Int}(hf:Try.prog.funcs[f]?=some fn)(hb:fn.body=some c)(hn:(fn.name== "runtime.NumGoroutine")=false)
  (hN:Nat.ble xs.length fn.ntmps=true) (hnames:dG xs h0 .unk []=true) (h:Wo false Try.prog Γ fn.ntmps c (zn fn.results.toList H1 HP R) (stG xs h0)):kQ f xs h0 H1 HP R:=by
 cases R with
 | ok v s=>exact aq hΓ au hf hb hn hN hnames h
 | stop c s=>exact dS hΓ au hf hb hn hN hnames h
 | fuel=>trivial
theorem uH {p:List Ai}(hp:PgOk p){lim:Int}{n:Nat}(hP:zl p lim n):∀(m:Nat) (e:Ex),e.toks.length≤m→yR p lim n e
 | 0,e,hn=>by have:=e.toks_pos;omega
 | m+1,.node t es,hn=>by
  intro calls f en k pos ln vals ms s ho hI hk hs hkn hvl hvm hV hnf
  obtain⟨hsh,hnm⟩:=mt hp hk
  have hle:=iR hs
  obtain⟨ht,hsa⟩:=jL hs
  have htm:=List.mem_of_getElem? ht
  obtain⟨e1,e2⟩:=qb ho.1
  have hel:es.length=ar t:=ho.2.1
  have h60:=hp.len
  have h20:=(hp.line _ _ hk).2.2.2.1
  have hkl:=aU hk
  have hO:=mR ln.fac pos t es (by omega) hsh ho hs
  have hpl:((cV (pos+1) es).map nR).length=es.length:=by rw[List.length_map,sa]
  rw[Ex.toks,List.length_cons]at hn hle
  have hlp:=hV.lm
  have hIH:∀(j:Nat) (a:Ex),es[j]?=some a→yR p lim n a:=fun j a ha=>uH hp hP m a (by have:=jQ ha;omega)
  have hL8:(localsOf p (f:Int)).length≤8:=by obtain⟨y,hy,h0⟩:=hI.fn;obtain⟨_,_,h8,_⟩:=hp.fn f y hy h0;exact h8
  obtain⟨L,hL⟩:∃L,localsOf p (f:Int)=L:=⟨_,rfl⟩
  rw[hL]at hL8 hvl hvm
  have hev:cJ p lim n calls f k vals (.node t es) s=(aF p L vals (az p lim n calls k) es s).bnd fun av s'=>cE p L vals (az p lim n calls k) t av s':=by
   show evE _ _ _ _ _ _=_
   rw[evE,hL]
  have hxt:∀j,ExtR lim s (aF p L vals (az p lim n calls k) (es.take j) s):=fun j=>fO (cX n calls k) _ s
  rw[hev]at hnf ⊢
  have hz:aF p L vals (az p lim n calls k) (es.take 0) s= .ok [] s:=by rw[List.take_zero,aF]
  cases hR:aF p L vals (az p lim n calls k) es s with
  | fuel=>rw[hR]at hnf;exact absurd rfl hnf
  | stop c s1=>
   obtain⟨j0,a0,as0,s0,q1,q2,q3⟩:=pj hR
   have hj0:=aU q1
   have hx0:=hxt j0
   rw[q2]at hx0
   have hq3:cJ p lim n calls f k vals a0 s0= .stop c s1:=by show evE _ _ _ _ _ _=_;rw[hL];exact q3
   obtain⟨qp0,hqp0,hqs0⟩:=gu hsa q1
   have g0:=hIH j0 a0 q1 calls f en k qp0 ln vals ms s0 (cq ho.2.2 q1) hI hk hqs0 hkn (by rw[hL];exact hvl) (by rw[hL];exact hvm) (hV.ext hx0) (by rw[hq3];exact fun e=>by cases e)
   rw[hq3]at g0
   rw[Rr.bnd_stop]
   refine dS hΓ au Try.func73 rfl (by decide) rfl rfl ?_
   repeat' ((conv=>whnf);first|apply Wx|apply W6|apply oi|(apply fi<;>intro h)|refine cl hO ?_|refine⟨pos,t.tr,rfl,aa ht,?_⟩|refine⟨_,rfl,?_⟩|exact rfl)
   all_goals try exact⟨KP⟩
   conv=>whnf
   refine⟨{q:Nat×List Int×IS // q.1≤j0∧aF p L vals (az p lim n calls k) (es.take q.1) s= .ok q.2.1 q.2.2},fun q=>⟨[(0,.r (.c (.ptr (0,0,0) 0))),(1,tI .i64 (k:Int)),(2,.r (.c (.mpv (0,0,4)))),(3,.r (.c (.t (.lst 3 (ln.fac.map Ar.tr))))),(11,.r (.c (.ptr (11,0,0) 0))),(12,.r (.c (.own (20,0,0)))),(23,.r (.c (.own (23,0,0)))),(24,tI .i64 (((cV (pos+1) es).map nR).length:Int)),(25,tI .i64 (q.1.1:Int))],
    [((0,0,0),some (rnB p lim (20,0,1) (20,0,2) (20,0,3))),((20,0,1),some (.arr false 1 (q.1.2.2.out.map ab))),((20,0,2),some (.dar 1 (ak (q.1.2.2.visits.map aP)) none)),((20,0,3),some (.arr false 1 (calls.map ab))),((0,0,4),some (.mp none ms)),((11,0,0),some (.box (t.tr.map .t))),((20,0,0),some (.arr true 1 (q.1.2.1.map ab))),((23,0,0),some (.arr true 1 ((cV (pos+1) es).map nR)))],[23,20,11,0]⟩,fun q=>es.length - q.1.1,⟨(0,[],s),Nat.zero_le _,hz⟩,?_,?_⟩
   ·skip
    repeat' ((conv=>whnf);first|apply Wx|apply W6|apply oi|(apply fi<;>intro h)|refine⟨_,rfl,?_⟩|exact rfl)
    all_goals try exact⟨KP⟩
   intro⟨⟨j,aj,sj⟩,hj,hjv⟩
   dsimp only at hj hjv ⊢
   obtain⟨a,ha⟩:=af (l:=es) (k:=j) (by omega)
   obtain⟨qp,hqp,hqs⟩:=gu hsa ha
   have hjl:j < ((cV (pos+1) es).map nR).length:=by omega
   by_cases hlj:j < j0
   ·obtain⟨a2,s2,h2⟩:=dC q2 (j+1)
    rw[List.take_take,Nat.min_eq_left (by omega)]at h2
    obtain⟨v,hv,rfl⟩:=dI hjv ha h2
    have hxj:=hxt j
    rw[hjv]at hxj
    have hva:cJ p lim n calls f k vals a sj= .ok v s2:=by show evE _ _ _ _ _ _=_;rw[hL];exact hv
    have g:=hIH j a ha calls f en k qp ln vals ms sj (cq ho.2.2 ha) hI hk hqs hkn (by rw[hL];exact hvl) (by rw[hL];exact hvm) (hV.ext hxj) (by rw[hva];exact fun e=>by cases e)
    have hal:=cP hjv
    rw[List.length_take]at hal
    rw[hva]at g
    simp only[kQ]at g
    repeat' ((conv=>whnf);first|apply Wx|apply W6|apply oi|(apply fi<;>intro h)|refine⟨j,rfl,hjl,?_⟩|refine⟨(nR qp),(aa hqp),?_⟩|refine⟨_,rfl,?_⟩|exact rfl)
    all_goals try exact⟨KP⟩
    all_goals try exact KX
    refine cg (g) ?_
    repeat' ((conv=>whnf);first|apply Wx|apply W6|apply oi|(apply fi<;>intro h)|refine⟨_,rfl,?_⟩|exact rfl)
    all_goals try exact⟨KP⟩
    all_goals try exact⟨⟨by simp <;> omega,by simp <;> omega⟩⟩
    conv=>whnf
    refine⟨⟨(j+1,aj++[v],s2),by dsimp only;omega,h2⟩,?_,KD⟩
    repeat' ((conv=>whnf);first|apply Wx|apply W6|apply oi|(apply fi<;>intro h)|refine⟨_,rfl,?_⟩|exact rfl)
    all_goals try exact⟨KP⟩
    all_goals try exact⟨KW⟩
    all_goals exact⟨by simp[ab]⟩
   ·obtain rfl:j=j0:=by omega
    rw[hjv]at q2
    injection q2 with q2 q4
    subst q2;subst q4
    rw[hqp]at hqp0
    injection hqp0 with hqp0
    subst hqp0
    repeat' ((conv=>whnf);first|with_reducible refine nh (id:=6) 6 ?_|with_reducible apply Wx|with_reducible apply W6|refine cp g0 ?_|apply oi|(apply fi<;>intro h)|refine⟨j,rfl,hjl,?_⟩|refine⟨(nR qp),(aa hqp),?_⟩|refine⟨_,rfl,?_⟩|exact rfl)
    all_goals try exact⟨KP⟩
    all_goals try exact KX
  | ok av s1=>
   rw[hR,Rr.bnd_ok]at hnf
   rw[Rr.bnd_ok]
   have hxR:=hxt es.length
   rw[List.take_length,hR]at hxR
   have hV1:=hV.ext hxR
   have hav:=cP hR
   obtain⟨ak0,ak7,ak2⟩:=uY ho.1
   rcases pH ho.1 with h0|h1|h7|h2
   ·skip
    have hf:cE p L vals (az p lim n calls k) t av s1= .ok t.fae s1:=by rw[cE,if_pos h0]
    rw[hf]
    simp only[kQ]
    refine aq hΓ au Try.func73 rfl (by decide) rfl rfl ?_
    repeat' ((conv=>whnf);first|apply Wx|apply W6|apply oi|(apply fi<;>intro h)|refine cl hO ?_|refine⟨pos,t.tr,rfl,aa ht,?_⟩|refine⟨_,rfl,?_⟩|exact rfl)
    all_goals try exact⟨KP⟩
    conv=>whnf
    refine⟨{q:Nat×List Int×IS // q.1≤es.length∧aF p L vals (az p lim n calls k) (es.take q.1) s= .ok q.2.1 q.2.2},fun q=>⟨[(0,.r (.c (.ptr (0,0,0) 0))),(1,tI .i64 (k:Int)),(2,.r (.c (.mpv (0,0,4)))),(3,.r (.c (.t (.lst 3 (ln.fac.map Ar.tr))))),(11,.r (.c (.ptr (11,0,0) 0))),(12,.r (.c (.own (20,0,0)))),(23,.r (.c (.own (23,0,0)))),(24,tI .i64 (((cV (pos+1) es).map nR).length:Int)),(25,tI .i64 (q.1.1:Int))],
     [((0,0,0),some (rnB p lim (20,0,1) (20,0,2) (20,0,3))),((20,0,1),some (.arr false 1 (q.1.2.2.out.map ab))),((20,0,2),some (.dar 1 (ak (q.1.2.2.visits.map aP)) none)),((20,0,3),some (.arr false 1 (calls.map ab))),((0,0,4),some (.mp none ms)),((11,0,0),some (.box (t.tr.map .t))),((20,0,0),some (.arr true 1 (q.1.2.1.map ab))),((23,0,0),some (.arr true 1 ((cV (pos+1) es).map nR)))],[23,20,11,0]⟩,fun q=>es.length - q.1.1,⟨(0,[],s),Nat.zero_le _,hz⟩,?_,?_⟩
    ·skip
     repeat' ((conv=>whnf);first|apply Wx|apply W6|apply oi|(apply fi<;>intro h)|refine⟨_,rfl,?_⟩|exact rfl)
     all_goals try exact⟨KP⟩
    intro⟨⟨j,aj,sj⟩,hj,hjv⟩
    dsimp only at hj hjv ⊢
    by_cases hlj:j < es.length
    ·exfalso;omega
    ·obtain rfl:j=es.length:=by omega
     rw[List.take_length,hR]at hjv
     injection hjv with e3 e4
     subst e3;subst e4
     repeat' ((conv=>whnf);first|apply Wx|apply W6|apply oi|(apply fi<;>intro h)|refine⟨_,rfl,?_⟩|exact rfl)
     all_goals try exact⟨KP⟩
     all_goals try exact KX
     all_goals try(exfalso;simp_all;done)
     all_goals try exact⟨KW⟩
   ·skip
    obtain⟨i,hi⟩:=hkn.var t htm h1
    rw[hL]at hi
    have hix:=gd hi
    have hvi:=hvm i t.fab hi
    have hf:cE p L vals (az p lim n calls k) t av s1= .ok (atL vals i) s1:=by rw[cE,if_neg (by omega),if_pos h1,xA,hi]
    rw[hf]
    simp only[kQ]
    refine aq hΓ au Try.func73 rfl (by decide) rfl rfl ?_
    repeat' ((conv=>whnf);first|apply Wx|apply W6|apply oi|(apply fi<;>intro h)|refine cl hO ?_|refine⟨pos,t.tr,rfl,aa ht,?_⟩|refine⟨_,rfl,?_⟩|exact rfl)
    all_goals try exact⟨KP⟩
    conv=>whnf
    refine⟨{q:Nat×List Int×IS // q.1≤es.length∧aF p L vals (az p lim n calls k) (es.take q.1) s= .ok q.2.1 q.2.2},fun q=>⟨[(0,.r (.c (.ptr (0,0,0) 0))),(1,tI .i64 (k:Int)),(2,.r (.c (.mpv (0,0,4)))),(3,.r (.c (.t (.lst 3 (ln.fac.map Ar.tr))))),(11,.r (.c (.ptr (11,0,0) 0))),(12,.r (.c (.own (20,0,0)))),(23,.r (.c (.own (23,0,0)))),(24,tI .i64 (((cV (pos+1) es).map nR).length:Int)),(25,tI .i64 (q.1.1:Int))],
     [((0,0,0),some (rnB p lim (20,0,1) (20,0,2) (20,0,3))),((20,0,1),some (.arr false 1 (q.1.2.2.out.map ab))),((20,0,2),some (.dar 1 (ak (q.1.2.2.visits.map aP)) none)),((20,0,3),some (.arr false 1 (calls.map ab))),((0,0,4),some (.mp none ms)),((11,0,0),some (.box (t.tr.map .t))),((20,0,0),some (.arr true 1 (q.1.2.1.map ab))),((23,0,0),some (.arr true 1 ((cV (pos+1) es).map nR)))],[23,20,11,0]⟩,fun q=>es.length - q.1.1,⟨(0,[],s),Nat.zero_le _,hz⟩,?_,?_⟩
    ·skip
     repeat' ((conv=>whnf);first|apply Wx|apply W6|apply oi|(apply fi<;>intro h)|refine⟨_,rfl,?_⟩|exact rfl)
     all_goals try exact⟨KP⟩
    intro⟨⟨j,aj,sj⟩,hj,hjv⟩
    dsimp only at hj hjv ⊢
    by_cases hlj:j < es.length
    ·exfalso;omega
    ·obtain rfl:j=es.length:=by omega
     rw[List.take_length,hR]at hjv
     injection hjv with e3 e4
     subst e3;subst e4
     repeat' ((conv=>whnf);first|apply Wx|apply W6|apply oi|(apply fi<;>intro h)|refine⟨_,rfl,?_⟩|exact rfl)
     all_goals try exact⟨KP⟩
     all_goals try exact KX
     all_goals try(exfalso;simp_all;done)
     all_goals try exact⟨congrArg (Tr.int _) hvi⟩
     all_goals try exact⟨KW⟩
   ·skip
    obtain⟨g,hg1,hg2⟩:=hkn.call t htm h7
    have hFF:=cL p t.fab (by omega)
    rw[show cA p t.fab=(g:Int) by rw[cA,hg1];rfl]at hFF
    obtain⟨hgl,y,hy,hy0,_⟩:=dF hg1
    have hf:cE p L vals (az p lim n calls k) t av s1=az p lim n calls k g av s1:=by rw[cE,if_neg (by omega),if_neg (by omega),if_pos h7,hg1];rfl
    rw[hf]at hnf ⊢
    have hcl:(calls.map ab).length=calls.length:=by simp
    by_cases h6:calls.length=6
    ·skip
     have hc6:az p lim n calls k g av s1= .stop 2 s1:=by rw[az,if_pos h6]
     rw[hc6]
     refine dS hΓ au Try.func73 rfl (by decide) rfl rfl ?_
     repeat' ((conv=>whnf);first|apply Wx|apply W6|apply oi|(apply fi<;>intro h)|refine cl hO ?_|refine⟨pos,t.tr,rfl,aa ht,?_⟩|refine⟨_,rfl,?_⟩|exact rfl)
     all_goals try exact⟨KP⟩
     conv=>whnf
     refine⟨{q:Nat×List Int×IS // q.1≤es.length∧aF p L vals (az p lim n calls k) (es.take q.1) s= .ok q.2.1 q.2.2},fun q=>⟨[(0,.r (.c (.ptr (0,0,0) 0))),(1,tI .i64 (k:Int)),(2,.r (.c (.mpv (0,0,4)))),(3,.r (.c (.t (.lst 3 (ln.fac.map Ar.tr))))),(11,.r (.c (.ptr (11,0,0) 0))),(12,.r (.c (.own (20,0,0)))),(23,.r (.c (.own (23,0,0)))),(24,tI .i64 (((cV (pos+1) es).map nR).length:Int)),(25,tI .i64 (q.1.1:Int))],
      [((0,0,0),some (rnB p lim (20,0,1) (20,0,2) (20,0,3))),((20,0,1),some (.arr false 1 (q.1.2.2.out.map ab))),((20,0,2),some (.dar 1 (ak (q.1.2.2.visits.map aP)) none)),((20,0,3),some (.arr false 1 (calls.map ab))),((0,0,4),some (.mp none ms)),((11,0,0),some (.box (t.tr.map .t))),((20,0,0),some (.arr true 1 (q.1.2.1.map ab))),((23,0,0),some (.arr true 1 ((cV (pos+1) es).map nR)))],[23,20,11,0]⟩,fun q=>es.length - q.1.1,⟨(0,[],s),Nat.zero_le _,hz⟩,?_,?_⟩
     ·skip
      repeat' ((conv=>whnf);first|apply Wx|apply W6|apply oi|(apply fi<;>intro h)|refine⟨_,rfl,?_⟩|exact rfl)
      all_goals try exact⟨KP⟩
     intro⟨⟨j,aj,sj⟩,hj,hjv⟩
     dsimp only at hj hjv ⊢
     by_cases hlj:j < es.length
     ·obtain⟨a,ha⟩:=af hlj
      obtain⟨qp,hqp,hqs⟩:=gu hsa ha
      have hjl:j < ((cV (pos+1) es).map nR).length:=by omega
      obtain⟨a2,s2,h2⟩:=dC hR (j+1)
      obtain⟨v,hv,rfl⟩:=dI hjv ha h2
      have hxj:=hxt j
      rw[hjv]at hxj
      have hva:cJ p lim n calls f k vals a sj= .ok v s2:=by show evE _ _ _ _ _ _=_;rw[hL];exact hv
      have g:=hIH j a ha calls f en k qp ln vals ms sj (cq ho.2.2 ha) hI hk hqs hkn (by rw[hL];exact hvl) (by rw[hL];exact hvm) (hV.ext hxj) (by rw[hva];exact fun e=>by cases e)
      have hal:=cP hjv
      rw[List.length_take]at hal
      rw[hva]at g
      simp only[kQ]at g
      repeat' ((conv=>whnf);first|apply Wx|apply W6|apply oi|(apply fi<;>intro h)|refine⟨j,rfl,hjl,?_⟩|refine⟨(nR qp),(aa hqp),?_⟩|refine⟨_,rfl,?_⟩|exact rfl)
      all_goals try exact⟨KP⟩
      all_goals try exact KX
      refine cg (g) ?_
      repeat' ((conv=>whnf);first|apply Wx|apply W6|apply oi|(apply fi<;>intro h)|refine⟨_,rfl,?_⟩|exact rfl)
      all_goals try exact⟨KP⟩
      all_goals try exact⟨⟨by simp <;> omega,by simp <;> omega⟩⟩
      conv=>whnf
      refine⟨⟨(j+1,aj++[v],s2),by dsimp only;omega,h2⟩,?_,KD⟩
      repeat' ((conv=>whnf);first|apply Wx|apply W6|apply oi|(apply fi<;>intro h)|refine⟨_,rfl,?_⟩|exact rfl)
      all_goals try exact⟨KP⟩
      all_goals try exact⟨KW⟩
      all_goals exact⟨by simp[ab]⟩
     ·obtain rfl:j=es.length:=by omega
      rw[List.take_length,hR]at hjv
      injection hjv with e3 e4
      subst e3;subst e4
      repeat' ((conv=>whnf);first|with_reducible refine ic (id:=15) (gV 2) ?_ ?_|with_reducible apply Wx|with_reducible apply W6|apply oi|(apply fi<;>intro h)|refine⟨_,rfl,?_⟩|exact rfl)
      all_goals try exact⟨KP⟩
      all_goals try exact KX
      all_goals try(exfalso;rw[hcl]at h;simp at h;omega)
      all_goals try(exfalso;simp_all;done)
      all_goals try exact iv (d1:=59) (d2:=60) rfl rfl rfl rfl rfl (by decide) (by decide) (fun _ _=>by kernel_rfl) (fun _ _=>by kernel_rfl) (fun a w u v h=>by simp only[execOp];rw[h];rfl)
    ·have hc6:az p lim n calls k g av s1=aA p lim n (calls++[(k:Int)]) g (g+1) (bT (localsOf p (g:Int)).length av) s1:=by rw[az,if_neg h6]
     rw[hc6]at hnf ⊢
     have hcalls:=hV1.calls
     have gp:=hP (calls++[(k:Int)]) g av s1 ⟨y,hy,hy0⟩ (by have:=ak7 h7;omega) ⟨hV1.lm,hV1.vis,hV1.out,by rw[List.length_append];simp;omega⟩ hnf
     have ec:(calls++[(k:Int)]).map ab=calls.map ab++[[.int .i64 (k:Int)]]:=by simp[ab]
     generalize aA p lim n (calls++[(k:Int)]) g (g+1) (bT (localsOf p (g:Int)).length av) s1=R at *
     match R,hnf,gp with
     | .fuel,hnf,_=>exact absurd rfl hnf
     | .stop c s2,_,gp=>
      simp only[rnH]at gp
      rw[ec]at gp
      refine dS hΓ au Try.func73 rfl (by decide) rfl rfl ?_
      repeat' ((conv=>whnf);first|apply Wx|apply W6|apply oi|(apply fi<;>intro h)|refine cl hO ?_|refine⟨pos,t.tr,rfl,aa ht,?_⟩|refine⟨_,rfl,?_⟩|exact rfl)
      all_goals try exact⟨KP⟩
      conv=>whnf
      refine⟨{q:Nat×List Int×IS // q.1≤es.length∧aF p L vals (az p lim n calls k) (es.take q.1) s= .ok q.2.1 q.2.2},fun q=>⟨[(0,.r (.c (.ptr (0,0,0) 0))),(1,tI .i64 (k:Int)),(2,.r (.c (.mpv (0,0,4)))),(3,.r (.c (.t (.lst 3 (ln.fac.map Ar.tr))))),(11,.r (.c (.ptr (11,0,0) 0))),(12,.r (.c (.own (20,0,0)))),(23,.r (.c (.own (23,0,0)))),(24,tI .i64 (((cV (pos+1) es).map nR).length:Int)),(25,tI .i64 (q.1.1:Int))],
       [((0,0,0),some (rnB p lim (20,0,1) (20,0,2) (20,0,3))),((20,0,1),some (.arr false 1 (q.1.2.2.out.map ab))),((20,0,2),some (.dar 1 (ak (q.1.2.2.visits.map aP)) none)),((20,0,3),some (.arr false 1 (calls.map ab))),((0,0,4),some (.mp none ms)),((11,0,0),some (.box (t.tr.map .t))),((20,0,0),some (.arr true 1 (q.1.2.1.map ab))),((23,0,0),some (.arr true 1 ((cV (pos+1) es).map nR)))],[23,20,11,0]⟩,fun q=>es.length - q.1.1,⟨(0,[],s),Nat.zero_le _,hz⟩,?_,?_⟩
      ·skip
       repeat' ((conv=>whnf);first|apply Wx|apply W6|apply oi|(apply fi<;>intro h)|refine⟨_,rfl,?_⟩|exact rfl)
       all_goals try exact⟨KP⟩
      intro⟨⟨j,aj,sj⟩,hj,hjv⟩
      dsimp only at hj hjv ⊢
      by_cases hlj:j < es.length
      ·obtain⟨a,ha⟩:=af hlj
       obtain⟨qp,hqp,hqs⟩:=gu hsa ha
       have hjl:j < ((cV (pos+1) es).map nR).length:=by omega
       obtain⟨a2,s2,h2⟩:=dC hR (j+1)
       obtain⟨v,hv,rfl⟩:=dI hjv ha h2
       have hxj:=hxt j
       rw[hjv]at hxj
       have hva:cJ p lim n calls f k vals a sj= .ok v s2:=by show evE _ _ _ _ _ _=_;rw[hL];exact hv
       have g:=hIH j a ha calls f en k qp ln vals ms sj (cq ho.2.2 ha) hI hk hqs hkn (by rw[hL];exact hvl) (by rw[hL];exact hvm) (hV.ext hxj) (by rw[hva];exact fun e=>by cases e)
       have hal:=cP hjv
       rw[List.length_take]at hal
       rw[hva]at g
       simp only[kQ]at g
       repeat' ((conv=>whnf);first|apply Wx|apply W6|apply oi|(apply fi<;>intro h)|refine⟨j,rfl,hjl,?_⟩|refine⟨(nR qp),(aa hqp),?_⟩|refine⟨_,rfl,?_⟩|exact rfl)
       all_goals try exact⟨KP⟩
       all_goals try exact KX
       refine cg (g) ?_
       repeat' ((conv=>whnf);first|apply Wx|apply W6|apply oi|(apply fi<;>intro h)|refine⟨_,rfl,?_⟩|exact rfl)
       all_goals try exact⟨KP⟩
       all_goals try exact⟨⟨by simp <;> omega,by simp <;> omega⟩⟩
       conv=>whnf
       refine⟨⟨(j+1,aj++[v],s2),by dsimp only;omega,h2⟩,?_,KD⟩
       repeat' ((conv=>whnf);first|apply Wx|apply W6|apply oi|(apply fi<;>intro h)|refine⟨_,rfl,?_⟩|exact rfl)
       all_goals try exact⟨KP⟩
       all_goals try exact⟨KW⟩
       all_goals exact⟨by simp[ab]⟩
      ·obtain rfl:j=es.length:=by omega
       rw[List.take_length,hR]at hjv
       injection hjv with e3 e4
       subst e3;subst e4
       repeat' ((conv=>whnf);first|with_reducible refine ic (id:=15) (gV 2) ?_ ?_|(with_reducible apply W1;fail_if_success (with_reducible show Wo _ _ _ _ (Code.region 17 _ _) _ _))|(with_reducible first|apply W2|apply W3|apply W4|apply W5|apply W6|apply W7|apply W8|apply W9)|apply bB|apply oi|(apply fi<;>intro h)|refine⟨_,rfl,?_⟩|exact rfl)
       all_goals try exact⟨KP⟩
       all_goals try exact KX
       all_goals try(exfalso;rw[hcl]at h;simp at h;omega)
       all_goals try(exfalso;simp_all;done)
       all_goals try exact⟨⟨by simp <;> omega,by simp <;> omega⟩⟩
       all_goals try exact⟨da _⟩
       all_goals try exact iv (d1:=59) (d2:=60) rfl rfl rfl rfl rfl (by decide) (by decide) (fun _ _=>by kernel_rfl) (fun _ _=>by kernel_rfl) (fun a w u v h=>by simp only[execOp];rw[h];rfl)
       conv=>whnf
       refine eI ⟨[(0,.r (.c (.ptr (0,0,0) 0))),(11,.r (.c (.ptr (11,0,0) 0))),(12,.r (.c (.t (.lst 1 (av.map ab)))))],
        [((0,0,0),some (rnB p lim (20,0,1) (20,0,2) (68,0,0))),((68,0,0),some (.arr false 1 (calls.map ab++[[.int .i64 (k:Int)]]))),((20,0,1),some (.arr false 1 (s1.out.map ab))),((20,0,2),some (.dar 1 (ak (s1.visits.map aP)) none)),((0,0,4),some (.mp none ms)),((11,0,0),some (.box (t.tr.map .t)))],_⟩ ?_ ?_ rfl ?_
       ·refine⟨.inl rfl,.inl rfl,.inr ⟨_,_,rfl,rfl,rfl,?_⟩,trivial⟩
        intro q hq;simp only[AC.ids,List.mem_cons,List.not_mem_nil,or_false]at hq;subst hq;rfl
       ·exact⟨.inr rfl,.inr rfl,.inr rfl,.inr rfl,.inr rfl,.inr rfl,trivial⟩
       repeat' ((conv=>whnf);first|with_reducible refine wU (id:=17) 9 ?_ ?_|((with_reducible show uS _ _=true);kernel_rfl)|with_reducible apply Wx|with_reducible apply W6|refine cp gp ?_|apply oi|(apply fi<;>intro h)|refine cl hFF ?_|refine⟨_,rfl,?_⟩|exact rfl)
       all_goals try exact⟨KP⟩
     | .ok v s2,_,gp=>
      simp only[kQ]at gp ⊢
      simp only[rnH]at gp
      rw[ec]at gp
      refine aq hΓ au Try.func73 rfl (by decide) rfl rfl ?_
      repeat' ((conv=>whnf);first|apply Wx|apply W6|apply oi|(apply fi<;>intro h)|refine cl hO ?_|refine⟨pos,t.tr,rfl,aa ht,?_⟩|refine⟨_,rfl,?_⟩|exact rfl)
      all_goals try exact⟨KP⟩
      conv=>whnf
      refine⟨{q:Nat×List Int×IS // q.1≤es.length∧aF p L vals (az p lim n calls k) (es.take q.1) s= .ok q.2.1 q.2.2},fun q=>⟨[(0,.r (.c (.ptr (0,0,0) 0))),(1,tI .i64 (k:Int)),(2,.r (.c (.mpv (0,0,4)))),(3,.r (.c (.t (.lst 3 (ln.fac.map Ar.tr))))),(11,.r (.c (.ptr (11,0,0) 0))),(12,.r (.c (.own (20,0,0)))),(23,.r (.c (.own (23,0,0)))),(24,tI .i64 (((cV (pos+1) es).map nR).length:Int)),(25,tI .i64 (q.1.1:Int))],
       [((0,0,0),some (rnB p lim (20,0,1) (20,0,2) (20,0,3))),((20,0,1),some (.arr false 1 (q.1.2.2.out.map ab))),((20,0,2),some (.dar 1 (ak (q.1.2.2.visits.map aP)) none)),((20,0,3),some (.arr false 1 (calls.map ab))),((0,0,4),some (.mp none ms)),((11,0,0),some (.box (t.tr.map .t))),((20,0,0),some (.arr true 1 (q.1.2.1.map ab))),((23,0,0),some (.arr true 1 ((cV (pos+1) es).map nR)))],[23,20,11,0]⟩,fun q=>es.length - q.1.1,⟨(0,[],s),Nat.zero_le _,hz⟩,?_,?_⟩
      ·skip
       repeat' ((conv=>whnf);first|apply Wx|apply W6|apply oi|(apply fi<;>intro h)|refine⟨_,rfl,?_⟩|exact rfl)
       all_goals try exact⟨KP⟩
      intro⟨⟨j,aj,sj⟩,hj,hjv⟩
      dsimp only at hj hjv ⊢
      by_cases hlj:j < es.length
      ·obtain⟨a,ha⟩:=af hlj
       obtain⟨qp,hqp,hqs⟩:=gu hsa ha
       have hjl:j < ((cV (pos+1) es).map nR).length:=by omega
       obtain⟨a2,s2,h2⟩:=dC hR (j+1)
       obtain⟨v,hv,rfl⟩:=dI hjv ha h2
       have hxj:=hxt j
       rw[hjv]at hxj
       have hva:cJ p lim n calls f k vals a sj= .ok v s2:=by show evE _ _ _ _ _ _=_;rw[hL];exact hv
       have g:=hIH j a ha calls f en k qp ln vals ms sj (cq ho.2.2 ha) hI hk hqs hkn (by rw[hL];exact hvl) (by rw[hL];exact hvm) (hV.ext hxj) (by rw[hva];exact fun e=>by cases e)
       have hal:=cP hjv
       rw[List.length_take]at hal
       rw[hva]at g
       simp only[kQ]at g
       repeat' ((conv=>whnf);first|apply Wx|apply W6|apply oi|(apply fi<;>intro h)|refine⟨j,rfl,hjl,?_⟩|refine⟨(nR qp),(aa hqp),?_⟩|refine⟨_,rfl,?_⟩|exact rfl)
       all_goals try exact⟨KP⟩
       all_goals try exact KX
       refine cg (g) ?_
       repeat' ((conv=>whnf);first|apply Wx|apply W6|apply oi|(apply fi<;>intro h)|refine⟨_,rfl,?_⟩|exact rfl)
       all_goals try exact⟨KP⟩
       all_goals try exact⟨⟨by simp <;> omega,by simp <;> omega⟩⟩
       conv=>whnf
       refine⟨⟨(j+1,aj++[v],s2),by dsimp only;omega,h2⟩,?_,KD⟩
       repeat' ((conv=>whnf);first|apply Wx|apply W6|apply oi|(apply fi<;>intro h)|refine⟨_,rfl,?_⟩|exact rfl)
       all_goals try exact⟨KP⟩
       all_goals try exact⟨KW⟩
       all_goals exact⟨by simp[ab]⟩
      ·obtain rfl:j=es.length:=by omega
       rw[List.take_length,hR]at hjv
       injection hjv with e3 e4
       subst e3;subst e4
       repeat' ((conv=>whnf);first|with_reducible refine ic (id:=15) (gV 2) ?_ ?_|(with_reducible apply W1;fail_if_success (with_reducible show Wo _ _ _ _ (Code.region 17 _ _) _ _))|(with_reducible first|apply W2|apply W3|apply W4|apply W5|apply W6|apply W7|apply W8|apply W9)|apply bB|apply oi|(apply fi<;>intro h)|refine⟨_,rfl,?_⟩|exact rfl)
       all_goals try exact⟨KP⟩
       all_goals try exact KX
       all_goals try(exfalso;rw[hcl]at h;simp at h;omega)
       all_goals try(exfalso;simp_all;done)
       all_goals try exact⟨⟨by simp <;> omega,by simp <;> omega⟩⟩
       all_goals try exact⟨da _⟩
       all_goals try exact iv (d1:=59) (d2:=60) rfl rfl rfl rfl rfl (by decide) (by decide) (fun _ _=>by kernel_rfl) (fun _ _=>by kernel_rfl) (fun a w u v h=>by simp only[execOp];rw[h];rfl)
       conv=>whnf
       refine eI ⟨[(0,.r (.c (.ptr (0,0,0) 0))),(11,.r (.c (.ptr (11,0,0) 0))),(12,.r (.c (.t (.lst 1 (av.map ab)))))],
        [((0,0,0),some (rnB p lim (20,0,1) (20,0,2) (68,0,0))),((68,0,0),some (.arr false 1 (calls.map ab++[[.int .i64 (k:Int)]]))),((20,0,1),some (.arr false 1 (s1.out.map ab))),((20,0,2),some (.dar 1 (ak (s1.visits.map aP)) none)),((0,0,4),some (.mp none ms)),((11,0,0),some (.box (t.tr.map .t)))],_⟩ ?_ ?_ rfl ?_
       ·refine⟨.inl rfl,.inl rfl,.inr ⟨_,_,rfl,rfl,rfl,?_⟩,trivial⟩
        intro q hq;simp only[AC.ids,List.mem_cons,List.not_mem_nil,or_false]at hq;subst hq;rfl
       ·exact⟨.inr rfl,.inr rfl,.inr rfl,.inr rfl,.inr rfl,.inr rfl,trivial⟩
       have htk2:(calls.map ab++[[Tr.int .i64 (k:Int)]]).length=calls.length+1:=by simp
       have hw2:IntKind.i64.wrap (((calls.map ab++[[Tr.int .i64 (k:Int)]]).length:Int) - 1)=(calls.length:Int):=by rw[htk2,IntWalk.i64_in _ (by omega)];omega
       have htk3:calls.length≤(calls.map ab++[[Tr.int .i64 (k:Int)]]).length:=by omega
       have htk4:(calls.map ab++[[Tr.int .i64 (k:Int)]]).take calls.length=calls.map ab:=by rw[List.take_append_of_le_length (by simp),List.take_of_length_le (by simp)]
       repeat' ((conv=>whnf);first|apply Wx|apply W6|apply oi|(apply fi<;>intro h)|refine cl hFF ?_|refine⟨_,rfl,?_⟩|exact rfl)
       all_goals try exact⟨KP⟩
       refine cg (gp) ?_
       repeat' ((conv=>whnf);first|apply Wx|apply W6|apply oi|(apply fi<;>intro h)|refine⟨calls.length,hw2,htk3,?_⟩|refine⟨_,rfl,?_⟩|exact rfl)
       all_goals try exact⟨KP⟩
       all_goals try exact⟨KW⟩
       all_goals try exact⟨htk4⟩
       all_goals exact⟨htk3⟩
   ·skip
    have hf2:=ak2 h2.1 h2.2
    obtain⟨x,y,rfl⟩:∃x y,av=[x,y]:=by
     match av,hav with
     | [x,y],_=>exact⟨x,y,rfl⟩
     | [],h=>simp at h;omega
     | [_],h=>simp at h;omega
     | _::_::_::_,h=>simp at h;omega
    have hAp:=qN t.faa x y
    have hf:cE p L vals (az p lim n calls k) t [x,y] s1= .ok (gY t.faa x y) s1:=by rw[cE,if_neg (by omega),if_neg (by omega),if_neg (by omega)];rfl
    rw[hf]
    simp only[kQ]
    refine aq hΓ au Try.func73 rfl (by decide) rfl rfl ?_
    repeat' ((conv=>whnf);first|apply Wx|apply W6|apply oi|(apply fi<;>intro h)|refine cl hO ?_|refine⟨pos,t.tr,rfl,aa ht,?_⟩|refine⟨_,rfl,?_⟩|exact rfl)
    all_goals try exact⟨KP⟩
    conv=>whnf
    refine⟨{q:Nat×List Int×IS // q.1≤es.length∧aF p L vals (az p lim n calls k) (es.take q.1) s= .ok q.2.1 q.2.2},fun q=>⟨[(0,.r (.c (.ptr (0,0,0) 0))),(1,tI .i64 (k:Int)),(2,.r (.c (.mpv (0,0,4)))),(3,.r (.c (.t (.lst 3 (ln.fac.map Ar.tr))))),(11,.r (.c (.ptr (11,0,0) 0))),(12,.r (.c (.own (20,0,0)))),(23,.r (.c (.own (23,0,0)))),(24,tI .i64 (((cV (pos+1) es).map nR).length:Int)),(25,tI .i64 (q.1.1:Int))],
     [((0,0,0),some (rnB p lim (20,0,1) (20,0,2) (20,0,3))),((20,0,1),some (.arr false 1 (q.1.2.2.out.map ab))),((20,0,2),some (.dar 1 (ak (q.1.2.2.visits.map aP)) none)),((20,0,3),some (.arr false 1 (calls.map ab))),((0,0,4),some (.mp none ms)),((11,0,0),some (.box (t.tr.map .t))),((20,0,0),some (.arr true 1 (q.1.2.1.map ab))),((23,0,0),some (.arr true 1 ((cV (pos+1) es).map nR)))],[23,20,11,0]⟩,fun q=>es.length - q.1.1,⟨(0,[],s),Nat.zero_le _,hz⟩,?_,?_⟩
    ·skip
     repeat' ((conv=>whnf);first|apply Wx|apply W6|apply oi|(apply fi<;>intro h)|refine⟨_,rfl,?_⟩|exact rfl)
     all_goals try exact⟨KP⟩
    intro⟨⟨j,aj,sj⟩,hj,hjv⟩
    dsimp only at hj hjv ⊢
    by_cases hlj:j < es.length
    ·obtain⟨a,ha⟩:=af hlj
     obtain⟨qp,hqp,hqs⟩:=gu hsa ha
     have hjl:j < ((cV (pos+1) es).map nR).length:=by omega
     obtain⟨a2,s2,h2⟩:=dC hR (j+1)
     obtain⟨v,hv,rfl⟩:=dI hjv ha h2
     have hxj:=hxt j
     rw[hjv]at hxj
     have hva:cJ p lim n calls f k vals a sj= .ok v s2:=by show evE _ _ _ _ _ _=_;rw[hL];exact hv
     have g:=hIH j a ha calls f en k qp ln vals ms sj (cq ho.2.2 ha) hI hk hqs hkn (by rw[hL];exact hvl) (by rw[hL];exact hvm) (hV.ext hxj) (by rw[hva];exact fun e=>by cases e)
     have hal:=cP hjv
     rw[List.length_take]at hal
     rw[hva]at g
     simp only[kQ]at g
     repeat' ((conv=>whnf);first|apply Wx|apply W6|apply oi|(apply fi<;>intro h)|refine⟨j,rfl,hjl,?_⟩|refine⟨(nR qp),(aa hqp),?_⟩|refine⟨_,rfl,?_⟩|exact rfl)
     all_goals try exact⟨KP⟩
     all_goals try exact KX
     refine cg (g) ?_
     repeat' ((conv=>whnf);first|apply Wx|apply W6|apply oi|(apply fi<;>intro h)|refine⟨_,rfl,?_⟩|exact rfl)
     all_goals try exact⟨KP⟩
     all_goals try exact⟨⟨by simp <;> omega,by simp <;> omega⟩⟩
     conv=>whnf
     refine⟨⟨(j+1,aj++[v],s2),by dsimp only;omega,h2⟩,?_,KD⟩
     repeat' ((conv=>whnf);first|apply Wx|apply W6|apply oi|(apply fi<;>intro h)|refine⟨_,rfl,?_⟩|exact rfl)
     all_goals try exact⟨KP⟩
     all_goals try exact⟨KW⟩
     all_goals exact⟨by simp[ab]⟩
    ·obtain rfl:j=es.length:=by omega
     rw[List.take_length,hR]at hjv
     injection hjv with e3 e4
     subst e3;subst e4
     repeat' ((conv=>whnf);first|apply Wx|apply W6|apply oi|(apply fi<;>intro h)|refine cl hAp ?_|refine⟨0,rfl,(by simp),?_⟩|refine⟨1,rfl,(by simp),?_⟩|refine⟨_,rfl,?_⟩|exact rfl)
     all_goals try exact⟨KP⟩
     all_goals try exact KX
     all_goals try(exfalso;simp_all;done)
     all_goals try exact⟨KW⟩
end Go.Proofs.Ytjmplnfiabmalaa
